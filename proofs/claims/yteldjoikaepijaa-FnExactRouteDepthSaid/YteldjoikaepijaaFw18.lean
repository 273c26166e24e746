/- Regions that draw their order: every order does the same. -/
import Derived.Test.YteldjoikaepijaaFw17
namespace Go.Fw
open Go

theorem getD_eq {α : Type} {l : List α} {i : Nat} {d x : α} (h : l[i]? = some x) : l.getD i d = x := by simp [List.getD, h]

theorem chkOrd_get {P : Program} {N : Nat} {os : Array Oper} : ∀ (ord : List Nat) (ops : List COp), chkOrd P N os ord ops = true →
    ord.length = ops.length ∧ ∀ i c, ops[i]? = some c → ∃ o, os[ord.getD i 0]? = some o ∧ chkOp P N os c o = true
  | [], [], _ => by simp
  | [], _ :: _, h | _ :: _, [], h => by simp [chkOrd] at h
  | j :: ord, c :: ops, h => by
    simp only [chkOrd, Bool.and_eq_true] at h
    obtain ⟨h1, h2⟩ := h
    obtain ⟨g1, g2⟩ := chkOrd_get ord ops h2
    refine ⟨by simp [g1], fun i c' hi => ?_⟩
    cases i with
    | zero =>
      simp only [List.getElem?_cons_zero, Option.some.injEq] at hi
      subst hi
      simp only [List.getD_cons_zero]
      split at h1
      · rename_i o ho; exact ⟨o, ho, h1⟩
      · cases h1
    | succ i => simpa using g2 i c' (by simpa using hi)

theorem nodupB_inj : ∀ (l : List Nat), nodupB l = true → ∀ i j, i < l.length → j < l.length → l.getD i 0 = l.getD j 0 → i = j
  | [], _ => by simp
  | x :: l, h => by
    simp only [nodupB, Bool.and_eq_true, Bool.not_eq_true', List.contains_eq_mem, decide_eq_false_iff_not] at h
    intro i j hi hj e
    cases i with
    | zero =>
      cases j with
      | zero => rfl
      | succ j =>
        simp only [List.getD_cons_zero, List.getD_cons_succ] at e
        refine absurd ?_ h.1
        simp only [List.length_cons, Nat.add_lt_add_iff_right] at hj
        rw [e, List.getD_eq_getElem?_getD, List.getElem?_eq_getElem hj]; simp
    | succ i =>
      simp only [List.length_cons, Nat.add_lt_add_iff_right] at hi
      cases j with
      | zero =>
        simp only [List.getD_cons_zero, List.getD_cons_succ] at e
        refine absurd ?_ h.1
        rw [← e, List.getD_eq_getElem?_getD, List.getElem?_eq_getElem hi]; simp
      | succ j =>
        simp only [List.length_cons, Nat.add_lt_add_iff_right] at hj
        simp only [List.getD_cons_succ] at e
        rw [nodupB_inj l h.2 i j hi hj e]

/-- What a drawn region's check gives. -/
structure DOk (P : Program) (N : Nat) (os : Array Oper) (ord anc cls : List Nat) (ops : List COp) : Prop where
  len : ord.length = ops.length
  size : ord.length = os.size
  clen : cls.length = ops.length
  op : ∀ i c, ops[i]? = some c → ∃ o, os[ord.getD i 0]? = some o ∧ chkOp P N os c o = true
  inj : ∀ i j, i < ops.length → j < ops.length → ord.getD i 0 = ord.getD j 0 → i = j
  all : ∀ i, i < os.size → ∃ p, p < ops.length ∧ ord.getD p 0 = i
  wf : wfD ops = true
  edge : ∀ i e, i < ops.length → e ∈ bindsTo os (ord.getD i 0) → ∃ q, q < i ∧ ord.getD q 0 = e
  ancs : ∀ i j, i < ops.length → j < i → (anc.getD i 0).testBit j = true → ∃ e, e ∈ bindsTo os (ord.getD i 0) ∧ (ord.getD j 0 = e ∨ ∃ q, q < i ∧ j < q ∧ ord.getD q 0 = e ∧ (anc.getD q 0).testBit j = true)
  read : ∀ (i : Nat) c t (j : Nat) c', ops[i]? = some c → t ∈ slots c → ops[j]? = some c' → c'.d = some t → j < i ∧ (anc.getD i 0).testBit j = true
  clss : ∀ i j, i < ops.length → j < i → (2 ≤ cls.getD j 0 ∧ 1 ≤ cls.getD i 0) ∨ (1 ≤ cls.getD j 0 ∧ 2 ≤ cls.getD i 0) → (anc.getD i 0).testBit j = true

theorem chkD_ok {P : Program} {N : Nat} {os : Array Oper} {ord anc cls : List Nat} {ops : List COp} (h : chkD P N os ord anc cls ops = true) : DOk P N os ord anc cls ops := by
  unfold chkD at h
  simp only [Bool.and_eq_true] at h
  obtain ⟨⟨⟨⟨⟨⟨⟨⟨h1, h0⟩, h2⟩, h3⟩, h4⟩, h5⟩, h6⟩, h7⟩, h8⟩ := h
  obtain ⟨g1, g2⟩ := chkOrd_get ord ops h1
  obtain ⟨h01, h02⟩ := of_decide_eq_true h0
  refine ⟨g1, h01, h02, g2, fun i j hi hj => nodupB_inj ord h2 i j (by omega) (by omega), fun i hi => ?_, h4, fun i e hi he => ?_, fun i j hi hj hb => ?_, fun i c t j c' hi ht hj hd => ?_, fun i j hi hj hc => ?_⟩
  · have := List.all_eq_true.1 h3 i (List.mem_range.2 hi)
    simp only [List.contains_eq_mem, decide_eq_true_eq] at this
    obtain ⟨p, hp, e⟩ := List.getElem_of_mem this
    exact ⟨p, by omega, by rw [List.getD_eq_getElem?_getD, List.getElem?_eq_getElem hp]; simpa using e⟩
  · unfold chkEdges at h5
    have := List.all_eq_true.1 (List.all_eq_true.1 h5 i (List.mem_range.2 (by omega))) e he
    simp only [List.contains_eq_mem, decide_eq_true_eq] at this
    obtain ⟨q, hq, e⟩ := List.getElem_of_mem this
    have hq' := hq
    simp only [List.length_take] at hq'
    refine ⟨q, by omega, ?_⟩
    rw [List.getElem_take] at e
    rw [List.getD_eq_getElem?_getD, List.getElem?_eq_getElem (by omega)]; simpa using e
  · unfold chkAnc at h6
    have := List.all_eq_true.1 (List.all_eq_true.1 h6 i (List.mem_range.2 (by omega))) j (List.mem_range.2 hj)
    simp only [hb, Bool.not_true, Bool.false_or, List.any_eq_true, Bool.or_eq_true, beq_iff_eq, Bool.and_eq_true, List.mem_range, decide_eq_true_eq] at this
    obtain ⟨e, he, h⟩ := this
    exact ⟨e, he, h.imp id fun ⟨q, hq, ⟨h1, h2⟩, h3⟩ => ⟨q, hq, h1, h2, h3⟩⟩
  · unfold chkRead at h7
    have := List.all_eq_true.1 h7 i (List.mem_range.2 (List.getElem?_eq_some_iff.1 hi).1)
    rw [hi] at this
    have := List.all_eq_true.1 (List.all_eq_true.1 this t ht) j (List.mem_range.2 (List.getElem?_eq_some_iff.1 hj).1)
    rw [hj] at this
    simp only [hd, bne_self_eq_false, Bool.false_or, Bool.and_eq_true, decide_eq_true_eq] at this
    exact this
  · unfold chkCls at h8
    have := List.all_eq_true.1 (List.all_eq_true.1 h8 i (List.mem_range.2 hi)) j (List.mem_range.2 hj)
    simp only [Bool.or_eq_true, Bool.and_eq_true, decide_eq_true_eq] at this
    rcases this with h | h
    · omega
    · exact h

theorem mem_bindsTo {os : Array Oper} {j e : Nat} : e ∈ bindsTo os j ↔ ∃ o, os[j]? = some o ∧ ∃ x ∈ o.after, Region.binds .any x = true ∧ x.on = e := by
  unfold bindsTo
  cases h : os[j]? with
  | none => simp
  | some o => simp [and_assoc]

section
variable {P : Program} {N : Nat} {os : Array Oper} {ord anc cls : List Nat} {ops : List COp}

/-- The listed operations are closed under what they wait for. -/
def Down (os : Array Oper) (ord : List Nat) (n : Nat) (L : Array Bool) : Prop := ∀ i, i < n → L.getD (ord.getD i 0) false = true → ∀ e ∈ bindsTo os (ord.getD i 0), L.getD e false = true

theorem DOk.listed (h : DOk P N os ord anc cls ops) {L : Array Bool} (hd : Down os ord ops.length L) : ∀ i, i < ops.length → (∀ e ∈ bindsTo os (ord.getD i 0), L.getD e false = true) →
    ∀ j, j < i → (anc.getD i 0).testBit j = true → L.getD (ord.getD j 0) false = true := by
  intro i
  induction i using Nat.strongRecOn with
  | ind i ih =>
    intro hi hL j hj hb
    obtain ⟨e, he, hor⟩ := h.ancs i j hi hj hb
    rcases hor with rfl | ⟨q, hq, hjq, rfl, hqb⟩
    · exact hL _ he
    · exact ih q hq (by omega) (hd q (by omega) (hL _ he)) j hjq hqb

theorem mconst {M : Nat → List Ent} {n : Nat} (hm : ∀ j, j < n → cls.getD j 0 < 2 → M (j + 1) = M j) : ∀ d p, p + d ≤ n → (∀ j, j < n → 2 ≤ cls.getD j 0 → (j < p ↔ j < p + d)) → M (p + d) = M p := by
  intro d
  induction d with
  | zero => intro p _ _; rfl
  | succ d ih =>
    intro p hp h
    have h1 : cls.getD (p + d) 0 < 2 := by
      rcases Nat.lt_or_ge (cls.getD (p + d) 0) 2 with h' | h'
      · exact h'
      · have := (h (p + d) (by omega) h').2 (by omega); omega
    rw [show p + (d + 1) = p + d + 1 from rfl, hm _ (by omega) h1]
    refine ih p (by omega) fun j hj hc => ⟨fun h2 => by omega, fun h2 => (h j hj hc).2 (by omega)⟩

theorem mconst' {M : Nat → List Ent} {n : Nat} (hm : ∀ j, j < n → cls.getD j 0 < 2 → M (j + 1) = M j) {p q : Nat} (hp : p ≤ n) (hq : q ≤ n) (h : ∀ j, j < n → 2 ≤ cls.getD j 0 → (j < p ↔ j < q)) : M p = M q := by
  rcases Nat.le_total p q with hpq | hpq
  · obtain ⟨d, rfl⟩ := Nat.exists_eq_add_of_le hpq
    exact (mconst hm d p hq h).symm
  · obtain ⟨d, rfl⟩ := Nat.exists_eq_add_of_le hpq
    exact mconst hm d q hp fun j hj hc => (h j hj hc).symm
end

theorem getD_ft {L : Array Bool} {i : Nat} (h : i < L.size) : L.getD i false = L.getD i true := by simp [Array.getD, h]

theorem countP_set {α : Type} {p q : α → Bool} {l : List α} {x : α} (hx : x ∈ l) (h1 : p x = true) (h2 : q x = false) (h3 : ∀ y, q y = true → p y = true) : l.countP q < l.countP p := by
  induction l with
  | nil => simp at hx
  | cons y l ih =>
    simp only [List.countP_cons]
    have hle : l.countP q ≤ l.countP p := List.countP_mono_left fun z _ => h3 z
    by_cases hxy : x = y
    · subst hxy; simp [h1, h2]; omega
    · have := ih ((List.mem_cons.1 hx).resolve_left hxy)
      have hy : (if q y = true then 1 else 0) ≤ (if p y = true then 1 else 0) := by
        split
        · rename_i hq; simp [h3 y hq]
        · omega
      omega

theorem Rel.same {H : Hp} {F : Fr} {β : Bt} {N : Nat} {st st' : St} {a : Act} {w : World} (h : Rel H F β N st a w) (he : ∀ t, look st.env t = look st'.env t) (hm : st.mem = st'.mem) : Rel H F β N st' a w :=
  ⟨h.defers, h.size, fun n => he n ▸ h.env n, hm ▸ h.sat⟩

section
variable {C : Ctx} {Φ : List (En C.P)} {os : Array Oper} {ord anc cls : List Nat} {ops : List COp} {cr : List (Nat × CR)} {E : List (Nat × AV)} {M : Nat → List Ent} {b : Frame} {cs : List Frame} {k' : List Item} {F : Fr}

theorem go_sound (hD : DOk C.P C.fn.ntmps os ord anc cls ops) (hM : ∀ i c, ops[i]? = some c → StepOk Φ cr E c (cls.getD i 0) (M i) (M (i + 1))) :
    ∀ (fuel t : Nat) (L : Array Bool) (st : St) (H : Hp) (β : Bt) (a : Act) (w : World), L.size = os.size → Down os ord ops.length L →
      (List.range ops.length).countP (fun p => !L.getD (ord.getD p 0) false) ≤ fuel →
      (∀ t, (∀ p c, ops[p]? = some c → L.getD (ord.getD p 0) false = false → c.d ≠ some t) → look st.env t = look E t) →
      (∃ p, p ≤ ops.length ∧ st.mem = M p ∧ ∀ j, j < ops.length → 2 ≤ cls.getD j 0 → (j < p ↔ L.getD (ord.getD j 0) false = true)) →
      Rel H F β C.fn.ntmps st a w →
      ∃ a1 w1 H1 β1, Steps C.P (lone (b.at a (.inRegion os (Region.linearise.go .any os fuel t L []) :: k')) cs w) (lone (b.at a1 (.inRegion os [] :: k')) cs w1) ∧ HX F H H1 ∧ BExt β β1 ∧
        Rel H1 F β1 C.fn.ntmps ⟨E, M ops.length⟩ a1 w1 := by
  have hlow : ∀ j, j < ops.length → cls.getD j 0 < 2 → M (j + 1) = M j := by
    intro j hj hc
    have := hM j _ (List.getElem?_eq_getElem hj)
    generalize ops[j] = c at this
    generalize hMj1 : M (j + 1) = m1 at this
    cases this with
    | on hg he hs hd hcl => exact evD_cls1 (by omega) he
    | off _ _ => rfl
  have ordlt : ∀ i, i < ops.length → ord.getD i 0 < os.size := fun i hi => by
    obtain ⟨o, ho, _⟩ := hD.op i _ (List.getElem?_eq_getElem hi)
    exact (Array.getElem?_eq_some_iff.1 ho).1
  -- the end
  have fin : ∀ (L : Array Bool) (st : St) (H : Hp) (β : Bt) (a : Act) (w : World), (∀ p, p < ops.length → L.getD (ord.getD p 0) false = true) →
      (∀ t, (∀ p c, ops[p]? = some c → L.getD (ord.getD p 0) false = false → c.d ≠ some t) → look st.env t = look E t) →
      (∃ p, p ≤ ops.length ∧ st.mem = M p ∧ ∀ j, j < ops.length → 2 ≤ cls.getD j 0 → (j < p ↔ L.getD (ord.getD j 0) false = true)) →
      Rel H F β C.fn.ntmps st a w →
      ∃ a1 w1 H1 β1, Steps C.P (lone (b.at a (.inRegion os [] :: k')) cs w) (lone (b.at a1 (.inRegion os [] :: k')) cs w1) ∧ HX F H H1 ∧ BExt β β1 ∧ Rel H1 F β1 C.fn.ntmps ⟨E, M ops.length⟩ a1 w1 := by
    intro L st H β a w hall henv ⟨p, hp, hmem, hpj⟩ hr
    refine ⟨a, w, H, β, .refl _ _, .refl _ _, .refl _, hr.same (fun t => henv t fun p c hc hL => ?_) ?_⟩
    · rw [hall p (List.getElem?_eq_some_iff.1 hc).1] at hL; cases hL
    · rw [hmem]
      exact mconst' (cls := cls) hlow hp (Nat.le_refl _) fun j hj hc => by rw [hpj j hj hc, hall j hj]; simp [hj]
  -- if nothing is ready all are listed
  have done : ∀ (L : Array Bool), L.size = os.size → Region.ready .any os L = [] → ∀ p, p < ops.length → L.getD (ord.getD p 0) false = true := by
    intro L hsz hr p
    induction p using Nat.strongRecOn with
    | ind p ih =>
      intro hp
      cases hL : L.getD (ord.getD p 0) false with
      | true => rfl
      | false =>
        exfalso
        obtain ⟨o, ho, _⟩ := hD.op p _ (List.getElem?_eq_getElem hp)
        have : ord.getD p 0 ∈ Region.ready .any os L := by
          rw [mem_ready]
          refine ⟨?_, o, ho, fun e he hb => ?_⟩
          · have hlt : ord.getD p 0 < L.size := by rw [hsz]; exact ordlt p hp
            rw [← getD_ft hlt]; exact hL
          · obtain ⟨q, hq, e⟩ := hD.edge p e.on hp (mem_bindsTo.2 ⟨o, ho, e, he, hb, rfl⟩)
            rw [← e]; exact ih q hq (by omega)
        rw [hr] at this; simp at this
  intro fuel
  induction fuel with
  | zero =>
    intro t L st H β a w hsz hdn hcnt henv hmem hr
    have hall : ∀ p, p < ops.length → L.getD (ord.getD p 0) false = true := fun p hp => by
      have := List.countP_eq_zero.1 (Nat.le_zero.1 hcnt) p (List.mem_range.2 hp)
      simpa using this
    simp only [Region.linearise.go, List.reverse_nil]
    exact fin L st H β a w hall henv hmem hr
  | succ fuel ih =>
    intro t L st H β a w hsz hdn hcnt henv hmem hr
    simp only [Region.linearise.go]
    change ∃ a1 w1 H1 β1, Steps C.P (lone (b.at a (.inRegion os (match (Region.ready .any os L)[t % (Region.ready .any os L).length]? with
      | some i => Region.linearise.go .any os fuel (t / (Region.ready .any os L).length) (L.setIfInBounds i true) [i]
      | none => [].reverse) :: k')) cs w) _ ∧ HX F H H1 ∧ BExt β β1 ∧ _
    cases hi : (Region.ready .any os L)[t % (Region.ready .any os L).length]? with
    | none =>
      have hnil : Region.ready .any os L = [] := by
        cases hr : Region.ready .any os L with
        | nil => rfl
        | cons x xs =>
          rw [hr] at hi
          have hlt : t % (x :: xs).length < (x :: xs).length := Nat.mod_lt _ (by simp)
          simp at hi
          simp at hlt
          omega
      simp only [List.reverse_nil]
      exact fin L st H β a w (done L hsz hnil) henv hmem hr
    | some j =>
      simp only []
      rw [linearise_go_acc, List.reverse_singleton, List.singleton_append]
      generalize t / (Region.ready .any os L).length = t'
      have hj := mem_ready.1 (List.mem_of_getElem? hi)
      obtain ⟨hjL, o, ho, hje⟩ := hj
      have hjlt := (Array.getElem?_eq_some_iff.1 ho).1
      obtain ⟨i, hin, rfl⟩ := hD.all j hjlt
      have hiL : L.getD (ord.getD i 0) false = false := by
        have hlt : ord.getD i 0 < L.size := by rw [hsz]; exact hjlt
        rw [getD_ft hlt]; exact hjL
      have hie : ∀ e ∈ bindsTo os (ord.getD i 0), L.getD e false = true := fun e he => by
        obtain ⟨o', ho', x, hx, hb, rfl⟩ := mem_bindsTo.1 he
        rw [ho] at ho'; cases ho'
        exact hje x hx hb
      have hanc := hD.listed hdn i hin hie
      -- the new list
      have hsz' : (L.setIfInBounds (ord.getD i 0) true).size = os.size := by simpa using hsz
      have hnew : ∀ p, p < ops.length → p ≠ i → (L.setIfInBounds (ord.getD i 0) true).getD (ord.getD p 0) false = L.getD (ord.getD p 0) false := fun p hp hne =>
        getD_set_ne false fun e => hne (hD.inj p i hp hin e.symm)
      have hnewi : (L.setIfInBounds (ord.getD i 0) true).getD (ord.getD i 0) false = true := by
        have hlt : ord.getD i 0 < L.size := by rw [hsz]; exact hjlt
        simp only [Array.getD_eq_getD_getElem?, Array.getElem?_setIfInBounds_self_of_lt hlt, Option.getD_some]
      have hdn' : Down os ord ops.length (L.setIfInBounds (ord.getD i 0) true) := by
        intro p hp hpL e he
        by_cases hpi : p = i
        · subst hpi; exact getD_set_true (hie e he)
        · rw [hnew p hp hpi] at hpL; exact getD_set_true (hdn p hp hpL e he)
      have hcnt' : (List.range ops.length).countP (fun p => !(L.setIfInBounds (ord.getD i 0) true).getD (ord.getD p 0) false) ≤ fuel := by
        have : (List.range ops.length).countP (fun p => !(L.setIfInBounds (ord.getD i 0) true).getD (ord.getD p 0) false) < (List.range ops.length).countP (fun p => !L.getD (ord.getD p 0) false) := by
          refine countP_set (x := i) (List.mem_range.2 hin) (by show (!_) = true; rw [hiL]; rfl) (by show (!_) = false; rw [hnewi]; rfl) fun y hy => ?_
          simp only [Bool.not_eq_true'] at hy ⊢
          cases hLy : L.getD (ord.getD y 0) false with
          | false => rfl
          | true => rw [getD_set_true hLy] at hy; cases hy
        omega
      obtain ⟨c, hc⟩ : ∃ c, ops[i]? = some c := ⟨_, List.getElem?_eq_getElem hin⟩
      have hstep := hM i c hc
      obtain ⟨o', ho', hchk⟩ := hD.op i c hc
      rw [ho] at ho'; cases ho'
      -- what it reads
      have hreads : ∀ t ∈ slots c, look st.env t = look E t := fun t ht => henv t fun p c' hp hpL hd => by
        obtain ⟨h1, h2⟩ := hD.read i c t p c' hc ht hp hd
        rw [hanc p h1 h2] at hpL; cases hpL
      have henv' : ∀ v, (∀ x, c.d = some x → look E x = v) → ∀ t, (∀ p c, ops[p]? = some c → (L.setIfInBounds (ord.getD i 0) true).getD (ord.getD p 0) false = false → c.d ≠ some t) → look (put st.env c.d v) t = look E t := by
        intro v hv t ht
        by_cases hct : c.d = some t
        · rw [hv t hct, hct]; simp [look]
        · rw [look_put_ne hct]
          refine henv t fun p c' hp hpL => ?_
          by_cases hpi : p = i
          · subst hpi; rw [hc] at hp; cases hp; exact hct
          · exact ht p c' hp (by rw [hnew p (List.getElem?_eq_some_iff.1 hp).1 hpi]; exact hpL)
      obtain ⟨p, hp, hmemp, hpj⟩ := hmem
      -- the owned blocks
      have hMi : 1 ≤ cls.getD i 0 → M p = M i := fun hci => by
        refine mconst' (cls := cls) hlow hp (by omega) fun j hjn hjc => ?_
        rw [hpj j hjn hjc]
        rcases Nat.lt_trichotomy j i with h | h | h
        · simp only [h, iff_true]; exact hanc j h (hD.clss i j hin h (.inl ⟨hjc, hci⟩))
        · subst h; rw [hiL]; simp
        · have : ¬ j < i := by omega
          simp only [this, iff_false, Bool.not_eq_true]
          cases hLj : L.getD (ord.getD j 0) false with
          | false => rfl
          | true =>
            have := hD.listed hdn j hjn (hdn j hjn hLj) i h (hD.clss j i hjn h (.inr ⟨hci, hjc⟩))
            rw [hiL] at this; cases this
      have hmem' : ∀ m, (1 ≤ cls.getD i 0 → m = M (i + 1)) → (cls.getD i 0 < 1 → m = M p) → ∃ p, p ≤ ops.length ∧ m = M p ∧ ∀ j, j < ops.length → 2 ≤ cls.getD j 0 → (j < p ↔ (L.setIfInBounds (ord.getD i 0) true).getD (ord.getD j 0) false = true) := by
        intro m h1 h2
        rcases Nat.lt_or_ge (cls.getD i 0) 1 with h | h
        · refine ⟨p, hp, h2 h, fun j hjn hjc => ?_⟩
          have hne : j ≠ i := fun e => by subst e; omega
          rw [hnew j hjn hne]; exact hpj j hjn hjc
        · refine ⟨i + 1, by omega, h1 h, fun j hjn hjc => ?_⟩
          by_cases hji : j = i
          · subst hji; rw [hnewi]; simp
          · rw [hnew j hjn hji]
            rcases Nat.lt_trichotomy j i with h' | h' | h'
            · have : j < i + 1 := by omega
              simp only [this, true_iff]; exact hanc j h' (hD.clss i j hin h' (.inl ⟨hjc, h⟩))
            · exact absurd h' hji
            · have : ¬ j < i + 1 := by omega
              simp only [this, false_iff, Bool.not_eq_true]
              cases hLj : L.getD (ord.getD j 0) false with
              | false => rfl
              | true =>
                have := hD.listed hdn j hjn (hdn j hjn hLj) i h' (hD.clss j i hjn h' (.inr ⟨h, hjc⟩))
                rw [hiL] at this; cases this
      generalize hMs : M (i + 1) = m1 at hstep
      generalize hMs0 : M i = m0 at hstep
      generalize hcl : cls.getD i 0 = cl at hstep
      cases hstep with
      | @on d g kk cl m r hg he hs hd hcls =>
        have hars := slots_ars hreads
        have hwant : Region.wanted o (yielded os a.tmps) = true := by
          cases g with
          | none => exact wanted_none (chkOp_guard hchk)
          | some gg =>
            obtain ⟨t, bb⟩ := gg
            rw [guard_wanted (g := bb) hchk hr (by rw [hreads t (slots_guard (c := .mk d (some (t, bb)) kk) rfl)]; exact hg t bb rfl)]
            simp
        have he' : ∃ m', evD Φ cr d kk st.env st.mem = some (r.1, r.2.1, m') ∧ (1 ≤ cls.getD i 0 → m' = r.2.2) ∧ (cls.getD i 0 < 1 → m' = M p) := by
          rcases Nat.lt_or_ge (cls.getD i 0) 1 with h | h
          · refine ⟨st.mem, ?_, fun h' => by omega, fun _ => hmemp⟩
            have h0 : clsK cr d kk E = 0 := by omega
            rw [← evD_cls0 h0 he st.mem]; exact evD_congr hars
          · refine ⟨r.2.2, ?_, fun _ => rfl, fun h' => by omega⟩
            rw [hmemp, hMi h, hMs0]; exact (evD_congr (k := kk) hars).trans he
        obtain ⟨m', he', h1, h2⟩ := he'
        obtain ⟨a1, w1, H1, β1, q1, q2, q3, q4⟩ := opD_run (b := b) (cs := cs) (idx := Region.linearise.go .any os fuel t' (L.setIfInBounds (ord.getD i 0) true) []) (k' := k') ho hchk hwant he' hs hr
        obtain ⟨a2, w2, H2, β2, s1, s2, s3, s4⟩ := ih t' _ _ H1 β1 a1 w1 hsz' hdn' hcnt' (henv' _ hd) (hmem' m' (fun h => by rw [hMs, h1 h]) h2) q4
        exact ⟨a2, w2, H2, β2, q1.trans s1, q2.trans s2, q3.trans s3, s4⟩
      | @off d t bb kk cl m hg hd =>
        have hwant : Region.wanted o (yielded os a.tmps) = false := by
          rw [guard_wanted (g := !bb) hchk hr (by rw [hreads t (slots_guard (c := .mk d (some (t, bb)) kk) rfl)]; exact hg)]
          cases bb <;> rfl
        have hst := step_op_off (P := C.P) (b := b) (a := a) (k := k') (cs := cs) (w := w) (rest := Region.linearise.go .any os fuel t' (L.setIfInBounds (ord.getD i 0) true) []) ho hwant
        obtain ⟨d1, d2⟩ := chkOp_dst hchk
        simp only [COp.d] at d1
        have hrel : Rel H F β C.fn.ntmps ⟨put st.env d .junk, st.mem⟩ (a.put o.dst undef) w := by
          rw [← d1]
          refine rel_putd hr (.refl _) (.refl _) ?_ .junk hr.sat
          cases hd' : d with
          | none => rfl
          | some n => simpa using d2 n (by rw [← d1, hd'])
        obtain ⟨a2, w2, H2, β2, s1, s2, s3, s4⟩ := ih t' _ ⟨put st.env d .junk, st.mem⟩ H β _ w hsz' hdn' hcnt' (henv' .junk hd) (hmem' st.mem (fun h => by rw [hMs, hmemp, hMi h, hMs0]) fun _ => hmemp) hrel
        exact ⟨a2, w2, H2, β2, .trans (.one hst) s1, s2, s3, s4⟩
end

theorem evD_len {P : Program} {Φ : List (En P)} {cr : List (Nat × CR)} {d : Option Nat} {k : K} {env : List (Nat × AV)} {mem : List Ent} {r : Ev} (h : evD Φ cr d k env mem = some r) : mem.length ≤ r.2.2.length := by
  have plain : evX Φ k env mem = some r → mem.length ≤ r.2.2.length := evX_len
  cases k
  case call f xs =>
    cases hl : lookC cr d with
    | none => simp only [evD, hl] at h; exact plain h
    | some c => simp only [evD, hl] at h; cases h; simp [memAfter]
  case callv f xs => simp [evD] at h
  all_goals exact plain h

theorem Tr.len {P : Program} {Φ : List (En P)} {cr : List (Nat × CR)} {E : List (Nat × AV)} {l : List COp} {cls : List Nat} {m m' : List Ent} (h : Tr Φ cr E l cls m m') : m.length ≤ m'.length := by
  induction h with
  | nil => exact Nat.le_refl _
  | cons h _ ih =>
    refine Nat.le_trans ?_ ih
    cases h with
    | on hg he hs hd hcl => exact evD_len he
    | off _ _ => exact Nat.le_refl _

/-- The rule: the order of the text serves for every order. -/
theorem AW.regd {C : Ctx} {Φ : List (En C.P)} {k : List CItem} {st : St} {keep ord anc cls : List Nat} {ops : List COp} (hm : C.P.follows .mixedOrders = true) (cr : List (Nat × CR))
    (h : runD Φ cr ops cls st (fun st' => AW C k ⟨keep.map fun n => (n, look st'.env n), st'.mem⟩)) : AW C (.code (.regd keep ord anc cls ops) :: k) st := by
  intro H F β a w b cs todo hmi hr hn
  cases hmi with
  | code hcc hk =>
    rename_i c' k'
    cases c' <;> try (simp [chkC] at hcc; done)
    rename_i id os dr
    cases dr <;> simp only [chkC, Bool.false_eq_true] at hcc
    have hD := chkD_ok hcc
    obtain ⟨E, m, ht, hQ, hE⟩ := runD_trace ops cls st hD.clen hD.wf h
    obtain ⟨M, M0, Mn, hM⟩ := ht.fn
    have hlen := ht.len
    refine .steps (.one step_region_draw) ?_
    simp only [Region.schedule, hm, Bool.true_or, if_true]
    generalize w.tape w.drawn _ = t
    have hr' : Rel H F β C.fn.ntmps st a { w with drawn := w.drawn + 1 } := ⟨hr.defers, hr.size, hr.env, hr.sat.of_heap rfl ⟨rfl, rfl, rfl⟩⟩
    generalize ({ w with drawn := w.drawn + 1 } : World) = w1 at hr'
    have hfalse : ∀ i, (Array.replicate os.size false).getD i false = false := fun i => by
      simp only [Array.getD]; split <;> simp
    obtain ⟨a2, w2, H2, β2, s1, s2, s3, s4⟩ := go_sound (b := b) (cs := cs) (k' := k') (cr := cr) (E := E) (M := M) hD hM os.size t (Array.replicate os.size false) st H β a w1 (by simp)
      (fun i hi hL => by rw [hfalse] at hL; cases hL)
      (by
        have := List.countP_le_length (p := fun p => !(Array.replicate os.size false).getD (ord.getD p 0) false) (l := List.range ops.length)
        have h1 := hD.size; have h2 := hD.len
        simp only [List.length_range] at this; omega)
      (fun t ht => (hE t fun c hc => by
        obtain ⟨p, hp⟩ := List.getElem?_of_mem hc
        exact ht p c hp (hfalse _)).symm)
      ⟨0, by omega, M0.symm, fun j hj _ => by rw [hfalse]; simp⟩ hr'
    rw [Mn] at s4
    exact .steps s1 (.ext s2 (s3.eq0 (by rw [hr.sat.hl]; exact hn)) (AW.ops_end (keep := keep) (st := ⟨E, m⟩) hQ H2 F β2 a2 w2 b cs _ (.ops trivial hk) s4 (Nat.le_trans hn hlen)))
end Go.Fw
