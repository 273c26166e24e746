/- Regions that draw their order: the machine's side. -/
import Derived.Test.YteldjoikaepijaaFw16
import Derived.Orders
namespace Go.Fw
open Go

/-- What an operation does, said at the final environment `E` of the region. -/
inductive StepOk {P : Program} (Φ : List (En P)) (cr : List (Nat × CR)) (E : List (Nat × AV)) : COp → Nat → List Ent → List Ent → Prop
  | on {d g k cl m r} (hg : ∀ t b, g = some (t, b) → look E t = .bool b) (he : evD Φ cr d k E m = some r) (hs : r.1) (hd : ∀ x, d = some x → look E x = r.2.1) (hc : clsK cr d k E ≤ cl) : StepOk Φ cr E (.mk d g k) cl m r.2.2
  | off {d t b k cl m} (hg : look E t = .bool (!b)) (hd : ∀ x, d = some x → look E x = .junk) : StepOk Φ cr E (.mk d (some (t, b)) k) cl m m

inductive Tr {P : Program} (Φ : List (En P)) (cr : List (Nat × CR)) (E : List (Nat × AV)) : List COp → List Nat → List Ent → List Ent → Prop
  | nil {cls m} : Tr Φ cr E [] cls m m
  | cons {c l cl cls m m1 m2} (h : StepOk Φ cr E c cl m m1) (ht : Tr Φ cr E l cls m1 m2) : Tr Φ cr E (c :: l) (cl :: cls) m m2

/-- The region's operations in the order of the list. -/
def runD {P : Program} (Φ : List (En P)) (cr : List (Nat × CR)) : List COp → List Nat → St → (St → Prop) → Prop
  | [], _, st, Q => Q st
  | .mk d g k :: l, cls, st, Q =>
    match g with
    | none =>
      clsK cr d k st.env ≤ cls.headD 0 ∧ match evD Φ cr d k st.env st.mem with
      | some (p, v, m) => p ∧ runD Φ cr l cls.tail ⟨put st.env d v, m⟩ Q
      | none => False
    | some (t, bb) =>
      match look st.env t with
      | .bool x =>
        ((x == bb) = true → clsK cr d k ((t, .bool bb) :: st.env) ≤ cls.headD 0 ∧ match evD Φ cr d k ((t, .bool bb) :: st.env) st.mem with
          | some (p, v, m) => p ∧ runD Φ cr l cls.tail ⟨put ((t, .bool bb) :: st.env) d v, m⟩ Q
          | none => False) ∧
        ((x == bb) = false → runD Φ cr l cls.tail ⟨put ((t, .bool (!bb)) :: st.env) d .junk, st.mem⟩ Q)
      | _ => False

theorem slots_ars {c : COp} {E E' : List (Nat × AV)} (h : ∀ t ∈ slots c, look E t = look E' t) : ∀ x ∈ c.k.ars, ar E x = ar E' x := by
  intro x hx
  cases x with
  | c v => rfl
  | t n => exact h n (by simp only [slots, List.mem_append, List.mem_filterMap]; exact .inl ⟨.t n, hx, rfl⟩)

theorem slots_guard {c : COp} {t : Nat} {b : Bool} (h : c.g = some (t, b)) : t ∈ slots c := by
  obtain ⟨d, g, k⟩ := c
  simp only [COp.g] at h
  subst h
  simp [slots]

theorem look_put_ne {env : List (Nat × AV)} {d : Option Nat} {v : AV} {t : Nat} (h : d ≠ some t) : look (put env d v) t = look env t := by
  cases d with
  | none => rfl
  | some d =>
    have : d ≠ t := fun e => h (by rw [e])
    simp [look, this]

theorem look_lit {env : List (Nat × AV)} {t : Nat} {v : AV} (h : look env t = v) (n : Nat) : look ((t, v) :: env) n = look env n := by
  simp only [look]
  split
  · rename_i e; subst e; exact h.symm
  · rfl

theorem wfD_cons {c : COp} {l : List COp} (h : wfD (c :: l) = true) :
    (∀ t ∈ slots c, c.d ≠ some t ∧ ∀ c' ∈ l, c'.d ≠ some t) ∧ (∀ d, c.d = some d → ∀ c' ∈ l, c'.d ≠ some d) ∧ wfD l = true := by
  simp only [wfD, Bool.and_eq_true, List.all_eq_true, bne_iff_ne] at h
  obtain ⟨⟨h1, h2⟩, h3⟩ := h
  refine ⟨h1, fun d hd => ?_, h3⟩
  rw [hd] at h2
  simpa using h2

theorem runD_trace {P : Program} {Φ : List (En P)} {cr : List (Nat × CR)} {Q : St → Prop} : ∀ (l : List COp) (cls : List Nat) (st : St), cls.length = l.length → wfD l = true → runD Φ cr l cls st Q →
    ∃ E m, Tr Φ cr E l cls st.mem m ∧ Q ⟨E, m⟩ ∧ ∀ t, (∀ c ∈ l, c.d ≠ some t) → look E t = look st.env t := by
  intro l
  induction l with
  | nil => intro cls st _ _ h; exact ⟨st.env, st.mem, .nil, h, fun _ _ => rfl⟩
  | cons c l ih =>
    intro cls st hlen hwf h
    obtain ⟨w1, w2, w3⟩ := wfD_cons hwf
    cases cls with
    | nil => simp at hlen
    | cons cl cls =>
      have hlen' : cls.length = l.length := by simpa using hlen
      obtain ⟨d, g, k⟩ := c
      have reads : ∀ (E env : List (Nat × AV)) (v : AV), (∀ t, look env t = look st.env t) → (∀ t, (∀ c ∈ l, c.d ≠ some t) → look E t = look (put env d v) t) → ∀ t ∈ slots (.mk d g k), look E t = look env t := by
        intro E env v _ hE t ht
        obtain ⟨a1, a2⟩ := w1 t ht
        rw [hE t a2]; exact look_put_ne (d := d) a1
      have keep : ∀ (E env : List (Nat × AV)) (v : AV), (∀ t, look env t = look st.env t) → (∀ t, (∀ c ∈ l, c.d ≠ some t) → look E t = look (put env d v) t) → ∀ t, (∀ c ∈ COp.mk d g k :: l, c.d ≠ some t) → look E t = look st.env t := by
        intro E env v h0 hE t ht
        rw [hE t fun c hc => ht c (by simp [hc]), look_put_ne (d := d) (ht _ (List.mem_cons_self ..)), h0]
      have dst : ∀ (E env : List (Nat × AV)) (v : AV), (∀ t, (∀ c ∈ l, c.d ≠ some t) → look E t = look (put env d v) t) → ∀ x, d = some x → look E x = v := by
        intro E env v hE x hx
        rw [hE x (w2 x hx)]; subst hx; simp [look]
      have on : ∀ (env : List (Nat × AV)), (∀ t, look env t = look st.env t) → (∀ t b, g = some (t, b) → look env t = .bool b) →
          (clsK cr d k env ≤ cl ∧ match evD Φ cr d k env st.mem with
            | some (p, v, m) => p ∧ runD Φ cr l cls ⟨put env d v, m⟩ Q
            | none => False) →
          ∃ E m, Tr Φ cr E (.mk d g k :: l) (cl :: cls) st.mem m ∧ Q ⟨E, m⟩ ∧ ∀ t, (∀ c ∈ COp.mk d g k :: l, c.d ≠ some t) → look E t = look st.env t := by
        intro env h0 hg ⟨hcl, hm⟩
        split at hm
        · rename_i p v m he
          obtain ⟨E, m', t1, t2, t3⟩ := ih cls _ hlen' w3 hm.2
          have hr := reads E env v h0 t3
          have hars := slots_ars hr
          refine ⟨E, m', .cons (.on (r := (p, v, m)) (fun t b hgt => ?_) ?_ hm.1 (dst E env v t3) ?_) t1, t2, keep E env v h0 t3⟩
          · rw [hr t (slots_guard (c := .mk d g k) hgt)]; exact hg t b hgt
          · rw [← he]; exact evD_congr hars
          · exact (clsK_congr (k := k) hars).symm ▸ hcl
        · exact hm.elim
      cases g with
      | none =>
        simp only [runD] at h
        exact on st.env (fun _ => rfl) (fun t b e => by cases e) h
      | some gg =>
        obtain ⟨t, bb⟩ := gg
        simp only [runD] at h
        split at h
        · rename_i x hx
          obtain ⟨h1, h2⟩ := h
          cases hxb : (x == bb) with
          | true =>
            obtain rfl : x = bb := by simpa using hxb
            exact on ((t, .bool x) :: st.env) (look_lit hx) (fun t' b' e => by cases e; simp [look]) (h1 hxb)
          | false =>
            have hx' : x = !bb := by revert hxb; clear h1 h2 hx; cases x <;> cases bb <;> decide
            subst hx'
            obtain ⟨E, m', t1, t2, t3⟩ := ih cls _ hlen' w3 (h2 hxb)
            refine ⟨E, m', .cons (.off ?_ (dst E _ _ t3)) t1, t2, keep E _ _ (look_lit hx) t3⟩
            rw [reads E _ _ (look_lit hx) t3 t (slots_guard (c := .mk d (some (t, bb)) k) rfl)]; simp [look]
        · exact h.elim

theorem Tr.fn {P : Program} {Φ : List (En P)} {cr : List (Nat × CR)} {E : List (Nat × AV)} {l : List COp} {cls : List Nat} {m m' : List Ent} (h : Tr Φ cr E l cls m m') :
    ∃ M : Nat → List Ent, M 0 = m ∧ M l.length = m' ∧ ∀ i c, l[i]? = some c → StepOk Φ cr E c (cls.getD i 0) (M i) (M (i + 1)) := by
  induction h with
  | nil => rename_i m; exact ⟨fun _ => m, rfl, rfl, fun i c h => by simp at h⟩
  | cons h _ ih =>
    rename_i m m1 m2 _
    obtain ⟨M, h1, h2, h3⟩ := ih
    refine ⟨fun i => match i with | 0 => m | i + 1 => M i, rfl, h2, fun i c hi => ?_⟩
    cases i with
    | zero => simp only [List.getElem?_cons_zero, Option.some.injEq] at hi; subst hi; simp only [h1]; exact h
    | succ i => exact h3 i c (by simpa using hi)

/-- One operation on the machine. -/
theorem opD_run {C : Ctx} {Φ : List (En C.P)} {H : Hp} {F : Fr} {β : Bt} {st : St} {b : Frame} {cs : List Frame} {cr : List (Nat × CR)} {c : COp} {o : Oper} {r : Ev} {a : Act} {w : World} {os : Array Oper} {j : Nat} {idx : List Nat} {k' : List Item} (hj : os[j]? = some o) (hc : chkOp C.P C.fn.ntmps os c o = true)
    (hw : Region.wanted o (yielded os a.tmps) = true) (he : evD Φ cr c.d c.k st.env st.mem = some r) (hs : r.1) (hr : Rel H F β C.fn.ntmps st a w) :
    ∃ a1 w1 H1 β1, Steps C.P (lone (b.at a (.inRegion os (j :: idx) :: k')) cs w) (lone (b.at a1 (.inRegion os idx :: k')) cs w1) ∧ HX F H H1 ∧ BExt β β1 ∧
      Rel H1 F β1 C.fn.ntmps ⟨put st.env c.d r.2.1, r.2.2⟩ a1 w1 := by
  obtain ⟨d, g, k⟩ := c
  have plain : evX Φ k st.env st.mem = some r → ∃ a1 w1 H1 β1, Steps C.P (lone (b.at a (.inRegion os (j :: idx) :: k')) cs w) (lone (b.at a1 (.inRegion os idx :: k')) cs w1) ∧ HX F H H1 ∧ BExt β β1 ∧
      Rel H1 F β1 C.fn.ntmps ⟨put st.env d r.2.1, r.2.2⟩ a1 w1 := fun he => opX_run (c := .mk d g k) hj hc hw he hs hr
  cases k
  case call f xs =>
    cases hl : lookC cr d with
    | none => simp only [COp.d, COp.k, evD, hl] at he; exact plain he
    | some c =>
      obtain ⟨d1, d2⟩ := chkOp_dst hc
      simp only [COp.d] at d1
      obtain ⟨cargs, e1, e2, e3⟩ := call_op (P := C.P) hc rfl hr
      simp only [COp.d, COp.k, evD, hl] at he
      cases he
      obtain ⟨hok, hsp⟩ := hs
      obtain ⟨r, m', a1, w1, H1, β1, q1, q2, q3, q4, q5⟩ := call_step (b := b) (cs := cs) (idx := idx) (k' := k') hj hw d2 hr hsp e1
        (by rw [e2]; have := congrArg List.length hok.args; simpa using this)
        (fun i v x h1 h2 => e3 i _ x (by rw [hok.args, List.getElem?_map, h1]; rfl) h2) hok.abel hok.len hok.nd hok.ent hok.lt hok.bel
      obtain ⟨rfl, rfl⟩ := q1
      rw [← d1] at q5
      exact ⟨a1, w1, H1, β1, q2, q3, q4, q5⟩
  case callv f xs => simp [evD] at he
  all_goals exact plain he

end Go.Fw
