/- Loops, ends, contracts, and calls. -/
import Derived.Test.YteldjoikaepijaaFw11
namespace Go.Fw
open Go

mutual
def AV.bel (n : Nat) : AV → Bool
  | .ms i _ _ _ | .mp i _ _ | .mapr i => decide (i < n)
  | .agg cs | .tup cs | .fn _ cs => AV.belL n cs
  | .opt _ v => v.bel n
  | .junk | .int _ _ | .bool _ | .str _ | .e0 | .sl _ _ | .ip _ | .nilp | .nilf | .nilm => true
def AV.belL (n : Nat) : List AV → Bool
  | [] => true
  | c :: cs => c.bel n && AV.belL n cs
end
theorem AV.belL_iff {n : Nat} : ∀ (l : List AV), AV.belL n l = true ↔ ∀ c ∈ l, c.bel n = true
  | [] => by simp [AV.belL]
  | c :: cs => by simp [AV.belL, AV.belL_iff cs]

theorem Rep.bel {H : Hp} {β : Bt} {v : AV} {x : Value} (r : Rep H β v x) {n : Nat} (hp : v.bel n = true) : Rep H (β.take n) v x := by
  induction r with
  | junk => exact .junk
  | int h => exact .int h
  | bool => exact .bool
  | str h => exact .str h
  | agg hl hc _ ih => exact .agg hl hc fun i c v h1 h2 => ih i c v h1 h2 ((AV.belL_iff _).1 (by simpa [AV.bel] using hp) c (List.mem_of_getElem? h1))
  | tup hl _ ih => exact .tup hl fun i c v h1 h2 => ih i c v h1 h2 ((AV.belL_iff _).1 (by simpa [AV.bel] using hp) c (List.mem_of_getElem? h1))
  | e0 => exact .e0
  | sl b o cells f hlen hcap hbig hes hblk hc hcell h _ => exact .sl b o cells f hlen hcap hbig hes hblk hc hcell h
  | ip f hh hc hcell h _ => exact .ip f hh hc hcell h
  | ms hβ h hlen hbig => simp [AV.bel] at hp; exact .ms (by rw [List.getElem?_take, if_pos hp]; exact hβ) h hlen hbig
  | ms0 hβ => simp [AV.bel] at hp; exact .ms0 (by rw [List.getElem?_take, if_pos hp]; exact hβ)
  | mp hβ => simp [AV.bel] at hp; exact .mp (by rw [List.getElem?_take, if_pos hp]; exact hβ)
  | fn hl _ ih => exact .fn hl fun i c v h1 h2 => ih i c v h1 h2 ((AV.belL_iff _).1 (by simpa [AV.bel] using hp) c (List.mem_of_getElem? h1))
  | mapr hβ => simp [AV.bel] at hp; exact .mapr (by rw [List.getElem?_take, if_pos hp]; exact hβ)
  | nilp => exact .nilp
  | nilf => exact .nilf
  | nilm => exact .nilm
  | opt _ ih => exact .opt fun h => ih h (by simpa [AV.bel] using hp)

def Ent.bel (n : Nat) : Ent → Prop
  | .dead => True
  | .arr _ rows => ∀ r ∈ rows, ∀ c ∈ r, c.bel n = true
  | .mp es => ∀ e ∈ es, e.1.bel n = true ∧ e.2.bel n = true

theorem Sat.drop {H : Hp} {F : Fr} {β : Bt} {mem rest : List Ent} {w : World} (h : Sat H F β (mem ++ rest) w) (hb : ∀ e ∈ mem, e.bel mem.length) : Sat H F (β.take mem.length) mem w := by
  have get : ∀ (i : Nat) e, mem[i]? = some e → (mem ++ rest)[i]? = some e ∧ i < mem.length := by
    intro i e hi
    have hl := (List.getElem?_eq_some_iff.1 hi).1
    exact ⟨by rw [List.getElem?_append_left hl]; exact hi, hl⟩
  have getβ : ∀ (i : Nat) x, (β.take mem.length)[i]? = some x → β[i]? = some x := by
    intro i x hi
    rw [List.getElem?_take] at hi
    split at hi
    · exact hi
    · cases hi
  refine { hH := h.hH, hF := h.hF, sm := h.sm, hl := by rw [List.length_take, h.hl]; simp, ent := fun i e x hi hx => ?_,
           apart := fun i e x hi he hx => h.apart i e x (get i e hi).1 he (getβ i _ hx),
           inj := fun i j e e' x y hi he hj he' hx hy hxy => h.inj i j e e' x y (get i e hi).1 he (get j e' hj).1 he' (getβ i _ hx) (getβ j _ hy) hxy }
  have h0 := h.ent i e x (get i e hi).1 (getβ i _ hx)
  have hbe := hb e (List.mem_of_getElem? hi)
  cases e with
  | dead => trivial
  | arr es rows =>
    cases x with
    | none => exact h0
    | some x =>
      obtain ⟨b, es', cap⟩ := x
      obtain ⟨h1, cells, elem, h2, h3, h4, h5, h6, h7⟩ := h0
      refine ⟨h1, cells, elem, h2, h3, h4, h5, h6, fun i r j c hr hc => ?_⟩
      obtain ⟨v, hv, hrep⟩ := h7 i r j c hr hc
      exact ⟨v, hv, hrep.bel (hbe r (List.mem_of_getElem? hr) c (List.mem_of_getElem? hc))⟩
  | mp es =>
    cases x with
    | none => exact h0
    | some x =>
      obtain ⟨b, es', cap⟩ := x
      obtain ⟨ents, clock, h2, h3, h4⟩ := h0
      refine ⟨ents, clock, h2, h3, fun i k v e hi he => ?_⟩
      obtain ⟨r1, r2⟩ := h4 i k v e hi he
      have := hbe _ (List.mem_of_getElem? hi)
      exact ⟨r1.bel this.1, r2.bel this.2⟩

/-- What stands for one stands for the other. -/
def Imp (v v' : AV) : Prop := ∀ H β x, Rep H β v x → Rep H β v' x
theorem Imp.refl (v : AV) : Imp v v := fun _ _ _ h => h

theorem look_mem {env : List (Nat × AV)} {n : Nat} : look env n = .junk ∨ (n, look env n) ∈ env := by
  induction env with
  | nil => exact .inl rfl
  | cons p env ih =>
    obtain ⟨m, v⟩ := p
    simp only [look]
    split
    · rename_i e; subst e; exact .inr (by simp)
    · rcases ih with h | h
      · exact .inl h
      · exact .inr (by simp [h])

section
variable {C : Ctx} {k : List CItem} {st st' : St}

theorem AW.imp (he : ∀ p ∈ st'.env, Imp (look st.env p.1) p.2) (hm : st'.mem = st.mem) (h : AW C k st') : AW C k st := by
  intro H F β a w b cs todo hmi hr hn
  refine h H F β a w b cs todo hmi ⟨hr.defers, hr.size, fun n => ?_, by rw [hm]; exact hr.sat⟩ (by rw [hm]; exact hn)
  rcases look_mem (env := st'.env) (n := n) with e | e
  · rw [e]; exact .junk
  · exact he _ e _ _ _ (hr.env n)

theorem AW.sub0 (he : ∀ p ∈ st'.env, look st.env p.1 = p.2) (hm : st'.mem = st.mem) (h : AW C k st') : AW C k st :=
  AW.imp (fun p hp => by rw [he p hp]; exact .refl _) hm h

theorem AW.sub (he : ∀ p ∈ st'.env, look st.env p.1 = p.2 ∧ p.2.bel st'.mem.length = true) (hm : st.mem = st'.mem ++ st.mem.drop st'.mem.length) (hb : ∀ e ∈ st'.mem, e.bel st'.mem.length)
    (hn : C.n0 ≤ st'.mem.length) (h : AW C k st') : AW C k st := by
  intro H F β a w b cs todo hmi hr _
  have hs := hr.sat
  rw [hm] at hs
  refine .ext (.refl _ _) (fun i hi => ?_) (h H F (β.take st'.mem.length) a w b cs todo hmi ⟨hr.defers, hr.size, fun n => ?_, hs.drop hb⟩ hn)
  · rw [List.getElem?_take, if_pos (by omega)]
  · rcases look_mem (env := st'.env) (n := n) with e | e
    · rw [e]; exact .junk
    · obtain ⟨e1, e2⟩ := he _ e
      have := hr.env n
      rw [e1] at this
      exact this.bel e2

theorem AW.opgo {d : Option Nat} {kk : K} {keep : List Nat} {l : List COp} {t : Nat} {bb g : Bool} {r : Ev} (ht : look st.env t = .bool g) (he : evK kk st.env st.mem = some r) (hm : r.2.2 = st.mem)
    (hs : (g == bb) = true → r.1) (h : AW C (.ops keep l :: k) ⟨put st.env d (.opt (g == bb) r.2.1), st.mem⟩) : AW C (.ops keep (.mk d (some (t, bb)) kk :: l) :: k) st := by
  have key : ∀ v, Imp v (.opt (g == bb) r.2.1) → AW C (.ops keep l :: k) ⟨put st.env d v, st.mem⟩ := by
    intro v hv H F β a w b cs todo hmi hr hn
    refine h H F β a w b cs todo hmi ⟨hr.defers, hr.size, fun n => ?_, hr.sat⟩ hn
    have := hr.env n
    cases d with
    | none => exact this
    | some d =>
      simp only [put_some, look] at this ⊢
      split
      · rename_i e; rw [if_pos e] at this; exact hv _ _ _ this
      · rename_i e; rw [if_neg e] at this; exact this
  refine AW.opg ht (fun hg => ⟨r, he, hs hg, ?_⟩) fun hg => ?_
  · rw [hm]; exact key _ fun H β x hx => .opt fun _ => hx
  · exact key _ fun H β x _ => .opt fun hgt => by rw [hg] at hgt; cases hgt

/-- A loop: 'S x' are the states at its head. -/
theorem AW.loop {X : Type} {body : CC} (S : X → St) (ok : X → Prop) (μ : X → Nat) (x0 : X) (h0 : ok x0) (hst : ∀ its, AW C its (S x0) → AW C its st)
    (round : ∀ x, ok x → (∀ y, ok y → μ y < μ x → AW C (.inLoop body :: k) (S y)) → AW C (.code body :: .inLoop body :: k) (S x)) : AW C (.code (.loop body) :: k) st := by
  have key : ∀ n x, μ x = n → ok x → AW C (.inLoop body :: k) (S x) := by
    intro n
    induction n using Nat.strongRecOn with
    | _ n ih =>
      intro x hx hok H F β a w b cs todo hmi hr hn
      cases hmi with
      | inLoop hc hk =>
        have := round x hok (fun y hy hlt => ih (μ y) (by omega) y rfl hy)
        exact .steps (.one step_inLoop) (this H F β a w b cs _ (.code hc (.inLoop hc hk)) hr hn)
  refine hst _ ?_
  intro H F β a w b cs todo hmi hr hn
  cases hmi with
  | code hc hk =>
    rename_i c' k'
    cases c' <;> simp [chkC] at hc
    have := round x0 h0 (fun y hy _ => key _ y rfl hy)
    exact .steps (.one step_loop) (this H F β a w b cs _ (.code hc (.inLoop hc hk)) hr hn)

/-- Where a result stands: in a slot, or in the cells that a slot points to. -/
inductive RV where
  | t (n : Nat)
  | c (n : Nat) (k : Option Nat)

def rvB (P : Program) : ResultVar → RV → Bool
  | .tmp t, .t n => t == n
  | .cell a ty, .c n k => a == n && aggB P ty == some k.isSome && (match k with | some j => szB P ty == some j | none => true)
  | _, _ => false
def resB (P : Program) : List ResultVar → List RV → Bool
  | [], [] => true
  | x :: l, y :: l' => rvB P x y && resB P l l'
  | _, _ => false

def tupOf : List AV → AV
  | [v] => v
  | vs => .tup vs

/-- The results, from left to right. -/
def retX (C : Ctx) : List RV → List AV → St → Prop
  | [], acc, st => C.R (tupOf acc.reverse) st.mem
  | .t n :: l, acc, st => retX C l (look st.env n :: acc) st
  | .c n k :: l, acc, st => match evK (.load k (.t n)) st.env st.mem with
    | some (p, v, _) => p ∧ retX C l (v :: acc) st
    | none => False

def resF (tmps : Array Value) : ResultVar → Sem Value
  | .tmp t => pure (tmps.getD t undef)
  | .cell a t => do loadVar t (← asAddr (tmps.getD a undef))

theorem run_loadAt {P : Program} {t : TypeId} {v x : Value} {w : World} (h : (Instr.loadAt t v).run P w = .ok x w) : ((do loadVar t (← asAddr v)) : Sem Value).run P w = .ok x w := by
  unfold Instr.loadAt at h
  cases v <;> try (simp [Instr.sureAddr, Sem.run, stuck] at h; done)
  rename_i a
  cases a with
  | none => simp [Instr.sureAddr, Sem.run, stuck] at h
  | some a => simpa [Instr.sureAddr, asAddr] using h

theorem rv_cell {P : Program} {N : Nat} {H : Hp} {F : Fr} {β : Bt} {a : Act} {w : World} {n : Nat} {k : Option Nat} {ty : TypeId} {p : Prop} {v : AV} {m : List Ent} (hr : Rel H F β N st a w) (ha : aggB P ty = some k.isSome) (hz : ∀ j, k = some j → szB P ty = some j)
    (he : evK (.load k (.t n)) st.env st.mem = some (p, v, m)) (hp : p) : ∃ x, (resF a.tmps (.cell n ty)).run P w = .ok x w ∧ Rep H β v x := by
  let o : Oper := { (default : Oper) with op := .load ty (.tmp n) }
  have key : ∀ {v : AV}, GoodS P H β o a w v → ∃ x, (resF a.tmps (.cell n ty)).run P w = .ok x w ∧ Rep H β v x := by
    intro v ⟨x, h1, h2⟩
    refine ⟨x, ?_, h2⟩
    have h3 : (execOp a.eval o).run P w = ((Instr.loadAt ty (a.tmps.getD n undef)).run P w).andThen fun y w' => .ok (.value y) w' := by
      simp only [execOp, o]
      first
        | (simp only [Sem.run_bind, Sem.run_pure]; rfl)
        | (simp only [Sem.run_map]; rfl)
        | simp
    rw [h3] at h1
    have : (Instr.loadAt ty (a.tmps.getD n undef)).run P w = .ok x w := by
      cases hh : (Instr.loadAt ty (a.tmps.getD n undef)).run P w with
      | ok y w' => rw [hh] at h1; simp only [Result.andThen_ok] at h1; cases h1; rfl
      | halt y w' => rw [hh] at h1; simp [Result.andThen] at h1
    exact run_loadAt this
  cases k with
  | none =>
    simp only [evK] at he
    split at he
    · rename_i cs hx
      cases cs with
      | nil => simp at he
      | cons c cs =>
        simp only [List.head?_cons, Option.some.injEq] at he
        cases he
        exact key (snd_load_none_ip (o := o) (y := .tmp n) (t := ty) hr (by simp [chkAr]) rfl (by simpa using ha) hx)
    · rename_i i q off hx
      split at he
      · rename_i es rows hi
        split at he
        · rename_i row hr'
          split at he
          · rename_i c hj
            cases he
            exact key (snd_load_none_mp (o := o) (y := .tmp n) (t := ty) hr (by simp [chkAr]) rfl (by simpa using ha) hx hi hr' hj)
          · cases he
        · cases he
      · cases he
    · cases he
  | some j =>
    simp only [evK] at he
    split at he
    · rename_i cs hx
      cases he
      exact key (snd_load_some_ip (o := o) (y := .tmp n) (t := ty) hr (by simp [chkAr]) rfl (by simpa using ha) (hz j rfl) hx hp)
    · rename_i i q off hx
      split at he
      · rename_i es rows hi
        split at he
        · rename_i row hr'
          cases he
          exact key (snd_load_some_mp (o := o) (y := .tmp n) (t := ty) hr (by simp [chkAr]) rfl (by simpa using ha) (hz j rfl) hx hi hr' hp)
        · cases he
      · cases he
    · cases he

theorem retX_run {N : Nat} {H : Hp} {F : Fr} {β : Bt} {a : Act} {w : World} (hr : Rel H F β N st a w) : ∀ (l : List ResultVar) (rs : List RV) (acc : List AV), resB C.P l rs = true → retX C rs acc st →
    ∃ vs xs, (l.mapM (resF a.tmps)).run C.P w = .ok xs w ∧ xs.length = vs.length ∧ C.R (tupOf (acc.reverse ++ vs)) st.mem ∧ ∀ (i : Nat) v x, vs[i]? = some v → xs[i]? = some x → Rep H β v x
  | [], [], acc, _, h => ⟨[], [], by simp, rfl, by simpa [retX] using h, fun i v x h => by simp at h⟩
  | [], _ :: _, _, h, _ | _ :: _, [], _, h, _ => by simp [resB] at h
  | rv :: l, y :: rs, acc, hb, h => by
    simp only [resB, Bool.and_eq_true] at hb
    obtain ⟨hb1, hb2⟩ := hb
    have fin : ∀ v x, (resF a.tmps rv).run C.P w = .ok x w → Rep H β v x → retX C rs (v :: acc) st →
        ∃ vs xs, ((rv :: l).mapM (resF a.tmps)).run C.P w = .ok xs w ∧ xs.length = vs.length ∧ C.R (tupOf (acc.reverse ++ vs)) st.mem ∧ ∀ (i : Nat) v x, vs[i]? = some v → xs[i]? = some x → Rep H β v x := by
      intro v x h1 h2 h3
      obtain ⟨vs, xs, g1, g2, g3, g4⟩ := retX_run hr l rs (v :: acc) hb2 h3
      refine ⟨v :: vs, x :: xs, ?_, by simp [g2], by simpa using g3, fun i v' x' hv hx => ?_⟩
      · simp only [List.mapM_cons, Sem.run_bind, h1, Result.andThen_ok, g1, Sem.run_pure]
      · cases i with
        | zero => simp at hv hx; subst hv; subst hx; exact h2
        | succ i => exact g4 i v' x' (by simpa using hv) (by simpa using hx)
    cases rv with
    | tmp t =>
      cases y with
      | c _ _ => simp [rvB] at hb1
      | t n =>
        simp only [rvB, beq_iff_eq] at hb1
        subst hb1
        exact fin _ _ (by simp [resF]) (hr.env t) h
    | cell b ty =>
      cases y with
      | t _ => simp [rvB] at hb1
      | c n k =>
        simp only [rvB, Bool.and_eq_true, beq_iff_eq] at hb1
        obtain ⟨⟨rfl, c2⟩, c3⟩ := hb1
        simp only [retX] at h
        split at h
        · rename_i p v m he
          obtain ⟨x, h1, h2⟩ := rv_cell (P := C.P) hr c2 (fun j hj => by subst hj; simpa using c3) he h.1
          exact fin v x h1 h2 h.2
        · exact h.elim

def resV : List Value → Value
  | [v] => v
  | vs => .tuple vs.toArray

theorem AW.leave {rs : List RV} {H : Hp} {F : Fr} {β : Bt} {a : Act} {w : World} {b : Frame} {cs : List Frame} {todo todo' : List Item} (hres : resB C.P C.fn.results.toList rs = true) (h : retX C rs [] st)
    (hr : Rel H F β C.fn.ntmps st a w) (hs : Steps C.P (lone (b.at a todo) cs w) (lone { b.at a todo' with mode := .returning } cs w)) : Fin C H F β b cs (lone (b.at a todo) cs w) := by
  obtain ⟨vs, xs, g1, g2, g3, g4⟩ := retX_run hr _ rs [] hres h
  simp only [List.reverse_nil, List.nil_append] at g3
  have hrun : (results C.fn a.tmps).run C.P w = .ok (resV xs) w := by
    unfold results
    rw [Array.mapM_eq_mapM_toList]
    have hm : ∀ f : ResultVar → Sem Value, (∀ x, f x = resF a.tmps x) → (C.fn.results.toList.mapM f).run C.P w = .ok xs w := fun f hf => by rw [show f = resF a.tmps from funext hf, g1]
    simp only [Sem.run_bind, Sem.run_map]
    rw [hm _ (fun x => by cases x <;> rfl)]
    simp only [Result.andThen_ok, Sem.run_pure]
    congr 1
    match xs with
    | [] => rfl
    | [r] => rfl
    | x :: y :: rs => simp [resV]
  refine ⟨a, todo', w, _, _, st.mem, H, β, hs, hr.defers, hrun, g3, ?_, hr.sat, .refl _ _, fun _ _ => rfl⟩
  match vs, xs, g2 with
  | [], [], _ => exact .tup rfl (by simp)
  | [v], [x], _ => exact g4 0 v x rfl rfl
  | v1 :: v2 :: vs, x1 :: x2 :: xs, g2 =>
    refine .tup (by simpa using g2) fun i c v hc hv => ?_
    exact g4 i c v hc (by simpa using hv)

theorem AW.ret {rs : List RV} (hres : resB C.P C.fn.results.toList rs = true) (h : retX C rs [] st) : AW C (.code .ret :: k) st := by
  intro H F β a w b cs todo hmi hr _
  cases hmi with
  | code hc hk =>
    rename_i c' k'
    cases c' <;> simp [chkC] at hc
    exact AW.leave hres h hr (.one step_ret)

theorem AW.fall {rs : List RV} (hres : resB C.P C.fn.results.toList rs = true) (h : retX C rs [] st) : AW C [] st := by
  intro H F β a w b cs todo hmi hr _
  cases hmi with
  | nil => exact AW.leave hres h hr (.one step_end)

/-- An owned array becomes memory that never changes. -/
theorem AW.freeze {i es : Nat} {rows : List (List AV)} (hi : st.mem[i]? = some (.arr es rows)) (hp : ∀ r ∈ rows, ∀ c ∈ r, c.pure = true) (hbig : rows.length ≤ BIG)
    (he : ∀ p ∈ st'.env, look st.env p.1 = p.2 ∨ ∃ off len, look st.env p.1 = .ms i es off len ∧ off + len ≤ rows.length ∧ p.2 = .sl es ((rows.drop off).take len))
    (hm : st'.mem = st.mem.set i .dead) (h : AW C k st') : AW C k st := by
  intro H F β a w b cs todo hmi hr hn
  have hβ : ∃ x, β[i]? = some x := by
    have := (List.getElem?_eq_some_iff.1 hi).1
    exact ⟨β[i]'(by rw [hr.sat.hl]; exact this), List.getElem?_eq_getElem _⟩
  obtain ⟨x, hβ⟩ := hβ
  have hn' : C.n0 ≤ st'.mem.length := by rw [hm]; simpa using hn
  cases x with
  | none =>
    have hrows : rows = [] := hr.sat.ent i _ _ hi hβ
    refine h H F β a w b cs todo hmi ⟨hr.defers, hr.size, fun n => ?_, by rw [hm]; exact hr.sat.kill i⟩ hn'
    rcases look_mem (env := st'.env) (n := n) with e | e
    · rw [e]; exact .junk
    · rcases he _ e with e1 | ⟨off, len, e1, e2, e3⟩
      · simp only at e1; rw [← e1]; exact hr.env n
      · simp only at e1 e3
        rw [e3]
        have := hr.env n
        rw [e1] at this
        subst hrows
        simp at e2
        obtain ⟨rfl, rfl⟩ := e2
        generalize a.tmps.getD n undef = v at this
        cases this with
        | ms hb' _ _ _ => rw [hβ] at hb'; cases hb'
        | ms0 hb' => exact .sl 0 0 #[] (fun _ _ => undef) rfl (Nat.le_refl _) (Nat.zero_le _) (by simp) (by simp) (by simp) (by simp) (by simp)
  | some x =>
    obtain ⟨blk, es', cap⟩ := x
    obtain ⟨rfl, cells, elem, g2, g3, g4, g5, g6, g7⟩ := hr.sat.ent i _ _ hi hβ
    have hap := hr.sat.apart i _ _ hi rfl hβ
    have hH := HExt_hset (b := blk) (o := .cells cells elem (0, 0)) hap.1
    have hk := hr.sat.kill i
    have get : ∀ (j : Nat) (e : Ent), (st.mem.set i Ent.dead)[j]? = some e → e.live = true → j ≠ i ∧ st.mem[j]? = some e := by
      intro j e hj he
      rw [List.getElem?_set] at hj
      split at hj
      · split at hj
        · cases hj; simp at he
        · cases hj
      · rename_i e; exact ⟨fun h => e h.symm, hj⟩
    have hs' : Sat (hset H blk (.cells cells elem (0, 0))) F β (st.mem.set i .dead) w :=
      { hH := fun b' o hb' => by
          unfold hset at hb'
          split at hb'
          · rename_i e; subst e; cases hb'; exact g2
          · exact hk.hH _ _ hb'
        hF := hk.hF
        sm := hk.sm
        hl := hk.hl
        ent := fun j e y hj hy => (hk.ent j e y hj hy).mono hH (.refl _) fun _ _ _ _ _ => rfl
        apart := fun j e y hj he hy => by
          refine ⟨?_, (hk.apart j e y hj he hy).2⟩
          unfold hset
          split
          · rename_i e'
            obtain ⟨hne, hj'⟩ := get j e hj he
            exact absurd (hr.sat.inj j i e _ y _ hj' he hi rfl hy hβ e') hne
          · exact (hk.apart j e y hj he hy).1
        inj := hk.inj }
    refine .ext (HX_hset hap) (fun _ _ => rfl) (h _ F β a w b cs todo hmi ⟨hr.defers, hr.size, fun n => ?_, by rw [hm]; exact hs'⟩ hn')
    rcases look_mem (env := st'.env) (n := n) with e | e
    · rw [e]; exact .junk
    · rcases he _ e with e1 | ⟨off, len, e1, e2, e3⟩
      · simp only at e1; rw [← e1]; exact (hr.env n).mono hH (.refl _)
      · simp only at e1 e3
        rw [e3]
        have := hr.env n
        rw [e1] at this
        generalize a.tmps.getD n undef = v at this
        cases this with
        | @ms _ _ _ _ _ b' capT' cap' hb' hcap hlc hbg =>
          rw [hβ] at hb'; cases hb'
          refine .sl blk (off * es') cells (fun i j => cells.getD ((off + i) * es' + j) undef) (by simp; omega) hlc hbg (fun r hr => g5 r (List.mem_of_mem_drop (List.mem_of_mem_take hr)))
            (fun _ => ⟨rfl, elem, (0, 0), by simp [hset]⟩) (fun q j hq hj => ?_) (fun r hr => g6 r (List.mem_of_mem_drop (List.mem_of_mem_take hr))) fun q r j c hq hj => ?_
          · simp at hq
            have hlt : (off + q) * es' + j < cells.size := by
              rw [g3]
              have : (off + q + 1) * es' ≤ cap * es' := Nat.mul_le_mul_right _ (by omega)
              rw [Nat.add_mul (off + q) 1] at this; omega
            have e5 : off * es' + q * es' + j = (off + q) * es' + j := by rw [Nat.add_mul]
            rw [e5]; simp [hlt]
          · rw [List.getElem?_take] at hq
            split at hq
            · rw [List.getElem?_drop] at hq
              obtain ⟨v, hv, hrep⟩ := g7 (off + q) r j c hq hj
              have : cells.getD ((off + q) * es' + j) undef = v := by simp [hv]
              rw [this]
              exact (hrep.pure (hp r (List.mem_of_getElem? hq) c (List.mem_of_getElem? hj)) []).mono hH (.refl _)
            · cases hq
        | ms0 hb' => 
          rw [List.take_zero]
          exact .sl 0 0 #[] (fun _ _ => undef) rfl (Nat.le_refl _) (Nat.zero_le _) (by simp) (by simp) (by simp) (by simp) (by simp)

/-- A slot that shows an empty slice without room gets an owned array of its own. -/
theorem AW.own {n es : Nat} (hn : look st.env n = .e0) (h : AW C k ⟨(n, .ms st.mem.length es 0 0) :: st.env, st.mem ++ [.arr es []]⟩) : AW C k st := by
  intro H F β a w b cs todo hmi hr hn0
  refine .ext (.refl _ _) ((BExt.append β [none]).eq0 (by rw [hr.sat.hl]; exact hn0)) (h H F (β ++ [none]) a w b cs todo hmi ⟨hr.defers, hr.size, fun m => ?_, hr.sat.own_none es⟩ (by simp; omega))
  simp only [look]
  split
  · rename_i e; subst e
    have := hr.env n
    rw [hn] at this
    generalize a.tmps.getD n undef = v at this
    cases this with
    | e0 => exact .ms0 (x := none) (by rw [← hr.sat.hl]; simp)
  · exact (hr.env m).mono (.refl _) (.append _ _)

theorem AW.wrap {x y : CC} (hw : ∀ c, chkC C.P C.fn.ntmps y c = true → chkC C.P C.fn.ntmps x c = true) (h : AW C (.code x :: k) st) : AW C (.code y :: k) st := by
  intro H F β a w b cs todo hm hr hn
  cases hm with
  | code hc hk => exact h H F β a w b cs _ (.code (hw _ hc) hk) hr hn

theorem AW.lit {n : Nat} {v : AV} (hv : Imp (look st.env n) v) (h : AW C k ⟨(n, v) :: st.env, st.mem⟩) : AW C k st := by
  intro H F β a w b cs todo hmi hr hn
  refine h H F β a w b cs todo hmi ⟨hr.defers, hr.size, fun m => ?_, hr.sat⟩ hn
  simp only [look]
  split
  · rename_i e; subst e; exact hv _ _ _ (hr.env _)
  · exact hr.env m

theorem Imp.e0 {es : Nat} : Imp .e0 (.sl es []) := fun H β x h => by
  cases h
  exact .sl 0 0 #[] (fun _ _ => undef) rfl (Nat.le_refl _) (Nat.zero_le _) (by simp) (by simp) (by simp) (by simp) (by simp)

theorem look_self {env : List (Nat × AV)} {n : Nat} (h : look env n ≠ .junk) : (n, look env n) ∈ env := by
  rcases look_mem (env := env) (n := n) with e | e
  · exact absurd e h
  · exact e

theorem look_of_mem_first : ∀ (env : List (Nat × AV)) (p : Nat × AV), p ∈ env.map (fun q => (q.1, look env q.1)) → look env p.1 = p.2 := by
  intro env p hp
  obtain ⟨q, _, rfl⟩ := List.mem_map.1 hp
  rfl

/-- One slot is frozen; the others stay as they are. -/
theorem AW.frz1 {n i es off len : Nat} {rows : List (List AV)} (hn : look st.env n = .ms i es off len) (hi : st.mem[i]? = some (.arr es rows)) (hp : ∀ r ∈ rows, ∀ c ∈ r, c.pure = true) (hbig : rows.length ≤ BIG) (hl : off + len ≤ rows.length)
    (h : AW C k ⟨(n, .sl es ((rows.drop off).take len)) :: st.env, st.mem.set i .dead⟩) : AW C k st := by
  have h' : AW C k ⟨(n, .sl es ((rows.drop off).take len)) :: st.env.map (fun q => (q.1, look st.env q.1)), st.mem.set i .dead⟩ := by
    intro H F β a w b cs todo hmi hr hn'
    refine h H F β a w b cs todo hmi ⟨hr.defers, hr.size, fun m => ?_, hr.sat⟩ hn'
    have := hr.env m
    simp only [look] at this ⊢
    split
    · rename_i e; rw [if_pos e] at this; exact this
    · rename_i e
      rw [if_neg e] at this
      have hl : ∀ (env : List (Nat × AV)) (env0 : List (Nat × AV)) (m : Nat), look (env.map fun q => (q.1, look env0 q.1)) m = if (env.any fun q => q.1 == m) then look env0 m else .junk := by
        intro env env0 m
        induction env with
        | nil => rfl
        | cons q env ih =>
          simp only [List.map_cons, look, List.any_cons]
          by_cases hq : q.1 = m
          · simp [hq]
          · have hq' : (q.1 == m) = false := by simpa using hq
            rw [if_neg hq, ih]
            simp only [hq', Bool.false_or]
      rw [hl] at this
      split at this
      · exact this
      · rename_i hnot
        have : look st.env m = .junk := by
          rcases look_mem (env := st.env) (n := m) with e | e
          · exact e
          · exact absurd (List.any_eq_true.2 ⟨_, e, by simp⟩) hnot
        rw [this]; exact .junk
  refine AW.freeze hi hp hbig (fun p hp' => ?_) rfl h'
  rcases List.mem_cons.1 hp' with rfl | hp'
  · exact .inr ⟨off, len, hn, hl, rfl⟩
  · exact .inl (look_of_mem_first _ _ hp')

end
end Go.Fw
