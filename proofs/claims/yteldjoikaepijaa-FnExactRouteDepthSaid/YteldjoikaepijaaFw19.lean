/- The verification condition, as far as it goes by itself: up to a loop, an unknown call, a joint. -/
import Derived.Test.YteldjoikaepijaaFw18
namespace Go.Fw
open Go

/-- What a value's own form tells. -/
def factA : AV → Prop
  | .int k n => k.min ≤ n ∧ n ≤ k.max
  | .str s => s.length ≤ BIG
  | .sl _ rows => rows.length ≤ BIG
  | _ => True

theorem Rep.fact {H : Hp} {β : Bt} {v : AV} {x : Value} (h : Rep H β v x) : factA v := by
  cases h <;> simp only [factA] <;> first | trivial | assumption | (rename_i h1 h2 h3 h4 h5 h6 h7 h8; omega)

def preF (env : List (Nat × AV)) : K → Prop
  | .lens (.t n) | .lenl (.t n) => factA (look env n)
  | _ => True
def postF (d : Option Nat) (v : AV) : K → Prop
  | .load _ _ | .field _ _ _ | .idx _ _ => match d with
    | some _ => factA v
    | none => True
  | _ => True

theorem AW.fact {C : Ctx} {its : List CItem} {st : St} {p : Prop} (hp : ∀ H F β a w, Rel H F β C.fn.ntmps st a w → p) (h : p → AW C its st) : AW C its st :=
  fun H F β a w b cs todo hm hr hn => h (hp _ _ _ _ _ hr) H F β a w b cs todo hm hr hn

theorem preF_rel {H : Hp} {F : Fr} {β : Bt} {N : Nat} {st : St} {a : Act} {w : World} (h : Rel H F β N st a w) (k : K) : preF st.env k := by
  unfold preF
  split
  · exact (h.env _).fact
  · exact (h.env _).fact
  · trivial

theorem postF_rel {H : Hp} {F : Fr} {β : Bt} {N : Nat} {st : St} {d : Option Nat} {v : AV} {m : List Ent} {a : Act} {w : World} (h : Rel H F β N ⟨put st.env d v, m⟩ a w) (k : K) : postF d v k := by
  have : ∀ x, d = some x → factA v := fun x hx => by
    have := (h.env x).fact
    subst hx
    simpa [look] using this
  unfold postF
  split <;> first | trivial | (split <;> first | exact this _ rfl | trivial)

def vc (C : Ctx) (Φ : List (En C.P)) (rs : List RV) : Nat → List CItem → St → Prop
  | 0, its, st => AW C its st
  | _ + 1, [], st => retX C rs [] st
  | n + 1, .inBlock _ :: k, st => vc C Φ rs n k st
  | _ + 1, .inLoop c :: k, st => AW C (.inLoop c :: k) st
  | _ + 1, .stop :: k, st => AW C (.stop :: k) st
  | n + 1, .ops keep [] :: k, st => vc C Φ rs n k ⟨keep.map fun m => (m, look st.env m), st.mem⟩
  | n + 1, .ops keep (.mk d g kk :: l) :: k, st =>
    match g with
    | none => match stopsX Φ kk with
      | true => AW C (.ops keep (.mk d none kk :: l) :: k) st
      | false =>
      preF st.env kk → match evX Φ kk st.env st.mem with
      | some (p, v, m) => p ∧ (postF d v kk → vc C Φ rs n (.ops keep l :: k) ⟨put st.env d v, m⟩)
      | none => False
    | some (t, bb) =>
      match look st.env t with
      | .bool x =>
        ((x == bb) = true → (match stopsX Φ kk with
            | true => AW C (.ops keep (.mk d (some (t, bb)) kk :: l) :: k) ⟨(t, .bool bb) :: st.env, st.mem⟩
            | false =>
            preF ((t, .bool bb) :: st.env) kk → match evX Φ kk ((t, .bool bb) :: st.env) st.mem with
            | some (p, v, m) => p ∧ (postF d v kk → vc C Φ rs n (.ops keep l :: k) ⟨put ((t, .bool bb) :: st.env) d v, m⟩)
            | none => False)) ∧
          ((x == bb) = false → vc C Φ rs n (.ops keep l :: k) ⟨put ((t, .bool (!bb)) :: st.env) d .junk, st.mem⟩)
      | _ => False
  | n + 1, .code .skip :: k, st => vc C Φ rs n k st
  | n + 1, .code (.seq a b) :: k, st => vc C Φ rs n (.code a :: .code b :: k) st
  | n + 1, .code (.block id b) :: k, st => vc C Φ rs n (.code b :: .inBlock id :: k) st
  | n + 1, .code (.exit id) :: k, st => match cExit id k with
      | some k' => vc C Φ rs n k' st
      | none => False
  | n + 1, .code (.reg keep ops) :: k, st => vc C Φ rs n (.ops keep ops :: k) st
  | n + 1, .code (.regd keep ord anc cls ops) :: k, st => match ops.any (fun c => stopsX Φ c.k) with
      | true => AW C (.code (.regd keep ord anc cls ops) :: k) st
      | false =>
        runD Φ [] ops cls st (fun st' => vc C Φ rs n k ⟨keep.map fun m => (m, look st'.env m), st'.mem⟩)
  | n + 1, .code (.cond c a b) :: k, st => match ar st.env c with
      | .bool x => (x = true → vc C Φ rs n (.code a :: k) st) ∧ (x = false → vc C Φ rs n (.code b :: k) st)
      | _ => False
  | _ + 1, .code (.loop b) :: k, st => AW C (.code (.loop b) :: k) st
  | _ + 1, .code .ret :: _, st => retX C rs [] st
  | _ + 1, .code (.join b) :: k, st => AW C (.code (.join b) :: k) st
  | n + 1, .code (.own m es b) :: k, st => match look st.env m with
      | .e0 => vc C Φ rs n (.code b :: k) ⟨(m, .ms st.mem.length es 0 0) :: st.env, st.mem ++ [.arr es []]⟩
      | _ => False
  | n + 1, .code (.frz m es b) :: k, st => match look st.env m with
      | .e0 => vc C Φ rs n (.code b :: k) ⟨(m, .sl es []) :: st.env, st.mem⟩
      | .sl _ _ => vc C Φ rs n (.code b :: k) st
      | .ms i es' off len => match st.mem[i]? with
        | some (.arr es'' rows) => (es' = es ∧ es'' = es ∧ (rows.all fun r => AV.pureL r) = true ∧ rows.length ≤ BIG ∧ off + len ≤ rows.length) ∧
            vc C Φ rs n (.code b :: k) ⟨(m, .sl es ((rows.drop off).take len)) :: st.env, st.mem.set i .dead⟩
        | _ => False
      | _ => False

theorem runD_mono {P : Program} {Φ : List (En P)} {cr : List (Nat × CR)} {Q Q' : St → Prop} (hQ : ∀ st, Q st → Q' st) : ∀ (l : List COp) (cls : List Nat) (st : St), runD Φ cr l cls st Q → runD Φ cr l cls st Q' := by
  intro l
  induction l with
  | nil => intro cls st h; exact hQ _ h
  | cons c l ih =>
    intro cls st h
    obtain ⟨d, g, k⟩ := c
    cases g with
    | none =>
      simp only [runD] at h ⊢
      refine ⟨h.1, ?_⟩
      have h2 := h.2
      split at h2
      · exact ⟨h2.1, ih _ _ h2.2⟩
      · exact h2.elim
    | some gg =>
      obtain ⟨t, bb⟩ := gg
      simp only [runD] at h ⊢
      split at h
      · refine ⟨fun hx => ?_, fun hx => ih _ _ (h.2 hx)⟩
        have h2 := h.1 hx
        refine ⟨h2.1, ?_⟩
        have h2 := h2.2
        split at h2
        · exact ⟨h2.1, ih _ _ h2.2⟩
        · exact h2.elim
      · exact h.elim

theorem vc_sound {C : Ctx} {Φ : List (En C.P)} {rs : List RV} (hmix : C.P.follows .mixedOrders = true) (hres : resB C.P C.fn.results.toList rs = true) : ∀ (n : Nat) (its : List CItem) (st : St), vc C Φ rs n its st → AW C its st := by
  intro n
  induction n with
  | zero => intro its st h; exact h
  | succ n ih =>
    intro its st h
    cases its with
    | nil => exact AW.fall hres h
    | cons it k =>
      cases it with
      | inBlock id => exact AW.inBlock (ih _ _ h)
      | inLoop c => exact h
      | stop => exact h
      | ops keep l =>
        cases l with
        | nil => exact AW.ops_end (ih _ _ h)
        | cons c l =>
          obtain ⟨d, g, kk⟩ := c
          cases g with
          | none =>
            simp only [vc] at h
            cases hc : stopsX Φ kk with
            | true => rw [hc] at h; exact h
            | false =>
              rw [hc] at h
              simp only [] at h
              refine AW.fact (fun _ _ _ _ _ hr => preF_rel hr kk) fun hf => ?_
              replace h := h hf
              split at h
              · rename_i p v m he
                exact AW.opx he h.1 (AW.fact (fun _ _ _ _ _ hr => postF_rel hr kk) fun hf => ih _ _ (h.2 hf))
              · exact h.elim
          | some g =>
            obtain ⟨t, bb⟩ := g
            simp only [vc] at h
            split at h
            · rename_i x hx
              refine AW.opg_split hx (fun hxb => ?_) fun hxb => ih _ _ (h.2 hxb)
              have h1 := h.1 hxb
              cases hc : stopsX Φ kk with
              | true => rw [hc] at h1; exact h1
              | false =>
                rw [hc] at h1
                simp only [] at h1
                refine AW.fact (fun _ _ _ _ _ hr => preF_rel hr kk) fun hf => ?_
                replace h1 := h1 hf
                split at h1
                · rename_i p v m he
                  exact AW.opxg (by simp [look]) he h1.1 (AW.fact (fun _ _ _ _ _ hr => postF_rel hr kk) fun hf => ih _ _ (h1.2 hf))
                · exact h1.elim
            · exact h.elim
      | code c =>
        cases c with
        | skip => exact AW.skip (ih _ _ h)
        | seq a b => exact AW.seq (ih _ _ h)
        | block id b => exact AW.block (ih _ _ h)
        | exit id =>
          simp only [vc] at h
          split at h
          · rename_i k' he; exact AW.exit he (ih _ _ h)
          · exact h.elim
        | reg keep ops => exact AW.reg (ih _ _ h)
        | regd keep ord anc cls ops =>
          simp only [vc] at h
          cases hc : ops.any (fun c => stopsX Φ c.k) with
          | true => rw [hc] at h; exact h
          | false =>
            rw [hc] at h
            exact AW.regd hmix [] (runD_mono (fun st h => ih _ _ h) _ _ _ h)
        | cond c a b =>
          simp only [vc] at h
          split at h
          · rename_i x hx; exact AW.cond hx (fun e => ih _ _ (h.1 e)) fun e => ih _ _ (h.2 e)
          · exact h.elim
        | loop b => exact h
        | ret => exact AW.ret hres h
        | join b => exact h
        | own m es b =>
          simp only [vc] at h
          refine AW.wrap (x := b) (fun c hc => by simpa only [chkC] using hc) ?_
          split at h
          · rename_i he; exact AW.own he (ih _ _ h)
          · exact h.elim
        | frz m es b =>
          simp only [vc] at h
          refine AW.wrap (x := b) (fun c hc => by simpa only [chkC] using hc) ?_
          split at h
          · rename_i he; exact AW.lit (he ▸ Imp.e0) (ih _ _ h)
          · exact ih _ _ h
          · rename_i he
            split at h
            · rename_i hi
              obtain ⟨⟨rfl, rfl, h3, h4, h5⟩, h6⟩ := h
              exact AW.frz1 he hi (fun r hr c hc => (AV.pureL_iff _).1 (List.all_eq_true.1 h3 r hr) c hc) h4 h5 (ih _ _ h6)
            · exact h.elim
          · exact h.elim

theorem Spec.drop {P : Program} {f : FuncId} {args : List AV} {r : AV} (hr : r.pure = true) (h : Spec P f args [] (fun r' _ => r' = r)) : Spec P f args [] (fun r' m' => r' = r ∧ m' = []) :=
  ⟨h.1, fun H F β cargs w hs hl ha => (h.2 H F β cargs w hs hl ha).mono fun _ _ ⟨v, r', m', H', β', h1, h2, h3, h4, h5, h6, h7⟩ => by
    subst h2
    refine ⟨v, r', [], H', [], h1, ⟨rfl, rfl⟩, h3.pure hr _, ?_, h5, fun i hi => by simp at hi, by simp⟩
    have := Sat.drop (mem := []) (rest := m') (by simpa using h4) (by simp)
    simpa using this⟩

/-- The contract of a function that owns nothing, from its verification condition. -/
theorem PS.of_vc {P : Program} {Φ : List (En P)} {f : FuncId} {fn : Func} {c0 : Code} {c : CC} {args : List AV} {r : AV} {rs : List RV} (fuel : Nat) (hmix : P.follows .mixedOrders = true) (hf : P.funcs[f]? = some fn) (hcall : ∀ as w, (callFunc f as).run P w = .ok (.enter f as) w)
    (hb : fn.body = some c0) (hc : chkC P fn.ntmps c c0 = true) (hn : args.length ≤ fn.ntmps) (hres : resB P fn.results.toList rs = true) (ha : AV.pureL args = true) (hr : r.pure = true)
    (h : vc ⟨P, fn, 0, fun r' _ => r' = r⟩ Φ rs fuel [.code c] ⟨argEnv 0 args, []⟩) : PS P f args r :=
  ⟨ha, hr, Spec.drop hr (Spec.of_AW hf hcall hb hc hn (fun _ _ _ => Nat.zero_le _) (vc_sound (C := ⟨P, fn, 0, fun r' _ => r' = r⟩) hmix hres fuel _ _ h))⟩

theorem nth_of {α : Type} {l : List α} {f : α → List AV} {i : Nat} {x : α} (h : l[i]? = some x) : nth (l.map f) i = f x := by
  simp [nth, h]

end Go.Fw
