/- Contracts of functions that own nothing, gathered in tables; operations with such calls. -/
import Derived.Test.YteldjoikaepijaaFw14
namespace Go.Fw
open Go

mutual
theorem AV.bel_pure {n : Nat} : ∀ {v : AV}, v.pure = true → v.bel n = true
  | .ms .., h | .mp .., h | .mapr _, h => by simp at h
  | .agg cs, h => by simp only [AV.bel]; exact AV.belL_pure (by simpa using h)
  | .tup cs, h => by simp only [AV.bel]; exact AV.belL_pure (by simpa using h)
  | .fn f cs, h => by simp only [AV.bel]; exact AV.belL_pure (by simpa using h)
  | .opt b v, h => by simp only [AV.bel]; exact AV.bel_pure (v := v) (by simpa using h)
  | .junk, _ | .int _ _, _ | .bool _, _ | .str _, _ | .e0, _ | .sl _ _, _ | .ip _, _ | .nilp, _ | .nilf, _ | .nilm, _ => by simp [AV.bel]
theorem AV.belL_pure {n : Nat} : ∀ {l : List AV}, AV.pureL l = true → AV.belL n l = true
  | [], _ => by simp [AV.belL]
  | c :: cs, h => by
    simp only [pureL_cons, Bool.and_eq_true] at h
    simp only [AV.belL, Bool.and_eq_true]; exact ⟨AV.bel_pure h.1, AV.belL_pure h.2⟩
end

/-- The function answers `r` to `args`, and nothing that is owned is in play. -/
structure PS (P : Program) (f : FuncId) (args : List AV) (r : AV) : Prop where
  pa : AV.pureL args = true
  pr : r.pure = true
  sp : Spec P f args [] (fun r' m' => r' = r ∧ m' = [])

/-- A row of a table of contracts. -/
structure En (P : Program) where
  f : FuncId
  sem : List AV → Option (Prop × AV)
  ok : ∀ args p r, sem args = some (p, r) → p → PS P f args r

open Classical in
noncomputable def mkE {P : Program} {α : Type} (f : FuncId) (enc : α → List AV) (pre : α → Prop) (res : α → AV) (ok : ∀ a, pre a → PS P f (enc a) (res a)) : En P where
  f := f
  sem := fun args => if h : ∃ a, enc a = args then some (pre h.choose, res h.choose) else none
  ok := by
    intro args p r h hp
    split at h
    · rename_i hh
      cases h
      have e := hh.choose_spec
      have := ok _ hp
      rw [e] at this; exact this
    · cases h

theorem mkE_sem {P : Program} {α : Type} {f : FuncId} {enc : α → List AV} {pre : α → Prop} {res : α → AV} {ok : ∀ a, pre a → PS P f (enc a) (res a)} (inj : ∀ a b, enc a = enc b → a = b) (a : α) :
    (mkE f enc pre res ok).sem (enc a) = some (pre a, res a) := by
  have h : ∃ b, enc b = enc a := ⟨a, rfl⟩
  have e : h.choose = a := inj _ _ h.choose_spec
  simp only [mkE]
  rw [dif_pos h, e]

@[simp] theorem mkE_f {P : Program} {α : Type} {f : FuncId} {enc : α → List AV} {pre : α → Prop} {res : α → AV} {ok : ∀ a, pre a → PS P f (enc a) (res a)} : (mkE f enc pre res ok).f = f := rfl

def lookE {P : Program} : List (En P) → FuncId → Option (En P)
  | [], _ => none
  | e :: l, f => if e.f = f then some e else lookE l f
@[simp] theorem lookE_nil {P : Program} {f : FuncId} : lookE ([] : List (En P)) f = none := rfl
@[simp] theorem lookE_cons {P : Program} {e : En P} {l : List (En P)} {f : FuncId} : lookE (e :: l) f = if e.f = f then some e else lookE l f := rfl

theorem lookE_f {P : Program} {f : FuncId} {e : En P} : ∀ {l : List (En P)}, lookE l f = some e → e.f = f
  | [], h => by simp at h
  | x :: l, h => by
    simp only [lookE_cons] at h
    split at h
    · cases h; assumption
    · exact lookE_f h

def evX {P : Program} (Φ : List (En P)) (k : K) (env : List (Nat × AV)) (mem : List Ent) : Option Ev :=
  match k with
  | .call f xs => match lookE Φ f with
    | some e => match e.sem (xs.map (ar env)) with
      | some (p, v) => some (p, v, mem)
      | none => none
    | none => none
  | .callv _ _ => none
  | k => evK k env mem

def stopsX {P : Program} (Φ : List (En P)) : K → Bool
  | .call f _ => (lookE Φ f).isNone
  | .callv _ _ => true
  | _ => false

theorem evX_len {P : Program} {Φ : List (En P)} {k : K} {env : List (Nat × AV)} {mem : List Ent} {r : Ev} (h : evX Φ k env mem = some r) : mem.length ≤ r.2.2.length := by
  have plain : evK k env mem = some r → mem.length ≤ r.2.2.length := evK_len
  cases k
  case call f xs =>
    simp only [evX] at h
    split at h
    · split at h
      · cases h; exact Nat.le_refl _
      · cases h
    · cases h
  case callv f xs => simp [evX] at h
  all_goals exact plain h

/-- One operation on the machine, calls included. -/
theorem opX_run {C : Ctx} {H : Hp} {F : Fr} {β : Bt} {st : St} {b : Frame} {cs : List Frame} {Φ : List (En C.P)} {c : COp} {o : Oper} {r : Ev} {a : Act} {w : World} {os : Array Oper} {j : Nat} {idx : List Nat} {k' : List Item} (hj : os[j]? = some o) (hc : chkOp C.P C.fn.ntmps os c o = true)
    (hw : Region.wanted o (yielded os a.tmps) = true) (he : evX Φ c.k st.env st.mem = some r) (hs : r.1) (hr : Rel H F β C.fn.ntmps st a w) :
    ∃ a1 w1 H1 β1, Steps C.P (lone (b.at a (.inRegion os (j :: idx) :: k')) cs w) (lone (b.at a1 (.inRegion os idx :: k')) cs w1) ∧ HX F H H1 ∧ BExt β β1 ∧
      Rel H1 F β1 C.fn.ntmps ⟨put st.env c.d r.2.1, r.2.2⟩ a1 w1 := by
  obtain ⟨d, g, k⟩ := c
  have plain : evK k st.env st.mem = some r → ∃ a1 w1 H1 β1, Steps C.P (lone (b.at a (.inRegion os (j :: idx) :: k')) cs w) (lone (b.at a1 (.inRegion os idx :: k')) cs w1) ∧ HX F H H1 ∧ BExt β β1 ∧
      Rel H1 F β1 C.fn.ntmps ⟨put st.env d r.2.1, r.2.2⟩ a1 w1 := fun he => op_run (c := .mk d g k) hj hc hw rfl he hs hr
  cases k
  case call f xs =>
    obtain ⟨d1, d2⟩ := chkOp_dst hc
    simp only [COp.d] at d1
    obtain ⟨cargs, e1, e2, e3⟩ := call_op (P := C.P) hc rfl hr
    simp only [COp.k, evX] at he
    split at he
    · rename_i e hl
      split at he
      · rename_i p v hsem
        cases he
        have hef := lookE_f hl
        subst hef
        obtain ⟨hp, hv, hsp⟩ := e.ok _ _ _ hsem hs
        have hpa : ∀ v ∈ xs.map (ar st.env), v.pure = true := (AV.pureL_iff _).1 hp
        obtain ⟨r, m', a1, w1, H1, β1, q1, q2, q3, q4, q5⟩ := call_step (b := b) (cs := cs) (idx := idx) (k' := k') (is := []) hj hw d2 hr hsp e1
          (by rw [e2]; simp)
          (fun i v x h1 h2 => by rw [AV.ren_pure _ v (hpa v (List.mem_of_getElem? h1))]; exact e3 i _ x h1 h2) (fun v hv => AV.bel_pure (hpa v hv)) rfl List.nodup_nil
          (fun j i e h => by simp at h) (fun i h => by simp at h) (fun e h => by simp at h)
        obtain ⟨rfl, rfl⟩ := q1
        rw [← d1] at q5
        refine ⟨a1, w1, H1, β1, q2, q3, q4, ?_⟩
        rw [AV.ren_pure _ _ hv] at q5
        simpa [updMem] using q5
      · cases he
    · cases he
  case callv f xs => simp [evX] at he
  all_goals exact plain he

theorem AW.opx {C : Ctx} {k : List CItem} {st : St} {Φ : List (En C.P)} {d : Option Nat} {kk : K} {keep : List Nat} {l : List COp} {r : Ev} (he : evX Φ kk st.env st.mem = some r) (hs : r.1) (h : AW C (.ops keep l :: k) ⟨put st.env d r.2.1, r.2.2⟩) :
    AW C (.ops keep (.mk d none kk :: l) :: k) st := by
  intro H F β a w b cs todo hm hr hn
  cases hm with
  | ops ho hk =>
    rename_i os idx k'
    cases idx with
    | nil => simp [OpsM] at ho
    | cons j idx =>
      obtain ⟨⟨o, hj, hc⟩, ho⟩ := ho
      obtain ⟨a1, w1, H1, β1, e1, e2, e3, e4⟩ := opX_run (b := b) (cs := cs) (idx := idx) (k' := k') hj hc (wanted_none (chkOp_guard hc)) he hs hr
      exact .steps e1 (.ext e2 (e3.eq0 (by rw [hr.sat.hl]; exact hn)) (h H1 F β1 a1 w1 b cs _ (.ops ho hk) e4 (Nat.le_trans hn (evX_len he))))

/-- A guarded operation that is wanted. -/
theorem AW.opxg {C : Ctx} {k : List CItem} {st : St} {Φ : List (En C.P)} {d : Option Nat} {kk : K} {keep : List Nat} {l : List COp} {t : Nat} {bb : Bool} {r : Ev} (ht : look st.env t = .bool bb) (he : evX Φ kk st.env st.mem = some r) (hs : r.1)
    (h : AW C (.ops keep l :: k) ⟨put st.env d r.2.1, r.2.2⟩) : AW C (.ops keep (.mk d (some (t, bb)) kk :: l) :: k) st := by
  intro H F β a w b cs todo hm hr hn
  cases hm with
  | ops ho hk =>
    rename_i os idx k'
    cases idx with
    | nil => simp [OpsM] at ho
    | cons j idx =>
      obtain ⟨⟨o, hj, hc⟩, ho⟩ := ho
      have hwant := guard_wanted hc hr ht
      obtain ⟨a1, w1, H1, β1, e1, e2, e3, e4⟩ := opX_run (b := b) (cs := cs) (idx := idx) (k' := k') hj hc (hwant.trans (by simp)) he hs hr
      exact .steps e1 (.ext e2 (e3.eq0 (by rw [hr.sat.hl]; exact hn)) (h H1 F β1 a1 w1 b cs _ (.ops ho hk) e4 (Nat.le_trans hn (evX_len he))))

theorem AW.opg_split {C : Ctx} {k : List CItem} {st : St} {d : Option Nat} {kk : K} {keep : List Nat} {l : List COp} {t : Nat} {bb x : Bool} (ht : look st.env t = .bool x)
    (h1 : (x == bb) = true → AW C (.ops keep (.mk d (some (t, bb)) kk :: l) :: k) ⟨(t, .bool bb) :: st.env, st.mem⟩)
    (h2 : (x == bb) = false → AW C (.ops keep l :: k) ⟨put ((t, .bool (!bb)) :: st.env) d .junk, st.mem⟩) :
    AW C (.ops keep (.mk d (some (t, bb)) kk :: l) :: k) st := by
  have same : ∀ (its : List CItem) (y : Bool), x = y → AW C its ⟨(t, .bool y) :: st.env, st.mem⟩ → AW C its st := by
    intro its y hy h H F β a w b cs todo hmi hr hn
    subst hy
    refine h H F β a w b cs todo hmi ⟨hr.defers, hr.size, fun n => ?_, hr.sat⟩ hn
    simp only [look]
    split
    · rename_i e; subst e; rw [← ht]; exact hr.env t
    · exact hr.env n
  cases hx : (x == bb) with
  | true => exact same _ bb (by simpa using hx) (h1 hx)
  | false =>
    have hxb : x = !bb := by revert hx; cases x <;> cases bb <;> decide
    refine same _ (!bb) hxb ?_
    refine AW.opg (g := !bb) (by simp [look]) (fun h => ?_) (fun _ => h2 hx)
    cases bb <;> simp at h

end Go.Fw
