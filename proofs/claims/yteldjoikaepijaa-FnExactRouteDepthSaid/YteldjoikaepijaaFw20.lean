/- Setting up contracts; the simp set; the sizes, copies and comparisons of slices. -/
import Derived.Test.YteldjoikaepijaaTy
namespace Go.Fw
open Go

def bodyOf (f : Func) : Code := match f.body with | some c => c | none => .skip
/-- The function's code is the compact one. -/
def chkF (P : Program) (fn : Func) (c : CC) (np : Nat) (rs : List RV) : Bool :=
  fn.body.isSome && chkC P fn.ntmps c (bodyOf fn) && resB P fn.results.toList rs && decide (np ≤ fn.ntmps)

/-- All that is asked of a function's number. -/
structure FnOk (P : Program) (f : FuncId) (c : CC) (np : Nat) (rs : List RV) : Prop where
  fn : ∃ fn, P.funcs[f]? = some fn ∧ chkF P fn c np rs = true
  call : ∀ as w, (callFunc f as).run P w = .ok (.enter f as) w
  mix : P.follows .mixedOrders = true

theorem PS.mk' {P : Program} {Φ : List (En P)} {f : FuncId} {c : CC} {args : List AV} {r : AV} {rs : List RV} {np : Nat} (fuel : Nat) (hf : FnOk P f c np rs) (hn : args.length = np) (ha : AV.pureL args = true) (hr : r.pure = true)
    (h : ∀ fn : Func, resB P fn.results.toList rs = true → vc ⟨P, fn, 0, fun r' _ => r' = r⟩ Φ rs fuel [.code c] ⟨argEnv 0 args, []⟩) : PS P f args r := by
  obtain ⟨fn, h1, h2⟩ := hf.fn
  unfold chkF at h2
  simp only [Bool.and_eq_true, decide_eq_true_eq] at h2
  obtain ⟨⟨⟨h3, h4⟩, h5⟩, h6⟩ := h2
  have hb : fn.body = some (bodyOf fn) := by
    unfold bodyOf
    cases hfb : fn.body with
    | none => rw [hfb] at h3; cases h3
    | some c => rfl
  exact PS.of_vc (Φ := Φ) fuel hf.mix h1 hf.call hb h4 (by omega) h5 ha hr (h fn h5)

/-- On from a stop. -/
theorem vc_go {C : Ctx} (Φ : List (En C.P)) (rs : List RV) (fuel : Nat) {its : List CItem} {st : St} (hmix : C.P.follows .mixedOrders = true) (hres : resB C.P C.fn.results.toList rs = true) (h : vc C Φ rs fuel its st) : AW C its st :=
  vc_sound hmix hres fuel its st h

@[simp] theorem lookE_one {P : Program} {e : En P} : lookE [e] e.f = some e := by simp

theorem drop_at {α : Type} {l : List α} {i : Nat} {x : α} (h : l[i]? = some x) : l.drop i = x :: l.drop (i + 1) := by
  obtain ⟨h1, h2⟩ := List.getElem?_eq_some_iff.1 h
  rw [List.drop_eq_getElem_cons h1, h2]
theorem at_lt {α : Type} {l : List α} {i : Nat} {x : α} (h : l[i]? = some x) : i < l.length := (List.getElem?_eq_some_iff.1 h).1
theorem lt_or_end {α : Type} (l : List α) (i : Nat) (h : i ≤ l.length) : (∃ x, l[i]? = some x) ∨ i = l.length := by
  rcases Nat.lt_or_ge i l.length with h' | h'
  · exact .inl ⟨_, List.getElem?_eq_getElem h'⟩
  · exact .inr (by omega)

attribute [simp] vc evX stopsX evK evBin evArith pickAV AV.cells bnd rowsOf evApp fillc cExit argEnv retX tupOf preF postF factA runD evD clsK put_some put_none look ar_t ar_c

@[simp] theorem min_i64 : IntKind.i64.min = -9223372036854775808 := by decide

end Go.Fw
