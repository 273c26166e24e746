/- A part of the proof: codes of functions, their contracts, and what joins them. -/
import Derived.Test.YteldjoikaepijaaRD4
namespace Go.Fw
open Go Go.Proofs
noncomputable def e7 : En Try.prog := mkE 7 (fun (l : List Stp) => [.sl 6 (l.map encStp)]) (fun (l : List Stp) => l.length ≤ LIM) (fun (l : List Stp) => .int .i64 (depthGo [] 0 l)) (fun (l : List Stp) h => spec_PS l h)
@[simp] theorem e7_f : e7.f = 7 := rfl
@[simp] theorem e7_sem (l : List Stp) : e7.sem [.sl 6 (l.map encStp)] = some (l.length ≤ LIM, .int .i64 (depthGo [] 0 l)) := mkE_sem (a := (l)) (by intro a b h; simpa using h)
noncomputable def e9 : En Try.prog := mkE 9 (fun (l : List Stp) => [.sl 6 (l.map encStp)]) (fun (l : List Stp) => l.length ≤ LIM) (fun (l : List Stp) => .int .i64 (depthGo [] 0 l)) (fun (l : List Stp) h => impl_PS l h)
@[simp] theorem e9_f : e9.f = 9 := rfl
@[simp] theorem e9_sem (l : List Stp) : e9.sem [.sl 6 (l.map encStp)] = some (l.length ≤ LIM, .int .i64 (depthGo [] 0 l)) := mkE_sem (a := (l)) (by intro a b h; simpa using h)

set_option maxRecDepth 20000 in
theorem law_PS (xs : List Stp) : PS Try.prog 3 [.sl 6 (xs.map encStp)] (.bool true) := by
  refine PS.mk' (Φ := [e6, e8, e7, e9, e10]) 200 ok3 rfl (by simp) (by simp) fun fn hres => ?_
  simp [c3, tupOf]
  have hB : (1048576 : Int) ≤ BIG := by simp only [BIG]; omega
  refine ⟨hB, fun h => ?_⟩
  rcases szr_cases (xs.length + sumN szStp xs) 1048576 with ⟨g1, g2⟩ | ⟨g1, g2⟩
  · simp only [LIM]
    omega
  · omega
end Go.Fw
