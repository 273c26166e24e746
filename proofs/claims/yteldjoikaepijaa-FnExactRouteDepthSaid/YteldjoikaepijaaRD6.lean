/- A part of the proof: codes of functions, their contracts, and what joins them. -/
import Derived.Test.YteldjoikaepijaaRD5
import Derived.Test.YteldjoikaepijaaRead
namespace Go.Fw
open Go Go.Proofs Go.RowKit
section
variable {H : Type} {enc : TypeId × Value → H} {W : World} {sp : Nat → Bool} {held : Bool}

theorem cells3 : Try.prog.cellsOf 3 = 1 := by kernel_rfl
theorem cells4 : Try.prog.cellsOf 4 = 1 := by kernel_rfl
theorem cells9 : Try.prog.cellsOf 9 = 1 := by kernel_rfl
theorem cells36 : Try.prog.cellsOf 36 = 1 := by kernel_rfl
theorem cells29 : Try.prog.cellsOf 29 = 1 := by kernel_rfl
theorem cells43 : Try.prog.cellsOf 43 = 1 := by kernel_rfl
theorem cells45 : Try.prog.cellsOf 45 = 6 := by kernel_rfl
theorem cells81 : Try.prog.cellsOf 81 = 5 := by kernel_rfl

theorem r36 (fuel : Nat) : Reads enc Try.prog W sp held fuel 36 (fun xs : List Str => [.sl 1 (xs.map encS)]) := by
  cases fuel with
  | zero => exact reads_zero
  | succ n => exact reads_slice Try.underlying36 cells9 (fun _ => rfl) (by decide) n (reads_str Try.underlying9 n)
theorem r29 (fuel : Nat) : Reads enc Try.prog W sp held fuel 29 (fun xs : List Int => [.sl 1 (xs.map encI)]) := by
  cases fuel with
  | zero => exact reads_zero
  | succ n => exact reads_slice Try.underlying29 cells3 (fun _ => rfl) (by decide) n (reads_int Try.underlying3 n)
theorem r81 : ∀ fuel : Nat, Reads enc Try.prog W sp held fuel 81 encSel := by
  intro fuel
  induction fuel using Nat.strongRecOn with
  | ind fuel ih =>
    cases fuel with
    | zero => exact reads_zero
    | succ n =>
      refine reads_struct Try.underlying81 n fun cs hl hf => ?_
      rw [cells81] at hl
      obtain ⟨d0, p0, h0⟩ := hf 0 _ rfl
      obtain ⟨d1, p1, h1⟩ := hf 1 _ rfl
      obtain ⟨d2, p2, h2⟩ := hf 2 _ rfl
      obtain ⟨d3, p3, h3⟩ := hf 3 _ rfl
      obtain ⟨d4, p4, h4⟩ := hf 4 _ rfl
      change DataW.trod enc Try.prog W 0 sp held n 9 ((cs.drop 0).take (Try.prog.cellsOf 9)) = _ at h0
      change DataW.trod enc Try.prog W 0 sp held n 9 ((cs.drop 1).take (Try.prog.cellsOf 9)) = _ at h1
      change DataW.trod enc Try.prog W 0 sp held n 4 ((cs.drop 2).take (Try.prog.cellsOf 4)) = _ at h2
      change DataW.trod enc Try.prog W 0 sp held n 3 ((cs.drop 3).take (Try.prog.cellsOf 3)) = _ at h3
      change DataW.trod enc Try.prog W 0 sp held n 43 ((cs.drop 4).take (Try.prog.cellsOf 43)) = _ at h4
      rw [cells9] at h0 h1; rw [cells4] at h2; rw [cells3] at h3; rw [cells43] at h4
      obtain ⟨x0, c0⟩ := reads_str Try.underlying9 n _ _ _ h0
      obtain ⟨x1, c1⟩ := reads_str Try.underlying9 n _ _ _ h1
      obtain ⟨x2, c2⟩ := reads_bool Try.underlying4 n _ _ _ h2
      obtain ⟨x3, c3⟩ := reads_int Try.underlying3 n _ _ _ h3
      have r43 : Reads enc Try.prog W sp held n 43 (fun xs : List Sel => [.sl 5 (xs.map encSel)]) := by
        cases n with
        | zero => exact reads_zero
        | succ m => exact reads_slice Try.underlying43 cells81 (fun _ => by simp) (by decide) m (ih m (by omega))
      obtain ⟨x4, c4⟩ := r43 _ _ _ h4
      refine ⟨.mk x0 x1 x2 x3 x4, ?_⟩
      have := PartsOk.all (W := W) (cs := cs) [encS x0, encS x1, [.bool x2], encI x3, [.sl 5 (x4.map encSel)]] 0 ⟨c0, c1, c2, c3, c4, trivial⟩ (by simpa using hl)
      simpa [encSel_eq, encS, encI] using this
theorem r43 (fuel : Nat) : Reads enc Try.prog W sp held fuel 43 (fun xs : List Sel => [.sl 5 (xs.map encSel)]) := by
  cases fuel with
  | zero => exact reads_zero
  | succ m => exact reads_slice Try.underlying43 cells81 (fun _ => by simp) (by decide) m (r81 m)
theorem r45 (fuel : Nat) : Reads enc Try.prog W sp held fuel 45 encStp := by
  cases fuel with
  | zero => exact reads_zero
  | succ n =>
    refine reads_struct Try.underlying45 n fun cs hl hf => ?_
    rw [cells45] at hl
    obtain ⟨d0, p0, h0⟩ := hf 0 _ rfl
    obtain ⟨d1, p1, h1⟩ := hf 1 _ rfl
    obtain ⟨d2, p2, h2⟩ := hf 2 _ rfl
    obtain ⟨d3, p3, h3⟩ := hf 3 _ rfl
    obtain ⟨d4, p4, h4⟩ := hf 4 _ rfl
    obtain ⟨d5, p5, h5⟩ := hf 5 _ rfl
    change DataW.trod enc Try.prog W 0 sp held n 3 ((cs.drop 0).take (Try.prog.cellsOf 3)) = _ at h0
    change DataW.trod enc Try.prog W 0 sp held n 36 ((cs.drop 1).take (Try.prog.cellsOf 36)) = _ at h1
    change DataW.trod enc Try.prog W 0 sp held n 9 ((cs.drop 2).take (Try.prog.cellsOf 9)) = _ at h2
    change DataW.trod enc Try.prog W 0 sp held n 43 ((cs.drop 3).take (Try.prog.cellsOf 43)) = _ at h3
    change DataW.trod enc Try.prog W 0 sp held n 29 ((cs.drop 4).take (Try.prog.cellsOf 29)) = _ at h4
    change DataW.trod enc Try.prog W 0 sp held n 36 ((cs.drop 5).take (Try.prog.cellsOf 36)) = _ at h5
    rw [cells3] at h0; rw [cells36] at h1 h5; rw [cells9] at h2; rw [cells43] at h3; rw [cells29] at h4
    obtain ⟨x0, c0⟩ := reads_int Try.underlying3 n _ _ _ h0
    obtain ⟨x1, c1⟩ := r36 n _ _ _ h1
    obtain ⟨x2, c2⟩ := reads_str Try.underlying9 n _ _ _ h2
    obtain ⟨x3, c3⟩ := r43 n _ _ _ h3
    obtain ⟨x4, c4⟩ := r29 n _ _ _ h4
    obtain ⟨x5, c5⟩ := r36 n _ _ _ h5
    refine ⟨⟨x0, x1, x2, x3, x4, x5⟩, ?_⟩
    have := PartsOk.all (W := W) (cs := cs) [encI x0, [.sl 1 (x1.map encS)], encS x2, [.sl 5 (x3.map encSel)], [.sl 1 (x4.map encI)], [.sl 1 (x5.map encS)]] 0 ⟨c0, c1, c2, c3, c4, c5, trivial⟩ (by simpa using hl)
    simpa [encStp_eq, encS, encI] using this
theorem r22 (fuel : Nat) : Reads enc Try.prog W sp held fuel 22 (fun xs : List Stp => [.sl 6 (xs.map encStp)]) := by
  cases fuel with
  | zero => exact reads_zero
  | succ n => exact reads_slice Try.underlying22 cells45 (fun _ => by simp) (by decide) n (r45 n)
end
end Go.Fw
