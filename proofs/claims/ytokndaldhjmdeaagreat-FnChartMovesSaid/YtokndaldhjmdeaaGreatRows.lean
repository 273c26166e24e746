/-
  No cell of these rows narrows 'for every input' (looked for: loops, veiled, ifaces, maps, wideKeys, modest, calm, conditions, laid).
  DERIVED. THE GIVEN ROWS OF THIS SEAT. 3 by the template 'for every input the law returns true; each argument reads behind the call as it read before'; 0 by the template 'total and deterministic' (their statements: YtokndaldhjmdeaaGreatTotals.lean).
  GIVEN WITH THE SEED: the statements are not yours to turn. If you find one false, say at which input.
  Laid BY PROGRAM, IN A SANDBOX (cutbox-rows.mjs): the forced cells as the released guide's own fill.sh prints them over the translation b06a0781b84c6a18… (all of the seat's roots in one cut). By AI agents, Wed Nov 11 2026. No macro, syntax, notation, axiom, sorry.
-/
import Derived.Test.YtokndaldhjmdeaaGreatChecked
import GoSem.Claim
import GoSem.ClaimJoined
import GoSem.ClaimMapViews
import Derived.JoinedTies
import Derived.KernelRfl
namespace Go.Proofs.YtokndaldhjmdeaaGreat
/- THE CELL 'sum', in the pinned program and in every row, IS THE sha256 OF THE DUMP (.gsa) THAT YtokndaldhjmdeaaGreatProg.lean LOADS. Nothing in Lean hashes anything: it is a label: what it is worth is what the hold of that sum in a sandbox is worth. -/
noncomputable def Tryz.pinned : Pinned := { name := "ytokndaldhjmdeaagreat", sum := "b06a0781b84c6a184116b9c3566394923938d3eef55d4aedcdd388df365aba91", checked := Tryz.checked }
namespace Rows
def none {H : Type} : Left H := { results := [], args := [] }

/-- 'laws.FnChartMoves': WHATEVER THE INPUT: true; the input reads as it did. -/
def fnChartMovesSpec : ChangeSpec := { name := "fnChartMoves", fn := fun _ => fun
  | [d] => { results := [.lit (.bool true)], args := [d] }
  | _ => none }
def fnChartMovesRow : OpenClaim := { program := "ytokndaldhjmdeaagreat", sum := "b06a0781b84c6a184116b9c3566394923938d3eef55d4aedcdd388df365aba91", func := "loop.example/portolan/laws.FnChartMoves", spec := "fnChartMoves", inPlace := ["internal/abi.NoEscape", "internal/bytealg.MakeNoZero"], unfollowed := true, recurses := true, apart := false }
def FnChartMovesSaid : Prop := fnChartMovesRow.holds Tryz.pinned (OpenSpec.ofChange fnChartMovesSpec)

/-- ITS FALSE NEIGHBOUR: 'it returns false'. Refute it at one input. -/
def fnChartMovesWrong : ChangeSpec := { name := "fnChartMoves", fn := fun _ => fun
  | [d] => { results := [.lit (.bool false)], args := [d] }
  | _ => none }
def FnChartMovesWrongFalsely : Prop := fnChartMovesRow.holds Tryz.pinned (OpenSpec.ofChange fnChartMovesWrong)

/-- 'laws.FnExactChartMoves': WHATEVER THE INPUT: true; the input reads as it did. -/
def fnExactChartMovesSpec : ChangeSpec := { name := "fnExactChartMoves", fn := fun _ => fun
  | [d1, d2] => { results := [.lit (.bool true)], args := [d1, d2] }
  | _ => none }
def fnExactChartMovesRow : OpenClaim := { program := "ytokndaldhjmdeaagreat", sum := "b06a0781b84c6a184116b9c3566394923938d3eef55d4aedcdd388df365aba91", func := "loop.example/portolan/laws.FnExactChartMoves", spec := "fnExactChartMoves", inPlace := ["internal/abi.NoEscape", "internal/bytealg.MakeNoZero"], unfollowed := true, recurses := true, apart := false }
def FnExactChartMovesSaid : Prop := fnExactChartMovesRow.holds Tryz.pinned (OpenSpec.ofChange fnExactChartMovesSpec)

/-- ITS FALSE NEIGHBOUR: 'it returns false'. Refute it at one input. -/
def fnExactChartMovesWrong : ChangeSpec := { name := "fnExactChartMoves", fn := fun _ => fun
  | [d1, d2] => { results := [.lit (.bool false)], args := [d1, d2] }
  | _ => none }
def FnExactChartMovesWrongFalsely : Prop := fnExactChartMovesRow.holds Tryz.pinned (OpenSpec.ofChange fnExactChartMovesWrong)

/-- 'laws.FnExactChartSafe': WHATEVER THE INPUT: true; the input reads as it did. -/
def fnExactChartSafeSpec : ChangeSpec := { name := "fnExactChartSafe", fn := fun _ => fun
  | [d1, d2] => { results := [.lit (.bool true)], args := [d1, d2] }
  | _ => none }
def fnExactChartSafeRow : OpenClaim := { program := "ytokndaldhjmdeaagreat", sum := "b06a0781b84c6a184116b9c3566394923938d3eef55d4aedcdd388df365aba91", func := "loop.example/portolan/laws.FnExactChartSafe", spec := "fnExactChartSafe", inPlace := ["internal/abi.NoEscape", "internal/bytealg.MakeNoZero"], unfollowed := true, recurses := true, apart := false }
def FnExactChartSafeSaid : Prop := fnExactChartSafeRow.holds Tryz.pinned (OpenSpec.ofChange fnExactChartSafeSpec)

/-- ITS FALSE NEIGHBOUR: 'it returns false'. Refute it at one input. -/
def fnExactChartSafeWrong : ChangeSpec := { name := "fnExactChartSafe", fn := fun _ => fun
  | [d1, d2] => { results := [.lit (.bool false)], args := [d1, d2] }
  | _ => none }
def FnExactChartSafeWrongFalsely : Prop := fnExactChartSafeRow.holds Tryz.pinned (OpenSpec.ofChange fnExactChartSafeWrong)

/- THE SECOND FORM. 'bulk': how many values and letters a reading holds, each counted each time it is reached (what is shared counts as often as it is met; a slice's spare places count too). A statement '..UptoSaid' is the law's where the arguments, and the package variables that the reading takes, are together of bulk at most 1048576: NARROWER than '..Said'. Prove '..Said' where nothing that the law and all that it calls make is longer than what came in: it says more and counts as full. Else prove '..UptoSaid'. A law counts once. -/
mutual
def uptoBulk {H : Type} : DataW H → Nat
  | .lit (.string bytes) => bytes.length + 1
  | .lit _ => 1
  | .nil => 1
  | .ptr d => uptoBulk d + 1
  | .slice elems spare => uptoBulkAll elems + uptoBulkAll spare + 1
  | .agg parts => uptoBulkAll parts + 1
  | .iface _ d => uptoBulk d + 1
  | .map entries => uptoBulkEntries entries + 1
  | .held _ => 1
def uptoBulkAll {H : Type} : List (DataW H) → Nat
  | [] => 0
  | d :: r => uptoBulk d + uptoBulkAll r
def uptoBulkEntries {H : Type} : List (Lit × DataW H) → Nat
  | [] => 0
  | x :: r => uptoBulkEntry x + uptoBulkEntries r
def uptoBulkEntry {H : Type} : Lit × DataW H → Nat
  | (.string bytes, d) => bytes.length + uptoBulk d + 1
  | (_, d) => uptoBulk d + 1
 end
def uptoSmall : (H : Type) → List (DataW H) → Bool := fun _ ds => decide (uptoBulkAll ds ≤ 1048576)
def OpenSpec.upto (s : _root_.Go.ChangeSpec) : _root_.Go.OpenSpec := { _root_.Go.OpenSpec.ofChange s with cond := some uptoSmall }

/-- 'laws.FnChartMoves', WHERE WHAT IT READS IS OF BULK AT MOST 1048576: true; the input reads as it did. -/
def fnChartMovesUptoRow : OpenClaim := { program := "ytokndaldhjmdeaagreat", sum := "b06a0781b84c6a184116b9c3566394923938d3eef55d4aedcdd388df365aba91", func := "loop.example/portolan/laws.FnChartMoves", spec := "fnChartMoves", inPlace := ["internal/abi.NoEscape", "internal/bytealg.MakeNoZero"], unfollowed := true, recurses := true, apart := false, narrowed := true }
def FnChartMovesUptoSaid : Prop := fnChartMovesUptoRow.holds Tryz.pinned (OpenSpec.upto fnChartMovesSpec)

/-- 'laws.FnExactChartMoves', WHERE WHAT IT READS IS OF BULK AT MOST 1048576: true; the input reads as it did. -/
def fnExactChartMovesUptoRow : OpenClaim := { program := "ytokndaldhjmdeaagreat", sum := "b06a0781b84c6a184116b9c3566394923938d3eef55d4aedcdd388df365aba91", func := "loop.example/portolan/laws.FnExactChartMoves", spec := "fnExactChartMoves", inPlace := ["internal/abi.NoEscape", "internal/bytealg.MakeNoZero"], unfollowed := true, recurses := true, apart := false, narrowed := true }
def FnExactChartMovesUptoSaid : Prop := fnExactChartMovesUptoRow.holds Tryz.pinned (OpenSpec.upto fnExactChartMovesSpec)

/-- 'laws.FnExactChartSafe', WHERE WHAT IT READS IS OF BULK AT MOST 1048576: true; the input reads as it did. -/
def fnExactChartSafeUptoRow : OpenClaim := { program := "ytokndaldhjmdeaagreat", sum := "b06a0781b84c6a184116b9c3566394923938d3eef55d4aedcdd388df365aba91", func := "loop.example/portolan/laws.FnExactChartSafe", spec := "fnExactChartSafe", inPlace := ["internal/abi.NoEscape", "internal/bytealg.MakeNoZero"], unfollowed := true, recurses := true, apart := false, narrowed := true }
def FnExactChartSafeUptoSaid : Prop := fnExactChartSafeUptoRow.holds Tryz.pinned (OpenSpec.upto fnExactChartSafeSpec)

end Rows
end Go.Proofs.YtokndaldhjmdeaaGreat
