/-
  NARROWER THAN 'FOR EVERY INPUT', by the rows' own cells (each row's printed sentence says how): FnExactRouteParts: loops.
  DERIVED. THE GIVEN ROWS OF THIS SEAT. 3 by the template 'for every input the law returns true; each argument reads behind the call as it read before'; 0 by the template 'total and deterministic' (their statements: YtgeocbndmfcjgaaTotals.lean).
  GIVEN WITH THE SEED: the statements are not yours to turn. If you find one false, say at which input.
  Laid BY PROGRAM, IN A SANDBOX (cutbox-rows.mjs): the forced cells as the released guide's own fill.sh prints them over the translation fad2f4a87d408ab7… (all of the seat's roots in one cut). By AI agents, Wed Nov 11 2026. No macro, syntax, notation, axiom, sorry.
-/
import Derived.Test.YtgeocbndmfcjgaaChecked
import GoSem.Claim
import GoSem.ClaimJoined
import GoSem.ClaimMapViews
import Derived.JoinedTies
import Derived.KernelRfl
namespace Go.Proofs.Ytgeocbndmfcjgaa
/- THE CELL 'sum', in the pinned program and in every row, IS THE sha256 OF THE DUMP (.gsa) THAT YtgeocbndmfcjgaaProg.lean LOADS. Nothing in Lean hashes anything: it is a label: what it is worth is what the hold of that sum in a sandbox is worth. -/
noncomputable def Try.pinned : Pinned := { name := "ytgeocbndmfcjgaa", sum := "fad2f4a87d408ab7b33798de530a7382f2263c092be0878bf2c357bc8b530b77", checked := Try.checked }
namespace Rows
def none {H : Type} : Left H := { results := [], args := [] }

/-- 'laws.FnExactRouteParts': WHATEVER THE INPUT: true; the input reads as it did. -/
def fnExactRoutePartsSpec : ChangeSpec := { name := "fnExactRouteParts", fn := fun _ => fun
  | [d] => { results := [.lit (.bool true)], args := [d] }
  | _ => none }
def fnExactRoutePartsRow : OpenClaim := { program := "ytgeocbndmfcjgaa", sum := "fad2f4a87d408ab7b33798de530a7382f2263c092be0878bf2c357bc8b530b77", func := "loop.example/portolan/laws.FnExactRouteParts", spec := "fnExactRouteParts", recurses := true, loops := true, apart := false }
def FnExactRoutePartsSaid : Prop := fnExactRoutePartsRow.holds Try.pinned (OpenSpec.ofChange fnExactRoutePartsSpec)

/-- ITS FALSE NEIGHBOUR: 'it returns false'. Refute it at one input. -/
def fnExactRoutePartsWrong : ChangeSpec := { name := "fnExactRouteParts", fn := fun _ => fun
  | [d] => { results := [.lit (.bool false)], args := [d] }
  | _ => none }
def FnExactRoutePartsWrongFalsely : Prop := fnExactRoutePartsRow.holds Try.pinned (OpenSpec.ofChange fnExactRoutePartsWrong)

/-- 'laws.FnRouteDepth': WHATEVER THE INPUT: true; the input reads as it did. -/
def fnRouteDepthSpec : ChangeSpec := { name := "fnRouteDepth", fn := fun _ => fun
  | [d] => { results := [.lit (.bool true)], args := [d] }
  | _ => none }
def fnRouteDepthRow : OpenClaim := { program := "ytgeocbndmfcjgaa", sum := "fad2f4a87d408ab7b33798de530a7382f2263c092be0878bf2c357bc8b530b77", func := "loop.example/portolan/laws.FnRouteDepth", spec := "fnRouteDepth", unfollowed := true, recurses := true, apart := false }
def FnRouteDepthSaid : Prop := fnRouteDepthRow.holds Try.pinned (OpenSpec.ofChange fnRouteDepthSpec)

/-- ITS FALSE NEIGHBOUR: 'it returns false'. Refute it at one input. -/
def fnRouteDepthWrong : ChangeSpec := { name := "fnRouteDepth", fn := fun _ => fun
  | [d] => { results := [.lit (.bool false)], args := [d] }
  | _ => none }
def FnRouteDepthWrongFalsely : Prop := fnRouteDepthRow.holds Try.pinned (OpenSpec.ofChange fnRouteDepthWrong)

/-- 'laws.FnRouteParts': WHATEVER THE INPUT: true; the input reads as it did. -/
def fnRoutePartsSpec : ChangeSpec := { name := "fnRouteParts", fn := fun _ => fun
  | [d] => { results := [.lit (.bool true)], args := [d] }
  | _ => none }
def fnRoutePartsRow : OpenClaim := { program := "ytgeocbndmfcjgaa", sum := "fad2f4a87d408ab7b33798de530a7382f2263c092be0878bf2c357bc8b530b77", func := "loop.example/portolan/laws.FnRouteParts", spec := "fnRouteParts", recurses := true, apart := false }
def FnRoutePartsSaid : Prop := fnRoutePartsRow.holds Try.pinned (OpenSpec.ofChange fnRoutePartsSpec)

/-- ITS FALSE NEIGHBOUR: 'it returns false'. Refute it at one input. -/
def fnRoutePartsWrong : ChangeSpec := { name := "fnRouteParts", fn := fun _ => fun
  | [d] => { results := [.lit (.bool false)], args := [d] }
  | _ => none }
def FnRoutePartsWrongFalsely : Prop := fnRoutePartsRow.holds Try.pinned (OpenSpec.ofChange fnRoutePartsWrong)

/- THE SECOND FORM. 'bulk': how many values and letters a reading holds, each counted each time it is reached (what is shared counts as often as it is met; a slice's spare places count too). A statement '..UptoSaid' is the law's where the arguments, and the package variables that the reading takes, are together of bulk at most 1048576: NARROWER than '..Said'. Prove '..Said' where nothing that the law and all that it calls make is longer than what came in: it says more and counts as full. Else prove '..UptoSaid'. A law counts once. -/
mutual
def uptoBulk {H : Type} : DataW H → Nat
  | .lit (.string bytes) => bytes.length + 1
  | .lit _ => 1
  | .nil => 1
  | .ptr d => uptoBulk d + 1
  | .slice elems spare => uptoBulkAll elems + uptoBulkAll spare + 1
  | .agg parts => uptoBulkAll parts + 1
  | .iface _ d => uptoBulk d + 1
  | .map entries => uptoBulkEntries entries + 1
  | .held _ => 1
def uptoBulkAll {H : Type} : List (DataW H) → Nat
  | [] => 0
  | d :: r => uptoBulk d + uptoBulkAll r
def uptoBulkEntries {H : Type} : List (Lit × DataW H) → Nat
  | [] => 0
  | x :: r => uptoBulkEntry x + uptoBulkEntries r
def uptoBulkEntry {H : Type} : Lit × DataW H → Nat
  | (.string bytes, d) => bytes.length + uptoBulk d + 1
  | (_, d) => uptoBulk d + 1
 end
def uptoSmall : (H : Type) → List (DataW H) → Bool := fun _ ds => decide (uptoBulkAll ds ≤ 1048576)
def OpenSpec.upto (s : _root_.Go.ChangeSpec) : _root_.Go.OpenSpec := { _root_.Go.OpenSpec.ofChange s with cond := some uptoSmall }

/-- 'laws.FnExactRouteParts', WHERE WHAT IT READS IS OF BULK AT MOST 1048576: true; the input reads as it did. -/
def fnExactRoutePartsUptoRow : OpenClaim := { program := "ytgeocbndmfcjgaa", sum := "fad2f4a87d408ab7b33798de530a7382f2263c092be0878bf2c357bc8b530b77", func := "loop.example/portolan/laws.FnExactRouteParts", spec := "fnExactRouteParts", recurses := true, loops := true, apart := false, narrowed := true }
def FnExactRoutePartsUptoSaid : Prop := fnExactRoutePartsUptoRow.holds Try.pinned (OpenSpec.upto fnExactRoutePartsSpec)

/-- 'laws.FnRouteDepth', WHERE WHAT IT READS IS OF BULK AT MOST 1048576: true; the input reads as it did. -/
def fnRouteDepthUptoRow : OpenClaim := { program := "ytgeocbndmfcjgaa", sum := "fad2f4a87d408ab7b33798de530a7382f2263c092be0878bf2c357bc8b530b77", func := "loop.example/portolan/laws.FnRouteDepth", spec := "fnRouteDepth", unfollowed := true, recurses := true, apart := false, narrowed := true }
def FnRouteDepthUptoSaid : Prop := fnRouteDepthUptoRow.holds Try.pinned (OpenSpec.upto fnRouteDepthSpec)

/-- 'laws.FnRouteParts', WHERE WHAT IT READS IS OF BULK AT MOST 1048576: true; the input reads as it did. -/
def fnRoutePartsUptoRow : OpenClaim := { program := "ytgeocbndmfcjgaa", sum := "fad2f4a87d408ab7b33798de530a7382f2263c092be0878bf2c357bc8b530b77", func := "loop.example/portolan/laws.FnRouteParts", spec := "fnRouteParts", recurses := true, apart := false, narrowed := true }
def FnRoutePartsUptoSaid : Prop := fnRoutePartsUptoRow.holds Try.pinned (OpenSpec.upto fnRoutePartsSpec)

end Rows
end Go.Proofs.Ytgeocbndmfcjgaa
