/-
  DERIVED. GIVEN WITH THE SEED: THE CARDS: each row of YtegfaamnjbicjaaGreatDoorRows.lean that lists a variable, with what it lists TIED to the program's text (the seventh form; the later family's looks); each row that meets fmt, with fmt's text TOLD by the authors' own Lean function (tested against real Go, not proved from fmt's source: count such statements apart). THE CARD IS WHAT COUNTS. Prove the row's statement (the work); the ties are given (YtegfaamnjbicjaaGreatDoorTie.lean); close each card by the builder's one call (the guide's Derived/Test/ToyasCard.lean, 'card_holds'). Laid BY PROGRAM, IN A SANDBOX (cutbox-door.mjs). By AI agents, Wed Nov 11 2026. No macro, syntax, notation, axiom, sorry.
-/
import Derived.Test.YtegfaamnjbicjaaGreatDoorRows
import GoSem.ClaimSeven
namespace Go.Proofs.YtegfaamnjbicjaaGreatDoor
namespace Rows

/-- THE TIED CARD OF 'laws.FnExactAskExpand'. -/
def fnExactAskExpandCard : Claim7 := { stood := { row := fnExactAskExpandRow, standIns := [], harness := (true, "1de6f7dc8664672f1bd9979417d48793940162f877c1b7ba0594ce24f369bfa3"), looks := true }, kinds := [], alts := [], laidByText := true, laidKinds := [.data, .data, .data, .data, .sentinel, .sentinel, .pinned], laidTests := true, laidLooks := .later }
def FnExactAskExpandCardSaid : Prop := Claim7.holds Tryz.pinned (.plain (OpenSpec.ofChange fnExactAskExpandSpec)) fnExactAskExpandCard

/-- THE TIED CARD OF 'laws.FnExpandPart'. -/
def fnExpandPartCard : Claim7 := { stood := { row := fnExpandPartRow, standIns := [], harness := (true, "1de6f7dc8664672f1bd9979417d48793940162f877c1b7ba0594ce24f369bfa3"), looks := true }, kinds := [], alts := [], laidByText := true, laidKinds := [.data, .data, .data, .data, .sentinel, .sentinel, .pinned], laidTests := true, laidLooks := .later }
def FnExpandPartCardSaid : Prop := Claim7.holds Tryz.pinned (.plain (OpenSpec.ofChange fnExpandPartSpec)) fnExpandPartCard

/-- THE TIED CARD OF 'laws.FnExpandTwice'. -/
def fnExpandTwiceCard : Claim7 := { stood := { row := fnExpandTwiceRow, standIns := [], harness := (true, "1de6f7dc8664672f1bd9979417d48793940162f877c1b7ba0594ce24f369bfa3"), looks := true }, kinds := [], alts := [], laidByText := true, laidKinds := [.data, .data, .data, .data, .sentinel, .sentinel, .pinned], laidTests := true, laidLooks := .later }
def FnExpandTwiceCardSaid : Prop := Claim7.holds Tryz.pinned (.plain (OpenSpec.ofChange fnExpandTwiceSpec)) fnExpandTwiceCard

/-- THE TIED CARD OF 'laws.FnExpandPlain'. -/
def fnExpandPlainCard : Claim7 := { stood := { row := fnExpandPlainRow, standIns := [], harness := (true, "1de6f7dc8664672f1bd9979417d48793940162f877c1b7ba0594ce24f369bfa3"), looks := true }, kinds := [], alts := [], laidByText := true, laidKinds := [.data, .data, .data, .data, .sentinel, .sentinel, .pinned], laidTests := true, laidLooks := .later }
def FnExpandPlainCardSaid : Prop := Claim7.holds Tryz.pinned (.plain (OpenSpec.ofChange fnExpandPlainSpec)) fnExpandPlainCard

/-- THE SECOND FORM's CARD OF 'laws.FnExactAskExpand'. -/
def fnExactAskExpandUptoCard : Claim7 := { stood := { row := fnExactAskExpandUptoRow, standIns := [], harness := (true, "1de6f7dc8664672f1bd9979417d48793940162f877c1b7ba0594ce24f369bfa3"), looks := true }, kinds := [], alts := [], laidByText := true, laidKinds := [.data, .data, .data, .data, .sentinel, .sentinel, .pinned], laidTests := true, laidLooks := .later }
def FnExactAskExpandUptoCardSaid : Prop := Claim7.holds Tryz.pinned (.plain (OpenSpec.upto fnExactAskExpandSpec)) fnExactAskExpandUptoCard

/-- THE SECOND FORM's CARD OF 'laws.FnExpandPart'. -/
def fnExpandPartUptoCard : Claim7 := { stood := { row := fnExpandPartUptoRow, standIns := [], harness := (true, "1de6f7dc8664672f1bd9979417d48793940162f877c1b7ba0594ce24f369bfa3"), looks := true }, kinds := [], alts := [], laidByText := true, laidKinds := [.data, .data, .data, .data, .sentinel, .sentinel, .pinned], laidTests := true, laidLooks := .later }
def FnExpandPartUptoCardSaid : Prop := Claim7.holds Tryz.pinned (.plain (OpenSpec.upto fnExpandPartSpec)) fnExpandPartUptoCard

/-- THE SECOND FORM's CARD OF 'laws.FnExpandTwice'. -/
def fnExpandTwiceUptoCard : Claim7 := { stood := { row := fnExpandTwiceUptoRow, standIns := [], harness := (true, "1de6f7dc8664672f1bd9979417d48793940162f877c1b7ba0594ce24f369bfa3"), looks := true }, kinds := [], alts := [], laidByText := true, laidKinds := [.data, .data, .data, .data, .sentinel, .sentinel, .pinned], laidTests := true, laidLooks := .later }
def FnExpandTwiceUptoCardSaid : Prop := Claim7.holds Tryz.pinned (.plain (OpenSpec.upto fnExpandTwiceSpec)) fnExpandTwiceUptoCard

/-- THE SECOND FORM's CARD OF 'laws.FnExpandPlain'. -/
def fnExpandPlainUptoCard : Claim7 := { stood := { row := fnExpandPlainUptoRow, standIns := [], harness := (true, "1de6f7dc8664672f1bd9979417d48793940162f877c1b7ba0594ce24f369bfa3"), looks := true }, kinds := [], alts := [], laidByText := true, laidKinds := [.data, .data, .data, .data, .sentinel, .sentinel, .pinned], laidTests := true, laidLooks := .later }
def FnExpandPlainUptoCardSaid : Prop := Claim7.holds Tryz.pinned (.plain (OpenSpec.upto fnExpandPlainSpec)) fnExpandPlainUptoCard
end Rows
end Go.Proofs.YtegfaamnjbicjaaGreatDoor
