/-
  DERIVED. GIVEN WITH THE SEED: THE CARDS: each row of YtmkagpmdindlpaaDoorRows.lean that lists a variable, with what it lists TIED to the program's text (the seventh form; the later family's looks); each row that meets fmt, with fmt's text TOLD by the authors' own Lean function (tested against real Go, not proved from fmt's source: count such statements apart). THE CARD IS WHAT COUNTS. Prove the row's statement (the work); the ties are given (YtmkagpmdindlpaaDoorTie.lean); close each card by the builder's one call (the guide's Derived/Test/ToyasCard.lean, 'card_holds'). Laid BY PROGRAM, IN A SANDBOX (cutbox-door.mjs). By AI agents, Wed Nov 11 2026. No macro, syntax, notation, axiom, sorry.
-/
import Derived.Test.YtmkagpmdindlpaaDoorRows
import GoSem.ClaimSeven
namespace Go.Proofs.YtmkagpmdindlpaaDoor
namespace Rows

/-- THE TIED CARD OF 'laws.FnExactAskLess'. -/
def fnExactAskLessCard : Claim7 := { stood := { row := fnExactAskLessRow, standIns := [], harness := (true, "65ff5e87ed9e021dbea4d04aa94c07e2ea95e247c0582fabcf15119975ec2052"), looks := false }, kinds := [], alts := [], laidByText := true, laidKinds := [.data, .data, .data], laidTests := true, laidLooks := .later }
def FnExactAskLessCardSaid : Prop := Claim7.holds Tryd.pinned (.plain (OpenSpec.ofChange fnExactAskLessSpec)) fnExactAskLessCard

/-- THE TIED CARD OF 'laws.FnExactAskJoin'. -/
def fnExactAskJoinCard : Claim7 := { stood := { row := fnExactAskJoinRow, standIns := [], harness := (true, "65ff5e87ed9e021dbea4d04aa94c07e2ea95e247c0582fabcf15119975ec2052"), looks := false }, kinds := [], alts := [], laidByText := true, laidKinds := [.data, .data, .data], laidTests := true, laidLooks := .later }
def FnExactAskJoinCardSaid : Prop := Claim7.holds Tryd.pinned (.plain (OpenSpec.ofChange fnExactAskJoinSpec)) fnExactAskJoinCard

/-- THE SECOND FORM's CARD OF 'laws.FnExactAskLess'. -/
def fnExactAskLessUptoCard : Claim7 := { stood := { row := fnExactAskLessUptoRow, standIns := [], harness := (true, "65ff5e87ed9e021dbea4d04aa94c07e2ea95e247c0582fabcf15119975ec2052"), looks := false }, kinds := [], alts := [], laidByText := true, laidKinds := [.data, .data, .data], laidTests := true, laidLooks := .later }
def FnExactAskLessUptoCardSaid : Prop := Claim7.holds Tryd.pinned (.plain (OpenSpec.upto fnExactAskLessSpec)) fnExactAskLessUptoCard

/-- THE SECOND FORM's CARD OF 'laws.FnExactAskJoin'. -/
def fnExactAskJoinUptoCard : Claim7 := { stood := { row := fnExactAskJoinUptoRow, standIns := [], harness := (true, "65ff5e87ed9e021dbea4d04aa94c07e2ea95e247c0582fabcf15119975ec2052"), looks := false }, kinds := [], alts := [], laidByText := true, laidKinds := [.data, .data, .data], laidTests := true, laidLooks := .later }
def FnExactAskJoinUptoCardSaid : Prop := Claim7.holds Tryd.pinned (.plain (OpenSpec.upto fnExactAskJoinSpec)) fnExactAskJoinUptoCard
end Rows
end Go.Proofs.YtmkagpmdindlpaaDoor
