/-
  DERIVED. GIVEN WITH THE SEED: THE CARDS: each row of YtephnocoajbieaaDoorRows.lean that lists a variable, with what it lists TIED to the program's text (the seventh form; the later family's looks); each row that meets fmt, with fmt's text TOLD by the authors' own Lean function (tested against real Go, not proved from fmt's source: count such statements apart). THE CARD IS WHAT COUNTS. Prove the row's statement (the work); the ties are given (YtephnocoajbieaaDoorTie.lean); close each card by the builder's one call (the guide's Derived/Test/ToyasCard.lean, 'card_holds'). Laid BY PROGRAM, IN A SANDBOX (cutbox-door.mjs). By AI agents, Wed Nov 11 2026. No macro, syntax, notation, axiom, sorry.
-/
import Derived.Test.YtephnocoajbieaaDoorRows
import GoSem.ClaimSeven
namespace Go.Proofs.YtephnocoajbieaaDoor
namespace Rows

/-- THE TIED CARD OF 'laws.FnExactAskOk'. -/
def fnExactAskOkCard : Claim7 := { stood := { row := fnExactAskOkRow, standIns := [], harness := (true, "ebb6eeed4db07900ba10d407e8ade0d150b13cdc8a05a2ea183ffa3a49e6aca9"), looks := false }, kinds := [], alts := [], laidByText := true, laidKinds := [.data, .data, .data], laidTests := true, laidLooks := .later }
def FnExactAskOkCardSaid : Prop := Claim7.holds Tryd.pinned (.plain (OpenSpec.ofChange fnExactAskOkSpec)) fnExactAskOkCard

/-- THE TIED CARD OF 'laws.FnExactAskWrite'. -/
def fnExactAskWriteCard : Claim7 := { stood := { row := fnExactAskWriteRow, standIns := [], harness := (true, "ebb6eeed4db07900ba10d407e8ade0d150b13cdc8a05a2ea183ffa3a49e6aca9"), looks := false }, kinds := [], alts := [], laidByText := true, laidKinds := [.data, .data, .data], laidTests := true, laidLooks := .later }
def FnExactAskWriteCardSaid : Prop := Claim7.holds Tryd.pinned (.plain (OpenSpec.ofChange fnExactAskWriteSpec)) fnExactAskWriteCard

/-- THE TIED CARD OF 'laws.FnExactAskSize'. -/
def fnExactAskSizeCard : Claim7 := { stood := { row := fnExactAskSizeRow, standIns := [], harness := (true, "ebb6eeed4db07900ba10d407e8ade0d150b13cdc8a05a2ea183ffa3a49e6aca9"), looks := false }, kinds := [], alts := [], laidByText := true, laidKinds := [.data, .data, .data], laidTests := true, laidLooks := .later }
def FnExactAskSizeCardSaid : Prop := Claim7.holds Tryd.pinned (.plain (OpenSpec.ofChange fnExactAskSizeSpec)) fnExactAskSizeCard

/-- THE TIED CARD OF 'laws.FnExactAskDepth'. -/
def fnExactAskDepthCard : Claim7 := { stood := { row := fnExactAskDepthRow, standIns := [], harness := (true, "ebb6eeed4db07900ba10d407e8ade0d150b13cdc8a05a2ea183ffa3a49e6aca9"), looks := false }, kinds := [], alts := [], laidByText := true, laidKinds := [.data, .data, .data], laidTests := true, laidLooks := .later }
def FnExactAskDepthCardSaid : Prop := Claim7.holds Tryd.pinned (.plain (OpenSpec.ofChange fnExactAskDepthSpec)) fnExactAskDepthCard

/-- THE TIED CARD OF 'laws.FnExactAskWays'. -/
def fnExactAskWaysCard : Claim7 := { stood := { row := fnExactAskWaysRow, standIns := [], harness := (true, "ebb6eeed4db07900ba10d407e8ade0d150b13cdc8a05a2ea183ffa3a49e6aca9"), looks := false }, kinds := [], alts := [], laidByText := true, laidKinds := [.data, .data, .data], laidTests := true, laidLooks := .later }
def FnExactAskWaysCardSaid : Prop := Claim7.holds Tryd.pinned (.plain (OpenSpec.ofChange fnExactAskWaysSpec)) fnExactAskWaysCard

/-- THE TIED CARD OF 'laws.FnExactAskJoin'. -/
def fnExactAskJoinCard : Claim7 := { stood := { row := fnExactAskJoinRow, standIns := [], harness := (true, "ebb6eeed4db07900ba10d407e8ade0d150b13cdc8a05a2ea183ffa3a49e6aca9"), looks := false }, kinds := [], alts := [], laidByText := true, laidKinds := [.data, .data, .data], laidTests := true, laidLooks := .later }
def FnExactAskJoinCardSaid : Prop := Claim7.holds Tryd.pinned (.plain (OpenSpec.ofChange fnExactAskJoinSpec)) fnExactAskJoinCard

/-- THE TIED CARD OF 'laws.FnExactAskLess'. -/
def fnExactAskLessCard : Claim7 := { stood := { row := fnExactAskLessRow, standIns := [], harness := (true, "ebb6eeed4db07900ba10d407e8ade0d150b13cdc8a05a2ea183ffa3a49e6aca9"), looks := false }, kinds := [], alts := [], laidByText := true, laidKinds := [.data, .data, .data], laidTests := true, laidLooks := .later }
def FnExactAskLessCardSaid : Prop := Claim7.holds Tryd.pinned (.plain (OpenSpec.ofChange fnExactAskLessSpec)) fnExactAskLessCard

/-- THE TIED CARD OF 'laws.FnAskJoin'. -/
def fnAskJoinCard : Claim7 := { stood := { row := fnAskJoinRow, standIns := [], harness := (true, "ebb6eeed4db07900ba10d407e8ade0d150b13cdc8a05a2ea183ffa3a49e6aca9"), looks := false }, kinds := [], alts := [], laidByText := true, laidKinds := [.data, .data, .data], laidTests := true, laidLooks := .later }
def FnAskJoinCardSaid : Prop := Claim7.holds Tryd.pinned (.plain (OpenSpec.ofChange fnAskJoinSpec)) fnAskJoinCard

/-- THE SECOND FORM's CARD OF 'laws.FnExactAskOk'. -/
def fnExactAskOkUptoCard : Claim7 := { stood := { row := fnExactAskOkUptoRow, standIns := [], harness := (true, "ebb6eeed4db07900ba10d407e8ade0d150b13cdc8a05a2ea183ffa3a49e6aca9"), looks := false }, kinds := [], alts := [], laidByText := true, laidKinds := [.data, .data, .data], laidTests := true, laidLooks := .later }
def FnExactAskOkUptoCardSaid : Prop := Claim7.holds Tryd.pinned (.plain (OpenSpec.upto fnExactAskOkSpec)) fnExactAskOkUptoCard

/-- THE SECOND FORM's CARD OF 'laws.FnExactAskWrite'. -/
def fnExactAskWriteUptoCard : Claim7 := { stood := { row := fnExactAskWriteUptoRow, standIns := [], harness := (true, "ebb6eeed4db07900ba10d407e8ade0d150b13cdc8a05a2ea183ffa3a49e6aca9"), looks := false }, kinds := [], alts := [], laidByText := true, laidKinds := [.data, .data, .data], laidTests := true, laidLooks := .later }
def FnExactAskWriteUptoCardSaid : Prop := Claim7.holds Tryd.pinned (.plain (OpenSpec.upto fnExactAskWriteSpec)) fnExactAskWriteUptoCard

/-- THE SECOND FORM's CARD OF 'laws.FnExactAskSize'. -/
def fnExactAskSizeUptoCard : Claim7 := { stood := { row := fnExactAskSizeUptoRow, standIns := [], harness := (true, "ebb6eeed4db07900ba10d407e8ade0d150b13cdc8a05a2ea183ffa3a49e6aca9"), looks := false }, kinds := [], alts := [], laidByText := true, laidKinds := [.data, .data, .data], laidTests := true, laidLooks := .later }
def FnExactAskSizeUptoCardSaid : Prop := Claim7.holds Tryd.pinned (.plain (OpenSpec.upto fnExactAskSizeSpec)) fnExactAskSizeUptoCard

/-- THE SECOND FORM's CARD OF 'laws.FnExactAskDepth'. -/
def fnExactAskDepthUptoCard : Claim7 := { stood := { row := fnExactAskDepthUptoRow, standIns := [], harness := (true, "ebb6eeed4db07900ba10d407e8ade0d150b13cdc8a05a2ea183ffa3a49e6aca9"), looks := false }, kinds := [], alts := [], laidByText := true, laidKinds := [.data, .data, .data], laidTests := true, laidLooks := .later }
def FnExactAskDepthUptoCardSaid : Prop := Claim7.holds Tryd.pinned (.plain (OpenSpec.upto fnExactAskDepthSpec)) fnExactAskDepthUptoCard

/-- THE SECOND FORM's CARD OF 'laws.FnExactAskWays'. -/
def fnExactAskWaysUptoCard : Claim7 := { stood := { row := fnExactAskWaysUptoRow, standIns := [], harness := (true, "ebb6eeed4db07900ba10d407e8ade0d150b13cdc8a05a2ea183ffa3a49e6aca9"), looks := false }, kinds := [], alts := [], laidByText := true, laidKinds := [.data, .data, .data], laidTests := true, laidLooks := .later }
def FnExactAskWaysUptoCardSaid : Prop := Claim7.holds Tryd.pinned (.plain (OpenSpec.upto fnExactAskWaysSpec)) fnExactAskWaysUptoCard

/-- THE SECOND FORM's CARD OF 'laws.FnExactAskJoin'. -/
def fnExactAskJoinUptoCard : Claim7 := { stood := { row := fnExactAskJoinUptoRow, standIns := [], harness := (true, "ebb6eeed4db07900ba10d407e8ade0d150b13cdc8a05a2ea183ffa3a49e6aca9"), looks := false }, kinds := [], alts := [], laidByText := true, laidKinds := [.data, .data, .data], laidTests := true, laidLooks := .later }
def FnExactAskJoinUptoCardSaid : Prop := Claim7.holds Tryd.pinned (.plain (OpenSpec.upto fnExactAskJoinSpec)) fnExactAskJoinUptoCard

/-- THE SECOND FORM's CARD OF 'laws.FnExactAskLess'. -/
def fnExactAskLessUptoCard : Claim7 := { stood := { row := fnExactAskLessUptoRow, standIns := [], harness := (true, "ebb6eeed4db07900ba10d407e8ade0d150b13cdc8a05a2ea183ffa3a49e6aca9"), looks := false }, kinds := [], alts := [], laidByText := true, laidKinds := [.data, .data, .data], laidTests := true, laidLooks := .later }
def FnExactAskLessUptoCardSaid : Prop := Claim7.holds Tryd.pinned (.plain (OpenSpec.upto fnExactAskLessSpec)) fnExactAskLessUptoCard

/-- THE SECOND FORM's CARD OF 'laws.FnAskJoin'. -/
def fnAskJoinUptoCard : Claim7 := { stood := { row := fnAskJoinUptoRow, standIns := [], harness := (true, "ebb6eeed4db07900ba10d407e8ade0d150b13cdc8a05a2ea183ffa3a49e6aca9"), looks := false }, kinds := [], alts := [], laidByText := true, laidKinds := [.data, .data, .data], laidTests := true, laidLooks := .later }
def FnAskJoinUptoCardSaid : Prop := Claim7.holds Tryd.pinned (.plain (OpenSpec.upto fnAskJoinSpec)) fnAskJoinUptoCard
end Rows
end Go.Proofs.YtephnocoajbieaaDoor
