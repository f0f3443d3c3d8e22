/-
  NARROWER THAN 'FOR EVERY INPUT', by the rows' own cells (each row's printed sentence says how): FnExactJsonOk: loops · FnExactJsonCount: loops · FnExactSailReady: loops · FnExactStoreGet: loops.
  DERIVED. THE GIVEN ROWS OF THIS SEAT. 5 by the template 'for every input the law returns true; each argument reads behind the call as it read before'; 0 by the template 'total and deterministic' (their statements: YtegabeefggcelaaTotals.lean).
  GIVEN WITH THE SEED: the statements are not yours to turn. If you find one false, say at which input.
  Laid BY PROGRAM, IN A SANDBOX (cutbox-rows.mjs): the forced cells as the released guide's own fill.sh prints them over the translation eed13d34c32d0e32… (all of the seat's roots in one cut). By AI agents, Wed Nov 11 2026. No macro, syntax, notation, axiom, sorry.
-/
import Derived.Test.YtegabeefggcelaaChecked
import GoSem.Claim
import GoSem.ClaimJoined
import GoSem.ClaimMapViews
import Derived.JoinedTies
import Derived.KernelRfl
namespace Go.Proofs.Ytegabeefggcelaa
/- THE CELL 'sum', in the pinned program and in every row, IS THE sha256 OF THE DUMP (.gsa) THAT YtegabeefggcelaaProg.lean LOADS. Nothing in Lean hashes anything: it is a label: what it is worth is what the hold of that sum in a sandbox is worth. -/
noncomputable def Try.pinned : Pinned := { name := "ytegabeefggcelaa", sum := "eed13d34c32d0e32b30050fe136d405bab551ef86bd84e5dd7df7947bab0d209", checked := Try.checked }
namespace Rows
def none {H : Type} : Left H := { results := [], args := [] }

/-- 'laws.FnExactConstants': WHATEVER THE INPUT: true; the input reads as it did. -/
def fnExactConstantsSpec : ChangeSpec := { name := "fnExactConstants", fn := fun _ => fun
  | [] => { results := [.lit (.bool true)], args := [] }
  | _ => none }
def fnExactConstantsRow : OpenClaim := { program := "ytegabeefggcelaa", sum := "eed13d34c32d0e32b30050fe136d405bab551ef86bd84e5dd7df7947bab0d209", func := "loop.example/portolan/laws.FnExactConstants", spec := "fnExactConstants", apart := false }
def FnExactConstantsSaid : Prop := fnExactConstantsRow.holds Try.pinned (OpenSpec.ofChange fnExactConstantsSpec)

/-- ITS FALSE NEIGHBOUR: 'it returns false'. Refute it at one input. -/
def fnExactConstantsWrong : ChangeSpec := { name := "fnExactConstants", fn := fun _ => fun
  | [] => { results := [.lit (.bool false)], args := [] }
  | _ => none }
def FnExactConstantsWrongFalsely : Prop := fnExactConstantsRow.holds Try.pinned (OpenSpec.ofChange fnExactConstantsWrong)

/-- 'laws.FnExactJsonOk': WHATEVER THE INPUT: true; the input reads as it did. -/
def fnExactJsonOkSpec : ChangeSpec := { name := "fnExactJsonOk", fn := fun _ => fun
  | [d] => { results := [.lit (.bool true)], args := [d] }
  | _ => none }
def fnExactJsonOkRow : OpenClaim := { program := "ytegabeefggcelaa", sum := "eed13d34c32d0e32b30050fe136d405bab551ef86bd84e5dd7df7947bab0d209", func := "loop.example/portolan/laws.FnExactJsonOk", spec := "fnExactJsonOk", unfollowed := true, recurses := true, loops := true, apart := false }
def FnExactJsonOkSaid : Prop := fnExactJsonOkRow.holds Try.pinned (OpenSpec.ofChange fnExactJsonOkSpec)

/-- ITS FALSE NEIGHBOUR: 'it returns false'. Refute it at one input. -/
def fnExactJsonOkWrong : ChangeSpec := { name := "fnExactJsonOk", fn := fun _ => fun
  | [d] => { results := [.lit (.bool false)], args := [d] }
  | _ => none }
def FnExactJsonOkWrongFalsely : Prop := fnExactJsonOkRow.holds Try.pinned (OpenSpec.ofChange fnExactJsonOkWrong)

/-- 'laws.FnExactJsonCount': WHATEVER THE INPUT: true; the input reads as it did. -/
def fnExactJsonCountSpec : ChangeSpec := { name := "fnExactJsonCount", fn := fun _ => fun
  | [d] => { results := [.lit (.bool true)], args := [d] }
  | _ => none }
def fnExactJsonCountRow : OpenClaim := { program := "ytegabeefggcelaa", sum := "eed13d34c32d0e32b30050fe136d405bab551ef86bd84e5dd7df7947bab0d209", func := "loop.example/portolan/laws.FnExactJsonCount", spec := "fnExactJsonCount", unfollowed := true, recurses := true, loops := true, apart := false }
def FnExactJsonCountSaid : Prop := fnExactJsonCountRow.holds Try.pinned (OpenSpec.ofChange fnExactJsonCountSpec)

/-- ITS FALSE NEIGHBOUR: 'it returns false'. Refute it at one input. -/
def fnExactJsonCountWrong : ChangeSpec := { name := "fnExactJsonCount", fn := fun _ => fun
  | [d] => { results := [.lit (.bool false)], args := [d] }
  | _ => none }
def FnExactJsonCountWrongFalsely : Prop := fnExactJsonCountRow.holds Try.pinned (OpenSpec.ofChange fnExactJsonCountWrong)

/-- 'laws.FnExactSailReady': WHATEVER THE INPUT: true; the input reads as it did. -/
def fnExactSailReadySpec : ChangeSpec := { name := "fnExactSailReady", fn := fun _ => fun
  | [d1, d2] => { results := [.lit (.bool true)], args := [d1, d2] }
  | _ => none }
def fnExactSailReadyRow : OpenClaim := { program := "ytegabeefggcelaa", sum := "eed13d34c32d0e32b30050fe136d405bab551ef86bd84e5dd7df7947bab0d209", func := "loop.example/portolan/laws.FnExactSailReady", spec := "fnExactSailReady", unfollowed := true, recurses := true, loops := true, apart := false }
def FnExactSailReadySaid : Prop := fnExactSailReadyRow.holds Try.pinned (OpenSpec.ofChange fnExactSailReadySpec)

/-- ITS FALSE NEIGHBOUR: 'it returns false'. Refute it at one input. -/
def fnExactSailReadyWrong : ChangeSpec := { name := "fnExactSailReady", fn := fun _ => fun
  | [d1, d2] => { results := [.lit (.bool false)], args := [d1, d2] }
  | _ => none }
def FnExactSailReadyWrongFalsely : Prop := fnExactSailReadyRow.holds Try.pinned (OpenSpec.ofChange fnExactSailReadyWrong)

/-- 'laws.FnExactStoreGet': WHATEVER THE INPUT: true; the input reads as it did. -/
def fnExactStoreGetSpec : ChangeSpec := { name := "fnExactStoreGet", fn := fun _ => fun
  | [d1, d2, d3, d4] => { results := [.lit (.bool true)], args := [d1, d2, d3, d4] }
  | _ => none }
def fnExactStoreGetRow : OpenClaim := { program := "ytegabeefggcelaa", sum := "eed13d34c32d0e32b30050fe136d405bab551ef86bd84e5dd7df7947bab0d209", func := "loop.example/portolan/laws.FnExactStoreGet", spec := "fnExactStoreGet", unfollowed := true, recurses := true, loops := true, apart := false }
def FnExactStoreGetSaid : Prop := fnExactStoreGetRow.holds Try.pinned (OpenSpec.ofChange fnExactStoreGetSpec)

/-- ITS FALSE NEIGHBOUR: 'it returns false'. Refute it at one input. -/
def fnExactStoreGetWrong : ChangeSpec := { name := "fnExactStoreGet", fn := fun _ => fun
  | [d1, d2, d3, d4] => { results := [.lit (.bool false)], args := [d1, d2, d3, d4] }
  | _ => none }
def FnExactStoreGetWrongFalsely : Prop := fnExactStoreGetRow.holds Try.pinned (OpenSpec.ofChange fnExactStoreGetWrong)

/- THE SECOND FORM. 'bulk': how many values and letters a reading holds, each counted each time it is reached (what is shared counts as often as it is met; a slice's spare places count too). A statement '..UptoSaid' is the law's where the arguments, and the package variables that the reading takes, are together of bulk at most 1048576: NARROWER than '..Said'. Prove '..Said' where nothing that the law and all that it calls make is longer than what came in: it says more and counts as full. Else prove '..UptoSaid'. A law counts once. -/
mutual
def uptoBulk {H : Type} : DataW H → Nat
  | .lit (.string bytes) => bytes.length + 1
  | .lit _ => 1
  | .nil => 1
  | .ptr d => uptoBulk d + 1
  | .slice elems spare => uptoBulkAll elems + uptoBulkAll spare + 1
  | .agg parts => uptoBulkAll parts + 1
  | .iface _ d => uptoBulk d + 1
  | .map entries => uptoBulkEntries entries + 1
  | .held _ => 1
def uptoBulkAll {H : Type} : List (DataW H) → Nat
  | [] => 0
  | d :: r => uptoBulk d + uptoBulkAll r
def uptoBulkEntries {H : Type} : List (Lit × DataW H) → Nat
  | [] => 0
  | x :: r => uptoBulkEntry x + uptoBulkEntries r
def uptoBulkEntry {H : Type} : Lit × DataW H → Nat
  | (.string bytes, d) => bytes.length + uptoBulk d + 1
  | (_, d) => uptoBulk d + 1
 end
def uptoSmall : (H : Type) → List (DataW H) → Bool := fun _ ds => decide (uptoBulkAll ds ≤ 1048576)
def OpenSpec.upto (s : _root_.Go.ChangeSpec) : _root_.Go.OpenSpec := { _root_.Go.OpenSpec.ofChange s with cond := some uptoSmall }

/-- 'laws.FnExactConstants', WHERE WHAT IT READS IS OF BULK AT MOST 1048576: true; the input reads as it did. -/
def fnExactConstantsUptoRow : OpenClaim := { program := "ytegabeefggcelaa", sum := "eed13d34c32d0e32b30050fe136d405bab551ef86bd84e5dd7df7947bab0d209", func := "loop.example/portolan/laws.FnExactConstants", spec := "fnExactConstants", apart := false, narrowed := true }
def FnExactConstantsUptoSaid : Prop := fnExactConstantsUptoRow.holds Try.pinned (OpenSpec.upto fnExactConstantsSpec)

/-- 'laws.FnExactJsonOk', WHERE WHAT IT READS IS OF BULK AT MOST 1048576: true; the input reads as it did. -/
def fnExactJsonOkUptoRow : OpenClaim := { program := "ytegabeefggcelaa", sum := "eed13d34c32d0e32b30050fe136d405bab551ef86bd84e5dd7df7947bab0d209", func := "loop.example/portolan/laws.FnExactJsonOk", spec := "fnExactJsonOk", unfollowed := true, recurses := true, loops := true, apart := false, narrowed := true }
def FnExactJsonOkUptoSaid : Prop := fnExactJsonOkUptoRow.holds Try.pinned (OpenSpec.upto fnExactJsonOkSpec)

/-- 'laws.FnExactJsonCount', WHERE WHAT IT READS IS OF BULK AT MOST 1048576: true; the input reads as it did. -/
def fnExactJsonCountUptoRow : OpenClaim := { program := "ytegabeefggcelaa", sum := "eed13d34c32d0e32b30050fe136d405bab551ef86bd84e5dd7df7947bab0d209", func := "loop.example/portolan/laws.FnExactJsonCount", spec := "fnExactJsonCount", unfollowed := true, recurses := true, loops := true, apart := false, narrowed := true }
def FnExactJsonCountUptoSaid : Prop := fnExactJsonCountUptoRow.holds Try.pinned (OpenSpec.upto fnExactJsonCountSpec)

/-- 'laws.FnExactSailReady', WHERE WHAT IT READS IS OF BULK AT MOST 1048576: true; the input reads as it did. -/
def fnExactSailReadyUptoRow : OpenClaim := { program := "ytegabeefggcelaa", sum := "eed13d34c32d0e32b30050fe136d405bab551ef86bd84e5dd7df7947bab0d209", func := "loop.example/portolan/laws.FnExactSailReady", spec := "fnExactSailReady", unfollowed := true, recurses := true, loops := true, apart := false, narrowed := true }
def FnExactSailReadyUptoSaid : Prop := fnExactSailReadyUptoRow.holds Try.pinned (OpenSpec.upto fnExactSailReadySpec)

/-- 'laws.FnExactStoreGet', WHERE WHAT IT READS IS OF BULK AT MOST 1048576: true; the input reads as it did. -/
def fnExactStoreGetUptoRow : OpenClaim := { program := "ytegabeefggcelaa", sum := "eed13d34c32d0e32b30050fe136d405bab551ef86bd84e5dd7df7947bab0d209", func := "loop.example/portolan/laws.FnExactStoreGet", spec := "fnExactStoreGet", unfollowed := true, recurses := true, loops := true, apart := false, narrowed := true }
def FnExactStoreGetUptoSaid : Prop := fnExactStoreGetUptoRow.holds Try.pinned (OpenSpec.upto fnExactStoreGetSpec)

end Rows
end Go.Proofs.Ytegabeefggcelaa
