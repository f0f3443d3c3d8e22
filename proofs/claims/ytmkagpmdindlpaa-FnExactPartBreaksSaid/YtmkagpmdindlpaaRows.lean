/-
  No cell of these rows narrows 'for every input' (looked for: loops, veiled, ifaces, maps, wideKeys, modest, calm, conditions, laid).
  DERIVED. THE GIVEN ROWS OF THIS SEAT. 10 by the template 'for every input the law returns true; each argument reads behind the call as it read before'; 0 by the template 'total and deterministic' (their statements: YtmkagpmdindlpaaTotals.lean).
  GIVEN WITH THE SEED: the statements are not yours to turn. If you find one false, say at which input.
  Laid BY PROGRAM, IN A SANDBOX (cutbox-rows.mjs): the forced cells as the released guide's own fill.sh prints them over the translation a7beab9ddecd8003… (all of the seat's roots in one cut). By AI agents, Wed Nov 11 2026. No macro, syntax, notation, axiom, sorry.
-/
import Derived.Test.YtmkagpmdindlpaaChecked
import GoSem.Claim
import GoSem.ClaimJoined
import GoSem.ClaimMapViews
import Derived.JoinedTies
import Derived.KernelRfl
namespace Go.Proofs.Ytmkagpmdindlpaa
/- THE CELL 'sum', in the pinned program and in every row, IS THE sha256 OF THE DUMP (.gsa) THAT YtmkagpmdindlpaaProg.lean LOADS. Nothing in Lean hashes anything: it is a label: what it is worth is what the hold of that sum in a sandbox is worth. -/
noncomputable def Try.pinned : Pinned := { name := "ytmkagpmdindlpaa", sum := "a7beab9ddecd80030f62470b466cb0618bfa94d6e726c28105a1ffb6fdd9f5f8", checked := Try.checked }
namespace Rows
def none {H : Type} : Left H := { results := [], args := [] }

/-- 'laws.FnExactChartOwner': WHATEVER THE INPUT: true; the input reads as it did. -/
def fnExactChartOwnerSpec : ChangeSpec := { name := "fnExactChartOwner", fn := fun _ => fun
  | [d1, d2, d3] => { results := [.lit (.bool true)], args := [d1, d2, d3] }
  | _ => none }
def fnExactChartOwnerRow : OpenClaim := { program := "ytmkagpmdindlpaa", sum := "a7beab9ddecd80030f62470b466cb0618bfa94d6e726c28105a1ffb6fdd9f5f8", func := "loop.example/portolan/laws.FnExactChartOwner", spec := "fnExactChartOwner", unfollowed := true, recurses := true, apart := false }
def FnExactChartOwnerSaid : Prop := fnExactChartOwnerRow.holds Try.pinned (OpenSpec.ofChange fnExactChartOwnerSpec)

/-- ITS FALSE NEIGHBOUR: 'it returns false'. Refute it at one input. -/
def fnExactChartOwnerWrong : ChangeSpec := { name := "fnExactChartOwner", fn := fun _ => fun
  | [d1, d2, d3] => { results := [.lit (.bool false)], args := [d1, d2, d3] }
  | _ => none }
def FnExactChartOwnerWrongFalsely : Prop := fnExactChartOwnerRow.holds Try.pinned (OpenSpec.ofChange fnExactChartOwnerWrong)

/-- 'laws.FnExactPartCheck': WHATEVER THE INPUT: true; the input reads as it did. -/
def fnExactPartCheckSpec : ChangeSpec := { name := "fnExactPartCheck", fn := fun _ => fun
  | [d] => { results := [.lit (.bool true)], args := [d] }
  | _ => none }
def fnExactPartCheckRow : OpenClaim := { program := "ytmkagpmdindlpaa", sum := "a7beab9ddecd80030f62470b466cb0618bfa94d6e726c28105a1ffb6fdd9f5f8", func := "loop.example/portolan/laws.FnExactPartCheck", spec := "fnExactPartCheck", inPlace := ["internal/abi.NoEscape", "internal/bytealg.MakeNoZero"], unfollowed := true, recurses := true, apart := false }
def FnExactPartCheckSaid : Prop := fnExactPartCheckRow.holds Try.pinned (OpenSpec.ofChange fnExactPartCheckSpec)

/-- ITS FALSE NEIGHBOUR: 'it returns false'. Refute it at one input. -/
def fnExactPartCheckWrong : ChangeSpec := { name := "fnExactPartCheck", fn := fun _ => fun
  | [d] => { results := [.lit (.bool false)], args := [d] }
  | _ => none }
def FnExactPartCheckWrongFalsely : Prop := fnExactPartCheckRow.holds Try.pinned (OpenSpec.ofChange fnExactPartCheckWrong)

/-- 'laws.FnExactPartWrite': WHATEVER THE INPUT: true; the input reads as it did. -/
def fnExactPartWriteSpec : ChangeSpec := { name := "fnExactPartWrite", fn := fun _ => fun
  | [d] => { results := [.lit (.bool true)], args := [d] }
  | _ => none }
def fnExactPartWriteRow : OpenClaim := { program := "ytmkagpmdindlpaa", sum := "a7beab9ddecd80030f62470b466cb0618bfa94d6e726c28105a1ffb6fdd9f5f8", func := "loop.example/portolan/laws.FnExactPartWrite", spec := "fnExactPartWrite", inPlace := ["internal/abi.NoEscape", "internal/bytealg.MakeNoZero"], unfollowed := true, recurses := true, apart := false }
def FnExactPartWriteSaid : Prop := fnExactPartWriteRow.holds Try.pinned (OpenSpec.ofChange fnExactPartWriteSpec)

/-- ITS FALSE NEIGHBOUR: 'it returns false'. Refute it at one input. -/
def fnExactPartWriteWrong : ChangeSpec := { name := "fnExactPartWrite", fn := fun _ => fun
  | [d] => { results := [.lit (.bool false)], args := [d] }
  | _ => none }
def FnExactPartWriteWrongFalsely : Prop := fnExactPartWriteRow.holds Try.pinned (OpenSpec.ofChange fnExactPartWriteWrong)

/-- 'laws.FnExactPartBreaks': WHATEVER THE INPUT: true; the input reads as it did. -/
def fnExactPartBreaksSpec : ChangeSpec := { name := "fnExactPartBreaks", fn := fun _ => fun
  | [d1, d2] => { results := [.lit (.bool true)], args := [d1, d2] }
  | _ => none }
def fnExactPartBreaksRow : OpenClaim := { program := "ytmkagpmdindlpaa", sum := "a7beab9ddecd80030f62470b466cb0618bfa94d6e726c28105a1ffb6fdd9f5f8", func := "loop.example/portolan/laws.FnExactPartBreaks", spec := "fnExactPartBreaks", inPlace := ["internal/abi.NoEscape", "internal/bytealg.MakeNoZero"], unfollowed := true, recurses := true, apart := false }
def FnExactPartBreaksSaid : Prop := fnExactPartBreaksRow.holds Try.pinned (OpenSpec.ofChange fnExactPartBreaksSpec)

/-- ITS FALSE NEIGHBOUR: 'it returns false'. Refute it at one input. -/
def fnExactPartBreaksWrong : ChangeSpec := { name := "fnExactPartBreaks", fn := fun _ => fun
  | [d1, d2] => { results := [.lit (.bool false)], args := [d1, d2] }
  | _ => none }
def FnExactPartBreaksWrongFalsely : Prop := fnExactPartBreaksRow.holds Try.pinned (OpenSpec.ofChange fnExactPartBreaksWrong)

/-- 'laws.FnExactPartField': WHATEVER THE INPUT: true; the input reads as it did. -/
def fnExactPartFieldSpec : ChangeSpec := { name := "fnExactPartField", fn := fun _ => fun
  | [d1, d2, d3] => { results := [.lit (.bool true)], args := [d1, d2, d3] }
  | _ => none }
def fnExactPartFieldRow : OpenClaim := { program := "ytmkagpmdindlpaa", sum := "a7beab9ddecd80030f62470b466cb0618bfa94d6e726c28105a1ffb6fdd9f5f8", func := "loop.example/portolan/laws.FnExactPartField", spec := "fnExactPartField", inPlace := ["internal/abi.NoEscape", "internal/bytealg.MakeNoZero"], unfollowed := true, recurses := true, apart := false }
def FnExactPartFieldSaid : Prop := fnExactPartFieldRow.holds Try.pinned (OpenSpec.ofChange fnExactPartFieldSpec)

/-- ITS FALSE NEIGHBOUR: 'it returns false'. Refute it at one input. -/
def fnExactPartFieldWrong : ChangeSpec := { name := "fnExactPartField", fn := fun _ => fun
  | [d1, d2, d3] => { results := [.lit (.bool false)], args := [d1, d2, d3] }
  | _ => none }
def FnExactPartFieldWrongFalsely : Prop := fnExactPartFieldRow.holds Try.pinned (OpenSpec.ofChange fnExactPartFieldWrong)

/-- 'laws.FnExactChartText': WHATEVER THE INPUT: true; the input reads as it did. -/
def fnExactChartTextSpec : ChangeSpec := { name := "fnExactChartText", fn := fun _ => fun
  | [d] => { results := [.lit (.bool true)], args := [d] }
  | _ => none }
def fnExactChartTextRow : OpenClaim := { program := "ytmkagpmdindlpaa", sum := "a7beab9ddecd80030f62470b466cb0618bfa94d6e726c28105a1ffb6fdd9f5f8", func := "loop.example/portolan/laws.FnExactChartText", spec := "fnExactChartText", inPlace := ["internal/abi.NoEscape", "internal/bytealg.MakeNoZero"], unfollowed := true, recurses := true, apart := false }
def FnExactChartTextSaid : Prop := fnExactChartTextRow.holds Try.pinned (OpenSpec.ofChange fnExactChartTextSpec)

/-- ITS FALSE NEIGHBOUR: 'it returns false'. Refute it at one input. -/
def fnExactChartTextWrong : ChangeSpec := { name := "fnExactChartText", fn := fun _ => fun
  | [d] => { results := [.lit (.bool false)], args := [d] }
  | _ => none }
def FnExactChartTextWrongFalsely : Prop := fnExactChartTextRow.holds Try.pinned (OpenSpec.ofChange fnExactChartTextWrong)

/-- 'laws.FnPartTwice': WHATEVER THE INPUT: true; the input reads as it did. -/
def fnPartTwiceSpec : ChangeSpec := { name := "fnPartTwice", fn := fun _ => fun
  | [d1, d2] => { results := [.lit (.bool true)], args := [d1, d2] }
  | _ => none }
def fnPartTwiceRow : OpenClaim := { program := "ytmkagpmdindlpaa", sum := "a7beab9ddecd80030f62470b466cb0618bfa94d6e726c28105a1ffb6fdd9f5f8", func := "loop.example/portolan/laws.FnPartTwice", spec := "fnPartTwice", inPlace := ["internal/abi.NoEscape", "internal/bytealg.MakeNoZero"], unfollowed := true, recurses := true, apart := false }
def FnPartTwiceSaid : Prop := fnPartTwiceRow.holds Try.pinned (OpenSpec.ofChange fnPartTwiceSpec)

/-- ITS FALSE NEIGHBOUR: 'it returns false'. Refute it at one input. -/
def fnPartTwiceWrong : ChangeSpec := { name := "fnPartTwice", fn := fun _ => fun
  | [d1, d2] => { results := [.lit (.bool false)], args := [d1, d2] }
  | _ => none }
def FnPartTwiceWrongFalsely : Prop := fnPartTwiceRow.holds Try.pinned (OpenSpec.ofChange fnPartTwiceWrong)

/-- 'laws.FnPartField': WHATEVER THE INPUT: true; the input reads as it did. -/
def fnPartFieldSpec : ChangeSpec := { name := "fnPartField", fn := fun _ => fun
  | [d] => { results := [.lit (.bool true)], args := [d] }
  | _ => none }
def fnPartFieldRow : OpenClaim := { program := "ytmkagpmdindlpaa", sum := "a7beab9ddecd80030f62470b466cb0618bfa94d6e726c28105a1ffb6fdd9f5f8", func := "loop.example/portolan/laws.FnPartField", spec := "fnPartField", inPlace := ["internal/abi.NoEscape", "internal/bytealg.MakeNoZero"], unfollowed := true, recurses := true, apart := false }
def FnPartFieldSaid : Prop := fnPartFieldRow.holds Try.pinned (OpenSpec.ofChange fnPartFieldSpec)

/-- ITS FALSE NEIGHBOUR: 'it returns false'. Refute it at one input. -/
def fnPartFieldWrong : ChangeSpec := { name := "fnPartField", fn := fun _ => fun
  | [d] => { results := [.lit (.bool false)], args := [d] }
  | _ => none }
def FnPartFieldWrongFalsely : Prop := fnPartFieldRow.holds Try.pinned (OpenSpec.ofChange fnPartFieldWrong)

/-- 'laws.FnChartText': WHATEVER THE INPUT: true; the input reads as it did. -/
def fnChartTextSpec : ChangeSpec := { name := "fnChartText", fn := fun _ => fun
  | [d] => { results := [.lit (.bool true)], args := [d] }
  | _ => none }
def fnChartTextRow : OpenClaim := { program := "ytmkagpmdindlpaa", sum := "a7beab9ddecd80030f62470b466cb0618bfa94d6e726c28105a1ffb6fdd9f5f8", func := "loop.example/portolan/laws.FnChartText", spec := "fnChartText", inPlace := ["internal/abi.NoEscape", "internal/bytealg.MakeNoZero"], unfollowed := true, recurses := true, apart := false }
def FnChartTextSaid : Prop := fnChartTextRow.holds Try.pinned (OpenSpec.ofChange fnChartTextSpec)

/-- ITS FALSE NEIGHBOUR: 'it returns false'. Refute it at one input. -/
def fnChartTextWrong : ChangeSpec := { name := "fnChartText", fn := fun _ => fun
  | [d] => { results := [.lit (.bool false)], args := [d] }
  | _ => none }
def FnChartTextWrongFalsely : Prop := fnChartTextRow.holds Try.pinned (OpenSpec.ofChange fnChartTextWrong)

/-- 'laws.FnChartOwner': WHATEVER THE INPUT: true; the input reads as it did. -/
def fnChartOwnerSpec : ChangeSpec := { name := "fnChartOwner", fn := fun _ => fun
  | [d] => { results := [.lit (.bool true)], args := [d] }
  | _ => none }
def fnChartOwnerRow : OpenClaim := { program := "ytmkagpmdindlpaa", sum := "a7beab9ddecd80030f62470b466cb0618bfa94d6e726c28105a1ffb6fdd9f5f8", func := "loop.example/portolan/laws.FnChartOwner", spec := "fnChartOwner", inPlace := ["internal/abi.NoEscape", "internal/bytealg.MakeNoZero"], unfollowed := true, recurses := true, apart := false }
def FnChartOwnerSaid : Prop := fnChartOwnerRow.holds Try.pinned (OpenSpec.ofChange fnChartOwnerSpec)

/-- ITS FALSE NEIGHBOUR: 'it returns false'. Refute it at one input. -/
def fnChartOwnerWrong : ChangeSpec := { name := "fnChartOwner", fn := fun _ => fun
  | [d] => { results := [.lit (.bool false)], args := [d] }
  | _ => none }
def FnChartOwnerWrongFalsely : Prop := fnChartOwnerRow.holds Try.pinned (OpenSpec.ofChange fnChartOwnerWrong)

/- THE SECOND FORM. 'bulk': how many values and letters a reading holds, each counted each time it is reached (what is shared counts as often as it is met; a slice's spare places count too). A statement '..UptoSaid' is the law's where the arguments, and the package variables that the reading takes, are together of bulk at most 1048576: NARROWER than '..Said'. Prove '..Said' where nothing that the law and all that it calls make is longer than what came in: it says more and counts as full. Else prove '..UptoSaid'. A law counts once. -/
mutual
def uptoBulk {H : Type} : DataW H → Nat
  | .lit (.string bytes) => bytes.length + 1
  | .lit _ => 1
  | .nil => 1
  | .ptr d => uptoBulk d + 1
  | .slice elems spare => uptoBulkAll elems + uptoBulkAll spare + 1
  | .agg parts => uptoBulkAll parts + 1
  | .iface _ d => uptoBulk d + 1
  | .map entries => uptoBulkEntries entries + 1
  | .held _ => 1
def uptoBulkAll {H : Type} : List (DataW H) → Nat
  | [] => 0
  | d :: r => uptoBulk d + uptoBulkAll r
def uptoBulkEntries {H : Type} : List (Lit × DataW H) → Nat
  | [] => 0
  | x :: r => uptoBulkEntry x + uptoBulkEntries r
def uptoBulkEntry {H : Type} : Lit × DataW H → Nat
  | (.string bytes, d) => bytes.length + uptoBulk d + 1
  | (_, d) => uptoBulk d + 1
 end
def uptoSmall : (H : Type) → List (DataW H) → Bool := fun _ ds => decide (uptoBulkAll ds ≤ 1048576)
def OpenSpec.upto (s : _root_.Go.ChangeSpec) : _root_.Go.OpenSpec := { _root_.Go.OpenSpec.ofChange s with cond := some uptoSmall }

/-- 'laws.FnExactChartOwner', WHERE WHAT IT READS IS OF BULK AT MOST 1048576: true; the input reads as it did. -/
def fnExactChartOwnerUptoRow : OpenClaim := { program := "ytmkagpmdindlpaa", sum := "a7beab9ddecd80030f62470b466cb0618bfa94d6e726c28105a1ffb6fdd9f5f8", func := "loop.example/portolan/laws.FnExactChartOwner", spec := "fnExactChartOwner", unfollowed := true, recurses := true, apart := false, narrowed := true }
def FnExactChartOwnerUptoSaid : Prop := fnExactChartOwnerUptoRow.holds Try.pinned (OpenSpec.upto fnExactChartOwnerSpec)

/-- 'laws.FnExactPartCheck', WHERE WHAT IT READS IS OF BULK AT MOST 1048576: true; the input reads as it did. -/
def fnExactPartCheckUptoRow : OpenClaim := { program := "ytmkagpmdindlpaa", sum := "a7beab9ddecd80030f62470b466cb0618bfa94d6e726c28105a1ffb6fdd9f5f8", func := "loop.example/portolan/laws.FnExactPartCheck", spec := "fnExactPartCheck", inPlace := ["internal/abi.NoEscape", "internal/bytealg.MakeNoZero"], unfollowed := true, recurses := true, apart := false, narrowed := true }
def FnExactPartCheckUptoSaid : Prop := fnExactPartCheckUptoRow.holds Try.pinned (OpenSpec.upto fnExactPartCheckSpec)

/-- 'laws.FnExactPartWrite', WHERE WHAT IT READS IS OF BULK AT MOST 1048576: true; the input reads as it did. -/
def fnExactPartWriteUptoRow : OpenClaim := { program := "ytmkagpmdindlpaa", sum := "a7beab9ddecd80030f62470b466cb0618bfa94d6e726c28105a1ffb6fdd9f5f8", func := "loop.example/portolan/laws.FnExactPartWrite", spec := "fnExactPartWrite", inPlace := ["internal/abi.NoEscape", "internal/bytealg.MakeNoZero"], unfollowed := true, recurses := true, apart := false, narrowed := true }
def FnExactPartWriteUptoSaid : Prop := fnExactPartWriteUptoRow.holds Try.pinned (OpenSpec.upto fnExactPartWriteSpec)

/-- 'laws.FnExactPartBreaks', WHERE WHAT IT READS IS OF BULK AT MOST 1048576: true; the input reads as it did. -/
def fnExactPartBreaksUptoRow : OpenClaim := { program := "ytmkagpmdindlpaa", sum := "a7beab9ddecd80030f62470b466cb0618bfa94d6e726c28105a1ffb6fdd9f5f8", func := "loop.example/portolan/laws.FnExactPartBreaks", spec := "fnExactPartBreaks", inPlace := ["internal/abi.NoEscape", "internal/bytealg.MakeNoZero"], unfollowed := true, recurses := true, apart := false, narrowed := true }
def FnExactPartBreaksUptoSaid : Prop := fnExactPartBreaksUptoRow.holds Try.pinned (OpenSpec.upto fnExactPartBreaksSpec)

/-- 'laws.FnExactPartField', WHERE WHAT IT READS IS OF BULK AT MOST 1048576: true; the input reads as it did. -/
def fnExactPartFieldUptoRow : OpenClaim := { program := "ytmkagpmdindlpaa", sum := "a7beab9ddecd80030f62470b466cb0618bfa94d6e726c28105a1ffb6fdd9f5f8", func := "loop.example/portolan/laws.FnExactPartField", spec := "fnExactPartField", inPlace := ["internal/abi.NoEscape", "internal/bytealg.MakeNoZero"], unfollowed := true, recurses := true, apart := false, narrowed := true }
def FnExactPartFieldUptoSaid : Prop := fnExactPartFieldUptoRow.holds Try.pinned (OpenSpec.upto fnExactPartFieldSpec)

/-- 'laws.FnExactChartText', WHERE WHAT IT READS IS OF BULK AT MOST 1048576: true; the input reads as it did. -/
def fnExactChartTextUptoRow : OpenClaim := { program := "ytmkagpmdindlpaa", sum := "a7beab9ddecd80030f62470b466cb0618bfa94d6e726c28105a1ffb6fdd9f5f8", func := "loop.example/portolan/laws.FnExactChartText", spec := "fnExactChartText", inPlace := ["internal/abi.NoEscape", "internal/bytealg.MakeNoZero"], unfollowed := true, recurses := true, apart := false, narrowed := true }
def FnExactChartTextUptoSaid : Prop := fnExactChartTextUptoRow.holds Try.pinned (OpenSpec.upto fnExactChartTextSpec)

/-- 'laws.FnPartTwice', WHERE WHAT IT READS IS OF BULK AT MOST 1048576: true; the input reads as it did. -/
def fnPartTwiceUptoRow : OpenClaim := { program := "ytmkagpmdindlpaa", sum := "a7beab9ddecd80030f62470b466cb0618bfa94d6e726c28105a1ffb6fdd9f5f8", func := "loop.example/portolan/laws.FnPartTwice", spec := "fnPartTwice", inPlace := ["internal/abi.NoEscape", "internal/bytealg.MakeNoZero"], unfollowed := true, recurses := true, apart := false, narrowed := true }
def FnPartTwiceUptoSaid : Prop := fnPartTwiceUptoRow.holds Try.pinned (OpenSpec.upto fnPartTwiceSpec)

/-- 'laws.FnPartField', WHERE WHAT IT READS IS OF BULK AT MOST 1048576: true; the input reads as it did. -/
def fnPartFieldUptoRow : OpenClaim := { program := "ytmkagpmdindlpaa", sum := "a7beab9ddecd80030f62470b466cb0618bfa94d6e726c28105a1ffb6fdd9f5f8", func := "loop.example/portolan/laws.FnPartField", spec := "fnPartField", inPlace := ["internal/abi.NoEscape", "internal/bytealg.MakeNoZero"], unfollowed := true, recurses := true, apart := false, narrowed := true }
def FnPartFieldUptoSaid : Prop := fnPartFieldUptoRow.holds Try.pinned (OpenSpec.upto fnPartFieldSpec)

/-- 'laws.FnChartText', WHERE WHAT IT READS IS OF BULK AT MOST 1048576: true; the input reads as it did. -/
def fnChartTextUptoRow : OpenClaim := { program := "ytmkagpmdindlpaa", sum := "a7beab9ddecd80030f62470b466cb0618bfa94d6e726c28105a1ffb6fdd9f5f8", func := "loop.example/portolan/laws.FnChartText", spec := "fnChartText", inPlace := ["internal/abi.NoEscape", "internal/bytealg.MakeNoZero"], unfollowed := true, recurses := true, apart := false, narrowed := true }
def FnChartTextUptoSaid : Prop := fnChartTextUptoRow.holds Try.pinned (OpenSpec.upto fnChartTextSpec)

/-- 'laws.FnChartOwner', WHERE WHAT IT READS IS OF BULK AT MOST 1048576: true; the input reads as it did. -/
def fnChartOwnerUptoRow : OpenClaim := { program := "ytmkagpmdindlpaa", sum := "a7beab9ddecd80030f62470b466cb0618bfa94d6e726c28105a1ffb6fdd9f5f8", func := "loop.example/portolan/laws.FnChartOwner", spec := "fnChartOwner", inPlace := ["internal/abi.NoEscape", "internal/bytealg.MakeNoZero"], unfollowed := true, recurses := true, apart := false, narrowed := true }
def FnChartOwnerUptoSaid : Prop := fnChartOwnerUptoRow.holds Try.pinned (OpenSpec.upto fnChartOwnerSpec)

end Rows
end Go.Proofs.Ytmkagpmdindlpaa
