/- A fault of a part as a struct that a call made. No condition. -/
import Derived.Test.YtmkagpmdindlpaaPartP
import Derived.Test.YtmkagpmdindlpaaPartQ
set_option linter.unusedVariables false
set_option linter.unusedSimpArgs false
namespace Go.Proofs.Ytmkagpmdindlpaa.Lib
open Go.RowKit
theorem JPartFault.openO {w : World} {v : JPartFault} {cs : List Value} {fp : List Nat} (h : OwnRow w v.enc cs fp) : cs = [.int .i64 v.at_, .int .i64 v.code] := JPartFault.open_ (OwnRow.rdl h)
theorem fault_made {w w' : World} {v : JPartFault} {e : Ending} (h : Ret w (.agg #[.int .i64 v.at_, .int .i64 v.code]) e w') : Made w v.enc e w' :=
  ⟨[.int .i64 v.at_, .int .i64 v.code], [], h.1, by rw [JPartFault.enc_eq]; exact .int (.int (.nil _)), Fresh.nil _, h.2⟩
end Go.Proofs.Ytmkagpmdindlpaa.Lib
