/- The variables that the row lists: from the condition to the table that the walk reads; a world that meets the condition. No condition. -/
import Derived.Test.YtmkagpmdindlpaaDoorRows
import Derived.Test.YtmkagpmdindlpaaDoorAsk4
import Derived.Lib.LaidU8
import Derived.Lay
import Derived.Handed
set_option linter.unusedVariables false
namespace Go.Proofs.YtmkagpmdindlpaaDoor.Lib
def laidL : List (String × DataW Unit) := [("math/bits.deBruijn32tab", Rows.laid_math_bits_deBruijn32tab), ("math/bits.deBruijn64tab", Rows.laid_math_bits_deBruijn64tab), ("internal/strconv.uint64pow10", Rows.laid_internal_strconv_uint64pow10)]
theorem pow10_data : (Rows.laid_internal_strconv_uint64pow10 : DataW Unit) = Go.Lib.tabData .u64 Go.Lib.pow10Tab := by
  simp [Rows.laid_internal_strconv_uint64pow10, Go.Lib.tabData, Go.Lib.pow10Tab, List.range, List.range.loop]
theorem laid_tab {W : World} (h : laidMet Tryd.prog laidL W) : TabW W := by
  obtain ⟨g, t, cs, fuel, p, hg, ht, hvar, hd⟩ := Go.Lib.laidMet.reads h (n := "internal/strconv.uint64pow10") (d := Rows.laid_internal_strconv_uint64pow10) (.tail _ (.tail _ (.head _)))
  have e1 : Tryd.prog.globalNamed "internal/strconv.uint64pow10" = some 1 := by kernel_rfl
  obtain rfl := Option.some.inj (e1.symm.trans hg)
  have e2 : (Tryd.prog.globals[1]?).map (·.type) = some 92 := by kernel_rfl
  obtain rfl := Option.some.inj (e2.symm.trans ht)
  rw [pow10_data] at hd
  unfold TabW Go.Lib.TabIs
  rw [hvar, ← Go.Lib.cells_of_tab (show Tryd.prog.underlying 92 = some (.array 20 80) by kernel_rfl) (show Tryd.prog.underlying 80 = some (.int .u64) by kernel_rfl) (show Tryd.prog.cellsOf 80 = 1 by kernel_rfl) (show Tryd.prog.cellsOf 92 = 20 by kernel_rfl) hd]
theorem laid_met (os : Os) (args : Array Value) : laidMet Tryd.prog laidL ((World.laidAll Tryd.prog os laidL).forCall (fun _ _ => 0) ⟨#[], args, []⟩).memory :=
  laidMet_laidAll args (by kernel_rfl) (by kernel_rfl)
end Go.Proofs.YtmkagpmdindlpaaDoor.Lib
