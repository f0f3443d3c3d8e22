/- Copies of values: slices.Clone at texts, the reference's l1Copy, the program's copied. Sizes up to 2^20. -/
import Derived.Test.YtmkagpmdindlpaaGr
import Derived.Test.YtmkagpmdindlpaaSlices
import Derived.Test.YtmkagpmdindlpaaTo
import Derived.Deep.QuietTactic
import Derived.BigQuiet
import Derived.StillTailTactics
import Derived.Deep.RegionHeld3
import Derived.Deep.RegionLaw
import Derived.WalkSpells
set_option linter.unusedVariables false
set_option linter.unusedSimpArgs false
namespace Go.Proofs.Ytmkagpmdindlpaa.Lib
open Go.RowKit

set_option maxRecDepth 100000 in
theorem cloneStr_c (xs : List ByteArray) (A : Option Addr) (c : Nat) (w : World) (hx : Rd w (slD strD 1 xs) (.slice A xs.length c)) (hl : xs.length ≤ 1048576) :
    Calls Try.prog 73 #[.slice A xs.length c] w (Made1 w (slD strD 1 xs)) := by
  obtain ⟨i0, hi, hz0, hz1, hz2⟩ := info_parts info_str
  have HX := Lib.hid hx
  cases A with
  | none =>
    have h0 : xs = [] := by
      cases xs with
      | nil => rfl
      | cons x r => obtain ⟨ad, e, _⟩ := Rd.str_news hx (by simp); cases e
    clear hx
    subst h0
    have hnil : ∀ (w : World), (binOp .eql 52 (.slice none 0 c) (.slice none 0 0)).run Try.prog w = .ok (.bool true) w := fun w => Go.Lib.run_eql_slice_nil w _ _ none 0 c 0 0 Try.underlying52
    go_enter Try.func73, Try.ntmps73
    go_wp2
    go_ret
    exact (Gr.nil w.heap.size w 9 strD 1).made strD_len (Nat.le_refl _) (Below.refl _ _)
  | some ad =>
    clear hx
    have hnil : ∀ (w : World), (binOp .eql 52 (.slice (some ad) xs.length c) (.slice none 0 0)).run Try.prog w = .ok (.bool false) w := fun w => Go.Lib.run_eql_slice_nil w _ _ (some ad) _ c 0 0 Try.underlying52
    go_enter Try.func73, Try.ntmps73
    go_wp2_with (at_builtin; refine wpList_pushes rfl _ _ 52 rfl (enc := strD) (base := w.heap.size) (wr := w.alloc (.cells #[] 9)) (xs := []) xs 9 i0 (.string ⟨#[]⟩) 1 16 Try.underlying52 hi hz0 hz1 hz2 rfl (by decide) strD_len rfl (Gr.empty w 9 strD 1 (Nat.le_refl _)) (Below.refl _ _) ?c0 (some ad) c rfl (xs.map Value.string) [] (strs_row _ xs HX.out.str_small) (Fresh.nil _) ((HX.out.below (b1 _ _)).str_news) ?c1 ?c2 ?_)
    case c0 => simp
    case c1 => simp only [List.length_nil]; unfold maxLen; omega
    case c2 => simp only [List.length_nil]; omega
    intro A2 c2 w2 hG hB _ _
    go_wp2
    go_ret
    exact hG.made strD_len (Nat.le_refl _) ((b1 _ _).trans hB)

end Go.Proofs.Ytmkagpmdindlpaa.Lib
