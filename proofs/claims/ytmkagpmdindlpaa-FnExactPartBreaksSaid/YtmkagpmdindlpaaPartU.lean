/- PartField on both sides. Parts of 2^20 at most. -/
import Derived.Test.YtmkagpmdindlpaaPartT
import Derived.Test.YtmkagpmdindlpaaGet1
set_option linter.unusedVariables false
set_option linter.unusedSimpArgs false
namespace Go.Proofs.Ytmkagpmdindlpaa.Lib
open Go.RowKit
set_option maxRecDepth 100000 in
set_option maxHeartbeats 4000000 in
theorem l2Copy_c (x : JField) (cs : List Value) (w : World) (hx : RdL w x.enc cs) (hl : x.needs.length ≤ 1048576) :
    Calls Try.prog 72 #[.agg cs.toArray] w (Made w x.enc) := by
  obtain ⟨i0, hi, hz0, hz1, hz2⟩ := info_parts info_str
  obtain ⟨A7, c7, rfl, g7, m0, m1, m7⟩ := JField.open_ hx
  have HX := Lib.hid g7
  have hl3a : List.length ([] : List ByteArray) + x.needs.length ≤ maxLen := by simp only [List.length_nil]; unfold maxLen; omega
  have hl3b : (List.length ([] : List ByteArray) + x.needs.length) * 16 ≤ 140737488355328 := by simp only [List.length_nil]; omega
  replace hl3a := Lib.hid hl3a
  replace hl3b := Lib.hid hl3b
  clear hx g7 hl m7
  have eW : ((w.alloc (.cells #[.string x.name, .string x.of, .bool x.list, .bool x.must, .bool x.far, .bool x.hidden, .bool x.shared, .slice A7 x.needs.length c7] 59)).alloc (.cells #[.string ⟨#[]⟩, .string ⟨#[]⟩, .bool false, .bool false, .bool false, .bool false, .bool false, .slice none 0 0] 59)).heap.size = w.heap.size + 1 + 1 := by simp
  have hE := Lib.hid (show Gr (w.heap.size + 1 + 1) (((w.alloc (.cells #[.string x.name, .string x.of, .bool x.list, .bool x.must, .bool x.far, .bool x.hidden, .bool x.shared, .slice A7 x.needs.length c7] 59)).alloc (.cells #[.string ⟨#[]⟩, .string ⟨#[]⟩, .bool false, .bool false, .bool false, .bool false, .bool false, .slice none 0 0] 59)).alloc (.cells #[] 9)) 9 strD 1 [] (.slice (some ⟨w.heap.size + 1 + 1, 0, none⟩) 0 0) from Gr.emptyAt _ _ _ _ eW (Nat.le_refl _))
  have hbx := Lib.hid (bt (bt (b1 _ _) (b1 _ _)) (b1 _ _) : Below w.heap.size w (((w.alloc (.cells #[.string x.name, .string x.of, .bool x.list, .bool x.must, .bool x.far, .bool x.hidden, .bool x.shared, .slice A7 x.needs.length c7] 59)).alloc (.cells #[.string ⟨#[]⟩, .string ⟨#[]⟩, .bool false, .bool false, .bool false, .bool false, .bool false, .slice none 0 0] 59)).alloc (.cells #[] 9)))
  go_enter Try.func72, Try.ntmps72
  go_wp2_with (at_builtin; refine wpList_pushes rfl _ _ 52 rfl (enc := strD) (base := w.heap.size + 1 + 1) (wr := ((w.alloc (.cells #[.string x.name, .string x.of, .bool x.list, .bool x.must, .bool x.far, .bool x.hidden, .bool x.shared, .slice A7 x.needs.length c7] 59)).alloc (.cells #[.string ⟨#[]⟩, .string ⟨#[]⟩, .bool false, .bool false, .bool false, .bool false, .bool false, .slice none 0 0] 59)).alloc (.cells #[] 9)) (xs := []) x.needs 9 i0 (.string ⟨#[]⟩) 1 16 Try.underlying52 hi hz0 hz1 hz2 rfl (by decide) strD_len rfl hE.out (Below.refl _ _) (by simp) A7 c7 rfl (x.needs.map Value.string) [] (strs_row _ x.needs HX.out.str_small) (Fresh.nil _) ((HX.out.below hbx.out).str_news) hl3a.out hl3b.out ?_)
  intro X1 x1 w3 hG3 hb3 hg3 hH3
  obtain ⟨fp, ho, hnd, hge⟩ := hG3.own strD_len
  have p0 : w3.cell? ⟨w.heap.size, 0, none⟩ = some (.string x.name) := (hb3.cell (p := ⟨w.heap.size, 0, none⟩) (by dsimp only; omega)).trans (by simp [go_sem])
  have e0 : w3.cell? ⟨w.heap.size + 1, 0, none⟩ = some (.string ⟨#[]⟩) := (hb3.cell (p := ⟨w.heap.size + 1, 0, none⟩) (by dsimp only; omega)).trans (by simp [go_sem])
  have p1 : w3.cell? ⟨w.heap.size, 1, none⟩ = some (.string x.of) := (hb3.cell (p := ⟨w.heap.size, 1, none⟩) (by dsimp only; omega)).trans (by simp [go_sem])
  have e1 : w3.cell? ⟨w.heap.size + 1, 1, none⟩ = some (.string ⟨#[]⟩) := (hb3.cell (p := ⟨w.heap.size + 1, 1, none⟩) (by dsimp only; omega)).trans (by simp [go_sem])
  have p2 : w3.cell? ⟨w.heap.size, 2, none⟩ = some (.bool x.list) := (hb3.cell (p := ⟨w.heap.size, 2, none⟩) (by dsimp only; omega)).trans (by simp [go_sem])
  have e2 : w3.cell? ⟨w.heap.size + 1, 2, none⟩ = some (.bool false) := (hb3.cell (p := ⟨w.heap.size + 1, 2, none⟩) (by dsimp only; omega)).trans (by simp [go_sem])
  have p3 : w3.cell? ⟨w.heap.size, 3, none⟩ = some (.bool x.must) := (hb3.cell (p := ⟨w.heap.size, 3, none⟩) (by dsimp only; omega)).trans (by simp [go_sem])
  have e3 : w3.cell? ⟨w.heap.size + 1, 3, none⟩ = some (.bool false) := (hb3.cell (p := ⟨w.heap.size + 1, 3, none⟩) (by dsimp only; omega)).trans (by simp [go_sem])
  have p4 : w3.cell? ⟨w.heap.size, 4, none⟩ = some (.bool x.far) := (hb3.cell (p := ⟨w.heap.size, 4, none⟩) (by dsimp only; omega)).trans (by simp [go_sem])
  have e4 : w3.cell? ⟨w.heap.size + 1, 4, none⟩ = some (.bool false) := (hb3.cell (p := ⟨w.heap.size + 1, 4, none⟩) (by dsimp only; omega)).trans (by simp [go_sem])
  have p5 : w3.cell? ⟨w.heap.size, 5, none⟩ = some (.bool x.hidden) := (hb3.cell (p := ⟨w.heap.size, 5, none⟩) (by dsimp only; omega)).trans (by simp [go_sem])
  have e5 : w3.cell? ⟨w.heap.size + 1, 5, none⟩ = some (.bool false) := (hb3.cell (p := ⟨w.heap.size + 1, 5, none⟩) (by dsimp only; omega)).trans (by simp [go_sem])
  have p6 : w3.cell? ⟨w.heap.size, 6, none⟩ = some (.bool x.shared) := (hb3.cell (p := ⟨w.heap.size, 6, none⟩) (by dsimp only; omega)).trans (by simp [go_sem])
  have e6 : w3.cell? ⟨w.heap.size + 1, 6, none⟩ = some (.bool false) := (hb3.cell (p := ⟨w.heap.size + 1, 6, none⟩) (by dsimp only; omega)).trans (by simp [go_sem])
  have p7 : w3.cell? ⟨w.heap.size, 7, none⟩ = some (.slice A7 x.needs.length c7) := (hb3.cell (p := ⟨w.heap.size, 7, none⟩) (by dsimp only; omega)).trans (by simp [go_sem])
  have e7 : w3.cell? ⟨w.heap.size + 1, 7, none⟩ = some (.slice none 0 0) := (hb3.cell (p := ⟨w.heap.size + 1, 7, none⟩) (by dsimp only; omega)).trans (by simp [go_sem])
  have pf : ∀ o, w3.frozen? ⟨w.heap.size, o, none⟩ = false := fun o => (hb3.frozen (p := ⟨w.heap.size, o, none⟩) (by dsimp only; omega)).trans (by simp [go_sem])
  have ef : ∀ o, w3.frozen? ⟨w.heap.size + 1, o, none⟩ = false := fun o => (hb3.frozen (p := ⟨w.heap.size + 1, o, none⟩) (by dsimp only; omega)).trans (by simp [go_sem])
  have hz3 : w.heap.size + 1 < w3.heap.size := World.block_lt_of_cell? _ _ e0
  have hz4 : w.heap.size < w3.heap.size := by omega
  have hB3 := hbx.out.trans (hb3.mono (by omega : w.heap.size ≤ w.heap.size + 1 + 1))
  have O := Lib.hid ho
  clear hG3 hb3 hg3 hH3 ho
  go_wp2
  refine bodyPost_ret (v := .agg #[.string x.name, .string x.of, .bool x.list, .bool x.must, .bool x.far, .bool x.hidden, .bool x.shared, .slice X1 x.needs.length x1]) (by simp [results, Try.results72, go_sem, e0, e1, e2, e3, e4, e5, e6, e7]) rfl ⟨_, fp, rfl, ?_, ⟨hnd, fun b hm => by have := hge b hm; omega⟩, ?_⟩
  · rw [JField.enc_eq]
    refine .str m0 (.str m1 (.bool (.bool (.bool (.bool (.bool ?_))))))
    have hO : OwnRow w3 [slD strD 1 x.needs] [.slice X1 x.needs.length x1] (fp ++ []) := .cons O.out (OwnRow.nil _)
    rw [List.append_nil] at hO
    repeat (first | (with_reducible exact hO) | refine OwnRow.set ?_ (fun hm => by have := hge _ hm; dsimp only at this; omega) _)
  · repeat (first | (with_reducible exact hB3) | refine Below.setCell ?_ (by dsimp only; omega) _)
end Go.Proofs.Ytmkagpmdindlpaa.Lib
