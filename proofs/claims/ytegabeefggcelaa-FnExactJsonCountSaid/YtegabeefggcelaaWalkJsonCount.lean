/- The walk of the law FnExactJsonCount. No condition. -/
import Derived.Test.YtegabeefggcelaaJson6
import Derived.Test.YtegabeefggcelaaSz
import Derived.Test.YtegabeefggcelaaEq
import Derived.Test.YtegabeefggcelaaTo
set_option linter.unusedVariables false
set_option linter.unusedSimpArgs false
namespace Go.Proofs.Ytegabeefggcelaa.Lib
open Go.RowKit
set_option maxRecDepth 100000 in
set_option maxHeartbeats 4000000 in
theorem FnExactJsonCount_walk (a0 : JValue) (w : World) {cs0 : Array Value} (g0 : RdL w a0.enc cs0.toList) (w0 : WfDs a0.enc) : Calls Try.prog 5 #[.agg cs0] w (Ret w (.bool true)) := by
  obtain ⟨A3, c3, A4, c4, ecs, g3, g4, l2, n3, n4⟩ := JValue.open_ g0
  have HC := Lib.hid (by rw [← ecs]; exact g0 : RdL w a0.enc [Value.int .i64 a0.sort, .int .i64 a0.num, .string a0.text, .slice A3 a0.names.length c3, .slice A4 a0.kids.length c4])
  obtain rfl : cs0 = [Value.int .i64 a0.sort, .int .i64 a0.num, .string a0.text, .slice A3 a0.names.length c3, .slice A4 a0.kids.length c4].toArray := by rw [← ecs]
  clear g0 w0 g3 g4 ecs
  by_cases hb : (JValue.bulk a0 : Int) ≤ 1048576
  case neg =>
    have e1 := szR_no hb
    have HM := Lib.hid (fun (cs : List Value) (W : World) (h : RdL W a0.enc cs) => szValue_c a0 cs 1048576 W h (by omega) (by omega))
    go_enter Try.func5, Try.ntmps5
    go_wp2_with fail
    refine (HM.out _ _ (HC.out.keep (b1 _ _))).mono ?_
    rintro e w1 ⟨rfl, hb1⟩
    go_wp2
    go_ret
    exact ⟨rfl, bt (b1 _ _) hb1⟩
  have e1 := szR_yes hb
  have HM := Lib.hid (fun (cs : List Value) (W : World) (h : RdL W a0.enc cs) => szValue_c a0 cs 1048576 W h (by omega) (by omega))
  have HT := Lib.hid (fun (cs : List Value) (W : World) (h : RdL W a0.enc cs) => toValue_c a0 cs W h (by omega))
  replace hb := Lib.hid hb
  have hz0 : (0 : Int) ≤ 1048576 - JValue.bulk a0 := by have := hb.out; omega
  go_enter Try.func5, Try.ntmps5
  go_wp2_with fail
  refine (HM.out _ _ (HC.out.keep (b1 _ _))).mono ?_
  rintro e w1 ⟨rfl, hb1⟩
  obtain ⟨hc1, hf1⟩ := bcell hb1
  have hz1 : w.heap.size < w1.heap.size := by have := hb1.size; simp at this; omega
  have hB1 := bt (b1 _ _) hb1
  go_wp2_with fail
  refine (HT.out _ _ (HC.out.keep hB1)).mono ?_
  rintro e w2 ⟨us2, fp2, rfl, ho2, hfr2, hb2⟩
  obtain ⟨hc2, hf2⟩ := bcell hb2
  have hz2 : w.heap.size < w2.heap.size := by have := hb2.size; omega
  have hB2 := bt hB1 hb2
  go_wp2_with fail
  refine (specJsonCount_c a0 us2 _ (OwnRow.rdl ho2)).mono ?_
  rintro e w3 ⟨rfl, hb3⟩
  obtain ⟨hc3, hf3⟩ := bcell hb3
  have hz3 : w.heap.size < w3.heap.size := by have := hb3.size; omega
  have hB3 := bt hB2 hb3
  go_wp2_with fail
  refine (HT.out _ _ (HC.out.keep hB3)).mono ?_
  rintro e w4 ⟨us4, fp4, rfl, ho4, hfr4, hb4⟩
  obtain ⟨hc4, hf4⟩ := bcell hb4
  have hz4 : w.heap.size < w4.heap.size := by have := hb4.size; omega
  have hB4 := bt hB3 hb4
  obtain ⟨B3, d3, B4, d4, rfl⟩ := JValue.openO ho4
  have HO := Lib.hid (OwnRow.rdl ho4)
  go_wp2_with fail
  refine (implJsonCount_c a0 _ _ (HO.out.keep (b1 _ _))).mono ?_
  rintro e w5 ⟨rfl, hb5⟩
  obtain ⟨hc5, hf5⟩ := bcell hb5
  have hz5 : w4.heap.size < w5.heap.size := by have := hb5.size; simp at this; omega
  have hB5 := bt hB4 (bt (b1 _ _) hb5)
  have hO5 := Lib.hid (HO.out.keep (bt (b1 _ _) hb5))
  go_wp2_with fail
  have PK := fun i u (h : (w.alloc (.cells #[.int .i64 a0.sort, .int .i64 a0.num, .string a0.text, .slice A3 a0.names.length c3, .slice A4 a0.kids.length c4] 26)).cell? ⟨w.heap.size, i, none⟩ = some u) => cell_keep hb5 (cell_keep (b1 w4 (.cells #[.int .i64 a0.sort, .int .i64 a0.num, .string a0.text, .slice B3 a0.names.length d3, .slice B4 a0.kids.length d4] 31)) (cell_keep hb4 (cell_keep hb3 (cell_keep hb2 (cell_keep hb1 h)))))
  have p0 : w5.cell? ⟨w.heap.size, 0, none⟩ = some (.int .i64 a0.sort) := PK 0 _ (by simp [go_sem])
  have p1 : w5.cell? ⟨w.heap.size, 1, none⟩ = some (.int .i64 a0.num) := PK 1 _ (by simp [go_sem])
  have p2 : w5.cell? ⟨w.heap.size, 2, none⟩ = some (.string a0.text) := PK 2 _ (by simp [go_sem])
  have p3 : w5.cell? ⟨w.heap.size, 3, none⟩ = some (.slice A3 a0.names.length c3) := PK 3 _ (by simp [go_sem])
  have p4 : w5.cell? ⟨w.heap.size, 4, none⟩ = some (.slice A4 a0.kids.length c4) := PK 4 _ (by simp [go_sem])
  have q0 : w5.cell? ⟨w4.heap.size, 0, none⟩ = some (.int .i64 a0.sort) := cell_keep hb5 (by simp [go_sem])
  have q1 : w5.cell? ⟨w4.heap.size, 1, none⟩ = some (.int .i64 a0.num) := cell_keep hb5 (by simp [go_sem])
  have q2 : w5.cell? ⟨w4.heap.size, 2, none⟩ = some (.string a0.text) := cell_keep hb5 (by simp [go_sem])
  have q3 : w5.cell? ⟨w4.heap.size, 3, none⟩ = some (.slice B3 a0.names.length d3) := cell_keep hb5 (by simp [go_sem])
  have q4 : w5.cell? ⟨w4.heap.size, 4, none⟩ = some (.slice B4 a0.kids.length d4) := cell_keep hb5 (by simp [go_sem])
  have hbd := (Below.refl w5.heap.size w5).drew
  clear PK hc1 hf1 hc2 hf2 hc3 hf3 hc4 hf4 hc5 hf5
  have hsame : same a0 a0 = true := same_t rfl
  go_region_held3 (fun w' => w'.cell? ⟨w.heap.size, 0, none⟩ = some (.int .i64 a0.sort) ∧ w'.cell? ⟨w.heap.size, 1, none⟩ = some (.int .i64 a0.num) ∧ w'.cell? ⟨w.heap.size, 2, none⟩ = some (.string a0.text) ∧ w'.cell? ⟨w.heap.size, 3, none⟩ = some (.slice A3 a0.names.length c3) ∧ w'.cell? ⟨w.heap.size, 4, none⟩ = some (.slice A4 a0.kids.length c4) ∧ w'.cell? ⟨w4.heap.size, 0, none⟩ = some (.int .i64 a0.sort) ∧ w'.cell? ⟨w4.heap.size, 1, none⟩ = some (.int .i64 a0.num) ∧ w'.cell? ⟨w4.heap.size, 2, none⟩ = some (.string a0.text) ∧ w'.cell? ⟨w4.heap.size, 3, none⟩ = some (.slice B3 a0.names.length d3) ∧ w'.cell? ⟨w4.heap.size, 4, none⟩ = some (.slice B4 a0.kids.length d4) ∧ Below w5.heap.size w5 w') (first | exact ⟨p0, p1, p2, p3, p4, q0, q1, q2, q3, q4, hbd⟩ | exact ⟨cell_keep hb6 p0, cell_keep hb6 p1, cell_keep hb6 p2, cell_keep hb6 p3, cell_keep hb6 p4, cell_keep hb6 q0, cell_keep hb6 q1, cell_keep hb6 q2, cell_keep hb6 q3, cell_keep hb6 q4, bt hbd hb6⟩ | exact ⟨cell_keep hb7 (cell_keep hb6 p0), cell_keep hb7 (cell_keep hb6 p1), cell_keep hb7 (cell_keep hb6 p2), cell_keep hb7 (cell_keep hb6 p3), cell_keep hb7 (cell_keep hb6 p4), cell_keep hb7 (cell_keep hb6 q0), cell_keep hb7 (cell_keep hb6 q1), cell_keep hb7 (cell_keep hb6 q2), cell_keep hb7 (cell_keep hb6 q3), cell_keep hb7 (cell_keep hb6 q4), bt (bt hbd hb6) hb7⟩)
    (first | (go_at_call 10; refine (HT.out _ _ ((HC.out.keep hB5).keep hbd)).mono ?_; rintro e w6 ⟨us6, fp6, rfl, ho6, hfr6, hb6⟩) | (go_at_call 12; refine (eqValue_c a0 a0 _ _ _ (hO5.out.keep (bt hbd hb6)) (OwnRow.rdl ho6)).mono ?_; rintro e w7 ⟨rfl, hb7⟩))
  go_wp2
  go_ret
  exact ⟨rfl, bt hB5 (bt (bt hbd hb6) hb7)⟩
end Go.Proofs.Ytegabeefggcelaa.Lib
