/- The walk of the law FnExactPartBreaks. Printed by gexact.py. No condition. -/
import Derived.Test.YtmkagpmdindlpaaBrk1
import Derived.Test.YtmkagpmdindlpaaBrk2
import Derived.Test.YtmkagpmdindlpaaSz
import Derived.Test.YtmkagpmdindlpaaEq
import Derived.Test.YtmkagpmdindlpaaTo
import Derived.Test.YtmkagpmdindlpaaMk
import Derived.Test.YtmkagpmdindlpaaSMk
import Derived.Test.YtmkagpmdindlpaaGr
import Derived.Deep.RegionHeld3
set_option linter.unusedVariables false
set_option linter.unusedSimpArgs false
namespace Go.Proofs.Ytmkagpmdindlpaa.Lib
open Go.RowKit
set_option maxRecDepth 100000 in
set_option maxHeartbeats 8000000 in
theorem FnExactPartBreaks_walk (a0 : JPart) (a1 : JPart) (w : World) {cs0 : Array Value} {cs1 : Array Value} (g0 : RdL w a0.enc cs0.toList) (y0 : WfDs a0.enc) (g1 : RdL w a1.enc cs1.toList) (y1 : WfDs a1.enc) :
    Calls Try.prog 6 #[.agg cs0, .agg cs1] w (Ret w (.bool true)) := by
  obtain ⟨A0_0, c0_0, ecs⟩ := JPart.openL g0
  have G0 := Lib.hid (by rw [← ecs]; exact g0 : RdL w a0.enc [Value.string a0.name, .slice A0_0 a0.types.length c0_0])
  obtain rfl : cs0 = [Value.string a0.name, .slice A0_0 a0.types.length c0_0].toArray := by rw [← ecs]
  clear g0 y0 ecs
  obtain ⟨A1_0, c1_0, ecs⟩ := JPart.openL g1
  have G1 := Lib.hid (by rw [← ecs]; exact g1 : RdL w a1.enc [Value.string a1.name, .slice A1_0 a1.types.length c1_0])
  obtain rfl : cs1 = [Value.string a1.name, .slice A1_0 a1.types.length c1_0].toArray := by rw [← ecs]
  clear g1 y1 ecs
  have ZZ0 := Lib.hid (fun (W : World) (h : Below w.heap.size w W) => szPart_c a0 _ (1048576) W (G0.out.keep h) (by omega) (by omega))
  by_cases hb0_ : ((JPart.bulk a0 : Nat) : Int) ≤ 1048576
  case neg =>
    have e0_ := szR_no hb0_
    go_enter Try.func6, Try.ntmps6
    go_wp2_with fail
    refine (ZZ0.out _ (bt (b1 _ _) (b1 _ _))).mono ?_
    rintro e u1 ⟨rfl, hu1⟩
    have hU1 := bt (bt (b1 _ _) (b1 _ _)) hu1
    have hV1 : Below ((w.alloc (.cells #[.string a0.name, .slice A0_0 a0.types.length c0_0] 24)).alloc (.cells #[.string a1.name, .slice A1_0 a1.types.length c1_0] 24)).heap.size ((w.alloc (.cells #[.string a0.name, .slice A0_0 a0.types.length c0_0] 24)).alloc (.cells #[.string a1.name, .slice A1_0 a1.types.length c1_0] 24)) u1 := hu1
    have u1_0_0 : u1.cell? ⟨w.heap.size, 0, none⟩ = some (.string a0.name) := cell_keep hV1 (by simp [go_sem])
    have u1_0_1 : u1.cell? ⟨w.heap.size, 1, none⟩ = some (.slice A0_0 a0.types.length c0_0) := cell_keep hV1 (by simp [go_sem])
    have u1_0_z : w.heap.size < u1.heap.size := World.block_lt_of_cell? _ _ u1_0_0
    have u1_1_0 : u1.cell? ⟨w.heap.size + 1, 0, none⟩ = some (.string a1.name) := cell_keep hV1 (by simp [go_sem])
    have u1_1_1 : u1.cell? ⟨w.heap.size + 1, 1, none⟩ = some (.slice A1_0 a1.types.length c1_0) := cell_keep hV1 (by simp [go_sem])
    have u1_1_z : w.heap.size + 1 < u1.heap.size := World.block_lt_of_cell? _ _ u1_1_0
    go_wp2
    go_ret
    exact ⟨rfl, hU1⟩
  have e0_ := szR_yes hb0_
  have ZZ1 := Lib.hid (fun (W : World) (h : Below w.heap.size w W) => szPart_c a1 _ (1048576 - ((JPart.bulk a0 : Nat) : Int)) W (G1.out.keep h) (by omega) (by omega))
  by_cases hb1_ : ((JPart.bulk a1 : Nat) : Int) ≤ 1048576 - ((JPart.bulk a0 : Nat) : Int)
  case neg =>
    have e1_ := szR_no hb1_
    go_enter Try.func6, Try.ntmps6
    go_wp2_with fail
    refine (ZZ0.out _ (bt (b1 _ _) (b1 _ _))).mono ?_
    rintro e u1 ⟨rfl, hu1⟩
    have hU1 := bt (bt (b1 _ _) (b1 _ _)) hu1
    have hV1 : Below ((w.alloc (.cells #[.string a0.name, .slice A0_0 a0.types.length c0_0] 24)).alloc (.cells #[.string a1.name, .slice A1_0 a1.types.length c1_0] 24)).heap.size ((w.alloc (.cells #[.string a0.name, .slice A0_0 a0.types.length c0_0] 24)).alloc (.cells #[.string a1.name, .slice A1_0 a1.types.length c1_0] 24)) u1 := hu1
    have u1_0_0 : u1.cell? ⟨w.heap.size, 0, none⟩ = some (.string a0.name) := cell_keep hV1 (by simp [go_sem])
    have u1_0_1 : u1.cell? ⟨w.heap.size, 1, none⟩ = some (.slice A0_0 a0.types.length c0_0) := cell_keep hV1 (by simp [go_sem])
    have u1_0_z : w.heap.size < u1.heap.size := World.block_lt_of_cell? _ _ u1_0_0
    have u1_1_0 : u1.cell? ⟨w.heap.size + 1, 0, none⟩ = some (.string a1.name) := cell_keep hV1 (by simp [go_sem])
    have u1_1_1 : u1.cell? ⟨w.heap.size + 1, 1, none⟩ = some (.slice A1_0 a1.types.length c1_0) := cell_keep hV1 (by simp [go_sem])
    have u1_1_z : w.heap.size + 1 < u1.heap.size := World.block_lt_of_cell? _ _ u1_1_0
    go_wp2_with fail
    refine (ZZ1.out _ (hU1)).mono ?_
    rintro e u2 ⟨rfl, hu2⟩
    have hU2 := bt hU1 hu2
    have hV2 := bt hV1 hu2
    have u2_0_0 : u2.cell? ⟨w.heap.size, 0, none⟩ = some (.string a0.name) := cell_keep hV2 (by simp [go_sem])
    have u2_0_1 : u2.cell? ⟨w.heap.size, 1, none⟩ = some (.slice A0_0 a0.types.length c0_0) := cell_keep hV2 (by simp [go_sem])
    have u2_0_z : w.heap.size < u2.heap.size := World.block_lt_of_cell? _ _ u2_0_0
    have u2_1_0 : u2.cell? ⟨w.heap.size + 1, 0, none⟩ = some (.string a1.name) := cell_keep hV2 (by simp [go_sem])
    have u2_1_1 : u2.cell? ⟨w.heap.size + 1, 1, none⟩ = some (.slice A1_0 a1.types.length c1_0) := cell_keep hV2 (by simp [go_sem])
    have u2_1_z : w.heap.size + 1 < u2.heap.size := World.block_lt_of_cell? _ _ u2_1_0
    go_wp2
    go_ret
    exact ⟨rfl, hU2⟩
  have e1_ := szR_yes hb1_
  have z0_ : (0 : Int) ≤ 1048576 - ((JPart.bulk a0 : Nat) : Int) := by omega
  have z1_ : (0 : Int) ≤ 1048576 - ((JPart.bulk a0 : Nat) : Int) - ((JPart.bulk a1 : Nat) : Int) := by omega
  have T0 := Lib.hid (fun (W : World) (h : Below w.heap.size w W) => toPart_c a0 _ W (G0.out.keep h) (by omega))
  have T1 := Lib.hid (fun (W : World) (h : Below w.heap.size w W) => toPart_c a1 _ W (G1.out.keep h) (by omega))
  have hq0 : a0.bulk ≤ 1048576 := by omega
  have hq1 : a1.bulk ≤ 1048576 := by omega
  have HS := Lib.hid (fun (cs0 : List Value) (cs1 : List Value) (W : World) (h0 : RdL W a0.enc cs0) (h1 : RdL W a1.enc cs1) => specPartBreaks_c a0 a1 cs0 cs1 W h0 h1 hq0 hq1)
  have HI := Lib.hid (fun (cs0 : List Value) (cs1 : List Value) (W : World) (h0 : RdL W a0.enc cs0) (h1 : RdL W a1.enc cs1) => implPartBreaks_c a0 a1 cs0 cs1 W h0 h1 hq0 hq1)
  have hcr := breaksR_len (now := a1) hq0
  generalize breaksR a0 a1 = R at HS HI hcr
  have hcn0 : JPart.scnt a0 ≤ 8 * 1048576 := by have := scntPart_le a0; omega
  have sm0 : same a0 a0 = true := same_t rfl
  have hcn1 : JPart.scnt a1 ≤ 8 * 1048576 := by have := scntPart_le a1; omega
  have sm1 : same a1 a1 = true := same_t rfl
  have smr0 : same R R = true := same_t rfl
  go_enter Try.func6, Try.ntmps6
  go_wp2_with fail
  refine (ZZ0.out _ (bt (b1 _ _) (b1 _ _))).mono ?_
  rintro e w1 ⟨rfl, hb1⟩
  have hq1 := bt (bt (b1 _ _) (b1 _ _)) hb1
  have hB1 := hq1
  have hs1 : w.heap.size + 2 ≤ w1.heap.size := by have := hb1.size; (try simp only [World.size_alloc] at this); omega
  have pa0_0 : w1.cell? ⟨w.heap.size, 0, none⟩ = some (.string a0.name) := cell_keep hb1 (by simp [go_sem])
  have pa0_1 : w1.cell? ⟨w.heap.size, 1, none⟩ = some (.slice A0_0 a0.types.length c0_0) := cell_keep hb1 (by simp [go_sem])
  have pa0_z := World.block_lt_of_cell? _ _ pa0_0
  have pa1_0 : w1.cell? ⟨w.heap.size + 1, 0, none⟩ = some (.string a1.name) := cell_keep hb1 (by simp [go_sem])
  have pa1_1 : w1.cell? ⟨w.heap.size + 1, 1, none⟩ = some (.slice A1_0 a1.types.length c1_0) := cell_keep hb1 (by simp [go_sem])
  have pa1_z := World.block_lt_of_cell? _ _ pa1_0
  clear hq1 hb1
  go_wp2_with fail
  refine (ZZ1.out _ (hB1)).mono ?_
  rintro e w2 ⟨rfl, hb2⟩
  have hq2 := hb2
  have hB2 := bt hB1 hq2
  have hs2 : w1.heap.size ≤ w2.heap.size := by have := hb2.size; (try simp only [World.size_alloc] at this); omega
  replace pa0_0 := cell_keep hq2 pa0_0
  replace pa0_1 := cell_keep hq2 pa0_1
  replace pa0_z := World.block_lt_of_cell? _ _ pa0_0
  replace pa1_0 := cell_keep hq2 pa1_0
  replace pa1_1 := cell_keep hq2 pa1_1
  replace pa1_z := World.block_lt_of_cell? _ _ pa1_0
  clear hq2 hb2 hB1
  go_wp2_with fail
  have hbd := (Below.refl w2.heap.size w2).drew
  go_region_held3 (fun w' => w'.cell? ⟨w.heap.size, 0, none⟩ = some (.string a0.name) ∧ w'.cell? ⟨w.heap.size, 1, none⟩ = some (.slice A0_0 a0.types.length c0_0) ∧ w'.cell? ⟨w.heap.size + 1, 0, none⟩ = some (.string a1.name) ∧ w'.cell? ⟨w.heap.size + 1, 1, none⟩ = some (.slice A1_0 a1.types.length c1_0) ∧ Below w2.heap.size w2 w') (first | exact ⟨pa0_0, pa0_1, pa1_0, pa1_1, hbd⟩ | exact ⟨(cell_keep hb3 pa0_0), (cell_keep hb3 pa0_1), (cell_keep hb3 pa1_0), (cell_keep hb3 pa1_1), (bt hbd hb3)⟩ | exact ⟨(cell_keep hb4 (cell_keep hb3 pa0_0)), (cell_keep hb4 (cell_keep hb3 pa0_1)), (cell_keep hb4 (cell_keep hb3 pa1_0)), (cell_keep hb4 (cell_keep hb3 pa1_1)), (bt (bt hbd hb3) hb4)⟩ | exact ⟨(cell_keep hb5 (cell_keep hb4 (cell_keep hb3 pa0_0))), (cell_keep hb5 (cell_keep hb4 (cell_keep hb3 pa0_1))), (cell_keep hb5 (cell_keep hb4 (cell_keep hb3 pa1_0))), (cell_keep hb5 (cell_keep hb4 (cell_keep hb3 pa1_1))), (bt (bt (bt hbd hb3) hb4) hb5)⟩)
    (first | (go_at_call 24; (with_reducible refine (T0.out _ (bt hB2 hbd)).mono ?_); rintro e w3 ⟨us3, f3, rfl, o3, hf3, hb3⟩) | (go_at_call 24; (with_reducible refine (T1.out _ (bt hB2 (bt hbd hb3))).mono ?_); rintro e w4 ⟨us4, f4, rfl, o4, hf4, hb4⟩) | (go_at_call 30; (with_reducible refine (HS.out _ _ _ (OwnRow.rdl (o3.keep hb4)) (OwnRow.rdl o4)).mono ?_); rintro e w5 ⟨us5, f5, rfl, o5, hf5, hb5⟩))
  have hb5_ := (bt (bt (bt hbd hb3) hb4) hb5)
  replace hf5 := hf5.lower (bt (bt hbd hb3) hb4).size
  clear hbd hb5 hb4 hb3
  clear o3 hf3
  clear o4 hf4
  have nd_w0 := hf5.1
  have rg_w0 := Lib.hid (fun b (hm : b ∈ f5) => (⟨by have := hf5.2 b hm; (try simp only [World.size_alloc] at this); omega, Own.lt _ _ _ o5 b hm⟩ : w2.heap.size ≤ b ∧ b < w5.heap.size))
  obtain ⟨A_w0, c_w0, rfl⟩ := Own.slD o5
  have ow_w0 := Lib.hid o5
  clear o5 hf5
  have hq5 := hb5_
  have hB5 := bt hB2 hq5
  have hs5 : w2.heap.size ≤ w5.heap.size := by have := hb5_.size; (try simp only [World.size_alloc] at this); omega
  replace pa0_0 := cell_keep hq5 pa0_0
  replace pa0_1 := cell_keep hq5 pa0_1
  replace pa0_z := World.block_lt_of_cell? _ _ pa0_0
  replace pa1_0 := cell_keep hq5 pa1_0
  replace pa1_1 := cell_keep hq5 pa1_1
  replace pa1_z := World.block_lt_of_cell? _ _ pa1_0
  clear hq5 hb5_ hB2
  go_wp2_with fail
  refine (T0.out _ (hB5)).mono ?_
  rintro e w6 ⟨us6, f6, rfl, o6, hf6, hb6⟩
  have nd_x0 := hf6.1
  have rg_x0 := Lib.hid (fun b (hm : b ∈ f6) => (⟨by have := hf6.2 b hm; (try simp only [World.size_alloc] at this); omega, OwnRow.lt _ _ _ o6 b hm⟩ : w5.heap.size ≤ b ∧ b < w6.heap.size))
  obtain ⟨A_x00, c_x00, rfl⟩ := JPart.openO o6
  have ow_x0 := Lib.hid o6
  clear o6 hf6
  have hq6 := hb6
  have hB6 := bt hB5 hq6
  have hs6 : w5.heap.size ≤ w6.heap.size := by have := hb6.size; (try simp only [World.size_alloc] at this); omega
  replace ow_w0 := Lib.hid (ow_w0.out.keep hq6)
  replace pa0_0 := cell_keep hq6 pa0_0
  replace pa0_1 := cell_keep hq6 pa0_1
  replace pa0_z := World.block_lt_of_cell? _ _ pa0_0
  replace pa1_0 := cell_keep hq6 pa1_0
  replace pa1_1 := cell_keep hq6 pa1_1
  replace pa1_z := World.block_lt_of_cell? _ _ pa1_0
  clear hq6 hb6 hB5
  go_wp2_with fail
  refine (T1.out _ (bt hB6 (b1 _ _))).mono ?_
  rintro e w7 ⟨us7, f7, rfl, o7, hf7, hb7⟩
  have nd_x1 := hf7.1
  have rg_x1 := Lib.hid (fun b (hm : b ∈ f7) => (⟨by have := hf7.2 b hm; (try simp only [World.size_alloc] at this); omega, OwnRow.lt _ _ _ o7 b hm⟩ : w6.heap.size + 1 ≤ b ∧ b < w7.heap.size))
  obtain ⟨A_x10, c_x10, rfl⟩ := JPart.openO o7
  have ow_x1 := Lib.hid o7
  clear o7 hf7
  have hq7 := bt (b1 _ _) hb7
  have hB7 := bt hB6 hq7
  have hs7 : w6.heap.size + 1 ≤ w7.heap.size := by have := hb7.size; (try simp only [World.size_alloc] at this); omega
  replace ow_w0 := Lib.hid (ow_w0.out.keep hq7)
  replace ow_x0 := Lib.hid (ow_x0.out.keep hq7)
  replace pa0_0 := cell_keep hq7 pa0_0
  replace pa0_1 := cell_keep hq7 pa0_1
  replace pa0_z := World.block_lt_of_cell? _ _ pa0_0
  replace pa1_0 := cell_keep hq7 pa1_0
  replace pa1_1 := cell_keep hq7 pa1_1
  replace pa1_z := World.block_lt_of_cell? _ _ pa1_0
  have px0_0 : w7.cell? ⟨w6.heap.size, 0, none⟩ = some (.string a0.name) := cell_keep hb7 (by simp [go_sem])
  have px0_1 : w7.cell? ⟨w6.heap.size, 1, none⟩ = some (.slice A_x00 a0.types.length c_x00) := cell_keep hb7 (by simp [go_sem])
  have px0_z := World.block_lt_of_cell? _ _ px0_0
  clear hq7 hb7 hB6
  go_wp2_with fail
  refine (HI.out _ _ _ (OwnRow.rdl (ow_x0.out.keep (b1 _ _))) (OwnRow.rdl (ow_x1.out.keep (b1 _ _)))).mono ?_
  rintro e w8 ⟨us8, f8, rfl, o8, hf8, hb8⟩
  have nd_g0 := hf8.1
  have rg_g0 := Lib.hid (fun b (hm : b ∈ f8) => (⟨by have := hf8.2 b hm; (try simp only [World.size_alloc] at this); omega, Own.lt _ _ _ o8 b hm⟩ : w7.heap.size + 1 ≤ b ∧ b < w8.heap.size))
  obtain ⟨A_g0, c_g0, rfl⟩ := Own.slD o8
  have ow_g0 := Lib.hid o8
  clear o8 hf8
  have hq8 := bt (b1 _ _) hb8
  have hB8 := bt hB7 hq8
  have hs8 : w7.heap.size + 1 ≤ w8.heap.size := by have := hb8.size; (try simp only [World.size_alloc] at this); omega
  replace ow_w0 := Lib.hid (ow_w0.out.keep hq8)
  replace ow_x0 := Lib.hid (ow_x0.out.keep hq8)
  replace ow_x1 := Lib.hid (ow_x1.out.keep hq8)
  replace pa0_0 := cell_keep hq8 pa0_0
  replace pa0_1 := cell_keep hq8 pa0_1
  replace pa0_z := World.block_lt_of_cell? _ _ pa0_0
  replace pa1_0 := cell_keep hq8 pa1_0
  replace pa1_1 := cell_keep hq8 pa1_1
  replace pa1_z := World.block_lt_of_cell? _ _ pa1_0
  replace px0_0 := cell_keep hq8 px0_0
  replace px0_1 := cell_keep hq8 px0_1
  replace px0_z := World.block_lt_of_cell? _ _ px0_0
  have px1_0 : w8.cell? ⟨w7.heap.size, 0, none⟩ = some (.string a1.name) := cell_keep hb8 (by simp [go_sem])
  have px1_1 : w8.cell? ⟨w7.heap.size, 1, none⟩ = some (.slice A_x10 a1.types.length c_x10) := cell_keep hb8 (by simp [go_sem])
  have px1_z := World.block_lt_of_cell? _ _ px1_0
  clear hq8 hb8 hB7
  go_wp2_with fail
  refine (eqStringS_c _ _ _ _ _ _ _ (Own.rd _ _ _ ow_g0.out) (Own.rd _ _ _ ow_w0.out)).mono ?_
  rintro e w9 ⟨rfl, hb9⟩
  have hq9 := hb9
  have hB9 := bt hB8 hq9
  have hs9 : w8.heap.size ≤ w9.heap.size := by have := hb9.size; (try simp only [World.size_alloc] at this); omega
  replace ow_w0 := Lib.hid (ow_w0.out.keep hq9)
  replace ow_x0 := Lib.hid (ow_x0.out.keep hq9)
  replace ow_x1 := Lib.hid (ow_x1.out.keep hq9)
  replace ow_g0 := Lib.hid (ow_g0.out.keep hq9)
  replace pa0_0 := cell_keep hq9 pa0_0
  replace pa0_1 := cell_keep hq9 pa0_1
  replace pa0_z := World.block_lt_of_cell? _ _ pa0_0
  replace pa1_0 := cell_keep hq9 pa1_0
  replace pa1_1 := cell_keep hq9 pa1_1
  replace pa1_z := World.block_lt_of_cell? _ _ pa1_0
  replace px0_0 := cell_keep hq9 px0_0
  replace px0_1 := cell_keep hq9 px0_1
  replace px0_z := World.block_lt_of_cell? _ _ px0_0
  replace px1_0 := cell_keep hq9 px1_0
  replace px1_1 := cell_keep hq9 px1_1
  replace px1_z := World.block_lt_of_cell? _ _ px1_0
  clear hq9 hb9 hB8
  go_wp2_with fail
  have hbd := (Below.refl w9.heap.size w9).drew
  go_region_held3 (fun w' => w'.cell? ⟨w.heap.size, 0, none⟩ = some (.string a0.name) ∧ w'.cell? ⟨w.heap.size, 1, none⟩ = some (.slice A0_0 a0.types.length c0_0) ∧ w'.cell? ⟨w6.heap.size, 0, none⟩ = some (.string a0.name) ∧ w'.cell? ⟨w6.heap.size, 1, none⟩ = some (.slice A_x00 a0.types.length c_x00) ∧ Below w9.heap.size w9 w') (first | exact ⟨pa0_0, pa0_1, px0_0, px0_1, hbd⟩ | exact ⟨cell_keep hb10 pa0_0, cell_keep hb10 pa0_1, cell_keep hb10 px0_0, cell_keep hb10 px0_1, bt hbd hb10⟩ | exact ⟨cell_keep hb11 (cell_keep hb10 pa0_0), cell_keep hb11 (cell_keep hb10 pa0_1), cell_keep hb11 (cell_keep hb10 px0_0), cell_keep hb11 (cell_keep hb10 px0_1), bt (bt hbd hb10) hb11⟩)
    (first | (go_at_call 24; refine (T0.out _ (bt hB9 hbd)).mono ?_; rintro e w10 ⟨us10, f10, rfl, o10, hf10, hb10⟩) | (go_at_call 27; refine (eqPart_c a0 a0 _ _ _ (OwnRow.rdl (ow_x0.out.keep (bt hbd hb10))) (OwnRow.rdl o10)).mono ?_; rintro e w11 ⟨rfl, hb11⟩))
  have hb11_ := bt (bt hbd hb10) hb11
  clear hbd hb10 hb11 o10 hf10
  have hq11 := hb11_
  have hB11 := bt hB9 hq11
  have hs11 : w9.heap.size ≤ w11.heap.size := by have := hb11_.size; (try simp only [World.size_alloc] at this); omega
  replace ow_w0 := Lib.hid (ow_w0.out.keep hq11)
  replace ow_x0 := Lib.hid (ow_x0.out.keep hq11)
  replace ow_x1 := Lib.hid (ow_x1.out.keep hq11)
  replace ow_g0 := Lib.hid (ow_g0.out.keep hq11)
  replace pa0_0 := cell_keep hq11 pa0_0
  replace pa0_1 := cell_keep hq11 pa0_1
  replace pa0_z := World.block_lt_of_cell? _ _ pa0_0
  replace pa1_0 := cell_keep hq11 pa1_0
  replace pa1_1 := cell_keep hq11 pa1_1
  replace pa1_z := World.block_lt_of_cell? _ _ pa1_0
  replace px0_0 := cell_keep hq11 px0_0
  replace px0_1 := cell_keep hq11 px0_1
  replace px0_z := World.block_lt_of_cell? _ _ px0_0
  replace px1_0 := cell_keep hq11 px1_0
  replace px1_1 := cell_keep hq11 px1_1
  replace px1_z := World.block_lt_of_cell? _ _ px1_0
  clear hq11 hb11_ hB9
  go_wp2_with fail
  have hbd := (Below.refl w11.heap.size w11).drew
  go_region_held3 (fun w' => w'.cell? ⟨w.heap.size + 1, 0, none⟩ = some (.string a1.name) ∧ w'.cell? ⟨w.heap.size + 1, 1, none⟩ = some (.slice A1_0 a1.types.length c1_0) ∧ w'.cell? ⟨w7.heap.size, 0, none⟩ = some (.string a1.name) ∧ w'.cell? ⟨w7.heap.size, 1, none⟩ = some (.slice A_x10 a1.types.length c_x10) ∧ Below w11.heap.size w11 w') (first | exact ⟨pa1_0, pa1_1, px1_0, px1_1, hbd⟩ | exact ⟨cell_keep hb12 pa1_0, cell_keep hb12 pa1_1, cell_keep hb12 px1_0, cell_keep hb12 px1_1, bt hbd hb12⟩ | exact ⟨cell_keep hb13 (cell_keep hb12 pa1_0), cell_keep hb13 (cell_keep hb12 pa1_1), cell_keep hb13 (cell_keep hb12 px1_0), cell_keep hb13 (cell_keep hb12 px1_1), bt (bt hbd hb12) hb13⟩)
    (first | (go_at_call 24; refine (T1.out _ (bt hB11 hbd)).mono ?_; rintro e w12 ⟨us12, f12, rfl, o12, hf12, hb12⟩) | (go_at_call 27; refine (eqPart_c a1 a1 _ _ _ (OwnRow.rdl (ow_x1.out.keep (bt hbd hb12))) (OwnRow.rdl o12)).mono ?_; rintro e w13 ⟨rfl, hb13⟩))
  have hb13_ := bt (bt hbd hb12) hb13
  clear hbd hb12 hb13 o12 hf12
  have hq13 := hb13_
  have hB13 := bt hB11 hq13
  have hs13 : w11.heap.size ≤ w13.heap.size := by have := hb13_.size; (try simp only [World.size_alloc] at this); omega
  replace ow_w0 := Lib.hid (ow_w0.out.keep hq13)
  replace ow_x0 := Lib.hid (ow_x0.out.keep hq13)
  replace ow_x1 := Lib.hid (ow_x1.out.keep hq13)
  replace ow_g0 := Lib.hid (ow_g0.out.keep hq13)
  replace pa0_0 := cell_keep hq13 pa0_0
  replace pa0_1 := cell_keep hq13 pa0_1
  replace pa0_z := World.block_lt_of_cell? _ _ pa0_0
  replace pa1_0 := cell_keep hq13 pa1_0
  replace pa1_1 := cell_keep hq13 pa1_1
  replace pa1_z := World.block_lt_of_cell? _ _ pa1_0
  replace px0_0 := cell_keep hq13 px0_0
  replace px0_1 := cell_keep hq13 px0_1
  replace px0_z := World.block_lt_of_cell? _ _ px0_0
  replace px1_0 := cell_keep hq13 px1_0
  replace px1_1 := cell_keep hq13 px1_1
  replace px1_z := World.block_lt_of_cell? _ _ px1_0
  clear hq13 hb13_ hB11
  go_wp2_with fail
  refine (smkPart_c a0 _ f6 1 _ ow_x0.out nd_x0 (by omega) (by omega)).mono ?_
  rintro e w14 ⟨rfl, hm14, ht14⟩
  have hs14 := ht14.size
  have hB14 := Touch.toBelow ht14 hB13 (fun b hm => by have := rg_x0.out b hm; omega)
  replace ow_w0 := Lib.hid (Own.touch ow_w0.out ht14 (fun b h1 h2 => by have := rg_w0.out b h1; have := rg_x0.out b h2; omega))
  replace ow_x1 := Lib.hid (OwnRow.touch ow_x1.out ht14 (fun b h1 h2 => by have := rg_x1.out b h1; have := rg_x0.out b h2; omega))
  replace ow_g0 := Lib.hid (Own.touch ow_g0.out ht14 (fun b h1 h2 => by have := rg_g0.out b h1; have := rg_x0.out b h2; omega))
  replace pa0_0 := cell_touch ht14 pa0_0 (fun hm => by have := rg_x0.out _ hm; omega)
  replace pa0_1 := cell_touch ht14 pa0_1 (fun hm => by have := rg_x0.out _ hm; omega)
  replace pa0_z := World.block_lt_of_cell? _ _ pa0_0
  replace pa1_0 := cell_touch ht14 pa1_0 (fun hm => by have := rg_x0.out _ hm; omega)
  replace pa1_1 := cell_touch ht14 pa1_1 (fun hm => by have := rg_x0.out _ hm; omega)
  replace pa1_z := World.block_lt_of_cell? _ _ pa1_0
  replace px0_0 := cell_touch ht14 px0_0 (fun hm => by have := rg_x0.out _ hm; omega)
  replace px0_1 := cell_touch ht14 px0_1 (fun hm => by have := rg_x0.out _ hm; omega)
  replace px0_z := World.block_lt_of_cell? _ _ px0_0
  replace px1_0 := cell_touch ht14 px1_0 (fun hm => by have := rg_x0.out _ hm; omega)
  replace px1_1 := cell_touch ht14 px1_1 (fun hm => by have := rg_x0.out _ hm; omega)
  replace px1_z := World.block_lt_of_cell? _ _ px1_0
  clear ht14 hB13 ow_x0
  have ow_x0 := Lib.hid hm14
  clear hm14
  go_wp2_with fail
  refine (smkPart_c a1 _ f7 (1 + ((JPart.scnt a0 : Nat) : Int)) _ ow_x1.out nd_x1 (by omega) (by omega)).mono ?_
  rintro e w15 ⟨rfl, hm15, ht15⟩
  have hs15 := ht15.size
  have hB15 := Touch.toBelow ht15 hB14 (fun b hm => by have := rg_x1.out b hm; omega)
  replace ow_w0 := Lib.hid (Own.touch ow_w0.out ht15 (fun b h1 h2 => by have := rg_w0.out b h1; have := rg_x1.out b h2; omega))
  replace ow_g0 := Lib.hid (Own.touch ow_g0.out ht15 (fun b h1 h2 => by have := rg_g0.out b h1; have := rg_x1.out b h2; omega))
  replace ow_x0 := Lib.hid (OwnRow.touch ow_x0.out ht15 (fun b h1 h2 => by have := rg_x0.out b h1; have := rg_x1.out b h2; omega))
  replace pa0_0 := cell_touch ht15 pa0_0 (fun hm => by have := rg_x1.out _ hm; omega)
  replace pa0_1 := cell_touch ht15 pa0_1 (fun hm => by have := rg_x1.out _ hm; omega)
  replace pa0_z := World.block_lt_of_cell? _ _ pa0_0
  replace pa1_0 := cell_touch ht15 pa1_0 (fun hm => by have := rg_x1.out _ hm; omega)
  replace pa1_1 := cell_touch ht15 pa1_1 (fun hm => by have := rg_x1.out _ hm; omega)
  replace pa1_z := World.block_lt_of_cell? _ _ pa1_0
  replace px0_0 := cell_touch ht15 px0_0 (fun hm => by have := rg_x1.out _ hm; omega)
  replace px0_1 := cell_touch ht15 px0_1 (fun hm => by have := rg_x1.out _ hm; omega)
  replace px0_z := World.block_lt_of_cell? _ _ px0_0
  replace px1_0 := cell_touch ht15 px1_0 (fun hm => by have := rg_x1.out _ hm; omega)
  replace px1_1 := cell_touch ht15 px1_1 (fun hm => by have := rg_x1.out _ hm; omega)
  replace px1_z := World.block_lt_of_cell? _ _ px1_0
  clear ht15 hB14 ow_x1
  have ow_x1 := Lib.hid hm15
  clear hm15
  clear ow_x0 rg_x0 nd_x0
  clear px0_0 px0_1 px0_z
  clear ow_x1 rg_x1 nd_x1
  clear px1_0 px1_1 px1_z
  go_wp2_with fail
  refine (eqStringS_c _ _ _ _ _ _ _ (Own.rd _ _ _ ow_g0.out) (Own.rd _ _ _ ow_w0.out)).mono ?_
  rintro e w16 ⟨rfl, hb16⟩
  have hq16 := hb16
  have hB16 := bt hB15 hq16
  have hs16 : w15.heap.size ≤ w16.heap.size := by have := hb16.size; (try simp only [World.size_alloc] at this); omega
  replace ow_w0 := Lib.hid (ow_w0.out.keep hq16)
  replace ow_g0 := Lib.hid (ow_g0.out.keep hq16)
  replace pa0_0 := cell_keep hq16 pa0_0
  replace pa0_1 := cell_keep hq16 pa0_1
  replace pa0_z := World.block_lt_of_cell? _ _ pa0_0
  replace pa1_0 := cell_keep hq16 pa1_0
  replace pa1_1 := cell_keep hq16 pa1_1
  replace pa1_z := World.block_lt_of_cell? _ _ pa1_0
  clear hq16 hb16 hB15
  go_wp2_with fail
  refine (mkStringS_c R _ f8 1 _ ow_g0.out nd_g0 (by omega) (by omega)).mono ?_
  rintro e w17 ⟨rfl, hm17, ht17⟩
  have hs17 := ht17.size
  have hB17 := Touch.toBelow ht17 hB16 (fun b hm => by have := rg_g0.out b hm; omega)
  replace ow_w0 := Lib.hid (Own.touch ow_w0.out ht17 (fun b h1 h2 => by have := rg_w0.out b h1; have := rg_g0.out b h2; omega))
  replace pa0_0 := cell_touch ht17 pa0_0 (fun hm => by have := rg_g0.out _ hm; omega)
  replace pa0_1 := cell_touch ht17 pa0_1 (fun hm => by have := rg_g0.out _ hm; omega)
  replace pa0_z := World.block_lt_of_cell? _ _ pa0_0
  replace pa1_0 := cell_touch ht17 pa1_0 (fun hm => by have := rg_g0.out _ hm; omega)
  replace pa1_1 := cell_touch ht17 pa1_1 (fun hm => by have := rg_g0.out _ hm; omega)
  replace pa1_z := World.block_lt_of_cell? _ _ pa1_0
  clear ht17 hB16 ow_g0
  have ow_g0 := Lib.hid hm17
  clear hm17
  go_wp2_with fail
  refine (heldStringS_n R 1 _ _ _ _ (Own.rd _ _ _ ow_g0.out) (by omega) (by omega)).mono ?_
  rintro e w18 ⟨rfl, hb18⟩
  have hq18 := hb18
  have hB18 := bt hB17 hq18
  have hs18 : w17.heap.size ≤ w18.heap.size := by have := hb18.size; (try simp only [World.size_alloc] at this); omega
  replace ow_w0 := Lib.hid (ow_w0.out.keep hq18)
  replace ow_g0 := Lib.hid (ow_g0.out.keep hq18)
  replace pa0_0 := cell_keep hq18 pa0_0
  replace pa0_1 := cell_keep hq18 pa0_1
  replace pa0_z := World.block_lt_of_cell? _ _ pa0_0
  replace pa1_0 := cell_keep hq18 pa1_0
  replace pa1_1 := cell_keep hq18 pa1_1
  replace pa1_z := World.block_lt_of_cell? _ _ pa1_0
  clear hq18 hb18 hB17
  go_wp2_with fail
  have hbd := (Below.refl w18.heap.size w18).drew
  go_region_held3 (fun w' => w'.cell? ⟨w.heap.size, 0, none⟩ = some (.string a0.name) ∧ w'.cell? ⟨w.heap.size, 1, none⟩ = some (.slice A0_0 a0.types.length c0_0) ∧ w'.cell? ⟨w.heap.size + 1, 0, none⟩ = some (.string a1.name) ∧ w'.cell? ⟨w.heap.size + 1, 1, none⟩ = some (.slice A1_0 a1.types.length c1_0) ∧ Below w18.heap.size w18 w') (first | exact ⟨pa0_0, pa0_1, pa1_0, pa1_1, hbd⟩ | exact ⟨(cell_keep hb19 pa0_0), (cell_keep hb19 pa0_1), (cell_keep hb19 pa1_0), (cell_keep hb19 pa1_1), (bt hbd hb19)⟩ | exact ⟨(cell_keep hb20 (cell_keep hb19 pa0_0)), (cell_keep hb20 (cell_keep hb19 pa0_1)), (cell_keep hb20 (cell_keep hb19 pa1_0)), (cell_keep hb20 (cell_keep hb19 pa1_1)), (bt (bt hbd hb19) hb20)⟩ | exact ⟨(cell_keep hb21 (cell_keep hb20 (cell_keep hb19 pa0_0))), (cell_keep hb21 (cell_keep hb20 (cell_keep hb19 pa0_1))), (cell_keep hb21 (cell_keep hb20 (cell_keep hb19 pa1_0))), (cell_keep hb21 (cell_keep hb20 (cell_keep hb19 pa1_1))), (bt (bt (bt hbd hb19) hb20) hb21)⟩)
    (first | (go_at_call 24; (with_reducible refine (T0.out _ (bt hB18 hbd)).mono ?_); rintro e w19 ⟨us19, f19, rfl, o19, hf19, hb19⟩) | (go_at_call 24; (with_reducible refine (T1.out _ (bt hB18 (bt hbd hb19))).mono ?_); rintro e w20 ⟨us20, f20, rfl, o20, hf20, hb20⟩) | (go_at_call 31; (with_reducible refine (HI.out _ _ _ (OwnRow.rdl (o19.keep hb20)) (OwnRow.rdl o20)).mono ?_); rintro e w21 ⟨us21, f21, rfl, o21, hf21, hb21⟩))
  have hb21_ := (bt (bt (bt hbd hb19) hb20) hb21)
  replace hf21 := hf21.lower (bt (bt hbd hb19) hb20).size
  clear hbd hb21 hb20 hb19
  clear o19 hf19
  clear o20 hf20
  have nd_h0 := hf21.1
  have rg_h0 := Lib.hid (fun b (hm : b ∈ f21) => (⟨by have := hf21.2 b hm; (try simp only [World.size_alloc] at this); omega, Own.lt _ _ _ o21 b hm⟩ : w18.heap.size ≤ b ∧ b < w21.heap.size))
  obtain ⟨A_h0, c_h0, rfl⟩ := Own.slD o21
  have ow_h0 := Lib.hid o21
  clear o21 hf21
  have hq21 := hb21_
  have hB21 := bt hB18 hq21
  have hs21 : w18.heap.size ≤ w21.heap.size := by have := hb21_.size; (try simp only [World.size_alloc] at this); omega
  replace ow_w0 := Lib.hid (ow_w0.out.keep hq21)
  replace ow_g0 := Lib.hid (ow_g0.out.keep hq21)
  replace pa0_0 := cell_keep hq21 pa0_0
  replace pa0_1 := cell_keep hq21 pa0_1
  replace pa0_z := World.block_lt_of_cell? _ _ pa0_0
  replace pa1_0 := cell_keep hq21 pa1_0
  replace pa1_1 := cell_keep hq21 pa1_1
  replace pa1_z := World.block_lt_of_cell? _ _ pa1_0
  clear hq21 hb21_ hB18
  go_wp2_with fail
  refine (eqStringS_c _ _ _ _ _ _ _ (Own.rd _ _ _ ow_h0.out) (Own.rd _ _ _ ow_w0.out)).mono ?_
  rintro e w22 ⟨rfl, hb22⟩
  have hq22 := hb22
  have hB22 := bt hB21 hq22
  have hs22 : w21.heap.size ≤ w22.heap.size := by have := hb22.size; (try simp only [World.size_alloc] at this); omega
  replace ow_w0 := Lib.hid (ow_w0.out.keep hq22)
  replace ow_g0 := Lib.hid (ow_g0.out.keep hq22)
  replace ow_h0 := Lib.hid (ow_h0.out.keep hq22)
  replace pa0_0 := cell_keep hq22 pa0_0
  replace pa0_1 := cell_keep hq22 pa0_1
  replace pa0_z := World.block_lt_of_cell? _ _ pa0_0
  replace pa1_0 := cell_keep hq22 pa1_0
  replace pa1_1 := cell_keep hq22 pa1_1
  replace pa1_z := World.block_lt_of_cell? _ _ pa1_0
  clear hq22 hb22 hB21
  go_wp2_with fail
  refine (heldStringS_n R 1 _ _ _ _ (Own.rd _ _ _ ow_g0.out) (by omega) (by omega)).mono ?_
  rintro e w23 ⟨rfl, hb23⟩
  have hq23 := hb23
  have hB23 := bt hB22 hq23
  have hs23 : w22.heap.size ≤ w23.heap.size := by have := hb23.size; (try simp only [World.size_alloc] at this); omega
  replace ow_w0 := Lib.hid (ow_w0.out.keep hq23)
  replace ow_g0 := Lib.hid (ow_g0.out.keep hq23)
  replace ow_h0 := Lib.hid (ow_h0.out.keep hq23)
  replace pa0_0 := cell_keep hq23 pa0_0
  replace pa0_1 := cell_keep hq23 pa0_1
  replace pa0_z := World.block_lt_of_cell? _ _ pa0_0
  replace pa1_0 := cell_keep hq23 pa1_0
  replace pa1_1 := cell_keep hq23 pa1_1
  replace pa1_z := World.block_lt_of_cell? _ _ pa1_0
  clear hq23 hb23 hB22
  go_wp2
  go_ret
  exact ⟨rfl, hB23⟩
end Go.Proofs.Ytmkagpmdindlpaa.Lib
