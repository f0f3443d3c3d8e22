/- The walk of the law FnExactPartField. Printed by gexact.py. No condition. -/
import Derived.Test.YtmkagpmdindlpaaPartV
import Derived.Test.YtmkagpmdindlpaaSz
import Derived.Test.YtmkagpmdindlpaaEq
import Derived.Test.YtmkagpmdindlpaaTo
import Derived.Test.YtmkagpmdindlpaaMk
import Derived.Test.YtmkagpmdindlpaaSMk
import Derived.Test.YtmkagpmdindlpaaGr
import Derived.Deep.RegionHeld3
set_option linter.unusedVariables false
set_option linter.unusedSimpArgs false
namespace Go.Proofs.Ytmkagpmdindlpaa.Lib
open Go.RowKit
set_option maxRecDepth 100000 in
set_option maxHeartbeats 8000000 in
theorem FnExactPartField_walk (a0 : JPart) (a1 : ByteArray) (a2 : ByteArray) (w : World) {cs0 : Array Value} (g0 : RdL w a0.enc cs0.toList) (y0 : WfDs a0.enc) (y1 : a1.size ≤ maxLen) (y2 : a2.size ≤ maxLen) :
    Calls Try.prog 7 #[.agg cs0, .string a1, .string a2] w (Ret w (.bool true)) := by
  obtain ⟨A0_0, c0_0, ecs⟩ := JPart.openL g0
  have G0 := Lib.hid (by rw [← ecs]; exact g0 : RdL w a0.enc [Value.string a0.name, .slice A0_0 a0.types.length c0_0])
  obtain rfl : cs0 = [Value.string a0.name, .slice A0_0 a0.types.length c0_0].toArray := by rw [← ecs]
  clear g0 y0 ecs
  unfold maxLen at y1
  unfold maxLen at y2
  by_cases t1 : (1048576 : Int) < a1.size
  · go_enter Try.func7, Try.ntmps7
    go_wp2
    go_ret
    exact ⟨rfl, b1 _ _⟩
  by_cases t2 : (1048576 : Int) < a2.size
  · go_enter Try.func7, Try.ntmps7
    go_wp2
    go_ret
    exact ⟨rfl, b1 _ _⟩
  have ZZ0 := Lib.hid (fun (W : World) (h : Below w.heap.size w W) => szPart_c a0 _ (1048576) W (G0.out.keep h) (by omega) (by omega))
  by_cases hb0_ : ((JPart.bulk a0 : Nat) : Int) ≤ 1048576
  case neg =>
    have e0_ := szR_no hb0_
    go_enter Try.func7, Try.ntmps7
    go_wp2_with fail
    refine (ZZ0.out _ (b1 _ _)).mono ?_
    rintro e u1 ⟨rfl, hu1⟩
    have hU1 := bt (b1 _ _) hu1
    have hV1 : Below (w.alloc (.cells #[.string a0.name, .slice A0_0 a0.types.length c0_0] 24)).heap.size (w.alloc (.cells #[.string a0.name, .slice A0_0 a0.types.length c0_0] 24)) u1 := hu1
    have u1_0_0 : u1.cell? ⟨w.heap.size, 0, none⟩ = some (.string a0.name) := cell_keep hV1 (by simp [go_sem])
    have u1_0_1 : u1.cell? ⟨w.heap.size, 1, none⟩ = some (.slice A0_0 a0.types.length c0_0) := cell_keep hV1 (by simp [go_sem])
    have u1_0_z : w.heap.size < u1.heap.size := World.block_lt_of_cell? _ _ u1_0_0
    go_wp2
    go_ret
    exact ⟨rfl, hU1⟩
  have e0_ := szR_yes hb0_
  have z0_ : (0 : Int) ≤ 1048576 - ((JPart.bulk a0 : Nat) : Int) := by omega
  have T0 := Lib.hid (fun (W : World) (h : Below w.heap.size w W) => toPart_c a0 _ W (G0.out.keep h) (by omega))
  have hq0 : a0.bulk ≤ 1048576 := by omega
  have HS := Lib.hid (fun (cs0 : List Value) (W : World) (h0 : RdL W a0.enc cs0) => specPartField_r a0 cs0 a1 a2 W h0 hq0)
  have HI := Lib.hid (fun (cs0 : List Value) (W : World) (h0 : RdL W a0.enc cs0) => implPartField_r a0 cs0 a1 a2 W h0 hq0)
  have hcr := Nat.le_trans (scntField_le (fieldR a0 a1 a2).1) (Nat.mul_le_mul_left 8 (fieldR_bulk (n := a1) (f := a2) hq0))
  generalize fieldR a0 a1 a2 = R at HS HI hcr
  obtain ⟨r0, r1⟩ := R
  dsimp only at HS HI hcr
  have hcn0 : JPart.scnt a0 ≤ 8 * 1048576 := by have := scntPart_le a0; omega
  have sm0 : same a0 a0 = true := same_t rfl
  have smr0 : same r0 r0 = true := same_t rfl
  go_enter Try.func7, Try.ntmps7
  go_wp2_with fail
  refine (ZZ0.out _ (b1 _ _)).mono ?_
  rintro e w1 ⟨rfl, hb1⟩
  have hq1 := bt (b1 _ _) hb1
  have hB1 := hq1
  have hs1 : w.heap.size + 1 ≤ w1.heap.size := by have := hb1.size; (try simp only [World.size_alloc] at this); omega
  have pa0_0 : w1.cell? ⟨w.heap.size, 0, none⟩ = some (.string a0.name) := cell_keep hb1 (by simp [go_sem])
  have pa0_1 : w1.cell? ⟨w.heap.size, 1, none⟩ = some (.slice A0_0 a0.types.length c0_0) := cell_keep hb1 (by simp [go_sem])
  have pa0_z := World.block_lt_of_cell? _ _ pa0_0
  clear hq1 hb1
  go_wp2_with fail
  refine (T0.out _ (hB1)).mono ?_
  rintro e w2 ⟨us2, f2, rfl, o2, hf2, hb2⟩
  have nd_s0 := hf2.1
  have rg_s0 := Lib.hid (fun b (hm : b ∈ f2) => (⟨by have := hf2.2 b hm; (try simp only [World.size_alloc] at this); omega, OwnRow.lt _ _ _ o2 b hm⟩ : w1.heap.size ≤ b ∧ b < w2.heap.size))
  obtain ⟨A_s00, c_s00, rfl⟩ := JPart.openO o2
  have ow_s0 := Lib.hid o2
  clear o2 hf2
  have hq2 := hb2
  have hB2 := bt hB1 hq2
  have hs2 : w1.heap.size ≤ w2.heap.size := by have := hb2.size; (try simp only [World.size_alloc] at this); omega
  replace pa0_0 := cell_keep hq2 pa0_0
  replace pa0_1 := cell_keep hq2 pa0_1
  replace pa0_z := World.block_lt_of_cell? _ _ pa0_0
  clear hq2 hb2 hB1
  go_wp2_with fail
  refine (HS.out _ _ (OwnRow.rdl ow_s0.out)).mono ?_
  rintro e w3 ⟨us3, f3, rfl, o3, hf3, hb3⟩
  have nd_w0 := hf3.1
  have rg_w0 := Lib.hid (fun b (hm : b ∈ f3) => (⟨by have := hf3.2 b hm; (try simp only [World.size_alloc] at this); omega, OwnRow.lt _ _ _ o3 b hm⟩ : w2.heap.size ≤ b ∧ b < w3.heap.size))
  obtain ⟨A_w00, c_w00, rfl⟩ := JField.openO o3
  have ow_w0 := Lib.hid o3
  clear o3 hf3
  have hq3 := hb3
  have hB3 := bt hB2 hq3
  have hs3 : w2.heap.size ≤ w3.heap.size := by have := hb3.size; (try simp only [World.size_alloc] at this); omega
  replace ow_s0 := Lib.hid (ow_s0.out.keep hq3)
  replace pa0_0 := cell_keep hq3 pa0_0
  replace pa0_1 := cell_keep hq3 pa0_1
  replace pa0_z := World.block_lt_of_cell? _ _ pa0_0
  clear hq3 hb3 hB2
  clear ow_s0 rg_s0 nd_s0
  go_wp2_with fail
  refine (T0.out _ (bt hB3 (b1 _ _))).mono ?_
  rintro e w4 ⟨us4, f4, rfl, o4, hf4, hb4⟩
  have nd_x0 := hf4.1
  have rg_x0 := Lib.hid (fun b (hm : b ∈ f4) => (⟨by have := hf4.2 b hm; (try simp only [World.size_alloc] at this); omega, OwnRow.lt _ _ _ o4 b hm⟩ : w3.heap.size + 1 ≤ b ∧ b < w4.heap.size))
  obtain ⟨A_x00, c_x00, rfl⟩ := JPart.openO o4
  have ow_x0 := Lib.hid o4
  clear o4 hf4
  have hq4 := bt (b1 _ _) hb4
  have hB4 := bt hB3 hq4
  have hs4 : w3.heap.size + 1 ≤ w4.heap.size := by have := hb4.size; (try simp only [World.size_alloc] at this); omega
  replace ow_w0 := Lib.hid (ow_w0.out.keep hq4)
  replace pa0_0 := cell_keep hq4 pa0_0
  replace pa0_1 := cell_keep hq4 pa0_1
  replace pa0_z := World.block_lt_of_cell? _ _ pa0_0
  have pw0_0 : w4.cell? ⟨w3.heap.size, 0, none⟩ = some (.string r0.name) := cell_keep hb4 (by simp [go_sem])
  have pw0_1 : w4.cell? ⟨w3.heap.size, 1, none⟩ = some (.string r0.of) := cell_keep hb4 (by simp [go_sem])
  have pw0_2 : w4.cell? ⟨w3.heap.size, 2, none⟩ = some (.bool r0.list) := cell_keep hb4 (by simp [go_sem])
  have pw0_3 : w4.cell? ⟨w3.heap.size, 3, none⟩ = some (.bool r0.must) := cell_keep hb4 (by simp [go_sem])
  have pw0_4 : w4.cell? ⟨w3.heap.size, 4, none⟩ = some (.bool r0.far) := cell_keep hb4 (by simp [go_sem])
  have pw0_5 : w4.cell? ⟨w3.heap.size, 5, none⟩ = some (.bool r0.hidden) := cell_keep hb4 (by simp [go_sem])
  have pw0_6 : w4.cell? ⟨w3.heap.size, 6, none⟩ = some (.bool r0.shared) := cell_keep hb4 (by simp [go_sem])
  have pw0_7 : w4.cell? ⟨w3.heap.size, 7, none⟩ = some (.slice A_w00 r0.needs.length c_w00) := cell_keep hb4 (by simp [go_sem])
  have pw0_z := World.block_lt_of_cell? _ _ pw0_0
  clear hq4 hb4 hB3
  go_wp2_with fail
  refine (HI.out _ _ (OwnRow.rdl (ow_x0.out.keep (b1 _ _)))).mono ?_
  rintro e w5 ⟨us5, f5, rfl, o5, hf5, hb5⟩
  have nd_g0 := hf5.1
  have rg_g0 := Lib.hid (fun b (hm : b ∈ f5) => (⟨by have := hf5.2 b hm; (try simp only [World.size_alloc] at this); omega, OwnRow.lt _ _ _ o5 b hm⟩ : w4.heap.size + 1 ≤ b ∧ b < w5.heap.size))
  obtain ⟨A_g00, c_g00, rfl⟩ := JField.openO o5
  have ow_g0 := Lib.hid o5
  clear o5 hf5
  have hq5 := bt (b1 _ _) hb5
  have hB5 := bt hB4 hq5
  have hs5 : w4.heap.size + 1 ≤ w5.heap.size := by have := hb5.size; (try simp only [World.size_alloc] at this); omega
  replace ow_w0 := Lib.hid (ow_w0.out.keep hq5)
  replace ow_x0 := Lib.hid (ow_x0.out.keep hq5)
  replace pa0_0 := cell_keep hq5 pa0_0
  replace pa0_1 := cell_keep hq5 pa0_1
  replace pa0_z := World.block_lt_of_cell? _ _ pa0_0
  replace pw0_0 := cell_keep hq5 pw0_0
  replace pw0_1 := cell_keep hq5 pw0_1
  replace pw0_2 := cell_keep hq5 pw0_2
  replace pw0_3 := cell_keep hq5 pw0_3
  replace pw0_4 := cell_keep hq5 pw0_4
  replace pw0_5 := cell_keep hq5 pw0_5
  replace pw0_6 := cell_keep hq5 pw0_6
  replace pw0_7 := cell_keep hq5 pw0_7
  replace pw0_z := World.block_lt_of_cell? _ _ pw0_0
  have px0_0 : w5.cell? ⟨w4.heap.size, 0, none⟩ = some (.string a0.name) := cell_keep hb5 (by simp [go_sem])
  have px0_1 : w5.cell? ⟨w4.heap.size, 1, none⟩ = some (.slice A_x00 a0.types.length c_x00) := cell_keep hb5 (by simp [go_sem])
  have px0_z := World.block_lt_of_cell? _ _ px0_0
  clear hq5 hb5 hB4
  go_wp2_with fail
  refine (eqField_c r0 r0 _ _ _ (OwnRow.rdl (ow_g0.out.keep (b1 _ _))) (OwnRow.rdl (ow_w0.out.keep (b1 _ _)))).mono ?_
  rintro e w6 ⟨rfl, hb6⟩
  have hq6 := bt (b1 _ _) hb6
  have hB6 := bt hB5 hq6
  have hs6 : w5.heap.size + 1 ≤ w6.heap.size := by have := hb6.size; (try simp only [World.size_alloc] at this); omega
  replace ow_w0 := Lib.hid (ow_w0.out.keep hq6)
  replace ow_x0 := Lib.hid (ow_x0.out.keep hq6)
  replace ow_g0 := Lib.hid (ow_g0.out.keep hq6)
  replace pa0_0 := cell_keep hq6 pa0_0
  replace pa0_1 := cell_keep hq6 pa0_1
  replace pa0_z := World.block_lt_of_cell? _ _ pa0_0
  replace pw0_0 := cell_keep hq6 pw0_0
  replace pw0_1 := cell_keep hq6 pw0_1
  replace pw0_2 := cell_keep hq6 pw0_2
  replace pw0_3 := cell_keep hq6 pw0_3
  replace pw0_4 := cell_keep hq6 pw0_4
  replace pw0_5 := cell_keep hq6 pw0_5
  replace pw0_6 := cell_keep hq6 pw0_6
  replace pw0_7 := cell_keep hq6 pw0_7
  replace pw0_z := World.block_lt_of_cell? _ _ pw0_0
  replace px0_0 := cell_keep hq6 px0_0
  replace px0_1 := cell_keep hq6 px0_1
  replace px0_z := World.block_lt_of_cell? _ _ px0_0
  have pg0_0 : w6.cell? ⟨w5.heap.size, 0, none⟩ = some (.string r0.name) := cell_keep hb6 (by simp [go_sem])
  have pg0_1 : w6.cell? ⟨w5.heap.size, 1, none⟩ = some (.string r0.of) := cell_keep hb6 (by simp [go_sem])
  have pg0_2 : w6.cell? ⟨w5.heap.size, 2, none⟩ = some (.bool r0.list) := cell_keep hb6 (by simp [go_sem])
  have pg0_3 : w6.cell? ⟨w5.heap.size, 3, none⟩ = some (.bool r0.must) := cell_keep hb6 (by simp [go_sem])
  have pg0_4 : w6.cell? ⟨w5.heap.size, 4, none⟩ = some (.bool r0.far) := cell_keep hb6 (by simp [go_sem])
  have pg0_5 : w6.cell? ⟨w5.heap.size, 5, none⟩ = some (.bool r0.hidden) := cell_keep hb6 (by simp [go_sem])
  have pg0_6 : w6.cell? ⟨w5.heap.size, 6, none⟩ = some (.bool r0.shared) := cell_keep hb6 (by simp [go_sem])
  have pg0_7 : w6.cell? ⟨w5.heap.size, 7, none⟩ = some (.slice A_g00 r0.needs.length c_g00) := cell_keep hb6 (by simp [go_sem])
  have pg0_z := World.block_lt_of_cell? _ _ pg0_0
  clear hq6 hb6 hB5
  go_wp2_with fail
  have hbd := (Below.refl w6.heap.size w6).drew
  go_region_held3 (fun w' => w'.cell? ⟨w.heap.size, 0, none⟩ = some (.string a0.name) ∧ w'.cell? ⟨w.heap.size, 1, none⟩ = some (.slice A0_0 a0.types.length c0_0) ∧ w'.cell? ⟨w4.heap.size, 0, none⟩ = some (.string a0.name) ∧ w'.cell? ⟨w4.heap.size, 1, none⟩ = some (.slice A_x00 a0.types.length c_x00) ∧ Below w6.heap.size w6 w') (first | exact ⟨pa0_0, pa0_1, px0_0, px0_1, hbd⟩ | exact ⟨cell_keep hb7 pa0_0, cell_keep hb7 pa0_1, cell_keep hb7 px0_0, cell_keep hb7 px0_1, bt hbd hb7⟩ | exact ⟨cell_keep hb8 (cell_keep hb7 pa0_0), cell_keep hb8 (cell_keep hb7 pa0_1), cell_keep hb8 (cell_keep hb7 px0_0), cell_keep hb8 (cell_keep hb7 px0_1), bt (bt hbd hb7) hb8⟩)
    (first | (go_at_call 24; refine (T0.out _ (bt hB6 hbd)).mono ?_; rintro e w7 ⟨us7, f7, rfl, o7, hf7, hb7⟩) | (go_at_call 27; refine (eqPart_c a0 a0 _ _ _ (OwnRow.rdl (ow_x0.out.keep (bt hbd hb7))) (OwnRow.rdl o7)).mono ?_; rintro e w8 ⟨rfl, hb8⟩))
  have hb8_ := bt (bt hbd hb7) hb8
  clear hbd hb7 hb8 o7 hf7
  have hq8 := hb8_
  have hB8 := bt hB6 hq8
  have hs8 : w6.heap.size ≤ w8.heap.size := by have := hb8_.size; (try simp only [World.size_alloc] at this); omega
  replace ow_w0 := Lib.hid (ow_w0.out.keep hq8)
  replace ow_x0 := Lib.hid (ow_x0.out.keep hq8)
  replace ow_g0 := Lib.hid (ow_g0.out.keep hq8)
  replace pa0_0 := cell_keep hq8 pa0_0
  replace pa0_1 := cell_keep hq8 pa0_1
  replace pa0_z := World.block_lt_of_cell? _ _ pa0_0
  replace pw0_0 := cell_keep hq8 pw0_0
  replace pw0_1 := cell_keep hq8 pw0_1
  replace pw0_2 := cell_keep hq8 pw0_2
  replace pw0_3 := cell_keep hq8 pw0_3
  replace pw0_4 := cell_keep hq8 pw0_4
  replace pw0_5 := cell_keep hq8 pw0_5
  replace pw0_6 := cell_keep hq8 pw0_6
  replace pw0_7 := cell_keep hq8 pw0_7
  replace pw0_z := World.block_lt_of_cell? _ _ pw0_0
  replace px0_0 := cell_keep hq8 px0_0
  replace px0_1 := cell_keep hq8 px0_1
  replace px0_z := World.block_lt_of_cell? _ _ px0_0
  replace pg0_0 := cell_keep hq8 pg0_0
  replace pg0_1 := cell_keep hq8 pg0_1
  replace pg0_2 := cell_keep hq8 pg0_2
  replace pg0_3 := cell_keep hq8 pg0_3
  replace pg0_4 := cell_keep hq8 pg0_4
  replace pg0_5 := cell_keep hq8 pg0_5
  replace pg0_6 := cell_keep hq8 pg0_6
  replace pg0_7 := cell_keep hq8 pg0_7
  replace pg0_z := World.block_lt_of_cell? _ _ pg0_0
  clear hq8 hb8_ hB6
  go_wp2_with fail
  refine (smkPart_c a0 _ f4 1 _ ow_x0.out nd_x0 (by omega) (by omega)).mono ?_
  rintro e w9 ⟨rfl, hm9, ht9⟩
  have hs9 := ht9.size
  have hB9 := Touch.toBelow ht9 hB8 (fun b hm => by have := rg_x0.out b hm; omega)
  replace ow_w0 := Lib.hid (OwnRow.touch ow_w0.out ht9 (fun b h1 h2 => by have := rg_w0.out b h1; have := rg_x0.out b h2; omega))
  replace ow_g0 := Lib.hid (OwnRow.touch ow_g0.out ht9 (fun b h1 h2 => by have := rg_g0.out b h1; have := rg_x0.out b h2; omega))
  replace pa0_0 := cell_touch ht9 pa0_0 (fun hm => by have := rg_x0.out _ hm; omega)
  replace pa0_1 := cell_touch ht9 pa0_1 (fun hm => by have := rg_x0.out _ hm; omega)
  replace pa0_z := World.block_lt_of_cell? _ _ pa0_0
  replace pw0_0 := cell_touch ht9 pw0_0 (fun hm => by have := rg_x0.out _ hm; omega)
  replace pw0_1 := cell_touch ht9 pw0_1 (fun hm => by have := rg_x0.out _ hm; omega)
  replace pw0_2 := cell_touch ht9 pw0_2 (fun hm => by have := rg_x0.out _ hm; omega)
  replace pw0_3 := cell_touch ht9 pw0_3 (fun hm => by have := rg_x0.out _ hm; omega)
  replace pw0_4 := cell_touch ht9 pw0_4 (fun hm => by have := rg_x0.out _ hm; omega)
  replace pw0_5 := cell_touch ht9 pw0_5 (fun hm => by have := rg_x0.out _ hm; omega)
  replace pw0_6 := cell_touch ht9 pw0_6 (fun hm => by have := rg_x0.out _ hm; omega)
  replace pw0_7 := cell_touch ht9 pw0_7 (fun hm => by have := rg_x0.out _ hm; omega)
  replace pw0_z := World.block_lt_of_cell? _ _ pw0_0
  replace px0_0 := cell_touch ht9 px0_0 (fun hm => by have := rg_x0.out _ hm; omega)
  replace px0_1 := cell_touch ht9 px0_1 (fun hm => by have := rg_x0.out _ hm; omega)
  replace px0_z := World.block_lt_of_cell? _ _ px0_0
  replace pg0_0 := cell_touch ht9 pg0_0 (fun hm => by have := rg_x0.out _ hm; omega)
  replace pg0_1 := cell_touch ht9 pg0_1 (fun hm => by have := rg_x0.out _ hm; omega)
  replace pg0_2 := cell_touch ht9 pg0_2 (fun hm => by have := rg_x0.out _ hm; omega)
  replace pg0_3 := cell_touch ht9 pg0_3 (fun hm => by have := rg_x0.out _ hm; omega)
  replace pg0_4 := cell_touch ht9 pg0_4 (fun hm => by have := rg_x0.out _ hm; omega)
  replace pg0_5 := cell_touch ht9 pg0_5 (fun hm => by have := rg_x0.out _ hm; omega)
  replace pg0_6 := cell_touch ht9 pg0_6 (fun hm => by have := rg_x0.out _ hm; omega)
  replace pg0_7 := cell_touch ht9 pg0_7 (fun hm => by have := rg_x0.out _ hm; omega)
  replace pg0_z := World.block_lt_of_cell? _ _ pg0_0
  clear ht9 hB8 ow_x0
  have ow_x0 := Lib.hid hm9
  clear hm9
  clear ow_x0 rg_x0 nd_x0
  clear px0_0 px0_1 px0_z
  go_wp2_with fail
  refine (eqField_c r0 r0 _ _ _ (OwnRow.rdl ow_g0.out) (OwnRow.rdl ow_w0.out)).mono ?_
  rintro e w10 ⟨rfl, hb10⟩
  have hq10 := hb10
  have hB10 := bt hB9 hq10
  have hs10 : w9.heap.size ≤ w10.heap.size := by have := hb10.size; (try simp only [World.size_alloc] at this); omega
  replace ow_w0 := Lib.hid (ow_w0.out.keep hq10)
  replace ow_g0 := Lib.hid (ow_g0.out.keep hq10)
  replace pa0_0 := cell_keep hq10 pa0_0
  replace pa0_1 := cell_keep hq10 pa0_1
  replace pa0_z := World.block_lt_of_cell? _ _ pa0_0
  replace pw0_0 := cell_keep hq10 pw0_0
  replace pw0_1 := cell_keep hq10 pw0_1
  replace pw0_2 := cell_keep hq10 pw0_2
  replace pw0_3 := cell_keep hq10 pw0_3
  replace pw0_4 := cell_keep hq10 pw0_4
  replace pw0_5 := cell_keep hq10 pw0_5
  replace pw0_6 := cell_keep hq10 pw0_6
  replace pw0_7 := cell_keep hq10 pw0_7
  replace pw0_z := World.block_lt_of_cell? _ _ pw0_0
  replace pg0_0 := cell_keep hq10 pg0_0
  replace pg0_1 := cell_keep hq10 pg0_1
  replace pg0_2 := cell_keep hq10 pg0_2
  replace pg0_3 := cell_keep hq10 pg0_3
  replace pg0_4 := cell_keep hq10 pg0_4
  replace pg0_5 := cell_keep hq10 pg0_5
  replace pg0_6 := cell_keep hq10 pg0_6
  replace pg0_7 := cell_keep hq10 pg0_7
  replace pg0_z := World.block_lt_of_cell? _ _ pg0_0
  clear hq10 hb10 hB9
  go_wp2_with fail
  refine (smkField_c r0 _ f5 1 _ ow_g0.out nd_g0 (by omega) (by omega)).mono ?_
  rintro e w11 ⟨rfl, hm11, ht11⟩
  have hs11 := ht11.size
  have hB11 := Touch.toBelow ht11 hB10 (fun b hm => by have := rg_g0.out b hm; omega)
  replace ow_w0 := Lib.hid (OwnRow.touch ow_w0.out ht11 (fun b h1 h2 => by have := rg_w0.out b h1; have := rg_g0.out b h2; omega))
  replace pa0_0 := cell_touch ht11 pa0_0 (fun hm => by have := rg_g0.out _ hm; omega)
  replace pa0_1 := cell_touch ht11 pa0_1 (fun hm => by have := rg_g0.out _ hm; omega)
  replace pa0_z := World.block_lt_of_cell? _ _ pa0_0
  replace pw0_0 := cell_touch ht11 pw0_0 (fun hm => by have := rg_g0.out _ hm; omega)
  replace pw0_1 := cell_touch ht11 pw0_1 (fun hm => by have := rg_g0.out _ hm; omega)
  replace pw0_2 := cell_touch ht11 pw0_2 (fun hm => by have := rg_g0.out _ hm; omega)
  replace pw0_3 := cell_touch ht11 pw0_3 (fun hm => by have := rg_g0.out _ hm; omega)
  replace pw0_4 := cell_touch ht11 pw0_4 (fun hm => by have := rg_g0.out _ hm; omega)
  replace pw0_5 := cell_touch ht11 pw0_5 (fun hm => by have := rg_g0.out _ hm; omega)
  replace pw0_6 := cell_touch ht11 pw0_6 (fun hm => by have := rg_g0.out _ hm; omega)
  replace pw0_7 := cell_touch ht11 pw0_7 (fun hm => by have := rg_g0.out _ hm; omega)
  replace pw0_z := World.block_lt_of_cell? _ _ pw0_0
  replace pg0_0 := cell_touch ht11 pg0_0 (fun hm => by have := rg_g0.out _ hm; omega)
  replace pg0_1 := cell_touch ht11 pg0_1 (fun hm => by have := rg_g0.out _ hm; omega)
  replace pg0_2 := cell_touch ht11 pg0_2 (fun hm => by have := rg_g0.out _ hm; omega)
  replace pg0_3 := cell_touch ht11 pg0_3 (fun hm => by have := rg_g0.out _ hm; omega)
  replace pg0_4 := cell_touch ht11 pg0_4 (fun hm => by have := rg_g0.out _ hm; omega)
  replace pg0_5 := cell_touch ht11 pg0_5 (fun hm => by have := rg_g0.out _ hm; omega)
  replace pg0_6 := cell_touch ht11 pg0_6 (fun hm => by have := rg_g0.out _ hm; omega)
  replace pg0_7 := cell_touch ht11 pg0_7 (fun hm => by have := rg_g0.out _ hm; omega)
  replace pg0_z := World.block_lt_of_cell? _ _ pg0_0
  clear ht11 hB10 ow_g0
  have ow_g0 := Lib.hid hm11
  clear hm11
  go_wp2_with fail
  refine (sheldField_c r0 1 _ _ (OwnRow.rdl ow_g0.out) (by omega) (by omega)).mono ?_
  rintro e w12 ⟨rfl, hb12⟩
  have hq12 := hb12
  have hB12 := bt hB11 hq12
  have hs12 : w11.heap.size ≤ w12.heap.size := by have := hb12.size; (try simp only [World.size_alloc] at this); omega
  replace ow_w0 := Lib.hid (ow_w0.out.keep hq12)
  replace ow_g0 := Lib.hid (ow_g0.out.keep hq12)
  replace pa0_0 := cell_keep hq12 pa0_0
  replace pa0_1 := cell_keep hq12 pa0_1
  replace pa0_z := World.block_lt_of_cell? _ _ pa0_0
  replace pw0_0 := cell_keep hq12 pw0_0
  replace pw0_1 := cell_keep hq12 pw0_1
  replace pw0_2 := cell_keep hq12 pw0_2
  replace pw0_3 := cell_keep hq12 pw0_3
  replace pw0_4 := cell_keep hq12 pw0_4
  replace pw0_5 := cell_keep hq12 pw0_5
  replace pw0_6 := cell_keep hq12 pw0_6
  replace pw0_7 := cell_keep hq12 pw0_7
  replace pw0_z := World.block_lt_of_cell? _ _ pw0_0
  replace pg0_0 := cell_keep hq12 pg0_0
  replace pg0_1 := cell_keep hq12 pg0_1
  replace pg0_2 := cell_keep hq12 pg0_2
  replace pg0_3 := cell_keep hq12 pg0_3
  replace pg0_4 := cell_keep hq12 pg0_4
  replace pg0_5 := cell_keep hq12 pg0_5
  replace pg0_6 := cell_keep hq12 pg0_6
  replace pg0_7 := cell_keep hq12 pg0_7
  replace pg0_z := World.block_lt_of_cell? _ _ pg0_0
  clear hq12 hb12 hB11
  go_wp2_with fail
  refine (T0.out _ (hB12)).mono ?_
  rintro e w13 ⟨us13, f13, rfl, o13, hf13, hb13⟩
  have nd_t0 := hf13.1
  have rg_t0 := Lib.hid (fun b (hm : b ∈ f13) => (⟨by have := hf13.2 b hm; (try simp only [World.size_alloc] at this); omega, OwnRow.lt _ _ _ o13 b hm⟩ : w12.heap.size ≤ b ∧ b < w13.heap.size))
  obtain ⟨A_t00, c_t00, rfl⟩ := JPart.openO o13
  have ow_t0 := Lib.hid o13
  clear o13 hf13
  have hq13 := hb13
  have hB13 := bt hB12 hq13
  have hs13 : w12.heap.size ≤ w13.heap.size := by have := hb13.size; (try simp only [World.size_alloc] at this); omega
  replace ow_w0 := Lib.hid (ow_w0.out.keep hq13)
  replace ow_g0 := Lib.hid (ow_g0.out.keep hq13)
  replace pa0_0 := cell_keep hq13 pa0_0
  replace pa0_1 := cell_keep hq13 pa0_1
  replace pa0_z := World.block_lt_of_cell? _ _ pa0_0
  replace pw0_0 := cell_keep hq13 pw0_0
  replace pw0_1 := cell_keep hq13 pw0_1
  replace pw0_2 := cell_keep hq13 pw0_2
  replace pw0_3 := cell_keep hq13 pw0_3
  replace pw0_4 := cell_keep hq13 pw0_4
  replace pw0_5 := cell_keep hq13 pw0_5
  replace pw0_6 := cell_keep hq13 pw0_6
  replace pw0_7 := cell_keep hq13 pw0_7
  replace pw0_z := World.block_lt_of_cell? _ _ pw0_0
  replace pg0_0 := cell_keep hq13 pg0_0
  replace pg0_1 := cell_keep hq13 pg0_1
  replace pg0_2 := cell_keep hq13 pg0_2
  replace pg0_3 := cell_keep hq13 pg0_3
  replace pg0_4 := cell_keep hq13 pg0_4
  replace pg0_5 := cell_keep hq13 pg0_5
  replace pg0_6 := cell_keep hq13 pg0_6
  replace pg0_7 := cell_keep hq13 pg0_7
  replace pg0_z := World.block_lt_of_cell? _ _ pg0_0
  clear hq13 hb13 hB12
  go_wp2_with fail
  refine (HI.out _ _ (OwnRow.rdl ow_t0.out)).mono ?_
  rintro e w14 ⟨us14, f14, rfl, o14, hf14, hb14⟩
  have nd_h0 := hf14.1
  have rg_h0 := Lib.hid (fun b (hm : b ∈ f14) => (⟨by have := hf14.2 b hm; (try simp only [World.size_alloc] at this); omega, OwnRow.lt _ _ _ o14 b hm⟩ : w13.heap.size ≤ b ∧ b < w14.heap.size))
  obtain ⟨A_h00, c_h00, rfl⟩ := JField.openO o14
  have ow_h0 := Lib.hid o14
  clear o14 hf14
  have hq14 := hb14
  have hB14 := bt hB13 hq14
  have hs14 : w13.heap.size ≤ w14.heap.size := by have := hb14.size; (try simp only [World.size_alloc] at this); omega
  replace ow_w0 := Lib.hid (ow_w0.out.keep hq14)
  replace ow_g0 := Lib.hid (ow_g0.out.keep hq14)
  replace ow_t0 := Lib.hid (ow_t0.out.keep hq14)
  replace pa0_0 := cell_keep hq14 pa0_0
  replace pa0_1 := cell_keep hq14 pa0_1
  replace pa0_z := World.block_lt_of_cell? _ _ pa0_0
  replace pw0_0 := cell_keep hq14 pw0_0
  replace pw0_1 := cell_keep hq14 pw0_1
  replace pw0_2 := cell_keep hq14 pw0_2
  replace pw0_3 := cell_keep hq14 pw0_3
  replace pw0_4 := cell_keep hq14 pw0_4
  replace pw0_5 := cell_keep hq14 pw0_5
  replace pw0_6 := cell_keep hq14 pw0_6
  replace pw0_7 := cell_keep hq14 pw0_7
  replace pw0_z := World.block_lt_of_cell? _ _ pw0_0
  replace pg0_0 := cell_keep hq14 pg0_0
  replace pg0_1 := cell_keep hq14 pg0_1
  replace pg0_2 := cell_keep hq14 pg0_2
  replace pg0_3 := cell_keep hq14 pg0_3
  replace pg0_4 := cell_keep hq14 pg0_4
  replace pg0_5 := cell_keep hq14 pg0_5
  replace pg0_6 := cell_keep hq14 pg0_6
  replace pg0_7 := cell_keep hq14 pg0_7
  replace pg0_z := World.block_lt_of_cell? _ _ pg0_0
  clear hq14 hb14 hB13
  clear ow_t0 rg_t0 nd_t0
  go_wp2_with fail
  refine (eqField_c r0 r0 _ _ _ (OwnRow.rdl (ow_h0.out.keep (b1 _ _))) (OwnRow.rdl (ow_w0.out.keep (b1 _ _)))).mono ?_
  rintro e w15 ⟨rfl, hb15⟩
  have hq15 := bt (b1 _ _) hb15
  have hB15 := bt hB14 hq15
  have hs15 : w14.heap.size + 1 ≤ w15.heap.size := by have := hb15.size; (try simp only [World.size_alloc] at this); omega
  replace ow_w0 := Lib.hid (ow_w0.out.keep hq15)
  replace ow_g0 := Lib.hid (ow_g0.out.keep hq15)
  replace ow_h0 := Lib.hid (ow_h0.out.keep hq15)
  replace pa0_0 := cell_keep hq15 pa0_0
  replace pa0_1 := cell_keep hq15 pa0_1
  replace pa0_z := World.block_lt_of_cell? _ _ pa0_0
  replace pw0_0 := cell_keep hq15 pw0_0
  replace pw0_1 := cell_keep hq15 pw0_1
  replace pw0_2 := cell_keep hq15 pw0_2
  replace pw0_3 := cell_keep hq15 pw0_3
  replace pw0_4 := cell_keep hq15 pw0_4
  replace pw0_5 := cell_keep hq15 pw0_5
  replace pw0_6 := cell_keep hq15 pw0_6
  replace pw0_7 := cell_keep hq15 pw0_7
  replace pw0_z := World.block_lt_of_cell? _ _ pw0_0
  replace pg0_0 := cell_keep hq15 pg0_0
  replace pg0_1 := cell_keep hq15 pg0_1
  replace pg0_2 := cell_keep hq15 pg0_2
  replace pg0_3 := cell_keep hq15 pg0_3
  replace pg0_4 := cell_keep hq15 pg0_4
  replace pg0_5 := cell_keep hq15 pg0_5
  replace pg0_6 := cell_keep hq15 pg0_6
  replace pg0_7 := cell_keep hq15 pg0_7
  replace pg0_z := World.block_lt_of_cell? _ _ pg0_0
  have ph0_0 : w15.cell? ⟨w14.heap.size, 0, none⟩ = some (.string r0.name) := cell_keep hb15 (by simp [go_sem])
  have ph0_1 : w15.cell? ⟨w14.heap.size, 1, none⟩ = some (.string r0.of) := cell_keep hb15 (by simp [go_sem])
  have ph0_2 : w15.cell? ⟨w14.heap.size, 2, none⟩ = some (.bool r0.list) := cell_keep hb15 (by simp [go_sem])
  have ph0_3 : w15.cell? ⟨w14.heap.size, 3, none⟩ = some (.bool r0.must) := cell_keep hb15 (by simp [go_sem])
  have ph0_4 : w15.cell? ⟨w14.heap.size, 4, none⟩ = some (.bool r0.far) := cell_keep hb15 (by simp [go_sem])
  have ph0_5 : w15.cell? ⟨w14.heap.size, 5, none⟩ = some (.bool r0.hidden) := cell_keep hb15 (by simp [go_sem])
  have ph0_6 : w15.cell? ⟨w14.heap.size, 6, none⟩ = some (.bool r0.shared) := cell_keep hb15 (by simp [go_sem])
  have ph0_7 : w15.cell? ⟨w14.heap.size, 7, none⟩ = some (.slice A_h00 r0.needs.length c_h00) := cell_keep hb15 (by simp [go_sem])
  have ph0_z := World.block_lt_of_cell? _ _ ph0_0
  clear hq15 hb15 hB14
  go_wp2_with fail
  refine (sheldField_c r0 1 _ _ (OwnRow.rdl ow_g0.out) (by omega) (by omega)).mono ?_
  rintro e w16 ⟨rfl, hb16⟩
  have hq16 := hb16
  have hB16 := bt hB15 hq16
  have hs16 : w15.heap.size ≤ w16.heap.size := by have := hb16.size; (try simp only [World.size_alloc] at this); omega
  replace ow_w0 := Lib.hid (ow_w0.out.keep hq16)
  replace ow_g0 := Lib.hid (ow_g0.out.keep hq16)
  replace ow_h0 := Lib.hid (ow_h0.out.keep hq16)
  replace pa0_0 := cell_keep hq16 pa0_0
  replace pa0_1 := cell_keep hq16 pa0_1
  replace pa0_z := World.block_lt_of_cell? _ _ pa0_0
  replace pw0_0 := cell_keep hq16 pw0_0
  replace pw0_1 := cell_keep hq16 pw0_1
  replace pw0_2 := cell_keep hq16 pw0_2
  replace pw0_3 := cell_keep hq16 pw0_3
  replace pw0_4 := cell_keep hq16 pw0_4
  replace pw0_5 := cell_keep hq16 pw0_5
  replace pw0_6 := cell_keep hq16 pw0_6
  replace pw0_7 := cell_keep hq16 pw0_7
  replace pw0_z := World.block_lt_of_cell? _ _ pw0_0
  replace pg0_0 := cell_keep hq16 pg0_0
  replace pg0_1 := cell_keep hq16 pg0_1
  replace pg0_2 := cell_keep hq16 pg0_2
  replace pg0_3 := cell_keep hq16 pg0_3
  replace pg0_4 := cell_keep hq16 pg0_4
  replace pg0_5 := cell_keep hq16 pg0_5
  replace pg0_6 := cell_keep hq16 pg0_6
  replace pg0_7 := cell_keep hq16 pg0_7
  replace pg0_z := World.block_lt_of_cell? _ _ pg0_0
  replace ph0_0 := cell_keep hq16 ph0_0
  replace ph0_1 := cell_keep hq16 ph0_1
  replace ph0_2 := cell_keep hq16 ph0_2
  replace ph0_3 := cell_keep hq16 ph0_3
  replace ph0_4 := cell_keep hq16 ph0_4
  replace ph0_5 := cell_keep hq16 ph0_5
  replace ph0_6 := cell_keep hq16 ph0_6
  replace ph0_7 := cell_keep hq16 ph0_7
  replace ph0_z := World.block_lt_of_cell? _ _ ph0_0
  clear hq16 hb16 hB15
  go_wp2
  go_ret
  exact ⟨rfl, hB16⟩
end Go.Proofs.Ytmkagpmdindlpaa.Lib
