/- The walk of the law FnExactPartWrite. Printed by gexact.py. No condition. -/
import Derived.Test.YtmkagpmdindlpaaPartS
import Derived.Test.YtmkagpmdindlpaaSz
import Derived.Test.YtmkagpmdindlpaaEq
import Derived.Test.YtmkagpmdindlpaaTo
import Derived.Test.YtmkagpmdindlpaaMk
import Derived.Test.YtmkagpmdindlpaaSMk
import Derived.Test.YtmkagpmdindlpaaGr
import Derived.Deep.RegionHeld3
set_option linter.unusedVariables false
set_option linter.unusedSimpArgs false
namespace Go.Proofs.Ytmkagpmdindlpaa.Lib
open Go.RowKit
set_option maxRecDepth 100000 in
set_option maxHeartbeats 8000000 in
theorem FnExactPartWrite_walk (a0 : JPart) (w : World) {cs0 : Array Value} (g0 : RdL w a0.enc cs0.toList) (y0 : WfDs a0.enc) :
    Calls Try.prog 5 #[.agg cs0] w (Ret w (.bool true)) := by
  obtain ⟨A0_0, c0_0, ecs⟩ := JPart.openL g0
  have G0 := Lib.hid (by rw [← ecs]; exact g0 : RdL w a0.enc [Value.string a0.name, .slice A0_0 a0.types.length c0_0])
  obtain rfl : cs0 = [Value.string a0.name, .slice A0_0 a0.types.length c0_0].toArray := by rw [← ecs]
  clear g0 y0 ecs
  have ZZ0 := Lib.hid (fun (W : World) (h : Below w.heap.size w W) => szPart_c a0 _ (1048576) W (G0.out.keep h) (by omega) (by omega))
  by_cases hb0_ : ((JPart.bulk a0 : Nat) : Int) ≤ 1048576
  case neg =>
    have e0_ := szR_no hb0_
    go_enter Try.func5, Try.ntmps5
    go_wp2_with fail
    refine (ZZ0.out _ (b1 _ _)).mono ?_
    rintro e u1 ⟨rfl, hu1⟩
    have hU1 := bt (b1 _ _) hu1
    have hV1 : Below (w.alloc (.cells #[.string a0.name, .slice A0_0 a0.types.length c0_0] 24)).heap.size (w.alloc (.cells #[.string a0.name, .slice A0_0 a0.types.length c0_0] 24)) u1 := hu1
    have u1_0_0 : u1.cell? ⟨w.heap.size, 0, none⟩ = some (.string a0.name) := cell_keep hV1 (by simp [go_sem])
    have u1_0_1 : u1.cell? ⟨w.heap.size, 1, none⟩ = some (.slice A0_0 a0.types.length c0_0) := cell_keep hV1 (by simp [go_sem])
    have u1_0_z : w.heap.size < u1.heap.size := World.block_lt_of_cell? _ _ u1_0_0
    go_wp2
    go_ret
    exact ⟨rfl, hU1⟩
  have e0_ := szR_yes hb0_
  have z0_ : (0 : Int) ≤ 1048576 - ((JPart.bulk a0 : Nat) : Int) := by omega
  have T0 := Lib.hid (fun (W : World) (h : Below w.heap.size w W) => toPart_c a0 _ W (G0.out.keep h) (by omega))
  have hq0 : a0.bulk ≤ 1048576 := by omega
  have HS := Lib.hid (fun (cs0 : List Value) (W : World) (h0 : RdL W a0.enc cs0) => specPartWrite_c a0 cs0 W h0 hq0)
  have HI := Lib.hid (fun (cs0 : List Value) (W : World) (h0 : RdL W a0.enc cs0) => implPartWrite_c a0 cs0 W h0 hq0)
  generalize writeP a0 = R at HS HI
  have sm0 : same a0 a0 = true := same_t rfl
  go_enter Try.func5, Try.ntmps5
  go_wp2_with fail
  refine (ZZ0.out _ (b1 _ _)).mono ?_
  rintro e w1 ⟨rfl, hb1⟩
  have hq1 := bt (b1 _ _) hb1
  have hB1 := hq1
  have hs1 : w.heap.size + 1 ≤ w1.heap.size := by have := hb1.size; (try simp only [World.size_alloc] at this); omega
  have pa0_0 : w1.cell? ⟨w.heap.size, 0, none⟩ = some (.string a0.name) := cell_keep hb1 (by simp [go_sem])
  have pa0_1 : w1.cell? ⟨w.heap.size, 1, none⟩ = some (.slice A0_0 a0.types.length c0_0) := cell_keep hb1 (by simp [go_sem])
  have pa0_z := World.block_lt_of_cell? _ _ pa0_0
  clear hq1 hb1
  go_wp2_with fail
  refine (T0.out _ (hB1)).mono ?_
  rintro e w2 ⟨us2, f2, rfl, o2, hf2, hb2⟩
  have nd_s0 := hf2.1
  have rg_s0 := Lib.hid (fun b (hm : b ∈ f2) => (⟨by have := hf2.2 b hm; (try simp only [World.size_alloc] at this); omega, OwnRow.lt _ _ _ o2 b hm⟩ : w1.heap.size ≤ b ∧ b < w2.heap.size))
  obtain ⟨A_s00, c_s00, rfl⟩ := JPart.openO o2
  have ow_s0 := Lib.hid o2
  clear o2 hf2
  have hq2 := hb2
  have hB2 := bt hB1 hq2
  have hs2 : w1.heap.size ≤ w2.heap.size := by have := hb2.size; (try simp only [World.size_alloc] at this); omega
  replace pa0_0 := cell_keep hq2 pa0_0
  replace pa0_1 := cell_keep hq2 pa0_1
  replace pa0_z := World.block_lt_of_cell? _ _ pa0_0
  clear hq2 hb2 hB1
  go_wp2_with fail
  refine (HS.out _ _ (OwnRow.rdl ow_s0.out)).mono ?_
  rintro e w3 ⟨rfl, hb3⟩
  have hq3 := hb3
  have hB3 := bt hB2 hq3
  have hs3 : w2.heap.size ≤ w3.heap.size := by have := hb3.size; (try simp only [World.size_alloc] at this); omega
  replace ow_s0 := Lib.hid (ow_s0.out.keep hq3)
  replace pa0_0 := cell_keep hq3 pa0_0
  replace pa0_1 := cell_keep hq3 pa0_1
  replace pa0_z := World.block_lt_of_cell? _ _ pa0_0
  clear hq3 hb3 hB2
  clear ow_s0 rg_s0 nd_s0
  go_wp2_with fail
  refine (T0.out _ (hB3)).mono ?_
  rintro e w4 ⟨us4, f4, rfl, o4, hf4, hb4⟩
  have nd_x0 := hf4.1
  have rg_x0 := Lib.hid (fun b (hm : b ∈ f4) => (⟨by have := hf4.2 b hm; (try simp only [World.size_alloc] at this); omega, OwnRow.lt _ _ _ o4 b hm⟩ : w3.heap.size ≤ b ∧ b < w4.heap.size))
  obtain ⟨A_x00, c_x00, rfl⟩ := JPart.openO o4
  have ow_x0 := Lib.hid o4
  clear o4 hf4
  have hq4 := hb4
  have hB4 := bt hB3 hq4
  have hs4 : w3.heap.size ≤ w4.heap.size := by have := hb4.size; (try simp only [World.size_alloc] at this); omega
  replace pa0_0 := cell_keep hq4 pa0_0
  replace pa0_1 := cell_keep hq4 pa0_1
  replace pa0_z := World.block_lt_of_cell? _ _ pa0_0
  clear hq4 hb4 hB3
  go_wp2_with fail
  refine (HI.out _ _ (OwnRow.rdl (ow_x0.out.keep (b1 _ _)))).mono ?_
  rintro e w5 ⟨rfl, hb5⟩
  have hq5 := bt (b1 _ _) hb5
  have hB5 := bt hB4 hq5
  have hs5 : w4.heap.size + 1 ≤ w5.heap.size := by have := hb5.size; (try simp only [World.size_alloc] at this); omega
  replace ow_x0 := Lib.hid (ow_x0.out.keep hq5)
  replace pa0_0 := cell_keep hq5 pa0_0
  replace pa0_1 := cell_keep hq5 pa0_1
  replace pa0_z := World.block_lt_of_cell? _ _ pa0_0
  have px0_0 : w5.cell? ⟨w4.heap.size, 0, none⟩ = some (.string a0.name) := cell_keep hb5 (by simp [go_sem])
  have px0_1 : w5.cell? ⟨w4.heap.size, 1, none⟩ = some (.slice A_x00 a0.types.length c_x00) := cell_keep hb5 (by simp [go_sem])
  have px0_z := World.block_lt_of_cell? _ _ px0_0
  clear hq5 hb5 hB4
  go_wp2_with fail
  have hbd := (Below.refl w5.heap.size w5).drew
  go_region_held3 (fun w' => w'.cell? ⟨w.heap.size, 0, none⟩ = some (.string a0.name) ∧ w'.cell? ⟨w.heap.size, 1, none⟩ = some (.slice A0_0 a0.types.length c0_0) ∧ w'.cell? ⟨w4.heap.size, 0, none⟩ = some (.string a0.name) ∧ w'.cell? ⟨w4.heap.size, 1, none⟩ = some (.slice A_x00 a0.types.length c_x00) ∧ Below w5.heap.size w5 w') (first | exact ⟨pa0_0, pa0_1, px0_0, px0_1, hbd⟩ | exact ⟨cell_keep hb6 pa0_0, cell_keep hb6 pa0_1, cell_keep hb6 px0_0, cell_keep hb6 px0_1, bt hbd hb6⟩ | exact ⟨cell_keep hb7 (cell_keep hb6 pa0_0), cell_keep hb7 (cell_keep hb6 pa0_1), cell_keep hb7 (cell_keep hb6 px0_0), cell_keep hb7 (cell_keep hb6 px0_1), bt (bt hbd hb6) hb7⟩)
    (first | (go_at_call 24; refine (T0.out _ (bt hB5 hbd)).mono ?_; rintro e w6 ⟨us6, f6, rfl, o6, hf6, hb6⟩) | (go_at_call 27; refine (eqPart_c a0 a0 _ _ _ (OwnRow.rdl (ow_x0.out.keep (bt hbd hb6))) (OwnRow.rdl o6)).mono ?_; rintro e w7 ⟨rfl, hb7⟩))
  have hb7_ := bt (bt hbd hb6) hb7
  clear hbd hb6 hb7 o6 hf6
  have hq7 := hb7_
  have hB7 := bt hB5 hq7
  have hs7 : w5.heap.size ≤ w7.heap.size := by have := hb7_.size; (try simp only [World.size_alloc] at this); omega
  replace ow_x0 := Lib.hid (ow_x0.out.keep hq7)
  replace pa0_0 := cell_keep hq7 pa0_0
  replace pa0_1 := cell_keep hq7 pa0_1
  replace pa0_z := World.block_lt_of_cell? _ _ pa0_0
  replace px0_0 := cell_keep hq7 px0_0
  replace px0_1 := cell_keep hq7 px0_1
  replace px0_z := World.block_lt_of_cell? _ _ px0_0
  clear hq7 hb7_ hB5
  go_wp2
  go_ret
  exact ⟨rfl, hB7⟩
end Go.Proofs.Ytmkagpmdindlpaa.Lib
