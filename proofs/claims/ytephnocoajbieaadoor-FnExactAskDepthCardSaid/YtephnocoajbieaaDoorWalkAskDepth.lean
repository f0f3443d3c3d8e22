/- The walk of the law FnExactAskDepth. Printed by gexact.py. No condition. -/
import Derived.Test.YtephnocoajbieaaDoorAsk9
import Derived.Test.YtephnocoajbieaaDoorSz
import Derived.Test.YtephnocoajbieaaDoorEq
import Derived.Test.YtephnocoajbieaaDoorTo
import Derived.Test.YtephnocoajbieaaDoorMk
import Derived.Test.YtephnocoajbieaaDoorSMk
import Derived.Test.YtephnocoajbieaaDoorGr
import Derived.Deep.RegionHeld3
set_option linter.unusedVariables false
set_option linter.unusedSimpArgs false
namespace Go.Proofs.YtephnocoajbieaaDoor.Lib
open Go.RowKit
set_option maxRecDepth 100000 in
set_option maxHeartbeats 8000000 in
theorem FnExactAskDepth_walk (a0 : List JSel) (w : World) {A0 : Option Addr} {n0 c0 : Nat} (g0 : Rd w (slD JSel.enc 5 a0) (.slice A0 n0 c0)) (y0 : WfDs [slD JSel.enc 5 a0]) (htab : TabW w) :
    Calls Tryd.prog 6 #[.slice A0 n0 c0] w (Ret w (.bool true)) := by
  have HT := Lib.hid htab
  clear htab
  obtain rfl := Rd.len g0
  have G0 := Lib.hid g0
  clear g0 y0
  have ZZ0 := Lib.hid (fun (W : World) (h : Below w.heap.size w W) => szSelS_c a0 A0 c0 (1048576) W (G0.out.below h) (by omega) (by omega))
  by_cases hb0_ : ((a0.length + JSel.bulks a0 : Nat) : Int) ≤ 1048576
  case neg =>
    have e0_ := szR_no hb0_
    go_enter Tryd.func6, Tryd.ntmps6
    go_wp2_with fail
    refine (ZZ0.out _ (Below.refl _ _)).mono ?_
    rintro e u1 ⟨rfl, hu1⟩
    have hU1 := hu1
    go_wp2
    go_ret
    exact ⟨rfl, hU1⟩
  have e0_ := szR_yes hb0_
  have z0_ : (0 : Int) ≤ 1048576 - ((a0.length + JSel.bulks a0 : Nat) : Int) := by omega
  have T0 := Lib.hid (fun (W : World) (h : Below w.heap.size w W) => toSelS_c a0 A0 c0 W (G0.out.below h) (by rw [JSel.bulkL_eq]; omega))
  have hq0 : a0.length + JSel.bulks a0 ≤ 1048576 := by omega
  have HS := Lib.hid (fun (A0 : Option Addr) (c0 : Nat) (W : World) (h0 : Rd W (slD JSel.enc 5 a0) (.slice A0 a0.length c0)) (hbw : Below w.heap.size w W) => specAskDepth_c a0 A0 a0.length c0 W h0)
  have HI := Lib.hid (fun (A0 : Option Addr) (c0 : Nat) (W : World) (h0 : Rd W (slD JSel.enc 5 a0) (.slice A0 a0.length c0)) (hbw : Below w.heap.size w W) => implAskDepth_c a0 A0 a0.length c0 W h0 hq0 (HT.out.below hbw))
  generalize depthR a0 = R at HS HI
  have sm0 : same a0 a0 = true := same_t rfl
  go_enter Tryd.func6, Tryd.ntmps6
  go_wp2_with fail
  refine (ZZ0.out _ (Below.refl _ _)).mono ?_
  rintro e w1 ⟨rfl, hb1⟩
  have hq1 := hb1
  have hB1 := hq1
  have hs1 : w.heap.size ≤ w1.heap.size := by have := hb1.size; (try simp only [World.size_alloc] at this); omega
  clear hq1 hb1
  go_wp2_with fail
  refine (T0.out _ (hB1)).mono ?_
  rintro e w2 ⟨us2, f2, rfl, o2, hf2, hb2⟩
  have nd_s0 := hf2.1
  have rg_s0 := Lib.hid (fun b (hm : b ∈ f2) => (⟨by have := hf2.2 b hm; (try simp only [World.size_alloc] at this); omega, Own.lt _ _ _ o2 b hm⟩ : w1.heap.size ≤ b ∧ b < w2.heap.size))
  obtain ⟨A_s0, c_s0, rfl⟩ := Own.slD o2
  have ow_s0 := Lib.hid o2
  clear o2 hf2
  have hq2 := hb2
  have hB2 := bt hB1 hq2
  have hs2 : w1.heap.size ≤ w2.heap.size := by have := hb2.size; (try simp only [World.size_alloc] at this); omega
  clear hq2 hb2 hB1
  go_wp2_with fail
  refine (HS.out _ _ _ (Own.rd _ _ _ ow_s0.out) (hB2)).mono ?_
  rintro e w3 ⟨rfl, hb3⟩
  have hq3 := hb3
  have hB3 := bt hB2 hq3
  have hs3 : w2.heap.size ≤ w3.heap.size := by have := hb3.size; (try simp only [World.size_alloc] at this); omega
  replace ow_s0 := Lib.hid (ow_s0.out.keep hq3)
  clear hq3 hb3 hB2
  clear ow_s0 rg_s0 nd_s0
  go_wp2_with fail
  refine (T0.out _ (hB3)).mono ?_
  rintro e w4 ⟨us4, f4, rfl, o4, hf4, hb4⟩
  have nd_x0 := hf4.1
  have rg_x0 := Lib.hid (fun b (hm : b ∈ f4) => (⟨by have := hf4.2 b hm; (try simp only [World.size_alloc] at this); omega, Own.lt _ _ _ o4 b hm⟩ : w3.heap.size ≤ b ∧ b < w4.heap.size))
  obtain ⟨A_x0, c_x0, rfl⟩ := Own.slD o4
  have ow_x0 := Lib.hid o4
  clear o4 hf4
  have hq4 := hb4
  have hB4 := bt hB3 hq4
  have hs4 : w3.heap.size ≤ w4.heap.size := by have := hb4.size; (try simp only [World.size_alloc] at this); omega
  clear hq4 hb4 hB3
  go_wp2_with fail
  refine (HI.out _ _ _ (Own.rd _ _ _ ow_x0.out) (hB4)).mono ?_
  rintro e w5 ⟨rfl, hb5⟩
  have hq5 := hb5
  have hB5 := bt hB4 hq5
  have hs5 : w4.heap.size ≤ w5.heap.size := by have := hb5.size; (try simp only [World.size_alloc] at this); omega
  replace ow_x0 := Lib.hid (ow_x0.out.keep hq5)
  clear hq5 hb5 hB4
  go_wp2_with fail
  refine (T0.out _ (hB5)).mono ?_
  rintro e w6 ⟨us6, f6, rfl, o6, hf6, hb6⟩
  have nd_y0 := hf6.1
  have rg_y0 := Lib.hid (fun b (hm : b ∈ f6) => (⟨by have := hf6.2 b hm; (try simp only [World.size_alloc] at this); omega, Own.lt _ _ _ o6 b hm⟩ : w5.heap.size ≤ b ∧ b < w6.heap.size))
  obtain ⟨A_y0, c_y0, rfl⟩ := Own.slD o6
  have ow_y0 := Lib.hid o6
  clear o6 hf6
  have hq6 := hb6
  have hB6 := bt hB5 hq6
  have hs6 : w5.heap.size ≤ w6.heap.size := by have := hb6.size; (try simp only [World.size_alloc] at this); omega
  replace ow_x0 := Lib.hid (ow_x0.out.keep hq6)
  clear hq6 hb6 hB5
  go_wp2_with fail
  refine (eqSelS_c a0 a0 _ _ _ _ _ (Own.rd _ _ _ ow_x0.out) (Own.rd _ _ _ ow_y0.out)).mono ?_
  rintro e w7 ⟨rfl, hb7⟩
  have hq7 := hb7
  have hB7 := bt hB6 hq7
  have hs7 : w6.heap.size ≤ w7.heap.size := by have := hb7.size; (try simp only [World.size_alloc] at this); omega
  replace ow_x0 := Lib.hid (ow_x0.out.keep hq7)
  replace ow_y0 := Lib.hid (ow_y0.out.keep hq7)
  clear hq7 hb7 hB6
  clear ow_y0 rg_y0 nd_y0
  go_wp2
  go_ret
  exact ⟨rfl, hB7⟩
end Go.Proofs.YtephnocoajbieaaDoor.Lib
