/- The walk of the law FnExactAskLess. Printed by gexact.py. No condition. -/
import Derived.Test.YtmkagpmdindlpaaDoorAsk16
import Derived.Test.YtmkagpmdindlpaaDoorSz
import Derived.Test.YtmkagpmdindlpaaDoorEq
import Derived.Test.YtmkagpmdindlpaaDoorTo
import Derived.Test.YtmkagpmdindlpaaDoorMk
import Derived.Test.YtmkagpmdindlpaaDoorSMk
import Derived.Test.YtmkagpmdindlpaaDoorGr
import Derived.Deep.RegionHeld3
set_option linter.unusedVariables false
set_option linter.unusedSimpArgs false
namespace Go.Proofs.YtmkagpmdindlpaaDoor.Lib
open Go.RowKit
set_option maxRecDepth 100000 in
set_option maxHeartbeats 8000000 in
theorem FnExactAskLess_walk (a0 : List JSel) (a1 : ByteArray) (w : World) {A0 : Option Addr} {n0 c0 : Nat} (g0 : Rd w (slD JSel.enc 5 a0) (.slice A0 n0 c0)) (y0 : WfDs [slD JSel.enc 5 a0]) (y1 : a1.size ≤ maxLen) (htab : EnvW w) :
    Calls Tryd.prog 3 #[.slice A0 n0 c0, .string a1] w (Ret w (.bool true)) := by
  have HT := Lib.hid htab
  clear htab
  obtain rfl := Rd.len g0
  have G0 := Lib.hid g0
  clear g0 y0
  unfold maxLen at y1
  by_cases t1 : (1048576 : Int) < a1.size
  · go_enter Tryd.func3, Tryd.ntmps3
    go_wp2
    go_ret
    exact ⟨rfl, Below.refl _ _⟩
  have ZZ0 := Lib.hid (fun (W : World) (h : Below w.heap.size w W) => szSelS_c a0 A0 c0 (1048576) W (G0.out.below h) (by omega) (by omega))
  by_cases hb0_ : ((a0.length + JSel.bulks a0 : Nat) : Int) ≤ 1048576
  case neg =>
    have e0_ := szR_no hb0_
    go_enter Tryd.func3, Tryd.ntmps3
    go_wp2_with fail
    refine (ZZ0.out _ (Below.refl _ _)).mono ?_
    rintro e u1 ⟨rfl, hu1⟩
    have hU1 := hu1
    go_wp2
    go_ret
    exact ⟨rfl, hU1⟩
  have e0_ := szR_yes hb0_
  have z0_ : (0 : Int) ≤ 1048576 - ((a0.length + JSel.bulks a0 : Nat) : Int) := by omega
  have T0 := Lib.hid (fun (W : World) (h : Below w.heap.size w W) => toSelS_c a0 A0 c0 W (G0.out.below h) (by rw [JSel.bulkL_eq]; omega))
  have hq0 : a0.length + JSel.bulks a0 ≤ 1048576 := by omega
  have hq1 : a1.size ≤ 1048576 := by omega
  have HS := Lib.hid (fun (A0 : Option Addr) (c0 : Nat) (f0 : List Nat) (W : World) (h0 : Own W (slD JSel.enc 5 a0) (.slice A0 a0.length c0) f0) (d0 : f0.Nodup) (hbw : Below w.heap.size w W) => specAskLess_c a0 A0 a0.length c0 f0 a1 W h0 d0 hq0 hq1)
  have HI := Lib.hid (fun (A0 : Option Addr) (c0 : Nat) (f0 : List Nat) (W : World) (h0 : Own W (slD JSel.enc 5 a0) (.slice A0 a0.length c0) f0) (d0 : f0.Nodup) (hbw : Below w.heap.size w W) => implAskLess_c a0 A0 a0.length c0 a1 W (Own.rd _ _ _ h0) hq0 hq1 (HT.out.below hbw))
  have hcr := Nat.le_trans (cntsSel_le (lessR a0 a1)) (Nat.mul_le_mul_left 8 (lessR_bulk (s := a1) hq0))
  generalize lessR a0 a1 = R at HS HI hcr
  have hcn0 : JSel.cnts a0 ≤ 8 * 1048576 := by have := cntsSel_le a0; omega
  have sm0 : same a0 a0 = true := same_t rfl
  have smr0 : same R R = true := same_t rfl
  go_enter Tryd.func3, Tryd.ntmps3
  go_wp2_with fail
  refine (ZZ0.out _ (Below.refl _ _)).mono ?_
  rintro e w1 ⟨rfl, hb1⟩
  have hq1 := hb1
  have hB1 := hq1
  have hs1 : w.heap.size ≤ w1.heap.size := by have := hb1.size; (try simp only [World.size_alloc] at this); omega
  clear hq1 hb1
  go_wp2_with fail
  refine (T0.out _ (hB1)).mono ?_
  rintro e w2 ⟨us2, f2, rfl, o2, hf2, hb2⟩
  have nd_s0 := hf2.1
  have rg_s0 := Lib.hid (fun b (hm : b ∈ f2) => (⟨by have := hf2.2 b hm; (try simp only [World.size_alloc] at this); omega, Own.lt _ _ _ o2 b hm⟩ : w1.heap.size ≤ b ∧ b < w2.heap.size))
  obtain ⟨A_s0, c_s0, rfl⟩ := Own.slD o2
  have ow_s0 := Lib.hid o2
  clear o2 hf2
  have hq2 := hb2
  have hB2 := bt hB1 hq2
  have hs2 : w1.heap.size ≤ w2.heap.size := by have := hb2.size; (try simp only [World.size_alloc] at this); omega
  clear hq2 hb2 hB1
  go_wp2_with fail
  refine (HS.out _ _ _ _ (ow_s0.out) nd_s0 (hB2)).mono ?_
  rintro e w3 ⟨us3, f3, rfl, o3, hf3, hb3⟩
  have nd_w0 := hf3.1
  have rg_w0 := Lib.hid (fun b (hm : b ∈ f3) => (⟨by have := hf3.2 b hm; (try simp only [World.size_alloc] at this); omega, Own.lt _ _ _ o3 b hm⟩ : w2.heap.size ≤ b ∧ b < w3.heap.size))
  obtain ⟨A_w0, c_w0, rfl⟩ := Own.slD o3
  have ow_w0 := Lib.hid o3
  clear o3 hf3
  have hq3 := hb3
  have hB3 := bt hB2 hq3
  have hs3 : w2.heap.size ≤ w3.heap.size := by have := hb3.size; (try simp only [World.size_alloc] at this); omega
  replace ow_s0 := Lib.hid (ow_s0.out.keep hq3)
  clear hq3 hb3 hB2
  clear ow_s0 rg_s0 nd_s0
  go_wp2_with fail
  refine (T0.out _ (hB3)).mono ?_
  rintro e w4 ⟨us4, f4, rfl, o4, hf4, hb4⟩
  have nd_x0 := hf4.1
  have rg_x0 := Lib.hid (fun b (hm : b ∈ f4) => (⟨by have := hf4.2 b hm; (try simp only [World.size_alloc] at this); omega, Own.lt _ _ _ o4 b hm⟩ : w3.heap.size ≤ b ∧ b < w4.heap.size))
  obtain ⟨A_x0, c_x0, rfl⟩ := Own.slD o4
  have ow_x0 := Lib.hid o4
  clear o4 hf4
  have hq4 := hb4
  have hB4 := bt hB3 hq4
  have hs4 : w3.heap.size ≤ w4.heap.size := by have := hb4.size; (try simp only [World.size_alloc] at this); omega
  replace ow_w0 := Lib.hid (ow_w0.out.keep hq4)
  clear hq4 hb4 hB3
  go_wp2_with fail
  refine (HI.out _ _ _ _ (ow_x0.out) nd_x0 (hB4)).mono ?_
  rintro e w5 ⟨us5, f5, rfl, o5, hf5, hb5⟩
  have nd_g0 := hf5.1
  have rg_g0 := Lib.hid (fun b (hm : b ∈ f5) => (⟨by have := hf5.2 b hm; (try simp only [World.size_alloc] at this); omega, Own.lt _ _ _ o5 b hm⟩ : w4.heap.size ≤ b ∧ b < w5.heap.size))
  obtain ⟨A_g0, c_g0, rfl⟩ := Own.slD o5
  have ow_g0 := Lib.hid o5
  clear o5 hf5
  have hq5 := hb5
  have hB5 := bt hB4 hq5
  have hs5 : w4.heap.size ≤ w5.heap.size := by have := hb5.size; (try simp only [World.size_alloc] at this); omega
  replace ow_w0 := Lib.hid (ow_w0.out.keep hq5)
  replace ow_x0 := Lib.hid (ow_x0.out.keep hq5)
  clear hq5 hb5 hB4
  go_wp2_with fail
  refine (eqSelS_c R R _ _ _ _ _ (Own.rd _ _ _ ow_g0.out) (Own.rd _ _ _ ow_w0.out)).mono ?_
  rintro e w6 ⟨rfl, hb6⟩
  have hq6 := hb6
  have hB6 := bt hB5 hq6
  have hs6 : w5.heap.size ≤ w6.heap.size := by have := hb6.size; (try simp only [World.size_alloc] at this); omega
  replace ow_w0 := Lib.hid (ow_w0.out.keep hq6)
  replace ow_x0 := Lib.hid (ow_x0.out.keep hq6)
  replace ow_g0 := Lib.hid (ow_g0.out.keep hq6)
  clear hq6 hb6 hB5
  go_wp2_with fail
  refine (T0.out _ (hB6)).mono ?_
  rintro e w7 ⟨us7, f7, rfl, o7, hf7, hb7⟩
  have nd_y0 := hf7.1
  have rg_y0 := Lib.hid (fun b (hm : b ∈ f7) => (⟨by have := hf7.2 b hm; (try simp only [World.size_alloc] at this); omega, Own.lt _ _ _ o7 b hm⟩ : w6.heap.size ≤ b ∧ b < w7.heap.size))
  obtain ⟨A_y0, c_y0, rfl⟩ := Own.slD o7
  have ow_y0 := Lib.hid o7
  clear o7 hf7
  have hq7 := hb7
  have hB7 := bt hB6 hq7
  have hs7 : w6.heap.size ≤ w7.heap.size := by have := hb7.size; (try simp only [World.size_alloc] at this); omega
  replace ow_w0 := Lib.hid (ow_w0.out.keep hq7)
  replace ow_x0 := Lib.hid (ow_x0.out.keep hq7)
  replace ow_g0 := Lib.hid (ow_g0.out.keep hq7)
  clear hq7 hb7 hB6
  go_wp2_with fail
  refine (eqSelS_c a0 a0 _ _ _ _ _ (Own.rd _ _ _ ow_x0.out) (Own.rd _ _ _ ow_y0.out)).mono ?_
  rintro e w8 ⟨rfl, hb8⟩
  have hq8 := hb8
  have hB8 := bt hB7 hq8
  have hs8 : w7.heap.size ≤ w8.heap.size := by have := hb8.size; (try simp only [World.size_alloc] at this); omega
  replace ow_w0 := Lib.hid (ow_w0.out.keep hq8)
  replace ow_x0 := Lib.hid (ow_x0.out.keep hq8)
  replace ow_g0 := Lib.hid (ow_g0.out.keep hq8)
  replace ow_y0 := Lib.hid (ow_y0.out.keep hq8)
  clear hq8 hb8 hB7
  clear ow_y0 rg_y0 nd_y0
  go_wp2_with fail
  refine (mkSelS_c a0 _ f4 1 _ ow_x0.out nd_x0 (by omega) (by omega)).mono ?_
  rintro e w9 ⟨rfl, hm9, ht9⟩
  have hs9 := ht9.size
  have hB9 := Touch.toBelow ht9 hB8 (fun b hm => by have := rg_x0.out b hm; omega)
  replace ow_w0 := Lib.hid (Own.touch ow_w0.out ht9 (fun b h1 h2 => by have := rg_w0.out b h1; have := rg_x0.out b h2; omega))
  replace ow_g0 := Lib.hid (Own.touch ow_g0.out ht9 (fun b h1 h2 => by have := rg_g0.out b h1; have := rg_x0.out b h2; omega))
  clear ht9 hB8 ow_x0
  have ow_x0 := Lib.hid hm9
  clear hm9
  clear ow_x0 rg_x0 nd_x0
  go_wp2_with fail
  refine (eqSelS_c R R _ _ _ _ _ (Own.rd _ _ _ ow_g0.out) (Own.rd _ _ _ ow_w0.out)).mono ?_
  rintro e w10 ⟨rfl, hb10⟩
  have hq10 := hb10
  have hB10 := bt hB9 hq10
  have hs10 : w9.heap.size ≤ w10.heap.size := by have := hb10.size; (try simp only [World.size_alloc] at this); omega
  replace ow_w0 := Lib.hid (ow_w0.out.keep hq10)
  replace ow_g0 := Lib.hid (ow_g0.out.keep hq10)
  clear hq10 hb10 hB9
  go_wp2_with fail
  refine (mkSelS_c R _ f5 1 _ ow_g0.out nd_g0 (by omega) (by omega)).mono ?_
  rintro e w11 ⟨rfl, hm11, ht11⟩
  have hs11 := ht11.size
  have hB11 := Touch.toBelow ht11 hB10 (fun b hm => by have := rg_g0.out b hm; omega)
  replace ow_w0 := Lib.hid (Own.touch ow_w0.out ht11 (fun b h1 h2 => by have := rg_w0.out b h1; have := rg_g0.out b h2; omega))
  clear ht11 hB10 ow_g0
  have ow_g0 := Lib.hid hm11
  clear hm11
  go_wp2_with fail
  refine (heldSelS_n R 1 _ _ _ _ (Own.rd _ _ _ ow_g0.out) (by omega) (by omega)).mono ?_
  rintro e w12 ⟨rfl, hb12⟩
  have hq12 := hb12
  have hB12 := bt hB11 hq12
  have hs12 : w11.heap.size ≤ w12.heap.size := by have := hb12.size; (try simp only [World.size_alloc] at this); omega
  replace ow_w0 := Lib.hid (ow_w0.out.keep hq12)
  replace ow_g0 := Lib.hid (ow_g0.out.keep hq12)
  clear hq12 hb12 hB11
  go_wp2_with fail
  refine (T0.out _ (hB12)).mono ?_
  rintro e w13 ⟨us13, f13, rfl, o13, hf13, hb13⟩
  have nd_t0 := hf13.1
  have rg_t0 := Lib.hid (fun b (hm : b ∈ f13) => (⟨by have := hf13.2 b hm; (try simp only [World.size_alloc] at this); omega, Own.lt _ _ _ o13 b hm⟩ : w12.heap.size ≤ b ∧ b < w13.heap.size))
  obtain ⟨A_t0, c_t0, rfl⟩ := Own.slD o13
  have ow_t0 := Lib.hid o13
  clear o13 hf13
  have hq13 := hb13
  have hB13 := bt hB12 hq13
  have hs13 : w12.heap.size ≤ w13.heap.size := by have := hb13.size; (try simp only [World.size_alloc] at this); omega
  replace ow_w0 := Lib.hid (ow_w0.out.keep hq13)
  replace ow_g0 := Lib.hid (ow_g0.out.keep hq13)
  clear hq13 hb13 hB12
  go_wp2_with fail
  refine (HI.out _ _ _ _ (ow_t0.out) nd_t0 (hB13)).mono ?_
  rintro e w14 ⟨us14, f14, rfl, o14, hf14, hb14⟩
  have nd_h0 := hf14.1
  have rg_h0 := Lib.hid (fun b (hm : b ∈ f14) => (⟨by have := hf14.2 b hm; (try simp only [World.size_alloc] at this); omega, Own.lt _ _ _ o14 b hm⟩ : w13.heap.size ≤ b ∧ b < w14.heap.size))
  obtain ⟨A_h0, c_h0, rfl⟩ := Own.slD o14
  have ow_h0 := Lib.hid o14
  clear o14 hf14
  have hq14 := hb14
  have hB14 := bt hB13 hq14
  have hs14 : w13.heap.size ≤ w14.heap.size := by have := hb14.size; (try simp only [World.size_alloc] at this); omega
  replace ow_w0 := Lib.hid (ow_w0.out.keep hq14)
  replace ow_g0 := Lib.hid (ow_g0.out.keep hq14)
  replace ow_t0 := Lib.hid (ow_t0.out.keep hq14)
  clear hq14 hb14 hB13
  clear ow_t0 rg_t0 nd_t0
  go_wp2_with fail
  refine (eqSelS_c R R _ _ _ _ _ (Own.rd _ _ _ ow_h0.out) (Own.rd _ _ _ ow_w0.out)).mono ?_
  rintro e w15 ⟨rfl, hb15⟩
  have hq15 := hb15
  have hB15 := bt hB14 hq15
  have hs15 : w14.heap.size ≤ w15.heap.size := by have := hb15.size; (try simp only [World.size_alloc] at this); omega
  replace ow_w0 := Lib.hid (ow_w0.out.keep hq15)
  replace ow_g0 := Lib.hid (ow_g0.out.keep hq15)
  replace ow_h0 := Lib.hid (ow_h0.out.keep hq15)
  clear hq15 hb15 hB14
  go_wp2_with fail
  refine (heldSelS_n R 1 _ _ _ _ (Own.rd _ _ _ ow_g0.out) (by omega) (by omega)).mono ?_
  rintro e w16 ⟨rfl, hb16⟩
  have hq16 := hb16
  have hB16 := bt hB15 hq16
  have hs16 : w15.heap.size ≤ w16.heap.size := by have := hb16.size; (try simp only [World.size_alloc] at this); omega
  replace ow_w0 := Lib.hid (ow_w0.out.keep hq16)
  replace ow_g0 := Lib.hid (ow_g0.out.keep hq16)
  replace ow_h0 := Lib.hid (ow_h0.out.keep hq16)
  clear hq16 hb16 hB15
  go_wp2
  go_ret
  exact ⟨rfl, hB16⟩
end Go.Proofs.YtmkagpmdindlpaaDoor.Lib
