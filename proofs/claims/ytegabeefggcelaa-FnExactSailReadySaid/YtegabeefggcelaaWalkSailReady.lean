/- The walk of the law FnExactSailReady. No condition. -/
import Derived.Test.YtegabeefggcelaaSail2
import Derived.Test.YtegabeefggcelaaSz
import Derived.Test.YtegabeefggcelaaEq
import Derived.Test.YtegabeefggcelaaTo
import Derived.Test.YtegabeefggcelaaMk
import Derived.Test.YtegabeefggcelaaCnt
set_option linter.unusedVariables false
set_option linter.unusedSimpArgs false
namespace Go.Proofs.Ytegabeefggcelaa.Lib
open Go.RowKit
theorem heldInt_n (ys : List Int) (k : Int) (A : Option Addr) (n c : Nat) (w : World) (hx : Rd w (slD intD 1 (mkIs ys k)) (.slice A n c)) (h0 : 0 ≤ k) (h1 : k + ys.length ≤ 4611686018427387904) :
    Calls Try.prog 24 #[.slice A n c, .int .i64 k] w (Ret w (.int .i64 (k + ys.length))) := by
  obtain rfl := Rd.len hx
  exact heldIntS_c ys k A c w hx h0 h1
theorem bulkL_steps (xs : List JStep) : bulkL JStep.bulk xs = xs.length + JStep.bulks xs := by
  unfold bulkL
  congr 1
  induction xs with
  | nil => simp [JStep.bulks]
  | cons x r ih => simp [JStep.bulks, ih]
set_option maxRecDepth 100000 in
set_option maxHeartbeats 8000000 in
theorem FnExactSailReady_walk (a0 : List JStep) (a1 : List Int) (w : World) {A0 A1 : Option Addr} {n0 c0 n1 c1 : Nat} (g0 : Rd w (slD JStep.enc 6 a0) (.slice A0 n0 c0)) (y0 : WfDs [slD JStep.enc 6 a0]) (g1 : Rd w (slD intD 1 a1) (.slice A1 n1 c1)) (y1 : WfDs [slD intD 1 a1]) :
    Calls Try.prog 6 #[.slice A0 n0 c0, .slice A1 n1 c1] w (Ret w (.bool true)) := by
  obtain rfl := Rd.len g0
  obtain rfl := Rd.len g1
  obtain ⟨_, _, _, hm0, hm1, _⟩ := Rd.slice g1
  unfold maxLen at hm1
  have hm : a1.length ≤ 9223372036854775807 := by omega
  clear y0 y1 hm0 hm1
  have G0 := Lib.hid g0
  have G1 := Lib.hid g1
  clear g0 g1
  by_cases h1 : (1048576 : Int) < a1.length
  · go_enter Try.func6, Try.ntmps6
    go_wp2
    go_ret
    exact ⟨rfl, Below.refl _ _⟩
  have HZ := Lib.hid (szStepS_c a0 A0 c0 1048576 w G0.out (by omega) (by omega))
  by_cases hb : ((a0.length + JStep.bulks a0 : Nat) : Int) ≤ 1048576
  case neg =>
    have e1 := szR_no hb
    go_enter Try.func6, Try.ntmps6
    go_wp2_with fail
    refine HZ.out.mono ?_
    rintro e w1 ⟨rfl, hb1⟩
    go_wp2
    go_ret
    exact ⟨rfl, hb1⟩
  have e1 := szR_yes hb
  have hmax : a0.length ≤ 1048576 := by omega
  have hz0 : (0 : Int) ≤ 1048576 - ((a0.length + JStep.bulks a0 : Nat) : Int) := by omega
  have T0 := Lib.hid (fun (W : World) (h : Below w.heap.size w W) => toStepS_c a0 A0 c0 W (G0.out.below h) (by rw [bulkL_steps]; omega))
  have T1 := Lib.hid (fun (W : World) (h : Below w.heap.size w W) => toIntS_c a1 A1 c1 W (G1.out.below h) (by rw [bulkL_ints]; omega))
  have hcn : JStep.cnts a0 ≤ 8 * 1048576 := by have := cntsStep_le a0; omega
  have hr := readyL_le a0 a1 a0.length
  have hsI : ∀ xs : List Int, same xs xs = true := fun xs => same_t rfl
  have hsS : ∀ xs : List JStep, same xs xs = true := fun xs => same_t rfl
  go_enter Try.func6, Try.ntmps6
  go_wp2_with fail
  refine HZ.out.mono ?_
  rintro e w1 ⟨rfl, hB1⟩
  go_wp2_with fail
  refine (T0.out w1 hB1).mono ?_
  rintro e w2 ⟨v2, f2, rfl, ho2, hf2, hb2⟩
  have hB2 := bt hB1 hb2
  obtain ⟨A2, c2, rfl⟩ := Own.slD ho2
  go_wp2_with fail
  refine (T1.out w2 hB2).mono ?_
  rintro e w3 ⟨v3, f3, rfl, ho3, hf3, hb3⟩
  have hB3 := bt hB2 hb3
  obtain ⟨A3, c3, rfl⟩ := Own.slD ho3
  go_wp2_with fail
  refine (specSailReady_c a0 a1 _ _ _ _ w3 (Own.rd _ _ _ (ho2.keep hb3)) (Own.rd _ _ _ ho3) hmax).mono ?_
  rintro e w4 ⟨v4, f4, rfl, ho4, hf4, hb4⟩
  have hB4 := bt hB3 hb4
  obtain ⟨A4, c4, rfl⟩ := Own.slD ho4
  clear ho2 hf2 hb2 ho3 hf3 hb3 hb4
  go_wp2_with fail
  refine (T0.out w4 hB4).mono ?_
  rintro e w5 ⟨v5, f5, rfl, ho5, hf5, hb5⟩
  have hB5 := bt hB4 hb5
  obtain ⟨A5, c5, rfl⟩ := Own.slD ho5
  go_wp2_with fail
  refine (T1.out w5 hB5).mono ?_
  rintro e w6 ⟨v6, f6, rfl, ho6, hf6, hb6⟩
  have hB6 := bt hB5 hb6
  obtain ⟨A6, c6, rfl⟩ := Own.slD ho6
  go_wp2_with fail
  refine (implSailReady_c a0 a1 _ _ _ _ w6 (Own.rd _ _ _ (ho5.keep hb6)) (Own.rd _ _ _ ho6) hmax).mono ?_
  rintro e w7 ⟨v7, f7, rfl, ho7, hf7, hb7⟩
  have hB7 := bt hB6 hb7
  obtain ⟨A7, c7, rfl⟩ := Own.slD ho7
  -- all in w7
  have p4 := ho4.keep (bt (bt hb5 hb6) hb7)
  have p5 := ho5.keep (bt hb6 hb7)
  have p6 := ho6.keep hb7
  have d54 : ∀ b, b ∈ f4 → b ∉ f5 := fun b h4 h5 => by have := Own.lt _ _ _ ho4 b h4; have := hf5.2 b h5; omega
  have d64 : ∀ b, b ∈ f4 → b ∉ f6 := fun b h4 h5 => by have := Own.lt _ _ _ ho4 b h4; have := hf6.2 b h5; have := hb5.size; omega
  have d74 : ∀ b, b ∈ f4 → b ∉ f7 := fun b h4 h5 => by have := Own.lt _ _ _ ho4 b h4; have := hf7.2 b h5; have := hb5.size; have := hb6.size; omega
  have d57 : ∀ b, b ∈ f7 → b ∉ f5 := fun b h4 h5 => by have := Own.lt _ _ _ ho5 b h5; have := hf7.2 b h4; have := hb6.size; omega
  have d67 : ∀ b, b ∈ f7 → b ∉ f6 := fun b h4 h5 => by have := Own.lt _ _ _ ho6 b h5; have := hf7.2 b h4; omega
  have d56 : ∀ b, b ∈ f6 → b ∉ f5 := fun b h4 h5 => by have := Own.lt _ _ _ ho5 b h5; have := hf6.2 b h4; omega
  have n5 : ∀ b, b ∈ f5 → w.heap.size ≤ b := fun b h => by have := hf5.2 b h; have := hB4.size; omega
  have n6 : ∀ b, b ∈ f6 → w.heap.size ≤ b := fun b h => by have := hf6.2 b h; have := hB5.size; omega
  have n7 : ∀ b, b ∈ f7 → w.heap.size ≤ b := fun b h => by have := hf7.2 b h; have := hB6.size; omega
  have nd5 := hf5.1
  have nd6 := hf6.1
  have nd7 := hf7.1
  have p7 := ho7
  clear ho4 hf4 ho5 hf5 hb5 ho6 hf6 hb6 ho7 hf7 hb7 hB1 hB2 hB3 hB4 hB5 hB6
  go_wp2_with fail
  refine (eqIntS_c _ _ _ _ _ _ w7 (Own.rd _ _ _ p7) (Own.rd _ _ _ p4)).mono ?_
  rintro e w8 ⟨rfl, hb8⟩
  have hB8 := bt hB7 hb8
  replace p4 := p4.keep hb8
  replace p5 := p5.keep hb8
  replace p6 := p6.keep hb8
  replace p7 := p7.keep hb8
  clear hB7 hb8
  go_wp2_with fail
  refine (T0.out w8 hB8).mono ?_
  rintro e w9 ⟨v9, f9, rfl, q1, hf9, hb9⟩
  have hB9 := bt hB8 hb9
  replace p4 := p4.keep hb9
  replace p5 := p5.keep hb9
  replace p6 := p6.keep hb9
  replace p7 := p7.keep hb9
  clear hB8
  obtain ⟨A9, c9, rfl⟩ := Own.slD q1
  go_wp2_with fail
  refine (eqStepS_c a0 a0 _ _ _ _ _ (Own.rd _ _ _ p5) (Own.rd _ _ _ (q1))).mono ?_
  rintro e w10 ⟨rfl, hb10⟩
  have hB10 := bt hB9 hb10
  replace p4 := p4.keep hb10
  replace p5 := p5.keep hb10
  replace p6 := p6.keep hb10
  replace p7 := p7.keep hb10
  clear hB9 hb10
  clear q1 hf9
  go_wp2_with fail
  refine (T1.out w10 hB10).mono ?_
  rintro e w11 ⟨v11, f11, rfl, q2, hf11, hb11⟩
  have hB11 := bt hB10 hb11
  replace p4 := p4.keep hb11
  replace p5 := p5.keep hb11
  replace p6 := p6.keep hb11
  replace p7 := p7.keep hb11
  clear hB10
  obtain ⟨A11, c11, rfl⟩ := Own.slD q2
  go_wp2_with fail
  refine (eqIntS_c _ _ _ _ _ _ _ (Own.rd _ _ _ p6) (Own.rd _ _ _ q2)).mono ?_
  rintro e w12 ⟨rfl, hb12⟩
  have hB12 := bt hB11 hb12
  replace p4 := p4.keep hb12
  replace p5 := p5.keep hb12
  replace p6 := p6.keep hb12
  replace p7 := p7.keep hb12
  clear hB11 hb12
  clear q2 hf11
  go_wp2_with fail
  refine (mkStepS_c a0 _ f5 1 _ p5 nd5 (by omega) (by omega)).mono ?_
  rintro e w13 ⟨rfl, hm13, ht13⟩
  have hB13 := Touch.toBelow ht13 hB12 n5
  replace p4 := Own.touch p4 ht13 d54
  replace p6 := Own.touch p6 ht13 d56
  replace p7 := Own.touch p7 ht13 d57
  clear ht13 hB12 p5
  have p5 := hm13
  go_wp2_with fail
  refine (mkIntS_c a1 _ f6 _ _ p6 nd6 (by omega) (by omega)).mono ?_
  rintro e w14 ⟨rfl, hm14, ht14⟩
  have hB14 := Touch.toBelow ht14 hB13 n6
  replace p4 := Own.touch p4 ht14 d64
  replace p7 := Own.touch p7 ht14 d67
  clear ht14 hB13 p6
  have p6 := hm14
  clear p5 p6
  go_wp2_with fail
  refine (eqIntS_c _ _ _ _ _ _ _ (Own.rd _ _ _ p7) (Own.rd _ _ _ p4)).mono ?_
  rintro e w15 ⟨rfl, hb15⟩
  have hB15 := bt hB14 hb15
  replace p4 := p4.keep hb15
  replace p7 := p7.keep hb15
  clear hB14 hb15
  go_wp2_with fail
  refine (mkIntS_c (readyL a0 a1 a0.length) _ f7 1 _ p7 nd7 (by omega) (by omega)).mono ?_
  rintro e w16 ⟨rfl, hm16, ht16⟩
  have hB16 := Touch.toBelow ht16 hB15 n7
  replace p4 := Own.touch p4 ht16 d74
  clear ht16 hB15 p7
  have p7 := hm16
  go_wp2_with fail
  refine (heldInt_n (readyL a0 a1 a0.length) 1 _ _ _ _ (Own.rd _ _ _ p7) (by omega) (by omega)).mono ?_
  rintro e w17 ⟨rfl, hb17⟩
  have hB17 := bt hB16 hb17
  replace p4 := p4.keep hb17
  replace p7 := p7.keep hb17
  clear hB16 hb17
  go_wp2_with fail
  refine (T0.out w17 hB17).mono ?_
  rintro e w18 ⟨v18, f18, rfl, q1, hf18, hb18⟩
  have hB18 := bt hB17 hb18
  replace p4 := p4.keep hb18
  replace p7 := p7.keep hb18
  clear hB17
  obtain ⟨A18, c18, rfl⟩ := Own.slD q1
  go_wp2_with fail
  refine (T1.out w18 hB18).mono ?_
  rintro e w19 ⟨v19, f19, rfl, q2, hf19, hb19⟩
  have hB19 := bt hB18 hb19
  replace p4 := p4.keep hb19
  replace p7 := p7.keep hb19
  replace q1 := q1.keep hb19
  clear hB18
  obtain ⟨A19, c19, rfl⟩ := Own.slD q2
  go_wp2_with fail
  refine (implSailReady_c a0 a1 _ _ _ _ w19 (Own.rd _ _ _ q1) (Own.rd _ _ _ q2) hmax).mono ?_
  rintro e w20 ⟨v20, f20, rfl, q3, hf20, hb20⟩
  have hB20 := bt hB19 hb20
  replace p4 := p4.keep hb20
  replace p7 := p7.keep hb20
  clear hB19
  obtain ⟨A20, c20, rfl⟩ := Own.slD q3
  go_wp2_with fail
  refine (eqIntS_c _ _ _ _ _ _ _ (Own.rd _ _ _ q3) (Own.rd _ _ _ p4)).mono ?_
  rintro e w21 ⟨rfl, hb21⟩
  have hB21 := bt hB20 hb21
  replace p4 := p4.keep hb21
  replace p7 := p7.keep hb21
  clear hB20 hb21
  go_wp2_with fail
  refine (heldInt_n (readyL a0 a1 a0.length) 1 _ _ _ _ (Own.rd _ _ _ p7) (by omega) (by omega)).mono ?_
  rintro e w22 ⟨rfl, hb22⟩
  have hB22 := bt hB21 hb22
  replace p4 := p4.keep hb22
  replace p7 := p7.keep hb22
  clear hB21 hb22
  go_wp2
  go_ret
  exact ⟨rfl, hB22⟩
end Go.Proofs.Ytegabeefggcelaa.Lib
