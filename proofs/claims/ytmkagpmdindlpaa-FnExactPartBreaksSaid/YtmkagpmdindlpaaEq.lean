/- Contracts of the laws' equality functions: true just if the two values are the same. Printed by geq.py. No condition. -/
import Derived.Test.YtmkagpmdindlpaaProg
import Derived.Test.YtmkagpmdindlpaaBulk
import Derived.Deep.QuietTactic
import Derived.BigQuiet
import Derived.StillTailTactics
set_option linter.unusedVariables false
set_option linter.unusedSimpArgs false
namespace Go.Proofs.Ytmkagpmdindlpaa.Lib
open Go.RowKit

def EqStringS : Prop := ∀ (xs ys : List ByteArray) (A B : Option Addr) (c d : Nat) (w : World), Rd w (slD strD 1 xs) (.slice A xs.length c) → Rd w (slD strD 1 ys) (.slice B ys.length d) →
    Calls Try.prog 32 #[.slice A xs.length c, .slice B ys.length d] w (Ret w (.bool (same xs ys)))
set_option maxHeartbeats 800000 in
theorem eqStringS_c : EqStringS := by
  intro xs ys A B c d w hx hy
  obtain ⟨_, _, _, hm0, hm1, _⟩ := Rd.slice hx
  unfold maxLen at hm1
  have hm : xs.length ≤ 9223372036854775807 := by omega
  have HX := Lib.hid hx
  have HY := Lib.hid hy
  clear hx hy hm0 hm1
  by_cases c1 : xs.length = ys.length
  · have c1b : ((xs.length : Int) != (ys.length : Int)) = false := by simp [c1]
    have c1c : (xs.length == ys.length) = true := by simp [c1]
    have C1 := Lib.hid c1
    clear c1
    go_enter Try.func32, Try.ntmps32
    go_wp2
    go_loopw [5] (fun i wr => ∃ k : Nat, k ≤ xs.length ∧ i = .int .i64 k ∧ Hid (xs.take k = ys.take k) ∧ Below w.heap.size w wr) (fun i _ => xs.length - (intOf i).toNat)
    case atStart => exact ⟨0, Nat.zero_le _, rfl, by simp [Hid], Below.refl _ _⟩
    case round =>
      obtain ⟨k, hk, rfl, HR, hb⟩ := hrel
      by_cases hlt : k < xs.length
      · have hlt2 : k < ys.length := by have := C1.out; omega
        obtain ⟨ad, rfl, hc, _⟩ := Rd.elem_str (HX.out.below hb) k hlt
        obtain ⟨ad2, rfl, hc2, _⟩ := Rd.elem_str (HY.out.below hb) k hlt2
        by_cases c2 : xs[k] = ys[k]
        · have cc := str_t c2
          have C2 := Lib.hid c2
          clear c2
          go_wp2
          go_quiet (fail)
          go_wp2
          go_roundw
          case rel => exact ⟨k + 1, by omega, by go_num, take_eq HR.out hlt hlt2 C2.out, drewN_below hb _⟩
          case measure => simp [intOf]; omega
        · have cc := str_f c2
          go_wp2
          go_quiet (fail)
          go_wp2
          go_ret
          exact Ret.bool (by rw [same_f fun h => c2 (by simp only [h])]) (drewN_below hb _)
      · go_wp2
        go_ret
        exact Ret.bool (by rw [same_t]; have h1 := HR.out; have h2 := C1.out; rw [List.take_of_length_le (by omega), List.take_of_length_le (by omega)] at h1; exact h1) hb
  · have c1b : ((xs.length : Int) != (ys.length : Int)) = true := by simpa using (show ¬ (xs.length : Int) = ys.length by omega)
    have c1c : (xs.length == ys.length) = false := by simpa using c1
    go_enter Try.func32, Try.ntmps32
    go_wp2
    go_ret
    exact Ret.bool (by rw [same_f fun h => c1 (by rw [h])]) (Below.refl _ _)

def EqIntS : Prop := ∀ (xs ys : List Int) (A B : Option Addr) (c d : Nat) (w : World), Rd w (slD intD 1 xs) (.slice A xs.length c) → Rd w (slD intD 1 ys) (.slice B ys.length d) →
    Calls Try.prog 17 #[.slice A xs.length c, .slice B ys.length d] w (Ret w (.bool (same xs ys)))
set_option maxHeartbeats 800000 in
theorem eqIntS_c : EqIntS := by
  intro xs ys A B c d w hx hy
  obtain ⟨_, _, _, hm0, hm1, _⟩ := Rd.slice hx
  unfold maxLen at hm1
  have hm : xs.length ≤ 9223372036854775807 := by omega
  have HX := Lib.hid hx
  have HY := Lib.hid hy
  clear hx hy hm0 hm1
  by_cases c1 : xs.length = ys.length
  · have c1b : ((xs.length : Int) != (ys.length : Int)) = false := by simp [c1]
    have c1c : (xs.length == ys.length) = true := by simp [c1]
    have C1 := Lib.hid c1
    clear c1
    go_enter Try.func17, Try.ntmps17
    go_wp2
    go_loopw [5] (fun i wr => ∃ k : Nat, k ≤ xs.length ∧ i = .int .i64 k ∧ Hid (xs.take k = ys.take k) ∧ Below w.heap.size w wr) (fun i _ => xs.length - (intOf i).toNat)
    case atStart => exact ⟨0, Nat.zero_le _, rfl, by simp [Hid], Below.refl _ _⟩
    case round =>
      obtain ⟨k, hk, rfl, HR, hb⟩ := hrel
      by_cases hlt : k < xs.length
      · have hlt2 : k < ys.length := by have := C1.out; omega
        obtain ⟨ad, rfl, hc⟩ := Rd.elem_int (HX.out.below hb) k hlt
        obtain ⟨ad2, rfl, hc2⟩ := Rd.elem_int (HY.out.below hb) k hlt2
        by_cases c2 : xs[k] = ys[k]
        · have cca : (xs[k] == ys[k]) = true := by simpa using c2
          have ccb : (xs[k] != ys[k]) = false := by simpa using c2
          have C2 := Lib.hid c2
          clear c2
          go_wp2
          go_quiet (fail)
          go_wp2
          go_roundw
          case rel => exact ⟨k + 1, by omega, by go_num, take_eq HR.out hlt hlt2 C2.out, drewN_below hb _⟩
          case measure => simp [intOf]; omega
        · have cca : (xs[k] == ys[k]) = false := by simpa using c2
          have ccb : (xs[k] != ys[k]) = true := by simpa using c2
          go_wp2
          go_quiet (fail)
          go_wp2
          go_ret
          exact Ret.bool (by rw [same_f fun h => c2 (by simp only [h])]) (drewN_below hb _)
      · go_wp2
        go_ret
        exact Ret.bool (by rw [same_t]; have h1 := HR.out; have h2 := C1.out; rw [List.take_of_length_le (by omega), List.take_of_length_le (by omega)] at h1; exact h1) hb
  · have c1b : ((xs.length : Int) != (ys.length : Int)) = true := by simpa using (show ¬ (xs.length : Int) = ys.length by omega)
    have c1c : (xs.length == ys.length) = false := by simpa using c1
    go_enter Try.func17, Try.ntmps17
    go_wp2
    go_ret
    exact Ret.bool (by rw [same_f fun h => c1 (by rw [h])]) (Below.refl _ _)

def EqField (a b : JField) : Prop := ∀ (ca cb : List Value) (w : World), RdL w a.enc ca → RdL w b.enc cb →
    Calls Try.prog 38 #[.agg ca.toArray, .agg cb.toArray] w (Ret w (.bool (same a b)))
set_option maxHeartbeats 3200000 in
theorem eqField_of (a b : JField) : EqField a b := by
  intro ca cb w ha hb
  obtain ⟨A7, c7, rfl, g7, _lsa0, _lsa1, _lna7⟩ := JField.open_ ha
  obtain ⟨B7, d7, rfl, k7, _lsb0, _lsb1, _lnb7⟩ := JField.open_ hb
  have G7 := Lib.hid g7
  have K7 := Lib.hid k7
  clear ha hb g7 k7
  by_cases e0 : a.name = b.name
  case neg =>
    have t0 := str_f e0
    go_enter Try.func38, Try.ntmps38
    go_wp2
    go_ret
    exact Ret.bool (by rw [same_f fun h => e0 (by rw [h])]) (bt (b1 _ _) (b1 _ _))
  have t0 := str_t e0
  have E0 := Lib.hid e0
  clear e0
  by_cases e1 : a.of = b.of
  case neg =>
    have t1 := str_f e1
    go_enter Try.func38, Try.ntmps38
    go_wp2
    go_ret
    exact Ret.bool (by rw [same_f fun h => e1 (by rw [h])]) (bt (b1 _ _) (b1 _ _))
  have t1 := str_t e1
  have E1 := Lib.hid e1
  clear e1
  by_cases e2 : a.list = b.list
  case neg =>
    have t2a : (a.list == b.list) = false := by simpa using e2
    have t2b : (a.list != b.list) = true := by simpa using e2
    go_enter Try.func38, Try.ntmps38
    go_wp2
    go_ret
    exact Ret.bool (by rw [same_f fun h => e2 (by rw [h])]) (bt (b1 _ _) (b1 _ _))
  have t2a : (a.list == b.list) = true := by simpa using e2
  have t2b : (a.list != b.list) = false := by simpa using e2
  have E2 := Lib.hid e2
  clear e2
  by_cases e3 : a.must = b.must
  case neg =>
    have t3a : (a.must == b.must) = false := by simpa using e3
    have t3b : (a.must != b.must) = true := by simpa using e3
    go_enter Try.func38, Try.ntmps38
    go_wp2
    go_ret
    exact Ret.bool (by rw [same_f fun h => e3 (by rw [h])]) (bt (b1 _ _) (b1 _ _))
  have t3a : (a.must == b.must) = true := by simpa using e3
  have t3b : (a.must != b.must) = false := by simpa using e3
  have E3 := Lib.hid e3
  clear e3
  by_cases e4 : a.far = b.far
  case neg =>
    have t4a : (a.far == b.far) = false := by simpa using e4
    have t4b : (a.far != b.far) = true := by simpa using e4
    go_enter Try.func38, Try.ntmps38
    go_wp2
    go_ret
    exact Ret.bool (by rw [same_f fun h => e4 (by rw [h])]) (bt (b1 _ _) (b1 _ _))
  have t4a : (a.far == b.far) = true := by simpa using e4
  have t4b : (a.far != b.far) = false := by simpa using e4
  have E4 := Lib.hid e4
  clear e4
  by_cases e5 : a.hidden = b.hidden
  case neg =>
    have t5a : (a.hidden == b.hidden) = false := by simpa using e5
    have t5b : (a.hidden != b.hidden) = true := by simpa using e5
    go_enter Try.func38, Try.ntmps38
    go_wp2
    go_ret
    exact Ret.bool (by rw [same_f fun h => e5 (by rw [h])]) (bt (b1 _ _) (b1 _ _))
  have t5a : (a.hidden == b.hidden) = true := by simpa using e5
  have t5b : (a.hidden != b.hidden) = false := by simpa using e5
  have E5 := Lib.hid e5
  clear e5
  by_cases e6 : a.shared = b.shared
  case neg =>
    have t6a : (a.shared == b.shared) = false := by simpa using e6
    have t6b : (a.shared != b.shared) = true := by simpa using e6
    go_enter Try.func38, Try.ntmps38
    go_wp2
    go_ret
    exact Ret.bool (by rw [same_f fun h => e6 (by rw [h])]) (bt (b1 _ _) (b1 _ _))
  have t6a : (a.shared == b.shared) = true := by simpa using e6
  have t6b : (a.shared != b.shared) = false := by simpa using e6
  have E6 := Lib.hid e6
  clear e6
  by_cases e7 : a.needs = b.needs
  case neg =>
    have t7 := same_f e7
    go_enter Try.func38, Try.ntmps38
    go_wp2_with fail
    refine (eqStringS_c _ _ _ _ _ _ _ (G7.out.below (bt (b1 _ _) (b1 _ _))) (K7.out.below (bt (b1 _ _) (b1 _ _)))).mono ?_
    rintro e w1 ⟨rfl, hb1⟩
    obtain ⟨hc1, hf1⟩ := bcell hb1
    have hz1 : w.heap.size + 1 < w1.heap.size := by have := hb1.size; simp at this; omega
    have hy1 : w.heap.size < w1.heap.size := by omega
    go_wp2
    go_ret
    exact Ret.bool (by rw [same_f fun h => e7 (by rw [h])]) (bt (bt (b1 _ _) (b1 _ _)) hb1)
  have t7 := same_t e7
  have E7 := Lib.hid e7
  clear e7
  go_enter Try.func38, Try.ntmps38
  go_wp2_with fail
  refine (eqStringS_c _ _ _ _ _ _ _ (G7.out.below (bt (b1 _ _) (b1 _ _))) (K7.out.below (bt (b1 _ _) (b1 _ _)))).mono ?_
  rintro e w1 ⟨rfl, hb1⟩
  obtain ⟨hc1, hf1⟩ := bcell hb1
  have hz1 : w.heap.size + 1 < w1.heap.size := by have := hb1.size; simp at this; omega
  have hy1 : w.heap.size < w1.heap.size := by omega
  go_wp2
  go_ret
  exact Ret.bool (by rw [same_t]; cases a; cases b; cases (show _ = _ from E0.out); cases (show _ = _ from E1.out); cases (show _ = _ from E2.out); cases (show _ = _ from E3.out); cases (show _ = _ from E4.out); cases (show _ = _ from E5.out); cases (show _ = _ from E6.out); cases (show _ = _ from E7.out); rfl) (bt (bt (b1 _ _) (b1 _ _)) hb1)
def EqFieldS (xs : List JField) : Prop := ∀ (ys : List JField) (A B : Option Addr) (c d : Nat) (w : World), Rd w (slD JField.enc 8 xs) (.slice A xs.length c) → Rd w (slD JField.enc 8 ys) (.slice B ys.length d) →
    Calls Try.prog 132 #[.slice A xs.length c, .slice B ys.length d] w (Ret w (.bool (same xs ys)))
set_option maxHeartbeats 1600000 in
set_option maxRecDepth 100000 in
theorem eqFieldS_of (xs : List JField) (hE : ∀ x, x ∈ xs → ∀ y, EqField x y) : EqFieldS xs := by
  intro ys A B c d w hx hy
  obtain ⟨_, _, _, hm0, hm1, _⟩ := Rd.slice hx
  unfold maxLen at hm1
  have hm : xs.length ≤ 9223372036854775807 := by omega
  have HX := Lib.hid hx
  have HY := Lib.hid hy
  have HE := Lib.hid hE
  clear hx hy hE hm0 hm1
  by_cases c1 : xs.length = ys.length
  · have c1b : ((xs.length : Int) != (ys.length : Int)) = false := by simp [c1]
    have c1c : (xs.length == ys.length) = true := by simp [c1]
    have C1 := Lib.hid c1
    clear c1
    go_enter Try.func132, Try.ntmps132
    go_wp2
    go_loopw [5] (fun i wr => ∃ k : Nat, k ≤ xs.length ∧ i = .int .i64 k ∧ Hid (xs.take k = ys.take k) ∧ Below w.heap.size w wr) (fun i _ => xs.length - (intOf i).toNat)
    case atStart => exact ⟨0, Nat.zero_le _, rfl, by simp [Hid], Below.refl _ _⟩
    case round =>
      obtain ⟨k, hk, rfl, HR, hbr⟩ := hrel
      by_cases hlt : k < xs.length
      · have hlt2 : k < ys.length := by have := C1.out; omega
        obtain ⟨ada, A7, c7, rfl, hx0, hx1, hx2, hx3, hx4, hx5, hx6, hx7, g7, _lsa0, _lsa1, _lna7⟩ := JField.elem (HX.out.below hbr) k hlt
        obtain ⟨adb, B7, d7, rfl, hy0, hy1, hy2, hy3, hy4, hy5, hy6, hy7, k7, _lsb0, _lsb1, _lnb7⟩ := JField.elem (HY.out.below hbr) k hlt2
        have HM := Lib.hid (HE.out xs[k] (List.getElem_mem hlt) ys[k])
        have G7 := Lib.hid g7
        have K7 := Lib.hid k7
        clear g7 k7
        have hbd : Below w.heap.size w wr.drew := hbr.drew
        have hbw : Below wr.heap.size wr wr.drew := (Below.refl _ _).drew
        by_cases c2 : xs[k] = ys[k]
        · have t2 := same_t c2
          have C2 := Lib.hid c2
          clear c2
          go_wp2_with fail
          go_still_tail 8, (by kernel_rfl)
          change wpList _ _ _ _ _ wr.drew
          go_wp2_with fail
          refine (HM.out _ _ _ (JField.close_ _ (G7.out.below hbw) _lsa0 _lsa1) (JField.close_ _ (K7.out.below hbw) _lsb0 _lsb1)).mono ?_
          rintro e w1 ⟨rfl, hb1⟩
          go_wp2
          go_roundw
          case rel => exact ⟨k + 1, by omega, by go_num, take_eq HR.out hlt hlt2 C2.out, bt hbd hb1⟩
          case measure => simp [intOf]; omega
        · have t2 := same_f c2
          go_wp2_with fail
          go_still_tail 8, (by kernel_rfl)
          change wpList _ _ _ _ _ wr.drew
          go_wp2_with fail
          refine (HM.out _ _ _ (JField.close_ _ (G7.out.below hbw) _lsa0 _lsa1) (JField.close_ _ (K7.out.below hbw) _lsb0 _lsb1)).mono ?_
          rintro e w1 ⟨rfl, hb1⟩
          go_wp2
          go_ret
          exact Ret.bool (by rw [same_f fun h => c2 (by simp only [h])]) (bt hbd hb1)
      · go_wp2
        go_ret
        exact Ret.bool (by rw [same_t]; have h1 := HR.out; have h2 := C1.out; rw [List.take_of_length_le (by omega), List.take_of_length_le (by omega)] at h1; exact h1) hbr
  · have c1b : ((xs.length : Int) != (ys.length : Int)) = true := by simpa using (show ¬ (xs.length : Int) = ys.length by omega)
    have c1c : (xs.length == ys.length) = false := by simpa using c1
    go_enter Try.func132, Try.ntmps132
    go_wp2
    go_ret
    exact Ret.bool (by rw [same_f fun h => c1 (by rw [h])]) (Below.refl _ _)
theorem eqField_c (v b : JField) : EqField v b := eqField_of v b
theorem eqFieldS_c (xs : List JField) : EqFieldS xs := eqFieldS_of xs (fun x _ y => eqField_c x y)

def EqTyp (a b : JTyp) : Prop := ∀ (ca cb : List Value) (w : World), RdL w a.enc ca → RdL w b.enc cb →
    Calls Try.prog 107 #[.agg ca.toArray, .agg cb.toArray] w (Ret w (.bool (same a b)))
set_option maxHeartbeats 3200000 in
theorem eqTyp_of (a b : JTyp) : EqTyp a b := by
  intro ca cb w ha hb
  obtain ⟨A2, c2, rfl, g2, _lsa0, _lsa1, _lna2⟩ := JTyp.open_ ha
  obtain ⟨B2, d2, rfl, k2, _lsb0, _lsb1, _lnb2⟩ := JTyp.open_ hb
  have G2 := Lib.hid g2
  have K2 := Lib.hid k2
  clear ha hb g2 k2
  by_cases e0 : a.name = b.name
  case neg =>
    have t0 := str_f e0
    go_enter Try.func107, Try.ntmps107
    go_wp2
    go_ret
    exact Ret.bool (by rw [same_f fun h => e0 (by rw [h])]) (bt (b1 _ _) (b1 _ _))
  have t0 := str_t e0
  have E0 := Lib.hid e0
  clear e0
  by_cases e1 : a.key = b.key
  case neg =>
    have t1 := str_f e1
    go_enter Try.func107, Try.ntmps107
    go_wp2
    go_ret
    exact Ret.bool (by rw [same_f fun h => e1 (by rw [h])]) (bt (b1 _ _) (b1 _ _))
  have t1 := str_t e1
  have E1 := Lib.hid e1
  clear e1
  by_cases e2 : a.fields = b.fields
  case neg =>
    have t2 := same_f e2
    go_enter Try.func107, Try.ntmps107
    go_wp2_with fail
    refine (eqFieldS_c _ _ _ _ _ _ _ (G2.out.below (bt (b1 _ _) (b1 _ _))) (K2.out.below (bt (b1 _ _) (b1 _ _)))).mono ?_
    rintro e w1 ⟨rfl, hb1⟩
    obtain ⟨hc1, hf1⟩ := bcell hb1
    have hz1 : w.heap.size + 1 < w1.heap.size := by have := hb1.size; simp at this; omega
    have hy1 : w.heap.size < w1.heap.size := by omega
    go_wp2
    go_ret
    exact Ret.bool (by rw [same_f fun h => e2 (by rw [h])]) (bt (bt (b1 _ _) (b1 _ _)) hb1)
  have t2 := same_t e2
  have E2 := Lib.hid e2
  clear e2
  go_enter Try.func107, Try.ntmps107
  go_wp2_with fail
  refine (eqFieldS_c _ _ _ _ _ _ _ (G2.out.below (bt (b1 _ _) (b1 _ _))) (K2.out.below (bt (b1 _ _) (b1 _ _)))).mono ?_
  rintro e w1 ⟨rfl, hb1⟩
  obtain ⟨hc1, hf1⟩ := bcell hb1
  have hz1 : w.heap.size + 1 < w1.heap.size := by have := hb1.size; simp at this; omega
  have hy1 : w.heap.size < w1.heap.size := by omega
  go_wp2
  go_ret
  exact Ret.bool (by rw [same_t]; cases a; cases b; cases (show _ = _ from E0.out); cases (show _ = _ from E1.out); cases (show _ = _ from E2.out); rfl) (bt (bt (b1 _ _) (b1 _ _)) hb1)
def EqTypS (xs : List JTyp) : Prop := ∀ (ys : List JTyp) (A B : Option Addr) (c d : Nat) (w : World), Rd w (slD JTyp.enc 3 xs) (.slice A xs.length c) → Rd w (slD JTyp.enc 3 ys) (.slice B ys.length d) →
    Calls Try.prog 64 #[.slice A xs.length c, .slice B ys.length d] w (Ret w (.bool (same xs ys)))
set_option maxHeartbeats 1600000 in
set_option maxRecDepth 100000 in
theorem eqTypS_of (xs : List JTyp) (hE : ∀ x, x ∈ xs → ∀ y, EqTyp x y) : EqTypS xs := by
  intro ys A B c d w hx hy
  obtain ⟨_, _, _, hm0, hm1, _⟩ := Rd.slice hx
  unfold maxLen at hm1
  have hm : xs.length ≤ 9223372036854775807 := by omega
  have HX := Lib.hid hx
  have HY := Lib.hid hy
  have HE := Lib.hid hE
  clear hx hy hE hm0 hm1
  by_cases c1 : xs.length = ys.length
  · have c1b : ((xs.length : Int) != (ys.length : Int)) = false := by simp [c1]
    have c1c : (xs.length == ys.length) = true := by simp [c1]
    have C1 := Lib.hid c1
    clear c1
    go_enter Try.func64, Try.ntmps64
    go_wp2
    go_loopw [5] (fun i wr => ∃ k : Nat, k ≤ xs.length ∧ i = .int .i64 k ∧ Hid (xs.take k = ys.take k) ∧ Below w.heap.size w wr) (fun i _ => xs.length - (intOf i).toNat)
    case atStart => exact ⟨0, Nat.zero_le _, rfl, by simp [Hid], Below.refl _ _⟩
    case round =>
      obtain ⟨k, hk, rfl, HR, hbr⟩ := hrel
      by_cases hlt : k < xs.length
      · have hlt2 : k < ys.length := by have := C1.out; omega
        obtain ⟨ada, A2, c2, rfl, hx0, hx1, hx2, g2, _lsa0, _lsa1, _lna2⟩ := JTyp.elem (HX.out.below hbr) k hlt
        obtain ⟨adb, B2, d2, rfl, hy0, hy1, hy2, k2, _lsb0, _lsb1, _lnb2⟩ := JTyp.elem (HY.out.below hbr) k hlt2
        have HM := Lib.hid (HE.out xs[k] (List.getElem_mem hlt) ys[k])
        have G2 := Lib.hid g2
        have K2 := Lib.hid k2
        clear g2 k2
        have hbd : Below w.heap.size w wr.drew := hbr.drew
        have hbw : Below wr.heap.size wr wr.drew := (Below.refl _ _).drew
        by_cases c2 : xs[k] = ys[k]
        · have t2 := same_t c2
          have C2 := Lib.hid c2
          clear c2
          go_wp2_with fail
          go_still_tail 8, (by kernel_rfl)
          change wpList _ _ _ _ _ wr.drew
          go_wp2_with fail
          refine (HM.out _ _ _ (JTyp.close_ _ (G2.out.below hbw) _lsa0 _lsa1) (JTyp.close_ _ (K2.out.below hbw) _lsb0 _lsb1)).mono ?_
          rintro e w1 ⟨rfl, hb1⟩
          go_wp2
          go_roundw
          case rel => exact ⟨k + 1, by omega, by go_num, take_eq HR.out hlt hlt2 C2.out, bt hbd hb1⟩
          case measure => simp [intOf]; omega
        · have t2 := same_f c2
          go_wp2_with fail
          go_still_tail 8, (by kernel_rfl)
          change wpList _ _ _ _ _ wr.drew
          go_wp2_with fail
          refine (HM.out _ _ _ (JTyp.close_ _ (G2.out.below hbw) _lsa0 _lsa1) (JTyp.close_ _ (K2.out.below hbw) _lsb0 _lsb1)).mono ?_
          rintro e w1 ⟨rfl, hb1⟩
          go_wp2
          go_ret
          exact Ret.bool (by rw [same_f fun h => c2 (by simp only [h])]) (bt hbd hb1)
      · go_wp2
        go_ret
        exact Ret.bool (by rw [same_t]; have h1 := HR.out; have h2 := C1.out; rw [List.take_of_length_le (by omega), List.take_of_length_le (by omega)] at h1; exact h1) hbr
  · have c1b : ((xs.length : Int) != (ys.length : Int)) = true := by simpa using (show ¬ (xs.length : Int) = ys.length by omega)
    have c1c : (xs.length == ys.length) = false := by simpa using c1
    go_enter Try.func64, Try.ntmps64
    go_wp2
    go_ret
    exact Ret.bool (by rw [same_f fun h => c1 (by rw [h])]) (Below.refl _ _)
theorem eqTyp_c (v b : JTyp) : EqTyp v b := eqTyp_of v b
theorem eqTypS_c (xs : List JTyp) : EqTypS xs := eqTypS_of xs (fun x _ y => eqTyp_c x y)

def EqPart (a b : JPart) : Prop := ∀ (ca cb : List Value) (w : World), RdL w a.enc ca → RdL w b.enc cb →
    Calls Try.prog 27 #[.agg ca.toArray, .agg cb.toArray] w (Ret w (.bool (same a b)))
set_option maxHeartbeats 3200000 in
theorem eqPart_of (a b : JPart) : EqPart a b := by
  intro ca cb w ha hb
  obtain ⟨A1, c1, rfl, g1, _lsa0, _lna1⟩ := JPart.open_ ha
  obtain ⟨B1, d1, rfl, k1, _lsb0, _lnb1⟩ := JPart.open_ hb
  have G1 := Lib.hid g1
  have K1 := Lib.hid k1
  clear ha hb g1 k1
  by_cases e0 : a.name = b.name
  case neg =>
    have t0 := str_f e0
    go_enter Try.func27, Try.ntmps27
    go_wp2
    go_ret
    exact Ret.bool (by rw [same_f fun h => e0 (by rw [h])]) (bt (b1 _ _) (b1 _ _))
  have t0 := str_t e0
  have E0 := Lib.hid e0
  clear e0
  by_cases e1 : a.types = b.types
  case neg =>
    have t1 := same_f e1
    go_enter Try.func27, Try.ntmps27
    go_wp2_with fail
    refine (eqTypS_c _ _ _ _ _ _ _ (G1.out.below (bt (b1 _ _) (b1 _ _))) (K1.out.below (bt (b1 _ _) (b1 _ _)))).mono ?_
    rintro e w1 ⟨rfl, hb1⟩
    obtain ⟨hc1, hf1⟩ := bcell hb1
    have hz1 : w.heap.size + 1 < w1.heap.size := by have := hb1.size; simp at this; omega
    have hy1 : w.heap.size < w1.heap.size := by omega
    go_wp2
    go_ret
    exact Ret.bool (by rw [same_f fun h => e1 (by rw [h])]) (bt (bt (b1 _ _) (b1 _ _)) hb1)
  have t1 := same_t e1
  have E1 := Lib.hid e1
  clear e1
  go_enter Try.func27, Try.ntmps27
  go_wp2_with fail
  refine (eqTypS_c _ _ _ _ _ _ _ (G1.out.below (bt (b1 _ _) (b1 _ _))) (K1.out.below (bt (b1 _ _) (b1 _ _)))).mono ?_
  rintro e w1 ⟨rfl, hb1⟩
  obtain ⟨hc1, hf1⟩ := bcell hb1
  have hz1 : w.heap.size + 1 < w1.heap.size := by have := hb1.size; simp at this; omega
  have hy1 : w.heap.size < w1.heap.size := by omega
  go_wp2
  go_ret
  exact Ret.bool (by rw [same_t]; cases a; cases b; cases (show _ = _ from E0.out); cases (show _ = _ from E1.out); rfl) (bt (bt (b1 _ _) (b1 _ _)) hb1)
theorem eqPart_c (v b : JPart) : EqPart v b := eqPart_of v b
def EqPartFault (a b : JPartFault) : Prop := ∀ (ca cb : List Value) (w : World), RdL w a.enc ca → RdL w b.enc cb →
    Calls Try.prog 26 #[.agg ca.toArray, .agg cb.toArray] w (Ret w (.bool (same a b)))
set_option maxHeartbeats 3200000 in
theorem eqPartFault_of (a b : JPartFault) : EqPartFault a b := by
  intro ca cb w ha hb
  obtain ⟨rfl⟩ := JPartFault.open_ ha
  obtain ⟨rfl⟩ := JPartFault.open_ hb
  clear ha hb 
  by_cases e0 : a.at_ = b.at_
  case neg =>
    have t0a : (a.at_ == b.at_) = false := by simpa using e0
    have t0b : (a.at_ != b.at_) = true := by simpa using e0
    go_enter Try.func26, Try.ntmps26
    go_wp2
    go_ret
    exact Ret.bool (by rw [same_f fun h => e0 (by rw [h])]) (bt (b1 _ _) (b1 _ _))
  have t0a : (a.at_ == b.at_) = true := by simpa using e0
  have t0b : (a.at_ != b.at_) = false := by simpa using e0
  have E0 := Lib.hid e0
  clear e0
  by_cases e1 : a.code = b.code
  case neg =>
    have t1a : (a.code == b.code) = false := by simpa using e1
    have t1b : (a.code != b.code) = true := by simpa using e1
    go_enter Try.func26, Try.ntmps26
    go_wp2
    go_ret
    exact Ret.bool (by rw [same_f fun h => e1 (by rw [h])]) (bt (b1 _ _) (b1 _ _))
  have t1a : (a.code == b.code) = true := by simpa using e1
  have t1b : (a.code != b.code) = false := by simpa using e1
  have E1 := Lib.hid e1
  clear e1
  go_enter Try.func26, Try.ntmps26
  go_wp2
  go_ret
  exact Ret.bool (by rw [same_t]; cases a; cases b; cases (show _ = _ from E0.out); cases (show _ = _ from E1.out); rfl) (bt (b1 _ _) (b1 _ _))
theorem eqPartFault_c (v b : JPartFault) : EqPartFault v b := eqPartFault_of v b
def EqOwner (a b : JOwner) : Prop := ∀ (ca cb : List Value) (w : World), RdL w a.enc ca → RdL w b.enc cb →
    Calls Try.prog 84 #[.agg ca.toArray, .agg cb.toArray] w (Ret w (.bool (same a b)))
set_option maxHeartbeats 3200000 in
theorem eqOwner_of (a b : JOwner) : EqOwner a b := by
  intro ca cb w ha hb
  obtain ⟨A2, c2, rfl, g2, _lsa0, _lsa1, _lna2⟩ := JOwner.open_ ha
  obtain ⟨B2, d2, rfl, k2, _lsb0, _lsb1, _lnb2⟩ := JOwner.open_ hb
  have G2 := Lib.hid g2
  have K2 := Lib.hid k2
  clear ha hb g2 k2
  by_cases e0 : a.typ = b.typ
  case neg =>
    have t0 := str_f e0
    go_enter Try.func84, Try.ntmps84
    go_wp2
    go_ret
    exact Ret.bool (by rw [same_f fun h => e0 (by rw [h])]) (bt (b1 _ _) (b1 _ _))
  have t0 := str_t e0
  have E0 := Lib.hid e0
  clear e0
  by_cases e1 : a.field = b.field
  case neg =>
    have t1 := str_f e1
    go_enter Try.func84, Try.ntmps84
    go_wp2
    go_ret
    exact Ret.bool (by rw [same_f fun h => e1 (by rw [h])]) (bt (b1 _ _) (b1 _ _))
  have t1 := str_t e1
  have E1 := Lib.hid e1
  clear e1
  by_cases e2 : a.parts = b.parts
  case neg =>
    have t2 := same_f e2
    go_enter Try.func84, Try.ntmps84
    go_wp2_with fail
    refine (eqIntS_c _ _ _ _ _ _ _ (G2.out.below (bt (b1 _ _) (b1 _ _))) (K2.out.below (bt (b1 _ _) (b1 _ _)))).mono ?_
    rintro e w1 ⟨rfl, hb1⟩
    obtain ⟨hc1, hf1⟩ := bcell hb1
    have hz1 : w.heap.size + 1 < w1.heap.size := by have := hb1.size; simp at this; omega
    have hy1 : w.heap.size < w1.heap.size := by omega
    go_wp2
    go_ret
    exact Ret.bool (by rw [same_f fun h => e2 (by rw [h])]) (bt (bt (b1 _ _) (b1 _ _)) hb1)
  have t2 := same_t e2
  have E2 := Lib.hid e2
  clear e2
  go_enter Try.func84, Try.ntmps84
  go_wp2_with fail
  refine (eqIntS_c _ _ _ _ _ _ _ (G2.out.below (bt (b1 _ _) (b1 _ _))) (K2.out.below (bt (b1 _ _) (b1 _ _)))).mono ?_
  rintro e w1 ⟨rfl, hb1⟩
  obtain ⟨hc1, hf1⟩ := bcell hb1
  have hz1 : w.heap.size + 1 < w1.heap.size := by have := hb1.size; simp at this; omega
  have hy1 : w.heap.size < w1.heap.size := by omega
  go_wp2
  go_ret
  exact Ret.bool (by rw [same_t]; cases a; cases b; cases (show _ = _ from E0.out); cases (show _ = _ from E1.out); cases (show _ = _ from E2.out); rfl) (bt (bt (b1 _ _) (b1 _ _)) hb1)
def EqOwnerS (xs : List JOwner) : Prop := ∀ (ys : List JOwner) (A B : Option Addr) (c d : Nat) (w : World), Rd w (slD JOwner.enc 3 xs) (.slice A xs.length c) → Rd w (slD JOwner.enc 3 ys) (.slice B ys.length d) →
    Calls Try.prog 54 #[.slice A xs.length c, .slice B ys.length d] w (Ret w (.bool (same xs ys)))
set_option maxHeartbeats 1600000 in
set_option maxRecDepth 100000 in
theorem eqOwnerS_of (xs : List JOwner) (hE : ∀ x, x ∈ xs → ∀ y, EqOwner x y) : EqOwnerS xs := by
  intro ys A B c d w hx hy
  obtain ⟨_, _, _, hm0, hm1, _⟩ := Rd.slice hx
  unfold maxLen at hm1
  have hm : xs.length ≤ 9223372036854775807 := by omega
  have HX := Lib.hid hx
  have HY := Lib.hid hy
  have HE := Lib.hid hE
  clear hx hy hE hm0 hm1
  by_cases c1 : xs.length = ys.length
  · have c1b : ((xs.length : Int) != (ys.length : Int)) = false := by simp [c1]
    have c1c : (xs.length == ys.length) = true := by simp [c1]
    have C1 := Lib.hid c1
    clear c1
    go_enter Try.func54, Try.ntmps54
    go_wp2
    go_loopw [5] (fun i wr => ∃ k : Nat, k ≤ xs.length ∧ i = .int .i64 k ∧ Hid (xs.take k = ys.take k) ∧ Below w.heap.size w wr) (fun i _ => xs.length - (intOf i).toNat)
    case atStart => exact ⟨0, Nat.zero_le _, rfl, by simp [Hid], Below.refl _ _⟩
    case round =>
      obtain ⟨k, hk, rfl, HR, hbr⟩ := hrel
      by_cases hlt : k < xs.length
      · have hlt2 : k < ys.length := by have := C1.out; omega
        obtain ⟨ada, A2, c2, rfl, hx0, hx1, hx2, g2, _lsa0, _lsa1, _lna2⟩ := JOwner.elem (HX.out.below hbr) k hlt
        obtain ⟨adb, B2, d2, rfl, hy0, hy1, hy2, k2, _lsb0, _lsb1, _lnb2⟩ := JOwner.elem (HY.out.below hbr) k hlt2
        have HM := Lib.hid (HE.out xs[k] (List.getElem_mem hlt) ys[k])
        have G2 := Lib.hid g2
        have K2 := Lib.hid k2
        clear g2 k2
        have hbd : Below w.heap.size w wr.drew := hbr.drew
        have hbw : Below wr.heap.size wr wr.drew := (Below.refl _ _).drew
        by_cases c2 : xs[k] = ys[k]
        · have t2 := same_t c2
          have C2 := Lib.hid c2
          clear c2
          go_wp2_with fail
          go_still_tail 8, (by kernel_rfl)
          change wpList _ _ _ _ _ wr.drew
          go_wp2_with fail
          refine (HM.out _ _ _ (JOwner.close_ _ (G2.out.below hbw) _lsa0 _lsa1) (JOwner.close_ _ (K2.out.below hbw) _lsb0 _lsb1)).mono ?_
          rintro e w1 ⟨rfl, hb1⟩
          go_wp2
          go_roundw
          case rel => exact ⟨k + 1, by omega, by go_num, take_eq HR.out hlt hlt2 C2.out, bt hbd hb1⟩
          case measure => simp [intOf]; omega
        · have t2 := same_f c2
          go_wp2_with fail
          go_still_tail 8, (by kernel_rfl)
          change wpList _ _ _ _ _ wr.drew
          go_wp2_with fail
          refine (HM.out _ _ _ (JOwner.close_ _ (G2.out.below hbw) _lsa0 _lsa1) (JOwner.close_ _ (K2.out.below hbw) _lsb0 _lsb1)).mono ?_
          rintro e w1 ⟨rfl, hb1⟩
          go_wp2
          go_ret
          exact Ret.bool (by rw [same_f fun h => c2 (by simp only [h])]) (bt hbd hb1)
      · go_wp2
        go_ret
        exact Ret.bool (by rw [same_t]; have h1 := HR.out; have h2 := C1.out; rw [List.take_of_length_le (by omega), List.take_of_length_le (by omega)] at h1; exact h1) hbr
  · have c1b : ((xs.length : Int) != (ys.length : Int)) = true := by simpa using (show ¬ (xs.length : Int) = ys.length by omega)
    have c1c : (xs.length == ys.length) = false := by simpa using c1
    go_enter Try.func54, Try.ntmps54
    go_wp2
    go_ret
    exact Ret.bool (by rw [same_f fun h => c1 (by rw [h])]) (Below.refl _ _)
theorem eqOwner_c (v b : JOwner) : EqOwner v b := eqOwner_of v b
theorem eqOwnerS_c (xs : List JOwner) : EqOwnerS xs := eqOwnerS_of xs (fun x _ y => eqOwner_c x y)

def EqChart (a b : JChart) : Prop := ∀ (ca cb : List Value) (w : World), RdL w a.enc ca → RdL w b.enc cb →
    Calls Try.prog 18 #[.agg ca.toArray, .agg cb.toArray] w (Ret w (.bool (same a b)))
set_option maxHeartbeats 3200000 in
theorem eqChart_of (a b : JChart) : EqChart a b := by
  intro ca cb w ha hb
  obtain ⟨A1, c1, A2, c2, rfl, g1, g2, _lsa0, _lna1, _lna2⟩ := JChart.open_ ha
  obtain ⟨B1, d1, B2, d2, rfl, k1, k2, _lsb0, _lnb1, _lnb2⟩ := JChart.open_ hb
  have G1 := Lib.hid g1
  have K1 := Lib.hid k1
  have G2 := Lib.hid g2
  have K2 := Lib.hid k2
  clear ha hb g1 k1 g2 k2
  by_cases e0 : a.all = b.all
  case neg =>
    have t0 := same_f e0
    go_enter Try.func18, Try.ntmps18
    go_wp2_with fail
    refine (eqPart_c _ _ _ _ _ (JPart.close_ _ (G1.out.below (bt (b1 _ _) (b1 _ _))) _lsa0) (JPart.close_ _ (K1.out.below (bt (b1 _ _) (b1 _ _))) _lsb0)).mono ?_
    rintro e w1 ⟨rfl, hb1⟩
    obtain ⟨hc1, hf1⟩ := bcell hb1
    have hz1 : w.heap.size + 1 < w1.heap.size := by have := hb1.size; simp at this; omega
    have hy1 : w.heap.size < w1.heap.size := by omega
    go_wp2
    go_ret
    exact Ret.bool (by rw [same_f fun h => e0 (by rw [h])]) (bt (bt (b1 _ _) (b1 _ _)) hb1)
  have t0 := same_t e0
  have E0 := Lib.hid e0
  clear e0
  by_cases e1 : a.owners = b.owners
  case neg =>
    have t1 := same_f e1
    go_enter Try.func18, Try.ntmps18
    go_wp2_with fail
    refine (eqPart_c _ _ _ _ _ (JPart.close_ _ (G1.out.below (bt (b1 _ _) (b1 _ _))) _lsa0) (JPart.close_ _ (K1.out.below (bt (b1 _ _) (b1 _ _))) _lsb0)).mono ?_
    rintro e w1 ⟨rfl, hb1⟩
    obtain ⟨hc1, hf1⟩ := bcell hb1
    have hz1 : w.heap.size + 1 < w1.heap.size := by have := hb1.size; simp at this; omega
    have hy1 : w.heap.size < w1.heap.size := by omega
    go_wp2_with fail
    refine (eqOwnerS_c _ _ _ _ _ _ _ (G2.out.below (bt (bt (b1 _ _) (b1 _ _)) hb1)) (K2.out.below (bt (bt (b1 _ _) (b1 _ _)) hb1))).mono ?_
    rintro e w2 ⟨rfl, hb2⟩
    obtain ⟨hc2, hf2⟩ := bcell hb2
    have hz2 : w.heap.size + 1 < w2.heap.size := by have := hb2.size; omega
    have hy2 : w.heap.size < w2.heap.size := by omega
    go_wp2
    go_ret
    exact Ret.bool (by rw [same_f fun h => e1 (by rw [h])]) (bt (bt (bt (b1 _ _) (b1 _ _)) hb1) hb2)
  have t1 := same_t e1
  have E1 := Lib.hid e1
  clear e1
  go_enter Try.func18, Try.ntmps18
  go_wp2_with fail
  refine (eqPart_c _ _ _ _ _ (JPart.close_ _ (G1.out.below (bt (b1 _ _) (b1 _ _))) _lsa0) (JPart.close_ _ (K1.out.below (bt (b1 _ _) (b1 _ _))) _lsb0)).mono ?_
  rintro e w1 ⟨rfl, hb1⟩
  obtain ⟨hc1, hf1⟩ := bcell hb1
  have hz1 : w.heap.size + 1 < w1.heap.size := by have := hb1.size; simp at this; omega
  have hy1 : w.heap.size < w1.heap.size := by omega
  go_wp2_with fail
  refine (eqOwnerS_c _ _ _ _ _ _ _ (G2.out.below (bt (bt (b1 _ _) (b1 _ _)) hb1)) (K2.out.below (bt (bt (b1 _ _) (b1 _ _)) hb1))).mono ?_
  rintro e w2 ⟨rfl, hb2⟩
  obtain ⟨hc2, hf2⟩ := bcell hb2
  have hz2 : w.heap.size + 1 < w2.heap.size := by have := hb2.size; omega
  have hy2 : w.heap.size < w2.heap.size := by omega
  go_wp2
  go_ret
  exact Ret.bool (by rw [same_t]; cases a; cases b; cases (show _ = _ from E0.out); cases (show _ = _ from E1.out); rfl) (bt (bt (bt (b1 _ _) (b1 _ _)) hb1) hb2)
theorem eqChart_c (a b : JChart) : EqChart a b := eqChart_of a b
end Go.Proofs.Ytmkagpmdindlpaa.Lib
