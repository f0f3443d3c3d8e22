/- Contracts of the laws' equality functions: true just if the two values are the same. Printed by geq.py. No condition. -/
import Derived.Test.YtegabeefggcelaaProg
import Derived.Test.YtegabeefggcelaaBulk
import Derived.Deep.QuietTactic
import Derived.BigQuiet
import Derived.StillTailTactics
set_option linter.unusedVariables false
set_option linter.unusedSimpArgs false
namespace Go.Proofs.Ytegabeefggcelaa.Lib
open Go.RowKit

def EqStringS : Prop := ∀ (xs ys : List ByteArray) (A B : Option Addr) (c d : Nat) (w : World), Rd w (slD strD 1 xs) (.slice A xs.length c) → Rd w (slD strD 1 ys) (.slice B ys.length d) →
    Calls Try.prog 39 #[.slice A xs.length c, .slice B ys.length d] w (Ret w (.bool (same xs ys)))
set_option maxHeartbeats 800000 in
theorem eqStringS_c : EqStringS := by
  intro xs ys A B c d w hx hy
  obtain ⟨_, _, _, hm0, hm1, _⟩ := Rd.slice hx
  unfold maxLen at hm1
  have hm : xs.length ≤ 9223372036854775807 := by omega
  have HX := Lib.hid hx
  have HY := Lib.hid hy
  clear hx hy hm0 hm1
  by_cases c1 : xs.length = ys.length
  · have c1b : ((xs.length : Int) != (ys.length : Int)) = false := by simp [c1]
    have c1c : (xs.length == ys.length) = true := by simp [c1]
    have C1 := Lib.hid c1
    clear c1
    go_enter Try.func39, Try.ntmps39
    go_wp2
    go_loopw [5] (fun i wr => ∃ k : Nat, k ≤ xs.length ∧ i = .int .i64 k ∧ Hid (xs.take k = ys.take k) ∧ Below w.heap.size w wr) (fun i _ => xs.length - (intOf i).toNat)
    case atStart => exact ⟨0, Nat.zero_le _, rfl, by simp [Hid], Below.refl _ _⟩
    case round =>
      obtain ⟨k, hk, rfl, HR, hb⟩ := hrel
      by_cases hlt : k < xs.length
      · have hlt2 : k < ys.length := by have := C1.out; omega
        obtain ⟨ad, rfl, hc, _⟩ := Rd.elem_str (HX.out.below hb) k hlt
        obtain ⟨ad2, rfl, hc2, _⟩ := Rd.elem_str (HY.out.below hb) k hlt2
        by_cases c2 : xs[k] = ys[k]
        · have cc := str_t c2
          have C2 := Lib.hid c2
          clear c2
          go_wp2
          go_quiet (fail)
          go_wp2
          go_roundw
          case rel => exact ⟨k + 1, by omega, by go_num, take_eq HR.out hlt hlt2 C2.out, drewN_below hb _⟩
          case measure => simp [intOf]; omega
        · have cc := str_f c2
          go_wp2
          go_quiet (fail)
          go_wp2
          go_ret
          exact Ret.bool (by rw [same_f fun h => c2 (by simp only [h])]) (drewN_below hb _)
      · go_wp2
        go_ret
        exact Ret.bool (by rw [same_t]; have h1 := HR.out; have h2 := C1.out; rw [List.take_of_length_le (by omega), List.take_of_length_le (by omega)] at h1; exact h1) hb
  · have c1b : ((xs.length : Int) != (ys.length : Int)) = true := by simpa using (show ¬ (xs.length : Int) = ys.length by omega)
    have c1c : (xs.length == ys.length) = false := by simpa using c1
    go_enter Try.func39, Try.ntmps39
    go_wp2
    go_ret
    exact Ret.bool (by rw [same_f fun h => c1 (by rw [h])]) (Below.refl _ _)

def EqIntS : Prop := ∀ (xs ys : List Int) (A B : Option Addr) (c d : Nat) (w : World), Rd w (slD intD 1 xs) (.slice A xs.length c) → Rd w (slD intD 1 ys) (.slice B ys.length d) →
    Calls Try.prog 20 #[.slice A xs.length c, .slice B ys.length d] w (Ret w (.bool (same xs ys)))
set_option maxHeartbeats 800000 in
theorem eqIntS_c : EqIntS := by
  intro xs ys A B c d w hx hy
  obtain ⟨_, _, _, hm0, hm1, _⟩ := Rd.slice hx
  unfold maxLen at hm1
  have hm : xs.length ≤ 9223372036854775807 := by omega
  have HX := Lib.hid hx
  have HY := Lib.hid hy
  clear hx hy hm0 hm1
  by_cases c1 : xs.length = ys.length
  · have c1b : ((xs.length : Int) != (ys.length : Int)) = false := by simp [c1]
    have c1c : (xs.length == ys.length) = true := by simp [c1]
    have C1 := Lib.hid c1
    clear c1
    go_enter Try.func20, Try.ntmps20
    go_wp2
    go_loopw [5] (fun i wr => ∃ k : Nat, k ≤ xs.length ∧ i = .int .i64 k ∧ Hid (xs.take k = ys.take k) ∧ Below w.heap.size w wr) (fun i _ => xs.length - (intOf i).toNat)
    case atStart => exact ⟨0, Nat.zero_le _, rfl, by simp [Hid], Below.refl _ _⟩
    case round =>
      obtain ⟨k, hk, rfl, HR, hb⟩ := hrel
      by_cases hlt : k < xs.length
      · have hlt2 : k < ys.length := by have := C1.out; omega
        obtain ⟨ad, rfl, hc⟩ := Rd.elem_int (HX.out.below hb) k hlt
        obtain ⟨ad2, rfl, hc2⟩ := Rd.elem_int (HY.out.below hb) k hlt2
        by_cases c2 : xs[k] = ys[k]
        · have cca : (xs[k] == ys[k]) = true := by simpa using c2
          have ccb : (xs[k] != ys[k]) = false := by simpa using c2
          have C2 := Lib.hid c2
          clear c2
          go_wp2
          go_quiet (fail)
          go_wp2
          go_roundw
          case rel => exact ⟨k + 1, by omega, by go_num, take_eq HR.out hlt hlt2 C2.out, drewN_below hb _⟩
          case measure => simp [intOf]; omega
        · have cca : (xs[k] == ys[k]) = false := by simpa using c2
          have ccb : (xs[k] != ys[k]) = true := by simpa using c2
          go_wp2
          go_quiet (fail)
          go_wp2
          go_ret
          exact Ret.bool (by rw [same_f fun h => c2 (by simp only [h])]) (drewN_below hb _)
      · go_wp2
        go_ret
        exact Ret.bool (by rw [same_t]; have h1 := HR.out; have h2 := C1.out; rw [List.take_of_length_le (by omega), List.take_of_length_le (by omega)] at h1; exact h1) hb
  · have c1b : ((xs.length : Int) != (ys.length : Int)) = true := by simpa using (show ¬ (xs.length : Int) = ys.length by omega)
    have c1c : (xs.length == ys.length) = false := by simpa using c1
    go_enter Try.func20, Try.ntmps20
    go_wp2
    go_ret
    exact Ret.bool (by rw [same_f fun h => c1 (by rw [h])]) (Below.refl _ _)

def EqValue (a b : JValue) : Prop := ∀ (ca cb : List Value) (w : World), RdL w a.enc ca → RdL w b.enc cb →
    Calls Try.prog 12 #[.agg ca.toArray, .agg cb.toArray] w (Ret w (.bool (same a b)))
set_option maxHeartbeats 3200000 in
theorem eqValue_of (a b : JValue) (hK : ∀ ys A B c d w, Rd w (slD JValue.enc 5 a.kids) (.slice A a.kids.length c) → Rd w (slD JValue.enc 5 ys) (.slice B ys.length d) → Calls Try.prog 40 #[.slice A a.kids.length c, .slice B ys.length d] w (Ret w (.bool (same a.kids ys)))) : EqValue a b := by
  intro ca cb w ha hb
  obtain ⟨A3, c3, A4, c4, rfl, g3, g4, _lsa2, _lna3, _lna4⟩ := JValue.open_ ha
  obtain ⟨B3, d3, B4, d4, rfl, k3, k4, _lsb2, _lnb3, _lnb4⟩ := JValue.open_ hb
  have G3 := Lib.hid g3
  have K3 := Lib.hid k3
  have G4 := Lib.hid g4
  have K4 := Lib.hid k4
  have HK := Lib.hid hK
  clear hK
  clear ha hb g3 k3 g4 k4
  by_cases e0 : a.sort = b.sort
  case neg =>
    have t0a : (a.sort == b.sort) = false := by simpa using e0
    have t0b : (a.sort != b.sort) = true := by simpa using e0
    go_enter Try.func12, Try.ntmps12
    go_wp2
    go_ret
    exact Ret.bool (by rw [same_f fun h => e0 (by rw [h])]) (bt (b1 _ _) (b1 _ _))
  have t0a : (a.sort == b.sort) = true := by simpa using e0
  have t0b : (a.sort != b.sort) = false := by simpa using e0
  have E0 := Lib.hid e0
  clear e0
  by_cases e1 : a.num = b.num
  case neg =>
    have t1a : (a.num == b.num) = false := by simpa using e1
    have t1b : (a.num != b.num) = true := by simpa using e1
    go_enter Try.func12, Try.ntmps12
    go_wp2
    go_ret
    exact Ret.bool (by rw [same_f fun h => e1 (by rw [h])]) (bt (b1 _ _) (b1 _ _))
  have t1a : (a.num == b.num) = true := by simpa using e1
  have t1b : (a.num != b.num) = false := by simpa using e1
  have E1 := Lib.hid e1
  clear e1
  by_cases e2 : a.text = b.text
  case neg =>
    have t2 := str_f e2
    go_enter Try.func12, Try.ntmps12
    go_wp2
    go_ret
    exact Ret.bool (by rw [same_f fun h => e2 (by rw [h])]) (bt (b1 _ _) (b1 _ _))
  have t2 := str_t e2
  have E2 := Lib.hid e2
  clear e2
  by_cases e3 : a.names = b.names
  case neg =>
    have t3 := same_f e3
    go_enter Try.func12, Try.ntmps12
    go_wp2_with fail
    refine (eqStringS_c _ _ _ _ _ _ _ (G3.out.below (bt (b1 _ _) (b1 _ _))) (K3.out.below (bt (b1 _ _) (b1 _ _)))).mono ?_
    rintro e w1 ⟨rfl, hb1⟩
    obtain ⟨hc1, hf1⟩ := bcell hb1
    have hz1 : w.heap.size + 1 < w1.heap.size := by have := hb1.size; simp at this; omega
    have hy1 : w.heap.size < w1.heap.size := by omega
    go_wp2
    go_ret
    exact Ret.bool (by rw [same_f fun h => e3 (by rw [h])]) (bt (bt (b1 _ _) (b1 _ _)) hb1)
  have t3 := same_t e3
  have E3 := Lib.hid e3
  clear e3
  by_cases e4 : a.kids = b.kids
  case neg =>
    have t4 := same_f e4
    go_enter Try.func12, Try.ntmps12
    go_wp2_with fail
    refine (eqStringS_c _ _ _ _ _ _ _ (G3.out.below (bt (b1 _ _) (b1 _ _))) (K3.out.below (bt (b1 _ _) (b1 _ _)))).mono ?_
    rintro e w1 ⟨rfl, hb1⟩
    obtain ⟨hc1, hf1⟩ := bcell hb1
    have hz1 : w.heap.size + 1 < w1.heap.size := by have := hb1.size; simp at this; omega
    have hy1 : w.heap.size < w1.heap.size := by omega
    go_wp2_with fail
    refine (HK.out _ _ _ _ _ _ (G4.out.below (bt (bt (b1 _ _) (b1 _ _)) hb1)) (K4.out.below (bt (bt (b1 _ _) (b1 _ _)) hb1))).mono ?_
    rintro e w2 ⟨rfl, hb2⟩
    obtain ⟨hc2, hf2⟩ := bcell hb2
    have hz2 : w.heap.size + 1 < w2.heap.size := by have := hb2.size; omega
    have hy2 : w.heap.size < w2.heap.size := by omega
    go_wp2
    go_ret
    exact Ret.bool (by rw [same_f fun h => e4 (by rw [h])]) (bt (bt (bt (b1 _ _) (b1 _ _)) hb1) hb2)
  have t4 := same_t e4
  have E4 := Lib.hid e4
  clear e4
  go_enter Try.func12, Try.ntmps12
  go_wp2_with fail
  refine (eqStringS_c _ _ _ _ _ _ _ (G3.out.below (bt (b1 _ _) (b1 _ _))) (K3.out.below (bt (b1 _ _) (b1 _ _)))).mono ?_
  rintro e w1 ⟨rfl, hb1⟩
  obtain ⟨hc1, hf1⟩ := bcell hb1
  have hz1 : w.heap.size + 1 < w1.heap.size := by have := hb1.size; simp at this; omega
  have hy1 : w.heap.size < w1.heap.size := by omega
  go_wp2_with fail
  refine (HK.out _ _ _ _ _ _ (G4.out.below (bt (bt (b1 _ _) (b1 _ _)) hb1)) (K4.out.below (bt (bt (b1 _ _) (b1 _ _)) hb1))).mono ?_
  rintro e w2 ⟨rfl, hb2⟩
  obtain ⟨hc2, hf2⟩ := bcell hb2
  have hz2 : w.heap.size + 1 < w2.heap.size := by have := hb2.size; omega
  have hy2 : w.heap.size < w2.heap.size := by omega
  go_wp2
  go_ret
  exact Ret.bool (by rw [same_t]; cases a; cases b; cases (show _ = _ from E0.out); cases (show _ = _ from E1.out); cases (show _ = _ from E2.out); cases (show _ = _ from E3.out); cases (show _ = _ from E4.out); rfl) (bt (bt (bt (b1 _ _) (b1 _ _)) hb1) hb2)
def EqValueS (xs : List JValue) : Prop := ∀ (ys : List JValue) (A B : Option Addr) (c d : Nat) (w : World), Rd w (slD JValue.enc 5 xs) (.slice A xs.length c) → Rd w (slD JValue.enc 5 ys) (.slice B ys.length d) →
    Calls Try.prog 40 #[.slice A xs.length c, .slice B ys.length d] w (Ret w (.bool (same xs ys)))
set_option maxHeartbeats 1600000 in
set_option maxRecDepth 100000 in
theorem eqValueS_of (xs : List JValue) (hE : ∀ x, x ∈ xs → ∀ y, EqValue x y) : EqValueS xs := by
  intro ys A B c d w hx hy
  obtain ⟨_, _, _, hm0, hm1, _⟩ := Rd.slice hx
  unfold maxLen at hm1
  have hm : xs.length ≤ 9223372036854775807 := by omega
  have HX := Lib.hid hx
  have HY := Lib.hid hy
  have HE := Lib.hid hE
  clear hx hy hE hm0 hm1
  by_cases c1 : xs.length = ys.length
  · have c1b : ((xs.length : Int) != (ys.length : Int)) = false := by simp [c1]
    have c1c : (xs.length == ys.length) = true := by simp [c1]
    have C1 := Lib.hid c1
    clear c1
    go_enter Try.func40, Try.ntmps40
    go_wp2
    go_loopw [5] (fun i wr => ∃ k : Nat, k ≤ xs.length ∧ i = .int .i64 k ∧ Hid (xs.take k = ys.take k) ∧ Below w.heap.size w wr) (fun i _ => xs.length - (intOf i).toNat)
    case atStart => exact ⟨0, Nat.zero_le _, rfl, by simp [Hid], Below.refl _ _⟩
    case round =>
      obtain ⟨k, hk, rfl, HR, hbr⟩ := hrel
      by_cases hlt : k < xs.length
      · have hlt2 : k < ys.length := by have := C1.out; omega
        obtain ⟨ada, A3, c3, A4, c4, rfl, hx0, hx1, hx2, hx3, hx4, g3, g4, _lsa2, _lna3, _lna4⟩ := JValue.elem (HX.out.below hbr) k hlt
        obtain ⟨adb, B3, d3, B4, d4, rfl, hy0, hy1, hy2, hy3, hy4, k3, k4, _lsb2, _lnb3, _lnb4⟩ := JValue.elem (HY.out.below hbr) k hlt2
        have HM := Lib.hid (HE.out xs[k] (List.getElem_mem hlt) ys[k])
        have G3 := Lib.hid g3
        have K3 := Lib.hid k3
        clear g3 k3
        have G4 := Lib.hid g4
        have K4 := Lib.hid k4
        clear g4 k4
        have hbd : Below w.heap.size w wr.drew := hbr.drew
        have hbw : Below wr.heap.size wr wr.drew := (Below.refl _ _).drew
        by_cases c2 : xs[k] = ys[k]
        · have t2 := same_t c2
          have C2 := Lib.hid c2
          clear c2
          go_wp2_with fail
          go_still_tail 8, (by kernel_rfl)
          change wpList _ _ _ _ _ wr.drew
          go_wp2_with fail
          refine (HM.out _ _ _ (JValue.close_ _ (G3.out.below hbw) (G4.out.below hbw) _lsa2) (JValue.close_ _ (K3.out.below hbw) (K4.out.below hbw) _lsb2)).mono ?_
          rintro e w1 ⟨rfl, hb1⟩
          go_wp2
          go_roundw
          case rel => exact ⟨k + 1, by omega, by go_num, take_eq HR.out hlt hlt2 C2.out, bt hbd hb1⟩
          case measure => simp [intOf]; omega
        · have t2 := same_f c2
          go_wp2_with fail
          go_still_tail 8, (by kernel_rfl)
          change wpList _ _ _ _ _ wr.drew
          go_wp2_with fail
          refine (HM.out _ _ _ (JValue.close_ _ (G3.out.below hbw) (G4.out.below hbw) _lsa2) (JValue.close_ _ (K3.out.below hbw) (K4.out.below hbw) _lsb2)).mono ?_
          rintro e w1 ⟨rfl, hb1⟩
          go_wp2
          go_ret
          exact Ret.bool (by rw [same_f fun h => c2 (by simp only [h])]) (bt hbd hb1)
      · go_wp2
        go_ret
        exact Ret.bool (by rw [same_t]; have h1 := HR.out; have h2 := C1.out; rw [List.take_of_length_le (by omega), List.take_of_length_le (by omega)] at h1; exact h1) hbr
  · have c1b : ((xs.length : Int) != (ys.length : Int)) = true := by simpa using (show ¬ (xs.length : Int) = ys.length by omega)
    have c1c : (xs.length == ys.length) = false := by simpa using c1
    go_enter Try.func40, Try.ntmps40
    go_wp2
    go_ret
    exact Ret.bool (by rw [same_f fun h => c1 (by rw [h])]) (Below.refl _ _)
theorem eqValue_both : ∀ n, (∀ v b : JValue, SizeOf.sizeOf v < n → EqValue v b) ∧ (∀ xs : List JValue, SizeOf.sizeOf xs < n → EqValueS xs)
  | 0 => ⟨fun _ _ h => absurd h (by omega), fun _ h => absurd h (by omega)⟩
  | n + 1 => by
    have ih := eqValue_both n
    refine ⟨fun v b h => eqValue_of v b (ih.2 _ (by have := JValue.kids_lt v; omega)), fun xs h => eqValueS_of xs (fun x hx y => ih.1 x y (by have := List.sizeOf_lt_of_mem hx; omega))⟩
theorem eqValue_c (v b : JValue) : EqValue v b := (eqValue_both _).1 v b (Nat.lt_succ_self _)
theorem eqValueS_c (xs : List JValue) : EqValueS xs := (eqValue_both _).2 xs (Nat.lt_succ_self _)

def EqCell (a b : JCell) : Prop := ∀ (ca cb : List Value) (w : World), RdL w a.enc ca → RdL w b.enc cb →
    Calls Try.prog 95 #[.agg ca.toArray, .agg cb.toArray] w (Ret w (.bool (same a b)))
set_option maxHeartbeats 3200000 in
theorem eqCell_of (a b : JCell) : EqCell a b := by
  intro ca cb w ha hb
  obtain ⟨A4, c4, A5, c5, rfl, g4, g5, _lsa0, _lsa3, _lna4, _lna5⟩ := JCell.open_ ha
  obtain ⟨B4, d4, B5, d5, rfl, k4, k5, _lsb0, _lsb3, _lnb4, _lnb5⟩ := JCell.open_ hb
  have G4 := Lib.hid g4
  have K4 := Lib.hid k4
  have G5 := Lib.hid g5
  have K5 := Lib.hid k5
  clear ha hb g4 k4 g5 k5
  by_cases e0 : a.name = b.name
  case neg =>
    have t0 := str_f e0
    go_enter Try.func95, Try.ntmps95
    go_wp2
    go_ret
    exact Ret.bool (by rw [same_f fun h => e0 (by rw [h])]) (bt (b1 _ _) (b1 _ _))
  have t0 := str_t e0
  have E0 := Lib.hid e0
  clear e0
  by_cases e1 : a.value = b.value
  case neg =>
    have t1 := same_f e1
    go_enter Try.func95, Try.ntmps95
    go_wp2_with fail
    refine (eqValue_c _ _ _ _ _ (JValue.close_ _ (G4.out.below (bt (b1 _ _) (b1 _ _))) (G5.out.below (bt (b1 _ _) (b1 _ _))) _lsa3) (JValue.close_ _ (K4.out.below (bt (b1 _ _) (b1 _ _))) (K5.out.below (bt (b1 _ _) (b1 _ _))) _lsb3)).mono ?_
    rintro e w1 ⟨rfl, hb1⟩
    obtain ⟨hc1, hf1⟩ := bcell hb1
    have hz1 : w.heap.size + 1 < w1.heap.size := by have := hb1.size; simp at this; omega
    have hy1 : w.heap.size < w1.heap.size := by omega
    go_wp2
    go_ret
    exact Ret.bool (by rw [same_f fun h => e1 (by rw [h])]) (bt (bt (b1 _ _) (b1 _ _)) hb1)
  have t1 := same_t e1
  have E1 := Lib.hid e1
  clear e1
  go_enter Try.func95, Try.ntmps95
  go_wp2_with fail
  refine (eqValue_c _ _ _ _ _ (JValue.close_ _ (G4.out.below (bt (b1 _ _) (b1 _ _))) (G5.out.below (bt (b1 _ _) (b1 _ _))) _lsa3) (JValue.close_ _ (K4.out.below (bt (b1 _ _) (b1 _ _))) (K5.out.below (bt (b1 _ _) (b1 _ _))) _lsb3)).mono ?_
  rintro e w1 ⟨rfl, hb1⟩
  obtain ⟨hc1, hf1⟩ := bcell hb1
  have hz1 : w.heap.size + 1 < w1.heap.size := by have := hb1.size; simp at this; omega
  have hy1 : w.heap.size < w1.heap.size := by omega
  go_wp2
  go_ret
  exact Ret.bool (by rw [same_t]; cases a; cases b; cases (show _ = _ from E0.out); cases (show _ = _ from E1.out); rfl) (bt (bt (b1 _ _) (b1 _ _)) hb1)
def EqCellS (xs : List JCell) : Prop := ∀ (ys : List JCell) (A B : Option Addr) (c d : Nat) (w : World), Rd w (slD JCell.enc 6 xs) (.slice A xs.length c) → Rd w (slD JCell.enc 6 ys) (.slice B ys.length d) →
    Calls Try.prog 79 #[.slice A xs.length c, .slice B ys.length d] w (Ret w (.bool (same xs ys)))
set_option maxHeartbeats 1600000 in
set_option maxRecDepth 100000 in
theorem eqCellS_of (xs : List JCell) (hE : ∀ x, x ∈ xs → ∀ y, EqCell x y) : EqCellS xs := by
  intro ys A B c d w hx hy
  obtain ⟨_, _, _, hm0, hm1, _⟩ := Rd.slice hx
  unfold maxLen at hm1
  have hm : xs.length ≤ 9223372036854775807 := by omega
  have HX := Lib.hid hx
  have HY := Lib.hid hy
  have HE := Lib.hid hE
  clear hx hy hE hm0 hm1
  by_cases c1 : xs.length = ys.length
  · have c1b : ((xs.length : Int) != (ys.length : Int)) = false := by simp [c1]
    have c1c : (xs.length == ys.length) = true := by simp [c1]
    have C1 := Lib.hid c1
    clear c1
    go_enter Try.func79, Try.ntmps79
    go_wp2
    go_loopw [5] (fun i wr => ∃ k : Nat, k ≤ xs.length ∧ i = .int .i64 k ∧ Hid (xs.take k = ys.take k) ∧ Below w.heap.size w wr) (fun i _ => xs.length - (intOf i).toNat)
    case atStart => exact ⟨0, Nat.zero_le _, rfl, by simp [Hid], Below.refl _ _⟩
    case round =>
      obtain ⟨k, hk, rfl, HR, hbr⟩ := hrel
      by_cases hlt : k < xs.length
      · have hlt2 : k < ys.length := by have := C1.out; omega
        obtain ⟨ada, A4, c4, A5, c5, rfl, hx0, hx1, hx2, hx3, hx4, hx5, g4, g5, _lsa0, _lsa3, _lna4, _lna5⟩ := JCell.elem (HX.out.below hbr) k hlt
        obtain ⟨adb, B4, d4, B5, d5, rfl, hy0, hy1, hy2, hy3, hy4, hy5, k4, k5, _lsb0, _lsb3, _lnb4, _lnb5⟩ := JCell.elem (HY.out.below hbr) k hlt2
        have HM := Lib.hid (HE.out xs[k] (List.getElem_mem hlt) ys[k])
        have G4 := Lib.hid g4
        have K4 := Lib.hid k4
        clear g4 k4
        have G5 := Lib.hid g5
        have K5 := Lib.hid k5
        clear g5 k5
        have hbd : Below w.heap.size w wr.drew := hbr.drew
        have hbw : Below wr.heap.size wr wr.drew := (Below.refl _ _).drew
        by_cases c2 : xs[k] = ys[k]
        · have t2 := same_t c2
          have C2 := Lib.hid c2
          clear c2
          go_wp2_with fail
          go_still_tail 8, (by kernel_rfl)
          change wpList _ _ _ _ _ wr.drew
          go_wp2_with fail
          refine (HM.out _ _ _ (JCell.close_ _ (G4.out.below hbw) (G5.out.below hbw) _lsa0 _lsa3) (JCell.close_ _ (K4.out.below hbw) (K5.out.below hbw) _lsb0 _lsb3)).mono ?_
          rintro e w1 ⟨rfl, hb1⟩
          go_wp2
          go_roundw
          case rel => exact ⟨k + 1, by omega, by go_num, take_eq HR.out hlt hlt2 C2.out, bt hbd hb1⟩
          case measure => simp [intOf]; omega
        · have t2 := same_f c2
          go_wp2_with fail
          go_still_tail 8, (by kernel_rfl)
          change wpList _ _ _ _ _ wr.drew
          go_wp2_with fail
          refine (HM.out _ _ _ (JCell.close_ _ (G4.out.below hbw) (G5.out.below hbw) _lsa0 _lsa3) (JCell.close_ _ (K4.out.below hbw) (K5.out.below hbw) _lsb0 _lsb3)).mono ?_
          rintro e w1 ⟨rfl, hb1⟩
          go_wp2
          go_ret
          exact Ret.bool (by rw [same_f fun h => c2 (by simp only [h])]) (bt hbd hb1)
      · go_wp2
        go_ret
        exact Ret.bool (by rw [same_t]; have h1 := HR.out; have h2 := C1.out; rw [List.take_of_length_le (by omega), List.take_of_length_le (by omega)] at h1; exact h1) hbr
  · have c1b : ((xs.length : Int) != (ys.length : Int)) = true := by simpa using (show ¬ (xs.length : Int) = ys.length by omega)
    have c1c : (xs.length == ys.length) = false := by simpa using c1
    go_enter Try.func79, Try.ntmps79
    go_wp2
    go_ret
    exact Ret.bool (by rw [same_f fun h => c1 (by rw [h])]) (Below.refl _ _)
theorem eqCell_c (v b : JCell) : EqCell v b := eqCell_of v b
theorem eqCellS_c (xs : List JCell) : EqCellS xs := eqCellS_of xs (fun x _ y => eqCell_c x y)

def EqRow (a b : JRow) : Prop := ∀ (ca cb : List Value) (w : World), RdL w a.enc ca → RdL w b.enc cb →
    Calls Try.prog 59 #[.agg ca.toArray, .agg cb.toArray] w (Ret w (.bool (same a b)))
set_option maxHeartbeats 3200000 in
theorem eqRow_of (a b : JRow) : EqRow a b := by
  intro ca cb w ha hb
  obtain ⟨A2, c2, rfl, g2, _lsa0, _lna2⟩ := JRow.open_ ha
  obtain ⟨B2, d2, rfl, k2, _lsb0, _lnb2⟩ := JRow.open_ hb
  have G2 := Lib.hid g2
  have K2 := Lib.hid k2
  clear ha hb g2 k2
  by_cases e0 : a.typ = b.typ
  case neg =>
    have t0 := str_f e0
    go_enter Try.func59, Try.ntmps59
    go_wp2
    go_ret
    exact Ret.bool (by rw [same_f fun h => e0 (by rw [h])]) (bt (b1 _ _) (b1 _ _))
  have t0 := str_t e0
  have E0 := Lib.hid e0
  clear e0
  by_cases e1 : a.id = b.id
  case neg =>
    have t1a : (a.id == b.id) = false := by simpa using e1
    have t1b : (a.id != b.id) = true := by simpa using e1
    go_enter Try.func59, Try.ntmps59
    go_wp2
    go_ret
    exact Ret.bool (by rw [same_f fun h => e1 (by rw [h])]) (bt (b1 _ _) (b1 _ _))
  have t1a : (a.id == b.id) = true := by simpa using e1
  have t1b : (a.id != b.id) = false := by simpa using e1
  have E1 := Lib.hid e1
  clear e1
  by_cases e2 : a.cells = b.cells
  case neg =>
    have t2 := same_f e2
    go_enter Try.func59, Try.ntmps59
    go_wp2_with fail
    refine (eqCellS_c _ _ _ _ _ _ _ (G2.out.below (bt (b1 _ _) (b1 _ _))) (K2.out.below (bt (b1 _ _) (b1 _ _)))).mono ?_
    rintro e w1 ⟨rfl, hb1⟩
    obtain ⟨hc1, hf1⟩ := bcell hb1
    have hz1 : w.heap.size + 1 < w1.heap.size := by have := hb1.size; simp at this; omega
    have hy1 : w.heap.size < w1.heap.size := by omega
    go_wp2
    go_ret
    exact Ret.bool (by rw [same_f fun h => e2 (by rw [h])]) (bt (bt (b1 _ _) (b1 _ _)) hb1)
  have t2 := same_t e2
  have E2 := Lib.hid e2
  clear e2
  go_enter Try.func59, Try.ntmps59
  go_wp2_with fail
  refine (eqCellS_c _ _ _ _ _ _ _ (G2.out.below (bt (b1 _ _) (b1 _ _))) (K2.out.below (bt (b1 _ _) (b1 _ _)))).mono ?_
  rintro e w1 ⟨rfl, hb1⟩
  obtain ⟨hc1, hf1⟩ := bcell hb1
  have hz1 : w.heap.size + 1 < w1.heap.size := by have := hb1.size; simp at this; omega
  have hy1 : w.heap.size < w1.heap.size := by omega
  go_wp2
  go_ret
  exact Ret.bool (by rw [same_t]; cases a; cases b; cases (show _ = _ from E0.out); cases (show _ = _ from E1.out); cases (show _ = _ from E2.out); rfl) (bt (bt (b1 _ _) (b1 _ _)) hb1)
def EqRowS (xs : List JRow) : Prop := ∀ (ys : List JRow) (A B : Option Addr) (c d : Nat) (w : World), Rd w (slD JRow.enc 3 xs) (.slice A xs.length c) → Rd w (slD JRow.enc 3 ys) (.slice B ys.length d) →
    Calls Try.prog 29 #[.slice A xs.length c, .slice B ys.length d] w (Ret w (.bool (same xs ys)))
set_option maxHeartbeats 1600000 in
set_option maxRecDepth 100000 in
theorem eqRowS_of (xs : List JRow) (hE : ∀ x, x ∈ xs → ∀ y, EqRow x y) : EqRowS xs := by
  intro ys A B c d w hx hy
  obtain ⟨_, _, _, hm0, hm1, _⟩ := Rd.slice hx
  unfold maxLen at hm1
  have hm : xs.length ≤ 9223372036854775807 := by omega
  have HX := Lib.hid hx
  have HY := Lib.hid hy
  have HE := Lib.hid hE
  clear hx hy hE hm0 hm1
  by_cases c1 : xs.length = ys.length
  · have c1b : ((xs.length : Int) != (ys.length : Int)) = false := by simp [c1]
    have c1c : (xs.length == ys.length) = true := by simp [c1]
    have C1 := Lib.hid c1
    clear c1
    go_enter Try.func29, Try.ntmps29
    go_wp2
    go_loopw [5] (fun i wr => ∃ k : Nat, k ≤ xs.length ∧ i = .int .i64 k ∧ Hid (xs.take k = ys.take k) ∧ Below w.heap.size w wr) (fun i _ => xs.length - (intOf i).toNat)
    case atStart => exact ⟨0, Nat.zero_le _, rfl, by simp [Hid], Below.refl _ _⟩
    case round =>
      obtain ⟨k, hk, rfl, HR, hbr⟩ := hrel
      by_cases hlt : k < xs.length
      · have hlt2 : k < ys.length := by have := C1.out; omega
        obtain ⟨ada, A2, c2, rfl, hx0, hx1, hx2, g2, _lsa0, _lna2⟩ := JRow.elem (HX.out.below hbr) k hlt
        obtain ⟨adb, B2, d2, rfl, hy0, hy1, hy2, k2, _lsb0, _lnb2⟩ := JRow.elem (HY.out.below hbr) k hlt2
        have HM := Lib.hid (HE.out xs[k] (List.getElem_mem hlt) ys[k])
        have G2 := Lib.hid g2
        have K2 := Lib.hid k2
        clear g2 k2
        have hbd : Below w.heap.size w wr.drew := hbr.drew
        have hbw : Below wr.heap.size wr wr.drew := (Below.refl _ _).drew
        by_cases c2 : xs[k] = ys[k]
        · have t2 := same_t c2
          have C2 := Lib.hid c2
          clear c2
          go_wp2_with fail
          go_still_tail 8, (by kernel_rfl)
          change wpList _ _ _ _ _ wr.drew
          go_wp2_with fail
          refine (HM.out _ _ _ (JRow.close_ _ (G2.out.below hbw) _lsa0) (JRow.close_ _ (K2.out.below hbw) _lsb0)).mono ?_
          rintro e w1 ⟨rfl, hb1⟩
          go_wp2
          go_roundw
          case rel => exact ⟨k + 1, by omega, by go_num, take_eq HR.out hlt hlt2 C2.out, bt hbd hb1⟩
          case measure => simp [intOf]; omega
        · have t2 := same_f c2
          go_wp2_with fail
          go_still_tail 8, (by kernel_rfl)
          change wpList _ _ _ _ _ wr.drew
          go_wp2_with fail
          refine (HM.out _ _ _ (JRow.close_ _ (G2.out.below hbw) _lsa0) (JRow.close_ _ (K2.out.below hbw) _lsb0)).mono ?_
          rintro e w1 ⟨rfl, hb1⟩
          go_wp2
          go_ret
          exact Ret.bool (by rw [same_f fun h => c2 (by simp only [h])]) (bt hbd hb1)
      · go_wp2
        go_ret
        exact Ret.bool (by rw [same_t]; have h1 := HR.out; have h2 := C1.out; rw [List.take_of_length_le (by omega), List.take_of_length_le (by omega)] at h1; exact h1) hbr
  · have c1b : ((xs.length : Int) != (ys.length : Int)) = true := by simpa using (show ¬ (xs.length : Int) = ys.length by omega)
    have c1c : (xs.length == ys.length) = false := by simpa using c1
    go_enter Try.func29, Try.ntmps29
    go_wp2
    go_ret
    exact Ret.bool (by rw [same_f fun h => c1 (by rw [h])]) (Below.refl _ _)
theorem eqRow_c (v b : JRow) : EqRow v b := eqRow_of v b
theorem eqRowS_c (xs : List JRow) : EqRowS xs := eqRowS_of xs (fun x _ y => eqRow_c x y)

def EqSel (a b : JSel) : Prop := ∀ (ca cb : List Value) (w : World), RdL w a.enc ca → RdL w b.enc cb →
    Calls Try.prog 92 #[.agg ca.toArray, .agg cb.toArray] w (Ret w (.bool (same a b)))
set_option maxHeartbeats 3200000 in
theorem eqSel_of (a b : JSel) (hK : ∀ ys A B c d w, Rd w (slD JSel.enc 5 a.kids) (.slice A a.kids.length c) → Rd w (slD JSel.enc 5 ys) (.slice B ys.length d) → Calls Try.prog 71 #[.slice A a.kids.length c, .slice B ys.length d] w (Ret w (.bool (same a.kids ys)))) : EqSel a b := by
  intro ca cb w ha hb
  obtain ⟨A4, c4, rfl, g4, _lsa0, _lsa1, _lna4⟩ := JSel.open_ ha
  obtain ⟨B4, d4, rfl, k4, _lsb0, _lsb1, _lnb4⟩ := JSel.open_ hb
  have G4 := Lib.hid g4
  have K4 := Lib.hid k4
  have HK := Lib.hid hK
  clear hK
  clear ha hb g4 k4
  by_cases e0 : a.as_ = b.as_
  case neg =>
    have t0 := str_f e0
    go_enter Try.func92, Try.ntmps92
    go_wp2
    go_ret
    exact Ret.bool (by rw [same_f fun h => e0 (by rw [h])]) (bt (b1 _ _) (b1 _ _))
  have t0 := str_t e0
  have E0 := Lib.hid e0
  clear e0
  by_cases e1 : a.name = b.name
  case neg =>
    have t1 := str_f e1
    go_enter Try.func92, Try.ntmps92
    go_wp2
    go_ret
    exact Ret.bool (by rw [same_f fun h => e1 (by rw [h])]) (bt (b1 _ _) (b1 _ _))
  have t1 := str_t e1
  have E1 := Lib.hid e1
  clear e1
  by_cases e2 : a.one = b.one
  case neg =>
    have t2a : (a.one == b.one) = false := by simpa using e2
    have t2b : (a.one != b.one) = true := by simpa using e2
    go_enter Try.func92, Try.ntmps92
    go_wp2
    go_ret
    exact Ret.bool (by rw [same_f fun h => e2 (by rw [h])]) (bt (b1 _ _) (b1 _ _))
  have t2a : (a.one == b.one) = true := by simpa using e2
  have t2b : (a.one != b.one) = false := by simpa using e2
  have E2 := Lib.hid e2
  clear e2
  by_cases e3 : a.id = b.id
  case neg =>
    have t3a : (a.id == b.id) = false := by simpa using e3
    have t3b : (a.id != b.id) = true := by simpa using e3
    go_enter Try.func92, Try.ntmps92
    go_wp2
    go_ret
    exact Ret.bool (by rw [same_f fun h => e3 (by rw [h])]) (bt (b1 _ _) (b1 _ _))
  have t3a : (a.id == b.id) = true := by simpa using e3
  have t3b : (a.id != b.id) = false := by simpa using e3
  have E3 := Lib.hid e3
  clear e3
  by_cases e4 : a.kids = b.kids
  case neg =>
    have t4 := same_f e4
    go_enter Try.func92, Try.ntmps92
    go_wp2_with fail
    refine (HK.out _ _ _ _ _ _ (G4.out.below (bt (b1 _ _) (b1 _ _))) (K4.out.below (bt (b1 _ _) (b1 _ _)))).mono ?_
    rintro e w1 ⟨rfl, hb1⟩
    obtain ⟨hc1, hf1⟩ := bcell hb1
    have hz1 : w.heap.size + 1 < w1.heap.size := by have := hb1.size; simp at this; omega
    have hy1 : w.heap.size < w1.heap.size := by omega
    go_wp2
    go_ret
    exact Ret.bool (by rw [same_f fun h => e4 (by rw [h])]) (bt (bt (b1 _ _) (b1 _ _)) hb1)
  have t4 := same_t e4
  have E4 := Lib.hid e4
  clear e4
  go_enter Try.func92, Try.ntmps92
  go_wp2_with fail
  refine (HK.out _ _ _ _ _ _ (G4.out.below (bt (b1 _ _) (b1 _ _))) (K4.out.below (bt (b1 _ _) (b1 _ _)))).mono ?_
  rintro e w1 ⟨rfl, hb1⟩
  obtain ⟨hc1, hf1⟩ := bcell hb1
  have hz1 : w.heap.size + 1 < w1.heap.size := by have := hb1.size; simp at this; omega
  have hy1 : w.heap.size < w1.heap.size := by omega
  go_wp2
  go_ret
  exact Ret.bool (by rw [same_t]; cases a; cases b; cases (show _ = _ from E0.out); cases (show _ = _ from E1.out); cases (show _ = _ from E2.out); cases (show _ = _ from E3.out); cases (show _ = _ from E4.out); rfl) (bt (bt (b1 _ _) (b1 _ _)) hb1)
def EqSelS (xs : List JSel) : Prop := ∀ (ys : List JSel) (A B : Option Addr) (c d : Nat) (w : World), Rd w (slD JSel.enc 5 xs) (.slice A xs.length c) → Rd w (slD JSel.enc 5 ys) (.slice B ys.length d) →
    Calls Try.prog 71 #[.slice A xs.length c, .slice B ys.length d] w (Ret w (.bool (same xs ys)))
set_option maxHeartbeats 1600000 in
set_option maxRecDepth 100000 in
theorem eqSelS_of (xs : List JSel) (hE : ∀ x, x ∈ xs → ∀ y, EqSel x y) : EqSelS xs := by
  intro ys A B c d w hx hy
  obtain ⟨_, _, _, hm0, hm1, _⟩ := Rd.slice hx
  unfold maxLen at hm1
  have hm : xs.length ≤ 9223372036854775807 := by omega
  have HX := Lib.hid hx
  have HY := Lib.hid hy
  have HE := Lib.hid hE
  clear hx hy hE hm0 hm1
  by_cases c1 : xs.length = ys.length
  · have c1b : ((xs.length : Int) != (ys.length : Int)) = false := by simp [c1]
    have c1c : (xs.length == ys.length) = true := by simp [c1]
    have C1 := Lib.hid c1
    clear c1
    go_enter Try.func71, Try.ntmps71
    go_wp2
    go_loopw [5] (fun i wr => ∃ k : Nat, k ≤ xs.length ∧ i = .int .i64 k ∧ Hid (xs.take k = ys.take k) ∧ Below w.heap.size w wr) (fun i _ => xs.length - (intOf i).toNat)
    case atStart => exact ⟨0, Nat.zero_le _, rfl, by simp [Hid], Below.refl _ _⟩
    case round =>
      obtain ⟨k, hk, rfl, HR, hbr⟩ := hrel
      by_cases hlt : k < xs.length
      · have hlt2 : k < ys.length := by have := C1.out; omega
        obtain ⟨ada, A4, c4, rfl, hx0, hx1, hx2, hx3, hx4, g4, _lsa0, _lsa1, _lna4⟩ := JSel.elem (HX.out.below hbr) k hlt
        obtain ⟨adb, B4, d4, rfl, hy0, hy1, hy2, hy3, hy4, k4, _lsb0, _lsb1, _lnb4⟩ := JSel.elem (HY.out.below hbr) k hlt2
        have HM := Lib.hid (HE.out xs[k] (List.getElem_mem hlt) ys[k])
        have G4 := Lib.hid g4
        have K4 := Lib.hid k4
        clear g4 k4
        have hbd : Below w.heap.size w wr.drew := hbr.drew
        have hbw : Below wr.heap.size wr wr.drew := (Below.refl _ _).drew
        by_cases c2 : xs[k] = ys[k]
        · have t2 := same_t c2
          have C2 := Lib.hid c2
          clear c2
          go_wp2_with fail
          go_still_tail 8, (by kernel_rfl)
          change wpList _ _ _ _ _ wr.drew
          go_wp2_with fail
          refine (HM.out _ _ _ (JSel.close_ _ (G4.out.below hbw) _lsa0 _lsa1) (JSel.close_ _ (K4.out.below hbw) _lsb0 _lsb1)).mono ?_
          rintro e w1 ⟨rfl, hb1⟩
          go_wp2
          go_roundw
          case rel => exact ⟨k + 1, by omega, by go_num, take_eq HR.out hlt hlt2 C2.out, bt hbd hb1⟩
          case measure => simp [intOf]; omega
        · have t2 := same_f c2
          go_wp2_with fail
          go_still_tail 8, (by kernel_rfl)
          change wpList _ _ _ _ _ wr.drew
          go_wp2_with fail
          refine (HM.out _ _ _ (JSel.close_ _ (G4.out.below hbw) _lsa0 _lsa1) (JSel.close_ _ (K4.out.below hbw) _lsb0 _lsb1)).mono ?_
          rintro e w1 ⟨rfl, hb1⟩
          go_wp2
          go_ret
          exact Ret.bool (by rw [same_f fun h => c2 (by simp only [h])]) (bt hbd hb1)
      · go_wp2
        go_ret
        exact Ret.bool (by rw [same_t]; have h1 := HR.out; have h2 := C1.out; rw [List.take_of_length_le (by omega), List.take_of_length_le (by omega)] at h1; exact h1) hbr
  · have c1b : ((xs.length : Int) != (ys.length : Int)) = true := by simpa using (show ¬ (xs.length : Int) = ys.length by omega)
    have c1c : (xs.length == ys.length) = false := by simpa using c1
    go_enter Try.func71, Try.ntmps71
    go_wp2
    go_ret
    exact Ret.bool (by rw [same_f fun h => c1 (by rw [h])]) (Below.refl _ _)
theorem eqSel_both : ∀ n, (∀ v b : JSel, SizeOf.sizeOf v < n → EqSel v b) ∧ (∀ xs : List JSel, SizeOf.sizeOf xs < n → EqSelS xs)
  | 0 => ⟨fun _ _ h => absurd h (by omega), fun _ h => absurd h (by omega)⟩
  | n + 1 => by
    have ih := eqSel_both n
    refine ⟨fun v b h => eqSel_of v b (ih.2 _ (by have := JSel.kids_lt v; omega)), fun xs h => eqSelS_of xs (fun x hx y => ih.1 x y (by have := List.sizeOf_lt_of_mem hx; omega))⟩
theorem eqSel_c (v b : JSel) : EqSel v b := (eqSel_both _).1 v b (Nat.lt_succ_self _)
theorem eqSelS_c (xs : List JSel) : EqSelS xs := (eqSel_both _).2 xs (Nat.lt_succ_self _)

def EqStep (a b : JStep) : Prop := ∀ (ca cb : List Value) (w : World), RdL w a.enc ca → RdL w b.enc cb →
    Calls Try.prog 48 #[.agg ca.toArray, .agg cb.toArray] w (Ret w (.bool (same a b)))
set_option maxHeartbeats 3200000 in
theorem eqStep_of (a b : JStep) : EqStep a b := by
  intro ca cb w ha hb
  obtain ⟨A1, c1, A3, c3, A4, c4, A5, c5, rfl, g1, g3, g4, g5, _lsa2, _lna1, _lna3, _lna4, _lna5⟩ := JStep.open_ ha
  obtain ⟨B1, d1, B3, d3, B4, d4, B5, d5, rfl, k1, k3, k4, k5, _lsb2, _lnb1, _lnb3, _lnb4, _lnb5⟩ := JStep.open_ hb
  have G1 := Lib.hid g1
  have K1 := Lib.hid k1
  have G3 := Lib.hid g3
  have K3 := Lib.hid k3
  have G4 := Lib.hid g4
  have K4 := Lib.hid k4
  have G5 := Lib.hid g5
  have K5 := Lib.hid k5
  clear ha hb g1 k1 g3 k3 g4 k4 g5 k5
  by_cases e0 : a.part = b.part
  case neg =>
    have t0a : (a.part == b.part) = false := by simpa using e0
    have t0b : (a.part != b.part) = true := by simpa using e0
    go_enter Try.func48, Try.ntmps48
    go_wp2
    go_ret
    exact Ret.bool (by rw [same_f fun h => e0 (by rw [h])]) (bt (b1 _ _) (b1 _ _))
  have t0a : (a.part == b.part) = true := by simpa using e0
  have t0b : (a.part != b.part) = false := by simpa using e0
  have E0 := Lib.hid e0
  clear e0
  by_cases e1 : a.way = b.way
  case neg =>
    have t1 := same_f e1
    go_enter Try.func48, Try.ntmps48
    go_wp2_with fail
    refine (eqStringS_c _ _ _ _ _ _ _ (G1.out.below (bt (b1 _ _) (b1 _ _))) (K1.out.below (bt (b1 _ _) (b1 _ _)))).mono ?_
    rintro e w1 ⟨rfl, hb1⟩
    obtain ⟨hc1, hf1⟩ := bcell hb1
    have hz1 : w.heap.size + 1 < w1.heap.size := by have := hb1.size; simp at this; omega
    have hy1 : w.heap.size < w1.heap.size := by omega
    go_wp2
    go_ret
    exact Ret.bool (by rw [same_f fun h => e1 (by rw [h])]) (bt (bt (b1 _ _) (b1 _ _)) hb1)
  have t1 := same_t e1
  have E1 := Lib.hid e1
  clear e1
  by_cases e2 : a.typ = b.typ
  case neg =>
    have t2 := str_f e2
    go_enter Try.func48, Try.ntmps48
    go_wp2_with fail
    refine (eqStringS_c _ _ _ _ _ _ _ (G1.out.below (bt (b1 _ _) (b1 _ _))) (K1.out.below (bt (b1 _ _) (b1 _ _)))).mono ?_
    rintro e w1 ⟨rfl, hb1⟩
    obtain ⟨hc1, hf1⟩ := bcell hb1
    have hz1 : w.heap.size + 1 < w1.heap.size := by have := hb1.size; simp at this; omega
    have hy1 : w.heap.size < w1.heap.size := by omega
    go_wp2
    go_ret
    exact Ret.bool (by rw [same_f fun h => e2 (by rw [h])]) (bt (bt (b1 _ _) (b1 _ _)) hb1)
  have t2 := str_t e2
  have E2 := Lib.hid e2
  clear e2
  by_cases e3 : a.sels = b.sels
  case neg =>
    have t3 := same_f e3
    go_enter Try.func48, Try.ntmps48
    go_wp2_with fail
    refine (eqStringS_c _ _ _ _ _ _ _ (G1.out.below (bt (b1 _ _) (b1 _ _))) (K1.out.below (bt (b1 _ _) (b1 _ _)))).mono ?_
    rintro e w1 ⟨rfl, hb1⟩
    obtain ⟨hc1, hf1⟩ := bcell hb1
    have hz1 : w.heap.size + 1 < w1.heap.size := by have := hb1.size; simp at this; omega
    have hy1 : w.heap.size < w1.heap.size := by omega
    go_wp2_with fail
    refine (eqSelS_c _ _ _ _ _ _ _ (G3.out.below (bt (bt (b1 _ _) (b1 _ _)) hb1)) (K3.out.below (bt (bt (b1 _ _) (b1 _ _)) hb1))).mono ?_
    rintro e w2 ⟨rfl, hb2⟩
    obtain ⟨hc2, hf2⟩ := bcell hb2
    have hz2 : w.heap.size + 1 < w2.heap.size := by have := hb2.size; omega
    have hy2 : w.heap.size < w2.heap.size := by omega
    go_wp2
    go_ret
    exact Ret.bool (by rw [same_f fun h => e3 (by rw [h])]) (bt (bt (bt (b1 _ _) (b1 _ _)) hb1) hb2)
  have t3 := same_t e3
  have E3 := Lib.hid e3
  clear e3
  by_cases e4 : a.after_ = b.after_
  case neg =>
    have t4 := same_f e4
    go_enter Try.func48, Try.ntmps48
    go_wp2_with fail
    refine (eqStringS_c _ _ _ _ _ _ _ (G1.out.below (bt (b1 _ _) (b1 _ _))) (K1.out.below (bt (b1 _ _) (b1 _ _)))).mono ?_
    rintro e w1 ⟨rfl, hb1⟩
    obtain ⟨hc1, hf1⟩ := bcell hb1
    have hz1 : w.heap.size + 1 < w1.heap.size := by have := hb1.size; simp at this; omega
    have hy1 : w.heap.size < w1.heap.size := by omega
    go_wp2_with fail
    refine (eqSelS_c _ _ _ _ _ _ _ (G3.out.below (bt (bt (b1 _ _) (b1 _ _)) hb1)) (K3.out.below (bt (bt (b1 _ _) (b1 _ _)) hb1))).mono ?_
    rintro e w2 ⟨rfl, hb2⟩
    obtain ⟨hc2, hf2⟩ := bcell hb2
    have hz2 : w.heap.size + 1 < w2.heap.size := by have := hb2.size; omega
    have hy2 : w.heap.size < w2.heap.size := by omega
    go_wp2_with fail
    refine (eqIntS_c _ _ _ _ _ _ _ (G4.out.below (bt (bt (bt (b1 _ _) (b1 _ _)) hb1) hb2)) (K4.out.below (bt (bt (bt (b1 _ _) (b1 _ _)) hb1) hb2))).mono ?_
    rintro e w3 ⟨rfl, hb3⟩
    obtain ⟨hc3, hf3⟩ := bcell hb3
    have hz3 : w.heap.size + 1 < w3.heap.size := by have := hb3.size; omega
    have hy3 : w.heap.size < w3.heap.size := by omega
    go_wp2
    go_ret
    exact Ret.bool (by rw [same_f fun h => e4 (by rw [h])]) (bt (bt (bt (bt (b1 _ _) (b1 _ _)) hb1) hb2) hb3)
  have t4 := same_t e4
  have E4 := Lib.hid e4
  clear e4
  by_cases e5 : a.brings = b.brings
  case neg =>
    have t5 := same_f e5
    go_enter Try.func48, Try.ntmps48
    go_wp2_with fail
    refine (eqStringS_c _ _ _ _ _ _ _ (G1.out.below (bt (b1 _ _) (b1 _ _))) (K1.out.below (bt (b1 _ _) (b1 _ _)))).mono ?_
    rintro e w1 ⟨rfl, hb1⟩
    obtain ⟨hc1, hf1⟩ := bcell hb1
    have hz1 : w.heap.size + 1 < w1.heap.size := by have := hb1.size; simp at this; omega
    have hy1 : w.heap.size < w1.heap.size := by omega
    go_wp2_with fail
    refine (eqSelS_c _ _ _ _ _ _ _ (G3.out.below (bt (bt (b1 _ _) (b1 _ _)) hb1)) (K3.out.below (bt (bt (b1 _ _) (b1 _ _)) hb1))).mono ?_
    rintro e w2 ⟨rfl, hb2⟩
    obtain ⟨hc2, hf2⟩ := bcell hb2
    have hz2 : w.heap.size + 1 < w2.heap.size := by have := hb2.size; omega
    have hy2 : w.heap.size < w2.heap.size := by omega
    go_wp2_with fail
    refine (eqIntS_c _ _ _ _ _ _ _ (G4.out.below (bt (bt (bt (b1 _ _) (b1 _ _)) hb1) hb2)) (K4.out.below (bt (bt (bt (b1 _ _) (b1 _ _)) hb1) hb2))).mono ?_
    rintro e w3 ⟨rfl, hb3⟩
    obtain ⟨hc3, hf3⟩ := bcell hb3
    have hz3 : w.heap.size + 1 < w3.heap.size := by have := hb3.size; omega
    have hy3 : w.heap.size < w3.heap.size := by omega
    go_wp2_with fail
    refine (eqStringS_c _ _ _ _ _ _ _ (G5.out.below (bt (bt (bt (bt (b1 _ _) (b1 _ _)) hb1) hb2) hb3)) (K5.out.below (bt (bt (bt (bt (b1 _ _) (b1 _ _)) hb1) hb2) hb3))).mono ?_
    rintro e w4 ⟨rfl, hb4⟩
    obtain ⟨hc4, hf4⟩ := bcell hb4
    have hz4 : w.heap.size + 1 < w4.heap.size := by have := hb4.size; omega
    have hy4 : w.heap.size < w4.heap.size := by omega
    go_wp2
    go_ret
    exact Ret.bool (by rw [same_f fun h => e5 (by rw [h])]) (bt (bt (bt (bt (bt (b1 _ _) (b1 _ _)) hb1) hb2) hb3) hb4)
  have t5 := same_t e5
  have E5 := Lib.hid e5
  clear e5
  go_enter Try.func48, Try.ntmps48
  go_wp2_with fail
  refine (eqStringS_c _ _ _ _ _ _ _ (G1.out.below (bt (b1 _ _) (b1 _ _))) (K1.out.below (bt (b1 _ _) (b1 _ _)))).mono ?_
  rintro e w1 ⟨rfl, hb1⟩
  obtain ⟨hc1, hf1⟩ := bcell hb1
  have hz1 : w.heap.size + 1 < w1.heap.size := by have := hb1.size; simp at this; omega
  have hy1 : w.heap.size < w1.heap.size := by omega
  go_wp2_with fail
  refine (eqSelS_c _ _ _ _ _ _ _ (G3.out.below (bt (bt (b1 _ _) (b1 _ _)) hb1)) (K3.out.below (bt (bt (b1 _ _) (b1 _ _)) hb1))).mono ?_
  rintro e w2 ⟨rfl, hb2⟩
  obtain ⟨hc2, hf2⟩ := bcell hb2
  have hz2 : w.heap.size + 1 < w2.heap.size := by have := hb2.size; omega
  have hy2 : w.heap.size < w2.heap.size := by omega
  go_wp2_with fail
  refine (eqIntS_c _ _ _ _ _ _ _ (G4.out.below (bt (bt (bt (b1 _ _) (b1 _ _)) hb1) hb2)) (K4.out.below (bt (bt (bt (b1 _ _) (b1 _ _)) hb1) hb2))).mono ?_
  rintro e w3 ⟨rfl, hb3⟩
  obtain ⟨hc3, hf3⟩ := bcell hb3
  have hz3 : w.heap.size + 1 < w3.heap.size := by have := hb3.size; omega
  have hy3 : w.heap.size < w3.heap.size := by omega
  go_wp2_with fail
  refine (eqStringS_c _ _ _ _ _ _ _ (G5.out.below (bt (bt (bt (bt (b1 _ _) (b1 _ _)) hb1) hb2) hb3)) (K5.out.below (bt (bt (bt (bt (b1 _ _) (b1 _ _)) hb1) hb2) hb3))).mono ?_
  rintro e w4 ⟨rfl, hb4⟩
  obtain ⟨hc4, hf4⟩ := bcell hb4
  have hz4 : w.heap.size + 1 < w4.heap.size := by have := hb4.size; omega
  have hy4 : w.heap.size < w4.heap.size := by omega
  go_wp2
  go_ret
  exact Ret.bool (by rw [same_t]; cases a; cases b; cases (show _ = _ from E0.out); cases (show _ = _ from E1.out); cases (show _ = _ from E2.out); cases (show _ = _ from E3.out); cases (show _ = _ from E4.out); cases (show _ = _ from E5.out); rfl) (bt (bt (bt (bt (bt (b1 _ _) (b1 _ _)) hb1) hb2) hb3) hb4)
def EqStepS (xs : List JStep) : Prop := ∀ (ys : List JStep) (A B : Option Addr) (c d : Nat) (w : World), Rd w (slD JStep.enc 6 xs) (.slice A xs.length c) → Rd w (slD JStep.enc 6 ys) (.slice B ys.length d) →
    Calls Try.prog 21 #[.slice A xs.length c, .slice B ys.length d] w (Ret w (.bool (same xs ys)))
set_option maxHeartbeats 1600000 in
set_option maxRecDepth 100000 in
theorem eqStepS_of (xs : List JStep) (hE : ∀ x, x ∈ xs → ∀ y, EqStep x y) : EqStepS xs := by
  intro ys A B c d w hx hy
  obtain ⟨_, _, _, hm0, hm1, _⟩ := Rd.slice hx
  unfold maxLen at hm1
  have hm : xs.length ≤ 9223372036854775807 := by omega
  have HX := Lib.hid hx
  have HY := Lib.hid hy
  have HE := Lib.hid hE
  clear hx hy hE hm0 hm1
  by_cases c1 : xs.length = ys.length
  · have c1b : ((xs.length : Int) != (ys.length : Int)) = false := by simp [c1]
    have c1c : (xs.length == ys.length) = true := by simp [c1]
    have C1 := Lib.hid c1
    clear c1
    go_enter Try.func21, Try.ntmps21
    go_wp2
    go_loopw [5] (fun i wr => ∃ k : Nat, k ≤ xs.length ∧ i = .int .i64 k ∧ Hid (xs.take k = ys.take k) ∧ Below w.heap.size w wr) (fun i _ => xs.length - (intOf i).toNat)
    case atStart => exact ⟨0, Nat.zero_le _, rfl, by simp [Hid], Below.refl _ _⟩
    case round =>
      obtain ⟨k, hk, rfl, HR, hbr⟩ := hrel
      by_cases hlt : k < xs.length
      · have hlt2 : k < ys.length := by have := C1.out; omega
        obtain ⟨ada, A1, c1, A3, c3, A4, c4, A5, c5, rfl, hx0, hx1, hx2, hx3, hx4, hx5, g1, g3, g4, g5, _lsa2, _lna1, _lna3, _lna4, _lna5⟩ := JStep.elem (HX.out.below hbr) k hlt
        obtain ⟨adb, B1, d1, B3, d3, B4, d4, B5, d5, rfl, hy0, hy1, hy2, hy3, hy4, hy5, k1, k3, k4, k5, _lsb2, _lnb1, _lnb3, _lnb4, _lnb5⟩ := JStep.elem (HY.out.below hbr) k hlt2
        have HM := Lib.hid (HE.out xs[k] (List.getElem_mem hlt) ys[k])
        have G1 := Lib.hid g1
        have K1 := Lib.hid k1
        clear g1 k1
        have G3 := Lib.hid g3
        have K3 := Lib.hid k3
        clear g3 k3
        have G4 := Lib.hid g4
        have K4 := Lib.hid k4
        clear g4 k4
        have G5 := Lib.hid g5
        have K5 := Lib.hid k5
        clear g5 k5
        have hbd : Below w.heap.size w wr.drew := hbr.drew
        have hbw : Below wr.heap.size wr wr.drew := (Below.refl _ _).drew
        by_cases c2 : xs[k] = ys[k]
        · have t2 := same_t c2
          have C2 := Lib.hid c2
          clear c2
          go_wp2_with fail
          go_still_tail 8, (by kernel_rfl)
          change wpList _ _ _ _ _ wr.drew
          go_wp2_with fail
          refine (HM.out _ _ _ (JStep.close_ _ (G1.out.below hbw) (G3.out.below hbw) (G4.out.below hbw) (G5.out.below hbw) _lsa2) (JStep.close_ _ (K1.out.below hbw) (K3.out.below hbw) (K4.out.below hbw) (K5.out.below hbw) _lsb2)).mono ?_
          rintro e w1 ⟨rfl, hb1⟩
          go_wp2
          go_roundw
          case rel => exact ⟨k + 1, by omega, by go_num, take_eq HR.out hlt hlt2 C2.out, bt hbd hb1⟩
          case measure => simp [intOf]; omega
        · have t2 := same_f c2
          go_wp2_with fail
          go_still_tail 8, (by kernel_rfl)
          change wpList _ _ _ _ _ wr.drew
          go_wp2_with fail
          refine (HM.out _ _ _ (JStep.close_ _ (G1.out.below hbw) (G3.out.below hbw) (G4.out.below hbw) (G5.out.below hbw) _lsa2) (JStep.close_ _ (K1.out.below hbw) (K3.out.below hbw) (K4.out.below hbw) (K5.out.below hbw) _lsb2)).mono ?_
          rintro e w1 ⟨rfl, hb1⟩
          go_wp2
          go_ret
          exact Ret.bool (by rw [same_f fun h => c2 (by simp only [h])]) (bt hbd hb1)
      · go_wp2
        go_ret
        exact Ret.bool (by rw [same_t]; have h1 := HR.out; have h2 := C1.out; rw [List.take_of_length_le (by omega), List.take_of_length_le (by omega)] at h1; exact h1) hbr
  · have c1b : ((xs.length : Int) != (ys.length : Int)) = true := by simpa using (show ¬ (xs.length : Int) = ys.length by omega)
    have c1c : (xs.length == ys.length) = false := by simpa using c1
    go_enter Try.func21, Try.ntmps21
    go_wp2
    go_ret
    exact Ret.bool (by rw [same_f fun h => c1 (by rw [h])]) (Below.refl _ _)
theorem eqStep_c (v b : JStep) : EqStep v b := eqStep_of v b
theorem eqStepS_c (xs : List JStep) : EqStepS xs := eqStepS_of xs (fun x _ y => eqStep_c x y)

end Go.Proofs.Ytegabeefggcelaa.Lib
