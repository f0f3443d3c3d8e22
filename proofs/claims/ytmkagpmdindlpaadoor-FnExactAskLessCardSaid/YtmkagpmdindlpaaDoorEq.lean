/- Contracts of the laws' equality functions: true just if the two values are the same. Printed by geq.py. No condition. -/
import Derived.Test.YtmkagpmdindlpaaDoorProg
import Derived.Test.YtmkagpmdindlpaaDoorBulk
import Derived.Deep.QuietTactic
import Derived.BigQuiet
import Derived.StillTailTactics
set_option linter.unusedVariables false
set_option linter.unusedSimpArgs false
namespace Go.Proofs.YtmkagpmdindlpaaDoor.Lib
open Go.RowKit

def EqSel (a b : JSel) : Prop := ∀ (ca cb : List Value) (w : World), RdL w a.enc ca → RdL w b.enc cb →
    Calls Tryd.prog 23 #[.agg ca.toArray, .agg cb.toArray] w (Ret w (.bool (same a b)))
set_option maxHeartbeats 3200000 in
theorem eqSel_of (a b : JSel) (hK : ∀ ys A B c d w, Rd w (slD JSel.enc 5 a.kids) (.slice A a.kids.length c) → Rd w (slD JSel.enc 5 ys) (.slice B ys.length d) → Calls Tryd.prog 9 #[.slice A a.kids.length c, .slice B ys.length d] w (Ret w (.bool (same a.kids ys)))) : EqSel a b := by
  intro ca cb w ha hb
  obtain ⟨A4, c4, rfl, g4, _lsa0, _lsa1, _lna4⟩ := JSel.open_ ha
  obtain ⟨B4, d4, rfl, k4, _lsb0, _lsb1, _lnb4⟩ := JSel.open_ hb
  have G4 := Lib.hid g4
  have K4 := Lib.hid k4
  have HK := Lib.hid hK
  clear hK
  clear ha hb g4 k4
  by_cases e0 : a.as_ = b.as_
  case neg =>
    have t0 := str_f e0
    go_enter Tryd.func23, Tryd.ntmps23
    go_wp2
    go_ret
    exact Ret.bool (by rw [same_f fun h => e0 (by rw [h])]) (bt (b1 _ _) (b1 _ _))
  have t0 := str_t e0
  have E0 := Lib.hid e0
  clear e0
  by_cases e1 : a.name = b.name
  case neg =>
    have t1 := str_f e1
    go_enter Tryd.func23, Tryd.ntmps23
    go_wp2
    go_ret
    exact Ret.bool (by rw [same_f fun h => e1 (by rw [h])]) (bt (b1 _ _) (b1 _ _))
  have t1 := str_t e1
  have E1 := Lib.hid e1
  clear e1
  by_cases e2 : a.one = b.one
  case neg =>
    have t2a : (a.one == b.one) = false := by simpa using e2
    have t2b : (a.one != b.one) = true := by simpa using e2
    go_enter Tryd.func23, Tryd.ntmps23
    go_wp2
    go_ret
    exact Ret.bool (by rw [same_f fun h => e2 (by rw [h])]) (bt (b1 _ _) (b1 _ _))
  have t2a : (a.one == b.one) = true := by simpa using e2
  have t2b : (a.one != b.one) = false := by simpa using e2
  have E2 := Lib.hid e2
  clear e2
  by_cases e3 : a.id = b.id
  case neg =>
    have t3a : (a.id == b.id) = false := by simpa using e3
    have t3b : (a.id != b.id) = true := by simpa using e3
    go_enter Tryd.func23, Tryd.ntmps23
    go_wp2
    go_ret
    exact Ret.bool (by rw [same_f fun h => e3 (by rw [h])]) (bt (b1 _ _) (b1 _ _))
  have t3a : (a.id == b.id) = true := by simpa using e3
  have t3b : (a.id != b.id) = false := by simpa using e3
  have E3 := Lib.hid e3
  clear e3
  by_cases e4 : a.kids = b.kids
  case neg =>
    have t4 := same_f e4
    go_enter Tryd.func23, Tryd.ntmps23
    go_wp2_with fail
    refine (HK.out _ _ _ _ _ _ (G4.out.below (bt (b1 _ _) (b1 _ _))) (K4.out.below (bt (b1 _ _) (b1 _ _)))).mono ?_
    rintro e w1 ⟨rfl, hb1⟩
    obtain ⟨hc1, hf1⟩ := bcell hb1
    have hz1 : w.heap.size + 1 < w1.heap.size := by have := hb1.size; simp at this; omega
    have hy1 : w.heap.size < w1.heap.size := by omega
    go_wp2
    go_ret
    exact Ret.bool (by rw [same_f fun h => e4 (by rw [h])]) (bt (bt (b1 _ _) (b1 _ _)) hb1)
  have t4 := same_t e4
  have E4 := Lib.hid e4
  clear e4
  go_enter Tryd.func23, Tryd.ntmps23
  go_wp2_with fail
  refine (HK.out _ _ _ _ _ _ (G4.out.below (bt (b1 _ _) (b1 _ _))) (K4.out.below (bt (b1 _ _) (b1 _ _)))).mono ?_
  rintro e w1 ⟨rfl, hb1⟩
  obtain ⟨hc1, hf1⟩ := bcell hb1
  have hz1 : w.heap.size + 1 < w1.heap.size := by have := hb1.size; simp at this; omega
  have hy1 : w.heap.size < w1.heap.size := by omega
  go_wp2
  go_ret
  exact Ret.bool (by rw [same_t]; cases a; cases b; cases (show _ = _ from E0.out); cases (show _ = _ from E1.out); cases (show _ = _ from E2.out); cases (show _ = _ from E3.out); cases (show _ = _ from E4.out); rfl) (bt (bt (b1 _ _) (b1 _ _)) hb1)
def EqSelS (xs : List JSel) : Prop := ∀ (ys : List JSel) (A B : Option Addr) (c d : Nat) (w : World), Rd w (slD JSel.enc 5 xs) (.slice A xs.length c) → Rd w (slD JSel.enc 5 ys) (.slice B ys.length d) →
    Calls Tryd.prog 9 #[.slice A xs.length c, .slice B ys.length d] w (Ret w (.bool (same xs ys)))
set_option maxHeartbeats 1600000 in
set_option maxRecDepth 100000 in
theorem eqSelS_of (xs : List JSel) (hE : ∀ x, x ∈ xs → ∀ y, EqSel x y) : EqSelS xs := by
  intro ys A B c d w hx hy
  obtain ⟨_, _, _, hm0, hm1, _⟩ := Rd.slice hx
  unfold maxLen at hm1
  have hm : xs.length ≤ 9223372036854775807 := by omega
  have HX := Lib.hid hx
  have HY := Lib.hid hy
  have HE := Lib.hid hE
  clear hx hy hE hm0 hm1
  by_cases c1 : xs.length = ys.length
  · have c1b : ((xs.length : Int) != (ys.length : Int)) = false := by simp [c1]
    have c1c : (xs.length == ys.length) = true := by simp [c1]
    have C1 := Lib.hid c1
    clear c1
    go_enter Tryd.func9, Tryd.ntmps9
    go_wp2
    go_loopw [5] (fun i wr => ∃ k : Nat, k ≤ xs.length ∧ i = .int .i64 k ∧ Hid (xs.take k = ys.take k) ∧ Below w.heap.size w wr) (fun i _ => xs.length - (intOf i).toNat)
    case atStart => exact ⟨0, Nat.zero_le _, rfl, by simp [Hid], Below.refl _ _⟩
    case round =>
      obtain ⟨k, hk, rfl, HR, hbr⟩ := hrel
      by_cases hlt : k < xs.length
      · have hlt2 : k < ys.length := by have := C1.out; omega
        obtain ⟨ada, A4, c4, rfl, hx0, hx1, hx2, hx3, hx4, g4, _lsa0, _lsa1, _lna4⟩ := JSel.elem (HX.out.below hbr) k hlt
        obtain ⟨adb, B4, d4, rfl, hy0, hy1, hy2, hy3, hy4, k4, _lsb0, _lsb1, _lnb4⟩ := JSel.elem (HY.out.below hbr) k hlt2
        have HM := Lib.hid (HE.out xs[k] (List.getElem_mem hlt) ys[k])
        have G4 := Lib.hid g4
        have K4 := Lib.hid k4
        clear g4 k4
        have hbd : Below w.heap.size w wr.drew := hbr.drew
        have hbw : Below wr.heap.size wr wr.drew := (Below.refl _ _).drew
        by_cases c2 : xs[k] = ys[k]
        · have t2 := same_t c2
          have C2 := Lib.hid c2
          clear c2
          go_wp2_with fail
          go_still_tail 8, (by kernel_rfl)
          change wpList _ _ _ _ _ wr.drew
          go_wp2_with fail
          refine (HM.out _ _ _ (JSel.close_ _ (G4.out.below hbw) _lsa0 _lsa1) (JSel.close_ _ (K4.out.below hbw) _lsb0 _lsb1)).mono ?_
          rintro e w1 ⟨rfl, hb1⟩
          go_wp2
          go_roundw
          case rel => exact ⟨k + 1, by omega, by go_num, take_eq HR.out hlt hlt2 C2.out, bt hbd hb1⟩
          case measure => simp [intOf]; omega
        · have t2 := same_f c2
          go_wp2_with fail
          go_still_tail 8, (by kernel_rfl)
          change wpList _ _ _ _ _ wr.drew
          go_wp2_with fail
          refine (HM.out _ _ _ (JSel.close_ _ (G4.out.below hbw) _lsa0 _lsa1) (JSel.close_ _ (K4.out.below hbw) _lsb0 _lsb1)).mono ?_
          rintro e w1 ⟨rfl, hb1⟩
          go_wp2
          go_ret
          exact Ret.bool (by rw [same_f fun h => c2 (by simp only [h])]) (bt hbd hb1)
      · go_wp2
        go_ret
        exact Ret.bool (by rw [same_t]; have h1 := HR.out; have h2 := C1.out; rw [List.take_of_length_le (by omega), List.take_of_length_le (by omega)] at h1; exact h1) hbr
  · have c1b : ((xs.length : Int) != (ys.length : Int)) = true := by simpa using (show ¬ (xs.length : Int) = ys.length by omega)
    have c1c : (xs.length == ys.length) = false := by simpa using c1
    go_enter Tryd.func9, Tryd.ntmps9
    go_wp2
    go_ret
    exact Ret.bool (by rw [same_f fun h => c1 (by rw [h])]) (Below.refl _ _)
theorem eqSel_both : ∀ n, (∀ v b : JSel, SizeOf.sizeOf v < n → EqSel v b) ∧ (∀ xs : List JSel, SizeOf.sizeOf xs < n → EqSelS xs)
  | 0 => ⟨fun _ _ h => absurd h (by omega), fun _ h => absurd h (by omega)⟩
  | n + 1 => by
    have ih := eqSel_both n
    refine ⟨fun v b h => eqSel_of v b (ih.2 _ (by have := JSel.kids_lt v; omega)), fun xs h => eqSelS_of xs (fun x hx y => ih.1 x y (by have := List.sizeOf_lt_of_mem hx; omega))⟩
theorem eqSel_c (v b : JSel) : EqSel v b := (eqSel_both _).1 v b (Nat.lt_succ_self _)
theorem eqSelS_c (xs : List JSel) : EqSelS xs := (eqSel_both _).2 xs (Nat.lt_succ_self _)

end Go.Proofs.YtmkagpmdindlpaaDoor.Lib
