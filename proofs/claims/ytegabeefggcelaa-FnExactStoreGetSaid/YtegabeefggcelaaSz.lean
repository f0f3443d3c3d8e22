/- Contracts of the laws' size functions: what is left of a number behind a value's bulk, -1 if it isn't enough. Printed by gsz.py. For 0 <= left <= 2^20. -/
import Derived.Test.YtegabeefggcelaaProg
import Derived.Test.YtegabeefggcelaaBulk
set_option linter.unusedVariables false
set_option linter.unusedSimpArgs false
namespace Go.Proofs.Ytegabeefggcelaa.Lib
open Go.RowKit

def SzStringS : Prop := ∀ (xs : List ByteArray) (A : Option Addr) (c : Nat) (left : Int) (w : World), Rd w (slD strD 1 xs) (.slice A xs.length c) → 0 ≤ left → left ≤ 1048576 →
    Calls Try.prog 33 #[.slice A xs.length c, .int .i64 left] w (Ret w (.int .i64 (szR (strsBulk xs) left)))
set_option maxHeartbeats 800000 in
theorem szStringS_c : SzStringS := by
  intro xs A c left w hx h0 h1
  obtain ⟨_, _, _, hm0, hm1, _⟩ := Rd.slice hx
  unfold maxLen at hm1
  have hm : xs.length ≤ 9223372036854775807 := by omega
  have HX := Lib.hid hx
  clear hx hm0 hm1
  by_cases c1 : left - xs.length < 0
  · go_enter Try.func33, Try.ntmps33
    go_wp2
    go_ret
    exact Ret.int (by unfold strsBulk; rw [szR_no (by omega)]) (Below.refl _ _)
  · go_enter Try.func33, Try.ntmps33
    go_wp2
    go_loop [1, 5] (fun l i => ∃ k : Nat, k ≤ xs.length ∧ i = .int .i64 k ∧ ∃ r : Int, l = .int .i64 r ∧ 0 ≤ r ∧ r ≤ 1048576 ∧ Hid (r + sumB (xs.take k) + xs.length = left)) (fun _ i => xs.length - (intOf i).toNat)
    case atStart => exact ⟨0, Nat.zero_le _, rfl, _, rfl, by omega, by omega, by simp [sumB, Hid]⟩
    case round =>
      obtain ⟨k, hk, rfl, r, rfl, hr0, hr1, HR⟩ := hrel
      by_cases hlt : k < xs.length
      · obtain ⟨ad, rfl, hc, h2⟩ := Rd.elem_str HX.out k hlt
        have ht := Lib.hid (sumB_take xs k hlt)
        by_cases c2 : r - xs[k].size < 0
        · go_wp2
          go_ret
          exact Ret.int (by have := HR.out; have := ht.out; have := sumB_le xs (k+1); unfold strsBulk; rw [szR_no (by omega)]) (Below.refl _ _)
        · go_wp2
          go_round
          case rel => exact ⟨k + 1, by omega, by go_num, _, rfl, by omega, by omega, by have := HR.out; have := ht.out; unfold Hid; omega⟩
          case measure => simp [intOf]; omega
      · go_wp2
        go_ret
        exact Ret.int (by have := HR.out; rw [List.take_of_length_le (by omega)] at this; unfold strsBulk; rw [szR_yes (by omega)]; omega) (Below.refl _ _)

def SzIntS : Prop := ∀ (xs : List Int) (A : Option Addr) (c : Nat) (left : Int) (w : World), Rd w (slD intD 1 xs) (.slice A xs.length c) → 0 ≤ left → left ≤ 1048576 →
    Calls Try.prog 67 #[.slice A xs.length c, .int .i64 left] w (Ret w (.int .i64 (szR xs.length left)))
theorem szIntS_c : SzIntS := by
  intro xs A c left w hx h0 h1
  obtain ⟨_, _, _, hm0, hm1, _⟩ := Rd.slice hx
  unfold maxLen at hm1
  have hm : xs.length ≤ 9223372036854775807 := by omega
  clear hx hm0 hm1
  by_cases c1 : left - xs.length < 0
  · go_enter Try.func67, Try.ntmps67
    go_wp2
    go_ret
    exact Ret.int (by rw [szR_no (by omega)]) (Below.refl _ _)
  · go_enter Try.func67, Try.ntmps67
    go_wp2
    go_ret
    exact Ret.int (by rw [szR_yes (by omega)]) (Below.refl _ _)

def SzValue (v : JValue) : Prop := ∀ (cs : List Value) (left : Int) (w : World), RdL w v.enc cs → 0 ≤ left → left ≤ 1048576 →
    Calls Try.prog 8 #[.agg cs.toArray, .int .i64 left] w (Ret w (.int .i64 (szR (JValue.bulk v) left)))
def SzValueS (xs : List JValue) : Prop := ∀ (A : Option Addr) (c : Nat) (left : Int) (w : World), Rd w (slD JValue.enc 5 xs) (.slice A xs.length c) → 0 ≤ left → left ≤ 1048576 →
    Calls Try.prog 34 #[.slice A xs.length c, .int .i64 left] w (Ret w (.int .i64 (szR (xs.length + JValue.bulks xs) left)))
set_option maxHeartbeats 1600000 in
theorem szValue_of (v : JValue) (hK : SzValueS v.kids) : SzValue v := by
  intro cs left w hcs h0 h1
  obtain ⟨A3, c3, A4, c4, rfl, g3, g4, l2, n3, n4⟩ := JValue.open_ hcs
  have G3 := Lib.hid g3
  have G4 := Lib.hid g4
  have E := Lib.hid (JValue.bulk_eq v)
  have HK := Lib.hid hK
  clear hK
  clear hcs g3 g4
  by_cases d0 : left - (v.text.size : Int) < 0
  · go_enter Try.func8, Try.ntmps8
    go_wp2
    go_ret
    exact Ret.int (by have := E.out; rw [szR_no (by omega)]) (b1 _ _)
  by_cases d1 : ((strsBulk v.names : Nat) : Int) ≤ left - (v.text.size : Int)
  case neg =>
    have e1 := szR_no d1
    go_enter Try.func8, Try.ntmps8
    go_wp2_with fail
    refine (szStringS_c _ _ _ _ _ (G3.out.below (b1 _ _)) (by omega) (by omega)).mono ?_
    rintro e w1 ⟨rfl, hb1⟩
    obtain ⟨hc1, hf1⟩ := bcell hb1
    have hz1 : w.heap.size < w1.heap.size := by have := hb1.size; simp at this; omega
    go_wp2
    go_ret
    exact Ret.int (by have := E.out; rw [szR_no (by omega)]) (bt (b1 _ _) hb1)
  have e1 : szR (strsBulk v.names) (left - (v.text.size : Int)) = left - (v.text.size : Int) - (strsBulk v.names : Int) := by rw [szR_yes d1]; first | done | omega
  by_cases d2 : (((v.kids.length + JValue.bulks v.kids) : Nat) : Int) ≤ left - (v.text.size : Int) - (strsBulk v.names : Int)
  case neg =>
    have e2 := szR_no d2
    go_enter Try.func8, Try.ntmps8
    go_wp2_with fail
    refine (szStringS_c _ _ _ _ _ (G3.out.below (b1 _ _)) (by omega) (by omega)).mono ?_
    rintro e w1 ⟨rfl, hb1⟩
    obtain ⟨hc1, hf1⟩ := bcell hb1
    have hz1 : w.heap.size < w1.heap.size := by have := hb1.size; simp at this; omega
    go_wp2_with fail
    refine (HK.out _ _ _ _ (G4.out.below (bt (b1 _ _) hb1)) (by omega) (by omega)).mono ?_
    rintro e w2 ⟨rfl, hb2⟩
    obtain ⟨hc2, hf2⟩ := bcell hb2
    have hz2 : w.heap.size < w2.heap.size := by have := hb2.size; omega
    go_wp2
    go_ret
    exact Ret.int (by have := E.out; rw [szR_no (by omega)]) (bt (bt (b1 _ _) hb1) hb2)
  have e2 : szR ((v.kids.length + JValue.bulks v.kids)) (left - (v.text.size : Int) - (strsBulk v.names : Int)) = left - (v.text.size : Int) - (strsBulk v.names : Int) - ((v.kids.length : Int) + (JValue.bulks v.kids : Int)) := by rw [szR_yes d2]; first | done | omega
  go_enter Try.func8, Try.ntmps8
  go_wp2_with fail
  refine (szStringS_c _ _ _ _ _ (G3.out.below (b1 _ _)) (by omega) (by omega)).mono ?_
  rintro e w1 ⟨rfl, hb1⟩
  obtain ⟨hc1, hf1⟩ := bcell hb1
  have hz1 : w.heap.size < w1.heap.size := by have := hb1.size; simp at this; omega
  go_wp2_with fail
  refine (HK.out _ _ _ _ (G4.out.below (bt (b1 _ _) hb1)) (by omega) (by omega)).mono ?_
  rintro e w2 ⟨rfl, hb2⟩
  obtain ⟨hc2, hf2⟩ := bcell hb2
  have hz2 : w.heap.size < w2.heap.size := by have := hb2.size; omega
  go_wp2
  go_ret
  exact Ret.int (by have := E.out; rw [szR_yes (by omega)]; omega) (bt (bt (b1 _ _) hb1) hb2)
set_option maxHeartbeats 1600000 in
theorem szValueS_of (xs : List JValue) (hE : ∀ x, x ∈ xs → SzValue x) : SzValueS xs := by
  intro A c left w hx h0 h1
  obtain ⟨_, _, _, hm0, hm1, _⟩ := Rd.slice hx
  unfold maxLen at hm1
  have hm : xs.length ≤ 9223372036854775807 := by omega
  have HX := Lib.hid hx
  have HE := Lib.hid hE
  clear hx hE hm0 hm1
  by_cases c1 : left - xs.length < 0
  · go_enter Try.func34, Try.ntmps34
    go_wp2
    go_ret
    exact Ret.int (by rw [szR_no (by omega)]) (Below.refl _ _)
  · go_enter Try.func34, Try.ntmps34
    go_wp2
    go_loopw [1, 5] (fun l i wr => ∃ k : Nat, k ≤ xs.length ∧ i = .int .i64 k ∧ ∃ r : Int, l = .int .i64 r ∧ 0 ≤ r ∧ r ≤ 1048576 ∧ Hid (r + JValue.bulks (xs.take k) + xs.length = left) ∧ Below w.heap.size w wr) (fun _ i _ => xs.length - (intOf i).toNat)
    case atStart => exact ⟨0, Nat.zero_le _, rfl, _, rfl, by omega, by omega, by simp [JValue.bulks, Hid], Below.refl _ _⟩
    case round =>
      obtain ⟨k, hk, rfl, r, rfl, hr0, hr1, HR, hbr⟩ := hrel
      by_cases hlt : k < xs.length
      · obtain ⟨ad, A3, c3, A4, c4, rfl, hx0, hx1, hx2, hx3, hx4, g3, g4, l2, n3, n4⟩ := JValue.elem (HX.out.below hbr) k hlt
        have ht := Lib.hid (JValue.bulks_take xs k hlt)
        have HM := Lib.hid (HE.out xs[k] (List.getElem_mem hlt))
        have G3 := Lib.hid g3
        clear g3
        have G4 := Lib.hid g4
        clear g4
        by_cases c2 : (JValue.bulk xs[k] : Int) ≤ r
        · have e2 := szR_yes c2
          go_wp2_with (go_at_call 8; refine (HM.out _ _ _ (JValue.close_ _ (G3.out) (G4.out) l2) (by omega) (by omega)).mono ?_; rintro e w1 ⟨rfl, hb1⟩)
          go_roundw
          case rel => exact ⟨k + 1, by omega, by go_num, _, rfl, by omega, by omega, by have := HR.out; have := ht.out; unfold Hid; omega, bt hbr hb1⟩
          case measure => simp [intOf]; omega
        · have e2 := szR_no c2
          go_wp2_with (go_at_call 8; refine (HM.out _ _ _ (JValue.close_ _ (G3.out) (G4.out) l2) (by omega) (by omega)).mono ?_; rintro e w1 ⟨rfl, hb1⟩)
          go_ret
          exact Ret.int (by have := HR.out; have := ht.out; have := JValue.bulks_le xs (k+1); rw [szR_no (by omega)]) (bt hbr hb1)
      · go_wp2
        go_ret
        exact Ret.int (by have := HR.out; rw [List.take_of_length_le (by omega)] at this; rw [szR_yes (by omega)]; omega) hbr
theorem szValue_both : ∀ n, (∀ v : JValue, SizeOf.sizeOf v < n → SzValue v) ∧ (∀ xs : List JValue, SizeOf.sizeOf xs < n → SzValueS xs)
  | 0 => ⟨fun _ h => absurd h (by omega), fun _ h => absurd h (by omega)⟩
  | n + 1 => by
    have ih := szValue_both n
    refine ⟨fun v h => szValue_of v (ih.2 _ (by have := JValue.kids_lt v; omega)), fun xs h => szValueS_of xs (fun x hx => ih.1 x (by have := List.sizeOf_lt_of_mem hx; omega))⟩
theorem szValue_c (v : JValue) : SzValue v := (szValue_both _).1 v (Nat.lt_succ_self _)
theorem szValueS_c (xs : List JValue) : SzValueS xs := (szValue_both _).2 xs (Nat.lt_succ_self _)

def SzCell (v : JCell) : Prop := ∀ (cs : List Value) (left : Int) (w : World), RdL w v.enc cs → 0 ≤ left → left ≤ 1048576 →
    Calls Try.prog 93 #[.agg cs.toArray, .int .i64 left] w (Ret w (.int .i64 (szR (JCell.bulk v) left)))
def SzCellS (xs : List JCell) : Prop := ∀ (A : Option Addr) (c : Nat) (left : Int) (w : World), Rd w (slD JCell.enc 6 xs) (.slice A xs.length c) → 0 ≤ left → left ≤ 1048576 →
    Calls Try.prog 72 #[.slice A xs.length c, .int .i64 left] w (Ret w (.int .i64 (szR (xs.length + JCell.bulks xs) left)))
set_option maxHeartbeats 1600000 in
theorem szCell_of (v : JCell) : SzCell v := by
  intro cs left w hcs h0 h1
  obtain ⟨A4, c4, A5, c5, rfl, g4, g5, l0, l3, n4, n5⟩ := JCell.open_ hcs
  have G4 := Lib.hid g4
  have G5 := Lib.hid g5
  have E := Lib.hid (JCell.bulk_eq v)
  clear hcs g4 g5
  by_cases d0 : left - (v.name.size : Int) < 0
  · go_enter Try.func93, Try.ntmps93
    go_wp2
    go_ret
    exact Ret.int (by have := E.out; rw [szR_no (by omega)]) (b1 _ _)
  by_cases d1 : ((JValue.bulk v.value : Nat) : Int) ≤ left - (v.name.size : Int)
  case neg =>
    have e1 := szR_no d1
    go_enter Try.func93, Try.ntmps93
    go_wp2_with fail
    refine (szValue_c _ _ _ _ (JValue.close_ _ (G4.out.below (b1 _ _)) (G5.out.below (b1 _ _)) l3)  (by omega) (by omega)).mono ?_
    rintro e w1 ⟨rfl, hb1⟩
    obtain ⟨hc1, hf1⟩ := bcell hb1
    have hz1 : w.heap.size < w1.heap.size := by have := hb1.size; simp at this; omega
    go_wp2
    go_ret
    exact Ret.int (by have := E.out; rw [szR_no (by omega)]) (bt (b1 _ _) hb1)
  have e1 : szR (JValue.bulk v.value) (left - (v.name.size : Int)) = left - (v.name.size : Int) - (JValue.bulk v.value : Int) := by rw [szR_yes d1]; first | done | omega
  go_enter Try.func93, Try.ntmps93
  go_wp2_with fail
  refine (szValue_c _ _ _ _ (JValue.close_ _ (G4.out.below (b1 _ _)) (G5.out.below (b1 _ _)) l3)  (by omega) (by omega)).mono ?_
  rintro e w1 ⟨rfl, hb1⟩
  obtain ⟨hc1, hf1⟩ := bcell hb1
  have hz1 : w.heap.size < w1.heap.size := by have := hb1.size; simp at this; omega
  go_wp2
  go_ret
  exact Ret.int (by have := E.out; rw [szR_yes (by omega)]; omega) (bt (b1 _ _) hb1)
set_option maxHeartbeats 1600000 in
theorem szCellS_of (xs : List JCell) (hE : ∀ x, x ∈ xs → SzCell x) : SzCellS xs := by
  intro A c left w hx h0 h1
  obtain ⟨_, _, _, hm0, hm1, _⟩ := Rd.slice hx
  unfold maxLen at hm1
  have hm : xs.length ≤ 9223372036854775807 := by omega
  have HX := Lib.hid hx
  have HE := Lib.hid hE
  clear hx hE hm0 hm1
  by_cases c1 : left - xs.length < 0
  · go_enter Try.func72, Try.ntmps72
    go_wp2
    go_ret
    exact Ret.int (by rw [szR_no (by omega)]) (Below.refl _ _)
  · go_enter Try.func72, Try.ntmps72
    go_wp2
    go_loopw [1, 5] (fun l i wr => ∃ k : Nat, k ≤ xs.length ∧ i = .int .i64 k ∧ ∃ r : Int, l = .int .i64 r ∧ 0 ≤ r ∧ r ≤ 1048576 ∧ Hid (r + JCell.bulks (xs.take k) + xs.length = left) ∧ Below w.heap.size w wr) (fun _ i _ => xs.length - (intOf i).toNat)
    case atStart => exact ⟨0, Nat.zero_le _, rfl, _, rfl, by omega, by omega, by simp [JCell.bulks, Hid], Below.refl _ _⟩
    case round =>
      obtain ⟨k, hk, rfl, r, rfl, hr0, hr1, HR, hbr⟩ := hrel
      by_cases hlt : k < xs.length
      · obtain ⟨ad, A4, c4, A5, c5, rfl, hx0, hx1, hx2, hx3, hx4, hx5, g4, g5, l0, l3, n4, n5⟩ := JCell.elem (HX.out.below hbr) k hlt
        have ht := Lib.hid (JCell.bulks_take xs k hlt)
        have HM := Lib.hid (HE.out xs[k] (List.getElem_mem hlt))
        have G4 := Lib.hid g4
        clear g4
        have G5 := Lib.hid g5
        clear g5
        by_cases c2 : (JCell.bulk xs[k] : Int) ≤ r
        · have e2 := szR_yes c2
          go_wp2_with (go_at_call 93; refine (HM.out _ _ _ (JCell.close_ _ (G4.out) (G5.out) l0 l3) (by omega) (by omega)).mono ?_; rintro e w1 ⟨rfl, hb1⟩)
          go_roundw
          case rel => exact ⟨k + 1, by omega, by go_num, _, rfl, by omega, by omega, by have := HR.out; have := ht.out; unfold Hid; omega, bt hbr hb1⟩
          case measure => simp [intOf]; omega
        · have e2 := szR_no c2
          go_wp2_with (go_at_call 93; refine (HM.out _ _ _ (JCell.close_ _ (G4.out) (G5.out) l0 l3) (by omega) (by omega)).mono ?_; rintro e w1 ⟨rfl, hb1⟩)
          go_ret
          exact Ret.int (by have := HR.out; have := ht.out; have := JCell.bulks_le xs (k+1); rw [szR_no (by omega)]) (bt hbr hb1)
      · go_wp2
        go_ret
        exact Ret.int (by have := HR.out; rw [List.take_of_length_le (by omega)] at this; rw [szR_yes (by omega)]; omega) hbr
theorem szCell_c (v : JCell) : SzCell v := szCell_of v
theorem szCellS_c (xs : List JCell) : SzCellS xs := szCellS_of xs (fun x _ => szCell_c x)

def SzRow (v : JRow) : Prop := ∀ (cs : List Value) (left : Int) (w : World), RdL w v.enc cs → 0 ≤ left → left ≤ 1048576 →
    Calls Try.prog 52 #[.agg cs.toArray, .int .i64 left] w (Ret w (.int .i64 (szR (JRow.bulk v) left)))
def SzRowS (xs : List JRow) : Prop := ∀ (A : Option Addr) (c : Nat) (left : Int) (w : World), Rd w (slD JRow.enc 3 xs) (.slice A xs.length c) → 0 ≤ left → left ≤ 1048576 →
    Calls Try.prog 25 #[.slice A xs.length c, .int .i64 left] w (Ret w (.int .i64 (szR (xs.length + JRow.bulks xs) left)))
set_option maxHeartbeats 1600000 in
theorem szRow_of (v : JRow) : SzRow v := by
  intro cs left w hcs h0 h1
  obtain ⟨A2, c2, rfl, g2, l0, n2⟩ := JRow.open_ hcs
  have G2 := Lib.hid g2
  have E := Lib.hid (JRow.bulk_eq v)
  clear hcs g2
  by_cases d0 : left - (v.typ.size : Int) < 0
  · go_enter Try.func52, Try.ntmps52
    go_wp2
    go_ret
    exact Ret.int (by have := E.out; rw [szR_no (by omega)]) (b1 _ _)
  by_cases d1 : (((v.cells.length + JCell.bulks v.cells) : Nat) : Int) ≤ left - (v.typ.size : Int)
  case neg =>
    have e1 := szR_no d1
    go_enter Try.func52, Try.ntmps52
    go_wp2_with fail
    refine (szCellS_c _ _ _ _ _ (G2.out.below (b1 _ _)) (by omega) (by omega)).mono ?_
    rintro e w1 ⟨rfl, hb1⟩
    obtain ⟨hc1, hf1⟩ := bcell hb1
    have hz1 : w.heap.size < w1.heap.size := by have := hb1.size; simp at this; omega
    go_wp2
    go_ret
    exact Ret.int (by have := E.out; rw [szR_no (by omega)]) (bt (b1 _ _) hb1)
  have e1 : szR ((v.cells.length + JCell.bulks v.cells)) (left - (v.typ.size : Int)) = left - (v.typ.size : Int) - ((v.cells.length : Int) + (JCell.bulks v.cells : Int)) := by rw [szR_yes d1]; first | done | omega
  go_enter Try.func52, Try.ntmps52
  go_wp2_with fail
  refine (szCellS_c _ _ _ _ _ (G2.out.below (b1 _ _)) (by omega) (by omega)).mono ?_
  rintro e w1 ⟨rfl, hb1⟩
  obtain ⟨hc1, hf1⟩ := bcell hb1
  have hz1 : w.heap.size < w1.heap.size := by have := hb1.size; simp at this; omega
  go_wp2
  go_ret
  exact Ret.int (by have := E.out; rw [szR_yes (by omega)]; omega) (bt (b1 _ _) hb1)
set_option maxHeartbeats 1600000 in
theorem szRowS_of (xs : List JRow) (hE : ∀ x, x ∈ xs → SzRow x) : SzRowS xs := by
  intro A c left w hx h0 h1
  obtain ⟨_, _, _, hm0, hm1, _⟩ := Rd.slice hx
  unfold maxLen at hm1
  have hm : xs.length ≤ 9223372036854775807 := by omega
  have HX := Lib.hid hx
  have HE := Lib.hid hE
  clear hx hE hm0 hm1
  by_cases c1 : left - xs.length < 0
  · go_enter Try.func25, Try.ntmps25
    go_wp2
    go_ret
    exact Ret.int (by rw [szR_no (by omega)]) (Below.refl _ _)
  · go_enter Try.func25, Try.ntmps25
    go_wp2
    go_loopw [1, 5] (fun l i wr => ∃ k : Nat, k ≤ xs.length ∧ i = .int .i64 k ∧ ∃ r : Int, l = .int .i64 r ∧ 0 ≤ r ∧ r ≤ 1048576 ∧ Hid (r + JRow.bulks (xs.take k) + xs.length = left) ∧ Below w.heap.size w wr) (fun _ i _ => xs.length - (intOf i).toNat)
    case atStart => exact ⟨0, Nat.zero_le _, rfl, _, rfl, by omega, by omega, by simp [JRow.bulks, Hid], Below.refl _ _⟩
    case round =>
      obtain ⟨k, hk, rfl, r, rfl, hr0, hr1, HR, hbr⟩ := hrel
      by_cases hlt : k < xs.length
      · obtain ⟨ad, A2, c2, rfl, hx0, hx1, hx2, g2, l0, n2⟩ := JRow.elem (HX.out.below hbr) k hlt
        have ht := Lib.hid (JRow.bulks_take xs k hlt)
        have HM := Lib.hid (HE.out xs[k] (List.getElem_mem hlt))
        have G2 := Lib.hid g2
        clear g2
        by_cases c2 : (JRow.bulk xs[k] : Int) ≤ r
        · have e2 := szR_yes c2
          go_wp2_with (go_at_call 52; refine (HM.out _ _ _ (JRow.close_ _ (G2.out) l0) (by omega) (by omega)).mono ?_; rintro e w1 ⟨rfl, hb1⟩)
          go_roundw
          case rel => exact ⟨k + 1, by omega, by go_num, _, rfl, by omega, by omega, by have := HR.out; have := ht.out; unfold Hid; omega, bt hbr hb1⟩
          case measure => simp [intOf]; omega
        · have e2 := szR_no c2
          go_wp2_with (go_at_call 52; refine (HM.out _ _ _ (JRow.close_ _ (G2.out) l0) (by omega) (by omega)).mono ?_; rintro e w1 ⟨rfl, hb1⟩)
          go_ret
          exact Ret.int (by have := HR.out; have := ht.out; have := JRow.bulks_le xs (k+1); rw [szR_no (by omega)]) (bt hbr hb1)
      · go_wp2
        go_ret
        exact Ret.int (by have := HR.out; rw [List.take_of_length_le (by omega)] at this; rw [szR_yes (by omega)]; omega) hbr
theorem szRow_c (v : JRow) : SzRow v := szRow_of v
theorem szRowS_c (xs : List JRow) : SzRowS xs := szRowS_of xs (fun x _ => szRow_c x)

def SzSel (v : JSel) : Prop := ∀ (cs : List Value) (left : Int) (w : World), RdL w v.enc cs → 0 ≤ left → left ≤ 1048576 →
    Calls Try.prog 90 #[.agg cs.toArray, .int .i64 left] w (Ret w (.int .i64 (szR (JSel.bulk v) left)))
def SzSelS (xs : List JSel) : Prop := ∀ (A : Option Addr) (c : Nat) (left : Int) (w : World), Rd w (slD JSel.enc 5 xs) (.slice A xs.length c) → 0 ≤ left → left ≤ 1048576 →
    Calls Try.prog 66 #[.slice A xs.length c, .int .i64 left] w (Ret w (.int .i64 (szR (xs.length + JSel.bulks xs) left)))
set_option maxHeartbeats 1600000 in
theorem szSel_of (v : JSel) (hK : SzSelS v.kids) : SzSel v := by
  intro cs left w hcs h0 h1
  obtain ⟨A4, c4, rfl, g4, l0, l1, n4⟩ := JSel.open_ hcs
  have G4 := Lib.hid g4
  have E := Lib.hid (JSel.bulk_eq v)
  have HK := Lib.hid hK
  clear hK
  clear hcs g4
  by_cases d0 : left - (v.as_.size : Int) < 0
  · go_enter Try.func90, Try.ntmps90
    go_wp2
    go_ret
    exact Ret.int (by have := E.out; rw [szR_no (by omega)]) (b1 _ _)
  by_cases d1 : left - (v.as_.size : Int) - (v.name.size : Int) < 0
  · go_enter Try.func90, Try.ntmps90
    go_wp2
    go_ret
    exact Ret.int (by have := E.out; rw [szR_no (by omega)]) (b1 _ _)
  by_cases d2 : (((v.kids.length + JSel.bulks v.kids) : Nat) : Int) ≤ left - (v.as_.size : Int) - (v.name.size : Int)
  case neg =>
    have e2 := szR_no d2
    go_enter Try.func90, Try.ntmps90
    go_wp2_with fail
    refine (HK.out _ _ _ _ (G4.out.below (b1 _ _)) (by omega) (by omega)).mono ?_
    rintro e w1 ⟨rfl, hb1⟩
    obtain ⟨hc1, hf1⟩ := bcell hb1
    have hz1 : w.heap.size < w1.heap.size := by have := hb1.size; simp at this; omega
    go_wp2
    go_ret
    exact Ret.int (by have := E.out; rw [szR_no (by omega)]) (bt (b1 _ _) hb1)
  have e2 : szR ((v.kids.length + JSel.bulks v.kids)) (left - (v.as_.size : Int) - (v.name.size : Int)) = left - (v.as_.size : Int) - (v.name.size : Int) - ((v.kids.length : Int) + (JSel.bulks v.kids : Int)) := by rw [szR_yes d2]; first | done | omega
  go_enter Try.func90, Try.ntmps90
  go_wp2_with fail
  refine (HK.out _ _ _ _ (G4.out.below (b1 _ _)) (by omega) (by omega)).mono ?_
  rintro e w1 ⟨rfl, hb1⟩
  obtain ⟨hc1, hf1⟩ := bcell hb1
  have hz1 : w.heap.size < w1.heap.size := by have := hb1.size; simp at this; omega
  go_wp2
  go_ret
  exact Ret.int (by have := E.out; rw [szR_yes (by omega)]; omega) (bt (b1 _ _) hb1)
set_option maxHeartbeats 1600000 in
theorem szSelS_of (xs : List JSel) (hE : ∀ x, x ∈ xs → SzSel x) : SzSelS xs := by
  intro A c left w hx h0 h1
  obtain ⟨_, _, _, hm0, hm1, _⟩ := Rd.slice hx
  unfold maxLen at hm1
  have hm : xs.length ≤ 9223372036854775807 := by omega
  have HX := Lib.hid hx
  have HE := Lib.hid hE
  clear hx hE hm0 hm1
  by_cases c1 : left - xs.length < 0
  · go_enter Try.func66, Try.ntmps66
    go_wp2
    go_ret
    exact Ret.int (by rw [szR_no (by omega)]) (Below.refl _ _)
  · go_enter Try.func66, Try.ntmps66
    go_wp2
    go_loopw [1, 5] (fun l i wr => ∃ k : Nat, k ≤ xs.length ∧ i = .int .i64 k ∧ ∃ r : Int, l = .int .i64 r ∧ 0 ≤ r ∧ r ≤ 1048576 ∧ Hid (r + JSel.bulks (xs.take k) + xs.length = left) ∧ Below w.heap.size w wr) (fun _ i _ => xs.length - (intOf i).toNat)
    case atStart => exact ⟨0, Nat.zero_le _, rfl, _, rfl, by omega, by omega, by simp [JSel.bulks, Hid], Below.refl _ _⟩
    case round =>
      obtain ⟨k, hk, rfl, r, rfl, hr0, hr1, HR, hbr⟩ := hrel
      by_cases hlt : k < xs.length
      · obtain ⟨ad, A4, c4, rfl, hx0, hx1, hx2, hx3, hx4, g4, l0, l1, n4⟩ := JSel.elem (HX.out.below hbr) k hlt
        have ht := Lib.hid (JSel.bulks_take xs k hlt)
        have HM := Lib.hid (HE.out xs[k] (List.getElem_mem hlt))
        have G4 := Lib.hid g4
        clear g4
        by_cases c2 : (JSel.bulk xs[k] : Int) ≤ r
        · have e2 := szR_yes c2
          go_wp2_with (go_at_call 90; refine (HM.out _ _ _ (JSel.close_ _ (G4.out) l0 l1) (by omega) (by omega)).mono ?_; rintro e w1 ⟨rfl, hb1⟩)
          go_roundw
          case rel => exact ⟨k + 1, by omega, by go_num, _, rfl, by omega, by omega, by have := HR.out; have := ht.out; unfold Hid; omega, bt hbr hb1⟩
          case measure => simp [intOf]; omega
        · have e2 := szR_no c2
          go_wp2_with (go_at_call 90; refine (HM.out _ _ _ (JSel.close_ _ (G4.out) l0 l1) (by omega) (by omega)).mono ?_; rintro e w1 ⟨rfl, hb1⟩)
          go_ret
          exact Ret.int (by have := HR.out; have := ht.out; have := JSel.bulks_le xs (k+1); rw [szR_no (by omega)]) (bt hbr hb1)
      · go_wp2
        go_ret
        exact Ret.int (by have := HR.out; rw [List.take_of_length_le (by omega)] at this; rw [szR_yes (by omega)]; omega) hbr
theorem szSel_both : ∀ n, (∀ v : JSel, SizeOf.sizeOf v < n → SzSel v) ∧ (∀ xs : List JSel, SizeOf.sizeOf xs < n → SzSelS xs)
  | 0 => ⟨fun _ h => absurd h (by omega), fun _ h => absurd h (by omega)⟩
  | n + 1 => by
    have ih := szSel_both n
    refine ⟨fun v h => szSel_of v (ih.2 _ (by have := JSel.kids_lt v; omega)), fun xs h => szSelS_of xs (fun x hx => ih.1 x (by have := List.sizeOf_lt_of_mem hx; omega))⟩
theorem szSel_c (v : JSel) : SzSel v := (szSel_both _).1 v (Nat.lt_succ_self _)
theorem szSelS_c (xs : List JSel) : SzSelS xs := (szSel_both _).2 xs (Nat.lt_succ_self _)

def SzStep (v : JStep) : Prop := ∀ (cs : List Value) (left : Int) (w : World), RdL w v.enc cs → 0 ≤ left → left ≤ 1048576 →
    Calls Try.prog 42 #[.agg cs.toArray, .int .i64 left] w (Ret w (.int .i64 (szR (JStep.bulk v) left)))
def SzStepS (xs : List JStep) : Prop := ∀ (A : Option Addr) (c : Nat) (left : Int) (w : World), Rd w (slD JStep.enc 6 xs) (.slice A xs.length c) → 0 ≤ left → left ≤ 1048576 →
    Calls Try.prog 15 #[.slice A xs.length c, .int .i64 left] w (Ret w (.int .i64 (szR (xs.length + JStep.bulks xs) left)))
set_option maxHeartbeats 1600000 in
theorem szStep_of (v : JStep) : SzStep v := by
  intro cs left w hcs h0 h1
  obtain ⟨A1, c1, A3, c3, A4, c4, A5, c5, rfl, g1, g3, g4, g5, l2, n1, n3, n4, n5⟩ := JStep.open_ hcs
  have G1 := Lib.hid g1
  have G3 := Lib.hid g3
  have G4 := Lib.hid g4
  have G5 := Lib.hid g5
  have E := Lib.hid (JStep.bulk_eq v)
  clear hcs g1 g3 g4 g5
  by_cases d0 : ((strsBulk v.way : Nat) : Int) ≤ left
  case neg =>
    have e0 := szR_no d0
    go_enter Try.func42, Try.ntmps42
    go_wp2_with fail
    refine (szStringS_c _ _ _ _ _ (G1.out.below (b1 _ _)) (by omega) (by omega)).mono ?_
    rintro e w1 ⟨rfl, hb1⟩
    obtain ⟨hc1, hf1⟩ := bcell hb1
    have hz1 : w.heap.size < w1.heap.size := by have := hb1.size; simp at this; omega
    go_wp2
    go_ret
    exact Ret.int (by have := E.out; rw [szR_no (by omega)]) (bt (b1 _ _) hb1)
  have e0 : szR (strsBulk v.way) (left) = left - (strsBulk v.way : Int) := by rw [szR_yes d0]; first | done | omega
  by_cases d1 : left - (strsBulk v.way : Int) - (v.typ.size : Int) < 0
  · go_enter Try.func42, Try.ntmps42
    go_wp2_with fail
    refine (szStringS_c _ _ _ _ _ (G1.out.below (b1 _ _)) (by omega) (by omega)).mono ?_
    rintro e w1 ⟨rfl, hb1⟩
    obtain ⟨hc1, hf1⟩ := bcell hb1
    have hz1 : w.heap.size < w1.heap.size := by have := hb1.size; simp at this; omega
    go_wp2
    go_ret
    exact Ret.int (by have := E.out; rw [szR_no (by omega)]) (bt (b1 _ _) hb1)
  by_cases d2 : (((v.sels.length + JSel.bulks v.sels) : Nat) : Int) ≤ left - (strsBulk v.way : Int) - (v.typ.size : Int)
  case neg =>
    have e2 := szR_no d2
    go_enter Try.func42, Try.ntmps42
    go_wp2_with fail
    refine (szStringS_c _ _ _ _ _ (G1.out.below (b1 _ _)) (by omega) (by omega)).mono ?_
    rintro e w1 ⟨rfl, hb1⟩
    obtain ⟨hc1, hf1⟩ := bcell hb1
    have hz1 : w.heap.size < w1.heap.size := by have := hb1.size; simp at this; omega
    go_wp2_with fail
    refine (szSelS_c _ _ _ _ _ (G3.out.below (bt (b1 _ _) hb1)) (by omega) (by omega)).mono ?_
    rintro e w2 ⟨rfl, hb2⟩
    obtain ⟨hc2, hf2⟩ := bcell hb2
    have hz2 : w.heap.size < w2.heap.size := by have := hb2.size; omega
    go_wp2
    go_ret
    exact Ret.int (by have := E.out; rw [szR_no (by omega)]) (bt (bt (b1 _ _) hb1) hb2)
  have e2 : szR ((v.sels.length + JSel.bulks v.sels)) (left - (strsBulk v.way : Int) - (v.typ.size : Int)) = left - (strsBulk v.way : Int) - (v.typ.size : Int) - ((v.sels.length : Int) + (JSel.bulks v.sels : Int)) := by rw [szR_yes d2]; first | done | omega
  by_cases d3 : ((v.after_.length : Nat) : Int) ≤ left - (strsBulk v.way : Int) - (v.typ.size : Int) - ((v.sels.length : Int) + (JSel.bulks v.sels : Int))
  case neg =>
    have e3 := szR_no d3
    go_enter Try.func42, Try.ntmps42
    go_wp2_with fail
    refine (szStringS_c _ _ _ _ _ (G1.out.below (b1 _ _)) (by omega) (by omega)).mono ?_
    rintro e w1 ⟨rfl, hb1⟩
    obtain ⟨hc1, hf1⟩ := bcell hb1
    have hz1 : w.heap.size < w1.heap.size := by have := hb1.size; simp at this; omega
    go_wp2_with fail
    refine (szSelS_c _ _ _ _ _ (G3.out.below (bt (b1 _ _) hb1)) (by omega) (by omega)).mono ?_
    rintro e w2 ⟨rfl, hb2⟩
    obtain ⟨hc2, hf2⟩ := bcell hb2
    have hz2 : w.heap.size < w2.heap.size := by have := hb2.size; omega
    go_wp2_with fail
    refine (szIntS_c _ _ _ _ _ (G4.out.below (bt (bt (b1 _ _) hb1) hb2)) (by omega) (by omega)).mono ?_
    rintro e w3 ⟨rfl, hb3⟩
    obtain ⟨hc3, hf3⟩ := bcell hb3
    have hz3 : w.heap.size < w3.heap.size := by have := hb3.size; omega
    go_wp2
    go_ret
    exact Ret.int (by have := E.out; rw [szR_no (by omega)]) (bt (bt (bt (b1 _ _) hb1) hb2) hb3)
  have e3 : szR (v.after_.length) (left - (strsBulk v.way : Int) - (v.typ.size : Int) - ((v.sels.length : Int) + (JSel.bulks v.sels : Int))) = left - (strsBulk v.way : Int) - (v.typ.size : Int) - ((v.sels.length : Int) + (JSel.bulks v.sels : Int)) - (v.after_.length : Int) := by rw [szR_yes d3]; first | done | omega
  by_cases d4 : ((strsBulk v.brings : Nat) : Int) ≤ left - (strsBulk v.way : Int) - (v.typ.size : Int) - ((v.sels.length : Int) + (JSel.bulks v.sels : Int)) - (v.after_.length : Int)
  case neg =>
    have e4 := szR_no d4
    go_enter Try.func42, Try.ntmps42
    go_wp2_with fail
    refine (szStringS_c _ _ _ _ _ (G1.out.below (b1 _ _)) (by omega) (by omega)).mono ?_
    rintro e w1 ⟨rfl, hb1⟩
    obtain ⟨hc1, hf1⟩ := bcell hb1
    have hz1 : w.heap.size < w1.heap.size := by have := hb1.size; simp at this; omega
    go_wp2_with fail
    refine (szSelS_c _ _ _ _ _ (G3.out.below (bt (b1 _ _) hb1)) (by omega) (by omega)).mono ?_
    rintro e w2 ⟨rfl, hb2⟩
    obtain ⟨hc2, hf2⟩ := bcell hb2
    have hz2 : w.heap.size < w2.heap.size := by have := hb2.size; omega
    go_wp2_with fail
    refine (szIntS_c _ _ _ _ _ (G4.out.below (bt (bt (b1 _ _) hb1) hb2)) (by omega) (by omega)).mono ?_
    rintro e w3 ⟨rfl, hb3⟩
    obtain ⟨hc3, hf3⟩ := bcell hb3
    have hz3 : w.heap.size < w3.heap.size := by have := hb3.size; omega
    go_wp2_with fail
    refine (szStringS_c _ _ _ _ _ (G5.out.below (bt (bt (bt (b1 _ _) hb1) hb2) hb3)) (by omega) (by omega)).mono ?_
    rintro e w4 ⟨rfl, hb4⟩
    obtain ⟨hc4, hf4⟩ := bcell hb4
    have hz4 : w.heap.size < w4.heap.size := by have := hb4.size; omega
    go_wp2
    go_ret
    exact Ret.int (by have := E.out; rw [szR_no (by omega)]) (bt (bt (bt (bt (b1 _ _) hb1) hb2) hb3) hb4)
  have e4 : szR (strsBulk v.brings) (left - (strsBulk v.way : Int) - (v.typ.size : Int) - ((v.sels.length : Int) + (JSel.bulks v.sels : Int)) - (v.after_.length : Int)) = left - (strsBulk v.way : Int) - (v.typ.size : Int) - ((v.sels.length : Int) + (JSel.bulks v.sels : Int)) - (v.after_.length : Int) - (strsBulk v.brings : Int) := by rw [szR_yes d4]; first | done | omega
  go_enter Try.func42, Try.ntmps42
  go_wp2_with fail
  refine (szStringS_c _ _ _ _ _ (G1.out.below (b1 _ _)) (by omega) (by omega)).mono ?_
  rintro e w1 ⟨rfl, hb1⟩
  obtain ⟨hc1, hf1⟩ := bcell hb1
  have hz1 : w.heap.size < w1.heap.size := by have := hb1.size; simp at this; omega
  go_wp2_with fail
  refine (szSelS_c _ _ _ _ _ (G3.out.below (bt (b1 _ _) hb1)) (by omega) (by omega)).mono ?_
  rintro e w2 ⟨rfl, hb2⟩
  obtain ⟨hc2, hf2⟩ := bcell hb2
  have hz2 : w.heap.size < w2.heap.size := by have := hb2.size; omega
  go_wp2_with fail
  refine (szIntS_c _ _ _ _ _ (G4.out.below (bt (bt (b1 _ _) hb1) hb2)) (by omega) (by omega)).mono ?_
  rintro e w3 ⟨rfl, hb3⟩
  obtain ⟨hc3, hf3⟩ := bcell hb3
  have hz3 : w.heap.size < w3.heap.size := by have := hb3.size; omega
  go_wp2_with fail
  refine (szStringS_c _ _ _ _ _ (G5.out.below (bt (bt (bt (b1 _ _) hb1) hb2) hb3)) (by omega) (by omega)).mono ?_
  rintro e w4 ⟨rfl, hb4⟩
  obtain ⟨hc4, hf4⟩ := bcell hb4
  have hz4 : w.heap.size < w4.heap.size := by have := hb4.size; omega
  go_wp2
  go_ret
  exact Ret.int (by have := E.out; rw [szR_yes (by omega)]; omega) (bt (bt (bt (bt (b1 _ _) hb1) hb2) hb3) hb4)
set_option maxHeartbeats 1600000 in
theorem szStepS_of (xs : List JStep) (hE : ∀ x, x ∈ xs → SzStep x) : SzStepS xs := by
  intro A c left w hx h0 h1
  obtain ⟨_, _, _, hm0, hm1, _⟩ := Rd.slice hx
  unfold maxLen at hm1
  have hm : xs.length ≤ 9223372036854775807 := by omega
  have HX := Lib.hid hx
  have HE := Lib.hid hE
  clear hx hE hm0 hm1
  by_cases c1 : left - xs.length < 0
  · go_enter Try.func15, Try.ntmps15
    go_wp2
    go_ret
    exact Ret.int (by rw [szR_no (by omega)]) (Below.refl _ _)
  · go_enter Try.func15, Try.ntmps15
    go_wp2
    go_loopw [1, 5] (fun l i wr => ∃ k : Nat, k ≤ xs.length ∧ i = .int .i64 k ∧ ∃ r : Int, l = .int .i64 r ∧ 0 ≤ r ∧ r ≤ 1048576 ∧ Hid (r + JStep.bulks (xs.take k) + xs.length = left) ∧ Below w.heap.size w wr) (fun _ i _ => xs.length - (intOf i).toNat)
    case atStart => exact ⟨0, Nat.zero_le _, rfl, _, rfl, by omega, by omega, by simp [JStep.bulks, Hid], Below.refl _ _⟩
    case round =>
      obtain ⟨k, hk, rfl, r, rfl, hr0, hr1, HR, hbr⟩ := hrel
      by_cases hlt : k < xs.length
      · obtain ⟨ad, A1, c1, A3, c3, A4, c4, A5, c5, rfl, hx0, hx1, hx2, hx3, hx4, hx5, g1, g3, g4, g5, l2, n1, n3, n4, n5⟩ := JStep.elem (HX.out.below hbr) k hlt
        have ht := Lib.hid (JStep.bulks_take xs k hlt)
        have HM := Lib.hid (HE.out xs[k] (List.getElem_mem hlt))
        have G1 := Lib.hid g1
        clear g1
        have G3 := Lib.hid g3
        clear g3
        have G4 := Lib.hid g4
        clear g4
        have G5 := Lib.hid g5
        clear g5
        by_cases c2 : (JStep.bulk xs[k] : Int) ≤ r
        · have e2 := szR_yes c2
          go_wp2_with (go_at_call 42; refine (HM.out _ _ _ (JStep.close_ _ (G1.out) (G3.out) (G4.out) (G5.out) l2) (by omega) (by omega)).mono ?_; rintro e w1 ⟨rfl, hb1⟩)
          go_roundw
          case rel => exact ⟨k + 1, by omega, by go_num, _, rfl, by omega, by omega, by have := HR.out; have := ht.out; unfold Hid; omega, bt hbr hb1⟩
          case measure => simp [intOf]; omega
        · have e2 := szR_no c2
          go_wp2_with (go_at_call 42; refine (HM.out _ _ _ (JStep.close_ _ (G1.out) (G3.out) (G4.out) (G5.out) l2) (by omega) (by omega)).mono ?_; rintro e w1 ⟨rfl, hb1⟩)
          go_ret
          exact Ret.int (by have := HR.out; have := ht.out; have := JStep.bulks_le xs (k+1); rw [szR_no (by omega)]) (bt hbr hb1)
      · go_wp2
        go_ret
        exact Ret.int (by have := HR.out; rw [List.take_of_length_le (by omega)] at this; rw [szR_yes (by omega)]; omega) hbr
theorem szStep_c (v : JStep) : SzStep v := szStep_of v
theorem szStepS_c (xs : List JStep) : SzStepS xs := szStepS_of xs (fun x _ => szStep_c x)

end Go.Proofs.Ytegabeefggcelaa.Lib
