/- Contracts of the laws' size functions: what is left of a number behind a value's bulk, -1 if it isn't enough. Printed by gsz.py. For 0 <= left <= 2^20. -/
import Derived.Test.YtmkagpmdindlpaaProg
import Derived.Test.YtmkagpmdindlpaaBulk
set_option linter.unusedVariables false
set_option linter.unusedSimpArgs false
namespace Go.Proofs.Ytmkagpmdindlpaa.Lib
open Go.RowKit

def SzStringS : Prop := ∀ (xs : List ByteArray) (A : Option Addr) (c : Nat) (left : Int) (w : World), Rd w (slD strD 1 xs) (.slice A xs.length c) → 0 ≤ left → left ≤ 1048576 →
    Calls Try.prog 147 #[.slice A xs.length c, .int .i64 left] w (Ret w (.int .i64 (szR (strsBulk xs) left)))
set_option maxHeartbeats 800000 in
theorem szStringS_c : SzStringS := by
  intro xs A c left w hx h0 h1
  obtain ⟨_, _, _, hm0, hm1, _⟩ := Rd.slice hx
  unfold maxLen at hm1
  have hm : xs.length ≤ 9223372036854775807 := by omega
  have HX := Lib.hid hx
  clear hx hm0 hm1
  by_cases c1 : left - xs.length < 0
  · go_enter Try.func147, Try.ntmps147
    go_wp2
    go_ret
    exact Ret.int (by unfold strsBulk; rw [szR_no (by omega)]) (Below.refl _ _)
  · go_enter Try.func147, Try.ntmps147
    go_wp2
    go_loop [1, 5] (fun l i => ∃ k : Nat, k ≤ xs.length ∧ i = .int .i64 k ∧ ∃ r : Int, l = .int .i64 r ∧ 0 ≤ r ∧ r ≤ 1048576 ∧ Hid (r + sumB (xs.take k) + xs.length = left)) (fun _ i => xs.length - (intOf i).toNat)
    case atStart => exact ⟨0, Nat.zero_le _, rfl, _, rfl, by omega, by omega, by simp [sumB, Hid]⟩
    case round =>
      obtain ⟨k, hk, rfl, r, rfl, hr0, hr1, HR⟩ := hrel
      by_cases hlt : k < xs.length
      · obtain ⟨ad, rfl, hc, h2⟩ := Rd.elem_str HX.out k hlt
        have ht := Lib.hid (sumB_take xs k hlt)
        by_cases c2 : r - xs[k].size < 0
        · go_wp2
          go_ret
          exact Ret.int (by have := HR.out; have := ht.out; have := sumB_le xs (k+1); unfold strsBulk; rw [szR_no (by omega)]) (Below.refl _ _)
        · go_wp2
          go_round
          case rel => exact ⟨k + 1, by omega, by go_num, _, rfl, by omega, by omega, by have := HR.out; have := ht.out; unfold Hid; omega⟩
          case measure => simp [intOf]; omega
      · go_wp2
        go_ret
        exact Ret.int (by have := HR.out; rw [List.take_of_length_le (by omega)] at this; unfold strsBulk; rw [szR_yes (by omega)]; omega) (Below.refl _ _)

def SzIntS : Prop := ∀ (xs : List Int) (A : Option Addr) (c : Nat) (left : Int) (w : World), Rd w (slD intD 1 xs) (.slice A xs.length c) → 0 ≤ left → left ≤ 1048576 →
    Calls Try.prog 115 #[.slice A xs.length c, .int .i64 left] w (Ret w (.int .i64 (szR xs.length left)))
theorem szIntS_c : SzIntS := by
  intro xs A c left w hx h0 h1
  obtain ⟨_, _, _, hm0, hm1, _⟩ := Rd.slice hx
  unfold maxLen at hm1
  have hm : xs.length ≤ 9223372036854775807 := by omega
  clear hx hm0 hm1
  by_cases c1 : left - xs.length < 0
  · go_enter Try.func115, Try.ntmps115
    go_wp2
    go_ret
    exact Ret.int (by rw [szR_no (by omega)]) (Below.refl _ _)
  · go_enter Try.func115, Try.ntmps115
    go_wp2
    go_ret
    exact Ret.int (by rw [szR_yes (by omega)]) (Below.refl _ _)

def SzField (v : JField) : Prop := ∀ (cs : List Value) (left : Int) (w : World), RdL w v.enc cs → 0 ≤ left → left ≤ 1048576 →
    Calls Try.prog 140 #[.agg cs.toArray, .int .i64 left] w (Ret w (.int .i64 (szR (JField.bulk v) left)))
def SzFieldS (xs : List JField) : Prop := ∀ (A : Option Addr) (c : Nat) (left : Int) (w : World), Rd w (slD JField.enc 8 xs) (.slice A xs.length c) → 0 ≤ left → left ≤ 1048576 →
    Calls Try.prog 117 #[.slice A xs.length c, .int .i64 left] w (Ret w (.int .i64 (szR (xs.length + JField.bulks xs) left)))
set_option maxHeartbeats 1600000 in
theorem szField_of (v : JField) : SzField v := by
  intro cs left w hcs h0 h1
  obtain ⟨A7, c7, rfl, g7, l0, l1, n7⟩ := JField.open_ hcs
  have G7 := Lib.hid g7
  have E := Lib.hid (JField.bulk_eq v)
  clear hcs g7
  by_cases d0 : left - (v.name.size : Int) < 0
  · go_enter Try.func140, Try.ntmps140
    go_wp2
    go_ret
    exact Ret.int (by have := E.out; rw [szR_no (by omega)]) (b1 _ _)
  by_cases d1 : left - (v.name.size : Int) - (v.of.size : Int) < 0
  · go_enter Try.func140, Try.ntmps140
    go_wp2
    go_ret
    exact Ret.int (by have := E.out; rw [szR_no (by omega)]) (b1 _ _)
  by_cases d2 : ((strsBulk v.needs : Nat) : Int) ≤ left - (v.name.size : Int) - (v.of.size : Int)
  case neg =>
    have e2 := szR_no d2
    go_enter Try.func140, Try.ntmps140
    go_wp2_with fail
    refine (szStringS_c _ _ _ _ _ (G7.out.below (b1 _ _)) (by omega) (by omega)).mono ?_
    rintro e w1 ⟨rfl, hb1⟩
    obtain ⟨hc1, hf1⟩ := bcell hb1
    have hz1 : w.heap.size < w1.heap.size := by have := hb1.size; simp at this; omega
    go_wp2
    go_ret
    exact Ret.int (by have := E.out; rw [szR_no (by omega)]) (bt (b1 _ _) hb1)
  have e2 : szR (strsBulk v.needs) (left - (v.name.size : Int) - (v.of.size : Int)) = left - (v.name.size : Int) - (v.of.size : Int) - (strsBulk v.needs : Int) := by rw [szR_yes d2]; first | done | omega
  go_enter Try.func140, Try.ntmps140
  go_wp2_with fail
  refine (szStringS_c _ _ _ _ _ (G7.out.below (b1 _ _)) (by omega) (by omega)).mono ?_
  rintro e w1 ⟨rfl, hb1⟩
  obtain ⟨hc1, hf1⟩ := bcell hb1
  have hz1 : w.heap.size < w1.heap.size := by have := hb1.size; simp at this; omega
  go_wp2
  go_ret
  exact Ret.int (by have := E.out; rw [szR_yes (by omega)]; omega) (bt (b1 _ _) hb1)
set_option maxHeartbeats 1600000 in
theorem szFieldS_of (xs : List JField) (hE : ∀ x, x ∈ xs → SzField x) : SzFieldS xs := by
  intro A c left w hx h0 h1
  obtain ⟨_, _, _, hm0, hm1, _⟩ := Rd.slice hx
  unfold maxLen at hm1
  have hm : xs.length ≤ 9223372036854775807 := by omega
  have HX := Lib.hid hx
  have HE := Lib.hid hE
  clear hx hE hm0 hm1
  by_cases c1 : left - xs.length < 0
  · go_enter Try.func117, Try.ntmps117
    go_wp2
    go_ret
    exact Ret.int (by rw [szR_no (by omega)]) (Below.refl _ _)
  · go_enter Try.func117, Try.ntmps117
    go_wp2
    go_loopw [1, 5] (fun l i wr => ∃ k : Nat, k ≤ xs.length ∧ i = .int .i64 k ∧ ∃ r : Int, l = .int .i64 r ∧ 0 ≤ r ∧ r ≤ 1048576 ∧ Hid (r + JField.bulks (xs.take k) + xs.length = left) ∧ Below w.heap.size w wr) (fun _ i _ => xs.length - (intOf i).toNat)
    case atStart => exact ⟨0, Nat.zero_le _, rfl, _, rfl, by omega, by omega, by simp [JField.bulks, Hid], Below.refl _ _⟩
    case round =>
      obtain ⟨k, hk, rfl, r, rfl, hr0, hr1, HR, hbr⟩ := hrel
      by_cases hlt : k < xs.length
      · obtain ⟨ad, A7, c7, rfl, hx0, hx1, hx2, hx3, hx4, hx5, hx6, hx7, g7, l0, l1, n7⟩ := JField.elem (HX.out.below hbr) k hlt
        have ht := Lib.hid (JField.bulks_take xs k hlt)
        have HM := Lib.hid (HE.out xs[k] (List.getElem_mem hlt))
        have G7 := Lib.hid g7
        clear g7
        by_cases c2 : (JField.bulk xs[k] : Int) ≤ r
        · have e2 := szR_yes c2
          go_wp2_with (go_at_call 140; refine (HM.out _ _ _ (JField.close_ _ (G7.out) l0 l1) (by omega) (by omega)).mono ?_; rintro e w1 ⟨rfl, hb1⟩)
          go_roundw
          case rel => exact ⟨k + 1, by omega, by go_num, _, rfl, by omega, by omega, by have := HR.out; have := ht.out; unfold Hid; omega, bt hbr hb1⟩
          case measure => simp [intOf]; omega
        · have e2 := szR_no c2
          go_wp2_with (go_at_call 140; refine (HM.out _ _ _ (JField.close_ _ (G7.out) l0 l1) (by omega) (by omega)).mono ?_; rintro e w1 ⟨rfl, hb1⟩)
          go_ret
          exact Ret.int (by have := HR.out; have := ht.out; have := JField.bulks_le xs (k+1); rw [szR_no (by omega)]) (bt hbr hb1)
      · go_wp2
        go_ret
        exact Ret.int (by have := HR.out; rw [List.take_of_length_le (by omega)] at this; rw [szR_yes (by omega)]; omega) hbr
theorem szField_c (v : JField) : SzField v := szField_of v
theorem szFieldS_c (xs : List JField) : SzFieldS xs := szFieldS_of xs (fun x _ => szField_c x)

def SzTyp (v : JTyp) : Prop := ∀ (cs : List Value) (left : Int) (w : World), RdL w v.enc cs → 0 ≤ left → left ≤ 1048576 →
    Calls Try.prog 85 #[.agg cs.toArray, .int .i64 left] w (Ret w (.int .i64 (szR (JTyp.bulk v) left)))
def SzTypS (xs : List JTyp) : Prop := ∀ (A : Option Addr) (c : Nat) (left : Int) (w : World), Rd w (slD JTyp.enc 3 xs) (.slice A xs.length c) → 0 ≤ left → left ≤ 1048576 →
    Calls Try.prog 56 #[.slice A xs.length c, .int .i64 left] w (Ret w (.int .i64 (szR (xs.length + JTyp.bulks xs) left)))
set_option maxHeartbeats 1600000 in
theorem szTyp_of (v : JTyp) : SzTyp v := by
  intro cs left w hcs h0 h1
  obtain ⟨A2, c2, rfl, g2, l0, l1, n2⟩ := JTyp.open_ hcs
  have G2 := Lib.hid g2
  have E := Lib.hid (JTyp.bulk_eq v)
  clear hcs g2
  by_cases d0 : left - (v.name.size : Int) < 0
  · go_enter Try.func85, Try.ntmps85
    go_wp2
    go_ret
    exact Ret.int (by have := E.out; rw [szR_no (by omega)]) (b1 _ _)
  by_cases d1 : left - (v.name.size : Int) - (v.key.size : Int) < 0
  · go_enter Try.func85, Try.ntmps85
    go_wp2
    go_ret
    exact Ret.int (by have := E.out; rw [szR_no (by omega)]) (b1 _ _)
  by_cases d2 : (((v.fields.length + JField.bulks v.fields) : Nat) : Int) ≤ left - (v.name.size : Int) - (v.key.size : Int)
  case neg =>
    have e2 := szR_no d2
    go_enter Try.func85, Try.ntmps85
    go_wp2_with fail
    refine (szFieldS_c _ _ _ _ _ (G2.out.below (b1 _ _)) (by omega) (by omega)).mono ?_
    rintro e w1 ⟨rfl, hb1⟩
    obtain ⟨hc1, hf1⟩ := bcell hb1
    have hz1 : w.heap.size < w1.heap.size := by have := hb1.size; simp at this; omega
    go_wp2
    go_ret
    exact Ret.int (by have := E.out; rw [szR_no (by omega)]) (bt (b1 _ _) hb1)
  have e2 : szR ((v.fields.length + JField.bulks v.fields)) (left - (v.name.size : Int) - (v.key.size : Int)) = left - (v.name.size : Int) - (v.key.size : Int) - ((v.fields.length : Int) + (JField.bulks v.fields : Int)) := by rw [szR_yes d2]; first | done | omega
  go_enter Try.func85, Try.ntmps85
  go_wp2_with fail
  refine (szFieldS_c _ _ _ _ _ (G2.out.below (b1 _ _)) (by omega) (by omega)).mono ?_
  rintro e w1 ⟨rfl, hb1⟩
  obtain ⟨hc1, hf1⟩ := bcell hb1
  have hz1 : w.heap.size < w1.heap.size := by have := hb1.size; simp at this; omega
  go_wp2
  go_ret
  exact Ret.int (by have := E.out; rw [szR_yes (by omega)]; omega) (bt (b1 _ _) hb1)
set_option maxHeartbeats 1600000 in
theorem szTypS_of (xs : List JTyp) (hE : ∀ x, x ∈ xs → SzTyp x) : SzTypS xs := by
  intro A c left w hx h0 h1
  obtain ⟨_, _, _, hm0, hm1, _⟩ := Rd.slice hx
  unfold maxLen at hm1
  have hm : xs.length ≤ 9223372036854775807 := by omega
  have HX := Lib.hid hx
  have HE := Lib.hid hE
  clear hx hE hm0 hm1
  by_cases c1 : left - xs.length < 0
  · go_enter Try.func56, Try.ntmps56
    go_wp2
    go_ret
    exact Ret.int (by rw [szR_no (by omega)]) (Below.refl _ _)
  · go_enter Try.func56, Try.ntmps56
    go_wp2
    go_loopw [1, 5] (fun l i wr => ∃ k : Nat, k ≤ xs.length ∧ i = .int .i64 k ∧ ∃ r : Int, l = .int .i64 r ∧ 0 ≤ r ∧ r ≤ 1048576 ∧ Hid (r + JTyp.bulks (xs.take k) + xs.length = left) ∧ Below w.heap.size w wr) (fun _ i _ => xs.length - (intOf i).toNat)
    case atStart => exact ⟨0, Nat.zero_le _, rfl, _, rfl, by omega, by omega, by simp [JTyp.bulks, Hid], Below.refl _ _⟩
    case round =>
      obtain ⟨k, hk, rfl, r, rfl, hr0, hr1, HR, hbr⟩ := hrel
      by_cases hlt : k < xs.length
      · obtain ⟨ad, A2, c2, rfl, hx0, hx1, hx2, g2, l0, l1, n2⟩ := JTyp.elem (HX.out.below hbr) k hlt
        have ht := Lib.hid (JTyp.bulks_take xs k hlt)
        have HM := Lib.hid (HE.out xs[k] (List.getElem_mem hlt))
        have G2 := Lib.hid g2
        clear g2
        by_cases c2 : (JTyp.bulk xs[k] : Int) ≤ r
        · have e2 := szR_yes c2
          go_wp2_with (go_at_call 85; refine (HM.out _ _ _ (JTyp.close_ _ (G2.out) l0 l1) (by omega) (by omega)).mono ?_; rintro e w1 ⟨rfl, hb1⟩)
          go_roundw
          case rel => exact ⟨k + 1, by omega, by go_num, _, rfl, by omega, by omega, by have := HR.out; have := ht.out; unfold Hid; omega, bt hbr hb1⟩
          case measure => simp [intOf]; omega
        · have e2 := szR_no c2
          go_wp2_with (go_at_call 85; refine (HM.out _ _ _ (JTyp.close_ _ (G2.out) l0 l1) (by omega) (by omega)).mono ?_; rintro e w1 ⟨rfl, hb1⟩)
          go_ret
          exact Ret.int (by have := HR.out; have := ht.out; have := JTyp.bulks_le xs (k+1); rw [szR_no (by omega)]) (bt hbr hb1)
      · go_wp2
        go_ret
        exact Ret.int (by have := HR.out; rw [List.take_of_length_le (by omega)] at this; rw [szR_yes (by omega)]; omega) hbr
theorem szTyp_c (v : JTyp) : SzTyp v := szTyp_of v
theorem szTypS_c (xs : List JTyp) : SzTypS xs := szTypS_of xs (fun x _ => szTyp_c x)

def SzPart (v : JPart) : Prop := ∀ (cs : List Value) (left : Int) (w : World), RdL w v.enc cs → 0 ≤ left → left ≤ 1048576 →
    Calls Try.prog 22 #[.agg cs.toArray, .int .i64 left] w (Ret w (.int .i64 (szR (JPart.bulk v) left)))
set_option maxHeartbeats 1600000 in
theorem szPart_of (v : JPart) : SzPart v := by
  intro cs left w hcs h0 h1
  obtain ⟨A1, c1, rfl, g1, l0, n1⟩ := JPart.open_ hcs
  have G1 := Lib.hid g1
  have E := Lib.hid (JPart.bulk_eq v)
  clear hcs g1
  by_cases d0 : left - (v.name.size : Int) < 0
  · go_enter Try.func22, Try.ntmps22
    go_wp2
    go_ret
    exact Ret.int (by have := E.out; rw [szR_no (by omega)]) (b1 _ _)
  by_cases d1 : (((v.types.length + JTyp.bulks v.types) : Nat) : Int) ≤ left - (v.name.size : Int)
  case neg =>
    have e1 := szR_no d1
    go_enter Try.func22, Try.ntmps22
    go_wp2_with fail
    refine (szTypS_c _ _ _ _ _ (G1.out.below (b1 _ _)) (by omega) (by omega)).mono ?_
    rintro e w1 ⟨rfl, hb1⟩
    obtain ⟨hc1, hf1⟩ := bcell hb1
    have hz1 : w.heap.size < w1.heap.size := by have := hb1.size; simp at this; omega
    go_wp2
    go_ret
    exact Ret.int (by have := E.out; rw [szR_no (by omega)]) (bt (b1 _ _) hb1)
  have e1 : szR ((v.types.length + JTyp.bulks v.types)) (left - (v.name.size : Int)) = left - (v.name.size : Int) - ((v.types.length : Int) + (JTyp.bulks v.types : Int)) := by rw [szR_yes d1]; first | done | omega
  go_enter Try.func22, Try.ntmps22
  go_wp2_with fail
  refine (szTypS_c _ _ _ _ _ (G1.out.below (b1 _ _)) (by omega) (by omega)).mono ?_
  rintro e w1 ⟨rfl, hb1⟩
  obtain ⟨hc1, hf1⟩ := bcell hb1
  have hz1 : w.heap.size < w1.heap.size := by have := hb1.size; simp at this; omega
  go_wp2
  go_ret
  exact Ret.int (by have := E.out; rw [szR_yes (by omega)]; omega) (bt (b1 _ _) hb1)
theorem szPart_c (v : JPart) : SzPart v := szPart_of v
def SzOwner (v : JOwner) : Prop := ∀ (cs : List Value) (left : Int) (w : World), RdL w v.enc cs → 0 ≤ left → left ≤ 1048576 →
    Calls Try.prog 82 #[.agg cs.toArray, .int .i64 left] w (Ret w (.int .i64 (szR (JOwner.bulk v) left)))
def SzOwnerS (xs : List JOwner) : Prop := ∀ (A : Option Addr) (c : Nat) (left : Int) (w : World), Rd w (slD JOwner.enc 3 xs) (.slice A xs.length c) → 0 ≤ left → left ≤ 1048576 →
    Calls Try.prog 49 #[.slice A xs.length c, .int .i64 left] w (Ret w (.int .i64 (szR (xs.length + JOwner.bulks xs) left)))
set_option maxHeartbeats 1600000 in
theorem szOwner_of (v : JOwner) : SzOwner v := by
  intro cs left w hcs h0 h1
  obtain ⟨A2, c2, rfl, g2, l0, l1, n2⟩ := JOwner.open_ hcs
  have G2 := Lib.hid g2
  have E := Lib.hid (JOwner.bulk_eq v)
  clear hcs g2
  by_cases d0 : left - (v.typ.size : Int) < 0
  · go_enter Try.func82, Try.ntmps82
    go_wp2
    go_ret
    exact Ret.int (by have := E.out; rw [szR_no (by omega)]) (b1 _ _)
  by_cases d1 : left - (v.typ.size : Int) - (v.field.size : Int) < 0
  · go_enter Try.func82, Try.ntmps82
    go_wp2
    go_ret
    exact Ret.int (by have := E.out; rw [szR_no (by omega)]) (b1 _ _)
  by_cases d2 : ((v.parts.length : Nat) : Int) ≤ left - (v.typ.size : Int) - (v.field.size : Int)
  case neg =>
    have e2 := szR_no d2
    go_enter Try.func82, Try.ntmps82
    go_wp2_with fail
    refine (szIntS_c _ _ _ _ _ (G2.out.below (b1 _ _)) (by omega) (by omega)).mono ?_
    rintro e w1 ⟨rfl, hb1⟩
    obtain ⟨hc1, hf1⟩ := bcell hb1
    have hz1 : w.heap.size < w1.heap.size := by have := hb1.size; simp at this; omega
    go_wp2
    go_ret
    exact Ret.int (by have := E.out; rw [szR_no (by omega)]) (bt (b1 _ _) hb1)
  have e2 : szR (v.parts.length) (left - (v.typ.size : Int) - (v.field.size : Int)) = left - (v.typ.size : Int) - (v.field.size : Int) - (v.parts.length : Int) := by rw [szR_yes d2]; first | done | omega
  go_enter Try.func82, Try.ntmps82
  go_wp2_with fail
  refine (szIntS_c _ _ _ _ _ (G2.out.below (b1 _ _)) (by omega) (by omega)).mono ?_
  rintro e w1 ⟨rfl, hb1⟩
  obtain ⟨hc1, hf1⟩ := bcell hb1
  have hz1 : w.heap.size < w1.heap.size := by have := hb1.size; simp at this; omega
  go_wp2
  go_ret
  exact Ret.int (by have := E.out; rw [szR_yes (by omega)]; omega) (bt (b1 _ _) hb1)
set_option maxHeartbeats 1600000 in
theorem szOwnerS_of (xs : List JOwner) (hE : ∀ x, x ∈ xs → SzOwner x) : SzOwnerS xs := by
  intro A c left w hx h0 h1
  obtain ⟨_, _, _, hm0, hm1, _⟩ := Rd.slice hx
  unfold maxLen at hm1
  have hm : xs.length ≤ 9223372036854775807 := by omega
  have HX := Lib.hid hx
  have HE := Lib.hid hE
  clear hx hE hm0 hm1
  by_cases c1 : left - xs.length < 0
  · go_enter Try.func49, Try.ntmps49
    go_wp2
    go_ret
    exact Ret.int (by rw [szR_no (by omega)]) (Below.refl _ _)
  · go_enter Try.func49, Try.ntmps49
    go_wp2
    go_loopw [1, 5] (fun l i wr => ∃ k : Nat, k ≤ xs.length ∧ i = .int .i64 k ∧ ∃ r : Int, l = .int .i64 r ∧ 0 ≤ r ∧ r ≤ 1048576 ∧ Hid (r + JOwner.bulks (xs.take k) + xs.length = left) ∧ Below w.heap.size w wr) (fun _ i _ => xs.length - (intOf i).toNat)
    case atStart => exact ⟨0, Nat.zero_le _, rfl, _, rfl, by omega, by omega, by simp [JOwner.bulks, Hid], Below.refl _ _⟩
    case round =>
      obtain ⟨k, hk, rfl, r, rfl, hr0, hr1, HR, hbr⟩ := hrel
      by_cases hlt : k < xs.length
      · obtain ⟨ad, A2, c2, rfl, hx0, hx1, hx2, g2, l0, l1, n2⟩ := JOwner.elem (HX.out.below hbr) k hlt
        have ht := Lib.hid (JOwner.bulks_take xs k hlt)
        have HM := Lib.hid (HE.out xs[k] (List.getElem_mem hlt))
        have G2 := Lib.hid g2
        clear g2
        by_cases c2 : (JOwner.bulk xs[k] : Int) ≤ r
        · have e2 := szR_yes c2
          go_wp2_with (go_at_call 82; refine (HM.out _ _ _ (JOwner.close_ _ (G2.out) l0 l1) (by omega) (by omega)).mono ?_; rintro e w1 ⟨rfl, hb1⟩)
          go_roundw
          case rel => exact ⟨k + 1, by omega, by go_num, _, rfl, by omega, by omega, by have := HR.out; have := ht.out; unfold Hid; omega, bt hbr hb1⟩
          case measure => simp [intOf]; omega
        · have e2 := szR_no c2
          go_wp2_with (go_at_call 82; refine (HM.out _ _ _ (JOwner.close_ _ (G2.out) l0 l1) (by omega) (by omega)).mono ?_; rintro e w1 ⟨rfl, hb1⟩)
          go_ret
          exact Ret.int (by have := HR.out; have := ht.out; have := JOwner.bulks_le xs (k+1); rw [szR_no (by omega)]) (bt hbr hb1)
      · go_wp2
        go_ret
        exact Ret.int (by have := HR.out; rw [List.take_of_length_le (by omega)] at this; rw [szR_yes (by omega)]; omega) hbr
theorem szOwner_c (v : JOwner) : SzOwner v := szOwner_of v
theorem szOwnerS_c (xs : List JOwner) : SzOwnerS xs := szOwnerS_of xs (fun x _ => szOwner_c x)

def SzChart (v : JChart) : Prop := ∀ (cs : List Value) (left : Int) (w : World), RdL w v.enc cs → 0 ≤ left → left ≤ 1048576 →
    Calls Try.prog 13 #[.agg cs.toArray, .int .i64 left] w (Ret w (.int .i64 (szR (JChart.bulk v) left)))
set_option maxHeartbeats 1600000 in
theorem szChart_of (v : JChart) : SzChart v := by
  intro cs left w hcs h0 h1
  obtain ⟨A1, c1, A2, c2, rfl, g1, g2, l0, n1, n2⟩ := JChart.open_ hcs
  have G1 := Lib.hid g1
  have G2 := Lib.hid g2
  have E := Lib.hid (JChart.bulk_eq v)
  clear hcs g1 g2
  by_cases d0 : ((JPart.bulk v.all : Nat) : Int) ≤ left
  case neg =>
    have e0 := szR_no d0
    go_enter Try.func13, Try.ntmps13
    go_wp2_with fail
    refine (szPart_c _ _ _ _ (JPart.close_ _ (G1.out.below (b1 _ _)) l0)  (by omega) (by omega)).mono ?_
    rintro e w1 ⟨rfl, hb1⟩
    obtain ⟨hc1, hf1⟩ := bcell hb1
    have hz1 : w.heap.size < w1.heap.size := by have := hb1.size; simp at this; omega
    go_wp2
    go_ret
    exact Ret.int (by have := E.out; rw [szR_no (by omega)]) (bt (b1 _ _) hb1)
  have e0 : szR (JPart.bulk v.all) (left) = left - (JPart.bulk v.all : Int) := by rw [szR_yes d0]; first | done | omega
  by_cases d1 : (((v.owners.length + JOwner.bulks v.owners) : Nat) : Int) ≤ left - (JPart.bulk v.all : Int)
  case neg =>
    have e1 := szR_no d1
    go_enter Try.func13, Try.ntmps13
    go_wp2_with fail
    refine (szPart_c _ _ _ _ (JPart.close_ _ (G1.out.below (b1 _ _)) l0)  (by omega) (by omega)).mono ?_
    rintro e w1 ⟨rfl, hb1⟩
    obtain ⟨hc1, hf1⟩ := bcell hb1
    have hz1 : w.heap.size < w1.heap.size := by have := hb1.size; simp at this; omega
    go_wp2_with fail
    refine (szOwnerS_c _ _ _ _ _ (G2.out.below (bt (b1 _ _) hb1)) (by omega) (by omega)).mono ?_
    rintro e w2 ⟨rfl, hb2⟩
    obtain ⟨hc2, hf2⟩ := bcell hb2
    have hz2 : w.heap.size < w2.heap.size := by have := hb2.size; omega
    go_wp2
    go_ret
    exact Ret.int (by have := E.out; rw [szR_no (by omega)]) (bt (bt (b1 _ _) hb1) hb2)
  have e1 : szR ((v.owners.length + JOwner.bulks v.owners)) (left - (JPart.bulk v.all : Int)) = left - (JPart.bulk v.all : Int) - ((v.owners.length : Int) + (JOwner.bulks v.owners : Int)) := by rw [szR_yes d1]; first | done | omega
  go_enter Try.func13, Try.ntmps13
  go_wp2_with fail
  refine (szPart_c _ _ _ _ (JPart.close_ _ (G1.out.below (b1 _ _)) l0)  (by omega) (by omega)).mono ?_
  rintro e w1 ⟨rfl, hb1⟩
  obtain ⟨hc1, hf1⟩ := bcell hb1
  have hz1 : w.heap.size < w1.heap.size := by have := hb1.size; simp at this; omega
  go_wp2_with fail
  refine (szOwnerS_c _ _ _ _ _ (G2.out.below (bt (b1 _ _) hb1)) (by omega) (by omega)).mono ?_
  rintro e w2 ⟨rfl, hb2⟩
  obtain ⟨hc2, hf2⟩ := bcell hb2
  have hz2 : w.heap.size < w2.heap.size := by have := hb2.size; omega
  go_wp2
  go_ret
  exact Ret.int (by have := E.out; rw [szR_yes (by omega)]; omega) (bt (bt (b1 _ _) hb1) hb2)
theorem szChart_c : ∀ v, SzChart v := szChart_of
end Go.Proofs.Ytmkagpmdindlpaa.Lib
