/- Contracts of the laws' copying functions: the same value, in new memory through and through. Printed by gto.py. Lists' sizes as far as memory goes. -/
import Derived.Test.YtegabeefggcelaaProg
import Derived.Test.YtegabeefggcelaaBulk
import Derived.Test.YtegabeefggcelaaOwnLib
set_option linter.unusedVariables false
set_option linter.unusedSimpArgs false
namespace Go.Proofs.Ytegabeefggcelaa.Lib
open Go.RowKit

theorem info_str : (Try.prog.info? 9).map (fun i => (i.zero, i.size, i.bytes)) = some (some (.string ⟨#[]⟩), 1, 16) := by kernel_rfl
theorem zero_str (w : World) : OwnRow w [.str ⟨#[]⟩] (#[.string ⟨#[]⟩] : Array Value).toList [] := .str (by decide) (.nil w)
def ToStringS (xs : List ByteArray) : Prop := ∀ (A : Option Addr) (c : Nat) (w : World), Rd w (slD strD 1 xs) (.slice A xs.length c) → bulkL ((fun s : ByteArray => s.size)) xs ≤ 1048576 →
    Calls Try.prog 36 #[.slice A xs.length c] w (Made1 w (slD strD 1 xs))
set_option maxHeartbeats 1600000 in
theorem toStringS_c (xs : List ByteArray) : ToStringS xs := by
  intro A c w hx hbk
  have hl : xs.length ≤ 1048576 := by unfold bulkL at hbk; omega
  clear hbk
  obtain ⟨i0, hi, hz0, hz1, hz2⟩ := info_parts info_str
  have HX := Lib.hid hx
  clear hx
  go_enter Try.func36, Try.ntmps36
  go_wp2_with (at_make; refine wpList_make_full _ rfl (.tmp 6) (.tmp 6) 23 rfl w.heap.size 9 i0 (.string ⟨#[]⟩) 1 Try.underlying23 hi hz0 hz1 .i64 .i64 _ _ xs.length rfl rfl rfl rfl ?hb2 ?hb3 ?hb4 ?_)
  case hb2 => rw [hz2]; omega
  case hb3 => unfold maxLen; omega
  case hb4 => exact Nat.le_refl _
  intro w1 ho hg
  obtain ⟨cur, hblk, hcur, hsz⟩ := made_block ho
  have hB1 : Below w.heap.size w w1 := (Below.refl _ _).grown hg (Nat.le_refl _) (fun k h => by cases h)
  have K1 := Lib.hid (half_start (enc := strD) (sz := 1) (z := [.str ⟨#[]⟩]) (zc := #[.string ⟨#[]⟩]) xs hblk (by simpa using hcur) hsz rfl (by decide) (by unfold maxLen; omega) zero_str)
  have hw1 := K1.out.lt
  clear ho hg hcur hsz hblk
  go_wp2
  go_loopw [4] (fun i wr => ∃ k : Nat, k ≤ xs.length ∧ i = .int .i64 k ∧ Hid (Half wr strD 1 [.str ⟨#[]⟩] xs k w.heap.size) ∧ Below w.heap.size w wr ∧ w.heap.size < wr.heap.size) (fun i _ => xs.length - (intOf i).toNat)
  case atStart => exact ⟨0, Nat.zero_le _, rfl, K1.out, hB1, hw1⟩
  case round =>
    obtain ⟨k, hk, rfl, HH, hb, hlt0⟩ := hrel
    by_cases hlt : k < xs.length
    · obtain ⟨ad, rfl, hc, hs⟩ := Rd.elem_str (HX.out.below hb) k hlt
      obtain ⟨y0, q0⟩ := HH.out.cell k (by omega)
      have qf := HH.out.free
      go_wp2
      go_roundw
      case rel => exact ⟨k + 1, by omega, by go_num, Half.step1 HH.out rfl (fun _ => rfl) hlt (Below.refl _ _) (.str hs (.nil _)) (Fresh.nil _), hb.setCell (Nat.le_refl _) _, by rw [World.size_setCell]; exact hlt0⟩
      case measure => simp [intOf]; omega
    · have hkk : k = xs.length := by omega
      have HF := Lib.hid (show Half wr strD 1 [.str ⟨#[]⟩] xs xs.length w.heap.size by rw [← hkk]; exact HH.out)
      clear hkk
      go_wp2
      go_ret
      exact Half.done HF.out (Nat.le_refl _) hb

theorem info_int : (Try.prog.info? 3).map (fun i => (i.zero, i.size, i.bytes)) = some (some (.int .i64 0), 1, 8) := by kernel_rfl
theorem zero_int (w : World) : OwnRow w [.int .i64 0] (#[.int .i64 0] : Array Value).toList [] := .int (.nil w)
def ToIntS (xs : List Int) : Prop := ∀ (A : Option Addr) (c : Nat) (w : World), Rd w (slD intD 1 xs) (.slice A xs.length c) → bulkL ((fun _ : Int => 0)) xs ≤ 1048576 →
    Calls Try.prog 18 #[.slice A xs.length c] w (Made1 w (slD intD 1 xs))
set_option maxHeartbeats 1600000 in
theorem toIntS_c (xs : List Int) : ToIntS xs := by
  intro A c w hx hbk
  have hl : xs.length ≤ 1048576 := by unfold bulkL at hbk; omega
  clear hbk
  obtain ⟨i0, hi, hz0, hz1, hz2⟩ := info_parts info_int
  have HX := Lib.hid hx
  clear hx
  go_enter Try.func18, Try.ntmps18
  go_wp2_with (at_make; refine wpList_make_full _ rfl (.tmp 6) (.tmp 6) 37 rfl w.heap.size 3 i0 (.int .i64 0) 1 Try.underlying37 hi hz0 hz1 .i64 .i64 _ _ xs.length rfl rfl rfl rfl ?hb2 ?hb3 ?hb4 ?_)
  case hb2 => rw [hz2]; omega
  case hb3 => unfold maxLen; omega
  case hb4 => exact Nat.le_refl _
  intro w1 ho hg
  obtain ⟨cur, hblk, hcur, hsz⟩ := made_block ho
  have hB1 : Below w.heap.size w w1 := (Below.refl _ _).grown hg (Nat.le_refl _) (fun k h => by cases h)
  have K1 := Lib.hid (half_start (enc := intD) (sz := 1) (z := [.int .i64 0]) (zc := #[.int .i64 0]) xs hblk (by simpa using hcur) hsz rfl (by decide) (by unfold maxLen; omega) zero_int)
  have hw1 := K1.out.lt
  clear ho hg hcur hsz hblk
  go_wp2
  go_loopw [4] (fun i wr => ∃ k : Nat, k ≤ xs.length ∧ i = .int .i64 k ∧ Hid (Half wr intD 1 [.int .i64 0] xs k w.heap.size) ∧ Below w.heap.size w wr ∧ w.heap.size < wr.heap.size) (fun i _ => xs.length - (intOf i).toNat)
  case atStart => exact ⟨0, Nat.zero_le _, rfl, K1.out, hB1, hw1⟩
  case round =>
    obtain ⟨k, hk, rfl, HH, hb, hlt0⟩ := hrel
    by_cases hlt : k < xs.length
    · obtain ⟨ad, rfl, hc⟩ := Rd.elem_int (HX.out.below hb) k hlt
      obtain ⟨y0, q0⟩ := HH.out.cell k (by omega)
      have qf := HH.out.free
      go_wp2
      go_roundw
      case rel => exact ⟨k + 1, by omega, by go_num, Half.step1 HH.out rfl (fun _ => rfl) hlt (Below.refl _ _) (.int (.nil _)) (Fresh.nil _), hb.setCell (Nat.le_refl _) _, by rw [World.size_setCell]; exact hlt0⟩
      case measure => simp [intOf]; omega
    · have hkk : k = xs.length := by omega
      have HF := Lib.hid (show Half wr intD 1 [.int .i64 0] xs xs.length w.heap.size by rw [← hkk]; exact HH.out)
      clear hkk
      go_wp2
      go_ret
      exact Half.done HF.out (Nat.le_refl _) hb

def ToValue (v : JValue) : Prop := ∀ (cs : List Value) (w : World), RdL w v.enc cs → JValue.bulk v ≤ 1048576 →
    Calls Try.prog 10 #[.agg cs.toArray] w (Made w v.enc)
theorem JValue.openO {w : World} {v : JValue} {cs : List Value} {fp : List Nat} (h : OwnRow w v.enc cs fp) : ∃ A3 c3 A4 c4, cs = [.int .i64 v.sort, .int .i64 v.num, .string v.text, .slice A3 v.names.length c3, .slice A4 v.kids.length c4] := by
  obtain ⟨A3, c3, A4, c4, rfl, _⟩ := JValue.open_ (OwnRow.rdl h)
  exact ⟨A3, c3, A4, c4, rfl⟩
def ToValueS (xs : List JValue) : Prop := ∀ (A : Option Addr) (c : Nat) (w : World), Rd w (slD JValue.enc 5 xs) (.slice A xs.length c) → bulkL (JValue.bulk) xs ≤ 1048576 →
    Calls Try.prog 37 #[.slice A xs.length c] w (Made1 w (slD JValue.enc 5 xs))
set_option maxHeartbeats 3200000 in
theorem toValue_of (v : JValue) (hK : ToValueS v.kids) : ToValue v := by
  intro cs w hcs hbk
  rw [JValue.bulk_eq] at hbk
  obtain ⟨A3, c3, A4, c4, rfl, g3, g4, l2, _n3, _n4⟩ := JValue.open_ hcs
  have G3 := Lib.hid g3
  clear g3
  have G4 := Lib.hid g4
  clear g4
  have HK := Lib.hid hK
  clear hK
  clear hcs
  have HBK := Lib.hid hbk
  clear hbk
  go_enter Try.func10, Try.ntmps10
  go_wp2_with fail
  refine (toStringS_c _ _ _ _ (G3.out.below (bt (bt (b1 _ _) (b1 _ _)) (b1 _ _))) (by have := HBK.out; rw [bulkL_strs]; omega)).mono ?_
  rintro e w1 ⟨us1, f1, rfl, o1, fr1, hb1⟩
  obtain ⟨X1, x1, rfl⟩ := Own.slD o1
  obtain ⟨hc1, hf1⟩ := bcell hb1
  have hs1 := hb1.size
  simp only [World.size_setCell, World.size_alloc] at hs1
  have hx1 : w.heap.size + 1 + 1 < w1.heap.size := by omega
  have hy1 : w.heap.size + 1 < w1.heap.size := by omega
  have hz1 : w.heap.size < w1.heap.size := by omega
  have hB1 : Below w.heap.size w w1 := bt (bt (bt (b1 _ _) (b1 _ _)) (b1 _ _)) hb1
  have O1 := Lib.hid o1
  clear o1
  have hq1 : ∀ b, b ≤ w.heap.size + 1 + 1 → b ∉ f1 := fun b hb => fr1.not (by simp only [World.size_setCell, World.size_alloc]; omega)
  have hfl1 : ∀ b, b ∈ f1 → b < w1.heap.size := Own.lt _ _ _ O1.out
  go_wp2_with fail
  refine (HK.out _ _ _ (G4.out.below (by first | (with_reducible exact hB1) | (repeat (first | (with_reducible exact hB1) | refine Below.setCell ?_ (by dsimp only; omega) _)))) (by have := HBK.out; rw [JValue.bulkL_eq]; omega)).mono ?_
  rintro e w2 ⟨us2, f2, rfl, o2, fr2, hb2⟩
  obtain ⟨X2, x2, rfl⟩ := Own.slD o2
  obtain ⟨hc2, hf2⟩ := bcell hb2
  have hs2 := hb2.size
  simp only [World.size_setCell, World.size_alloc] at hs2
  have hx2 : w.heap.size + 1 + 1 < w2.heap.size := by omega
  have hy2 : w.heap.size + 1 < w2.heap.size := by omega
  have hz2 : w.heap.size < w2.heap.size := by omega
  have hB2 : Below w.heap.size w w2 := bt (by first | (with_reducible exact hB1) | (repeat (first | (with_reducible exact hB1) | refine Below.setCell ?_ (by dsimp only; omega) _))) hb2
  have O2 := Lib.hid o2
  clear o2
  have hq2 : ∀ b, b ≤ w.heap.size + 1 + 1 → b ∉ f2 := fun b hb => fr2.not (by simp only [World.size_setCell, World.size_alloc]; omega)
  have hfl2 : ∀ b, b ∈ f2 → b < w2.heap.size := Own.lt _ _ _ O2.out
  replace O1 : Hid (Own w2 (slD strD 1 v.names) (.slice X1 v.names.length x1) f1) := Lib.hid (Own.keep (by repeat (first | (with_reducible exact O1.out) | refine Own.set ?_ (hq1 _ (by dsimp only; omega)) _)) hb2)
  go_wp2
  refine bodyPost_ret (v := .agg #[.int .i64 v.sort, .int .i64 v.num, .string v.text, .slice X1 v.names.length x1, .slice X2 v.kids.length x2]) (by simp [results, Try.results10, go_sem, hc1, hx1, hy1, hz1, hc2, hx2, hy2, hz2]) rfl ⟨_, f1 ++ (f2 ++ ([])), rfl, ?_, ?_, ?_⟩
  · rw [JValue.enc_eq]
    exact .int (.int (.str l2 (.cons (by repeat (first | (with_reducible exact O1.out) | refine Own.set ?_ (hq1 _ (by dsimp only; omega)) _)) (.cons (by repeat (first | (with_reducible exact O2.out) | refine Own.set ?_ (hq2 _ (by dsimp only; omega)) _)) (.nil _)))))
  · exact (Fresh.lower (Fresh.app fr1 (by first | (simp only [World.size_setCell, World.size_alloc]; omega) | omega) (fun b hb => by have := hfl1 b hb; first | (simp only [World.size_setCell]; omega) | omega) (Fresh.app1 fr2)) (by first | (simp only [World.size_setCell, World.size_alloc]; omega) | omega))
  · repeat (first | (with_reducible exact hB2) | refine Below.setCell ?_ (by dsimp only; omega) _)
theorem info_Value : (Try.prog.info? 31).map (fun i => (i.zero, i.size, i.bytes)) = some (some (.agg #[.int .i64 0, .int .i64 0, .string ⟨#[]⟩, .slice none 0 0, .slice none 0 0]), 5, 80) := by kernel_rfl
theorem zero_Value (w : World) : OwnRow w [.int .i64 0, .int .i64 0, .str ⟨#[]⟩, .sl 1 0 [], .sl 5 0 []] (#[.int .i64 0, .int .i64 0, .string ⟨#[]⟩, .slice none 0 0, .slice none 0 0] : Array Value).toList [] := .int (.int (.str (by decide) (.cons (f1 := []) (by simp [Own]) (.cons (f1 := []) (by simp [Own]) (.nil w)))))
set_option maxHeartbeats 1600000 in
theorem toValueS_of (xs : List JValue) (hE : ∀ x, x ∈ xs → ToValue x) : ToValueS xs := by
  intro A c w hx hbk
  have hl : xs.length ≤ 1048576 := by unfold bulkL at hbk; omega
  have HE := Lib.hid hE
  have HK := Lib.hid hbk
  clear hE hbk
  obtain ⟨i0, hi, hz0, hz1, hz2⟩ := info_parts info_Value
  have HX := Lib.hid hx
  clear hx
  go_enter Try.func37, Try.ntmps37
  go_wp2_with (at_make; refine wpList_make_full _ rfl (.tmp 6) (.tmp 6) 29 rfl w.heap.size 31 i0 (.agg #[.int .i64 0, .int .i64 0, .string ⟨#[]⟩, .slice none 0 0, .slice none 0 0]) 5 Try.underlying29 hi hz0 hz1 .i64 .i64 _ _ xs.length rfl rfl rfl rfl ?hb2 ?hb3 ?hb4 ?_)
  case hb2 => rw [hz2]; omega
  case hb3 => unfold maxLen; omega
  case hb4 => exact Nat.le_refl _
  intro w1 ho hg
  obtain ⟨cur, hblk, hcur, hsz⟩ := made_block ho
  have hB1 : Below w.heap.size w w1 := (Below.refl _ _).grown hg (Nat.le_refl _) (fun k h => by cases h)
  have K1 := Lib.hid (half_start (enc := JValue.enc) (sz := 5) (z := [.int .i64 0, .int .i64 0, .str ⟨#[]⟩, .sl 1 0 [], .sl 5 0 []]) (zc := #[.int .i64 0, .int .i64 0, .string ⟨#[]⟩, .slice none 0 0, .slice none 0 0]) xs hblk (by simpa using hcur) hsz rfl (by decide) (by unfold maxLen; omega) zero_Value)
  have hw1 := K1.out.lt
  clear ho hg hcur hsz hblk
  go_wp2
  go_loopw [4] (fun i wr => ∃ k : Nat, k ≤ xs.length ∧ i = .int .i64 k ∧ Hid (Half wr JValue.enc 5 [.int .i64 0, .int .i64 0, .str ⟨#[]⟩, .sl 1 0 [], .sl 5 0 []] xs k w.heap.size) ∧ Below w.heap.size w wr ∧ w.heap.size < wr.heap.size) (fun i _ => xs.length - (intOf i).toNat)
  case atStart => exact ⟨0, Nat.zero_le _, rfl, K1.out, hB1, hw1⟩
  case round =>
    obtain ⟨k, hk, rfl, HH, hb, hlt0⟩ := hrel
    by_cases hlt : k < xs.length
    · obtain ⟨ad, A3, c3, A4, c4, rfl, hx0, hx1, hx2, hx3, hx4, g3, g4, l2, _n3, _n4⟩ := JValue.elem (HX.out.below hb) k hlt
      have HM := Lib.hid (HE.out xs[k] (List.getElem_mem hlt))
      have HQ := Lib.hid (bulkL_mem HK.out (List.getElem_mem hlt))
      have G3 := Lib.hid g3
      clear g3
      have G4 := Lib.hid g4
      clear g4
      go_wp2_with fail
      refine (HM.out _ _ (JValue.close_ _ G3.out G4.out l2) HQ.out).mono ?_
      rintro e w2 ⟨us, f2, rfl, o2, fr2, hb2⟩
      obtain ⟨B3, d3, B4, d4, rfl⟩ := JValue.openO o2
      have O2 := Lib.hid o2
      clear o2
      have hs2 : w.heap.size < w2.heap.size := by have := hb2.size; omega
      obtain ⟨hc2, hf2⟩ := bcell hb2
      obtain ⟨y0, q0⟩ := HH.out.cell (k * 5) (by omega)
      obtain ⟨y1, q1⟩ := HH.out.cell (k * 5 + 1) (by omega)
      obtain ⟨y2, q2⟩ := HH.out.cell (k * 5 + 2) (by omega)
      obtain ⟨y3, q3⟩ := HH.out.cell (k * 5 + 3) (by omega)
      obtain ⟨y4, q4⟩ := HH.out.cell (k * 5 + 4) (by omega)
      have qf := HH.out.free
      go_wp2
      go_roundw
      case rel =>
        have hst := Half.step HH.out rfl JValue.enc_len hlt hb2 O2.out fr2
        simp only [putAll] at hst
        exact ⟨k + 1, by omega, by go_num, hst, by repeat (first | (with_reducible exact bt hb hb2) | refine Below.setCell ?_ (by dsimp only; omega) _), by simp only [World.size_setCell]; exact hs2⟩
      case measure => simp [intOf]; omega
    · have hkk : k = xs.length := by omega
      have HF := Lib.hid (show Half wr JValue.enc 5 [.int .i64 0, .int .i64 0, .str ⟨#[]⟩, .sl 1 0 [], .sl 5 0 []] xs xs.length w.heap.size by rw [← hkk]; exact HH.out)
      clear hkk
      go_wp2
      go_ret
      exact Half.done HF.out (Nat.le_refl _) hb

theorem toValue_both : ∀ n, (∀ v : JValue, SizeOf.sizeOf v < n → ToValue v) ∧ (∀ xs : List JValue, SizeOf.sizeOf xs < n → ToValueS xs)
  | 0 => ⟨fun _ h => absurd h (by omega), fun _ h => absurd h (by omega)⟩
  | n + 1 => by
    have ih := toValue_both n
    refine ⟨fun v h => toValue_of v (ih.2 _ (by have := JValue.kids_lt v; omega)), fun xs h => toValueS_of xs (fun x hx => ih.1 x (by have := List.sizeOf_lt_of_mem hx; omega))⟩
theorem toValue_c (v : JValue) : ToValue v := (toValue_both _).1 v (Nat.lt_succ_self _)
theorem toValueS_c (xs : List JValue) : ToValueS xs := (toValue_both _).2 xs (Nat.lt_succ_self _)

def ToCell (v : JCell) : Prop := ∀ (cs : List Value) (w : World), RdL w v.enc cs → JCell.bulk v ≤ 1048576 →
    Calls Try.prog 94 #[.agg cs.toArray] w (Made w v.enc)
theorem JCell.openO {w : World} {v : JCell} {cs : List Value} {fp : List Nat} (h : OwnRow w v.enc cs fp) : ∃ A4 c4 A5 c5, cs = [.string v.name, .int .i64 v.value.sort, .int .i64 v.value.num, .string v.value.text, .slice A4 v.value.names.length c4, .slice A5 v.value.kids.length c5] := by
  obtain ⟨A4, c4, A5, c5, rfl, _⟩ := JCell.open_ (OwnRow.rdl h)
  exact ⟨A4, c4, A5, c5, rfl⟩
set_option maxHeartbeats 3200000 in
theorem toCell_of (v : JCell) : ToCell v := by
  intro cs w hcs hbk
  rw [JCell.bulk_eq] at hbk
  obtain ⟨A4, c4, A5, c5, rfl, g4, g5, l0, l3, _n4, _n5⟩ := JCell.open_ hcs
  have G4 := Lib.hid g4
  clear g4
  have G5 := Lib.hid g5
  clear g5
  clear hcs
  have HBK := Lib.hid hbk
  clear hbk
  go_enter Try.func94, Try.ntmps94
  go_wp2_with fail
  refine (toValue_c _ _ _ (JValue.close_ _ (G4.out.below (bt (bt (b1 _ _) (b1 _ _)) (b1 _ _))) (G5.out.below (bt (bt (b1 _ _) (b1 _ _)) (b1 _ _))) l3) (by have := HBK.out; omega)).mono ?_
  rintro e w1 ⟨us1, f1, rfl, o1, fr1, hb1⟩
  obtain ⟨X1_3, x1_3, X1_4, x1_4, rfl⟩ := JValue.openO o1
  obtain ⟨hc1, hf1⟩ := bcell hb1
  have hs1 := hb1.size
  simp only [World.size_setCell, World.size_alloc] at hs1
  have hx1 : w.heap.size + 1 + 1 < w1.heap.size := by omega
  have hy1 : w.heap.size + 1 < w1.heap.size := by omega
  have hz1 : w.heap.size < w1.heap.size := by omega
  have hB1 : Below w.heap.size w w1 := bt (bt (bt (b1 _ _) (b1 _ _)) (b1 _ _)) hb1
  have O1 := Lib.hid o1
  clear o1
  have hq1 : ∀ b, b ≤ w.heap.size + 1 + 1 → b ∉ f1 := fun b hb => fr1.not (by simp only [World.size_setCell, World.size_alloc]; omega)
  have hfl1 : ∀ b, b ∈ f1 → b < w1.heap.size := OwnRow.lt _ _ _ O1.out
  go_wp2
  refine bodyPost_ret (v := .agg #[.string v.name, .int .i64 v.value.sort, .int .i64 v.value.num, .string v.value.text, .slice X1_3 v.value.names.length x1_3, .slice X1_4 v.value.kids.length x1_4]) (by simp [results, Try.results94, go_sem, hc1, hx1, hy1, hz1]) rfl ⟨_, f1 ++ ([]), rfl, ?_, ?_, ?_⟩
  · rw [JCell.enc_nest]
    exact .str l0 (OwnRow.app (ds := JValue.enc v.value) (us := [.int .i64 v.value.sort, .int .i64 v.value.num, .string v.value.text, .slice X1_3 v.value.names.length x1_3, .slice X1_4 v.value.kids.length x1_4]) (f1 := f1) (by repeat (first | (with_reducible exact O1.out) | refine OwnRow.set ?_ (hq1 _ (by dsimp only; omega)) _)) (.nil _))
  · exact (Fresh.lower (Fresh.app1 fr1) (by first | (simp only [World.size_setCell, World.size_alloc]; omega) | omega))
  · repeat (first | (with_reducible exact hB1) | refine Below.setCell ?_ (by dsimp only; omega) _)
theorem info_Cell : (Try.prog.info? 89).map (fun i => (i.zero, i.size, i.bytes)) = some (some (.agg #[.string ⟨#[]⟩, .int .i64 0, .int .i64 0, .string ⟨#[]⟩, .slice none 0 0, .slice none 0 0]), 6, 96) := by kernel_rfl
theorem zero_Cell (w : World) : OwnRow w [.str ⟨#[]⟩, .int .i64 0, .int .i64 0, .str ⟨#[]⟩, .sl 1 0 [], .sl 5 0 []] (#[.string ⟨#[]⟩, .int .i64 0, .int .i64 0, .string ⟨#[]⟩, .slice none 0 0, .slice none 0 0] : Array Value).toList [] := .str (by decide) (.int (.int (.str (by decide) (.cons (f1 := []) (by simp [Own]) (.cons (f1 := []) (by simp [Own]) (.nil w))))))
def ToCellS (xs : List JCell) : Prop := ∀ (A : Option Addr) (c : Nat) (w : World), Rd w (slD JCell.enc 6 xs) (.slice A xs.length c) → bulkL (JCell.bulk) xs ≤ 1048576 →
    Calls Try.prog 73 #[.slice A xs.length c] w (Made1 w (slD JCell.enc 6 xs))
set_option maxHeartbeats 1600000 in
theorem toCellS_of (xs : List JCell) (hE : ∀ x, x ∈ xs → ToCell x) : ToCellS xs := by
  intro A c w hx hbk
  have hl : xs.length ≤ 1048576 := by unfold bulkL at hbk; omega
  have HE := Lib.hid hE
  have HK := Lib.hid hbk
  clear hE hbk
  obtain ⟨i0, hi, hz0, hz1, hz2⟩ := info_parts info_Cell
  have HX := Lib.hid hx
  clear hx
  go_enter Try.func73, Try.ntmps73
  go_wp2_with (at_make; refine wpList_make_full _ rfl (.tmp 6) (.tmp 6) 85 rfl w.heap.size 89 i0 (.agg #[.string ⟨#[]⟩, .int .i64 0, .int .i64 0, .string ⟨#[]⟩, .slice none 0 0, .slice none 0 0]) 6 Try.underlying85 hi hz0 hz1 .i64 .i64 _ _ xs.length rfl rfl rfl rfl ?hb2 ?hb3 ?hb4 ?_)
  case hb2 => rw [hz2]; omega
  case hb3 => unfold maxLen; omega
  case hb4 => exact Nat.le_refl _
  intro w1 ho hg
  obtain ⟨cur, hblk, hcur, hsz⟩ := made_block ho
  have hB1 : Below w.heap.size w w1 := (Below.refl _ _).grown hg (Nat.le_refl _) (fun k h => by cases h)
  have K1 := Lib.hid (half_start (enc := JCell.enc) (sz := 6) (z := [.str ⟨#[]⟩, .int .i64 0, .int .i64 0, .str ⟨#[]⟩, .sl 1 0 [], .sl 5 0 []]) (zc := #[.string ⟨#[]⟩, .int .i64 0, .int .i64 0, .string ⟨#[]⟩, .slice none 0 0, .slice none 0 0]) xs hblk (by simpa using hcur) hsz rfl (by decide) (by unfold maxLen; omega) zero_Cell)
  have hw1 := K1.out.lt
  clear ho hg hcur hsz hblk
  go_wp2
  go_loopw [4] (fun i wr => ∃ k : Nat, k ≤ xs.length ∧ i = .int .i64 k ∧ Hid (Half wr JCell.enc 6 [.str ⟨#[]⟩, .int .i64 0, .int .i64 0, .str ⟨#[]⟩, .sl 1 0 [], .sl 5 0 []] xs k w.heap.size) ∧ Below w.heap.size w wr ∧ w.heap.size < wr.heap.size) (fun i _ => xs.length - (intOf i).toNat)
  case atStart => exact ⟨0, Nat.zero_le _, rfl, K1.out, hB1, hw1⟩
  case round =>
    obtain ⟨k, hk, rfl, HH, hb, hlt0⟩ := hrel
    by_cases hlt : k < xs.length
    · obtain ⟨ad, A4, c4, A5, c5, rfl, hx0, hx1, hx2, hx3, hx4, hx5, g4, g5, l0, l3, _n4, _n5⟩ := JCell.elem (HX.out.below hb) k hlt
      have HM := Lib.hid (HE.out xs[k] (List.getElem_mem hlt))
      have HQ := Lib.hid (bulkL_mem HK.out (List.getElem_mem hlt))
      have G4 := Lib.hid g4
      clear g4
      have G5 := Lib.hid g5
      clear g5
      go_wp2_with fail
      refine (HM.out _ _ (JCell.close_ _ G4.out G5.out l0 l3) HQ.out).mono ?_
      rintro e w2 ⟨us, f2, rfl, o2, fr2, hb2⟩
      obtain ⟨B4, d4, B5, d5, rfl⟩ := JCell.openO o2
      have O2 := Lib.hid o2
      clear o2
      have hs2 : w.heap.size < w2.heap.size := by have := hb2.size; omega
      obtain ⟨hc2, hf2⟩ := bcell hb2
      obtain ⟨y0, q0⟩ := HH.out.cell (k * 6) (by omega)
      obtain ⟨y1, q1⟩ := HH.out.cell (k * 6 + 1) (by omega)
      obtain ⟨y2, q2⟩ := HH.out.cell (k * 6 + 2) (by omega)
      obtain ⟨y3, q3⟩ := HH.out.cell (k * 6 + 3) (by omega)
      obtain ⟨y4, q4⟩ := HH.out.cell (k * 6 + 4) (by omega)
      obtain ⟨y5, q5⟩ := HH.out.cell (k * 6 + 5) (by omega)
      have qf := HH.out.free
      go_wp2
      go_roundw
      case rel =>
        have hst := Half.step HH.out rfl JCell.enc_len hlt hb2 O2.out fr2
        simp only [putAll] at hst
        exact ⟨k + 1, by omega, by go_num, hst, by repeat (first | (with_reducible exact bt hb hb2) | refine Below.setCell ?_ (by dsimp only; omega) _), by simp only [World.size_setCell]; exact hs2⟩
      case measure => simp [intOf]; omega
    · have hkk : k = xs.length := by omega
      have HF := Lib.hid (show Half wr JCell.enc 6 [.str ⟨#[]⟩, .int .i64 0, .int .i64 0, .str ⟨#[]⟩, .sl 1 0 [], .sl 5 0 []] xs xs.length w.heap.size by rw [← hkk]; exact HH.out)
      clear hkk
      go_wp2
      go_ret
      exact Half.done HF.out (Nat.le_refl _) hb

theorem toCell_c (v : JCell) : ToCell v := toCell_of v
theorem toCellS_c (xs : List JCell) : ToCellS xs := toCellS_of xs (fun x _ => toCell_c x)

def ToRow (v : JRow) : Prop := ∀ (cs : List Value) (w : World), RdL w v.enc cs → JRow.bulk v ≤ 1048576 →
    Calls Try.prog 55 #[.agg cs.toArray] w (Made w v.enc)
theorem JRow.openO {w : World} {v : JRow} {cs : List Value} {fp : List Nat} (h : OwnRow w v.enc cs fp) : ∃ A2 c2, cs = [.string v.typ, .int .i64 v.id, .slice A2 v.cells.length c2] := by
  obtain ⟨A2, c2, rfl, _⟩ := JRow.open_ (OwnRow.rdl h)
  exact ⟨A2, c2, rfl⟩
set_option maxHeartbeats 3200000 in
theorem toRow_of (v : JRow) : ToRow v := by
  intro cs w hcs hbk
  rw [JRow.bulk_eq] at hbk
  obtain ⟨A2, c2, rfl, g2, l0, _n2⟩ := JRow.open_ hcs
  have G2 := Lib.hid g2
  clear g2
  clear hcs
  have HBK := Lib.hid hbk
  clear hbk
  go_enter Try.func55, Try.ntmps55
  go_wp2_with fail
  refine (toCellS_c _ _ _ _ (G2.out.below (bt (bt (b1 _ _) (b1 _ _)) (b1 _ _))) (by have := HBK.out; rw [JCell.bulkL_eq]; omega)).mono ?_
  rintro e w1 ⟨us1, f1, rfl, o1, fr1, hb1⟩
  obtain ⟨X1, x1, rfl⟩ := Own.slD o1
  obtain ⟨hc1, hf1⟩ := bcell hb1
  have hs1 := hb1.size
  simp only [World.size_setCell, World.size_alloc] at hs1
  have hx1 : w.heap.size + 1 + 1 < w1.heap.size := by omega
  have hy1 : w.heap.size + 1 < w1.heap.size := by omega
  have hz1 : w.heap.size < w1.heap.size := by omega
  have hB1 : Below w.heap.size w w1 := bt (bt (bt (b1 _ _) (b1 _ _)) (b1 _ _)) hb1
  have O1 := Lib.hid o1
  clear o1
  have hq1 : ∀ b, b ≤ w.heap.size + 1 + 1 → b ∉ f1 := fun b hb => fr1.not (by simp only [World.size_setCell, World.size_alloc]; omega)
  have hfl1 : ∀ b, b ∈ f1 → b < w1.heap.size := Own.lt _ _ _ O1.out
  go_wp2
  refine bodyPost_ret (v := .agg #[.string v.typ, .int .i64 v.id, .slice X1 v.cells.length x1]) (by simp [results, Try.results55, go_sem, hc1, hx1, hy1, hz1]) rfl ⟨_, f1 ++ ([]), rfl, ?_, ?_, ?_⟩
  · rw [JRow.enc_eq]
    exact .str l0 (.int (.cons (by repeat (first | (with_reducible exact O1.out) | refine Own.set ?_ (hq1 _ (by dsimp only; omega)) _)) (.nil _)))
  · exact (Fresh.lower (Fresh.app1 fr1) (by first | (simp only [World.size_setCell, World.size_alloc]; omega) | omega))
  · repeat (first | (with_reducible exact hB1) | refine Below.setCell ?_ (by dsimp only; omega) _)
theorem info_Row : (Try.prog.info? 87).map (fun i => (i.zero, i.size, i.bytes)) = some (some (.agg #[.string ⟨#[]⟩, .int .i64 0, .slice none 0 0]), 3, 48) := by kernel_rfl
theorem zero_Row (w : World) : OwnRow w [.str ⟨#[]⟩, .int .i64 0, .sl 6 0 []] (#[.string ⟨#[]⟩, .int .i64 0, .slice none 0 0] : Array Value).toList [] := .str (by decide) (.int (.cons (f1 := []) (by simp [Own]) (.nil w)))
def ToRowS (xs : List JRow) : Prop := ∀ (A : Option Addr) (c : Nat) (w : World), Rd w (slD JRow.enc 3 xs) (.slice A xs.length c) → bulkL (JRow.bulk) xs ≤ 1048576 →
    Calls Try.prog 27 #[.slice A xs.length c] w (Made1 w (slD JRow.enc 3 xs))
set_option maxHeartbeats 1600000 in
theorem toRowS_of (xs : List JRow) (hE : ∀ x, x ∈ xs → ToRow x) : ToRowS xs := by
  intro A c w hx hbk
  have hl : xs.length ≤ 1048576 := by unfold bulkL at hbk; omega
  have HE := Lib.hid hE
  have HK := Lib.hid hbk
  clear hE hbk
  obtain ⟨i0, hi, hz0, hz1, hz2⟩ := info_parts info_Row
  have HX := Lib.hid hx
  clear hx
  go_enter Try.func27, Try.ntmps27
  go_wp2_with (at_make; refine wpList_make_full _ rfl (.tmp 6) (.tmp 6) 52 rfl w.heap.size 87 i0 (.agg #[.string ⟨#[]⟩, .int .i64 0, .slice none 0 0]) 3 Try.underlying52 hi hz0 hz1 .i64 .i64 _ _ xs.length rfl rfl rfl rfl ?hb2 ?hb3 ?hb4 ?_)
  case hb2 => rw [hz2]; omega
  case hb3 => unfold maxLen; omega
  case hb4 => exact Nat.le_refl _
  intro w1 ho hg
  obtain ⟨cur, hblk, hcur, hsz⟩ := made_block ho
  have hB1 : Below w.heap.size w w1 := (Below.refl _ _).grown hg (Nat.le_refl _) (fun k h => by cases h)
  have K1 := Lib.hid (half_start (enc := JRow.enc) (sz := 3) (z := [.str ⟨#[]⟩, .int .i64 0, .sl 6 0 []]) (zc := #[.string ⟨#[]⟩, .int .i64 0, .slice none 0 0]) xs hblk (by simpa using hcur) hsz rfl (by decide) (by unfold maxLen; omega) zero_Row)
  have hw1 := K1.out.lt
  clear ho hg hcur hsz hblk
  go_wp2
  go_loopw [4] (fun i wr => ∃ k : Nat, k ≤ xs.length ∧ i = .int .i64 k ∧ Hid (Half wr JRow.enc 3 [.str ⟨#[]⟩, .int .i64 0, .sl 6 0 []] xs k w.heap.size) ∧ Below w.heap.size w wr ∧ w.heap.size < wr.heap.size) (fun i _ => xs.length - (intOf i).toNat)
  case atStart => exact ⟨0, Nat.zero_le _, rfl, K1.out, hB1, hw1⟩
  case round =>
    obtain ⟨k, hk, rfl, HH, hb, hlt0⟩ := hrel
    by_cases hlt : k < xs.length
    · obtain ⟨ad, A2, c2, rfl, hx0, hx1, hx2, g2, l0, _n2⟩ := JRow.elem (HX.out.below hb) k hlt
      have HM := Lib.hid (HE.out xs[k] (List.getElem_mem hlt))
      have HQ := Lib.hid (bulkL_mem HK.out (List.getElem_mem hlt))
      have G2 := Lib.hid g2
      clear g2
      go_wp2_with fail
      refine (HM.out _ _ (JRow.close_ _ G2.out l0) HQ.out).mono ?_
      rintro e w2 ⟨us, f2, rfl, o2, fr2, hb2⟩
      obtain ⟨B2, d2, rfl⟩ := JRow.openO o2
      have O2 := Lib.hid o2
      clear o2
      have hs2 : w.heap.size < w2.heap.size := by have := hb2.size; omega
      obtain ⟨hc2, hf2⟩ := bcell hb2
      obtain ⟨y0, q0⟩ := HH.out.cell (k * 3) (by omega)
      obtain ⟨y1, q1⟩ := HH.out.cell (k * 3 + 1) (by omega)
      obtain ⟨y2, q2⟩ := HH.out.cell (k * 3 + 2) (by omega)
      have qf := HH.out.free
      go_wp2
      go_roundw
      case rel =>
        have hst := Half.step HH.out rfl JRow.enc_len hlt hb2 O2.out fr2
        simp only [putAll] at hst
        exact ⟨k + 1, by omega, by go_num, hst, by repeat (first | (with_reducible exact bt hb hb2) | refine Below.setCell ?_ (by dsimp only; omega) _), by simp only [World.size_setCell]; exact hs2⟩
      case measure => simp [intOf]; omega
    · have hkk : k = xs.length := by omega
      have HF := Lib.hid (show Half wr JRow.enc 3 [.str ⟨#[]⟩, .int .i64 0, .sl 6 0 []] xs xs.length w.heap.size by rw [← hkk]; exact HH.out)
      clear hkk
      go_wp2
      go_ret
      exact Half.done HF.out (Nat.le_refl _) hb

theorem toRow_c (v : JRow) : ToRow v := toRow_of v
theorem toRowS_c (xs : List JRow) : ToRowS xs := toRowS_of xs (fun x _ => toRow_c x)

def ToSel (v : JSel) : Prop := ∀ (cs : List Value) (w : World), RdL w v.enc cs → JSel.bulk v ≤ 1048576 →
    Calls Try.prog 91 #[.agg cs.toArray] w (Made w v.enc)
theorem JSel.openO {w : World} {v : JSel} {cs : List Value} {fp : List Nat} (h : OwnRow w v.enc cs fp) : ∃ A4 c4, cs = [.string v.as_, .string v.name, .bool v.one, .int .i64 v.id, .slice A4 v.kids.length c4] := by
  obtain ⟨A4, c4, rfl, _⟩ := JSel.open_ (OwnRow.rdl h)
  exact ⟨A4, c4, rfl⟩
def ToSelS (xs : List JSel) : Prop := ∀ (A : Option Addr) (c : Nat) (w : World), Rd w (slD JSel.enc 5 xs) (.slice A xs.length c) → bulkL (JSel.bulk) xs ≤ 1048576 →
    Calls Try.prog 68 #[.slice A xs.length c] w (Made1 w (slD JSel.enc 5 xs))
set_option maxHeartbeats 3200000 in
theorem toSel_of (v : JSel) (hK : ToSelS v.kids) : ToSel v := by
  intro cs w hcs hbk
  rw [JSel.bulk_eq] at hbk
  obtain ⟨A4, c4, rfl, g4, l0, l1, _n4⟩ := JSel.open_ hcs
  have G4 := Lib.hid g4
  clear g4
  have HK := Lib.hid hK
  clear hK
  clear hcs
  have HBK := Lib.hid hbk
  clear hbk
  go_enter Try.func91, Try.ntmps91
  go_wp2_with fail
  refine (HK.out _ _ _ (G4.out.below (bt (bt (b1 _ _) (b1 _ _)) (b1 _ _))) (by have := HBK.out; rw [JSel.bulkL_eq]; omega)).mono ?_
  rintro e w1 ⟨us1, f1, rfl, o1, fr1, hb1⟩
  obtain ⟨X1, x1, rfl⟩ := Own.slD o1
  obtain ⟨hc1, hf1⟩ := bcell hb1
  have hs1 := hb1.size
  simp only [World.size_setCell, World.size_alloc] at hs1
  have hx1 : w.heap.size + 1 + 1 < w1.heap.size := by omega
  have hy1 : w.heap.size + 1 < w1.heap.size := by omega
  have hz1 : w.heap.size < w1.heap.size := by omega
  have hB1 : Below w.heap.size w w1 := bt (bt (bt (b1 _ _) (b1 _ _)) (b1 _ _)) hb1
  have O1 := Lib.hid o1
  clear o1
  have hq1 : ∀ b, b ≤ w.heap.size + 1 + 1 → b ∉ f1 := fun b hb => fr1.not (by simp only [World.size_setCell, World.size_alloc]; omega)
  have hfl1 : ∀ b, b ∈ f1 → b < w1.heap.size := Own.lt _ _ _ O1.out
  go_wp2
  refine bodyPost_ret (v := .agg #[.string v.as_, .string v.name, .bool v.one, .int .i64 v.id, .slice X1 v.kids.length x1]) (by simp [results, Try.results91, go_sem, hc1, hx1, hy1, hz1]) rfl ⟨_, f1 ++ ([]), rfl, ?_, ?_, ?_⟩
  · rw [JSel.enc_eq]
    exact .str l0 (.str l1 (.bool (.int (.cons (by repeat (first | (with_reducible exact O1.out) | refine Own.set ?_ (hq1 _ (by dsimp only; omega)) _)) (.nil _)))))
  · exact (Fresh.lower (Fresh.app1 fr1) (by first | (simp only [World.size_setCell, World.size_alloc]; omega) | omega))
  · repeat (first | (with_reducible exact hB1) | refine Below.setCell ?_ (by dsimp only; omega) _)
theorem info_Sel : (Try.prog.info? 105).map (fun i => (i.zero, i.size, i.bytes)) = some (some (.agg #[.string ⟨#[]⟩, .string ⟨#[]⟩, .bool false, .int .i64 0, .slice none 0 0]), 5, 72) := by kernel_rfl
theorem zero_Sel (w : World) : OwnRow w [.str ⟨#[]⟩, .str ⟨#[]⟩, .bool false, .int .i64 0, .sl 5 0 []] (#[.string ⟨#[]⟩, .string ⟨#[]⟩, .bool false, .int .i64 0, .slice none 0 0] : Array Value).toList [] := .str (by decide) (.str (by decide) (.bool (.int (.cons (f1 := []) (by simp [Own]) (.nil w)))))
set_option maxHeartbeats 1600000 in
theorem toSelS_of (xs : List JSel) (hE : ∀ x, x ∈ xs → ToSel x) : ToSelS xs := by
  intro A c w hx hbk
  have hl : xs.length ≤ 1048576 := by unfold bulkL at hbk; omega
  have HE := Lib.hid hE
  have HK := Lib.hid hbk
  clear hE hbk
  obtain ⟨i0, hi, hz0, hz1, hz2⟩ := info_parts info_Sel
  have HX := Lib.hid hx
  clear hx
  go_enter Try.func68, Try.ntmps68
  go_wp2_with (at_make; refine wpList_make_full _ rfl (.tmp 6) (.tmp 6) 71 rfl w.heap.size 105 i0 (.agg #[.string ⟨#[]⟩, .string ⟨#[]⟩, .bool false, .int .i64 0, .slice none 0 0]) 5 Try.underlying71 hi hz0 hz1 .i64 .i64 _ _ xs.length rfl rfl rfl rfl ?hb2 ?hb3 ?hb4 ?_)
  case hb2 => rw [hz2]; omega
  case hb3 => unfold maxLen; omega
  case hb4 => exact Nat.le_refl _
  intro w1 ho hg
  obtain ⟨cur, hblk, hcur, hsz⟩ := made_block ho
  have hB1 : Below w.heap.size w w1 := (Below.refl _ _).grown hg (Nat.le_refl _) (fun k h => by cases h)
  have K1 := Lib.hid (half_start (enc := JSel.enc) (sz := 5) (z := [.str ⟨#[]⟩, .str ⟨#[]⟩, .bool false, .int .i64 0, .sl 5 0 []]) (zc := #[.string ⟨#[]⟩, .string ⟨#[]⟩, .bool false, .int .i64 0, .slice none 0 0]) xs hblk (by simpa using hcur) hsz rfl (by decide) (by unfold maxLen; omega) zero_Sel)
  have hw1 := K1.out.lt
  clear ho hg hcur hsz hblk
  go_wp2
  go_loopw [4] (fun i wr => ∃ k : Nat, k ≤ xs.length ∧ i = .int .i64 k ∧ Hid (Half wr JSel.enc 5 [.str ⟨#[]⟩, .str ⟨#[]⟩, .bool false, .int .i64 0, .sl 5 0 []] xs k w.heap.size) ∧ Below w.heap.size w wr ∧ w.heap.size < wr.heap.size) (fun i _ => xs.length - (intOf i).toNat)
  case atStart => exact ⟨0, Nat.zero_le _, rfl, K1.out, hB1, hw1⟩
  case round =>
    obtain ⟨k, hk, rfl, HH, hb, hlt0⟩ := hrel
    by_cases hlt : k < xs.length
    · obtain ⟨ad, A4, c4, rfl, hx0, hx1, hx2, hx3, hx4, g4, l0, l1, _n4⟩ := JSel.elem (HX.out.below hb) k hlt
      have HM := Lib.hid (HE.out xs[k] (List.getElem_mem hlt))
      have HQ := Lib.hid (bulkL_mem HK.out (List.getElem_mem hlt))
      have G4 := Lib.hid g4
      clear g4
      go_wp2_with fail
      refine (HM.out _ _ (JSel.close_ _ G4.out l0 l1) HQ.out).mono ?_
      rintro e w2 ⟨us, f2, rfl, o2, fr2, hb2⟩
      obtain ⟨B4, d4, rfl⟩ := JSel.openO o2
      have O2 := Lib.hid o2
      clear o2
      have hs2 : w.heap.size < w2.heap.size := by have := hb2.size; omega
      obtain ⟨hc2, hf2⟩ := bcell hb2
      obtain ⟨y0, q0⟩ := HH.out.cell (k * 5) (by omega)
      obtain ⟨y1, q1⟩ := HH.out.cell (k * 5 + 1) (by omega)
      obtain ⟨y2, q2⟩ := HH.out.cell (k * 5 + 2) (by omega)
      obtain ⟨y3, q3⟩ := HH.out.cell (k * 5 + 3) (by omega)
      obtain ⟨y4, q4⟩ := HH.out.cell (k * 5 + 4) (by omega)
      have qf := HH.out.free
      go_wp2
      go_roundw
      case rel =>
        have hst := Half.step HH.out rfl JSel.enc_len hlt hb2 O2.out fr2
        simp only [putAll] at hst
        exact ⟨k + 1, by omega, by go_num, hst, by repeat (first | (with_reducible exact bt hb hb2) | refine Below.setCell ?_ (by dsimp only; omega) _), by simp only [World.size_setCell]; exact hs2⟩
      case measure => simp [intOf]; omega
    · have hkk : k = xs.length := by omega
      have HF := Lib.hid (show Half wr JSel.enc 5 [.str ⟨#[]⟩, .str ⟨#[]⟩, .bool false, .int .i64 0, .sl 5 0 []] xs xs.length w.heap.size by rw [← hkk]; exact HH.out)
      clear hkk
      go_wp2
      go_ret
      exact Half.done HF.out (Nat.le_refl _) hb

theorem toSel_both : ∀ n, (∀ v : JSel, SizeOf.sizeOf v < n → ToSel v) ∧ (∀ xs : List JSel, SizeOf.sizeOf xs < n → ToSelS xs)
  | 0 => ⟨fun _ h => absurd h (by omega), fun _ h => absurd h (by omega)⟩
  | n + 1 => by
    have ih := toSel_both n
    refine ⟨fun v h => toSel_of v (ih.2 _ (by have := JSel.kids_lt v; omega)), fun xs h => toSelS_of xs (fun x hx => ih.1 x (by have := List.sizeOf_lt_of_mem hx; omega))⟩
theorem toSel_c (v : JSel) : ToSel v := (toSel_both _).1 v (Nat.lt_succ_self _)
theorem toSelS_c (xs : List JSel) : ToSelS xs := (toSel_both _).2 xs (Nat.lt_succ_self _)

def ToStep (v : JStep) : Prop := ∀ (cs : List Value) (w : World), RdL w v.enc cs → JStep.bulk v ≤ 1048576 →
    Calls Try.prog 44 #[.agg cs.toArray] w (Made w v.enc)
theorem JStep.openO {w : World} {v : JStep} {cs : List Value} {fp : List Nat} (h : OwnRow w v.enc cs fp) : ∃ A1 c1 A3 c3 A4 c4 A5 c5, cs = [.int .i64 v.part, .slice A1 v.way.length c1, .string v.typ, .slice A3 v.sels.length c3, .slice A4 v.after_.length c4, .slice A5 v.brings.length c5] := by
  obtain ⟨A1, c1, A3, c3, A4, c4, A5, c5, rfl, _⟩ := JStep.open_ (OwnRow.rdl h)
  exact ⟨A1, c1, A3, c3, A4, c4, A5, c5, rfl⟩
set_option maxHeartbeats 3200000 in
theorem toStep_of (v : JStep) : ToStep v := by
  intro cs w hcs hbk
  rw [JStep.bulk_eq] at hbk
  obtain ⟨A1, c1, A3, c3, A4, c4, A5, c5, rfl, g1, g3, g4, g5, l2, _n1, _n3, _n4, _n5⟩ := JStep.open_ hcs
  have G1 := Lib.hid g1
  clear g1
  have G3 := Lib.hid g3
  clear g3
  have G4 := Lib.hid g4
  clear g4
  have G5 := Lib.hid g5
  clear g5
  clear hcs
  have HBK := Lib.hid hbk
  clear hbk
  go_enter Try.func44, Try.ntmps44
  go_wp2_with fail
  refine (toStringS_c _ _ _ _ (G1.out.below (bt (bt (b1 _ _) (b1 _ _)) (b1 _ _))) (by have := HBK.out; rw [bulkL_strs]; omega)).mono ?_
  rintro e w1 ⟨us1, f1, rfl, o1, fr1, hb1⟩
  obtain ⟨X1, x1, rfl⟩ := Own.slD o1
  obtain ⟨hc1, hf1⟩ := bcell hb1
  have hs1 := hb1.size
  simp only [World.size_setCell, World.size_alloc] at hs1
  have hx1 : w.heap.size + 1 + 1 < w1.heap.size := by omega
  have hy1 : w.heap.size + 1 < w1.heap.size := by omega
  have hz1 : w.heap.size < w1.heap.size := by omega
  have hB1 : Below w.heap.size w w1 := bt (bt (bt (b1 _ _) (b1 _ _)) (b1 _ _)) hb1
  have O1 := Lib.hid o1
  clear o1
  have hq1 : ∀ b, b ≤ w.heap.size + 1 + 1 → b ∉ f1 := fun b hb => fr1.not (by simp only [World.size_setCell, World.size_alloc]; omega)
  have hfl1 : ∀ b, b ∈ f1 → b < w1.heap.size := Own.lt _ _ _ O1.out
  go_wp2_with fail
  refine (toSelS_c _ _ _ _ (G3.out.below (by first | (with_reducible exact hB1) | (repeat (first | (with_reducible exact hB1) | refine Below.setCell ?_ (by dsimp only; omega) _)))) (by have := HBK.out; rw [JSel.bulkL_eq]; omega)).mono ?_
  rintro e w2 ⟨us2, f2, rfl, o2, fr2, hb2⟩
  obtain ⟨X2, x2, rfl⟩ := Own.slD o2
  obtain ⟨hc2, hf2⟩ := bcell hb2
  have hs2 := hb2.size
  simp only [World.size_setCell, World.size_alloc] at hs2
  have hx2 : w.heap.size + 1 + 1 < w2.heap.size := by omega
  have hy2 : w.heap.size + 1 < w2.heap.size := by omega
  have hz2 : w.heap.size < w2.heap.size := by omega
  have hB2 : Below w.heap.size w w2 := bt (by first | (with_reducible exact hB1) | (repeat (first | (with_reducible exact hB1) | refine Below.setCell ?_ (by dsimp only; omega) _))) hb2
  have O2 := Lib.hid o2
  clear o2
  have hq2 : ∀ b, b ≤ w.heap.size + 1 + 1 → b ∉ f2 := fun b hb => fr2.not (by simp only [World.size_setCell, World.size_alloc]; omega)
  have hfl2 : ∀ b, b ∈ f2 → b < w2.heap.size := Own.lt _ _ _ O2.out
  replace O1 : Hid (Own w2 (slD strD 1 v.way) (.slice X1 v.way.length x1) f1) := Lib.hid (Own.keep (by repeat (first | (with_reducible exact O1.out) | refine Own.set ?_ (hq1 _ (by dsimp only; omega)) _)) hb2)
  go_wp2_with fail
  refine (toIntS_c _ _ _ _ (G4.out.below (by first | (with_reducible exact hB2) | (repeat (first | (with_reducible exact hB2) | refine Below.setCell ?_ (by dsimp only; omega) _)))) (by have := HBK.out; rw [bulkL_ints]; omega)).mono ?_
  rintro e w3 ⟨us3, f3, rfl, o3, fr3, hb3⟩
  obtain ⟨X3, x3, rfl⟩ := Own.slD o3
  obtain ⟨hc3, hf3⟩ := bcell hb3
  have hs3 := hb3.size
  simp only [World.size_setCell, World.size_alloc] at hs3
  have hx3 : w.heap.size + 1 + 1 < w3.heap.size := by omega
  have hy3 : w.heap.size + 1 < w3.heap.size := by omega
  have hz3 : w.heap.size < w3.heap.size := by omega
  have hB3 : Below w.heap.size w w3 := bt (by first | (with_reducible exact hB2) | (repeat (first | (with_reducible exact hB2) | refine Below.setCell ?_ (by dsimp only; omega) _))) hb3
  have O3 := Lib.hid o3
  clear o3
  have hq3 : ∀ b, b ≤ w.heap.size + 1 + 1 → b ∉ f3 := fun b hb => fr3.not (by simp only [World.size_setCell, World.size_alloc]; omega)
  have hfl3 : ∀ b, b ∈ f3 → b < w3.heap.size := Own.lt _ _ _ O3.out
  replace O1 : Hid (Own w3 (slD strD 1 v.way) (.slice X1 v.way.length x1) f1) := Lib.hid (Own.keep (by repeat (first | (with_reducible exact O1.out) | refine Own.set ?_ (hq1 _ (by dsimp only; omega)) _)) hb3)
  replace O2 : Hid (Own w3 (slD JSel.enc 5 v.sels) (.slice X2 v.sels.length x2) f2) := Lib.hid (Own.keep (by repeat (first | (with_reducible exact O2.out) | refine Own.set ?_ (hq2 _ (by dsimp only; omega)) _)) hb3)
  go_wp2_with fail
  refine (toStringS_c _ _ _ _ (G5.out.below (by first | (with_reducible exact hB3) | (repeat (first | (with_reducible exact hB3) | refine Below.setCell ?_ (by dsimp only; omega) _)))) (by have := HBK.out; rw [bulkL_strs]; omega)).mono ?_
  rintro e w4 ⟨us4, f4, rfl, o4, fr4, hb4⟩
  obtain ⟨X4, x4, rfl⟩ := Own.slD o4
  obtain ⟨hc4, hf4⟩ := bcell hb4
  have hs4 := hb4.size
  simp only [World.size_setCell, World.size_alloc] at hs4
  have hx4 : w.heap.size + 1 + 1 < w4.heap.size := by omega
  have hy4 : w.heap.size + 1 < w4.heap.size := by omega
  have hz4 : w.heap.size < w4.heap.size := by omega
  have hB4 : Below w.heap.size w w4 := bt (by first | (with_reducible exact hB3) | (repeat (first | (with_reducible exact hB3) | refine Below.setCell ?_ (by dsimp only; omega) _))) hb4
  have O4 := Lib.hid o4
  clear o4
  have hq4 : ∀ b, b ≤ w.heap.size + 1 + 1 → b ∉ f4 := fun b hb => fr4.not (by simp only [World.size_setCell, World.size_alloc]; omega)
  have hfl4 : ∀ b, b ∈ f4 → b < w4.heap.size := Own.lt _ _ _ O4.out
  replace O1 : Hid (Own w4 (slD strD 1 v.way) (.slice X1 v.way.length x1) f1) := Lib.hid (Own.keep (by repeat (first | (with_reducible exact O1.out) | refine Own.set ?_ (hq1 _ (by dsimp only; omega)) _)) hb4)
  replace O2 : Hid (Own w4 (slD JSel.enc 5 v.sels) (.slice X2 v.sels.length x2) f2) := Lib.hid (Own.keep (by repeat (first | (with_reducible exact O2.out) | refine Own.set ?_ (hq2 _ (by dsimp only; omega)) _)) hb4)
  replace O3 : Hid (Own w4 (slD intD 1 v.after_) (.slice X3 v.after_.length x3) f3) := Lib.hid (Own.keep (by repeat (first | (with_reducible exact O3.out) | refine Own.set ?_ (hq3 _ (by dsimp only; omega)) _)) hb4)
  go_wp2
  refine bodyPost_ret (v := .agg #[.int .i64 v.part, .slice X1 v.way.length x1, .string v.typ, .slice X2 v.sels.length x2, .slice X3 v.after_.length x3, .slice X4 v.brings.length x4]) (by simp [results, Try.results44, go_sem, hc1, hx1, hy1, hz1, hc2, hx2, hy2, hz2, hc3, hx3, hy3, hz3, hc4, hx4, hy4, hz4]) rfl ⟨_, f1 ++ (f2 ++ (f3 ++ (f4 ++ ([])))), rfl, ?_, ?_, ?_⟩
  · rw [JStep.enc_eq]
    exact .int (.cons (by repeat (first | (with_reducible exact O1.out) | refine Own.set ?_ (hq1 _ (by dsimp only; omega)) _)) (.str l2 (.cons (by repeat (first | (with_reducible exact O2.out) | refine Own.set ?_ (hq2 _ (by dsimp only; omega)) _)) (.cons (by repeat (first | (with_reducible exact O3.out) | refine Own.set ?_ (hq3 _ (by dsimp only; omega)) _)) (.cons (by repeat (first | (with_reducible exact O4.out) | refine Own.set ?_ (hq4 _ (by dsimp only; omega)) _)) (.nil _))))))
  · exact (Fresh.lower (Fresh.app fr1 (by first | (simp only [World.size_setCell, World.size_alloc]; omega) | omega) (fun b hb => by have := hfl1 b hb; first | (simp only [World.size_setCell]; omega) | omega) (Fresh.app fr2 (by first | (simp only [World.size_setCell, World.size_alloc]; omega) | omega) (fun b hb => by have := hfl2 b hb; first | (simp only [World.size_setCell]; omega) | omega) (Fresh.app fr3 (by first | (simp only [World.size_setCell, World.size_alloc]; omega) | omega) (fun b hb => by have := hfl3 b hb; first | (simp only [World.size_setCell]; omega) | omega) (Fresh.app1 fr4)))) (by first | (simp only [World.size_setCell, World.size_alloc]; omega) | omega))
  · repeat (first | (with_reducible exact hB4) | refine Below.setCell ?_ (by dsimp only; omega) _)
theorem info_Step : (Try.prog.info? 73).map (fun i => (i.zero, i.size, i.bytes)) = some (some (.agg #[.int .i64 0, .slice none 0 0, .string ⟨#[]⟩, .slice none 0 0, .slice none 0 0, .slice none 0 0]), 6, 120) := by kernel_rfl
theorem zero_Step (w : World) : OwnRow w [.int .i64 0, .sl 1 0 [], .str ⟨#[]⟩, .sl 5 0 [], .sl 1 0 [], .sl 1 0 []] (#[.int .i64 0, .slice none 0 0, .string ⟨#[]⟩, .slice none 0 0, .slice none 0 0, .slice none 0 0] : Array Value).toList [] := .int (.cons (f1 := []) (by simp [Own]) (.str (by decide) (.cons (f1 := []) (by simp [Own]) (.cons (f1 := []) (by simp [Own]) (.cons (f1 := []) (by simp [Own]) (.nil w))))))
def ToStepS (xs : List JStep) : Prop := ∀ (A : Option Addr) (c : Nat) (w : World), Rd w (slD JStep.enc 6 xs) (.slice A xs.length c) → bulkL (JStep.bulk) xs ≤ 1048576 →
    Calls Try.prog 17 #[.slice A xs.length c] w (Made1 w (slD JStep.enc 6 xs))
set_option maxHeartbeats 1600000 in
theorem toStepS_of (xs : List JStep) (hE : ∀ x, x ∈ xs → ToStep x) : ToStepS xs := by
  intro A c w hx hbk
  have hl : xs.length ≤ 1048576 := by unfold bulkL at hbk; omega
  have HE := Lib.hid hE
  have HK := Lib.hid hbk
  clear hE hbk
  obtain ⟨i0, hi, hz0, hz1, hz2⟩ := info_parts info_Step
  have HX := Lib.hid hx
  clear hx
  go_enter Try.func17, Try.ntmps17
  go_wp2_with (at_make; refine wpList_make_full _ rfl (.tmp 6) (.tmp 6) 40 rfl w.heap.size 73 i0 (.agg #[.int .i64 0, .slice none 0 0, .string ⟨#[]⟩, .slice none 0 0, .slice none 0 0, .slice none 0 0]) 6 Try.underlying40 hi hz0 hz1 .i64 .i64 _ _ xs.length rfl rfl rfl rfl ?hb2 ?hb3 ?hb4 ?_)
  case hb2 => rw [hz2]; omega
  case hb3 => unfold maxLen; omega
  case hb4 => exact Nat.le_refl _
  intro w1 ho hg
  obtain ⟨cur, hblk, hcur, hsz⟩ := made_block ho
  have hB1 : Below w.heap.size w w1 := (Below.refl _ _).grown hg (Nat.le_refl _) (fun k h => by cases h)
  have K1 := Lib.hid (half_start (enc := JStep.enc) (sz := 6) (z := [.int .i64 0, .sl 1 0 [], .str ⟨#[]⟩, .sl 5 0 [], .sl 1 0 [], .sl 1 0 []]) (zc := #[.int .i64 0, .slice none 0 0, .string ⟨#[]⟩, .slice none 0 0, .slice none 0 0, .slice none 0 0]) xs hblk (by simpa using hcur) hsz rfl (by decide) (by unfold maxLen; omega) zero_Step)
  have hw1 := K1.out.lt
  clear ho hg hcur hsz hblk
  go_wp2
  go_loopw [4] (fun i wr => ∃ k : Nat, k ≤ xs.length ∧ i = .int .i64 k ∧ Hid (Half wr JStep.enc 6 [.int .i64 0, .sl 1 0 [], .str ⟨#[]⟩, .sl 5 0 [], .sl 1 0 [], .sl 1 0 []] xs k w.heap.size) ∧ Below w.heap.size w wr ∧ w.heap.size < wr.heap.size) (fun i _ => xs.length - (intOf i).toNat)
  case atStart => exact ⟨0, Nat.zero_le _, rfl, K1.out, hB1, hw1⟩
  case round =>
    obtain ⟨k, hk, rfl, HH, hb, hlt0⟩ := hrel
    by_cases hlt : k < xs.length
    · obtain ⟨ad, A1, c1, A3, c3, A4, c4, A5, c5, rfl, hx0, hx1, hx2, hx3, hx4, hx5, g1, g3, g4, g5, l2, _n1, _n3, _n4, _n5⟩ := JStep.elem (HX.out.below hb) k hlt
      have HM := Lib.hid (HE.out xs[k] (List.getElem_mem hlt))
      have HQ := Lib.hid (bulkL_mem HK.out (List.getElem_mem hlt))
      have G1 := Lib.hid g1
      clear g1
      have G3 := Lib.hid g3
      clear g3
      have G4 := Lib.hid g4
      clear g4
      have G5 := Lib.hid g5
      clear g5
      go_wp2_with fail
      refine (HM.out _ _ (JStep.close_ _ G1.out G3.out G4.out G5.out l2) HQ.out).mono ?_
      rintro e w2 ⟨us, f2, rfl, o2, fr2, hb2⟩
      obtain ⟨B1, d1, B3, d3, B4, d4, B5, d5, rfl⟩ := JStep.openO o2
      have O2 := Lib.hid o2
      clear o2
      have hs2 : w.heap.size < w2.heap.size := by have := hb2.size; omega
      obtain ⟨hc2, hf2⟩ := bcell hb2
      obtain ⟨y0, q0⟩ := HH.out.cell (k * 6) (by omega)
      obtain ⟨y1, q1⟩ := HH.out.cell (k * 6 + 1) (by omega)
      obtain ⟨y2, q2⟩ := HH.out.cell (k * 6 + 2) (by omega)
      obtain ⟨y3, q3⟩ := HH.out.cell (k * 6 + 3) (by omega)
      obtain ⟨y4, q4⟩ := HH.out.cell (k * 6 + 4) (by omega)
      obtain ⟨y5, q5⟩ := HH.out.cell (k * 6 + 5) (by omega)
      have qf := HH.out.free
      go_wp2
      go_roundw
      case rel =>
        have hst := Half.step HH.out rfl JStep.enc_len hlt hb2 O2.out fr2
        simp only [putAll] at hst
        exact ⟨k + 1, by omega, by go_num, hst, by repeat (first | (with_reducible exact bt hb hb2) | refine Below.setCell ?_ (by dsimp only; omega) _), by simp only [World.size_setCell]; exact hs2⟩
      case measure => simp [intOf]; omega
    · have hkk : k = xs.length := by omega
      have HF := Lib.hid (show Half wr JStep.enc 6 [.int .i64 0, .sl 1 0 [], .str ⟨#[]⟩, .sl 5 0 [], .sl 1 0 [], .sl 1 0 []] xs xs.length w.heap.size by rw [← hkk]; exact HH.out)
      clear hkk
      go_wp2
      go_ret
      exact Half.done HF.out (Nat.le_refl _) hb

theorem toStep_c (v : JStep) : ToStep v := toStep_of v
theorem toStepS_c (xs : List JStep) : ToStepS xs := toStepS_of xs (fun x _ => toStep_c x)

end Go.Proofs.Ytegabeefggcelaa.Lib
