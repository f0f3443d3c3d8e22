/- Contracts of the laws' copying functions: the same value, in new memory through and through. Printed by gto.py. Lists' sizes as far as memory goes. -/
import Derived.Test.YtmkagpmdindlpaaProg
import Derived.Test.YtmkagpmdindlpaaBulk
import Derived.Test.YtmkagpmdindlpaaOwnLib
set_option linter.unusedVariables false
set_option linter.unusedSimpArgs false
namespace Go.Proofs.Ytmkagpmdindlpaa.Lib
open Go.RowKit

theorem info_str : (Try.prog.info? 9).map (fun i => (i.zero, i.size, i.bytes)) = some (some (.string ⟨#[]⟩), 1, 16) := by kernel_rfl
theorem zero_str (w : World) : OwnRow w [.str ⟨#[]⟩] (#[.string ⟨#[]⟩] : Array Value).toList [] := .str (by decide) (.nil w)
def ToStringS (xs : List ByteArray) : Prop := ∀ (A : Option Addr) (c : Nat) (w : World), Rd w (slD strD 1 xs) (.slice A xs.length c) → bulkL ((fun s : ByteArray => s.size)) xs ≤ 1048576 →
    Calls Try.prog 148 #[.slice A xs.length c] w (Made1 w (slD strD 1 xs))
set_option maxHeartbeats 1600000 in
theorem toStringS_c (xs : List ByteArray) : ToStringS xs := by
  intro A c w hx hbk
  have hl : xs.length ≤ 1048576 := by unfold bulkL at hbk; omega
  clear hbk
  obtain ⟨i0, hi, hz0, hz1, hz2⟩ := info_parts info_str
  have HX := Lib.hid hx
  clear hx
  go_enter Try.func148, Try.ntmps148
  go_wp2_with (at_make; refine wpList_make_full _ rfl (.tmp 6) (.tmp 6) 52 rfl w.heap.size 9 i0 (.string ⟨#[]⟩) 1 Try.underlying52 hi hz0 hz1 .i64 .i64 _ _ xs.length rfl rfl rfl rfl ?hb2 ?hb3 ?hb4 ?_)
  case hb2 => rw [hz2]; omega
  case hb3 => unfold maxLen; omega
  case hb4 => exact Nat.le_refl _
  intro w1 ho hg
  obtain ⟨cur, hblk, hcur, hsz⟩ := made_block ho
  have hB1 : Below w.heap.size w w1 := (Below.refl _ _).grown hg (Nat.le_refl _) (fun k h => by cases h)
  have K1 := Lib.hid (half_start (enc := strD) (sz := 1) (z := [.str ⟨#[]⟩]) (zc := #[.string ⟨#[]⟩]) xs hblk (by simpa using hcur) hsz rfl (by decide) (by unfold maxLen; omega) zero_str)
  have hw1 := K1.out.lt
  clear ho hg hcur hsz hblk
  go_wp2
  go_loopw [4] (fun i wr => ∃ k : Nat, k ≤ xs.length ∧ i = .int .i64 k ∧ Hid (Half wr strD 1 [.str ⟨#[]⟩] xs k w.heap.size) ∧ Below w.heap.size w wr ∧ w.heap.size < wr.heap.size) (fun i _ => xs.length - (intOf i).toNat)
  case atStart => exact ⟨0, Nat.zero_le _, rfl, K1.out, hB1, hw1⟩
  case round =>
    obtain ⟨k, hk, rfl, HH, hb, hlt0⟩ := hrel
    by_cases hlt : k < xs.length
    · obtain ⟨ad, rfl, hc, hs⟩ := Rd.elem_str (HX.out.below hb) k hlt
      obtain ⟨y0, q0⟩ := HH.out.cell k (by omega)
      have qf := HH.out.free
      go_wp2
      go_roundw
      case rel => exact ⟨k + 1, by omega, by go_num, Half.step1 HH.out rfl (fun _ => rfl) hlt (Below.refl _ _) (.str hs (.nil _)) (Fresh.nil _), hb.setCell (Nat.le_refl _) _, by rw [World.size_setCell]; exact hlt0⟩
      case measure => simp [intOf]; omega
    · have hkk : k = xs.length := by omega
      have HF := Lib.hid (show Half wr strD 1 [.str ⟨#[]⟩] xs xs.length w.heap.size by rw [← hkk]; exact HH.out)
      clear hkk
      go_wp2
      go_ret
      exact Half.done HF.out (Nat.le_refl _) hb

theorem info_int : (Try.prog.info? 3).map (fun i => (i.zero, i.size, i.bytes)) = some (some (.int .i64 0), 1, 8) := by kernel_rfl
theorem zero_int (w : World) : OwnRow w [.int .i64 0] (#[.int .i64 0] : Array Value).toList [] := .int (.nil w)
def ToIntS (xs : List Int) : Prop := ∀ (A : Option Addr) (c : Nat) (w : World), Rd w (slD intD 1 xs) (.slice A xs.length c) → bulkL ((fun _ : Int => 0)) xs ≤ 1048576 →
    Calls Try.prog 116 #[.slice A xs.length c] w (Made1 w (slD intD 1 xs))
set_option maxHeartbeats 1600000 in
theorem toIntS_c (xs : List Int) : ToIntS xs := by
  intro A c w hx hbk
  have hl : xs.length ≤ 1048576 := by unfold bulkL at hbk; omega
  clear hbk
  obtain ⟨i0, hi, hz0, hz1, hz2⟩ := info_parts info_int
  have HX := Lib.hid hx
  clear hx
  go_enter Try.func116, Try.ntmps116
  go_wp2_with (at_make; refine wpList_make_full _ rfl (.tmp 6) (.tmp 6) 29 rfl w.heap.size 3 i0 (.int .i64 0) 1 Try.underlying29 hi hz0 hz1 .i64 .i64 _ _ xs.length rfl rfl rfl rfl ?hb2 ?hb3 ?hb4 ?_)
  case hb2 => rw [hz2]; omega
  case hb3 => unfold maxLen; omega
  case hb4 => exact Nat.le_refl _
  intro w1 ho hg
  obtain ⟨cur, hblk, hcur, hsz⟩ := made_block ho
  have hB1 : Below w.heap.size w w1 := (Below.refl _ _).grown hg (Nat.le_refl _) (fun k h => by cases h)
  have K1 := Lib.hid (half_start (enc := intD) (sz := 1) (z := [.int .i64 0]) (zc := #[.int .i64 0]) xs hblk (by simpa using hcur) hsz rfl (by decide) (by unfold maxLen; omega) zero_int)
  have hw1 := K1.out.lt
  clear ho hg hcur hsz hblk
  go_wp2
  go_loopw [4] (fun i wr => ∃ k : Nat, k ≤ xs.length ∧ i = .int .i64 k ∧ Hid (Half wr intD 1 [.int .i64 0] xs k w.heap.size) ∧ Below w.heap.size w wr ∧ w.heap.size < wr.heap.size) (fun i _ => xs.length - (intOf i).toNat)
  case atStart => exact ⟨0, Nat.zero_le _, rfl, K1.out, hB1, hw1⟩
  case round =>
    obtain ⟨k, hk, rfl, HH, hb, hlt0⟩ := hrel
    by_cases hlt : k < xs.length
    · obtain ⟨ad, rfl, hc⟩ := Rd.elem_int (HX.out.below hb) k hlt
      obtain ⟨y0, q0⟩ := HH.out.cell k (by omega)
      have qf := HH.out.free
      go_wp2
      go_roundw
      case rel => exact ⟨k + 1, by omega, by go_num, Half.step1 HH.out rfl (fun _ => rfl) hlt (Below.refl _ _) (.int (.nil _)) (Fresh.nil _), hb.setCell (Nat.le_refl _) _, by rw [World.size_setCell]; exact hlt0⟩
      case measure => simp [intOf]; omega
    · have hkk : k = xs.length := by omega
      have HF := Lib.hid (show Half wr intD 1 [.int .i64 0] xs xs.length w.heap.size by rw [← hkk]; exact HH.out)
      clear hkk
      go_wp2
      go_ret
      exact Half.done HF.out (Nat.le_refl _) hb

def ToField (v : JField) : Prop := ∀ (cs : List Value) (w : World), RdL w v.enc cs → JField.bulk v ≤ 1048576 →
    Calls Try.prog 141 #[.agg cs.toArray] w (Made w v.enc)
theorem JField.openO {w : World} {v : JField} {cs : List Value} {fp : List Nat} (h : OwnRow w v.enc cs fp) : ∃ A7 c7, cs = [.string v.name, .string v.of, .bool v.list, .bool v.must, .bool v.far, .bool v.hidden, .bool v.shared, .slice A7 v.needs.length c7] := by
  obtain ⟨A7, c7, rfl, _⟩ := JField.open_ (OwnRow.rdl h)
  exact ⟨A7, c7, rfl⟩
set_option maxHeartbeats 3200000 in
theorem toField_of (v : JField) : ToField v := by
  intro cs w hcs hbk
  rw [JField.bulk_eq] at hbk
  obtain ⟨A7, c7, rfl, g7, l0, l1, _n7⟩ := JField.open_ hcs
  have G7 := Lib.hid g7
  clear g7
  clear hcs
  have HBK := Lib.hid hbk
  clear hbk
  go_enter Try.func141, Try.ntmps141
  go_wp2_with fail
  refine (toStringS_c _ _ _ _ (G7.out.below (bt (bt (b1 _ _) (b1 _ _)) (b1 _ _))) (by have := HBK.out; rw [bulkL_strs]; omega)).mono ?_
  rintro e w1 ⟨us1, f1, rfl, o1, fr1, hb1⟩
  obtain ⟨X1, x1, rfl⟩ := Own.slD o1
  obtain ⟨hc1, hf1⟩ := bcell hb1
  have hs1 := hb1.size
  simp only [World.size_setCell, World.size_alloc] at hs1
  have hx1 : w.heap.size + 1 + 1 < w1.heap.size := by omega
  have hy1 : w.heap.size + 1 < w1.heap.size := by omega
  have hz1 : w.heap.size < w1.heap.size := by omega
  have hB1 : Below w.heap.size w w1 := bt (bt (bt (b1 _ _) (b1 _ _)) (b1 _ _)) hb1
  have O1 := Lib.hid o1
  clear o1
  have hq1 : ∀ b, b ≤ w.heap.size + 1 + 1 → b ∉ f1 := fun b hb => fr1.not (by simp only [World.size_setCell, World.size_alloc]; omega)
  have hfl1 : ∀ b, b ∈ f1 → b < w1.heap.size := Own.lt _ _ _ O1.out
  go_wp2
  refine bodyPost_ret (v := .agg #[.string v.name, .string v.of, .bool v.list, .bool v.must, .bool v.far, .bool v.hidden, .bool v.shared, .slice X1 v.needs.length x1]) (by simp [results, Try.results141, go_sem, hc1, hx1, hy1, hz1]) rfl ⟨_, f1 ++ ([]), rfl, ?_, ?_, ?_⟩
  · rw [JField.enc_eq]
    exact .str l0 (.str l1 (.bool (.bool (.bool (.bool (.bool (.cons (by repeat (first | (with_reducible exact O1.out) | refine Own.set ?_ (hq1 _ (by dsimp only; omega)) _)) (.nil _))))))))
  · exact (Fresh.lower (Fresh.app1 fr1) (by first | (simp only [World.size_setCell, World.size_alloc]; omega) | omega))
  · repeat (first | (with_reducible exact hB1) | refine Below.setCell ?_ (by dsimp only; omega) _)
theorem info_Field : (Try.prog.info? 59).map (fun i => (i.zero, i.size, i.bytes)) = some (some (.agg #[.string ⟨#[]⟩, .string ⟨#[]⟩, .bool false, .bool false, .bool false, .bool false, .bool false, .slice none 0 0]), 8, 64) := by kernel_rfl
theorem zero_Field (w : World) : OwnRow w [.str ⟨#[]⟩, .str ⟨#[]⟩, .bool false, .bool false, .bool false, .bool false, .bool false, .sl 1 0 []] (#[.string ⟨#[]⟩, .string ⟨#[]⟩, .bool false, .bool false, .bool false, .bool false, .bool false, .slice none 0 0] : Array Value).toList [] := .str (by decide) (.str (by decide) (.bool (.bool (.bool (.bool (.bool (.cons (f1 := []) (by simp [Own]) (.nil w))))))))
def ToFieldS (xs : List JField) : Prop := ∀ (A : Option Addr) (c : Nat) (w : World), Rd w (slD JField.enc 8 xs) (.slice A xs.length c) → bulkL (JField.bulk) xs ≤ 1048576 →
    Calls Try.prog 119 #[.slice A xs.length c] w (Made1 w (slD JField.enc 8 xs))
set_option maxHeartbeats 1600000 in
theorem toFieldS_of (xs : List JField) (hE : ∀ x, x ∈ xs → ToField x) : ToFieldS xs := by
  intro A c w hx hbk
  have hl : xs.length ≤ 1048576 := by unfold bulkL at hbk; omega
  have HE := Lib.hid hE
  have HK := Lib.hid hbk
  clear hE hbk
  obtain ⟨i0, hi, hz0, hz1, hz2⟩ := info_parts info_Field
  have HX := Lib.hid hx
  clear hx
  go_enter Try.func119, Try.ntmps119
  go_wp2_with (at_make; refine wpList_make_full _ rfl (.tmp 6) (.tmp 6) 69 rfl w.heap.size 59 i0 (.agg #[.string ⟨#[]⟩, .string ⟨#[]⟩, .bool false, .bool false, .bool false, .bool false, .bool false, .slice none 0 0]) 8 Try.underlying69 hi hz0 hz1 .i64 .i64 _ _ xs.length rfl rfl rfl rfl ?hb2 ?hb3 ?hb4 ?_)
  case hb2 => rw [hz2]; omega
  case hb3 => unfold maxLen; omega
  case hb4 => exact Nat.le_refl _
  intro w1 ho hg
  obtain ⟨cur, hblk, hcur, hsz⟩ := made_block ho
  have hB1 : Below w.heap.size w w1 := (Below.refl _ _).grown hg (Nat.le_refl _) (fun k h => by cases h)
  have K1 := Lib.hid (half_start (enc := JField.enc) (sz := 8) (z := [.str ⟨#[]⟩, .str ⟨#[]⟩, .bool false, .bool false, .bool false, .bool false, .bool false, .sl 1 0 []]) (zc := #[.string ⟨#[]⟩, .string ⟨#[]⟩, .bool false, .bool false, .bool false, .bool false, .bool false, .slice none 0 0]) xs hblk (by simpa using hcur) hsz rfl (by decide) (by unfold maxLen; omega) zero_Field)
  have hw1 := K1.out.lt
  clear ho hg hcur hsz hblk
  go_wp2
  go_loopw [4] (fun i wr => ∃ k : Nat, k ≤ xs.length ∧ i = .int .i64 k ∧ Hid (Half wr JField.enc 8 [.str ⟨#[]⟩, .str ⟨#[]⟩, .bool false, .bool false, .bool false, .bool false, .bool false, .sl 1 0 []] xs k w.heap.size) ∧ Below w.heap.size w wr ∧ w.heap.size < wr.heap.size) (fun i _ => xs.length - (intOf i).toNat)
  case atStart => exact ⟨0, Nat.zero_le _, rfl, K1.out, hB1, hw1⟩
  case round =>
    obtain ⟨k, hk, rfl, HH, hb, hlt0⟩ := hrel
    by_cases hlt : k < xs.length
    · obtain ⟨ad, A7, c7, rfl, hx0, hx1, hx2, hx3, hx4, hx5, hx6, hx7, g7, l0, l1, _n7⟩ := JField.elem (HX.out.below hb) k hlt
      have HM := Lib.hid (HE.out xs[k] (List.getElem_mem hlt))
      have HQ := Lib.hid (bulkL_mem HK.out (List.getElem_mem hlt))
      have G7 := Lib.hid g7
      clear g7
      go_wp2_with fail
      refine (HM.out _ _ (JField.close_ _ G7.out l0 l1) HQ.out).mono ?_
      rintro e w2 ⟨us, f2, rfl, o2, fr2, hb2⟩
      obtain ⟨B7, d7, rfl⟩ := JField.openO o2
      have O2 := Lib.hid o2
      clear o2
      have hs2 : w.heap.size < w2.heap.size := by have := hb2.size; omega
      obtain ⟨hc2, hf2⟩ := bcell hb2
      obtain ⟨y0, q0⟩ := HH.out.cell (k * 8) (by omega)
      obtain ⟨y1, q1⟩ := HH.out.cell (k * 8 + 1) (by omega)
      obtain ⟨y2, q2⟩ := HH.out.cell (k * 8 + 2) (by omega)
      obtain ⟨y3, q3⟩ := HH.out.cell (k * 8 + 3) (by omega)
      obtain ⟨y4, q4⟩ := HH.out.cell (k * 8 + 4) (by omega)
      obtain ⟨y5, q5⟩ := HH.out.cell (k * 8 + 5) (by omega)
      obtain ⟨y6, q6⟩ := HH.out.cell (k * 8 + 6) (by omega)
      obtain ⟨y7, q7⟩ := HH.out.cell (k * 8 + 7) (by omega)
      have qf := HH.out.free
      go_wp2
      go_roundw
      case rel =>
        have hst := Half.step HH.out rfl JField.enc_len hlt hb2 O2.out fr2
        simp only [putAll] at hst
        exact ⟨k + 1, by omega, by go_num, hst, by repeat (first | (with_reducible exact bt hb hb2) | refine Below.setCell ?_ (by dsimp only; omega) _), by simp only [World.size_setCell]; exact hs2⟩
      case measure => simp [intOf]; omega
    · have hkk : k = xs.length := by omega
      have HF := Lib.hid (show Half wr JField.enc 8 [.str ⟨#[]⟩, .str ⟨#[]⟩, .bool false, .bool false, .bool false, .bool false, .bool false, .sl 1 0 []] xs xs.length w.heap.size by rw [← hkk]; exact HH.out)
      clear hkk
      go_wp2
      go_ret
      exact Half.done HF.out (Nat.le_refl _) hb

theorem toField_c (v : JField) : ToField v := toField_of v
theorem toFieldS_c (xs : List JField) : ToFieldS xs := toFieldS_of xs (fun x _ => toField_c x)

def ToTyp (v : JTyp) : Prop := ∀ (cs : List Value) (w : World), RdL w v.enc cs → JTyp.bulk v ≤ 1048576 →
    Calls Try.prog 91 #[.agg cs.toArray] w (Made w v.enc)
theorem JTyp.openO {w : World} {v : JTyp} {cs : List Value} {fp : List Nat} (h : OwnRow w v.enc cs fp) : ∃ A2 c2, cs = [.string v.name, .string v.key, .slice A2 v.fields.length c2] := by
  obtain ⟨A2, c2, rfl, _⟩ := JTyp.open_ (OwnRow.rdl h)
  exact ⟨A2, c2, rfl⟩
set_option maxHeartbeats 3200000 in
theorem toTyp_of (v : JTyp) : ToTyp v := by
  intro cs w hcs hbk
  rw [JTyp.bulk_eq] at hbk
  obtain ⟨A2, c2, rfl, g2, l0, l1, _n2⟩ := JTyp.open_ hcs
  have G2 := Lib.hid g2
  clear g2
  clear hcs
  have HBK := Lib.hid hbk
  clear hbk
  go_enter Try.func91, Try.ntmps91
  go_wp2_with fail
  refine (toFieldS_c _ _ _ _ (G2.out.below (bt (bt (b1 _ _) (b1 _ _)) (b1 _ _))) (by have := HBK.out; rw [JField.bulkL_eq]; omega)).mono ?_
  rintro e w1 ⟨us1, f1, rfl, o1, fr1, hb1⟩
  obtain ⟨X1, x1, rfl⟩ := Own.slD o1
  obtain ⟨hc1, hf1⟩ := bcell hb1
  have hs1 := hb1.size
  simp only [World.size_setCell, World.size_alloc] at hs1
  have hx1 : w.heap.size + 1 + 1 < w1.heap.size := by omega
  have hy1 : w.heap.size + 1 < w1.heap.size := by omega
  have hz1 : w.heap.size < w1.heap.size := by omega
  have hB1 : Below w.heap.size w w1 := bt (bt (bt (b1 _ _) (b1 _ _)) (b1 _ _)) hb1
  have O1 := Lib.hid o1
  clear o1
  have hq1 : ∀ b, b ≤ w.heap.size + 1 + 1 → b ∉ f1 := fun b hb => fr1.not (by simp only [World.size_setCell, World.size_alloc]; omega)
  have hfl1 : ∀ b, b ∈ f1 → b < w1.heap.size := Own.lt _ _ _ O1.out
  go_wp2
  refine bodyPost_ret (v := .agg #[.string v.name, .string v.key, .slice X1 v.fields.length x1]) (by simp [results, Try.results91, go_sem, hc1, hx1, hy1, hz1]) rfl ⟨_, f1 ++ ([]), rfl, ?_, ?_, ?_⟩
  · rw [JTyp.enc_eq]
    exact .str l0 (.str l1 (.cons (by repeat (first | (with_reducible exact O1.out) | refine Own.set ?_ (hq1 _ (by dsimp only; omega)) _)) (.nil _)))
  · exact (Fresh.lower (Fresh.app1 fr1) (by first | (simp only [World.size_setCell, World.size_alloc]; omega) | omega))
  · repeat (first | (with_reducible exact hB1) | refine Below.setCell ?_ (by dsimp only; omega) _)
theorem info_Typ : (Try.prog.info? 71).map (fun i => (i.zero, i.size, i.bytes)) = some (some (.agg #[.string ⟨#[]⟩, .string ⟨#[]⟩, .slice none 0 0]), 3, 56) := by kernel_rfl
theorem zero_Typ (w : World) : OwnRow w [.str ⟨#[]⟩, .str ⟨#[]⟩, .sl 8 0 []] (#[.string ⟨#[]⟩, .string ⟨#[]⟩, .slice none 0 0] : Array Value).toList [] := .str (by decide) (.str (by decide) (.cons (f1 := []) (by simp [Own]) (.nil w)))
def ToTypS (xs : List JTyp) : Prop := ∀ (A : Option Addr) (c : Nat) (w : World), Rd w (slD JTyp.enc 3 xs) (.slice A xs.length c) → bulkL (JTyp.bulk) xs ≤ 1048576 →
    Calls Try.prog 60 #[.slice A xs.length c] w (Made1 w (slD JTyp.enc 3 xs))
set_option maxHeartbeats 1600000 in
theorem toTypS_of (xs : List JTyp) (hE : ∀ x, x ∈ xs → ToTyp x) : ToTypS xs := by
  intro A c w hx hbk
  have hl : xs.length ≤ 1048576 := by unfold bulkL at hbk; omega
  have HE := Lib.hid hE
  have HK := Lib.hid hbk
  clear hE hbk
  obtain ⟨i0, hi, hz0, hz1, hz2⟩ := info_parts info_Typ
  have HX := Lib.hid hx
  clear hx
  go_enter Try.func60, Try.ntmps60
  go_wp2_with (at_make; refine wpList_make_full _ rfl (.tmp 6) (.tmp 6) 31 rfl w.heap.size 71 i0 (.agg #[.string ⟨#[]⟩, .string ⟨#[]⟩, .slice none 0 0]) 3 Try.underlying31 hi hz0 hz1 .i64 .i64 _ _ xs.length rfl rfl rfl rfl ?hb2 ?hb3 ?hb4 ?_)
  case hb2 => rw [hz2]; omega
  case hb3 => unfold maxLen; omega
  case hb4 => exact Nat.le_refl _
  intro w1 ho hg
  obtain ⟨cur, hblk, hcur, hsz⟩ := made_block ho
  have hB1 : Below w.heap.size w w1 := (Below.refl _ _).grown hg (Nat.le_refl _) (fun k h => by cases h)
  have K1 := Lib.hid (half_start (enc := JTyp.enc) (sz := 3) (z := [.str ⟨#[]⟩, .str ⟨#[]⟩, .sl 8 0 []]) (zc := #[.string ⟨#[]⟩, .string ⟨#[]⟩, .slice none 0 0]) xs hblk (by simpa using hcur) hsz rfl (by decide) (by unfold maxLen; omega) zero_Typ)
  have hw1 := K1.out.lt
  clear ho hg hcur hsz hblk
  go_wp2
  go_loopw [4] (fun i wr => ∃ k : Nat, k ≤ xs.length ∧ i = .int .i64 k ∧ Hid (Half wr JTyp.enc 3 [.str ⟨#[]⟩, .str ⟨#[]⟩, .sl 8 0 []] xs k w.heap.size) ∧ Below w.heap.size w wr ∧ w.heap.size < wr.heap.size) (fun i _ => xs.length - (intOf i).toNat)
  case atStart => exact ⟨0, Nat.zero_le _, rfl, K1.out, hB1, hw1⟩
  case round =>
    obtain ⟨k, hk, rfl, HH, hb, hlt0⟩ := hrel
    by_cases hlt : k < xs.length
    · obtain ⟨ad, A2, c2, rfl, hx0, hx1, hx2, g2, l0, l1, _n2⟩ := JTyp.elem (HX.out.below hb) k hlt
      have HM := Lib.hid (HE.out xs[k] (List.getElem_mem hlt))
      have HQ := Lib.hid (bulkL_mem HK.out (List.getElem_mem hlt))
      have G2 := Lib.hid g2
      clear g2
      go_wp2_with fail
      refine (HM.out _ _ (JTyp.close_ _ G2.out l0 l1) HQ.out).mono ?_
      rintro e w2 ⟨us, f2, rfl, o2, fr2, hb2⟩
      obtain ⟨B2, d2, rfl⟩ := JTyp.openO o2
      have O2 := Lib.hid o2
      clear o2
      have hs2 : w.heap.size < w2.heap.size := by have := hb2.size; omega
      obtain ⟨hc2, hf2⟩ := bcell hb2
      obtain ⟨y0, q0⟩ := HH.out.cell (k * 3) (by omega)
      obtain ⟨y1, q1⟩ := HH.out.cell (k * 3 + 1) (by omega)
      obtain ⟨y2, q2⟩ := HH.out.cell (k * 3 + 2) (by omega)
      have qf := HH.out.free
      go_wp2
      go_roundw
      case rel =>
        have hst := Half.step HH.out rfl JTyp.enc_len hlt hb2 O2.out fr2
        simp only [putAll] at hst
        exact ⟨k + 1, by omega, by go_num, hst, by repeat (first | (with_reducible exact bt hb hb2) | refine Below.setCell ?_ (by dsimp only; omega) _), by simp only [World.size_setCell]; exact hs2⟩
      case measure => simp [intOf]; omega
    · have hkk : k = xs.length := by omega
      have HF := Lib.hid (show Half wr JTyp.enc 3 [.str ⟨#[]⟩, .str ⟨#[]⟩, .sl 8 0 []] xs xs.length w.heap.size by rw [← hkk]; exact HH.out)
      clear hkk
      go_wp2
      go_ret
      exact Half.done HF.out (Nat.le_refl _) hb

theorem toTyp_c (v : JTyp) : ToTyp v := toTyp_of v
theorem toTypS_c (xs : List JTyp) : ToTypS xs := toTypS_of xs (fun x _ => toTyp_c x)

def ToPart (v : JPart) : Prop := ∀ (cs : List Value) (w : World), RdL w v.enc cs → JPart.bulk v ≤ 1048576 →
    Calls Try.prog 24 #[.agg cs.toArray] w (Made w v.enc)
theorem JPart.openO {w : World} {v : JPart} {cs : List Value} {fp : List Nat} (h : OwnRow w v.enc cs fp) : ∃ A1 c1, cs = [.string v.name, .slice A1 v.types.length c1] := by
  obtain ⟨A1, c1, rfl, _⟩ := JPart.open_ (OwnRow.rdl h)
  exact ⟨A1, c1, rfl⟩
set_option maxHeartbeats 3200000 in
theorem toPart_of (v : JPart) : ToPart v := by
  intro cs w hcs hbk
  rw [JPart.bulk_eq] at hbk
  obtain ⟨A1, c1, rfl, g1, l0, _n1⟩ := JPart.open_ hcs
  have G1 := Lib.hid g1
  clear g1
  clear hcs
  have HBK := Lib.hid hbk
  clear hbk
  go_enter Try.func24, Try.ntmps24
  go_wp2_with fail
  refine (toTypS_c _ _ _ _ (G1.out.below (bt (bt (b1 _ _) (b1 _ _)) (b1 _ _))) (by have := HBK.out; rw [JTyp.bulkL_eq]; omega)).mono ?_
  rintro e w1 ⟨us1, f1, rfl, o1, fr1, hb1⟩
  obtain ⟨X1, x1, rfl⟩ := Own.slD o1
  obtain ⟨hc1, hf1⟩ := bcell hb1
  have hs1 := hb1.size
  simp only [World.size_setCell, World.size_alloc] at hs1
  have hx1 : w.heap.size + 1 + 1 < w1.heap.size := by omega
  have hy1 : w.heap.size + 1 < w1.heap.size := by omega
  have hz1 : w.heap.size < w1.heap.size := by omega
  have hB1 : Below w.heap.size w w1 := bt (bt (bt (b1 _ _) (b1 _ _)) (b1 _ _)) hb1
  have O1 := Lib.hid o1
  clear o1
  have hq1 : ∀ b, b ≤ w.heap.size + 1 + 1 → b ∉ f1 := fun b hb => fr1.not (by simp only [World.size_setCell, World.size_alloc]; omega)
  have hfl1 : ∀ b, b ∈ f1 → b < w1.heap.size := Own.lt _ _ _ O1.out
  go_wp2
  refine bodyPost_ret (v := .agg #[.string v.name, .slice X1 v.types.length x1]) (by simp [results, Try.results24, go_sem, hc1, hx1, hy1, hz1]) rfl ⟨_, f1 ++ ([]), rfl, ?_, ?_, ?_⟩
  · rw [JPart.enc_eq]
    exact .str l0 (.cons (by repeat (first | (with_reducible exact O1.out) | refine Own.set ?_ (hq1 _ (by dsimp only; omega)) _)) (.nil _))
  · exact (Fresh.lower (Fresh.app1 fr1) (by first | (simp only [World.size_setCell, World.size_alloc]; omega) | omega))
  · repeat (first | (with_reducible exact hB1) | refine Below.setCell ?_ (by dsimp only; omega) _)
theorem info_Part : (Try.prog.info? 33).map (fun i => (i.zero, i.size, i.bytes)) = some (some (.agg #[.string ⟨#[]⟩, .slice none 0 0]), 2, 40) := by kernel_rfl
theorem zero_Part (w : World) : OwnRow w [.str ⟨#[]⟩, .sl 3 0 []] (#[.string ⟨#[]⟩, .slice none 0 0] : Array Value).toList [] := .str (by decide) (.cons (f1 := []) (by simp [Own]) (.nil w))
theorem toPart_c (v : JPart) : ToPart v := toPart_of v
def ToOwner (v : JOwner) : Prop := ∀ (cs : List Value) (w : World), RdL w v.enc cs → JOwner.bulk v ≤ 1048576 →
    Calls Try.prog 83 #[.agg cs.toArray] w (Made w v.enc)
theorem JOwner.openO {w : World} {v : JOwner} {cs : List Value} {fp : List Nat} (h : OwnRow w v.enc cs fp) : ∃ A2 c2, cs = [.string v.typ, .string v.field, .slice A2 v.parts.length c2] := by
  obtain ⟨A2, c2, rfl, _⟩ := JOwner.open_ (OwnRow.rdl h)
  exact ⟨A2, c2, rfl⟩
set_option maxHeartbeats 3200000 in
theorem toOwner_of (v : JOwner) : ToOwner v := by
  intro cs w hcs hbk
  rw [JOwner.bulk_eq] at hbk
  obtain ⟨A2, c2, rfl, g2, l0, l1, _n2⟩ := JOwner.open_ hcs
  have G2 := Lib.hid g2
  clear g2
  clear hcs
  have HBK := Lib.hid hbk
  clear hbk
  go_enter Try.func83, Try.ntmps83
  go_wp2_with fail
  refine (toIntS_c _ _ _ _ (G2.out.below (bt (bt (b1 _ _) (b1 _ _)) (b1 _ _))) (by have := HBK.out; rw [bulkL_ints]; omega)).mono ?_
  rintro e w1 ⟨us1, f1, rfl, o1, fr1, hb1⟩
  obtain ⟨X1, x1, rfl⟩ := Own.slD o1
  obtain ⟨hc1, hf1⟩ := bcell hb1
  have hs1 := hb1.size
  simp only [World.size_setCell, World.size_alloc] at hs1
  have hx1 : w.heap.size + 1 + 1 < w1.heap.size := by omega
  have hy1 : w.heap.size + 1 < w1.heap.size := by omega
  have hz1 : w.heap.size < w1.heap.size := by omega
  have hB1 : Below w.heap.size w w1 := bt (bt (bt (b1 _ _) (b1 _ _)) (b1 _ _)) hb1
  have O1 := Lib.hid o1
  clear o1
  have hq1 : ∀ b, b ≤ w.heap.size + 1 + 1 → b ∉ f1 := fun b hb => fr1.not (by simp only [World.size_setCell, World.size_alloc]; omega)
  have hfl1 : ∀ b, b ∈ f1 → b < w1.heap.size := Own.lt _ _ _ O1.out
  go_wp2
  refine bodyPost_ret (v := .agg #[.string v.typ, .string v.field, .slice X1 v.parts.length x1]) (by simp [results, Try.results83, go_sem, hc1, hx1, hy1, hz1]) rfl ⟨_, f1 ++ ([]), rfl, ?_, ?_, ?_⟩
  · rw [JOwner.enc_eq]
    exact .str l0 (.str l1 (.cons (by repeat (first | (with_reducible exact O1.out) | refine Own.set ?_ (hq1 _ (by dsimp only; omega)) _)) (.nil _)))
  · exact (Fresh.lower (Fresh.app1 fr1) (by first | (simp only [World.size_setCell, World.size_alloc]; omega) | omega))
  · repeat (first | (with_reducible exact hB1) | refine Below.setCell ?_ (by dsimp only; omega) _)
theorem info_Owner : (Try.prog.info? 81).map (fun i => (i.zero, i.size, i.bytes)) = some (some (.agg #[.string ⟨#[]⟩, .string ⟨#[]⟩, .slice none 0 0]), 3, 56) := by kernel_rfl
theorem zero_Owner (w : World) : OwnRow w [.str ⟨#[]⟩, .str ⟨#[]⟩, .sl 1 0 []] (#[.string ⟨#[]⟩, .string ⟨#[]⟩, .slice none 0 0] : Array Value).toList [] := .str (by decide) (.str (by decide) (.cons (f1 := []) (by simp [Own]) (.nil w)))
def ToOwnerS (xs : List JOwner) : Prop := ∀ (A : Option Addr) (c : Nat) (w : World), Rd w (slD JOwner.enc 3 xs) (.slice A xs.length c) → bulkL (JOwner.bulk) xs ≤ 1048576 →
    Calls Try.prog 50 #[.slice A xs.length c] w (Made1 w (slD JOwner.enc 3 xs))
set_option maxHeartbeats 1600000 in
theorem toOwnerS_of (xs : List JOwner) (hE : ∀ x, x ∈ xs → ToOwner x) : ToOwnerS xs := by
  intro A c w hx hbk
  have hl : xs.length ≤ 1048576 := by unfold bulkL at hbk; omega
  have HE := Lib.hid hE
  have HK := Lib.hid hbk
  clear hE hbk
  obtain ⟨i0, hi, hz0, hz1, hz2⟩ := info_parts info_Owner
  have HX := Lib.hid hx
  clear hx
  go_enter Try.func50, Try.ntmps50
  go_wp2_with (at_make; refine wpList_make_full _ rfl (.tmp 6) (.tmp 6) 34 rfl w.heap.size 81 i0 (.agg #[.string ⟨#[]⟩, .string ⟨#[]⟩, .slice none 0 0]) 3 Try.underlying34 hi hz0 hz1 .i64 .i64 _ _ xs.length rfl rfl rfl rfl ?hb2 ?hb3 ?hb4 ?_)
  case hb2 => rw [hz2]; omega
  case hb3 => unfold maxLen; omega
  case hb4 => exact Nat.le_refl _
  intro w1 ho hg
  obtain ⟨cur, hblk, hcur, hsz⟩ := made_block ho
  have hB1 : Below w.heap.size w w1 := (Below.refl _ _).grown hg (Nat.le_refl _) (fun k h => by cases h)
  have K1 := Lib.hid (half_start (enc := JOwner.enc) (sz := 3) (z := [.str ⟨#[]⟩, .str ⟨#[]⟩, .sl 1 0 []]) (zc := #[.string ⟨#[]⟩, .string ⟨#[]⟩, .slice none 0 0]) xs hblk (by simpa using hcur) hsz rfl (by decide) (by unfold maxLen; omega) zero_Owner)
  have hw1 := K1.out.lt
  clear ho hg hcur hsz hblk
  go_wp2
  go_loopw [4] (fun i wr => ∃ k : Nat, k ≤ xs.length ∧ i = .int .i64 k ∧ Hid (Half wr JOwner.enc 3 [.str ⟨#[]⟩, .str ⟨#[]⟩, .sl 1 0 []] xs k w.heap.size) ∧ Below w.heap.size w wr ∧ w.heap.size < wr.heap.size) (fun i _ => xs.length - (intOf i).toNat)
  case atStart => exact ⟨0, Nat.zero_le _, rfl, K1.out, hB1, hw1⟩
  case round =>
    obtain ⟨k, hk, rfl, HH, hb, hlt0⟩ := hrel
    by_cases hlt : k < xs.length
    · obtain ⟨ad, A2, c2, rfl, hx0, hx1, hx2, g2, l0, l1, _n2⟩ := JOwner.elem (HX.out.below hb) k hlt
      have HM := Lib.hid (HE.out xs[k] (List.getElem_mem hlt))
      have HQ := Lib.hid (bulkL_mem HK.out (List.getElem_mem hlt))
      have G2 := Lib.hid g2
      clear g2
      go_wp2_with fail
      refine (HM.out _ _ (JOwner.close_ _ G2.out l0 l1) HQ.out).mono ?_
      rintro e w2 ⟨us, f2, rfl, o2, fr2, hb2⟩
      obtain ⟨B2, d2, rfl⟩ := JOwner.openO o2
      have O2 := Lib.hid o2
      clear o2
      have hs2 : w.heap.size < w2.heap.size := by have := hb2.size; omega
      obtain ⟨hc2, hf2⟩ := bcell hb2
      obtain ⟨y0, q0⟩ := HH.out.cell (k * 3) (by omega)
      obtain ⟨y1, q1⟩ := HH.out.cell (k * 3 + 1) (by omega)
      obtain ⟨y2, q2⟩ := HH.out.cell (k * 3 + 2) (by omega)
      have qf := HH.out.free
      go_wp2
      go_roundw
      case rel =>
        have hst := Half.step HH.out rfl JOwner.enc_len hlt hb2 O2.out fr2
        simp only [putAll] at hst
        exact ⟨k + 1, by omega, by go_num, hst, by repeat (first | (with_reducible exact bt hb hb2) | refine Below.setCell ?_ (by dsimp only; omega) _), by simp only [World.size_setCell]; exact hs2⟩
      case measure => simp [intOf]; omega
    · have hkk : k = xs.length := by omega
      have HF := Lib.hid (show Half wr JOwner.enc 3 [.str ⟨#[]⟩, .str ⟨#[]⟩, .sl 1 0 []] xs xs.length w.heap.size by rw [← hkk]; exact HH.out)
      clear hkk
      go_wp2
      go_ret
      exact Half.done HF.out (Nat.le_refl _) hb

theorem toOwner_c (v : JOwner) : ToOwner v := toOwner_of v
theorem toOwnerS_c (xs : List JOwner) : ToOwnerS xs := toOwnerS_of xs (fun x _ => toOwner_c x)

def ToChart (v : JChart) : Prop := ∀ (cs : List Value) (w : World), RdL w v.enc cs → JChart.bulk v ≤ 1048576 →
    Calls Try.prog 15 #[.agg cs.toArray] w (Made w v.enc)
theorem JChart.openO {w : World} {v : JChart} {cs : List Value} {fp : List Nat} (h : OwnRow w v.enc cs fp) : ∃ A1 c1 A2 c2, cs = [.string v.all.name, .slice A1 v.all.types.length c1, .slice A2 v.owners.length c2] := by
  obtain ⟨A1, c1, A2, c2, rfl, _⟩ := JChart.open_ (OwnRow.rdl h)
  exact ⟨A1, c1, A2, c2, rfl⟩
set_option maxHeartbeats 3200000 in
theorem toChart_of (v : JChart) : ToChart v := by
  intro cs w hcs hbk
  rw [JChart.bulk_eq] at hbk
  obtain ⟨A1, c1, A2, c2, rfl, g1, g2, l0, _n1, _n2⟩ := JChart.open_ hcs
  have G1 := Lib.hid g1
  clear g1
  have G2 := Lib.hid g2
  clear g2
  clear hcs
  have HBK := Lib.hid hbk
  clear hbk
  go_enter Try.func15, Try.ntmps15
  go_wp2_with fail
  refine (toPart_c _ _ _ (JPart.close_ _ (G1.out.below (bt (bt (b1 _ _) (b1 _ _)) (b1 _ _))) l0) (by have := HBK.out; omega)).mono ?_
  rintro e w1 ⟨us1, f1, rfl, o1, fr1, hb1⟩
  obtain ⟨X1_1, x1_1, rfl⟩ := JPart.openO o1
  obtain ⟨hc1, hf1⟩ := bcell hb1
  have hs1 := hb1.size
  simp only [World.size_setCell, World.size_alloc] at hs1
  have hx1 : w.heap.size + 1 + 1 < w1.heap.size := by omega
  have hy1 : w.heap.size + 1 < w1.heap.size := by omega
  have hz1 : w.heap.size < w1.heap.size := by omega
  have hB1 : Below w.heap.size w w1 := bt (bt (bt (b1 _ _) (b1 _ _)) (b1 _ _)) hb1
  have O1 := Lib.hid o1
  clear o1
  have hq1 : ∀ b, b ≤ w.heap.size + 1 + 1 → b ∉ f1 := fun b hb => fr1.not (by simp only [World.size_setCell, World.size_alloc]; omega)
  have hfl1 : ∀ b, b ∈ f1 → b < w1.heap.size := OwnRow.lt _ _ _ O1.out
  go_wp2_with fail
  refine (toOwnerS_c _ _ _ _ (G2.out.below (by first | (with_reducible exact hB1) | (repeat (first | (with_reducible exact hB1) | refine Below.setCell ?_ (by dsimp only; omega) _)))) (by have := HBK.out; rw [JOwner.bulkL_eq]; omega)).mono ?_
  rintro e w2 ⟨us2, f2, rfl, o2, fr2, hb2⟩
  obtain ⟨X2, x2, rfl⟩ := Own.slD o2
  obtain ⟨hc2, hf2⟩ := bcell hb2
  have hs2 := hb2.size
  simp only [World.size_setCell, World.size_alloc] at hs2
  have hx2 : w.heap.size + 1 + 1 < w2.heap.size := by omega
  have hy2 : w.heap.size + 1 < w2.heap.size := by omega
  have hz2 : w.heap.size < w2.heap.size := by omega
  have hB2 : Below w.heap.size w w2 := bt (by first | (with_reducible exact hB1) | (repeat (first | (with_reducible exact hB1) | refine Below.setCell ?_ (by dsimp only; omega) _))) hb2
  have O2 := Lib.hid o2
  clear o2
  have hq2 : ∀ b, b ≤ w.heap.size + 1 + 1 → b ∉ f2 := fun b hb => fr2.not (by simp only [World.size_setCell, World.size_alloc]; omega)
  have hfl2 : ∀ b, b ∈ f2 → b < w2.heap.size := Own.lt _ _ _ O2.out
  replace O1 : Hid (OwnRow w2 (v.all.enc) [.string v.all.name, .slice X1_1 v.all.types.length x1_1] f1) := Lib.hid (OwnRow.keep (by repeat (first | (with_reducible exact O1.out) | refine OwnRow.set ?_ (hq1 _ (by dsimp only; omega)) _)) hb2)
  go_wp2
  refine bodyPost_ret (v := .agg #[.string v.all.name, .slice X1_1 v.all.types.length x1_1, .slice X2 v.owners.length x2]) (by simp [results, Try.results15, go_sem, hc1, hx1, hy1, hz1, hc2, hx2, hy2, hz2]) rfl ⟨_, f1 ++ (f2 ++ ([])), rfl, ?_, ?_, ?_⟩
  · rw [JChart.enc_nest]
    exact OwnRow.app (ds := JPart.enc v.all) (us := [.string v.all.name, .slice X1_1 v.all.types.length x1_1]) (f1 := f1) (by repeat (first | (with_reducible exact O1.out) | refine OwnRow.set ?_ (hq1 _ (by dsimp only; omega)) _)) (.cons (by repeat (first | (with_reducible exact O2.out) | refine Own.set ?_ (hq2 _ (by dsimp only; omega)) _)) (.nil _))
  · exact (Fresh.lower (Fresh.app fr1 (by first | (simp only [World.size_setCell, World.size_alloc]; omega) | omega) (fun b hb => by have := hfl1 b hb; first | (simp only [World.size_setCell]; omega) | omega) (Fresh.app1 fr2)) (by first | (simp only [World.size_setCell, World.size_alloc]; omega) | omega))
  · repeat (first | (with_reducible exact hB2) | refine Below.setCell ?_ (by dsimp only; omega) _)
theorem toChart_c (v : JChart) : ToChart v := toChart_of v
end Go.Proofs.Ytmkagpmdindlpaa.Lib
