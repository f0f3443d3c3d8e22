/- Marks of a struct alone, and what is held of lists at any length's spelling; how many marks fit. Printed by gsmk.py. No condition but numbers up to 2^62. -/
import Derived.Test.YtegabeefggcelaaMk
import Derived.Test.YtegabeefggcelaaTo
import Derived.Test.YtegabeefggcelaaGr
set_option linter.unusedVariables false
set_option linter.unusedSimpArgs false
namespace Go.Proofs.Ytegabeefggcelaa.Lib
open Go.RowKit

theorem cell_touch {w w' : World} {fp : List Nat} (ht : Touch w w' fp) {b o : Nat} {v : Value} (h : w.cell? ⟨b, o, none⟩ = some v) (hn : b ∉ fp) : w'.cell? ⟨b, o, none⟩ = some v :=
  (World.cell?_of_block (w := w) (a := ⟨b, o, none⟩) (ht.block b (World.block_lt_of_cell? w ⟨b, o, none⟩ h) hn)).trans h
theorem OwnRow.inv {w : World} {d : D} {r : List D} {us : List Value} {fp : List Nat} (h : OwnRow w (d :: r) us fp) : ∃ u us' f1 f2, us = u :: us' ∧ fp = f1 ++ f2 ∧ Own w d u f1 ∧ OwnRow w r us' f2 := by
  simp only [OwnRow] at h
  exact h
theorem ow_int {w : World} {k : IntKind} {n : Int} {u : Value} {f : List Nat} (h : Own w (.int k n) u f) : u = .int k n ∧ f = [] := by simpa only [Own] using h
theorem ow_bool {w : World} {b : Bool} {u : Value} {f : List Nat} (h : Own w (.bool b) u f) : u = .bool b ∧ f = [] := by simpa only [Own] using h
theorem ow_str {w : World} {s : ByteArray} {u : Value} {f : List Nat} (h : Own w (.str s) u f) : (u = .string s ∧ s.size ≤ 9223372036854775807) ∧ f = [] := by simpa only [Own] using h
def MarkedR (w : World) (ds : List D) (us : List Value) (fp : List Nat) (r : Int) (e : Ending) (w' : World) : Prop := e = .returned (.int .i64 r) ∧ OwnRow w' ds us fp ∧ Touch w w' fp
theorem MarkedR.int {w w' : World} {ds : List D} {us : List Value} {fp : List Nat} {a b : Int} (h : a = b) (ho : OwnRow w' ds us fp) (ht : Touch w w' fp) : MarkedR w ds us fp b (.returned (.int .i64 a)) w' := ⟨by rw [h], ho, ht⟩

theorem heldStringS_n (ys : List ByteArray) (k : Int) (A : Option Addr) (n c : Nat) (w : World) (hx : Rd w (slD strD 1 (mkTs ys k)) (.slice A n c)) (h0 : 0 ≤ k) (h1 : k + (ys.length : Int) ≤ 4611686018427387904) :
    Calls Try.prog 62 #[.slice A n c, .int .i64 k] w (Ret w (.int .i64 (k + (ys.length : Int)))) := by
  obtain rfl := Rd.len hx
  exact heldStringS_c ys k A c w hx h0 h1
theorem heldIntS_n (ys : List Int) (k : Int) (A : Option Addr) (n c : Nat) (w : World) (hx : Rd w (slD intD 1 (mkIs ys k)) (.slice A n c)) (h0 : 0 ≤ k) (h1 : k + (ys.length : Int) ≤ 4611686018427387904) :
    Calls Try.prog 24 #[.slice A n c, .int .i64 k] w (Ret w (.int .i64 (k + (ys.length : Int)))) := by
  obtain rfl := Rd.len hx
  exact heldIntS_c ys k A c w hx h0 h1
theorem heldValueS_n (ys : List JValue) (k : Int) (A : Option Addr) (n c : Nat) (w : World) (hx : Rd w (slD JValue.enc 5 (JValue.mks ys k)) (.slice A n c)) (h0 : 0 ≤ k) (h1 : k + ((JValue.cnts ys : Nat) : Int) ≤ 4611686018427387904) :
    Calls Try.prog 63 #[.slice A n c, .int .i64 k] w (Ret w (.int .i64 (k + ((JValue.cnts ys : Nat) : Int)))) := by
  obtain rfl := Rd.len hx
  exact heldValueS_c ys k A c w hx h0 h1
theorem strs_len_le (xs : List ByteArray) : xs.length ≤ strsBulk xs := by unfold strsBulk; omega
theorem cntsValue_all : ∀ n, (∀ x : JValue, SizeOf.sizeOf x < n → JValue.cnt x ≤ 8 + 8 * JValue.bulk x) ∧ (∀ xs : List JValue, SizeOf.sizeOf xs < n → JValue.cnts xs ≤ 8 * (xs.length + JValue.bulks xs))
  | 0 => ⟨fun _ h => absurd h (by omega), fun _ h => absurd h (by omega)⟩
  | n + 1 => by
    have ih := cntsValue_all n
    refine ⟨fun x h => ?_, fun xs h => ?_⟩
    · have := ih.2 x.kids (by have := JValue.kids_lt x; omega)
      rw [JValue.cnt_eq, JValue.bulk_eq]
      have := strs_len_le x.names
      omega
    · cases xs with
      | nil => simp [JValue.cnts]
      | cons x r =>
        have h1 := ih.1 x (by simp at h; omega)
        have h2 := ih.2 r (by simp at h; omega)
        simp only [JValue.cnts, JValue.bulks, List.length_cons]
        omega
theorem cntsValue_le (xs : List JValue) : JValue.cnts xs ≤ 8 * (xs.length + JValue.bulks xs) := (cntsValue_all _).2 xs (Nat.lt_succ_self _)
theorem cntsCell_le (xs : List JCell) : JCell.cnts xs ≤ 8 * (xs.length + JCell.bulks xs) := by
  induction xs with
  | nil => simp [JCell.cnts]
  | cons x r ih =>
    have := strs_len_le x.value.names
    have := cntsValue_le x.value.kids
    simp only [JCell.cnts, JCell.bulks, List.length_cons]
    rw [JCell.cnt_eq, JCell.bulk_eq]
    rw [JValue.bulk_eq]
    have hv := cntsValue_le x.value.kids
    have hn := strs_len_le x.value.names
    omega
theorem cntsRow_le (xs : List JRow) : JRow.cnts xs ≤ 8 * (xs.length + JRow.bulks xs) := by
  induction xs with
  | nil => simp [JRow.cnts]
  | cons x r ih =>
    have := cntsCell_le x.cells
    simp only [JRow.cnts, JRow.bulks, List.length_cons]
    rw [JRow.cnt_eq, JRow.bulk_eq]
    omega
theorem JValue.openL {w : World} {v : JValue} {cs : List Value} (h : RdL w v.enc cs) : ∃ A3 c3 A4 c4, cs = [Value.int .i64 v.sort, .int .i64 v.num, .string v.text, .slice A3 v.names.length c3, .slice A4 v.kids.length c4] := by
  obtain ⟨A3, c3, A4, c4, rfl, _⟩ := JValue.open_ h
  exact ⟨A3, c3, A4, c4, rfl⟩
def JValue.scnt (v : JValue) : Nat := v.names.length + JValue.cnts v.kids
def JValue.smk (v : JValue) (k : Int) : JValue := ⟨v.sort, v.num, v.text, mkTs v.names k, JValue.mks v.kids (k + ((v.names.length : Nat) : Int))⟩
theorem scntValue_le (v : JValue) : JValue.scnt v ≤ 8 * JValue.bulk v := by
  rw [JValue.bulk_eq]
  unfold JValue.scnt
  have := strs_len_le v.names
  have := cntsValue_le v.kids
  omega
set_option maxRecDepth 100000 in
set_option maxHeartbeats 4000000 in
theorem smkValue_c (v : JValue) (cs : List Value) (fp : List Nat) (k : Int) (w : World) (ho : OwnRow w v.enc cs fp) (nd : fp.Nodup) (h0 : 0 ≤ k) (h1 : k + ((JValue.scnt v : Nat) : Int) ≤ 4611686018427387904) :
    Calls Try.prog 31 #[.agg cs.toArray, .int .i64 k] w (MarkedR w (JValue.smk v k).enc cs fp (k + ((JValue.scnt v : Nat) : Int))) := by
  rw [JValue.enc_eq] at ho
  unfold JValue.scnt at h1
  obtain ⟨u0, us0, f0, g0, rfl, rfl, o0, r0⟩ := OwnRow.inv ho
  obtain ⟨u1, us1, f1, g1, rfl, rfl, o1, r1⟩ := OwnRow.inv r0
  obtain ⟨u2, us2, f2, g2, rfl, rfl, o2, r2⟩ := OwnRow.inv r1
  obtain ⟨u3, us3, f3, g3, rfl, rfl, o3, r3⟩ := OwnRow.inv r2
  obtain ⟨u4, us4, f4, g4, rfl, rfl, o4, r4⟩ := OwnRow.inv r3
  simp only [OwnRow] at r4
  obtain ⟨rfl, rfl⟩ := r4
  obtain ⟨rfl, rfl⟩ := ow_int o0
  obtain ⟨rfl, rfl⟩ := ow_int o1
  obtain ⟨⟨rfl, l2⟩, rfl⟩ := ow_str o2
  obtain ⟨A3, c3, rfl⟩ := Own.slD o3
  obtain ⟨A4, c4, rfl⟩ := Own.slD o4
  simp only [List.nil_append, List.append_nil, List.nodup_append] at nd
  obtain ⟨n3, n4, dj⟩ := nd
  have lt3 := Own.lt _ _ _ o3
  have Q3 := Lib.hid o3
  clear o3
  have lt4 := Own.lt _ _ _ o4
  have Q4 := Lib.hid o4
  clear o4
  have DJ := Lib.hid dj
  clear dj
  go_enter Try.func31, Try.ntmps31
  go_wp2_with fail
  refine (mkStringS_c v.names _ f3 k _ (Q3.out.keep (b1 _ _)) n3 (by omega) (by omega)).mono ?_
  rintro e w1 ⟨rfl, hm1, ht1⟩
  have hs1 := ht1.size
  simp only [World.size_alloc] at hs1
  have x2 : w1.cell? ⟨w.heap.size, 4, none⟩ = some (.slice A4 v.kids.length c4) := cell_touch ht1 (by simp [go_sem]) (fun hm => by have := lt3 _ hm; omega)
  have z2 : w.heap.size < w1.heap.size := by omega
  have P4 : Own w1 _ _ f4 := (Q4.out.keep (b1 _ _)).touch ht1 (fun b h1 h2 => DJ.out b h2 b h1 rfl)
  have M1 := Lib.hid hm1
  have T1 := Lib.hid ht1
  have P2 := Lib.hid P4
  clear hm1 ht1 P4
  go_wp2_with fail
  refine (mkValueS_c v.kids _ f4 (k + ((v.names.length : Nat) : Int)) _ P2.out n4 (by omega) (by omega)).mono ?_
  rintro e w2 ⟨rfl, hm2, ht2⟩
  have M2 := Lib.hid hm2
  have T2 := Lib.hid ht2
  clear hm2 ht2
  go_wp2
  go_ret
  refine MarkedR.int (by unfold JValue.scnt; omega) ?_ ?_
  · rw [JValue.enc_eq]
    show OwnRow _ [D.int .i64 v.sort, .int .i64 v.num, .str v.text, slD strD 1 (mkTs v.names k), slD JValue.enc 5 (JValue.mks v.kids (k + ((v.names.length : Nat) : Int)))] _ _
    exact (.cons (f1 := []) (by simp [Own]) (.cons (f1 := []) (by simp [Own]) (.cons (f1 := []) (by simp only [Own, true_and, and_true]; exact l2) (.cons (M1.out.touch T2.out (fun b h1 h2 => DJ.out b h1 b h2 rfl)) (.cons M2.out (OwnRow.nil _))))))
  · exact ((Touch.below (b1 _ _)).trans (T1.out.mono (fun b hm => by simp [hm]))).trans (T2.out.mono (fun b hm => by simp [hm]))
set_option maxRecDepth 100000 in
set_option maxHeartbeats 4000000 in
theorem sheldValue_c (v : JValue) (k : Int) (cs : List Value) (w : World) (hx : RdL w (JValue.smk v k).enc cs) (h0 : 0 ≤ k) (h1 : k + ((JValue.scnt v : Nat) : Int) ≤ 4611686018427387904) :
    Calls Try.prog 32 #[.agg cs.toArray, .int .i64 k] w (Ret w (.int .i64 (k + ((JValue.scnt v : Nat) : Int)))) := by
  unfold JValue.scnt at h1
  obtain ⟨A3, c3, A4, c4, rfl, q3, q4, _⟩ := JValue.open_ hx
  clear hx
  have Q3 : Hid (Rd w (slD strD 1 (mkTs v.names k)) _) := Lib.hid q3
  clear q3
  have Q4 : Hid (Rd w (slD JValue.enc 5 (JValue.mks v.kids (k + ((v.names.length : Nat) : Int)))) _) := Lib.hid q4
  clear q4
  go_enter Try.func32, Try.ntmps32
  go_wp2_with fail
  refine (heldStringS_n v.names k _ _ _ _ (Q3.out.below (b1 _ _)) (by omega) (by omega)).mono ?_
  rintro e w1 ⟨rfl, hb1⟩
  obtain ⟨hc1, hf1⟩ := bcell hb1
  have hz1 : w.heap.size < w1.heap.size := by have := hb1.size; simp at this; omega
  have hB1 := bt (b1 _ _) hb1
  go_wp2_with fail
  refine (heldValueS_n v.kids (k + ((v.names.length : Nat) : Int)) _ _ _ _ (Q4.out.below (hB1)) (by omega) (by omega)).mono ?_
  rintro e w2 ⟨rfl, hb2⟩
  have hB2 := bt hB1 hb2
  go_wp2
  go_ret
  exact Ret.int (by unfold JValue.scnt; omega) hB2
end Go.Proofs.Ytegabeefggcelaa.Lib
