/- Marks of a struct alone, and what is held of lists at any length's spelling; how many marks fit. Printed by gsmk.py. No condition but numbers up to 2^62. -/
import Derived.Test.YtmkagpmdindlpaaMk
import Derived.Test.YtmkagpmdindlpaaTo
import Derived.Test.YtmkagpmdindlpaaGr
set_option linter.unusedVariables false
set_option linter.unusedSimpArgs false
namespace Go.Proofs.Ytmkagpmdindlpaa.Lib
open Go.RowKit

theorem cell_touch {w w' : World} {fp : List Nat} (ht : Touch w w' fp) {b o : Nat} {v : Value} (h : w.cell? ⟨b, o, none⟩ = some v) (hn : b ∉ fp) : w'.cell? ⟨b, o, none⟩ = some v :=
  (World.cell?_of_block (w := w) (a := ⟨b, o, none⟩) (ht.block b (World.block_lt_of_cell? w ⟨b, o, none⟩ h) hn)).trans h
theorem OwnRow.inv {w : World} {d : D} {r : List D} {us : List Value} {fp : List Nat} (h : OwnRow w (d :: r) us fp) : ∃ u us' f1 f2, us = u :: us' ∧ fp = f1 ++ f2 ∧ Own w d u f1 ∧ OwnRow w r us' f2 := by
  simp only [OwnRow] at h
  exact h
theorem ow_int {w : World} {k : IntKind} {n : Int} {u : Value} {f : List Nat} (h : Own w (.int k n) u f) : u = .int k n ∧ f = [] := by simpa only [Own] using h
theorem ow_bool {w : World} {b : Bool} {u : Value} {f : List Nat} (h : Own w (.bool b) u f) : u = .bool b ∧ f = [] := by simpa only [Own] using h
theorem ow_str {w : World} {s : ByteArray} {u : Value} {f : List Nat} (h : Own w (.str s) u f) : (u = .string s ∧ s.size ≤ 9223372036854775807) ∧ f = [] := by simpa only [Own] using h
def MarkedR (w : World) (ds : List D) (us : List Value) (fp : List Nat) (r : Int) (e : Ending) (w' : World) : Prop := e = .returned (.int .i64 r) ∧ OwnRow w' ds us fp ∧ Touch w w' fp
theorem MarkedR.int {w w' : World} {ds : List D} {us : List Value} {fp : List Nat} {a b : Int} (h : a = b) (ho : OwnRow w' ds us fp) (ht : Touch w w' fp) : MarkedR w ds us fp b (.returned (.int .i64 a)) w' := ⟨by rw [h], ho, ht⟩

theorem heldStringS_n (ys : List ByteArray) (k : Int) (A : Option Addr) (n c : Nat) (w : World) (hx : Rd w (slD strD 1 (mkTs ys k)) (.slice A n c)) (h0 : 0 ≤ k) (h1 : k + (ys.length : Int) ≤ 4611686018427387904) :
    Calls Try.prog 35 #[.slice A n c, .int .i64 k] w (Ret w (.int .i64 (k + (ys.length : Int)))) := by
  obtain rfl := Rd.len hx
  exact heldStringS_c ys k A c w hx h0 h1
theorem heldIntS_n (ys : List Int) (k : Int) (A : Option Addr) (n c : Nat) (w : World) (hx : Rd w (slD intD 1 (mkIs ys k)) (.slice A n c)) (h0 : 0 ≤ k) (h1 : k + (ys.length : Int) ≤ 4611686018427387904) :
    Calls Try.prog 21 #[.slice A n c, .int .i64 k] w (Ret w (.int .i64 (k + (ys.length : Int)))) := by
  obtain rfl := Rd.len hx
  exact heldIntS_c ys k A c w hx h0 h1
theorem strs_len_le (xs : List ByteArray) : xs.length ≤ strsBulk xs := by unfold strsBulk; omega
theorem cntsField_le (xs : List JField) : JField.cnts xs ≤ 8 * (xs.length + JField.bulks xs) := by
  induction xs with
  | nil => simp [JField.cnts]
  | cons x r ih =>
    have := strs_len_le x.needs
    simp only [JField.cnts, JField.bulks, List.length_cons]
    rw [JField.cnt_eq, JField.bulk_eq]
    omega
theorem cntsTyp_le (xs : List JTyp) : JTyp.cnts xs ≤ 8 * (xs.length + JTyp.bulks xs) := by
  induction xs with
  | nil => simp [JTyp.cnts]
  | cons x r ih =>
    have := cntsField_le x.fields
    simp only [JTyp.cnts, JTyp.bulks, List.length_cons]
    rw [JTyp.cnt_eq, JTyp.bulk_eq]
    omega
theorem cntsPart_le (xs : List JPart) : JPart.cnts xs ≤ 8 * (xs.length + JPart.bulks xs) := by
  induction xs with
  | nil => simp [JPart.cnts]
  | cons x r ih =>
    have := cntsTyp_le x.types
    simp only [JPart.cnts, JPart.bulks, List.length_cons]
    rw [JPart.cnt_eq, JPart.bulk_eq]
    omega
theorem cntsOwner_le (xs : List JOwner) : JOwner.cnts xs ≤ 8 * (xs.length + JOwner.bulks xs) := by
  induction xs with
  | nil => simp [JOwner.cnts]
  | cons x r ih =>
    simp only [JOwner.cnts, JOwner.bulks, List.length_cons]
    rw [JOwner.cnt_eq, JOwner.bulk_eq]
    omega
theorem JField.openL {w : World} {v : JField} {cs : List Value} (h : RdL w v.enc cs) : ∃ A7 c7, cs = [Value.string v.name, .string v.of, .bool v.list, .bool v.must, .bool v.far, .bool v.hidden, .bool v.shared, .slice A7 v.needs.length c7] := by
  obtain ⟨A7, c7, rfl, _⟩ := JField.open_ h
  exact ⟨A7, c7, rfl⟩
theorem JPart.openL {w : World} {v : JPart} {cs : List Value} (h : RdL w v.enc cs) : ∃ A1 c1, cs = [Value.string v.name, .slice A1 v.types.length c1] := by
  obtain ⟨A1, c1, rfl, _⟩ := JPart.open_ h
  exact ⟨A1, c1, rfl⟩
theorem JChart.openL {w : World} {v : JChart} {cs : List Value} (h : RdL w v.enc cs) : ∃ A1 c1 A2 c2, cs = [Value.string v.all.name, .slice A1 v.all.types.length c1, .slice A2 v.owners.length c2] := by
  obtain ⟨A1, c1, A2, c2, rfl, _⟩ := JChart.open_ h
  exact ⟨A1, c1, A2, c2, rfl⟩
def JField.scnt (v : JField) : Nat := v.needs.length
def JField.smk (v : JField) (k : Int) : JField := ⟨v.name, v.of, v.list, v.must, v.far, v.hidden, v.shared, mkTs v.needs k⟩
theorem scntField_le (v : JField) : JField.scnt v ≤ 8 * JField.bulk v := by
  rw [JField.bulk_eq]
  unfold JField.scnt
  have := strs_len_le v.needs
  omega
set_option maxRecDepth 100000 in
set_option maxHeartbeats 4000000 in
theorem smkField_c (v : JField) (cs : List Value) (fp : List Nat) (k : Int) (w : World) (ho : OwnRow w v.enc cs fp) (nd : fp.Nodup) (h0 : 0 ≤ k) (h1 : k + ((JField.scnt v : Nat) : Int) ≤ 4611686018427387904) :
    Calls Try.prog 39 #[.agg cs.toArray, .int .i64 k] w (MarkedR w (JField.smk v k).enc cs fp (k + ((JField.scnt v : Nat) : Int))) := by
  rw [JField.enc_eq] at ho
  unfold JField.scnt at h1
  obtain ⟨u0, us0, f0, g0, rfl, rfl, o0, r0⟩ := OwnRow.inv ho
  obtain ⟨u1, us1, f1, g1, rfl, rfl, o1, r1⟩ := OwnRow.inv r0
  obtain ⟨u2, us2, f2, g2, rfl, rfl, o2, r2⟩ := OwnRow.inv r1
  obtain ⟨u3, us3, f3, g3, rfl, rfl, o3, r3⟩ := OwnRow.inv r2
  obtain ⟨u4, us4, f4, g4, rfl, rfl, o4, r4⟩ := OwnRow.inv r3
  obtain ⟨u5, us5, f5, g5, rfl, rfl, o5, r5⟩ := OwnRow.inv r4
  obtain ⟨u6, us6, f6, g6, rfl, rfl, o6, r6⟩ := OwnRow.inv r5
  obtain ⟨u7, us7, f7, g7, rfl, rfl, o7, r7⟩ := OwnRow.inv r6
  simp only [OwnRow] at r7
  obtain ⟨rfl, rfl⟩ := r7
  obtain ⟨⟨rfl, l0⟩, rfl⟩ := ow_str o0
  obtain ⟨⟨rfl, l1⟩, rfl⟩ := ow_str o1
  obtain ⟨rfl, rfl⟩ := ow_bool o2
  obtain ⟨rfl, rfl⟩ := ow_bool o3
  obtain ⟨rfl, rfl⟩ := ow_bool o4
  obtain ⟨rfl, rfl⟩ := ow_bool o5
  obtain ⟨rfl, rfl⟩ := ow_bool o6
  obtain ⟨A7, c7, rfl⟩ := Own.slD o7
  simp only [List.nil_append, List.append_nil, List.nodup_append] at nd
  have n7 := nd
  have lt7 := Own.lt _ _ _ o7
  have Q7 := Lib.hid o7
  clear o7
  go_enter Try.func39, Try.ntmps39
  go_wp2_with fail
  refine (mkStringS_c v.needs _ f7 k _ (Q7.out.keep (b1 _ _)) n7 (by omega) (by omega)).mono ?_
  rintro e w1 ⟨rfl, hm1, ht1⟩
  have hs1 := ht1.size
  simp only [World.size_alloc] at hs1
  have M1 := Lib.hid hm1
  have T1 := Lib.hid ht1
  clear hm1 ht1
  go_wp2
  go_ret
  refine MarkedR.int (by unfold JField.scnt; omega) ?_ ?_
  · rw [JField.enc_eq]
    show OwnRow _ [D.str v.name, .str v.of, .bool v.list, .bool v.must, .bool v.far, .bool v.hidden, .bool v.shared, slD strD 1 (mkTs v.needs k)] _ _
    exact (.cons (f1 := []) (by simp only [Own, true_and, and_true]; exact l0) (.cons (f1 := []) (by simp only [Own, true_and, and_true]; exact l1) (.cons (f1 := []) (by simp [Own]) (.cons (f1 := []) (by simp [Own]) (.cons (f1 := []) (by simp [Own]) (.cons (f1 := []) (by simp [Own]) (.cons (f1 := []) (by simp [Own]) (.cons M1.out (OwnRow.nil _)))))))))
  · exact (Touch.below (b1 _ _)).trans (T1.out.mono (fun b hm => by simp [hm]))
set_option maxRecDepth 100000 in
set_option maxHeartbeats 4000000 in
theorem sheldField_c (v : JField) (k : Int) (cs : List Value) (w : World) (hx : RdL w (JField.smk v k).enc cs) (h0 : 0 ≤ k) (h1 : k + ((JField.scnt v : Nat) : Int) ≤ 4611686018427387904) :
    Calls Try.prog 40 #[.agg cs.toArray, .int .i64 k] w (Ret w (.int .i64 (k + ((JField.scnt v : Nat) : Int)))) := by
  unfold JField.scnt at h1
  obtain ⟨A7, c7, rfl, q7, _⟩ := JField.open_ hx
  clear hx
  have Q7 : Hid (Rd w (slD strD 1 (mkTs v.needs k)) _) := Lib.hid q7
  clear q7
  go_enter Try.func40, Try.ntmps40
  go_wp2_with fail
  refine (heldStringS_n v.needs k _ _ _ _ (Q7.out.below (b1 _ _)) (by omega) (by omega)).mono ?_
  rintro e w1 ⟨rfl, hb1⟩
  obtain ⟨hc1, hf1⟩ := bcell hb1
  have hz1 : w.heap.size < w1.heap.size := by have := hb1.size; simp at this; omega
  have hB1 := bt (b1 _ _) hb1
  go_wp2
  go_ret
  exact Ret.int (by unfold JField.scnt; omega) hB1
def JPart.scnt (v : JPart) : Nat := JTyp.cnts v.types
def JPart.smk (v : JPart) (k : Int) : JPart := ⟨v.name, JTyp.mks v.types k⟩
theorem scntPart_le (v : JPart) : JPart.scnt v ≤ 8 * JPart.bulk v := by
  rw [JPart.bulk_eq]
  unfold JPart.scnt
  have := cntsTyp_le v.types
  omega
set_option maxRecDepth 100000 in
set_option maxHeartbeats 4000000 in
theorem smkPart_c (v : JPart) (cs : List Value) (fp : List Nat) (k : Int) (w : World) (ho : OwnRow w v.enc cs fp) (nd : fp.Nodup) (h0 : 0 ≤ k) (h1 : k + ((JPart.scnt v : Nat) : Int) ≤ 4611686018427387904) :
    Calls Try.prog 33 #[.agg cs.toArray, .int .i64 k] w (MarkedR w (JPart.smk v k).enc cs fp (k + ((JPart.scnt v : Nat) : Int))) := by
  rw [JPart.enc_eq] at ho
  unfold JPart.scnt at h1
  obtain ⟨u0, us0, f0, g0, rfl, rfl, o0, r0⟩ := OwnRow.inv ho
  obtain ⟨u1, us1, f1, g1, rfl, rfl, o1, r1⟩ := OwnRow.inv r0
  simp only [OwnRow] at r1
  obtain ⟨rfl, rfl⟩ := r1
  obtain ⟨⟨rfl, l0⟩, rfl⟩ := ow_str o0
  obtain ⟨A1, c1, rfl⟩ := Own.slD o1
  simp only [List.nil_append, List.append_nil, List.nodup_append] at nd
  have n1 := nd
  have lt1 := Own.lt _ _ _ o1
  have Q1 := Lib.hid o1
  clear o1
  go_enter Try.func33, Try.ntmps33
  go_wp2_with fail
  refine (mkTypS_c v.types _ f1 k _ (Q1.out.keep (b1 _ _)) n1 (by omega) (by omega)).mono ?_
  rintro e w1 ⟨rfl, hm1, ht1⟩
  have hs1 := ht1.size
  simp only [World.size_alloc] at hs1
  have M1 := Lib.hid hm1
  have T1 := Lib.hid ht1
  clear hm1 ht1
  go_wp2
  go_ret
  refine MarkedR.int (by unfold JPart.scnt; omega) ?_ ?_
  · rw [JPart.enc_eq]
    show OwnRow _ [D.str v.name, slD JTyp.enc 3 (JTyp.mks v.types k)] _ _
    exact (.cons (f1 := []) (by simp only [Own, true_and, and_true]; exact l0) (.cons M1.out (OwnRow.nil _)))
  · exact (Touch.below (b1 _ _)).trans (T1.out.mono (fun b hm => by simp [hm]))
end Go.Proofs.Ytmkagpmdindlpaa.Lib
