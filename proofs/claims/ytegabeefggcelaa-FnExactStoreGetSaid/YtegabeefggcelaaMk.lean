/- The laws' marks: contracts of the functions that lay them and of those that look for them. Printed by gmark.py. Numbers from 0 to 2^62. -/
import Derived.Test.YtegabeefggcelaaProg
import Derived.Test.YtegabeefggcelaaBulk
import Derived.Test.YtegabeefggcelaaOwnLib
import Derived.Deep.RegionHeld3
import Derived.Deep.QuietTactic
import Derived.BigQuiet
set_option linter.unusedVariables false
set_option linter.unusedSimpArgs false
namespace Go.Proofs.Ytegabeefggcelaa.Lib
open Go.RowKit
def digB (k : Int) : ByteArray := strOfNums [48 + k % 10]
def decT (k : Int) (out : ByteArray) : ByteArray := if h : 0 < k then decT (k / 10) (digB k ++ out) else out
termination_by k.toNat
decreasing_by omega
/-- The mark of a number. -/
def mkT (k : Int) : ByteArray := if k ≤ 0 then ⟨#[109, 48]⟩ else ⟨#[109]⟩ ++ decT k ⟨#[]⟩
theorem conv_one (src e dst : TypeId) (hs : Try.prog.underlying src = some (.slice e)) (he : Try.prog.underlying e = some (.int .u8)) (hd : Try.prog.underlying dst = some .string) (t : TypeId) (W : World) (n : Int) :
    (convert src dst (.slice (some ⟨W.heap.size, 0, none⟩) 1 1)).run Try.prog (W.alloc (.cells #[.int .u8 n] t)) = .ok (.string (strOfNums [n])) (W.alloc (.cells #[.int .u8 n] t)) :=
  run_convert_bytes_arg _ src e hs he W.heap.size 0 1 1 [n] rfl (fun i hi => by
    obtain rfl : i = 0 := by omega
    simp) dst hd
def MarkText (k : Int) : Prop := ∀ (w : World), k ≤ 4611686018427387904 → Calls Try.prog 50 #[.int .i64 k] w (Ret w (.string (mkT k)))
theorem mk_size (s : ByteArray) (x : Int) : (strOfNums [48 + x % 10] ++ s).size = s.size + 1 := by
  rw [ByteArray.size_append, strOfNums_size]; simp; omega
theorem decT_size : ∀ (n : Nat) (x : Int) (s : ByteArray), x.toNat ≤ n → (decT x s).size ≤ s.size + x.toNat
  | 0, x, s, h => by rw [decT, dif_neg (by omega)]; omega
  | n + 1, x, s, h => by
    rw [decT]
    split
    · have := decT_size n (x / 10) (digB x ++ s) (by omega)
      have h2 := mk_size s x
      unfold digB at this ⊢
      omega
    · omega
theorem mkT_size (k : Int) (h : k ≤ 4611686018427387904) : (mkT k).size ≤ 9223372036854775807 := by
  unfold mkT
  split
  · decide
  · rw [ByteArray.size_append]
    have := decT_size k.toNat k ⟨#[]⟩ (Nat.le_refl _)
    have h1 : (⟨#[109]⟩ : ByteArray).size = 1 := rfl
    have h2 : (⟨#[]⟩ : ByteArray).size = 0 := rfl
    omega
set_option maxHeartbeats 800000 in
set_option maxRecDepth 100000 in
theorem markText_c (k : Int) : MarkText k := by
  intro w h1
  have kc := conv_one 103 5 9 Try.underlying103 Try.underlying5 Try.underlying9 5
  by_cases c1 : k ≤ 0
  · go_enter Try.func50, Try.ntmps50
    go_wp2
    go_ret
    exact ⟨by unfold mkT; rw [if_pos c1]; rfl, Below.refl _ _⟩
  · go_enter Try.func50, Try.ntmps50
    go_wp2
    go_loopw [0, 3] (fun a b wr => ∃ (x : Int) (s : ByteArray), a = .int .i64 x ∧ b = .string s ∧ 0 ≤ x ∧ x ≤ 4611686018427387904 ∧ s.size + x.toNat ≤ 4611686018427387904 ∧ Hid (decT x s = decT k ⟨#[]⟩) ∧ Below w.heap.size w wr) (fun a _ _ => (intOf a).toNat)
    case atStart => exact ⟨k, ⟨#[]⟩, rfl, rfl, by omega, by omega, by show 0 + _ ≤ _; omega, rfl, Below.refl _ _⟩
    case round =>
      obtain ⟨x, s, rfl, rfl, hx0, hx1, hs, HR, hb⟩ := hrel
      by_cases hlt : 0 < x
      · have hsz : ¬ 9223372036854775807 < (strOfNums [48 + x % 10]).size + s.size := by rw [strOfNums_size]; simp; omega
        go_wp2
        go_roundw
        case rel => exact ⟨x / 10, _, rfl, rfl, by omega, by omega, by rw [mk_size]; omega, by have := HR.out; rw [decT, dif_pos hlt] at this; exact this, hb.alloc hb.size _⟩
        case measure => simp [intOf]; omega
      · have hsz : ¬ 9223372036854775807 < 1 + s.size := by omega
        go_wp2
        go_ret
        exact ⟨by have := HR.out; rw [decT, dif_neg (by omega)] at this; unfold mkT; rw [if_neg (by omega), ← this]; rfl, hb⟩
/-- Texts marked from k on. -/
def mkTs : List ByteArray → Int → List ByteArray
  | [], _ => []
  | _ :: r, k => mkT k :: mkTs r (k + 1)
theorem mkTs_len : ∀ (xs : List ByteArray) (k : Int), (mkTs xs k).length = xs.length
  | [], _ => rfl
  | _ :: r, k => by simp [mkTs, mkTs_len r]
theorem mkTs_get : ∀ (xs : List ByteArray) (k : Int) (i : Nat) (h : i < (mkTs xs k).length), (mkTs xs k)[i] = mkT (k + i)
  | [], _, _, h => by simp [mkTs] at h
  | _ :: r, k, 0, h => by simp [mkTs]
  | _ :: r, k, i + 1, h => by
    simp only [mkTs, List.getElem_cons_succ]
    rw [mkTs_get r (k + 1) i]
    congr 1
    push_cast
    omega
theorem mkTs_take : ∀ (xs : List ByteArray) (k : Int) (j : Nat) (h : j < xs.length), mkTs (xs.take (j + 1)) k = mkTs (xs.take j) k ++ [mkT (k + j)]
  | [], _, _, h => by simp at h
  | _ :: r, k, 0, h => by simp [mkTs]
  | _ :: r, k, j + 1, h => by
    simp only [List.take_succ_cons, mkTs, List.cons_append]
    rw [mkTs_take r (k + 1) j (by simpa using h), show k + 1 + (j : Int) = k + ((j + 1 : Nat) : Int) by push_cast; omega]
/-- Numbers marked from k on. -/
def mkIs : List Int → Int → List Int
  | [], _ => []
  | _ :: r, k => k :: mkIs r (k + 1)
theorem mkIs_len : ∀ (xs : List Int) (k : Int), (mkIs xs k).length = xs.length
  | [], _ => rfl
  | _ :: r, k => by simp [mkIs, mkIs_len r]
theorem mkIs_get : ∀ (xs : List Int) (k : Int) (i : Nat) (h : i < (mkIs xs k).length), (mkIs xs k)[i] = k + i
  | [], _, _, h => by simp [mkIs] at h
  | _ :: r, k, 0, h => by simp [mkIs]
  | _ :: r, k, i + 1, h => by
    simp only [mkIs, List.getElem_cons_succ]
    rw [mkIs_get r (k + 1) i]
    push_cast
    omega
theorem mkIs_take : ∀ (xs : List Int) (k : Int) (j : Nat) (h : j < xs.length), mkIs (xs.take (j + 1)) k = mkIs (xs.take j) k ++ [k + j]
  | [], _, _, h => by simp at h
  | _ :: r, k, 0, h => by simp [mkIs]
  | _ :: r, k, j + 1, h => by
    simp only [List.take_succ_cons, mkIs, List.cons_append]
    rw [mkIs_take r (k + 1) j (by simpa using h), show k + 1 + (j : Int) = k + ((j + 1 : Nat) : Int) by push_cast; omega]

mutual
def JValue.cnt : JValue → Nat
  | ⟨y0, y1, y2, y3, y4⟩ => 1 + 1 + 1 + y3.length + JValue.cnts y4
def JValue.cnts : List JValue → Nat
  | [] => 0
  | x :: r => JValue.cnt x + JValue.cnts r
end
theorem JValue.cnt_eq (x : JValue) : JValue.cnt x = 1 + 1 + 1 + x.names.length + JValue.cnts x.kids := by cases x; simp only [JValue.cnt]
mutual
def JValue.mk_ : JValue → Int → JValue
  | ⟨y0, y1, y2, y3, y4⟩, k => ⟨(k), (k + 1), mkT (k + 1 + 1), mkTs y3 (k + 1 + 1 + 1), JValue.mks y4 (k + 1 + 1 + 1 + ((y3.length : Nat) : Int))⟩
def JValue.mks : List JValue → Int → List JValue
  | [], _ => []
  | x :: r, k => JValue.mk_ x k :: JValue.mks r (k + (JValue.cnt x : Nat))
end
theorem JValue.mk_eq (x : JValue) (k : Int) : JValue.mk_ x k = ⟨(k), (k + 1), mkT (k + 1 + 1), mkTs x.names (k + 1 + 1 + 1), JValue.mks x.kids (k + 1 + 1 + 1 + ((x.names.length : Nat) : Int))⟩ := by cases x; simp only [JValue.mk_]
theorem JValue.mks_len : ∀ (xs : List JValue) (k : Int), (JValue.mks xs k).length = xs.length
  | [], _ => by simp [JValue.mks]
  | x :: r, k => by simp [JValue.mks, JValue.mks_len r]
theorem JValue.cnts_take (xs : List JValue) (j : Nat) (h : j < xs.length) : JValue.cnts (xs.take (j + 1)) = JValue.cnts (xs.take j) + JValue.cnt xs[j] := by
  induction xs generalizing j with
  | nil => simp at h
  | cons x r ih =>
    cases j with
    | zero => simp [JValue.cnts]
    | succ j =>
      have := ih j (by simpa using h)
      simp only [List.take_succ_cons, JValue.cnts, List.getElem_cons_succ]
      omega
theorem JValue.cnts_le (xs : List JValue) (j : Nat) : JValue.cnts (xs.take j) ≤ JValue.cnts xs := by
  induction xs generalizing j with
  | nil => simp
  | cons x r ih =>
    cases j with
    | zero => simp [JValue.cnts]
    | succ j =>
      have := ih j
      simp only [List.take_succ_cons, JValue.cnts]
      omega
theorem JValue.mks_take (xs : List JValue) (j : Nat) (k : Int) (h : j < xs.length) : JValue.mks (xs.take (j + 1)) k = JValue.mks (xs.take j) k ++ [JValue.mk_ xs[j] (k + (JValue.cnts (xs.take j) : Nat))] := by
  induction xs generalizing j k with
  | nil => simp at h
  | cons x r ih =>
    cases j with
    | zero => simp [JValue.mks, JValue.cnts]
    | succ j =>
      have := ih j (k + (JValue.cnt x : Nat)) (by simpa using h)
      simp only [List.take_succ_cons, JValue.mks, JValue.cnts, List.getElem_cons_succ, List.cons_append, this]
      rw [show k + ((JValue.cnt x : Nat) : Int) + ((JValue.cnts (r.take j) : Nat) : Int) = k + ((JValue.cnt x + JValue.cnts (r.take j) : Nat) : Int) by push_cast; omega]
theorem JValue.mks_get (xs : List JValue) (j : Nat) (k : Int) (h : j < xs.length) : (JValue.mks xs k)[j]'(by rw [JValue.mks_len]; exact h) = JValue.mk_ xs[j] (k + (JValue.cnts (xs.take j) : Nat)) := by
  induction xs generalizing j k with
  | nil => simp at h
  | cons x r ih =>
    cases j with
    | zero => simp [JValue.mks, JValue.cnts]
    | succ j =>
      have := ih j (k + (JValue.cnt x : Nat)) (by simpa using h)
      simp only [List.take_succ_cons, JValue.mks, JValue.cnts, List.getElem_cons_succ, this]
      rw [show k + ((JValue.cnt x : Nat) : Int) + ((JValue.cnts (r.take j) : Nat) : Int) = k + ((JValue.cnt x + JValue.cnts (r.take j) : Nat) : Int) by push_cast; omega]

def JCell.cnt (x : JCell) : Nat := 1 + 1 + 1 + 1 + x.value.names.length + JValue.cnts x.value.kids
def JCell.cnts : List JCell → Nat
  | [] => 0
  | x :: r => JCell.cnt x + JCell.cnts r
theorem JCell.cnt_eq (x : JCell) : JCell.cnt x = 1 + 1 + 1 + 1 + x.value.names.length + JValue.cnts x.value.kids := rfl
def JCell.mk_ (x : JCell) (k : Int) : JCell := ⟨mkT (k), ⟨(k + 1), (k + 1 + 1), mkT (k + 1 + 1 + 1), mkTs x.value.names (k + 1 + 1 + 1 + 1), JValue.mks x.value.kids (k + 1 + 1 + 1 + 1 + ((x.value.names.length : Nat) : Int))⟩⟩
def JCell.mks : List JCell → Int → List JCell
  | [], _ => []
  | x :: r, k => JCell.mk_ x k :: JCell.mks r (k + (JCell.cnt x : Nat))
theorem JCell.mk_eq (x : JCell) (k : Int) : JCell.mk_ x k = ⟨mkT (k), ⟨(k + 1), (k + 1 + 1), mkT (k + 1 + 1 + 1), mkTs x.value.names (k + 1 + 1 + 1 + 1), JValue.mks x.value.kids (k + 1 + 1 + 1 + 1 + ((x.value.names.length : Nat) : Int))⟩⟩ := rfl
theorem JCell.mks_len : ∀ (xs : List JCell) (k : Int), (JCell.mks xs k).length = xs.length
  | [], _ => by simp [JCell.mks]
  | x :: r, k => by simp [JCell.mks, JCell.mks_len r]
theorem JCell.cnts_take (xs : List JCell) (j : Nat) (h : j < xs.length) : JCell.cnts (xs.take (j + 1)) = JCell.cnts (xs.take j) + JCell.cnt xs[j] := by
  induction xs generalizing j with
  | nil => simp at h
  | cons x r ih =>
    cases j with
    | zero => simp [JCell.cnts]
    | succ j =>
      have := ih j (by simpa using h)
      simp only [List.take_succ_cons, JCell.cnts, List.getElem_cons_succ]
      omega
theorem JCell.cnts_le (xs : List JCell) (j : Nat) : JCell.cnts (xs.take j) ≤ JCell.cnts xs := by
  induction xs generalizing j with
  | nil => simp
  | cons x r ih =>
    cases j with
    | zero => simp [JCell.cnts]
    | succ j =>
      have := ih j
      simp only [List.take_succ_cons, JCell.cnts]
      omega
theorem JCell.mks_take (xs : List JCell) (j : Nat) (k : Int) (h : j < xs.length) : JCell.mks (xs.take (j + 1)) k = JCell.mks (xs.take j) k ++ [JCell.mk_ xs[j] (k + (JCell.cnts (xs.take j) : Nat))] := by
  induction xs generalizing j k with
  | nil => simp at h
  | cons x r ih =>
    cases j with
    | zero => simp [JCell.mks, JCell.cnts]
    | succ j =>
      have := ih j (k + (JCell.cnt x : Nat)) (by simpa using h)
      simp only [List.take_succ_cons, JCell.mks, JCell.cnts, List.getElem_cons_succ, List.cons_append, this]
      rw [show k + ((JCell.cnt x : Nat) : Int) + ((JCell.cnts (r.take j) : Nat) : Int) = k + ((JCell.cnt x + JCell.cnts (r.take j) : Nat) : Int) by push_cast; omega]
theorem JCell.mks_get (xs : List JCell) (j : Nat) (k : Int) (h : j < xs.length) : (JCell.mks xs k)[j]'(by rw [JCell.mks_len]; exact h) = JCell.mk_ xs[j] (k + (JCell.cnts (xs.take j) : Nat)) := by
  induction xs generalizing j k with
  | nil => simp at h
  | cons x r ih =>
    cases j with
    | zero => simp [JCell.mks, JCell.cnts]
    | succ j =>
      have := ih j (k + (JCell.cnt x : Nat)) (by simpa using h)
      simp only [List.take_succ_cons, JCell.mks, JCell.cnts, List.getElem_cons_succ, this]
      rw [show k + ((JCell.cnt x : Nat) : Int) + ((JCell.cnts (r.take j) : Nat) : Int) = k + ((JCell.cnt x + JCell.cnts (r.take j) : Nat) : Int) by push_cast; omega]

def JRow.cnt (x : JRow) : Nat := 1 + 1 + JCell.cnts x.cells
def JRow.cnts : List JRow → Nat
  | [] => 0
  | x :: r => JRow.cnt x + JRow.cnts r
theorem JRow.cnt_eq (x : JRow) : JRow.cnt x = 1 + 1 + JCell.cnts x.cells := rfl
def JRow.mk_ (x : JRow) (k : Int) : JRow := ⟨mkT (k), (k + 1), JCell.mks x.cells (k + 1 + 1)⟩
def JRow.mks : List JRow → Int → List JRow
  | [], _ => []
  | x :: r, k => JRow.mk_ x k :: JRow.mks r (k + (JRow.cnt x : Nat))
theorem JRow.mk_eq (x : JRow) (k : Int) : JRow.mk_ x k = ⟨mkT (k), (k + 1), JCell.mks x.cells (k + 1 + 1)⟩ := rfl
theorem JRow.mks_len : ∀ (xs : List JRow) (k : Int), (JRow.mks xs k).length = xs.length
  | [], _ => by simp [JRow.mks]
  | x :: r, k => by simp [JRow.mks, JRow.mks_len r]
theorem JRow.cnts_take (xs : List JRow) (j : Nat) (h : j < xs.length) : JRow.cnts (xs.take (j + 1)) = JRow.cnts (xs.take j) + JRow.cnt xs[j] := by
  induction xs generalizing j with
  | nil => simp at h
  | cons x r ih =>
    cases j with
    | zero => simp [JRow.cnts]
    | succ j =>
      have := ih j (by simpa using h)
      simp only [List.take_succ_cons, JRow.cnts, List.getElem_cons_succ]
      omega
theorem JRow.cnts_le (xs : List JRow) (j : Nat) : JRow.cnts (xs.take j) ≤ JRow.cnts xs := by
  induction xs generalizing j with
  | nil => simp
  | cons x r ih =>
    cases j with
    | zero => simp [JRow.cnts]
    | succ j =>
      have := ih j
      simp only [List.take_succ_cons, JRow.cnts]
      omega
theorem JRow.mks_take (xs : List JRow) (j : Nat) (k : Int) (h : j < xs.length) : JRow.mks (xs.take (j + 1)) k = JRow.mks (xs.take j) k ++ [JRow.mk_ xs[j] (k + (JRow.cnts (xs.take j) : Nat))] := by
  induction xs generalizing j k with
  | nil => simp at h
  | cons x r ih =>
    cases j with
    | zero => simp [JRow.mks, JRow.cnts]
    | succ j =>
      have := ih j (k + (JRow.cnt x : Nat)) (by simpa using h)
      simp only [List.take_succ_cons, JRow.mks, JRow.cnts, List.getElem_cons_succ, List.cons_append, this]
      rw [show k + ((JRow.cnt x : Nat) : Int) + ((JRow.cnts (r.take j) : Nat) : Int) = k + ((JRow.cnt x + JRow.cnts (r.take j) : Nat) : Int) by push_cast; omega]
theorem JRow.mks_get (xs : List JRow) (j : Nat) (k : Int) (h : j < xs.length) : (JRow.mks xs k)[j]'(by rw [JRow.mks_len]; exact h) = JRow.mk_ xs[j] (k + (JRow.cnts (xs.take j) : Nat)) := by
  induction xs generalizing j k with
  | nil => simp at h
  | cons x r ih =>
    cases j with
    | zero => simp [JRow.mks, JRow.cnts]
    | succ j =>
      have := ih j (k + (JRow.cnt x : Nat)) (by simpa using h)
      simp only [List.take_succ_cons, JRow.mks, JRow.cnts, List.getElem_cons_succ, this]
      rw [show k + ((JRow.cnt x : Nat) : Int) + ((JRow.cnts (r.take j) : Nat) : Int) = k + ((JRow.cnt x + JRow.cnts (r.take j) : Nat) : Int) by push_cast; omega]

mutual
def JSel.cnt : JSel → Nat
  | ⟨y0, y1, y2, y3, y4⟩ => 1 + 1 + 1 + 1 + JSel.cnts y4
def JSel.cnts : List JSel → Nat
  | [] => 0
  | x :: r => JSel.cnt x + JSel.cnts r
end
theorem JSel.cnt_eq (x : JSel) : JSel.cnt x = 1 + 1 + 1 + 1 + JSel.cnts x.kids := by cases x; simp only [JSel.cnt]
mutual
def JSel.mk_ : JSel → Int → JSel
  | ⟨y0, y1, y2, y3, y4⟩, k => ⟨mkT (k), mkT (k + 1), ((k + 1 + 1) % 3 == 0), (k + 1 + 1 + 1), JSel.mks y4 (k + 1 + 1 + 1 + 1)⟩
def JSel.mks : List JSel → Int → List JSel
  | [], _ => []
  | x :: r, k => JSel.mk_ x k :: JSel.mks r (k + (JSel.cnt x : Nat))
end
theorem JSel.mk_eq (x : JSel) (k : Int) : JSel.mk_ x k = ⟨mkT (k), mkT (k + 1), ((k + 1 + 1) % 3 == 0), (k + 1 + 1 + 1), JSel.mks x.kids (k + 1 + 1 + 1 + 1)⟩ := by cases x; simp only [JSel.mk_]
theorem JSel.mks_len : ∀ (xs : List JSel) (k : Int), (JSel.mks xs k).length = xs.length
  | [], _ => by simp [JSel.mks]
  | x :: r, k => by simp [JSel.mks, JSel.mks_len r]
theorem JSel.cnts_take (xs : List JSel) (j : Nat) (h : j < xs.length) : JSel.cnts (xs.take (j + 1)) = JSel.cnts (xs.take j) + JSel.cnt xs[j] := by
  induction xs generalizing j with
  | nil => simp at h
  | cons x r ih =>
    cases j with
    | zero => simp [JSel.cnts]
    | succ j =>
      have := ih j (by simpa using h)
      simp only [List.take_succ_cons, JSel.cnts, List.getElem_cons_succ]
      omega
theorem JSel.cnts_le (xs : List JSel) (j : Nat) : JSel.cnts (xs.take j) ≤ JSel.cnts xs := by
  induction xs generalizing j with
  | nil => simp
  | cons x r ih =>
    cases j with
    | zero => simp [JSel.cnts]
    | succ j =>
      have := ih j
      simp only [List.take_succ_cons, JSel.cnts]
      omega
theorem JSel.mks_take (xs : List JSel) (j : Nat) (k : Int) (h : j < xs.length) : JSel.mks (xs.take (j + 1)) k = JSel.mks (xs.take j) k ++ [JSel.mk_ xs[j] (k + (JSel.cnts (xs.take j) : Nat))] := by
  induction xs generalizing j k with
  | nil => simp at h
  | cons x r ih =>
    cases j with
    | zero => simp [JSel.mks, JSel.cnts]
    | succ j =>
      have := ih j (k + (JSel.cnt x : Nat)) (by simpa using h)
      simp only [List.take_succ_cons, JSel.mks, JSel.cnts, List.getElem_cons_succ, List.cons_append, this]
      rw [show k + ((JSel.cnt x : Nat) : Int) + ((JSel.cnts (r.take j) : Nat) : Int) = k + ((JSel.cnt x + JSel.cnts (r.take j) : Nat) : Int) by push_cast; omega]
theorem JSel.mks_get (xs : List JSel) (j : Nat) (k : Int) (h : j < xs.length) : (JSel.mks xs k)[j]'(by rw [JSel.mks_len]; exact h) = JSel.mk_ xs[j] (k + (JSel.cnts (xs.take j) : Nat)) := by
  induction xs generalizing j k with
  | nil => simp at h
  | cons x r ih =>
    cases j with
    | zero => simp [JSel.mks, JSel.cnts]
    | succ j =>
      have := ih j (k + (JSel.cnt x : Nat)) (by simpa using h)
      simp only [List.take_succ_cons, JSel.mks, JSel.cnts, List.getElem_cons_succ, this]
      rw [show k + ((JSel.cnt x : Nat) : Int) + ((JSel.cnts (r.take j) : Nat) : Int) = k + ((JSel.cnt x + JSel.cnts (r.take j) : Nat) : Int) by push_cast; omega]

def JStep.cnt (x : JStep) : Nat := 1 + x.way.length + 1 + JSel.cnts x.sels + x.after_.length + x.brings.length
def JStep.cnts : List JStep → Nat
  | [] => 0
  | x :: r => JStep.cnt x + JStep.cnts r
theorem JStep.cnt_eq (x : JStep) : JStep.cnt x = 1 + x.way.length + 1 + JSel.cnts x.sels + x.after_.length + x.brings.length := rfl
def JStep.mk_ (x : JStep) (k : Int) : JStep := ⟨(k), mkTs x.way (k + 1), mkT (k + 1 + ((x.way.length : Nat) : Int)), JSel.mks x.sels (k + 1 + ((x.way.length : Nat) : Int) + 1), mkIs x.after_ (k + 1 + ((x.way.length : Nat) : Int) + 1 + ((JSel.cnts x.sels : Nat) : Int)), mkTs x.brings (k + 1 + ((x.way.length : Nat) : Int) + 1 + ((JSel.cnts x.sels : Nat) : Int) + ((x.after_.length : Nat) : Int))⟩
def JStep.mks : List JStep → Int → List JStep
  | [], _ => []
  | x :: r, k => JStep.mk_ x k :: JStep.mks r (k + (JStep.cnt x : Nat))
theorem JStep.mk_eq (x : JStep) (k : Int) : JStep.mk_ x k = ⟨(k), mkTs x.way (k + 1), mkT (k + 1 + ((x.way.length : Nat) : Int)), JSel.mks x.sels (k + 1 + ((x.way.length : Nat) : Int) + 1), mkIs x.after_ (k + 1 + ((x.way.length : Nat) : Int) + 1 + ((JSel.cnts x.sels : Nat) : Int)), mkTs x.brings (k + 1 + ((x.way.length : Nat) : Int) + 1 + ((JSel.cnts x.sels : Nat) : Int) + ((x.after_.length : Nat) : Int))⟩ := rfl
theorem JStep.mks_len : ∀ (xs : List JStep) (k : Int), (JStep.mks xs k).length = xs.length
  | [], _ => by simp [JStep.mks]
  | x :: r, k => by simp [JStep.mks, JStep.mks_len r]
theorem JStep.cnts_take (xs : List JStep) (j : Nat) (h : j < xs.length) : JStep.cnts (xs.take (j + 1)) = JStep.cnts (xs.take j) + JStep.cnt xs[j] := by
  induction xs generalizing j with
  | nil => simp at h
  | cons x r ih =>
    cases j with
    | zero => simp [JStep.cnts]
    | succ j =>
      have := ih j (by simpa using h)
      simp only [List.take_succ_cons, JStep.cnts, List.getElem_cons_succ]
      omega
theorem JStep.cnts_le (xs : List JStep) (j : Nat) : JStep.cnts (xs.take j) ≤ JStep.cnts xs := by
  induction xs generalizing j with
  | nil => simp
  | cons x r ih =>
    cases j with
    | zero => simp [JStep.cnts]
    | succ j =>
      have := ih j
      simp only [List.take_succ_cons, JStep.cnts]
      omega
theorem JStep.mks_take (xs : List JStep) (j : Nat) (k : Int) (h : j < xs.length) : JStep.mks (xs.take (j + 1)) k = JStep.mks (xs.take j) k ++ [JStep.mk_ xs[j] (k + (JStep.cnts (xs.take j) : Nat))] := by
  induction xs generalizing j k with
  | nil => simp at h
  | cons x r ih =>
    cases j with
    | zero => simp [JStep.mks, JStep.cnts]
    | succ j =>
      have := ih j (k + (JStep.cnt x : Nat)) (by simpa using h)
      simp only [List.take_succ_cons, JStep.mks, JStep.cnts, List.getElem_cons_succ, List.cons_append, this]
      rw [show k + ((JStep.cnt x : Nat) : Int) + ((JStep.cnts (r.take j) : Nat) : Int) = k + ((JStep.cnt x + JStep.cnts (r.take j) : Nat) : Int) by push_cast; omega]
theorem JStep.mks_get (xs : List JStep) (j : Nat) (k : Int) (h : j < xs.length) : (JStep.mks xs k)[j]'(by rw [JStep.mks_len]; exact h) = JStep.mk_ xs[j] (k + (JStep.cnts (xs.take j) : Nat)) := by
  induction xs generalizing j k with
  | nil => simp at h
  | cons x r ih =>
    cases j with
    | zero => simp [JStep.mks, JStep.cnts]
    | succ j =>
      have := ih j (k + (JStep.cnt x : Nat)) (by simpa using h)
      simp only [List.take_succ_cons, JStep.mks, JStep.cnts, List.getElem_cons_succ, this]
      rw [show k + ((JStep.cnt x : Nat) : Int) + ((JStep.cnts (r.take j) : Nat) : Int) = k + ((JStep.cnt x + JStep.cnts (r.take j) : Nat) : Int) by push_cast; omega]

def MkStringS : Prop := ∀ (xs : List ByteArray) (v : Value) (fp : List Nat) (k : Int) (w : World), Own w (slD strD 1 xs) v fp → fp.Nodup → 0 ≤ k → k + xs.length ≤ 4611686018427387904 →
    Calls Try.prog 49 #[v, .int .i64 k] w (Marked w (slD strD 1 (mkTs xs k)) v fp (k + xs.length))
set_option maxHeartbeats 1600000 in
set_option maxRecDepth 100000 in
theorem mkStringS_c : MkStringS := by
  intro xs v fp k w ho nd h0 h1
  rcases Own.head ho with ⟨hn, A, c, rfl⟩ | ⟨g, cap, rfl⟩
  · obtain rfl : xs = [] := List.eq_nil_of_length_eq_zero hn
    have HO := Lib.hid ho
    clear ho nd
    go_enter Try.func49, Try.ntmps49
    go_wp2
    go_loop [1, 5] (fun a i => i = .int .i64 0 ∧ a = .int .i64 k) (fun _ _ => 0)
    case atStart => exact ⟨rfl, rfl⟩
    case round =>
      obtain ⟨rfl, rfl⟩ := hrel
      go_wp2
      go_ret
      exact ⟨by simp, by simpa [mkTs] using HO.out, Touch.refl _ _⟩
  have HO := Lib.hid ho
  have ND := Lib.hid nd
  have hm : xs.length ≤ 4611686018427387904 := by omega
  clear ho nd
  go_enter Try.func49, Try.ntmps49
  go_wp2
  go_loopw [1, 5] (fun a i wr => ∃ j : Nat, j ≤ xs.length ∧ i = .int .i64 j ∧ a = .int .i64 (k + j) ∧ Hid (Own wr (.sl 1 xs.length ((mkTs (xs.take j) k).flatMap strD ++ (xs.drop j).flatMap strD)) (.slice (some ⟨g, 0, none⟩) xs.length cap) fp) ∧ Hid (Touch w wr fp)) (fun _ i _ => xs.length - (intOf i).toNat)
  case atStart => exact ⟨0, Nat.zero_le _, rfl, by go_num, by simpa [mkTs, slD, Hid] using HO.out, Touch.refl _ _⟩
  case round =>
    obtain ⟨j, hj, rfl, rfl, HR, HT⟩ := hrel
    by_cases hlt : j < xs.length
    · obtain ⟨A, hA⟩ : ∃ A, A = (mkTs (xs.take j) k).flatMap strD := ⟨_, rfl⟩
      obtain ⟨C, hC⟩ : ∃ C, C = (xs.drop (j + 1)).flatMap strD := ⟨_, rfl⟩
      have hAl : A.length = j := by rw [hA, flat_length (sz := 1) (fun _ => rfl), mkTs_len, List.length_take]; omega
      have o0 : Own wr (.sl 1 xs.length (A ++ (strD xs[j] ++ C))) (.slice (some ⟨g, 0, none⟩) xs.length cap) fp := by
        have := HR.out
        rw [List.drop_eq_getElem_cons hlt, List.flatMap_cons, ← hA, ← hC] at this
        exact this
      have O0 := Lib.hid o0
      have HAL := Lib.hid hAl
      have HA := Lib.hid hA
      have HC := Lib.hid hC
      clear o0 hA hC hAl
      go_wp2_with fail
      refine (markText_c _ _ (by omega)).mono ?_
      rintro e w1 ⟨rfl, hb1⟩
      obtain ⟨y, f, qc, qf, od, _, _, hgm, hgl, _, hset⟩ := Own.sub (O0.out.keep hb1) ND.out j (.str xs[j]) ((get_at (L := strD xs[j]) HAL.out (j := 0) (by show 0 < 1; decide)).trans rfl)
      have O1 : Hid (Own (w1.setCell ⟨g, j, none⟩ (.string (mkT (k + j)))) (.sl 1 xs.length (A ++ (strD (mkT (k + j)) ++ C))) (.slice (some ⟨g, 0, none⟩) xs.length cap) fp) := by
        have := hset (Own.flat od trivial) (.str (mkT (k + j))) (.string (mkT (k + j))) (fun w' => by simp only [Own, true_and, and_true]; exact mkT_size _ (by omega))
        rw [show (A ++ (strD xs[j] ++ C)).set j (.str (mkT (k + j))) = A ++ (strD (mkT (k + j)) ++ C) from set_at (L := strD xs[j]) HAL.out (j := 0) (by show 0 < 1; decide) _] at this
        exact this
      have T1 : Hid (Touch w (w1.setCell ⟨g, j, none⟩ (.string (mkT (k + j)))) fp) := HT.out.trans ((Touch.below hb1).trans (Touch.set hgm _))
      clear hset od
      go_wp2
      go_roundw
      case rel =>
        refine ⟨j + 1, by omega, by go_num, by go_num, ?_, T1.out⟩
        have := O1.out
        rw [HA.out, HC.out] at this
        unfold Hid
        rw [mkTs_take _ _ _ hlt, List.flatMap_append, List.flatMap_singleton, List.append_assoc]
        exact this
      case measure => simp [intOf]; omega
    · go_wp2
      go_ret
      have e : j = xs.length := by omega
      exact Marked.int (by rw [e]) (by have := HR.out; rw [e, List.take_length, List.drop_length, List.flatMap_nil, List.append_nil] at this; unfold slD; rw [mkTs_len]; exact this) HT.out

def MkIntS : Prop := ∀ (xs : List Int) (v : Value) (fp : List Nat) (k : Int) (w : World), Own w (slD intD 1 xs) v fp → fp.Nodup → 0 ≤ k → k + xs.length ≤ 4611686018427387904 →
    Calls Try.prog 23 #[v, .int .i64 k] w (Marked w (slD intD 1 (mkIs xs k)) v fp (k + xs.length))
set_option maxHeartbeats 1600000 in
set_option maxRecDepth 100000 in
theorem mkIntS_c : MkIntS := by
  intro xs v fp k w ho nd h0 h1
  rcases Own.head ho with ⟨hn, A, c, rfl⟩ | ⟨g, cap, rfl⟩
  · obtain rfl : xs = [] := List.eq_nil_of_length_eq_zero hn
    have HO := Lib.hid ho
    clear ho nd
    go_enter Try.func23, Try.ntmps23
    go_wp2
    go_loop [1, 5] (fun a i => i = .int .i64 0 ∧ a = .int .i64 k) (fun _ _ => 0)
    case atStart => exact ⟨rfl, rfl⟩
    case round =>
      obtain ⟨rfl, rfl⟩ := hrel
      go_wp2
      go_ret
      exact ⟨by simp, by simpa [mkIs] using HO.out, Touch.refl _ _⟩
  have HO := Lib.hid ho
  have ND := Lib.hid nd
  have hm : xs.length ≤ 4611686018427387904 := by omega
  clear ho nd
  go_enter Try.func23, Try.ntmps23
  go_wp2
  go_loopw [1, 5] (fun a i wr => ∃ j : Nat, j ≤ xs.length ∧ i = .int .i64 j ∧ a = .int .i64 (k + j) ∧ Hid (Own wr (.sl 1 xs.length ((mkIs (xs.take j) k).flatMap intD ++ (xs.drop j).flatMap intD)) (.slice (some ⟨g, 0, none⟩) xs.length cap) fp) ∧ Hid (Touch w wr fp)) (fun _ i _ => xs.length - (intOf i).toNat)
  case atStart => exact ⟨0, Nat.zero_le _, rfl, by go_num, by simpa [mkIs, slD, Hid] using HO.out, Touch.refl _ _⟩
  case round =>
    obtain ⟨j, hj, rfl, rfl, HR, HT⟩ := hrel
    by_cases hlt : j < xs.length
    · obtain ⟨A, hA⟩ : ∃ A, A = (mkIs (xs.take j) k).flatMap intD := ⟨_, rfl⟩
      obtain ⟨C, hC⟩ : ∃ C, C = (xs.drop (j + 1)).flatMap intD := ⟨_, rfl⟩
      have hAl : A.length = j := by rw [hA, flat_length (sz := 1) (fun _ => rfl), mkIs_len, List.length_take]; omega
      have o0 : Own wr (.sl 1 xs.length (A ++ (intD xs[j] ++ C))) (.slice (some ⟨g, 0, none⟩) xs.length cap) fp := by
        have := HR.out
        rw [List.drop_eq_getElem_cons hlt, List.flatMap_cons, ← hA, ← hC] at this
        exact this
      have HAL := Lib.hid hAl
      have HA := Lib.hid hA
      have HC := Lib.hid hC
      clear hA hC hAl
      obtain ⟨y, f, qc, qf, od, _, _, hgm, hgl, _, hset⟩ := Own.sub o0 ND.out j (.int .i64 xs[j]) ((get_at (L := intD xs[j]) HAL.out (j := 0) (by show 0 < 1; decide)).trans rfl)
      have O1 : Hid (Own (wr.setCell ⟨g, j, none⟩ (.int .i64 (k + j))) (.sl 1 xs.length (A ++ (intD (k + j) ++ C))) (.slice (some ⟨g, 0, none⟩) xs.length cap) fp) := by
        have := hset (Own.flat od trivial) (.int .i64 (k + j)) (.int .i64 (k + j)) (fun w' => by simp only [Own, and_self])
        rw [show (A ++ (intD xs[j] ++ C)).set j (.int .i64 (k + j)) = A ++ (intD (k + j) ++ C) from set_at (L := intD xs[j]) HAL.out (j := 0) (by show 0 < 1; decide) _] at this
        exact this
      have T1 : Hid (Touch w (wr.setCell ⟨g, j, none⟩ (.int .i64 (k + j))) fp) := HT.out.trans (Touch.set hgm _)
      clear hset od o0
      go_wp2
      go_roundw
      case rel =>
        refine ⟨j + 1, by omega, by go_num, by go_num, ?_, T1.out⟩
        have := O1.out
        rw [HA.out, HC.out] at this
        unfold Hid
        rw [mkIs_take _ _ _ hlt, List.flatMap_append, List.flatMap_singleton, List.append_assoc]
        exact this
      case measure => simp [intOf]; omega
    · go_wp2
      go_ret
      have e : j = xs.length := by omega
      exact Marked.int (by rw [e]) (by have := HR.out; rw [e, List.take_length, List.drop_length, List.flatMap_nil, List.append_nil] at this; unfold slD; rw [mkIs_len]; exact this) HT.out

def HeldStringS : Prop := ∀ (ys : List ByteArray) (k : Int) (A : Option Addr) (c : Nat) (w : World), Rd w (slD strD 1 (mkTs ys k)) (.slice A (mkTs ys k).length c) → 0 ≤ k → k + ys.length ≤ 4611686018427387904 →
    Calls Try.prog 62 #[.slice A (mkTs ys k).length c, .int .i64 k] w (Ret w (.int .i64 (k + ys.length)))
set_option maxHeartbeats 1600000 in
set_option maxRecDepth 100000 in
theorem heldStringS_c : HeldStringS := by
  intro ys k A c w hx h0 h1
  obtain ⟨xs, hxs⟩ : ∃ xs, xs = mkTs ys k := ⟨_, rfl⟩
  have hlen : xs.length = ys.length := by rw [hxs, mkTs_len]
  rw [← hxs] at hx ⊢
  have HL := Lib.hid hlen
  have hm : xs.length ≤ 4611686018427387904 := by omega
  have hk2 : k + xs.length ≤ 4611686018427387904 := by omega
  have HG : Hid (∀ i (h : i < xs.length), xs[i] = mkT (k + i)) := by subst hxs; exact mkTs_get ys k
  have HX := Lib.hid hx
  clear hx hlen hxs h1
  go_enter Try.func62, Try.ntmps62
  go_wp2
  go_loopw [1, 5] (fun a i wr => ∃ j : Nat, j ≤ xs.length ∧ i = .int .i64 j ∧ a = .int .i64 (k + j) ∧ Below w.heap.size w wr) (fun _ i _ => xs.length - (intOf i).toNat)
  case atStart => exact ⟨0, Nat.zero_le _, rfl, by go_num, Below.refl _ _⟩
  case round =>
    obtain ⟨j, hj, rfl, rfl, hb⟩ := hrel
    by_cases hlt : j < xs.length
    · obtain ⟨ad, rfl, hc, hs⟩ := Rd.elem_str (HX.out.below hb) j hlt
      have t1 := str_t (HG.out j hlt)
      have hbd := hb.drew
      go_wp2_with fail
      go_region_held3 (fun w' => w'.cell? (ad.add j) = some (.string xs[j]) ∧ Below w.heap.size w w') (first | exact ⟨hc, hbd⟩ | exact ⟨cell_keep hb1 hc, bt hbd hb1⟩)
        (first | (go_at_call 50; refine (markText_c _ _ ?_).mono ?_; (omega); rintro e w1 ⟨rfl, hb1⟩))
      go_wp2
      go_roundw
      case rel => exact ⟨j + 1, by omega, by go_num, by go_num, bt hbd hb1⟩
      case measure => simp [intOf]; omega
    · go_wp2
      go_ret
      exact Ret.int (by have := HL.out; omega) hb

def HeldIntS : Prop := ∀ (ys : List Int) (k : Int) (A : Option Addr) (c : Nat) (w : World), Rd w (slD intD 1 (mkIs ys k)) (.slice A (mkIs ys k).length c) → 0 ≤ k → k + ys.length ≤ 4611686018427387904 →
    Calls Try.prog 24 #[.slice A (mkIs ys k).length c, .int .i64 k] w (Ret w (.int .i64 (k + ys.length)))
set_option maxHeartbeats 1600000 in
set_option maxRecDepth 100000 in
theorem heldIntS_c : HeldIntS := by
  intro ys k A c w hx h0 h1
  obtain ⟨xs, hxs⟩ : ∃ xs, xs = mkIs ys k := ⟨_, rfl⟩
  have hlen : xs.length = ys.length := by rw [hxs, mkIs_len]
  rw [← hxs] at hx ⊢
  have HL := Lib.hid hlen
  have hm : xs.length ≤ 4611686018427387904 := by omega
  have hk2 : k + xs.length ≤ 4611686018427387904 := by omega
  have HG : Hid (∀ i (h : i < xs.length), xs[i] = k + i) := by subst hxs; exact mkIs_get ys k
  have HX := Lib.hid hx
  clear hx hlen hxs h1
  go_enter Try.func24, Try.ntmps24
  go_wp2
  go_loopw [1, 5] (fun a i wr => ∃ j : Nat, j ≤ xs.length ∧ i = .int .i64 j ∧ a = .int .i64 (k + j) ∧ Below w.heap.size w wr) (fun _ i _ => xs.length - (intOf i).toNat)
  case atStart => exact ⟨0, Nat.zero_le _, rfl, by go_num, Below.refl _ _⟩
  case round =>
    obtain ⟨j, hj, rfl, rfl, hb⟩ := hrel
    by_cases hlt : j < xs.length
    · obtain ⟨ad, rfl, hc⟩ := Rd.elem_int (HX.out.below hb) j hlt
      have t1 : (xs[j] == k + (j : Int)) = true := by simpa using HG.out j hlt
      go_wp2
      go_roundw
      case rel => exact ⟨j + 1, by omega, by go_num, by go_num, hb⟩
      case measure => simp [intOf]; omega
    · go_wp2
      go_ret
      exact Ret.int (by have := HL.out; omega) hb

def MkValueS (xs : List JValue) : Prop := ∀ (v : Value) (fp : List Nat) (k : Int) (w : World), Own w (slD JValue.enc 5 xs) v fp → fp.Nodup → 0 ≤ k → k + (JValue.cnts xs : Nat) ≤ 4611686018427387904 →
    Calls Try.prog 61 #[v, .int .i64 k] w (Marked w (slD JValue.enc 5 (JValue.mks xs k)) v fp (k + (JValue.cnts xs : Nat)))
set_option maxHeartbeats 6400000 in
set_option maxRecDepth 100000 in
theorem mkValueS_of (xs : List JValue) (hK : ∀ x, x ∈ xs → MkValueS x.kids) : MkValueS xs := by
  intro v fp k w ho nd h0 h1
  rcases Own.head ho with ⟨hn, A, c, rfl⟩ | ⟨g, cap, rfl⟩
  · obtain rfl : xs = [] := List.eq_nil_of_length_eq_zero hn
    have HO := Lib.hid ho
    clear ho nd
    go_enter Try.func61, Try.ntmps61
    go_wp2
    go_loop [1, 5] (fun a i => i = .int .i64 0 ∧ a = .int .i64 k) (fun _ _ => 0)
    case atStart => exact ⟨rfl, rfl⟩
    case round =>
      obtain ⟨rfl, rfl⟩ := hrel
      go_wp2
      go_ret
      exact Marked.int (by simp [JValue.cnts]) (by simpa [JValue.mks] using HO.out) (Touch.refl _ _)
  have HO := Lib.hid ho
  have ND := Lib.hid nd
  have hm : xs.length ≤ 9223372036854775807 := by
    simp only [slD, Own] at ho
    rcases ho.2 with ⟨h, _⟩ | ⟨g', cap', cur, e, fs, hv, hb, hn, hcap, hsz, _⟩
    · cases h
    · unfold maxLen at hcap; omega
  clear ho nd
  have HK := Lib.hid hK
  clear hK
  go_enter Try.func61, Try.ntmps61
  go_wp2
  go_loopw [1, 5] (fun a i wr => ∃ j : Nat, j ≤ xs.length ∧ i = .int .i64 j ∧ ∃ q : Int, a = .int .i64 q ∧ 0 ≤ q ∧ q ≤ 4611686018427387904 ∧ Hid (q = k + (JValue.cnts (xs.take j) : Nat)) ∧ Hid (Own wr (.sl 5 xs.length ((JValue.mks (xs.take j) k).flatMap JValue.enc ++ (xs.drop j).flatMap JValue.enc)) (.slice (some ⟨g, 0, none⟩) xs.length cap) fp) ∧ Hid (Touch w wr fp)) (fun _ i _ => xs.length - (intOf i).toNat)
  case atStart => exact ⟨0, Nat.zero_le _, rfl, k, rfl, h0, by omega, by simp [JValue.cnts, Hid], by simpa [JValue.mks, slD, Hid] using HO.out, Touch.refl _ _⟩
  case round =>
    obtain ⟨j, hj, rfl, q, rfl, hq0, hq1, HQ, HR, HT⟩ := hrel
    by_cases hlt : j < xs.length
    · obtain ⟨A, hA⟩ : ∃ A, A = (JValue.mks (xs.take j) k).flatMap JValue.enc := ⟨_, rfl⟩
      obtain ⟨C, hC⟩ : ∃ C, C = (xs.drop (j + 1)).flatMap JValue.enc := ⟨_, rfl⟩
      have hAl : A.length = j * 5 := by rw [hA, flat_length JValue.enc_len, JValue.mks_len, List.length_take]; congr 1; omega
      have o0 : Own wr (.sl 5 xs.length (A ++ ([.int .i64 xs[j].sort, .int .i64 xs[j].num, .str xs[j].text, slD strD 1 xs[j].names, slD JValue.enc 5 xs[j].kids] ++ C))) (.slice (some ⟨g, 0, none⟩) xs.length cap) fp := by
        have := HR.out
        rw [List.drop_eq_getElem_cons hlt, List.flatMap_cons, ← hA, ← hC, JValue.enc_eq] at this
        exact this
      have hct : q + (JValue.cnt xs[j] : Nat) ≤ 4611686018427387904 := by
        have h2 := JValue.cnts_take xs j hlt
        have h3 := JValue.cnts_le xs (j + 1)
        have h4 := HQ.out
        omega
      rw [JValue.cnt_eq] at hct
      have W0 := Lib.hid hct
      have HAL := Lib.hid hAl
      have HA := Lib.hid hA
      have HC := Lib.hid hC
      have O0 := Lib.hid o0
      have T0 := HT
      clear o0 hA hC hAl
      push_cast at hct
      obtain ⟨y0, f0, qc0, qf0, od0, _, _, hgm0, hgl0, _, hset0⟩ := Own.sub O0.out ND.out (j * 5 + 0) (.int .i64 xs[j].sort) ((get_at (L := [.int .i64 xs[j].sort, .int .i64 xs[j].num, .str xs[j].text, slD strD 1 xs[j].names, slD JValue.enc 5 xs[j].kids]) HAL.out (j := 0) (by show 0 < 5; decide)).trans rfl)
      replace qc0 : (wr).cell? ⟨g, j * 5, none⟩ = some y0 := qc0
      replace qf0 : (wr).frozen? ⟨g, j * 5, none⟩ = false := qf0
      replace O0 : Hid (Own ((wr).setCell ⟨g, j * 5, none⟩ (.int .i64 (q))) (.sl 5 xs.length (A ++ ([.int .i64 (q), .int .i64 xs[j].num, .str xs[j].text, slD strD 1 xs[j].names, slD JValue.enc 5 xs[j].kids] ++ C))) (.slice (some ⟨g, 0, none⟩) xs.length cap) fp) := by
        have := hset0 (Own.flat od0 trivial) (.int .i64 (q)) (.int .i64 (q)) (fun w_ => by simp only [Own, and_self])
        rw [set_at (L := [.int .i64 xs[j].sort, .int .i64 xs[j].num, .str xs[j].text, slD strD 1 xs[j].names, slD JValue.enc 5 xs[j].kids]) HAL.out (by show 0 < 5; decide)] at this
        exact this
      replace T0 : Hid (Touch w ((wr).setCell ⟨g, j * 5, none⟩ (.int .i64 (q))) fp) := T0.out.trans (Touch.set hgm0 _)
      clear hset0 od0
      obtain ⟨y1, f1, qc1, qf1, od1, _, _, hgm1, hgl1, _, hset1⟩ := Own.sub O0.out ND.out (j * 5 + 1) (.int .i64 xs[j].num) ((get_at (L := [.int .i64 (q), .int .i64 xs[j].num, .str xs[j].text, slD strD 1 xs[j].names, slD JValue.enc 5 xs[j].kids]) HAL.out (j := 1) (by show 1 < 5; decide)).trans rfl)
      replace O0 : Hid (Own ((((wr).setCell ⟨g, j * 5, none⟩ (.int .i64 (q)))).setCell ⟨g, j * 5 + 1, none⟩ (.int .i64 (q + 1))) (.sl 5 xs.length (A ++ ([.int .i64 (q), .int .i64 (q + 1), .str xs[j].text, slD strD 1 xs[j].names, slD JValue.enc 5 xs[j].kids] ++ C))) (.slice (some ⟨g, 0, none⟩) xs.length cap) fp) := by
        have := hset1 (Own.flat od1 trivial) (.int .i64 (q + 1)) (.int .i64 (q + 1)) (fun w_ => by simp only [Own, and_self])
        rw [set_at (L := [.int .i64 (q), .int .i64 xs[j].num, .str xs[j].text, slD strD 1 xs[j].names, slD JValue.enc 5 xs[j].kids]) HAL.out (by show 1 < 5; decide)] at this
        exact this
      replace T0 : Hid (Touch w ((((wr).setCell ⟨g, j * 5, none⟩ (.int .i64 (q)))).setCell ⟨g, j * 5 + 1, none⟩ (.int .i64 (q + 1))) fp) := T0.out.trans (Touch.set hgm1 _)
      clear hset1 od1
      go_wp2_with fail
      refine (markText_c _ _ (by have := W0.out; omega)).mono ?_
      rintro e w1 ⟨rfl, hb1⟩
      replace O0 := Lib.hid (O0.out.keep hb1)
      replace T0 := Lib.hid (T0.out.trans (Touch.below (fp := fp) hb1))
      obtain ⟨y2, f2, qc2, qf2, od2, _, _, hgm2, hgl2, _, hset2⟩ := Own.sub O0.out ND.out (j * 5 + 2) (.str xs[j].text) ((get_at (L := [.int .i64 (q), .int .i64 (q + 1), .str xs[j].text, slD strD 1 xs[j].names, slD JValue.enc 5 xs[j].kids]) HAL.out (j := 2) (by show 2 < 5; decide)).trans rfl)
      replace O0 : Hid (Own ((w1).setCell ⟨g, j * 5 + 2, none⟩ (.string (mkT (q + 1 + 1)))) (.sl 5 xs.length (A ++ ([.int .i64 (q), .int .i64 (q + 1), .str (mkT (q + 1 + 1)), slD strD 1 xs[j].names, slD JValue.enc 5 xs[j].kids] ++ C))) (.slice (some ⟨g, 0, none⟩) xs.length cap) fp) := by
        have := hset2 (Own.flat od2 trivial) (.str (mkT (q + 1 + 1))) (.string (mkT (q + 1 + 1))) (fun w_ => by simp only [Own, true_and, and_true]; exact mkT_size _ (by have := W0.out; omega))
        rw [set_at (L := [.int .i64 (q), .int .i64 (q + 1), .str xs[j].text, slD strD 1 xs[j].names, slD JValue.enc 5 xs[j].kids]) HAL.out (by show 2 < 5; decide)] at this
        exact this
      replace T0 : Hid (Touch w ((w1).setCell ⟨g, j * 5 + 2, none⟩ (.string (mkT (q + 1 + 1)))) fp) := T0.out.trans (Touch.set hgm2 _)
      clear hset2 od2
      obtain ⟨y3, f3, qc3, qf3, od3, nd3, hsub3, hgm3, hgl3, hput3, _⟩ := Own.sub O0.out ND.out (j * 5 + 3) (slD strD 1 xs[j].names) ((get_at (L := [.int .i64 (q), .int .i64 (q + 1), .str (mkT (q + 1 + 1)), slD strD 1 xs[j].names, slD JValue.enc 5 xs[j].kids]) HAL.out (j := 3) (by show 3 < 5; decide)).trans rfl)
      obtain ⟨B3, b3, rfl⟩ := Own.slD od3
      have OD3 := Lib.hid od3
      have ND3 := Lib.hid nd3
      have HS3 := Lib.hid hsub3
      have HP3 := Lib.hid hput3
      clear od3 nd3 hsub3 hput3
      go_wp2_with fail
      refine (mkStringS_c _ _ _ _ _ OD3.out ND3.out (by omega) (by have := W0.out; omega)).mono ?_
      rintro e w2 ⟨rfl, o3, t3⟩
      replace O0 : Hid (Own w2 (.sl 5 xs.length (A ++ ([.int .i64 (q), .int .i64 (q + 1), .str (mkT (q + 1 + 1)), slD strD 1 (mkTs xs[j].names (q + 1 + 1 + 1)), slD JValue.enc 5 xs[j].kids] ++ C))) (.slice (some ⟨g, 0, none⟩) xs.length cap) fp) := by
        have := HP3.out w2 _ t3 o3
        rw [set_at (L := [.int .i64 (q), .int .i64 (q + 1), .str (mkT (q + 1 + 1)), slD strD 1 xs[j].names, slD JValue.enc 5 xs[j].kids]) HAL.out (by show 3 < 5; decide)] at this
        exact this
      replace T0 : Hid (Touch w w2 fp) := T0.out.trans (t3.mono HS3.out)
      clear o3 t3 HP3 OD3 ND3 HS3
      obtain ⟨y4, f4, qc4, qf4, od4, nd4, hsub4, hgm4, hgl4, hput4, _⟩ := Own.sub O0.out ND.out (j * 5 + 4) (slD JValue.enc 5 xs[j].kids) ((get_at (L := [.int .i64 (q), .int .i64 (q + 1), .str (mkT (q + 1 + 1)), slD strD 1 (mkTs xs[j].names (q + 1 + 1 + 1)), slD JValue.enc 5 xs[j].kids]) HAL.out (j := 4) (by show 4 < 5; decide)).trans rfl)
      obtain ⟨B4, b4, rfl⟩ := Own.slD od4
      have OD4 := Lib.hid od4
      have ND4 := Lib.hid nd4
      have HS4 := Lib.hid hsub4
      have HP4 := Lib.hid hput4
      clear od4 nd4 hsub4 hput4
      go_wp2_with fail
      refine (HK.out xs[j] (List.getElem_mem hlt) _ _ _ _ OD4.out ND4.out (by omega) (by have := W0.out; omega)).mono ?_
      rintro e w3 ⟨rfl, o4, t4⟩
      replace O0 : Hid (Own w3 (.sl 5 xs.length (A ++ ([.int .i64 (q), .int .i64 (q + 1), .str (mkT (q + 1 + 1)), slD strD 1 (mkTs xs[j].names (q + 1 + 1 + 1)), slD JValue.enc 5 (JValue.mks xs[j].kids (q + 1 + 1 + 1 + (xs[j].names.length : Int)))] ++ C))) (.slice (some ⟨g, 0, none⟩) xs.length cap) fp) := by
        have := HP4.out w3 _ t4 o4
        rw [set_at (L := [.int .i64 (q), .int .i64 (q + 1), .str (mkT (q + 1 + 1)), slD strD 1 (mkTs xs[j].names (q + 1 + 1 + 1)), slD JValue.enc 5 xs[j].kids]) HAL.out (by show 4 < 5; decide)] at this
        exact this
      replace T0 : Hid (Touch w w3 fp) := T0.out.trans (t4.mono HS4.out)
      clear o4 t4 HP4 OD4 ND4 HS4
      go_wp2
      go_roundw
      case rel =>
        refine ⟨j + 1, by omega, by go_num, _, rfl, by omega, by have := W0.out; omega, ?_, ?_, T0.out⟩
        · have h1 := HQ.out
          have h2 := JValue.cnts_take xs j hlt
          have h3 := JValue.cnt_eq xs[j]
          unfold Hid
          omega
        · have := O0.out
          rw [HA.out, HC.out] at this
          unfold Hid
          rw [JValue.mks_take _ _ _ hlt, ← HQ.out, List.flatMap_append, List.flatMap_singleton, List.append_assoc, JValue.enc_eq, JValue.mk_eq]
          exact this
      case measure => simp [intOf]; omega
    · go_wp2
      go_ret
      have e : j = xs.length := by omega
      exact Marked.int (by have := HQ.out; rw [e, List.take_length] at this; exact this) (by have := HR.out; rw [e, List.take_length, List.drop_length, List.flatMap_nil, List.append_nil] at this; unfold slD; rw [JValue.mks_len]; exact this) HT.out
theorem mkValueS_all : ∀ m, ∀ xs : List JValue, SizeOf.sizeOf xs < m → MkValueS xs
  | 0 => fun _ h => absurd h (by omega)
  | m + 1 => fun xs h => mkValueS_of xs (fun x hx => mkValueS_all m _ (by have := List.sizeOf_lt_of_mem hx; have := JValue.kids_lt x; omega))
theorem mkValueS_c (xs : List JValue) : MkValueS xs := mkValueS_all _ xs (Nat.lt_succ_self _)

def MkCellS (xs : List JCell) : Prop := ∀ (v : Value) (fp : List Nat) (k : Int) (w : World), Own w (slD JCell.enc 6 xs) v fp → fp.Nodup → 0 ≤ k → k + (JCell.cnts xs : Nat) ≤ 4611686018427387904 →
    Calls Try.prog 60 #[v, .int .i64 k] w (Marked w (slD JCell.enc 6 (JCell.mks xs k)) v fp (k + (JCell.cnts xs : Nat)))
set_option maxHeartbeats 6400000 in
set_option maxRecDepth 100000 in
theorem mkCellS_of (xs : List JCell) : MkCellS xs := by
  intro v fp k w ho nd h0 h1
  rcases Own.head ho with ⟨hn, A, c, rfl⟩ | ⟨g, cap, rfl⟩
  · obtain rfl : xs = [] := List.eq_nil_of_length_eq_zero hn
    have HO := Lib.hid ho
    clear ho nd
    go_enter Try.func60, Try.ntmps60
    go_wp2
    go_loop [1, 5] (fun a i => i = .int .i64 0 ∧ a = .int .i64 k) (fun _ _ => 0)
    case atStart => exact ⟨rfl, rfl⟩
    case round =>
      obtain ⟨rfl, rfl⟩ := hrel
      go_wp2
      go_ret
      exact Marked.int (by simp [JCell.cnts]) (by simpa [JCell.mks] using HO.out) (Touch.refl _ _)
  have HO := Lib.hid ho
  have ND := Lib.hid nd
  have hm : xs.length ≤ 9223372036854775807 := by
    simp only [slD, Own] at ho
    rcases ho.2 with ⟨h, _⟩ | ⟨g', cap', cur, e, fs, hv, hb, hn, hcap, hsz, _⟩
    · cases h
    · unfold maxLen at hcap; omega
  clear ho nd
  skip
  go_enter Try.func60, Try.ntmps60
  go_wp2
  go_loopw [1, 5] (fun a i wr => ∃ j : Nat, j ≤ xs.length ∧ i = .int .i64 j ∧ ∃ q : Int, a = .int .i64 q ∧ 0 ≤ q ∧ q ≤ 4611686018427387904 ∧ Hid (q = k + (JCell.cnts (xs.take j) : Nat)) ∧ Hid (Own wr (.sl 6 xs.length ((JCell.mks (xs.take j) k).flatMap JCell.enc ++ (xs.drop j).flatMap JCell.enc)) (.slice (some ⟨g, 0, none⟩) xs.length cap) fp) ∧ Hid (Touch w wr fp)) (fun _ i _ => xs.length - (intOf i).toNat)
  case atStart => exact ⟨0, Nat.zero_le _, rfl, k, rfl, h0, by omega, by simp [JCell.cnts, Hid], by simpa [JCell.mks, slD, Hid] using HO.out, Touch.refl _ _⟩
  case round =>
    obtain ⟨j, hj, rfl, q, rfl, hq0, hq1, HQ, HR, HT⟩ := hrel
    by_cases hlt : j < xs.length
    · obtain ⟨A, hA⟩ : ∃ A, A = (JCell.mks (xs.take j) k).flatMap JCell.enc := ⟨_, rfl⟩
      obtain ⟨C, hC⟩ : ∃ C, C = (xs.drop (j + 1)).flatMap JCell.enc := ⟨_, rfl⟩
      have hAl : A.length = j * 6 := by rw [hA, flat_length JCell.enc_len, JCell.mks_len, List.length_take]; congr 1; omega
      have o0 : Own wr (.sl 6 xs.length (A ++ ([.str xs[j].name, .int .i64 xs[j].value.sort, .int .i64 xs[j].value.num, .str xs[j].value.text, slD strD 1 xs[j].value.names, slD JValue.enc 5 xs[j].value.kids] ++ C))) (.slice (some ⟨g, 0, none⟩) xs.length cap) fp := by
        have := HR.out
        rw [List.drop_eq_getElem_cons hlt, List.flatMap_cons, ← hA, ← hC, JCell.enc_eq] at this
        exact this
      have hct : q + (JCell.cnt xs[j] : Nat) ≤ 4611686018427387904 := by
        have h2 := JCell.cnts_take xs j hlt
        have h3 := JCell.cnts_le xs (j + 1)
        have h4 := HQ.out
        omega
      rw [JCell.cnt_eq] at hct
      have W0 := Lib.hid hct
      have HAL := Lib.hid hAl
      have HA := Lib.hid hA
      have HC := Lib.hid hC
      have O0 := Lib.hid o0
      have T0 := HT
      clear o0 hA hC hAl
      push_cast at hct
      go_wp2_with fail
      refine (markText_c _ _ (by have := W0.out; omega)).mono ?_
      rintro e w1 ⟨rfl, hb1⟩
      replace O0 := Lib.hid (O0.out.keep hb1)
      replace T0 := Lib.hid (T0.out.trans (Touch.below (fp := fp) hb1))
      obtain ⟨y0, f0, qc0, qf0, od0, _, _, hgm0, hgl0, _, hset0⟩ := Own.sub O0.out ND.out (j * 6 + 0) (.str xs[j].name) ((get_at (L := [.str xs[j].name, .int .i64 xs[j].value.sort, .int .i64 xs[j].value.num, .str xs[j].value.text, slD strD 1 xs[j].value.names, slD JValue.enc 5 xs[j].value.kids]) HAL.out (j := 0) (by show 0 < 6; decide)).trans rfl)
      replace qc0 : (w1).cell? ⟨g, j * 6, none⟩ = some y0 := qc0
      replace qf0 : (w1).frozen? ⟨g, j * 6, none⟩ = false := qf0
      replace O0 : Hid (Own ((w1).setCell ⟨g, j * 6, none⟩ (.string (mkT (q)))) (.sl 6 xs.length (A ++ ([.str (mkT (q)), .int .i64 xs[j].value.sort, .int .i64 xs[j].value.num, .str xs[j].value.text, slD strD 1 xs[j].value.names, slD JValue.enc 5 xs[j].value.kids] ++ C))) (.slice (some ⟨g, 0, none⟩) xs.length cap) fp) := by
        have := hset0 (Own.flat od0 trivial) (.str (mkT (q))) (.string (mkT (q))) (fun w_ => by simp only [Own, true_and, and_true]; exact mkT_size _ (by have := W0.out; omega))
        rw [set_at (L := [.str xs[j].name, .int .i64 xs[j].value.sort, .int .i64 xs[j].value.num, .str xs[j].value.text, slD strD 1 xs[j].value.names, slD JValue.enc 5 xs[j].value.kids]) HAL.out (by show 0 < 6; decide)] at this
        exact this
      replace T0 : Hid (Touch w ((w1).setCell ⟨g, j * 6, none⟩ (.string (mkT (q)))) fp) := T0.out.trans (Touch.set hgm0 _)
      clear hset0 od0
      obtain ⟨y1, f1, qc1, qf1, od1, _, _, hgm1, hgl1, _, hset1⟩ := Own.sub O0.out ND.out (j * 6 + 1) (.int .i64 xs[j].value.sort) ((get_at (L := [.str (mkT (q)), .int .i64 xs[j].value.sort, .int .i64 xs[j].value.num, .str xs[j].value.text, slD strD 1 xs[j].value.names, slD JValue.enc 5 xs[j].value.kids]) HAL.out (j := 1) (by show 1 < 6; decide)).trans rfl)
      replace O0 : Hid (Own ((((w1).setCell ⟨g, j * 6, none⟩ (.string (mkT (q))))).setCell ⟨g, j * 6 + 1, none⟩ (.int .i64 (q + 1))) (.sl 6 xs.length (A ++ ([.str (mkT (q)), .int .i64 (q + 1), .int .i64 xs[j].value.num, .str xs[j].value.text, slD strD 1 xs[j].value.names, slD JValue.enc 5 xs[j].value.kids] ++ C))) (.slice (some ⟨g, 0, none⟩) xs.length cap) fp) := by
        have := hset1 (Own.flat od1 trivial) (.int .i64 (q + 1)) (.int .i64 (q + 1)) (fun w_ => by simp only [Own, and_self])
        rw [set_at (L := [.str (mkT (q)), .int .i64 xs[j].value.sort, .int .i64 xs[j].value.num, .str xs[j].value.text, slD strD 1 xs[j].value.names, slD JValue.enc 5 xs[j].value.kids]) HAL.out (by show 1 < 6; decide)] at this
        exact this
      replace T0 : Hid (Touch w ((((w1).setCell ⟨g, j * 6, none⟩ (.string (mkT (q))))).setCell ⟨g, j * 6 + 1, none⟩ (.int .i64 (q + 1))) fp) := T0.out.trans (Touch.set hgm1 _)
      clear hset1 od1
      obtain ⟨y2, f2, qc2, qf2, od2, _, _, hgm2, hgl2, _, hset2⟩ := Own.sub O0.out ND.out (j * 6 + 2) (.int .i64 xs[j].value.num) ((get_at (L := [.str (mkT (q)), .int .i64 (q + 1), .int .i64 xs[j].value.num, .str xs[j].value.text, slD strD 1 xs[j].value.names, slD JValue.enc 5 xs[j].value.kids]) HAL.out (j := 2) (by show 2 < 6; decide)).trans rfl)
      replace O0 : Hid (Own ((((((w1).setCell ⟨g, j * 6, none⟩ (.string (mkT (q))))).setCell ⟨g, j * 6 + 1, none⟩ (.int .i64 (q + 1)))).setCell ⟨g, j * 6 + 2, none⟩ (.int .i64 (q + 1 + 1))) (.sl 6 xs.length (A ++ ([.str (mkT (q)), .int .i64 (q + 1), .int .i64 (q + 1 + 1), .str xs[j].value.text, slD strD 1 xs[j].value.names, slD JValue.enc 5 xs[j].value.kids] ++ C))) (.slice (some ⟨g, 0, none⟩) xs.length cap) fp) := by
        have := hset2 (Own.flat od2 trivial) (.int .i64 (q + 1 + 1)) (.int .i64 (q + 1 + 1)) (fun w_ => by simp only [Own, and_self])
        rw [set_at (L := [.str (mkT (q)), .int .i64 (q + 1), .int .i64 xs[j].value.num, .str xs[j].value.text, slD strD 1 xs[j].value.names, slD JValue.enc 5 xs[j].value.kids]) HAL.out (by show 2 < 6; decide)] at this
        exact this
      replace T0 : Hid (Touch w ((((((w1).setCell ⟨g, j * 6, none⟩ (.string (mkT (q))))).setCell ⟨g, j * 6 + 1, none⟩ (.int .i64 (q + 1)))).setCell ⟨g, j * 6 + 2, none⟩ (.int .i64 (q + 1 + 1))) fp) := T0.out.trans (Touch.set hgm2 _)
      clear hset2 od2
      go_wp2_with fail
      refine (markText_c _ _ (by have := W0.out; omega)).mono ?_
      rintro e w2 ⟨rfl, hb2⟩
      replace O0 := Lib.hid (O0.out.keep hb2)
      replace T0 := Lib.hid (T0.out.trans (Touch.below (fp := fp) hb2))
      obtain ⟨y3, f3, qc3, qf3, od3, _, _, hgm3, hgl3, _, hset3⟩ := Own.sub O0.out ND.out (j * 6 + 3) (.str xs[j].value.text) ((get_at (L := [.str (mkT (q)), .int .i64 (q + 1), .int .i64 (q + 1 + 1), .str xs[j].value.text, slD strD 1 xs[j].value.names, slD JValue.enc 5 xs[j].value.kids]) HAL.out (j := 3) (by show 3 < 6; decide)).trans rfl)
      replace O0 : Hid (Own ((w2).setCell ⟨g, j * 6 + 3, none⟩ (.string (mkT (q + 1 + 1 + 1)))) (.sl 6 xs.length (A ++ ([.str (mkT (q)), .int .i64 (q + 1), .int .i64 (q + 1 + 1), .str (mkT (q + 1 + 1 + 1)), slD strD 1 xs[j].value.names, slD JValue.enc 5 xs[j].value.kids] ++ C))) (.slice (some ⟨g, 0, none⟩) xs.length cap) fp) := by
        have := hset3 (Own.flat od3 trivial) (.str (mkT (q + 1 + 1 + 1))) (.string (mkT (q + 1 + 1 + 1))) (fun w_ => by simp only [Own, true_and, and_true]; exact mkT_size _ (by have := W0.out; omega))
        rw [set_at (L := [.str (mkT (q)), .int .i64 (q + 1), .int .i64 (q + 1 + 1), .str xs[j].value.text, slD strD 1 xs[j].value.names, slD JValue.enc 5 xs[j].value.kids]) HAL.out (by show 3 < 6; decide)] at this
        exact this
      replace T0 : Hid (Touch w ((w2).setCell ⟨g, j * 6 + 3, none⟩ (.string (mkT (q + 1 + 1 + 1)))) fp) := T0.out.trans (Touch.set hgm3 _)
      clear hset3 od3
      obtain ⟨y4, f4, qc4, qf4, od4, nd4, hsub4, hgm4, hgl4, hput4, _⟩ := Own.sub O0.out ND.out (j * 6 + 4) (slD strD 1 xs[j].value.names) ((get_at (L := [.str (mkT (q)), .int .i64 (q + 1), .int .i64 (q + 1 + 1), .str (mkT (q + 1 + 1 + 1)), slD strD 1 xs[j].value.names, slD JValue.enc 5 xs[j].value.kids]) HAL.out (j := 4) (by show 4 < 6; decide)).trans rfl)
      obtain ⟨B4, b4, rfl⟩ := Own.slD od4
      have OD4 := Lib.hid od4
      have ND4 := Lib.hid nd4
      have HS4 := Lib.hid hsub4
      have HP4 := Lib.hid hput4
      clear od4 nd4 hsub4 hput4
      go_wp2_with fail
      refine (mkStringS_c _ _ _ _ _ OD4.out ND4.out (by omega) (by have := W0.out; omega)).mono ?_
      rintro e w3 ⟨rfl, o4, t4⟩
      replace O0 : Hid (Own w3 (.sl 6 xs.length (A ++ ([.str (mkT (q)), .int .i64 (q + 1), .int .i64 (q + 1 + 1), .str (mkT (q + 1 + 1 + 1)), slD strD 1 (mkTs xs[j].value.names (q + 1 + 1 + 1 + 1)), slD JValue.enc 5 xs[j].value.kids] ++ C))) (.slice (some ⟨g, 0, none⟩) xs.length cap) fp) := by
        have := HP4.out w3 _ t4 o4
        rw [set_at (L := [.str (mkT (q)), .int .i64 (q + 1), .int .i64 (q + 1 + 1), .str (mkT (q + 1 + 1 + 1)), slD strD 1 xs[j].value.names, slD JValue.enc 5 xs[j].value.kids]) HAL.out (by show 4 < 6; decide)] at this
        exact this
      replace T0 : Hid (Touch w w3 fp) := T0.out.trans (t4.mono HS4.out)
      clear o4 t4 HP4 OD4 ND4 HS4
      obtain ⟨y5, f5, qc5, qf5, od5, nd5, hsub5, hgm5, hgl5, hput5, _⟩ := Own.sub O0.out ND.out (j * 6 + 5) (slD JValue.enc 5 xs[j].value.kids) ((get_at (L := [.str (mkT (q)), .int .i64 (q + 1), .int .i64 (q + 1 + 1), .str (mkT (q + 1 + 1 + 1)), slD strD 1 (mkTs xs[j].value.names (q + 1 + 1 + 1 + 1)), slD JValue.enc 5 xs[j].value.kids]) HAL.out (j := 5) (by show 5 < 6; decide)).trans rfl)
      obtain ⟨B5, b5, rfl⟩ := Own.slD od5
      have OD5 := Lib.hid od5
      have ND5 := Lib.hid nd5
      have HS5 := Lib.hid hsub5
      have HP5 := Lib.hid hput5
      clear od5 nd5 hsub5 hput5
      go_wp2_with fail
      refine (mkValueS_c _ _ _ _ _ OD5.out ND5.out (by omega) (by have := W0.out; omega)).mono ?_
      rintro e w4 ⟨rfl, o5, t5⟩
      replace O0 : Hid (Own w4 (.sl 6 xs.length (A ++ ([.str (mkT (q)), .int .i64 (q + 1), .int .i64 (q + 1 + 1), .str (mkT (q + 1 + 1 + 1)), slD strD 1 (mkTs xs[j].value.names (q + 1 + 1 + 1 + 1)), slD JValue.enc 5 (JValue.mks xs[j].value.kids (q + 1 + 1 + 1 + 1 + (xs[j].value.names.length : Int)))] ++ C))) (.slice (some ⟨g, 0, none⟩) xs.length cap) fp) := by
        have := HP5.out w4 _ t5 o5
        rw [set_at (L := [.str (mkT (q)), .int .i64 (q + 1), .int .i64 (q + 1 + 1), .str (mkT (q + 1 + 1 + 1)), slD strD 1 (mkTs xs[j].value.names (q + 1 + 1 + 1 + 1)), slD JValue.enc 5 xs[j].value.kids]) HAL.out (by show 5 < 6; decide)] at this
        exact this
      replace T0 : Hid (Touch w w4 fp) := T0.out.trans (t5.mono HS5.out)
      clear o5 t5 HP5 OD5 ND5 HS5
      go_wp2
      go_roundw
      case rel =>
        refine ⟨j + 1, by omega, by go_num, _, rfl, by omega, by have := W0.out; omega, ?_, ?_, T0.out⟩
        · have h1 := HQ.out
          have h2 := JCell.cnts_take xs j hlt
          have h3 := JCell.cnt_eq xs[j]
          unfold Hid
          omega
        · have := O0.out
          rw [HA.out, HC.out] at this
          unfold Hid
          rw [JCell.mks_take _ _ _ hlt, ← HQ.out, List.flatMap_append, List.flatMap_singleton, List.append_assoc, JCell.enc_eq, JCell.mk_eq]
          exact this
      case measure => simp [intOf]; omega
    · go_wp2
      go_ret
      have e : j = xs.length := by omega
      exact Marked.int (by have := HQ.out; rw [e, List.take_length] at this; exact this) (by have := HR.out; rw [e, List.take_length, List.drop_length, List.flatMap_nil, List.append_nil] at this; unfold slD; rw [JCell.mks_len]; exact this) HT.out
theorem mkCellS_c (xs : List JCell) : MkCellS xs := mkCellS_of xs

def MkRowS (xs : List JRow) : Prop := ∀ (v : Value) (fp : List Nat) (k : Int) (w : World), Own w (slD JRow.enc 3 xs) v fp → fp.Nodup → 0 ≤ k → k + (JRow.cnts xs : Nat) ≤ 4611686018427387904 →
    Calls Try.prog 30 #[v, .int .i64 k] w (Marked w (slD JRow.enc 3 (JRow.mks xs k)) v fp (k + (JRow.cnts xs : Nat)))
set_option maxHeartbeats 6400000 in
set_option maxRecDepth 100000 in
theorem mkRowS_of (xs : List JRow) : MkRowS xs := by
  intro v fp k w ho nd h0 h1
  rcases Own.head ho with ⟨hn, A, c, rfl⟩ | ⟨g, cap, rfl⟩
  · obtain rfl : xs = [] := List.eq_nil_of_length_eq_zero hn
    have HO := Lib.hid ho
    clear ho nd
    go_enter Try.func30, Try.ntmps30
    go_wp2
    go_loop [1, 5] (fun a i => i = .int .i64 0 ∧ a = .int .i64 k) (fun _ _ => 0)
    case atStart => exact ⟨rfl, rfl⟩
    case round =>
      obtain ⟨rfl, rfl⟩ := hrel
      go_wp2
      go_ret
      exact Marked.int (by simp [JRow.cnts]) (by simpa [JRow.mks] using HO.out) (Touch.refl _ _)
  have HO := Lib.hid ho
  have ND := Lib.hid nd
  have hm : xs.length ≤ 9223372036854775807 := by
    simp only [slD, Own] at ho
    rcases ho.2 with ⟨h, _⟩ | ⟨g', cap', cur, e, fs, hv, hb, hn, hcap, hsz, _⟩
    · cases h
    · unfold maxLen at hcap; omega
  clear ho nd
  skip
  go_enter Try.func30, Try.ntmps30
  go_wp2
  go_loopw [1, 5] (fun a i wr => ∃ j : Nat, j ≤ xs.length ∧ i = .int .i64 j ∧ ∃ q : Int, a = .int .i64 q ∧ 0 ≤ q ∧ q ≤ 4611686018427387904 ∧ Hid (q = k + (JRow.cnts (xs.take j) : Nat)) ∧ Hid (Own wr (.sl 3 xs.length ((JRow.mks (xs.take j) k).flatMap JRow.enc ++ (xs.drop j).flatMap JRow.enc)) (.slice (some ⟨g, 0, none⟩) xs.length cap) fp) ∧ Hid (Touch w wr fp)) (fun _ i _ => xs.length - (intOf i).toNat)
  case atStart => exact ⟨0, Nat.zero_le _, rfl, k, rfl, h0, by omega, by simp [JRow.cnts, Hid], by simpa [JRow.mks, slD, Hid] using HO.out, Touch.refl _ _⟩
  case round =>
    obtain ⟨j, hj, rfl, q, rfl, hq0, hq1, HQ, HR, HT⟩ := hrel
    by_cases hlt : j < xs.length
    · obtain ⟨A, hA⟩ : ∃ A, A = (JRow.mks (xs.take j) k).flatMap JRow.enc := ⟨_, rfl⟩
      obtain ⟨C, hC⟩ : ∃ C, C = (xs.drop (j + 1)).flatMap JRow.enc := ⟨_, rfl⟩
      have hAl : A.length = j * 3 := by rw [hA, flat_length JRow.enc_len, JRow.mks_len, List.length_take]; congr 1; omega
      have o0 : Own wr (.sl 3 xs.length (A ++ ([.str xs[j].typ, .int .i64 xs[j].id, slD JCell.enc 6 xs[j].cells] ++ C))) (.slice (some ⟨g, 0, none⟩) xs.length cap) fp := by
        have := HR.out
        rw [List.drop_eq_getElem_cons hlt, List.flatMap_cons, ← hA, ← hC, JRow.enc_eq] at this
        exact this
      have hct : q + (JRow.cnt xs[j] : Nat) ≤ 4611686018427387904 := by
        have h2 := JRow.cnts_take xs j hlt
        have h3 := JRow.cnts_le xs (j + 1)
        have h4 := HQ.out
        omega
      rw [JRow.cnt_eq] at hct
      have W0 := Lib.hid hct
      have HAL := Lib.hid hAl
      have HA := Lib.hid hA
      have HC := Lib.hid hC
      have O0 := Lib.hid o0
      have T0 := HT
      clear o0 hA hC hAl
      push_cast at hct
      go_wp2_with fail
      refine (markText_c _ _ (by have := W0.out; omega)).mono ?_
      rintro e w1 ⟨rfl, hb1⟩
      replace O0 := Lib.hid (O0.out.keep hb1)
      replace T0 := Lib.hid (T0.out.trans (Touch.below (fp := fp) hb1))
      obtain ⟨y0, f0, qc0, qf0, od0, _, _, hgm0, hgl0, _, hset0⟩ := Own.sub O0.out ND.out (j * 3 + 0) (.str xs[j].typ) ((get_at (L := [.str xs[j].typ, .int .i64 xs[j].id, slD JCell.enc 6 xs[j].cells]) HAL.out (j := 0) (by show 0 < 3; decide)).trans rfl)
      replace qc0 : (w1).cell? ⟨g, j * 3, none⟩ = some y0 := qc0
      replace qf0 : (w1).frozen? ⟨g, j * 3, none⟩ = false := qf0
      replace O0 : Hid (Own ((w1).setCell ⟨g, j * 3, none⟩ (.string (mkT (q)))) (.sl 3 xs.length (A ++ ([.str (mkT (q)), .int .i64 xs[j].id, slD JCell.enc 6 xs[j].cells] ++ C))) (.slice (some ⟨g, 0, none⟩) xs.length cap) fp) := by
        have := hset0 (Own.flat od0 trivial) (.str (mkT (q))) (.string (mkT (q))) (fun w_ => by simp only [Own, true_and, and_true]; exact mkT_size _ (by have := W0.out; omega))
        rw [set_at (L := [.str xs[j].typ, .int .i64 xs[j].id, slD JCell.enc 6 xs[j].cells]) HAL.out (by show 0 < 3; decide)] at this
        exact this
      replace T0 : Hid (Touch w ((w1).setCell ⟨g, j * 3, none⟩ (.string (mkT (q)))) fp) := T0.out.trans (Touch.set hgm0 _)
      clear hset0 od0
      obtain ⟨y1, f1, qc1, qf1, od1, _, _, hgm1, hgl1, _, hset1⟩ := Own.sub O0.out ND.out (j * 3 + 1) (.int .i64 xs[j].id) ((get_at (L := [.str (mkT (q)), .int .i64 xs[j].id, slD JCell.enc 6 xs[j].cells]) HAL.out (j := 1) (by show 1 < 3; decide)).trans rfl)
      replace O0 : Hid (Own ((((w1).setCell ⟨g, j * 3, none⟩ (.string (mkT (q))))).setCell ⟨g, j * 3 + 1, none⟩ (.int .i64 (q + 1))) (.sl 3 xs.length (A ++ ([.str (mkT (q)), .int .i64 (q + 1), slD JCell.enc 6 xs[j].cells] ++ C))) (.slice (some ⟨g, 0, none⟩) xs.length cap) fp) := by
        have := hset1 (Own.flat od1 trivial) (.int .i64 (q + 1)) (.int .i64 (q + 1)) (fun w_ => by simp only [Own, and_self])
        rw [set_at (L := [.str (mkT (q)), .int .i64 xs[j].id, slD JCell.enc 6 xs[j].cells]) HAL.out (by show 1 < 3; decide)] at this
        exact this
      replace T0 : Hid (Touch w ((((w1).setCell ⟨g, j * 3, none⟩ (.string (mkT (q))))).setCell ⟨g, j * 3 + 1, none⟩ (.int .i64 (q + 1))) fp) := T0.out.trans (Touch.set hgm1 _)
      clear hset1 od1
      obtain ⟨y2, f2, qc2, qf2, od2, nd2, hsub2, hgm2, hgl2, hput2, _⟩ := Own.sub O0.out ND.out (j * 3 + 2) (slD JCell.enc 6 xs[j].cells) ((get_at (L := [.str (mkT (q)), .int .i64 (q + 1), slD JCell.enc 6 xs[j].cells]) HAL.out (j := 2) (by show 2 < 3; decide)).trans rfl)
      obtain ⟨B2, b2, rfl⟩ := Own.slD od2
      have OD2 := Lib.hid od2
      have ND2 := Lib.hid nd2
      have HS2 := Lib.hid hsub2
      have HP2 := Lib.hid hput2
      clear od2 nd2 hsub2 hput2
      go_wp2_with fail
      refine (mkCellS_c _ _ _ _ _ OD2.out ND2.out (by omega) (by have := W0.out; omega)).mono ?_
      rintro e w2 ⟨rfl, o2, t2⟩
      replace O0 : Hid (Own w2 (.sl 3 xs.length (A ++ ([.str (mkT (q)), .int .i64 (q + 1), slD JCell.enc 6 (JCell.mks xs[j].cells (q + 1 + 1))] ++ C))) (.slice (some ⟨g, 0, none⟩) xs.length cap) fp) := by
        have := HP2.out w2 _ t2 o2
        rw [set_at (L := [.str (mkT (q)), .int .i64 (q + 1), slD JCell.enc 6 xs[j].cells]) HAL.out (by show 2 < 3; decide)] at this
        exact this
      replace T0 : Hid (Touch w w2 fp) := T0.out.trans (t2.mono HS2.out)
      clear o2 t2 HP2 OD2 ND2 HS2
      go_wp2
      go_roundw
      case rel =>
        refine ⟨j + 1, by omega, by go_num, _, rfl, by omega, by have := W0.out; omega, ?_, ?_, T0.out⟩
        · have h1 := HQ.out
          have h2 := JRow.cnts_take xs j hlt
          have h3 := JRow.cnt_eq xs[j]
          unfold Hid
          omega
        · have := O0.out
          rw [HA.out, HC.out] at this
          unfold Hid
          rw [JRow.mks_take _ _ _ hlt, ← HQ.out, List.flatMap_append, List.flatMap_singleton, List.append_assoc, JRow.enc_eq, JRow.mk_eq]
          exact this
      case measure => simp [intOf]; omega
    · go_wp2
      go_ret
      have e : j = xs.length := by omega
      exact Marked.int (by have := HQ.out; rw [e, List.take_length] at this; exact this) (by have := HR.out; rw [e, List.take_length, List.drop_length, List.flatMap_nil, List.append_nil] at this; unfold slD; rw [JRow.mks_len]; exact this) HT.out
theorem mkRowS_c (xs : List JRow) : MkRowS xs := mkRowS_of xs

def MkSelS (xs : List JSel) : Prop := ∀ (v : Value) (fp : List Nat) (k : Int) (w : World), Own w (slD JSel.enc 5 xs) v fp → fp.Nodup → 0 ≤ k → k + (JSel.cnts xs : Nat) ≤ 4611686018427387904 →
    Calls Try.prog 51 #[v, .int .i64 k] w (Marked w (slD JSel.enc 5 (JSel.mks xs k)) v fp (k + (JSel.cnts xs : Nat)))
set_option maxHeartbeats 6400000 in
set_option maxRecDepth 100000 in
theorem mkSelS_of (xs : List JSel) (hK : ∀ x, x ∈ xs → MkSelS x.kids) : MkSelS xs := by
  intro v fp k w ho nd h0 h1
  rcases Own.head ho with ⟨hn, A, c, rfl⟩ | ⟨g, cap, rfl⟩
  · obtain rfl : xs = [] := List.eq_nil_of_length_eq_zero hn
    have HO := Lib.hid ho
    clear ho nd
    go_enter Try.func51, Try.ntmps51
    go_wp2
    go_loop [1, 5] (fun a i => i = .int .i64 0 ∧ a = .int .i64 k) (fun _ _ => 0)
    case atStart => exact ⟨rfl, rfl⟩
    case round =>
      obtain ⟨rfl, rfl⟩ := hrel
      go_wp2
      go_ret
      exact Marked.int (by simp [JSel.cnts]) (by simpa [JSel.mks] using HO.out) (Touch.refl _ _)
  have HO := Lib.hid ho
  have ND := Lib.hid nd
  have hm : xs.length ≤ 9223372036854775807 := by
    simp only [slD, Own] at ho
    rcases ho.2 with ⟨h, _⟩ | ⟨g', cap', cur, e, fs, hv, hb, hn, hcap, hsz, _⟩
    · cases h
    · unfold maxLen at hcap; omega
  clear ho nd
  have HK := Lib.hid hK
  clear hK
  go_enter Try.func51, Try.ntmps51
  go_wp2
  go_loopw [1, 5] (fun a i wr => ∃ j : Nat, j ≤ xs.length ∧ i = .int .i64 j ∧ ∃ q : Int, a = .int .i64 q ∧ 0 ≤ q ∧ q ≤ 4611686018427387904 ∧ Hid (q = k + (JSel.cnts (xs.take j) : Nat)) ∧ Hid (Own wr (.sl 5 xs.length ((JSel.mks (xs.take j) k).flatMap JSel.enc ++ (xs.drop j).flatMap JSel.enc)) (.slice (some ⟨g, 0, none⟩) xs.length cap) fp) ∧ Hid (Touch w wr fp)) (fun _ i _ => xs.length - (intOf i).toNat)
  case atStart => exact ⟨0, Nat.zero_le _, rfl, k, rfl, h0, by omega, by simp [JSel.cnts, Hid], by simpa [JSel.mks, slD, Hid] using HO.out, Touch.refl _ _⟩
  case round =>
    obtain ⟨j, hj, rfl, q, rfl, hq0, hq1, HQ, HR, HT⟩ := hrel
    by_cases hlt : j < xs.length
    · obtain ⟨A, hA⟩ : ∃ A, A = (JSel.mks (xs.take j) k).flatMap JSel.enc := ⟨_, rfl⟩
      obtain ⟨C, hC⟩ : ∃ C, C = (xs.drop (j + 1)).flatMap JSel.enc := ⟨_, rfl⟩
      have hAl : A.length = j * 5 := by rw [hA, flat_length JSel.enc_len, JSel.mks_len, List.length_take]; congr 1; omega
      have o0 : Own wr (.sl 5 xs.length (A ++ ([.str xs[j].as_, .str xs[j].name, .bool xs[j].one, .int .i64 xs[j].id, slD JSel.enc 5 xs[j].kids] ++ C))) (.slice (some ⟨g, 0, none⟩) xs.length cap) fp := by
        have := HR.out
        rw [List.drop_eq_getElem_cons hlt, List.flatMap_cons, ← hA, ← hC, JSel.enc_eq] at this
        exact this
      have hct : q + (JSel.cnt xs[j] : Nat) ≤ 4611686018427387904 := by
        have h2 := JSel.cnts_take xs j hlt
        have h3 := JSel.cnts_le xs (j + 1)
        have h4 := HQ.out
        omega
      rw [JSel.cnt_eq] at hct
      have W0 := Lib.hid hct
      have HAL := Lib.hid hAl
      have HA := Lib.hid hA
      have HC := Lib.hid hC
      have O0 := Lib.hid o0
      have T0 := HT
      clear o0 hA hC hAl
      push_cast at hct
      go_wp2_with fail
      refine (markText_c _ _ (by have := W0.out; omega)).mono ?_
      rintro e w1 ⟨rfl, hb1⟩
      replace O0 := Lib.hid (O0.out.keep hb1)
      replace T0 := Lib.hid (T0.out.trans (Touch.below (fp := fp) hb1))
      obtain ⟨y0, f0, qc0, qf0, od0, _, _, hgm0, hgl0, _, hset0⟩ := Own.sub O0.out ND.out (j * 5 + 0) (.str xs[j].as_) ((get_at (L := [.str xs[j].as_, .str xs[j].name, .bool xs[j].one, .int .i64 xs[j].id, slD JSel.enc 5 xs[j].kids]) HAL.out (j := 0) (by show 0 < 5; decide)).trans rfl)
      replace qc0 : (w1).cell? ⟨g, j * 5, none⟩ = some y0 := qc0
      replace qf0 : (w1).frozen? ⟨g, j * 5, none⟩ = false := qf0
      replace O0 : Hid (Own ((w1).setCell ⟨g, j * 5, none⟩ (.string (mkT (q)))) (.sl 5 xs.length (A ++ ([.str (mkT (q)), .str xs[j].name, .bool xs[j].one, .int .i64 xs[j].id, slD JSel.enc 5 xs[j].kids] ++ C))) (.slice (some ⟨g, 0, none⟩) xs.length cap) fp) := by
        have := hset0 (Own.flat od0 trivial) (.str (mkT (q))) (.string (mkT (q))) (fun w_ => by simp only [Own, true_and, and_true]; exact mkT_size _ (by have := W0.out; omega))
        rw [set_at (L := [.str xs[j].as_, .str xs[j].name, .bool xs[j].one, .int .i64 xs[j].id, slD JSel.enc 5 xs[j].kids]) HAL.out (by show 0 < 5; decide)] at this
        exact this
      replace T0 : Hid (Touch w ((w1).setCell ⟨g, j * 5, none⟩ (.string (mkT (q)))) fp) := T0.out.trans (Touch.set hgm0 _)
      clear hset0 od0
      go_wp2_with fail
      refine (markText_c _ _ (by have := W0.out; omega)).mono ?_
      rintro e w2 ⟨rfl, hb2⟩
      replace O0 := Lib.hid (O0.out.keep hb2)
      replace T0 := Lib.hid (T0.out.trans (Touch.below (fp := fp) hb2))
      obtain ⟨y1, f1, qc1, qf1, od1, _, _, hgm1, hgl1, _, hset1⟩ := Own.sub O0.out ND.out (j * 5 + 1) (.str xs[j].name) ((get_at (L := [.str (mkT (q)), .str xs[j].name, .bool xs[j].one, .int .i64 xs[j].id, slD JSel.enc 5 xs[j].kids]) HAL.out (j := 1) (by show 1 < 5; decide)).trans rfl)
      replace O0 : Hid (Own ((w2).setCell ⟨g, j * 5 + 1, none⟩ (.string (mkT (q + 1)))) (.sl 5 xs.length (A ++ ([.str (mkT (q)), .str (mkT (q + 1)), .bool xs[j].one, .int .i64 xs[j].id, slD JSel.enc 5 xs[j].kids] ++ C))) (.slice (some ⟨g, 0, none⟩) xs.length cap) fp) := by
        have := hset1 (Own.flat od1 trivial) (.str (mkT (q + 1))) (.string (mkT (q + 1))) (fun w_ => by simp only [Own, true_and, and_true]; exact mkT_size _ (by have := W0.out; omega))
        rw [set_at (L := [.str (mkT (q)), .str xs[j].name, .bool xs[j].one, .int .i64 xs[j].id, slD JSel.enc 5 xs[j].kids]) HAL.out (by show 1 < 5; decide)] at this
        exact this
      replace T0 : Hid (Touch w ((w2).setCell ⟨g, j * 5 + 1, none⟩ (.string (mkT (q + 1)))) fp) := T0.out.trans (Touch.set hgm1 _)
      clear hset1 od1
      obtain ⟨y2, f2, qc2, qf2, od2, _, _, hgm2, hgl2, _, hset2⟩ := Own.sub O0.out ND.out (j * 5 + 2) (.bool xs[j].one) ((get_at (L := [.str (mkT (q)), .str (mkT (q + 1)), .bool xs[j].one, .int .i64 xs[j].id, slD JSel.enc 5 xs[j].kids]) HAL.out (j := 2) (by show 2 < 5; decide)).trans rfl)
      replace O0 : Hid (Own ((((w2).setCell ⟨g, j * 5 + 1, none⟩ (.string (mkT (q + 1))))).setCell ⟨g, j * 5 + 2, none⟩ (.bool ((q + 1 + 1) % 3 == 0))) (.sl 5 xs.length (A ++ ([.str (mkT (q)), .str (mkT (q + 1)), .bool ((q + 1 + 1) % 3 == 0), .int .i64 xs[j].id, slD JSel.enc 5 xs[j].kids] ++ C))) (.slice (some ⟨g, 0, none⟩) xs.length cap) fp) := by
        have := hset2 (Own.flat od2 trivial) (.bool ((q + 1 + 1) % 3 == 0)) (.bool ((q + 1 + 1) % 3 == 0)) (fun w_ => by simp only [Own, and_self])
        rw [set_at (L := [.str (mkT (q)), .str (mkT (q + 1)), .bool xs[j].one, .int .i64 xs[j].id, slD JSel.enc 5 xs[j].kids]) HAL.out (by show 2 < 5; decide)] at this
        exact this
      replace T0 : Hid (Touch w ((((w2).setCell ⟨g, j * 5 + 1, none⟩ (.string (mkT (q + 1))))).setCell ⟨g, j * 5 + 2, none⟩ (.bool ((q + 1 + 1) % 3 == 0))) fp) := T0.out.trans (Touch.set hgm2 _)
      clear hset2 od2
      obtain ⟨y3, f3, qc3, qf3, od3, _, _, hgm3, hgl3, _, hset3⟩ := Own.sub O0.out ND.out (j * 5 + 3) (.int .i64 xs[j].id) ((get_at (L := [.str (mkT (q)), .str (mkT (q + 1)), .bool ((q + 1 + 1) % 3 == 0), .int .i64 xs[j].id, slD JSel.enc 5 xs[j].kids]) HAL.out (j := 3) (by show 3 < 5; decide)).trans rfl)
      replace O0 : Hid (Own ((((((w2).setCell ⟨g, j * 5 + 1, none⟩ (.string (mkT (q + 1))))).setCell ⟨g, j * 5 + 2, none⟩ (.bool ((q + 1 + 1) % 3 == 0)))).setCell ⟨g, j * 5 + 3, none⟩ (.int .i64 (q + 1 + 1 + 1))) (.sl 5 xs.length (A ++ ([.str (mkT (q)), .str (mkT (q + 1)), .bool ((q + 1 + 1) % 3 == 0), .int .i64 (q + 1 + 1 + 1), slD JSel.enc 5 xs[j].kids] ++ C))) (.slice (some ⟨g, 0, none⟩) xs.length cap) fp) := by
        have := hset3 (Own.flat od3 trivial) (.int .i64 (q + 1 + 1 + 1)) (.int .i64 (q + 1 + 1 + 1)) (fun w_ => by simp only [Own, and_self])
        rw [set_at (L := [.str (mkT (q)), .str (mkT (q + 1)), .bool ((q + 1 + 1) % 3 == 0), .int .i64 xs[j].id, slD JSel.enc 5 xs[j].kids]) HAL.out (by show 3 < 5; decide)] at this
        exact this
      replace T0 : Hid (Touch w ((((((w2).setCell ⟨g, j * 5 + 1, none⟩ (.string (mkT (q + 1))))).setCell ⟨g, j * 5 + 2, none⟩ (.bool ((q + 1 + 1) % 3 == 0)))).setCell ⟨g, j * 5 + 3, none⟩ (.int .i64 (q + 1 + 1 + 1))) fp) := T0.out.trans (Touch.set hgm3 _)
      clear hset3 od3
      obtain ⟨y4, f4, qc4, qf4, od4, nd4, hsub4, hgm4, hgl4, hput4, _⟩ := Own.sub O0.out ND.out (j * 5 + 4) (slD JSel.enc 5 xs[j].kids) ((get_at (L := [.str (mkT (q)), .str (mkT (q + 1)), .bool ((q + 1 + 1) % 3 == 0), .int .i64 (q + 1 + 1 + 1), slD JSel.enc 5 xs[j].kids]) HAL.out (j := 4) (by show 4 < 5; decide)).trans rfl)
      obtain ⟨B4, b4, rfl⟩ := Own.slD od4
      have OD4 := Lib.hid od4
      have ND4 := Lib.hid nd4
      have HS4 := Lib.hid hsub4
      have HP4 := Lib.hid hput4
      clear od4 nd4 hsub4 hput4
      go_wp2_with fail
      refine (HK.out xs[j] (List.getElem_mem hlt) _ _ _ _ OD4.out ND4.out (by omega) (by have := W0.out; omega)).mono ?_
      rintro e w3 ⟨rfl, o4, t4⟩
      replace O0 : Hid (Own w3 (.sl 5 xs.length (A ++ ([.str (mkT (q)), .str (mkT (q + 1)), .bool ((q + 1 + 1) % 3 == 0), .int .i64 (q + 1 + 1 + 1), slD JSel.enc 5 (JSel.mks xs[j].kids (q + 1 + 1 + 1 + 1))] ++ C))) (.slice (some ⟨g, 0, none⟩) xs.length cap) fp) := by
        have := HP4.out w3 _ t4 o4
        rw [set_at (L := [.str (mkT (q)), .str (mkT (q + 1)), .bool ((q + 1 + 1) % 3 == 0), .int .i64 (q + 1 + 1 + 1), slD JSel.enc 5 xs[j].kids]) HAL.out (by show 4 < 5; decide)] at this
        exact this
      replace T0 : Hid (Touch w w3 fp) := T0.out.trans (t4.mono HS4.out)
      clear o4 t4 HP4 OD4 ND4 HS4
      go_wp2
      go_roundw
      case rel =>
        refine ⟨j + 1, by omega, by go_num, _, rfl, by omega, by have := W0.out; omega, ?_, ?_, T0.out⟩
        · have h1 := HQ.out
          have h2 := JSel.cnts_take xs j hlt
          have h3 := JSel.cnt_eq xs[j]
          unfold Hid
          omega
        · have := O0.out
          rw [HA.out, HC.out] at this
          unfold Hid
          rw [JSel.mks_take _ _ _ hlt, ← HQ.out, List.flatMap_append, List.flatMap_singleton, List.append_assoc, JSel.enc_eq, JSel.mk_eq]
          exact this
      case measure => simp [intOf]; omega
    · go_wp2
      go_ret
      have e : j = xs.length := by omega
      exact Marked.int (by have := HQ.out; rw [e, List.take_length] at this; exact this) (by have := HR.out; rw [e, List.take_length, List.drop_length, List.flatMap_nil, List.append_nil] at this; unfold slD; rw [JSel.mks_len]; exact this) HT.out
theorem mkSelS_all : ∀ m, ∀ xs : List JSel, SizeOf.sizeOf xs < m → MkSelS xs
  | 0 => fun _ h => absurd h (by omega)
  | m + 1 => fun xs h => mkSelS_of xs (fun x hx => mkSelS_all m _ (by have := List.sizeOf_lt_of_mem hx; have := JSel.kids_lt x; omega))
theorem mkSelS_c (xs : List JSel) : MkSelS xs := mkSelS_all _ xs (Nat.lt_succ_self _)

def MkStepS (xs : List JStep) : Prop := ∀ (v : Value) (fp : List Nat) (k : Int) (w : World), Own w (slD JStep.enc 6 xs) v fp → fp.Nodup → 0 ≤ k → k + (JStep.cnts xs : Nat) ≤ 4611686018427387904 →
    Calls Try.prog 22 #[v, .int .i64 k] w (Marked w (slD JStep.enc 6 (JStep.mks xs k)) v fp (k + (JStep.cnts xs : Nat)))
set_option maxHeartbeats 6400000 in
set_option maxRecDepth 100000 in
theorem mkStepS_of (xs : List JStep) : MkStepS xs := by
  intro v fp k w ho nd h0 h1
  rcases Own.head ho with ⟨hn, A, c, rfl⟩ | ⟨g, cap, rfl⟩
  · obtain rfl : xs = [] := List.eq_nil_of_length_eq_zero hn
    have HO := Lib.hid ho
    clear ho nd
    go_enter Try.func22, Try.ntmps22
    go_wp2
    go_loop [1, 5] (fun a i => i = .int .i64 0 ∧ a = .int .i64 k) (fun _ _ => 0)
    case atStart => exact ⟨rfl, rfl⟩
    case round =>
      obtain ⟨rfl, rfl⟩ := hrel
      go_wp2
      go_ret
      exact Marked.int (by simp [JStep.cnts]) (by simpa [JStep.mks] using HO.out) (Touch.refl _ _)
  have HO := Lib.hid ho
  have ND := Lib.hid nd
  have hm : xs.length ≤ 9223372036854775807 := by
    simp only [slD, Own] at ho
    rcases ho.2 with ⟨h, _⟩ | ⟨g', cap', cur, e, fs, hv, hb, hn, hcap, hsz, _⟩
    · cases h
    · unfold maxLen at hcap; omega
  clear ho nd
  skip
  go_enter Try.func22, Try.ntmps22
  go_wp2
  go_loopw [1, 5] (fun a i wr => ∃ j : Nat, j ≤ xs.length ∧ i = .int .i64 j ∧ ∃ q : Int, a = .int .i64 q ∧ 0 ≤ q ∧ q ≤ 4611686018427387904 ∧ Hid (q = k + (JStep.cnts (xs.take j) : Nat)) ∧ Hid (Own wr (.sl 6 xs.length ((JStep.mks (xs.take j) k).flatMap JStep.enc ++ (xs.drop j).flatMap JStep.enc)) (.slice (some ⟨g, 0, none⟩) xs.length cap) fp) ∧ Hid (Touch w wr fp)) (fun _ i _ => xs.length - (intOf i).toNat)
  case atStart => exact ⟨0, Nat.zero_le _, rfl, k, rfl, h0, by omega, by simp [JStep.cnts, Hid], by simpa [JStep.mks, slD, Hid] using HO.out, Touch.refl _ _⟩
  case round =>
    obtain ⟨j, hj, rfl, q, rfl, hq0, hq1, HQ, HR, HT⟩ := hrel
    by_cases hlt : j < xs.length
    · obtain ⟨A, hA⟩ : ∃ A, A = (JStep.mks (xs.take j) k).flatMap JStep.enc := ⟨_, rfl⟩
      obtain ⟨C, hC⟩ : ∃ C, C = (xs.drop (j + 1)).flatMap JStep.enc := ⟨_, rfl⟩
      have hAl : A.length = j * 6 := by rw [hA, flat_length JStep.enc_len, JStep.mks_len, List.length_take]; congr 1; omega
      have o0 : Own wr (.sl 6 xs.length (A ++ ([.int .i64 xs[j].part, slD strD 1 xs[j].way, .str xs[j].typ, slD JSel.enc 5 xs[j].sels, slD intD 1 xs[j].after_, slD strD 1 xs[j].brings] ++ C))) (.slice (some ⟨g, 0, none⟩) xs.length cap) fp := by
        have := HR.out
        rw [List.drop_eq_getElem_cons hlt, List.flatMap_cons, ← hA, ← hC, JStep.enc_eq] at this
        exact this
      have hct : q + (JStep.cnt xs[j] : Nat) ≤ 4611686018427387904 := by
        have h2 := JStep.cnts_take xs j hlt
        have h3 := JStep.cnts_le xs (j + 1)
        have h4 := HQ.out
        omega
      rw [JStep.cnt_eq] at hct
      have W0 := Lib.hid hct
      have HAL := Lib.hid hAl
      have HA := Lib.hid hA
      have HC := Lib.hid hC
      have O0 := Lib.hid o0
      have T0 := HT
      clear o0 hA hC hAl
      push_cast at hct
      obtain ⟨y0, f0, qc0, qf0, od0, _, _, hgm0, hgl0, _, hset0⟩ := Own.sub O0.out ND.out (j * 6 + 0) (.int .i64 xs[j].part) ((get_at (L := [.int .i64 xs[j].part, slD strD 1 xs[j].way, .str xs[j].typ, slD JSel.enc 5 xs[j].sels, slD intD 1 xs[j].after_, slD strD 1 xs[j].brings]) HAL.out (j := 0) (by show 0 < 6; decide)).trans rfl)
      replace qc0 : (wr).cell? ⟨g, j * 6, none⟩ = some y0 := qc0
      replace qf0 : (wr).frozen? ⟨g, j * 6, none⟩ = false := qf0
      replace O0 : Hid (Own ((wr).setCell ⟨g, j * 6, none⟩ (.int .i64 (q))) (.sl 6 xs.length (A ++ ([.int .i64 (q), slD strD 1 xs[j].way, .str xs[j].typ, slD JSel.enc 5 xs[j].sels, slD intD 1 xs[j].after_, slD strD 1 xs[j].brings] ++ C))) (.slice (some ⟨g, 0, none⟩) xs.length cap) fp) := by
        have := hset0 (Own.flat od0 trivial) (.int .i64 (q)) (.int .i64 (q)) (fun w_ => by simp only [Own, and_self])
        rw [set_at (L := [.int .i64 xs[j].part, slD strD 1 xs[j].way, .str xs[j].typ, slD JSel.enc 5 xs[j].sels, slD intD 1 xs[j].after_, slD strD 1 xs[j].brings]) HAL.out (by show 0 < 6; decide)] at this
        exact this
      replace T0 : Hid (Touch w ((wr).setCell ⟨g, j * 6, none⟩ (.int .i64 (q))) fp) := T0.out.trans (Touch.set hgm0 _)
      clear hset0 od0
      obtain ⟨y1, f1, qc1, qf1, od1, nd1, hsub1, hgm1, hgl1, hput1, _⟩ := Own.sub O0.out ND.out (j * 6 + 1) (slD strD 1 xs[j].way) ((get_at (L := [.int .i64 (q), slD strD 1 xs[j].way, .str xs[j].typ, slD JSel.enc 5 xs[j].sels, slD intD 1 xs[j].after_, slD strD 1 xs[j].brings]) HAL.out (j := 1) (by show 1 < 6; decide)).trans rfl)
      obtain ⟨B1, b1, rfl⟩ := Own.slD od1
      have OD1 := Lib.hid od1
      have ND1 := Lib.hid nd1
      have HS1 := Lib.hid hsub1
      have HP1 := Lib.hid hput1
      clear od1 nd1 hsub1 hput1
      go_wp2_with fail
      refine (mkStringS_c _ _ _ _ _ OD1.out ND1.out (by omega) (by have := W0.out; omega)).mono ?_
      rintro e w1 ⟨rfl, o1, t1⟩
      replace O0 : Hid (Own w1 (.sl 6 xs.length (A ++ ([.int .i64 (q), slD strD 1 (mkTs xs[j].way (q + 1)), .str xs[j].typ, slD JSel.enc 5 xs[j].sels, slD intD 1 xs[j].after_, slD strD 1 xs[j].brings] ++ C))) (.slice (some ⟨g, 0, none⟩) xs.length cap) fp) := by
        have := HP1.out w1 _ t1 o1
        rw [set_at (L := [.int .i64 (q), slD strD 1 xs[j].way, .str xs[j].typ, slD JSel.enc 5 xs[j].sels, slD intD 1 xs[j].after_, slD strD 1 xs[j].brings]) HAL.out (by show 1 < 6; decide)] at this
        exact this
      replace T0 : Hid (Touch w w1 fp) := T0.out.trans (t1.mono HS1.out)
      clear o1 t1 HP1 OD1 ND1 HS1
      go_wp2_with fail
      refine (markText_c _ _ (by have := W0.out; omega)).mono ?_
      rintro e w2 ⟨rfl, hb2⟩
      replace O0 := Lib.hid (O0.out.keep hb2)
      replace T0 := Lib.hid (T0.out.trans (Touch.below (fp := fp) hb2))
      obtain ⟨y2, f2, qc2, qf2, od2, _, _, hgm2, hgl2, _, hset2⟩ := Own.sub O0.out ND.out (j * 6 + 2) (.str xs[j].typ) ((get_at (L := [.int .i64 (q), slD strD 1 (mkTs xs[j].way (q + 1)), .str xs[j].typ, slD JSel.enc 5 xs[j].sels, slD intD 1 xs[j].after_, slD strD 1 xs[j].brings]) HAL.out (j := 2) (by show 2 < 6; decide)).trans rfl)
      replace O0 : Hid (Own ((w2).setCell ⟨g, j * 6 + 2, none⟩ (.string (mkT (q + 1 + (xs[j].way.length : Int))))) (.sl 6 xs.length (A ++ ([.int .i64 (q), slD strD 1 (mkTs xs[j].way (q + 1)), .str (mkT (q + 1 + (xs[j].way.length : Int))), slD JSel.enc 5 xs[j].sels, slD intD 1 xs[j].after_, slD strD 1 xs[j].brings] ++ C))) (.slice (some ⟨g, 0, none⟩) xs.length cap) fp) := by
        have := hset2 (Own.flat od2 trivial) (.str (mkT (q + 1 + (xs[j].way.length : Int)))) (.string (mkT (q + 1 + (xs[j].way.length : Int)))) (fun w_ => by simp only [Own, true_and, and_true]; exact mkT_size _ (by have := W0.out; omega))
        rw [set_at (L := [.int .i64 (q), slD strD 1 (mkTs xs[j].way (q + 1)), .str xs[j].typ, slD JSel.enc 5 xs[j].sels, slD intD 1 xs[j].after_, slD strD 1 xs[j].brings]) HAL.out (by show 2 < 6; decide)] at this
        exact this
      replace T0 : Hid (Touch w ((w2).setCell ⟨g, j * 6 + 2, none⟩ (.string (mkT (q + 1 + (xs[j].way.length : Int))))) fp) := T0.out.trans (Touch.set hgm2 _)
      clear hset2 od2
      obtain ⟨y3, f3, qc3, qf3, od3, nd3, hsub3, hgm3, hgl3, hput3, _⟩ := Own.sub O0.out ND.out (j * 6 + 3) (slD JSel.enc 5 xs[j].sels) ((get_at (L := [.int .i64 (q), slD strD 1 (mkTs xs[j].way (q + 1)), .str (mkT (q + 1 + (xs[j].way.length : Int))), slD JSel.enc 5 xs[j].sels, slD intD 1 xs[j].after_, slD strD 1 xs[j].brings]) HAL.out (j := 3) (by show 3 < 6; decide)).trans rfl)
      obtain ⟨B3, b3, rfl⟩ := Own.slD od3
      have OD3 := Lib.hid od3
      have ND3 := Lib.hid nd3
      have HS3 := Lib.hid hsub3
      have HP3 := Lib.hid hput3
      clear od3 nd3 hsub3 hput3
      go_wp2_with fail
      refine (mkSelS_c _ _ _ _ _ OD3.out ND3.out (by omega) (by have := W0.out; omega)).mono ?_
      rintro e w3 ⟨rfl, o3, t3⟩
      replace O0 : Hid (Own w3 (.sl 6 xs.length (A ++ ([.int .i64 (q), slD strD 1 (mkTs xs[j].way (q + 1)), .str (mkT (q + 1 + (xs[j].way.length : Int))), slD JSel.enc 5 (JSel.mks xs[j].sels (q + 1 + (xs[j].way.length : Int) + 1)), slD intD 1 xs[j].after_, slD strD 1 xs[j].brings] ++ C))) (.slice (some ⟨g, 0, none⟩) xs.length cap) fp) := by
        have := HP3.out w3 _ t3 o3
        rw [set_at (L := [.int .i64 (q), slD strD 1 (mkTs xs[j].way (q + 1)), .str (mkT (q + 1 + (xs[j].way.length : Int))), slD JSel.enc 5 xs[j].sels, slD intD 1 xs[j].after_, slD strD 1 xs[j].brings]) HAL.out (by show 3 < 6; decide)] at this
        exact this
      replace T0 : Hid (Touch w w3 fp) := T0.out.trans (t3.mono HS3.out)
      clear o3 t3 HP3 OD3 ND3 HS3
      obtain ⟨y4, f4, qc4, qf4, od4, nd4, hsub4, hgm4, hgl4, hput4, _⟩ := Own.sub O0.out ND.out (j * 6 + 4) (slD intD 1 xs[j].after_) ((get_at (L := [.int .i64 (q), slD strD 1 (mkTs xs[j].way (q + 1)), .str (mkT (q + 1 + (xs[j].way.length : Int))), slD JSel.enc 5 (JSel.mks xs[j].sels (q + 1 + (xs[j].way.length : Int) + 1)), slD intD 1 xs[j].after_, slD strD 1 xs[j].brings]) HAL.out (j := 4) (by show 4 < 6; decide)).trans rfl)
      obtain ⟨B4, b4, rfl⟩ := Own.slD od4
      have OD4 := Lib.hid od4
      have ND4 := Lib.hid nd4
      have HS4 := Lib.hid hsub4
      have HP4 := Lib.hid hput4
      clear od4 nd4 hsub4 hput4
      go_wp2_with fail
      refine (mkIntS_c _ _ _ _ _ OD4.out ND4.out (by omega) (by have := W0.out; omega)).mono ?_
      rintro e w4 ⟨rfl, o4, t4⟩
      replace O0 : Hid (Own w4 (.sl 6 xs.length (A ++ ([.int .i64 (q), slD strD 1 (mkTs xs[j].way (q + 1)), .str (mkT (q + 1 + (xs[j].way.length : Int))), slD JSel.enc 5 (JSel.mks xs[j].sels (q + 1 + (xs[j].way.length : Int) + 1)), slD intD 1 (mkIs xs[j].after_ (q + 1 + (xs[j].way.length : Int) + 1 + ((JSel.cnts xs[j].sels : Nat) : Int))), slD strD 1 xs[j].brings] ++ C))) (.slice (some ⟨g, 0, none⟩) xs.length cap) fp) := by
        have := HP4.out w4 _ t4 o4
        rw [set_at (L := [.int .i64 (q), slD strD 1 (mkTs xs[j].way (q + 1)), .str (mkT (q + 1 + (xs[j].way.length : Int))), slD JSel.enc 5 (JSel.mks xs[j].sels (q + 1 + (xs[j].way.length : Int) + 1)), slD intD 1 xs[j].after_, slD strD 1 xs[j].brings]) HAL.out (by show 4 < 6; decide)] at this
        exact this
      replace T0 : Hid (Touch w w4 fp) := T0.out.trans (t4.mono HS4.out)
      clear o4 t4 HP4 OD4 ND4 HS4
      obtain ⟨y5, f5, qc5, qf5, od5, nd5, hsub5, hgm5, hgl5, hput5, _⟩ := Own.sub O0.out ND.out (j * 6 + 5) (slD strD 1 xs[j].brings) ((get_at (L := [.int .i64 (q), slD strD 1 (mkTs xs[j].way (q + 1)), .str (mkT (q + 1 + (xs[j].way.length : Int))), slD JSel.enc 5 (JSel.mks xs[j].sels (q + 1 + (xs[j].way.length : Int) + 1)), slD intD 1 (mkIs xs[j].after_ (q + 1 + (xs[j].way.length : Int) + 1 + ((JSel.cnts xs[j].sels : Nat) : Int))), slD strD 1 xs[j].brings]) HAL.out (j := 5) (by show 5 < 6; decide)).trans rfl)
      obtain ⟨B5, b5, rfl⟩ := Own.slD od5
      have OD5 := Lib.hid od5
      have ND5 := Lib.hid nd5
      have HS5 := Lib.hid hsub5
      have HP5 := Lib.hid hput5
      clear od5 nd5 hsub5 hput5
      go_wp2_with fail
      refine (mkStringS_c _ _ _ _ _ OD5.out ND5.out (by omega) (by have := W0.out; omega)).mono ?_
      rintro e w5 ⟨rfl, o5, t5⟩
      replace O0 : Hid (Own w5 (.sl 6 xs.length (A ++ ([.int .i64 (q), slD strD 1 (mkTs xs[j].way (q + 1)), .str (mkT (q + 1 + (xs[j].way.length : Int))), slD JSel.enc 5 (JSel.mks xs[j].sels (q + 1 + (xs[j].way.length : Int) + 1)), slD intD 1 (mkIs xs[j].after_ (q + 1 + (xs[j].way.length : Int) + 1 + ((JSel.cnts xs[j].sels : Nat) : Int))), slD strD 1 (mkTs xs[j].brings (q + 1 + (xs[j].way.length : Int) + 1 + ((JSel.cnts xs[j].sels : Nat) : Int) + (xs[j].after_.length : Int)))] ++ C))) (.slice (some ⟨g, 0, none⟩) xs.length cap) fp) := by
        have := HP5.out w5 _ t5 o5
        rw [set_at (L := [.int .i64 (q), slD strD 1 (mkTs xs[j].way (q + 1)), .str (mkT (q + 1 + (xs[j].way.length : Int))), slD JSel.enc 5 (JSel.mks xs[j].sels (q + 1 + (xs[j].way.length : Int) + 1)), slD intD 1 (mkIs xs[j].after_ (q + 1 + (xs[j].way.length : Int) + 1 + ((JSel.cnts xs[j].sels : Nat) : Int))), slD strD 1 xs[j].brings]) HAL.out (by show 5 < 6; decide)] at this
        exact this
      replace T0 : Hid (Touch w w5 fp) := T0.out.trans (t5.mono HS5.out)
      clear o5 t5 HP5 OD5 ND5 HS5
      go_wp2
      go_roundw
      case rel =>
        refine ⟨j + 1, by omega, by go_num, _, rfl, by omega, by have := W0.out; omega, ?_, ?_, T0.out⟩
        · have h1 := HQ.out
          have h2 := JStep.cnts_take xs j hlt
          have h3 := JStep.cnt_eq xs[j]
          unfold Hid
          omega
        · have := O0.out
          rw [HA.out, HC.out] at this
          unfold Hid
          rw [JStep.mks_take _ _ _ hlt, ← HQ.out, List.flatMap_append, List.flatMap_singleton, List.append_assoc, JStep.enc_eq, JStep.mk_eq]
          exact this
      case measure => simp [intOf]; omega
    · go_wp2
      go_ret
      have e : j = xs.length := by omega
      exact Marked.int (by have := HQ.out; rw [e, List.take_length] at this; exact this) (by have := HR.out; rw [e, List.take_length, List.drop_length, List.flatMap_nil, List.append_nil] at this; unfold slD; rw [JStep.mks_len]; exact this) HT.out
theorem mkStepS_c (xs : List JStep) : MkStepS xs := mkStepS_of xs

def HeldValueS (ys : List JValue) : Prop := ∀ (k : Int) (A : Option Addr) (c : Nat) (w : World), Rd w (slD JValue.enc 5 (JValue.mks ys k)) (.slice A (JValue.mks ys k).length c) → 0 ≤ k → k + (JValue.cnts ys : Nat) ≤ 4611686018427387904 →
    Calls Try.prog 63 #[.slice A (JValue.mks ys k).length c, .int .i64 k] w (Ret w (.int .i64 (k + (JValue.cnts ys : Nat))))
set_option maxHeartbeats 6400000 in
set_option maxRecDepth 100000 in
theorem heldValueS_of (ys : List JValue) (hK : ∀ x, x ∈ ys → HeldValueS x.kids) : HeldValueS ys := by
  intro k A c w hx h0 h1
  obtain ⟨_, _, _, hm0, hm1, _⟩ := Rd.slice hx
  unfold maxLen at hm1
  have hm : ys.length ≤ 9223372036854775807 := by rw [JValue.mks_len] at hm0; omega
  have hme : (JValue.mks ys k).length = ys.length := JValue.mks_len _ _
  have HX := Lib.hid hx
  have HK := Lib.hid hK
  clear hK
  clear hx hm0 hm1
  rw [hme]
  clear hme
  go_enter Try.func63, Try.ntmps63
  go_wp2
  go_loopw [1, 5] (fun a i wr => ∃ j : Nat, j ≤ ys.length ∧ i = .int .i64 j ∧ ∃ q : Int, a = .int .i64 q ∧ 0 ≤ q ∧ q ≤ 4611686018427387904 ∧ Hid (q = k + (JValue.cnts (ys.take j) : Nat)) ∧ Below w.heap.size w wr) (fun _ i _ => ys.length - (intOf i).toNat)
  case atStart => exact ⟨0, Nat.zero_le _, rfl, k, rfl, h0, by omega, by simp [JValue.cnts, Hid], Below.refl _ _⟩
  case round =>
    obtain ⟨j, hj, rfl, q, rfl, hq0, hq1, HQ, hB0⟩ := hrel
    by_cases hlt : j < ys.length
    · have hlt' : j < (JValue.mks ys k).length := by rw [JValue.mks_len]; exact hlt
      have HG : Hid ((JValue.mks ys k)[j] = JValue.mk_ ys[j] q) := by have := JValue.mks_get ys j k hlt; rw [← HQ.out] at this; exact this
      have hct : q + (JValue.cnt ys[j] : Nat) ≤ 4611686018427387904 := by
        have h2 := JValue.cnts_take ys j hlt
        have h3 := JValue.cnts_le ys (j + 1)
        have h4 := HQ.out
        omega
      rw [JValue.cnt_eq] at hct
      have W0 := Lib.hid hct
      have HL' := Lib.hid hlt'
      push_cast at hct
      obtain ⟨ad, A3, c3, A4, c4, rfl, hx0, hx1, hx2, hx3, hx4, g3, g4, _l2, _n3, _n4⟩ := JValue.elem (HX.out.below hB0) j HL'.out
      rw [HG.out, JValue.mk_eq] at hx0 hx1 hx2 hx3 hx4 g3 g4 _l2 _n3 _n4
      dsimp only at hx0 hx1 hx2 hx3 hx4 g3 g4 _l2 _n3 _n4
      have G3 := Lib.hid g3
      have G4 := Lib.hid g4
      clear hx3 hx4 g3 g4
      have hd1 := Below.drew hB0
      go_wp2_with fail
      go_region_held3 (fun w' => w'.cell? ⟨(ad.add (j * 5)).block, (ad.add (j * 5)).off + 2, none⟩ = some (.string (mkT (q + 1 + 1))) ∧ Below w.heap.size w w') (first | exact ⟨hx2, hd1⟩ | exact ⟨cell_keep hb1 hx2, bt hd1 hb1⟩)
        (first | (go_at_call 50; refine (markText_c _ _ ?_).mono ?_; (have := W0.out; omega); rintro e w1 ⟨rfl, hb1⟩))
      have hB1 : Below w.heap.size w w1 := bt hd1 hb1
      clear hx0 hx1 hx2
      obtain ⟨ad_, A3, c3, A4, c4, ea, hx0, hx1, hx2, hx3, hx4, g3, g4, _l2, _n3, _n4⟩ := JValue.elem (HX.out.below hB1) j HL'.out
      obtain rfl : ad = ad_ := by injection ea
      rw [HG.out, JValue.mk_eq] at hx0 hx1 hx2 hx3 hx4 g3 g4 _l2 _n3 _n4
      dsimp only at hx0 hx1 hx2 hx3 hx4 g3 g4 _l2 _n3 _n4
      have G3 := Lib.hid g3
      have G4 := Lib.hid g4
      clear hx0 hx1 hx2 hx4 g3 g4
      go_wp2_with fail
      refine (heldStringS_c ys[j].names _ _ _ _ G3.out (by omega) (by have := W0.out; omega)).mono ?_
      rintro e w2 ⟨rfl, hb2⟩
      have hB2 : Below w.heap.size w w2 := bt hB1 hb2
      clear hx3
      obtain ⟨ad_, A3, c3, A4, c4, ea, hx0, hx1, hx2, hx3, hx4, g3, g4, _l2, _n3, _n4⟩ := JValue.elem (HX.out.below hB2) j HL'.out
      obtain rfl : ad = ad_ := by injection ea
      rw [HG.out, JValue.mk_eq] at hx0 hx1 hx2 hx3 hx4 g3 g4 _l2 _n3 _n4
      dsimp only at hx0 hx1 hx2 hx3 hx4 g3 g4 _l2 _n3 _n4
      have G3 := Lib.hid g3
      have G4 := Lib.hid g4
      clear hx0 hx1 hx2 hx3 g3 g4
      go_wp2_with fail
      refine (HK.out ys[j] (List.getElem_mem hlt) _ _ _ _ G4.out (by omega) (by have := W0.out; omega)).mono ?_
      rintro e w3 ⟨rfl, hb3⟩
      have hB3 : Below w.heap.size w w3 := bt hB2 hb3
      clear hx4
      go_wp2
      go_roundw
      case rel =>
        refine ⟨j + 1, by omega, by go_num, _, rfl, by omega, by have := W0.out; omega, ?_, hB3⟩
        have h1 := HQ.out
        have h2 := JValue.cnts_take ys j hlt
        have h3 := JValue.cnt_eq ys[j]
        unfold Hid
        omega
      case measure => simp [intOf]; omega
    · go_wp2
      go_ret
      have e : j = ys.length := by omega
      exact Ret.int (by have := HQ.out; rw [e, List.take_length] at this; exact this) hB0
theorem heldValueS_all : ∀ m, ∀ xs : List JValue, SizeOf.sizeOf xs < m → HeldValueS xs
  | 0 => fun _ h => absurd h (by omega)
  | m + 1 => fun xs h => heldValueS_of xs (fun x hx => heldValueS_all m _ (by have := List.sizeOf_lt_of_mem hx; have := JValue.kids_lt x; omega))
theorem heldValueS_c (xs : List JValue) : HeldValueS xs := heldValueS_all _ xs (Nat.lt_succ_self _)

end Go.Proofs.Ytegabeefggcelaa.Lib
