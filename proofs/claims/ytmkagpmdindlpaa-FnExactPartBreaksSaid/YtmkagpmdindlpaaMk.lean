/- The laws' marks: contracts of the functions that lay them and of those that look for them. Printed by gmark.py. Numbers from 0 to 2^62. -/
import Derived.Test.YtmkagpmdindlpaaProg
import Derived.Test.YtmkagpmdindlpaaBulk
import Derived.Test.YtmkagpmdindlpaaOwnLib
import Derived.Deep.RegionHeld3
import Derived.Deep.QuietTactic
import Derived.BigQuiet
set_option linter.unusedVariables false
set_option linter.unusedSimpArgs false
namespace Go.Proofs.Ytmkagpmdindlpaa.Lib
open Go.RowKit
def digB (k : Int) : ByteArray := strOfNums [48 + k % 10]
def decT (k : Int) (out : ByteArray) : ByteArray := if h : 0 < k then decT (k / 10) (digB k ++ out) else out
termination_by k.toNat
decreasing_by omega
/-- The mark of a number. -/
def mkT (k : Int) : ByteArray := if k ≤ 0 then ⟨#[109, 48]⟩ else ⟨#[109]⟩ ++ decT k ⟨#[]⟩
theorem conv_one (src e dst : TypeId) (hs : Try.prog.underlying src = some (.slice e)) (he : Try.prog.underlying e = some (.int .u8)) (hd : Try.prog.underlying dst = some .string) (t : TypeId) (W : World) (n : Int) :
    (convert src dst (.slice (some ⟨W.heap.size, 0, none⟩) 1 1)).run Try.prog (W.alloc (.cells #[.int .u8 n] t)) = .ok (.string (strOfNums [n])) (W.alloc (.cells #[.int .u8 n] t)) :=
  run_convert_bytes_arg _ src e hs he W.heap.size 0 1 1 [n] rfl (fun i hi => by
    obtain rfl : i = 0 := by omega
    simp) dst hd
def MarkText (k : Int) : Prop := ∀ (w : World), k ≤ 4611686018427387904 → Calls Try.prog 69 #[.int .i64 k] w (Ret w (.string (mkT k)))
theorem mk_size (s : ByteArray) (x : Int) : (strOfNums [48 + x % 10] ++ s).size = s.size + 1 := by
  rw [ByteArray.size_append, strOfNums_size]; simp; omega
theorem decT_size : ∀ (n : Nat) (x : Int) (s : ByteArray), x.toNat ≤ n → (decT x s).size ≤ s.size + x.toNat
  | 0, x, s, h => by rw [decT, dif_neg (by omega)]; omega
  | n + 1, x, s, h => by
    rw [decT]
    split
    · have := decT_size n (x / 10) (digB x ++ s) (by omega)
      have h2 := mk_size s x
      unfold digB at this ⊢
      omega
    · omega
theorem mkT_size (k : Int) (h : k ≤ 4611686018427387904) : (mkT k).size ≤ 9223372036854775807 := by
  unfold mkT
  split
  · decide
  · rw [ByteArray.size_append]
    have := decT_size k.toNat k ⟨#[]⟩ (Nat.le_refl _)
    have h1 : (⟨#[109]⟩ : ByteArray).size = 1 := rfl
    have h2 : (⟨#[]⟩ : ByteArray).size = 0 := rfl
    omega
set_option maxHeartbeats 800000 in
set_option maxRecDepth 100000 in
theorem markText_c (k : Int) : MarkText k := by
  intro w h1
  have kc := conv_one 67 5 9 Try.underlying67 Try.underlying5 Try.underlying9 5
  by_cases c1 : k ≤ 0
  · go_enter Try.func69, Try.ntmps69
    go_wp2
    go_ret
    exact ⟨by unfold mkT; rw [if_pos c1]; rfl, Below.refl _ _⟩
  · go_enter Try.func69, Try.ntmps69
    go_wp2
    go_loopw [0, 3] (fun a b wr => ∃ (x : Int) (s : ByteArray), a = .int .i64 x ∧ b = .string s ∧ 0 ≤ x ∧ x ≤ 4611686018427387904 ∧ s.size + x.toNat ≤ 4611686018427387904 ∧ Hid (decT x s = decT k ⟨#[]⟩) ∧ Below w.heap.size w wr) (fun a _ _ => (intOf a).toNat)
    case atStart => exact ⟨k, ⟨#[]⟩, rfl, rfl, by omega, by omega, by show 0 + _ ≤ _; omega, rfl, Below.refl _ _⟩
    case round =>
      obtain ⟨x, s, rfl, rfl, hx0, hx1, hs, HR, hb⟩ := hrel
      by_cases hlt : 0 < x
      · have hsz : ¬ 9223372036854775807 < (strOfNums [48 + x % 10]).size + s.size := by rw [strOfNums_size]; simp; omega
        go_wp2
        go_roundw
        case rel => exact ⟨x / 10, _, rfl, rfl, by omega, by omega, by rw [mk_size]; omega, by have := HR.out; rw [decT, dif_pos hlt] at this; exact this, hb.alloc hb.size _⟩
        case measure => simp [intOf]; omega
      · have hsz : ¬ 9223372036854775807 < 1 + s.size := by omega
        go_wp2
        go_ret
        exact ⟨by have := HR.out; rw [decT, dif_neg (by omega)] at this; unfold mkT; rw [if_neg (by omega), ← this]; rfl, hb⟩
/-- Texts marked from k on. -/
def mkTs : List ByteArray → Int → List ByteArray
  | [], _ => []
  | _ :: r, k => mkT k :: mkTs r (k + 1)
theorem mkTs_len : ∀ (xs : List ByteArray) (k : Int), (mkTs xs k).length = xs.length
  | [], _ => rfl
  | _ :: r, k => by simp [mkTs, mkTs_len r]
theorem mkTs_get : ∀ (xs : List ByteArray) (k : Int) (i : Nat) (h : i < (mkTs xs k).length), (mkTs xs k)[i] = mkT (k + i)
  | [], _, _, h => by simp [mkTs] at h
  | _ :: r, k, 0, h => by simp [mkTs]
  | _ :: r, k, i + 1, h => by
    simp only [mkTs, List.getElem_cons_succ]
    rw [mkTs_get r (k + 1) i]
    congr 1
    push_cast
    omega
theorem mkTs_take : ∀ (xs : List ByteArray) (k : Int) (j : Nat) (h : j < xs.length), mkTs (xs.take (j + 1)) k = mkTs (xs.take j) k ++ [mkT (k + j)]
  | [], _, _, h => by simp at h
  | _ :: r, k, 0, h => by simp [mkTs]
  | _ :: r, k, j + 1, h => by
    simp only [List.take_succ_cons, mkTs, List.cons_append]
    rw [mkTs_take r (k + 1) j (by simpa using h), show k + 1 + (j : Int) = k + ((j + 1 : Nat) : Int) by push_cast; omega]
/-- Numbers marked from k on. -/
def mkIs : List Int → Int → List Int
  | [], _ => []
  | _ :: r, k => k :: mkIs r (k + 1)
theorem mkIs_len : ∀ (xs : List Int) (k : Int), (mkIs xs k).length = xs.length
  | [], _ => rfl
  | _ :: r, k => by simp [mkIs, mkIs_len r]
theorem mkIs_get : ∀ (xs : List Int) (k : Int) (i : Nat) (h : i < (mkIs xs k).length), (mkIs xs k)[i] = k + i
  | [], _, _, h => by simp [mkIs] at h
  | _ :: r, k, 0, h => by simp [mkIs]
  | _ :: r, k, i + 1, h => by
    simp only [mkIs, List.getElem_cons_succ]
    rw [mkIs_get r (k + 1) i]
    push_cast
    omega
theorem mkIs_take : ∀ (xs : List Int) (k : Int) (j : Nat) (h : j < xs.length), mkIs (xs.take (j + 1)) k = mkIs (xs.take j) k ++ [k + j]
  | [], _, _, h => by simp at h
  | _ :: r, k, 0, h => by simp [mkIs]
  | _ :: r, k, j + 1, h => by
    simp only [List.take_succ_cons, mkIs, List.cons_append]
    rw [mkIs_take r (k + 1) j (by simpa using h), show k + 1 + (j : Int) = k + ((j + 1 : Nat) : Int) by push_cast; omega]

def JField.cnt (x : JField) : Nat := 1 + 1 + 1 + 1 + 1 + 1 + 1 + x.needs.length
def JField.cnts : List JField → Nat
  | [] => 0
  | x :: r => JField.cnt x + JField.cnts r
theorem JField.cnt_eq (x : JField) : JField.cnt x = 1 + 1 + 1 + 1 + 1 + 1 + 1 + x.needs.length := rfl
def JField.mk_ (x : JField) (k : Int) : JField := ⟨mkT (k), mkT (k + 1), ((k + 1 + 1) % 3 == 0), ((k + 1 + 1 + 1) % 3 == 0), ((k + 1 + 1 + 1 + 1) % 3 == 0), ((k + 1 + 1 + 1 + 1 + 1) % 3 == 0), ((k + 1 + 1 + 1 + 1 + 1 + 1) % 3 == 0), mkTs x.needs (k + 1 + 1 + 1 + 1 + 1 + 1 + 1)⟩
def JField.mks : List JField → Int → List JField
  | [], _ => []
  | x :: r, k => JField.mk_ x k :: JField.mks r (k + (JField.cnt x : Nat))
theorem JField.mk_eq (x : JField) (k : Int) : JField.mk_ x k = ⟨mkT (k), mkT (k + 1), ((k + 1 + 1) % 3 == 0), ((k + 1 + 1 + 1) % 3 == 0), ((k + 1 + 1 + 1 + 1) % 3 == 0), ((k + 1 + 1 + 1 + 1 + 1) % 3 == 0), ((k + 1 + 1 + 1 + 1 + 1 + 1) % 3 == 0), mkTs x.needs (k + 1 + 1 + 1 + 1 + 1 + 1 + 1)⟩ := rfl
theorem JField.mks_len : ∀ (xs : List JField) (k : Int), (JField.mks xs k).length = xs.length
  | [], _ => by simp [JField.mks]
  | x :: r, k => by simp [JField.mks, JField.mks_len r]
theorem JField.cnts_take (xs : List JField) (j : Nat) (h : j < xs.length) : JField.cnts (xs.take (j + 1)) = JField.cnts (xs.take j) + JField.cnt xs[j] := by
  induction xs generalizing j with
  | nil => simp at h
  | cons x r ih =>
    cases j with
    | zero => simp [JField.cnts]
    | succ j =>
      have := ih j (by simpa using h)
      simp only [List.take_succ_cons, JField.cnts, List.getElem_cons_succ]
      omega
theorem JField.cnts_le (xs : List JField) (j : Nat) : JField.cnts (xs.take j) ≤ JField.cnts xs := by
  induction xs generalizing j with
  | nil => simp
  | cons x r ih =>
    cases j with
    | zero => simp [JField.cnts]
    | succ j =>
      have := ih j
      simp only [List.take_succ_cons, JField.cnts]
      omega
theorem JField.mks_take (xs : List JField) (j : Nat) (k : Int) (h : j < xs.length) : JField.mks (xs.take (j + 1)) k = JField.mks (xs.take j) k ++ [JField.mk_ xs[j] (k + (JField.cnts (xs.take j) : Nat))] := by
  induction xs generalizing j k with
  | nil => simp at h
  | cons x r ih =>
    cases j with
    | zero => simp [JField.mks, JField.cnts]
    | succ j =>
      have := ih j (k + (JField.cnt x : Nat)) (by simpa using h)
      simp only [List.take_succ_cons, JField.mks, JField.cnts, List.getElem_cons_succ, List.cons_append, this]
      rw [show k + ((JField.cnt x : Nat) : Int) + ((JField.cnts (r.take j) : Nat) : Int) = k + ((JField.cnt x + JField.cnts (r.take j) : Nat) : Int) by push_cast; omega]
theorem JField.mks_get (xs : List JField) (j : Nat) (k : Int) (h : j < xs.length) : (JField.mks xs k)[j]'(by rw [JField.mks_len]; exact h) = JField.mk_ xs[j] (k + (JField.cnts (xs.take j) : Nat)) := by
  induction xs generalizing j k with
  | nil => simp at h
  | cons x r ih =>
    cases j with
    | zero => simp [JField.mks, JField.cnts]
    | succ j =>
      have := ih j (k + (JField.cnt x : Nat)) (by simpa using h)
      simp only [List.take_succ_cons, JField.mks, JField.cnts, List.getElem_cons_succ, this]
      rw [show k + ((JField.cnt x : Nat) : Int) + ((JField.cnts (r.take j) : Nat) : Int) = k + ((JField.cnt x + JField.cnts (r.take j) : Nat) : Int) by push_cast; omega]

def JTyp.cnt (x : JTyp) : Nat := 1 + 1 + JField.cnts x.fields
def JTyp.cnts : List JTyp → Nat
  | [] => 0
  | x :: r => JTyp.cnt x + JTyp.cnts r
theorem JTyp.cnt_eq (x : JTyp) : JTyp.cnt x = 1 + 1 + JField.cnts x.fields := rfl
def JTyp.mk_ (x : JTyp) (k : Int) : JTyp := ⟨mkT (k), mkT (k + 1), JField.mks x.fields (k + 1 + 1)⟩
def JTyp.mks : List JTyp → Int → List JTyp
  | [], _ => []
  | x :: r, k => JTyp.mk_ x k :: JTyp.mks r (k + (JTyp.cnt x : Nat))
theorem JTyp.mk_eq (x : JTyp) (k : Int) : JTyp.mk_ x k = ⟨mkT (k), mkT (k + 1), JField.mks x.fields (k + 1 + 1)⟩ := rfl
theorem JTyp.mks_len : ∀ (xs : List JTyp) (k : Int), (JTyp.mks xs k).length = xs.length
  | [], _ => by simp [JTyp.mks]
  | x :: r, k => by simp [JTyp.mks, JTyp.mks_len r]
theorem JTyp.cnts_take (xs : List JTyp) (j : Nat) (h : j < xs.length) : JTyp.cnts (xs.take (j + 1)) = JTyp.cnts (xs.take j) + JTyp.cnt xs[j] := by
  induction xs generalizing j with
  | nil => simp at h
  | cons x r ih =>
    cases j with
    | zero => simp [JTyp.cnts]
    | succ j =>
      have := ih j (by simpa using h)
      simp only [List.take_succ_cons, JTyp.cnts, List.getElem_cons_succ]
      omega
theorem JTyp.cnts_le (xs : List JTyp) (j : Nat) : JTyp.cnts (xs.take j) ≤ JTyp.cnts xs := by
  induction xs generalizing j with
  | nil => simp
  | cons x r ih =>
    cases j with
    | zero => simp [JTyp.cnts]
    | succ j =>
      have := ih j
      simp only [List.take_succ_cons, JTyp.cnts]
      omega
theorem JTyp.mks_take (xs : List JTyp) (j : Nat) (k : Int) (h : j < xs.length) : JTyp.mks (xs.take (j + 1)) k = JTyp.mks (xs.take j) k ++ [JTyp.mk_ xs[j] (k + (JTyp.cnts (xs.take j) : Nat))] := by
  induction xs generalizing j k with
  | nil => simp at h
  | cons x r ih =>
    cases j with
    | zero => simp [JTyp.mks, JTyp.cnts]
    | succ j =>
      have := ih j (k + (JTyp.cnt x : Nat)) (by simpa using h)
      simp only [List.take_succ_cons, JTyp.mks, JTyp.cnts, List.getElem_cons_succ, List.cons_append, this]
      rw [show k + ((JTyp.cnt x : Nat) : Int) + ((JTyp.cnts (r.take j) : Nat) : Int) = k + ((JTyp.cnt x + JTyp.cnts (r.take j) : Nat) : Int) by push_cast; omega]
theorem JTyp.mks_get (xs : List JTyp) (j : Nat) (k : Int) (h : j < xs.length) : (JTyp.mks xs k)[j]'(by rw [JTyp.mks_len]; exact h) = JTyp.mk_ xs[j] (k + (JTyp.cnts (xs.take j) : Nat)) := by
  induction xs generalizing j k with
  | nil => simp at h
  | cons x r ih =>
    cases j with
    | zero => simp [JTyp.mks, JTyp.cnts]
    | succ j =>
      have := ih j (k + (JTyp.cnt x : Nat)) (by simpa using h)
      simp only [List.take_succ_cons, JTyp.mks, JTyp.cnts, List.getElem_cons_succ, this]
      rw [show k + ((JTyp.cnt x : Nat) : Int) + ((JTyp.cnts (r.take j) : Nat) : Int) = k + ((JTyp.cnt x + JTyp.cnts (r.take j) : Nat) : Int) by push_cast; omega]

def JPart.cnt (x : JPart) : Nat := 1 + JTyp.cnts x.types
def JPart.cnts : List JPart → Nat
  | [] => 0
  | x :: r => JPart.cnt x + JPart.cnts r
theorem JPart.cnt_eq (x : JPart) : JPart.cnt x = 1 + JTyp.cnts x.types := rfl
def JPart.mk_ (x : JPart) (k : Int) : JPart := ⟨mkT (k), JTyp.mks x.types (k + 1)⟩
def JPart.mks : List JPart → Int → List JPart
  | [], _ => []
  | x :: r, k => JPart.mk_ x k :: JPart.mks r (k + (JPart.cnt x : Nat))
theorem JPart.mk_eq (x : JPart) (k : Int) : JPart.mk_ x k = ⟨mkT (k), JTyp.mks x.types (k + 1)⟩ := rfl
theorem JPart.mks_len : ∀ (xs : List JPart) (k : Int), (JPart.mks xs k).length = xs.length
  | [], _ => by simp [JPart.mks]
  | x :: r, k => by simp [JPart.mks, JPart.mks_len r]
theorem JPart.cnts_take (xs : List JPart) (j : Nat) (h : j < xs.length) : JPart.cnts (xs.take (j + 1)) = JPart.cnts (xs.take j) + JPart.cnt xs[j] := by
  induction xs generalizing j with
  | nil => simp at h
  | cons x r ih =>
    cases j with
    | zero => simp [JPart.cnts]
    | succ j =>
      have := ih j (by simpa using h)
      simp only [List.take_succ_cons, JPart.cnts, List.getElem_cons_succ]
      omega
theorem JPart.cnts_le (xs : List JPart) (j : Nat) : JPart.cnts (xs.take j) ≤ JPart.cnts xs := by
  induction xs generalizing j with
  | nil => simp
  | cons x r ih =>
    cases j with
    | zero => simp [JPart.cnts]
    | succ j =>
      have := ih j
      simp only [List.take_succ_cons, JPart.cnts]
      omega
theorem JPart.mks_take (xs : List JPart) (j : Nat) (k : Int) (h : j < xs.length) : JPart.mks (xs.take (j + 1)) k = JPart.mks (xs.take j) k ++ [JPart.mk_ xs[j] (k + (JPart.cnts (xs.take j) : Nat))] := by
  induction xs generalizing j k with
  | nil => simp at h
  | cons x r ih =>
    cases j with
    | zero => simp [JPart.mks, JPart.cnts]
    | succ j =>
      have := ih j (k + (JPart.cnt x : Nat)) (by simpa using h)
      simp only [List.take_succ_cons, JPart.mks, JPart.cnts, List.getElem_cons_succ, List.cons_append, this]
      rw [show k + ((JPart.cnt x : Nat) : Int) + ((JPart.cnts (r.take j) : Nat) : Int) = k + ((JPart.cnt x + JPart.cnts (r.take j) : Nat) : Int) by push_cast; omega]
theorem JPart.mks_get (xs : List JPart) (j : Nat) (k : Int) (h : j < xs.length) : (JPart.mks xs k)[j]'(by rw [JPart.mks_len]; exact h) = JPart.mk_ xs[j] (k + (JPart.cnts (xs.take j) : Nat)) := by
  induction xs generalizing j k with
  | nil => simp at h
  | cons x r ih =>
    cases j with
    | zero => simp [JPart.mks, JPart.cnts]
    | succ j =>
      have := ih j (k + (JPart.cnt x : Nat)) (by simpa using h)
      simp only [List.take_succ_cons, JPart.mks, JPart.cnts, List.getElem_cons_succ, this]
      rw [show k + ((JPart.cnt x : Nat) : Int) + ((JPart.cnts (r.take j) : Nat) : Int) = k + ((JPart.cnt x + JPart.cnts (r.take j) : Nat) : Int) by push_cast; omega]

def JOwner.cnt (x : JOwner) : Nat := 1 + 1 + x.parts.length
def JOwner.cnts : List JOwner → Nat
  | [] => 0
  | x :: r => JOwner.cnt x + JOwner.cnts r
theorem JOwner.cnt_eq (x : JOwner) : JOwner.cnt x = 1 + 1 + x.parts.length := rfl
def JOwner.mk_ (x : JOwner) (k : Int) : JOwner := ⟨mkT (k), mkT (k + 1), mkIs x.parts (k + 1 + 1)⟩
def JOwner.mks : List JOwner → Int → List JOwner
  | [], _ => []
  | x :: r, k => JOwner.mk_ x k :: JOwner.mks r (k + (JOwner.cnt x : Nat))
theorem JOwner.mk_eq (x : JOwner) (k : Int) : JOwner.mk_ x k = ⟨mkT (k), mkT (k + 1), mkIs x.parts (k + 1 + 1)⟩ := rfl
theorem JOwner.mks_len : ∀ (xs : List JOwner) (k : Int), (JOwner.mks xs k).length = xs.length
  | [], _ => by simp [JOwner.mks]
  | x :: r, k => by simp [JOwner.mks, JOwner.mks_len r]
theorem JOwner.cnts_take (xs : List JOwner) (j : Nat) (h : j < xs.length) : JOwner.cnts (xs.take (j + 1)) = JOwner.cnts (xs.take j) + JOwner.cnt xs[j] := by
  induction xs generalizing j with
  | nil => simp at h
  | cons x r ih =>
    cases j with
    | zero => simp [JOwner.cnts]
    | succ j =>
      have := ih j (by simpa using h)
      simp only [List.take_succ_cons, JOwner.cnts, List.getElem_cons_succ]
      omega
theorem JOwner.cnts_le (xs : List JOwner) (j : Nat) : JOwner.cnts (xs.take j) ≤ JOwner.cnts xs := by
  induction xs generalizing j with
  | nil => simp
  | cons x r ih =>
    cases j with
    | zero => simp [JOwner.cnts]
    | succ j =>
      have := ih j
      simp only [List.take_succ_cons, JOwner.cnts]
      omega
theorem JOwner.mks_take (xs : List JOwner) (j : Nat) (k : Int) (h : j < xs.length) : JOwner.mks (xs.take (j + 1)) k = JOwner.mks (xs.take j) k ++ [JOwner.mk_ xs[j] (k + (JOwner.cnts (xs.take j) : Nat))] := by
  induction xs generalizing j k with
  | nil => simp at h
  | cons x r ih =>
    cases j with
    | zero => simp [JOwner.mks, JOwner.cnts]
    | succ j =>
      have := ih j (k + (JOwner.cnt x : Nat)) (by simpa using h)
      simp only [List.take_succ_cons, JOwner.mks, JOwner.cnts, List.getElem_cons_succ, List.cons_append, this]
      rw [show k + ((JOwner.cnt x : Nat) : Int) + ((JOwner.cnts (r.take j) : Nat) : Int) = k + ((JOwner.cnt x + JOwner.cnts (r.take j) : Nat) : Int) by push_cast; omega]
theorem JOwner.mks_get (xs : List JOwner) (j : Nat) (k : Int) (h : j < xs.length) : (JOwner.mks xs k)[j]'(by rw [JOwner.mks_len]; exact h) = JOwner.mk_ xs[j] (k + (JOwner.cnts (xs.take j) : Nat)) := by
  induction xs generalizing j k with
  | nil => simp at h
  | cons x r ih =>
    cases j with
    | zero => simp [JOwner.mks, JOwner.cnts]
    | succ j =>
      have := ih j (k + (JOwner.cnt x : Nat)) (by simpa using h)
      simp only [List.take_succ_cons, JOwner.mks, JOwner.cnts, List.getElem_cons_succ, this]
      rw [show k + ((JOwner.cnt x : Nat) : Int) + ((JOwner.cnts (r.take j) : Nat) : Int) = k + ((JOwner.cnt x + JOwner.cnts (r.take j) : Nat) : Int) by push_cast; omega]

def JChart.cnt (x : JChart) : Nat := 1 + JTyp.cnts x.all.types + JOwner.cnts x.owners
def JChart.cnts : List JChart → Nat
  | [] => 0
  | x :: r => JChart.cnt x + JChart.cnts r
theorem JChart.cnt_eq (x : JChart) : JChart.cnt x = 1 + JTyp.cnts x.all.types + JOwner.cnts x.owners := rfl
def JChart.mk_ (x : JChart) (k : Int) : JChart := ⟨⟨mkT (k), JTyp.mks x.all.types (k + 1)⟩, JOwner.mks x.owners (k + 1 + ((JTyp.cnts x.all.types : Nat) : Int))⟩
def JChart.mks : List JChart → Int → List JChart
  | [], _ => []
  | x :: r, k => JChart.mk_ x k :: JChart.mks r (k + (JChart.cnt x : Nat))
theorem JChart.mk_eq (x : JChart) (k : Int) : JChart.mk_ x k = ⟨⟨mkT (k), JTyp.mks x.all.types (k + 1)⟩, JOwner.mks x.owners (k + 1 + ((JTyp.cnts x.all.types : Nat) : Int))⟩ := rfl
theorem JChart.mks_len : ∀ (xs : List JChart) (k : Int), (JChart.mks xs k).length = xs.length
  | [], _ => by simp [JChart.mks]
  | x :: r, k => by simp [JChart.mks, JChart.mks_len r]
theorem JChart.cnts_take (xs : List JChart) (j : Nat) (h : j < xs.length) : JChart.cnts (xs.take (j + 1)) = JChart.cnts (xs.take j) + JChart.cnt xs[j] := by
  induction xs generalizing j with
  | nil => simp at h
  | cons x r ih =>
    cases j with
    | zero => simp [JChart.cnts]
    | succ j =>
      have := ih j (by simpa using h)
      simp only [List.take_succ_cons, JChart.cnts, List.getElem_cons_succ]
      omega
theorem JChart.cnts_le (xs : List JChart) (j : Nat) : JChart.cnts (xs.take j) ≤ JChart.cnts xs := by
  induction xs generalizing j with
  | nil => simp
  | cons x r ih =>
    cases j with
    | zero => simp [JChart.cnts]
    | succ j =>
      have := ih j
      simp only [List.take_succ_cons, JChart.cnts]
      omega
theorem JChart.mks_take (xs : List JChart) (j : Nat) (k : Int) (h : j < xs.length) : JChart.mks (xs.take (j + 1)) k = JChart.mks (xs.take j) k ++ [JChart.mk_ xs[j] (k + (JChart.cnts (xs.take j) : Nat))] := by
  induction xs generalizing j k with
  | nil => simp at h
  | cons x r ih =>
    cases j with
    | zero => simp [JChart.mks, JChart.cnts]
    | succ j =>
      have := ih j (k + (JChart.cnt x : Nat)) (by simpa using h)
      simp only [List.take_succ_cons, JChart.mks, JChart.cnts, List.getElem_cons_succ, List.cons_append, this]
      rw [show k + ((JChart.cnt x : Nat) : Int) + ((JChart.cnts (r.take j) : Nat) : Int) = k + ((JChart.cnt x + JChart.cnts (r.take j) : Nat) : Int) by push_cast; omega]
theorem JChart.mks_get (xs : List JChart) (j : Nat) (k : Int) (h : j < xs.length) : (JChart.mks xs k)[j]'(by rw [JChart.mks_len]; exact h) = JChart.mk_ xs[j] (k + (JChart.cnts (xs.take j) : Nat)) := by
  induction xs generalizing j k with
  | nil => simp at h
  | cons x r ih =>
    cases j with
    | zero => simp [JChart.mks, JChart.cnts]
    | succ j =>
      have := ih j (k + (JChart.cnt x : Nat)) (by simpa using h)
      simp only [List.take_succ_cons, JChart.mks, JChart.cnts, List.getElem_cons_succ, this]
      rw [show k + ((JChart.cnt x : Nat) : Int) + ((JChart.cnts (r.take j) : Nat) : Int) = k + ((JChart.cnt x + JChart.cnts (r.take j) : Nat) : Int) by push_cast; omega]

def MkStringS : Prop := ∀ (xs : List ByteArray) (v : Value) (fp : List Nat) (k : Int) (w : World), Own w (slD strD 1 xs) v fp → fp.Nodup → 0 ≤ k → k + xs.length ≤ 4611686018427387904 →
    Calls Try.prog 34 #[v, .int .i64 k] w (Marked w (slD strD 1 (mkTs xs k)) v fp (k + xs.length))
set_option maxHeartbeats 1600000 in
set_option maxRecDepth 100000 in
theorem mkStringS_c : MkStringS := by
  intro xs v fp k w ho nd h0 h1
  rcases Own.head ho with ⟨hn, A, c, rfl⟩ | ⟨g, cap, rfl⟩
  · obtain rfl : xs = [] := List.eq_nil_of_length_eq_zero hn
    have HO := Lib.hid ho
    clear ho nd
    go_enter Try.func34, Try.ntmps34
    go_wp2
    go_loop [1, 5] (fun a i => i = .int .i64 0 ∧ a = .int .i64 k) (fun _ _ => 0)
    case atStart => exact ⟨rfl, rfl⟩
    case round =>
      obtain ⟨rfl, rfl⟩ := hrel
      go_wp2
      go_ret
      exact ⟨by simp, by simpa [mkTs] using HO.out, Touch.refl _ _⟩
  have HO := Lib.hid ho
  have ND := Lib.hid nd
  have hm : xs.length ≤ 4611686018427387904 := by omega
  clear ho nd
  go_enter Try.func34, Try.ntmps34
  go_wp2
  go_loopw [1, 5] (fun a i wr => ∃ j : Nat, j ≤ xs.length ∧ i = .int .i64 j ∧ a = .int .i64 (k + j) ∧ Hid (Own wr (.sl 1 xs.length ((mkTs (xs.take j) k).flatMap strD ++ (xs.drop j).flatMap strD)) (.slice (some ⟨g, 0, none⟩) xs.length cap) fp) ∧ Hid (Touch w wr fp)) (fun _ i _ => xs.length - (intOf i).toNat)
  case atStart => exact ⟨0, Nat.zero_le _, rfl, by go_num, by simpa [mkTs, slD, Hid] using HO.out, Touch.refl _ _⟩
  case round =>
    obtain ⟨j, hj, rfl, rfl, HR, HT⟩ := hrel
    by_cases hlt : j < xs.length
    · obtain ⟨A, hA⟩ : ∃ A, A = (mkTs (xs.take j) k).flatMap strD := ⟨_, rfl⟩
      obtain ⟨C, hC⟩ : ∃ C, C = (xs.drop (j + 1)).flatMap strD := ⟨_, rfl⟩
      have hAl : A.length = j := by rw [hA, flat_length (sz := 1) (fun _ => rfl), mkTs_len, List.length_take]; omega
      have o0 : Own wr (.sl 1 xs.length (A ++ (strD xs[j] ++ C))) (.slice (some ⟨g, 0, none⟩) xs.length cap) fp := by
        have := HR.out
        rw [List.drop_eq_getElem_cons hlt, List.flatMap_cons, ← hA, ← hC] at this
        exact this
      have O0 := Lib.hid o0
      have HAL := Lib.hid hAl
      have HA := Lib.hid hA
      have HC := Lib.hid hC
      clear o0 hA hC hAl
      go_wp2_with fail
      refine (markText_c _ _ (by omega)).mono ?_
      rintro e w1 ⟨rfl, hb1⟩
      obtain ⟨y, f, qc, qf, od, _, _, hgm, hgl, _, hset⟩ := Own.sub (O0.out.keep hb1) ND.out j (.str xs[j]) ((get_at (L := strD xs[j]) HAL.out (j := 0) (by show 0 < 1; decide)).trans rfl)
      have O1 : Hid (Own (w1.setCell ⟨g, j, none⟩ (.string (mkT (k + j)))) (.sl 1 xs.length (A ++ (strD (mkT (k + j)) ++ C))) (.slice (some ⟨g, 0, none⟩) xs.length cap) fp) := by
        have := hset (Own.flat od trivial) (.str (mkT (k + j))) (.string (mkT (k + j))) (fun w' => by simp only [Own, true_and, and_true]; exact mkT_size _ (by omega))
        rw [show (A ++ (strD xs[j] ++ C)).set j (.str (mkT (k + j))) = A ++ (strD (mkT (k + j)) ++ C) from set_at (L := strD xs[j]) HAL.out (j := 0) (by show 0 < 1; decide) _] at this
        exact this
      have T1 : Hid (Touch w (w1.setCell ⟨g, j, none⟩ (.string (mkT (k + j)))) fp) := HT.out.trans ((Touch.below hb1).trans (Touch.set hgm _))
      clear hset od
      go_wp2
      go_roundw
      case rel =>
        refine ⟨j + 1, by omega, by go_num, by go_num, ?_, T1.out⟩
        have := O1.out
        rw [HA.out, HC.out] at this
        unfold Hid
        rw [mkTs_take _ _ _ hlt, List.flatMap_append, List.flatMap_singleton, List.append_assoc]
        exact this
      case measure => simp [intOf]; omega
    · go_wp2
      go_ret
      have e : j = xs.length := by omega
      exact Marked.int (by rw [e]) (by have := HR.out; rw [e, List.take_length, List.drop_length, List.flatMap_nil, List.append_nil] at this; unfold slD; rw [mkTs_len]; exact this) HT.out

def MkIntS : Prop := ∀ (xs : List Int) (v : Value) (fp : List Nat) (k : Int) (w : World), Own w (slD intD 1 xs) v fp → fp.Nodup → 0 ≤ k → k + xs.length ≤ 4611686018427387904 →
    Calls Try.prog 20 #[v, .int .i64 k] w (Marked w (slD intD 1 (mkIs xs k)) v fp (k + xs.length))
set_option maxHeartbeats 1600000 in
set_option maxRecDepth 100000 in
theorem mkIntS_c : MkIntS := by
  intro xs v fp k w ho nd h0 h1
  rcases Own.head ho with ⟨hn, A, c, rfl⟩ | ⟨g, cap, rfl⟩
  · obtain rfl : xs = [] := List.eq_nil_of_length_eq_zero hn
    have HO := Lib.hid ho
    clear ho nd
    go_enter Try.func20, Try.ntmps20
    go_wp2
    go_loop [1, 5] (fun a i => i = .int .i64 0 ∧ a = .int .i64 k) (fun _ _ => 0)
    case atStart => exact ⟨rfl, rfl⟩
    case round =>
      obtain ⟨rfl, rfl⟩ := hrel
      go_wp2
      go_ret
      exact ⟨by simp, by simpa [mkIs] using HO.out, Touch.refl _ _⟩
  have HO := Lib.hid ho
  have ND := Lib.hid nd
  have hm : xs.length ≤ 4611686018427387904 := by omega
  clear ho nd
  go_enter Try.func20, Try.ntmps20
  go_wp2
  go_loopw [1, 5] (fun a i wr => ∃ j : Nat, j ≤ xs.length ∧ i = .int .i64 j ∧ a = .int .i64 (k + j) ∧ Hid (Own wr (.sl 1 xs.length ((mkIs (xs.take j) k).flatMap intD ++ (xs.drop j).flatMap intD)) (.slice (some ⟨g, 0, none⟩) xs.length cap) fp) ∧ Hid (Touch w wr fp)) (fun _ i _ => xs.length - (intOf i).toNat)
  case atStart => exact ⟨0, Nat.zero_le _, rfl, by go_num, by simpa [mkIs, slD, Hid] using HO.out, Touch.refl _ _⟩
  case round =>
    obtain ⟨j, hj, rfl, rfl, HR, HT⟩ := hrel
    by_cases hlt : j < xs.length
    · obtain ⟨A, hA⟩ : ∃ A, A = (mkIs (xs.take j) k).flatMap intD := ⟨_, rfl⟩
      obtain ⟨C, hC⟩ : ∃ C, C = (xs.drop (j + 1)).flatMap intD := ⟨_, rfl⟩
      have hAl : A.length = j := by rw [hA, flat_length (sz := 1) (fun _ => rfl), mkIs_len, List.length_take]; omega
      have o0 : Own wr (.sl 1 xs.length (A ++ (intD xs[j] ++ C))) (.slice (some ⟨g, 0, none⟩) xs.length cap) fp := by
        have := HR.out
        rw [List.drop_eq_getElem_cons hlt, List.flatMap_cons, ← hA, ← hC] at this
        exact this
      have HAL := Lib.hid hAl
      have HA := Lib.hid hA
      have HC := Lib.hid hC
      clear hA hC hAl
      obtain ⟨y, f, qc, qf, od, _, _, hgm, hgl, _, hset⟩ := Own.sub o0 ND.out j (.int .i64 xs[j]) ((get_at (L := intD xs[j]) HAL.out (j := 0) (by show 0 < 1; decide)).trans rfl)
      have O1 : Hid (Own (wr.setCell ⟨g, j, none⟩ (.int .i64 (k + j))) (.sl 1 xs.length (A ++ (intD (k + j) ++ C))) (.slice (some ⟨g, 0, none⟩) xs.length cap) fp) := by
        have := hset (Own.flat od trivial) (.int .i64 (k + j)) (.int .i64 (k + j)) (fun w' => by simp only [Own, and_self])
        rw [show (A ++ (intD xs[j] ++ C)).set j (.int .i64 (k + j)) = A ++ (intD (k + j) ++ C) from set_at (L := intD xs[j]) HAL.out (j := 0) (by show 0 < 1; decide) _] at this
        exact this
      have T1 : Hid (Touch w (wr.setCell ⟨g, j, none⟩ (.int .i64 (k + j))) fp) := HT.out.trans (Touch.set hgm _)
      clear hset od o0
      go_wp2
      go_roundw
      case rel =>
        refine ⟨j + 1, by omega, by go_num, by go_num, ?_, T1.out⟩
        have := O1.out
        rw [HA.out, HC.out] at this
        unfold Hid
        rw [mkIs_take _ _ _ hlt, List.flatMap_append, List.flatMap_singleton, List.append_assoc]
        exact this
      case measure => simp [intOf]; omega
    · go_wp2
      go_ret
      have e : j = xs.length := by omega
      exact Marked.int (by rw [e]) (by have := HR.out; rw [e, List.take_length, List.drop_length, List.flatMap_nil, List.append_nil] at this; unfold slD; rw [mkIs_len]; exact this) HT.out

def HeldStringS : Prop := ∀ (ys : List ByteArray) (k : Int) (A : Option Addr) (c : Nat) (w : World), Rd w (slD strD 1 (mkTs ys k)) (.slice A (mkTs ys k).length c) → 0 ≤ k → k + ys.length ≤ 4611686018427387904 →
    Calls Try.prog 35 #[.slice A (mkTs ys k).length c, .int .i64 k] w (Ret w (.int .i64 (k + ys.length)))
set_option maxHeartbeats 1600000 in
set_option maxRecDepth 100000 in
theorem heldStringS_c : HeldStringS := by
  intro ys k A c w hx h0 h1
  obtain ⟨xs, hxs⟩ : ∃ xs, xs = mkTs ys k := ⟨_, rfl⟩
  have hlen : xs.length = ys.length := by rw [hxs, mkTs_len]
  rw [← hxs] at hx ⊢
  have HL := Lib.hid hlen
  have hm : xs.length ≤ 4611686018427387904 := by omega
  have hk2 : k + xs.length ≤ 4611686018427387904 := by omega
  have HG : Hid (∀ i (h : i < xs.length), xs[i] = mkT (k + i)) := by subst hxs; exact mkTs_get ys k
  have HX := Lib.hid hx
  clear hx hlen hxs h1
  go_enter Try.func35, Try.ntmps35
  go_wp2
  go_loopw [1, 5] (fun a i wr => ∃ j : Nat, j ≤ xs.length ∧ i = .int .i64 j ∧ a = .int .i64 (k + j) ∧ Below w.heap.size w wr) (fun _ i _ => xs.length - (intOf i).toNat)
  case atStart => exact ⟨0, Nat.zero_le _, rfl, by go_num, Below.refl _ _⟩
  case round =>
    obtain ⟨j, hj, rfl, rfl, hb⟩ := hrel
    by_cases hlt : j < xs.length
    · obtain ⟨ad, rfl, hc, hs⟩ := Rd.elem_str (HX.out.below hb) j hlt
      have t1 := str_t (HG.out j hlt)
      have hbd := hb.drew
      go_wp2_with fail
      go_region_held3 (fun w' => w'.cell? (ad.add j) = some (.string xs[j]) ∧ Below w.heap.size w w') (first | exact ⟨hc, hbd⟩ | exact ⟨cell_keep hb1 hc, bt hbd hb1⟩)
        (first | (go_at_call 69; refine (markText_c _ _ ?_).mono ?_; (omega); rintro e w1 ⟨rfl, hb1⟩))
      go_wp2
      go_roundw
      case rel => exact ⟨j + 1, by omega, by go_num, by go_num, bt hbd hb1⟩
      case measure => simp [intOf]; omega
    · go_wp2
      go_ret
      exact Ret.int (by have := HL.out; omega) hb

def HeldIntS : Prop := ∀ (ys : List Int) (k : Int) (A : Option Addr) (c : Nat) (w : World), Rd w (slD intD 1 (mkIs ys k)) (.slice A (mkIs ys k).length c) → 0 ≤ k → k + ys.length ≤ 4611686018427387904 →
    Calls Try.prog 21 #[.slice A (mkIs ys k).length c, .int .i64 k] w (Ret w (.int .i64 (k + ys.length)))
set_option maxHeartbeats 1600000 in
set_option maxRecDepth 100000 in
theorem heldIntS_c : HeldIntS := by
  intro ys k A c w hx h0 h1
  obtain ⟨xs, hxs⟩ : ∃ xs, xs = mkIs ys k := ⟨_, rfl⟩
  have hlen : xs.length = ys.length := by rw [hxs, mkIs_len]
  rw [← hxs] at hx ⊢
  have HL := Lib.hid hlen
  have hm : xs.length ≤ 4611686018427387904 := by omega
  have hk2 : k + xs.length ≤ 4611686018427387904 := by omega
  have HG : Hid (∀ i (h : i < xs.length), xs[i] = k + i) := by subst hxs; exact mkIs_get ys k
  have HX := Lib.hid hx
  clear hx hlen hxs h1
  go_enter Try.func21, Try.ntmps21
  go_wp2
  go_loopw [1, 5] (fun a i wr => ∃ j : Nat, j ≤ xs.length ∧ i = .int .i64 j ∧ a = .int .i64 (k + j) ∧ Below w.heap.size w wr) (fun _ i _ => xs.length - (intOf i).toNat)
  case atStart => exact ⟨0, Nat.zero_le _, rfl, by go_num, Below.refl _ _⟩
  case round =>
    obtain ⟨j, hj, rfl, rfl, hb⟩ := hrel
    by_cases hlt : j < xs.length
    · obtain ⟨ad, rfl, hc⟩ := Rd.elem_int (HX.out.below hb) j hlt
      have t1 : (xs[j] == k + (j : Int)) = true := by simpa using HG.out j hlt
      go_wp2
      go_roundw
      case rel => exact ⟨j + 1, by omega, by go_num, by go_num, hb⟩
      case measure => simp [intOf]; omega
    · go_wp2
      go_ret
      exact Ret.int (by have := HL.out; omega) hb

def MkFieldS (xs : List JField) : Prop := ∀ (v : Value) (fp : List Nat) (k : Int) (w : World), Own w (slD JField.enc 8 xs) v fp → fp.Nodup → 0 ≤ k → k + (JField.cnts xs : Nat) ≤ 4611686018427387904 →
    Calls Try.prog 109 #[v, .int .i64 k] w (Marked w (slD JField.enc 8 (JField.mks xs k)) v fp (k + (JField.cnts xs : Nat)))
set_option maxHeartbeats 6400000 in
set_option maxRecDepth 100000 in
theorem mkFieldS_of (xs : List JField) : MkFieldS xs := by
  intro v fp k w ho nd h0 h1
  rcases Own.head ho with ⟨hn, A, c, rfl⟩ | ⟨g, cap, rfl⟩
  · obtain rfl : xs = [] := List.eq_nil_of_length_eq_zero hn
    have HO := Lib.hid ho
    clear ho nd
    go_enter Try.func109, Try.ntmps109
    go_wp2
    go_loop [1, 5] (fun a i => i = .int .i64 0 ∧ a = .int .i64 k) (fun _ _ => 0)
    case atStart => exact ⟨rfl, rfl⟩
    case round =>
      obtain ⟨rfl, rfl⟩ := hrel
      go_wp2
      go_ret
      exact Marked.int (by simp [JField.cnts]) (by simpa [JField.mks] using HO.out) (Touch.refl _ _)
  have HO := Lib.hid ho
  have ND := Lib.hid nd
  have hm : xs.length ≤ 9223372036854775807 := by
    simp only [slD, Own] at ho
    rcases ho.2 with ⟨h, _⟩ | ⟨g', cap', cur, e, fs, hv, hb, hn, hcap, hsz, _⟩
    · cases h
    · unfold maxLen at hcap; omega
  clear ho nd
  skip
  go_enter Try.func109, Try.ntmps109
  go_wp2
  go_loopw [1, 5] (fun a i wr => ∃ j : Nat, j ≤ xs.length ∧ i = .int .i64 j ∧ ∃ q : Int, a = .int .i64 q ∧ 0 ≤ q ∧ q ≤ 4611686018427387904 ∧ Hid (q = k + (JField.cnts (xs.take j) : Nat)) ∧ Hid (Own wr (.sl 8 xs.length ((JField.mks (xs.take j) k).flatMap JField.enc ++ (xs.drop j).flatMap JField.enc)) (.slice (some ⟨g, 0, none⟩) xs.length cap) fp) ∧ Hid (Touch w wr fp)) (fun _ i _ => xs.length - (intOf i).toNat)
  case atStart => exact ⟨0, Nat.zero_le _, rfl, k, rfl, h0, by omega, by simp [JField.cnts, Hid], by simpa [JField.mks, slD, Hid] using HO.out, Touch.refl _ _⟩
  case round =>
    obtain ⟨j, hj, rfl, q, rfl, hq0, hq1, HQ, HR, HT⟩ := hrel
    by_cases hlt : j < xs.length
    · obtain ⟨A, hA⟩ : ∃ A, A = (JField.mks (xs.take j) k).flatMap JField.enc := ⟨_, rfl⟩
      obtain ⟨C, hC⟩ : ∃ C, C = (xs.drop (j + 1)).flatMap JField.enc := ⟨_, rfl⟩
      have hAl : A.length = j * 8 := by rw [hA, flat_length JField.enc_len, JField.mks_len, List.length_take]; congr 1; omega
      have o0 : Own wr (.sl 8 xs.length (A ++ ([.str xs[j].name, .str xs[j].of, .bool xs[j].list, .bool xs[j].must, .bool xs[j].far, .bool xs[j].hidden, .bool xs[j].shared, slD strD 1 xs[j].needs] ++ C))) (.slice (some ⟨g, 0, none⟩) xs.length cap) fp := by
        have := HR.out
        rw [List.drop_eq_getElem_cons hlt, List.flatMap_cons, ← hA, ← hC, JField.enc_eq] at this
        exact this
      have hct : q + (JField.cnt xs[j] : Nat) ≤ 4611686018427387904 := by
        have h2 := JField.cnts_take xs j hlt
        have h3 := JField.cnts_le xs (j + 1)
        have h4 := HQ.out
        omega
      rw [JField.cnt_eq] at hct
      have W0 := Lib.hid hct
      have HAL := Lib.hid hAl
      have HA := Lib.hid hA
      have HC := Lib.hid hC
      have O0 := Lib.hid o0
      have T0 := HT
      clear o0 hA hC hAl
      push_cast at hct
      go_wp2_with fail
      refine (markText_c _ _ (by have := W0.out; omega)).mono ?_
      rintro e w1 ⟨rfl, hb1⟩
      replace O0 := Lib.hid (O0.out.keep hb1)
      replace T0 := Lib.hid (T0.out.trans (Touch.below (fp := fp) hb1))
      obtain ⟨y0, f0, qc0, qf0, od0, _, _, hgm0, hgl0, _, hset0⟩ := Own.sub O0.out ND.out (j * 8 + 0) (.str xs[j].name) ((get_at (L := [.str xs[j].name, .str xs[j].of, .bool xs[j].list, .bool xs[j].must, .bool xs[j].far, .bool xs[j].hidden, .bool xs[j].shared, slD strD 1 xs[j].needs]) HAL.out (j := 0) (by show 0 < 8; decide)).trans rfl)
      replace qc0 : (w1).cell? ⟨g, j * 8, none⟩ = some y0 := qc0
      replace qf0 : (w1).frozen? ⟨g, j * 8, none⟩ = false := qf0
      replace O0 : Hid (Own ((w1).setCell ⟨g, j * 8, none⟩ (.string (mkT (q)))) (.sl 8 xs.length (A ++ ([.str (mkT (q)), .str xs[j].of, .bool xs[j].list, .bool xs[j].must, .bool xs[j].far, .bool xs[j].hidden, .bool xs[j].shared, slD strD 1 xs[j].needs] ++ C))) (.slice (some ⟨g, 0, none⟩) xs.length cap) fp) := by
        have := hset0 (Own.flat od0 trivial) (.str (mkT (q))) (.string (mkT (q))) (fun w_ => by simp only [Own, true_and, and_true]; exact mkT_size _ (by have := W0.out; omega))
        rw [set_at (L := [.str xs[j].name, .str xs[j].of, .bool xs[j].list, .bool xs[j].must, .bool xs[j].far, .bool xs[j].hidden, .bool xs[j].shared, slD strD 1 xs[j].needs]) HAL.out (by show 0 < 8; decide)] at this
        exact this
      replace T0 : Hid (Touch w ((w1).setCell ⟨g, j * 8, none⟩ (.string (mkT (q)))) fp) := T0.out.trans (Touch.set hgm0 _)
      clear hset0 od0
      go_wp2_with fail
      refine (markText_c _ _ (by have := W0.out; omega)).mono ?_
      rintro e w2 ⟨rfl, hb2⟩
      replace O0 := Lib.hid (O0.out.keep hb2)
      replace T0 := Lib.hid (T0.out.trans (Touch.below (fp := fp) hb2))
      obtain ⟨y1, f1, qc1, qf1, od1, _, _, hgm1, hgl1, _, hset1⟩ := Own.sub O0.out ND.out (j * 8 + 1) (.str xs[j].of) ((get_at (L := [.str (mkT (q)), .str xs[j].of, .bool xs[j].list, .bool xs[j].must, .bool xs[j].far, .bool xs[j].hidden, .bool xs[j].shared, slD strD 1 xs[j].needs]) HAL.out (j := 1) (by show 1 < 8; decide)).trans rfl)
      replace O0 : Hid (Own ((w2).setCell ⟨g, j * 8 + 1, none⟩ (.string (mkT (q + 1)))) (.sl 8 xs.length (A ++ ([.str (mkT (q)), .str (mkT (q + 1)), .bool xs[j].list, .bool xs[j].must, .bool xs[j].far, .bool xs[j].hidden, .bool xs[j].shared, slD strD 1 xs[j].needs] ++ C))) (.slice (some ⟨g, 0, none⟩) xs.length cap) fp) := by
        have := hset1 (Own.flat od1 trivial) (.str (mkT (q + 1))) (.string (mkT (q + 1))) (fun w_ => by simp only [Own, true_and, and_true]; exact mkT_size _ (by have := W0.out; omega))
        rw [set_at (L := [.str (mkT (q)), .str xs[j].of, .bool xs[j].list, .bool xs[j].must, .bool xs[j].far, .bool xs[j].hidden, .bool xs[j].shared, slD strD 1 xs[j].needs]) HAL.out (by show 1 < 8; decide)] at this
        exact this
      replace T0 : Hid (Touch w ((w2).setCell ⟨g, j * 8 + 1, none⟩ (.string (mkT (q + 1)))) fp) := T0.out.trans (Touch.set hgm1 _)
      clear hset1 od1
      obtain ⟨y2, f2, qc2, qf2, od2, _, _, hgm2, hgl2, _, hset2⟩ := Own.sub O0.out ND.out (j * 8 + 2) (.bool xs[j].list) ((get_at (L := [.str (mkT (q)), .str (mkT (q + 1)), .bool xs[j].list, .bool xs[j].must, .bool xs[j].far, .bool xs[j].hidden, .bool xs[j].shared, slD strD 1 xs[j].needs]) HAL.out (j := 2) (by show 2 < 8; decide)).trans rfl)
      replace O0 : Hid (Own ((((w2).setCell ⟨g, j * 8 + 1, none⟩ (.string (mkT (q + 1))))).setCell ⟨g, j * 8 + 2, none⟩ (.bool ((q + 1 + 1) % 3 == 0))) (.sl 8 xs.length (A ++ ([.str (mkT (q)), .str (mkT (q + 1)), .bool ((q + 1 + 1) % 3 == 0), .bool xs[j].must, .bool xs[j].far, .bool xs[j].hidden, .bool xs[j].shared, slD strD 1 xs[j].needs] ++ C))) (.slice (some ⟨g, 0, none⟩) xs.length cap) fp) := by
        have := hset2 (Own.flat od2 trivial) (.bool ((q + 1 + 1) % 3 == 0)) (.bool ((q + 1 + 1) % 3 == 0)) (fun w_ => by simp only [Own, and_self])
        rw [set_at (L := [.str (mkT (q)), .str (mkT (q + 1)), .bool xs[j].list, .bool xs[j].must, .bool xs[j].far, .bool xs[j].hidden, .bool xs[j].shared, slD strD 1 xs[j].needs]) HAL.out (by show 2 < 8; decide)] at this
        exact this
      replace T0 : Hid (Touch w ((((w2).setCell ⟨g, j * 8 + 1, none⟩ (.string (mkT (q + 1))))).setCell ⟨g, j * 8 + 2, none⟩ (.bool ((q + 1 + 1) % 3 == 0))) fp) := T0.out.trans (Touch.set hgm2 _)
      clear hset2 od2
      obtain ⟨y3, f3, qc3, qf3, od3, _, _, hgm3, hgl3, _, hset3⟩ := Own.sub O0.out ND.out (j * 8 + 3) (.bool xs[j].must) ((get_at (L := [.str (mkT (q)), .str (mkT (q + 1)), .bool ((q + 1 + 1) % 3 == 0), .bool xs[j].must, .bool xs[j].far, .bool xs[j].hidden, .bool xs[j].shared, slD strD 1 xs[j].needs]) HAL.out (j := 3) (by show 3 < 8; decide)).trans rfl)
      replace O0 : Hid (Own ((((((w2).setCell ⟨g, j * 8 + 1, none⟩ (.string (mkT (q + 1))))).setCell ⟨g, j * 8 + 2, none⟩ (.bool ((q + 1 + 1) % 3 == 0)))).setCell ⟨g, j * 8 + 3, none⟩ (.bool ((q + 1 + 1 + 1) % 3 == 0))) (.sl 8 xs.length (A ++ ([.str (mkT (q)), .str (mkT (q + 1)), .bool ((q + 1 + 1) % 3 == 0), .bool ((q + 1 + 1 + 1) % 3 == 0), .bool xs[j].far, .bool xs[j].hidden, .bool xs[j].shared, slD strD 1 xs[j].needs] ++ C))) (.slice (some ⟨g, 0, none⟩) xs.length cap) fp) := by
        have := hset3 (Own.flat od3 trivial) (.bool ((q + 1 + 1 + 1) % 3 == 0)) (.bool ((q + 1 + 1 + 1) % 3 == 0)) (fun w_ => by simp only [Own, and_self])
        rw [set_at (L := [.str (mkT (q)), .str (mkT (q + 1)), .bool ((q + 1 + 1) % 3 == 0), .bool xs[j].must, .bool xs[j].far, .bool xs[j].hidden, .bool xs[j].shared, slD strD 1 xs[j].needs]) HAL.out (by show 3 < 8; decide)] at this
        exact this
      replace T0 : Hid (Touch w ((((((w2).setCell ⟨g, j * 8 + 1, none⟩ (.string (mkT (q + 1))))).setCell ⟨g, j * 8 + 2, none⟩ (.bool ((q + 1 + 1) % 3 == 0)))).setCell ⟨g, j * 8 + 3, none⟩ (.bool ((q + 1 + 1 + 1) % 3 == 0))) fp) := T0.out.trans (Touch.set hgm3 _)
      clear hset3 od3
      obtain ⟨y4, f4, qc4, qf4, od4, _, _, hgm4, hgl4, _, hset4⟩ := Own.sub O0.out ND.out (j * 8 + 4) (.bool xs[j].far) ((get_at (L := [.str (mkT (q)), .str (mkT (q + 1)), .bool ((q + 1 + 1) % 3 == 0), .bool ((q + 1 + 1 + 1) % 3 == 0), .bool xs[j].far, .bool xs[j].hidden, .bool xs[j].shared, slD strD 1 xs[j].needs]) HAL.out (j := 4) (by show 4 < 8; decide)).trans rfl)
      replace O0 : Hid (Own ((((((((w2).setCell ⟨g, j * 8 + 1, none⟩ (.string (mkT (q + 1))))).setCell ⟨g, j * 8 + 2, none⟩ (.bool ((q + 1 + 1) % 3 == 0)))).setCell ⟨g, j * 8 + 3, none⟩ (.bool ((q + 1 + 1 + 1) % 3 == 0)))).setCell ⟨g, j * 8 + 4, none⟩ (.bool ((q + 1 + 1 + 1 + 1) % 3 == 0))) (.sl 8 xs.length (A ++ ([.str (mkT (q)), .str (mkT (q + 1)), .bool ((q + 1 + 1) % 3 == 0), .bool ((q + 1 + 1 + 1) % 3 == 0), .bool ((q + 1 + 1 + 1 + 1) % 3 == 0), .bool xs[j].hidden, .bool xs[j].shared, slD strD 1 xs[j].needs] ++ C))) (.slice (some ⟨g, 0, none⟩) xs.length cap) fp) := by
        have := hset4 (Own.flat od4 trivial) (.bool ((q + 1 + 1 + 1 + 1) % 3 == 0)) (.bool ((q + 1 + 1 + 1 + 1) % 3 == 0)) (fun w_ => by simp only [Own, and_self])
        rw [set_at (L := [.str (mkT (q)), .str (mkT (q + 1)), .bool ((q + 1 + 1) % 3 == 0), .bool ((q + 1 + 1 + 1) % 3 == 0), .bool xs[j].far, .bool xs[j].hidden, .bool xs[j].shared, slD strD 1 xs[j].needs]) HAL.out (by show 4 < 8; decide)] at this
        exact this
      replace T0 : Hid (Touch w ((((((((w2).setCell ⟨g, j * 8 + 1, none⟩ (.string (mkT (q + 1))))).setCell ⟨g, j * 8 + 2, none⟩ (.bool ((q + 1 + 1) % 3 == 0)))).setCell ⟨g, j * 8 + 3, none⟩ (.bool ((q + 1 + 1 + 1) % 3 == 0)))).setCell ⟨g, j * 8 + 4, none⟩ (.bool ((q + 1 + 1 + 1 + 1) % 3 == 0))) fp) := T0.out.trans (Touch.set hgm4 _)
      clear hset4 od4
      obtain ⟨y5, f5, qc5, qf5, od5, _, _, hgm5, hgl5, _, hset5⟩ := Own.sub O0.out ND.out (j * 8 + 5) (.bool xs[j].hidden) ((get_at (L := [.str (mkT (q)), .str (mkT (q + 1)), .bool ((q + 1 + 1) % 3 == 0), .bool ((q + 1 + 1 + 1) % 3 == 0), .bool ((q + 1 + 1 + 1 + 1) % 3 == 0), .bool xs[j].hidden, .bool xs[j].shared, slD strD 1 xs[j].needs]) HAL.out (j := 5) (by show 5 < 8; decide)).trans rfl)
      replace O0 : Hid (Own ((((((((((w2).setCell ⟨g, j * 8 + 1, none⟩ (.string (mkT (q + 1))))).setCell ⟨g, j * 8 + 2, none⟩ (.bool ((q + 1 + 1) % 3 == 0)))).setCell ⟨g, j * 8 + 3, none⟩ (.bool ((q + 1 + 1 + 1) % 3 == 0)))).setCell ⟨g, j * 8 + 4, none⟩ (.bool ((q + 1 + 1 + 1 + 1) % 3 == 0)))).setCell ⟨g, j * 8 + 5, none⟩ (.bool ((q + 1 + 1 + 1 + 1 + 1) % 3 == 0))) (.sl 8 xs.length (A ++ ([.str (mkT (q)), .str (mkT (q + 1)), .bool ((q + 1 + 1) % 3 == 0), .bool ((q + 1 + 1 + 1) % 3 == 0), .bool ((q + 1 + 1 + 1 + 1) % 3 == 0), .bool ((q + 1 + 1 + 1 + 1 + 1) % 3 == 0), .bool xs[j].shared, slD strD 1 xs[j].needs] ++ C))) (.slice (some ⟨g, 0, none⟩) xs.length cap) fp) := by
        have := hset5 (Own.flat od5 trivial) (.bool ((q + 1 + 1 + 1 + 1 + 1) % 3 == 0)) (.bool ((q + 1 + 1 + 1 + 1 + 1) % 3 == 0)) (fun w_ => by simp only [Own, and_self])
        rw [set_at (L := [.str (mkT (q)), .str (mkT (q + 1)), .bool ((q + 1 + 1) % 3 == 0), .bool ((q + 1 + 1 + 1) % 3 == 0), .bool ((q + 1 + 1 + 1 + 1) % 3 == 0), .bool xs[j].hidden, .bool xs[j].shared, slD strD 1 xs[j].needs]) HAL.out (by show 5 < 8; decide)] at this
        exact this
      replace T0 : Hid (Touch w ((((((((((w2).setCell ⟨g, j * 8 + 1, none⟩ (.string (mkT (q + 1))))).setCell ⟨g, j * 8 + 2, none⟩ (.bool ((q + 1 + 1) % 3 == 0)))).setCell ⟨g, j * 8 + 3, none⟩ (.bool ((q + 1 + 1 + 1) % 3 == 0)))).setCell ⟨g, j * 8 + 4, none⟩ (.bool ((q + 1 + 1 + 1 + 1) % 3 == 0)))).setCell ⟨g, j * 8 + 5, none⟩ (.bool ((q + 1 + 1 + 1 + 1 + 1) % 3 == 0))) fp) := T0.out.trans (Touch.set hgm5 _)
      clear hset5 od5
      obtain ⟨y6, f6, qc6, qf6, od6, _, _, hgm6, hgl6, _, hset6⟩ := Own.sub O0.out ND.out (j * 8 + 6) (.bool xs[j].shared) ((get_at (L := [.str (mkT (q)), .str (mkT (q + 1)), .bool ((q + 1 + 1) % 3 == 0), .bool ((q + 1 + 1 + 1) % 3 == 0), .bool ((q + 1 + 1 + 1 + 1) % 3 == 0), .bool ((q + 1 + 1 + 1 + 1 + 1) % 3 == 0), .bool xs[j].shared, slD strD 1 xs[j].needs]) HAL.out (j := 6) (by show 6 < 8; decide)).trans rfl)
      replace O0 : Hid (Own ((((((((((((w2).setCell ⟨g, j * 8 + 1, none⟩ (.string (mkT (q + 1))))).setCell ⟨g, j * 8 + 2, none⟩ (.bool ((q + 1 + 1) % 3 == 0)))).setCell ⟨g, j * 8 + 3, none⟩ (.bool ((q + 1 + 1 + 1) % 3 == 0)))).setCell ⟨g, j * 8 + 4, none⟩ (.bool ((q + 1 + 1 + 1 + 1) % 3 == 0)))).setCell ⟨g, j * 8 + 5, none⟩ (.bool ((q + 1 + 1 + 1 + 1 + 1) % 3 == 0)))).setCell ⟨g, j * 8 + 6, none⟩ (.bool ((q + 1 + 1 + 1 + 1 + 1 + 1) % 3 == 0))) (.sl 8 xs.length (A ++ ([.str (mkT (q)), .str (mkT (q + 1)), .bool ((q + 1 + 1) % 3 == 0), .bool ((q + 1 + 1 + 1) % 3 == 0), .bool ((q + 1 + 1 + 1 + 1) % 3 == 0), .bool ((q + 1 + 1 + 1 + 1 + 1) % 3 == 0), .bool ((q + 1 + 1 + 1 + 1 + 1 + 1) % 3 == 0), slD strD 1 xs[j].needs] ++ C))) (.slice (some ⟨g, 0, none⟩) xs.length cap) fp) := by
        have := hset6 (Own.flat od6 trivial) (.bool ((q + 1 + 1 + 1 + 1 + 1 + 1) % 3 == 0)) (.bool ((q + 1 + 1 + 1 + 1 + 1 + 1) % 3 == 0)) (fun w_ => by simp only [Own, and_self])
        rw [set_at (L := [.str (mkT (q)), .str (mkT (q + 1)), .bool ((q + 1 + 1) % 3 == 0), .bool ((q + 1 + 1 + 1) % 3 == 0), .bool ((q + 1 + 1 + 1 + 1) % 3 == 0), .bool ((q + 1 + 1 + 1 + 1 + 1) % 3 == 0), .bool xs[j].shared, slD strD 1 xs[j].needs]) HAL.out (by show 6 < 8; decide)] at this
        exact this
      replace T0 : Hid (Touch w ((((((((((((w2).setCell ⟨g, j * 8 + 1, none⟩ (.string (mkT (q + 1))))).setCell ⟨g, j * 8 + 2, none⟩ (.bool ((q + 1 + 1) % 3 == 0)))).setCell ⟨g, j * 8 + 3, none⟩ (.bool ((q + 1 + 1 + 1) % 3 == 0)))).setCell ⟨g, j * 8 + 4, none⟩ (.bool ((q + 1 + 1 + 1 + 1) % 3 == 0)))).setCell ⟨g, j * 8 + 5, none⟩ (.bool ((q + 1 + 1 + 1 + 1 + 1) % 3 == 0)))).setCell ⟨g, j * 8 + 6, none⟩ (.bool ((q + 1 + 1 + 1 + 1 + 1 + 1) % 3 == 0))) fp) := T0.out.trans (Touch.set hgm6 _)
      clear hset6 od6
      obtain ⟨y7, f7, qc7, qf7, od7, nd7, hsub7, hgm7, hgl7, hput7, _⟩ := Own.sub O0.out ND.out (j * 8 + 7) (slD strD 1 xs[j].needs) ((get_at (L := [.str (mkT (q)), .str (mkT (q + 1)), .bool ((q + 1 + 1) % 3 == 0), .bool ((q + 1 + 1 + 1) % 3 == 0), .bool ((q + 1 + 1 + 1 + 1) % 3 == 0), .bool ((q + 1 + 1 + 1 + 1 + 1) % 3 == 0), .bool ((q + 1 + 1 + 1 + 1 + 1 + 1) % 3 == 0), slD strD 1 xs[j].needs]) HAL.out (j := 7) (by show 7 < 8; decide)).trans rfl)
      obtain ⟨B7, b7, rfl⟩ := Own.slD od7
      have OD7 := Lib.hid od7
      have ND7 := Lib.hid nd7
      have HS7 := Lib.hid hsub7
      have HP7 := Lib.hid hput7
      clear od7 nd7 hsub7 hput7
      go_wp2_with fail
      refine (mkStringS_c _ _ _ _ _ OD7.out ND7.out (by omega) (by have := W0.out; omega)).mono ?_
      rintro e w3 ⟨rfl, o7, t7⟩
      replace O0 : Hid (Own w3 (.sl 8 xs.length (A ++ ([.str (mkT (q)), .str (mkT (q + 1)), .bool ((q + 1 + 1) % 3 == 0), .bool ((q + 1 + 1 + 1) % 3 == 0), .bool ((q + 1 + 1 + 1 + 1) % 3 == 0), .bool ((q + 1 + 1 + 1 + 1 + 1) % 3 == 0), .bool ((q + 1 + 1 + 1 + 1 + 1 + 1) % 3 == 0), slD strD 1 (mkTs xs[j].needs (q + 1 + 1 + 1 + 1 + 1 + 1 + 1))] ++ C))) (.slice (some ⟨g, 0, none⟩) xs.length cap) fp) := by
        have := HP7.out w3 _ t7 o7
        rw [set_at (L := [.str (mkT (q)), .str (mkT (q + 1)), .bool ((q + 1 + 1) % 3 == 0), .bool ((q + 1 + 1 + 1) % 3 == 0), .bool ((q + 1 + 1 + 1 + 1) % 3 == 0), .bool ((q + 1 + 1 + 1 + 1 + 1) % 3 == 0), .bool ((q + 1 + 1 + 1 + 1 + 1 + 1) % 3 == 0), slD strD 1 xs[j].needs]) HAL.out (by show 7 < 8; decide)] at this
        exact this
      replace T0 : Hid (Touch w w3 fp) := T0.out.trans (t7.mono HS7.out)
      clear o7 t7 HP7 OD7 ND7 HS7
      go_wp2
      go_roundw
      case rel =>
        refine ⟨j + 1, by omega, by go_num, _, rfl, by omega, by have := W0.out; omega, ?_, ?_, T0.out⟩
        · have h1 := HQ.out
          have h2 := JField.cnts_take xs j hlt
          have h3 := JField.cnt_eq xs[j]
          unfold Hid
          omega
        · have := O0.out
          rw [HA.out, HC.out] at this
          unfold Hid
          rw [JField.mks_take _ _ _ hlt, ← HQ.out, List.flatMap_append, List.flatMap_singleton, List.append_assoc, JField.enc_eq, JField.mk_eq]
          exact this
      case measure => simp [intOf]; omega
    · go_wp2
      go_ret
      have e : j = xs.length := by omega
      exact Marked.int (by have := HQ.out; rw [e, List.take_length] at this; exact this) (by have := HR.out; rw [e, List.take_length, List.drop_length, List.flatMap_nil, List.append_nil] at this; unfold slD; rw [JField.mks_len]; exact this) HT.out
theorem mkFieldS_c (xs : List JField) : MkFieldS xs := mkFieldS_of xs

def MkTypS (xs : List JTyp) : Prop := ∀ (v : Value) (fp : List Nat) (k : Int) (w : World), Own w (slD JTyp.enc 3 xs) v fp → fp.Nodup → 0 ≤ k → k + (JTyp.cnts xs : Nat) ≤ 4611686018427387904 →
    Calls Try.prog 68 #[v, .int .i64 k] w (Marked w (slD JTyp.enc 3 (JTyp.mks xs k)) v fp (k + (JTyp.cnts xs : Nat)))
set_option maxHeartbeats 6400000 in
set_option maxRecDepth 100000 in
theorem mkTypS_of (xs : List JTyp) : MkTypS xs := by
  intro v fp k w ho nd h0 h1
  rcases Own.head ho with ⟨hn, A, c, rfl⟩ | ⟨g, cap, rfl⟩
  · obtain rfl : xs = [] := List.eq_nil_of_length_eq_zero hn
    have HO := Lib.hid ho
    clear ho nd
    go_enter Try.func68, Try.ntmps68
    go_wp2
    go_loop [1, 5] (fun a i => i = .int .i64 0 ∧ a = .int .i64 k) (fun _ _ => 0)
    case atStart => exact ⟨rfl, rfl⟩
    case round =>
      obtain ⟨rfl, rfl⟩ := hrel
      go_wp2
      go_ret
      exact Marked.int (by simp [JTyp.cnts]) (by simpa [JTyp.mks] using HO.out) (Touch.refl _ _)
  have HO := Lib.hid ho
  have ND := Lib.hid nd
  have hm : xs.length ≤ 9223372036854775807 := by
    simp only [slD, Own] at ho
    rcases ho.2 with ⟨h, _⟩ | ⟨g', cap', cur, e, fs, hv, hb, hn, hcap, hsz, _⟩
    · cases h
    · unfold maxLen at hcap; omega
  clear ho nd
  skip
  go_enter Try.func68, Try.ntmps68
  go_wp2
  go_loopw [1, 5] (fun a i wr => ∃ j : Nat, j ≤ xs.length ∧ i = .int .i64 j ∧ ∃ q : Int, a = .int .i64 q ∧ 0 ≤ q ∧ q ≤ 4611686018427387904 ∧ Hid (q = k + (JTyp.cnts (xs.take j) : Nat)) ∧ Hid (Own wr (.sl 3 xs.length ((JTyp.mks (xs.take j) k).flatMap JTyp.enc ++ (xs.drop j).flatMap JTyp.enc)) (.slice (some ⟨g, 0, none⟩) xs.length cap) fp) ∧ Hid (Touch w wr fp)) (fun _ i _ => xs.length - (intOf i).toNat)
  case atStart => exact ⟨0, Nat.zero_le _, rfl, k, rfl, h0, by omega, by simp [JTyp.cnts, Hid], by simpa [JTyp.mks, slD, Hid] using HO.out, Touch.refl _ _⟩
  case round =>
    obtain ⟨j, hj, rfl, q, rfl, hq0, hq1, HQ, HR, HT⟩ := hrel
    by_cases hlt : j < xs.length
    · obtain ⟨A, hA⟩ : ∃ A, A = (JTyp.mks (xs.take j) k).flatMap JTyp.enc := ⟨_, rfl⟩
      obtain ⟨C, hC⟩ : ∃ C, C = (xs.drop (j + 1)).flatMap JTyp.enc := ⟨_, rfl⟩
      have hAl : A.length = j * 3 := by rw [hA, flat_length JTyp.enc_len, JTyp.mks_len, List.length_take]; congr 1; omega
      have o0 : Own wr (.sl 3 xs.length (A ++ ([.str xs[j].name, .str xs[j].key, slD JField.enc 8 xs[j].fields] ++ C))) (.slice (some ⟨g, 0, none⟩) xs.length cap) fp := by
        have := HR.out
        rw [List.drop_eq_getElem_cons hlt, List.flatMap_cons, ← hA, ← hC, JTyp.enc_eq] at this
        exact this
      have hct : q + (JTyp.cnt xs[j] : Nat) ≤ 4611686018427387904 := by
        have h2 := JTyp.cnts_take xs j hlt
        have h3 := JTyp.cnts_le xs (j + 1)
        have h4 := HQ.out
        omega
      rw [JTyp.cnt_eq] at hct
      have W0 := Lib.hid hct
      have HAL := Lib.hid hAl
      have HA := Lib.hid hA
      have HC := Lib.hid hC
      have O0 := Lib.hid o0
      have T0 := HT
      clear o0 hA hC hAl
      push_cast at hct
      go_wp2_with fail
      refine (markText_c _ _ (by have := W0.out; omega)).mono ?_
      rintro e w1 ⟨rfl, hb1⟩
      replace O0 := Lib.hid (O0.out.keep hb1)
      replace T0 := Lib.hid (T0.out.trans (Touch.below (fp := fp) hb1))
      obtain ⟨y0, f0, qc0, qf0, od0, _, _, hgm0, hgl0, _, hset0⟩ := Own.sub O0.out ND.out (j * 3 + 0) (.str xs[j].name) ((get_at (L := [.str xs[j].name, .str xs[j].key, slD JField.enc 8 xs[j].fields]) HAL.out (j := 0) (by show 0 < 3; decide)).trans rfl)
      replace qc0 : (w1).cell? ⟨g, j * 3, none⟩ = some y0 := qc0
      replace qf0 : (w1).frozen? ⟨g, j * 3, none⟩ = false := qf0
      replace O0 : Hid (Own ((w1).setCell ⟨g, j * 3, none⟩ (.string (mkT (q)))) (.sl 3 xs.length (A ++ ([.str (mkT (q)), .str xs[j].key, slD JField.enc 8 xs[j].fields] ++ C))) (.slice (some ⟨g, 0, none⟩) xs.length cap) fp) := by
        have := hset0 (Own.flat od0 trivial) (.str (mkT (q))) (.string (mkT (q))) (fun w_ => by simp only [Own, true_and, and_true]; exact mkT_size _ (by have := W0.out; omega))
        rw [set_at (L := [.str xs[j].name, .str xs[j].key, slD JField.enc 8 xs[j].fields]) HAL.out (by show 0 < 3; decide)] at this
        exact this
      replace T0 : Hid (Touch w ((w1).setCell ⟨g, j * 3, none⟩ (.string (mkT (q)))) fp) := T0.out.trans (Touch.set hgm0 _)
      clear hset0 od0
      go_wp2_with fail
      refine (markText_c _ _ (by have := W0.out; omega)).mono ?_
      rintro e w2 ⟨rfl, hb2⟩
      replace O0 := Lib.hid (O0.out.keep hb2)
      replace T0 := Lib.hid (T0.out.trans (Touch.below (fp := fp) hb2))
      obtain ⟨y1, f1, qc1, qf1, od1, _, _, hgm1, hgl1, _, hset1⟩ := Own.sub O0.out ND.out (j * 3 + 1) (.str xs[j].key) ((get_at (L := [.str (mkT (q)), .str xs[j].key, slD JField.enc 8 xs[j].fields]) HAL.out (j := 1) (by show 1 < 3; decide)).trans rfl)
      replace O0 : Hid (Own ((w2).setCell ⟨g, j * 3 + 1, none⟩ (.string (mkT (q + 1)))) (.sl 3 xs.length (A ++ ([.str (mkT (q)), .str (mkT (q + 1)), slD JField.enc 8 xs[j].fields] ++ C))) (.slice (some ⟨g, 0, none⟩) xs.length cap) fp) := by
        have := hset1 (Own.flat od1 trivial) (.str (mkT (q + 1))) (.string (mkT (q + 1))) (fun w_ => by simp only [Own, true_and, and_true]; exact mkT_size _ (by have := W0.out; omega))
        rw [set_at (L := [.str (mkT (q)), .str xs[j].key, slD JField.enc 8 xs[j].fields]) HAL.out (by show 1 < 3; decide)] at this
        exact this
      replace T0 : Hid (Touch w ((w2).setCell ⟨g, j * 3 + 1, none⟩ (.string (mkT (q + 1)))) fp) := T0.out.trans (Touch.set hgm1 _)
      clear hset1 od1
      obtain ⟨y2, f2, qc2, qf2, od2, nd2, hsub2, hgm2, hgl2, hput2, _⟩ := Own.sub O0.out ND.out (j * 3 + 2) (slD JField.enc 8 xs[j].fields) ((get_at (L := [.str (mkT (q)), .str (mkT (q + 1)), slD JField.enc 8 xs[j].fields]) HAL.out (j := 2) (by show 2 < 3; decide)).trans rfl)
      obtain ⟨B2, b2, rfl⟩ := Own.slD od2
      have OD2 := Lib.hid od2
      have ND2 := Lib.hid nd2
      have HS2 := Lib.hid hsub2
      have HP2 := Lib.hid hput2
      clear od2 nd2 hsub2 hput2
      go_wp2_with fail
      refine (mkFieldS_c _ _ _ _ _ OD2.out ND2.out (by omega) (by have := W0.out; omega)).mono ?_
      rintro e w3 ⟨rfl, o2, t2⟩
      replace O0 : Hid (Own w3 (.sl 3 xs.length (A ++ ([.str (mkT (q)), .str (mkT (q + 1)), slD JField.enc 8 (JField.mks xs[j].fields (q + 1 + 1))] ++ C))) (.slice (some ⟨g, 0, none⟩) xs.length cap) fp) := by
        have := HP2.out w3 _ t2 o2
        rw [set_at (L := [.str (mkT (q)), .str (mkT (q + 1)), slD JField.enc 8 xs[j].fields]) HAL.out (by show 2 < 3; decide)] at this
        exact this
      replace T0 : Hid (Touch w w3 fp) := T0.out.trans (t2.mono HS2.out)
      clear o2 t2 HP2 OD2 ND2 HS2
      go_wp2
      go_roundw
      case rel =>
        refine ⟨j + 1, by omega, by go_num, _, rfl, by omega, by have := W0.out; omega, ?_, ?_, T0.out⟩
        · have h1 := HQ.out
          have h2 := JTyp.cnts_take xs j hlt
          have h3 := JTyp.cnt_eq xs[j]
          unfold Hid
          omega
        · have := O0.out
          rw [HA.out, HC.out] at this
          unfold Hid
          rw [JTyp.mks_take _ _ _ hlt, ← HQ.out, List.flatMap_append, List.flatMap_singleton, List.append_assoc, JTyp.enc_eq, JTyp.mk_eq]
          exact this
      case measure => simp [intOf]; omega
    · go_wp2
      go_ret
      have e : j = xs.length := by omega
      exact Marked.int (by have := HQ.out; rw [e, List.take_length] at this; exact this) (by have := HR.out; rw [e, List.take_length, List.drop_length, List.flatMap_nil, List.append_nil] at this; unfold slD; rw [JTyp.mks_len]; exact this) HT.out
theorem mkTypS_c (xs : List JTyp) : MkTypS xs := mkTypS_of xs

def MkOwnerS (xs : List JOwner) : Prop := ∀ (v : Value) (fp : List Nat) (k : Int) (w : World), Own w (slD JOwner.enc 3 xs) v fp → fp.Nodup → 0 ≤ k → k + (JOwner.cnts xs : Nat) ≤ 4611686018427387904 →
    Calls Try.prog 55 #[v, .int .i64 k] w (Marked w (slD JOwner.enc 3 (JOwner.mks xs k)) v fp (k + (JOwner.cnts xs : Nat)))
set_option maxHeartbeats 6400000 in
set_option maxRecDepth 100000 in
theorem mkOwnerS_of (xs : List JOwner) : MkOwnerS xs := by
  intro v fp k w ho nd h0 h1
  rcases Own.head ho with ⟨hn, A, c, rfl⟩ | ⟨g, cap, rfl⟩
  · obtain rfl : xs = [] := List.eq_nil_of_length_eq_zero hn
    have HO := Lib.hid ho
    clear ho nd
    go_enter Try.func55, Try.ntmps55
    go_wp2
    go_loop [1, 5] (fun a i => i = .int .i64 0 ∧ a = .int .i64 k) (fun _ _ => 0)
    case atStart => exact ⟨rfl, rfl⟩
    case round =>
      obtain ⟨rfl, rfl⟩ := hrel
      go_wp2
      go_ret
      exact Marked.int (by simp [JOwner.cnts]) (by simpa [JOwner.mks] using HO.out) (Touch.refl _ _)
  have HO := Lib.hid ho
  have ND := Lib.hid nd
  have hm : xs.length ≤ 9223372036854775807 := by
    simp only [slD, Own] at ho
    rcases ho.2 with ⟨h, _⟩ | ⟨g', cap', cur, e, fs, hv, hb, hn, hcap, hsz, _⟩
    · cases h
    · unfold maxLen at hcap; omega
  clear ho nd
  skip
  go_enter Try.func55, Try.ntmps55
  go_wp2
  go_loopw [1, 5] (fun a i wr => ∃ j : Nat, j ≤ xs.length ∧ i = .int .i64 j ∧ ∃ q : Int, a = .int .i64 q ∧ 0 ≤ q ∧ q ≤ 4611686018427387904 ∧ Hid (q = k + (JOwner.cnts (xs.take j) : Nat)) ∧ Hid (Own wr (.sl 3 xs.length ((JOwner.mks (xs.take j) k).flatMap JOwner.enc ++ (xs.drop j).flatMap JOwner.enc)) (.slice (some ⟨g, 0, none⟩) xs.length cap) fp) ∧ Hid (Touch w wr fp)) (fun _ i _ => xs.length - (intOf i).toNat)
  case atStart => exact ⟨0, Nat.zero_le _, rfl, k, rfl, h0, by omega, by simp [JOwner.cnts, Hid], by simpa [JOwner.mks, slD, Hid] using HO.out, Touch.refl _ _⟩
  case round =>
    obtain ⟨j, hj, rfl, q, rfl, hq0, hq1, HQ, HR, HT⟩ := hrel
    by_cases hlt : j < xs.length
    · obtain ⟨A, hA⟩ : ∃ A, A = (JOwner.mks (xs.take j) k).flatMap JOwner.enc := ⟨_, rfl⟩
      obtain ⟨C, hC⟩ : ∃ C, C = (xs.drop (j + 1)).flatMap JOwner.enc := ⟨_, rfl⟩
      have hAl : A.length = j * 3 := by rw [hA, flat_length JOwner.enc_len, JOwner.mks_len, List.length_take]; congr 1; omega
      have o0 : Own wr (.sl 3 xs.length (A ++ ([.str xs[j].typ, .str xs[j].field, slD intD 1 xs[j].parts] ++ C))) (.slice (some ⟨g, 0, none⟩) xs.length cap) fp := by
        have := HR.out
        rw [List.drop_eq_getElem_cons hlt, List.flatMap_cons, ← hA, ← hC, JOwner.enc_eq] at this
        exact this
      have hct : q + (JOwner.cnt xs[j] : Nat) ≤ 4611686018427387904 := by
        have h2 := JOwner.cnts_take xs j hlt
        have h3 := JOwner.cnts_le xs (j + 1)
        have h4 := HQ.out
        omega
      rw [JOwner.cnt_eq] at hct
      have W0 := Lib.hid hct
      have HAL := Lib.hid hAl
      have HA := Lib.hid hA
      have HC := Lib.hid hC
      have O0 := Lib.hid o0
      have T0 := HT
      clear o0 hA hC hAl
      push_cast at hct
      go_wp2_with fail
      refine (markText_c _ _ (by have := W0.out; omega)).mono ?_
      rintro e w1 ⟨rfl, hb1⟩
      replace O0 := Lib.hid (O0.out.keep hb1)
      replace T0 := Lib.hid (T0.out.trans (Touch.below (fp := fp) hb1))
      obtain ⟨y0, f0, qc0, qf0, od0, _, _, hgm0, hgl0, _, hset0⟩ := Own.sub O0.out ND.out (j * 3 + 0) (.str xs[j].typ) ((get_at (L := [.str xs[j].typ, .str xs[j].field, slD intD 1 xs[j].parts]) HAL.out (j := 0) (by show 0 < 3; decide)).trans rfl)
      replace qc0 : (w1).cell? ⟨g, j * 3, none⟩ = some y0 := qc0
      replace qf0 : (w1).frozen? ⟨g, j * 3, none⟩ = false := qf0
      replace O0 : Hid (Own ((w1).setCell ⟨g, j * 3, none⟩ (.string (mkT (q)))) (.sl 3 xs.length (A ++ ([.str (mkT (q)), .str xs[j].field, slD intD 1 xs[j].parts] ++ C))) (.slice (some ⟨g, 0, none⟩) xs.length cap) fp) := by
        have := hset0 (Own.flat od0 trivial) (.str (mkT (q))) (.string (mkT (q))) (fun w_ => by simp only [Own, true_and, and_true]; exact mkT_size _ (by have := W0.out; omega))
        rw [set_at (L := [.str xs[j].typ, .str xs[j].field, slD intD 1 xs[j].parts]) HAL.out (by show 0 < 3; decide)] at this
        exact this
      replace T0 : Hid (Touch w ((w1).setCell ⟨g, j * 3, none⟩ (.string (mkT (q)))) fp) := T0.out.trans (Touch.set hgm0 _)
      clear hset0 od0
      go_wp2_with fail
      refine (markText_c _ _ (by have := W0.out; omega)).mono ?_
      rintro e w2 ⟨rfl, hb2⟩
      replace O0 := Lib.hid (O0.out.keep hb2)
      replace T0 := Lib.hid (T0.out.trans (Touch.below (fp := fp) hb2))
      obtain ⟨y1, f1, qc1, qf1, od1, _, _, hgm1, hgl1, _, hset1⟩ := Own.sub O0.out ND.out (j * 3 + 1) (.str xs[j].field) ((get_at (L := [.str (mkT (q)), .str xs[j].field, slD intD 1 xs[j].parts]) HAL.out (j := 1) (by show 1 < 3; decide)).trans rfl)
      replace O0 : Hid (Own ((w2).setCell ⟨g, j * 3 + 1, none⟩ (.string (mkT (q + 1)))) (.sl 3 xs.length (A ++ ([.str (mkT (q)), .str (mkT (q + 1)), slD intD 1 xs[j].parts] ++ C))) (.slice (some ⟨g, 0, none⟩) xs.length cap) fp) := by
        have := hset1 (Own.flat od1 trivial) (.str (mkT (q + 1))) (.string (mkT (q + 1))) (fun w_ => by simp only [Own, true_and, and_true]; exact mkT_size _ (by have := W0.out; omega))
        rw [set_at (L := [.str (mkT (q)), .str xs[j].field, slD intD 1 xs[j].parts]) HAL.out (by show 1 < 3; decide)] at this
        exact this
      replace T0 : Hid (Touch w ((w2).setCell ⟨g, j * 3 + 1, none⟩ (.string (mkT (q + 1)))) fp) := T0.out.trans (Touch.set hgm1 _)
      clear hset1 od1
      obtain ⟨y2, f2, qc2, qf2, od2, nd2, hsub2, hgm2, hgl2, hput2, _⟩ := Own.sub O0.out ND.out (j * 3 + 2) (slD intD 1 xs[j].parts) ((get_at (L := [.str (mkT (q)), .str (mkT (q + 1)), slD intD 1 xs[j].parts]) HAL.out (j := 2) (by show 2 < 3; decide)).trans rfl)
      obtain ⟨B2, b2, rfl⟩ := Own.slD od2
      have OD2 := Lib.hid od2
      have ND2 := Lib.hid nd2
      have HS2 := Lib.hid hsub2
      have HP2 := Lib.hid hput2
      clear od2 nd2 hsub2 hput2
      go_wp2_with fail
      refine (mkIntS_c _ _ _ _ _ OD2.out ND2.out (by omega) (by have := W0.out; omega)).mono ?_
      rintro e w3 ⟨rfl, o2, t2⟩
      replace O0 : Hid (Own w3 (.sl 3 xs.length (A ++ ([.str (mkT (q)), .str (mkT (q + 1)), slD intD 1 (mkIs xs[j].parts (q + 1 + 1))] ++ C))) (.slice (some ⟨g, 0, none⟩) xs.length cap) fp) := by
        have := HP2.out w3 _ t2 o2
        rw [set_at (L := [.str (mkT (q)), .str (mkT (q + 1)), slD intD 1 xs[j].parts]) HAL.out (by show 2 < 3; decide)] at this
        exact this
      replace T0 : Hid (Touch w w3 fp) := T0.out.trans (t2.mono HS2.out)
      clear o2 t2 HP2 OD2 ND2 HS2
      go_wp2
      go_roundw
      case rel =>
        refine ⟨j + 1, by omega, by go_num, _, rfl, by omega, by have := W0.out; omega, ?_, ?_, T0.out⟩
        · have h1 := HQ.out
          have h2 := JOwner.cnts_take xs j hlt
          have h3 := JOwner.cnt_eq xs[j]
          unfold Hid
          omega
        · have := O0.out
          rw [HA.out, HC.out] at this
          unfold Hid
          rw [JOwner.mks_take _ _ _ hlt, ← HQ.out, List.flatMap_append, List.flatMap_singleton, List.append_assoc, JOwner.enc_eq, JOwner.mk_eq]
          exact this
      case measure => simp [intOf]; omega
    · go_wp2
      go_ret
      have e : j = xs.length := by omega
      exact Marked.int (by have := HQ.out; rw [e, List.take_length] at this; exact this) (by have := HR.out; rw [e, List.take_length, List.drop_length, List.flatMap_nil, List.append_nil] at this; unfold slD; rw [JOwner.mks_len]; exact this) HT.out
theorem mkOwnerS_c (xs : List JOwner) : MkOwnerS xs := mkOwnerS_of xs

end Go.Proofs.Ytmkagpmdindlpaa.Lib
