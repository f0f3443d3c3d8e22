/- The laws' marks: contracts of the functions that lay them and of those that look for them. Printed by gmark.py. Numbers from 0 to 2^62. -/
import Derived.Test.YtmkagpmdindlpaaDoorProg
import Derived.Test.YtmkagpmdindlpaaDoorBulk
import Derived.Test.YtmkagpmdindlpaaDoorOwnLib
import Derived.Deep.RegionHeld3
import Derived.Deep.QuietTactic
import Derived.BigQuiet
set_option linter.unusedVariables false
set_option linter.unusedSimpArgs false
namespace Go.Proofs.YtmkagpmdindlpaaDoor.Lib
open Go.RowKit
def digB (k : Int) : ByteArray := strOfNums [48 + k % 10]
def decT (k : Int) (out : ByteArray) : ByteArray := if h : 0 < k then decT (k / 10) (digB k ++ out) else out
termination_by k.toNat
decreasing_by omega
/-- The mark of a number. -/
def mkT (k : Int) : ByteArray := if k ≤ 0 then ⟨#[109, 48]⟩ else ⟨#[109]⟩ ++ decT k ⟨#[]⟩
theorem conv_one (src e dst : TypeId) (hs : Tryd.prog.underlying src = some (.slice e)) (he : Tryd.prog.underlying e = some (.int .u8)) (hd : Tryd.prog.underlying dst = some .string) (t : TypeId) (W : World) (n : Int) :
    (convert src dst (.slice (some ⟨W.heap.size, 0, none⟩) 1 1)).run Tryd.prog (W.alloc (.cells #[.int .u8 n] t)) = .ok (.string (strOfNums [n])) (W.alloc (.cells #[.int .u8 n] t)) :=
  run_convert_bytes_arg _ src e hs he W.heap.size 0 1 1 [n] rfl (fun i hi => by
    obtain rfl : i = 0 := by omega
    simp) dst hd
def MarkText (k : Int) : Prop := ∀ (w : World), k ≤ 4611686018427387904 → Calls Tryd.prog 24 #[.int .i64 k] w (Ret w (.string (mkT k)))
theorem mk_size (s : ByteArray) (x : Int) : (strOfNums [48 + x % 10] ++ s).size = s.size + 1 := by
  rw [ByteArray.size_append, strOfNums_size]; simp; omega
theorem decT_size : ∀ (n : Nat) (x : Int) (s : ByteArray), x.toNat ≤ n → (decT x s).size ≤ s.size + x.toNat
  | 0, x, s, h => by rw [decT, dif_neg (by omega)]; omega
  | n + 1, x, s, h => by
    rw [decT]
    split
    · have := decT_size n (x / 10) (digB x ++ s) (by omega)
      have h2 := mk_size s x
      unfold digB at this ⊢
      omega
    · omega
theorem mkT_size (k : Int) (h : k ≤ 4611686018427387904) : (mkT k).size ≤ 9223372036854775807 := by
  unfold mkT
  split
  · decide
  · rw [ByteArray.size_append]
    have := decT_size k.toNat k ⟨#[]⟩ (Nat.le_refl _)
    have h1 : (⟨#[109]⟩ : ByteArray).size = 1 := rfl
    have h2 : (⟨#[]⟩ : ByteArray).size = 0 := rfl
    omega
set_option maxHeartbeats 800000 in
set_option maxRecDepth 100000 in
theorem markText_c (k : Int) : MarkText k := by
  intro w h1
  have kc := conv_one 53 5 9 Tryd.underlying53 Tryd.underlying5 Tryd.underlying9 5
  by_cases c1 : k ≤ 0
  · go_enter Tryd.func24, Tryd.ntmps24
    go_wp2
    go_ret
    exact ⟨by unfold mkT; rw [if_pos c1]; rfl, Below.refl _ _⟩
  · go_enter Tryd.func24, Tryd.ntmps24
    go_wp2
    go_loopw [0, 3] (fun a b wr => ∃ (x : Int) (s : ByteArray), a = .int .i64 x ∧ b = .string s ∧ 0 ≤ x ∧ x ≤ 4611686018427387904 ∧ s.size + x.toNat ≤ 4611686018427387904 ∧ Hid (decT x s = decT k ⟨#[]⟩) ∧ Below w.heap.size w wr) (fun a _ _ => (intOf a).toNat)
    case atStart => exact ⟨k, ⟨#[]⟩, rfl, rfl, by omega, by omega, by show 0 + _ ≤ _; omega, rfl, Below.refl _ _⟩
    case round =>
      obtain ⟨x, s, rfl, rfl, hx0, hx1, hs, HR, hb⟩ := hrel
      by_cases hlt : 0 < x
      · have hsz : ¬ 9223372036854775807 < (strOfNums [48 + x % 10]).size + s.size := by rw [strOfNums_size]; simp; omega
        go_wp2
        go_roundw
        case rel => exact ⟨x / 10, _, rfl, rfl, by omega, by omega, by rw [mk_size]; omega, by have := HR.out; rw [decT, dif_pos hlt] at this; exact this, hb.alloc hb.size _⟩
        case measure => simp [intOf]; omega
      · have hsz : ¬ 9223372036854775807 < 1 + s.size := by omega
        go_wp2
        go_ret
        exact ⟨by have := HR.out; rw [decT, dif_neg (by omega)] at this; unfold mkT; rw [if_neg (by omega), ← this]; rfl, hb⟩
/-- Texts marked from k on. -/
def mkTs : List ByteArray → Int → List ByteArray
  | [], _ => []
  | _ :: r, k => mkT k :: mkTs r (k + 1)
theorem mkTs_len : ∀ (xs : List ByteArray) (k : Int), (mkTs xs k).length = xs.length
  | [], _ => rfl
  | _ :: r, k => by simp [mkTs, mkTs_len r]
theorem mkTs_get : ∀ (xs : List ByteArray) (k : Int) (i : Nat) (h : i < (mkTs xs k).length), (mkTs xs k)[i] = mkT (k + i)
  | [], _, _, h => by simp [mkTs] at h
  | _ :: r, k, 0, h => by simp [mkTs]
  | _ :: r, k, i + 1, h => by
    simp only [mkTs, List.getElem_cons_succ]
    rw [mkTs_get r (k + 1) i]
    congr 1
    push_cast
    omega
theorem mkTs_take : ∀ (xs : List ByteArray) (k : Int) (j : Nat) (h : j < xs.length), mkTs (xs.take (j + 1)) k = mkTs (xs.take j) k ++ [mkT (k + j)]
  | [], _, _, h => by simp at h
  | _ :: r, k, 0, h => by simp [mkTs]
  | _ :: r, k, j + 1, h => by
    simp only [List.take_succ_cons, mkTs, List.cons_append]
    rw [mkTs_take r (k + 1) j (by simpa using h), show k + 1 + (j : Int) = k + ((j + 1 : Nat) : Int) by push_cast; omega]
/-- Numbers marked from k on. -/
def mkIs : List Int → Int → List Int
  | [], _ => []
  | _ :: r, k => k :: mkIs r (k + 1)
theorem mkIs_len : ∀ (xs : List Int) (k : Int), (mkIs xs k).length = xs.length
  | [], _ => rfl
  | _ :: r, k => by simp [mkIs, mkIs_len r]
theorem mkIs_get : ∀ (xs : List Int) (k : Int) (i : Nat) (h : i < (mkIs xs k).length), (mkIs xs k)[i] = k + i
  | [], _, _, h => by simp [mkIs] at h
  | _ :: r, k, 0, h => by simp [mkIs]
  | _ :: r, k, i + 1, h => by
    simp only [mkIs, List.getElem_cons_succ]
    rw [mkIs_get r (k + 1) i]
    push_cast
    omega
theorem mkIs_take : ∀ (xs : List Int) (k : Int) (j : Nat) (h : j < xs.length), mkIs (xs.take (j + 1)) k = mkIs (xs.take j) k ++ [k + j]
  | [], _, _, h => by simp at h
  | _ :: r, k, 0, h => by simp [mkIs]
  | _ :: r, k, j + 1, h => by
    simp only [List.take_succ_cons, mkIs, List.cons_append]
    rw [mkIs_take r (k + 1) j (by simpa using h), show k + 1 + (j : Int) = k + ((j + 1 : Nat) : Int) by push_cast; omega]

mutual
def JSel.cnt : JSel → Nat
  | ⟨y0, y1, y2, y3, y4⟩ => 1 + 1 + 1 + 1 + JSel.cnts y4
def JSel.cnts : List JSel → Nat
  | [] => 0
  | x :: r => JSel.cnt x + JSel.cnts r
end
theorem JSel.cnt_eq (x : JSel) : JSel.cnt x = 1 + 1 + 1 + 1 + JSel.cnts x.kids := by cases x; simp only [JSel.cnt]
mutual
def JSel.mk_ : JSel → Int → JSel
  | ⟨y0, y1, y2, y3, y4⟩, k => ⟨mkT (k), mkT (k + 1), ((k + 1 + 1) % 3 == 0), (k + 1 + 1 + 1), JSel.mks y4 (k + 1 + 1 + 1 + 1)⟩
def JSel.mks : List JSel → Int → List JSel
  | [], _ => []
  | x :: r, k => JSel.mk_ x k :: JSel.mks r (k + (JSel.cnt x : Nat))
end
theorem JSel.mk_eq (x : JSel) (k : Int) : JSel.mk_ x k = ⟨mkT (k), mkT (k + 1), ((k + 1 + 1) % 3 == 0), (k + 1 + 1 + 1), JSel.mks x.kids (k + 1 + 1 + 1 + 1)⟩ := by cases x; simp only [JSel.mk_]
theorem JSel.mks_len : ∀ (xs : List JSel) (k : Int), (JSel.mks xs k).length = xs.length
  | [], _ => by simp [JSel.mks]
  | x :: r, k => by simp [JSel.mks, JSel.mks_len r]
theorem JSel.cnts_take (xs : List JSel) (j : Nat) (h : j < xs.length) : JSel.cnts (xs.take (j + 1)) = JSel.cnts (xs.take j) + JSel.cnt xs[j] := by
  induction xs generalizing j with
  | nil => simp at h
  | cons x r ih =>
    cases j with
    | zero => simp [JSel.cnts]
    | succ j =>
      have := ih j (by simpa using h)
      simp only [List.take_succ_cons, JSel.cnts, List.getElem_cons_succ]
      omega
theorem JSel.cnts_le (xs : List JSel) (j : Nat) : JSel.cnts (xs.take j) ≤ JSel.cnts xs := by
  induction xs generalizing j with
  | nil => simp
  | cons x r ih =>
    cases j with
    | zero => simp [JSel.cnts]
    | succ j =>
      have := ih j
      simp only [List.take_succ_cons, JSel.cnts]
      omega
theorem JSel.mks_take (xs : List JSel) (j : Nat) (k : Int) (h : j < xs.length) : JSel.mks (xs.take (j + 1)) k = JSel.mks (xs.take j) k ++ [JSel.mk_ xs[j] (k + (JSel.cnts (xs.take j) : Nat))] := by
  induction xs generalizing j k with
  | nil => simp at h
  | cons x r ih =>
    cases j with
    | zero => simp [JSel.mks, JSel.cnts]
    | succ j =>
      have := ih j (k + (JSel.cnt x : Nat)) (by simpa using h)
      simp only [List.take_succ_cons, JSel.mks, JSel.cnts, List.getElem_cons_succ, List.cons_append, this]
      rw [show k + ((JSel.cnt x : Nat) : Int) + ((JSel.cnts (r.take j) : Nat) : Int) = k + ((JSel.cnt x + JSel.cnts (r.take j) : Nat) : Int) by push_cast; omega]
theorem JSel.mks_get (xs : List JSel) (j : Nat) (k : Int) (h : j < xs.length) : (JSel.mks xs k)[j]'(by rw [JSel.mks_len]; exact h) = JSel.mk_ xs[j] (k + (JSel.cnts (xs.take j) : Nat)) := by
  induction xs generalizing j k with
  | nil => simp at h
  | cons x r ih =>
    cases j with
    | zero => simp [JSel.mks, JSel.cnts]
    | succ j =>
      have := ih j (k + (JSel.cnt x : Nat)) (by simpa using h)
      simp only [List.take_succ_cons, JSel.mks, JSel.cnts, List.getElem_cons_succ, this]
      rw [show k + ((JSel.cnt x : Nat) : Int) + ((JSel.cnts (r.take j) : Nat) : Int) = k + ((JSel.cnt x + JSel.cnts (r.take j) : Nat) : Int) by push_cast; omega]

def MkSelS (xs : List JSel) : Prop := ∀ (v : Value) (fp : List Nat) (k : Int) (w : World), Own w (slD JSel.enc 5 xs) v fp → fp.Nodup → 0 ≤ k → k + (JSel.cnts xs : Nat) ≤ 4611686018427387904 →
    Calls Tryd.prog 10 #[v, .int .i64 k] w (Marked w (slD JSel.enc 5 (JSel.mks xs k)) v fp (k + (JSel.cnts xs : Nat)))
set_option maxHeartbeats 6400000 in
set_option maxRecDepth 100000 in
theorem mkSelS_of (xs : List JSel) (hK : ∀ x, x ∈ xs → MkSelS x.kids) : MkSelS xs := by
  intro v fp k w ho nd h0 h1
  rcases Own.head ho with ⟨hn, A, c, rfl⟩ | ⟨g, cap, rfl⟩
  · obtain rfl : xs = [] := List.eq_nil_of_length_eq_zero hn
    have HO := Lib.hid ho
    clear ho nd
    go_enter Tryd.func10, Tryd.ntmps10
    go_wp2
    go_loop [1, 5] (fun a i => i = .int .i64 0 ∧ a = .int .i64 k) (fun _ _ => 0)
    case atStart => exact ⟨rfl, rfl⟩
    case round =>
      obtain ⟨rfl, rfl⟩ := hrel
      go_wp2
      go_ret
      exact Marked.int (by simp [JSel.cnts]) (by simpa [JSel.mks] using HO.out) (Touch.refl _ _)
  have HO := Lib.hid ho
  have ND := Lib.hid nd
  have hm : xs.length ≤ 9223372036854775807 := by
    simp only [slD, Own] at ho
    rcases ho.2 with ⟨h, _⟩ | ⟨g', cap', cur, e, fs, hv, hb, hn, hcap, hsz, _⟩
    · cases h
    · unfold maxLen at hcap; omega
  clear ho nd
  have HK := Lib.hid hK
  clear hK
  go_enter Tryd.func10, Tryd.ntmps10
  go_wp2
  go_loopw [1, 5] (fun a i wr => ∃ j : Nat, j ≤ xs.length ∧ i = .int .i64 j ∧ ∃ q : Int, a = .int .i64 q ∧ 0 ≤ q ∧ q ≤ 4611686018427387904 ∧ Hid (q = k + (JSel.cnts (xs.take j) : Nat)) ∧ Hid (Own wr (.sl 5 xs.length ((JSel.mks (xs.take j) k).flatMap JSel.enc ++ (xs.drop j).flatMap JSel.enc)) (.slice (some ⟨g, 0, none⟩) xs.length cap) fp) ∧ Hid (Touch w wr fp)) (fun _ i _ => xs.length - (intOf i).toNat)
  case atStart => exact ⟨0, Nat.zero_le _, rfl, k, rfl, h0, by omega, by simp [JSel.cnts, Hid], by simpa [JSel.mks, slD, Hid] using HO.out, Touch.refl _ _⟩
  case round =>
    obtain ⟨j, hj, rfl, q, rfl, hq0, hq1, HQ, HR, HT⟩ := hrel
    by_cases hlt : j < xs.length
    · obtain ⟨A, hA⟩ : ∃ A, A = (JSel.mks (xs.take j) k).flatMap JSel.enc := ⟨_, rfl⟩
      obtain ⟨C, hC⟩ : ∃ C, C = (xs.drop (j + 1)).flatMap JSel.enc := ⟨_, rfl⟩
      have hAl : A.length = j * 5 := by rw [hA, flat_length JSel.enc_len, JSel.mks_len, List.length_take]; congr 1; omega
      have o0 : Own wr (.sl 5 xs.length (A ++ ([.str xs[j].as_, .str xs[j].name, .bool xs[j].one, .int .i64 xs[j].id, slD JSel.enc 5 xs[j].kids] ++ C))) (.slice (some ⟨g, 0, none⟩) xs.length cap) fp := by
        have := HR.out
        rw [List.drop_eq_getElem_cons hlt, List.flatMap_cons, ← hA, ← hC, JSel.enc_eq] at this
        exact this
      have hct : q + (JSel.cnt xs[j] : Nat) ≤ 4611686018427387904 := by
        have h2 := JSel.cnts_take xs j hlt
        have h3 := JSel.cnts_le xs (j + 1)
        have h4 := HQ.out
        omega
      rw [JSel.cnt_eq] at hct
      have W0 := Lib.hid hct
      have HAL := Lib.hid hAl
      have HA := Lib.hid hA
      have HC := Lib.hid hC
      have O0 := Lib.hid o0
      have T0 := HT
      clear o0 hA hC hAl
      push_cast at hct
      go_wp2_with fail
      refine (markText_c _ _ (by have := W0.out; omega)).mono ?_
      rintro e w1 ⟨rfl, hb1⟩
      replace O0 := Lib.hid (O0.out.keep hb1)
      replace T0 := Lib.hid (T0.out.trans (Touch.below (fp := fp) hb1))
      obtain ⟨y0, f0, qc0, qf0, od0, _, _, hgm0, hgl0, _, hset0⟩ := Own.sub O0.out ND.out (j * 5 + 0) (.str xs[j].as_) ((get_at (L := [.str xs[j].as_, .str xs[j].name, .bool xs[j].one, .int .i64 xs[j].id, slD JSel.enc 5 xs[j].kids]) HAL.out (j := 0) (by show 0 < 5; decide)).trans rfl)
      replace qc0 : (w1).cell? ⟨g, j * 5, none⟩ = some y0 := qc0
      replace qf0 : (w1).frozen? ⟨g, j * 5, none⟩ = false := qf0
      replace O0 : Hid (Own ((w1).setCell ⟨g, j * 5, none⟩ (.string (mkT (q)))) (.sl 5 xs.length (A ++ ([.str (mkT (q)), .str xs[j].name, .bool xs[j].one, .int .i64 xs[j].id, slD JSel.enc 5 xs[j].kids] ++ C))) (.slice (some ⟨g, 0, none⟩) xs.length cap) fp) := by
        have := hset0 (Own.flat od0 trivial) (.str (mkT (q))) (.string (mkT (q))) (fun w_ => by simp only [Own, true_and, and_true]; exact mkT_size _ (by have := W0.out; omega))
        rw [set_at (L := [.str xs[j].as_, .str xs[j].name, .bool xs[j].one, .int .i64 xs[j].id, slD JSel.enc 5 xs[j].kids]) HAL.out (by show 0 < 5; decide)] at this
        exact this
      replace T0 : Hid (Touch w ((w1).setCell ⟨g, j * 5, none⟩ (.string (mkT (q)))) fp) := T0.out.trans (Touch.set hgm0 _)
      clear hset0 od0
      go_wp2_with fail
      refine (markText_c _ _ (by have := W0.out; omega)).mono ?_
      rintro e w2 ⟨rfl, hb2⟩
      replace O0 := Lib.hid (O0.out.keep hb2)
      replace T0 := Lib.hid (T0.out.trans (Touch.below (fp := fp) hb2))
      obtain ⟨y1, f1, qc1, qf1, od1, _, _, hgm1, hgl1, _, hset1⟩ := Own.sub O0.out ND.out (j * 5 + 1) (.str xs[j].name) ((get_at (L := [.str (mkT (q)), .str xs[j].name, .bool xs[j].one, .int .i64 xs[j].id, slD JSel.enc 5 xs[j].kids]) HAL.out (j := 1) (by show 1 < 5; decide)).trans rfl)
      replace O0 : Hid (Own ((w2).setCell ⟨g, j * 5 + 1, none⟩ (.string (mkT (q + 1)))) (.sl 5 xs.length (A ++ ([.str (mkT (q)), .str (mkT (q + 1)), .bool xs[j].one, .int .i64 xs[j].id, slD JSel.enc 5 xs[j].kids] ++ C))) (.slice (some ⟨g, 0, none⟩) xs.length cap) fp) := by
        have := hset1 (Own.flat od1 trivial) (.str (mkT (q + 1))) (.string (mkT (q + 1))) (fun w_ => by simp only [Own, true_and, and_true]; exact mkT_size _ (by have := W0.out; omega))
        rw [set_at (L := [.str (mkT (q)), .str xs[j].name, .bool xs[j].one, .int .i64 xs[j].id, slD JSel.enc 5 xs[j].kids]) HAL.out (by show 1 < 5; decide)] at this
        exact this
      replace T0 : Hid (Touch w ((w2).setCell ⟨g, j * 5 + 1, none⟩ (.string (mkT (q + 1)))) fp) := T0.out.trans (Touch.set hgm1 _)
      clear hset1 od1
      obtain ⟨y2, f2, qc2, qf2, od2, _, _, hgm2, hgl2, _, hset2⟩ := Own.sub O0.out ND.out (j * 5 + 2) (.bool xs[j].one) ((get_at (L := [.str (mkT (q)), .str (mkT (q + 1)), .bool xs[j].one, .int .i64 xs[j].id, slD JSel.enc 5 xs[j].kids]) HAL.out (j := 2) (by show 2 < 5; decide)).trans rfl)
      replace O0 : Hid (Own ((((w2).setCell ⟨g, j * 5 + 1, none⟩ (.string (mkT (q + 1))))).setCell ⟨g, j * 5 + 2, none⟩ (.bool ((q + 1 + 1) % 3 == 0))) (.sl 5 xs.length (A ++ ([.str (mkT (q)), .str (mkT (q + 1)), .bool ((q + 1 + 1) % 3 == 0), .int .i64 xs[j].id, slD JSel.enc 5 xs[j].kids] ++ C))) (.slice (some ⟨g, 0, none⟩) xs.length cap) fp) := by
        have := hset2 (Own.flat od2 trivial) (.bool ((q + 1 + 1) % 3 == 0)) (.bool ((q + 1 + 1) % 3 == 0)) (fun w_ => by simp only [Own, and_self])
        rw [set_at (L := [.str (mkT (q)), .str (mkT (q + 1)), .bool xs[j].one, .int .i64 xs[j].id, slD JSel.enc 5 xs[j].kids]) HAL.out (by show 2 < 5; decide)] at this
        exact this
      replace T0 : Hid (Touch w ((((w2).setCell ⟨g, j * 5 + 1, none⟩ (.string (mkT (q + 1))))).setCell ⟨g, j * 5 + 2, none⟩ (.bool ((q + 1 + 1) % 3 == 0))) fp) := T0.out.trans (Touch.set hgm2 _)
      clear hset2 od2
      obtain ⟨y3, f3, qc3, qf3, od3, _, _, hgm3, hgl3, _, hset3⟩ := Own.sub O0.out ND.out (j * 5 + 3) (.int .i64 xs[j].id) ((get_at (L := [.str (mkT (q)), .str (mkT (q + 1)), .bool ((q + 1 + 1) % 3 == 0), .int .i64 xs[j].id, slD JSel.enc 5 xs[j].kids]) HAL.out (j := 3) (by show 3 < 5; decide)).trans rfl)
      replace O0 : Hid (Own ((((((w2).setCell ⟨g, j * 5 + 1, none⟩ (.string (mkT (q + 1))))).setCell ⟨g, j * 5 + 2, none⟩ (.bool ((q + 1 + 1) % 3 == 0)))).setCell ⟨g, j * 5 + 3, none⟩ (.int .i64 (q + 1 + 1 + 1))) (.sl 5 xs.length (A ++ ([.str (mkT (q)), .str (mkT (q + 1)), .bool ((q + 1 + 1) % 3 == 0), .int .i64 (q + 1 + 1 + 1), slD JSel.enc 5 xs[j].kids] ++ C))) (.slice (some ⟨g, 0, none⟩) xs.length cap) fp) := by
        have := hset3 (Own.flat od3 trivial) (.int .i64 (q + 1 + 1 + 1)) (.int .i64 (q + 1 + 1 + 1)) (fun w_ => by simp only [Own, and_self])
        rw [set_at (L := [.str (mkT (q)), .str (mkT (q + 1)), .bool ((q + 1 + 1) % 3 == 0), .int .i64 xs[j].id, slD JSel.enc 5 xs[j].kids]) HAL.out (by show 3 < 5; decide)] at this
        exact this
      replace T0 : Hid (Touch w ((((((w2).setCell ⟨g, j * 5 + 1, none⟩ (.string (mkT (q + 1))))).setCell ⟨g, j * 5 + 2, none⟩ (.bool ((q + 1 + 1) % 3 == 0)))).setCell ⟨g, j * 5 + 3, none⟩ (.int .i64 (q + 1 + 1 + 1))) fp) := T0.out.trans (Touch.set hgm3 _)
      clear hset3 od3
      obtain ⟨y4, f4, qc4, qf4, od4, nd4, hsub4, hgm4, hgl4, hput4, _⟩ := Own.sub O0.out ND.out (j * 5 + 4) (slD JSel.enc 5 xs[j].kids) ((get_at (L := [.str (mkT (q)), .str (mkT (q + 1)), .bool ((q + 1 + 1) % 3 == 0), .int .i64 (q + 1 + 1 + 1), slD JSel.enc 5 xs[j].kids]) HAL.out (j := 4) (by show 4 < 5; decide)).trans rfl)
      obtain ⟨B4, b4, rfl⟩ := Own.slD od4
      have OD4 := Lib.hid od4
      have ND4 := Lib.hid nd4
      have HS4 := Lib.hid hsub4
      have HP4 := Lib.hid hput4
      clear od4 nd4 hsub4 hput4
      go_wp2_with fail
      refine (HK.out xs[j] (List.getElem_mem hlt) _ _ _ _ OD4.out ND4.out (by omega) (by have := W0.out; omega)).mono ?_
      rintro e w3 ⟨rfl, o4, t4⟩
      replace O0 : Hid (Own w3 (.sl 5 xs.length (A ++ ([.str (mkT (q)), .str (mkT (q + 1)), .bool ((q + 1 + 1) % 3 == 0), .int .i64 (q + 1 + 1 + 1), slD JSel.enc 5 (JSel.mks xs[j].kids (q + 1 + 1 + 1 + 1))] ++ C))) (.slice (some ⟨g, 0, none⟩) xs.length cap) fp) := by
        have := HP4.out w3 _ t4 o4
        rw [set_at (L := [.str (mkT (q)), .str (mkT (q + 1)), .bool ((q + 1 + 1) % 3 == 0), .int .i64 (q + 1 + 1 + 1), slD JSel.enc 5 xs[j].kids]) HAL.out (by show 4 < 5; decide)] at this
        exact this
      replace T0 : Hid (Touch w w3 fp) := T0.out.trans (t4.mono HS4.out)
      clear o4 t4 HP4 OD4 ND4 HS4
      go_wp2
      go_roundw
      case rel =>
        refine ⟨j + 1, by omega, by go_num, _, rfl, by omega, by have := W0.out; omega, ?_, ?_, T0.out⟩
        · have h1 := HQ.out
          have h2 := JSel.cnts_take xs j hlt
          have h3 := JSel.cnt_eq xs[j]
          unfold Hid
          omega
        · have := O0.out
          rw [HA.out, HC.out] at this
          unfold Hid
          rw [JSel.mks_take _ _ _ hlt, ← HQ.out, List.flatMap_append, List.flatMap_singleton, List.append_assoc, JSel.enc_eq, JSel.mk_eq]
          exact this
      case measure => simp [intOf]; omega
    · go_wp2
      go_ret
      have e : j = xs.length := by omega
      exact Marked.int (by have := HQ.out; rw [e, List.take_length] at this; exact this) (by have := HR.out; rw [e, List.take_length, List.drop_length, List.flatMap_nil, List.append_nil] at this; unfold slD; rw [JSel.mks_len]; exact this) HT.out
theorem mkSelS_all : ∀ m, ∀ xs : List JSel, SizeOf.sizeOf xs < m → MkSelS xs
  | 0 => fun _ h => absurd h (by omega)
  | m + 1 => fun xs h => mkSelS_of xs (fun x hx => mkSelS_all m _ (by have := List.sizeOf_lt_of_mem hx; have := JSel.kids_lt x; omega))
theorem mkSelS_c (xs : List JSel) : MkSelS xs := mkSelS_all _ xs (Nat.lt_succ_self _)

def HeldSelS (ys : List JSel) : Prop := ∀ (k : Int) (A : Option Addr) (c : Nat) (w : World), Rd w (slD JSel.enc 5 (JSel.mks ys k)) (.slice A (JSel.mks ys k).length c) → 0 ≤ k → k + (JSel.cnts ys : Nat) ≤ 4611686018427387904 →
    Calls Tryd.prog 11 #[.slice A (JSel.mks ys k).length c, .int .i64 k] w (Ret w (.int .i64 (k + (JSel.cnts ys : Nat))))
set_option maxHeartbeats 6400000 in
set_option maxRecDepth 100000 in
theorem heldSelS_of (ys : List JSel) (hK : ∀ x, x ∈ ys → HeldSelS x.kids) : HeldSelS ys := by
  intro k A c w hx h0 h1
  obtain ⟨_, _, _, hm0, hm1, _⟩ := Rd.slice hx
  unfold maxLen at hm1
  have hm : ys.length ≤ 9223372036854775807 := by rw [JSel.mks_len] at hm0; omega
  have hme : (JSel.mks ys k).length = ys.length := JSel.mks_len _ _
  have HX := Lib.hid hx
  have HK := Lib.hid hK
  clear hK
  clear hx hm0 hm1
  rw [hme]
  clear hme
  go_enter Tryd.func11, Tryd.ntmps11
  go_wp2
  go_loopw [1, 5] (fun a i wr => ∃ j : Nat, j ≤ ys.length ∧ i = .int .i64 j ∧ ∃ q : Int, a = .int .i64 q ∧ 0 ≤ q ∧ q ≤ 4611686018427387904 ∧ Hid (q = k + (JSel.cnts (ys.take j) : Nat)) ∧ Below w.heap.size w wr) (fun _ i _ => ys.length - (intOf i).toNat)
  case atStart => exact ⟨0, Nat.zero_le _, rfl, k, rfl, h0, by omega, by simp [JSel.cnts, Hid], Below.refl _ _⟩
  case round =>
    obtain ⟨j, hj, rfl, q, rfl, hq0, hq1, HQ, hB0⟩ := hrel
    by_cases hlt : j < ys.length
    · have hlt' : j < (JSel.mks ys k).length := by rw [JSel.mks_len]; exact hlt
      have HG : Hid ((JSel.mks ys k)[j] = JSel.mk_ ys[j] q) := by have := JSel.mks_get ys j k hlt; rw [← HQ.out] at this; exact this
      have hct : q + (JSel.cnt ys[j] : Nat) ≤ 4611686018427387904 := by
        have h2 := JSel.cnts_take ys j hlt
        have h3 := JSel.cnts_le ys (j + 1)
        have h4 := HQ.out
        omega
      rw [JSel.cnt_eq] at hct
      have W0 := Lib.hid hct
      have HL' := Lib.hid hlt'
      push_cast at hct
      obtain ⟨ad, A4, c4, rfl, hx0, hx1, hx2, hx3, hx4, g4, _l0, _l1, _n4⟩ := JSel.elem (HX.out.below hB0) j HL'.out
      rw [HG.out, JSel.mk_eq] at hx0 hx1 hx2 hx3 hx4 g4 _l0 _l1 _n4
      dsimp only at hx0 hx1 hx2 hx3 hx4 g4 _l0 _l1 _n4
      have G4 := Lib.hid g4
      clear hx1 hx2 hx3 hx4 g4
      have hd1 := Below.drew hB0
      go_wp2_with fail
      go_region_held3 (fun w' => w'.cell? (ad.add (j * 5)) = some (.string (mkT (q))) ∧ Below w.heap.size w w') (first | exact ⟨hx0, hd1⟩ | exact ⟨cell_keep hb1 hx0, bt hd1 hb1⟩)
        (first | (go_at_call 24; refine (markText_c _ _ ?_).mono ?_; (have := W0.out; omega); rintro e w1 ⟨rfl, hb1⟩))
      have hB1 : Below w.heap.size w w1 := bt hd1 hb1
      clear hx0
      obtain ⟨ad_, A4, c4, ea, hx0, hx1, hx2, hx3, hx4, g4, _l0, _l1, _n4⟩ := JSel.elem (HX.out.below hB1) j HL'.out
      obtain rfl : ad = ad_ := by injection ea
      rw [HG.out, JSel.mk_eq] at hx0 hx1 hx2 hx3 hx4 g4 _l0 _l1 _n4
      dsimp only at hx0 hx1 hx2 hx3 hx4 g4 _l0 _l1 _n4
      have G4 := Lib.hid g4
      clear hx0 hx2 hx3 hx4 g4
      have hd2 := Below.drew hB1
      go_wp2_with fail
      go_region_held3 (fun w' => w'.cell? ⟨(ad.add (j * 5)).block, (ad.add (j * 5)).off + 1, none⟩ = some (.string (mkT (q + 1))) ∧ Below w.heap.size w w') (first | exact ⟨hx1, hd2⟩ | exact ⟨cell_keep hb2 hx1, bt hd2 hb2⟩)
        (first | (go_at_call 24; refine (markText_c _ _ ?_).mono ?_; (have := W0.out; omega); rintro e w2 ⟨rfl, hb2⟩))
      have hB2 : Below w.heap.size w w2 := bt hd2 hb2
      clear hx1
      obtain ⟨ad_, A4, c4, ea, hx0, hx1, hx2, hx3, hx4, g4, _l0, _l1, _n4⟩ := JSel.elem (HX.out.below hB2) j HL'.out
      obtain rfl : ad = ad_ := by injection ea
      rw [HG.out, JSel.mk_eq] at hx0 hx1 hx2 hx3 hx4 g4 _l0 _l1 _n4
      dsimp only at hx0 hx1 hx2 hx3 hx4 g4 _l0 _l1 _n4
      have G4 := Lib.hid g4
      clear hx0 hx1 g4
      go_wp2_with fail
      refine (HK.out ys[j] (List.getElem_mem hlt) _ _ _ _ G4.out (by omega) (by have := W0.out; omega)).mono ?_
      rintro e w3 ⟨rfl, hb3⟩
      have hB3 : Below w.heap.size w w3 := bt hB2 hb3
      clear hx2 hx3 hx4
      go_wp2
      go_roundw
      case rel =>
        refine ⟨j + 1, by omega, by go_num, _, rfl, by omega, by have := W0.out; omega, ?_, hB3⟩
        have h1 := HQ.out
        have h2 := JSel.cnts_take ys j hlt
        have h3 := JSel.cnt_eq ys[j]
        unfold Hid
        omega
      case measure => simp [intOf]; omega
    · go_wp2
      go_ret
      have e : j = ys.length := by omega
      exact Ret.int (by have := HQ.out; rw [e, List.take_length] at this; exact this) hB0
theorem heldSelS_all : ∀ m, ∀ xs : List JSel, SizeOf.sizeOf xs < m → HeldSelS xs
  | 0 => fun _ h => absurd h (by omega)
  | m + 1 => fun xs h => heldSelS_of xs (fun x hx => heldSelS_all m _ (by have := List.sizeOf_lt_of_mem hx; have := JSel.kids_lt x; omega))
theorem heldSelS_c (xs : List JSel) : HeldSelS xs := heldSelS_all _ xs (Nat.lt_succ_self _)

end Go.Proofs.YtmkagpmdindlpaaDoor.Lib
