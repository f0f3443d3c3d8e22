/- The program's isWord and twice. No condition beyond sizes that every text has. -/
import Derived.Test.YtmkagpmdindlpaaSlices
import Derived.Deep.QuietTactic
import Derived.BigQuiet
import Derived.StillTailTactics
import Derived.Deep.RegionHeld3
set_option linter.unusedVariables false
set_option linter.unusedSimpArgs false
namespace Go.Proofs.Ytmkagpmdindlpaa.Lib
open Go.RowKit

theorem Rd.take {w : World} {xs : List ByteArray} {A : Option Addr} {n c k : Nat} (h : Rd w (slD strD 1 xs) (.slice A n c)) (hk : k ≤ xs.length) : Rd w (slD strD 1 (xs.take k)) (.slice A k c) := by
  have hn := Rd.len h
  simp only [slD, Rd] at h ⊢
  obtain ⟨A', c', hv, h2, h3, h4, h5⟩ := h
  injection hv with e1 e2 e3
  subst e1 e3
  refine ⟨A, c, by rw [List.length_take, Nat.min_eq_left hk], by rw [List.length_take]; omega, h3, flat_length strD_len _, fun hp => ?_⟩
  rw [List.length_take] at hp
  obtain ⟨ad, rfl, hr⟩ := h5 (by omega)
  refine ⟨ad, rfl, RdRow.mk fun i d hd => ?_⟩
  have hi : i < (xs.take k).length := by
    have := (List.getElem?_eq_some_iff.1 hd).1
    rwa [flat_length strD_len, Nat.mul_one] at this
  have e1 := flat_get strD_len (xs.take k) i (xs.take k)[i] (List.getElem?_eq_getElem hi) 0 (by omega)
  rw [List.length_take] at hi
  have e2 := flat_get strD_len xs i xs[i] (by simp) 0 (by omega)
  rw [Nat.mul_one, Nat.add_zero, hd, List.getElem_take] at e1
  rw [Nat.mul_one, Nat.add_zero] at e2
  exact RdRow.get hr i d (e2.trans e1.symm)

set_option maxRecDepth 100000 in
set_option maxHeartbeats 4000000 in
theorem isWord_c (s : ByteArray) (w : World) (hs : s.size ≤ 9223372036854775807) : Calls Try.prog 92 #[.string s] w (Ret w (.bool (tf (OkName s)))) := by
  have kc := fun (w : World) (s : ByteArray) => run_bytes_of_string (P := Try.prog) w 9 67 5 s Try.underlying9 Try.underlying67 Try.underlying5
  have HB := Lib.hid (fun W m => bytes_made W s 5 m (by unfold maxLen; omega))
  have hlen : s.data.toList.length = s.size := rfl
  go_enter Try.func92, Try.ntmps92
  go_wp2_with fail
  have HR0 : Rd ((w.alloc (Obj.cells (bytesRow s (grownCap w s.size 0 5)) 5 ((bytesRow s (grownCap w s.size 0 5)).size, (bytesRow s (grownCap w s.size 0 5)).size + 1))).drew) (slD byteD 1 s.data.toList) (.slice (some ⟨w.heap.size, 0, none⟩) s.size (grownCap w s.size 0 5)) := HB.out w _
  have hb0 : Below w.heap.size w ((w.alloc (Obj.cells (bytesRow s (grownCap w s.size 0 5)) 5 ((bytesRow s (grownCap w s.size 0 5)).size, (bytesRow s (grownCap w s.size 0 5)).size + 1))).drew) := bytes_below w _
  generalize hW : (w.alloc (Obj.cells (bytesRow s (grownCap w s.size 0 5)) 5 ((bytesRow s (grownCap w s.size 0 5)).size, (bytesRow s (grownCap w s.size 0 5)).size + 1))).drew = W at HR0 hb0 ⊢
  have HR := Lib.hid HR0
  clear HR0 hW kc HB
  go_loopw [8, 3, 4] (fun i _ _ wr => ∃ k : Nat, k ≤ s.size ∧ i = .int .i64 k ∧ wr = W ∧ Hid (∀ j (h : j < s.size), j < k → NameByte j s[j])) (fun i _ _ _ => s.size - (intOf i).toNat)
  case atStart => exact ⟨0, Nat.zero_le _, rfl, rfl, fun j h hj => absurd hj (by omega)⟩
  case round =>
    obtain ⟨k, hk, rfl, rfl, HA⟩ := hrel
    by_cases hlt : k < s.size
    · obtain ⟨ad, ea, hc⟩ := Rd.elem_byte HR.out k hlt
      injection ea with ea
      subst ea
      rw [add_plain] at hc
      have hsk : s[k] = s.data.toList[k] := by simp [ByteArray.getElem_eq_getElem_data]
      have good : NameByte k s[k] → ∃ k2 : Nat, k2 ≤ s.size ∧ Value.int .i64 ((k : Int) + 1) = .int .i64 k2 ∧ wr = wr ∧ Hid (∀ j (h : j < s.size), j < k2 → NameByte j s[j]) := fun hg => ⟨k + 1, by omega, by go_num, rfl, fun j h hj => by
            by_cases e : j = k
            · subst e; exact hg
            · exact HA.out j h (by omega)⟩
      have good := Lib.hid good
      have bad : ¬ NameByte k s[k] → Ret w (.bool (tf (OkName s))) (.returned (.bool false)) wr := fun hg => Ret.f (fun h => hg (h.2 k hlt)) hb0
      have bad := Lib.hid bad
      rw [← hsk] at hc
      clear hsk
      have hb255 : (s[k].toNat : Int) ≤ 255 := by have := s[k].toNat_lt; omega
      generalize hb : (s[k].toNat) = b at *
      have key : NameByte k s[k] ↔ (97 ≤ b ∧ b ≤ 122) ∨ b = 95 ∨ (0 < k ∧ 48 ≤ b ∧ b ≤ 57) := by unfold NameByte InI; rw [hb]; omega
      have key := Lib.hid key
      clear hb
      by_cases h1 : InI b 97 122
      · have h1 := Lib.hid h1
        go_wp2_with fail
        refine (in_c _ _ _ _).mono ?_
        intro e w1 hr
        obtain ⟨rfl, rfl⟩ := RetQ.tt h1.out hr
        clear hr
        go_wp2
        go_roundw
        case rel => exact good.out (key.out.2 (by have := h1.out; unfold InI at this; omega))
        case measure => simp [intOf]; omega
      have h1n : ¬ (97 ≤ b ∧ b ≤ 122) := fun h => h1 (by unfold InI; omega)
      have h1n := Lib.hid h1n
      have h1 := Lib.hid h1
      by_cases h3 : b = 95
      · have f95 : ((b : Int) != 95) = false := by rw [h3]; rfl
        replace h3 := Lib.hid h3
        go_wp2_with fail
        refine (in_c _ _ _ _).mono ?_
        intro e w1 hr
        obtain ⟨rfl, rfl⟩ := RetQ.ff h1.out hr
        clear hr
        go_wp2
        go_roundw
        case rel => exact good.out (key.out.2 (.inr (.inl h3.out)))
        case measure => simp [intOf]; omega
      have f95 : ((b : Int) != 95) = true := by rw [bne_iff_ne]; omega
      have h3 := Lib.hid h3
      by_cases h4 : k = 0
      · have f0 : ((k : Int) == 0) = true := by rw [h4]; rfl
        replace h4 := Lib.hid h4
        go_wp2_with fail
        refine (in_c _ _ _ _).mono ?_
        intro e w1 hr
        obtain ⟨rfl, rfl⟩ := RetQ.ff h1.out hr
        clear hr
        go_wp2
        go_ret
        exact bad.out (fun h => by have := key.out.1 h; have := h1n.out; have := h3.out; have := h4.out; omega)
      have f0 : ((k : Int) == 0) = false := by rw [beq_eq_false_iff_ne]; omega
      have h4 := Lib.hid h4
      by_cases h5 : InI b 48 57
      · have h5 := Lib.hid h5
        go_wp2_with fail
        refine (in_c _ _ _ _).mono ?_
        intro e w1 hr
        obtain ⟨rfl, rfl⟩ := RetQ.ff h1.out hr
        clear hr
        go_wp2_with fail
        refine (in_c _ _ _ _).mono ?_
        intro e w1 hr
        obtain ⟨rfl, rfl⟩ := RetQ.tt h5.out hr
        clear hr
        go_wp2
        go_roundw
        case rel => exact good.out (key.out.2 (by have := h5.out; unfold InI at this; have := h4.out; omega))
        case measure => simp [intOf]; omega
      · have h5n : ¬ (48 ≤ b ∧ b ≤ 57) := fun h => h5 (by unfold InI; omega)
        have h5n := Lib.hid h5n
        have h5 := Lib.hid h5
        go_wp2_with fail
        refine (in_c _ _ _ _).mono ?_
        intro e w1 hr
        obtain ⟨rfl, rfl⟩ := RetQ.ff h1.out hr
        clear hr
        go_wp2_with fail
        refine (in_c _ _ _ _).mono ?_
        intro e w1 hr
        obtain ⟨rfl, rfl⟩ := RetQ.ff h5.out hr
        clear hr
        go_wp2
        go_ret
        exact bad.out (fun h => by have := key.out.1 h; have := h1n.out; have := h3.out; have := h5n.out; omega)
    · by_cases h6 : InI s.size 1 9
      · have h6 := Lib.hid h6
        go_wp2_with fail
        refine (in_c _ _ _ _).mono ?_
        intro e w1 hr
        obtain ⟨rfl, rfl⟩ := RetQ.tt h6.out hr
        clear hr
        go_wp2
        go_ret
        exact Ret.t (p := OkName s) ⟨h6.out, fun j h => HA.out j h (by omega)⟩ hb0
      · have h6 := Lib.hid h6
        go_wp2_with fail
        refine (in_c _ _ _ _).mono ?_
        intro e w1 hr
        obtain ⟨rfl, rfl⟩ := RetQ.ff h6.out hr
        clear hr
        go_wp2
        go_ret
        exact Ret.f (p := OkName s) (fun h => h6.out h.1) hb0

/-- A text stands twice. -/
def Twice (xs : List ByteArray) : Prop := ∃ i, ∃ h : i < xs.length, xs[i] ∈ xs.take i
theorem containsStr_n (xs : List ByteArray) (A : Option Addr) (n c : Nat) (v : ByteArray) (w : World) (hx : Rd w (slD strD 1 xs) (.slice A n c)) :
    Calls Try.prog 93 #[.slice A n c, .string v] w (RetQ w (.bool (tf (v ∈ xs)))) := by
  obtain rfl := Rd.len hx
  exact containsStr_c xs A c v w hx
set_option maxRecDepth 100000 in
theorem twice_c (xs : List ByteArray) (A : Option Addr) (c : Nat) (w : World) (hx : Rd w (slD strD 1 xs) (.slice A xs.length c)) :
    Calls Try.prog 98 #[.slice A xs.length c] w (Ret w (.bool (tf (Twice xs)))) := by
  obtain ⟨_, _, e_, hm0, hm1, _⟩ := Rd.slice hx
  injection e_ with ea _ ec
  subst ea ec
  unfold maxLen at hm1
  have hm : xs.length ≤ 9223372036854775807 := by omega
  have HX := Lib.hid hx
  clear hx
  go_enter Try.func98, Try.ntmps98
  go_wp2
  go_loopw [7, 3, 4] (fun i _ _ wr => ∃ k : Nat, k ≤ xs.length ∧ i = .int .i64 k ∧ wr = w ∧ Hid (∀ j (h : j < xs.length), j < k → ¬ xs[j] ∈ xs.take j)) (fun i _ _ _ => xs.length - (intOf i).toNat)
  case atStart => exact ⟨0, Nat.zero_le _, rfl, rfl, fun j h hj => absurd hj (by omega)⟩
  case round =>
    obtain ⟨k, hk, rfl, rfl, HA⟩ := hrel
    by_cases hlt : k < xs.length
    · obtain ⟨ad, ea, hc, hsz⟩ := Rd.elem_str HX.out k hlt
      subst ea
      have hkc : k ≤ c := by omega
      by_cases hq : xs[k] ∈ xs.take k
      · have hq := Lib.hid hq
        go_wp2_with fail
        refine (containsStr_n (xs.take k) _ _ _ _ _ (Rd.take HX.out hk)).mono ?_
        intro e w1 hr
        obtain ⟨rfl, rfl⟩ := RetQ.tt hq.out hr
        clear hr
        go_wp2
        go_ret
        exact Ret.t ⟨k, hlt, hq.out⟩ (Below.refl _ _)
      · have hq := Lib.hid hq
        go_wp2_with fail
        refine (containsStr_n (xs.take k) _ _ _ _ _ (Rd.take HX.out hk)).mono ?_
        intro e w1 hr
        obtain ⟨rfl, rfl⟩ := RetQ.ff hq.out hr
        clear hr
        go_wp2
        go_roundw
        case rel => exact ⟨k + 1, by omega, by go_num, by trivial, fun j h hj => by
            by_cases e : j = k
            · subst e; exact hq.out
            · exact HA.out j h (by omega)⟩
        case measure => simp [intOf]; omega
    · go_wp2
      go_ret
      exact Ret.f (p := Twice xs) (fun ⟨j, h, hj⟩ => HA.out j h (by omega) hj) (Below.refl _ _)
end Go.Proofs.Ytmkagpmdindlpaa.Lib
