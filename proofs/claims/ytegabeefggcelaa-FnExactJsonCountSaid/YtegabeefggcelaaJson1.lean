/- Contracts of the reference's JsonOk and JsonCount and of what they call. No condition. -/
import Derived.Test.YtegabeefggcelaaSlices
import Derived.Deep.QuietTactic
import Derived.BigQuiet
import Derived.StillTailTactics
import Derived.Deep.RegionHeld3
set_option linter.unusedVariables false
set_option linter.unusedSimpArgs false
namespace Go.Proofs.Ytegabeefggcelaa.Lib
open Go.RowKit

theorem Rd.take {w : World} {xs : List ByteArray} {A : Option Addr} {n c k : Nat} (h : Rd w (slD strD 1 xs) (.slice A n c)) (hk : k ≤ xs.length) : Rd w (slD strD 1 (xs.take k)) (.slice A k c) := by
  have hn := Rd.len h
  simp only [slD, Rd] at h ⊢
  obtain ⟨A', c', hv, h2, h3, h4, h5⟩ := h
  injection hv with e1 e2 e3
  subst e1 e3
  refine ⟨A, c, by rw [List.length_take, Nat.min_eq_left hk], by rw [List.length_take]; omega, h3, flat_length strD_len _, fun hp => ?_⟩
  rw [List.length_take] at hp
  obtain ⟨ad, rfl, hr⟩ := h5 (by omega)
  refine ⟨ad, rfl, RdRow.mk fun i d hd => ?_⟩
  have hi : i < (xs.take k).length := by
    have := (List.getElem?_eq_some_iff.1 hd).1
    rwa [flat_length strD_len, Nat.mul_one] at this
  have e1 := flat_get strD_len (xs.take k) i (xs.take k)[i] (List.getElem?_eq_getElem hi) 0 (by omega)
  rw [List.length_take] at hi
  have e2 := flat_get strD_len xs i xs[i] (by simp) 0 (by omega)
  rw [Nat.mul_one, Nat.add_zero, hd, List.getElem_take] at e1
  rw [Nat.mul_one, Nat.add_zero] at e2
  exact RdRow.get hr i d (e2.trans e1.symm)

theorem l1Has_c (xs : List ByteArray) (A : Option Addr) (n c : Nat) (v : ByteArray) (w : World) (hx : Rd w (slD strD 1 xs) (.slice A n c)) :
    Calls Try.prog 83 #[.slice A n c, .string v] w (RetQ w (.bool (tf (v ∈ xs)))) := by
  obtain rfl := Rd.len hx
  obtain ⟨_, _, _, hm0, hm1, _⟩ := Rd.slice hx
  unfold maxLen at hm1
  have hm : xs.length ≤ 9223372036854775807 := by omega
  have HX := Lib.hid hx
  clear hx hm0 hm1
  go_enter Try.func83, Try.ntmps83
  go_wp2
  go_loop [5] (fun i => ∃ k : Nat, k ≤ xs.length ∧ i = .int .i64 k ∧ Hid (∀ j (h : j < xs.length), j < k → ¬ xs[j] = v)) (fun i => xs.length - (intOf i).toNat)
  case atStart => exact ⟨0, Nat.zero_le _, rfl, fun j h hj => absurd hj (by omega)⟩
  case round =>
    obtain ⟨k, hk, rfl, HA⟩ := hrel
    by_cases hlt : k < xs.length
    · obtain ⟨ad, rfl, hc, hsz⟩ := Rd.elem_str HX.out k hlt
      by_cases hp : xs[k] = v
      · have ht := str_t hp
        have hp := Lib.hid hp
        go_wp2
        go_ret
        exact RetQ.t (p := v ∈ xs) (by rw [← hp.out]; exact List.getElem_mem hlt)
      · have ht := str_f hp
        have hp := Lib.hid hp
        go_wp2
        go_round
        case rel => exact ⟨k + 1, by omega, by go_num, fun j h hj => by
            by_cases e : j = k
            · subst e; exact hp.out
            · exact HA.out j h (by omega)⟩
        case measure => simp [intOf]; omega
    · go_wp2
      go_ret
      exact RetQ.f (p := v ∈ xs) (fun h => by
        obtain ⟨j, hj, e⟩ := List.getElem_of_mem h
        exact HA.out j hj (by omega) e)

/-- The names of a value. -/
def NameAt (xs : List ByteArray) (i : Nat) (x : ByteArray) : Prop := OkName x ∧ x ∉ xs.take i
def NamesOk (xs : List ByteArray) : Prop := ∀ i (h : i < xs.length), NameAt xs i xs[i]
/-- What a value itself may be. -/
def Plain (v : JValue) : Prop :=
  (v.sort ≠ 6 → v.names.length = 0) ∧ (v.sort ≠ 4 → v.text = ⟨#[]⟩) ∧ (v.sort ≠ 2 → v.sort ≠ 3 → v.num = 0) ∧
    ((v.sort = 1 ∧ v.kids.length = 0) ∨ (v.sort = 2 ∧ InI v.num 0 1 ∧ v.kids.length = 0) ∨ (v.sort = 3 ∧ InI v.num (-999999) 999999 ∧ v.kids.length = 0) ∨
      (v.sort = 4 ∧ OkText v.text ∧ v.kids.length = 0) ∨ v.sort = 5 ∨ (v.sort = 6 ∧ NamesOk v.names ∧ v.names.length = v.kids.length))
theorem Plain.f1 {v : JValue} (h1 : v.sort ≠ 6) (h2 : 0 < v.names.length) : ¬ Plain v := fun h => by have := h.1 h1; omega
theorem Plain.f2 {v : JValue} (h1 : v.sort ≠ 4) (h2 : ¬ v.text = ⟨#[]⟩) : ¬ Plain v := fun h => h2 (h.2.1 h1)
theorem Plain.f3 {v : JValue} (h1 : v.sort ≠ 2) (h2 : v.sort ≠ 3) (h3 : v.num ≠ 0) : ¬ Plain v := fun h => h3 (h.2.2.1 h1 h2)
theorem Plain.f4 {v : JValue} (h1 : v.sort ≠ 1) (h2 : v.sort ≠ 2) (h3 : v.sort ≠ 3) (h4 : v.sort ≠ 4) (h5 : v.sort ≠ 5) (h6 : v.sort ≠ 6) : ¬ Plain v := fun h => by
  have := h.2.2.2
  simp only [h1, h2, h3, h4, h5, h6, false_and, or_self] at this
theorem plain1 {v : JValue} (hs : v.sort = 1) (h1 : ¬ 0 < v.names.length) (h2 : v.text = ⟨#[]⟩) (h3 : v.num = 0) : Plain v ↔ (v.kids.length : Int) = 0 := by
  unfold Plain
  simp [hs, h2, h3, show v.names.length = 0 by omega]
theorem plain2 {v : JValue} (hs : v.sort = 2) (h1 : ¬ 0 < v.names.length) (h2 : v.text = ⟨#[]⟩) : Plain v ↔ InI v.num 0 1 ∧ (v.kids.length : Int) = 0 := by
  unfold Plain
  simp [hs, h2, show v.names.length = 0 by omega]
theorem plain3 {v : JValue} (hs : v.sort = 3) (h1 : ¬ 0 < v.names.length) (h2 : v.text = ⟨#[]⟩) : Plain v ↔ InI v.num (-999999) 999999 ∧ (v.kids.length : Int) = 0 := by
  unfold Plain
  simp [hs, h2, show v.names.length = 0 by omega]
theorem plain4 {v : JValue} (hs : v.sort = 4) (h1 : ¬ 0 < v.names.length) (h3 : v.num = 0) : Plain v ↔ OkText v.text ∧ (v.kids.length : Int) = 0 := by
  unfold Plain
  simp [hs, h3, show v.names.length = 0 by omega]
theorem plain5 {v : JValue} (hs : v.sort = 5) (h1 : ¬ 0 < v.names.length) (h2 : v.text = ⟨#[]⟩) (h3 : v.num = 0) : Plain v := by
  unfold Plain
  simp [hs, h2, h3, show v.names.length = 0 by omega]
theorem plain6 {v : JValue} (hs : v.sort = 6) (h2 : v.text = ⟨#[]⟩) (h3 : v.num = 0) : Plain v ↔ NamesOk v.names ∧ v.names.length = v.kids.length := by
  unfold Plain
  simp [hs, h2, h3]
end Go.Proofs.Ytegabeefggcelaa.Lib
