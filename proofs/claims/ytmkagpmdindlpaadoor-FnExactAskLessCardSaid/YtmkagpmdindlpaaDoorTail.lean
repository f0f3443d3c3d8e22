/- The rest of a list of texts behind its first. No condition. -/
import Derived.Test.YtmkagpmdindlpaaDoorLeafI
set_option linter.unusedVariables false
namespace Go.Proofs.YtmkagpmdindlpaaDoor.Lib
open Go.RowKit
theorem Rd.tailS {w : World} {x : ByteArray} {xs : List ByteArray} {ad : Addr} {n c : Nat} (h : Rd w (slD strD 1 (x :: xs)) (.slice (some ad) n c)) : Rd w (slD strD 1 xs) (.slice (some (ad.add 1)) xs.length (c - 1)) := by
  have hn := Rd.len h
  simp only [List.length_cons] at hn
  simp only [slD, Rd] at h ⊢
  obtain ⟨A', c', hv, h2, h3, h4, h5⟩ := h
  injection hv with e1 e2 e3
  subst e1 e3
  simp only [List.length_cons] at h2 h3 h5
  refine ⟨some (ad.add 1), c - 1, rfl, by omega, by omega, flat_length strD_len _, fun hp => ?_⟩
  obtain ⟨ad', e, hr⟩ := h5 (by omega)
  injection e with e
  subst e
  refine ⟨ad.add 1, rfl, RdRow.mk fun i d hd => ?_⟩
  have := RdRow.get hr (i + 1) d (by rw [List.flatMap_cons]; simpa [strD] using hd)
  have e : (ad.add 1).add i = ad.add (i + 1) := by
    unfold Addr.add
    by_cases h0 : i = 0
    · subst h0; simp
    · simp [h0, Nat.add_assoc, Nat.add_comm 1 i]
  rw [Nat.zero_add] at this ⊢
  rw [e]
  exact this
end Go.Proofs.YtmkagpmdindlpaaDoor.Lib
