/- How many marks fit: as many as what is marked has bulk, eight times. No condition. -/
import Derived.Test.YtegabeefggcelaaMk
import Derived.Test.YtegabeefggcelaaBulk
set_option linter.unusedVariables false
namespace Go.Proofs.Ytegabeefggcelaa.Lib

theorem strs_len_le (xs : List ByteArray) : xs.length ≤ strsBulk xs := by unfold strsBulk; omega
theorem cntsSel_all : ∀ n, (∀ v : JSel, SizeOf.sizeOf v < n → JSel.cnt v ≤ 8 + 8 * JSel.bulk v) ∧ (∀ xs : List JSel, SizeOf.sizeOf xs < n → JSel.cnts xs ≤ 8 * (xs.length + JSel.bulks xs))
  | 0 => ⟨fun _ h => absurd h (by omega), fun _ h => absurd h (by omega)⟩
  | n + 1 => by
    have ih := cntsSel_all n
    refine ⟨fun v h => ?_, fun xs h => ?_⟩
    · have := ih.2 v.kids (by have := JSel.kids_lt v; omega)
      rw [JSel.cnt_eq, JSel.bulk_eq]
      omega
    · cases xs with
      | nil => simp [JSel.cnts]
      | cons x r =>
        have h1 := ih.1 x (by simp at h; omega)
        have h2 := ih.2 r (by simp at h; omega)
        simp only [JSel.cnts, JSel.bulks, List.length_cons]
        omega
theorem cntsSel_le (xs : List JSel) : JSel.cnts xs ≤ 8 * (xs.length + JSel.bulks xs) := (cntsSel_all _).2 xs (Nat.lt_succ_self _)
theorem cntsStep_le (xs : List JStep) : JStep.cnts xs ≤ 8 * (xs.length + JStep.bulks xs) := by
  induction xs with
  | nil => simp [JStep.cnts]
  | cons x r ih =>
    have h1 := cntsSel_le x.sels
    have h2 := strs_len_le x.way
    have h3 := strs_len_le x.brings
    simp only [JStep.cnts, JStep.bulks, List.length_cons, JStep.cnt, JStep.bulk]
    omega
end Go.Proofs.Ytegabeefggcelaa.Lib
