/- strings.Cut at one slash, in the words of the pieces. No condition. -/
import Derived.Test.YtmkagpmdindlpaaDoorLessP
import Derived.Lib.IndexMore
namespace Go.Proofs.YtmkagpmdindlpaaDoor.Lib
theorem index_step (b : UInt8) (l : List UInt8) (hb : b ≠ 47) : Go.Lib.index (b :: l) [47] = if Go.Lib.index l [47] = -1 then -1 else Go.Lib.index l [47] + 1 := by
  have h1 : ([47] : List UInt8).isPrefixOf (b :: l) = false := by simp [List.isPrefixOf, Ne.symm hb]
  rw [Go.Lib.index, h1]
  simp
/-- What Cut gives: the first piece, the rest, whether there is one. -/
theorem cut_slash : ∀ l : List UInt8, ((∀ b, b ∈ l → b ≠ 47) ∧ Go.Lib.cut l [47] = (l, [], false)) ∨ ∃ p r, l = p ++ 47 :: r ∧ (∀ b, b ∈ p → b ≠ 47) ∧ Go.Lib.cut l [47] = (p, r, true)
  | [] => .inl ⟨by simp, by simp [Go.Lib.cut, Go.Lib.index]⟩
  | b :: l => by
    by_cases hb : b = 47
    · subst hb
      exact .inr ⟨[], l, rfl, by simp, by simp [Go.Lib.cut, Go.Lib.index]⟩
    · have hs := index_step b l hb
      have hge := Go.Lib.index_ge l [47]
      rcases cut_slash l with ⟨h1, h2⟩ | ⟨p, r, rfl, h1, h2⟩
      · refine .inl ⟨by simpa [hb] using h1, ?_⟩
        by_cases h0 : 0 ≤ Go.Lib.index l [47]
        · unfold Go.Lib.cut at h2
          rw [if_pos h0] at h2
          simp at h2
        · rw [if_pos (by omega)] at hs
          unfold Go.Lib.cut
          rw [hs, if_neg (by decide)]
      · refine .inr ⟨b :: p, r, rfl, by simpa [hb] using h1, ?_⟩
        by_cases h0 : 0 ≤ Go.Lib.index (p ++ 47 :: r) [47]
        · rw [if_neg (by omega)] at hs
          unfold Go.Lib.cut at h2 ⊢
          rw [if_pos h0] at h2
          rw [hs, if_pos (by omega)]
          generalize Go.Lib.index (p ++ 47 :: r) [47] = i at h0 h2
          obtain ⟨n, rfl⟩ := Int.eq_ofNat_of_zero_le h0
          simp only [Prod.mk.injEq, and_true] at h2 ⊢
          have e : ((n : Int) + 1).toNat = n + 1 := by omega
          have e' : ((n : Int)).toNat = n := by omega
          rw [e'] at h2
          rw [e]
          refine ⟨by rw [List.take_succ_cons, h2.1], ?_⟩
          rw [show n + 1 + ([47] : List UInt8).length = (n + ([47] : List UInt8).length) + 1 from rfl, List.drop_succ_cons]
          exact h2.2
        · unfold Go.Lib.cut at h2
          rw [if_neg h0] at h2
          simp at h2
end Go.Proofs.YtmkagpmdindlpaaDoor.Lib
