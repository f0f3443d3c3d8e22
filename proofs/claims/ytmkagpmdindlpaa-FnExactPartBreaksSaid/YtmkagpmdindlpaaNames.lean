/- What a name is, on both sides. Printed by gnames.py. No condition beyond sizes that every text has. -/
import Derived.Test.YtmkagpmdindlpaaAsk0
import Derived.Test.YtmkagpmdindlpaaGr
set_option linter.unusedVariables false
set_option linter.unusedSimpArgs false
namespace Go.Proofs.Ytmkagpmdindlpaa.Lib
open Go.RowKit

theorem lit_t {s : ByteArray} {l : List UInt8} (h : s = ⟨l.toArray⟩) : (s.toList == l) = true := by rw [h, ByteArray.toList_eq]; simp
theorem lit_f {s : ByteArray} {l : List UInt8} (h : ¬ s = ⟨l.toArray⟩) : (s.toList == l) = false := by
  have := str_f h
  rwa [show (⟨l.toArray⟩ : ByteArray).toList = l by rw [ByteArray.toList_eq]] at this
theorem strs_box (w : World) (xs : List ByteArray) (t : TypeId) (hs : ∀ x, x ∈ xs → x.size ≤ 9223372036854775807) (hl : xs.length ≤ maxLen) :
    Rd (w.alloc (.cells (xs.map Value.string).toArray t)) (slD strD 1 xs) (.slice (some ⟨w.heap.size, 0, none⟩) xs.length xs.length) := by
  refine Own.rd _ _ (w.heap.size :: []) ?_
  simp only [slD, Own]
  refine ⟨flat_length strD_len _, .inr ⟨w.heap.size, xs.length, (xs.map Value.string).toArray, t, [], rfl, by simp [World.alloc, -World.alloc_eq], Nat.le_refl _, hl, by simp, rfl, ?_⟩⟩
  rw [List.take_of_length_le (by simp)]
  exact strs_row _ xs hs
theorem words_small : ∀ x, x ∈ ofWords ++ lineWords → x.size ≤ 9223372036854775807 := by
  intro x hx
  have : ∀ y ∈ ofWords ++ lineWords, y.size ≤ 6 := by decide
  have := this x hx
  omega

theorem l2Scalar_c (s : ByteArray) (w : World) : Calls Try.prog 87 #[.string s] w (RetQ w (.bool (tf (s ∈ ofWords)))) := by
  by_cases h0 : s = ⟨[105, 110, 116].toArray⟩
  · have t0 := lit_t h0
    replace h0 := Lib.hid h0
    go_enter Try.func87, Try.ntmps87
    go_wp2
    go_ret
    exact RetQ.t (by rw [h0.out]; simp [ofWords, wInt, wText, wBool])
  have t0 := lit_f h0
  replace h0 := Lib.hid h0
  by_cases h1 : s = ⟨[116, 101, 120, 116].toArray⟩
  · have t1 := lit_t h1
    replace h1 := Lib.hid h1
    go_enter Try.func87, Try.ntmps87
    go_wp2
    go_ret
    exact RetQ.t (by rw [h1.out]; simp [ofWords, wInt, wText, wBool])
  have t1 := lit_f h1
  replace h1 := Lib.hid h1
  by_cases h2 : s = ⟨[98, 111, 111, 108].toArray⟩
  · have t2 := lit_t h2
    replace h2 := Lib.hid h2
    go_enter Try.func87, Try.ntmps87
    go_wp2
    go_ret
    exact RetQ.t (by rw [h2.out]; simp [ofWords, wInt, wText, wBool])
  have t2 := lit_f h2
  replace h2 := Lib.hid h2
  go_enter Try.func87, Try.ntmps87
  go_wp2
  go_ret
  exact RetQ.f (fun h => by
    simp only [ofWords, List.mem_cons, List.not_mem_nil, or_false] at h
    rcases h with h | h | h
    · exact h0.out h
    · exact h1.out h
    · exact h2.out h)
set_option maxRecDepth 100000 in
set_option maxHeartbeats 4000000 in
theorem l2Name_c (s : ByteArray) (w : World) (hs : s.size ≤ 9223372036854775807) : Calls Try.prog 57 #[.string s] w (RetQ w (.bool (tf (NameOk s)))) := by
  by_cases h1 : OkName s
  case neg =>
    replace h1 := Lib.hid h1
    go_enter Try.func57, Try.ntmps57
    go_wp2_with fail
    refine (l1Name_c _ _ hs).mono ?_
    intro e w1 hr
    obtain ⟨rfl, rfl⟩ := RetQ.ff h1.out hr
    clear hr
    go_wp2
    go_ret
    exact RetQ.f (fun h => h1.out h.1)
  have hpos : 0 < s.size := by have := h1.1; unfold InI at this; omega
  replace h1 := Lib.hid h1
  by_cases h2 : s.size ≤ 8
  case neg =>
    go_enter Try.func57, Try.ntmps57
    go_wp2_with fail
    refine (l1Name_c _ _ hs).mono ?_
    intro e w1 hr
    obtain ⟨rfl, rfl⟩ := RetQ.tt h1.out hr
    clear hr
    go_wp2
    go_ret
    exact RetQ.f (fun h => h2 h.2.1)
  have hb255 : (s[0].toNat : Int) ≤ 255 := by have := s[0].toNat_lt; omega
  by_cases h3 : s[0].toNat = 95
  case pos =>
    have f95 : ((s[0].toNat : Int) != 95) = false := by rw [h3]; rfl
    replace h3 := Lib.hid h3
    go_enter Try.func57, Try.ntmps57
    go_wp2_with fail
    refine (l1Name_c _ _ hs).mono ?_
    intro e w1 hr
    obtain ⟨rfl, rfl⟩ := RetQ.tt h1.out hr
    clear hr
    go_wp2
    go_ret
    exact RetQ.f (fun h => h.2.2.1 hpos h3.out)
  have f95 : ((s[0].toNat : Int) != 95) = true := by rw [bne_iff_ne]; omega
  replace h3 := Lib.hid h3
  by_cases h4 : s ∈ ofWords
  case pos =>
    replace h4 := Lib.hid h4
    go_enter Try.func57, Try.ntmps57
    go_wp2_with fail
    refine (l1Name_c _ _ hs).mono ?_
    intro e w1 hr
    obtain ⟨rfl, rfl⟩ := RetQ.tt h1.out hr
    clear hr
    go_wp2_with fail
    refine (l2Scalar_c _ _).mono ?_
    intro e w1 hr
    obtain ⟨rfl, rfl⟩ := RetQ.tt h4.out hr
    clear hr
    go_wp2
    go_ret
    exact RetQ.f (fun h => h.2.2.2 (List.mem_append_left _ h4.out))
  replace h4 := Lib.hid h4
  by_cases k0 : s = ⟨[112, 97, 114, 116].toArray⟩
  · have t0 := lit_t k0
    replace k0 := Lib.hid k0
    go_enter Try.func57, Try.ntmps57
    go_wp2_with fail
    refine (l1Name_c _ _ hs).mono ?_
    intro e w1 hr
    obtain ⟨rfl, rfl⟩ := RetQ.tt h1.out hr
    clear hr
    go_wp2_with fail
    refine (l2Scalar_c _ _).mono ?_
    intro e w1 hr
    obtain ⟨rfl, rfl⟩ := RetQ.ff h4.out hr
    clear hr
    go_wp2
    go_ret
    exact RetQ.f (fun h => h.2.2.2 (by rw [k0.out]; simp [ofWords, lineWords, wInt, wText, wBool]))
  have t0 := lit_f k0
  replace k0 := Lib.hid k0
  by_cases k1 : s = ⟨[116, 121, 112, 101].toArray⟩
  · have t1 := lit_t k1
    replace k1 := Lib.hid k1
    go_enter Try.func57, Try.ntmps57
    go_wp2_with fail
    refine (l1Name_c _ _ hs).mono ?_
    intro e w1 hr
    obtain ⟨rfl, rfl⟩ := RetQ.tt h1.out hr
    clear hr
    go_wp2_with fail
    refine (l2Scalar_c _ _).mono ?_
    intro e w1 hr
    obtain ⟨rfl, rfl⟩ := RetQ.ff h4.out hr
    clear hr
    go_wp2
    go_ret
    exact RetQ.f (fun h => h.2.2.2 (by rw [k1.out]; simp [ofWords, lineWords, wInt, wText, wBool]))
  have t1 := lit_f k1
  replace k1 := Lib.hid k1
  by_cases k2 : s = ⟨[107, 101, 121].toArray⟩
  · have t2 := lit_t k2
    replace k2 := Lib.hid k2
    go_enter Try.func57, Try.ntmps57
    go_wp2_with fail
    refine (l1Name_c _ _ hs).mono ?_
    intro e w1 hr
    obtain ⟨rfl, rfl⟩ := RetQ.tt h1.out hr
    clear hr
    go_wp2_with fail
    refine (l2Scalar_c _ _).mono ?_
    intro e w1 hr
    obtain ⟨rfl, rfl⟩ := RetQ.ff h4.out hr
    clear hr
    go_wp2
    go_ret
    exact RetQ.f (fun h => h.2.2.2 (by rw [k2.out]; simp [ofWords, lineWords, wInt, wText, wBool]))
  have t2 := lit_f k2
  replace k2 := Lib.hid k2
  by_cases k3 : s = ⟨[102, 97, 114].toArray⟩
  · have t3 := lit_t k3
    replace k3 := Lib.hid k3
    go_enter Try.func57, Try.ntmps57
    go_wp2_with fail
    refine (l1Name_c _ _ hs).mono ?_
    intro e w1 hr
    obtain ⟨rfl, rfl⟩ := RetQ.tt h1.out hr
    clear hr
    go_wp2_with fail
    refine (l2Scalar_c _ _).mono ?_
    intro e w1 hr
    obtain ⟨rfl, rfl⟩ := RetQ.ff h4.out hr
    clear hr
    go_wp2
    go_ret
    exact RetQ.f (fun h => h.2.2.2 (by rw [k3.out]; simp [ofWords, lineWords, wInt, wText, wBool]))
  have t3 := lit_f k3
  replace k3 := Lib.hid k3
  by_cases k4 : s = ⟨[104, 105, 100, 100, 101, 110].toArray⟩
  · have t4 := lit_t k4
    replace k4 := Lib.hid k4
    go_enter Try.func57, Try.ntmps57
    go_wp2_with fail
    refine (l1Name_c _ _ hs).mono ?_
    intro e w1 hr
    obtain ⟨rfl, rfl⟩ := RetQ.tt h1.out hr
    clear hr
    go_wp2_with fail
    refine (l2Scalar_c _ _).mono ?_
    intro e w1 hr
    obtain ⟨rfl, rfl⟩ := RetQ.ff h4.out hr
    clear hr
    go_wp2
    go_ret
    exact RetQ.f (fun h => h.2.2.2 (by rw [k4.out]; simp [ofWords, lineWords, wInt, wText, wBool]))
  have t4 := lit_f k4
  replace k4 := Lib.hid k4
  by_cases k5 : s = ⟨[115, 104, 97, 114, 101, 100].toArray⟩
  · have t5 := lit_t k5
    replace k5 := Lib.hid k5
    go_enter Try.func57, Try.ntmps57
    go_wp2_with fail
    refine (l1Name_c _ _ hs).mono ?_
    intro e w1 hr
    obtain ⟨rfl, rfl⟩ := RetQ.tt h1.out hr
    clear hr
    go_wp2_with fail
    refine (l2Scalar_c _ _).mono ?_
    intro e w1 hr
    obtain ⟨rfl, rfl⟩ := RetQ.ff h4.out hr
    clear hr
    go_wp2
    go_ret
    exact RetQ.f (fun h => h.2.2.2 (by rw [k5.out]; simp [ofWords, lineWords, wInt, wText, wBool]))
  have t5 := lit_f k5
  replace k5 := Lib.hid k5
  by_cases k6 : s = ⟨[110, 101, 101, 100, 115].toArray⟩
  · have t6 := lit_t k6
    replace k6 := Lib.hid k6
    go_enter Try.func57, Try.ntmps57
    go_wp2_with fail
    refine (l1Name_c _ _ hs).mono ?_
    intro e w1 hr
    obtain ⟨rfl, rfl⟩ := RetQ.tt h1.out hr
    clear hr
    go_wp2_with fail
    refine (l2Scalar_c _ _).mono ?_
    intro e w1 hr
    obtain ⟨rfl, rfl⟩ := RetQ.ff h4.out hr
    clear hr
    go_wp2
    go_ret
    exact RetQ.f (fun h => h.2.2.2 (by rw [k6.out]; simp [ofWords, lineWords, wInt, wText, wBool]))
  have t6 := lit_f k6
  replace k6 := Lib.hid k6
  go_enter Try.func57, Try.ntmps57
  go_wp2_with fail
  refine (l1Name_c _ _ hs).mono ?_
  intro e w1 hr
  obtain ⟨rfl, rfl⟩ := RetQ.tt h1.out hr
  clear hr
  go_wp2_with fail
  refine (l2Scalar_c _ _).mono ?_
  intro e w1 hr
  obtain ⟨rfl, rfl⟩ := RetQ.ff h4.out hr
  clear hr
  go_wp2
  go_ret
  exact RetQ.t ⟨h1.out, h2, fun _ => h3.out, fun h => by
    rcases List.mem_append.1 h with h | h
    · exact h4.out h
    simp only [lineWords, List.mem_cons, List.not_mem_nil, or_false] at h
    rcases h with h | h | h | h | h | h | h
    · exact k0.out h
    · exact k1.out h
    · exact k2.out h
    · exact k3.out h
    · exact k4.out h
    · exact k5.out h
    · exact k6.out h⟩
set_option maxRecDepth 100000 in
set_option maxHeartbeats 4000000 in
theorem isName_c (s : ByteArray) (w : World) (hs : s.size ≤ 9223372036854775807) : Calls Try.prog 61 #[.string s] w (Ret w (.bool (tf (NameOk s)))) := by
  have HB := Lib.hid (strs_box w (ofWords ++ lineWords) 9 words_small (by decide))
  by_cases h1 : OkName s
  case neg =>
    replace h1 := Lib.hid h1
    go_enter Try.func61, Try.ntmps61
    go_wp2_with fail
    refine (isWord_c _ _ hs).mono ?_
    intro e w1 hr
    obtain ⟨rfl, hb1⟩ := Ret.ff h1.out hr
    clear hr
    have hB1 := bt (b1 _ _) hb1
    go_wp2
    go_ret
    exact Ret.f (fun h => h1.out h.1) hB1
  have hpos : 0 < s.size := by have := h1.1; unfold InI at this; omega
  replace h1 := Lib.hid h1
  by_cases h2 : s.size ≤ 8
  case neg =>
    go_enter Try.func61, Try.ntmps61
    go_wp2_with fail
    refine (isWord_c _ _ hs).mono ?_
    intro e w1 hr
    obtain ⟨rfl, hb1⟩ := Ret.tt h1.out hr
    clear hr
    have hB1 := bt (b1 _ _) hb1
    go_wp2
    go_ret
    exact Ret.f (fun h => h2 h.2.1) hB1
  have hb255 : (s[0].toNat : Int) ≤ 255 := by have := s[0].toNat_lt; omega
  by_cases h3 : s[0].toNat = 95
  case pos =>
    have f95 : ((s[0].toNat : Int) != 95) = false := by rw [h3]; rfl
    replace h3 := Lib.hid h3
    go_enter Try.func61, Try.ntmps61
    go_wp2_with fail
    refine (isWord_c _ _ hs).mono ?_
    intro e w1 hr
    obtain ⟨rfl, hb1⟩ := Ret.tt h1.out hr
    clear hr
    have hB1 := bt (b1 _ _) hb1
    go_wp2
    go_ret
    exact Ret.f (fun h => h.2.2.1 hpos h3.out) hB1
  have f95 : ((s[0].toNat : Int) != 95) = true := by rw [bne_iff_ne]; omega
  replace h3 := Lib.hid h3
  by_cases h4 : s ∈ ofWords ++ lineWords
  · replace h4 := Lib.hid h4
    go_enter Try.func61, Try.ntmps61
    go_wp2_with fail
    refine (isWord_c _ _ hs).mono ?_
    intro e w1 hr
    obtain ⟨rfl, hb1⟩ := Ret.tt h1.out hr
    clear hr
    have hB1 := bt (b1 _ _) hb1
    go_wp2_with fail
    refine (containsStr_n (ofWords ++ lineWords) _ 10 10 s _ (HB.out.below hb1)).mono ?_
    intro e w2 hr
    obtain ⟨rfl, rfl⟩ := RetQ.tt h4.out hr
    clear hr
    go_wp2
    go_ret
    exact Ret.f (fun h => h.2.2.2 h4.out) hB1
  · replace h4 := Lib.hid h4
    go_enter Try.func61, Try.ntmps61
    go_wp2_with fail
    refine (isWord_c _ _ hs).mono ?_
    intro e w1 hr
    obtain ⟨rfl, hb1⟩ := Ret.tt h1.out hr
    clear hr
    have hB1 := bt (b1 _ _) hb1
    go_wp2_with fail
    refine (containsStr_n (ofWords ++ lineWords) _ 10 10 s _ (HB.out.below hb1)).mono ?_
    intro e w2 hr
    obtain ⟨rfl, rfl⟩ := RetQ.ff h4.out hr
    clear hr
    go_wp2
    go_ret
    exact Ret.t ⟨h1.out, h2, fun _ => h3.out, h4.out⟩ hB1
end Go.Proofs.Ytmkagpmdindlpaa.Lib
