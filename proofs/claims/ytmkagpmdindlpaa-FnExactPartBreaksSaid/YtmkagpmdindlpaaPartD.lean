/- What a field needs, on the program's side. No condition. -/
import Derived.Test.YtmkagpmdindlpaaPartC
set_option linter.unusedVariables false
set_option linter.unusedSimpArgs false
namespace Go.Proofs.Ytmkagpmdindlpaa.Lib
open Go.RowKit

def HeadBad (t : JTyp) (f : JField) : Prop := f.of ≠ wInt ∨ f.list = true ∨ f.far = true ∨ f.must = true ∨ f.name = t.key ∨ t.key = ⟨#[]⟩
theorem badNeed_iff {t : JTyp} {f : JField} : t.badNeed f ↔ (f.far = true ∧ f.shared = true) ∨ (f.needs ≠ [] ∧ (HeadBad t f ∨ ∃ i, ∃ h : i < f.needs.length, NeedBad t f i h)) := by
  unfold JTyp.badNeed HeadBad
  constructor
  · rintro (h | ⟨h, h1 | h1 | h1 | h1 | h1 | h1 | h1⟩) <;> simp_all
  · rintro (h | ⟨h, (h1 | h1 | h1 | h1 | h1 | h1) | h1⟩) <;> simp_all
theorem leB_t {a b : ByteArray} (h : LeB a b) : (Op.bytesLess a.toList b.toList || a.toList == b.toList) = true := h
theorem leB_f {a b : ByteArray} (h : ¬ LeB a b) : (Op.bytesLess a.toList b.toList || a.toList == b.toList) = false := by simpa only [LeB, Bool.not_eq_true] using h
set_option maxRecDepth 100000 in
set_option maxHeartbeats 4000000 in
theorem badNeed_head (t : JTyp) (f : JField) (cs ds : List Value) (w : World) (hx : RdL w t.enc cs) (hy : RdL w f.enc ds) (hh : (f.far = true ∧ f.shared = true) ∨ f.needs = [] ∨ HeadBad t f) :
    Calls Try.prog 102 #[.agg cs.toArray, .agg ds.toArray] w (Ret w (.bool (tf (t.badNeed f)))) := by
  have hx' := hx
  have hy' := hy
  obtain ⟨A2, c2, rfl, g2, l0, l1, n2⟩ := JTyp.open_ hx
  obtain ⟨A7, c7, rfl, g7, m0, m1, n7⟩ := JField.open_ hy
  have HX := Lib.hid (fun W (h : Below w.heap.size w W) => hx'.keep h)
  have HY := Lib.hid (fun W (h : Below w.heap.size w W) => hy'.keep h)
  have G7 := Lib.hid g7
  clear hx hx' g2 hy hy' g7
  have hE := Lib.hid (@badNeed_iff t f)
  rcases hh with ⟨h1, h2⟩ | h1 | h1
  · go_enter Try.func102, Try.ntmps102
    go_wp2_with (go_at_call 129; refine (needy_c f _ _ (by have h := HY.out; (try simp only [*] at h); exact h _ (bt (b1 _ _) (b1 _ _)))).mono ?_; rintro e w1 ⟨rfl, hb1⟩; obtain ⟨hc1, hf1⟩ := bcell hb1; have hz1 : w.heap.size + 1 < w1.heap.size := (by have := hb1.size; simp at this; omega); have hz0 : w.heap.size < w1.heap.size := (by omega))
    all_goals
      go_ret
      refine Ret.fin ?_ (by first | exact bt (b1 _ _) (b1 _ _) | exact bt (bt (b1 _ _) (b1 _ _)) ‹_›)
      have hE' := hE.out
      simp_all [HeadBad, JField.needy, lit_iff, str_iff, tf_iff, tf_no, wInt]
  · have hn : tf f.needy = false := tf_f (fun h => h h1)
    replace h1 := Lib.hid h1
    go_enter Try.func102, Try.ntmps102
    go_wp2_with (go_at_call 129; refine (needy_c f _ _ (by have h := HY.out; (try simp only [*] at h); exact h _ (bt (b1 _ _) (b1 _ _)))).mono ?_; rintro e w1 ⟨rfl, hb1⟩; obtain ⟨hc1, hf1⟩ := bcell hb1; have hz1 : w.heap.size + 1 < w1.heap.size := (by have := hb1.size; simp at this; omega); have hz0 : w.heap.size < w1.heap.size := (by omega))
    all_goals
      have h1' := h1.out
      clear h1
    all_goals
      go_ret
      refine Ret.fin ?_ (by first | exact bt (b1 _ _) (b1 _ _) | exact bt (bt (b1 _ _) (b1 _ _)) ‹_›)
      have hE' := hE.out
      simp_all [HeadBad, JField.needy, lit_iff, str_iff, tf_iff, tf_no, wInt]
  · by_cases hnn : f.needs = []
    · have hn : tf f.needy = false := tf_f (fun h => h hnn)
      replace hnn := Lib.hid hnn
      clear h1
      go_enter Try.func102, Try.ntmps102
      go_wp2_with (go_at_call 129; refine (needy_c f _ _ (by have h := HY.out; (try simp only [*] at h); exact h _ (bt (b1 _ _) (b1 _ _)))).mono ?_; rintro e w1 ⟨rfl, hb1⟩; obtain ⟨hc1, hf1⟩ := bcell hb1; have hz1 : w.heap.size + 1 < w1.heap.size := (by have := hb1.size; simp at this; omega); have hz0 : w.heap.size < w1.heap.size := (by omega))
      all_goals
        have h1' := hnn.out
        clear hnn
      all_goals
        go_ret
        refine Ret.fin ?_ (by first | exact bt (b1 _ _) (b1 _ _) | exact bt (bt (b1 _ _) (b1 _ _)) ‹_›)
        have hE' := hE.out
        simp_all [HeadBad, JField.needy, lit_iff, str_iff, tf_iff, tf_no, wInt]
    have hn : tf f.needy = true := tf_t hnn
    have hnn := Lib.hid hnn
    have hh := Lib.hid h1
    rcases h1 with h1 | h1 | h1 | h1 | h1 | h1
    · have t1 : f.of.toList ≠ [105, 110, 116] := fun e => h1 (lit_iff.1 e)
      clear h1
      go_enter Try.func102, Try.ntmps102
      go_wp2_with (go_at_call 129; refine (needy_c f _ _ (by have h := HY.out; (try simp only [*] at h); exact h _ (bt (b1 _ _) (b1 _ _)))).mono ?_; rintro e w1 ⟨rfl, hb1⟩; obtain ⟨hc1, hf1⟩ := bcell hb1; have hz1 : w.heap.size + 1 < w1.heap.size := (by have := hb1.size; simp at this; omega); have hz0 : w.heap.size < w1.heap.size := (by omega))
      all_goals
        have h1' := hnn.out
        have h2' := hh.out
        clear hnn hh
      all_goals
        go_ret
        refine Ret.fin ?_ (by first | exact bt (b1 _ _) (b1 _ _) | exact bt (bt (b1 _ _) (b1 _ _)) ‹_›)
        have hE' := hE.out
        simp_all [HeadBad, JField.needy, lit_iff, str_iff, tf_iff, tf_no, wInt]
    · go_enter Try.func102, Try.ntmps102
      go_wp2_with (go_at_call 129; refine (needy_c f _ _ (by have h := HY.out; (try simp only [*] at h); exact h _ (bt (b1 _ _) (b1 _ _)))).mono ?_; rintro e w1 ⟨rfl, hb1⟩; obtain ⟨hc1, hf1⟩ := bcell hb1; have hz1 : w.heap.size + 1 < w1.heap.size := (by have := hb1.size; simp at this; omega); have hz0 : w.heap.size < w1.heap.size := (by omega))
      all_goals
        have h1' := hnn.out
        have h2' := hh.out
        clear hnn hh
      all_goals
        go_ret
        refine Ret.fin ?_ (by first | exact bt (b1 _ _) (b1 _ _) | exact bt (bt (b1 _ _) (b1 _ _)) ‹_›)
        have hE' := hE.out
        simp_all [HeadBad, JField.needy, lit_iff, str_iff, tf_iff, tf_no, wInt]
    · go_enter Try.func102, Try.ntmps102
      go_wp2_with (go_at_call 129; refine (needy_c f _ _ (by have h := HY.out; (try simp only [*] at h); exact h _ (bt (b1 _ _) (b1 _ _)))).mono ?_; rintro e w1 ⟨rfl, hb1⟩; obtain ⟨hc1, hf1⟩ := bcell hb1; have hz1 : w.heap.size + 1 < w1.heap.size := (by have := hb1.size; simp at this; omega); have hz0 : w.heap.size < w1.heap.size := (by omega))
      all_goals
        have h1' := hnn.out
        have h2' := hh.out
        clear hnn hh
      all_goals
        go_ret
        refine Ret.fin ?_ (by first | exact bt (b1 _ _) (b1 _ _) | exact bt (bt (b1 _ _) (b1 _ _)) ‹_›)
        have hE' := hE.out
        simp_all [HeadBad, JField.needy, lit_iff, str_iff, tf_iff, tf_no, wInt]
    · go_enter Try.func102, Try.ntmps102
      go_wp2_with (go_at_call 129; refine (needy_c f _ _ (by have h := HY.out; (try simp only [*] at h); exact h _ (bt (b1 _ _) (b1 _ _)))).mono ?_; rintro e w1 ⟨rfl, hb1⟩; obtain ⟨hc1, hf1⟩ := bcell hb1; have hz1 : w.heap.size + 1 < w1.heap.size := (by have := hb1.size; simp at this; omega); have hz0 : w.heap.size < w1.heap.size := (by omega))
      all_goals
        have h1' := hnn.out
        have h2' := hh.out
        clear hnn hh
      all_goals
        go_ret
        refine Ret.fin ?_ (by first | exact bt (b1 _ _) (b1 _ _) | exact bt (bt (b1 _ _) (b1 _ _)) ‹_›)
        have hE' := hE.out
        simp_all [HeadBad, JField.needy, lit_iff, str_iff, tf_iff, tf_no, wInt]
    · have t1 : f.name.toList = t.key.toList := by rw [h1]
      clear h1
      go_enter Try.func102, Try.ntmps102
      go_wp2_with (go_at_call 129; refine (needy_c f _ _ (by have h := HY.out; (try simp only [*] at h); exact h _ (bt (b1 _ _) (b1 _ _)))).mono ?_; rintro e w1 ⟨rfl, hb1⟩; obtain ⟨hc1, hf1⟩ := bcell hb1; have hz1 : w.heap.size + 1 < w1.heap.size := (by have := hb1.size; simp at this; omega); have hz0 : w.heap.size < w1.heap.size := (by omega))
      all_goals
        have h1' := hnn.out
        have h2' := hh.out
        clear hnn hh
      all_goals
        go_ret
        refine Ret.fin ?_ (by first | exact bt (b1 _ _) (b1 _ _) | exact bt (bt (b1 _ _) (b1 _ _)) ‹_›)
        have hE' := hE.out
        simp_all [HeadBad, JField.needy, lit_iff, str_iff, tf_iff, tf_no, wInt]
    · have t1 : t.key.toList = [] := by rw [h1, ByteArray.toList_eq]
      clear h1
      go_enter Try.func102, Try.ntmps102
      go_wp2_with (go_at_call 129; refine (needy_c f _ _ (by have h := HY.out; (try simp only [*] at h); exact h _ (bt (b1 _ _) (b1 _ _)))).mono ?_; rintro e w1 ⟨rfl, hb1⟩; obtain ⟨hc1, hf1⟩ := bcell hb1; have hz1 : w.heap.size + 1 < w1.heap.size := (by have := hb1.size; simp at this; omega); have hz0 : w.heap.size < w1.heap.size := (by omega))
      all_goals
        have h1' := hnn.out
        have h2' := hh.out
        clear hnn hh
      all_goals
        go_ret
        refine Ret.fin ?_ (by first | exact bt (b1 _ _) (b1 _ _) | exact bt (bt (b1 _ _) (b1 _ _)) ‹_›)
        have hE' := hE.out
        simp_all [HeadBad, JField.needy, lit_iff, str_iff, tf_iff, tf_no, wInt]
end Go.Proofs.Ytmkagpmdindlpaa.Lib
