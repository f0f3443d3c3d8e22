/- Keys and needs of types on both sides; the names of a type's fields. No condition. -/
import Derived.Test.YtmkagpmdindlpaaPartB
import Derived.StillTailTactics
set_option linter.unusedVariables false
set_option linter.unusedSimpArgs false
namespace Go.Proofs.Ytmkagpmdindlpaa.Lib
open Go.RowKit

set_option maxRecDepth 100000 in
set_option maxHeartbeats 1600000 in
theorem badKey_c (t : JTyp) (cs : List Value) (w : World) (hx : RdL w t.enc cs) : Calls Try.prog 101 #[.agg cs.toArray] w (Ret w (.bool (tf t.badKey))) := by
  have hx' := hx
  obtain ⟨A2, c2, rfl, g2, l0, l1, n2⟩ := JTyp.open_ hx
  have HF := Lib.hid (fun W (h : Below w.heap.size w W) => tfind_c t _ t.key W (hx'.keep h))
  clear hx hx' g2
  by_cases h0 : t.key = ⟨#[]⟩
  · have t0 := empty_t h0
    replace h0 := Lib.hid h0
    go_enter Try.func101, Try.ntmps101
    go_wp2
    go_ret
    exact Ret.f (fun h => h.1 h0.out) (b1 _ _)
  have t0 := empty_f h0
  replace h0 := Lib.hid h0
  go_enter Try.func101, Try.ntmps101
  go_wp2_with fail
  refine (HF.out _ (b1 _ _)).mono ?_
  rintro e w1 ⟨us, rfl, hu, hb1⟩
  have hu' := hu
  obtain ⟨A7, c7, rfl, g7, m0, m1, n7⟩ := JField.open_ hu
  have hz1 : w.heap.size < w1.heap.size := by have := hb1.size; simp at this; omega
  have hB1 := Lib.hid (bt (b1 _ _) hb1)
  clear hb1 hu g7
  cases hv : t.find t.key with
  | none =>
    rw [hv] at hu'
    simp only [Option.getD_none, Option.isSome_none]
    clear hu'
    replace hv := Lib.hid hv
    go_wp2
    all_goals
      go_ret
      refine Ret.fin ?_ (bt hB1.out (b1 _ _))
      have h0' := h0.out
      have hv' := hv.out
      simp_all [JTyp.badKey]
  | some f =>
    rw [hv] at hu' m0 m1 n7
    simp only [Option.getD_some, Option.isSome_some] at hu' m0 m1 n7 ⊢
    have HX := Lib.hid (fun W (h : Below w1.heap.size w1 W) => hu'.keep h)
    clear hu'
    replace hv := Lib.hid hv
    go_wp2_with (go_at_call 128; refine (plainInt_c f _ _ (by have h := HX.out; (try simp only [*] at h); exact h _ (b1 _ _))).mono ?_; rintro e w2 ⟨rfl, hb2⟩; obtain ⟨hc2, hf2⟩ := bcell hb2; have hz2 : w1.heap.size < w2.heap.size := by (have := hb2.size; simp at this; omega))
    all_goals
      go_ret
      refine Ret.fin ?_ (by first | exact bt hB1.out (b1 _ _) | exact bt (bt hB1.out (b1 _ _)) ‹_›)
      have h0' := h0.out
      have hv' := hv.out
      simp_all [JTyp.badKey, tf_iff, tf_no]
set_option maxRecDepth 100000 in
set_option maxHeartbeats 1600000 in
theorem names_c (t : JTyp) (cs : List Value) (w : World) (hx : RdL w t.enc cs) (hl : t.fields.length ≤ 1048576) : Calls Try.prog 99 #[.agg cs.toArray] w (Made1 w (slD strD 1 t.names)) := by
  obtain ⟨i0, hi, hz0, hz1, hz2⟩ := info_parts info_strE
  obtain ⟨A2, c2, rfl, g2, l0, l1, n2⟩ := JTyp.open_ hx
  have G2 := Lib.hid g2
  clear hx g2
  go_enter Try.func99, Try.ntmps99
  go_wp2
  go_loopw [3, 5, 9] (fun v _ i wr => ∃ k : Nat, k ≤ t.fields.length ∧ i = .int .i64 k ∧ Hid (Below w.heap.size w wr) ∧ Hid (Gr w.heap.size wr 9 strD 1 (t.names.take k) v)) (fun _ _ i _ => t.fields.length - (intOf i).toNat)
  case atStart => exact ⟨0, Nat.zero_le _, rfl, b1 _ _, Gr.nil _ _ _ _ _⟩
  case round =>
    obtain ⟨k, hk, rfl, HB, HG⟩ := hrel
    by_cases hlt : k < t.fields.length
    case neg =>
      have HG9 := Lib.hid (Gr.cast HG.out (by rw [List.take_of_length_le (by simp [JTyp.names]; omega)]) rfl : Gr w.heap.size wr 9 strD 1 t.names _)
      go_wp2
      go_ret
      exact HG9.out.made strD_len (Nat.le_refl _) HB.out
    obtain ⟨ad2, A7, c7, rfl, y0, y1, y2, y3, y4, y5, y6, y7, g7, m0, m1, n7⟩ := JField.elem (G2.out.below HB.out) k hlt
    clear g7
    have hne : t.names[k]'(by simpa [JTyp.names] using hlt) = t.fields[k].name := by simp [JTyp.names]
    have hnl : (t.names.take k).length ≤ k := List.length_take_le _ _
    have hq := Lib.hid (b1 wr (.cells #[.string t.fields[k].name, .string t.fields[k].of, .bool t.fields[k].list, .bool t.fields[k].must, .bool t.fields[k].far, .bool t.fields[k].hidden, .bool t.fields[k].shared, .slice A7 t.fields[k].needs.length c7] 59))
    replace hne := Lib.hid hne
    go_wp2_with (at_builtin; refine wpList_push rfl _ _ 52 rfl (enc := strD) (base := w.heap.size) (wr := wr) (xs := t.names.take k) t.fields[k].name 9 i0 (.string ⟨#[]⟩) 1 16 Try.underlying52 hi hz0 hz1 hz2 rfl (by decide) strD_len rfl HG.out (bt hq.out (b1 _ _)) HB.out.size ⟨wr.heap.size + 1, 0, none⟩ 1 rfl [.string t.fields[k].name] [] (.str m0 (.nil _)) (Fresh.nil _) (box_newAt (by simp) rfl) ?c1 ?_)
    case c1 => constructor <;> omega
    intro A9 c9 w3 hG3 hB3 _ _
    have hG9 := Lib.hid hG3
    have hB9 := Lib.hid (HB.out.trans (((bt hq.out (b1 _ _)).mono HB.out.size).trans hB3))
    clear hG3 hB3
    go_wp2
    go_roundw
    case rel => exact ⟨k + 1, by omega, by go_num, hB9.out, Gr.cast hG9.out (by rw [List.take_succ_eq_append_getElem (by simpa [JTyp.names] using hlt), hne.out]) (by simp)⟩
    case measure => simp [intOf]; omega
end Go.Proofs.Ytmkagpmdindlpaa.Lib
