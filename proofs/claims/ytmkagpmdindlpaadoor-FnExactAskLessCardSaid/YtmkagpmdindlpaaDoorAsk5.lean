/- The reference's l3Write. Asks that are ok, of 24 fields at most. -/
import Derived.Test.YtmkagpmdindlpaaDoorAsk4
set_option linter.unusedVariables false
set_option linter.unusedSimpArgs false
namespace Go.Proofs.YtmkagpmdindlpaaDoor.Lib
open Go.RowKit

theorem askT_bounds {xs : List JSel} {d : Int} (h : JSel.okL xs d) (hn : JSel.nodesL xs ≤ 24) : (askT xs).size ≤ 674 := by
  have := askT_size h; omega
theorem joinT_bounds {xs : List JSel} {d : Int} (h : JSel.okL xs d) (hn : JSel.nodesL xs ≤ 24) (k : Nat) : (JSel.joinT (xs.take k)).size ≤ 672 := by
  have h1 : JSel.okL (xs.take k) d := JSel.okL_iff.2 fun x hx => JSel.okL_iff.1 h x (List.mem_of_mem_take hx)
  have := JSel.joinT_size h1
  have := JSel.nodesL_le xs k
  omega
def L3Write (xs : List JSel) : Prop := ∀ (A : Option Addr) (n c : Nat) (d : Int) (w : World), Rd w (slD JSel.enc 5 xs) (.slice A n c) → JSel.okL xs d → JSel.nodesL xs ≤ 24 →
  Calls Tryd.prog 28 #[.slice A n c] w (Ret w (.string (askT xs)))
set_option maxRecDepth 100000 in
set_option maxHeartbeats 8000000 in
theorem l3Write_of (xs : List JSel) (hK : ∀ x, x ∈ xs → L3Write x.kids) : L3Write xs := by
  intro A n c d w hx hok hn24
  obtain rfl := Rd.len hx
  have hl : xs.length ≤ 24 := by have := JSel.nodesL_len xs; omega
  have HX := Lib.hid hx
  have HK := Lib.hid hK
  have HO := Lib.hid hok
  have HN := Lib.hid hn24
  clear hx hK hok hn24
  go_enter Tryd.func28, Tryd.ntmps28
  go_wp2
  go_loopw [3, 4, 5] (fun v i _ wr => ∃ k : Nat, k ≤ xs.length ∧ i = .int .i64 k ∧ ∃ s : ByteArray, v = .string s ∧ s.size ≤ 673 ∧ Hid (s = lbB ++ JSel.joinT (xs.take k)) ∧ Hid (Below w.heap.size w wr)) (fun _ i _ _ => xs.length - (intOf i).toNat)
  case atStart => exact ⟨0, Nat.zero_le _, rfl, _, rfl, by decide, (ba_empty lbB).symm, Below.refl _ _⟩
  case round =>
    obtain ⟨k, hk, rfl, s, rfl, hs, HS, HB⟩ := hrel
    by_cases hlt : k < xs.length
    case neg =>
      have hke : k = xs.length := by omega
      have hfin : s ++ rbB = askT xs := by
        have := HS.out
        rw [hke, List.take_of_length_le (Nat.le_refl _)] at this
        rw [this, askT_eq]
      replace hfin := Lib.hid hfin
      clear hke
      go_wp2
      go_ret
      exact Ret.str hfin.out HB.out
    obtain ⟨ad, A4, c4, rfl, y0, y1, y2, y3, y4, g4, l0, l1, n4⟩ := JSel.elem (HX.out.below HB.out) k hlt
    have hxo := JSel.okL_get HO.out k hlt
    obtain ⟨hso, hak⟩ := (xs[k].okAt_eq d).1 hxo
    have hsn := hso.1.size
    have hnk : JSel.nodesL xs[k].kids ≤ 24 := by have := (nodesL_k hlt).1; have := HN.out; omega
    have HM := Lib.hid (fun W (h : Below wr.heap.size wr W) => HK.out xs[k] (List.getElem_mem hlt) A4 xs[k].kids.length c4 (d + 1) W (g4.below h) hak.2.2 hnk)
    have hkz := Lib.hid (askT_bounds hak.2.2 hnk)
    have hid0 := hso.2.2.1.1
    have hid1 := hso.2.2.1.2
    have hdz := decB_size hid0 hid1
    have hasz : xs[k].as_.size ≤ 8 := by rcases hso.2.1 with h | h; · rw [h]; decide
                                         · exact h.1.size
    have hstep := JSel.joinT_take xs k hlt
    rw [JSel.text_eq] at hstep
    have hjz := joinT_bounds HO.out HN.out (k + 1)
    replace hstep := Lib.hid hstep
    replace hjz := Lib.hid hjz
    clear hxo hso hak hnk g4
    have vsz := Lib.hid (fun (t : ByteArray) (e : t = lbB ++ JSel.joinT (xs.take (k + 1))) => (by have := hjz.out; have e1 : lbB.size = 1 := rfl; rw [e, ByteArray.size_append]; omega : t.size ≤ 673))
    by_cases h0 : k = 0
    · have hkI : ¬ (0 : Int) < k := by omega
      replace h0 := Lib.hid h0
      by_cases h1 : xs[k].as_ = ⟨#[]⟩
      · have t1 := empty_t h1
        replace h1 := Lib.hid h1
        by_cases h2 : xs[k].kids = []
        · have hkk : ¬ (0 : Int) < xs[k].kids.length := by rw [h2]; simp
          replace h2 := Lib.hid h2
          cases ho : xs[k].one with
          | true =>
            have ho2 := Lib.hid ho
            go_wp2_with fail
            refine (l1Dec_c _ _ hid0 hid1).mono ?_
            rintro e w2 ⟨rfl, hb2⟩
            obtain ⟨hc2, hf2⟩ := bcell hb2
            have hz2 : wr.heap.size < w2.heap.size := by have := hb2.size; simp at this; omega
            have hb2 := Lib.hid (bt (b1 _ _) hb2)
            go_wp2
            go_roundw
            case rel => exact ⟨k + 1, by omega, by go_num, _, rfl, vsz.out _ (by rw [HS.out, hstep.out]; simp only [JSel.head, if_pos h0.out, if_pos h1.out, ho2.out, ba_empty, empty_ba, ByteArray.append_assoc, lbB, colonB, commaB, lpB, rpB, h2.out, if_true, Bool.false_eq_true, if_false, JSel.kidsT]), Lib.hid (by rw [HS.out, hstep.out]; simp only [JSel.head, if_pos h0.out, if_pos h1.out, ho2.out, ba_empty, empty_ba, ByteArray.append_assoc, lbB, colonB, commaB, lpB, rpB, h2.out, if_true, Bool.false_eq_true, if_false, JSel.kidsT]), bt HB.out (hb2.out)⟩
            case measure => simp [intOf]; omega
          | false =>
            have ho2 := Lib.hid ho
            go_wp2
            go_roundw
            case rel => exact ⟨k + 1, by omega, by go_num, _, rfl, vsz.out _ (by rw [HS.out, hstep.out]; simp only [JSel.head, if_pos h0.out, if_pos h1.out, ho2.out, ba_empty, empty_ba, ByteArray.append_assoc, lbB, colonB, commaB, lpB, rpB, h2.out, if_true, Bool.false_eq_true, if_false, JSel.kidsT]), Lib.hid (by rw [HS.out, hstep.out]; simp only [JSel.head, if_pos h0.out, if_pos h1.out, ho2.out, ba_empty, empty_ba, ByteArray.append_assoc, lbB, colonB, commaB, lpB, rpB, h2.out, if_true, Bool.false_eq_true, if_false, JSel.kidsT]), bt HB.out (b1 _ _)⟩
            case measure => simp [intOf]; omega
        have hkk : (0 : Int) < xs[k].kids.length := by have := List.length_pos_iff.2 h2; omega
        replace h2 := Lib.hid h2
        cases ho : xs[k].one with
        | true =>
          have ho2 := Lib.hid ho
          go_wp2_with fail
          refine (l1Dec_c _ _ hid0 hid1).mono ?_
          rintro e w2 ⟨rfl, hb2⟩
          obtain ⟨hc2, hf2⟩ := bcell hb2
          have hz2 : wr.heap.size < w2.heap.size := by have := hb2.size; simp at this; omega
          have hb2 := Lib.hid (bt (b1 _ _) hb2)
          go_wp2_with fail
          refine (HM.out _ (hb2.out)).mono ?_
          rintro e w3 ⟨rfl, hb3⟩
          have hb3 := Lib.hid (bt (hb2.out) hb3)
          replace hkz := hkz.out
          go_wp2
          go_roundw
          case rel => exact ⟨k + 1, by omega, by go_num, _, rfl, vsz.out _ (by rw [HS.out, hstep.out]; simp only [JSel.head, if_pos h0.out, if_pos h1.out, ho2.out, ba_empty, empty_ba, ByteArray.append_assoc, lbB, colonB, commaB, lpB, rpB, JSel.kidsT_eq h2.out, if_true, Bool.false_eq_true, if_false, JSel.kidsT]), Lib.hid (by rw [HS.out, hstep.out]; simp only [JSel.head, if_pos h0.out, if_pos h1.out, ho2.out, ba_empty, empty_ba, ByteArray.append_assoc, lbB, colonB, commaB, lpB, rpB, JSel.kidsT_eq h2.out, if_true, Bool.false_eq_true, if_false, JSel.kidsT]), bt HB.out (hb3.out)⟩
          case measure => simp [intOf]; omega
        | false =>
          have ho2 := Lib.hid ho
          go_wp2_with fail
          refine (HM.out _ (b1 _ _)).mono ?_
          rintro e w3 ⟨rfl, hb3⟩
          have hb3 := Lib.hid (bt (b1 _ _) hb3)
          replace hkz := hkz.out
          go_wp2
          go_roundw
          case rel => exact ⟨k + 1, by omega, by go_num, _, rfl, vsz.out _ (by rw [HS.out, hstep.out]; simp only [JSel.head, if_pos h0.out, if_pos h1.out, ho2.out, ba_empty, empty_ba, ByteArray.append_assoc, lbB, colonB, commaB, lpB, rpB, JSel.kidsT_eq h2.out, if_true, Bool.false_eq_true, if_false, JSel.kidsT]), Lib.hid (by rw [HS.out, hstep.out]; simp only [JSel.head, if_pos h0.out, if_pos h1.out, ho2.out, ba_empty, empty_ba, ByteArray.append_assoc, lbB, colonB, commaB, lpB, rpB, JSel.kidsT_eq h2.out, if_true, Bool.false_eq_true, if_false, JSel.kidsT]), bt HB.out (hb3.out)⟩
          case measure => simp [intOf]; omega
      have t1 := empty_f h1
      replace h1 := Lib.hid h1
      by_cases h2 : xs[k].kids = []
      · have hkk : ¬ (0 : Int) < xs[k].kids.length := by rw [h2]; simp
        replace h2 := Lib.hid h2
        cases ho : xs[k].one with
        | true =>
          have ho2 := Lib.hid ho
          go_wp2_with fail
          refine (l1Dec_c _ _ hid0 hid1).mono ?_
          rintro e w2 ⟨rfl, hb2⟩
          obtain ⟨hc2, hf2⟩ := bcell hb2
          have hz2 : wr.heap.size < w2.heap.size := by have := hb2.size; simp at this; omega
          have hb2 := Lib.hid (bt (b1 _ _) hb2)
          go_wp2
          go_roundw
          case rel => exact ⟨k + 1, by omega, by go_num, _, rfl, vsz.out _ (by rw [HS.out, hstep.out]; simp only [JSel.head, if_pos h0.out, if_neg h1.out, ho2.out, ba_empty, empty_ba, ByteArray.append_assoc, lbB, colonB, commaB, lpB, rpB, h2.out, if_true, Bool.false_eq_true, if_false, JSel.kidsT]), Lib.hid (by rw [HS.out, hstep.out]; simp only [JSel.head, if_pos h0.out, if_neg h1.out, ho2.out, ba_empty, empty_ba, ByteArray.append_assoc, lbB, colonB, commaB, lpB, rpB, h2.out, if_true, Bool.false_eq_true, if_false, JSel.kidsT]), bt HB.out (hb2.out)⟩
          case measure => simp [intOf]; omega
        | false =>
          have ho2 := Lib.hid ho
          go_wp2
          go_roundw
          case rel => exact ⟨k + 1, by omega, by go_num, _, rfl, vsz.out _ (by rw [HS.out, hstep.out]; simp only [JSel.head, if_pos h0.out, if_neg h1.out, ho2.out, ba_empty, empty_ba, ByteArray.append_assoc, lbB, colonB, commaB, lpB, rpB, h2.out, if_true, Bool.false_eq_true, if_false, JSel.kidsT]), Lib.hid (by rw [HS.out, hstep.out]; simp only [JSel.head, if_pos h0.out, if_neg h1.out, ho2.out, ba_empty, empty_ba, ByteArray.append_assoc, lbB, colonB, commaB, lpB, rpB, h2.out, if_true, Bool.false_eq_true, if_false, JSel.kidsT]), bt HB.out (b1 _ _)⟩
          case measure => simp [intOf]; omega
      have hkk : (0 : Int) < xs[k].kids.length := by have := List.length_pos_iff.2 h2; omega
      replace h2 := Lib.hid h2
      cases ho : xs[k].one with
      | true =>
        have ho2 := Lib.hid ho
        go_wp2_with fail
        refine (l1Dec_c _ _ hid0 hid1).mono ?_
        rintro e w2 ⟨rfl, hb2⟩
        obtain ⟨hc2, hf2⟩ := bcell hb2
        have hz2 : wr.heap.size < w2.heap.size := by have := hb2.size; simp at this; omega
        have hb2 := Lib.hid (bt (b1 _ _) hb2)
        go_wp2_with fail
        refine (HM.out _ (hb2.out)).mono ?_
        rintro e w3 ⟨rfl, hb3⟩
        have hb3 := Lib.hid (bt (hb2.out) hb3)
        replace hkz := hkz.out
        go_wp2
        go_roundw
        case rel => exact ⟨k + 1, by omega, by go_num, _, rfl, vsz.out _ (by rw [HS.out, hstep.out]; simp only [JSel.head, if_pos h0.out, if_neg h1.out, ho2.out, ba_empty, empty_ba, ByteArray.append_assoc, lbB, colonB, commaB, lpB, rpB, JSel.kidsT_eq h2.out, if_true, Bool.false_eq_true, if_false, JSel.kidsT]), Lib.hid (by rw [HS.out, hstep.out]; simp only [JSel.head, if_pos h0.out, if_neg h1.out, ho2.out, ba_empty, empty_ba, ByteArray.append_assoc, lbB, colonB, commaB, lpB, rpB, JSel.kidsT_eq h2.out, if_true, Bool.false_eq_true, if_false, JSel.kidsT]), bt HB.out (hb3.out)⟩
        case measure => simp [intOf]; omega
      | false =>
        have ho2 := Lib.hid ho
        go_wp2_with fail
        refine (HM.out _ (b1 _ _)).mono ?_
        rintro e w3 ⟨rfl, hb3⟩
        have hb3 := Lib.hid (bt (b1 _ _) hb3)
        replace hkz := hkz.out
        go_wp2
        go_roundw
        case rel => exact ⟨k + 1, by omega, by go_num, _, rfl, vsz.out _ (by rw [HS.out, hstep.out]; simp only [JSel.head, if_pos h0.out, if_neg h1.out, ho2.out, ba_empty, empty_ba, ByteArray.append_assoc, lbB, colonB, commaB, lpB, rpB, JSel.kidsT_eq h2.out, if_true, Bool.false_eq_true, if_false, JSel.kidsT]), Lib.hid (by rw [HS.out, hstep.out]; simp only [JSel.head, if_pos h0.out, if_neg h1.out, ho2.out, ba_empty, empty_ba, ByteArray.append_assoc, lbB, colonB, commaB, lpB, rpB, JSel.kidsT_eq h2.out, if_true, Bool.false_eq_true, if_false, JSel.kidsT]), bt HB.out (hb3.out)⟩
        case measure => simp [intOf]; omega
    have hkI : (0 : Int) < k := by omega
    replace h0 := Lib.hid h0
    by_cases h1 : xs[k].as_ = ⟨#[]⟩
    · have t1 := empty_t h1
      replace h1 := Lib.hid h1
      by_cases h2 : xs[k].kids = []
      · have hkk : ¬ (0 : Int) < xs[k].kids.length := by rw [h2]; simp
        replace h2 := Lib.hid h2
        cases ho : xs[k].one with
        | true =>
          have ho2 := Lib.hid ho
          go_wp2_with fail
          refine (l1Dec_c _ _ hid0 hid1).mono ?_
          rintro e w2 ⟨rfl, hb2⟩
          obtain ⟨hc2, hf2⟩ := bcell hb2
          have hz2 : wr.heap.size < w2.heap.size := by have := hb2.size; simp at this; omega
          have hb2 := Lib.hid (bt (b1 _ _) hb2)
          go_wp2
          go_roundw
          case rel => exact ⟨k + 1, by omega, by go_num, _, rfl, vsz.out _ (by rw [HS.out, hstep.out]; simp only [JSel.head, if_neg h0.out, if_pos h1.out, ho2.out, ba_empty, empty_ba, ByteArray.append_assoc, lbB, colonB, commaB, lpB, rpB, h2.out, if_true, Bool.false_eq_true, if_false, JSel.kidsT]), Lib.hid (by rw [HS.out, hstep.out]; simp only [JSel.head, if_neg h0.out, if_pos h1.out, ho2.out, ba_empty, empty_ba, ByteArray.append_assoc, lbB, colonB, commaB, lpB, rpB, h2.out, if_true, Bool.false_eq_true, if_false, JSel.kidsT]), bt HB.out (hb2.out)⟩
          case measure => simp [intOf]; omega
        | false =>
          have ho2 := Lib.hid ho
          go_wp2
          go_roundw
          case rel => exact ⟨k + 1, by omega, by go_num, _, rfl, vsz.out _ (by rw [HS.out, hstep.out]; simp only [JSel.head, if_neg h0.out, if_pos h1.out, ho2.out, ba_empty, empty_ba, ByteArray.append_assoc, lbB, colonB, commaB, lpB, rpB, h2.out, if_true, Bool.false_eq_true, if_false, JSel.kidsT]), Lib.hid (by rw [HS.out, hstep.out]; simp only [JSel.head, if_neg h0.out, if_pos h1.out, ho2.out, ba_empty, empty_ba, ByteArray.append_assoc, lbB, colonB, commaB, lpB, rpB, h2.out, if_true, Bool.false_eq_true, if_false, JSel.kidsT]), bt HB.out (b1 _ _)⟩
          case measure => simp [intOf]; omega
      have hkk : (0 : Int) < xs[k].kids.length := by have := List.length_pos_iff.2 h2; omega
      replace h2 := Lib.hid h2
      cases ho : xs[k].one with
      | true =>
        have ho2 := Lib.hid ho
        go_wp2_with fail
        refine (l1Dec_c _ _ hid0 hid1).mono ?_
        rintro e w2 ⟨rfl, hb2⟩
        obtain ⟨hc2, hf2⟩ := bcell hb2
        have hz2 : wr.heap.size < w2.heap.size := by have := hb2.size; simp at this; omega
        have hb2 := Lib.hid (bt (b1 _ _) hb2)
        go_wp2_with fail
        refine (HM.out _ (hb2.out)).mono ?_
        rintro e w3 ⟨rfl, hb3⟩
        have hb3 := Lib.hid (bt (hb2.out) hb3)
        replace hkz := hkz.out
        go_wp2
        go_roundw
        case rel => exact ⟨k + 1, by omega, by go_num, _, rfl, vsz.out _ (by rw [HS.out, hstep.out]; simp only [JSel.head, if_neg h0.out, if_pos h1.out, ho2.out, ba_empty, empty_ba, ByteArray.append_assoc, lbB, colonB, commaB, lpB, rpB, JSel.kidsT_eq h2.out, if_true, Bool.false_eq_true, if_false, JSel.kidsT]), Lib.hid (by rw [HS.out, hstep.out]; simp only [JSel.head, if_neg h0.out, if_pos h1.out, ho2.out, ba_empty, empty_ba, ByteArray.append_assoc, lbB, colonB, commaB, lpB, rpB, JSel.kidsT_eq h2.out, if_true, Bool.false_eq_true, if_false, JSel.kidsT]), bt HB.out (hb3.out)⟩
        case measure => simp [intOf]; omega
      | false =>
        have ho2 := Lib.hid ho
        go_wp2_with fail
        refine (HM.out _ (b1 _ _)).mono ?_
        rintro e w3 ⟨rfl, hb3⟩
        have hb3 := Lib.hid (bt (b1 _ _) hb3)
        replace hkz := hkz.out
        go_wp2
        go_roundw
        case rel => exact ⟨k + 1, by omega, by go_num, _, rfl, vsz.out _ (by rw [HS.out, hstep.out]; simp only [JSel.head, if_neg h0.out, if_pos h1.out, ho2.out, ba_empty, empty_ba, ByteArray.append_assoc, lbB, colonB, commaB, lpB, rpB, JSel.kidsT_eq h2.out, if_true, Bool.false_eq_true, if_false, JSel.kidsT]), Lib.hid (by rw [HS.out, hstep.out]; simp only [JSel.head, if_neg h0.out, if_pos h1.out, ho2.out, ba_empty, empty_ba, ByteArray.append_assoc, lbB, colonB, commaB, lpB, rpB, JSel.kidsT_eq h2.out, if_true, Bool.false_eq_true, if_false, JSel.kidsT]), bt HB.out (hb3.out)⟩
        case measure => simp [intOf]; omega
    have t1 := empty_f h1
    replace h1 := Lib.hid h1
    by_cases h2 : xs[k].kids = []
    · have hkk : ¬ (0 : Int) < xs[k].kids.length := by rw [h2]; simp
      replace h2 := Lib.hid h2
      cases ho : xs[k].one with
      | true =>
        have ho2 := Lib.hid ho
        go_wp2_with fail
        refine (l1Dec_c _ _ hid0 hid1).mono ?_
        rintro e w2 ⟨rfl, hb2⟩
        obtain ⟨hc2, hf2⟩ := bcell hb2
        have hz2 : wr.heap.size < w2.heap.size := by have := hb2.size; simp at this; omega
        have hb2 := Lib.hid (bt (b1 _ _) hb2)
        go_wp2
        go_roundw
        case rel => exact ⟨k + 1, by omega, by go_num, _, rfl, vsz.out _ (by rw [HS.out, hstep.out]; simp only [JSel.head, if_neg h0.out, if_neg h1.out, ho2.out, ba_empty, empty_ba, ByteArray.append_assoc, lbB, colonB, commaB, lpB, rpB, h2.out, if_true, Bool.false_eq_true, if_false, JSel.kidsT]), Lib.hid (by rw [HS.out, hstep.out]; simp only [JSel.head, if_neg h0.out, if_neg h1.out, ho2.out, ba_empty, empty_ba, ByteArray.append_assoc, lbB, colonB, commaB, lpB, rpB, h2.out, if_true, Bool.false_eq_true, if_false, JSel.kidsT]), bt HB.out (hb2.out)⟩
        case measure => simp [intOf]; omega
      | false =>
        have ho2 := Lib.hid ho
        go_wp2
        go_roundw
        case rel => exact ⟨k + 1, by omega, by go_num, _, rfl, vsz.out _ (by rw [HS.out, hstep.out]; simp only [JSel.head, if_neg h0.out, if_neg h1.out, ho2.out, ba_empty, empty_ba, ByteArray.append_assoc, lbB, colonB, commaB, lpB, rpB, h2.out, if_true, Bool.false_eq_true, if_false, JSel.kidsT]), Lib.hid (by rw [HS.out, hstep.out]; simp only [JSel.head, if_neg h0.out, if_neg h1.out, ho2.out, ba_empty, empty_ba, ByteArray.append_assoc, lbB, colonB, commaB, lpB, rpB, h2.out, if_true, Bool.false_eq_true, if_false, JSel.kidsT]), bt HB.out (b1 _ _)⟩
        case measure => simp [intOf]; omega
    have hkk : (0 : Int) < xs[k].kids.length := by have := List.length_pos_iff.2 h2; omega
    replace h2 := Lib.hid h2
    cases ho : xs[k].one with
    | true =>
      have ho2 := Lib.hid ho
      go_wp2_with fail
      refine (l1Dec_c _ _ hid0 hid1).mono ?_
      rintro e w2 ⟨rfl, hb2⟩
      obtain ⟨hc2, hf2⟩ := bcell hb2
      have hz2 : wr.heap.size < w2.heap.size := by have := hb2.size; simp at this; omega
      have hb2 := Lib.hid (bt (b1 _ _) hb2)
      go_wp2_with fail
      refine (HM.out _ (hb2.out)).mono ?_
      rintro e w3 ⟨rfl, hb3⟩
      have hb3 := Lib.hid (bt (hb2.out) hb3)
      replace hkz := hkz.out
      go_wp2
      go_roundw
      case rel => exact ⟨k + 1, by omega, by go_num, _, rfl, vsz.out _ (by rw [HS.out, hstep.out]; simp only [JSel.head, if_neg h0.out, if_neg h1.out, ho2.out, ba_empty, empty_ba, ByteArray.append_assoc, lbB, colonB, commaB, lpB, rpB, JSel.kidsT_eq h2.out, if_true, Bool.false_eq_true, if_false, JSel.kidsT]), Lib.hid (by rw [HS.out, hstep.out]; simp only [JSel.head, if_neg h0.out, if_neg h1.out, ho2.out, ba_empty, empty_ba, ByteArray.append_assoc, lbB, colonB, commaB, lpB, rpB, JSel.kidsT_eq h2.out, if_true, Bool.false_eq_true, if_false, JSel.kidsT]), bt HB.out (hb3.out)⟩
      case measure => simp [intOf]; omega
    | false =>
      have ho2 := Lib.hid ho
      go_wp2_with fail
      refine (HM.out _ (b1 _ _)).mono ?_
      rintro e w3 ⟨rfl, hb3⟩
      have hb3 := Lib.hid (bt (b1 _ _) hb3)
      replace hkz := hkz.out
      go_wp2
      go_roundw
      case rel => exact ⟨k + 1, by omega, by go_num, _, rfl, vsz.out _ (by rw [HS.out, hstep.out]; simp only [JSel.head, if_neg h0.out, if_neg h1.out, ho2.out, ba_empty, empty_ba, ByteArray.append_assoc, lbB, colonB, commaB, lpB, rpB, JSel.kidsT_eq h2.out, if_true, Bool.false_eq_true, if_false, JSel.kidsT]), Lib.hid (by rw [HS.out, hstep.out]; simp only [JSel.head, if_neg h0.out, if_neg h1.out, ho2.out, ba_empty, empty_ba, ByteArray.append_assoc, lbB, colonB, commaB, lpB, rpB, JSel.kidsT_eq h2.out, if_true, Bool.false_eq_true, if_false, JSel.kidsT]), bt HB.out (hb3.out)⟩
      case measure => simp [intOf]; omega
theorem l3Write_all : ∀ n, ∀ xs : List JSel, SizeOf.sizeOf xs < n → L3Write xs
  | 0 => fun _ h => absurd h (by omega)
  | n + 1 => fun xs h => l3Write_of xs fun x hx => l3Write_all n x.kids (by have := JSel.kids_lt x; have := List.sizeOf_lt_of_mem hx; omega)
theorem l3Write_c (xs : List JSel) : L3Write xs := l3Write_all _ xs (Nat.lt_succ_self _)
end Go.Proofs.YtmkagpmdindlpaaDoor.Lib
