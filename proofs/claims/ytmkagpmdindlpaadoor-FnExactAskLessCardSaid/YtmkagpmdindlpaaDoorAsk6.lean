/- The program's askText. Asks that are ok, of 24 fields at most. -/
import Derived.Test.YtmkagpmdindlpaaDoorAsk4
set_option linter.unusedVariables false
set_option linter.unusedSimpArgs false
namespace Go.Proofs.YtmkagpmdindlpaaDoor.Lib
open Go.RowKit

theorem askT_bounds' {xs : List JSel} {d : Int} (h : JSel.okL xs d) (hn : JSel.nodesL xs ≤ 24) : (askT xs).size ≤ 674 := by
  have := askT_size h; omega
theorem joinT_all {xs : List JSel} {d : Int} (h : JSel.okL xs d) (hn : JSel.nodesL xs ≤ 24) : (JSel.joinT xs).size ≤ 672 := by
  have := JSel.joinT_size h
  omega
theorem text_bound {xs : List JSel} {d : Int} (h : JSel.okL xs d) (hn : JSel.nodesL xs ≤ 24) {k : Nat} (hk : k < xs.length) : (JSel.text xs[k]).size ≤ 672 := by
  have h1 := JSel.text_size (JSel.okL_get h k hk)
  have h2 := JSel.nodesL_take xs k hk
  have h3 := JSel.nodesL_le xs (k + 1)
  omega
/-- strings.Join of the texts of fields. -/
theorem join_c (ys : List JSel) (v : Value) (fp : List Nat) (w : World) (ho : Own w (slD strD 1 (ys.map JSel.text)) v fp) (hz : (JSel.joinT ys).size ≤ 672) (hl : ys.length ≤ 24) :
    Calls Tryd.prog 44 #[v, .string ⟨#[44]⟩] w (Ret w (.string (JSel.joinT ys))) := by
  rcases Own.head ho with ⟨hn, A, c, rfl⟩ | ⟨g, cap, rfl⟩
  · have : ys = [] := by simpa using hn
    subst this
    exact (Tryd.strings_Join_none A c _ w).mono fun e w' ⟨he, hw⟩ => ⟨by rw [he]; rfl, by first | (rw [hw]; exact Below.refl _ _) | (rw [← hw]; exact Below.refl _ _)⟩
  · have hr := Own.rd _ _ _ ho
    obtain ⟨A, c, e_, hc, _, _⟩ := Rd.slice hr
    injection e_ with ea en ec
    subst ec
    have hlen : (ys.map JSel.text).length = ys.length := List.length_map ..
    by_cases h0 : 0 < ys.length
    · obtain ⟨ad, e2, hcell, _⟩ := Rd.elem_str hr 0 (by rw [hlen]; exact h0)
      have hgl : g < w.heap.size := by
        have := World.block_lt_of_cell? w _ hcell
        injection e2 with e2
        subst e2
        rw [add_plain] at this
        exact this
      have hcells : ∀ (j : Nat) x, (ys.map JSel.text)[j]? = some x → w.cell? ⟨g, 0 + j, none⟩ = some (.string x) := by
        intro j x hj
        obtain ⟨hjl, rfl⟩ := List.getElem?_eq_some_iff.1 hj
        obtain ⟨ad3, e3, hc3, _⟩ := Rd.elem_str hr j hjl
        injection e3 with e3
        subst e3
        rw [add_plain] at hc3
        rw [Nat.zero_add]
        exact hc3
      have hjl : (Go.Lib.join ((ys.map JSel.text).map (·.data.toList)) commaB.data.toList).length ≤ 140737488355328 := by
        have e : (Go.Lib.join ((ys.map JSel.text).map (·.data.toList)) commaB.data.toList).length = (JSel.joinT ys).size := by
          rw [← joinT_join]; simp [ByteArray.size]
        omega
      exact (Tryd.strings_Join g 0 cap (ys.map JSel.text) commaB w hcells hgl (by omega) hc hjl).mono fun e w' ⟨he, hb⟩ => ⟨by rw [he, joinT_join], hb⟩
    · have : ys = [] := List.eq_nil_of_length_eq_zero (by omega)
      subst this
      exact (Tryd.strings_Join_none _ _ _ w).mono fun e w' ⟨he, hw⟩ => ⟨by rw [he]; rfl, by first | (rw [hw]; exact Below.refl _ _) | (rw [← hw]; exact Below.refl _ _)⟩
def AskText (xs : List JSel) : Prop := ∀ (A : Option Addr) (n c : Nat) (d : Int) (w : World), Rd w (slD JSel.enc 5 xs) (.slice A n c) → JSel.okL xs d → JSel.nodesL xs ≤ 24 → TabW w →
  Calls Tryd.prog 32 #[.slice A n c] w (Ret w (.string (askT xs)))
set_option maxRecDepth 100000 in
set_option maxHeartbeats 8000000 in
theorem askText_of (xs : List JSel) (hK : ∀ x, x ∈ xs → AskText x.kids) : AskText xs := by
  intro A n c d w hx hok hn24 htab
  obtain rfl := Rd.len hx
  obtain ⟨i0, hi, hz0, hz1, hz2⟩ := info_parts info_strE
  have hl : xs.length ≤ 24 := by have := JSel.nodesL_len xs; omega
  have HX := Lib.hid hx
  have HK := Lib.hid hK
  have HO := Lib.hid hok
  have HN := Lib.hid hn24
  have HT := Lib.hid (fun W (h : Below w.heap.size w W) => htab.below h)
  clear hx hK hok hn24 htab
  go_enter Tryd.func32, Tryd.ntmps32
  go_wp2
  go_loopw [3, 5, 6, 9] (fun v _ _ i wr => ∃ k : Nat, k ≤ xs.length ∧ i = .int .i64 k ∧ Hid (Below w.heap.size w wr) ∧ Hid (Gr w.heap.size wr 9 strD 1 ((xs.take k).map JSel.text) v)) (fun _ _ _ i _ => xs.length - (intOf i).toNat)
  case atStart => exact ⟨0, Nat.zero_le _, rfl, Below.refl _ _, Gr.nil _ _ _ _ _⟩
  case round =>
    obtain ⟨k, hk, rfl, HB, HG⟩ := hrel
    by_cases hlt : k < xs.length
    case neg =>
      have hkk : k = xs.length := by omega
      have HG9 : Gr w.heap.size wr 9 strD 1 (xs.map JSel.text) _ := Gr.cast HG.out (by rw [hkk, List.take_of_length_le (Nat.le_refl _)]) rfl
      obtain ⟨fp, ho, _, _⟩ := HG9.own strD_len
      have HJ := Lib.hid (join_c xs _ fp wr ho (joinT_all HO.out HN.out) hl)
      have hjz := joinT_all HO.out HN.out
      have hfin : lbB ++ JSel.joinT xs ++ rbB = askT xs := (askT_eq xs).symm
      replace hfin := Lib.hid hfin
      clear hkk HG9 ho
      go_wp2_with fail
      refine HJ.out.mono ?_
      rintro e w2 ⟨rfl, hb2⟩
      have hb9 := Lib.hid (bt HB.out hb2)
      clear hb2
      go_wp2
      go_ret
      exact Ret.str hfin.out hb9.out
    obtain ⟨ad, A4, c4, rfl, y0, y1, y2, y3, y4, g4, l0, l1, n4⟩ := JSel.elem (HX.out.below HB.out) k hlt
    have hxo := JSel.okL_get HO.out k hlt
    obtain ⟨hso, hak⟩ := (xs[k].okAt_eq d).1 hxo
    have hsn := hso.1.size
    have hnk : JSel.nodesL xs[k].kids ≤ 24 := by have := (nodesL_k hlt).1; have := HN.out; omega
    have HM := Lib.hid (fun W (h : Below wr.heap.size wr W) => HK.out xs[k] (List.getElem_mem hlt) A4 xs[k].kids.length c4 (d + 1) W (g4.below h) hak.2.2 hnk (HT.out _ (bt HB.out h)))
    have HI := Lib.hid (fun W (h : Below wr.heap.size wr W) => itoa_c xs[k].id W hso.2.2.1.1 hso.2.2.1.2 (HT.out _ (bt HB.out h)))
    have hkz := Lib.hid (askT_bounds' hak.2.2 hnk)
    have hdz := decB_size hso.2.2.1.1 hso.2.2.1.2
    have hasz : xs[k].as_.size ≤ 8 := by rcases hso.2.1 with h | h; · rw [h]; decide
                                         · exact h.1.size
    have htz := text_bound HO.out HN.out hlt
    have htx := JSel.text_eq xs[k]
    replace htx := Lib.hid htx
    replace htz := Lib.hid htz
    obtain ⟨dd, hDD⟩ : ∃ dd, dd = decB xs[k].id := ⟨_, rfl⟩
    obtain ⟨kt, hKT⟩ : ∃ kt, kt = askT xs[k].kids := ⟨_, rfl⟩
    rw [← hDD] at HI hdz
    rw [← hKT] at HM hkz
    replace hDD := Lib.hid hDD
    replace hKT := Lib.hid hKT
    clear hxo hso hak hnk g4
    by_cases h1 : xs[k].as_ = ⟨#[]⟩
    · have t1 := empty_t h1
      replace h1 := Lib.hid h1
      by_cases h2 : xs[k].kids = []
      · have hkk : ¬ (0 : Int) < xs[k].kids.length := by rw [h2]; simp
        replace h2 := Lib.hid h2
        cases ho : xs[k].one with
        | true =>
          have ho2 := Lib.hid ho
          go_wp2_with fail
          refine (HI.out _ (b1 _ _)).mono ?_
          rintro e w2 ⟨rfl, hb2⟩
          obtain ⟨hc2, hf2⟩ := bcell hb2
          have hzw2 : wr.heap.size < w2.heap.size := by have := hb2.size; simp at this; omega
          have hb2 := Lib.hid (bt (b1 _ _) hb2)
          have hte : xs[k].text = (xs[k].name) ++ (⟨#[40]⟩ ++ dd ++ ⟨#[41]⟩) := by rw [htx.out]; simp only [JSel.head, if_pos h1.out, ho2.out, hDD.out, hKT.out, ba_empty, empty_ba, ByteArray.append_assoc, lbB, colonB, commaB, lpB, rpB, h2.out, if_true, Bool.false_eq_true, if_false, JSel.kidsT]
          replace hte := Lib.hid hte
          go_wp2_with (at_builtin; refine wpList_push rfl _ _ 39 rfl (enc := strD) (base := w.heap.size) (wr := wr) (xs := (xs.take k).map JSel.text) xs[k].text 9 i0 (.string ⟨#[]⟩) 1 16 Tryd.underlying39 hi hz0 hz1 hz2 rfl (by decide) strD_len rfl HG.out (bt (hb2.out) (b1 _ _)) HB.out.size ⟨w2.heap.size, 0, none⟩ 1 rfl [.string ((xs[k].name) ++ (⟨#[40]⟩ ++ dd ++ ⟨#[41]⟩))] [] (by rw [hte.out]; exact .str (by rw [← hte.out]; have := htz.out; omega) (.nil _)) (Fresh.nil _) (box_new rfl) ?c1 ?_)
          case c1 => first | (constructor <;> omega) | (rw [List.length_map, List.length_take]; constructor <;> omega)
          intro A9 c9 w9 hG3 hB3 _ _
          have hG9 := Lib.hid hG3
          have hB9 := Lib.hid (HB.out.trans (((bt (hb2.out) (b1 _ _)).mono HB.out.size).trans hB3))
          clear hG3 hB3
          go_wp2
          go_roundw
          case rel => exact ⟨k + 1, by omega, by go_num, hB9.out, Gr.cast hG9.out (by rw [List.take_succ_eq_append_getElem hlt, List.map_append, ← List.map_take]; rfl) (by simp)⟩
          case measure => simp [intOf]; omega
        | false =>
          have ho2 := Lib.hid ho
          have hte : xs[k].text = xs[k].name := by rw [htx.out]; simp only [JSel.head, if_pos h1.out, ho2.out, hDD.out, hKT.out, ba_empty, empty_ba, ByteArray.append_assoc, lbB, colonB, commaB, lpB, rpB, h2.out, if_true, Bool.false_eq_true, if_false, JSel.kidsT]
          replace hte := Lib.hid hte
          go_wp2_with (at_builtin; refine wpList_push rfl _ _ 39 rfl (enc := strD) (base := w.heap.size) (wr := wr) (xs := (xs.take k).map JSel.text) xs[k].text 9 i0 (.string ⟨#[]⟩) 1 16 Tryd.underlying39 hi hz0 hz1 hz2 rfl (by decide) strD_len rfl HG.out (bt (b1 _ _) (b1 _ _)) HB.out.size ⟨wr.heap.size + 1, 0, none⟩ 1 rfl [.string (xs[k].name)] [] (by rw [hte.out]; exact .str (by rw [← hte.out]; have := htz.out; omega) (.nil _)) (Fresh.nil _) (box_newAt (by simp) rfl) ?c1 ?_)
          case c1 => first | (constructor <;> omega) | (rw [List.length_map, List.length_take]; constructor <;> omega)
          intro A9 c9 w9 hG3 hB3 _ _
          have hG9 := Lib.hid hG3
          have hB9 := Lib.hid (HB.out.trans (((bt (b1 _ _) (b1 _ _)).mono HB.out.size).trans hB3))
          clear hG3 hB3
          go_wp2
          go_roundw
          case rel => exact ⟨k + 1, by omega, by go_num, hB9.out, Gr.cast hG9.out (by rw [List.take_succ_eq_append_getElem hlt, List.map_append, ← List.map_take]; rfl) (by simp)⟩
          case measure => simp [intOf]; omega
      have hkk : (0 : Int) < xs[k].kids.length := by have := List.length_pos_iff.2 h2; omega
      replace h2 := Lib.hid h2
      cases ho : xs[k].one with
      | true =>
        have ho2 := Lib.hid ho
        go_wp2_with fail
        refine (HI.out _ (b1 _ _)).mono ?_
        rintro e w2 ⟨rfl, hb2⟩
        obtain ⟨hc2, hf2⟩ := bcell hb2
        have hzw2 : wr.heap.size < w2.heap.size := by have := hb2.size; simp at this; omega
        have hb2 := Lib.hid (bt (b1 _ _) hb2)
        go_wp2_with fail
        refine (HM.out _ (hb2.out)).mono ?_
        rintro e w3 ⟨rfl, hb3⟩
        have hb3 := Lib.hid (bt (hb2.out) hb3)
        replace hkz := hkz.out
        have hte : xs[k].text = ((xs[k].name) ++ (⟨#[40]⟩ ++ dd ++ ⟨#[41]⟩)) ++ kt := by rw [htx.out]; simp only [JSel.head, if_pos h1.out, ho2.out, hDD.out, hKT.out, ba_empty, empty_ba, ByteArray.append_assoc, lbB, colonB, commaB, lpB, rpB, JSel.kidsT_eq h2.out, if_true, Bool.false_eq_true, if_false, JSel.kidsT]
        replace hte := Lib.hid hte
        go_wp2_with (at_builtin; refine wpList_push rfl _ _ 39 rfl (enc := strD) (base := w.heap.size) (wr := wr) (xs := (xs.take k).map JSel.text) xs[k].text 9 i0 (.string ⟨#[]⟩) 1 16 Tryd.underlying39 hi hz0 hz1 hz2 rfl (by decide) strD_len rfl HG.out (bt (hb3.out) (b1 _ _)) HB.out.size ⟨w3.heap.size, 0, none⟩ 1 rfl [.string (((xs[k].name) ++ (⟨#[40]⟩ ++ dd ++ ⟨#[41]⟩)) ++ kt)] [] (by rw [hte.out]; exact .str (by rw [← hte.out]; have := htz.out; omega) (.nil _)) (Fresh.nil _) (box_new rfl) ?c1 ?_)
        case c1 => first | (constructor <;> omega) | (rw [List.length_map, List.length_take]; constructor <;> omega)
        intro A9 c9 w9 hG3 hB3 _ _
        have hG9 := Lib.hid hG3
        have hB9 := Lib.hid (HB.out.trans (((bt (hb3.out) (b1 _ _)).mono HB.out.size).trans hB3))
        clear hG3 hB3
        go_wp2
        go_roundw
        case rel => exact ⟨k + 1, by omega, by go_num, hB9.out, Gr.cast hG9.out (by rw [List.take_succ_eq_append_getElem hlt, List.map_append, ← List.map_take]; rfl) (by simp)⟩
        case measure => simp [intOf]; omega
      | false =>
        have ho2 := Lib.hid ho
        go_wp2_with fail
        refine (HM.out _ (b1 _ _)).mono ?_
        rintro e w3 ⟨rfl, hb3⟩
        have hb3 := Lib.hid (bt (b1 _ _) hb3)
        replace hkz := hkz.out
        have hte : xs[k].text = (xs[k].name) ++ kt := by rw [htx.out]; simp only [JSel.head, if_pos h1.out, ho2.out, hDD.out, hKT.out, ba_empty, empty_ba, ByteArray.append_assoc, lbB, colonB, commaB, lpB, rpB, JSel.kidsT_eq h2.out, if_true, Bool.false_eq_true, if_false, JSel.kidsT]
        replace hte := Lib.hid hte
        go_wp2_with (at_builtin; refine wpList_push rfl _ _ 39 rfl (enc := strD) (base := w.heap.size) (wr := wr) (xs := (xs.take k).map JSel.text) xs[k].text 9 i0 (.string ⟨#[]⟩) 1 16 Tryd.underlying39 hi hz0 hz1 hz2 rfl (by decide) strD_len rfl HG.out (bt (hb3.out) (b1 _ _)) HB.out.size ⟨w3.heap.size, 0, none⟩ 1 rfl [.string ((xs[k].name) ++ kt)] [] (by rw [hte.out]; exact .str (by rw [← hte.out]; have := htz.out; omega) (.nil _)) (Fresh.nil _) (box_new rfl) ?c1 ?_)
        case c1 => first | (constructor <;> omega) | (rw [List.length_map, List.length_take]; constructor <;> omega)
        intro A9 c9 w9 hG3 hB3 _ _
        have hG9 := Lib.hid hG3
        have hB9 := Lib.hid (HB.out.trans (((bt (hb3.out) (b1 _ _)).mono HB.out.size).trans hB3))
        clear hG3 hB3
        go_wp2
        go_roundw
        case rel => exact ⟨k + 1, by omega, by go_num, hB9.out, Gr.cast hG9.out (by rw [List.take_succ_eq_append_getElem hlt, List.map_append, ← List.map_take]; rfl) (by simp)⟩
        case measure => simp [intOf]; omega
    have t1 := empty_f h1
    replace h1 := Lib.hid h1
    by_cases h2 : xs[k].kids = []
    · have hkk : ¬ (0 : Int) < xs[k].kids.length := by rw [h2]; simp
      replace h2 := Lib.hid h2
      cases ho : xs[k].one with
      | true =>
        have ho2 := Lib.hid ho
        go_wp2_with fail
        refine (HI.out _ (b1 _ _)).mono ?_
        rintro e w2 ⟨rfl, hb2⟩
        obtain ⟨hc2, hf2⟩ := bcell hb2
        have hzw2 : wr.heap.size < w2.heap.size := by have := hb2.size; simp at this; omega
        have hb2 := Lib.hid (bt (b1 _ _) hb2)
        have hte : xs[k].text = (xs[k].as_ ++ ⟨#[58]⟩ ++ xs[k].name) ++ (⟨#[40]⟩ ++ dd ++ ⟨#[41]⟩) := by rw [htx.out]; simp only [JSel.head, if_neg h1.out, ho2.out, hDD.out, hKT.out, ba_empty, empty_ba, ByteArray.append_assoc, lbB, colonB, commaB, lpB, rpB, h2.out, if_true, Bool.false_eq_true, if_false, JSel.kidsT]
        replace hte := Lib.hid hte
        go_wp2_with (at_builtin; refine wpList_push rfl _ _ 39 rfl (enc := strD) (base := w.heap.size) (wr := wr) (xs := (xs.take k).map JSel.text) xs[k].text 9 i0 (.string ⟨#[]⟩) 1 16 Tryd.underlying39 hi hz0 hz1 hz2 rfl (by decide) strD_len rfl HG.out (bt (hb2.out) (b1 _ _)) HB.out.size ⟨w2.heap.size, 0, none⟩ 1 rfl [.string ((xs[k].as_ ++ ⟨#[58]⟩ ++ xs[k].name) ++ (⟨#[40]⟩ ++ dd ++ ⟨#[41]⟩))] [] (by rw [hte.out]; exact .str (by rw [← hte.out]; have := htz.out; omega) (.nil _)) (Fresh.nil _) (box_new rfl) ?c1 ?_)
        case c1 => first | (constructor <;> omega) | (rw [List.length_map, List.length_take]; constructor <;> omega)
        intro A9 c9 w9 hG3 hB3 _ _
        have hG9 := Lib.hid hG3
        have hB9 := Lib.hid (HB.out.trans (((bt (hb2.out) (b1 _ _)).mono HB.out.size).trans hB3))
        clear hG3 hB3
        go_wp2
        go_roundw
        case rel => exact ⟨k + 1, by omega, by go_num, hB9.out, Gr.cast hG9.out (by rw [List.take_succ_eq_append_getElem hlt, List.map_append, ← List.map_take]; rfl) (by simp)⟩
        case measure => simp [intOf]; omega
      | false =>
        have ho2 := Lib.hid ho
        have hte : xs[k].text = xs[k].as_ ++ ⟨#[58]⟩ ++ xs[k].name := by rw [htx.out]; simp only [JSel.head, if_neg h1.out, ho2.out, hDD.out, hKT.out, ba_empty, empty_ba, ByteArray.append_assoc, lbB, colonB, commaB, lpB, rpB, h2.out, if_true, Bool.false_eq_true, if_false, JSel.kidsT]
        replace hte := Lib.hid hte
        go_wp2_with (at_builtin; refine wpList_push rfl _ _ 39 rfl (enc := strD) (base := w.heap.size) (wr := wr) (xs := (xs.take k).map JSel.text) xs[k].text 9 i0 (.string ⟨#[]⟩) 1 16 Tryd.underlying39 hi hz0 hz1 hz2 rfl (by decide) strD_len rfl HG.out (bt (b1 _ _) (b1 _ _)) HB.out.size ⟨wr.heap.size + 1, 0, none⟩ 1 rfl [.string (xs[k].as_ ++ ⟨#[58]⟩ ++ xs[k].name)] [] (by rw [hte.out]; exact .str (by rw [← hte.out]; have := htz.out; omega) (.nil _)) (Fresh.nil _) (box_newAt (by simp) rfl) ?c1 ?_)
        case c1 => first | (constructor <;> omega) | (rw [List.length_map, List.length_take]; constructor <;> omega)
        intro A9 c9 w9 hG3 hB3 _ _
        have hG9 := Lib.hid hG3
        have hB9 := Lib.hid (HB.out.trans (((bt (b1 _ _) (b1 _ _)).mono HB.out.size).trans hB3))
        clear hG3 hB3
        go_wp2
        go_roundw
        case rel => exact ⟨k + 1, by omega, by go_num, hB9.out, Gr.cast hG9.out (by rw [List.take_succ_eq_append_getElem hlt, List.map_append, ← List.map_take]; rfl) (by simp)⟩
        case measure => simp [intOf]; omega
    have hkk : (0 : Int) < xs[k].kids.length := by have := List.length_pos_iff.2 h2; omega
    replace h2 := Lib.hid h2
    cases ho : xs[k].one with
    | true =>
      have ho2 := Lib.hid ho
      go_wp2_with fail
      refine (HI.out _ (b1 _ _)).mono ?_
      rintro e w2 ⟨rfl, hb2⟩
      obtain ⟨hc2, hf2⟩ := bcell hb2
      have hzw2 : wr.heap.size < w2.heap.size := by have := hb2.size; simp at this; omega
      have hb2 := Lib.hid (bt (b1 _ _) hb2)
      go_wp2_with fail
      refine (HM.out _ (hb2.out)).mono ?_
      rintro e w3 ⟨rfl, hb3⟩
      have hb3 := Lib.hid (bt (hb2.out) hb3)
      replace hkz := hkz.out
      have hte : xs[k].text = ((xs[k].as_ ++ ⟨#[58]⟩ ++ xs[k].name) ++ (⟨#[40]⟩ ++ dd ++ ⟨#[41]⟩)) ++ kt := by rw [htx.out]; simp only [JSel.head, if_neg h1.out, ho2.out, hDD.out, hKT.out, ba_empty, empty_ba, ByteArray.append_assoc, lbB, colonB, commaB, lpB, rpB, JSel.kidsT_eq h2.out, if_true, Bool.false_eq_true, if_false, JSel.kidsT]
      replace hte := Lib.hid hte
      go_wp2_with (at_builtin; refine wpList_push rfl _ _ 39 rfl (enc := strD) (base := w.heap.size) (wr := wr) (xs := (xs.take k).map JSel.text) xs[k].text 9 i0 (.string ⟨#[]⟩) 1 16 Tryd.underlying39 hi hz0 hz1 hz2 rfl (by decide) strD_len rfl HG.out (bt (hb3.out) (b1 _ _)) HB.out.size ⟨w3.heap.size, 0, none⟩ 1 rfl [.string (((xs[k].as_ ++ ⟨#[58]⟩ ++ xs[k].name) ++ (⟨#[40]⟩ ++ dd ++ ⟨#[41]⟩)) ++ kt)] [] (by rw [hte.out]; exact .str (by rw [← hte.out]; have := htz.out; omega) (.nil _)) (Fresh.nil _) (box_new rfl) ?c1 ?_)
      case c1 => first | (constructor <;> omega) | (rw [List.length_map, List.length_take]; constructor <;> omega)
      intro A9 c9 w9 hG3 hB3 _ _
      have hG9 := Lib.hid hG3
      have hB9 := Lib.hid (HB.out.trans (((bt (hb3.out) (b1 _ _)).mono HB.out.size).trans hB3))
      clear hG3 hB3
      go_wp2
      go_roundw
      case rel => exact ⟨k + 1, by omega, by go_num, hB9.out, Gr.cast hG9.out (by rw [List.take_succ_eq_append_getElem hlt, List.map_append, ← List.map_take]; rfl) (by simp)⟩
      case measure => simp [intOf]; omega
    | false =>
      have ho2 := Lib.hid ho
      go_wp2_with fail
      refine (HM.out _ (b1 _ _)).mono ?_
      rintro e w3 ⟨rfl, hb3⟩
      have hb3 := Lib.hid (bt (b1 _ _) hb3)
      replace hkz := hkz.out
      have hte : xs[k].text = (xs[k].as_ ++ ⟨#[58]⟩ ++ xs[k].name) ++ kt := by rw [htx.out]; simp only [JSel.head, if_neg h1.out, ho2.out, hDD.out, hKT.out, ba_empty, empty_ba, ByteArray.append_assoc, lbB, colonB, commaB, lpB, rpB, JSel.kidsT_eq h2.out, if_true, Bool.false_eq_true, if_false, JSel.kidsT]
      replace hte := Lib.hid hte
      go_wp2_with (at_builtin; refine wpList_push rfl _ _ 39 rfl (enc := strD) (base := w.heap.size) (wr := wr) (xs := (xs.take k).map JSel.text) xs[k].text 9 i0 (.string ⟨#[]⟩) 1 16 Tryd.underlying39 hi hz0 hz1 hz2 rfl (by decide) strD_len rfl HG.out (bt (hb3.out) (b1 _ _)) HB.out.size ⟨w3.heap.size, 0, none⟩ 1 rfl [.string ((xs[k].as_ ++ ⟨#[58]⟩ ++ xs[k].name) ++ kt)] [] (by rw [hte.out]; exact .str (by rw [← hte.out]; have := htz.out; omega) (.nil _)) (Fresh.nil _) (box_new rfl) ?c1 ?_)
      case c1 => first | (constructor <;> omega) | (rw [List.length_map, List.length_take]; constructor <;> omega)
      intro A9 c9 w9 hG3 hB3 _ _
      have hG9 := Lib.hid hG3
      have hB9 := Lib.hid (HB.out.trans (((bt (hb3.out) (b1 _ _)).mono HB.out.size).trans hB3))
      clear hG3 hB3
      go_wp2
      go_roundw
      case rel => exact ⟨k + 1, by omega, by go_num, hB9.out, Gr.cast hG9.out (by rw [List.take_succ_eq_append_getElem hlt, List.map_append, ← List.map_take]; rfl) (by simp)⟩
      case measure => simp [intOf]; omega
theorem askText_all : ∀ n, ∀ xs : List JSel, SizeOf.sizeOf xs < n → AskText xs
  | 0 => fun _ h => absurd h (by omega)
  | n + 1 => fun xs h => askText_of xs fun x hx => askText_all n x.kids (by have := JSel.kids_lt x; have := List.sizeOf_lt_of_mem hx; omega)
theorem askText_c (xs : List JSel) : AskText xs := askText_all _ xs (Nat.lt_succ_self _)
end Go.Proofs.YtmkagpmdindlpaaDoor.Lib
