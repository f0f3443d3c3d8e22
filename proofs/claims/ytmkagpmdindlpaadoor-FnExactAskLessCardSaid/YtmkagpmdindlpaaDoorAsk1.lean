/- A field of an ask by itself: its name, whether it is ok; the names of a list. Printed by gask1.py. No condition beyond sizes that every list has. -/
import Derived.Test.YtmkagpmdindlpaaDoorNames
set_option linter.unusedVariables false
set_option linter.unusedSimpArgs false
namespace Go.Proofs.YtmkagpmdindlpaaDoor.Lib
open Go.RowKit

theorem Ret.str {w w' : World} {a b : ByteArray} (h : a = b) (hb : Below w.heap.size w w') : Ret w (.string b) (.returned (.string a)) w' := ⟨by rw [h], hb⟩
theorem info_strE : (Tryd.prog.info? 9).map (fun i => (i.zero, i.size, i.bytes)) = some (some (.string ⟨#[]⟩), 1, 16) := by kernel_rfl
theorem under_c (v : JSel) (cs : List Value) (w : World) (hx : RdL w v.enc cs) : Calls Tryd.prog 34 #[.agg cs.toArray] w (Ret w (.string v.under)) := by
  obtain ⟨A4, c4, rfl, g4, l0, l1, n4⟩ := JSel.open_ hx
  clear hx g4
  by_cases h : v.as_ = ⟨#[]⟩
  · have t := empty_t h
    have hu : v.under = v.name := by unfold JSel.under; rw [if_pos h]
    replace h := Lib.hid h
    replace hu := Lib.hid hu
    go_enter Tryd.func34, Tryd.ntmps34
    go_wp2
    go_ret
    exact Ret.str hu.out.symm (b1 _ _)
  · have t := empty_f h
    have hu : v.under = v.as_ := by unfold JSel.under; rw [if_neg h]
    replace h := Lib.hid h
    replace hu := Lib.hid hu
    go_enter Tryd.func34, Tryd.ntmps34
    go_wp2
    go_ret
    exact Ret.str hu.out.symm (b1 _ _)
theorem l3Key_c (v : JSel) (cs : List Value) (w : World) (hx : RdL w v.enc cs) : Calls Tryd.prog 29 #[.agg cs.toArray] w (Ret w (.string v.under)) := by
  obtain ⟨A4, c4, rfl, g4, l0, l1, n4⟩ := JSel.open_ hx
  clear hx g4
  by_cases h : v.as_ = ⟨#[]⟩
  · have t := empty_t h
    have hu : v.under = v.name := by unfold JSel.under; rw [if_pos h]
    replace h := Lib.hid h
    replace hu := Lib.hid hu
    go_enter Tryd.func29, Tryd.ntmps29
    go_wp2
    go_ret
    exact Ret.str hu.out.symm (b1 _ _)
  · have t := empty_f h
    have hu : v.under = v.as_ := by unfold JSel.under; rw [if_neg h]
    replace h := Lib.hid h
    replace hu := Lib.hid hu
    go_enter Tryd.func29, Tryd.ntmps29
    go_wp2
    go_ret
    exact Ret.str hu.out.symm (b1 _ _)
theorem JSel.under_small {v : JSel} (h0 : v.as_.size ≤ 9223372036854775807) (h1 : v.name.size ≤ 9223372036854775807) : v.under.size ≤ 9223372036854775807 := by
  unfold JSel.under; split <;> assumption
theorem JSel.small {w : World} {xs : List JSel} {A : Option Addr} {n c : Nat} (h : Rd w (slD JSel.enc 5 xs) (.slice A n c)) : ∀ x, x ∈ xs → x.as_.size ≤ 9223372036854775807 ∧ x.name.size ≤ 9223372036854775807 := by
  intro x hx
  obtain ⟨k, hk, rfl⟩ := List.getElem_of_mem hx
  obtain ⟨ad, A4, c4, rfl, y0, y1, y2, y3, y4, g4, l0, l1, n4⟩ := JSel.elem h k hk
  exact ⟨l0, l1⟩
set_option maxRecDepth 100000 in
set_option maxHeartbeats 4000000 in
theorem unders_c (xs : List JSel) (A : Option Addr) (c : Nat) (w : World) (hx : Rd w (slD JSel.enc 5 xs) (.slice A xs.length c)) (hl : xs.length ≤ 1048576) :
    Calls Tryd.prog 39 #[.slice A xs.length c] w (Made1 w (slD strD 1 (xs.map JSel.under))) := by
  obtain ⟨i0, hi, hz0, hz1, hz2⟩ := info_parts info_strE
  have HX := Lib.hid hx
  clear hx
  go_enter Tryd.func39, Tryd.ntmps39
  go_wp2
  go_loopw [3, 5, 8] (fun v _ i wr => ∃ k : Nat, k ≤ xs.length ∧ i = .int .i64 k ∧ Hid (Below w.heap.size w wr) ∧ Hid (Gr w.heap.size wr 9 strD 1 ((xs.take k).map JSel.under) v)) (fun _ _ i _ => xs.length - (intOf i).toNat)
  case atStart => exact ⟨0, Nat.zero_le _, rfl, Below.refl _ _, Gr.nil _ _ _ _ _⟩
  case round =>
    obtain ⟨k, hk, rfl, HB, HG⟩ := hrel
    by_cases hlt : k < xs.length
    · obtain ⟨ad, A4, c4, rfl, y0, y1, y2, y3, y4, g4, l0, l1, n4⟩ := JSel.elem (HX.out.below HB.out) k hlt
      have GG := Lib.hid (JSel.close_ _ g4 l0 l1)
      clear g4
      go_wp2_with fail
      refine (under_c xs[k] _ _ (GG.out.keep (b1 _ _))).mono ?_
      rintro e w1 ⟨rfl, hb1⟩
      have hq := Lib.hid (bt (b1 _ _) hb1)
      clear hb1
      go_wp2_with (at_builtin; refine wpList_push rfl _ _ 39 rfl (enc := strD) (base := w.heap.size) (wr := wr) (xs := (xs.take k).map JSel.under) xs[k].under 9 i0 (.string ⟨#[]⟩) 1 16 Tryd.underlying39 hi hz0 hz1 hz2 rfl (by decide) strD_len rfl HG.out (bt hq.out (b1 _ _)) HB.out.size ⟨w1.heap.size, 0, none⟩ 1 rfl [.string xs[k].under] [] (.str (JSel.under_small l0 l1) (.nil _)) (Fresh.nil _) (box_new rfl) ?c1 ?_)
      case c1 => rw [List.length_map, List.length_take]; constructor <;> omega
      intro A9 c9 w3 hG3 hB3 _ _
      have hG9 := Lib.hid hG3
      have hB9 := Lib.hid (HB.out.trans (((bt hq.out (b1 _ _)).mono HB.out.size).trans hB3))
      clear hG3 hB3
      go_wp2
      go_roundw
      case rel => exact ⟨k + 1, by omega, by go_num, hB9.out, Gr.cast hG9.out (by rw [List.take_succ_eq_append_getElem hlt, List.map_append, ← List.map_take]; rfl) (by simp)⟩
      case measure => simp [intOf]; omega
    · have hkk : k = xs.length := by omega
      have HG9 := Lib.hid (Gr.cast HG.out (by rw [hkk, List.take_of_length_le (Nat.le_refl _)]) rfl : Gr w.heap.size wr 9 strD 1 (xs.map JSel.under) _)
      clear hkk
      go_wp2
      go_ret
      exact HG9.out.made strD_len (Nat.le_refl _) HB.out

set_option maxRecDepth 100000 in
set_option maxHeartbeats 4000000 in
theorem selOk_c (v : JSel) (cs : List Value) (w : World) (hx : RdL w v.enc cs) : Calls Tryd.prog 42 #[.agg cs.toArray] w (Ret w (.bool (tf (SelOk v)))) := by
  obtain ⟨A4, c4, rfl, g4, l0, l1, n4⟩ := JSel.open_ hx
  clear hx g4
  by_cases h1 : NameOk v.name
  case neg =>
    replace h1 := Lib.hid h1
    go_enter Tryd.func42, Tryd.ntmps42
    go_wp2_with fail
    refine (isName_c _ _ l1).mono ?_
    intro e w1 hr
    obtain ⟨rfl, hb1⟩ := Ret.ff h1.out hr
    clear hr
    obtain ⟨hc1, hf1⟩ := bcell hb1
    have hz1 : w.heap.size < w1.heap.size := by have := hb1.size; (try simp at this); omega
    have hB1 := bt (b1 _ _) hb1
    go_wp2
    go_ret
    exact Ret.f (fun h => h1.out h.1) (hB1)
  replace h1 := Lib.hid h1
  by_cases h2 : v.as_ = ⟨#[]⟩
  · have t2 := empty_t h2
    replace h2 := Lib.hid h2
    by_cases h3 : InI v.id 0 999999
    case neg =>
      replace h3 := Lib.hid h3
      go_enter Tryd.func42, Tryd.ntmps42
      go_wp2_with fail
      refine (isName_c _ _ l1).mono ?_
      intro e w1 hr
      obtain ⟨rfl, hb1⟩ := Ret.tt h1.out hr
      clear hr
      obtain ⟨hc1, hf1⟩ := bcell hb1
      have hz1 : w.heap.size < w1.heap.size := by have := hb1.size; (try simp at this); omega
      have hB1 := bt (b1 _ _) hb1
      go_wp2_with fail
      refine (in_c _ _ _ _).mono ?_
      intro e w2 hr
      obtain ⟨rfl, rfl⟩ := RetQ.ff h3.out hr
      clear hr
      go_wp2
      go_ret
      exact Ret.f (fun h => h3.out h.2.2.1) (hB1)
    replace h3 := Lib.hid h3
    cases ho : v.one with
    | true =>
      go_enter Tryd.func42, Tryd.ntmps42
      go_wp2_with fail
      refine (isName_c _ _ l1).mono ?_
      intro e w1 hr
      obtain ⟨rfl, hb1⟩ := Ret.tt h1.out hr
      clear hr
      obtain ⟨hc1, hf1⟩ := bcell hb1
      have hz1 : w.heap.size < w1.heap.size := by have := hb1.size; (try simp at this); omega
      have hB1 := bt (b1 _ _) hb1
      go_wp2_with fail
      refine (in_c _ _ _ _).mono ?_
      intro e w2 hr
      obtain ⟨rfl, rfl⟩ := RetQ.tt h3.out hr
      clear hr
      go_wp2
      go_ret
      exact Ret.t ⟨h1.out, .inl h2.out, h3.out, .inl ho⟩ (hB1)
    | false =>
      by_cases h4 : v.id = 0
      · have t4 : (v.id == 0) = true := by rw [h4]; rfl
        replace h4 := Lib.hid h4
        go_enter Tryd.func42, Tryd.ntmps42
        go_wp2_with fail
        refine (isName_c _ _ l1).mono ?_
        intro e w1 hr
        obtain ⟨rfl, hb1⟩ := Ret.tt h1.out hr
        clear hr
        obtain ⟨hc1, hf1⟩ := bcell hb1
        have hz1 : w.heap.size < w1.heap.size := by have := hb1.size; (try simp at this); omega
        have hB1 := bt (b1 _ _) hb1
        go_wp2_with fail
        refine (in_c _ _ _ _).mono ?_
        intro e w2 hr
        obtain ⟨rfl, rfl⟩ := RetQ.tt h3.out hr
        clear hr
        go_wp2
        go_ret
        exact Ret.t ⟨h1.out, .inl h2.out, h3.out, .inr h4.out⟩ (hB1)
      · have t4 : (v.id == 0) = false := by rw [beq_eq_false_iff_ne]; exact h4
        replace h4 := Lib.hid h4
        go_enter Tryd.func42, Tryd.ntmps42
        go_wp2_with fail
        refine (isName_c _ _ l1).mono ?_
        intro e w1 hr
        obtain ⟨rfl, hb1⟩ := Ret.tt h1.out hr
        clear hr
        obtain ⟨hc1, hf1⟩ := bcell hb1
        have hz1 : w.heap.size < w1.heap.size := by have := hb1.size; (try simp at this); omega
        have hB1 := bt (b1 _ _) hb1
        go_wp2_with fail
        refine (in_c _ _ _ _).mono ?_
        intro e w2 hr
        obtain ⟨rfl, rfl⟩ := RetQ.tt h3.out hr
        clear hr
        go_wp2
        go_ret
        exact Ret.f (fun h => h.2.2.2.elim (fun k => (by rw [ho] at k; cases k)) (fun k => h4.out k)) (hB1)
  have t2 := empty_f h2
  replace h2 := Lib.hid h2
  by_cases h5 : NameOk v.as_
  case neg =>
    replace h5 := Lib.hid h5
    go_enter Tryd.func42, Tryd.ntmps42
    go_wp2_with fail
    refine (isName_c _ _ l1).mono ?_
    intro e w1 hr
    obtain ⟨rfl, hb1⟩ := Ret.tt h1.out hr
    clear hr
    obtain ⟨hc1, hf1⟩ := bcell hb1
    have hz1 : w.heap.size < w1.heap.size := by have := hb1.size; (try simp at this); omega
    have hB1 := bt (b1 _ _) hb1
    go_wp2_with fail
    refine (isName_c _ _ l0).mono ?_
    intro e w2 hr
    obtain ⟨rfl, hb2⟩ := Ret.ff h5.out hr
    clear hr
    obtain ⟨hc2, hf2⟩ := bcell hb2
    have hz2 : w.heap.size < w2.heap.size := by have := hb2.size; (try simp at this); omega
    have hB2 := bt (hB1) hb2
    go_wp2
    go_ret
    exact Ret.f (fun h => h.2.1.elim (fun k => h2.out k) (fun k => h5.out k.1)) (hB2)
  replace h5 := Lib.hid h5
  by_cases h6 : v.as_ = v.name
  case pos =>
    have t6 := str_t h6
    replace h6 := Lib.hid h6
    go_enter Tryd.func42, Tryd.ntmps42
    go_wp2_with fail
    refine (isName_c _ _ l1).mono ?_
    intro e w1 hr
    obtain ⟨rfl, hb1⟩ := Ret.tt h1.out hr
    clear hr
    obtain ⟨hc1, hf1⟩ := bcell hb1
    have hz1 : w.heap.size < w1.heap.size := by have := hb1.size; (try simp at this); omega
    have hB1 := bt (b1 _ _) hb1
    go_wp2_with fail
    refine (isName_c _ _ l0).mono ?_
    intro e w2 hr
    obtain ⟨rfl, hb2⟩ := Ret.tt h5.out hr
    clear hr
    obtain ⟨hc2, hf2⟩ := bcell hb2
    have hz2 : w.heap.size < w2.heap.size := by have := hb2.size; (try simp at this); omega
    have hB2 := bt (hB1) hb2
    go_wp2
    go_ret
    exact Ret.f (fun h => h.2.1.elim (fun k => h2.out k) (fun k => k.2 h6.out)) (hB2)
  have t6 := str_f h6
  replace h6 := Lib.hid h6
  by_cases h3 : InI v.id 0 999999
  case neg =>
    replace h3 := Lib.hid h3
    go_enter Tryd.func42, Tryd.ntmps42
    go_wp2_with fail
    refine (isName_c _ _ l1).mono ?_
    intro e w1 hr
    obtain ⟨rfl, hb1⟩ := Ret.tt h1.out hr
    clear hr
    obtain ⟨hc1, hf1⟩ := bcell hb1
    have hz1 : w.heap.size < w1.heap.size := by have := hb1.size; (try simp at this); omega
    have hB1 := bt (b1 _ _) hb1
    go_wp2_with fail
    refine (isName_c _ _ l0).mono ?_
    intro e w2 hr
    obtain ⟨rfl, hb2⟩ := Ret.tt h5.out hr
    clear hr
    obtain ⟨hc2, hf2⟩ := bcell hb2
    have hz2 : w.heap.size < w2.heap.size := by have := hb2.size; (try simp at this); omega
    have hB2 := bt (hB1) hb2
    go_wp2_with fail
    refine (in_c _ _ _ _).mono ?_
    intro e w3 hr
    obtain ⟨rfl, rfl⟩ := RetQ.ff h3.out hr
    clear hr
    go_wp2
    go_ret
    exact Ret.f (fun h => h3.out h.2.2.1) (hB2)
  replace h3 := Lib.hid h3
  cases ho : v.one with
  | true =>
    go_enter Tryd.func42, Tryd.ntmps42
    go_wp2_with fail
    refine (isName_c _ _ l1).mono ?_
    intro e w1 hr
    obtain ⟨rfl, hb1⟩ := Ret.tt h1.out hr
    clear hr
    obtain ⟨hc1, hf1⟩ := bcell hb1
    have hz1 : w.heap.size < w1.heap.size := by have := hb1.size; (try simp at this); omega
    have hB1 := bt (b1 _ _) hb1
    go_wp2_with fail
    refine (isName_c _ _ l0).mono ?_
    intro e w2 hr
    obtain ⟨rfl, hb2⟩ := Ret.tt h5.out hr
    clear hr
    obtain ⟨hc2, hf2⟩ := bcell hb2
    have hz2 : w.heap.size < w2.heap.size := by have := hb2.size; (try simp at this); omega
    have hB2 := bt (hB1) hb2
    go_wp2_with fail
    refine (in_c _ _ _ _).mono ?_
    intro e w3 hr
    obtain ⟨rfl, rfl⟩ := RetQ.tt h3.out hr
    clear hr
    go_wp2
    go_ret
    exact Ret.t ⟨h1.out, .inr ⟨h5.out, h6.out⟩, h3.out, .inl ho⟩ (hB2)
  | false =>
    by_cases h4 : v.id = 0
    · have t4 : (v.id == 0) = true := by rw [h4]; rfl
      replace h4 := Lib.hid h4
      go_enter Tryd.func42, Tryd.ntmps42
      go_wp2_with fail
      refine (isName_c _ _ l1).mono ?_
      intro e w1 hr
      obtain ⟨rfl, hb1⟩ := Ret.tt h1.out hr
      clear hr
      obtain ⟨hc1, hf1⟩ := bcell hb1
      have hz1 : w.heap.size < w1.heap.size := by have := hb1.size; (try simp at this); omega
      have hB1 := bt (b1 _ _) hb1
      go_wp2_with fail
      refine (isName_c _ _ l0).mono ?_
      intro e w2 hr
      obtain ⟨rfl, hb2⟩ := Ret.tt h5.out hr
      clear hr
      obtain ⟨hc2, hf2⟩ := bcell hb2
      have hz2 : w.heap.size < w2.heap.size := by have := hb2.size; (try simp at this); omega
      have hB2 := bt (hB1) hb2
      go_wp2_with fail
      refine (in_c _ _ _ _).mono ?_
      intro e w3 hr
      obtain ⟨rfl, rfl⟩ := RetQ.tt h3.out hr
      clear hr
      go_wp2
      go_ret
      exact Ret.t ⟨h1.out, .inr ⟨h5.out, h6.out⟩, h3.out, .inr h4.out⟩ (hB2)
    · have t4 : (v.id == 0) = false := by rw [beq_eq_false_iff_ne]; exact h4
      replace h4 := Lib.hid h4
      go_enter Tryd.func42, Tryd.ntmps42
      go_wp2_with fail
      refine (isName_c _ _ l1).mono ?_
      intro e w1 hr
      obtain ⟨rfl, hb1⟩ := Ret.tt h1.out hr
      clear hr
      obtain ⟨hc1, hf1⟩ := bcell hb1
      have hz1 : w.heap.size < w1.heap.size := by have := hb1.size; (try simp at this); omega
      have hB1 := bt (b1 _ _) hb1
      go_wp2_with fail
      refine (isName_c _ _ l0).mono ?_
      intro e w2 hr
      obtain ⟨rfl, hb2⟩ := Ret.tt h5.out hr
      clear hr
      obtain ⟨hc2, hf2⟩ := bcell hb2
      have hz2 : w.heap.size < w2.heap.size := by have := hb2.size; (try simp at this); omega
      have hB2 := bt (hB1) hb2
      go_wp2_with fail
      refine (in_c _ _ _ _).mono ?_
      intro e w3 hr
      obtain ⟨rfl, rfl⟩ := RetQ.tt h3.out hr
      clear hr
      go_wp2
      go_ret
      exact Ret.f (fun h => h.2.2.2.elim (fun k => (by rw [ho] at k; cases k)) (fun k => h4.out k)) (hB2)
end Go.Proofs.YtmkagpmdindlpaaDoor.Lib
