/- The copies of an ask on both sides. Sizes up to 2^20. Printed by gask11.py. -/
import Derived.Test.YtmkagpmdindlpaaDoorAsk7
import Derived.Test.YtmkagpmdindlpaaDoorGrF
import Derived.Test.YtmkagpmdindlpaaDoorTo
set_option linter.unusedVariables false
set_option linter.unusedSimpArgs false
namespace Go.Proofs.YtmkagpmdindlpaaDoor.Lib
open Go.RowKit

/-- One field of an ask out of its parts. -/
theorem JSel.mk_row {w : World} {x : JSel} {u : Value} {f : List Nat} (l0 : x.as_.size ≤ 9223372036854775807) (l1 : x.name.size ≤ 9223372036854775807) (h : Own w (slD JSel.enc 5 x.kids) u f) :
    OwnRow w x.enc [.string x.as_, .string x.name, .bool x.one, .int .i64 x.id, u] f := by
  rw [JSel.enc_eq]
  have := OwnRow.str (s := x.as_) l0 (OwnRow.str (s := x.name) l1 (OwnRow.bool (b := x.one) (OwnRow.int (k := .i64) (n := x.id) (OwnRow.cons h (OwnRow.nil w)))))
  rwa [List.append_nil] at this
theorem kid_bulk {xs : List JSel} (h : xs.length + JSel.bulks xs ≤ 1048576) {k : Nat} (hk : k < xs.length) : xs[k].kids.length + JSel.bulks xs[k].kids ≤ 1048576 := by
  have h2 := bulkL_mem (f := JSel.bulk) (xs := xs) (n := 1048576) (by rw [JSel.bulkL_eq]; omega) (List.getElem_mem hk)
  rw [JSel.bulk_eq] at h2; omega


def SelCopied (xs : List JSel) : Prop := ∀ (A : Option Addr) (n c : Nat) (w : World), Rd w (slD JSel.enc 5 xs) (.slice A n c) → xs.length + JSel.bulks xs ≤ 1048576 →
  Calls Tryd.prog 22 #[.slice A n c] w (Made1 w (slD JSel.enc 5 xs))
set_option maxRecDepth 100000 in
set_option maxHeartbeats 8000000 in
theorem SelCopied_of (xs : List JSel) (hK : ∀ x, x ∈ xs → SelCopied x.kids) : SelCopied xs := by
  intro A n c w hx hbk
  obtain rfl := Rd.len hx
  obtain ⟨i0, hi, hz0, hz1, hz2⟩ := info_parts info_Sel
  have hl : xs.length ≤ 1048576 := by omega
  have HX := Lib.hid hx
  have HK := Lib.hid hK
  have HBK := Lib.hid hbk
  clear hx hK hbk
  go_enter Tryd.func22, Tryd.ntmps22
  go_wp2
  go_loopw [3, 5, 8] (fun v _ i wr => ∃ k : Nat, k ≤ xs.length ∧ i = .int .i64 k ∧ Hid (Below w.heap.size w wr) ∧ Hid (Gr w.heap.size wr 42 JSel.enc 5 (xs.take k) v)) (fun _ _ i _ => xs.length - (intOf i).toNat)
  case atStart => exact ⟨0, Nat.zero_le _, rfl, Below.refl _ _, Gr.nil _ _ _ _ _⟩
  case round =>
    obtain ⟨k, hk, rfl, HB, HG⟩ := hrel
    by_cases hlt : k < xs.length
    case neg =>
      have hkk : k = xs.length := by omega
      have HG9 := Lib.hid (Gr.cast HG.out (by rw [hkk, List.take_of_length_le (Nat.le_refl _)]) rfl : Gr w.heap.size wr 42 JSel.enc 5 xs _)
      clear hkk
      go_wp2
      go_ret
      exact HG9.out.made JSel.enc_len (Nat.le_refl _) HB.out
    obtain ⟨ad, A4, c4, rfl, y0, y1, y2, y3, y4, g4, l0, l1, n4⟩ := JSel.elem (HX.out.below HB.out) k hlt
    have HM := Lib.hid (fun W (h : Below wr.heap.size wr W) => HK.out xs[k] (List.getElem_mem hlt) A4 xs[k].kids.length c4 W (g4.below h) (kid_bulk HBK.out hlt))
    clear g4
    go_wp2_with fail
    refine (HM.out _ (b1 _ _)).mono ?_
    rintro e w2 ⟨us2, f2, rfl, o2, hf2, hb2⟩
    obtain ⟨A5, c5, rfl⟩ := Own.slD o2
    obtain ⟨hc2, hz2'⟩ := bcell hb2
    have hzw : wr.heap.size < w2.heap.size := by have := hb2.size; simp at this; omega
    have hnb : wr.heap.size ∉ f2 := hf2.not (by simp)
    have hq := Lib.hid ((bt (b1 _ _) hb2).setCell (p := ⟨wr.heap.size, 4, none⟩) (by dsimp only; omega) (.slice A5 xs[k].kids.length c5))
    have hrow := fun (o : Obj) => JSel.mk_row l0 l1 ((Own.set o2 (p := ⟨wr.heap.size, 4, none⟩) hnb (.slice A5 xs[k].kids.length c5)).keep (b1 _ o))
    have hfr : Fresh wr f2 := hf2.lower (by simp)
    replace hrow := Lib.hid hrow
    replace hfr := Lib.hid hfr
    clear o2 hf2 hb2 hnb
    go_wp2_with (at_builtin; refine wpList_push rfl _ _ 24 rfl (enc := JSel.enc) (base := w.heap.size) (wr := wr) (xs := xs.take k) xs[k] 42 i0 _ 5 72 Tryd.underlying24 hi hz0 hz1 hz2 rfl (by decide) JSel.enc_len rfl HG.out (bt hq.out (b1 _ _)) HB.out.size ⟨w2.heap.size, 0, none⟩ 1 (by simp [Act.eval]) _ f2 (hrow.out _) hfr.out (box_newAt (by simp) rfl) ?c1 ?_)
    case c1 => rw [List.length_take]; constructor <;> omega
    intro A9 c9 w3 hG3 hB3 _ _
    have hG9 := Lib.hid hG3
    have hB9 := Lib.hid (HB.out.trans (((bt hq.out (b1 _ _)).mono HB.out.size).trans hB3))
    clear hG3 hB3
    go_wp2
    go_roundw
    case rel => exact ⟨k + 1, by omega, by go_num, hB9.out, Gr.cast hG9.out (by rw [List.take_succ_eq_append_getElem hlt]) (by simp)⟩
    case measure => simp [intOf]; omega
theorem SelCopied_all : ∀ n, ∀ xs : List JSel, SizeOf.sizeOf xs < n → SelCopied xs
  | 0 => fun _ h => absurd h (by omega)
  | n + 1 => fun xs h => SelCopied_of xs fun x hx => SelCopied_all n x.kids (by have := JSel.kids_lt x; have := List.sizeOf_lt_of_mem hx; omega)
theorem SelCopied_c (xs : List JSel) : SelCopied xs := SelCopied_all _ xs (Nat.lt_succ_self _)


def SelL3Copy (xs : List JSel) : Prop := ∀ (A : Option Addr) (n c : Nat) (w : World), Rd w (slD JSel.enc 5 xs) (.slice A n c) → xs.length + JSel.bulks xs ≤ 1048576 →
  Calls Tryd.prog 16 #[.slice A n c] w (Made1 w (slD JSel.enc 5 xs))
set_option maxRecDepth 100000 in
set_option maxHeartbeats 8000000 in
theorem SelL3Copy_of (xs : List JSel) (hK : ∀ x, x ∈ xs → SelL3Copy x.kids) : SelL3Copy xs := by
  intro A n c w hx hbk
  obtain rfl := Rd.len hx
  obtain ⟨i0, hi, hz0, hz1, hz2⟩ := info_parts info_Sel
  have hl : xs.length ≤ 1048576 := by omega
  have HX := Lib.hid hx
  have HK := Lib.hid hK
  have HBK := Lib.hid hbk
  clear hx hK hbk
  go_enter Tryd.func16, Tryd.ntmps16
  go_wp2
  go_loopw [3, 4, 5] (fun v i _ wr => ∃ k : Nat, k ≤ xs.length ∧ i = .int .i64 k ∧ Hid (Below w.heap.size w wr) ∧ Hid (Gr w.heap.size wr 42 JSel.enc 5 (xs.take k) v)) (fun _ i _ _ => xs.length - (intOf i).toNat)
  case atStart => exact ⟨0, Nat.zero_le _, rfl, b1 _ _, Gr.empty _ _ _ _ (Nat.le_refl _)⟩
  case round =>
    obtain ⟨k, hk, rfl, HB, HG⟩ := hrel
    by_cases hlt : k < xs.length
    case neg =>
      have hkk : k = xs.length := by omega
      have HG9 := Lib.hid (Gr.cast HG.out (by rw [hkk, List.take_of_length_le (Nat.le_refl _)]) rfl : Gr w.heap.size wr 42 JSel.enc 5 xs _)
      clear hkk
      go_wp2
      go_ret
      exact HG9.out.made JSel.enc_len (Nat.le_refl _) HB.out
    obtain ⟨ad, A4, c4, rfl, y0, y1, y2, y3, y4, g4, l0, l1, n4⟩ := JSel.elem (HX.out.below HB.out) k hlt
    have HM := Lib.hid (fun W (h : Below wr.heap.size wr W) => HK.out xs[k] (List.getElem_mem hlt) A4 xs[k].kids.length c4 W (g4.below h) (kid_bulk HBK.out hlt))
    clear g4
    go_wp2_with fail
    refine (HM.out _ (b1 _ _)).mono ?_
    rintro e w2 ⟨us2, f2, rfl, o2, hf2, hb2⟩
    obtain ⟨A5, c5, rfl⟩ := Own.slD o2
    obtain ⟨hc2, hz2'⟩ := bcell hb2
    have hzw : wr.heap.size < w2.heap.size := by have := hb2.size; simp at this; omega
    have hnb : wr.heap.size ∉ f2 := hf2.not (by simp)
    have hq := Lib.hid ((bt (b1 _ _) hb2).setCell (p := ⟨wr.heap.size, 4, none⟩) (by dsimp only; omega) (.slice A5 xs[k].kids.length c5))
    have hrow := fun (o : Obj) => JSel.mk_row l0 l1 ((Own.set o2 (p := ⟨wr.heap.size, 4, none⟩) hnb (.slice A5 xs[k].kids.length c5)).keep (b1 _ o))
    have hfr : Fresh wr f2 := hf2.lower (by simp)
    replace hrow := Lib.hid hrow
    replace hfr := Lib.hid hfr
    clear o2 hf2 hb2 hnb
    go_wp2_with (at_builtin; refine wpList_push rfl _ _ 24 rfl (enc := JSel.enc) (base := w.heap.size) (wr := wr) (xs := xs.take k) xs[k] 42 i0 _ 5 72 Tryd.underlying24 hi hz0 hz1 hz2 rfl (by decide) JSel.enc_len rfl HG.out (bt hq.out (b1 _ _)) HB.out.size ⟨w2.heap.size, 0, none⟩ 1 (by simp [Act.eval]) _ f2 (hrow.out _) hfr.out (box_newAt (by simp) rfl) ?c1 ?_)
    case c1 => rw [List.length_take]; constructor <;> omega
    intro A9 c9 w3 hG3 hB3 _ _
    have hG9 := Lib.hid hG3
    have hB9 := Lib.hid (HB.out.trans (((bt hq.out (b1 _ _)).mono HB.out.size).trans hB3))
    clear hG3 hB3
    go_wp2
    go_roundw
    case rel => exact ⟨k + 1, by omega, by go_num, hB9.out, Gr.cast hG9.out (by rw [List.take_succ_eq_append_getElem hlt]) (by simp)⟩
    case measure => simp [intOf]; omega
theorem SelL3Copy_all : ∀ n, ∀ xs : List JSel, SizeOf.sizeOf xs < n → SelL3Copy xs
  | 0 => fun _ h => absurd h (by omega)
  | n + 1 => fun xs h => SelL3Copy_of xs fun x hx => SelL3Copy_all n x.kids (by have := JSel.kids_lt x; have := List.sizeOf_lt_of_mem hx; omega)
theorem SelL3Copy_c (xs : List JSel) : SelL3Copy xs := SelL3Copy_all _ xs (Nat.lt_succ_self _)

end Go.Proofs.YtmkagpmdindlpaaDoor.Lib
