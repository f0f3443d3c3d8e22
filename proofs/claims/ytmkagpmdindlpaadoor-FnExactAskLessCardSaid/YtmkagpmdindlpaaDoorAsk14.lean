/- The reference's l12Less. Asks of 2^20 fields a level at most. -/
import Derived.Test.YtmkagpmdindlpaaDoorAsk13
set_option linter.unusedVariables false
set_option linter.unusedSimpArgs false
namespace Go.Proofs.YtmkagpmdindlpaaDoor.Lib
open Go.RowKit

def L12Less (way : List ByteArray) : Prop := ∀ (xs : List JSel) (A : Option Addr) (n c : Nat) (fp : List Nat) (Aw : Option Addr) (nw cw : Nat) (w : World), Own w (slD JSel.enc 5 xs) (.slice A n c) fp → fp.Nodup → Rd w (slD strD 1 way) (.slice Aw nw cw) → xs.length + JSel.bulks xs ≤ 1048576 →
  Calls Tryd.prog 17 #[.slice A n c, .slice Aw nw cw] w (LessR w fp (lessL way xs))
set_option maxRecDepth 100000 in
set_option maxHeartbeats 8000000 in
theorem l12Less_of (p : ByteArray) (rest : List ByteArray) (hR : rest ≠ [] → L12Less rest) : L12Less (p :: rest) := by
  intro xs A n c fp Aw nw cw w hx hnd hw hbk
  have hx' := Own.rd _ _ _ hx
  obtain rfl := Rd.len hx'
  obtain rfl := Rd.len hw
  obtain ⟨i0, hi, hz0, hz1, hz2⟩ := info_parts info_Sel
  obtain ⟨Fs, hFl, hFm, hFn, hFk⟩ := sel_rows hx
  have hl : xs.length ≤ 1048576 := by omega
  obtain ⟨adw, rfl, hw0, hws⟩ := Rd.elem_str hw 0 (by simp)
  obtain ⟨_, _, _, hcw, hcw2, _⟩ := Rd.slice hw
  simp only [List.length_cons] at hcw
  have HX := Lib.hid hx
  have HR := Lib.hid hR
  have HW := Lib.hid hw
  have HBK := Lib.hid hbk
  have HFk := Lib.hid hFk
  have HFm := Lib.hid hFm
  have HFn := Lib.hid (hFn hnd)
  have HFp := Lib.hid (fun b hm => Own.lt _ _ _ hx b hm)
  replace hFl := Lib.hid hFl
  have HX' := Lib.hid hx'
  clear hx hx' hR hw hbk hFk hFm hFn hnd
  go_enter Tryd.func17, Tryd.ntmps17
  go_wp2
  go_loopw [5, 6, 7, 8] (fun v i _ _ wr => ∃ k : Nat, k ≤ xs.length ∧ i = .int .i64 k ∧ Hid (Below w.heap.size w wr) ∧ Hid (GrF (Fs.take k).flatten w.heap.size wr 42 JSel.enc 5 (lessL (p :: rest) (xs.take k)) v)) (fun _ i _ _ _ => xs.length - (intOf i).toNat)
  case atStart => exact ⟨0, Nat.zero_le _, rfl, b1 _ _, Lib.hid <| by
    have := GrF.empty (base := w.heap.size) w 42 JSel.enc 5 (Nat.le_refl _)
    simpa [lessL_cons] using this⟩
  case round =>
    obtain ⟨k, hk, rfl, HB, HG⟩ := hrel
    by_cases hlt : k < xs.length
    case neg =>
      have hkk : k = xs.length := by omega
      have HG9 := Lib.hid (GrF.cast HG.out (by rw [hkk, List.take_of_length_le (Nat.le_refl _)]) rfl : GrF (Fs.take k).flatten w.heap.size wr 42 JSel.enc 5 (lessL (p :: rest) xs) _)
      clear hkk
      go_wp2
      go_ret
      obtain ⟨fp9, o9, n9, m9⟩ := HG9.out.own JSel.enc_len
      exact ⟨_, fp9, rfl, o9, n9, fun b hm => (m9 b hm).imp (fun h => HFm.out b (by rw [← List.take_append_drop k Fs, List.flatten_append]; exact List.mem_append_left _ h)) id, HB.out⟩
    have hkF : k < Fs.length := by have := hFl.out; omega
    obtain ⟨ad, A4, c4, rfl, ⟨x0, x1, x2, x3, x4⟩, hkid, l0, l1, n4⟩ := HFk.out k hlt hkF
    have y0 := cell_keep HB.out x0
    have y1 := cell_keep HB.out x1
    have y2 := cell_keep HB.out x2
    have y3 := cell_keep HB.out x3
    have y4 := cell_keep HB.out x4
    have yw : wr.cell? adw = some (.string p) := cell_keep HB.out (by simpa [Addr.add] using hw0)
    obtain ⟨q1, q2, q3, q4⟩ := parts_apart HFn.out k hkF
    have HQ := Lib.hid (And.intro q1 (And.intro q2 (And.intro q3 q4)))
    have HK := Lib.hid (hkid.keep HB.out)
    have HK' := Lib.hid (Own.lt _ _ _ hkid)
    have HC := Lib.hid (fun (W : World) (h : Below wr.heap.size wr W) => JSel.close_ xs[k] ((Own.rd _ _ _ HK.out).below h) l0 l1)
    have hbk := Lib.hid (kid_bulk HBK.out hlt)
    clear x0 x1 x2 x3 x4 q1 q2 q3 q4 hkid
    have hbd : Below (wr.alloc (.cells #[.string xs[k].as_, .string xs[k].name, .bool xs[k].one, .int .i64 xs[k].id, .slice A4 xs[k].kids.length c4] 42)).heap.size (wr.alloc (.cells #[.string xs[k].as_, .string xs[k].name, .bool xs[k].one, .int .i64 xs[k].id, .slice A4 xs[k].kids.length c4] 42)) (wr.alloc (.cells #[.string xs[k].as_, .string xs[k].name, .bool xs[k].one, .int .i64 xs[k].id, .slice A4 xs[k].kids.length c4] 42)).drew := (Below.refl _ _).drew
    have hS := Lib.hid (fun (w' : World) (h : Below (wr.alloc (.cells #[.string xs[k].as_, .string xs[k].name, .bool xs[k].one, .int .i64 xs[k].id, .slice A4 xs[k].kids.length c4] 42)).heap.size (wr.alloc (.cells #[.string xs[k].as_, .string xs[k].name, .bool xs[k].one, .int .i64 xs[k].id, .slice A4 xs[k].kids.length c4] 42)) w') => (⟨cell_keep h (by simp [go_sem]), cell_keep h (by simp [go_sem]), cell_keep h (by simp [go_sem]), cell_keep h (by simp [go_sem]), cell_keep h (by simp [go_sem]), cell_keep (bt (b1 _ _) h) yw, h⟩ : w'.cell? ⟨wr.heap.size, 0, none⟩ = some (.string xs[k].as_) ∧ w'.cell? ⟨wr.heap.size, 1, none⟩ = some (.string xs[k].name) ∧ w'.cell? ⟨wr.heap.size, 2, none⟩ = some (.bool xs[k].one) ∧ w'.cell? ⟨wr.heap.size, 3, none⟩ = some (.int .i64 xs[k].id) ∧ w'.cell? ⟨wr.heap.size, 4, none⟩ = some (.slice A4 xs[k].kids.length c4) ∧ w'.cell? adw = some (.string p) ∧ Below (wr.alloc (.cells #[.string xs[k].as_, .string xs[k].name, .bool xs[k].one, .int .i64 xs[k].id, .slice A4 xs[k].kids.length c4] 42)).heap.size (wr.alloc (.cells #[.string xs[k].as_, .string xs[k].name, .bool xs[k].one, .int .i64 xs[k].id, .slice A4 xs[k].kids.length c4] 42)) w'))
    by_cases hu : xs[k].under = p
    case neg =>
      have tu := str_f hu
      replace hu := Lib.hid hu
      go_wp2_with fail
      go_region_held3 (fun w' => w'.cell? ⟨wr.heap.size, 0, none⟩ = some (.string xs[k].as_) ∧ w'.cell? ⟨wr.heap.size, 1, none⟩ = some (.string xs[k].name) ∧ w'.cell? ⟨wr.heap.size, 2, none⟩ = some (.bool xs[k].one) ∧ w'.cell? ⟨wr.heap.size, 3, none⟩ = some (.int .i64 xs[k].id) ∧ w'.cell? ⟨wr.heap.size, 4, none⟩ = some (.slice A4 xs[k].kids.length c4) ∧ w'.cell? adw = some (.string p) ∧ Below (wr.alloc (.cells #[.string xs[k].as_, .string xs[k].name, .bool xs[k].one, .int .i64 xs[k].id, .slice A4 xs[k].kids.length c4] 42)).heap.size (wr.alloc (.cells #[.string xs[k].as_, .string xs[k].name, .bool xs[k].one, .int .i64 xs[k].id, .slice A4 xs[k].kids.length c4] 42)) w') (first | (with_reducible exact hS.out _ hbd) | (with_reducible exact hS.out _ ha))
        (first | (go_at_call 29; (with_reducible refine (l3Key_c xs[k] _ _ (HC.out _ (bt (b1 _ _) hbd))).mono ?_); rintro e w4 ⟨rfl, hb4⟩; have ha := bt hbd hb4))
      have hS4 := hS.out _ ha
      obtain ⟨z0, z1, z2, z3, z4, _, _⟩ := hS4
      have hB4 := Lib.hid (bt (b1 wr _) ha)
      have hzw : wr.heap.size < w4.heap.size := by have := ha.size; simp at this; omega
      clear ha hb4
      have hrow := Lib.hid (fun (o : Obj) => JSel.mk_row l0 l1 ((HK.out.keep hB4.out).keep (b1 w4 o)))
      have hlen : (lessL (p :: rest) (xs.take k)).length ≤ k := Nat.le_trans (lessL_len _ _ _) (by rw [List.length_take]; omega)
      have hone : lessOne p rest xs[k] = some xs[k] := by unfold lessOne; rw [if_neg hu.out]
      replace hone := Lib.hid hone
      go_wp2_with (at_builtin; refine wpList_pushF rfl _ _ 24 rfl (enc := JSel.enc) (base := w.heap.size) (wr := wr) (xs := lessL (p :: rest) (xs.take k)) (F := (Fs.take k).flatten) Fs[k] xs[k] 42 i0 _ 5 72 Tryd.underlying24 hi hz0 hz1 hz2 rfl (by decide) JSel.enc_len rfl HG.out (bt hB4.out (b1 _ _)) HB.out.size ⟨w4.heap.size, 0, none⟩ 1 (by simp [Act.eval]) _ Fs[k] (hrow.out _) HQ.out.1 (fun b hm => .inl ⟨hm, HQ.out.2.1 b hm, HK'.out b hm⟩) (box_newAt (by simp) rfl) ?c1 ?_)
      case c1 => constructor <;> omega
      intro A9 n9 c9 w9 hn9 hG9 hB9 _
      replace hn9 := Lib.hid hn9
      replace hG9 := Lib.hid hG9
      replace hB9 := Lib.hid hB9
      go_wp2
      go_roundw
      case rel => exact ⟨k + 1, by omega, by go_num, HB.out.trans (((bt hB4.out (b1 _ _)).mono HB.out.size).trans hB9.out), Lib.hid (by rw [HQ.out.2.2.1, lessL_take _ _ _ _ hlt, hone.out]; exact hG9.out)⟩
      case measure => simp [intOf]; omega
    have tu := str_t hu
    replace hu := Lib.hid hu
    by_cases hr : rest = []
    case pos =>
      have hone : lessOne p rest xs[k] = none := by unfold lessOne; rw [if_pos hu.out, if_pos hr]
      replace hone := Lib.hid hone
      have hl1 : (((rest.length : Nat) : Int) + 1 == 1) = true := by rw [hr]; rfl
      replace hr := Lib.hid hr
      go_wp2_with fail
      go_region_held3 (fun w' => w'.cell? ⟨wr.heap.size, 0, none⟩ = some (.string xs[k].as_) ∧ w'.cell? ⟨wr.heap.size, 1, none⟩ = some (.string xs[k].name) ∧ w'.cell? ⟨wr.heap.size, 2, none⟩ = some (.bool xs[k].one) ∧ w'.cell? ⟨wr.heap.size, 3, none⟩ = some (.int .i64 xs[k].id) ∧ w'.cell? ⟨wr.heap.size, 4, none⟩ = some (.slice A4 xs[k].kids.length c4) ∧ w'.cell? adw = some (.string p) ∧ Below (wr.alloc (.cells #[.string xs[k].as_, .string xs[k].name, .bool xs[k].one, .int .i64 xs[k].id, .slice A4 xs[k].kids.length c4] 42)).heap.size (wr.alloc (.cells #[.string xs[k].as_, .string xs[k].name, .bool xs[k].one, .int .i64 xs[k].id, .slice A4 xs[k].kids.length c4] 42)) w') (first | (with_reducible exact hS.out _ hbd) | (with_reducible exact hS.out _ ha))
        (first | (go_at_call 29; (with_reducible refine (l3Key_c xs[k] _ _ (HC.out _ (bt (b1 _ _) hbd))).mono ?_); rintro e w4 ⟨rfl, hb4⟩; have ha := bt hbd hb4))
      have hB4 := Lib.hid (bt (b1 wr _) ha)
      clear ha hb4
      go_wp2
      go_roundw
      case rel => exact ⟨k + 1, by omega, by go_num, HB.out.trans (hB4.out.mono HB.out.size), Lib.hid (by rw [HQ.out.2.2.1, lessL_take _ _ _ _ hlt, hone.out]; simp only [Option.toList, List.append_nil]; exact (HG.out.keep hB4.out).more (fun b hm => List.mem_append_left _ hm))⟩
      case measure => simp [intOf]; omega
    have hrl : 0 < rest.length := List.length_pos_iff.2 hr
    have hl1 : (((rest.length : Nat) : Int) + 1 == 1) = false := by rw [beq_eq_false_iff_ne]; omega
    go_wp2_with fail
    go_region_held3 (fun w' => w'.cell? ⟨wr.heap.size, 0, none⟩ = some (.string xs[k].as_) ∧ w'.cell? ⟨wr.heap.size, 1, none⟩ = some (.string xs[k].name) ∧ w'.cell? ⟨wr.heap.size, 2, none⟩ = some (.bool xs[k].one) ∧ w'.cell? ⟨wr.heap.size, 3, none⟩ = some (.int .i64 xs[k].id) ∧ w'.cell? ⟨wr.heap.size, 4, none⟩ = some (.slice A4 xs[k].kids.length c4) ∧ w'.cell? adw = some (.string p) ∧ Below (wr.alloc (.cells #[.string xs[k].as_, .string xs[k].name, .bool xs[k].one, .int .i64 xs[k].id, .slice A4 xs[k].kids.length c4] 42)).heap.size (wr.alloc (.cells #[.string xs[k].as_, .string xs[k].name, .bool xs[k].one, .int .i64 xs[k].id, .slice A4 xs[k].kids.length c4] 42)) w') (first | (with_reducible exact hS.out _ hbd) | (with_reducible exact hS.out _ ha))
      (first | (go_at_call 29; (with_reducible refine (l3Key_c xs[k] _ _ (HC.out _ (bt (b1 _ _) hbd))).mono ?_); rintro e w4 ⟨rfl, hb4⟩; have ha := bt hbd hb4))
    have hS4 := hS.out _ ha
    obtain ⟨z0, z1, z2, z3, z4, _, _⟩ := hS4
    have hB4 := Lib.hid (bt (b1 wr _) ha)
    have hzw : wr.heap.size < w4.heap.size := by have := ha.size; simp at this; omega
    have hf4 : ∀ o, w4.frozen? ⟨wr.heap.size, o, none⟩ = false := fun o => (ha.frozen (p := ⟨wr.heap.size, o, none⟩) (by simp)).trans (by simp [go_sem])
    have f4 := hf4 4
    replace hf4 := Lib.hid hf4
    clear ha hb4
    have hwd : Below wr.heap.size wr w4.drew := hB4.out.drew
    have HWt : Hid (Rd w4.drew (slD strD 1 rest) (.slice (some ⟨adw.block, adw.off + 1, none⟩) rest.length (cw - 1))) := Lib.hid (Rd.tailS ((HW.out.below HB.out).below hwd))
    have HKd := Lib.hid (HK.out.keep hwd)
    have hc3 : (1 : Int) ≤ (rest.length : Int) + 1 := by omega
    have hc1 : 1 < cw := by omega
    have hc2 : ¬ cw = 1 := by omega
    have HM := Lib.hid (HR.out hr xs[k].kids A4 _ c4 Fs[k] _ _ _ w4.drew HKd.out HQ.out.1 HWt.out hbk.out)
    go_wp2_with fail
    go_region_law (go_simp; go_at_call 17; (with_reducible refine HM.out.mono ?_); rintro e w5 ⟨v5, fp5, rfl, o5, nd5, m5, b5⟩; obtain ⟨A5, c5, rfl⟩ := Own.slD o5; have z4b := cell_keep b5 z4; have f4b := (b5.frozen (p := ⟨wr.heap.size, 4, none⟩) hzw).trans f4)
    have hne : wr.heap.size ∉ fp5 := fun hm => by
      rcases m5 _ hm with h | h
      · have := HK'.out _ h; have := HB.out.size; omega
      · simp only [World.size_drew] at h; omega
    have own6 := Own.set o5 (p := ⟨wr.heap.size, 4, none⟩) hne (.slice A5 (lessL rest xs[k].kids).length c5)
    have hb5 := (bt hwd b5).setCell (p := ⟨wr.heap.size, 4, none⟩) (Nat.le_refl _) (.slice A5 (lessL rest xs[k].kids).length c5)
    have g0 : (w5.setCell ⟨wr.heap.size, 4, none⟩ (.slice A5 (lessL rest xs[k].kids).length c5)).cell? ⟨wr.heap.size, 0, none⟩ = some (.string xs[k].as_) := by simp [go_sem, cell_keep b5 z0]
    have g1 : (w5.setCell ⟨wr.heap.size, 4, none⟩ (.slice A5 (lessL rest xs[k].kids).length c5)).cell? ⟨wr.heap.size, 1, none⟩ = some (.string xs[k].name) := by simp [go_sem, cell_keep b5 z1]
    have g2 : (w5.setCell ⟨wr.heap.size, 4, none⟩ (.slice A5 (lessL rest xs[k].kids).length c5)).cell? ⟨wr.heap.size, 2, none⟩ = some (.bool xs[k].one) := by simp [go_sem, cell_keep b5 z2]
    have g3 : (w5.setCell ⟨wr.heap.size, 4, none⟩ (.slice A5 (lessL rest xs[k].kids).length c5)).cell? ⟨wr.heap.size, 3, none⟩ = some (.int .i64 xs[k].id) := by simp [go_sem, cell_keep b5 z3]
    have g4 : (w5.setCell ⟨wr.heap.size, 4, none⟩ (.slice A5 (lessL rest xs[k].kids).length c5)).cell? ⟨wr.heap.size, 4, none⟩ = some (.slice A5 (lessL rest xs[k].kids).length c5) := by simp [go_sem, z4b]
    have m6 : ∀ b, b ∈ fp5 → (b ∈ Fs[k] ∧ b ∉ (Fs.take k).flatten ∧ b < w.heap.size) ∨ wr.heap.size ≤ b := fun b hm => by
      rcases m5 _ hm with h | h
      · exact .inl ⟨h, HQ.out.2.1 b h, HK'.out b h⟩
      · simp only [World.size_drew] at h; exact .inr (by omega)
    replace hb5 := Lib.hid hb5
    replace m6 := Lib.hid m6
    replace nd5 := Lib.hid nd5
    replace own6 := Lib.hid own6
    clear z0 z1 z2 z3 z4 z4b f4 f4b b5 o5 m5 hne hwd
    generalize hW6 : w5.setCell ⟨wr.heap.size, 4, none⟩ (.slice A5 (lessL rest xs[k].kids).length c5) = w6 at hb5 own6 g0 g1 g2 g3 g4 ⊢
    have hrow := Lib.hid (fun (o : Obj) => JSel.mk_row (x := ⟨xs[k].as_, xs[k].name, xs[k].one, xs[k].id, lessL rest xs[k].kids⟩) l0 l1 (own6.out.keep (b1 w6 o)))
    have hlen : (lessL (p :: rest) (xs.take k)).length ≤ k := Nat.le_trans (lessL_len _ _ _) (by rw [List.length_take]; omega)
    clear hW6 own6
    have hdef : lessOne p rest xs[k] = if lessL rest xs[k].kids ≠ [] ∨ xs[k].kids = [] then some ⟨xs[k].as_, xs[k].name, xs[k].one, xs[k].id, lessL rest xs[k].kids⟩ else none := by unfold lessOne; rw [if_pos hu.out, if_neg hr]
    replace hdef := Lib.hid hdef
    generalize hke : lessL rest xs[k].kids = kl at hrow hdef g4 ⊢
    clear hke
    by_cases hk1 : kl = []
    · have t1 : ¬ (0 : Int) < kl.length := by rw [hk1]; simp
      by_cases hk2 : xs[k].kids = []
      · have t2 : (((xs[k].kids.length : Nat) : Int) == 0) = true := by rw [hk2]; rfl
        have hone : lessOne p rest xs[k] = some ⟨xs[k].as_, xs[k].name, xs[k].one, xs[k].id, kl⟩ := by rw [hdef.out, if_pos (.inr hk2)]
        replace hone := Lib.hid hone
        subst hk1
        simp only [List.length_nil] at g4
        replace hk2 := Lib.hid hk2
        clear t1
        go_wp2_with (at_builtin; refine wpList_pushF rfl _ _ 24 rfl (enc := JSel.enc) (base := w.heap.size) (wr := wr) (xs := lessL (p :: rest) (xs.take k)) (F := (Fs.take k).flatten) Fs[k] ⟨xs[k].as_, xs[k].name, xs[k].one, xs[k].id, []⟩ 42 i0 _ 5 72 Tryd.underlying24 hi hz0 hz1 hz2 rfl (by decide) JSel.enc_len rfl HG.out (bt hb5.out (b1 _ _)) HB.out.size ⟨w6.heap.size, 0, none⟩ 1 (by simp [Act.eval]) _ fp5 (hrow.out _) nd5.out m6.out (box_newAt (by simp) rfl) ?c1 ?_)
        case c1 => constructor <;> omega
        intro A9 n9 c9 w9 hn9 hG9 hB9 _
        replace hn9 := Lib.hid hn9
        replace hG9 := Lib.hid hG9
        replace hB9 := Lib.hid hB9
        go_wp2
        go_roundw
        case rel => exact ⟨k + 1, by omega, by go_num, HB.out.trans (((bt hb5.out (b1 _ _)).mono HB.out.size).trans hB9.out), Lib.hid (by rw [HQ.out.2.2.1, lessL_take _ _ _ _ hlt, hone.out]; exact hG9.out)⟩
        case measure => simp [intOf]; omega
      · have t2 : (((xs[k].kids.length : Nat) : Int) == 0) = false := by rw [beq_eq_false_iff_ne]; have := List.length_pos_iff.2 hk2; omega
        have hone : lessOne p rest xs[k] = none := by rw [hdef.out, if_neg (fun h => h.elim (fun e => e hk1) hk2)]
        replace hone := Lib.hid hone
        replace hk1 := Lib.hid hk1
        go_wp2
        go_roundw
        case rel => exact ⟨k + 1, by omega, by go_num, HB.out.trans (hb5.out.mono HB.out.size), Lib.hid (by rw [HQ.out.2.2.1, lessL_take _ _ _ _ hlt, hone.out]; simp only [Option.toList, List.append_nil]; exact (HG.out.keep hb5.out).more (fun b hm => List.mem_append_left _ hm))⟩
        case measure => simp [intOf]; omega
    · have t1 : (0 : Int) < kl.length := by have := List.length_pos_iff.2 hk1; omega
      have hone : lessOne p rest xs[k] = some ⟨xs[k].as_, xs[k].name, xs[k].one, xs[k].id, kl⟩ := by rw [hdef.out, if_pos (.inl hk1)]
      replace hone := Lib.hid hone
      go_wp2_with (at_builtin; refine wpList_pushF rfl _ _ 24 rfl (enc := JSel.enc) (base := w.heap.size) (wr := wr) (xs := lessL (p :: rest) (xs.take k)) (F := (Fs.take k).flatten) Fs[k] ⟨xs[k].as_, xs[k].name, xs[k].one, xs[k].id, kl⟩ 42 i0 _ 5 72 Tryd.underlying24 hi hz0 hz1 hz2 rfl (by decide) JSel.enc_len rfl HG.out (bt hb5.out (b1 _ _)) HB.out.size ⟨w6.heap.size, 0, none⟩ 1 (by simp [Act.eval]) _ fp5 (hrow.out _) nd5.out m6.out (box_newAt (by simp) rfl) ?c1 ?_)
      case c1 => constructor <;> omega
      intro A9 n9 c9 w9 hn9 hG9 hB9 _
      replace hn9 := Lib.hid hn9
      replace hG9 := Lib.hid hG9
      replace hB9 := Lib.hid hB9
      go_wp2
      go_roundw
      case rel => exact ⟨k + 1, by omega, by go_num, HB.out.trans (((bt hb5.out (b1 _ _)).mono HB.out.size).trans hB9.out), Lib.hid (by rw [HQ.out.2.2.1, lessL_take _ _ _ _ hlt, hone.out]; exact hG9.out)⟩
      case measure => simp [intOf]; omega
theorem l12Less_c : ∀ (way : List ByteArray), way ≠ [] → L12Less way
  | [], h => absurd rfl h
  | p :: rest, _ => l12Less_of p rest (l12Less_c rest)
end Go.Proofs.YtmkagpmdindlpaaDoor.Lib
