/- The program's less. Asks of 2^20 fields a level at most, ways of 2^20 bytes. -/
import Derived.Test.YtmkagpmdindlpaaDoorAsk13
import Derived.Test.YtmkagpmdindlpaaDoorCutP
set_option linter.unusedVariables false
set_option linter.unusedSimpArgs false
namespace Go.Proofs.YtmkagpmdindlpaaDoor.Lib
open Go.RowKit

/-- The cell of a variable of the library's own holds a number. -/
def MaxW (w : World) : Prop := ∃ m, w.cell? ⟨0, 0, none⟩ = some (.int .i64 m)
theorem MaxW.below {w w' : World} (h : MaxW w) (hb : Below w.heap.size w w') : MaxW w' := by
  obtain ⟨m, hm⟩ := h
  exact ⟨m, cell_keep hb hm⟩
theorem ba_toList (s : ByteArray) : (⟨s.data.toList.toArray⟩ : ByteArray) = s := by cases s; simp
def CutR (s p rest : ByteArray) (dp : Bool) (W : World) (e : Ending) (w' : World) : Prop := e = .returned (.tuple #[.string p, .string rest, .bool dp]) ∧ ∃ n, w' = W.drewN n
/-- strings.Cut at a slash: the first piece, the rest, whether there is one. -/
theorem cut_c (s : ByteArray) (hs : s.size ≤ 1048576) : ∃ (p rest : ByteArray) (dp : Bool) (r : List ByteArray), cutL s = p :: r ∧ (dp = false → r = []) ∧ (dp = true → r = cutL rest ∧ rest.size < s.size) ∧ p.size ≤ s.size ∧ rest.size ≤ s.size ∧
    ∀ W, MaxW W → Calls Tryd.prog 33 #[.string s, .string ⟨#[47]⟩] W (CutR s p rest dp W) := by
  rcases cut_slash s.data.toList with ⟨h1, h2⟩ | ⟨p, r, h0, h1, h2⟩
  · refine ⟨s, ⟨#[]⟩, false, [], ?_, fun _ => rfl, (fun h => by cases h), Nat.le_refl _, Nat.zero_le _, fun W ⟨m, hm⟩ => ?_⟩
    · unfold cutL
      rw [cutBs_none _ h1]
      simp only [List.map_cons, List.map_nil, ba_toList]
    · refine (Tryd.strings_Cut s ⟨#[47]⟩ m W (by omega) hm).mono fun e w' ⟨he, hw⟩ => ⟨?_, hw⟩
      rw [he]
      simp only [h2, ba_toList]
  · have hl : s.size = p.length + 1 + r.length := by
      have : s.size = s.data.toList.length := rfl
      rw [this, h0]; simp; omega
    refine ⟨⟨p.toArray⟩, ⟨r.toArray⟩, true, cutL ⟨r.toArray⟩, ?_, (fun h => by cases h), fun _ => ⟨rfl, ?_⟩, ?_, ?_, fun W ⟨m, hm⟩ => ?_⟩
    · unfold cutL
      rw [h0, cutBs_at _ _ h1]
      simp
    · show r.toArray.size < _; simp; omega
    · show p.toArray.size ≤ _; simp; omega
    · show r.toArray.size ≤ _; simp; omega
    · refine (Tryd.strings_Cut s ⟨#[47]⟩ m W (by omega) hm).mono fun e w' ⟨he, hw⟩ => ⟨?_, hw⟩
      rw [he]
      simp only [h2]
def LessI (s : ByteArray) : Prop := ∀ (xs : List JSel) (A : Option Addr) (n c : Nat) (fp : List Nat) (w : World), Own w (slD JSel.enc 5 xs) (.slice A n c) fp → fp.Nodup → xs.length + JSel.bulks xs ≤ 1048576 → MaxW w →
  Calls Tryd.prog 21 #[.slice A n c, .string s] w (LessR w fp (lessL (cutL s) xs))
set_option maxRecDepth 100000 in
set_option maxHeartbeats 8000000 in
theorem less_of (s : ByteArray) (hs : s.size ≤ 1048576) (hR : ∀ t : ByteArray, t.size < s.size → LessI t) : LessI s := by
  intro xs A n c fp w hx hnd hbk hmax
  have hx' := Own.rd _ _ _ hx
  obtain rfl := Rd.len hx'
  obtain ⟨i0, hi, hz0, hz1, hz2⟩ := info_parts info_Sel
  obtain ⟨Fs, hFl, hFm, hFn, hFk⟩ := sel_rows hx
  obtain ⟨p, rest, dp, r, hcl, hd0, hd1, hps, hrs, hcut⟩ := cut_c s hs
  have hl : xs.length ≤ 1048576 := by omega
  have HX := Lib.hid hx
  have HCL := Lib.hid hcl
  have HBK := Lib.hid hbk
  have HFk := Lib.hid hFk
  have HFm := Lib.hid hFm
  have HFn := Lib.hid (hFn hnd)
  have HFp := Lib.hid (fun b hm => Own.lt _ _ _ hx b hm)
  replace hFl := Lib.hid hFl
  have HMX := Lib.hid (fun W (h : Below w.heap.size w W) => hmax.below h)
  have hcase : (dp = false ∧ r = []) ∨ (dp = true ∧ (r ≠ [] ∧ r = cutL rest ∧ LessI rest)) := by
    cases dp
    · exact .inl ⟨rfl, hd0 rfl⟩
    · exact .inr ⟨rfl, by rw [(hd1 rfl).1]; exact cutL_ne _, (hd1 rfl).1, hR rest (hd1 rfl).2⟩
  have HCT := Lib.hid (hcut w hmax)
  clear hx hx' hR hbk hFk hFm hFn hnd hcl hd0 hd1 hcut hmax
  rcases hcase with ⟨rfl, hr0⟩ | ⟨rfl, hr0⟩
  all_goals
    replace hr0 := Lib.hid hr0
    go_enter Tryd.func21, Tryd.ntmps21
    go_wp2_with fail
    refine HCT.out.mono ?_
    rintro e w1 ⟨rfl, n1, rfl⟩
    have hb1 := Lib.hid (drewN_below (Below.refl w.heap.size w) n1)
    clear HCT
    go_wp2
    go_loopw [8, 10, 11, 20] (fun v _ _ i wr => ∃ k : Nat, k ≤ xs.length ∧ i = .int .i64 k ∧ Hid (Below w.heap.size w wr) ∧ Hid (GrF (Fs.take k).flatten w.heap.size wr 42 JSel.enc 5 (lessL (p :: r) (xs.take k)) v)) (fun _ _ _ i _ => xs.length - (intOf i).toNat)
    case atStart => exact ⟨0, Nat.zero_le _, rfl, hb1, Lib.hid <| by
      have := GrF.nil w.heap.size (w.drewN n1) 42 JSel.enc 5
      simpa [lessL_cons] using this⟩
    case round =>
      obtain ⟨k, hk, rfl, HB, HG⟩ := hrel
      by_cases hlt : k < xs.length
      case neg =>
        have hkk : k = xs.length := by omega
        have HG9 := Lib.hid (GrF.cast HG.out (by rw [hkk, List.take_of_length_le (Nat.le_refl _)]) rfl : GrF (Fs.take k).flatten w.heap.size wr 42 JSel.enc 5 (lessL (p :: r) xs) _)
        clear hkk
        go_wp2
        go_ret
        obtain ⟨fp9, o9, n9, m9⟩ := HG9.out.own JSel.enc_len
        exact ⟨_, fp9, rfl, by rw [HCL.out]; exact o9, n9, fun b hm => (m9 b hm).imp (fun h => HFm.out b (by rw [← List.take_append_drop k Fs, List.flatten_append]; exact List.mem_append_left _ h)) id, HB.out⟩
      have hkF : k < Fs.length := by have := hFl.out; omega
      obtain ⟨ad, A4, c4, rfl, ⟨x0, x1, x2, x3, x4⟩, hkid, l0, l1, n4⟩ := HFk.out k hlt hkF
      have y0 := cell_keep HB.out x0
      have y1 := cell_keep HB.out x1
      have y2 := cell_keep HB.out x2
      have y3 := cell_keep HB.out x3
      have y4 := cell_keep HB.out x4
      obtain ⟨q1, q2, q3, q4⟩ := parts_apart HFn.out k hkF
      have HQ := Lib.hid (And.intro q1 (And.intro q2 (And.intro q3 q4)))
      have HK := Lib.hid (hkid.keep HB.out)
      have HK' := Lib.hid (Own.lt _ _ _ hkid)
      have HC := Lib.hid (fun (W : World) (h : Below wr.heap.size wr W) => JSel.close_ xs[k] ((Own.rd _ _ _ HK.out).below h) l0 l1)
      have hbk := Lib.hid (kid_bulk HBK.out hlt)
      clear x0 x1 x2 x3 x4 q1 q2 q3 q4 hkid
      have hlen : (lessL (p :: r) (xs.take k)).length ≤ k := Nat.le_trans (lessL_len _ _ _) (by rw [List.length_take]; omega)
      go_wp2_with fail
      refine (under_c xs[k] _ _ (HC.out _ (b1 _ _))).mono ?_
      rintro e w4 ⟨rfl, ha⟩
      have z0 : w4.cell? ⟨wr.heap.size, 0, none⟩ = some (.string xs[k].as_) := cell_keep ha (by simp [go_sem])
      have z1 : w4.cell? ⟨wr.heap.size, 1, none⟩ = some (.string xs[k].name) := cell_keep ha (by simp [go_sem])
      have z2 : w4.cell? ⟨wr.heap.size, 2, none⟩ = some (.bool xs[k].one) := cell_keep ha (by simp [go_sem])
      have z3 : w4.cell? ⟨wr.heap.size, 3, none⟩ = some (.int .i64 xs[k].id) := cell_keep ha (by simp [go_sem])
      have z4 : w4.cell? ⟨wr.heap.size, 4, none⟩ = some (.slice A4 xs[k].kids.length c4) := cell_keep ha (by simp [go_sem])
      have hB4 := Lib.hid (bt (b1 wr _) ha)
      have hzw : wr.heap.size < w4.heap.size := by have := ha.size; simp at this; omega
      have f4 : w4.frozen? ⟨wr.heap.size, 4, none⟩ = false := (ha.frozen (p := ⟨wr.heap.size, 4, none⟩) (by simp)).trans (by simp [go_sem])
      clear ha
      by_cases hu : xs[k].under = p
      case neg =>
        have tu := str_f hu
        replace hu := Lib.hid hu
        have hrow := Lib.hid (fun (o : Obj) => JSel.mk_row l0 l1 ((HK.out.keep hB4.out).keep (b1 w4 o)))
        have hone : lessOne p r xs[k] = some xs[k] := by unfold lessOne; rw [if_neg hu.out]
        replace hone := Lib.hid hone
        go_wp2_with (at_builtin; refine wpList_pushF rfl _ _ 24 rfl (enc := JSel.enc) (base := w.heap.size) (wr := wr) (xs := lessL (p :: r) (xs.take k)) (F := (Fs.take k).flatten) Fs[k] xs[k] 42 i0 _ 5 72 Tryd.underlying24 hi hz0 hz1 hz2 rfl (by decide) JSel.enc_len rfl HG.out (bt hB4.out (b1 _ _)) HB.out.size ⟨w4.heap.size, 0, none⟩ 1 (by simp [Act.eval]) _ Fs[k] (hrow.out _) HQ.out.1 (fun b hm => .inl ⟨hm, HQ.out.2.1 b hm, HK'.out b hm⟩) (box_newAt (by simp) rfl) ?c1 ?_)
        case c1 => constructor <;> omega
        intro A9 n9 c9 w9 hn9 hG9 hB9 _
        replace hn9 := Lib.hid hn9
        replace hG9 := Lib.hid hG9
        replace hB9 := Lib.hid hB9
        go_wp2
        go_roundw
        case rel => exact ⟨k + 1, by omega, by go_num, HB.out.trans (((bt hB4.out (b1 _ _)).mono HB.out.size).trans hB9.out), Lib.hid (by rw [HQ.out.2.2.1, lessL_take _ _ _ _ hlt, hone.out]; exact hG9.out)⟩
        case measure => simp [intOf]; omega
      have tu := str_t hu
      replace hu := Lib.hid hu
      first
        | have hr1 : r = [] := hr0.out
          have hone : lessOne p r xs[k] = none := by unfold lessOne; rw [if_pos hu.out, if_pos hr1]
          replace hone := Lib.hid hone
          clear hr1
          go_wp2
          go_roundw
          case rel => exact ⟨k + 1, by omega, by go_num, HB.out.trans (hB4.out.mono HB.out.size), Lib.hid (by rw [HQ.out.2.2.1, lessL_take _ _ _ _ hlt, hone.out]; simp only [Option.toList, List.append_nil]; exact (HG.out.keep hB4.out).more (fun b hm => List.mem_append_left _ hm))⟩
          case measure => simp [intOf]; omega
        | obtain ⟨hr1, hr, HM⟩ := (show r ≠ [] ∧ r = cutL rest ∧ LessI rest from hr0.out)
          replace hr := Lib.hid hr
          replace hr1 := Lib.hid hr1
          have HMk := HM xs[k].kids A4 xs[k].kids.length c4 Fs[k] w4 (HK.out.keep hB4.out) HQ.out.1 hbk.out (HMX.out _ (bt HB.out hB4.out))
          rw [← hr.out] at HMk
          replace HMk := Lib.hid HMk
          clear HM
          by_cases hk2 : xs[k].kids = []
          case pos =>
            have e0 : xs[k].kids.length = 0 := by rw [hk2]; rfl
            rw [e0] at z4 HMk y4
            replace e0 := Lib.hid e0
            replace hk2 := Lib.hid hk2
            go_wp2_with fail
            refine HMk.out.mono ?_
            rintro e w5 ⟨v5, fp5, rfl, o5, nd5, m5, b5⟩
            obtain ⟨A5, c5, rfl⟩ := Own.slD o5
            have z4b := cell_keep b5 z4
            have f4b := (b5.frozen (p := ⟨wr.heap.size, 4, none⟩) hzw).trans f4
            have hne : wr.heap.size ∉ fp5 := fun hm => by
              rcases m5 _ hm with h | h
              · have := HK'.out _ h; have := HB.out.size; omega
              · omega
            have own6 := Own.set o5 (p := ⟨wr.heap.size, 4, none⟩) hne (.slice A5 (lessL r xs[k].kids).length c5)
            have hb5 := (bt hB4.out b5).setCell (p := ⟨wr.heap.size, 4, none⟩) (Nat.le_refl _) (.slice A5 (lessL r xs[k].kids).length c5)
            have g0 : (w5.setCell ⟨wr.heap.size, 4, none⟩ (.slice A5 (lessL r xs[k].kids).length c5)).cell? ⟨wr.heap.size, 0, none⟩ = some (.string xs[k].as_) := by simp [go_sem, cell_keep b5 z0]
            have g1 : (w5.setCell ⟨wr.heap.size, 4, none⟩ (.slice A5 (lessL r xs[k].kids).length c5)).cell? ⟨wr.heap.size, 1, none⟩ = some (.string xs[k].name) := by simp [go_sem, cell_keep b5 z1]
            have g2 : (w5.setCell ⟨wr.heap.size, 4, none⟩ (.slice A5 (lessL r xs[k].kids).length c5)).cell? ⟨wr.heap.size, 2, none⟩ = some (.bool xs[k].one) := by simp [go_sem, cell_keep b5 z2]
            have g3 : (w5.setCell ⟨wr.heap.size, 4, none⟩ (.slice A5 (lessL r xs[k].kids).length c5)).cell? ⟨wr.heap.size, 3, none⟩ = some (.int .i64 xs[k].id) := by simp [go_sem, cell_keep b5 z3]
            have g4 : (w5.setCell ⟨wr.heap.size, 4, none⟩ (.slice A5 (lessL r xs[k].kids).length c5)).cell? ⟨wr.heap.size, 4, none⟩ = some (.slice A5 (lessL r xs[k].kids).length c5) := by simp [go_sem, z4b]
            have m6 : ∀ b, b ∈ fp5 → (b ∈ Fs[k] ∧ b ∉ (Fs.take k).flatten ∧ b < w.heap.size) ∨ wr.heap.size ≤ b := fun b hm => by
              rcases m5 _ hm with h | h
              · exact .inl ⟨h, HQ.out.2.1 b h, HK'.out b h⟩
              · exact .inr (by omega)
            replace hb5 := Lib.hid hb5
            replace m6 := Lib.hid m6
            replace nd5 := Lib.hid nd5
            replace own6 := Lib.hid own6
            have HZ := Lib.hid (And.intro z0 (And.intro z1 (And.intro z2 z3)))
            clear z0 z1 z2 z3 z4 b5 o5 m5 hne
            have hdef : lessOne p r xs[k] = if r = [] then none else if lessL r xs[k].kids ≠ [] ∨ xs[k].kids = [] then some ⟨xs[k].as_, xs[k].name, xs[k].one, xs[k].id, lessL r xs[k].kids⟩ else none := by unfold lessOne; rw [if_pos hu.out]
            rw [if_neg hr1.out] at hdef
            replace hdef := Lib.hid hdef
            have hrow := Lib.hid (fun (o : Obj) => JSel.mk_row (x := ⟨xs[k].as_, xs[k].name, xs[k].one, xs[k].id, lessL r xs[k].kids⟩) l0 l1 (own6.out.keep (b1 _ o)))
            clear own6
            generalize hke : lessL r xs[k].kids = kl at hrow hdef g0 g1 g2 g3 g4 hb5 hrow z4b ⊢
            clear hke
            have hone : lessOne p r xs[k] = some ⟨xs[k].as_, xs[k].name, xs[k].one, xs[k].id, kl⟩ := by rw [hdef.out, if_pos (.inr hk2.out)]
            replace hone := Lib.hid hone
            go_wp2_with (at_builtin; refine wpList_pushF rfl _ _ 24 rfl (enc := JSel.enc) (base := w.heap.size) (wr := wr) (xs := lessL (p :: r) (xs.take k)) (F := (Fs.take k).flatten) Fs[k] ⟨xs[k].as_, xs[k].name, xs[k].one, xs[k].id, kl⟩ 42 i0 _ 5 72 Tryd.underlying24 hi hz0 hz1 hz2 rfl (by decide) JSel.enc_len rfl HG.out (bt hb5.out (b1 _ _)) HB.out.size ⟨w5.heap.size, 0, none⟩ 1 (by simp [Act.eval]) _ fp5 (hrow.out _) nd5.out m6.out (box_newAt (by simp) rfl) ?c1 ?_)
            case c1 => constructor <;> omega
            intro A9 n9 c9 w9 hn9 hG9 hB9 _
            replace hn9 := Lib.hid hn9
            replace hG9 := Lib.hid hG9
            replace hB9 := Lib.hid hB9
            go_wp2
            go_roundw
            case rel => exact ⟨k + 1, by omega, by go_num, HB.out.trans (((bt hb5.out (b1 _ _)).mono HB.out.size).trans hB9.out), Lib.hid (by rw [HQ.out.2.2.1, lessL_take _ _ _ _ hlt, hone.out]; exact hG9.out)⟩
            case measure => simp [intOf]; omega
          have hkI : (0 : Int) < xs[k].kids.length := by have := List.length_pos_iff.2 hk2; omega
          replace hk2 := Lib.hid hk2
          go_wp2_with fail
          refine HMk.out.mono ?_
          rintro e w5 ⟨v5, fp5, rfl, o5, nd5, m5, b5⟩
          obtain ⟨A5, c5, rfl⟩ := Own.slD o5
          have z4b := cell_keep b5 z4
          have f4b := (b5.frozen (p := ⟨wr.heap.size, 4, none⟩) hzw).trans f4
          have hne : wr.heap.size ∉ fp5 := fun hm => by
            rcases m5 _ hm with h | h
            · have := HK'.out _ h; have := HB.out.size; omega
            · omega
          have own6 := Own.set o5 (p := ⟨wr.heap.size, 4, none⟩) hne (.slice A5 (lessL r xs[k].kids).length c5)
          have hb5 := (bt hB4.out b5).setCell (p := ⟨wr.heap.size, 4, none⟩) (Nat.le_refl _) (.slice A5 (lessL r xs[k].kids).length c5)
          have g0 : (w5.setCell ⟨wr.heap.size, 4, none⟩ (.slice A5 (lessL r xs[k].kids).length c5)).cell? ⟨wr.heap.size, 0, none⟩ = some (.string xs[k].as_) := by simp [go_sem, cell_keep b5 z0]
          have g1 : (w5.setCell ⟨wr.heap.size, 4, none⟩ (.slice A5 (lessL r xs[k].kids).length c5)).cell? ⟨wr.heap.size, 1, none⟩ = some (.string xs[k].name) := by simp [go_sem, cell_keep b5 z1]
          have g2 : (w5.setCell ⟨wr.heap.size, 4, none⟩ (.slice A5 (lessL r xs[k].kids).length c5)).cell? ⟨wr.heap.size, 2, none⟩ = some (.bool xs[k].one) := by simp [go_sem, cell_keep b5 z2]
          have g3 : (w5.setCell ⟨wr.heap.size, 4, none⟩ (.slice A5 (lessL r xs[k].kids).length c5)).cell? ⟨wr.heap.size, 3, none⟩ = some (.int .i64 xs[k].id) := by simp [go_sem, cell_keep b5 z3]
          have g4 : (w5.setCell ⟨wr.heap.size, 4, none⟩ (.slice A5 (lessL r xs[k].kids).length c5)).cell? ⟨wr.heap.size, 4, none⟩ = some (.slice A5 (lessL r xs[k].kids).length c5) := by simp [go_sem, z4b]
          have m6 : ∀ b, b ∈ fp5 → (b ∈ Fs[k] ∧ b ∉ (Fs.take k).flatten ∧ b < w.heap.size) ∨ wr.heap.size ≤ b := fun b hm => by
            rcases m5 _ hm with h | h
            · exact .inl ⟨h, HQ.out.2.1 b h, HK'.out b h⟩
            · exact .inr (by omega)
          replace hb5 := Lib.hid hb5
          replace m6 := Lib.hid m6
          replace nd5 := Lib.hid nd5
          replace own6 := Lib.hid own6
          have HZ := Lib.hid (And.intro z0 (And.intro z1 (And.intro z2 z3)))
          clear z0 z1 z2 z3 z4 b5 o5 m5 hne
          have hdef : lessOne p r xs[k] = if r = [] then none else if lessL r xs[k].kids ≠ [] ∨ xs[k].kids = [] then some ⟨xs[k].as_, xs[k].name, xs[k].one, xs[k].id, lessL r xs[k].kids⟩ else none := by unfold lessOne; rw [if_pos hu.out]
          rw [if_neg hr1.out] at hdef
          replace hdef := Lib.hid hdef
          have hrow := Lib.hid (fun (o : Obj) => JSel.mk_row (x := ⟨xs[k].as_, xs[k].name, xs[k].one, xs[k].id, lessL r xs[k].kids⟩) l0 l1 (own6.out.keep (b1 _ o)))
          clear own6
          generalize hke : lessL r xs[k].kids = kl at hrow hdef g0 g1 g2 g3 g4 hb5 hrow z4b ⊢
          clear hke
          by_cases hk1 : kl = []
          · have t2 : (((kl.length : Nat) : Int) == 0) = true := by rw [hk1]; rfl
            have hone : lessOne p r xs[k] = none := by rw [hdef.out, if_neg (fun h => h.elim (fun e => e hk1) hk2.out)]
            replace hone := Lib.hid hone
            replace hk1 := Lib.hid hk1
            go_wp2
            go_roundw
            case rel => exact ⟨k + 1, by omega, by go_num, HB.out.trans (hb5.out.mono HB.out.size), Lib.hid (by rw [HQ.out.2.2.1, lessL_take _ _ _ _ hlt, hone.out]; simp only [Option.toList, List.append_nil]; exact (HG.out.keep hb5.out).more (fun b hm => List.mem_append_left _ hm))⟩
            case measure => simp [intOf]; omega
          · have t2 : (((kl.length : Nat) : Int) == 0) = false := by rw [beq_eq_false_iff_ne]; have := List.length_pos_iff.2 hk1; omega
            have hone : lessOne p r xs[k] = some ⟨xs[k].as_, xs[k].name, xs[k].one, xs[k].id, kl⟩ := by rw [hdef.out, if_pos (.inl hk1)]
            replace hone := Lib.hid hone
            replace hk1 := Lib.hid hk1
            go_wp2_with (at_builtin; refine wpList_pushF rfl _ _ 24 rfl (enc := JSel.enc) (base := w.heap.size) (wr := wr) (xs := lessL (p :: r) (xs.take k)) (F := (Fs.take k).flatten) Fs[k] ⟨xs[k].as_, xs[k].name, xs[k].one, xs[k].id, kl⟩ 42 i0 _ 5 72 Tryd.underlying24 hi hz0 hz1 hz2 rfl (by decide) JSel.enc_len rfl HG.out (bt hb5.out (b1 _ _)) HB.out.size ⟨w5.heap.size, 0, none⟩ 1 (by simp [Act.eval]) _ fp5 (hrow.out _) nd5.out m6.out (box_newAt (by simp) rfl) ?c1 ?_)
            case c1 => constructor <;> omega
            intro A9 n9 c9 w9 hn9 hG9 hB9 _
            replace hn9 := Lib.hid hn9
            replace hG9 := Lib.hid hG9
            replace hB9 := Lib.hid hB9
            go_wp2
            go_roundw
            case rel => exact ⟨k + 1, by omega, by go_num, HB.out.trans (((bt hb5.out (b1 _ _)).mono HB.out.size).trans hB9.out), Lib.hid (by rw [HQ.out.2.2.1, lessL_take _ _ _ _ hlt, hone.out]; exact hG9.out)⟩
            case measure => simp [intOf]; omega
theorem less_all : ∀ n, ∀ s : ByteArray, s.size < n → s.size ≤ 1048576 → LessI s
  | 0 => fun _ h => absurd h (by omega)
  | n + 1 => fun s h hs => less_of s hs fun t ht => less_all n t (by omega) (by omega)
theorem less_c (s : ByteArray) (hs : s.size ≤ 1048576) : LessI s := less_all _ s (Nat.lt_succ_self _) hs
end Go.Proofs.YtmkagpmdindlpaaDoor.Lib
