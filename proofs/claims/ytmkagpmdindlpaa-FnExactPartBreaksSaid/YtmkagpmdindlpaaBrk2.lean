/- The reference's PartBreaks. Parts of 2^20 at most. -/
import Derived.Test.YtmkagpmdindlpaaBrk0
import Derived.Test.YtmkagpmdindlpaaL2Get
import Derived.Deep.RegionHeld3
import Derived.Deep.RegionLaw
import Derived.Deep.DeepCutAuto
set_option linter.unusedVariables false
set_option linter.unusedSimpArgs false
namespace Go.Proofs.Ytmkagpmdindlpaa.Lib
open Go.RowKit
set_option maxRecDepth 100000 in
set_option maxHeartbeats 4000000 in
theorem specPartBreaks_c (old now : JPart) (cs ds : List Value) (w : World) (hx : RdL w old.enc cs) (hy : RdL w now.enc ds) (hb : old.bulk ≤ 1048576) (hbn : now.bulk ≤ 1048576) :
    Calls Try.prog 30 #[.agg cs.toArray, .agg ds.toArray] w (Made1 w (slD strD 1 (breaksR old now))) := by
  have hfd := fld_code
  obtain ⟨i0, hi, hi0, hi1, hi2⟩ := info_parts info_str
  have hx' := hx
  have hy' := hy
  obtain ⟨A1, c1, rfl, g1, l0, n1⟩ := JPart.open_ hx
  obtain ⟨A2, c2, rfl, g2, l2, n2⟩ := JPart.open_ hy
  have HO := Lib.hid (fun W (h : Below w.heap.size w W) => specPartCheck_c old _ W (hx'.keep h) hb)
  have HN := Lib.hid (fun W (h : Below w.heap.size w W) => specPartCheck_c now _ W (hy'.keep h) hbn)
  have HG := Lib.hid (fun W (h : Below w.heap.size w W) => g1.below h)
  have HF := Lib.hid (fun W (h : Below w.heap.size w W) n f => l2Get_c now _ n f w W h hy')
  have eW : (((w.alloc (.cells #[.string old.name, .slice A1 old.types.length c1] 33)).alloc (.cells #[.string now.name, .slice A2 now.types.length c2] 33))).heap.size = w.heap.size + 1 + 1 := by simp
  have hb0 := Lib.hid (bt (b1 _ _) (b1 _ _) : Below w.heap.size w ((w.alloc (.cells #[.string old.name, .slice A1 old.types.length c1] 33)).alloc (.cells #[.string now.name, .slice A2 now.types.length c2] 33)))
  have hE := Lib.hid (show Gr (w.heap.size + 1 + 1) (((w.alloc (.cells #[.string old.name, .slice A1 old.types.length c1] 33)).alloc (.cells #[.string now.name, .slice A2 now.types.length c2] 33)).alloc (.cells #[] 9)) 9 strD 1 [] (.slice (some ⟨w.heap.size + 1 + 1, 0, none⟩) 0 0) from Gr.emptyAt _ _ _ _ eW (Nat.le_refl _))
  have hbe := Lib.hid ((b1 _ _).mono (Nat.le_of_eq eW.symm) : Below (w.heap.size + 1 + 1) ((w.alloc (.cells #[.string old.name, .slice A1 old.types.length c1] 33)).alloc (.cells #[.string now.name, .slice A2 now.types.length c2] 33)) (((w.alloc (.cells #[.string old.name, .slice A1 old.types.length c1] 33)).alloc (.cells #[.string now.name, .slice A2 now.types.length c2] 33)).alloc (.cells #[] 9)))
  have hlen := Lib.hid (brk_len2 (now := now) hb)
  have hsz := Lib.hid (brk_size hb)
  clear hx hx' hy hy' g1 g2
  have hT : PartOk old ↔ (faultOf old).code = 0 := Iff.rfl
  have hU : PartOk now ↔ (faultOf now).code = 0 := Iff.rfl
  generalize faultOf old = T at *
  generalize faultOf now = U at *
  obtain ⟨t1, t2⟩ := T
  obtain ⟨u1, u2⟩ := U
  dsimp only at hT hU
  replace hT := Lib.hid hT
  replace hU := Lib.hid hU
  by_cases ho : PartOk old
  case neg =>
    have tc : (t2 == 0) = false := by rw [beq_eq_false_iff_ne]; exact fun h => ho (hT.out.2 h)
    have tn : (t2 != 0) = true := by unfold bne; rw [tc]; rfl
    replace ho := Lib.hid ho
    go_enter Try.func30, Try.ntmps30
    go_wp2_with fail
    refine (HO.out _ (bt hb0.out (b1 _ _))).mono ?_
    rintro e w1 ⟨rfl, hb1⟩
    have hG := Lib.hid (hE.out.keep hb1)
    replace hb1 := Lib.hid (bt (bt hb0.out (b1 _ _)) hb1)
    go_wp2
    go_ret
    rw [breaksR_f (fun h => ho.out h.1)]
    exact hG.out.made strD_len (by omega) hb1.out
  have tc : (t2 == 0) = true := by rw [hT.out.1 ho]; rfl
  have tn : (t2 != 0) = false := by unfold bne; rw [tc]; rfl
  replace ho := Lib.hid ho
  by_cases hn : PartOk now
  case neg =>
    have uc : (u2 == 0) = false := by rw [beq_eq_false_iff_ne]; exact fun h => hn (hU.out.2 h)
    have un : (u2 != 0) = true := by unfold bne; rw [uc]; rfl
    replace hn := Lib.hid hn
    go_enter Try.func30, Try.ntmps30
    go_wp2_with fail
    refine (HO.out _ (bt hb0.out (b1 _ _))).mono ?_
    rintro e w1 ⟨rfl, hb1⟩
    have hB1 := hbe.out.trans (hb1.mono hbe.out.size |>.mono (by omega))
    have p0 : w1.cell? ⟨w.heap.size, 0, none⟩ = some (.string old.name) := cell_at hB1 (by simp [go_sem]) (by omega); have p1 : w1.cell? ⟨w.heap.size, 1, none⟩ = some (.slice A1 old.types.length c1) := cell_at hB1 (by simp [go_sem]) (by omega); have q0 : w1.cell? ⟨w.heap.size + 1, 0, none⟩ = some (.string now.name) := cell_at hB1 (by simp [go_sem]) (by omega); have q1 : w1.cell? ⟨w.heap.size + 1, 1, none⟩ = some (.slice A2 now.types.length c2) := cell_at hB1 (by simp [go_sem]) (by omega); have hz1 : w.heap.size + 1 < w1.heap.size := World.block_lt_of_cell? _ _ q0; have hz0 : w.heap.size < w1.heap.size := by omega
    have hG := Lib.hid (hE.out.keep hb1)
    replace hb1 := Lib.hid (bt (bt hb0.out (b1 _ _)) hb1)
    go_wp2_with fail
    refine (HN.out _ hb1.out).mono ?_
    rintro e w3 ⟨rfl, hb3⟩
    replace hG := Lib.hid (hG.out.keep hb3)
    replace hb3 := Lib.hid (bt hb1.out hb3)
    go_wp2
    go_ret
    rw [breaksR_f (fun h => hn.out h.2)]
    exact hG.out.made strD_len (by omega) hb3.out
  have uc : (u2 == 0) = true := by rw [hU.out.1 hn]; rfl
  have un : (u2 != 0) = false := by unfold bne; rw [uc]; rfl
  replace hn := Lib.hid hn
  go_enter Try.func30, Try.ntmps30
  go_wp2_with fail
  refine (HO.out _ (bt hb0.out (b1 _ _))).mono ?_
  rintro e w1 ⟨rfl, hb1⟩
  have hB1 := hbe.out.trans (hb1.mono hbe.out.size |>.mono (by omega))
  have p0 : w1.cell? ⟨w.heap.size, 0, none⟩ = some (.string old.name) := cell_at hB1 (by simp [go_sem]) (by omega); have p1 : w1.cell? ⟨w.heap.size, 1, none⟩ = some (.slice A1 old.types.length c1) := cell_at hB1 (by simp [go_sem]) (by omega); have q0 : w1.cell? ⟨w.heap.size + 1, 0, none⟩ = some (.string now.name) := cell_at hB1 (by simp [go_sem]) (by omega); have q1 : w1.cell? ⟨w.heap.size + 1, 1, none⟩ = some (.slice A2 now.types.length c2) := cell_at hB1 (by simp [go_sem]) (by omega); have hz1 : w.heap.size + 1 < w1.heap.size := World.block_lt_of_cell? _ _ q0; have hz0 : w.heap.size < w1.heap.size := by omega
  have hG := Lib.hid (hE.out.keep hb1)
  replace hb1 := Lib.hid (bt (bt hb0.out (b1 _ _)) hb1)
  go_wp2_with fail
  refine (HN.out _ hb1.out).mono ?_
  rintro e w3 ⟨rfl, hb3⟩
  replace hG := Lib.hid (hG.out.keep hb3)
  clear p0 p1 q0 q1 hz1 hz0
  replace hB1 := hB1.trans (hb3.mono (by have := hB1.size; omega))
  have p0 : w3.cell? ⟨w.heap.size, 0, none⟩ = some (.string old.name) := cell_at hB1 (by simp [go_sem]) (by omega); have p1 : w3.cell? ⟨w.heap.size, 1, none⟩ = some (.slice A1 old.types.length c1) := cell_at hB1 (by simp [go_sem]) (by omega); have q0 : w3.cell? ⟨w.heap.size + 1, 0, none⟩ = some (.string now.name) := cell_at hB1 (by simp [go_sem]) (by omega); have q1 : w3.cell? ⟨w.heap.size + 1, 1, none⟩ = some (.slice A2 now.types.length c2) := cell_at hB1 (by simp [go_sem]) (by omega); have hz1 : w.heap.size + 1 < w3.heap.size := World.block_lt_of_cell? _ _ q0; have hz0 : w.heap.size < w3.heap.size := by omega
  replace hB1 := Lib.hid hB1
  clear hb3
  go_wp2
  clear p0 p1 q0 q1 hz1 hz0
  go_loopw [5, 6, 7, 8, 9, 10] (fun v i _ _ _ _ wr => ∃ k : Nat, k ≤ old.types.length ∧ i = .int .i64 k ∧ Hid (Below (w.heap.size + 1 + 1) ((w.alloc (.cells #[.string old.name, .slice A1 old.types.length c1] 33)).alloc (.cells #[.string now.name, .slice A2 now.types.length c2] 33)) wr) ∧ Hid (Gr (w.heap.size + 1 + 1) wr 9 strD 1 (brkTs now (old.types.take k)) v)) (fun _ i _ _ _ _ _ => old.types.length - (intOf i).toNat)
  case atStart => exact ⟨0, Nat.zero_le _, rfl, hB1, by rw [List.take_zero]; exact hG.out⟩
  case round =>
    obtain ⟨k, hk_, rfl, HB, HV⟩ := hrel
    obtain ⟨wo, rfl⟩ : ∃ x, x = wr := ⟨wr, rfl⟩
    have hszB := HB.out.size
    rw [eW] at hszB
    have p0 : wo.cell? ⟨w.heap.size, 0, none⟩ = some (.string old.name) := cell_at HB.out (by simp [go_sem]) (by omega); have p1 : wo.cell? ⟨w.heap.size, 1, none⟩ = some (.slice A1 old.types.length c1) := cell_at HB.out (by simp [go_sem]) (by omega); have q0 : wo.cell? ⟨w.heap.size + 1, 0, none⟩ = some (.string now.name) := cell_at HB.out (by simp [go_sem]) (by omega); have q1 : wo.cell? ⟨w.heap.size + 1, 1, none⟩ = some (.slice A2 now.types.length c2) := cell_at HB.out (by simp [go_sem]) (by omega); have hz1 : w.heap.size + 1 < wo.heap.size := World.block_lt_of_cell? _ _ q0; have hz0 : w.heap.size < wo.heap.size := by omega
    by_cases hlt : k < old.types.length
    case neg =>
      have hke : k = old.types.length := by omega
      subst hke
      replace HV := HV.out
      rw [List.take_length] at HV
      replace HV := Lib.hid HV
      go_wp2
      go_ret
      rw [breaksR_t ho.out hn.out]
      exact HV.out.made strD_len (by omega) (hb0.out.trans (HB.out.mono (by omega)))
    have hltI : (k : Int) < old.types.length := by omega
    have hlk := Lib.hid (hlen.out k hlt)
    have hsk := Lib.hid (hsz.out k hlt)
    have htk := brkTs_take now old.types k hlt
    have hwo := Lib.hid (hb0.out.trans (HB.out.mono (by omega)))
    obtain ⟨ad, A3, c3, rfl, y0, y1, y2, g3, m0, m1, m2⟩ := JTyp.elem (HG.out _ hb0.out) k hlt
    have hY := Lib.hid (fun W (h : Below (w.heap.size + 1 + 1) ((w.alloc (.cells #[.string old.name, .slice (some ad) old.types.length c1] 33)).alloc (.cells #[.string now.name, .slice A2 now.types.length c2] 33)) W) => (⟨cell_keep (by rw [eW]; exact h) y0, cell_keep (by rw [eW]; exact h) y2⟩ : W.cell? (ad.add (k * 3)) = some (.string old.types[k].name) ∧ W.cell? ⟨(ad.add (k * 3)).block, (ad.add (k * 3)).off + 2, none⟩ = some (.slice A3 old.types[k].fields.length c3)))
    have hyb : (ad.add (k * 3)).block < w.heap.size + 1 + 1 := by have := World.block_lt_of_cell? _ _ y0; rw [eW] at this; exact this
    generalize ht : old.types[k] = t at *
    have HG3 := Lib.hid (fun W (h : Below (w.heap.size + 1 + 1) ((w.alloc (.cells #[.string old.name, .slice (some ad) old.types.length c1] 33)).alloc (.cells #[.string now.name, .slice A2 now.types.length c2] 33)) W) => g3.below (by rw [eW]; exact h : Below (((w.alloc (.cells #[.string old.name, .slice (some ad) old.types.length c1] 33)).alloc (.cells #[.string now.name, .slice A2 now.types.length c2] 33))).heap.size ((w.alloc (.cells #[.string old.name, .slice (some ad) old.types.length c1] 33)).alloc (.cells #[.string now.name, .slice A2 now.types.length c2] 33)) W))
    clear g3 y0 y1 y2
    replace htk := Lib.hid htk
    replace ht := Lib.hid ht
    go_wp2
    go_loopw [5, 7, 8, 9, 10] (fun v j _ _ _ wr => ∃ q : Nat, q ≤ t.fields.length ∧ j = .int .i64 q ∧ Hid (Below (w.heap.size + 1 + 1) ((w.alloc (.cells #[.string old.name, .slice (some ad) old.types.length c1] 33)).alloc (.cells #[.string now.name, .slice A2 now.types.length c2] 33)) wr) ∧ Hid (Gr (w.heap.size + 1 + 1) wr 9 strD 1 (brkTs now (old.types.take k) ++ brkFs now t (t.fields.take q)) v)) (fun _ j _ _ _ _ => t.fields.length - (intOf j).toNat)
    case atStart => exact ⟨0, Nat.zero_le _, rfl, HB, by rw [List.take_zero]; unfold brkFs; rw [List.flatMap_nil, List.append_nil]; exact HV.out⟩
    case round =>
      obtain ⟨q, hq_, rfl, HB2, HV2⟩ := hrel
      have hszr := HB2.out.size
      rw [eW] at hszr
      have hwr := Lib.hid (hb0.out.trans (HB2.out.mono (by omega)))
      clear p0 p1 q0 q1 hz1 hz0
      have p0 : wr.cell? ⟨w.heap.size, 0, none⟩ = some (.string old.name) := cell_at HB2.out (by simp [go_sem]) (by omega); have p1 : wr.cell? ⟨w.heap.size, 1, none⟩ = some (.slice (some ad) old.types.length c1) := cell_at HB2.out (by simp [go_sem]) (by omega); have q0 : wr.cell? ⟨w.heap.size + 1, 0, none⟩ = some (.string now.name) := cell_at HB2.out (by simp [go_sem]) (by omega); have q1 : wr.cell? ⟨w.heap.size + 1, 1, none⟩ = some (.slice A2 now.types.length c2) := cell_at HB2.out (by simp [go_sem]) (by omega); have hz1 : w.heap.size + 1 < wr.heap.size := World.block_lt_of_cell? _ _ q0; have hz0 : w.heap.size < wr.heap.size := by omega
      obtain ⟨y0, y2⟩ := hY.out _ HB2.out
      by_cases hlq : q < t.fields.length
      case neg =>
        have hqe : q = t.fields.length := by omega
        subst hqe
        replace HV2 := HV2.out
        rw [List.take_length, ← htk.out] at HV2
        replace HV2 := Lib.hid HV2
        go_wp2
        go_roundw
        case rel => exact ⟨k + 1, by omega, by go_num, HB2, HV2⟩
        case measure => simp [intOf]; omega
      have hlqI : (q : Int) < t.fields.length := by omega
      obtain ⟨hst, hsf⟩ := hsk.out q hlq
      have hlx := hlk.out q
      have hfk := brkFs_take now t t.fields q hlq
      obtain ⟨ae, A4, c4, rfl, v0, v1, v2, v3, v4, v5, v6, v7, g4, k0, k1, k7⟩ := JField.elem (HG3.out _ HB2.out) q hlq
      clear g4
      have HFq := Lib.hid (fun W (h : Below w.heap.size w W) => HF.out W h t.name t.fields[q].name)
      have hiff : Hid (BreakF now t t.fields[q] ↔ BreakG t.fields[q] ((now.findF t.name t.fields[q].name).getD JField.zero) (now.findF t.name t.fields[q].name).isSome) := Lib.hid Iff.rfl
      generalize hfq : t.fields[q] = f at *
      generalize (now.findF t.name f.name).getD JField.zero = g at HFq hiff
      generalize (now.findF t.name f.name).isSome = is at HFq hiff
      replace hfq := Lib.hid hfq
      replace hfk := Lib.hid hfk
      obtain ⟨fn, fo, fl, fm, fr, fh, fs, fd⟩ := f
      obtain ⟨gn, go_, gl, gm, ga, gh, gs, gd⟩ := g
      dsimp only at k0 hsf HFq v0 v1 v2 v3 v4 v5 v6 v7
      have eF : (wr.alloc (.cells #[.string fn, .string fo, .bool fl, .bool fm, .bool fr, .bool fh, .bool fs, .slice A4 fd.length c4] 59)).heap.size = wr.heap.size + 1 := by simp
      have hSF := Lib.hid (fun W (h : Below (wr.heap.size + 1) (wr.alloc (.cells #[.string fn, .string fo, .bool fl, .bool fm, .bool fr, .bool fh, .bool fs, .slice A4 fd.length c4] 59)) W) => (⟨cell_at h (cell_keep (b1 _ _) q0) (by omega), cell_at h (cell_keep (b1 _ _) q1) (by omega), cell_at h (cell_keep (b1 _ _) p1) (by omega), cell_low h (by have := World.block_lt_of_cell? _ _ y0; omega) (cell_keep (b1 _ _) y0), cell_at h (by simp [go_sem]) (by omega)⟩ : (W.cell? ⟨w.heap.size + 1, 0, none⟩ = some (.string now.name) ∧ W.cell? ⟨w.heap.size + 1, 1, none⟩ = some (.slice A2 now.types.length c2) ∧ W.cell? ⟨w.heap.size, 1, none⟩ = some (.slice (some ad) old.types.length c1) ∧ W.cell? (ad.add (k * 3)) = some (.string t.name) ∧ W.cell? ⟨wr.heap.size, 0, none⟩ = some (.string fn))))
      have hR0 : Hid (Below (wr.heap.size + 1) (wr.alloc (.cells #[.string fn, .string fo, .bool fl, .bool fm, .bool fr, .bool fh, .bool fs, .slice A4 fd.length c4] 59)) (wr.alloc (.cells #[.string fn, .string fo, .bool fl, .bool fm, .bool fr, .bool fh, .bool fs, .slice A4 fd.length c4] 59)).drew) := Lib.hid ((Below.refl _ _).drew)
      have hRA : Hid (∀ (w' : World) (o : Obj), Below (wr.heap.size + 1) (wr.alloc (.cells #[.string fn, .string fo, .bool fl, .bool fm, .bool fr, .bool fh, .bool fs, .slice A4 fd.length c4] 59)) w'.drew → Below (wr.heap.size + 1) (wr.alloc (.cells #[.string fn, .string fo, .bool fl, .bool fm, .bool fr, .bool fh, .bool fs, .slice A4 fd.length c4] 59)) (w'.alloc o).drew) := Lib.hid (fun w' o h => h.alloc (w := w'.drew) (by have := h.size; rw [eF] at this; exact this) o)
      have hRB : Hid (∀ (w' : World) (o : Obj), Below (wr.heap.size + 1) (wr.alloc (.cells #[.string fn, .string fo, .bool fl, .bool fm, .bool fr, .bool fh, .bool fs, .slice A4 fd.length c4] 59)) w' → Below (wr.heap.size + 1) (wr.alloc (.cells #[.string fn, .string fo, .bool fl, .bool fm, .bool fr, .bool fh, .bool fs, .slice A4 fd.length c4] 59)) (w'.alloc o)) := Lib.hid (fun w' o h => h.alloc (by have := h.size; rw [eF] at this; exact this) o)
      have hRS := Lib.hid (fun (w' : World) (h : Below (wr.heap.size + 1) (wr.alloc (.cells #[.string fn, .string fo, .bool fl, .bool fm, .bool fr, .bool fh, .bool fs, .slice A4 fd.length c4] 59)) w') => (by have := h.size; rw [eF] at this; exact this : wr.heap.size + 1 ≤ w'.heap.size))
      have hRW := Lib.hid (fun (w' : World) (h : Below (wr.heap.size + 1) (wr.alloc (.cells #[.string fn, .string fo, .bool fl, .bool fm, .bool fr, .bool fh, .bool fs, .slice A4 fd.length c4] 59)) w') => (bt hwr.out ((b1 wr (.cells #[.string fn, .string fo, .bool fl, .bool fm, .bool fr, .bool fh, .bool fs, .slice A4 fd.length c4] 59)).trans (h.mono (by omega))) : Below w.heap.size w w'))
      go_upto_region 11 with fail
      go_cut [9, 10] (fun s9 s10 wx => ∃ B, s9 = .pointer (some ⟨B, 0, none⟩) ∧ s10 = .bool is ∧ Hid (wx.cell? ⟨B, 1, none⟩ = some (.string go_) ∧ wx.cell? ⟨B, 2, none⟩ = some (.bool gl) ∧ wx.cell? ⟨B, 5, none⟩ = some (.bool gh)) ∧ Hid (Below (wr.heap.size + 1) (wr.alloc (.cells #[.string fn, .string fo, .bool fl, .bool fm, .bool fr, .bool fh, .bool fs, .slice A4 fd.length c4] 59)) wx))
      case first =>
        clear q0 q1 p0 p1 y0 y2
        go_region_held3 (fun w' => (w'.cell? ⟨w.heap.size + 1, 0, none⟩ = some (.string now.name) ∧ w'.cell? ⟨w.heap.size + 1, 1, none⟩ = some (.slice A2 now.types.length c2) ∧ w'.cell? ⟨w.heap.size, 1, none⟩ = some (.slice (some ad) old.types.length c1) ∧ w'.cell? (ad.add (k * 3)) = some (.string t.name) ∧ w'.cell? ⟨wr.heap.size, 0, none⟩ = some (.string fn))) (first | (with_reducible exact hSF.out _ hR0.out) | (with_reducible exact hSF.out _ (hRA.out _ _ hR0.out)) | (with_reducible exact hSF.out _ hP) | (with_reducible exact hSF.out _ (hRB.out _ _ hP)) | (with_reducible exact hSF.out _ (Below.setCell (Below.setCell (Below.setCell (Below.setCell (Below.setCell (Below.setCell (Below.setCell (Below.setCell hP (Nat.le_refl _) _) (Nat.le_refl _) _) (Nat.le_refl _) _) (Nat.le_refl _) _) (Nat.le_refl _) _) (Nat.le_refl _) _) (Nat.le_refl _) _) (Nat.le_refl _) _)) | (with_reducible exact hSF.out _ (Below.setCell (Below.setCell (Below.setCell (Below.setCell (Below.setCell (Below.setCell (Below.setCell (Below.setCell (hRB.out _ _ hP) (hRS.out _ hP) _) (hRS.out _ hP) _) (hRS.out _ hP) _) (hRS.out _ hP) _) (hRS.out _ hP) _) (hRS.out _ hP) _) (hRS.out _ hP) _) (hRS.out _ hP) _)))
          (first | (go_at_call 66; (with_reducible refine (HFq.out _ (hRW.out _ hR0.out)).mono ?_); rintro e w5 ⟨us, rfl, gr, hb5⟩; obtain ⟨A5, c5, rfl, _, j0, j1, _⟩ := JField.open_ gr; have hP := hR0.out.trans (hb5.mono (hRS.out _ hR0.out))) | (go_at_call 66; (with_reducible refine (HFq.out _ (hRW.out _ (hRA.out _ _ hR0.out))).mono ?_); rintro e w5 ⟨us, rfl, gr, hb5⟩; obtain ⟨A5, c5, rfl, _, j0, j1, _⟩ := JField.open_ gr; have hP := (hRA.out _ _ hR0.out).trans (hb5.mono (hRS.out _ (hRA.out _ _ hR0.out))); have e0 : w5.cell? ⟨wr.heap.size + 1, 0, none⟩ = some (.string ⟨#[]⟩) := cell_keep hb5 (by simp [go_sem]); have e1 : w5.cell? ⟨wr.heap.size + 1, 1, none⟩ = some (.string ⟨#[]⟩) := cell_keep hb5 (by simp [go_sem]); have e2 : w5.cell? ⟨wr.heap.size + 1, 2, none⟩ = some (.bool false) := cell_keep hb5 (by simp [go_sem]); have e3 : w5.cell? ⟨wr.heap.size + 1, 3, none⟩ = some (.bool false) := cell_keep hb5 (by simp [go_sem]); have e4 : w5.cell? ⟨wr.heap.size + 1, 4, none⟩ = some (.bool false) := cell_keep hb5 (by simp [go_sem]); have e5 : w5.cell? ⟨wr.heap.size + 1, 5, none⟩ = some (.bool false) := cell_keep hb5 (by simp [go_sem]); have e6 : w5.cell? ⟨wr.heap.size + 1, 6, none⟩ = some (.bool false) := cell_keep hb5 (by simp [go_sem]); have e7 : w5.cell? ⟨wr.heap.size + 1, 7, none⟩ = some (.slice none 0 0) := cell_keep hb5 (by simp [go_sem]); have ef : ∀ o, w5.frozen? ⟨wr.heap.size + 1, o, none⟩ = false := fun o => (hb5.frozen (p := ⟨wr.heap.size + 1, o, none⟩) (by simp)).trans (by simp [go_sem])))
        · go_wp2_with fail
          go_meet
          exact ⟨w5.heap.size, rfl, rfl, Lib.hid ⟨by simp [go_sem], by simp [go_sem], by simp [go_sem]⟩, Lib.hid (hRB.out _ _ hP)⟩
        · go_wp2_with fail
          go_meet
          exact ⟨wr.heap.size + 1, rfl, rfl, Lib.hid ⟨by simp [go_sem, e0, e1, e2, e3, e4, e5, e6, e7], by simp [go_sem, e0, e1, e2, e3, e4, e5, e6, e7], by simp [go_sem, e0, e1, e2, e3, e4, e5, e6, e7]⟩, Lib.hid (Below.setCell (Below.setCell (Below.setCell (Below.setCell (Below.setCell (Below.setCell (Below.setCell (Below.setCell hP (Nat.le_refl _) _) (Nat.le_refl _) _) (Nat.le_refl _) _) (Nat.le_refl _) _) (Nat.le_refl _) _) (Nat.le_refl _) _) (Nat.le_refl _) _) (Nat.le_refl _) _)⟩
      case rest =>
        obtain ⟨B, rfl, rfl, HC, HP⟩ := hcut
        obtain ⟨c1_, c2_, c5_⟩ := HC.out
        have hBz := World.block_lt_of_cell? _ _ c1_
        obtain ⟨s0, s1, s2, s3, s4⟩ := hSF.out _ HP.out
        have z1 : wc.cell? ⟨wr.heap.size, 1, none⟩ = some (.string fo) := cell_at HP.out (by simp [go_sem]) (by omega)
        have z2 : wc.cell? ⟨wr.heap.size, 2, none⟩ = some (.bool fl) := cell_at HP.out (by simp [go_sem]) (by omega)
        have z5 : wc.cell? ⟨wr.heap.size, 5, none⟩ = some (.bool fh) := cell_at HP.out (by simp [go_sem]) (by omega)
        have hB6 := Lib.hid ((b1 wr (.cells #[.string fn, .string fo, .bool fl, .bool fm, .bool fr, .bool fh, .bool fs, .slice A4 fd.length c4] 59)).trans (HP.out.mono (by omega)))
        have hB7 := Lib.hid (HB2.out.trans (hB6.out.mono hszr))
        have hss : (t.name ++ ⟨#[46]⟩ ++ fn).size ≤ 9223372036854775807 := by simp only [ByteArray.size_append, size_mk, List.size_toArray, List.length_cons, List.length_nil]; omega
        clear v0 v1 v2 v3 v4 v5 v6 v7 p0 p1 q0 q1 hz1 hz0 y0 y2
        generalize hX : brkTs now (old.types.take k) ++ brkFs now t (t.fields.take q) = X at *
        replace hX := Lib.hid hX
        cases fh with
        | true => (have hnb := Lib.hid (show brkFs now t (t.fields.take (q + 1)) = brkFs now t (t.fields.take q) by rw [hfk.out, brkF_f (fun h => (fun h => absurd h.1 (by simp)) (hiff.out.1 h)), List.append_nil]); go_wp2; go_roundw; (case rel => exact ⟨q + 1, by omega, by go_num, hB7, Lib.hid (Gr.cast (HV2.out.keep hB6.out) (by rw [hnb.out, hX.out]) rfl)⟩); (case measure => simp [intOf]; omega))
        | false =>
        cases is with
        | false =>
          have hnb := Lib.hid (show brkFs now t (t.fields.take (q + 1)) = brkFs now t (t.fields.take q) ++ [t.name ++ ⟨#[46]⟩ ++ fn] by rw [hfk.out, brkF_t (hiff.out.2 (⟨rfl, .inl rfl⟩))]; rfl)
          have hqD : Hid (Below wc.heap.size wc wc.drew) := Lib.hid ((Below.refl _ _).drew)
          have hqA : Hid (∀ o : Obj, Below wc.heap.size wc (wc.alloc o).drew) := Lib.hid (fun o => (b1 wc o).drew)
          have hSY : Hid (∀ W, Below wc.heap.size wc W → (W.cell? ⟨w.heap.size, 1, none⟩ = some (.slice (some ad) old.types.length c1) ∧ W.cell? (ad.add (k * 3)) = some (.string t.name) ∧ W.cell? ⟨wr.heap.size, 0, none⟩ = some (.string fn))) := Lib.hid (fun W h => ⟨cell_keep h s2, cell_keep h s3, cell_keep h s4⟩)
          have hbr := Lib.hid (fun o => bt hB6.out (hqA.out o))
          have hs1 : ¬ 9223372036854775807 < t.name.size + 1 := by omega
          have hs2 : ¬ 9223372036854775807 < t.name.size + 1 + fn.size := by omega
          have hsc : wr.heap.size < wc.heap.size := World.block_lt_of_cell? _ _ s4
          have hnv := Lib.hid HV2.out.own_small
          go_upto_region 13 with fail
          go_region_held3 (fun w' => (w'.cell? ⟨w.heap.size, 1, none⟩ = some (.slice (some ad) old.types.length c1) ∧ w'.cell? (ad.add (k * 3)) = some (.string t.name) ∧ w'.cell? ⟨wr.heap.size, 0, none⟩ = some (.string fn))) (first | (with_reducible exact hSY.out _ hqD.out) | (with_reducible exact hSY.out _ (hqA.out _)) | (with_reducible exact hP9))
            ((refine step_push (by rfl) _ _ _ (by rfl) (enc := strD) (base := (w.heap.size + 1 + 1)) (wr := wr) (xs := X) (t.name ++ ⟨#[46]⟩ ++ fn) 9 i0 (.string ⟨#[]⟩) 1 16 Try.underlying52 hi hi0 hi1 hi2 (by rfl) (by decide) strD_len (by rfl) HV2.out (hbr.out _) hszr ⟨wc.heap.size, 0, none⟩ 1 (by rfl) [.string (t.name ++ ⟨#[46]⟩ ++ fn)] [] (.str hss (.nil _)) (Fresh.nil _) (box_new (by rfl)) (by constructor <;> omega) ?_; intro A9 c9 w9 hG9 hB9 hg9 hH9; obtain ⟨s5, s6, s7⟩ := hSY.out _ (hqA.out (.cells #[.string (t.name ++ ⟨#[46]⟩ ++ fn)] 9)); have hP9 : (w9.cell? ⟨w.heap.size, 1, none⟩ = some (.slice (some ad) old.types.length c1) ∧ w9.cell? (ad.add (k * 3)) = some (.string t.name) ∧ w9.cell? ⟨wr.heap.size, 0, none⟩ = some (.string fn)) := ⟨cell_at hB9 s5 (by omega), cell_low hB9 hyb s6, ((grown_cell hg9 (b := wr.heap.size) (by simp; omega) (fun e => absurd (hnv.out _ e) (by omega))).1 0).trans s7⟩))
          all_goals
            have hw9 := Lib.hid (hB7.out.trans (((hqA.out _).mono (by omega)).trans hB9))
            have hG9 := Lib.hid hG9
            clear hB9 hg9 hH9 hP9
            go_wp2
            go_roundw
            case rel => exact ⟨q + 1, by omega, by go_num, hw9, Lib.hid (Gr.cast hG9.out (by rw [hnb.out, ← hX.out, List.append_assoc]) (by simp))⟩
            case measure => simp [intOf]; omega
        | true =>
        cases gh with
        | true =>
          have hnb := Lib.hid (show brkFs now t (t.fields.take (q + 1)) = brkFs now t (t.fields.take q) ++ [t.name ++ ⟨#[46]⟩ ++ fn] by rw [hfk.out, brkF_t (hiff.out.2 (⟨rfl, .inr (.inl rfl)⟩))]; rfl)
          have hqD : Hid (Below wc.heap.size wc wc.drew) := Lib.hid ((Below.refl _ _).drew)
          have hqA : Hid (∀ o : Obj, Below wc.heap.size wc (wc.alloc o).drew) := Lib.hid (fun o => (b1 wc o).drew)
          have hSY : Hid (∀ W, Below wc.heap.size wc W → (W.cell? ⟨w.heap.size, 1, none⟩ = some (.slice (some ad) old.types.length c1) ∧ W.cell? (ad.add (k * 3)) = some (.string t.name) ∧ W.cell? ⟨wr.heap.size, 0, none⟩ = some (.string fn))) := Lib.hid (fun W h => ⟨cell_keep h s2, cell_keep h s3, cell_keep h s4⟩)
          have hbr := Lib.hid (fun o => bt hB6.out (hqA.out o))
          have hs1 : ¬ 9223372036854775807 < t.name.size + 1 := by omega
          have hs2 : ¬ 9223372036854775807 < t.name.size + 1 + fn.size := by omega
          have hsc : wr.heap.size < wc.heap.size := World.block_lt_of_cell? _ _ s4
          have hnv := Lib.hid HV2.out.own_small
          go_upto_region 13 with fail
          go_region_held3 (fun w' => (w'.cell? ⟨w.heap.size, 1, none⟩ = some (.slice (some ad) old.types.length c1) ∧ w'.cell? (ad.add (k * 3)) = some (.string t.name) ∧ w'.cell? ⟨wr.heap.size, 0, none⟩ = some (.string fn))) (first | (with_reducible exact hSY.out _ hqD.out) | (with_reducible exact hSY.out _ (hqA.out _)) | (with_reducible exact hP9))
            ((refine step_push (by rfl) _ _ _ (by rfl) (enc := strD) (base := (w.heap.size + 1 + 1)) (wr := wr) (xs := X) (t.name ++ ⟨#[46]⟩ ++ fn) 9 i0 (.string ⟨#[]⟩) 1 16 Try.underlying52 hi hi0 hi1 hi2 (by rfl) (by decide) strD_len (by rfl) HV2.out (hbr.out _) hszr ⟨wc.heap.size, 0, none⟩ 1 (by rfl) [.string (t.name ++ ⟨#[46]⟩ ++ fn)] [] (.str hss (.nil _)) (Fresh.nil _) (box_new (by rfl)) (by constructor <;> omega) ?_; intro A9 c9 w9 hG9 hB9 hg9 hH9; obtain ⟨s5, s6, s7⟩ := hSY.out _ (hqA.out (.cells #[.string (t.name ++ ⟨#[46]⟩ ++ fn)] 9)); have hP9 : (w9.cell? ⟨w.heap.size, 1, none⟩ = some (.slice (some ad) old.types.length c1) ∧ w9.cell? (ad.add (k * 3)) = some (.string t.name) ∧ w9.cell? ⟨wr.heap.size, 0, none⟩ = some (.string fn)) := ⟨cell_at hB9 s5 (by omega), cell_low hB9 hyb s6, ((grown_cell hg9 (b := wr.heap.size) (by simp; omega) (fun e => absurd (hnv.out _ e) (by omega))).1 0).trans s7⟩))
          all_goals
            have hw9 := Lib.hid (hB7.out.trans (((hqA.out _).mono (by omega)).trans hB9))
            have hG9 := Lib.hid hG9
            clear hB9 hg9 hH9 hP9
            go_wp2
            go_roundw
            case rel => exact ⟨q + 1, by omega, by go_num, hw9, Lib.hid (Gr.cast hG9.out (by rw [hnb.out, ← hX.out, List.append_assoc]) (by simp))⟩
            case measure => simp [intOf]; omega
        | false =>
        by_cases hof : go_ = fo
        case neg =>
          have t1 := str_f hof
          replace hof := Lib.hid hof
          have hnb := Lib.hid (show brkFs now t (t.fields.take (q + 1)) = brkFs now t (t.fields.take q) ++ [t.name ++ ⟨#[46]⟩ ++ fn] by rw [hfk.out, brkF_t (hiff.out.2 (⟨rfl, .inr (.inr (.inl hof.out))⟩))]; rfl)
          have hqD : Hid (Below wc.heap.size wc wc.drew) := Lib.hid ((Below.refl _ _).drew)
          have hqA : Hid (∀ o : Obj, Below wc.heap.size wc (wc.alloc o).drew) := Lib.hid (fun o => (b1 wc o).drew)
          have hSY : Hid (∀ W, Below wc.heap.size wc W → (W.cell? ⟨w.heap.size, 1, none⟩ = some (.slice (some ad) old.types.length c1) ∧ W.cell? (ad.add (k * 3)) = some (.string t.name) ∧ W.cell? ⟨wr.heap.size, 0, none⟩ = some (.string fn))) := Lib.hid (fun W h => ⟨cell_keep h s2, cell_keep h s3, cell_keep h s4⟩)
          have hbr := Lib.hid (fun o => bt hB6.out (hqA.out o))
          have hs1 : ¬ 9223372036854775807 < t.name.size + 1 := by omega
          have hs2 : ¬ 9223372036854775807 < t.name.size + 1 + fn.size := by omega
          have hsc : wr.heap.size < wc.heap.size := World.block_lt_of_cell? _ _ s4
          have hnv := Lib.hid HV2.out.own_small
          go_upto_region 13 with fail
          go_region_held3 (fun w' => (w'.cell? ⟨w.heap.size, 1, none⟩ = some (.slice (some ad) old.types.length c1) ∧ w'.cell? (ad.add (k * 3)) = some (.string t.name) ∧ w'.cell? ⟨wr.heap.size, 0, none⟩ = some (.string fn))) (first | (with_reducible exact hSY.out _ hqD.out) | (with_reducible exact hSY.out _ (hqA.out _)) | (with_reducible exact hP9))
            ((refine step_push (by rfl) _ _ _ (by rfl) (enc := strD) (base := (w.heap.size + 1 + 1)) (wr := wr) (xs := X) (t.name ++ ⟨#[46]⟩ ++ fn) 9 i0 (.string ⟨#[]⟩) 1 16 Try.underlying52 hi hi0 hi1 hi2 (by rfl) (by decide) strD_len (by rfl) HV2.out (hbr.out _) hszr ⟨wc.heap.size, 0, none⟩ 1 (by rfl) [.string (t.name ++ ⟨#[46]⟩ ++ fn)] [] (.str hss (.nil _)) (Fresh.nil _) (box_new (by rfl)) (by constructor <;> omega) ?_; intro A9 c9 w9 hG9 hB9 hg9 hH9; obtain ⟨s5, s6, s7⟩ := hSY.out _ (hqA.out (.cells #[.string (t.name ++ ⟨#[46]⟩ ++ fn)] 9)); have hP9 : (w9.cell? ⟨w.heap.size, 1, none⟩ = some (.slice (some ad) old.types.length c1) ∧ w9.cell? (ad.add (k * 3)) = some (.string t.name) ∧ w9.cell? ⟨wr.heap.size, 0, none⟩ = some (.string fn)) := ⟨cell_at hB9 s5 (by omega), cell_low hB9 hyb s6, ((grown_cell hg9 (b := wr.heap.size) (by simp; omega) (fun e => absurd (hnv.out _ e) (by omega))).1 0).trans s7⟩))
          all_goals
            have hw9 := Lib.hid (hB7.out.trans (((hqA.out _).mono (by omega)).trans hB9))
            have hG9 := Lib.hid hG9
            clear hB9 hg9 hH9 hP9
            go_wp2
            go_roundw
            case rel => exact ⟨q + 1, by omega, by go_num, hw9, Lib.hid (Gr.cast hG9.out (by rw [hnb.out, ← hX.out, List.append_assoc]) (by simp))⟩
            case measure => simp [intOf]; omega
        have t1 := str_t hof
        subst hof
        cases gl <;> cases fl
        · (have hnb := Lib.hid (show brkFs now t (t.fields.take (q + 1)) = brkFs now t (t.fields.take q) by rw [hfk.out, brkF_f (fun h => (fun h => by rcases h with ⟨_, h | h | h | h⟩ <;> first | cases h | exact h rfl) (hiff.out.1 h)), List.append_nil]); go_wp2; go_roundw; (case rel => exact ⟨q + 1, by omega, by go_num, hB7, Lib.hid (Gr.cast (HV2.out.keep hB6.out) (by rw [hnb.out, hX.out]) rfl)⟩); (case measure => simp [intOf]; omega))
        · have hnb := Lib.hid (show brkFs now t (t.fields.take (q + 1)) = brkFs now t (t.fields.take q) ++ [t.name ++ ⟨#[46]⟩ ++ fn] by rw [hfk.out, brkF_t (hiff.out.2 (⟨rfl, .inr (.inr (.inr (by simp)))⟩))]; rfl)
          have hqD : Hid (Below wc.heap.size wc wc.drew) := Lib.hid ((Below.refl _ _).drew)
          have hqA : Hid (∀ o : Obj, Below wc.heap.size wc (wc.alloc o).drew) := Lib.hid (fun o => (b1 wc o).drew)
          have hSY : Hid (∀ W, Below wc.heap.size wc W → (W.cell? ⟨w.heap.size, 1, none⟩ = some (.slice (some ad) old.types.length c1) ∧ W.cell? (ad.add (k * 3)) = some (.string t.name) ∧ W.cell? ⟨wr.heap.size, 0, none⟩ = some (.string fn))) := Lib.hid (fun W h => ⟨cell_keep h s2, cell_keep h s3, cell_keep h s4⟩)
          have hbr := Lib.hid (fun o => bt hB6.out (hqA.out o))
          have hs1 : ¬ 9223372036854775807 < t.name.size + 1 := by omega
          have hs2 : ¬ 9223372036854775807 < t.name.size + 1 + fn.size := by omega
          have hsc : wr.heap.size < wc.heap.size := World.block_lt_of_cell? _ _ s4
          have hnv := Lib.hid HV2.out.own_small
          go_upto_region 13 with fail
          go_region_held3 (fun w' => (w'.cell? ⟨w.heap.size, 1, none⟩ = some (.slice (some ad) old.types.length c1) ∧ w'.cell? (ad.add (k * 3)) = some (.string t.name) ∧ w'.cell? ⟨wr.heap.size, 0, none⟩ = some (.string fn))) (first | (with_reducible exact hSY.out _ hqD.out) | (with_reducible exact hSY.out _ (hqA.out _)) | (with_reducible exact hP9))
            ((refine step_push (by rfl) _ _ _ (by rfl) (enc := strD) (base := (w.heap.size + 1 + 1)) (wr := wr) (xs := X) (t.name ++ ⟨#[46]⟩ ++ fn) 9 i0 (.string ⟨#[]⟩) 1 16 Try.underlying52 hi hi0 hi1 hi2 (by rfl) (by decide) strD_len (by rfl) HV2.out (hbr.out _) hszr ⟨wc.heap.size, 0, none⟩ 1 (by rfl) [.string (t.name ++ ⟨#[46]⟩ ++ fn)] [] (.str hss (.nil _)) (Fresh.nil _) (box_new (by rfl)) (by constructor <;> omega) ?_; intro A9 c9 w9 hG9 hB9 hg9 hH9; obtain ⟨s5, s6, s7⟩ := hSY.out _ (hqA.out (.cells #[.string (t.name ++ ⟨#[46]⟩ ++ fn)] 9)); have hP9 : (w9.cell? ⟨w.heap.size, 1, none⟩ = some (.slice (some ad) old.types.length c1) ∧ w9.cell? (ad.add (k * 3)) = some (.string t.name) ∧ w9.cell? ⟨wr.heap.size, 0, none⟩ = some (.string fn)) := ⟨cell_at hB9 s5 (by omega), cell_low hB9 hyb s6, ((grown_cell hg9 (b := wr.heap.size) (by simp; omega) (fun e => absurd (hnv.out _ e) (by omega))).1 0).trans s7⟩))
          all_goals
            have hw9 := Lib.hid (hB7.out.trans (((hqA.out _).mono (by omega)).trans hB9))
            have hG9 := Lib.hid hG9
            clear hB9 hg9 hH9 hP9
            go_wp2
            go_roundw
            case rel => exact ⟨q + 1, by omega, by go_num, hw9, Lib.hid (Gr.cast hG9.out (by rw [hnb.out, ← hX.out, List.append_assoc]) (by simp))⟩
            case measure => simp [intOf]; omega
        · have hnb := Lib.hid (show brkFs now t (t.fields.take (q + 1)) = brkFs now t (t.fields.take q) ++ [t.name ++ ⟨#[46]⟩ ++ fn] by rw [hfk.out, brkF_t (hiff.out.2 (⟨rfl, .inr (.inr (.inr (by simp)))⟩))]; rfl)
          have hqD : Hid (Below wc.heap.size wc wc.drew) := Lib.hid ((Below.refl _ _).drew)
          have hqA : Hid (∀ o : Obj, Below wc.heap.size wc (wc.alloc o).drew) := Lib.hid (fun o => (b1 wc o).drew)
          have hSY : Hid (∀ W, Below wc.heap.size wc W → (W.cell? ⟨w.heap.size, 1, none⟩ = some (.slice (some ad) old.types.length c1) ∧ W.cell? (ad.add (k * 3)) = some (.string t.name) ∧ W.cell? ⟨wr.heap.size, 0, none⟩ = some (.string fn))) := Lib.hid (fun W h => ⟨cell_keep h s2, cell_keep h s3, cell_keep h s4⟩)
          have hbr := Lib.hid (fun o => bt hB6.out (hqA.out o))
          have hs1 : ¬ 9223372036854775807 < t.name.size + 1 := by omega
          have hs2 : ¬ 9223372036854775807 < t.name.size + 1 + fn.size := by omega
          have hsc : wr.heap.size < wc.heap.size := World.block_lt_of_cell? _ _ s4
          have hnv := Lib.hid HV2.out.own_small
          go_upto_region 13 with fail
          go_region_held3 (fun w' => (w'.cell? ⟨w.heap.size, 1, none⟩ = some (.slice (some ad) old.types.length c1) ∧ w'.cell? (ad.add (k * 3)) = some (.string t.name) ∧ w'.cell? ⟨wr.heap.size, 0, none⟩ = some (.string fn))) (first | (with_reducible exact hSY.out _ hqD.out) | (with_reducible exact hSY.out _ (hqA.out _)) | (with_reducible exact hP9))
            ((refine step_push (by rfl) _ _ _ (by rfl) (enc := strD) (base := (w.heap.size + 1 + 1)) (wr := wr) (xs := X) (t.name ++ ⟨#[46]⟩ ++ fn) 9 i0 (.string ⟨#[]⟩) 1 16 Try.underlying52 hi hi0 hi1 hi2 (by rfl) (by decide) strD_len (by rfl) HV2.out (hbr.out _) hszr ⟨wc.heap.size, 0, none⟩ 1 (by rfl) [.string (t.name ++ ⟨#[46]⟩ ++ fn)] [] (.str hss (.nil _)) (Fresh.nil _) (box_new (by rfl)) (by constructor <;> omega) ?_; intro A9 c9 w9 hG9 hB9 hg9 hH9; obtain ⟨s5, s6, s7⟩ := hSY.out _ (hqA.out (.cells #[.string (t.name ++ ⟨#[46]⟩ ++ fn)] 9)); have hP9 : (w9.cell? ⟨w.heap.size, 1, none⟩ = some (.slice (some ad) old.types.length c1) ∧ w9.cell? (ad.add (k * 3)) = some (.string t.name) ∧ w9.cell? ⟨wr.heap.size, 0, none⟩ = some (.string fn)) := ⟨cell_at hB9 s5 (by omega), cell_low hB9 hyb s6, ((grown_cell hg9 (b := wr.heap.size) (by simp; omega) (fun e => absurd (hnv.out _ e) (by omega))).1 0).trans s7⟩))
          all_goals
            have hw9 := Lib.hid (hB7.out.trans (((hqA.out _).mono (by omega)).trans hB9))
            have hG9 := Lib.hid hG9
            clear hB9 hg9 hH9 hP9
            go_wp2
            go_roundw
            case rel => exact ⟨q + 1, by omega, by go_num, hw9, Lib.hid (Gr.cast hG9.out (by rw [hnb.out, ← hX.out, List.append_assoc]) (by simp))⟩
            case measure => simp [intOf]; omega
        · (have hnb := Lib.hid (show brkFs now t (t.fields.take (q + 1)) = brkFs now t (t.fields.take q) by rw [hfk.out, brkF_f (fun h => (fun h => by rcases h with ⟨_, h | h | h | h⟩ <;> first | cases h | exact h rfl) (hiff.out.1 h)), List.append_nil]); go_wp2; go_roundw; (case rel => exact ⟨q + 1, by omega, by go_num, hB7, Lib.hid (Gr.cast (HV2.out.keep hB6.out) (by rw [hnb.out, hX.out]) rfl)⟩); (case measure => simp [intOf]; omega))
end Go.Proofs.Ytmkagpmdindlpaa.Lib
