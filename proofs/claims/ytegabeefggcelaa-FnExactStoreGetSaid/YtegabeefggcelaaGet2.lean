/- The reference's l1Copy. Sizes up to 2^20. -/
import Derived.Test.YtegabeefggcelaaGet1
import Derived.Deep.DeepCutAuto
set_option linter.unusedVariables false
set_option linter.unusedSimpArgs false
namespace Go.Proofs.Ytegabeefggcelaa.Lib
open Go.RowKit

def L1Copy (v : JValue) : Prop := ∀ (cs : List Value) (w : World), RdL w v.enc cs → JValue.bulk v ≤ 1048576 → Calls Try.prog 54 #[.agg cs.toArray] w (Made w v.enc)
set_option maxRecDepth 100000 in
set_option maxHeartbeats 4000000 in
theorem l1Copy_of (v : JValue) (hK : ∀ x, x ∈ v.kids → L1Copy x) : L1Copy v := by
  intro cs w hcs hbk
  obtain ⟨i0, hi, hz0, hz1', hz2⟩ := info_parts info_Value
  obtain ⟨j0, ji, jz0, jz1', jz2⟩ := info_parts info_str
  have HBK := Lib.hid hbk
  rw [JValue.bulk_eq] at hbk
  unfold strsBulk at hbk
  obtain ⟨A3, c3, A4, c4, rfl, g3, g4, l2, _n3, _n4⟩ := JValue.open_ hcs
  have hl3 : v.names.length ≤ 1048576 := by omega
  have hl4 : v.kids.length ≤ 1048576 := by omega
  clear hbk
  have G3 := Lib.hid g3
  clear g3
  have G4 := Lib.hid g4
  clear g4
  have HK := Lib.hid hK
  clear hK
  clear hcs
  generalize hbx : Obj.cells #[.int .i64 v.sort, .int .i64 v.num, .string v.text, .slice A3 v.names.length c3, .slice A4 v.kids.length c4] 31 = bx
  generalize hbr : Obj.cells #[.int .i64 0, .int .i64 0, .string ⟨#[]⟩, .slice none 0 0, .slice none 0 0] 31 = br
  have hbw : Below w.heap.size w ((w.alloc bx).alloc br) := (bt (b1 w bx) (b1 _ br))
  have p0 : ((w.alloc bx).alloc br).cell? ⟨w.heap.size, 0, none⟩ = some (.int .i64 v.sort) := by subst hbx; simp [go_sem]
  have p1 : ((w.alloc bx).alloc br).cell? ⟨w.heap.size, 1, none⟩ = some (.int .i64 v.num) := by subst hbx; simp [go_sem]
  have p2 : ((w.alloc bx).alloc br).cell? ⟨w.heap.size, 2, none⟩ = some (.string v.text) := by subst hbx; simp [go_sem]
  have p3 : ((w.alloc bx).alloc br).cell? ⟨w.heap.size, 3, none⟩ = some (.slice A3 v.names.length c3) := by subst hbx; simp [go_sem]
  have p4 : ((w.alloc bx).alloc br).cell? ⟨w.heap.size, 4, none⟩ = some (.slice A4 v.kids.length c4) := by subst hbx; simp [go_sem]
  have hB0 : ((w.alloc bx).alloc br).heap.size = w.heap.size + 1 + 1 := by simp
  have hB1 : (((w.alloc bx).alloc br).alloc br).heap.size = w.heap.size + 1 + 1 + 1 := by simp
  have hR : Below (w.heap.size + 1 + 1) ((w.alloc bx).alloc br) ((w.alloc bx).alloc br).drew := (Below.refl _ _).drew
  have hA : ∀ (w' : World) (o : Obj), Below (w.heap.size + 1 + 1) ((w.alloc bx).alloc br) w'.drew → Below (w.heap.size + 1 + 1) ((w.alloc bx).alloc br) (w'.alloc o).drew := fun w' o h => h.alloc (w := w'.drew) (by have := h.size; rw [hB0] at this; exact this) o
  have hA' : ∀ (w' : World) (o : Obj), Below (w.heap.size + 1 + 1) ((w.alloc bx).alloc br) w' → Below (w.heap.size + 1 + 1) ((w.alloc bx).alloc br) (w'.alloc o) := fun w' o h => h.alloc (by have := h.size; rw [hB0] at this; exact this) o
  have hZ : ∀ (w' : World), Below (w.heap.size + 1 + 1) ((w.alloc bx).alloc br) w' → w.heap.size + 1 + 1 ≤ w'.heap.size := fun w' h => by have := h.size; rw [hB0] at this; exact this
  have hS : ∀ (w' : World), Below (w.heap.size + 1 + 1) ((w.alloc bx).alloc br) w' → w'.cell? ⟨w.heap.size, 0, none⟩ = some (.int .i64 v.sort) ∧ w'.cell? ⟨w.heap.size, 1, none⟩ = some (.int .i64 v.num) ∧ w'.cell? ⟨w.heap.size, 2, none⟩ = some (.string v.text) ∧ w'.cell? ⟨w.heap.size, 3, none⟩ = some (.slice A3 v.names.length c3) ∧ w'.cell? ⟨w.heap.size, 4, none⟩ = some (.slice A4 v.kids.length c4) := fun w' h => ⟨cell_at h p0 (by omega), cell_at h p1 (by omega), cell_at h p2 (by omega), cell_at h p3 (by omega), cell_at h p4 (by omega)⟩
  have hE : ∀ (W : World) (g : Nat), Below (w.heap.size + 1 + 1) ((w.alloc bx).alloc br) W.drew → W.heap.size = g → Gr (w.heap.size + 1 + 1) (W.alloc (.cells #[] 9)).drew 9 strD 1 [] (.slice (some ⟨g, 0, none⟩) 0 0) := fun W g h hg => (Gr.emptyAt W _ _ _ hg (by rw [← hg]; exact hZ W.drew h)).keep (Below.refl _ _).drew
  have hN : ∀ (W : World), Below (w.heap.size + 1 + 1) ((w.alloc bx).alloc br) W → 0 < v.names.length → ∃ ad, A3 = some ad ∧ ∀ j u, (v.names.map Value.string)[j]? = some u → W.cell? (ad.add j) = some u := fun W h => Rd.str_news (G3.out.below (hbw.trans (h.mono (by omega))))
  clear p0 p1 p2 p3 p4
  replace hB0 := Lib.hid hB0
  replace hB1 := Lib.hid hB1
  replace hR := Lib.hid hR
  replace hA := Lib.hid hA
  replace hA' := Lib.hid hA'
  replace hZ := Lib.hid hZ
  replace hS := Lib.hid hS
  replace hE := Lib.hid hE
  replace hN := Lib.hid hN
  have hl3a : List.length ([] : List ByteArray) + v.names.length ≤ maxLen := by simp only [List.length_nil]; unfold maxLen; omega
  have hl3b : (List.length ([] : List ByteArray) + v.names.length) * 16 ≤ 140737488355328 := by simp only [List.length_nil]; omega
  replace hl3a := Lib.hid hl3a
  replace hl3b := Lib.hid hl3b
  have hsr := fun W => strs_row W v.names G3.out.str_small
  replace hsr := Lib.hid hsr
  subst hbx hbr
  go_enter Try.func54, Try.ntmps54
  go_upto_region 1 with fail
  go_cut [3] (fun s3 wx => ∃ (B : Nat) (X : Option Addr) (x : Nat) (f1 : List Nat), s3 = .pointer (some ⟨B, 0, none⟩) ∧ w.heap.size + 1 + 1 ≤ B ∧ B < wx.heap.size ∧ Hid (wx.cell? ⟨B, 0, none⟩ = some (.int .i64 v.sort) ∧ wx.cell? ⟨B, 1, none⟩ = some (.int .i64 v.num) ∧ wx.cell? ⟨B, 2, none⟩ = some (.string v.text) ∧ wx.cell? ⟨B, 3, none⟩ = some (.slice X v.names.length x) ∧ wx.cell? ⟨B, 4, none⟩ = some (.slice none 0 0)) ∧ Hid (∀ o, wx.frozen? ⟨B, o, none⟩ = false) ∧
    Hid (Below (w.heap.size + 1 + 1) ((w.alloc (.cells #[.int .i64 v.sort, .int .i64 v.num, .string v.text, .slice A3 v.names.length c3, .slice A4 v.kids.length c4] 31)).alloc (.cells #[.int .i64 0, .int .i64 0, .string ⟨#[]⟩, .slice none 0 0, .slice none 0 0] 31)) wx) ∧ Hid (Own wx (slD strD 1 v.names) (.slice X v.names.length x) f1) ∧ Hid (f1.Nodup ∧ ∀ b, b ∈ f1 → w.heap.size + 1 + 1 ≤ b ∧ b ≠ B))
  case first =>
    go_region_held3 (fun w' => w'.cell? ⟨w.heap.size, 0, none⟩ = some (.int .i64 v.sort) ∧ w'.cell? ⟨w.heap.size, 1, none⟩ = some (.int .i64 v.num) ∧ w'.cell? ⟨w.heap.size, 2, none⟩ = some (.string v.text) ∧ w'.cell? ⟨w.heap.size, 3, none⟩ = some (.slice A3 v.names.length c3) ∧ w'.cell? ⟨w.heap.size, 4, none⟩ = some (.slice A4 v.kids.length c4))
      (first | (with_reducible exact hS.out _ hR.out) | (with_reducible exact hS.out _ (hA.out _ _ hR.out)) | (with_reducible exact hS.out _ (hA.out _ _ (hA.out _ _ hR.out))) | (with_reducible exact hS.out _ hP) | (with_reducible exact hS.out _ (hA'.out _ _ hP)) | (with_reducible exact hS.out _ (Below.setCell (Below.setCell (Below.setCell (Below.setCell (Below.setCell hP hg9 _) hg9 _) hg9 _) hg9 _) hg9 _)))
      (first | (refine step_pushes (by rfl) _ _ _ (by rfl) (enc := strD) (base := w.heap.size + 1 + 1) (wr := (((w.alloc _).alloc _).alloc (.cells #[] 9)).drew) (xs := []) v.names 9 j0 _ 1 16 Try.underlying23 ji jz0 jz1' jz2 (by rfl) (by decide) strD_len (by rfl) (hE.out _ _ hR.out hB0.out) (Below.refl _ _) (hZ.out _ (hA.out _ _ hR.out)) A3 c3 (by rfl) (v.names.map Value.string) [] (hsr.out _) (Fresh.nil _) (hN.out _ (hA.out _ _ hR.out)) hl3a.out hl3b.out ?_; intro X1 x1 w3 hG3 hb3 hg3 hH3; have hP := (hA.out _ _ hR.out).trans hb3) | (refine step_pushes (by rfl) _ _ _ (by rfl) (enc := strD) (base := w.heap.size + 1 + 1) (wr := (((w.alloc _).alloc _).alloc (.cells #[] 9)).drew) (xs := []) v.names 9 j0 _ 1 16 Try.underlying23 ji jz0 jz1' jz2 (by rfl) (by decide) strD_len (by rfl) (hE.out _ _ hR.out hB0.out) (b1d _ _) (hZ.out _ (hA.out _ _ hR.out)) A3 c3 (by rfl) (v.names.map Value.string) [] (hsr.out _) (Fresh.nil _) (hN.out _ (hA.out _ _ (hA.out _ _ hR.out))) hl3a.out hl3b.out ?_; intro X1 x1 w3 hG3 hb3 hg3 hH3; have hP := (hA.out _ _ (hA.out _ _ hR.out)).trans hb3; obtain ⟨hqc, hqf⟩ := grown_cell (b := w.heap.size + 1 + 1 + 1) hg3 (by simp) (by simp [Value.ownBlock]); have hg9 : w.heap.size + 1 + 1 ≤ w.heap.size + 1 + 1 + 1 := Nat.le_succ _) | (refine step_pushes (by rfl) _ _ _ (by rfl) (enc := strD) (base := w.heap.size + 1 + 1) (wr := ((((w.alloc _).alloc _).alloc (.cells #[.int .i64 0, .int .i64 0, .string ⟨#[]⟩, .slice none 0 0, .slice none 0 0] 31)).alloc (.cells #[] 9)).drew) (xs := []) v.names 9 j0 _ 1 16 Try.underlying23 ji jz0 jz1' jz2 (by rfl) (by decide) strD_len (by rfl) (hE.out _ _ (hA.out _ _ hR.out) hB1.out) (Below.refl _ _) (hZ.out _ (hA.out _ _ (hA.out _ _ hR.out))) A3 c3 (by rfl) (v.names.map Value.string) [] (hsr.out _) (Fresh.nil _) (hN.out _ (hA.out _ _ (hA.out _ _ hR.out))) hl3a.out hl3b.out ?_; intro X1 x1 w3 hG3 hb3 hg3 hH3; have hP := (hA.out _ _ (hA.out _ _ hR.out)).trans hb3; obtain ⟨hqc, hqf⟩ := grown_cell (b := w.heap.size + 1 + 1) hg3 (by simp) (by simp [Value.ownBlock]); have hg9 : w.heap.size + 1 + 1 ≤ w.heap.size + 1 + 1 := Nat.le_refl _))
    · obtain ⟨fp, ho, hnd, hge⟩ := hG3.own strD_len
      go_wp2_with fail
      go_meet
      exact ⟨w3.heap.size, X1, x1, fp, rfl, hZ.out _ hP, by simp, Lib.hid ⟨by simp [go_sem], by simp [go_sem], by simp [go_sem], by simp [go_sem], by simp [go_sem]⟩, fun o => by simp [go_sem], hA'.out _ _ hP, ho.keep (b1 _ _), hnd, fun b hm => ⟨hge b hm, by have := Own.lt _ _ _ ho b hm; omega⟩⟩
    · obtain ⟨fp, ho, hnd, hge⟩ := hG3.own strD_len
      have hne : ∀ b, b ∈ fp → b ≠ w.heap.size + 1 + 1 + 1 := fun b hm e => by
        have h1 := hH3 b (by have h0 := Own.str_fp ho b hm; cases X1 <;> exact h0)
        simp [Value.ownBlock] at h1
        omega
      have hlt3 : w.heap.size + 1 + 1 + 1 < w3.heap.size := by have := hg3.size; simp at this; omega
      go_wp2_with fail
      go_meet
      exact ⟨w.heap.size + 1 + 1 + 1, X1, x1, fp, rfl, by omega, by simp; omega, Lib.hid ⟨by simp [go_sem, hqc], by simp [go_sem, hqc], by simp [go_sem, hqc], by simp [go_sem, hqc], by simp [go_sem, hqc]⟩, fun o => by simp [go_sem, hqf], (Below.setCell (Below.setCell (Below.setCell (Below.setCell (Below.setCell hP hg9 _) hg9 _) hg9 _) hg9 _) hg9 _), (Own.set (Own.set (Own.set (Own.set (Own.set ho (fun hm => hne _ hm rfl) _) (fun hm => hne _ hm rfl) _) (fun hm => hne _ hm rfl) _) (fun hm => hne _ hm rfl) _) (fun hm => hne _ hm rfl) _), hnd, fun b hm => ⟨hge b hm, hne b hm⟩⟩
    · obtain ⟨fp, ho, hnd, hge⟩ := hG3.own strD_len
      have hne : ∀ b, b ∈ fp → b ≠ w.heap.size + 1 + 1 := fun b hm e => by
        have h1 := hH3 b (by have h0 := Own.str_fp ho b hm; cases X1 <;> exact h0)
        simp [Value.ownBlock] at h1
        omega
      have hlt3 : w.heap.size + 1 + 1 < w3.heap.size := by have := hg3.size; simp at this; omega
      go_wp2_with fail
      go_meet
      exact ⟨w.heap.size + 1 + 1, X1, x1, fp, rfl, by omega, by simp; omega, Lib.hid ⟨by simp [go_sem, hqc], by simp [go_sem, hqc], by simp [go_sem, hqc], by simp [go_sem, hqc], by simp [go_sem, hqc]⟩, fun o => by simp [go_sem, hqf], (Below.setCell (Below.setCell (Below.setCell (Below.setCell (Below.setCell hP hg9 _) hg9 _) hg9 _) hg9 _) hg9 _), (Own.set (Own.set (Own.set (Own.set (Own.set ho (fun hm => hne _ hm rfl) _) (fun hm => hne _ hm rfl) _) (fun hm => hne _ hm rfl) _) (fun hm => hne _ hm rfl) _) (fun hm => hne _ hm rfl) _), hnd, fun b hm => ⟨hge b hm, hne b hm⟩⟩
  case rest =>
    obtain ⟨B, X, x, f1, rfl, hBlo, hBhi, HC, HF, HP, HO, HN⟩ := hcut
    have hx0 : w.heap.size < wc.heap.size := by omega
    have hb0 : ∀ u, Below (w.heap.size + 1 + 1) ((w.alloc (.cells #[.int .i64 v.sort, .int .i64 v.num, .string v.text, .slice A3 v.names.length c3, .slice A4 v.kids.length c4] 31)).alloc (.cells #[.int .i64 0, .int .i64 0, .string ⟨#[]⟩, .slice none 0 0, .slice none 0 0] 31)) (wc.setCell ⟨B, 4, none⟩ u) := fun u => HP.out.setCell (by dsimp only; omega) u
    have hO4 : ∀ u, (wc.setCell ⟨B, 4, none⟩ u).cell? ⟨B, 4, none⟩ = some u := fun u => by simp [go_sem, HC.out.2.2.2.2]
    have hf4 : ∀ u, (wc.setCell ⟨B, 4, none⟩ u).frozen? ⟨B, 4, none⟩ = false := fun u => by simp [go_sem, HF.out]
    have hs4 : Below wc.heap.size (wc.setCell ⟨B, 4, none⟩ (.slice none 0 0)) wc := Below.setSame HC.out.2.2.2.2
    replace hb0 := Lib.hid hb0
    replace hO4 := Lib.hid hO4
    replace hf4 := Lib.hid hf4
    replace hs4 := Lib.hid hs4
    go_wp2_with fail
    go_loopw [4] (fun i wr => ∃ k : Nat, k ≤ v.kids.length ∧ i = .int .i64 k ∧ ∃ u, Hid (Below wc.heap.size (wc.setCell ⟨B, 4, none⟩ u) wr) ∧ Hid (Gr wc.heap.size wr 31 JValue.enc 5 (v.kids.take k) u)) (fun i _ => v.kids.length - (intOf i).toNat)
    case atStart => exact ⟨0, Nat.zero_le _, rfl, _, hs4.out, Gr.nil _ _ _ _ _⟩
    case round =>
      obtain ⟨k, hk, rfl, u, HB, HG⟩ := hrel
      have hPr := (hb0.out u).trans (HB.out.mono (by omega))
      have hbd : Below w.heap.size w wr := hbw.trans (hPr.mono (by omega))
      have hszr : wc.heap.size ≤ wr.heap.size := by have := HB.out.size; simpa using this
      have h4 : wr.cell? ⟨B, 4, none⟩ = some u := (HB.out.cell (p := ⟨B, 4, none⟩) hBhi).trans (hO4.out u)
      have f4 : wr.frozen? ⟨B, 4, none⟩ = false := (HB.out.frozen (p := ⟨B, 4, none⟩) hBhi).trans (hf4.out u)
      have hv4 : wr.cell? ⟨w.heap.size, 4, none⟩ = some (.slice A4 v.kids.length c4) := (hS.out _ hPr).2.2.2.2
      replace hPr := Lib.hid hPr
      by_cases hlt : k < v.kids.length
      · obtain ⟨ad, A3', c3', A4', c4', rfl, y0, y1, y2, y3, y4, gg3, gg4, ll2, nn3, nn4⟩ := JValue.elem (G4.out.below hbd) k hlt
        have GG := Lib.hid (JValue.close_ _ gg3 gg4 ll2)
        clear gg3 gg4
        have HQ := Lib.hid (bulkL_mem (f := JValue.bulk) (xs := v.kids) (n := 1048576) (by have := HBK.out; rw [JValue.bulk_eq] at this; rw [JValue.bulkL_eq]; omega) (List.getElem_mem hlt))
        have hdw : Below wr.heap.size wr wr.drew := (Below.refl _ _).drew
        go_wp2_with fail
        go_region_law (first | (refine step_push (by rfl) _ _ _ (by rfl) (enc := JValue.enc) (base := wc.heap.size) (wr := wr) (xs := v.kids.take k) v.kids[k] 31 i0 _ 5 80 Try.underlying29 hi hz0 hz1' hz2 (by rfl) (by decide) JValue.enc_len (by rfl) HG.out (bt (bt hdw hb2) (b1 _ _)) hszr ⟨w2.heap.size, 0, none⟩ 1 (by rfl) _ f2 (o2.keep (b1 _ _)) (fr2.lower (by simp)) (box_new (by rfl)) ⟨by rw [List.length_take]; omega, by rw [List.length_take]; omega⟩ ?_; intro A9 c9 w3 hG3 hB3 _ _; have k4c : w3.cell? ⟨B, 4, none⟩ = some u := (hB3.cell (p := ⟨B, 4, none⟩) hBhi).trans (cell_keep (b1 _ _) k4b); have f4c : w3.frozen? ⟨B, 4, none⟩ = false := (hB3.frozen (p := ⟨B, 4, none⟩) hBhi).trans (((bt (bt hdw hb2) (b1 _ _)).frozen (p := ⟨B, 4, none⟩) (by dsimp only; omega)).trans f4)) | (go_simp; go_at_call 54; refine (HK.out _ (List.getElem_mem hlt) _ _ (GG.out.keep hdw) HQ.out).mono ?_; rintro e w2 ⟨us2, f2, rfl, o2, fr2, hb2⟩; obtain ⟨B3, d3, B4, d4, rfl⟩ := JValue.openO o2; have k4b := cell_keep (bt hdw hb2) h4; have hx2 : B < w2.heap.size := World.block_lt_of_cell? w2 _ k4b))
        all_goals
          have hB9 : Below wc.heap.size (wc.setCell ⟨B, 4, none⟩ u) w3 := HB.out.trans (((bt (bt hdw hb2) (b1 _ _)).mono hszr).trans hB3)
          have hB9 := Lib.hid hB9
          have hG9 := Lib.hid hG3
          clear hG3 hB3 hb2 o2 fr2 k4b k4c f4c
          go_wp2
          go_roundw
          case rel => exact ⟨k + 1, by omega, by go_num, _, Below.again hB9.out _, Gr.cast (Gr.set hG9.out hBhi _) (by rw [List.take_succ_eq_append_getElem hlt]) (by congr 1; simp)⟩
          case measure => simp [intOf]; omega
      · have hkk : k = v.kids.length := by omega
        have HG9 := Lib.hid (Gr.cast HG.out (by rw [hkk, List.take_of_length_le (Nat.le_refl _)]) rfl : Gr wc.heap.size wr 31 JValue.enc 5 v.kids u)
        clear hkk
        obtain ⟨Au, cu, rfl⟩ := HG9.out.len
        obtain ⟨hcr, hfr⟩ := bcell (W := wc.setCell ⟨B, 4, none⟩ (.slice Au v.kids.length cu)) (w1 := wr) (by simpa using HB.out)
        have hcc := HC.out
        have hff := HF.out
        obtain ⟨hc0, hc1, hc2, hc3, _⟩ := hcc
        have hRc : ∀ o, o < 5 → ∃ y, wr.cell? ⟨w.heap.size + 1, o, none⟩ = some y := fun o ho => by
          refine ⟨_, (hPr.out.cell (p := ⟨w.heap.size + 1, o, none⟩) (by dsimp only; omega)).trans (?_ : _ = some ((#[.int .i64 0, .int .i64 0, .string ⟨#[]⟩, .slice none 0 0, .slice none 0 0] : Array Value)[o]'(by simpa using ho)))⟩
          match o, ho with
          | 0, _ => simp [go_sem]
          | 1, _ => simp [go_sem]
          | 2, _ => simp [go_sem]
          | 3, _ => simp [go_sem]
          | 4, _ => simp [go_sem]
        have hRf : ∀ o, wr.frozen? ⟨w.heap.size + 1, o, none⟩ = false := fun o => (hPr.out.frozen (p := ⟨w.heap.size + 1, o, none⟩) (by dsimp only; omega)).trans (by simp [go_sem])
        obtain ⟨r0, e0⟩ := hRc 0 (by omega)
        obtain ⟨r1, e1⟩ := hRc 1 (by omega)
        obtain ⟨r2, e2⟩ := hRc 2 (by omega)
        obtain ⟨r3, e3⟩ := hRc 3 (by omega)
        obtain ⟨r4, e4⟩ := hRc 4 (by omega)
        have hxr : w.heap.size + 1 < wr.heap.size := by omega
        have hxB : B < wr.heap.size := by omega
        have hne : ¬ B = w.heap.size + 1 := by omega
        clear hRc
        have hBl := Lib.hid (show Below w.heap.size w wr from hbd)
        clear hbd
        have k0 : wr.cell? ⟨B, 0, none⟩ = some (.int .i64 v.sort) := by rw [hcr _ _ (by simpa using hBhi)]; simp [go_sem, hc0]
        have k1 : wr.cell? ⟨B, 1, none⟩ = some (.int .i64 v.num) := by rw [hcr _ _ (by simpa using hBhi)]; simp [go_sem, hc1]
        have k2 : wr.cell? ⟨B, 2, none⟩ = some (.string v.text) := by rw [hcr _ _ (by simpa using hBhi)]; simp [go_sem, hc2]
        have k3 : wr.cell? ⟨B, 3, none⟩ = some (.slice X v.names.length x) := by rw [hcr _ _ (by simpa using hBhi)]; simp [go_sem, hc3]
        clear hcr hfr hc0 hc1 hc2 hc3 hff
        go_wp2
        obtain ⟨f2, o2, nd2, ge2⟩ := HG9.out.own JValue.enc_len
        have lt1 : ∀ b, b ∈ f1 → b < wc.heap.size := Own.lt _ _ _ HO.out
        have P1 : Own wr (slD strD 1 v.names) (.slice X v.names.length x) f1 := Own.stay (Own.set HO.out (fun hm => (HN.out.2 _ hm).2 rfl) _) lt1 HB.out
        refine bodyPost_ret (v := .agg #[.int .i64 v.sort, .int .i64 v.num, .string v.text, .slice X v.names.length x, .slice Au v.kids.length cu]) (by simp [results, Try.results54, go_sem, e0, e1, e2, e3, e4]) rfl ⟨_, f1 ++ (f2 ++ []), rfl, ?_, ?_, ?_⟩
        · rw [JValue.enc_eq]
          exact .int (.int (.str l2 (.cons (by repeat (first | (with_reducible exact P1) | refine Own.set ?_ (fun hm => by have := (HN.out.2 _ hm).1; dsimp only at this; omega) _)) (.cons (by repeat (first | (with_reducible exact o2) | refine Own.set ?_ (fun hm => by have := ge2 _ hm; dsimp only at this; omega) _)) (.nil _)))))
        · rw [List.append_nil]
          exact ⟨List.nodup_append.2 ⟨HN.out.1, nd2, fun a ha b hb e => by have := lt1 a ha; have := ge2 b hb; omega⟩, fun b hm => by
            rcases List.mem_append.1 hm with hm | hm
            · have := (HN.out.2 b hm).1; omega
            · have := ge2 b hm; omega⟩
        · repeat (first | (with_reducible exact hBl.out) | refine Below.setCell ?_ (by dsimp only; omega) _)
theorem l1Copy_all : ∀ n, ∀ v : JValue, SizeOf.sizeOf v < n → L1Copy v
  | 0 => fun _ h => absurd h (by omega)
  | n + 1 => fun v h => l1Copy_of v fun x hx => l1Copy_all n x (by have := JValue.kids_lt v; have := List.sizeOf_lt_of_mem hx; omega)
theorem l1Copy_c (v : JValue) : L1Copy v := l1Copy_all _ v (Nat.lt_succ_self _)
end Go.Proofs.Ytegabeefggcelaa.Lib
