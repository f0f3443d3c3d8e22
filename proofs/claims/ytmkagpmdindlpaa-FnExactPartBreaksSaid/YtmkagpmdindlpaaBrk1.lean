/- The program's PartBreaks. Parts of 2^20 at most. -/
import Derived.Test.YtmkagpmdindlpaaBrk0
set_option linter.unusedVariables false
set_option linter.unusedSimpArgs false
namespace Go.Proofs.Ytmkagpmdindlpaa.Lib
open Go.RowKit
set_option maxRecDepth 100000 in
set_option maxHeartbeats 4000000 in
theorem implPartBreaks_c (old now : JPart) (cs ds : List Value) (w : World) (hx : RdL w old.enc cs) (hy : RdL w now.enc ds) (hb : old.bulk ≤ 1048576) (hbn : now.bulk ≤ 1048576) :
    Calls Try.prog 31 #[.agg cs.toArray, .agg ds.toArray] w (Made1 w (slD strD 1 (breaksR old now))) := by
  obtain ⟨i0, hi, hi0, hi1, hi2⟩ := info_parts info_str
  have hx' := hx
  have hy' := hy
  obtain ⟨A1, c1, rfl, g1, l0, n1⟩ := JPart.open_ hx
  obtain ⟨A2, c2, rfl, g2, l2, n2⟩ := JPart.open_ hy
  have HO := Lib.hid (fun W (h : Below w.heap.size w W) => partOk_c old _ W (hx'.keep h) hb)
  have HN := Lib.hid (fun W (h : Below w.heap.size w W) => partOk_c now _ W (hy'.keep h) hbn)
  have HG := Lib.hid (fun W (h : Below w.heap.size w W) => g1.below h)
  have HF := Lib.hid (fun W (h : Below w.heap.size w W) n f => field_c now _ n f w W h hy')
  have eW : (((w.alloc (.cells #[.string old.name, .slice A1 old.types.length c1] 33)).alloc (.cells #[.string now.name, .slice A2 now.types.length c2] 33))).heap.size = w.heap.size + 1 + 1 := by simp
  have hb0 := Lib.hid (bt (b1 _ _) (b1 _ _) : Below w.heap.size w ((w.alloc (.cells #[.string old.name, .slice A1 old.types.length c1] 33)).alloc (.cells #[.string now.name, .slice A2 now.types.length c2] 33)))
  have hlen := Lib.hid (brk_len2 (now := now) hb)
  have hsz := Lib.hid (brk_size hb)
  clear hx hx' hy hy' g1 g2
  by_cases ho : PartOk old
  case neg =>
    rw [tf_f ho] at HO
    replace ho := Lib.hid ho
    go_enter Try.func31, Try.ntmps31
    go_wp2_with fail
    refine (HO.out _ hb0.out).mono ?_
    rintro e w1 ⟨rfl, hb1⟩
    replace hb1 := Lib.hid (bt hb0.out hb1)
    go_wp2
    go_ret
    rw [breaksR_f (fun h => ho.out h.1)]
    exact (Gr.nil w.heap.size _ 9 strD 1).made strD_len (Nat.le_refl _) hb1.out
  rw [tf_t ho] at HO
  replace ho := Lib.hid ho
  by_cases hn : PartOk now
  case neg =>
    rw [tf_f hn] at HN
    replace hn := Lib.hid hn
    go_enter Try.func31, Try.ntmps31
    go_wp2_with fail
    refine (HO.out _ hb0.out).mono ?_
    rintro e w1 ⟨rfl, hb1⟩
    have hB1 := hb1.mono (by omega : w.heap.size + 1 + 1 ≤ (((w.alloc (.cells #[.string old.name, .slice A1 old.types.length c1] 33)).alloc (.cells #[.string now.name, .slice A2 now.types.length c2] 33))).heap.size)
    have p0 : w1.cell? ⟨w.heap.size, 0, none⟩ = some (.string old.name) := cell_at hB1 (by simp [go_sem]) (by omega); have p1 : w1.cell? ⟨w.heap.size, 1, none⟩ = some (.slice A1 old.types.length c1) := cell_at hB1 (by simp [go_sem]) (by omega); have q0 : w1.cell? ⟨w.heap.size + 1, 0, none⟩ = some (.string now.name) := cell_at hB1 (by simp [go_sem]) (by omega); have q1 : w1.cell? ⟨w.heap.size + 1, 1, none⟩ = some (.slice A2 now.types.length c2) := cell_at hB1 (by simp [go_sem]) (by omega); have hz1 : w.heap.size + 1 < w1.heap.size := World.block_lt_of_cell? _ _ q0; have hz0 : w.heap.size < w1.heap.size := by omega
    replace hb1 := Lib.hid (bt hb0.out hb1)
    go_wp2_with fail
    refine (HN.out _ hb1.out).mono ?_
    rintro e w3 ⟨rfl, hb3⟩
    replace hb3 := Lib.hid (bt hb1.out hb3)
    go_wp2
    go_ret
    rw [breaksR_f (fun h => hn.out h.2)]
    exact (Gr.nil w.heap.size _ 9 strD 1).made strD_len (Nat.le_refl _) hb3.out
  rw [tf_t hn] at HN
  replace hn := Lib.hid hn
  go_enter Try.func31, Try.ntmps31
  go_wp2_with fail
  refine (HO.out _ hb0.out).mono ?_
  rintro e w1 ⟨rfl, hb1⟩
  have hB1 := hb1.mono (by omega : w.heap.size + 1 + 1 ≤ (((w.alloc (.cells #[.string old.name, .slice A1 old.types.length c1] 33)).alloc (.cells #[.string now.name, .slice A2 now.types.length c2] 33))).heap.size)
  have p0 : w1.cell? ⟨w.heap.size, 0, none⟩ = some (.string old.name) := cell_at hB1 (by simp [go_sem]) (by omega); have p1 : w1.cell? ⟨w.heap.size, 1, none⟩ = some (.slice A1 old.types.length c1) := cell_at hB1 (by simp [go_sem]) (by omega); have q0 : w1.cell? ⟨w.heap.size + 1, 0, none⟩ = some (.string now.name) := cell_at hB1 (by simp [go_sem]) (by omega); have q1 : w1.cell? ⟨w.heap.size + 1, 1, none⟩ = some (.slice A2 now.types.length c2) := cell_at hB1 (by simp [go_sem]) (by omega); have hz1 : w.heap.size + 1 < w1.heap.size := World.block_lt_of_cell? _ _ q0; have hz0 : w.heap.size < w1.heap.size := by omega
  replace hb1 := Lib.hid (bt hb0.out hb1)
  go_wp2_with fail
  refine (HN.out _ hb1.out).mono ?_
  rintro e w3 ⟨rfl, hb3⟩
  clear p0 p1 q0 q1 hz1 hz0
  replace hB1 := hB1.trans (hb3.mono (by have := hB1.size; omega))
  have p0 : w3.cell? ⟨w.heap.size, 0, none⟩ = some (.string old.name) := cell_at hB1 (by simp [go_sem]) (by omega); have p1 : w3.cell? ⟨w.heap.size, 1, none⟩ = some (.slice A1 old.types.length c1) := cell_at hB1 (by simp [go_sem]) (by omega); have q0 : w3.cell? ⟨w.heap.size + 1, 0, none⟩ = some (.string now.name) := cell_at hB1 (by simp [go_sem]) (by omega); have q1 : w3.cell? ⟨w.heap.size + 1, 1, none⟩ = some (.slice A2 now.types.length c2) := cell_at hB1 (by simp [go_sem]) (by omega); have hz1 : w.heap.size + 1 < w3.heap.size := World.block_lt_of_cell? _ _ q0; have hz0 : w.heap.size < w3.heap.size := by omega
  replace hB1 := Lib.hid hB1
  clear hb3
  go_wp2
  clear p0 p1 q0 q1 hz1 hz0
  go_loopw [5, 23] (fun v i wr => ∃ k : Nat, k ≤ old.types.length ∧ i = .int .i64 k ∧ Hid (Below (w.heap.size + 1 + 1) ((w.alloc (.cells #[.string old.name, .slice A1 old.types.length c1] 33)).alloc (.cells #[.string now.name, .slice A2 now.types.length c2] 33)) wr) ∧ Hid (Gr (w.heap.size + 1 + 1) wr 9 strD 1 (brkTs now (old.types.take k)) v)) (fun _ i _ => old.types.length - (intOf i).toNat)
  case atStart => exact ⟨0, Nat.zero_le _, rfl, hB1, by rw [List.take_zero]; exact Gr.nil _ _ _ _ _⟩
  case round =>
    obtain ⟨k, hk_, rfl, HB, HV⟩ := hrel
    obtain ⟨wo, rfl⟩ : ∃ x, x = wr := ⟨wr, rfl⟩
    have hszB := HB.out.size
    rw [eW] at hszB
    have p0 : wo.cell? ⟨w.heap.size, 0, none⟩ = some (.string old.name) := cell_at HB.out (by simp [go_sem]) (by omega); have p1 : wo.cell? ⟨w.heap.size, 1, none⟩ = some (.slice A1 old.types.length c1) := cell_at HB.out (by simp [go_sem]) (by omega); have q0 : wo.cell? ⟨w.heap.size + 1, 0, none⟩ = some (.string now.name) := cell_at HB.out (by simp [go_sem]) (by omega); have q1 : wo.cell? ⟨w.heap.size + 1, 1, none⟩ = some (.slice A2 now.types.length c2) := cell_at HB.out (by simp [go_sem]) (by omega); have hz1 : w.heap.size + 1 < wo.heap.size := World.block_lt_of_cell? _ _ q0; have hz0 : w.heap.size < wo.heap.size := by omega
    by_cases hlt : k < old.types.length
    case neg =>
      have hke : k = old.types.length := by omega
      subst hke
      replace HV := HV.out
      rw [List.take_length] at HV
      replace HV := Lib.hid HV
      go_wp2
      go_ret
      rw [breaksR_t ho.out hn.out]
      exact HV.out.made strD_len (by omega) (hb0.out.trans (HB.out.mono (by omega)))
    have hltI : (k : Int) < old.types.length := by omega
    have hlk := Lib.hid (hlen.out k hlt)
    have hsk := Lib.hid (hsz.out k hlt)
    have htk := brkTs_take now old.types k hlt
    have hwo := Lib.hid (hb0.out.trans (HB.out.mono (by omega)))
    obtain ⟨ad, A3, c3, rfl, y0, y1, y2, g3, m0, m1, m2⟩ := JTyp.elem (HG.out _ hb0.out) k hlt
    have hBW : Below (((w.alloc (.cells #[.string old.name, .slice (some ad) old.types.length c1] 33)).alloc (.cells #[.string now.name, .slice A2 now.types.length c2] 33))).heap.size ((w.alloc (.cells #[.string old.name, .slice (some ad) old.types.length c1] 33)).alloc (.cells #[.string now.name, .slice A2 now.types.length c2] 33)) wo := by rw [eW]; exact HB.out
    replace y0 := cell_keep hBW y0
    replace y1 := cell_keep hBW y1
    replace y2 := cell_keep hBW y2
    clear hBW
    generalize ht : old.types[k] = t at *
    have HG3 := Lib.hid (fun W (h : Below (w.heap.size + 1 + 1) ((w.alloc (.cells #[.string old.name, .slice (some ad) old.types.length c1] 33)).alloc (.cells #[.string now.name, .slice A2 now.types.length c2] 33)) W) => g3.below (by rw [eW]; exact h : Below (((w.alloc (.cells #[.string old.name, .slice (some ad) old.types.length c1] 33)).alloc (.cells #[.string now.name, .slice A2 now.types.length c2] 33))).heap.size ((w.alloc (.cells #[.string old.name, .slice (some ad) old.types.length c1] 33)).alloc (.cells #[.string now.name, .slice A2 now.types.length c2] 33)) W))
    clear g3
    replace htk := Lib.hid htk
    replace ht := Lib.hid ht
    go_wp2
    go_loopw [5, 30] (fun v j wr => ∃ q : Nat, q ≤ t.fields.length ∧ j = .int .i64 q ∧ Hid (Below (w.heap.size + 1 + 1) ((w.alloc (.cells #[.string old.name, .slice (some ad) old.types.length c1] 33)).alloc (.cells #[.string now.name, .slice A2 now.types.length c2] 33)) wr) ∧ Hid (Gr (w.heap.size + 1 + 1) wr 9 strD 1 (brkTs now (old.types.take k) ++ brkFs now t (t.fields.take q)) v) ∧ Hid (wr.cell? ⟨wo.heap.size, 0, none⟩ = some (.string t.name)) ∧ Hid (∀ b, v.ownBlock = some b → b ≠ wo.heap.size)) (fun _ j _ => t.fields.length - (intOf j).toNat)
    case atStart => exact ⟨0, Nat.zero_le _, rfl, HB.out.trans ((b1 _ _).mono (by omega)), by rw [List.take_zero]; unfold brkFs; rw [List.flatMap_nil, List.append_nil]; exact HV.out.keep (b1 _ _), Lib.hid (by simp [go_sem]), fun b hb => by have := HV.out.own_small b hb; omega⟩
    case round =>
      obtain ⟨q, hq_, rfl, HB2, HV2, HT, HO2⟩ := hrel
      have hszr := HB2.out.size
      rw [eW] at hszr
      have hwr := Lib.hid (hb0.out.trans (HB2.out.mono (by omega)))
      by_cases hlq : q < t.fields.length
      case neg =>
        have hqe : q = t.fields.length := by omega
        subst hqe
        replace HV2 := HV2.out
        rw [List.take_length, ← htk.out] at HV2
        replace HV2 := Lib.hid HV2
        go_wp2
        go_roundw
        case rel => exact ⟨k + 1, by omega, by go_num, HB2, HV2⟩
        case measure => simp [intOf]; omega
      have hlqI : (q : Int) < t.fields.length := by omega
      obtain ⟨hst, hsf⟩ := hsk.out q hlq
      have hlx := hlk.out q
      have hfk := brkFs_take now t t.fields q hlq
      obtain ⟨ae, A4, c4, rfl, v0, v1, v2, v3, v4, v5, v6, v7, g4, k0, k1, k7⟩ := JField.elem (HG3.out _ HB2.out) q hlq
      clear g4
      have p0 : wr.cell? ⟨w.heap.size, 0, none⟩ = some (.string old.name) := cell_at HB2.out (by simp [go_sem]) (by omega); have p1 : wr.cell? ⟨w.heap.size, 1, none⟩ = some (.slice (some ad) old.types.length c1) := cell_at HB2.out (by simp [go_sem]) (by omega); have q0 : wr.cell? ⟨w.heap.size + 1, 0, none⟩ = some (.string now.name) := cell_at HB2.out (by simp [go_sem]) (by omega); have q1 : wr.cell? ⟨w.heap.size + 1, 1, none⟩ = some (.slice A2 now.types.length c2) := cell_at HB2.out (by simp [go_sem]) (by omega); have hz1 : w.heap.size + 1 < wr.heap.size := World.block_lt_of_cell? _ _ q0; have hz0 : w.heap.size < wr.heap.size := by omega
      have hta := World.block_lt_of_cell? _ _ HT.out
      have HFq := Lib.hid (fun W (h : Below w.heap.size w W) => HF.out W h t.name t.fields[q].name)
      have hiff : Hid (BreakF now t t.fields[q] ↔ BreakG t.fields[q] ((now.findF t.name t.fields[q].name).getD JField.zero) (now.findF t.name t.fields[q].name).isSome) := Lib.hid Iff.rfl
      have ht0 := HT.out
      have hnv := HO2
      generalize hfq : t.fields[q] = f at *
      generalize (now.findF t.name f.name).getD JField.zero = g at HFq hiff
      generalize (now.findF t.name f.name).isSome = is at HFq hiff
      replace hfq := Lib.hid hfq
      replace hfk := Lib.hid hfk
      have kF := Lib.hid (b1 wr (.cells #[.string f.name, .string f.of, .bool f.list, .bool f.must, .bool f.far, .bool f.hidden, .bool f.shared, .slice A4 f.needs.length c4] 59))
      go_wp2_with fail
      refine (HFq.out _ (bt hwr.out kF.out)).mono ?_
      rintro e w5 ⟨us, rfl, gr, hb5⟩
      obtain ⟨A5, c5, rfl, _, j0, j1, _⟩ := JField.open_ gr
      clear gr
      obtain ⟨fn, fo, fl, fm, fr, fh, fs, fd⟩ := f
      obtain ⟨gn, go_, gl, gm, ga, gh, gs, gd⟩ := g
      dsimp only at k0 hsf hb5 kF v0 v1 v2 v3 v4 v5 v6 v7
      have hB5 := Lib.hid (bt kF.out hb5)
      have x0 := cell_keep hB5.out ht0
      have z0 : w5.cell? ⟨wr.heap.size, 0, none⟩ = some (.string fn) := cell_keep hb5 (by simp [go_sem])
      have z1 : w5.cell? ⟨wr.heap.size, 1, none⟩ = some (.string fo) := cell_keep hb5 (by simp [go_sem])
      have z2 : w5.cell? ⟨wr.heap.size, 2, none⟩ = some (.bool fl) := cell_keep hb5 (by simp [go_sem])
      have z5 : w5.cell? ⟨wr.heap.size, 5, none⟩ = some (.bool fh) := cell_keep hb5 (by simp [go_sem])
      have hza := World.block_lt_of_cell? _ _ z0
      have hzb := World.block_lt_of_cell? _ _ x0
      have kG := Lib.hid (b1 w5 (.cells #[.string gn, .string go_, .bool gl, .bool gm, .bool ga, .bool gh, .bool gs, .slice A5 gd.length c5] 59))
      have hB6 := Lib.hid (bt hB5.out kG.out)
      have hB7 := Lib.hid (HB2.out.trans (hB6.out.mono hszr))
      have xg : (w5.alloc (.cells #[.string gn, .string go_, .bool gl, .bool gm, .bool ga, .bool gh, .bool gs, .slice A5 gd.length c5] 59)).cell? ⟨wo.heap.size, 0, none⟩ = some (.string t.name) := cell_keep kG.out x0
      replace xg := Lib.hid xg
      have hss : (t.name ++ ⟨#[46]⟩ ++ fn).size ≤ 9223372036854775807 := by simp only [ByteArray.size_append, size_mk, List.size_toArray, List.length_cons, List.length_nil]; omega
      clear hb5 ht0 v0 v1 v2 v3 v4 v5 v6 v7 p0 p1 q0 q1 hz1 hz0
      generalize hX : brkTs now (old.types.take k) ++ brkFs now t (t.fields.take q) = X at *
      replace hX := Lib.hid hX
      cases fh with
      | true => (have hnb := Lib.hid (show brkFs now t (t.fields.take (q + 1)) = brkFs now t (t.fields.take q) by rw [hfk.out, brkF_f (fun h => (fun h => absurd h.1 (by simp)) (hiff.out.1 h)), List.append_nil]); go_wp2; go_roundw; (case rel => exact ⟨q + 1, by omega, by go_num, hB7, Lib.hid (Gr.cast (HV2.out.keep hB6.out) (by rw [hnb.out, hX.out]) rfl), xg, hnv⟩); (case measure => simp [intOf]; omega))
      | false =>
      cases is with
      | false => (have hnb := Lib.hid (show brkFs now t (t.fields.take (q + 1)) = brkFs now t (t.fields.take q) ++ [t.name ++ ⟨#[46]⟩ ++ fn] by rw [hfk.out, brkF_t (hiff.out.2 (⟨rfl, .inl rfl⟩))]; rfl); go_wp2_with (at_builtin; refine wpList_push rfl _ _ 52 rfl (enc := strD) (base := (w.heap.size + 1 + 1)) (wr := wr) (xs := X) (t.name ++ ⟨#[46]⟩ ++ fn) 9 i0 (.string ⟨#[]⟩) 1 16 Try.underlying52 hi hi0 hi1 hi2 rfl (by decide) strD_len rfl HV2.out (bt hB6.out (b1 _ _)) hszr ⟨w5.heap.size + 1, 0, none⟩ 1 rfl [.string (t.name ++ ⟨#[46]⟩ ++ fn)] [] (.str hss (.nil _)) (Fresh.nil _) (box_newAt (by simp) rfl) (by constructor <;> omega) ?_); intro A9 c9 w9 hG9 hB9 hg9 hH9; have xt := Lib.hid (((grown_cell hg9 (b := wo.heap.size) (by simp; omega) (fun e => hnv.out _ e rfl)).1 0).trans (cell_keep (b1 _ _) xg.out)); have hw9 := Lib.hid (hB7.out.trans (((b1 _ _).mono (by have := hB7.out.size; rw [eW] at this; exact this)).trans hB9)); have hn9 := Lib.hid (fun n b (h : (Value.slice A9 n c9).ownBlock = some b) => ((hH9 b (by cases A9 <;> exact h)).elim (fun h => hnv.out b h) (fun h => by (try simp only [World.size_alloc] at h); omega) : b ≠ wo.heap.size)); have hG9 := Lib.hid hG9; clear hB9 hg9 hH9; go_wp2; go_roundw; (case rel => exact ⟨q + 1, by omega, by go_num, hw9, Lib.hid (Gr.cast hG9.out (by rw [hnb.out, ← hX.out, List.append_assoc]) (by simp)), xt, Lib.hid (hn9.out _)⟩); (case measure => simp [intOf]; omega))
      | true =>
      cases gh with
      | true => (have hnb := Lib.hid (show brkFs now t (t.fields.take (q + 1)) = brkFs now t (t.fields.take q) ++ [t.name ++ ⟨#[46]⟩ ++ fn] by rw [hfk.out, brkF_t (hiff.out.2 (⟨rfl, .inr (.inl rfl)⟩))]; rfl); go_wp2_with (at_builtin; refine wpList_push rfl _ _ 52 rfl (enc := strD) (base := (w.heap.size + 1 + 1)) (wr := wr) (xs := X) (t.name ++ ⟨#[46]⟩ ++ fn) 9 i0 (.string ⟨#[]⟩) 1 16 Try.underlying52 hi hi0 hi1 hi2 rfl (by decide) strD_len rfl HV2.out (bt hB6.out (b1 _ _)) hszr ⟨w5.heap.size + 1, 0, none⟩ 1 rfl [.string (t.name ++ ⟨#[46]⟩ ++ fn)] [] (.str hss (.nil _)) (Fresh.nil _) (box_newAt (by simp) rfl) (by constructor <;> omega) ?_); intro A9 c9 w9 hG9 hB9 hg9 hH9; have xt := Lib.hid (((grown_cell hg9 (b := wo.heap.size) (by simp; omega) (fun e => hnv.out _ e rfl)).1 0).trans (cell_keep (b1 _ _) xg.out)); have hw9 := Lib.hid (hB7.out.trans (((b1 _ _).mono (by have := hB7.out.size; rw [eW] at this; exact this)).trans hB9)); have hn9 := Lib.hid (fun n b (h : (Value.slice A9 n c9).ownBlock = some b) => ((hH9 b (by cases A9 <;> exact h)).elim (fun h => hnv.out b h) (fun h => by (try simp only [World.size_alloc] at h); omega) : b ≠ wo.heap.size)); have hG9 := Lib.hid hG9; clear hB9 hg9 hH9; go_wp2; go_roundw; (case rel => exact ⟨q + 1, by omega, by go_num, hw9, Lib.hid (Gr.cast hG9.out (by rw [hnb.out, ← hX.out, List.append_assoc]) (by simp)), xt, Lib.hid (hn9.out _)⟩); (case measure => simp [intOf]; omega))
      | false =>
      by_cases hof : go_ = fo
      case neg =>
        have t1 := str_f hof
        replace hof := Lib.hid hof
        (have hnb := Lib.hid (show brkFs now t (t.fields.take (q + 1)) = brkFs now t (t.fields.take q) ++ [t.name ++ ⟨#[46]⟩ ++ fn] by rw [hfk.out, brkF_t (hiff.out.2 (⟨rfl, .inr (.inr (.inl hof.out))⟩))]; rfl); go_wp2_with (at_builtin; refine wpList_push rfl _ _ 52 rfl (enc := strD) (base := (w.heap.size + 1 + 1)) (wr := wr) (xs := X) (t.name ++ ⟨#[46]⟩ ++ fn) 9 i0 (.string ⟨#[]⟩) 1 16 Try.underlying52 hi hi0 hi1 hi2 rfl (by decide) strD_len rfl HV2.out (bt hB6.out (b1 _ _)) hszr ⟨w5.heap.size + 1, 0, none⟩ 1 rfl [.string (t.name ++ ⟨#[46]⟩ ++ fn)] [] (.str hss (.nil _)) (Fresh.nil _) (box_newAt (by simp) rfl) (by constructor <;> omega) ?_); intro A9 c9 w9 hG9 hB9 hg9 hH9; have xt := Lib.hid (((grown_cell hg9 (b := wo.heap.size) (by simp; omega) (fun e => hnv.out _ e rfl)).1 0).trans (cell_keep (b1 _ _) xg.out)); have hw9 := Lib.hid (hB7.out.trans (((b1 _ _).mono (by have := hB7.out.size; rw [eW] at this; exact this)).trans hB9)); have hn9 := Lib.hid (fun n b (h : (Value.slice A9 n c9).ownBlock = some b) => ((hH9 b (by cases A9 <;> exact h)).elim (fun h => hnv.out b h) (fun h => by (try simp only [World.size_alloc] at h); omega) : b ≠ wo.heap.size)); have hG9 := Lib.hid hG9; clear hB9 hg9 hH9; go_wp2; go_roundw; (case rel => exact ⟨q + 1, by omega, by go_num, hw9, Lib.hid (Gr.cast hG9.out (by rw [hnb.out, ← hX.out, List.append_assoc]) (by simp)), xt, Lib.hid (hn9.out _)⟩); (case measure => simp [intOf]; omega))
      have t1 := str_t hof
      subst hof
      cases gl <;> cases fl
      · (have hnb := Lib.hid (show brkFs now t (t.fields.take (q + 1)) = brkFs now t (t.fields.take q) by rw [hfk.out, brkF_f (fun h => (fun h => by rcases h with ⟨_, h | h | h | h⟩ <;> first | cases h | exact h rfl) (hiff.out.1 h)), List.append_nil]); go_wp2; go_roundw; (case rel => exact ⟨q + 1, by omega, by go_num, hB7, Lib.hid (Gr.cast (HV2.out.keep hB6.out) (by rw [hnb.out, hX.out]) rfl), xg, hnv⟩); (case measure => simp [intOf]; omega))
      · (have hnb := Lib.hid (show brkFs now t (t.fields.take (q + 1)) = brkFs now t (t.fields.take q) ++ [t.name ++ ⟨#[46]⟩ ++ fn] by rw [hfk.out, brkF_t (hiff.out.2 (⟨rfl, .inr (.inr (.inr (by simp)))⟩))]; rfl); go_wp2_with (at_builtin; refine wpList_push rfl _ _ 52 rfl (enc := strD) (base := (w.heap.size + 1 + 1)) (wr := wr) (xs := X) (t.name ++ ⟨#[46]⟩ ++ fn) 9 i0 (.string ⟨#[]⟩) 1 16 Try.underlying52 hi hi0 hi1 hi2 rfl (by decide) strD_len rfl HV2.out (bt hB6.out (b1 _ _)) hszr ⟨w5.heap.size + 1, 0, none⟩ 1 rfl [.string (t.name ++ ⟨#[46]⟩ ++ fn)] [] (.str hss (.nil _)) (Fresh.nil _) (box_newAt (by simp) rfl) (by constructor <;> omega) ?_); intro A9 c9 w9 hG9 hB9 hg9 hH9; have xt := Lib.hid (((grown_cell hg9 (b := wo.heap.size) (by simp; omega) (fun e => hnv.out _ e rfl)).1 0).trans (cell_keep (b1 _ _) xg.out)); have hw9 := Lib.hid (hB7.out.trans (((b1 _ _).mono (by have := hB7.out.size; rw [eW] at this; exact this)).trans hB9)); have hn9 := Lib.hid (fun n b (h : (Value.slice A9 n c9).ownBlock = some b) => ((hH9 b (by cases A9 <;> exact h)).elim (fun h => hnv.out b h) (fun h => by (try simp only [World.size_alloc] at h); omega) : b ≠ wo.heap.size)); have hG9 := Lib.hid hG9; clear hB9 hg9 hH9; go_wp2; go_roundw; (case rel => exact ⟨q + 1, by omega, by go_num, hw9, Lib.hid (Gr.cast hG9.out (by rw [hnb.out, ← hX.out, List.append_assoc]) (by simp)), xt, Lib.hid (hn9.out _)⟩); (case measure => simp [intOf]; omega))
      · (have hnb := Lib.hid (show brkFs now t (t.fields.take (q + 1)) = brkFs now t (t.fields.take q) ++ [t.name ++ ⟨#[46]⟩ ++ fn] by rw [hfk.out, brkF_t (hiff.out.2 (⟨rfl, .inr (.inr (.inr (by simp)))⟩))]; rfl); go_wp2_with (at_builtin; refine wpList_push rfl _ _ 52 rfl (enc := strD) (base := (w.heap.size + 1 + 1)) (wr := wr) (xs := X) (t.name ++ ⟨#[46]⟩ ++ fn) 9 i0 (.string ⟨#[]⟩) 1 16 Try.underlying52 hi hi0 hi1 hi2 rfl (by decide) strD_len rfl HV2.out (bt hB6.out (b1 _ _)) hszr ⟨w5.heap.size + 1, 0, none⟩ 1 rfl [.string (t.name ++ ⟨#[46]⟩ ++ fn)] [] (.str hss (.nil _)) (Fresh.nil _) (box_newAt (by simp) rfl) (by constructor <;> omega) ?_); intro A9 c9 w9 hG9 hB9 hg9 hH9; have xt := Lib.hid (((grown_cell hg9 (b := wo.heap.size) (by simp; omega) (fun e => hnv.out _ e rfl)).1 0).trans (cell_keep (b1 _ _) xg.out)); have hw9 := Lib.hid (hB7.out.trans (((b1 _ _).mono (by have := hB7.out.size; rw [eW] at this; exact this)).trans hB9)); have hn9 := Lib.hid (fun n b (h : (Value.slice A9 n c9).ownBlock = some b) => ((hH9 b (by cases A9 <;> exact h)).elim (fun h => hnv.out b h) (fun h => by (try simp only [World.size_alloc] at h); omega) : b ≠ wo.heap.size)); have hG9 := Lib.hid hG9; clear hB9 hg9 hH9; go_wp2; go_roundw; (case rel => exact ⟨q + 1, by omega, by go_num, hw9, Lib.hid (Gr.cast hG9.out (by rw [hnb.out, ← hX.out, List.append_assoc]) (by simp)), xt, Lib.hid (hn9.out _)⟩); (case measure => simp [intOf]; omega))
      · (have hnb := Lib.hid (show brkFs now t (t.fields.take (q + 1)) = brkFs now t (t.fields.take q) by rw [hfk.out, brkF_f (fun h => (fun h => by rcases h with ⟨_, h | h | h | h⟩ <;> first | cases h | exact h rfl) (hiff.out.1 h)), List.append_nil]); go_wp2; go_roundw; (case rel => exact ⟨q + 1, by omega, by go_num, hB7, Lib.hid (Gr.cast (HV2.out.keep hB6.out) (by rw [hnb.out, hX.out]) rfl), xg, hnv⟩); (case measure => simp [intOf]; omega))
end Go.Proofs.Ytmkagpmdindlpaa.Lib
