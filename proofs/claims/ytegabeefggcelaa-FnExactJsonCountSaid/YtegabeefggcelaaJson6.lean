/- The program's parts, JsonOk and JsonCount, and the reference's JsonCount. No condition beyond bounds that every value keeps. -/
import Derived.Test.YtegabeefggcelaaJson5
set_option linter.unusedVariables false
set_option linter.unusedSimpArgs false
namespace Go.Proofs.Ytegabeefggcelaa.Lib
open Go.RowKit

/-- What parts may return. -/
def PartsR (v : JValue) (d r : Int) : Prop := ((v.okAt d ∧ v.nodes ≤ 600) → r = v.nodes) ∧ (¬ (v.okAt d ∧ v.nodes ≤ 600) → 600 < r) ∧ 0 ≤ r ∧ r ≤ 601 + 600 * (17 - d)
def Parts (v : JValue) : Prop := ∀ (cs : List Value) (d : Int) (w : World), RdL w v.enc cs → 0 ≤ d → d ≤ 17 →
  Calls Try.prog 38 #[.agg cs.toArray, .int .i64 d] w (fun e w' => ∃ r : Int, Ret w (.int .i64 r) e w' ∧ PartsR v d r)
set_option maxRecDepth 100000 in
set_option maxHeartbeats 4000000 in
theorem parts_of (v : JValue) (hK : ∀ x, x ∈ v.kids → Parts x) : Parts v := by
  intro cs d w hcs hd0 hd1
  have HP := Lib.hid (fun W h => shape_c v cs W h)
  have HC := Lib.hid hcs
  obtain ⟨A3, c3, A4, c4, rfl, g3, g4, l2, n3, n4⟩ := JValue.open_ hcs
  have G4 := Lib.hid g4
  have HK := Lib.hid hK
  have HE := Lib.hid (JValue.okAt_eq v d)
  have HN := Lib.hid (JValue.nodes_eq v)
  clear hcs g3 g4 hK
  by_cases hdp : 16 < d
  · go_enter Try.func38, Try.ntmps38
    go_wp2
    go_ret
    exact ⟨_, ⟨rfl, b1 _ _⟩, fun h => by have := (HE.out.1 h.1).1; omega, fun _ => by omega, by omega, by omega⟩
  by_cases hp : Plain v
  case neg =>
    have hp := Lib.hid hp
    go_enter Try.func38, Try.ntmps38
    go_wp2_with fail
    refine (HP.out _ (HC.out.keep (b1 _ _))).mono ?_
    intro e w1 hr
    obtain ⟨rfl, hb1⟩ := Ret.ff hp.out hr
    clear hr
    go_wp2
    go_ret
    exact ⟨_, ⟨rfl, bt (b1 _ _) hb1⟩, fun h => absurd (HE.out.1 h.1).2.1 hp.out, fun _ => by omega, by omega, by omega⟩
  have hp := Lib.hid hp
  go_enter Try.func38, Try.ntmps38
  go_wp2_with fail
  refine (HP.out _ (HC.out.keep (b1 _ _))).mono ?_
  intro e w1 hr
  obtain ⟨rfl, hb1⟩ := Ret.tt hp.out hr
  clear hr
  obtain ⟨hc1, hf1⟩ := bcell hb1
  have hz1 : w.heap.size < w1.heap.size := by have := hb1.size; simp at this; omega
  have hB1 := bt (b1 _ _) hb1
  go_wp2
  go_loopw [5, 18, 7] (fun n i _ wr => ∃ k : Nat, k ≤ v.kids.length ∧ i = .int .i64 k ∧ ∃ m : Int, n = .int .i64 m ∧ 1 ≤ m ∧ m ≤ 600 ∧ Below w.heap.size w wr ∧
      Hid (JValue.okL (v.kids.take k) (d + 1) ∧ m = 1 + JValue.nodesL (v.kids.take k))) (fun _ i _ _ => v.kids.length - (intOf i).toNat)
  case atStart => exact ⟨0, Nat.zero_le _, rfl, _, rfl, by omega, by omega, hB1, by simp [JValue.okL], by simp [JValue.nodesL]⟩
  case round =>
    obtain ⟨k, hk, rfl, m, rfl, hm0, hm1, hbd, HR⟩ := hrel
    by_cases hlt : k < v.kids.length
    · obtain ⟨ad, A3', c3', A4', c4', rfl, y0, y1, y2, y3, y4, gg3, gg4, ll2, nn3, nn4⟩ := JValue.elem (G4.out.below hbd) k hlt
      have HM := Lib.hid (fun (cs : List Value) (W : World) (h : RdL W v.kids[k].enc cs) => HK.out v.kids[k] (List.getElem_mem hlt) cs (d + 1) W h (by omega) (by omega))
      have HV := Lib.hid (JValue.close_ _ gg3 gg4 ll2)
      have htk := Lib.hid (JValue.okL_take v.kids (d + 1) k hlt)
      have hnt := Lib.hid (JValue.nodesL_take v.kids k hlt)
      have hnl := Lib.hid (JValue.nodesL_le v.kids (k + 1))
      have hget := Lib.hid (fun h : JValue.okL v.kids (d + 1) => JValue.okL_get h k hlt)
      clear gg3 gg4
      go_wp2_with fail
      refine (HM.out _ _ (HV.out.keep (b1 _ _))).mono ?_
      rintro e w2 ⟨r, ⟨rfl, hb2⟩, hr⟩
      have hB2 := bt hbd (bt (b1 _ _) hb2)
      have hr0 : 0 ≤ r := hr.2.2.1
      have hr1 : r ≤ 601 + 600 * (17 - (d + 1)) := hr.2.2.2
      have hr := Lib.hid hr
      by_cases hmr : 600 < m + r
      · go_wp2
        go_ret
        refine ⟨_, ⟨rfl, hB2⟩, ?_⟩
        have h2 := HR.out
        have hn := HN.out
        have ht := hnt.out
        have hl := hnl.out
        have hrr := hr.out
        unfold PartsR at hrr
        have hno : ¬ (v.okAt d ∧ v.nodes ≤ 600) := fun h => by
          have hok := hget.out (HE.out.1 h.1).2.2
          have := hrr.1 ⟨hok, by omega⟩
          omega
        exact ⟨fun h => absurd h hno, fun _ => by omega, by omega, by omega⟩
      · have hgood : v.kids[k].okAt (d + 1) ∧ v.kids[k].nodes ≤ 600 := Classical.byContradiction fun h => by have := hr.out.2.1 h; omega
        have e2 : r = v.kids[k].nodes := hr.out.1 hgood
        replace hgood := Lib.hid hgood
        have e2 := Lib.hid e2
        go_wp2
        go_roundw
        case rel => exact ⟨k + 1, by omega, by go_num, _, rfl, by omega, by omega, hB2, htk.out.2 ⟨HR.out.1, hgood.out.1⟩, by have := HR.out.2; have := hnt.out; have := e2.out; omega⟩
        case measure => simp [intOf]; omega
    · go_wp2
      go_ret
      have h2 := HR.out
      rw [List.take_of_length_le (by omega)] at h2
      have hn := HN.out
      exact ⟨_, ⟨rfl, hbd⟩, fun h => by omega, fun h => absurd ⟨HE.out.2 ⟨by omega, hp.out, h2.1⟩, by omega⟩ h, by omega, by omega⟩
theorem parts_all : ∀ n, ∀ v : JValue, SizeOf.sizeOf v < n → Parts v
  | 0 => fun _ h => absurd h (by omega)
  | n + 1 => fun v h => parts_of v fun x hx => parts_all n x (by have := JValue.kids_lt v; have := List.sizeOf_lt_of_mem hx; omega)
theorem parts_c (v : JValue) : Parts v := parts_all _ v (Nat.lt_succ_self _)

theorem implJsonOk_c (v : JValue) (cs : List Value) (w : World) (hcs : RdL w v.enc cs) : Calls Try.prog 11 #[.agg cs.toArray] w (Ret w (.bool (tf (JOk v)))) := by
  have HM := Lib.hid (fun W h => parts_c v cs 1 W h (by omega) (by omega))
  have HC := Lib.hid hcs
  obtain ⟨A3, c3, A4, c4, rfl, g3, g4, l2, n3, n4⟩ := JValue.open_ hcs
  clear hcs g3 g4
  go_enter Try.func11, Try.ntmps11
  go_wp2_with fail
  refine (HM.out _ (HC.out.keep (b1 _ _))).mono ?_
  rintro e w1 ⟨r, ⟨rfl, hb1⟩, hr⟩
  have hr0 : 0 ≤ r := hr.2.2.1
  have hr1 : r ≤ 601 + 600 * (17 - 1) := hr.2.2.2
  replace hr := Lib.hid hr
  go_wp2
  go_ret
  exact Ret.d ⟨fun h => by have := hr.out.1 h; have := h.2; omega, fun h => Classical.byContradiction fun k => by have := hr.out.2.1 k; omega⟩ (bt (b1 _ _) hb1)

def L12Count (v : JValue) : Prop := ∀ (cs : List Value) (w : World), RdL w v.enc cs → v.nodes ≤ 1000000000 →
  Calls Try.prog 41 #[.agg cs.toArray] w (Ret w (.int .i64 v.nodes))
set_option maxRecDepth 100000 in
set_option maxHeartbeats 4000000 in
theorem l12Count_of (v : JValue) (hK : ∀ x, x ∈ v.kids → L12Count x) : L12Count v := by
  intro cs w hcs hmax
  obtain ⟨A3, c3, A4, c4, rfl, g3, g4, l2, n3, n4⟩ := JValue.open_ hcs
  have G4 := Lib.hid g4
  have HK := Lib.hid hK
  have HN := Lib.hid (JValue.nodes_eq v)
  clear hcs g3 g4 hK
  go_enter Try.func41, Try.ntmps41
  go_wp2
  go_loopw [3, 4] (fun n i wr => ∃ k : Nat, k ≤ v.kids.length ∧ i = .int .i64 k ∧ ∃ m : Int, n = .int .i64 m ∧ 1 ≤ m ∧ m ≤ 1000000000 ∧ Below w.heap.size w wr ∧ wr.cell? ⟨w.heap.size, 4, none⟩ = some (.slice A4 v.kids.length c4) ∧
      Hid (m = 1 + JValue.nodesL (v.kids.take k))) (fun _ i _ => v.kids.length - (intOf i).toNat)
  case atStart => exact ⟨0, Nat.zero_le _, rfl, _, rfl, by omega, by omega, b1 _ _, by simp [go_sem], by simp [Hid, JValue.nodesL]⟩
  case round =>
    obtain ⟨k, hk, rfl, m, rfl, hm0, hm1, hbd, hx4, HR⟩ := hrel
    by_cases hlt : k < v.kids.length
    · obtain ⟨ad, A3', c3', A4', c4', rfl, y0, y1, y2, y3, y4, gg3, gg4, ll2, nn3, nn4⟩ := JValue.elem (G4.out.below hbd) k hlt
      have hnt := JValue.nodesL_take v.kids k hlt
      have hnl := JValue.nodesL_le v.kids (k + 1)
      have hkm : m + v.kids[k].nodes ≤ 1000000000 := by have := HR.out; have := HN.out; omega
      have HM := Lib.hid (HK.out v.kids[k] (List.getElem_mem hlt) _ wr (JValue.close_ _ gg3 gg4 ll2) (by omega))
      replace hnt := Lib.hid hnt
      clear gg3 gg4 hnl
      go_wp2_with fail
      refine HM.out.mono ?_
      rintro e w2 ⟨rfl, hb2⟩
      have hx4 := cell_keep hb2 hx4
      go_wp2
      go_roundw
      case rel => exact ⟨k + 1, by omega, by go_num, _, rfl, by omega, by omega, bt hbd hb2, hx4, by have := HR.out; have := hnt.out; unfold Hid; omega⟩
      case measure => simp [intOf]; omega
    · go_wp2
      go_ret
      exact Ret.int (by
        have h2 := HR.out
        rw [List.take_of_length_le (by omega)] at h2
        have := HN.out; omega) hbd
theorem l12Count_all : ∀ n, ∀ v : JValue, SizeOf.sizeOf v < n → L12Count v
  | 0 => fun _ h => absurd h (by omega)
  | n + 1 => fun v h => l12Count_of v fun x hx => l12Count_all n x (by have := JValue.kids_lt v; have := List.sizeOf_lt_of_mem hx; omega)
theorem l12Count_c (v : JValue) : L12Count v := l12Count_all _ v (Nat.lt_succ_self _)

/-- How many parts a value has that is ok; else 0. -/
noncomputable def countR (v : JValue) : Int := if tf (JOk v) = true then v.nodes else 0
theorem countR_y {v : JValue} (h : JOk v) : countR v = v.nodes := by unfold countR; rw [if_pos (tf_t h)]
theorem countR_n {v : JValue} (h : ¬ JOk v) : countR v = 0 := by unfold countR; rw [if_neg (by rw [tf_f h]; decide)]
theorem specJsonCount_c (v : JValue) (cs : List Value) (w : World) (hcs : RdL w v.enc cs) : Calls Try.prog 13 #[.agg cs.toArray] w (Ret w (.int .i64 (countR v))) := by
  have HM := Lib.hid (fun W h => specJsonOk_c v cs W h)
  have HC := Lib.hid hcs
  obtain ⟨A3, c3, A4, c4, rfl, g3, g4, l2, n3, n4⟩ := JValue.open_ hcs
  clear hcs g3 g4
  by_cases h : JOk v
  · have HL := Lib.hid (fun cs W k => l12Count_c v cs W k (by have := h.2; omega))
    have h := Lib.hid h
    go_enter Try.func13, Try.ntmps13
    go_wp2_with fail
    refine (HM.out _ (HC.out.keep (b1 _ _))).mono ?_
    intro e w1 hr
    obtain ⟨rfl, hb1⟩ := Ret.tt h.out hr
    clear hr
    obtain ⟨hc1, hf1⟩ := bcell hb1
    have hz1 : w.heap.size < w1.heap.size := by have := hb1.size; simp at this; omega
    have hB1 := bt (b1 _ _) hb1
    go_wp2_with fail
    refine (HL.out _ _ (HC.out.keep hB1)).mono ?_
    rintro e w2 ⟨rfl, hb2⟩
    go_wp2
    go_ret
    exact Ret.int (by rw [countR_y h.out]) (bt hB1 hb2)
  · have h := Lib.hid h
    go_enter Try.func13, Try.ntmps13
    go_wp2_with fail
    refine (HM.out _ (HC.out.keep (b1 _ _))).mono ?_
    intro e w1 hr
    obtain ⟨rfl, hb1⟩ := Ret.ff h.out hr
    clear hr
    go_wp2
    go_ret
    exact Ret.int (by rw [countR_n h.out]) (bt (b1 _ _) hb1)
theorem implJsonCount_c (v : JValue) (cs : List Value) (w : World) (hcs : RdL w v.enc cs) : Calls Try.prog 14 #[.agg cs.toArray] w (Ret w (.int .i64 (countR v))) := by
  have HM := Lib.hid (fun W h => implJsonOk_c v cs W h)
  have HC := Lib.hid hcs
  have HL := Lib.hid (fun W h => parts_c v cs 1 W h (by omega) (by omega))
  obtain ⟨A3, c3, A4, c4, rfl, g3, g4, l2, n3, n4⟩ := JValue.open_ hcs
  clear hcs g3 g4
  by_cases h : JOk v
  · have h := Lib.hid h
    go_enter Try.func14, Try.ntmps14
    go_wp2_with fail
    refine (HM.out _ (HC.out.keep (b1 _ _))).mono ?_
    intro e w1 hr
    obtain ⟨rfl, hb1⟩ := Ret.tt h.out hr
    clear hr
    obtain ⟨hc1, hf1⟩ := bcell hb1
    have hz1 : w.heap.size < w1.heap.size := by have := hb1.size; simp at this; omega
    have hB1 := bt (b1 _ _) hb1
    go_wp2_with fail
    refine (HL.out _ (HC.out.keep hB1)).mono ?_
    rintro e w2 ⟨r, ⟨rfl, hb2⟩, hr⟩
    replace hr := Lib.hid hr
    go_wp2
    go_ret
    exact Ret.int (by rw [countR_y h.out, hr.out.1 h.out]) (bt hB1 hb2)
  · have h := Lib.hid h
    go_enter Try.func14, Try.ntmps14
    go_wp2_with fail
    refine (HM.out _ (HC.out.keep (b1 _ _))).mono ?_
    intro e w1 hr
    obtain ⟨rfl, hb1⟩ := Ret.ff h.out hr
    clear hr
    go_wp2
    go_ret
    exact Ret.int (by rw [countR_n h.out]) (bt (b1 _ _) hb1)
end Go.Proofs.Ytegabeefggcelaa.Lib
