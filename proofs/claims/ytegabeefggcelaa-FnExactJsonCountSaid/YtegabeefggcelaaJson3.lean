/- The reference's l1Parts, JsonOk, l12Count, JsonCount. No condition beyond bounds that every value keeps. -/
import Derived.Test.YtegabeefggcelaaJson2
import Derived.Test.YtegabeefggcelaaBulk
set_option linter.unusedVariables false
set_option linter.unusedSimpArgs false
namespace Go.Proofs.Ytegabeefggcelaa.Lib
open Go.RowKit

mutual
/-- How many values there are, itself among them. -/
def JValue.nodes : JValue → Nat
  | ⟨_, _, _, _, ks⟩ => 1 + JValue.nodesL ks
def JValue.nodesL : List JValue → Nat
  | [] => 0
  | x :: r => JValue.nodes x + JValue.nodesL r
end
mutual
/-- All is plain, and nothing lies too deep. -/
def JValue.okAt : JValue → Int → Prop
  | ⟨a, b, c, e, ks⟩, d => d ≤ 16 ∧ Plain ⟨a, b, c, e, ks⟩ ∧ JValue.okL ks (d + 1)
def JValue.okL : List JValue → Int → Prop
  | [], _ => True
  | x :: r, d => JValue.okAt x d ∧ JValue.okL r d
end
theorem JValue.nodes_eq (v : JValue) : v.nodes = 1 + JValue.nodesL v.kids := by cases v; simp only [JValue.nodes]
theorem JValue.okAt_eq (v : JValue) (d : Int) : v.okAt d ↔ d ≤ 16 ∧ Plain v ∧ JValue.okL v.kids (d + 1) := by cases v; simp only [JValue.okAt]
theorem JValue.okL_iff {xs : List JValue} {d : Int} : JValue.okL xs d ↔ ∀ x, x ∈ xs → x.okAt d := by
  induction xs with
  | nil => simp [JValue.okL]
  | cons x r ih => simp [JValue.okL, ih]
theorem JValue.nodesL_app (xs ys : List JValue) : JValue.nodesL (xs ++ ys) = JValue.nodesL xs + JValue.nodesL ys := by
  induction xs with
  | nil => simp [JValue.nodesL]
  | cons x r ih => simp only [List.cons_append, JValue.nodesL, ih]; omega
theorem JValue.nodesL_take (xs : List JValue) (k : Nat) (h : k < xs.length) : JValue.nodesL (xs.take (k + 1)) = JValue.nodesL (xs.take k) + xs[k].nodes := by
  rw [List.take_succ_eq_append_getElem h, JValue.nodesL_app]
  simp [JValue.nodesL]
theorem JValue.nodesL_le (xs : List JValue) (k : Nat) : JValue.nodesL (xs.take k) ≤ JValue.nodesL xs := by
  conv => rhs; rw [← List.take_append_drop k xs]
  rw [JValue.nodesL_app]
  omega
theorem JValue.okL_take (xs : List JValue) (d : Int) (k : Nat) (h : k < xs.length) : JValue.okL (xs.take (k + 1)) d ↔ JValue.okL (xs.take k) d ∧ xs[k].okAt d := by
  rw [JValue.okL_iff, JValue.okL_iff, List.take_succ_eq_append_getElem h]
  constructor
  · intro h
    exact ⟨fun x hx => h x (List.mem_append_left _ hx), h _ (List.mem_append_right _ (List.mem_singleton.2 rfl))⟩
  · rintro ⟨h1, h2⟩ x hx
    rcases List.mem_append.1 hx with hx | hx
    · exact h1 x hx
    · simp only [List.mem_singleton] at hx
      subst hx
      exact h2
theorem JValue.okL_get {xs : List JValue} {d : Int} (h : JValue.okL xs d) (k : Nat) (hk : k < xs.length) : xs[k].okAt d := JValue.okL_iff.1 h _ (List.getElem_mem hk)
theorem JValue.nodes_pos (v : JValue) : 0 < v.nodes := by rw [JValue.nodes_eq]; omega

/-- What is left. -/
noncomputable def partsR (v : JValue) (d left : Int) : Int := if tf (v.okAt d ∧ (v.nodes : Int) ≤ left) = true then left - v.nodes else -1
theorem partsR_y {v : JValue} {d left : Int} (h : v.okAt d) (k : (v.nodes : Int) ≤ left) : partsR v d left = left - v.nodes := by unfold partsR; rw [if_pos (tf_t ⟨h, k⟩)]
theorem partsR_n {v : JValue} {d left : Int} (h : ¬ (v.okAt d ∧ (v.nodes : Int) ≤ left)) : partsR v d left = -1 := by unfold partsR; rw [if_neg (by rw [tf_f h]; decide)]

def L1Parts (v : JValue) : Prop := ∀ (cs : List Value) (d left : Int) (w : World), RdL w v.enc cs → 0 ≤ d → d ≤ 17 → 0 ≤ left → left ≤ 600 →
  Calls Try.prog 35 #[.agg cs.toArray, .int .i64 d, .int .i64 left] w (Ret w (.int .i64 (partsR v d left)))
set_option maxRecDepth 100000 in
set_option maxHeartbeats 4000000 in
theorem l1Parts_of (v : JValue) (hK : ∀ x, x ∈ v.kids → L1Parts x) : L1Parts v := by
  intro cs d left w hcs hd0 hd1 h0 h1
  have HP := Lib.hid (fun W h => l1Plain_c v cs W h)
  have HC := Lib.hid hcs
  obtain ⟨A3, c3, A4, c4, rfl, g3, g4, l2, n3, n4⟩ := JValue.open_ hcs
  have G4 := Lib.hid g4
  have HK := Lib.hid hK
  have HE := Lib.hid (JValue.okAt_eq v d)
  have HN := Lib.hid (JValue.nodes_eq v)
  clear hcs g3 g4 hK
  by_cases hl : left - 1 < 0
  · go_enter Try.func35, Try.ntmps35
    go_wp2
    go_ret
    exact Ret.int (by rw [partsR_n (fun h => by have := HN.out; omega)]) (b1 _ _)
  by_cases hdp : 16 < d
  · go_enter Try.func35, Try.ntmps35
    go_wp2
    go_ret
    exact Ret.int (by rw [partsR_n (fun h => by have := (HE.out.1 h.1).1; omega)]) (b1 _ _)
  by_cases hp : Plain v
  case neg =>
    have hp := Lib.hid hp
    go_enter Try.func35, Try.ntmps35
    go_wp2_with fail
    refine (HP.out _ (HC.out.keep (b1 _ _))).mono ?_
    intro e w1 hr
    obtain ⟨rfl, hb1⟩ := Ret.ff hp.out hr
    clear hr
    go_wp2
    go_ret
    exact Ret.int (by rw [partsR_n (fun h => hp.out (HE.out.1 h.1).2.1)]) (bt (b1 _ _) hb1)
  have hp := Lib.hid hp
  go_enter Try.func35, Try.ntmps35
  go_wp2_with fail
  refine (HP.out _ (HC.out.keep (b1 _ _))).mono ?_
  intro e w1 hr
  obtain ⟨rfl, hb1⟩ := Ret.tt hp.out hr
  clear hr
  obtain ⟨hc1, hf1⟩ := bcell hb1
  have hz1 : w.heap.size < w1.heap.size := by have := hb1.size; simp at this; omega
  have hx4 := cell_keep hb1 (a := ⟨w.heap.size, 4, none⟩) (v := .slice A4 v.kids.length c4) (by simp [go_sem])
  have hB1 := bt (b1 _ _) hb1
  clear hc1 hf1 hb1
  go_wp2
  go_loopw [7, 8] (fun n i wr => ∃ k : Nat, k ≤ v.kids.length ∧ i = .int .i64 k ∧ ∃ r : Int, n = .int .i64 r ∧ -1 ≤ r ∧ r ≤ 600 ∧ Below w.heap.size w wr ∧ wr.cell? ⟨w.heap.size, 4, none⟩ = some (.slice A4 v.kids.length c4) ∧ w.heap.size < wr.heap.size ∧
      Hid ((0 ≤ r → JValue.okL (v.kids.take k) (d + 1) ∧ r + JValue.nodesL (v.kids.take k) = left - 1) ∧ (r < 0 → ¬ (JValue.okL v.kids (d + 1) ∧ (JValue.nodesL v.kids : Int) ≤ left - 1)))) (fun _ i _ => v.kids.length - (intOf i).toNat)
  case atStart => exact ⟨0, Nat.zero_le _, rfl, _, rfl, by omega, by omega, hB1, hx4, hz1, fun _ => ⟨by simp [JValue.okL], by simp [JValue.nodesL]⟩, fun h => by omega⟩
  case round =>
    obtain ⟨k, hk, rfl, r, rfl, hr0, hr1, hbd, hx4, hz, HR⟩ := hrel
    by_cases hlt : k < v.kids.length
    · by_cases hrn : 0 ≤ r
      · obtain ⟨ad, A3', c3', A4', c4', rfl, y0, y1, y2, y3, y4, gg3, gg4, ll2, nn3, nn4⟩ := JValue.elem (G4.out.below hbd) k hlt
        have HM := Lib.hid (HK.out v.kids[k] (List.getElem_mem hlt) _ (d + 1) r wr (JValue.close_ _ gg3 gg4 ll2) (by omega) (by omega) hrn hr1)
        have htk := Lib.hid (JValue.okL_take v.kids (d + 1) k hlt)
        have hnt := Lib.hid (JValue.nodesL_take v.kids k hlt)
        have hnl := Lib.hid (JValue.nodesL_le v.kids (k + 1))
        have hget := Lib.hid (fun h : JValue.okL v.kids (d + 1) => JValue.okL_get h k hlt)
        clear gg3 gg4
        by_cases hok : v.kids[k].okAt (d + 1) ∧ (v.kids[k].nodes : Int) ≤ r
        · have e2 := partsR_y hok.1 hok.2
          have hok := Lib.hid hok
          go_wp2_with fail
          refine HM.out.mono ?_
          rintro e w2 ⟨rfl, hb2⟩
          have hx4 := cell_keep hb2 hx4
          have hz2 := hb2.size
          go_wp2
          go_roundw
          case rel => exact ⟨k + 1, by omega, by go_num, r - v.kids[k].nodes, rfl, by have := hok.out.2; omega, by omega, bt hbd hb2, hx4, by omega, fun _ => ⟨htk.out.2 ⟨(HR.out.1 hrn).1, hok.out.1⟩, by have := (HR.out.1 hrn).2; have := hnt.out; omega⟩, fun h => by have := hok.out.2; omega⟩
          case measure => simp [intOf]; omega
        · have e2 := partsR_n hok
          have hok := Lib.hid hok
          go_wp2_with fail
          refine HM.out.mono ?_
          rintro e w2 ⟨rfl, hb2⟩
          have hx4 := cell_keep hb2 hx4
          have hz2 := hb2.size
          go_wp2
          go_roundw
          case rel => exact ⟨k + 1, by omega, by go_num, -1, rfl, by omega, by omega, bt hbd hb2, hx4, by omega, fun h => by omega, fun _ h => hok.out ⟨hget.out h.1, by have := (HR.out.1 hrn).2; have := hnt.out; have := hnl.out; omega⟩⟩
          case measure => simp [intOf]; omega
      · go_wp2
        go_ret
        exact Ret.int (by rw [partsR_n (fun h => HR.out.2 (by omega) ⟨(HE.out.1 h.1).2.2, by have := HN.out; omega⟩)]; omega) hbd
    · by_cases hrn : 0 ≤ r
      · go_wp2
        go_ret
        exact Ret.int (by
          have h2 := HR.out.1 hrn
          rw [List.take_of_length_le (by omega)] at h2
          rw [partsR_y (HE.out.2 ⟨by omega, hp.out, h2.1⟩) (by have := HN.out; omega)]
          have := HN.out; omega) hbd
      · go_wp2
        go_ret
        exact Ret.int (by rw [partsR_n (fun h => HR.out.2 (by omega) ⟨(HE.out.1 h.1).2.2, by have := HN.out; omega⟩)]; omega) hbd
theorem l1Parts_all : ∀ n, ∀ v : JValue, SizeOf.sizeOf v < n → L1Parts v
  | 0 => fun _ h => absurd h (by omega)
  | n + 1 => fun v h => l1Parts_of v fun x hx => l1Parts_all n x (by have := JValue.kids_lt v; have := List.sizeOf_lt_of_mem hx; omega)
theorem l1Parts_c (v : JValue) : L1Parts v := l1Parts_all _ v (Nat.lt_succ_self _)

/-- A value is ok. -/
def JOk (v : JValue) : Prop := v.okAt 1 ∧ v.nodes ≤ 600
theorem specJsonOk_c (v : JValue) (cs : List Value) (w : World) (hcs : RdL w v.enc cs) : Calls Try.prog 9 #[.agg cs.toArray] w (Ret w (.bool (tf (JOk v)))) := by
  have HM := Lib.hid (fun W h => l1Parts_c v cs 1 600 W h (by omega) (by omega) (by omega) (by omega))
  have HC := Lib.hid hcs
  obtain ⟨A3, c3, A4, c4, rfl, g3, g4, l2, n3, n4⟩ := JValue.open_ hcs
  clear hcs g3 g4
  by_cases h : JOk v
  · have e2 := partsR_y (left := 600) h.1 (by have := h.2; omega)
    have hn := h.2
    have h := Lib.hid h
    go_enter Try.func9, Try.ntmps9
    go_wp2_with fail
    refine (HM.out _ (HC.out.keep (b1 _ _))).mono ?_
    rintro e w1 ⟨rfl, hb1⟩
    go_wp2
    go_ret
    exact Ret.d ⟨fun _ => by omega, fun _ => h.out⟩ (bt (b1 _ _) hb1)
  · have e2 := partsR_n (v := v) (d := 1) (left := 600) (fun k => h ⟨k.1, by have := k.2; omega⟩)
    have h := Lib.hid h
    go_enter Try.func9, Try.ntmps9
    go_wp2_with fail
    refine (HM.out _ (HC.out.keep (b1 _ _))).mono ?_
    rintro e w1 ⟨rfl, hb1⟩
    go_wp2
    go_ret
    exact Ret.f h.out (bt (b1 _ _) hb1)
end Go.Proofs.Ytegabeefggcelaa.Lib
