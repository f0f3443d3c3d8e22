/- The reference's PartCheck. Parts of 2^20 at most. -/
import Derived.Test.YtmkagpmdindlpaaPartO
import Derived.Test.YtmkagpmdindlpaaGet1
set_option linter.unusedVariables false
set_option linter.unusedSimpArgs false
namespace Go.Proofs.Ytmkagpmdindlpaa.Lib
open Go.RowKit

set_option maxRecDepth 100000 in
set_option maxHeartbeats 8000000 in
theorem specPartCheck_c (p : JPart) (cs : List Value) (w : World) (hx : RdL w p.enc cs) (hb : p.bulk ≤ 1048576) : Calls Try.prog 23 #[.agg cs.toArray] w (Ret w (.agg #[.int .i64 (faultOf p).at_, .int .i64 (faultOf p).code])) := by
  have hx' := hx
  obtain ⟨A1, c1, rfl, g1, l0, n1⟩ := JPart.open_ hx
  have HI := Lib.hid (fun W => l2Name_c p.name W l0)
  have HF := Lib.hid (fun W (h : Below w.heap.size w W) i (hi : i < p.types.length) => l2Fault_c p i _ W (hx'.keep h) hi)
  have HW := Lib.hid (fun W (h : Below w.heap.size w W) => l2Write_c p _ W (hx'.keep h) hb)
  have HG := Lib.hid g1
  clear hx hx' g1
  by_cases h5 : 5 < p.types.length
  · have h5i : (5 : Int) < p.types.length := by omega
    have e : faultOf p = ⟨6, 6⟩ := by unfold faultOf; rw [if_pos h5]
    go_enter Try.func23, Try.ntmps23
    go_wp2
    rw [e]
    refine bodyPost_ret (v := .agg #[.int .i64 6, .int .i64 6]) (by simp [results, Try.results23, go_sem]) rfl ⟨rfl, ?_⟩
    (repeat (first | exact bt (b1 _ _) (b1 _ _) | exact bt (bt (b1 _ _) (b1 _ _)) (by assumption) | (refine Below.setCell ?_ (by simp) _)))
  have h5i : ¬ (5 : Int) < p.types.length := by omega
  by_cases hn : NameOk p.name
  case neg =>
    have e : faultOf p = ⟨0, 1⟩ := by unfold faultOf; rw [if_neg h5, if_pos (tf_f hn)]
    have qN := Lib.hid (tf_f hn)
    replace hn := Lib.hid hn
    go_enter Try.func23, Try.ntmps23
    go_wp2_with fail
    refine (HI.out _).mono ?_
    intro e2 wq hr
    obtain ⟨rfl, rfl⟩ := RetQ.ff hn.out hr
    clear hr
    go_wp2
    rw [e]
    refine bodyPost_ret (v := .agg #[.int .i64 0, .int .i64 1]) (by simp [results, Try.results23, go_sem]) rfl ⟨rfl, ?_⟩
    (repeat (first | exact bt (b1 _ _) (b1 _ _) | exact bt (bt (b1 _ _) (b1 _ _)) (by assumption) | (refine Below.setCell ?_ (by simp) _)))
  case pos =>
  replace hn := Lib.hid hn
  by_cases h0 : p.types = []
  · have e : faultOf p = ⟨0, 7⟩ := by unfold faultOf; rw [if_neg h5, if_neg (by rw [tf_t hn.out]; simp), if_pos (tf_t (.inl h0))]
    have el : p.types.length = 0 := by rw [h0]; rfl
    rw [el] at h5i ⊢
    replace h0 := Lib.hid h0
    replace el := Lib.hid el
    clear h5i
    go_enter Try.func23, Try.ntmps23
    go_wp2_with fail
    refine (HI.out _).mono ?_
    intro e2 wq hr
    obtain ⟨rfl, rfl⟩ := RetQ.tt hn.out hr
    clear hr
    go_wp2
    rw [e]
    refine bodyPost_ret (v := .agg #[.int .i64 0, .int .i64 7]) (by simp [results, Try.results23, go_sem]) rfl ⟨rfl, ?_⟩
    (repeat (first | exact bt (b1 _ _) (b1 _ _) | exact bt (bt (b1 _ _) (b1 _ _)) (by assumption) | (refine Below.setCell ?_ (by simp) _)))
  have hne : 0 < p.types.length := by
    cases ht : p.types with
    | nil => exact absurd ht h0
    | cons x r => simp
  obtain ⟨ad0, B2, d2, hA1, z0, z1, z2, k2, o0, o1, o2⟩ := JTyp.elem HG.out 0 hne
  subst hA1
  replace z0 : w.cell? ad0 = some (.string p.types[0].name) := by simpa [Addr.add] using z0
  replace z1 : w.cell? ⟨ad0.block, ad0.off + 1, none⟩ = some (.string p.types[0].key) := by simpa [Addr.add] using z1
  have hza := World.block_lt_of_cell? w _ z0
  have hneI : (0 : Int) < p.types.length := by omega
  have en : (((p.types.length : Nat) : Int) == 0) = false := by rw [beq_eq_false_iff_ne]; omega
  clear z2 k2 h0
  by_cases hq : p.types[0].name = wQuery
  case neg =>
    have e : faultOf p = ⟨0, 7⟩ := by unfold faultOf; rw [if_neg h5, if_neg (by rw [tf_t hn.out]; simp), if_pos (tf_t (.inr ⟨hne, .inl hq⟩))]
    have t1 := lit_f (l := [113, 117, 101, 114, 121]) hq
    replace hq := Lib.hid hq
    go_enter Try.func23, Try.ntmps23
    go_wp2_with fail
    refine (HI.out _).mono ?_
    intro e2 wq hr2
    obtain ⟨rfl, rfl⟩ := RetQ.tt hn.out hr2
    clear hr2
    go_wp2
    rw [e]
    refine bodyPost_ret (v := .agg #[.int .i64 0, .int .i64 7]) (by simp [results, Try.results23, go_sem]) rfl ⟨rfl, ?_⟩
    (repeat (first | exact bt (b1 _ _) (b1 _ _) | exact bt (bt (b1 _ _) (b1 _ _)) (by assumption) | (refine Below.setCell ?_ (by simp) _)))
  have t1 := lit_t (l := [113, 117, 101, 114, 121]) hq
  by_cases hk : p.types[0].key = ⟨#[]⟩
  case neg =>
    have e : faultOf p = ⟨0, 7⟩ := by unfold faultOf; rw [if_neg h5, if_neg (by rw [tf_t hn.out]; simp), if_pos (tf_t (.inr ⟨hne, .inr hk⟩))]
    have t2 := empty_f hk
    replace hq := Lib.hid hq
    replace hk := Lib.hid hk
    go_enter Try.func23, Try.ntmps23
    go_wp2_with fail
    refine (HI.out _).mono ?_
    intro e2 wq hr2
    obtain ⟨rfl, rfl⟩ := RetQ.tt hn.out hr2
    clear hr2
    go_wp2
    rw [e]
    refine bodyPost_ret (v := .agg #[.int .i64 0, .int .i64 7]) (by simp [results, Try.results23, go_sem]) rfl ⟨rfl, ?_⟩
    (repeat (first | exact bt (b1 _ _) (b1 _ _) | exact bt (bt (b1 _ _) (b1 _ _)) (by assumption) | (refine Below.setCell ?_ (by simp) _)))
  have t2 := empty_t hk
  have hr : ¬ RootBad p := fun h => by
    rcases h with h | ⟨_, h | h⟩
    · rw [h] at hne; exact absurd hne (by simp)
    · exact h hq
    · exact h hk
  have e0 : faultOf p = restFault p := by unfold faultOf; rw [if_neg h5, if_neg (by rw [tf_t hn.out]; simp), if_neg (by rw [tf_f hr]; simp)]
  replace e0 := Lib.hid e0
  replace hr := Lib.hid hr
  replace hq := Lib.hid hq
  replace hk := Lib.hid hk
  have hb0 := Lib.hid (bt (b1 _ _) (b1 _ _) : Below w.heap.size w ((w.alloc (.cells #[.string p.name, .slice (some ad0) p.types.length c1] 33)).alloc (.cells #[.int .i64 0, .int .i64 0] 45)))
  go_enter Try.func23, Try.ntmps23
  go_wp2_with fail
  refine (HI.out _).mono ?_
  intro e2 wq hr2
  obtain ⟨rfl, rfl⟩ := RetQ.tt hn.out hr2
  clear hr2
  go_wp2
  go_loopw [3, 4, 5] (fun i _ _ wr => ∃ k : Nat, k ≤ p.types.length ∧ i = .int .i64 k ∧ Hid (Below ((w.alloc (.cells #[.string p.name, .slice (some ad0) p.types.length c1] 33)).alloc (.cells #[.int .i64 0, .int .i64 0] 45)).heap.size ((w.alloc (.cells #[.string p.name, .slice (some ad0) p.types.length c1] 33)).alloc (.cells #[.int .i64 0, .int .i64 0] 45)) wr) ∧ Hid (∀ j, j < k → codeAt p.types j = 0)) (fun i _ _ _ => p.types.length - (intOf i).toNat)
  case atStart => exact ⟨0, Nat.zero_le _, rfl, Below.refl _ _, fun j h => absurd h (by omega)⟩
  case round =>
    obtain ⟨k, hk_, rfl, HB, HA⟩ := hrel
    have p0 : wr.cell? ⟨w.heap.size, 0, none⟩ = some (.string p.name) := cell_keep HB.out (by simp [go_sem])
    have p1 : wr.cell? ⟨w.heap.size, 1, none⟩ = some (.slice (some ad0) p.types.length c1) := cell_keep HB.out (by simp [go_sem])
    by_cases hlt : k < p.types.length
    case pos =>
      have hltI : (k : Int) < p.types.length := by omega
      go_wp2_with fail
      refine (HF.out _ (bt hb0.out HB.out) k hlt).mono ?_
      rintro e3 w3 ⟨rfl, hb3⟩
      have hB3 := Lib.hid (bt HB.out hb3)
      clear hb3 p0 p1
      have p1 : w3.cell? ⟨w.heap.size, 1, none⟩ = some (.slice (some ad0) p.types.length c1) := cell_keep hB3.out (by simp [go_sem])
      have hc := codeAt_at hlt
      rw [typeCode_fault] at hc
      by_cases hf : faultCode p.types k p.types[k] ≠ 0
      · rw [if_pos hf] at hc
        have e := restFault_some hlt HA.out (by rw [hc]; exact hf)
        rw [hc] at e
        have tb : (faultCode p.types k p.types[k] == 0) = false := by rw [beq_eq_false_iff_ne]; exact hf
        generalize faultCode p.types k p.types[k] = fc at *
        replace hc := Lib.hid hc
        replace hf := Lib.hid hf
        have q0 : w3.cell? ⟨w.heap.size + 1, 0, none⟩ = some (.int .i64 0) := cell_keep hB3.out (by simp [go_sem])
        have q1 : w3.cell? ⟨w.heap.size + 1, 1, none⟩ = some (.int .i64 0) := cell_keep hB3.out (by simp [go_sem])
        have qf : ∀ o, w3.frozen? ⟨w.heap.size + 1, o, none⟩ = false := fun o => (hB3.out.frozen (p := ⟨w.heap.size + 1, o, none⟩) (by simp)).trans (by simp [go_sem])
        have hb9 := bt hb0.out hB3.out
        go_wp2
        rw [e0.out, e]
        refine bodyPost_ret (v := .agg #[.int .i64 ((k : Int) + 1), .int .i64 fc]) (by simp [results, Try.results23, go_sem, q0, q1]) rfl ⟨rfl, ?_⟩
        repeat (first | (with_reducible exact hb9) | (refine Below.setCell ?_ (by simp) _))
      rw [if_neg hf] at hc
      replace hf : faultCode p.types k p.types[k] = 0 := by simpa using hf
      have tb : (faultCode p.types k p.types[k] == 0) = true := by rw [hf]; rfl
      obtain ⟨ad, A2, c2, hA2, y0, y1, y2, g2, m0, m1, n2⟩ := JTyp.elem (HG.out.below (bt hb0.out hB3.out)) k hlt
      obtain rfl := Option.some.inj hA2
      have HF2 := Lib.hid (fun W (h : Below w3.heap.size w3 W) => g2.below h)
      replace hc := Lib.hid hc
      clear y0 y1 g2
      go_wp2
      go_loopw [5] (fun i wr => ∃ q : Nat, q ≤ p.types[k].fields.length ∧ i = .int .i64 q ∧ Hid (Below w3.heap.size w3 wr) ∧ Hid (∀ j (h : j < p.types[k].fields.length), j < q → ¬ p.types[k].fields[j].of = wQuery)) (fun i _ => p.types[k].fields.length - (intOf i).toNat)
      case atStart => exact ⟨0, Nat.zero_le _, rfl, Below.refl _ _, fun j h hj => absurd hj (by omega)⟩
      case round =>
        obtain ⟨q, hq_, rfl, HB2, HA2⟩ := hrel
        have p1 : wr.cell? ⟨w.heap.size, 1, none⟩ = some (.slice (some ad0) p.types.length c1) := cell_keep (bt hB3.out HB2.out) (by simp [go_sem])
        have y2 := cell_keep HB2.out y2
        by_cases hlq : q < p.types[k].fields.length
        case pos =>
          have hlqI : (q : Int) < p.types[k].fields.length := by omega
          obtain ⟨ae, A7, c7, rfl, v0, v1, v2, v3, v4, v5, v6, v7, g7, k0, k1, k7⟩ := JField.elem (HF2.out _ HB2.out) q hlq
          clear g7 v0 v2 v3 v4 v5 v6 v7
          by_cases hw : p.types[k].fields[q].of = wQuery
          · have t3 := lit_t (l := [113, 117, 101, 114, 121]) hw
            have hc' : codeAt p.types k = 7 := by rw [hc.out, if_pos (tf_t ⟨_, List.getElem_mem hlq, hw⟩)]
            have e := restFault_some hlt HA.out (by rw [hc']; decide)
            rw [hc'] at e
            replace hc' := Lib.hid hc'
            replace hw := Lib.hid hw
            replace e := Lib.hid e
            have hb8 := bt hB3.out HB2.out
            have q0 : wr.cell? ⟨w.heap.size + 1, 0, none⟩ = some (.int .i64 0) := cell_keep hb8 (by simp [go_sem])
            have q1 : wr.cell? ⟨w.heap.size + 1, 1, none⟩ = some (.int .i64 0) := cell_keep hb8 (by simp [go_sem])
            have qf : ∀ o, wr.frozen? ⟨w.heap.size + 1, o, none⟩ = false := fun o => (hb8.frozen (p := ⟨w.heap.size + 1, o, none⟩) (by simp)).trans (by simp [go_sem])
            have hb9 := bt hb0.out hb8
            go_wp2
            rw [e0.out, e.out]
            refine bodyPost_ret (v := .agg #[.int .i64 ((k : Int) + 1), .int .i64 7]) (by simp [results, Try.results23, go_sem, q0, q1]) rfl ⟨rfl, ?_⟩
            repeat (first | (with_reducible exact hb9) | (refine Below.setCell ?_ (by simp) _))
          · have t3 := lit_f (l := [113, 117, 101, 114, 121]) hw
            replace hw := Lib.hid hw
            go_wp2
            go_roundw
            case rel => exact ⟨q + 1, by omega, by go_num, HB2, Lib.hid (fun j h hj => by
                by_cases e : j = q
                · subst e; exact hw.out
                · exact HA2.out j h (by omega))⟩
            case measure => simp [intOf]; omega
        case neg =>
          have hc' : codeAt p.types k = 0 := by
            rw [hc.out, if_neg]
            intro h
            obtain ⟨x, hx, hxo⟩ := tf_iff.1 h
            obtain ⟨j, hj, rfl⟩ := List.getElem_of_mem hx
            exact HA2.out j hj (by omega) hxo
          replace hc' := Lib.hid hc'
          go_wp2
          go_roundw
          case rel => exact ⟨k + 1, by omega, by go_num, Lib.hid (bt hB3.out HB2.out), Lib.hid (fun j hj => by
              by_cases e : j = k
              · subst e; exact hc'.out
              · exact HA.out j (by omega))⟩
          case measure => simp [intOf]; omega
    case neg =>
      have hke : k = p.types.length := by omega
      subst hke
      go_wp2_with fail
      refine (HW.out _ (bt hb0.out HB.out)).mono ?_
      rintro e3 w3 ⟨rfl, hb3⟩
      have e := restFault_none HA.out
      have hzT := Lib.hid (partT_size p hb)
      generalize partT p = T at *
      have hB3 := Lib.hid (bt HB.out hb3)
      clear hb3 p0 p1
      have q0 : w3.cell? ⟨w.heap.size + 1, 0, none⟩ = some (.int .i64 0) := cell_keep hB3.out (by simp [go_sem])
      have q1 : w3.cell? ⟨w.heap.size + 1, 1, none⟩ = some (.int .i64 0) := cell_keep hB3.out (by simp [go_sem])
      have qf : ∀ o, w3.frozen? ⟨w.heap.size + 1, o, none⟩ = false := fun o => (hB3.out.frozen (p := ⟨w.heap.size + 1, o, none⟩) (by simp)).trans (by simp [go_sem])
      have hb9 := bt hb0.out hB3.out
      by_cases ht : 1500 < T.size
      · have htI : (1500 : Int) < T.size := by omega
        rw [if_pos ht] at e
        replace e := Lib.hid e
        clear ht
        go_wp2
        rw [e0.out, e.out]
        refine bodyPost_ret (v := .agg #[.int .i64 0, .int .i64 6]) (by simp [results, Try.results23, go_sem, q0, q1]) rfl ⟨rfl, ?_⟩
        repeat (first | (with_reducible exact hb9) | (refine Below.setCell ?_ (by simp) _))
      · have htI : ¬ (1500 : Int) < T.size := by omega
        rw [if_neg ht] at e
        replace e := Lib.hid e
        clear ht
        go_wp2
        rw [e0.out, e.out]
        refine bodyPost_ret (v := .agg #[.int .i64 0, .int .i64 0]) (by simp [results, Try.results23, go_sem, q0, q1]) rfl ⟨rfl, ?_⟩
        repeat (first | (with_reducible exact hb9) | (refine Below.setCell ?_ (by simp) _))
end Go.Proofs.Ytmkagpmdindlpaa.Lib
