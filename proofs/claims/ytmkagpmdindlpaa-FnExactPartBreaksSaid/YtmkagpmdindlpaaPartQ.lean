/- The program's PartCheck. Parts of 2^20 at most. -/
import Derived.Test.YtmkagpmdindlpaaPartO
import Derived.Test.YtmkagpmdindlpaaPartN
import Derived.Test.YtmkagpmdindlpaaGet1
set_option linter.unusedVariables false
set_option linter.unusedSimpArgs false
namespace Go.Proofs.Ytmkagpmdindlpaa.Lib
open Go.RowKit

set_option maxRecDepth 100000 in
set_option maxHeartbeats 8000000 in
theorem implPartCheck_c (p : JPart) (cs : List Value) (w : World) (hx : RdL w p.enc cs) (hb : p.bulk ≤ 1048576) : Calls Try.prog 25 #[.agg cs.toArray] w (Ret w (.agg #[.int .i64 (faultOf p).at_, .int .i64 (faultOf p).code])) := by
  have hx' := hx
  obtain ⟨A1, c1, rfl, g1, l0, n1⟩ := JPart.open_ hx
  have HI := Lib.hid (fun W => isName_c p.name W l0)
  have HF := Lib.hid (fun W (h : Below w.heap.size w W) i (hi : i < p.types.length) => typeFault_c p i _ W (hx'.keep h) hi (by have := JPart.bulk_eq' p; omega))
  have HW := Lib.hid (fun W (h : Below w.heap.size w W) => write_c p _ W (hx'.keep h) hb)
  have HG := Lib.hid g1
  have hb0 := Lib.hid (bt (b1 _ _) (b1 _ _) : Below w.heap.size w ((w.alloc (.cells #[.string p.name, .slice A1 p.types.length c1] 33)).alloc (.cells #[.int .i64 0, .int .i64 0] 45)))
  clear hx hx' g1
  by_cases h5 : 5 < p.types.length
  · have h5i : (5 : Int) < p.types.length := by omega
    have e : faultOf p = ⟨6, 6⟩ := by unfold faultOf; rw [if_pos h5]
    go_enter Try.func25, Try.ntmps25
    go_wp2
    rw [e]
    refine bodyPost_ret (v := .agg #[.int .i64 6, .int .i64 6]) (by simp [results, Try.results25, go_sem]) rfl ⟨rfl, ?_⟩
    repeat (first | exact bt (b1 _ _) (b1 _ _) | (refine Below.setCell ?_ (by simp) _))
  have h5i : ¬ (5 : Int) < p.types.length := by omega
  by_cases hn : NameOk p.name
  case neg =>
    have e : faultOf p = ⟨0, 1⟩ := by unfold faultOf; rw [if_neg h5, if_pos (tf_f hn)]
    rw [tf_f hn] at HI
    replace hn := Lib.hid hn
    go_enter Try.func25, Try.ntmps25
    go_wp2_with fail
    refine (HI.out _).mono ?_
    rintro e2 w1 ⟨rfl, hb1⟩
    have p0 : w1.cell? ⟨w.heap.size, 0, none⟩ = some (.string p.name) := cell_keep hb1 (by simp [go_sem])
    have p1 : w1.cell? ⟨w.heap.size, 1, none⟩ = some (.slice A1 p.types.length c1) := cell_keep hb1 (by simp [go_sem])
    have q0 : w1.cell? ⟨w.heap.size + 1, 0, none⟩ = some (.int .i64 0) := cell_keep hb1 (by simp [go_sem])
    have q1 : w1.cell? ⟨w.heap.size + 1, 1, none⟩ = some (.int .i64 0) := cell_keep hb1 (by simp [go_sem])
    have qf : ∀ o, w1.frozen? ⟨w.heap.size + 1, o, none⟩ = false := fun o => (hb1.frozen (p := ⟨w.heap.size + 1, o, none⟩) (by simp)).trans (by simp [go_sem])
    have hb9 := bt hb0.out hb1
    go_wp2
    rw [e]
    (refine bodyPost_ret (v := .agg #[.int .i64 (0), .int .i64 (1)]) (by simp [results, Try.results25, go_sem, q0, q1]) rfl ⟨rfl, ?_⟩; repeat (first | (with_reducible exact hb9) | (refine Below.setCell ?_ (by simp) _)))
  case pos =>
  rw [tf_t hn] at HI
  replace hn := Lib.hid hn
  by_cases h0 : p.types = []
  · have e : faultOf p = ⟨0, 7⟩ := by unfold faultOf; rw [if_neg h5, if_neg (by rw [tf_t hn.out]; simp), if_pos (tf_t (.inl h0))]
    have el : (((p.types.length : Nat) : Int) == 0) = true := by rw [h0]; rfl
    replace h0 := Lib.hid h0
    clear h5
    go_enter Try.func25, Try.ntmps25
    go_wp2_with fail
    refine (HI.out _).mono ?_
    rintro e2 w1 ⟨rfl, hb1⟩
    have p0 : w1.cell? ⟨w.heap.size, 0, none⟩ = some (.string p.name) := cell_keep hb1 (by simp [go_sem])
    have p1 : w1.cell? ⟨w.heap.size, 1, none⟩ = some (.slice A1 p.types.length c1) := cell_keep hb1 (by simp [go_sem])
    have q0 : w1.cell? ⟨w.heap.size + 1, 0, none⟩ = some (.int .i64 0) := cell_keep hb1 (by simp [go_sem])
    have q1 : w1.cell? ⟨w.heap.size + 1, 1, none⟩ = some (.int .i64 0) := cell_keep hb1 (by simp [go_sem])
    have qf : ∀ o, w1.frozen? ⟨w.heap.size + 1, o, none⟩ = false := fun o => (hb1.frozen (p := ⟨w.heap.size + 1, o, none⟩) (by simp)).trans (by simp [go_sem])
    have hb9 := bt hb0.out hb1
    go_wp2
    rw [e]
    (refine bodyPost_ret (v := .agg #[.int .i64 (0), .int .i64 (7)]) (by simp [results, Try.results25, go_sem, q0, q1]) rfl ⟨rfl, ?_⟩; repeat (first | (with_reducible exact hb9) | (refine Below.setCell ?_ (by simp) _)))
  have hne : 0 < p.types.length := by
    cases ht : p.types with
    | nil => exact absurd ht h0
    | cons x r => simp
  obtain ⟨ad0, B2, d2, hA1, z0, z1, z2, k2, o0, o1, o2⟩ := JTyp.elem HG.out 0 hne
  subst hA1
  replace z0 : w.cell? ad0 = some (.string p.types[0].name) := by simpa [Addr.add] using z0
  replace z1 : w.cell? ⟨ad0.block, ad0.off + 1, none⟩ = some (.string p.types[0].key) := by simpa [Addr.add] using z1
  have hneI : (0 : Int) < p.types.length := by omega
  have en : (((p.types.length : Nat) : Int) == 0) = false := by rw [beq_eq_false_iff_ne]; omega
  clear z2 k2 h0
  by_cases hq : p.types[0].name = wQuery
  case neg =>
    have e : faultOf p = ⟨0, 7⟩ := by unfold faultOf; rw [if_neg h5, if_neg (by rw [tf_t hn.out]; simp), if_pos (tf_t (.inr ⟨hne, .inl hq⟩))]
    have t1 := lit_f (l := [113, 117, 101, 114, 121]) hq
    replace hq := Lib.hid hq
    go_enter Try.func25, Try.ntmps25
    go_wp2_with fail
    refine (HI.out _).mono ?_
    rintro e2 w1 ⟨rfl, hb1⟩
    have p0 : w1.cell? ⟨w.heap.size, 0, none⟩ = some (.string p.name) := cell_keep hb1 (by simp [go_sem])
    have p1 : w1.cell? ⟨w.heap.size, 1, none⟩ = some (.slice (some ad0) p.types.length c1) := cell_keep hb1 (by simp [go_sem])
    have q0 : w1.cell? ⟨w.heap.size + 1, 0, none⟩ = some (.int .i64 0) := cell_keep hb1 (by simp [go_sem])
    have q1 : w1.cell? ⟨w.heap.size + 1, 1, none⟩ = some (.int .i64 0) := cell_keep hb1 (by simp [go_sem])
    have qf : ∀ o, w1.frozen? ⟨w.heap.size + 1, o, none⟩ = false := fun o => (hb1.frozen (p := ⟨w.heap.size + 1, o, none⟩) (by simp)).trans (by simp [go_sem])
    have hb9 := bt hb0.out hb1
    replace z0 := cell_keep hb9 z0
    replace z1 := cell_keep hb9 z1
    go_wp2
    rw [e]
    (refine bodyPost_ret (v := .agg #[.int .i64 (0), .int .i64 (7)]) (by simp [results, Try.results25, go_sem, q0, q1]) rfl ⟨rfl, ?_⟩; repeat (first | (with_reducible exact hb9) | (refine Below.setCell ?_ (by simp) _)))
  have t1 := lit_t (l := [113, 117, 101, 114, 121]) hq
  by_cases hk : p.types[0].key = ⟨#[]⟩
  case neg =>
    have e : faultOf p = ⟨0, 7⟩ := by unfold faultOf; rw [if_neg h5, if_neg (by rw [tf_t hn.out]; simp), if_pos (tf_t (.inr ⟨hne, .inr hk⟩))]
    have t2 := empty_f hk
    replace hq := Lib.hid hq
    replace hk := Lib.hid hk
    go_enter Try.func25, Try.ntmps25
    go_wp2_with fail
    refine (HI.out _).mono ?_
    rintro e2 w1 ⟨rfl, hb1⟩
    have p0 : w1.cell? ⟨w.heap.size, 0, none⟩ = some (.string p.name) := cell_keep hb1 (by simp [go_sem])
    have p1 : w1.cell? ⟨w.heap.size, 1, none⟩ = some (.slice (some ad0) p.types.length c1) := cell_keep hb1 (by simp [go_sem])
    have q0 : w1.cell? ⟨w.heap.size + 1, 0, none⟩ = some (.int .i64 0) := cell_keep hb1 (by simp [go_sem])
    have q1 : w1.cell? ⟨w.heap.size + 1, 1, none⟩ = some (.int .i64 0) := cell_keep hb1 (by simp [go_sem])
    have qf : ∀ o, w1.frozen? ⟨w.heap.size + 1, o, none⟩ = false := fun o => (hb1.frozen (p := ⟨w.heap.size + 1, o, none⟩) (by simp)).trans (by simp [go_sem])
    have hb9 := bt hb0.out hb1
    replace z0 := cell_keep hb9 z0
    replace z1 := cell_keep hb9 z1
    go_wp2
    rw [e]
    (refine bodyPost_ret (v := .agg #[.int .i64 (0), .int .i64 (7)]) (by simp [results, Try.results25, go_sem, q0, q1]) rfl ⟨rfl, ?_⟩; repeat (first | (with_reducible exact hb9) | (refine Below.setCell ?_ (by simp) _)))
  have t2 := empty_t hk
  have hr : ¬ RootBad p := fun h => by
    rcases h with h | ⟨_, h | h⟩
    · rw [h] at hne; exact absurd hne (by simp)
    · exact h hq
    · exact h hk
  have e0 : faultOf p = restFault p := by unfold faultOf; rw [if_neg h5, if_neg (by rw [tf_t hn.out]; simp), if_neg (by rw [tf_f hr]; simp)]
  replace e0 := Lib.hid e0
  replace hr := Lib.hid hr
  replace hq := Lib.hid hq
  replace hk := Lib.hid hk
  go_enter Try.func25, Try.ntmps25
  go_wp2_with fail
  refine (HI.out _).mono ?_
  rintro e2 w1 ⟨rfl, hb1⟩
  have p0 : w1.cell? ⟨w.heap.size, 0, none⟩ = some (.string p.name) := cell_keep hb1 (by simp [go_sem])
  have p1 : w1.cell? ⟨w.heap.size, 1, none⟩ = some (.slice (some ad0) p.types.length c1) := cell_keep hb1 (by simp [go_sem])
  have q0 : w1.cell? ⟨w.heap.size + 1, 0, none⟩ = some (.int .i64 0) := cell_keep hb1 (by simp [go_sem])
  have q1 : w1.cell? ⟨w.heap.size + 1, 1, none⟩ = some (.int .i64 0) := cell_keep hb1 (by simp [go_sem])
  have qf : ∀ o, w1.frozen? ⟨w.heap.size + 1, o, none⟩ = false := fun o => (hb1.frozen (p := ⟨w.heap.size + 1, o, none⟩) (by simp)).trans (by simp [go_sem])
  have hb9 := bt hb0.out hb1
  replace z0 := cell_keep hb9 z0
  replace z1 := cell_keep hb9 z1
  have hB1 := Lib.hid hb1
  clear hb1 hb9 q0 q1 qf
  go_wp2
  clear p0 p1 z0 z1
  go_loopw [42] (fun i wr => ∃ k : Nat, k ≤ p.types.length ∧ i = .int .i64 k ∧ Hid (Below ((w.alloc (.cells #[.string p.name, .slice (some ad0) p.types.length c1] 33)).alloc (.cells #[.int .i64 0, .int .i64 0] 45)).heap.size ((w.alloc (.cells #[.string p.name, .slice (some ad0) p.types.length c1] 33)).alloc (.cells #[.int .i64 0, .int .i64 0] 45)) wr) ∧ Hid (∀ j, j < k → codeAt p.types j = 0)) (fun i _ => p.types.length - (intOf i).toNat)
  case atStart => exact ⟨0, Nat.zero_le _, rfl, hB1, fun j h => absurd h (by omega)⟩
  case round =>
    obtain ⟨k, hk_, rfl, HB, HA⟩ := hrel
    have p0 : wr.cell? ⟨w.heap.size, 0, none⟩ = some (.string p.name) := cell_keep HB.out (by simp [go_sem])
    have p1 : wr.cell? ⟨w.heap.size, 1, none⟩ = some (.slice (some ad0) p.types.length c1) := cell_keep HB.out (by simp [go_sem])
    by_cases hlt : k < p.types.length
    case pos =>
      have hltI : (k : Int) < p.types.length := by omega
      go_wp2_with fail
      refine (HF.out _ (bt hb0.out HB.out) k hlt).mono ?_
      rintro e3 w3 ⟨rfl, hb3⟩
      have hB3 := Lib.hid (bt HB.out hb3)
      clear hb3 p0 p1
      have hc := codeAt_at hlt
      have hpos := typeCode_pos p.types k p.types[k]
      by_cases hf : 0 < typeCode p.types k p.types[k]
      · have e := restFault_some hlt HA.out (by rw [hc]; omega)
        rw [hc] at e
        generalize typeCode p.types k p.types[k] = fc at *
        replace hc := Lib.hid hc
        have q0 : w3.cell? ⟨w.heap.size + 1, 0, none⟩ = some (.int .i64 0) := cell_keep hB3.out (by simp [go_sem])
        have q1 : w3.cell? ⟨w.heap.size + 1, 1, none⟩ = some (.int .i64 0) := cell_keep hB3.out (by simp [go_sem])
        have qf : ∀ o, w3.frozen? ⟨w.heap.size + 1, o, none⟩ = false := fun o => (hB3.out.frozen (p := ⟨w.heap.size + 1, o, none⟩) (by simp)).trans (by simp [go_sem])
        have hb9 := bt hb0.out hB3.out
        go_wp2
        rw [e0.out, e]
        (refine bodyPost_ret (v := .agg #[.int .i64 ((k : Int) + 1), .int .i64 (fc)]) (by simp [results, Try.results25, go_sem, q0, q1]) rfl ⟨rfl, ?_⟩; repeat (first | (with_reducible exact hb9) | (refine Below.setCell ?_ (by simp) _)))
      have hc0 : codeAt p.types k = 0 := by omega
      replace hc0 := Lib.hid hc0
      clear hc
      generalize typeCode p.types k p.types[k] = fc at *
      go_wp2
      go_roundw
      case rel => exact ⟨k + 1, by omega, by go_num, hB3, Lib.hid (fun j hj => by
          by_cases e : j = k
          · subst e; exact hc0.out
          · exact HA.out j (by omega))⟩
      case measure => simp [intOf]; omega
    case neg =>
      have hke : k = p.types.length := by omega
      subst hke
      go_wp2_with fail
      refine (HW.out _ (bt hb0.out HB.out)).mono ?_
      rintro e3 w3 ⟨rfl, hb3⟩
      have e := restFault_none HA.out
      have hzT := Lib.hid (partT_size p hb)
      generalize partT p = T at *
      have hB3 := Lib.hid (bt HB.out hb3)
      clear hb3 p0 p1
      have q0 : w3.cell? ⟨w.heap.size + 1, 0, none⟩ = some (.int .i64 0) := cell_keep hB3.out (by simp [go_sem])
      have q1 : w3.cell? ⟨w.heap.size + 1, 1, none⟩ = some (.int .i64 0) := cell_keep hB3.out (by simp [go_sem])
      have qf : ∀ o, w3.frozen? ⟨w.heap.size + 1, o, none⟩ = false := fun o => (hB3.out.frozen (p := ⟨w.heap.size + 1, o, none⟩) (by simp)).trans (by simp [go_sem])
      have hb9 := bt hb0.out hB3.out
      by_cases ht : 1500 < T.size
      · have htI : (1500 : Int) < T.size := by omega
        rw [if_pos ht] at e
        replace e := Lib.hid e
        clear ht
        go_wp2
        rw [e0.out, e.out]
        (refine bodyPost_ret (v := .agg #[.int .i64 (0), .int .i64 (6)]) (by simp [results, Try.results25, go_sem, q0, q1]) rfl ⟨rfl, ?_⟩; repeat (first | (with_reducible exact hb9) | (refine Below.setCell ?_ (by simp) _)))
      · have htI : ¬ (1500 : Int) < T.size := by omega
        rw [if_neg ht] at e
        replace e := Lib.hid e
        clear ht
        go_wp2
        rw [e0.out, e.out]
        (refine bodyPost_ret (v := .agg #[.int .i64 (0), .int .i64 (0)]) (by simp [results, Try.results25, go_sem, q0, q1]) rfl ⟨rfl, ?_⟩; repeat (first | (with_reducible exact hb9) | (refine Below.setCell ?_ (by simp) _)))
end Go.Proofs.Ytmkagpmdindlpaa.Lib
