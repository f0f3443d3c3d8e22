/- What a field needs, on the program's side: need by need. No condition. -/
import Derived.Test.YtmkagpmdindlpaaPartD
set_option linter.unusedVariables false
set_option linter.unusedSimpArgs false
namespace Go.Proofs.Ytmkagpmdindlpaa.Lib
open Go.RowKit

set_option maxRecDepth 100000 in
set_option maxHeartbeats 8000000 in
theorem badNeed_tail (t : JTyp) (f : JField) (cs ds : List Value) (w : World) (hx : RdL w t.enc cs) (hy : RdL w f.enc ds) (h1 : ¬ (f.far = true ∧ f.shared = true)) (h2 : f.needs ≠ []) (h3 : ¬ HeadBad t f) :
    Calls Try.prog 102 #[.agg cs.toArray, .agg ds.toArray] w (Ret w (.bool (tf (t.badNeed f)))) := by
  have hbn : t.badNeed f ↔ ∃ i, ∃ h : i < f.needs.length, NeedBad t f i h := by
    rw [badNeed_iff]
    constructor
    · rintro (h | ⟨_, h | h⟩)
      · exact absurd h h1
      · exact absurd h h3
      · exact h
    · intro h; exact .inr ⟨h2, .inr h⟩
  unfold HeadBad at h3
  simp only [not_or, Bool.not_eq_true] at h3
  obtain ⟨e1, e2, e3, e4, e5, e6⟩ := h3
  have hn : tf f.needy = true := tf_t h2
  clear h1
  have hx' := hx
  have hy' := hy
  obtain ⟨A2, c2, rfl, g2, l0, l1, n2⟩ := JTyp.open_ hx
  obtain ⟨A7, c7, rfl, g7, m0, m1, n7⟩ := JField.open_ hy
  have HX := Lib.hid (fun W (h : Below w.heap.size w W) => hx'.keep h)
  have HNc := Lib.hid (fun W (h : Below w.heap.size w W) => needy_c f _ W (hy'.keep h))
  obtain ⟨nm, of, li, mu, fa, hi, sh, nd⟩ := f
  simp only at e1 e2 e3 e4 e5 e6 h2 hn hbn HNc g7 m0 m1 n7 ⊢
  subst e2 e3 e4
  have G7 := Lib.hid g7
  have HF := Lib.hid (fun W (h : Below w.heap.size w W) (name : ByteArray) => tfind_c t _ name W (hx'.keep h))
  have t1 : (of.toList == [105, 110, 116]) = true := lit_t (Classical.not_not.1 e1)
  have t2 : (nm.toList == t.key.toList) = false := str_f e5
  have t3 : (t.key.toList == []) = false := empty_f e6
  have hb0 := Lib.hid (bt (b1 _ _) (b1 _ _) : Below w.heap.size w ((w.alloc (.cells #[.string t.name, .string t.key, .slice A2 t.fields.length c2] 71)).alloc (.cells #[.string nm, .string of, .bool false, .bool false, .bool false, .bool hi, .bool sh, .slice A7 nd.length c7] 59)))
  replace hbn := Lib.hid hbn
  rw [hn] at HNc
  clear hx hx' g2 hy hy' g7 e1 e5 e6 h2 hn
  go_enter Try.func102, Try.ntmps102
  go_wp2_with fail
  refine (HNc.out _ hb0.out).mono ?_
  rintro e w1 ⟨rfl, hb1⟩
  obtain ⟨hc1, hf1⟩ := bcell hb1
  have hz1 : w.heap.size + 1 < w1.heap.size := by have := hb1.size; simp at this; omega
  have hz0 : w.heap.size < w1.heap.size := by omega
  have hB1 := Lib.hid hb1
  clear hb1
  go_wp2
  go_loopw [5, 6, 7, 8, 48] (fun _ _ _ _ i wr => ∃ k : Nat, k ≤ nd.length ∧ i = .int .i64 k ∧ Hid (Below ((w.alloc (.cells #[.string t.name, .string t.key, .slice A2 t.fields.length c2] 71)).alloc (.cells #[.string nm, .string of, .bool false, .bool false, .bool false, .bool hi, .bool sh, .slice A7 nd.length c7] 59)).heap.size ((w.alloc (.cells #[.string t.name, .string t.key, .slice A2 t.fields.length c2] 71)).alloc (.cells #[.string nm, .string of, .bool false, .bool false, .bool false, .bool hi, .bool sh, .slice A7 nd.length c7] 59)) wr) ∧ Hid (∀ j (h : j < nd.length), j < k → ¬ NeedBad t ⟨nm, of, false, false, false, hi, sh, nd⟩ j h)) (fun _ _ _ _ i _ => nd.length - (intOf i).toNat)
  case atStart => exact ⟨0, Nat.zero_le _, rfl, hB1, Lib.hid (fun j h hj => absurd hj (by omega))⟩
  case round =>
    obtain ⟨k, hk, rfl, HB, HA⟩ := hrel
    have hBw := Lib.hid (bt hb0.out HB.out)
    by_cases hlt : k < nd.length
    case neg =>
      go_wp2
      go_ret
      exact Ret.f (fun h => by obtain ⟨j, hj, hb⟩ := hbn.out.1 h; exact HA.out j hj (by omega) hb) hBw.out
    obtain ⟨ad, rfl, q0, q1⟩ := Rd.elem_str (G7.out.below hBw.out) k hlt
    obtain ⟨hcB, hfB⟩ := bcell HB.out
    have hzr : w.heap.size + 1 < wr.heap.size := by have := HB.out.size; simp at this; omega
    have hzr0 : w.heap.size < wr.heap.size := by omega
    have x0 : wr.cell? ⟨w.heap.size, 0, none⟩ = some (.string t.name) := cell_keep HB.out (by simp [go_sem])
    have x1 : wr.cell? ⟨w.heap.size, 1, none⟩ = some (.string t.key) := cell_keep HB.out (by simp [go_sem])
    have x2 : wr.cell? ⟨w.heap.size, 2, none⟩ = some (.slice A2 t.fields.length c2) := cell_keep HB.out (by simp [go_sem])
    have x7 : wr.cell? ⟨w.heap.size + 1, 7, none⟩ = some (.slice (some ad) nd.length c7) := cell_keep HB.out (by simp [go_sem])
    clear hc1 hf1 hcB hfB
    go_wp2_with fail
    refine (HF.out wr hBw.out nd[k]).mono ?_
    rintro e w2 ⟨us, rfl, hu, hb2⟩
    have hu' := hu
    obtain ⟨A3, c3, rfl, g3, p0, p1, n3⟩ := JField.open_ hu
    have x7b := cell_keep hb2 x7
    have hz2 : w.heap.size + 1 < w2.heap.size := by have := hb2.size; omega
    have hB2 := Lib.hid (bt HB.out hb2)
    have q0b := cell_keep hb2 q0
    clear hb2 hu g3 x0 x1 x2 x7 q0
    cases hv : t.find nd[k] with
    | none =>
      simp only [Option.getD_none, Option.isSome_none]
      clear hu'
      replace hv := Lib.hid hv
      go_wp2
      go_ret
      exact Ret.t (hbn.out.2 ⟨k, hlt, .inl (fun ⟨g, e, _⟩ => by have := hv.out; rw [this] at e; cases e)⟩) (bt hb0.out (bt hB2.out (b1 _ _)))
    | some g =>
      rw [hv] at hu' p0 p1 n3
      simp only [Option.getD_some, Option.isSome_some] at hu' p0 p1 n3 ⊢
      have HP := Lib.hid (fun W (h : Below w2.heap.size w2 W) => plainInt_c g _ W (hu'.keep h))
      clear hu'
      replace hv := Lib.hid hv
      by_cases hg : g.plainInt
      case neg =>
        have hgf : tf g.plainInt = false := tf_f hg
        replace hg := Lib.hid hg
        go_wp2_with fail
        refine (HP.out _ (b1 _ _)).mono ?_
        rintro e w3 ⟨rfl, hb3⟩
        have hB3 := Lib.hid (bt hb0.out (bt hB2.out (bt (b1 _ _) hb3)))
        clear hb3 HP
        go_wp2
        go_ret
        exact Ret.t (hbn.out.2 ⟨k, hlt, .inl (fun ⟨g2, e, hp⟩ => by have := hv.out; rw [this] at e; injection e with e; subst e; exact hg.out hp)⟩) hB3.out
      have hgt : tf g.plainInt = true := tf_t hg
      replace hg := Lib.hid hg
      by_cases hk0 : k = 0
      · have hkI : ¬ (0 : Int) < k := by omega
        have hk0' := Lib.hid hk0
        clear hk0
        go_wp2_with fail
        refine (HP.out _ (b1 _ _)).mono ?_
        rintro e w3 ⟨rfl, hb3⟩
        have hB3 := Lib.hid (bt hB2.out (bt (b1 _ _) hb3))
        clear hb3 HP
        go_wp2
        go_roundw
        case rel => exact ⟨k + 1, by omega, by go_num, hB3.out, Lib.hid (fun j h hj => by
          by_cases e : j = k
          · subst e
            rintro (hb | ⟨hb, _⟩)
            · exact hb ⟨g, hv.out, hg.out⟩
            · have := hk0'.out; omega
          · exact HA.out j h (by omega))⟩
        case measure => simp [intOf]; omega
      obtain ⟨m, rfl⟩ : ∃ m, k = m + 1 := ⟨k - 1, by omega⟩
      obtain ⟨ad2, ea, r0, r1⟩ := Rd.elem_str (G7.out.below (bt hb0.out hB2.out)) m (by omega)
      injection ea with ea
      subst ea
      have hm0 : m < nd.length := by omega
      have hm1 : (m : Int) < nd.length := by omega
      by_cases hle : LeB nd[m + 1] nd[m]
      · have tl := leB_t hle
        replace hle := Lib.hid hle
        go_wp2_with fail
        refine (HP.out _ (b1 _ _)).mono ?_
        rintro e w3 ⟨rfl, hb3⟩
        have x7c := cell_keep (bt (b1 _ _) hb3) x7b
        have r0c := cell_keep (bt (b1 _ _) hb3) r0
        have hB3 := Lib.hid (bt hB2.out (bt (b1 _ _) hb3))
        clear hb3 HP x7b r0 q0b
        go_wp2
        go_ret
        exact Ret.t (hbn.out.2 ⟨m + 1, hlt, .inr ⟨by omega, by simpa using hm0, by simpa using hle.out⟩⟩) (bt hb0.out hB3.out)
      · have tl := leB_f hle
        replace hle := Lib.hid hle
        go_wp2_with fail
        refine (HP.out _ (b1 _ _)).mono ?_
        rintro e w3 ⟨rfl, hb3⟩
        have x7c := cell_keep (bt (b1 _ _) hb3) x7b
        have r0c := cell_keep (bt (b1 _ _) hb3) r0
        have hB3 := Lib.hid (bt hB2.out (bt (b1 _ _) hb3))
        clear hb3 HP x7b r0 q0b
        go_wp2
        go_roundw
        case rel => exact ⟨m + 1 + 1, by omega, by go_num, hB3.out, Lib.hid (fun j h hj => by
          by_cases e : j = m + 1
          · subst e
            rintro (hb | ⟨_, _, hb⟩)
            · exact hb ⟨g, hv.out, hg.out⟩
            · exact hle.out (by simpa using hb)
          · exact HA.out j h (by omega))⟩
        case measure => simp [intOf]; omega
theorem badNeed_c (t : JTyp) (f : JField) (cs ds : List Value) (w : World) (hx : RdL w t.enc cs) (hy : RdL w f.enc ds) :
    Calls Try.prog 102 #[.agg cs.toArray, .agg ds.toArray] w (Ret w (.bool (tf (t.badNeed f)))) := by
  by_cases h : (f.far = true ∧ f.shared = true) ∨ f.needs = [] ∨ HeadBad t f
  · exact badNeed_head t f cs ds w hx hy h
  · rw [not_or, not_or] at h
    exact badNeed_tail t f cs ds w hx hy h.1 h.2.1 h.2.2
end Go.Proofs.Ytmkagpmdindlpaa.Lib
