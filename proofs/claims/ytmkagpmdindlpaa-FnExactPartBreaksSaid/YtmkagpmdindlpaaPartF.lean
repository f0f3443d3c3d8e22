/- What a field needs, on the reference's side. No condition. -/
import Derived.Test.YtmkagpmdindlpaaPartE
import Derived.Deep.RegionHeld3
set_option linter.unusedVariables false
set_option linter.unusedSimpArgs false
namespace Go.Proofs.Ytmkagpmdindlpaa.Lib
open Go.RowKit

theorem bytesLess_total : ∀ a b : List UInt8, (!Op.bytesLess a b) = (Op.bytesLess b a || b == a)
  | [], [] => by simp [Op.bytesLess]
  | [], y :: b => by simp [Op.bytesLess]
  | x :: a, [] => by simp [Op.bytesLess]
  | x :: a, y :: b => by
    have ih := bytesLess_total a b
    rcases Nat.lt_trichotomy x.toNat y.toNat with h | h | h
    · have h1 : x < y := UInt8.lt_iff_toNat_lt.2 h
      have h2 : ¬ y < x := fun e => by have := UInt8.lt_iff_toNat_lt.1 e; omega
      have h3 : ¬ y = x := fun e => by subst e; omega
      have h4 : ¬ x = y := fun e => by subst e; omega
      simp [Op.bytesLess, h1, h2, h3, h4]
    · have h0 : x = y := UInt8.toNat_inj.1 h
      subst h0
      have h2 : ¬ x < x := fun e => by have := UInt8.lt_iff_toNat_lt.1 e; omega
      simp [Op.bytesLess, h2]
      simpa using ih
    · have h1 : y < x := UInt8.lt_iff_toNat_lt.2 h
      have h2 : ¬ x < y := fun e => by have := UInt8.lt_iff_toNat_lt.1 e; omega
      have h3 : ¬ y = x := fun e => by subst e; omega
      have h4 : ¬ x = y := fun e => by subst e; omega
      simp [Op.bytesLess, h1, h2, h3, h4]
theorem less_f {a b : ByteArray} (h : LeB b a) : Op.bytesLess a.toList b.toList = false := by
  have := bytesLess_total a.toList b.toList
  rw [show (Op.bytesLess b.toList a.toList || b.toList == a.toList) = true from h] at this
  simpa using this
theorem less_t {a b : ByteArray} (h : ¬ LeB b a) : Op.bytesLess a.toList b.toList = true := by
  have := bytesLess_total a.toList b.toList
  rw [leB_f h] at this
  simpa using this
def NeedsBad (t : JTyp) (f : JField) : Prop := f.needs ≠ [] ∧ (HeadBad t f ∨ ∃ i, ∃ h : i < f.needs.length, NeedBad t f i h)
theorem badNeed_needs {t : JTyp} {f : JField} : t.badNeed f ↔ (f.far = true ∧ f.shared = true) ∨ NeedsBad t f := badNeed_iff
set_option maxRecDepth 100000 in
set_option maxHeartbeats 4000000 in
theorem l2Needs_head (t : JTyp) (f : JField) (cs ds : List Value) (w : World) (hx : RdL w t.enc cs) (hy : RdL w f.enc ds) (hnn : f.needs ≠ []) (h1 : HeadBad t f) :
    Calls Try.prog 89 #[.agg cs.toArray, .agg ds.toArray] w (Ret w (.bool (tf (¬ NeedsBad t f)))) := by
  obtain ⟨A2, c2, rfl, g2, l0, l1, n2⟩ := JTyp.open_ hx
  obtain ⟨A7, c7, rfl, g7, m0, m1, n7⟩ := JField.open_ hy
  clear hx g2 hy g7
  have hpos : (0 : Int) < f.needs.length := by have := List.length_pos_iff.2 hnn; omega
  have hh : Hid (NeedsBad t f) := Lib.hid ⟨hnn, .inl h1⟩
  clear hnn
  rcases h1 with h1 | h1 | h1 | h1 | h1 | h1
  · have t1 : f.of.toList ≠ [105, 110, 116] := fun e => h1 (lit_iff.1 e)
    clear h1
    go_enter Try.func89, Try.ntmps89
    go_wp2
    all_goals
      go_ret
      exact Ret.f (fun h => h hh.out) (bt (b1 _ _) (b1 _ _))
  · go_enter Try.func89, Try.ntmps89
    go_wp2
    all_goals
      go_ret
      exact Ret.f (fun h => h hh.out) (bt (b1 _ _) (b1 _ _))
  · go_enter Try.func89, Try.ntmps89
    go_wp2
    all_goals
      go_ret
      exact Ret.f (fun h => h hh.out) (bt (b1 _ _) (b1 _ _))
  · go_enter Try.func89, Try.ntmps89
    go_wp2
    all_goals
      go_ret
      exact Ret.f (fun h => h hh.out) (bt (b1 _ _) (b1 _ _))
  · have t1 : f.name.toList = t.key.toList := by rw [h1]
    clear h1
    go_enter Try.func89, Try.ntmps89
    go_wp2
    all_goals
      go_ret
      exact Ret.f (fun h => h hh.out) (bt (b1 _ _) (b1 _ _))
  · have t1 : t.key.toList = [] := by rw [h1, ByteArray.toList_eq]
    clear h1
    go_enter Try.func89, Try.ntmps89
    go_wp2
    all_goals
      go_ret
      exact Ret.f (fun h => h hh.out) (bt (b1 _ _) (b1 _ _))
set_option maxRecDepth 100000 in
set_option maxHeartbeats 8000000 in
theorem l2Needs_tail (t : JTyp) (f : JField) (cs ds : List Value) (w : World) (hx : RdL w t.enc cs) (hy : RdL w f.enc ds) (h3 : ¬ HeadBad t f) :
    Calls Try.prog 89 #[.agg cs.toArray, .agg ds.toArray] w (Ret w (.bool (tf (¬ NeedsBad t f)))) := by
  have hbn : NeedsBad t f ↔ ∃ i, ∃ h : i < f.needs.length, NeedBad t f i h := by
    unfold NeedsBad
    constructor
    · rintro ⟨_, h | h⟩
      · exact absurd h h3
      · exact h
    · rintro ⟨i, h, hb⟩; exact ⟨fun e => by rw [e] at h; simp at h, .inr ⟨i, h, hb⟩⟩
  unfold HeadBad at h3
  simp only [not_or, Bool.not_eq_true] at h3
  obtain ⟨e1, e2, e3, e4, e5, e6⟩ := h3
  have hx' := hx
  obtain ⟨A2, c2, rfl, g2, l0, l1, n2⟩ := JTyp.open_ hx
  obtain ⟨A7, c7, rfl, g7, m0, m1, n7⟩ := JField.open_ hy
  have HF := Lib.hid (fun W (h : Below w.heap.size w W) (name : ByteArray) => l2Field_c t _ name W (hx'.keep h))
  obtain ⟨nm, of, li, mu, fa, hi, sh, nd⟩ := f
  simp only at e1 e2 e3 e4 e5 e6 hbn g7 m0 m1 n7 ⊢
  subst e2 e3 e4
  have G7 := Lib.hid g7
  have G2 := Lib.hid g2
  have t1 : (of.toList == [105, 110, 116]) = true := lit_t (Classical.not_not.1 e1)
  have t2 : (nm.toList == t.key.toList) = false := str_f e5
  have t3 : (t.key.toList == []) = false := empty_f e6
  have hb0 := Lib.hid (bt (b1 _ _) (b1 _ _) : Below w.heap.size w ((w.alloc (.cells #[.string t.name, .string t.key, .slice A2 t.fields.length c2] 71)).alloc (.cells #[.string nm, .string of, .bool false, .bool false, .bool false, .bool hi, .bool sh, .slice A7 nd.length c7] 59)))
  replace hbn := Lib.hid hbn
  clear hx hx' g2 hy g7 e1 e5 e6
  by_cases hnd : nd = []
  · subst hnd
    go_enter Try.func89, Try.ntmps89
    go_wp2
    go_loop [5, 6] (fun i _ => i = .int .i64 0) (fun _ _ => 0)
    case atStart => rfl
    case round =>
      subst hrel
      go_wp2
      go_ret
      exact Ret.t (fun h => by obtain ⟨i, h, _⟩ := hbn.out.1 h; simp at h) hb0.out
  have hpos : (0 : Int) < nd.length := by have := List.length_pos_iff.2 hnd; omega
  replace hnd := Lib.hid hnd
  go_enter Try.func89, Try.ntmps89
  go_wp2
  go_loopw [5, 6] (fun i _ wr => ∃ k : Nat, k ≤ nd.length ∧ i = .int .i64 k ∧ Hid (Below ((w.alloc (.cells #[.string t.name, .string t.key, .slice A2 t.fields.length c2] 71)).alloc (.cells #[.string nm, .string of, .bool false, .bool false, .bool false, .bool hi, .bool sh, .slice A7 nd.length c7] 59)).heap.size ((w.alloc (.cells #[.string t.name, .string t.key, .slice A2 t.fields.length c2] 71)).alloc (.cells #[.string nm, .string of, .bool false, .bool false, .bool false, .bool hi, .bool sh, .slice A7 nd.length c7] 59)) wr) ∧ Hid (∀ j (h : j < nd.length), j < k → ¬ NeedBad t ⟨nm, of, false, false, false, hi, sh, nd⟩ j h)) (fun i _ _ => nd.length - (intOf i).toNat)
  case atStart => exact ⟨0, Nat.zero_le _, rfl, Below.refl _ _, Lib.hid (fun j h hj => absurd hj (by omega))⟩
  case round =>
    obtain ⟨k, hk, rfl, HB, HA⟩ := hrel
    have hBw := Lib.hid (bt hb0.out HB.out)
    have x7 : wr.cell? ⟨w.heap.size + 1, 7, none⟩ = some (.slice A7 nd.length c7) := cell_keep HB.out (by simp [go_sem])
    have hzr : w.heap.size + 1 < wr.heap.size := by have := HB.out.size; simp at this; omega
    have hzr0 : w.heap.size < wr.heap.size := by omega
    by_cases hlt : k < nd.length
    case neg =>
      go_wp2
      go_ret
      exact Ret.t (fun h => by obtain ⟨j, hj, hb⟩ := hbn.out.1 h; exact HA.out j hj (by omega) hb) hBw.out
    obtain ⟨ad, rfl, q0, q1⟩ := Rd.elem_str (G7.out.below hBw.out) k hlt
    have x0 : wr.cell? ⟨w.heap.size, 0, none⟩ = some (.string t.name) := cell_keep HB.out (by simp [go_sem])
    have x1 : wr.cell? ⟨w.heap.size, 1, none⟩ = some (.string t.key) := cell_keep HB.out (by simp [go_sem])
    have x2 : wr.cell? ⟨w.heap.size, 2, none⟩ = some (.slice A2 t.fields.length c2) := cell_keep HB.out (by simp [go_sem])
    have hS := Lib.hid (fun (w' : World) (h : Below wr.heap.size wr w') => (⟨cell_keep h x0, cell_keep h x1, cell_keep h x2, cell_keep h x7, cell_keep h q0, h⟩ : w'.cell? ⟨w.heap.size, 0, none⟩ = some (.string t.name) ∧ w'.cell? ⟨w.heap.size, 1, none⟩ = some (.string t.key) ∧ w'.cell? ⟨w.heap.size, 2, none⟩ = some (.slice A2 t.fields.length c2) ∧ w'.cell? ⟨w.heap.size + 1, 7, none⟩ = some (.slice (some ad) nd.length c7) ∧ w'.cell? (ad.add k) = some (.string nd[k]) ∧ Below wr.heap.size wr w'))
    have hbd := (Below.refl wr.heap.size wr).drew
    clear x0 x1 x2 q0
    go_wp2_with fail
    go_region_held3 (fun w' => w'.cell? ⟨w.heap.size, 0, none⟩ = some (.string t.name) ∧ w'.cell? ⟨w.heap.size, 1, none⟩ = some (.string t.key) ∧ w'.cell? ⟨w.heap.size, 2, none⟩ = some (.slice A2 t.fields.length c2) ∧ w'.cell? ⟨w.heap.size + 1, 7, none⟩ = some (.slice (some ad) nd.length c7) ∧ w'.cell? (ad.add k) = some (.string nd[k]) ∧ Below wr.heap.size wr w') (first | (with_reducible exact hS.out _ hbd) | (with_reducible exact hS.out _ hb2))
      (first | (go_at_call 71; refine (HF.out _ (bt hBw.out hbd) nd[k]).mono ?_; rintro e w2 ⟨i, ⟨rfl, hb2_⟩, hf⟩; have hb2 := bt hbd hb2_))
    obtain ⟨z0, z1, z2, z7, zq, hb2'⟩ := hS.out _ hb2
    have hB2 := Lib.hid (bt HB.out hb2)
    have hz2 : w.heap.size + 1 < w2.heap.size := by have := hb2.size; omega
    clear hb2 hb2' hbd hS
    rcases find_first hf with ⟨rfl, hn⟩ | ⟨q, rfl, hq, hn⟩
    · have hv : t.find nd[k] = none := hn
      replace hv := Lib.hid hv
      clear hn hf
      go_wp2_with fail
      refine wp_region_quiet_lit (by kernel_rfl) (by kernel_rfl) ?_
      repeat (any_goals (first | go_big_quiet_step (fail) | quiet_step (fail)))
      refine wpQuiet_nil ?_
      intro _ hw'
      obtain ⟨nq, hw''⟩ := hw'
      subst hw''
      go_wp2
      go_ret
      exact Ret.f (fun h => h (hbn.out.2 ⟨k, hlt, .inl (fun ⟨g, e, _⟩ => by have := hv.out; rw [this] at e; cases e)⟩)) (bt hb0.out (drewN_below hB2.out _))
    have hv : t.find nd[k] = some t.fields[q] := hn
    replace hv := Lib.hid hv
    clear hn hf
    obtain ⟨ad2, A8, c8, rfl, y0, y1, y2, y3, y4, y5, y6, y7, g8, p0, p1, n8⟩ := JField.elem (G2.out.below (bt hb0.out hB2.out)) q hq
    have hqI : (q : Int) < t.fields.length := by omega
    have hq0 : ¬ (q : Int) < 0 := by omega
    clear g8
    by_cases hg : t.fields[q].plainInt
    case neg =>
      have hbad : NeedsBad t ⟨nm, of, false, false, false, hi, sh, nd⟩ := hbn.out.2 ⟨k, hlt, .inl (fun ⟨g, e, hp⟩ => by have := hv.out; rw [this] at e; injection e with e; subst e; exact hg hp)⟩
      replace hbad := Lib.hid hbad
      by_cases c1 : t.fields[q].needs = []
      · have d1 : ¬ (0 : Int) < t.fields[q].needs.length := by rw [c1]; simp
        by_cases c2 : t.fields[q].of = wInt
        · rw [show t.fields[q].of = ⟨#[105, 110, 116]⟩ from c2] at y1
          have d3 : t.fields[q].list = true := Classical.byContradiction fun hf => hg ⟨c2, by simpa using hf, c1⟩
          rw [d3] at y2
          go_wp2_with fail
          refine wp_region_quiet_lit (by kernel_rfl) (by kernel_rfl) ?_
          repeat (any_goals (first | go_big_quiet_step (fail) | quiet_step (fail)))
          refine wpQuiet_nil ?_
          intro _ hw'
          obtain ⟨nq, hw''⟩ := hw'
          subst hw''
          go_wp2
          go_ret
          exact Ret.f (fun h => h hbad.out) (bt hb0.out (drewN_below hB2.out _))
        · have d2 : (t.fields[q].of.toList == [105, 110, 116]) = false := lit_f c2
          go_wp2_with fail
          refine wp_region_quiet_lit (by kernel_rfl) (by kernel_rfl) ?_
          repeat (any_goals (first | go_big_quiet_step (fail) | quiet_step (fail)))
          refine wpQuiet_nil ?_
          intro _ hw'
          obtain ⟨nq, hw''⟩ := hw'
          subst hw''
          go_wp2
          go_ret
          exact Ret.f (fun h => h hbad.out) (bt hb0.out (drewN_below hB2.out _))
      · have d1 : (0 : Int) < t.fields[q].needs.length := by have := List.length_pos_iff.2 c1; omega
        go_wp2_with fail
        refine wp_region_quiet_lit (by kernel_rfl) (by kernel_rfl) ?_
        repeat (any_goals (first | go_big_quiet_step (fail) | quiet_step (fail)))
        refine wpQuiet_nil ?_
        intro _ hw'
        obtain ⟨nq, hw''⟩ := hw'
        subst hw''
        go_wp2
        go_ret
        exact Ret.f (fun h => h hbad.out) (bt hb0.out (drewN_below hB2.out _))
    rw [show t.fields[q].needs.length = 0 by rw [hg.2.2]; rfl] at y7
    rw [show t.fields[q].of = ⟨#[105, 110, 116]⟩ from hg.1] at y1
    have d3 := hg.2.1
    rw [d3] at y2
    replace d3 := Lib.hid d3
    replace hg := Lib.hid hg
    by_cases hk0 : k = 0
    · subst hk0
      simp only [Int.natCast_zero]
      go_wp2_with fail
      refine wp_region_quiet_lit (by kernel_rfl) (by kernel_rfl) ?_
      repeat (any_goals (first | go_big_quiet_step (fail) | quiet_step (fail)))
      refine wpQuiet_nil ?_
      intro _ hw'
      obtain ⟨nq, hw''⟩ := hw'
      subst hw''
      go_wp2
      go_roundw
      case rel => exact ⟨0 + 1, by omega, by first | rfl | go_num, Lib.hid (drewN_below hB2.out _), Lib.hid (fun j h hj => by
        by_cases e : j = 0
        · subst e
          rintro (hb | ⟨hb, _⟩)
          · exact hb ⟨_, hv.out, hg.out⟩
          · omega
        · exact HA.out j h (by omega))⟩
      case measure => simp [intOf]; omega
    obtain ⟨m, rfl⟩ : ∃ m, k = m + 1 := ⟨k - 1, by omega⟩
    obtain ⟨ad3, ea, r0, r1⟩ := Rd.elem_str (G7.out.below (bt hb0.out hB2.out)) m (by omega)
    injection ea with ea
    subst ea
    have hm0 : m < nd.length := by omega
    have hm1 : (m : Int) < nd.length := by omega
    have hm2 : (m : Int) + 1 < nd.length := by omega
    have zq' : w2.cell? ⟨ad.block, ad.off + (m + 1), none⟩ = some (.string nd[m + 1]) := by simpa [Addr.add] using zq
    have s2 : (0 : Int) ≤ (m : Int) + 1 := by omega
    have s1 : ((m : Int) + 1).toNat = m + 1 := by omega
    by_cases hle : LeB nd[m + 1] nd[m]
    · have tl := less_f hle
      replace hle := Lib.hid hle
      go_wp2_with fail
      refine wp_region_quiet_lit (by kernel_rfl) (by kernel_rfl) ?_
      repeat (any_goals (first | go_big_quiet_step (fail) | quiet_step (fail)))
      refine wpQuiet_nil ?_
      intro _ hw'
      obtain ⟨nq, hw''⟩ := hw'
      subst hw''
      go_wp2
      go_ret
      exact Ret.f (fun h => h (hbn.out.2 ⟨m + 1, hlt, .inr ⟨by omega, by simpa using hm0, by simpa using hle.out⟩⟩)) (bt hb0.out (drewN_below hB2.out _))
    · have tl := less_t hle
      replace hle := Lib.hid hle
      go_wp2_with fail
      refine wp_region_quiet_lit (by kernel_rfl) (by kernel_rfl) ?_
      repeat (any_goals (first | go_big_quiet_step (fail) | quiet_step (fail)))
      refine wpQuiet_nil ?_
      intro _ hw'
      obtain ⟨nq, hw''⟩ := hw'
      subst hw''
      go_wp2
      go_roundw
      case rel => exact ⟨m + 1 + 1, by omega, by go_num, Lib.hid (drewN_below hB2.out _), Lib.hid (fun j h hj => by
        by_cases e : j = m + 1
        · subst e
          rintro (hb | ⟨_, _, hb⟩)
          · exact hb ⟨_, hv.out, hg.out⟩
          · exact hle.out (by simpa using hb)
        · exact HA.out j h (by omega))⟩
      case measure => simp [intOf]; omega
set_option maxRecDepth 100000 in
set_option maxHeartbeats 8000000 in
theorem l2Needs_nil (t : JTyp) (f : JField) (cs ds : List Value) (w : World) (hx : RdL w t.enc cs) (hy : RdL w f.enc ds) (h0 : f.needs = []) :
    Calls Try.prog 89 #[.agg cs.toArray, .agg ds.toArray] w (Ret w (.bool (tf (¬ NeedsBad t f)))) := by
  obtain ⟨A2, c2, rfl, g2, l0, l1, n2⟩ := JTyp.open_ hx
  obtain ⟨A7, c7, rfl, g7, m0, m1, n7⟩ := JField.open_ hy
  have hb : ¬ NeedsBad t f := fun h => h.1 h0
  clear hx hy g2 g7
  obtain ⟨nm, of, li, mu, fa, hi, sh, nd⟩ := f
  simp only at h0 m0 m1 n7 ⊢
  subst h0
  replace hb := Lib.hid hb
  go_enter Try.func89, Try.ntmps89
  go_wp2
  go_loop [5, 6] (fun i _ => i = .int .i64 0) (fun _ _ => 0)
  case atStart => rfl
  case round =>
    subst hrel
    go_wp2
    go_ret
    exact Ret.t hb.out (bt (b1 _ _) (b1 _ _))
theorem l2Needs_c (t : JTyp) (f : JField) (cs ds : List Value) (w : World) (hx : RdL w t.enc cs) (hy : RdL w f.enc ds) :
    Calls Try.prog 89 #[.agg cs.toArray, .agg ds.toArray] w (Ret w (.bool (tf (¬ NeedsBad t f)))) := by
  by_cases h : HeadBad t f
  · by_cases h0 : f.needs = []
    · exact l2Needs_nil t f cs ds w hx hy h0
    · exact l2Needs_head t f cs ds w hx hy h0 h
  · exact l2Needs_tail t f cs ds w hx hy h
end Go.Proofs.Ytmkagpmdindlpaa.Lib
