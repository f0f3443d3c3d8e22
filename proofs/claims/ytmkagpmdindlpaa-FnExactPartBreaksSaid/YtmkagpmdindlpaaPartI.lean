/- The program's typeFault. Types of 2^20 fields at most. -/
import Derived.Test.YtmkagpmdindlpaaPartH
set_option linter.unusedVariables false
set_option linter.unusedSimpArgs false
namespace Go.Proofs.Ytmkagpmdindlpaa.Lib
open Go.RowKit

/-- Is a thing said twice by a type at a place: its name, or the name of a field. -/
def TwiceP (ts : List JTyp) (i : Nat) (t : JTyp) : Prop := (∃ u, u ∈ ts.take i ∧ u.name = t.name) ∨ Twice t.names
/-- What is wrong with a type at a place first; 0: nothing. -/
noncomputable def typeCode (ts : List JTyp) (i : Nat) (t : JTyp) : Int :=
  if tf t.badLine = true then 1 else if tf (TwiceP ts i t) = true then 2 else if tf (∃ f, f ∈ t.fields ∧ Strange ts f) = true then 3 else if tf t.badKey = true then 4
  else if tf (∃ f, f ∈ t.fields ∧ t.badNeed f) = true then 5 else if tf (∃ f, f ∈ t.fields ∧ f.of = wQuery) = true then 7 else 0
set_option maxRecDepth 100000 in
set_option maxHeartbeats 8000000 in
theorem typeFault_c (p : JPart) (i : Nat) (cs : List Value) (w : World) (hx : RdL w p.enc cs) (hi : i < p.types.length) (hb : p.types.length + JTyp.bulks p.types ≤ 1048576) :
    Calls Try.prog 62 #[.agg cs.toArray, .int .i64 i] w (Ret w (.int .i64 (typeCode p.types i p.types[i]))) := by
  have hmf : ∀ (fn : Fn) (first cap : Array Value) (w : World), (Instr.makeFunc fn first cap).run Try.prog w = .ok (.func fn first cap) w := fun _ _ _ _ => rfl
  have hx' := hx
  obtain ⟨A1, c1, rfl, g1, l0, n1⟩ := JPart.open_ hx
  obtain ⟨ad, A2, c2, rfl, y0, y1, y2, g2, m0, m1, n2⟩ := JTyp.elem g1 i hi
  have HT := Lib.hid (fun W (h : Below w.heap.size w W) => (JTyp.close_ p.types[i] g2 m0 m1).keep h)
  have hfl : p.types[i].fields.length ≤ 1048576 := by
    have := JTyp.bulk_eq p.types[i]
    have h2 := JTyp.bulks_take p.types i hi
    have h3 := JTyp.bulks_le p.types (i + 1)
    omega
  have hah : ∀ W, Below w.heap.size w W → RdL W (JPart.enc ⟨⟨#[]⟩, p.types.take i⟩) [.string ⟨#[]⟩, .slice (some ad) i c1] := fun W h => by
    have h1 := (Rd.takeE JTyp.enc_len g1 (Nat.le_of_lt hi)).below h
    have hl : (p.types.take i).length = i := by rw [List.length_take, Nat.min_eq_left (Nat.le_of_lt hi)]
    have h2 := JPart.close_ (w := W) ⟨⟨#[]⟩, p.types.take i⟩ (A1 := some ad) (c1 := c1) (by dsimp only; rw [hl]; exact h1) (by show (⟨#[]⟩ : ByteArray).size ≤ _; decide)
    dsimp only at h2
    rw [hl] at h2
    exact h2
  have HA := Lib.hid (fun W (h : Below w.heap.size w W) => pfind_c ⟨⟨#[]⟩, p.types.take i⟩ _ p.types[i].name W (hah W h))
  clear hah
  have HB := Lib.hid (fun W (h : Below w.heap.size w W) => badLine_c p.types[i] _ W (HT.out W h))
  have HN := Lib.hid (fun W (h : Below w.heap.size w W) => names_c p.types[i] _ W (HT.out W h) hfl)
  have HK := Lib.hid (fun W (h : Below w.heap.size w W) => badKey_c p.types[i] _ W (HT.out W h))
  have HQ := Lib.hid (fun W (h : Below w.heap.size w W) (h0 : W.cell? ⟨w.heap.size, 0, none⟩ = some (.string p.name)) (h1 : W.cell? ⟨w.heap.size, 1, none⟩ = some (.slice (some ad) p.types.length c1)) => containsFuncField_c p.types[i].fields A2 c2 (Strange p.types) 95 #[.pointer (some ⟨w.heap.size, 0, none⟩)] W (g2.below h) ⟨live_q1, fun f us W2 k1 k2 => q1_c p _ _ _ f us W2 (cell_keep k2 h0) (cell_keep k2 h1) (hx'.keep (bt h k2)) k1⟩)
  have HD := Lib.hid (fun W (h : Below w.heap.size w W) => containsFuncFieldF_c p.types[i].fields A2 c2 (fun f => p.types[i].badNeed f) 102 (.agg #[.string p.types[i].name, .string p.types[i].key, .slice A2 p.types[i].fields.length c2]) W (g2.below h) ⟨live_bn, fun f us W2 k1 k2 => badNeed_c p.types[i] f _ us W2 (HT.out _ (bt h k2)) k1⟩)
  have HR := Lib.hid (fun W (h : Below w.heap.size w W) => containsFuncField_c p.types[i].fields A2 c2 (fun f => f.of = wQuery) 103 #[] W (g2.below h) ⟨live_q2, fun f us W2 k1 k2 => q2_c f us W2 k1⟩)
  have hiI : (i : Int) < p.types.length := by omega
  have hic : i ≤ c1 := by
    obtain ⟨_, _, e_, h1, _, _⟩ := Rd.slice g1
    injection e_ with _ _ e_
    omega
  replace y0 := cell_keep (b1 w (.cells #[.string p.name, .slice (some ad) p.types.length c1] 33)) y0
  replace y1 := cell_keep (b1 w (.cells #[.string p.name, .slice (some ad) p.types.length c1] 33)) y1
  replace y2 := cell_keep (b1 w (.cells #[.string p.name, .slice (some ad) p.types.length c1] 33)) y2
  clear hx hx' g1 g2
  go_enter Try.func62, Try.ntmps62
  go_wp2_with fail
  refine (HA.out _ (bt (bt (b1 _ _) (b1 _ _)) (b1 _ _))).mono ?_
  rintro e w1 ⟨us, rfl, hu, hb1⟩
  obtain ⟨A3, c3, rfl, g3, q0, q1, n3⟩ := JTyp.open_ hu
  have hs : (JPart.find ⟨⟨#[]⟩, p.types.take i⟩ p.types[i].name).isSome = tf (∃ u, u ∈ p.types.take i ∧ u.name = p.types[i].name) := find_some
  rw [hs]
  have p0 : w1.cell? ⟨w.heap.size, 0, none⟩ = some (.string p.name) := cell_keep hb1 (by simp [go_sem])
  have p1 : w1.cell? ⟨w.heap.size, 1, none⟩ = some (.slice (some ad) p.types.length c1) := cell_keep hb1 (by simp [go_sem])
  have t0 : w1.cell? ⟨w.heap.size + 1, 0, none⟩ = some (.string p.types[i].name) := cell_keep hb1 (by simp [go_sem])
  have t1 : w1.cell? ⟨w.heap.size + 1, 1, none⟩ = some (.string p.types[i].key) := cell_keep hb1 (by simp [go_sem])
  have t2 : w1.cell? ⟨w.heap.size + 1, 2, none⟩ = some (.slice A2 p.types[i].fields.length c2) := cell_keep hb1 (by simp [go_sem])
  have hz1 : w.heap.size + 1 < w1.heap.size := by have := hb1.size; simp at this; omega
  have hz0 : w.heap.size < w1.heap.size := by omega
  have hB1 : Below w.heap.size w w1 := bt (bt (bt (b1 _ _) (b1 _ _)) (b1 _ _)) hb1
  clear hb1 hu g3 hs
  -- badLine
  go_wp2_with fail
  refine (HB.out _ (bt hB1 (b1 _ _))).mono ?_
  intro e w2 hr
  obtain ⟨rfl, hb2⟩ := hr
  replace p0 := cell_keep (bt (b1 _ _) hb2) p0
  replace p1 := cell_keep (bt (b1 _ _) hb2) p1
  replace t0 := cell_keep (bt (b1 _ _) hb2) t0
  replace t1 := cell_keep (bt (b1 _ _) hb2) t1
  replace t2 := cell_keep (bt (b1 _ _) hb2) t2
  have hB2 : Below w.heap.size w w2 := bt hB1 (bt (b1 _ _) hb2)
  have hz2 : w.heap.size + 1 < w2.heap.size := by have := (hb2).size; (try simp at this); omega
  have hy2 : w.heap.size < w2.heap.size := by omega
  clear hb2
  by_cases hc : p.types[i].badLine
  · rw [tf_t hc]
    replace hc := Lib.hid hc
    go_wp2
    go_ret
    exact Ret.int (by unfold typeCode; rw [tf_t hc.out]; rfl) hB2
  rw [tf_f hc]
  replace hc := Lib.hid hc
  by_cases ha : ∃ u, u ∈ p.types.take i ∧ u.name = p.types[i].name
  · rw [tf_t ha]
    replace ha := Lib.hid ha
    go_wp2
    go_ret
    exact Ret.int (by unfold typeCode; rw [tf_f hc.out, tf_t (show TwiceP p.types i p.types[i] from .inl ha.out)]; rfl) hB2
  rw [tf_f ha]
  replace ha := Lib.hid ha
  go_wp2_with fail
  refine (HN.out _ hB2).mono ?_
  rintro e w3 ⟨v3, f3, rfl, o3, hf3, hb3⟩
  obtain ⟨A4, c4, rfl⟩ := Own.slD o3
  have R3 := Lib.hid (Own.rd _ _ _ o3)
  replace p0 := cell_keep (hb3) p0
  replace p1 := cell_keep (hb3) p1
  replace t0 := cell_keep (hb3) t0
  replace t1 := cell_keep (hb3) t1
  replace t2 := cell_keep (hb3) t2
  have hB3 : Below w.heap.size w w3 := bt hB2 (hb3)
  have hz3 : w.heap.size + 1 < w3.heap.size := by have := (hb3).size; (try simp at this); omega
  have hy3 : w.heap.size < w3.heap.size := by omega
  clear hb3
  clear o3 hf3
  go_wp2_with fail
  refine (twice_n _ _ _ _ _ R3.out).mono ?_
  rintro e w4 ⟨rfl, hb4⟩
  replace p0 := cell_keep (hb4) p0
  replace p1 := cell_keep (hb4) p1
  replace t0 := cell_keep (hb4) t0
  replace t1 := cell_keep (hb4) t1
  replace t2 := cell_keep (hb4) t2
  have hB4 : Below w.heap.size w w4 := bt hB3 (hb4)
  have hz4 : w.heap.size + 1 < w4.heap.size := by have := (hb4).size; (try simp at this); omega
  have hy4 : w.heap.size < w4.heap.size := by omega
  clear hb4
  clear R3
  by_cases hw : Twice p.types[i].names
  · rw [tf_t hw]
    replace hw := Lib.hid hw
    go_wp2
    go_ret
    exact Ret.int (by unfold typeCode; rw [tf_f hc.out, tf_t (show TwiceP p.types i p.types[i] from .inr hw.out)]; rfl) hB4
  rw [tf_f hw]
  have hw2 : Hid (¬ TwiceP p.types i p.types[i]) := fun h => h.elim ha.out hw
  clear hw ha
  go_wp2_with fail
  refine (HQ.out _ hB4 p0 p1).mono ?_
  rintro e w5 ⟨rfl, hb5⟩
  replace p0 := cell_keep (hb5) p0
  replace p1 := cell_keep (hb5) p1
  replace t0 := cell_keep (hb5) t0
  replace t1 := cell_keep (hb5) t1
  replace t2 := cell_keep (hb5) t2
  have hB5 : Below w.heap.size w w5 := bt hB4 (hb5)
  have hz5 : w.heap.size + 1 < w5.heap.size := by have := (hb5).size; (try simp at this); omega
  have hy5 : w.heap.size < w5.heap.size := by omega
  clear hb5
  by_cases hs : ∃ f, f ∈ p.types[i].fields ∧ Strange p.types f
  · rw [tf_t hs]
    replace hs := Lib.hid hs
    go_wp2
    go_ret
    exact Ret.int (by unfold typeCode; rw [tf_f hc.out, tf_f hw2.out, tf_t hs.out]; rfl) hB5
  rw [tf_f hs]
  replace hs := Lib.hid hs
  go_wp2_with fail
  refine (HK.out _ hB5).mono ?_
  rintro e w6 ⟨rfl, hb6⟩
  replace p0 := cell_keep (hb6) p0
  replace p1 := cell_keep (hb6) p1
  replace t0 := cell_keep (hb6) t0
  replace t1 := cell_keep (hb6) t1
  replace t2 := cell_keep (hb6) t2
  have hB6 : Below w.heap.size w w6 := bt hB5 (hb6)
  have hz6 : w.heap.size + 1 < w6.heap.size := by have := (hb6).size; (try simp at this); omega
  have hy6 : w.heap.size < w6.heap.size := by omega
  clear hb6
  by_cases hk : p.types[i].badKey
  · rw [tf_t hk]
    replace hk := Lib.hid hk
    go_wp2
    go_ret
    exact Ret.int (by unfold typeCode; rw [tf_f hc.out, tf_f hw2.out, tf_f hs.out, tf_t hk.out]; rfl) hB6
  rw [tf_f hk]
  replace hk := Lib.hid hk
  go_wp2_with fail
  refine (HD.out _ hB6).mono ?_
  rintro e w7 ⟨rfl, hb7⟩
  replace p0 := cell_keep (hb7) p0
  replace p1 := cell_keep (hb7) p1
  replace t0 := cell_keep (hb7) t0
  replace t1 := cell_keep (hb7) t1
  replace t2 := cell_keep (hb7) t2
  have hB7 : Below w.heap.size w w7 := bt hB6 (hb7)
  have hz7 : w.heap.size + 1 < w7.heap.size := by have := (hb7).size; (try simp at this); omega
  have hy7 : w.heap.size < w7.heap.size := by omega
  clear hb7
  by_cases hn : ∃ f, f ∈ p.types[i].fields ∧ p.types[i].badNeed f
  · rw [tf_t hn]
    replace hn := Lib.hid hn
    go_wp2
    go_ret
    exact Ret.int (by unfold typeCode; rw [tf_f hc.out, tf_f hw2.out, tf_f hs.out, tf_f hk.out, tf_t hn.out]; rfl) hB7
  rw [tf_f hn]
  replace hn := Lib.hid hn
  go_wp2_with fail
  refine (HR.out _ hB7).mono ?_
  rintro e w8 ⟨rfl, hb8⟩
  replace p0 := cell_keep (hb8) p0
  replace p1 := cell_keep (hb8) p1
  replace t0 := cell_keep (hb8) t0
  replace t1 := cell_keep (hb8) t1
  replace t2 := cell_keep (hb8) t2
  have hB8 : Below w.heap.size w w8 := bt hB7 (hb8)
  have hz8 : w.heap.size + 1 < w8.heap.size := by have := (hb8).size; (try simp at this); omega
  have hy8 : w.heap.size < w8.heap.size := by omega
  clear hb8
  by_cases hy : ∃ f, f ∈ p.types[i].fields ∧ f.of = wQuery
  · rw [tf_t hy]
    replace hy := Lib.hid hy
    go_wp2
    go_ret
    exact Ret.int (by unfold typeCode; rw [tf_f hc.out, tf_f hw2.out, tf_f hs.out, tf_f hk.out, tf_f hn.out, tf_t hy.out]; rfl) hB8
  rw [tf_f hy]
  replace hy := Lib.hid hy
  go_wp2
  go_ret
  exact Ret.int (by unfold typeCode; rw [tf_f hc.out, tf_f hw2.out, tf_f hs.out, tf_f hk.out, tf_f hn.out, tf_f hy.out]; rfl) hB8
end Go.Proofs.Ytmkagpmdindlpaa.Lib
