/- Fields and types of parts: places, keys, needs, on both sides. No condition. -/
import Derived.Test.YtmkagpmdindlpaaPartA
import Derived.Deep.QuietTactic
import Derived.BigQuiet
set_option linter.unusedVariables false
set_option linter.unusedSimpArgs false
namespace Go.Proofs.Ytmkagpmdindlpaa.Lib
open Go.RowKit

set_option maxRecDepth 100000 in
set_option maxHeartbeats 1600000 in
theorem l2Field_c (t : JTyp) (cs : List Value) (name : ByteArray) (w : World) (hx : RdL w t.enc cs) :
    Calls Try.prog 71 #[.agg cs.toArray, .string name] w (fun e w' => ∃ i : Int, Ret w (.int .i64 i) e w' ∧ FirstAt (fun f => f.name = name) t.fields i) := by
  obtain ⟨A2, c2, rfl, g2, l0, l1, n2⟩ := JTyp.open_ hx
  have HX := Lib.hid (g2.below (b1 w (.cells #[.string t.name, .string t.key, .slice A2 t.fields.length c2] 71)))
  clear hx g2
  go_enter Try.func71, Try.ntmps71
  go_wp2
  go_loop [5] (fun i => ∃ k : Nat, k ≤ t.fields.length ∧ i = .int .i64 k ∧ Hid (∀ j (h : j < t.fields.length), j < k → ¬ t.fields[j].name = name)) (fun i => t.fields.length - (intOf i).toNat)
  case atStart => exact ⟨0, Nat.zero_le _, rfl, fun j h hj => absurd hj (by omega)⟩
  case round =>
    obtain ⟨k, hk, rfl, HA⟩ := hrel
    by_cases hlt : k < t.fields.length
    · obtain ⟨ad, A7, c7, rfl, y0, y1, y2, y3, y4, y5, y6, y7, g7, m0, m1, _⟩ := JField.elem HX.out k hlt
      clear g7
      by_cases hp : t.fields[k].name = name
      · have ht := str_t hp
        have hp := Lib.hid hp
        go_wp2
        go_ret
        exact ⟨_, ⟨rfl, b1 _ _⟩, .inr ⟨k, rfl, hlt, hp.out, HA.out⟩⟩
      · have ht := str_f hp
        have hp := Lib.hid hp
        go_wp2
        go_round
        case rel => exact ⟨k + 1, by omega, by go_num, fun j h hj => by
            by_cases e : j = k
            · subst e; exact hp.out
            · exact HA.out j h (by omega)⟩
        case measure => simp [intOf]; omega
    · go_wp2
      go_ret
      exact ⟨_, ⟨rfl, b1 _ _⟩, .inl ⟨rfl, fun j h => HA.out j h (by omega)⟩⟩
set_option maxRecDepth 100000 in
set_option maxHeartbeats 1600000 in
theorem l2Type_c (p : JPart) (cs : List Value) (name : ByteArray) (w : World) (hx : RdL w p.enc cs) :
    Calls Try.prog 70 #[.agg cs.toArray, .string name] w (fun e w' => ∃ i : Int, Ret w (.int .i64 i) e w' ∧ FirstAt (fun t => t.name = name) p.types i) := by
  obtain ⟨A1, c1, rfl, g2, l0, n1⟩ := JPart.open_ hx
  have HX := Lib.hid (g2.below (b1 w (.cells #[.string p.name, .slice A1 p.types.length c1] 33)))
  clear hx g2
  go_enter Try.func70, Try.ntmps70
  go_wp2
  go_loop [5] (fun i => ∃ k : Nat, k ≤ p.types.length ∧ i = .int .i64 k ∧ Hid (∀ j (h : j < p.types.length), j < k → ¬ p.types[j].name = name)) (fun i => p.types.length - (intOf i).toNat)
  case atStart => exact ⟨0, Nat.zero_le _, rfl, fun j h hj => absurd hj (by omega)⟩
  case round =>
    obtain ⟨k, hk, rfl, HA⟩ := hrel
    by_cases hlt : k < p.types.length
    · obtain ⟨ad, A2, c2, rfl, y0, y1, y2, g7, m0, m1, _⟩ := JTyp.elem HX.out k hlt
      clear g7
      by_cases hp : p.types[k].name = name
      · have ht := str_t hp
        have hp := Lib.hid hp
        go_wp2
        go_ret
        exact ⟨_, ⟨rfl, b1 _ _⟩, .inr ⟨k, rfl, hlt, hp.out, HA.out⟩⟩
      · have ht := str_f hp
        have hp := Lib.hid hp
        go_wp2
        go_round
        case rel => exact ⟨k + 1, by omega, by go_num, fun j h hj => by
            by_cases e : j = k
            · subst e; exact hp.out
            · exact HA.out j h (by omega)⟩
        case measure => simp [intOf]; omega
    · go_wp2
      go_ret
      exact ⟨_, ⟨rfl, b1 _ _⟩, .inl ⟨rfl, fun j h => HA.out j h (by omega)⟩⟩
set_option maxRecDepth 100000 in
set_option maxHeartbeats 1600000 in
theorem l2Key_c (t : JTyp) (cs : List Value) (w : World) (hx : RdL w t.enc cs) : Calls Try.prog 88 #[.agg cs.toArray] w (Ret w (.bool (tf (¬ t.badKey)))) := by
  have hx' := hx
  obtain ⟨A2, c2, rfl, g2, l0, l1, n2⟩ := JTyp.open_ hx
  have HF := Lib.hid (fun W (h : Below w.heap.size w W) => l2Field_c t _ t.key W (hx'.keep h))
  have G2 := Lib.hid g2
  clear hx hx' g2
  by_cases h0 : t.key = ⟨#[]⟩
  · have t0 := empty_t h0
    replace h0 := Lib.hid h0
    go_enter Try.func88, Try.ntmps88
    go_wp2
    go_ret
    exact Ret.t (fun h => h.1 h0.out) (b1 _ _)
  have t0 := empty_f h0
  replace h0 := Lib.hid h0
  go_enter Try.func88, Try.ntmps88
  go_wp2_with fail
  refine (HF.out _ (b1 _ _)).mono ?_
  rintro e w1 ⟨i, ⟨rfl, hb1⟩, hf⟩
  obtain ⟨hc1, hf1⟩ := bcell hb1
  have hz1 : w.heap.size < w1.heap.size := by have := hb1.size; simp at this; omega
  have hB1 := Lib.hid (bt (b1 _ _) hb1)
  clear hb1
  rcases find_first hf with ⟨rfl, hn⟩ | ⟨k, rfl, hk, hn⟩
  · have hv : t.find t.key = none := hn
    replace hv := Lib.hid hv
    clear hn hf
    go_wp2
    go_ret
    exact Ret.f (fun h => h ⟨h0.out, fun ⟨f, e, _⟩ => by rw [hv.out] at e; cases e⟩) hB1.out
  · have hv : t.find t.key = some t.fields[k] := hn
    replace hv := Lib.hid hv
    clear hn hf
    obtain ⟨ad2, A7, c7, rfl, y0, y1, y2, y3, y4, y5, y6, y7, g7, m0, m1, n7⟩ := JField.elem (G2.out.below hB1.out) k hk
    clear g7
    have hkI : (k : Int) < t.fields.length := by omega
    go_wp2
    all_goals
      go_ret
      refine Ret.fin ?_ (bt hB1.out (b1 _ _))
      have h0' := h0.out
      have hv' := hv.out
      simp_all [JTyp.badKey, JField.plainInt, lit_iff, tf_iff, tf_no, wInt]
end Go.Proofs.Ytmkagpmdindlpaa.Lib
