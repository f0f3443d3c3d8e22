/- The program's typeFault and what it comes to. No condition beyond sizes that every list has. -/
import Derived.Test.YtmkagpmdindlpaaPartE
import Derived.Test.YtmkagpmdindlpaaPartG
import Derived.Test.YtmkagpmdindlpaaLeafI
set_option linter.unusedVariables false
set_option linter.unusedSimpArgs false
namespace Go.Proofs.Ytmkagpmdindlpaa.Lib
open Go.RowKit

/-- A method that is bound to its receiver answers on structs as a sentence does. -/
def AsksV {α : Type} (enc : α → List D) (fn : FuncId) (fv : Value) (p : α → Prop) (w0 : World) : Prop :=
  Live fn ∧ ∀ (x : α) (cs : List Value) (w : World), RdL w (enc x) cs → Below w0.heap.size w0 w → Calls Try.prog fn #[fv, .agg cs.toArray] w (Ret w (.bool (tf (p x))))
set_option maxRecDepth 100000 in
set_option maxHeartbeats 1600000 in
theorem indexFuncFieldF_c (xs : List JField) (A : Option Addr) (c : Nat) (p : JField → Prop) (fn : FuncId) (fv : Value) (w : World) (hx : Rd w (slD JField.enc 8 xs) (.slice A xs.length c))
    (hf : AsksV JField.enc fn fv p w) :
    Calls Try.prog 127 #[.slice A xs.length c, .func (.func fn) #[fv] #[]] w (fun e w' => ∃ i : Int, Ret w (.int .i64 i) e w' ∧ FirstAt p xs i) := by
  obtain ⟨_, _, _, hm0, hm1, _⟩ := Rd.slice hx
  unfold maxLen at hm1
  have hm : xs.length ≤ 9223372036854775807 := by omega
  have HX := Lib.hid hx
  obtain ⟨hl, hf⟩ := hf
  have HL := Lib.hid hl
  have HF := Lib.hid hf
  clear hx hm0 hm1 hf hl
  go_enter Try.func127, Try.ntmps127
  go_wp2
  go_loopw [8, 5] (fun i j wr => ∃ k : Nat, k ≤ xs.length ∧ i = .int .i64 k ∧ Below w.heap.size w wr ∧ Hid (∀ j (h : j < xs.length), j < k → ¬ p xs[j])) (fun i j _ => xs.length - (intOf i).toNat)
  case atStart => exact ⟨0, Nat.zero_le _, rfl, Below.refl _ _, fun j h hj => absurd hj (by omega)⟩
  case round =>
    obtain ⟨k, hk, rfl, hbd, HA⟩ := hrel
    by_cases hlt : k < xs.length
    · obtain ⟨ad, A7, c7, rfl, hx0, hx1, hx2, hx3, hx4, hx5, hx6, hx7, g7, l0, l1, n7⟩ := JField.elem (HX.out.below hbd) k hlt
      have hF := Lib.hid (HF.out xs[k] _ wr (JField.close_ _ g7 l0 l1) hbd)
      clear g7
      by_cases hp : p xs[k]
      · have hp := Lib.hid hp
        go_wp2_with fail
        rw [HL.out, Oper.upon_enter]
        refine hF.out.mono ?_
        intro e w1 hr
        obtain ⟨rfl, hb1⟩ := Ret.tt hp.out hr
        clear hr
        go_wp2
        go_ret
        exact ⟨_, ⟨rfl, bt hbd hb1⟩, .inr ⟨k, rfl, hlt, hp.out, HA.out⟩⟩
      · have hp := Lib.hid hp
        go_wp2_with fail
        rw [HL.out, Oper.upon_enter]
        refine hF.out.mono ?_
        intro e w1 hr
        obtain ⟨rfl, hb1⟩ := Ret.ff hp.out hr
        clear hr
        go_wp2
        go_roundw
        case rel => exact ⟨k + 1, by omega, by go_num, bt hbd hb1, fun j h hj => by
            by_cases e : j = k
            · subst e; exact hp.out
            · exact HA.out j h (by omega)⟩
        case measure => simp [intOf]; omega
    · go_wp2
      go_ret
      exact ⟨_, ⟨rfl, hbd⟩, .inl ⟨rfl, fun j h => HA.out j h (by omega)⟩⟩

theorem containsFuncFieldF_c (xs : List JField) (A : Option Addr) (c : Nat) (p : JField → Prop) (fn : FuncId) (fv : Value) (w : World) (hx : Rd w (slD JField.enc 8 xs) (.slice A xs.length c))
    (hf : AsksV JField.enc fn fv p w) :
    Calls Try.prog 100 #[.slice A xs.length c, .func (.func fn) #[fv] #[]] w (Ret w (.bool (tf (∃ x, x ∈ xs ∧ p x)))) := by
  have HC := Lib.hid (indexFuncFieldF_c xs A c p fn fv w hx hf)
  clear hx hf
  go_enter Try.func100, Try.ntmps100
  go_wp2_with fail
  refine HC.out.mono ?_
  rintro e w1 ⟨i, ⟨rfl, hb1⟩, hi⟩
  have hi := Lib.hid hi
  go_wp2
  go_ret
  exact Ret.d hi.out.iff.symm hb1

set_option maxRecDepth 100000 in

theorem find_some {p : JPart} {n : ByteArray} : (p.find n).isSome = tf (∃ u, u ∈ p.types ∧ u.name = n) := by
  unfold JPart.find
  by_cases h : ∃ u, u ∈ p.types ∧ u.name = n
  · rw [tf_t h]
    obtain ⟨u, hu, hn⟩ := h
    rw [List.find?_isSome]
    exact ⟨u, hu, tf_t hn⟩
  · rw [tf_f h, ← Bool.not_eq_true, List.find?_isSome]
    rintro ⟨u, hu, hn⟩
    exact h ⟨u, hu, tf_iff.1 hn⟩
theorem Rd.takeE {α : Type} {enc : α → List D} {sz : Nat} (he : ∀ x, (enc x).length = sz) {w : World} {xs : List α} {A : Option Addr} {n c k : Nat} (h : Rd w (slD enc sz xs) (.slice A n c)) (hk : k ≤ xs.length) : Rd w (slD enc sz (xs.take k)) (.slice A k c) := by
  have hn := Rd.len h
  simp only [slD, Rd] at h ⊢
  obtain ⟨A', c', hv, h2, h3, h4, h5⟩ := h
  injection hv with e1 e2 e3
  subst e1 e3
  refine ⟨A, c, by rw [List.length_take, Nat.min_eq_left hk], by rw [List.length_take]; omega, h3, flat_length he _, fun hp => ?_⟩
  rw [List.length_take] at hp
  obtain ⟨ad, rfl, hr⟩ := h5 (by omega)
  refine ⟨ad, rfl, RdRow.mk fun i d hd => RdRow.get hr i d ?_⟩
  have : xs.flatMap enc = (xs.take k).flatMap enc ++ (xs.drop k).flatMap enc := by rw [← List.flatMap_append, List.take_append_drop]
  rw [this, List.getElem?_append_left (List.getElem?_eq_some_iff.1 hd).1]
  exact hd
theorem twice_n (xs : List ByteArray) (A : Option Addr) (n c : Nat) (w : World) (hx : Rd w (slD strD 1 xs) (.slice A n c)) :
    Calls Try.prog 98 #[.slice A n c] w (Ret w (.bool (tf (Twice xs)))) := by
  obtain rfl := Rd.len hx
  exact twice_c xs A c w hx

def Strange (ts : List JTyp) (f : JField) : Prop := f.of ∉ ofWords ∧ ¬ ∃ u, u ∈ ts ∧ u.name = f.of
theorem live_q1 : Live 95 := live_of Try.func95 (by kernel_rfl) (by kernel_rfl)
set_option maxRecDepth 100000 in
set_option maxHeartbeats 4000000 in
theorem q1_c (p : JPart) (g : Nat) (A1 : Option Addr) (c1 : Nat) (f : JField) (cs : List Value) (w : World) (h0 : w.cell? ⟨g, 0, none⟩ = some (.string p.name)) (h1 : w.cell? ⟨g, 1, none⟩ = some (.slice A1 p.types.length c1)) (hp : RdL w p.enc [.string p.name, .slice A1 p.types.length c1]) (hx : RdL w f.enc cs) :
    Calls Try.prog 95 #[.agg cs.toArray, .pointer (some ⟨g, 0, none⟩)] w (Ret w (.bool (tf (Strange p.types f)))) := by
  have hx' := hx
  obtain ⟨A7, c7, rfl, g7, l0, l1, n7⟩ := JField.open_ hx
  have HP := Lib.hid (fun W (h : Below w.heap.size w W) => pfind_c p _ f.of W (hp.keep h))
  have HW := Lib.hid (fun W (h : Below w.heap.size w W) => ofWord_c f _ W (hx'.keep h))
  have hgl := World.block_lt_of_cell? w _ h0
  have hgl' : g < w.heap.size := hgl
  clear hx hx' g7 hp
  go_enter Try.func95, Try.ntmps95
  go_wp2_with fail
  refine (HP.out _ (b1 _ _)).mono ?_
  rintro e w1 ⟨us, rfl, hu, hb1⟩
  obtain ⟨A2, c2, rfl, g2, m0, m1, n2⟩ := JTyp.open_ hu
  obtain ⟨hc1, hf1⟩ := bcell hb1
  have hz1 : w.heap.size < w1.heap.size := by have := hb1.size; simp at this; omega
  have hB1 := Lib.hid (bt (b1 _ _) hb1)
  have hs := @find_some p f.of
  generalize (p.find f.of).isSome = bs at hs ⊢
  replace hs := Lib.hid hs
  clear hb1 hu g2
  go_wp2_with (go_at_call 96; refine (HW.out _ (bt hB1.out (b1 _ _))).mono ?_; rintro e w2 ⟨rfl, hb2⟩)
  all_goals
    go_ret
    refine Ret.fin ?_ (bt (bt hB1.out (b1 _ _)) ‹_›)
    have hs' := hs.out
    simp_all [Strange, tf_iff, tf_no]
theorem live_q2 : Live 103 := live_of Try.func103 (by kernel_rfl) (by kernel_rfl)
theorem q2_c (f : JField) (cs : List Value) (w : World) (hx : RdL w f.enc cs) :
    Calls Try.prog 103 #[.agg cs.toArray] w (Ret w (.bool (tf (f.of = wQuery)))) := by
  obtain ⟨A7, c7, rfl, g7, l0, l1, n7⟩ := JField.open_ hx
  clear hx g7
  go_enter Try.func103, Try.ntmps103
  go_wp2
  go_ret
  exact Ret.fin (by simp [lit_iff, wQuery]) (b1 _ _)
theorem live_bn : Live 102 := live_of Try.func102 (by kernel_rfl) (by kernel_rfl)
end Go.Proofs.Ytmkagpmdindlpaa.Lib
