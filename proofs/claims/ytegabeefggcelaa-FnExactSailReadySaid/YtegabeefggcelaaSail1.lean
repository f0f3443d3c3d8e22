/- The reference's SailReady. No condition beyond sizes that every list has. -/
import Derived.Test.YtegabeefggcelaaSlices
import Derived.Test.YtegabeefggcelaaTo
import Derived.Laws.AppendOwn
import Derived.Laws.MakeOwn
set_option linter.unusedVariables false
set_option linter.unusedSimpArgs false
namespace Go.Proofs.Ytegabeefggcelaa.Lib
open Go.RowKit

theorem l9Has_c (xs : List Int) (A : Option Addr) (c : Nat) (v : Int) (w : World) (hx : Rd w (slD intD 1 xs) (.slice A xs.length c)) :
    Calls Try.prog 43 #[.slice A xs.length c, .int .i64 v] w (RetQ w (.bool (tf (v ∈ xs)))) := by
  obtain ⟨_, _, _, hm0, hm1, _⟩ := Rd.slice hx
  unfold maxLen at hm1
  have hm : xs.length ≤ 9223372036854775807 := by omega
  have HX := Lib.hid hx
  clear hx hm0 hm1
  go_enter Try.func43, Try.ntmps43
  go_wp2
  go_loop [5] (fun i => ∃ k : Nat, k ≤ xs.length ∧ i = .int .i64 k ∧ Hid (∀ j (h : j < xs.length), j < k → ¬ xs[j] = v)) (fun i => xs.length - (intOf i).toNat)
  case atStart => exact ⟨0, Nat.zero_le _, rfl, fun j h hj => absurd hj (by omega)⟩
  case round =>
    obtain ⟨k, hk, rfl, HA⟩ := hrel
    by_cases hlt : k < xs.length
    · obtain ⟨ad, rfl, hc⟩ := Rd.elem_int HX.out k hlt
      by_cases hp : xs[k] = v
      · have ht : (xs[k] == v) = true := by rw [beq_iff_eq]; exact hp
        replace hp := Lib.hid hp
        go_wp2
        go_ret
        exact RetQ.t (p := v ∈ xs) (by rw [← hp.out]; exact List.getElem_mem hlt)
      · have ht : (xs[k] == v) = false := by rw [beq_eq_false_iff_ne]; exact hp
        replace hp := Lib.hid hp
        go_wp2
        go_round
        case rel => exact ⟨k + 1, by omega, by go_num, fun j h hj => by
            by_cases e : j = k
            · subst e; exact hp.out
            · exact HA.out j h (by omega)⟩
        case measure => simp [intOf]; omega
    · go_wp2
      go_ret
      exact RetQ.f (p := v ∈ xs) (fun h => by
        obtain ⟨j, hj, e⟩ := List.getElem_of_mem h
        exact HA.out j hj (by omega) e)

/-- Step i may be done next. -/
def Ready (steps : List JStep) (done : List Int) (i : Nat) (h : i < steps.length) : Prop := (i : Int) ∉ done ∧ ∀ a, a ∈ steps[i].after_ → a ∈ done
open Classical in
noncomputable def readyL (steps : List JStep) (done : List Int) : Nat → List Int
  | 0 => []
  | k + 1 => readyL steps done k ++ if ∃ h, Ready steps done k h then [(k : Int)] else []
theorem readyL_y {steps : List JStep} {done : List Int} {k : Nat} {h : k < steps.length} (r : Ready steps done k h) : readyL steps done (k + 1) = readyL steps done k ++ [(k : Int)] := by
  rw [readyL, if_pos ⟨h, r⟩]
theorem readyL_n {steps : List JStep} {done : List Int} {k : Nat} {h : k < steps.length} (r : ¬ Ready steps done k h) : readyL steps done (k + 1) = readyL steps done k := by
  rw [readyL, if_neg (fun ⟨_, x⟩ => r x), List.append_nil]
theorem readyL_le (steps : List JStep) (done : List Int) : ∀ k, (readyL steps done k).length ≤ k
  | 0 => Nat.le_refl _
  | k + 1 => by
    have := readyL_le steps done k
    rw [readyL, List.length_append]
    split <;> simp <;> omega

/-- A list of numbers in a row of the call's own. -/
def Row1 (w w1 : World) (xs : List Int) (v : Value) : Prop := w1.ownsRow w.heap.size 3 1 v xs.length (xs.map (Value.int .i64))
theorem Row1.nil (w w1 : World) : Row1 w w1 [] (.slice none 0 0) := World.ownsRow_nil w1 _ _ _

theorem intD_flat (xs : List Int) : xs.flatMap intD = xs.map (D.int .i64) := by
  induction xs with
  | nil => rfl
  | cons x r ih => simp [intD, List.flatMap_cons, ← ih]
theorem Row1.made {w w1 : World} {xs : List Int} {v : Value} (h : Row1 w w1 xs v) (hb : Below w.heap.size w w1) : Made1 w (slD intD 1 xs) (.returned v) w1 := by
  have hflat : xs.flatMap intD = xs.map (D.int .i64) := intD_flat xs
  have hrow : ∀ (ys : List Int), OwnRow w1 (ys.map (D.int .i64)) (ys.map (Value.int .i64)) [] := by
    intro ys
    induction ys with
    | nil => exact OwnRow.nil w1
    | cons y r ih => exact OwnRow.int ih
  unfold Row1 at h
  rcases h.2 with ⟨rfl, h0⟩ | ⟨g, cap, cur, rfl, hg, hh, hn, hc, hs, ht⟩
  · refine ⟨_, [], rfl, ?_, Fresh.nil w, hb⟩
    simp only [slD, Own]
    refine ⟨flat_length intD_len _, .inl ?_⟩
    simpa using h0
  · refine ⟨_, [g], rfl, ?_, ⟨by simp, fun b hm => by simp at hm; omega⟩, hb⟩
    simp only [slD, Own]
    refine ⟨flat_length intD_len _, .inr ⟨g, cap, cur, _, [], rfl, hh, hn, hc, hs, rfl, ?_⟩⟩
    rw [ht, hflat]
    exact hrow xs
/-- What an append leaves below. -/
theorem grown_below {w wr W w2 : World} {v : Value} {xs : List Int} (h : Row1 w wr xs v) (hb : Below w.heap.size w wr) (hW : Below wr.heap.size wr W) (hg : W.grownBy w2 v.ownBlock) : Below w.heap.size w w2 := by
  have hb2 := bt hb hW
  refine ⟨hg.os.trans hb2.os, hg.tape.trans hb2.tape, hg.output.trans hb2.output, Nat.le_trans hb2.size hg.size, fun k hk => ?_⟩
  have hkW : k < W.heap.size := Nat.lt_of_lt_of_le hk hb2.size
  refine (hg.block k hkW ?_).trans (hb2.block k hk)
  rcases h.2 with ⟨rfl, _⟩ | ⟨g, cap, cur, rfl, hge, _⟩
  · simp [Value.ownBlock]
  · simp only [Value.ownBlock, ne_eq, Option.some.injEq]
    omega
theorem Row1.alloc {w wr : World} {xs : List Int} {v : Value} (h : Row1 w wr xs v) {W : World} (hW : Below wr.heap.size wr W) : Row1 w W xs v := by
  refine ⟨h.1, ?_⟩
  rcases h.2 with ⟨rfl, h0⟩ | ⟨g, cap, cur, rfl, hg, hh, hn, hc, hs, ht⟩
  · exact .inl ⟨rfl, h0⟩
  · exact .inr ⟨g, cap, cur, rfl, hg, (hW.block g (Array.getElem?_eq_some_iff.1 hh).1).trans hh, hn, hc, hs, ht⟩
theorem Row1.app {w w2 : World} {xs : List Int} {x : Int} {v' : Value} (h : w2.ownsRow w.heap.size 3 1 v' (xs.length + 1) (xs.map (Value.int .i64) ++ [.int .i64 x])) : Row1 w w2 (xs ++ [x]) v' := by
  unfold Row1
  simpa using h
set_option maxRecDepth 100000 in
set_option maxHeartbeats 4000000 in
theorem specSailReady_c (steps : List JStep) (done : List Int) (A B : Option Addr) (c d : Nat) (w : World) (hx : Rd w (slD JStep.enc 6 steps) (.slice A steps.length c)) (hy : Rd w (slD intD 1 done) (.slice B done.length d)) (hmax : steps.length ≤ 1048576) :
    Calls Try.prog 16 #[.slice A steps.length c, .slice B done.length d] w (Made1 w (slD intD 1 (readyL steps done steps.length))) := by
  obtain ⟨i0, hi, hz0, hz1, hz2⟩ := info_parts info_int
  have HX := Lib.hid hx
  have HY := Lib.hid hy
  clear hx hy
  go_enter Try.func16, Try.ntmps16
  go_wp2_with fail
  go_loopw [5, 6] (fun v i wr => ∃ k : Nat, k ≤ steps.length ∧ i = .int .i64 k ∧ Below w.heap.size w wr ∧ Hid (Row1 w wr (readyL steps done k) v)) (fun _ i _ => steps.length - (intOf i).toNat)
  case atStart => exact ⟨0, Nat.zero_le _, rfl, b1 _ _, by
    refine ⟨rfl, .inr ⟨_, 0, #[], rfl, Nat.le_refl _, by simp [World.alloc, -World.alloc_eq], Nat.le_refl _, by simp [maxLen], rfl, rfl⟩⟩⟩
  case round =>
    obtain ⟨k, hk, rfl, hbd, HR⟩ := hrel
    by_cases hlt : k < steps.length
    · obtain ⟨ad, A1, c1, A3, c3, A4, c4, A5, c5, rfl, x0, x1, x2, x3, x4, x5, g1, g3, g4, g5, m2, m1, m3, m4, m5⟩ := JStep.elem (HX.out.below hbd) k hlt
      have G4 := Lib.hid g4
      clear x0 x1 x2 x3 x5 g1 g3 g4 g5
      go_wp2_with fail
      refine (l9Has_c done _ _ _ _ (HY.out.below hbd)).mono ?_
      intro e wq hr
      obtain ⟨rfl, rfl⟩ := hr
      go_wp2
      go_loopw [7, 8] (fun b j w2 => ∃ q : Nat, q ≤ steps[k].after_.length ∧ j = .int .i64 q ∧ w2 = wq ∧ ∃ ok : Bool, b = .bool ok ∧ Hid (ok = true ↔ ((k : Int) ∉ done ∧ ∀ y (h : y < steps[k].after_.length), y < q → steps[k].after_[y] ∈ done))) (fun _ j _ => steps[k].after_.length - (intOf j).toNat)
      case atStart => exact ⟨0, Nat.zero_le _, rfl, rfl, _, rfl, by unfold Hid; by_cases h : (k : Int) ∈ done <;> simp [tf_t, tf_f, h]⟩
      case round =>
        obtain ⟨q, hq, rfl, rfl, ok, rfl, HO⟩ := hrel
        by_cases hl2 : q < steps[k].after_.length
        · obtain ⟨ad2, rfl, hc2⟩ := Rd.elem_int G4.out q hl2
          cases ok with
          | false =>
            go_wp2
            go_roundw
            case rel => exact ⟨q + 1, by omega, by go_num, by trivial, _, rfl, by
              refine ⟨fun h => (by cases h), fun h => ?_⟩
              exact HO.out.2 ⟨h.1, fun y hy hyq => h.2 y hy (by omega)⟩⟩
            case measure => simp [intOf]; omega
          | true =>
            go_wp2_with fail
            refine (l9Has_c done _ _ _ _ (HY.out.below hbd)).mono ?_
            intro e wp hr
            obtain ⟨rfl, rfl⟩ := hr
            go_wp2
            go_roundw
            case rel => exact ⟨q + 1, by omega, by go_num, by trivial, _, rfl, by
              have h0 := HO.out.1 (by trivial)
              unfold Hid
              rw [tf_iff]
              refine ⟨fun h => ⟨h0.1, fun y hy hyq => ?_⟩, fun h => h.2 q hl2 (by omega)⟩
              by_cases e : y = q
              · subst e; exact h
              · exact h0.2 y hy (by omega)⟩
            case measure => simp [intOf]; omega
        · cases ok with
          | false =>
            have hno : ¬ Ready steps done k hlt := fun h => by
              have := HO.out.2 ⟨h.1, fun y hy _ => h.2 _ (List.getElem_mem hy)⟩
              cases this
            replace hno := Lib.hid hno
            go_wp2
            go_roundw
            case rel => exact ⟨k + 1, by omega, by go_num, hbd, by unfold Hid; rw [readyL_n hno.out]; exact HR.out⟩
            case measure => simp [intOf]; omega
          | true =>
            have hyes : Ready steps done k hlt := by
              have h0 := HO.out.1 (by trivial)
              exact ⟨h0.1, fun a ha => by
                obtain ⟨y, hy, rfl⟩ := List.getElem_of_mem ha
                exact h0.2 y hy (by omega)⟩
            replace hyes := Lib.hid hyes
            go_wp2_with (at_builtin; refine wpList_append_own _ rfl _ _ 37 rfl w.heap.size 3 i0 (.int .i64 0) 1 8 Try.underlying37 hi hz0 hz1 hz2 rfl (by decide) _ _ _ rfl (Row1.alloc HR.out (b1 _ _)) ⟨wr.heap.size, 0, none⟩ 1 1 [.int .i64 k] rfl rfl ?c1 ?c2 ?c3 ?c4 ?c5 ?_)
            case c2 => rfl
            case c3 => have := readyL_le steps done k; unfold maxLen; omega
            case c4 => have := readyL_le steps done k; omega
            case c5 => have := hbd.size; omega
            intro v2 w2 hown hgr _
            have hB2 := grown_below HR.out hbd (b1 _ _) hgr
            have hR2 : Hid (Row1 w w2 (readyL steps done (k + 1)) v2) := by unfold Hid; rw [readyL_y hyes.out]; exact Row1.app hown
            clear hown hgr
            go_wp2
            go_roundw
            case rel => exact ⟨k + 1, by omega, by go_num, hB2, hR2⟩
            case measure => simp [intOf]; omega
    · go_wp2
      go_ret
      have he : k = steps.length := by omega
      rw [← he]
      exact Row1.made HR.out hbd
end Go.Proofs.Ytegabeefggcelaa.Lib
