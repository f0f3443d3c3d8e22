/- AskOk and AskWrite on both sides. Printed by gask7.py. Sizes up to 2^20. -/
import Derived.Test.YtmkagpmdindlpaaDoorAsk5
import Derived.Test.YtmkagpmdindlpaaDoorAsk6
set_option linter.unusedVariables false
set_option linter.unusedSimpArgs false
namespace Go.Proofs.YtmkagpmdindlpaaDoor.Lib
open Go.RowKit

set_option maxRecDepth 100000 in
set_option maxHeartbeats 4000000 in
theorem specAskOk_c (xs : List JSel) (A : Option Addr) (n c : Nat) (w : World) (hx : Rd w (slD JSel.enc 5 xs) (.slice A n c)) :
    Calls Tryd.prog 15 #[.slice A n c] w (Ret w (.bool (tf (AskOkP xs)))) := by
  obtain rfl := Rd.len hx
  have HL := Lib.hid (fun W (h : Below w.heap.size w W) => l3Ok_c xs A xs.length c 1 24 W (hx.below h) (by omega) (by omega) (by omega) (by omega))
  have HW := Lib.hid (fun W (h : Below w.heap.size w W) (ho : JSel.okL xs 1) (hn : JSel.nodesL xs ≤ 24) => l3Write_c xs A xs.length c 1 W (hx.below h) ho hn)
  clear hx
  by_cases h0 : xs = []
  · have h0I : ¬ (0 : Int) < xs.length := by rw [h0]; simp
    replace h0 := Lib.hid h0
    go_enter Tryd.func15, Tryd.ntmps15
    go_wp2
    go_ret
    exact Ret.f (fun h => h.1 h0.out) (Below.refl _ _)
  have h0I : (0 : Int) < xs.length := by have := List.length_pos_iff.2 h0; omega
  replace h0 := Lib.hid h0
  by_cases h1 : AskL xs 1 ∧ (JSel.nodesL xs : Int) ≤ 24
  · have hz := askT_bounds h1.1.2.2 (by have := h1.2; omega)
    have HW2 := Lib.hid (fun W (h : Below w.heap.size w W) => HW.out W h h1.1.2.2 (by have := h1.2; omega))
    have hn0 : (0 : Int) ≤ 24 - JSel.nodesL xs := by have := h1.2; omega
    replace h1 := Lib.hid h1
    by_cases h2 : (askT xs).size ≤ 400
    · have h2I : ((askT xs).size : Int) ≤ 400 := by omega
      go_enter Tryd.func15, Tryd.ntmps15
      go_wp2_with fail
      refine (HL.out _ (Below.refl _ _)).mono ?_
      rintro e w1 ⟨r, ⟨rfl, hb1⟩, hr⟩
      obtain rfl := hr.1 h1.out
      clear hr
      go_wp2_with fail
      refine (HW2.out _ hb1).mono ?_
      rintro e w2 ⟨rfl, hb2⟩
      have hb9 := Lib.hid (bt hb1 hb2)
      clear hb1 hb2
      go_wp2
      go_ret
      exact Ret.t ⟨h0.out, h1.out.1, by have := h1.out.2; omega, h2⟩ hb9.out
    · have h2I : ¬ ((askT xs).size : Int) ≤ 400 := by omega
      go_enter Tryd.func15, Tryd.ntmps15
      go_wp2_with fail
      refine (HL.out _ (Below.refl _ _)).mono ?_
      rintro e w1 ⟨r, ⟨rfl, hb1⟩, hr⟩
      obtain rfl := hr.1 h1.out
      clear hr
      go_wp2_with fail
      refine (HW2.out _ hb1).mono ?_
      rintro e w2 ⟨rfl, hb2⟩
      have hb9 := Lib.hid (bt hb1 hb2)
      clear hb1 hb2
      go_wp2
      go_ret
      exact Ret.d (p := AskOkP xs) (q := ((askT xs).size : Int) ≤ 400) ⟨fun h => absurd h.2.2.2 h2, fun h => by omega⟩ hb9.out
  · replace h1 := Lib.hid h1
    go_enter Tryd.func15, Tryd.ntmps15
    go_wp2_with fail
    refine (HL.out _ (Below.refl _ _)).mono ?_
    rintro e w1 ⟨r, ⟨rfl, hb1⟩, hr⟩
    obtain rfl := hr.2 h1.out
    clear hr
    go_wp2
    go_ret
    exact Ret.f (fun h => h1.out ⟨h.2.1, by have := h.2.2.1; omega⟩) hb1

set_option maxRecDepth 100000 in
set_option maxHeartbeats 4000000 in
theorem implAskOk_c (xs : List JSel) (A : Option Addr) (n c : Nat) (w : World) (hx : Rd w (slD JSel.enc 5 xs) (.slice A n c)) (hbk : xs.length + JSel.bulks xs ≤ 1048576) (htab : TabW w) :
    Calls Tryd.prog 20 #[.slice A n c] w (Ret w (.bool (tf (AskOkP xs)))) := by
  obtain rfl := Rd.len hx
  have HL := Lib.hid (fun W (h : Below w.heap.size w W) => askMany_c xs A xs.length c 1 W (hx.below h) (by omega) (by omega) (fun _ => by omega) hbk)
  have HW := Lib.hid (fun W (h : Below w.heap.size w W) (ho : JSel.okL xs 1) (hn : JSel.nodesL xs ≤ 24) => askText_c xs A xs.length c 1 W (hx.below h) ho hn (htab.below h))
  clear hx htab hbk
  by_cases h1 : xs ≠ [] ∧ AskL xs 1 ∧ JSel.nodesL xs ≤ 24
  · have hz := askT_bounds h1.2.1.2.2 h1.2.2
    have HW2 := Lib.hid (fun W (h : Below w.heap.size w W) => HW.out W h h1.2.1.2.2 h1.2.2)
    have hin : InI (JSel.nodesL xs) 1 24 := by
      have := JSel.nodesL_len xs; have := List.length_pos_iff.2 h1.1; have := h1.2.2; unfold InI; omega
    replace hin := Lib.hid hin
    replace h1 := Lib.hid h1
    by_cases h2 : (askT xs).size ≤ 400
    · have h2I : ((askT xs).size : Int) ≤ 400 := by omega
      go_enter Tryd.func20, Tryd.ntmps20
      go_wp2_with fail
      refine (HL.out _ (Below.refl _ _)).mono ?_
      rintro e w1 ⟨r, ⟨rfl, hb1⟩, hr⟩
      obtain rfl := hr.1 h1.out.2
      clear hr
      go_wp2_with fail
      refine (in_c _ _ _ _).mono ?_
      intro e w2 hr
      obtain ⟨rfl, rfl⟩ := RetQ.tt hin.out hr
      clear hr
      go_wp2_with fail
      refine (HW2.out _ hb1).mono ?_
      rintro e w3 ⟨rfl, hb2⟩
      have hb9 := Lib.hid (bt hb1 hb2)
      clear hb1 hb2
      go_wp2
      go_ret
      exact Ret.t ⟨h1.out.1, h1.out.2.1, h1.out.2.2, h2⟩ hb9.out
    · have h2I : ¬ ((askT xs).size : Int) ≤ 400 := by omega
      go_enter Tryd.func20, Tryd.ntmps20
      go_wp2_with fail
      refine (HL.out _ (Below.refl _ _)).mono ?_
      rintro e w1 ⟨r, ⟨rfl, hb1⟩, hr⟩
      obtain rfl := hr.1 h1.out.2
      clear hr
      go_wp2_with fail
      refine (in_c _ _ _ _).mono ?_
      intro e w2 hr
      obtain ⟨rfl, rfl⟩ := RetQ.tt hin.out hr
      clear hr
      go_wp2_with fail
      refine (HW2.out _ hb1).mono ?_
      rintro e w3 ⟨rfl, hb2⟩
      have hb9 := Lib.hid (bt hb1 hb2)
      clear hb1 hb2
      go_wp2
      go_ret
      exact Ret.d (p := AskOkP xs) (q := ((askT xs).size : Int) ≤ 400) ⟨fun h => absurd h.2.2.2 h2, fun h => by omega⟩ hb9.out
  · replace h1 := Lib.hid h1
    go_enter Tryd.func20, Tryd.ntmps20
    go_wp2_with fail
    refine (HL.out _ (Below.refl _ _)).mono ?_
    rintro e w1 ⟨r, ⟨rfl, hb1⟩, hr⟩
    have hin : ¬ InI r 1 24 := fun hi => by
      unfold InI at hi
      by_cases hg : AskL xs 1 ∧ JSel.nodesL xs ≤ 24
      · have e1 := hr.1 hg
        refine h1.out ⟨fun e0 => ?_, hg⟩
        subst e0
        simp [JSel.nodesL] at e1
        omega
      · have := hr.2.1 hg; omega
    replace hin := Lib.hid hin
    clear hr
    go_wp2_with fail
    refine (in_c _ _ _ _).mono ?_
    intro e w2 hr
    obtain ⟨rfl, rfl⟩ := RetQ.ff hin.out hr
    clear hr
    go_wp2
    go_ret
    exact Ret.f (fun h => h1.out ⟨h.1, h.2.1, h.2.2.1⟩) hb1

/-- The text of an ask that is ok; else none. -/
noncomputable def writeR (xs : List JSel) : ByteArray := if tf (AskOkP xs) = true then askT xs else ⟨#[]⟩
theorem writeR_y {xs : List JSel} (h : AskOkP xs) : writeR xs = askT xs := by unfold writeR; rw [if_pos (tf_t h)]
theorem writeR_n {xs : List JSel} (h : ¬ AskOkP xs) : writeR xs = ⟨#[]⟩ := by unfold writeR; rw [if_neg (by rw [tf_f h]; decide)]
end Go.Proofs.YtmkagpmdindlpaaDoor.Lib
