/- AskLess on both sides. Asks and ways of 2^20 at most. -/
import Derived.Test.YtmkagpmdindlpaaDoorAsk12
import Derived.Test.YtmkagpmdindlpaaDoorAsk14
import Derived.Test.YtmkagpmdindlpaaDoorAsk15
set_option linter.unusedVariables false
set_option linter.unusedSimpArgs false
namespace Go.Proofs.YtmkagpmdindlpaaDoor.Lib
open Go.RowKit

/-- What is asked of the world at the call. -/
def EnvW (w : World) : Prop := TabW w ∧ MaxW w
theorem EnvW.below {w w' : World} (h : EnvW w) (hb : Below w.heap.size w w') : EnvW w' := ⟨h.1.below hb, h.2.below hb⟩
/-- An ask without what stands at a way; none if the ask is not ok. -/
noncomputable def lessR (xs : List JSel) (s : ByteArray) : List JSel := if tf (AskOkP xs) = true then lessL (cutL s) xs else []
theorem lessR_y {xs : List JSel} {s : ByteArray} (h : AskOkP xs) : lessR xs s = lessL (cutL s) xs := by unfold lessR; rw [if_pos (tf_t h)]
theorem lessR_n {xs : List JSel} {s : ByteArray} (h : ¬ AskOkP xs) : lessR xs s = [] := by unfold lessR; rw [if_neg (by rw [tf_f h]; decide)]
theorem lessL_bulk : ∀ (way : List ByteArray) (xs : List JSel), (lessL way xs).length + JSel.bulks (lessL way xs) ≤ xs.length + JSel.bulks xs
  | [], xs => by rw [lessL]; omega
  | p :: rest, xs => by
    rw [lessL_cons]
    induction xs with
    | nil => simp
    | cons x r ih =>
      have hk := lessL_bulk rest x.kids
      have hx := JSel.bulk_eq x
      have hs : ∀ y, lessOne p rest x = some y → y.bulk ≤ x.bulk := fun y hy => by
        unfold lessOne at hy
        split at hy
        · split at hy
          · cases hy
          · split at hy
            · simp only [Option.some.injEq] at hy
              subst hy
              rw [JSel.bulk_eq, hx]
              dsimp only
              omega
            · cases hy
        · simp only [Option.some.injEq] at hy
          subst hy
          omega
      rw [List.filterMap_cons]
      simp only [JSel.bulks, List.length_cons]
      cases he : lessOne p rest x with
      | none => simp only []; omega
      | some y => have := hs y he; simp only [JSel.bulks, List.length_cons]; omega
theorem lessR_bulk {xs : List JSel} {s : ByteArray} {n : Nat} (h : xs.length + JSel.bulks xs ≤ n) : (lessR xs s).length + JSel.bulks (lessR xs s) ≤ n := by
  by_cases ho : AskOkP xs
  · rw [lessR_y ho]; have := lessL_bulk (cutL s) xs; omega
  · rw [lessR_n ho]; simp [JSel.bulks]
theorem cutL_len (s : ByteArray) : (cutL s).length ≤ s.size + 1 := by
  have : ∀ l : List UInt8, (cutBs l).length ≤ l.length + 1 := by
    intro l
    induction l with
    | nil => simp [cutBs]
    | cons b r ih =>
      unfold cutBs
      split
      · simp; omega
      · split
        · simp
        · rename_i h; rw [h] at ih; simp at ih ⊢; omega
  have h := this s.data.toList
  unfold cutL
  rw [List.length_map]
  exact h
set_option maxRecDepth 100000 in
set_option maxHeartbeats 4000000 in
theorem specAskLess_c (xs : List JSel) (A : Option Addr) (n c : Nat) (fp : List Nat) (s : ByteArray) (w : World) (ho : Own w (slD JSel.enc 5 xs) (.slice A n c) fp) (hnd : fp.Nodup) (hbk : xs.length + JSel.bulks xs ≤ 1048576) (hs : s.size ≤ 1048576) :
    Calls Tryd.prog 6 #[.slice A n c, .string s] w (Made1 w (slD JSel.enc 5 (lessR xs s))) := by
  have hx := Own.rd _ _ _ ho
  obtain rfl := Rd.len hx
  have HO := Lib.hid (specAskOk_c xs A xs.length c w hx)
  have HC := Lib.hid (fun W => l2Cut_c s W hs)
  have HW := Lib.hid (fun W (h : Below w.heap.size w W) (way : List ByteArray) (hw : way ≠ []) (Aw : Option Addr) (nw cw : Nat) (hr : Rd W (slD strD 1 way) (.slice Aw nw cw)) => l12Less_c way hw xs A xs.length c fp Aw nw cw W (ho.keep h) hnd hr hbk)
  have HZ := Lib.hid (lessL_bulk (cutL s) xs)
  have HBK := Lib.hid hbk
  clear hx ho hnd hbk
  by_cases h1 : AskOkP xs
  · have hre := Lib.hid (lessR_y (s := s) h1)
    replace h1 := Lib.hid h1
    go_enter Tryd.func6, Tryd.ntmps6
    go_wp2_with fail
    refine HO.out.mono ?_
    intro e w1 hr
    obtain ⟨rfl, hb1⟩ := Ret.tt h1.out hr
    clear hr HO
    go_wp2_with fail
    refine (HC.out _).mono ?_
    rintro e w2 ⟨v2, f2, rfl, o2, hf2, hb2⟩
    obtain ⟨A2, c2, rfl⟩ := Own.slD o2
    have hb12 := Lib.hid (bt hb1 hb2)
    have HL := Lib.hid (HW.out w2 hb12.out (cutL s) (cutL_ne s) _ _ _ (Own.rd _ _ _ o2))
    clear o2 hf2 hb1 hb2
    go_wp2_with fail
    refine HL.out.mono ?_
    rintro e w3 ⟨v3, f3, rfl, o3, nd3, m3, b3⟩
    obtain ⟨A3, c3, rfl⟩ := Own.slD o3
    have hb13 := Lib.hid (bt hb12.out b3)
    have HY := Lib.hid (SelL3Copy_c _ A3 _ c3 w3 (Own.rd _ _ _ o3) (by have := HZ.out; have := HBK.out; omega))
    clear o3 nd3 m3 b3 HL
    go_wp2_with fail
    refine HY.out.mono ?_
    rintro e w4 ⟨v4, f4, rfl, o4, hf4, b4⟩
    have hb14 := Lib.hid (bt hb13.out b4)
    have o5 := Lib.hid o4
    have hf5 := Lib.hid (hf4.lower hb13.out.size)
    clear o4 hf4 b4 HY
    go_wp2
    go_ret
    exact ⟨_, f4, rfl, by rw [hre.out]; exact o5.out, hf5.out, hb14.out⟩
  · have hre := Lib.hid (lessR_n (s := s) h1)
    replace h1 := Lib.hid h1
    go_enter Tryd.func6, Tryd.ntmps6
    go_wp2_with fail
    refine HO.out.mono ?_
    intro e w1 hr
    obtain ⟨rfl, hb1⟩ := Ret.ff h1.out hr
    clear hr
    have hb1 := Lib.hid hb1
    go_wp2
    go_ret
    rw [hre.out]
    exact Gr.made JSel.enc_len (Gr.empty (base := w1.heap.size) w1 42 JSel.enc 5 (Nat.le_refl _)) hb1.out.size (bt hb1.out (b1 _ _))
set_option maxRecDepth 100000 in
set_option maxHeartbeats 4000000 in
theorem implAskLess_c (xs : List JSel) (A : Option Addr) (n c : Nat) (s : ByteArray) (w : World) (hx : Rd w (slD JSel.enc 5 xs) (.slice A n c)) (hbk : xs.length + JSel.bulks xs ≤ 1048576) (hs : s.size ≤ 1048576) (henv : EnvW w) :
    Calls Tryd.prog 8 #[.slice A n c, .string s] w (Made1 w (slD JSel.enc 5 (lessR xs s))) := by
  obtain rfl := Rd.len hx
  have HO := Lib.hid (implAskOk_c xs A xs.length c w hx hbk henv.1)
  have HC := Lib.hid (fun W (h : Below w.heap.size w W) => SelCopied_c xs A xs.length c W (hx.below h) hbk)
  have HM := Lib.hid (fun W (h : Below w.heap.size w W) => henv.2.below h)
  have HBK := Lib.hid hbk
  clear hx henv hbk
  by_cases h1 : AskOkP xs
  · have hre := Lib.hid (lessR_y (s := s) h1)
    replace h1 := Lib.hid h1
    go_enter Tryd.func8, Tryd.ntmps8
    go_wp2_with fail
    refine HO.out.mono ?_
    intro e w1 hr
    obtain ⟨rfl, hb1⟩ := Ret.tt h1.out hr
    clear hr HO
    go_wp2_with fail
    refine (HC.out _ hb1).mono ?_
    rintro e w2 ⟨v2, f2, rfl, o2, hf2, hb2⟩
    obtain ⟨A2, c2, rfl⟩ := Own.slD o2
    have hb12 := Lib.hid (bt hb1 hb2)
    have HL := Lib.hid (less_c s hs xs A2 _ c2 f2 w2 o2 hf2.1 HBK.out (HM.out _ hb12.out))
    have hf3 := Lib.hid (hf2.lower hb1.size)
    clear o2 hf2 hb1 hb2
    go_wp2_with fail
    refine HL.out.mono ?_
    rintro e w3 ⟨v3, f3, rfl, o3, nd3, m3, b3⟩
    have hb13 := Lib.hid (bt hb12.out b3)
    have o5 := Lib.hid o3
    have m5 := Lib.hid m3
    have nd5 := Lib.hid nd3
    clear o3 nd3 m3 b3 HL
    go_wp2
    go_ret
    exact ⟨_, f3, rfl, by rw [hre.out]; exact o5.out, ⟨nd5.out, fun b hm => by
      rcases m5.out b hm with h | h
      · exact hf3.out.2 b h
      · have := hb12.out.size; omega⟩, hb13.out⟩
  · have hre := Lib.hid (lessR_n (s := s) h1)
    replace h1 := Lib.hid h1
    go_enter Tryd.func8, Tryd.ntmps8
    go_wp2_with fail
    refine HO.out.mono ?_
    intro e w1 hr
    obtain ⟨rfl, hb1⟩ := Ret.ff h1.out hr
    clear hr
    have hb1 := Lib.hid hb1
    go_wp2
    go_ret
    rw [hre.out]
    exact Gr.made JSel.enc_len (Gr.nil w1.heap.size w1 42 JSel.enc 5) hb1.out.size hb1.out
end Go.Proofs.YtmkagpmdindlpaaDoor.Lib
