/- The program's askMany. Levels to 6; sizes up to 2^20. -/
import Derived.Test.YtmkagpmdindlpaaDoorAsk2
set_option linter.unusedVariables false
set_option linter.unusedSimpArgs false
namespace Go.Proofs.YtmkagpmdindlpaaDoor.Lib
open Go.RowKit

theorem live_many1 : Live 41 := live_of Tryd.func41 (by kernel_rfl) (by kernel_rfl)
theorem many1_c (x : JSel) (cs : List Value) (w : World) (hx : RdL w x.enc cs) : Calls Tryd.prog 41 #[.agg cs.toArray] w (Ret w (.bool (tf (¬ SelOk x)))) := by
  have HM := Lib.hid (fun W h => selOk_c x cs W h)
  have HC := Lib.hid hx
  obtain ⟨A4, c4, rfl, g4, l0, l1, n4⟩ := JSel.open_ hx
  clear hx g4
  by_cases h : SelOk x
  · replace h := Lib.hid h
    go_enter Tryd.func41, Tryd.ntmps41
    go_wp2_with fail
    refine (HM.out _ (HC.out.keep (b1 _ _))).mono ?_
    intro e w1 hr
    obtain ⟨rfl, hb1⟩ := Ret.tt h.out hr
    clear hr
    go_wp2
    go_ret
    exact Ret.f (fun k => k h.out) (bt (b1 _ _) hb1)
  · replace h := Lib.hid h
    go_enter Tryd.func41, Tryd.ntmps41
    go_wp2_with fail
    refine (HM.out _ (HC.out.keep (b1 _ _))).mono ?_
    intro e w1 hr
    obtain ⟨rfl, hb1⟩ := Ret.ff h.out hr
    clear hr
    go_wp2
    go_ret
    exact Ret.t h.out (bt (b1 _ _) hb1)

theorem twice_n (xs : List ByteArray) (A : Option Addr) (n c : Nat) (w : World) (hx : Rd w (slD strD 1 xs) (.slice A n c)) :
    Calls Tryd.prog 38 #[.slice A n c] w (Ret w (.bool (tf (Twice xs)))) := by
  obtain rfl := Rd.len hx
  exact twice_c xs A c w hx
theorem AskL.nil (d : Int) : AskL [] d := ⟨fun h => absurd rfl h, by simp [Twice], by simp [JSel.okL]⟩
def ManyR (xs : List JSel) (d r : Int) : Prop := ((AskL xs d ∧ JSel.nodesL xs ≤ 24) → r = JSel.nodesL xs) ∧ (¬ (AskL xs d ∧ JSel.nodesL xs ≤ 24) → 24 < r) ∧ 0 ≤ r ∧ r ≤ 1048576 * (7 - d)
def AskMany (xs : List JSel) : Prop := ∀ (A : Option Addr) (n c : Nat) (d : Int) (w : World), Rd w (slD JSel.enc 5 xs) (.slice A n c) → 0 ≤ d → d ≤ 6 → (xs = [] → d ≤ 5) → xs.length + JSel.bulks xs ≤ 1048576 →
  Calls Tryd.prog 31 #[.slice A n c, .int .i64 d] w (fun e w' => ∃ r : Int, Ret w (.int .i64 r) e w' ∧ ManyR xs d r)
set_option maxRecDepth 100000 in
set_option maxHeartbeats 8000000 in
theorem askMany_of (xs : List JSel) (hK : ∀ x, x ∈ xs → AskMany x.kids) : AskMany xs := by
  intro A n c d w hx hd0 hd1 hne hbk
  obtain rfl := Rd.len hx
  have hl : xs.length ≤ 1048576 := by omega
  have HX := Lib.hid hx
  have HK := Lib.hid hK
  have HBK := Lib.hid hbk
  clear hx hK hbk
  by_cases hdp : 5 < d
  · have hno : ¬ (AskL xs d ∧ JSel.nodesL xs ≤ 24) := fun h => by
      have : xs ≠ [] := fun e => by have := hne e; omega
      have := h.1.1 this
      omega
    replace hno := Lib.hid hno
    clear hne
    go_enter Tryd.func31, Tryd.ntmps31
    go_wp2
    go_ret
    exact ⟨_, ⟨rfl, Below.refl _ _⟩, fun h => absurd h hno.out, fun _ => by omega, by omega, by omega⟩
  clear hne
  have HU := Lib.hid (fun W (h : Below w.heap.size w W) => unders_c xs A c W (HX.out.below h) hl)
  by_cases ht : Twice (xs.map JSel.under)
  · have hno : ¬ (AskL xs d ∧ JSel.nodesL xs ≤ 24) := fun h => h.1.2.1 ht
    replace hno := Lib.hid hno
    replace ht := Lib.hid ht
    go_enter Tryd.func31, Tryd.ntmps31
    go_wp2_with fail
    refine (HU.out _ (Below.refl _ _)).mono ?_
    rintro e w1 ⟨v1, f1, rfl, o1, fr1, hb1⟩
    obtain ⟨A1, c1, hv1⟩ := Own.slD o1; rw [List.length_map] at hv1; subst hv1
    go_wp2_with fail
    refine (twice_n (xs.map JSel.under) _ _ _ _ (Own.rd _ _ _ o1)).mono ?_
    intro e w2 hr
    obtain ⟨rfl, hb2⟩ := Ret.tt ht.out hr
    clear hr o1 fr1
    have hB2 := bt hb1 hb2
    go_wp2
    go_ret
    exact ⟨_, ⟨rfl, hB2⟩, fun h => absurd h hno.out, fun _ => by omega, by omega, by omega⟩
  have HF := Lib.hid (fun W (h : Below w.heap.size w W) => containsFuncSel_c xs A c (fun x => ¬ SelOk x) 41 #[] W (HX.out.below h) ⟨live_many1, fun x us W2 h1 h2 => many1_c x us W2 h1⟩)
  by_cases hbad : ∃ x, x ∈ xs ∧ ¬ SelOk x
  · have hno : ¬ (AskL xs d ∧ JSel.nodesL xs ≤ 24) := fun h => by
      obtain ⟨x, hx, hb⟩ := hbad
      exact hb ((x.okAt_eq d).1 (JSel.okL_iff.1 h.1.2.2 x hx)).1
    replace hno := Lib.hid hno
    replace ht := Lib.hid ht
    replace hbad := Lib.hid hbad
    go_enter Tryd.func31, Tryd.ntmps31
    go_wp2_with fail
    refine (HU.out _ (Below.refl _ _)).mono ?_
    rintro e w1 ⟨v1, f1, rfl, o1, fr1, hb1⟩
    obtain ⟨A1, c1, hv1⟩ := Own.slD o1; rw [List.length_map] at hv1; subst hv1
    go_wp2_with fail
    refine (twice_n (xs.map JSel.under) _ _ _ _ (Own.rd _ _ _ o1)).mono ?_
    intro e w2 hr
    obtain ⟨rfl, hb2⟩ := Ret.ff ht.out hr
    clear hr o1 fr1
    have hB2 := bt hb1 hb2
    go_wp2_with fail
    refine (HF.out _ hB2).mono ?_
    intro e w3 hr
    obtain ⟨rfl, hb3⟩ := Ret.tt hbad.out hr
    clear hr
    have hB3 := bt hB2 hb3
    go_wp2
    go_ret
    exact ⟨_, ⟨rfl, hB3⟩, fun h => absurd h hno.out, fun _ => by omega, by omega, by omega⟩
  have hgood : ∀ x, x ∈ xs → SelOk x := fun x hx => Classical.byContradiction fun h => hbad ⟨x, hx, h⟩
  replace hgood := Lib.hid hgood
  replace ht := Lib.hid ht
  replace hbad := Lib.hid hbad
  have hfin : ∀ m : Int, (∀ x, x ∈ xs → AskL x.kids (d + 1)) → m = JSel.nodesL xs → m ≤ 24 → 0 ≤ m → ManyR xs d m := fun m h1 h2 h3 h4 =>
    ⟨fun _ => h2, fun h => absurd ⟨⟨fun _ => by omega, ht.out, JSel.okL_iff.2 fun x hx => (x.okAt_eq d).2 ⟨hgood.out x hx, h1 x hx⟩⟩, by omega⟩ h, h4, by omega⟩
  replace hfin := Lib.hid hfin
  go_enter Tryd.func31, Tryd.ntmps31
  go_wp2_with fail
  refine (HU.out _ (Below.refl _ _)).mono ?_
  rintro e w1 ⟨v1, f1, rfl, o1, fr1, hb1⟩
  obtain ⟨A1, c1, hv1⟩ := Own.slD o1; rw [List.length_map] at hv1; subst hv1
  go_wp2_with fail
  refine (twice_n (xs.map JSel.under) _ _ _ _ (Own.rd _ _ _ o1)).mono ?_
  intro e w2 hr
  obtain ⟨rfl, hb2⟩ := Ret.ff ht.out hr
  clear hr o1 fr1
  have hB2 := bt hb1 hb2
  go_wp2_with fail
  refine (HF.out _ hB2).mono ?_
  intro e w3 hr
  obtain ⟨rfl, hb3⟩ := Ret.ff hbad.out hr
  clear hr
  have hB3 := Lib.hid (bt hB2 hb3)
  clear hB2 hb1 hb2 hb3
  go_wp2
  go_loopw [5, 23, 7] (fun n i _ wr => ∃ k : Nat, k ≤ xs.length ∧ i = .int .i64 k ∧ ∃ m : Int, n = .int .i64 m ∧ 0 ≤ m ∧ m ≤ 1048576 ∧ Hid (Below w.heap.size w wr) ∧ Hid ((∀ j, ∀ h : j < xs.length, j < k → AskL xs[j].kids (d + 1)) ∧ m = xs.length + JSel.subL (xs.take k) ∧ (0 < k → m ≤ 24))) (fun _ i _ _ => xs.length - (intOf i).toNat)
  case atStart => exact ⟨0, Nat.zero_le _, rfl, _, rfl, by omega, by omega, hB3.out, fun j h hj => absurd hj (by omega), by simp [JSel.subL], fun h => absurd h (by omega)⟩
  case round =>
    obtain ⟨k, hk, rfl, m, rfl, hm0, hm1, HB, HR⟩ := hrel
    by_cases hlt : k < xs.length
    case neg =>
      go_wp2
      go_ret
      have hke : k = xs.length := by omega
      obtain ⟨p1, p2, p3⟩ := HR.out
      rw [hke, List.take_of_length_le (Nat.le_refl _)] at p2
      have hsub := JSel.subL_eq xs
      refine ⟨_, ⟨rfl, HB.out⟩, hfin.out _ (fun x hx => ?_) (by omega) ?_ hm0⟩
      · obtain ⟨j, hj, rfl⟩ := List.getElem_of_mem hx
        exact p1 j hj (by omega)
      · by_cases h0 : 0 < k
        · exact p3 h0
        · have : xs = [] := List.eq_nil_of_length_eq_zero (by omega)
          subst this
          simp [JSel.subL] at p2
          omega
    obtain ⟨ad, A4, c4, rfl, y0, y1, y2, y3, y4, g4, l0, l1, n4⟩ := JSel.elem (HX.out.below HB.out) k hlt
    have hkb : xs[k].kids.length + JSel.bulks xs[k].kids ≤ 1048576 := by
      have h2 := bulkL_mem (f := JSel.bulk) (xs := xs) (n := 1048576) (by have := HBK.out; rw [JSel.bulkL_eq]; omega) (List.getElem_mem hlt)
      rw [JSel.bulk_eq] at h2; omega
    have hsk := JSel.subL_take xs k hlt
    have hsl := JSel.subL_le xs (k + 1)
    have hse := JSel.subL_eq xs
    have hbr : ∀ m2 : Int, m2 = m + JSel.nodesL xs[k].kids → 24 < m2 → ¬ (AskL xs d ∧ JSel.nodesL xs ≤ 24) := fun m2 e h1 h2 => by
      have := HR.out.2.1; have := h2.2; omega
    replace hbr := Lib.hid hbr
    replace hsk := Lib.hid hsk
    clear hsl hse
    by_cases hk0 : xs[k].kids.length = 0
    · have hnil : xs[k].kids = [] := List.eq_nil_of_length_eq_zero hk0
      have hn0 : JSel.nodesL xs[k].kids = 0 := by rw [hnil]; rfl
      have hak : AskL xs[k].kids (d + 1) := by rw [hnil]; exact AskL.nil _
      replace hn0 := Lib.hid hn0
      replace hak := Lib.hid hak
      have hk0I : ¬ (0 : Int) < xs[k].kids.length := by omega
      clear hnil hk0 g4
      by_cases hm24 : 24 < m
      · go_wp2
        go_ret
        exact ⟨_, ⟨rfl, bt HB.out (b1 _ _)⟩, fun h => absurd h (hbr.out m (by have := hn0.out; omega) hm24), fun _ => hm24, hm0, by omega⟩
      · go_wp2
        go_roundw
        case rel => exact ⟨k + 1, by omega, by go_num, m, rfl, by omega, by omega, bt HB.out (b1 _ _), fun j h hj => (by
            by_cases e : j = k
            · subst e; exact hak.out
            · exact HR.out.1 j h (by omega)), by have := HR.out.2.1; have := hsk.out; have := hn0.out; omega, fun _ => by omega⟩
        case measure => simp [intOf]; omega
    · have hk0I : (0 : Int) < xs[k].kids.length := by omega
      have hne : xs[k].kids ≠ [] := fun e => hk0 (by rw [e]; rfl)
      have HM := Lib.hid (fun W (h : Below wr.heap.size wr W) => HK.out xs[k] (List.getElem_mem hlt) A4 xs[k].kids.length c4 (d + 1) W (g4.below h) (by omega) (by omega) (fun e => absurd e hne) hkb)
      clear g4 hk0 hne
      go_wp2_with fail
      refine (HM.out _ (b1 _ _)).mono ?_
      rintro e w2 ⟨r, ⟨rfl, hb2⟩, hr⟩
      have hr0 := hr.2.2.1
      have hr1 : r ≤ 1048576 * (7 - (d + 1)) := hr.2.2.2
      have hr := Lib.hid hr
      have hb9 := Lib.hid (bt HB.out (bt (b1 _ _) hb2))
      clear hb2
      by_cases hm24 : 24 < m + r
      · go_wp2
        go_ret
        have hno : ¬ (AskL xs d ∧ JSel.nodesL xs ≤ 24) := fun h2 => by
          have hg := ((xs[k].okAt_eq d).1 (h2.1.get hlt)).2
          have hn := (nodesL_k hlt).1
          have e1 := hr.out.1 ⟨hg, by have := h2.2; omega⟩
          exact hbr.out (m + r) (by omega) hm24 h2
        exact ⟨_, ⟨rfl, hb9.out⟩, fun h => absurd h hno, fun _ => hm24, by omega, by omega⟩
      · have hg : AskL xs[k].kids (d + 1) ∧ JSel.nodesL xs[k].kids ≤ 24 := Classical.byContradiction fun hc => by have := hr.out.2.1 hc; omega
        have e1 := Lib.hid (hr.out.1 hg)
        replace hg := Lib.hid hg
        go_wp2
        go_roundw
        case rel => exact ⟨k + 1, by omega, by go_num, m + r, rfl, by omega, by omega, hb9.out, fun j h hj => (by
            by_cases e : j = k
            · subst e; exact hg.out.1
            · exact HR.out.1 j h (by omega)), by have := HR.out.2.1; have := hsk.out; have := e1.out; omega, fun _ => by omega⟩
        case measure => simp [intOf]; omega
theorem askMany_all : ∀ n, ∀ xs : List JSel, SizeOf.sizeOf xs < n → AskMany xs
  | 0 => fun _ h => absurd h (by omega)
  | n + 1 => fun xs h => askMany_of xs fun x hx => askMany_all n x.kids (by have := JSel.kids_lt x; have := List.sizeOf_lt_of_mem hx; omega)
theorem askMany_c (xs : List JSel) : AskMany xs := askMany_all _ xs (Nat.lt_succ_self _)
end Go.Proofs.YtmkagpmdindlpaaDoor.Lib
