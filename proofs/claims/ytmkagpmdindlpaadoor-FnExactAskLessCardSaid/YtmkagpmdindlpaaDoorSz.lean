/- Contracts of the laws' size functions: what is left of a number behind a value's bulk, -1 if it isn't enough. Printed by gsz.py. For 0 <= left <= 2^20. -/
import Derived.Test.YtmkagpmdindlpaaDoorProg
import Derived.Test.YtmkagpmdindlpaaDoorBulk
set_option linter.unusedVariables false
set_option linter.unusedSimpArgs false
namespace Go.Proofs.YtmkagpmdindlpaaDoor.Lib
open Go.RowKit

def SzSel (v : JSel) : Prop := ∀ (cs : List Value) (left : Int) (w : World), RdL w v.enc cs → 0 ≤ left → left ≤ 1048576 →
    Calls Tryd.prog 14 #[.agg cs.toArray, .int .i64 left] w (Ret w (.int .i64 (szR (JSel.bulk v) left)))
def SzSelS (xs : List JSel) : Prop := ∀ (A : Option Addr) (c : Nat) (left : Int) (w : World), Rd w (slD JSel.enc 5 xs) (.slice A xs.length c) → 0 ≤ left → left ≤ 1048576 →
    Calls Tryd.prog 5 #[.slice A xs.length c, .int .i64 left] w (Ret w (.int .i64 (szR (xs.length + JSel.bulks xs) left)))
set_option maxHeartbeats 1600000 in
theorem szSel_of (v : JSel) (hK : SzSelS v.kids) : SzSel v := by
  intro cs left w hcs h0 h1
  obtain ⟨A4, c4, rfl, g4, l0, l1, n4⟩ := JSel.open_ hcs
  have G4 := Lib.hid g4
  have E := Lib.hid (JSel.bulk_eq v)
  have HK := Lib.hid hK
  clear hK
  clear hcs g4
  by_cases d0 : left - (v.as_.size : Int) < 0
  · go_enter Tryd.func14, Tryd.ntmps14
    go_wp2
    go_ret
    exact Ret.int (by have := E.out; rw [szR_no (by omega)]) (b1 _ _)
  by_cases d1 : left - (v.as_.size : Int) - (v.name.size : Int) < 0
  · go_enter Tryd.func14, Tryd.ntmps14
    go_wp2
    go_ret
    exact Ret.int (by have := E.out; rw [szR_no (by omega)]) (b1 _ _)
  by_cases d2 : (((v.kids.length + JSel.bulks v.kids) : Nat) : Int) ≤ left - (v.as_.size : Int) - (v.name.size : Int)
  case neg =>
    have e2 := szR_no d2
    go_enter Tryd.func14, Tryd.ntmps14
    go_wp2_with fail
    refine (HK.out _ _ _ _ (G4.out.below (b1 _ _)) (by omega) (by omega)).mono ?_
    rintro e w1 ⟨rfl, hb1⟩
    obtain ⟨hc1, hf1⟩ := bcell hb1
    have hz1 : w.heap.size < w1.heap.size := by have := hb1.size; simp at this; omega
    go_wp2
    go_ret
    exact Ret.int (by have := E.out; rw [szR_no (by omega)]) (bt (b1 _ _) hb1)
  have e2 : szR ((v.kids.length + JSel.bulks v.kids)) (left - (v.as_.size : Int) - (v.name.size : Int)) = left - (v.as_.size : Int) - (v.name.size : Int) - ((v.kids.length : Int) + (JSel.bulks v.kids : Int)) := by rw [szR_yes d2]; first | done | omega
  go_enter Tryd.func14, Tryd.ntmps14
  go_wp2_with fail
  refine (HK.out _ _ _ _ (G4.out.below (b1 _ _)) (by omega) (by omega)).mono ?_
  rintro e w1 ⟨rfl, hb1⟩
  obtain ⟨hc1, hf1⟩ := bcell hb1
  have hz1 : w.heap.size < w1.heap.size := by have := hb1.size; simp at this; omega
  go_wp2
  go_ret
  exact Ret.int (by have := E.out; rw [szR_yes (by omega)]; omega) (bt (b1 _ _) hb1)
set_option maxHeartbeats 1600000 in
theorem szSelS_of (xs : List JSel) (hE : ∀ x, x ∈ xs → SzSel x) : SzSelS xs := by
  intro A c left w hx h0 h1
  obtain ⟨_, _, _, hm0, hm1, _⟩ := Rd.slice hx
  unfold maxLen at hm1
  have hm : xs.length ≤ 9223372036854775807 := by omega
  have HX := Lib.hid hx
  have HE := Lib.hid hE
  clear hx hE hm0 hm1
  by_cases c1 : left - xs.length < 0
  · go_enter Tryd.func5, Tryd.ntmps5
    go_wp2
    go_ret
    exact Ret.int (by rw [szR_no (by omega)]) (Below.refl _ _)
  · go_enter Tryd.func5, Tryd.ntmps5
    go_wp2
    go_loopw [1, 5] (fun l i wr => ∃ k : Nat, k ≤ xs.length ∧ i = .int .i64 k ∧ ∃ r : Int, l = .int .i64 r ∧ 0 ≤ r ∧ r ≤ 1048576 ∧ Hid (r + JSel.bulks (xs.take k) + xs.length = left) ∧ Below w.heap.size w wr) (fun _ i _ => xs.length - (intOf i).toNat)
    case atStart => exact ⟨0, Nat.zero_le _, rfl, _, rfl, by omega, by omega, by simp [JSel.bulks, Hid], Below.refl _ _⟩
    case round =>
      obtain ⟨k, hk, rfl, r, rfl, hr0, hr1, HR, hbr⟩ := hrel
      by_cases hlt : k < xs.length
      · obtain ⟨ad, A4, c4, rfl, hx0, hx1, hx2, hx3, hx4, g4, l0, l1, n4⟩ := JSel.elem (HX.out.below hbr) k hlt
        have ht := Lib.hid (JSel.bulks_take xs k hlt)
        have HM := Lib.hid (HE.out xs[k] (List.getElem_mem hlt))
        have G4 := Lib.hid g4
        clear g4
        by_cases c2 : (JSel.bulk xs[k] : Int) ≤ r
        · have e2 := szR_yes c2
          go_wp2_with (go_at_call 14; refine (HM.out _ _ _ (JSel.close_ _ (G4.out) l0 l1) (by omega) (by omega)).mono ?_; rintro e w1 ⟨rfl, hb1⟩)
          go_roundw
          case rel => exact ⟨k + 1, by omega, by go_num, _, rfl, by omega, by omega, by have := HR.out; have := ht.out; unfold Hid; omega, bt hbr hb1⟩
          case measure => simp [intOf]; omega
        · have e2 := szR_no c2
          go_wp2_with (go_at_call 14; refine (HM.out _ _ _ (JSel.close_ _ (G4.out) l0 l1) (by omega) (by omega)).mono ?_; rintro e w1 ⟨rfl, hb1⟩)
          go_ret
          exact Ret.int (by have := HR.out; have := ht.out; have := JSel.bulks_le xs (k+1); rw [szR_no (by omega)]) (bt hbr hb1)
      · go_wp2
        go_ret
        exact Ret.int (by have := HR.out; rw [List.take_of_length_le (by omega)] at this; rw [szR_yes (by omega)]; omega) hbr
theorem szSel_both : ∀ n, (∀ v : JSel, SizeOf.sizeOf v < n → SzSel v) ∧ (∀ xs : List JSel, SizeOf.sizeOf xs < n → SzSelS xs)
  | 0 => ⟨fun _ h => absurd h (by omega), fun _ h => absurd h (by omega)⟩
  | n + 1 => by
    have ih := szSel_both n
    refine ⟨fun v h => szSel_of v (ih.2 _ (by have := JSel.kids_lt v; omega)), fun xs h => szSelS_of xs (fun x hx => ih.1 x (by have := List.sizeOf_lt_of_mem hx; omega))⟩
theorem szSel_c (v : JSel) : SzSel v := (szSel_both _).1 v (Nat.lt_succ_self _)
theorem szSelS_c (xs : List JSel) : SzSelS xs := (szSel_both _).2 xs (Nat.lt_succ_self _)

end Go.Proofs.YtmkagpmdindlpaaDoor.Lib
