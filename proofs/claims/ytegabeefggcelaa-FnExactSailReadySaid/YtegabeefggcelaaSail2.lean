/- The program's SailReady. No condition beyond sizes that every list has. -/
import Derived.Test.YtegabeefggcelaaSail1
set_option linter.unusedVariables false
set_option linter.unusedSimpArgs false
namespace Go.Proofs.Ytegabeefggcelaa.Lib
open Go.RowKit

theorem live_ready1 : Live 45 := live_of Try.func45 (by kernel_rfl) (by kernel_rfl)
theorem ready1_c (done : List Int) (B : Option Addr) (d g : Nat) (k : Int) (w : World) (hc : w.cell? ⟨g, 0, none⟩ = some (.slice B done.length d)) (hy : Rd w (slD intD 1 done) (.slice B done.length d)) :
    Calls Try.prog 45 #[.int .i64 k, .pointer (some ⟨g, 0, none⟩)] w (RetQ w (.bool (tf (k ∉ done)))) := by
  have HM := Lib.hid (containsInt_c done B d k w hy)
  by_cases h : k ∈ done
  · replace h := Lib.hid h
    go_enter Try.func45, Try.ntmps45
    go_wp2_with fail
    refine HM.out.mono ?_
    intro e w1 hr
    obtain ⟨rfl, rfl⟩ := RetQ.tt h.out hr
    clear hr
    go_wp2
    go_ret
    exact RetQ.f (fun k => k h.out)
  · replace h := Lib.hid h
    go_enter Try.func45, Try.ntmps45
    go_wp2_with fail
    refine HM.out.mono ?_
    intro e w1 hr
    obtain ⟨rfl, rfl⟩ := RetQ.ff h.out hr
    clear hr
    go_wp2
    go_ret
    exact RetQ.t h.out

theorem Row1.low {w W w1 : World} {xs : List Int} {v : Value} (h : Row1 W w1 xs v) (hs : w.heap.size ≤ W.heap.size) : Row1 w w1 xs v := by
  refine ⟨h.1, ?_⟩
  rcases h.2 with ⟨rfl, h0⟩ | ⟨g, cap, cur, rfl, hg, hh⟩
  · exact .inl ⟨rfl, h0⟩
  · exact .inr ⟨g, cap, cur, rfl, by omega, hh⟩
set_option maxRecDepth 100000 in
set_option maxHeartbeats 4000000 in
theorem implSailReady_c (steps : List JStep) (done : List Int) (A B : Option Addr) (c d : Nat) (w : World) (hx : Rd w (slD JStep.enc 6 steps) (.slice A steps.length c)) (hy : Rd w (slD intD 1 done) (.slice B done.length d)) (hmax : steps.length ≤ 1048576) :
    Calls Try.prog 19 #[.slice A steps.length c, .slice B done.length d] w (Made1 w (slD intD 1 (readyL steps done steps.length))) := by
  have hmf : ∀ (fn : Fn) (first cap : Array Value) (w : World), (Instr.makeFunc fn first cap).run Try.prog w = .ok (.func fn first cap) w := fun _ _ _ _ => rfl
  obtain ⟨i0, hi, hz0, hz1, hz2⟩ := info_parts info_int
  have HX := Lib.hid hx
  have HY := Lib.hid hy
  clear hx hy
  go_enter Try.func19, Try.ntmps19
  go_wp2
  have hbox : (w.alloc (.cells #[.slice B done.length d] 37)).cell? ⟨w.heap.size, 0, none⟩ = some (.slice B done.length d) := by simp [go_sem]
  have hbox := Lib.hid hbox
  have hzB : (w.alloc (.cells #[.slice B done.length d] 37)).heap.size = w.heap.size + 1 := by simp
  go_loopw [5, 11, 6, 7, 8] (fun v i _ _ _ wr => ∃ k : Nat, k ≤ steps.length ∧ i = .int .i64 k ∧ Hid (Below (w.alloc (.cells #[.slice B done.length d] 37)).heap.size (w.alloc (.cells #[.slice B done.length d] 37)) wr) ∧ Hid (Row1 (w.alloc (.cells #[.slice B done.length d] 37)) wr (readyL steps done k) v)) (fun _ i _ _ _ _ => steps.length - (intOf i).toNat)
  case atStart => exact ⟨0, Nat.zero_le _, rfl, Below.refl _ _, Row1.nil _ _⟩
  case round =>
    obtain ⟨k, hk, rfl, HB, HR⟩ := hrel
    have hbd := bt (b1 w (.cells #[.slice B done.length d] 37)) HB.out
    by_cases hlt : k < steps.length
    · obtain ⟨ad, A1, c1, A3, c3, A4, c4, A5, c5, rfl, x0, x1, x2, x3, x4, x5, g1, g3, g4, g5, m2, m1, m3, m4, m5⟩ := JStep.elem (HX.out.below hbd) k hlt
      have G4 := Lib.hid g4
      clear g1 g3 g4 g5
      have hcell := cell_keep HB.out hbox.out
      have hsz : w.heap.size < wr.heap.size := World.block_lt_of_cell? wr _ hcell
      by_cases h1 : (k : Int) ∈ done
      · have hno : ¬ Ready steps done k hlt := fun h => h.1 h1
        replace hno := Lib.hid hno
        replace h1 := Lib.hid h1
        go_wp2_with fail
        refine (ready1_c done B d w.heap.size k _ (cell_keep (b1 _ _) hcell) (HY.out.below (bt hbd (b1 _ _)))).mono ?_
        intro e wq hr
        obtain ⟨rfl, rfl⟩ := RetQ.ff (fun h => h h1.out) hr
        clear hr
        go_wp2
        go_roundw
        case rel => exact ⟨k + 1, by omega, by go_num, bt HB.out (b1 _ _), by unfold Hid; rw [readyL_n hno.out]; exact Row1.alloc HR.out (b1 _ _)⟩
        case measure => simp [intOf]; omega
      · replace h1 := Lib.hid h1
        have HC := Lib.hid (fun (W : World) (hbW : Below wr.heap.size wr W) => containsFuncInt_c steps[k].after_ A4 c4 (fun a => a ∉ done) 45 #[.pointer (some ⟨w.heap.size, 0, none⟩)] W (G4.out.below hbW) ⟨live_ready1, fun a W2 _ hb2 => (ready1_c done B d w.heap.size a W2 (cell_keep hb2 (cell_keep hbW hcell)) (HY.out.below (bt (bt hbd hbW) hb2))).mono fun e w' h => h.ret⟩)
        by_cases h2 : ∃ a, a ∈ steps[k].after_ ∧ a ∉ done
        · have hno : ¬ Ready steps done k hlt := fun h => by obtain ⟨a, ha, hn⟩ := h2; exact hn (h.2 a ha)
          replace hno := Lib.hid hno
          replace h2 := Lib.hid h2
          go_wp2_with fail
          refine (ready1_c done B d w.heap.size k _ (cell_keep (b1 _ _) hcell) (HY.out.below (bt hbd (b1 _ _)))).mono ?_
          intro e wq hr
          obtain ⟨rfl, rfl⟩ := RetQ.tt h1.out hr
          clear hr
          go_wp2_with fail
          refine (HC.out _ (b1 _ _)).mono ?_
          intro e wp hr
          obtain ⟨rfl, hbp⟩ := Ret.tt h2.out hr
          clear hr
          go_wp2
          go_roundw
          case rel => exact ⟨k + 1, by omega, by go_num, bt HB.out (bt (b1 _ _) hbp), by unfold Hid; rw [readyL_n hno.out]; exact Row1.alloc HR.out (bt (b1 _ _) hbp)⟩
          case measure => simp [intOf]; omega
        · have hyes : Ready steps done k hlt := ⟨h1.out, fun a ha => Classical.byContradiction fun hn => h2 ⟨a, ha, hn⟩⟩
          replace hyes := Lib.hid hyes
          replace h2 := Lib.hid h2
          go_wp2_with fail
          refine (ready1_c done B d w.heap.size k _ (cell_keep (b1 _ _) hcell) (HY.out.below (bt hbd (b1 _ _)))).mono ?_
          intro e wq hr
          obtain ⟨rfl, rfl⟩ := RetQ.tt h1.out hr
          clear hr
          go_wp2_with fail
          refine (HC.out _ (b1 _ _)).mono ?_
          intro e wp hr
          obtain ⟨rfl, hbp⟩ := Ret.ff h2.out hr
          clear hr
          have hbp2 := bt (b1 _ _) hbp
          have hszp := hbp2.size
          go_wp2_with (at_builtin; refine wpList_append_own _ rfl _ _ 37 rfl (w.alloc (.cells #[.slice B done.length d] 37)).heap.size 3 i0 (.int .i64 0) 1 8 Try.underlying37 hi hz0 hz1 hz2 rfl (by decide) _ _ _ rfl (Row1.alloc HR.out (bt hbp2 (b1 _ _))) ⟨wp.heap.size, 0, none⟩ 1 1 [.int .i64 k] rfl rfl ?c1 ?c2 ?c3 ?c4 ?c5 ?_)
          case c1 =>
            intro j u hj
            match j, hj with
            | 0, hj => simp at hj; subst hj; simp [Addr.add]
          case c2 => intro u hu; simp at hu; subst hu; rfl
          case c3 => have := readyL_le steps done k; unfold maxLen; omega
          case c4 => have := readyL_le steps done k; omega
          case c5 => have h5 := HB.out.size; simp at h5 ⊢; omega
          intro v2 w2 hown hgr _
          have hB2 := grown_below HR.out HB.out (bt hbp2 (b1 _ _)) hgr
          have hR2 : Hid (Row1 (w.alloc (.cells #[.slice B done.length d] 37)) w2 (readyL steps done (k + 1)) v2) := by unfold Hid; rw [readyL_y hyes.out]; exact Row1.app (by rw [hzB]; exact hown)
          clear hown hgr
          go_wp2
          go_roundw
          case rel => exact ⟨k + 1, by omega, by go_num, hB2, hR2⟩
          case measure => simp [intOf]; omega
    · go_wp2
      go_ret
      have he : k = steps.length := by omega
      rw [← he]
      exact Row1.made (Row1.low HR.out (by rw [hzB]; omega)) hbd
end Go.Proofs.Ytegabeefggcelaa.Lib
