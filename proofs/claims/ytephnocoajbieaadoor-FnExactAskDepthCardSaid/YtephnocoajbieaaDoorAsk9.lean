/- AskDepth on both sides. Sizes up to 2^20. -/
import Derived.Test.YtephnocoajbieaaDoorAsk8
set_option linter.unusedVariables false
set_option linter.unusedSimpArgs false
namespace Go.Proofs.YtephnocoajbieaaDoor.Lib
open Go.RowKit

def SpecDepth (xs : List JSel) : Prop := ∀ (A : Option Addr) (n c : Nat) (w : World), Rd w (slD JSel.enc 5 xs) (.slice A n c) → JSel.nodesL xs ≤ 24 →
  Calls Tryd.prog 45 #[.slice A n c] w (Ret w (.int .i64 (JSel.deepL xs)))
def ImplDepth (xs : List JSel) : Prop := ∀ (A : Option Addr) (n c : Nat) (w : World), Rd w (slD JSel.enc 5 xs) (.slice A n c) → JSel.nodesL xs ≤ 24 →
  Calls Tryd.prog 46 #[.slice A n c] w (Ret w (.int .i64 (JSel.deepL xs)))
set_option maxRecDepth 100000 in
set_option maxHeartbeats 8000000 in
theorem l15Depth_of (xs : List JSel) (hK : ∀ x, x ∈ xs → SpecDepth x.kids) : SpecDepth xs := by
  intro A n c w hx hn24
  obtain rfl := Rd.len hx
  have hl : xs.length ≤ 24 := by have := JSel.nodesL_len xs; omega
  have HX := Lib.hid hx
  have HK := Lib.hid hK
  have HN := Lib.hid hn24
  clear hx hK hn24
  go_enter Tryd.func45, Tryd.ntmps45
  go_wp2
  go_loopw [3, 4, 5] (fun m i _ wr => ∃ k mm : Nat, k ≤ xs.length ∧ i = .int .i64 k ∧ m = .int .i64 mm ∧ mm ≤ 24 ∧ Hid (mm = JSel.deepL (xs.take k)) ∧ Hid (Below w.heap.size w wr)) (fun _ i _ _ => xs.length - (intOf i).toNat)
  case atStart => exact ⟨0, 0, Nat.zero_le _, rfl, rfl, by omega, rfl, Below.refl _ _⟩
  case round =>
    obtain ⟨k, mm, hk, rfl, rfl, hmm, HM, HB⟩ := hrel
    by_cases hlt : k < xs.length
    case neg =>
      have hkk : k = xs.length := by omega
      have hfin : mm = JSel.deepL xs := by have := HM.out; rwa [hkk, List.take_of_length_le (Nat.le_refl _)] at this
      replace hfin := Lib.hid hfin
      clear hkk
      go_wp2
      go_ret
      exact Ret.int (by rw [hfin.out]) HB.out
    obtain ⟨ad, A4, c4, rfl, y0, y1, y2, y3, y4, g4, l0, l1, n4⟩ := JSel.elem (HX.out.below HB.out) k hlt
    have hnk : JSel.nodesL xs[k].kids ≤ 24 := by have := (nodesL_k hlt).1; have := HN.out; omega
    have HD := Lib.hid (HK.out xs[k] (List.getElem_mem hlt) A4 xs[k].kids.length c4 wr g4 hnk)
    have htk := JSel.deepL_take xs k hlt
    have hdk : JSel.deepL (xs.take (k + 1)) ≤ 24 := by have := JSel.deepL_le (xs.take (k + 1)); have := JSel.nodesL_le xs (k + 1); have := HN.out; omega
    generalize hv : JSel.deepL xs[k].kids = v at HD htk
    have hv24 : v ≤ 23 := by omega
    have hM := HM.out
    by_cases hg : (mm : Int) < 1 + v
    · have hres : 1 + v = JSel.deepL (xs.take (k + 1)) := by omega
      replace hres := Lib.hid hres
      replace htk := Lib.hid htk
      replace hM := Lib.hid hM
      clear hdk hnk g4
      go_wp2_with fail
      refine HD.out.mono ?_
      rintro e w1 ⟨rfl, hb1⟩
      have hB9 := Lib.hid (bt HB.out hb1)
      clear hb1
      go_wp2
      go_roundw
      case rel => exact ⟨k + 1, 1 + v, by omega, by go_num, by go_num, by omega, hres.out, hB9.out⟩
      case measure => simp [intOf]; omega
    · have hres : mm = JSel.deepL (xs.take (k + 1)) := by omega
      replace hres := Lib.hid hres
      replace htk := Lib.hid htk
      replace hM := Lib.hid hM
      clear hdk hnk g4
      go_wp2_with fail
      refine HD.out.mono ?_
      rintro e w1 ⟨rfl, hb1⟩
      have hB9 := Lib.hid (bt HB.out hb1)
      clear hb1
      go_wp2
      go_roundw
      case rel => exact ⟨k + 1, mm, by omega, by go_num, rfl, by omega, hres.out, hB9.out⟩
      case measure => simp [intOf]; omega
theorem l15Depth_all : ∀ n, ∀ xs : List JSel, SizeOf.sizeOf xs < n → SpecDepth xs
  | 0 => fun _ h => absurd h (by omega)
  | n + 1 => fun xs h => l15Depth_of xs fun x hx => l15Depth_all n x.kids (by have := JSel.kids_lt x; have := List.sizeOf_lt_of_mem hx; omega)
theorem l15Depth_c (xs : List JSel) : SpecDepth xs := l15Depth_all _ xs (Nat.lt_succ_self _)

set_option maxRecDepth 100000 in
set_option maxHeartbeats 8000000 in
theorem depth_of (xs : List JSel) (hK : ∀ x, x ∈ xs → ImplDepth x.kids) : ImplDepth xs := by
  intro A n c w hx hn24
  obtain rfl := Rd.len hx
  have hl : xs.length ≤ 24 := by have := JSel.nodesL_len xs; omega
  have HX := Lib.hid hx
  have HK := Lib.hid hK
  have HN := Lib.hid hn24
  clear hx hK hn24
  go_enter Tryd.func46, Tryd.ntmps46
  go_wp2
  go_loopw [3, 5, 8] (fun m _ i wr => ∃ k mm : Nat, k ≤ xs.length ∧ i = .int .i64 k ∧ m = .int .i64 mm ∧ mm ≤ 24 ∧ Hid (JSel.deepL (xs.take k) = if k = 0 then 0 else 1 + mm) ∧ Hid (k = 0 → mm = 0) ∧ Hid (Below w.heap.size w wr)) (fun _ _ i _ => xs.length - (intOf i).toNat)
  case atStart => exact ⟨0, 0, Nat.zero_le _, rfl, rfl, by omega, rfl, fun _ => rfl, Below.refl _ _⟩
  case round =>
    obtain ⟨k, mm, hk, rfl, rfl, hmm, HM, HZ, HB⟩ := hrel
    by_cases hlt : k < xs.length
    case neg =>
      have hkk : k = xs.length := by omega
      have hM := HM.out
      rw [hkk, List.take_of_length_le (Nat.le_refl _)] at hM
      by_cases h0 : xs.length = 0
      · have h0I : (xs.length : Int) = 0 := by omega
        rw [if_pos h0] at hM
        replace hM := Lib.hid hM
        clear hkk
        go_wp2
        go_ret
        exact Ret.int (by rw [hM.out]; rfl) HB.out
      · have h0I : ¬ (xs.length : Int) = 0 := by omega
        rw [if_neg h0] at hM
        replace hM := Lib.hid hM
        clear hkk
        go_wp2
        go_ret
        exact Ret.int (by rw [hM.out]; omega) HB.out
    obtain ⟨ad, A4, c4, rfl, y0, y1, y2, y3, y4, g4, l0, l1, n4⟩ := JSel.elem (HX.out.below HB.out) k hlt
    have hnk : JSel.nodesL xs[k].kids ≤ 24 := by have := (nodesL_k hlt).1; have := HN.out; omega
    have HD := Lib.hid (fun W (h : Below wr.heap.size wr W) => HK.out xs[k] (List.getElem_mem hlt) A4 xs[k].kids.length c4 W (g4.below h) hnk)
    have htk := JSel.deepL_take xs k hlt
    have hdk : JSel.deepL (xs.take (k + 1)) ≤ 24 := by have := JSel.deepL_le (xs.take (k + 1)); have := JSel.nodesL_le xs (k + 1); have := HN.out; omega
    generalize hv : JSel.deepL xs[k].kids = v at HD htk
    have hM := HM.out
    have hZ := HZ.out
    have hres : JSel.deepL (xs.take (k + 1)) = 1 + max mm v := by
      rw [htk, hM]
      split
      · have := hZ (by assumption); omega
      · omega
    have hmv : max mm v ≤ 23 := by omega
    replace hres := Lib.hid hres
    clear hdk hnk g4 htk hM hZ
    go_wp2_with fail
    refine (HD.out _ (b1 _ _)).mono ?_
    rintro e w1 ⟨rfl, hb1⟩
    have hB9 := Lib.hid (bt HB.out (bt (b1 _ _) hb1))
    clear hb1
    go_wp2
    go_roundw
    case rel => exact ⟨k + 1, max mm v, by omega, by go_num, by simp; omega, by omega, Lib.hid (by rw [hres.out, if_neg (by omega)]), fun h => by omega, hB9.out⟩
    case measure => simp [intOf]; omega
theorem depth_all : ∀ n, ∀ xs : List JSel, SizeOf.sizeOf xs < n → ImplDepth xs
  | 0 => fun _ h => absurd h (by omega)
  | n + 1 => fun xs h => depth_of xs fun x hx => depth_all n x.kids (by have := JSel.kids_lt x; have := List.sizeOf_lt_of_mem hx; omega)
theorem depth_c (xs : List JSel) : ImplDepth xs := depth_all _ xs (Nat.lt_succ_self _)

noncomputable def depthR (xs : List JSel) : Int := if tf (AskOkP xs) = true then JSel.deepL xs else 0
theorem depthR_y {xs : List JSel} (h : AskOkP xs) : depthR xs = JSel.deepL xs := by unfold depthR; rw [if_pos (tf_t h)]
theorem depthR_n {xs : List JSel} (h : ¬ AskOkP xs) : depthR xs = 0 := by unfold depthR; rw [if_neg (by rw [tf_f h]; decide)]
set_option maxRecDepth 100000 in
set_option maxHeartbeats 4000000 in
theorem specAskDepth_c (xs : List JSel) (A : Option Addr) (n c : Nat) (w : World) (hx : Rd w (slD JSel.enc 5 xs) (.slice A n c)) :
    Calls Tryd.prog 20 #[.slice A n c] w (Ret w (.int .i64 (depthR xs))) := by
  obtain rfl := Rd.len hx
  have HL := Lib.hid (fun W (h : Below w.heap.size w W) => specAskOk_c xs A xs.length c W (hx.below h))
  have HW := Lib.hid (fun W (h : Below w.heap.size w W) (hn : JSel.nodesL xs ≤ 24) => l15Depth_c xs A xs.length c W (hx.below h) hn)
  clear hx
  by_cases h1 : AskOkP xs
  · have HW2 := Lib.hid (fun W (h : Below w.heap.size w W) => HW.out W h h1.2.2.1)
    replace h1 := Lib.hid h1
    go_enter Tryd.func20, Tryd.ntmps20
    go_wp2_with fail
    refine (HL.out _ (Below.refl _ _)).mono ?_
    intro e w1 hr
    obtain ⟨rfl, hb1⟩ := Ret.tt h1.out hr
    clear hr
    go_wp2_with fail
    refine (HW2.out _ hb1).mono ?_
    rintro e w2 ⟨rfl, hb2⟩
    have hb9 := Lib.hid (bt hb1 hb2)
    clear hb1 hb2
    go_wp2
    go_ret
    exact Ret.int (depthR_y h1.out).symm hb9.out
  · replace h1 := Lib.hid h1
    go_enter Tryd.func20, Tryd.ntmps20
    go_wp2_with fail
    refine (HL.out _ (Below.refl _ _)).mono ?_
    intro e w1 hr
    obtain ⟨rfl, hb1⟩ := Ret.ff h1.out hr
    clear hr
    go_wp2
    go_ret
    exact Ret.int (depthR_n h1.out).symm hb1
set_option maxRecDepth 100000 in
set_option maxHeartbeats 4000000 in
theorem implAskDepth_c (xs : List JSel) (A : Option Addr) (n c : Nat) (w : World) (hx : Rd w (slD JSel.enc 5 xs) (.slice A n c)) (hbk : xs.length + JSel.bulks xs ≤ 1048576) (htab : TabW w) :
    Calls Tryd.prog 21 #[.slice A n c] w (Ret w (.int .i64 (depthR xs))) := by
  obtain rfl := Rd.len hx
  have HL := Lib.hid (fun W (h : Below w.heap.size w W) => implAskOk_c xs A xs.length c W (hx.below h) hbk (htab.below h))
  have HW := Lib.hid (fun W (h : Below w.heap.size w W) (hn : JSel.nodesL xs ≤ 24) => depth_c xs A xs.length c W (hx.below h) hn)
  clear hx
  by_cases h1 : AskOkP xs
  · have HW2 := Lib.hid (fun W (h : Below w.heap.size w W) => HW.out W h h1.2.2.1)
    replace h1 := Lib.hid h1
    go_enter Tryd.func21, Tryd.ntmps21
    go_wp2_with fail
    refine (HL.out _ (Below.refl _ _)).mono ?_
    intro e w1 hr
    obtain ⟨rfl, hb1⟩ := Ret.tt h1.out hr
    clear hr
    go_wp2_with fail
    refine (HW2.out _ hb1).mono ?_
    rintro e w2 ⟨rfl, hb2⟩
    have hb9 := Lib.hid (bt hb1 hb2)
    clear hb1 hb2
    go_wp2
    go_ret
    exact Ret.int (depthR_y h1.out).symm hb9.out
  · replace h1 := Lib.hid h1
    go_enter Tryd.func21, Tryd.ntmps21
    go_wp2_with fail
    refine (HL.out _ (Below.refl _ _)).mono ?_
    intro e w1 hr
    obtain ⟨rfl, hb1⟩ := Ret.ff h1.out hr
    clear hr
    go_wp2
    go_ret
    exact Ret.int (depthR_n h1.out).symm hb1
end Go.Proofs.YtephnocoajbieaaDoor.Lib
