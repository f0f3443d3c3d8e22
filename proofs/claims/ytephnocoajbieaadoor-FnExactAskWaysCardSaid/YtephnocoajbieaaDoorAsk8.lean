/- The ways of an ask, and how deep it is; AskSize and AskDepth on both sides. Asks that are ok, of 24 fields at most. -/
import Derived.Test.YtephnocoajbieaaDoorAsk7
set_option linter.unusedVariables false
set_option linter.unusedSimpArgs false
namespace Go.Proofs.YtephnocoajbieaaDoor.Lib
open Go.RowKit

mutual
def JSel.ways : JSel → ByteArray → List ByteArray
  | ⟨a, b, c, e, ks⟩, p => (p ++ JSel.under ⟨a, b, c, e, ks⟩) :: JSel.waysL ks (p ++ JSel.under ⟨a, b, c, e, ks⟩ ++ ⟨#[47]⟩)
def JSel.waysL : List JSel → ByteArray → List ByteArray
  | [], _ => []
  | x :: r, p => JSel.ways x p ++ JSel.waysL r p
end
theorem JSel.ways_eq (v : JSel) (p : ByteArray) : v.ways p = (p ++ v.under) :: JSel.waysL v.kids (p ++ v.under ++ ⟨#[47]⟩) := by cases v; simp only [JSel.ways]
mutual
theorem JSel.ways_len : ∀ (v : JSel) (p : ByteArray), (v.ways p).length = v.nodes
  | ⟨a, b, c, e, ks⟩, p => by simp only [JSel.ways, JSel.nodes, List.length_cons, JSel.waysL_len ks]; omega
theorem JSel.waysL_len : ∀ (xs : List JSel) (p : ByteArray), (JSel.waysL xs p).length = JSel.nodesL xs
  | [], p => by simp only [JSel.waysL, JSel.nodesL, List.length_nil]
  | x :: r, p => by simp only [JSel.waysL, JSel.nodesL, List.length_append, JSel.ways_len x, JSel.waysL_len r]
end
theorem JSel.waysL_app (xs ys : List JSel) (p : ByteArray) : JSel.waysL (xs ++ ys) p = JSel.waysL xs p ++ JSel.waysL ys p := by
  induction xs with
  | nil => simp [JSel.waysL]
  | cons x r ih => simp only [List.cons_append, JSel.waysL, ih, List.append_assoc]
theorem JSel.waysL_take (xs : List JSel) (p : ByteArray) (k : Nat) (h : k < xs.length) : JSel.waysL (xs.take (k + 1)) p = (JSel.waysL (xs.take k) p ++ [p ++ xs[k].under]) ++ JSel.waysL xs[k].kids (p ++ xs[k].under ++ ⟨#[47]⟩) := by
  rw [List.take_succ_eq_append_getElem h, JSel.waysL_app]
  simp only [JSel.waysL, JSel.ways_eq, List.append_nil, List.append_assoc, List.cons_append, List.nil_append]
theorem SelOk.under_size {v : JSel} (h : SelOk v) : v.under.size ≤ 8 := by
  unfold JSel.under
  split
  · exact h.1.size
  · rcases h.2.1 with h2 | h2
    · contradiction
    · exact h2.1.size

def SpecWays (xs : List JSel) : Prop := ∀ (A : Option Addr) (n c : Nat) (d : Int) (p : ByteArray) (w : World), Rd w (slD JSel.enc 5 xs) (.slice A n c) → AskL xs d → 1 ≤ d → (p.size : Int) ≤ 9 * (d - 1) → JSel.nodesL xs ≤ 24 →
  Calls Tryd.prog 44 #[.slice A n c, .string p] w (Made1 w (slD strD 1 (JSel.waysL xs p)))
set_option maxRecDepth 100000 in
set_option maxHeartbeats 8000000 in
theorem l12Ways_of (xs : List JSel) (hK : ∀ x, x ∈ xs → SpecWays x.kids) : SpecWays xs := by
  intro A n c d p w hx hok hd hp hn24
  obtain rfl := Rd.len hx
  obtain ⟨i0, hi, hz0, hz1, hz2⟩ := info_parts info_strE
  have hl : xs.length ≤ 24 := by have := JSel.nodesL_len xs; omega
  have HX := Lib.hid hx
  have HK := Lib.hid hK
  have HO := Lib.hid hok
  have HN := Lib.hid hn24
  clear hx hK hok hn24
  go_enter Tryd.func44, Tryd.ntmps44
  go_wp2
  go_loopw [5, 6, 7] (fun v i _ wr => ∃ k : Nat, k ≤ xs.length ∧ i = .int .i64 k ∧ Hid (Below w.heap.size w wr) ∧ Hid (Gr w.heap.size wr 9 strD 1 (JSel.waysL (xs.take k) p) v)) (fun _ i _ _ => xs.length - (intOf i).toNat)
  case atStart => exact ⟨0, Nat.zero_le _, rfl, b1 _ _, Gr.empty _ _ _ _ (Nat.le_refl _)⟩
  case round =>
    obtain ⟨k, hk, rfl, HB, HG⟩ := hrel
    by_cases hlt : k < xs.length
    case neg =>
      have hkk : k = xs.length := by omega
      have HG9 := Lib.hid (Gr.cast HG.out (by rw [hkk, List.take_of_length_le (Nat.le_refl _)]) rfl : Gr w.heap.size wr 9 strD 1 (JSel.waysL xs p) _)
      clear hkk
      go_wp2
      go_ret
      exact HG9.out.made strD_len (Nat.le_refl _) HB.out
    have hd5 : d ≤ 5 := HO.out.1 (by intro e; rw [e] at hlt; simp at hlt)
    have hps : p.size ≤ 36 := by omega
    obtain ⟨ad, A4, c4, rfl, y0, y1, y2, y3, y4, g4, l0, l1, n4⟩ := JSel.elem HX.out k hlt
    have y4w := Lib.hid y4
    replace y0 := (HB.out.cell (World.block_lt_of_cell? w _ y0)).trans y0
    replace y1 := (HB.out.cell (World.block_lt_of_cell? w _ y1)).trans y1
    replace y2 := (HB.out.cell (World.block_lt_of_cell? w _ y2)).trans y2
    replace y3 := (HB.out.cell (World.block_lt_of_cell? w _ y3)).trans y3
    replace y4 := (HB.out.cell (World.block_lt_of_cell? w _ y4)).trans y4
    obtain ⟨hso, hak⟩ := (xs[k].okAt_eq d).1 (JSel.okL_get HO.out.2.2 k hlt)
    have hus := hso.under_size
    have hnk : JSel.nodesL xs[k].kids ≤ 24 := by have := (nodesL_k hlt).1; have := HN.out; omega
    have GG := Lib.hid (JSel.close_ _ (g4.below HB.out) l0 l1)
    have hsz1 : (p ++ xs[k].under).size ≤ 9223372036854775807 := by rw [ByteArray.size_append]; omega
    have HW := Lib.hid (fun W (h : Below w.heap.size w W) => HK.out xs[k] (List.getElem_mem hlt) A4 xs[k].kids.length c4 (d + 1) (p ++ xs[k].under ++ ⟨#[47]⟩) W (g4.below h) hak (by omega) (by rw [ByteArray.size_append, ByteArray.size_append]; have : (⟨#[47]⟩ : ByteArray).size = 1 := rfl; omega) hnk)
    have hbd1 : (JSel.waysL (xs.take k) p).length ≤ 24 := by rw [JSel.waysL_len]; have := JSel.nodesL_le xs k; have := HN.out; omega
    have hbd2 : (JSel.waysL xs[k].kids (p ++ xs[k].under ++ ⟨#[47]⟩)).length ≤ 24 := by rw [JSel.waysL_len]; exact hnk
    have htk := JSel.waysL_take xs p k hlt
    replace htk := Lib.hid htk
    clear hso hak hnk g4
    go_wp2_with fail
    refine (l3Key_c xs[k] _ _ GG.out).mono ?_
    rintro e w1 ⟨rfl, hb1⟩
    have hq := Lib.hid hb1
    clear hb1
    go_wp2_with (at_builtin; refine wpList_push rfl _ _ 31 rfl (enc := strD) (base := w.heap.size) (wr := wr) (xs := JSel.waysL (xs.take k) p) (p ++ xs[k].under) 9 i0 (.string ⟨#[]⟩) 1 16 Tryd.underlying31 hi hz0 hz1 hz2 rfl (by decide) strD_len rfl HG.out (bt hq.out (b1 _ _)) HB.out.size ⟨w1.heap.size, 0, none⟩ 1 rfl [.string (p ++ xs[k].under)] [] (.str hsz1 (.nil _)) (Fresh.nil _) (box_new rfl) ?c1 ?_)
    case c1 => constructor <;> omega
    intro A9 c9 w3 hG3 hB3 _ _
    generalize hn9 : (JSel.waysL (xs.take k) p ++ [p ++ xs[k].under]).length = n9 at hG3 ⊢
    have hn9b : n9 ≤ 25 := by rw [← hn9, List.length_append, List.length_singleton]; omega
    have hG9 := Lib.hid hG3
    have hB9 := Lib.hid (HB.out.trans (((bt hq.out (b1 _ _)).mono HB.out.size).trans hB3))
    clear hG3 hB3
    replace y4 := (hB9.out.cell (World.block_lt_of_cell? w _ y4w.out)).trans y4w.out
    go_wp2_with fail
    refine (HW.out _ hB9.out).mono ?_
    rintro e w4 ⟨us4, f4, rfl, o4, hf4, hb4⟩
    obtain ⟨A5, c5, rfl⟩ := Own.slD o4
    have hr4 := Lib.hid (Own.rd _ _ _ o4)
    have hq4 := Lib.hid hb4
    clear o4 hf4 hb4
    go_wp2_with (at_builtin; refine wpList_pushes rfl _ _ 31 rfl (enc := strD) (base := w.heap.size) (wr := w3) (xs := JSel.waysL (xs.take k) p ++ [p ++ xs[k].under]) (JSel.waysL xs[k].kids (p ++ xs[k].under ++ ⟨#[47]⟩)) 9 i0 (.string ⟨#[]⟩) 1 16 Tryd.underlying31 hi hz0 hz1 hz2 rfl (by decide) strD_len rfl hG9.out hq4.out hB9.out.size A5 c5 rfl ((JSel.waysL xs[k].kids (p ++ xs[k].under ++ ⟨#[47]⟩)).map Value.string) [] (strs_row _ _ hr4.out.str_small) (Fresh.nil _) (Rd.str_news hr4.out) ?c2 ?c3 ?_)
    case c2 => unfold maxLen; omega
    case c3 => omega
    intro A6 c6 w5 hG5 hB5 _ _
    generalize hn8 : (JSel.waysL (xs.take k) p ++ [p ++ xs[k].under] ++ JSel.waysL xs[k].kids (p ++ xs[k].under ++ ⟨#[47]⟩)).length = n8 at hG5 ⊢
    have hG6 := Lib.hid hG5
    have hB6 := Lib.hid (hB9.out.trans ((hq4.out.mono hB9.out.size).trans hB5))
    clear hG5 hB5
    go_wp2
    go_roundw
    case rel => exact ⟨k + 1, by omega, by go_num, hB6.out, Gr.cast hG6.out (by rw [htk.out]; simp) rfl⟩
    case measure => simp [intOf]; omega
theorem l12Ways_all : ∀ n, ∀ xs : List JSel, SizeOf.sizeOf xs < n → SpecWays xs
  | 0 => fun _ h => absurd h (by omega)
  | n + 1 => fun xs h => l12Ways_of xs fun x hx => l12Ways_all n x.kids (by have := JSel.kids_lt x; have := List.sizeOf_lt_of_mem hx; omega)
theorem l12Ways_c (xs : List JSel) : SpecWays xs := l12Ways_all _ xs (Nat.lt_succ_self _)

/-! ### how many fields -/
noncomputable def sizeR (xs : List JSel) : Int := if tf (AskOkP xs) = true then JSel.nodesL xs else 0
theorem sizeR_y {xs : List JSel} (h : AskOkP xs) : sizeR xs = JSel.nodesL xs := by unfold sizeR; rw [if_pos (tf_t h)]
theorem sizeR_n {xs : List JSel} (h : ¬ AskOkP xs) : sizeR xs = 0 := by unfold sizeR; rw [if_neg (by rw [tf_f h]; decide)]
set_option maxRecDepth 100000 in
set_option maxHeartbeats 4000000 in
theorem specAskSize_c (xs : List JSel) (A : Option Addr) (n c : Nat) (w : World) (hx : Rd w (slD JSel.enc 5 xs) (.slice A n c)) :
    Calls Tryd.prog 18 #[.slice A n c] w (Ret w (.int .i64 (sizeR xs))) := by
  obtain rfl := Rd.len hx
  have HL := Lib.hid (fun W (h : Below w.heap.size w W) => specAskOk_c xs A xs.length c W (hx.below h))
  have HW := Lib.hid (fun W (h : Below w.heap.size w W) (ho : AskL xs 1) (hn : JSel.nodesL xs ≤ 24) => l12Ways_c xs A xs.length c 1 ⟨#[]⟩ W (hx.below h) ho (by omega) (by decide) hn)
  clear hx
  by_cases h1 : AskOkP xs
  · have HW2 := Lib.hid (fun W (h : Below w.heap.size w W) => HW.out W h h1.2.1 h1.2.2.1)
    replace h1 := Lib.hid h1
    go_enter Tryd.func18, Tryd.ntmps18
    go_wp2_with fail
    refine (HL.out _ (Below.refl _ _)).mono ?_
    intro e w1 hr
    obtain ⟨rfl, hb1⟩ := Ret.tt h1.out hr
    clear hr
    go_wp2_with fail
    refine (HW2.out _ hb1).mono ?_
    rintro e w2 ⟨us2, f2, rfl, o2, hf2, hb2⟩
    obtain ⟨A5, c5, rfl⟩ := Own.slD o2
    have hb9 := Lib.hid (bt hb1 hb2)
    clear hb1 hb2 o2 hf2
    go_wp2
    go_ret
    exact Ret.int (by rw [sizeR_y h1.out, JSel.waysL_len]) hb9.out
  · replace h1 := Lib.hid h1
    go_enter Tryd.func18, Tryd.ntmps18
    go_wp2_with fail
    refine (HL.out _ (Below.refl _ _)).mono ?_
    intro e w1 hr
    obtain ⟨rfl, hb1⟩ := Ret.ff h1.out hr
    clear hr
    go_wp2
    go_ret
    exact Ret.int (sizeR_n h1.out).symm hb1
set_option maxRecDepth 100000 in
set_option maxHeartbeats 4000000 in
theorem implAskSize_c (xs : List JSel) (A : Option Addr) (n c : Nat) (w : World) (hx : Rd w (slD JSel.enc 5 xs) (.slice A n c)) (hbk : xs.length + JSel.bulks xs ≤ 1048576) (htab : TabW w) :
    Calls Tryd.prog 19 #[.slice A n c] w (Ret w (.int .i64 (sizeR xs))) := by
  obtain rfl := Rd.len hx
  have HL := Lib.hid (fun W (h : Below w.heap.size w W) => implAskOk_c xs A xs.length c W (hx.below h) hbk (htab.below h))
  have HW := Lib.hid (fun W (h : Below w.heap.size w W) (hne : xs ≠ []) => askMany_c xs A xs.length c 1 W (hx.below h) (by omega) (by omega) (fun _ => by omega) hbk)
  clear hx
  by_cases h1 : AskOkP xs
  · have HW2 := Lib.hid (fun W (h : Below w.heap.size w W) => HW.out W h h1.1)
    replace h1 := Lib.hid h1
    go_enter Tryd.func19, Tryd.ntmps19
    go_wp2_with fail
    refine (HL.out _ (Below.refl _ _)).mono ?_
    intro e w1 hr
    obtain ⟨rfl, hb1⟩ := Ret.tt h1.out hr
    clear hr
    go_wp2_with fail
    refine (HW2.out _ hb1).mono ?_
    rintro e w2 ⟨r, ⟨rfl, hb2⟩, hr⟩
    have hr1 := hr.1 ⟨h1.out.2.1, h1.out.2.2.1⟩
    clear hr
    have hb9 := Lib.hid (bt hb1 hb2)
    clear hb1 hb2
    go_wp2
    go_ret
    exact Ret.int (by rw [sizeR_y h1.out]) hb9.out
  · replace h1 := Lib.hid h1
    go_enter Tryd.func19, Tryd.ntmps19
    go_wp2_with fail
    refine (HL.out _ (Below.refl _ _)).mono ?_
    intro e w1 hr
    obtain ⟨rfl, hb1⟩ := Ret.ff h1.out hr
    clear hr
    go_wp2
    go_ret
    exact Ret.int (sizeR_n h1.out).symm hb1

/-! ### how deep -/
mutual
def JSel.deep : JSel → Nat
  | ⟨_, _, _, _, ks⟩ => 1 + JSel.deepL ks
def JSel.deepL : List JSel → Nat
  | [] => 0
  | x :: r => max (JSel.deep x) (JSel.deepL r)
end
theorem JSel.deep_eq (v : JSel) : v.deep = 1 + JSel.deepL v.kids := by cases v; simp only [JSel.deep]
mutual
theorem JSel.deep_le : ∀ (v : JSel), v.deep ≤ v.nodes
  | ⟨a, b, c, e, ks⟩ => by have := JSel.deepL_le ks; simp only [JSel.deep, JSel.nodes]; omega
theorem JSel.deepL_le : ∀ (xs : List JSel), JSel.deepL xs ≤ JSel.nodesL xs
  | [] => by simp only [JSel.deepL, JSel.nodesL]; omega
  | x :: r => by have := JSel.deep_le x; have := JSel.deepL_le r; simp only [JSel.deepL, JSel.nodesL]; omega
end
theorem JSel.deepL_app (xs ys : List JSel) : JSel.deepL (xs ++ ys) = max (JSel.deepL xs) (JSel.deepL ys) := by
  induction xs with
  | nil => simp [JSel.deepL]
  | cons x r ih => simp only [List.cons_append, JSel.deepL, ih]; omega
theorem JSel.deepL_take (xs : List JSel) (k : Nat) (h : k < xs.length) : JSel.deepL (xs.take (k + 1)) = max (JSel.deepL (xs.take k)) (1 + JSel.deepL xs[k].kids) := by
  rw [List.take_succ_eq_append_getElem h, JSel.deepL_app]
  simp only [JSel.deepL, JSel.deep_eq]
  omega
end Go.Proofs.YtephnocoajbieaaDoor.Lib
