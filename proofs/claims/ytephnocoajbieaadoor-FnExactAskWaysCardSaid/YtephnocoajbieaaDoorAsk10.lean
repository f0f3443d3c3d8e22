/- The program's waysOf; AskWays on both sides. Asks that are ok, of 24 fields at most. -/
import Derived.Test.YtephnocoajbieaaDoorAsk8
set_option linter.unusedVariables false
set_option linter.unusedSimpArgs false
namespace Go.Proofs.YtephnocoajbieaaDoor.Lib
open Go.RowKit

theorem Gr.own_lt {α : Type} {base : Nat} {w : World} {e : TypeId} {enc : α → List D} {sz : Nat} {xs : List α} {v : Value} (h : Gr base w e enc sz xs v) : ∀ k, v.ownBlock = some k → k < w.heap.size := by
  obtain ⟨us, fs, h1, _⟩ := h
  intro k hk
  rcases h1.2 with ⟨rfl, _⟩ | ⟨g, cap, cur, rfl, hg, hh, _⟩
  · cases hk
  · simp only [Value.ownBlock, Option.some.injEq] at hk
    subst hk
    exact (Array.getElem?_eq_some_iff.1 hh).1
/-- What stands in blocks that an append does not turn stands as before. -/
theorem Own.grown {w w' : World} {d : D} {u : Value} {fp : List Nat} {row : Option Nat} (h : Own w d u fp) (hg : w.grownBy w' row) (hne : ∀ b, b ∈ fp → row ≠ some b) : Own w' d u fp :=
  Own.frame d u fp (fun b hm => hg.block b (Own.lt _ _ _ h b hm) (fun e => hne b hm e.symm)) h

/-- As step_push, the new length under a name. -/
theorem step_pushN {P : Program} {ops : Array Oper} {o : Oper} {a : Act} {K : Act → World → Prop} {Q : Exit → Act → World → Prop} {E : Prop} {w : World} (hgd : o.guard = none) (s x : Operand) (t : TypeId)
    (ho : o.op = .call { callee := .builtin .append, args := #[s, x], argTypes := #[t, t] })
    {α : Type} {enc : α → List D} {base : Nat} {wr : World} {xs : List α} (y : α) {v : Value} (e : TypeId) (i : TypeInfo) (z : Value) (sz bytes : Nat) (ht : P.underlying t = some (.slice e)) (hi : P.info? e = some i) (hz : i.zero = some z)
    (hsize : i.size = sz) (hby : i.bytes = bytes) (hzs : z.cells.size = sz) (hsz : 0 < sz) (he : ∀ x, (enc x).length = sz)
    (hs : a.eval s = v) (HG : Gr base wr e enc sz xs v) (hb : Below wr.heap.size wr w) (hbase : base ≤ wr.heap.size)
    (ad : Addr) (c : Nat) (hx : a.eval x = .slice (some ad) 1 c) (ns : List Value) (f : List Nat) (hy : OwnRow w (enc y) ns f) (hf : Fresh wr f) (hn : ∀ j u, ns[j]? = some u → w.cell? (ad.add j) = some u)
    (h63 : (xs.length + 1) * bytes ≤ 140737488355328 ∧ xs.length < 9000000000000000000)
    (h : ∀ A' n' c' w', n' = xs.length + 1 → Gr base w' e enc sz (xs ++ [y]) (.slice A' n' c') → Below base w w' → w.grownBy w' v.ownBlock → (∀ k, (Value.slice A' 0 c').ownBlock = some k → v.ownBlock = some k ∨ w.heap.size ≤ k) → K (a.put o.dst (.slice A' n' c')) w') : if Region.wanted o (yielded ops a.tmps) = true then Oper.wp P o a w K Q else E :=
  step_push hgd s x t ho y e i z sz bytes ht hi hz hsize hby hzs hsz he hs HG hb hbase ad c hx ns f hy hf hn h63 (fun A' c' w' hG hB hg hH => h A' _ c' w' (by simp) hG hB hg hH)
/-- As step_pushes, the new length under a name. -/
theorem step_pushesN {P : Program} {ops : Array Oper} {o : Oper} {a : Act} {K : Act → World → Prop} {Q : Exit → Act → World → Prop} {E : Prop} {w : World} (hgd : o.guard = none) (s x : Operand) (t : TypeId)
    (ho : o.op = .call { callee := .builtin .append, args := #[s, x], argTypes := #[t, t] })
    {α : Type} {enc : α → List D} {base : Nat} {wr : World} {xs : List α} (ys : List α) {v : Value} (e : TypeId) (i : TypeInfo) (z : Value) (sz bytes : Nat) (ht : P.underlying t = some (.slice e)) (hi : P.info? e = some i) (hz : i.zero = some z)
    (hsize : i.size = sz) (hby : i.bytes = bytes) (hzs : z.cells.size = sz) (hsz : 0 < sz) (he : ∀ x, (enc x).length = sz)
    (hs : a.eval s = v) (HG : Gr base wr e enc sz xs v) (hb : Below wr.heap.size wr w) (hbase : base ≤ wr.heap.size)
    (A : Option Addr) (c : Nat) (hx : a.eval x = .slice A ys.length c) (ns : List Value) (f : List Nat) (hy : OwnRow w (ys.flatMap enc) ns f) (hf : Fresh wr f) (hn : 0 < ys.length → ∃ ad, A = some ad ∧ ∀ j u, ns[j]? = some u → w.cell? (ad.add j) = some u)
    (h63 : xs.length + ys.length ≤ maxLen) (hbytes : (xs.length + ys.length) * bytes ≤ 140737488355328)
    (h : ∀ A' n' c' w', n' = xs.length + ys.length → Gr base w' e enc sz (xs ++ ys) (.slice A' n' c') → Below base w w' → w.grownBy w' v.ownBlock → (∀ k, (Value.slice A' 0 c').ownBlock = some k → v.ownBlock = some k ∨ w.heap.size ≤ k) → K (a.put o.dst (.slice A' n' c')) w') : if Region.wanted o (yielded ops a.tmps) = true then Oper.wp P o a w K Q else E :=
  step_pushes hgd s x t ho ys e i z sz bytes ht hi hz hsize hby hzs hsz he hs HG hb hbase A c hx ns f hy hf hn h63 hbytes (fun A' c' w' hG hB hg hH => h A' _ c' w' (by simp) hG hB hg hH)

def ImplWays (xs : List JSel) : Prop := ∀ (A : Option Addr) (n c : Nat) (d : Int) (p : ByteArray) (w : World), Rd w (slD JSel.enc 5 xs) (.slice A n c) → AskL xs d → 1 ≤ d → (p.size : Int) ≤ 9 * (d - 1) → JSel.nodesL xs ≤ 24 →
  Calls Tryd.prog 47 #[.slice A n c, .string p] w (Made1 w (slD strD 1 (JSel.waysL xs p)))
set_option maxRecDepth 100000 in
set_option maxHeartbeats 8000000 in
theorem waysOf_of (xs : List JSel) (hK : ∀ x, x ∈ xs → ImplWays x.kids) : ImplWays xs := by
  intro A n c d p w hx hok hd hp hn24
  obtain rfl := Rd.len hx
  obtain ⟨i0, hi, hz0, hz1, hz2⟩ := info_parts info_strE
  have hl : xs.length ≤ 24 := by have := JSel.nodesL_len xs; omega
  have HX := Lib.hid hx
  have HK := Lib.hid hK
  have HO := Lib.hid hok
  have HN := Lib.hid hn24
  clear hx hK hok hn24
  go_enter Tryd.func47, Tryd.ntmps47
  go_wp2
  go_loopw [5, 7, 8, 11] (fun v _ _ i wr => ∃ k : Nat, k ≤ xs.length ∧ i = .int .i64 k ∧ Hid (Below w.heap.size w wr) ∧ Hid (Gr w.heap.size wr 9 strD 1 (JSel.waysL (xs.take k) p) v)) (fun _ _ _ i _ => xs.length - (intOf i).toNat)
  case atStart => exact ⟨0, Nat.zero_le _, rfl, Below.refl _ _, Gr.nil _ _ _ _ _⟩
  case round =>
    obtain ⟨k, hk, rfl, HB, HG⟩ := hrel
    by_cases hlt : k < xs.length
    case neg =>
      have hkk : k = xs.length := by omega
      have HG9 := Lib.hid (Gr.cast HG.out (by rw [hkk, List.take_of_length_le (Nat.le_refl _)]) rfl : Gr w.heap.size wr 9 strD 1 (JSel.waysL xs p) _)
      clear hkk
      go_wp2
      go_ret
      exact HG9.out.made strD_len (Nat.le_refl _) HB.out
    have hd5 : d ≤ 5 := HO.out.1 (by intro e; rw [e] at hlt; simp at hlt)
    have hps : p.size ≤ 36 := by omega
    obtain ⟨ad, A4, c4, rfl, y0, y1, y2, y3, y4, g4, l0, l1, n4⟩ := JSel.elem HX.out k hlt
    replace y0 := (HB.out.cell (World.block_lt_of_cell? w _ y0)).trans y0
    replace y1 := (HB.out.cell (World.block_lt_of_cell? w _ y1)).trans y1
    replace y2 := (HB.out.cell (World.block_lt_of_cell? w _ y2)).trans y2
    replace y3 := (HB.out.cell (World.block_lt_of_cell? w _ y3)).trans y3
    replace y4 := (HB.out.cell (World.block_lt_of_cell? w _ y4)).trans y4
    obtain ⟨hso, hak⟩ := (xs[k].okAt_eq d).1 (JSel.okL_get HO.out.2.2 k hlt)
    have hus := hso.under_size
    have hnk : JSel.nodesL xs[k].kids ≤ 24 := by have := (nodesL_k hlt).1; have := HN.out; omega
    have GG := Lib.hid (JSel.close_ _ (g4.below HB.out) l0 l1)
    have hsz1 : (p ++ xs[k].under).size ≤ 9223372036854775807 := by rw [ByteArray.size_append]; omega
    have HW := Lib.hid (fun W (h : Below w.heap.size w W) => HK.out xs[k] (List.getElem_mem hlt) A4 xs[k].kids.length c4 (d + 1) (p ++ xs[k].under ++ ⟨#[47]⟩) W (g4.below h) hak (by omega) (by rw [ByteArray.size_append, ByteArray.size_append]; have : (⟨#[47]⟩ : ByteArray).size = 1 := rfl; omega) hnk)
    have hbd1 : (JSel.waysL (xs.take k) p).length ≤ 24 := by rw [JSel.waysL_len]; have := JSel.nodesL_le xs k; have := HN.out; omega
    have hbd2 : (JSel.waysL xs[k].kids (p ++ xs[k].under ++ ⟨#[47]⟩)).length ≤ 24 := by rw [JSel.waysL_len]; exact hnk
    have htk := JSel.waysL_take xs p k hlt
    replace htk := Lib.hid htk
    have hnv := Lib.hid HG.out.own_lt
    clear hso hak hnk g4
    go_wp2_with fail
    refine (under_c xs[k] _ _ (GG.out.keep (b1 _ _))).mono ?_
    rintro e w1 ⟨rfl, hb1⟩
    obtain ⟨hc1, hf1⟩ := bcell hb1
    have hzw1 : wr.heap.size < w1.heap.size := by have := hb1.size; simp at this; omega
    have hq := Lib.hid (bt (b1 _ _) hb1)
    have k4 : w1.cell? ⟨wr.heap.size, 4, none⟩ = some (.slice A4 xs[k].kids.length c4) := cell_keep hb1 (by simp [go_sem])
    clear hb1
    go_wp2_with fail
    have hszr := HB.out.size
    have hcap1 : (JSel.waysL (xs.take k) p ++ [p ++ xs[k].under]).length + (JSel.waysL xs[k].kids (p ++ xs[k].under ++ ⟨#[47]⟩)).length ≤ maxLen := by rw [List.length_append, List.length_singleton]; unfold maxLen; omega
    have hcap2 : ((JSel.waysL (xs.take k) p ++ [p ++ xs[k].under]).length + (JSel.waysL xs[k].kids (p ++ xs[k].under ++ ⟨#[47]⟩)).length) * 16 ≤ 140737488355328 := by rw [List.length_append, List.length_singleton]; omega
    replace hcap1 := Lib.hid hcap1
    replace hcap2 := Lib.hid hcap2
    have hsz2 : ¬ 9223372036854775807 < p.size + xs[k].under.size + 1 := by omega
    have hqD : Below wr.heap.size wr w1.drew := hq.out.drew
    have hqA : ∀ o, Below wr.heap.size wr (w1.alloc o).drew := fun o => (bt hq.out (b1 _ _)).drew
    have hE0 : Below w.heap.size w w1.drew := HB.out.trans (hqD.mono hszr)
    have hEA : ∀ o, Below w.heap.size w (w1.alloc o).drew := fun o => HB.out.trans ((hqA o).mono hszr)
    have hE1 : ∀ (o : Obj) (W : World), Below w.heap.size (w1.alloc o).drew W → Below w.heap.size w W := fun o W h => (hEA o).trans h
    have kA : ∀ o : Obj, ((w1.alloc o).drew).cell? ⟨wr.heap.size, 4, none⟩ = some (.slice A4 xs[k].kids.length c4) := fun o => cell_keep (b1d w1 o) k4
    replace hqD := Lib.hid hqD
    replace hqA := Lib.hid hqA
    replace hE0 := Lib.hid hE0
    replace hEA := Lib.hid hEA
    replace hE1 := Lib.hid hE1
    replace kA := Lib.hid kA
    go_region_law (first | (refine step_pushesN (by rfl) _ _ _ (by rfl) (enc := strD) (base := w.heap.size) (wr := w3) (xs := JSel.waysL (xs.take k) p ++ [p ++ xs[k].under]) (JSel.waysL xs[k].kids (p ++ xs[k].under ++ ⟨#[47]⟩)) 9 i0 (.string ⟨#[]⟩) 1 16 Tryd.underlying31 hi hz0 hz1 hz2 (by rfl) (by decide) strD_len (by rfl) hG3 (Below.refl _ _) hE3.size A5 c5 (by rfl) ((JSel.waysL xs[k].kids (p ++ xs[k].under ++ ⟨#[47]⟩)).map Value.string) [] (strs_row _ _ (Own.rd _ _ _ ow3).str_small) (Fresh.nil _) (Rd.str_news (Own.rd _ _ _ ow3)) hcap1.out hcap2.out ?_; intro A6 n6 c6 w5 hn6 hG5 hB5 _ _; clear hn6; have hB6 : Below w.heap.size w w5 := hE3.trans hB5) | (refine step_pushN (by rfl) _ _ _ (by rfl) (enc := strD) (base := w.heap.size) (wr := wr) (xs := JSel.waysL (xs.take k) p) (p ++ xs[k].under) 9 i0 (.string ⟨#[]⟩) 1 16 Tryd.underlying31 hi hz0 hz1 hz2 (by rfl) (by decide) strD_len (by rfl) HG.out (hqA.out _) hszr ⟨w1.heap.size, 0, none⟩ 1 (by rfl) [.string (p ++ xs[k].under)] [] (.str hsz1 (.nil _)) (Fresh.nil _) (box_new (by rfl)) ⟨by omega, by omega⟩ ?_; intro A9 n9 c9 w3 hn9 hG3 hB3 hg3 hH3; clear hn9; have hE3 := hE1.out _ _ hB3; have k4c := ((grown_cell hg3 (b := wr.heap.size) (by simp; omega) (fun e => absurd (hnv.out _ e) (by omega))).1 4).trans (kA.out _)) | (refine step_pushN (by rfl) _ _ _ (by rfl) (enc := strD) (base := w.heap.size) (wr := wr) (xs := JSel.waysL (xs.take k) p) (p ++ xs[k].under) 9 i0 (.string ⟨#[]⟩) 1 16 Tryd.underlying31 hi hz0 hz1 hz2 (by rfl) (by decide) strD_len (by rfl) HG.out hqB hszr ⟨w1.heap.size, 0, none⟩ 1 (by rfl) [.string (p ++ xs[k].under)] [] (.str hsz1 (.nil _)) (Fresh.nil _) (fun j u hj => cell_keep hb4 (box_new (by rfl) j u hj)) ⟨by omega, by omega⟩ ?_; intro A9 n9 c9 w3 hn9 hG3 hB3 hg3 hH3; clear hn9; have hE3 : Below w.heap.size w w3 := HB.out.trans ((hqB.mono hszr).trans hB3); have ow3 := Own.grown o4 hg3 (fun b hm e => by (have h1 := hnv.out _ e; have h2 := hf4.2 b hm; simp at h2; omega)); have k4c := ((grown_cell hg3 (b := wr.heap.size) (by simp; omega) (fun e => absurd (hnv.out _ e) (by omega))).1 4).trans k4b) | (refine step_pushN (by rfl) _ _ _ (by rfl) (enc := strD) (base := w.heap.size) (wr := wr) (xs := JSel.waysL (xs.take k) p) (p ++ xs[k].under) 9 i0 (.string ⟨#[]⟩) 1 16 Tryd.underlying31 hi hz0 hz1 hz2 (by rfl) (by decide) strD_len (by rfl) HG.out (bt hqB (b1 _ _)) hszr ⟨w4.heap.size, 0, none⟩ 1 (by rfl) [.string (p ++ xs[k].under)] [] (.str hsz1 (.nil _)) (Fresh.nil _) (box_new (by rfl)) ⟨by omega, by omega⟩ ?_; intro A9 n9 c9 w3 hn9 hG3 hB3 hg3 hH3; clear hn9; have hE3 : Below w.heap.size w w3 := HB.out.trans (((bt hqB (b1 _ _)).mono hszr).trans hB3); have ow3 := Own.grown (o4.keep (b1 _ _)) hg3 (fun b hm e => by (have h1 := hnv.out _ e; have h2 := hf4.2 b hm; simp at h2; omega)); have k4c := ((grown_cell hg3 (b := wr.heap.size) (by simp; omega) (fun e => absurd (hnv.out _ e) (by omega))).1 4).trans (cell_keep (b1 _ _) k4b)) | (go_simp; go_at_call 47; (with_reducible refine (HW.out _ hE0.out).mono ?_); rintro e w4 ⟨us4, f4, rfl, o4, hf4, hb4⟩; obtain ⟨A5, c5, rfl⟩ := Own.slD o4; have hqB := bt hqD.out hb4; have hx4 := hb4.size; have k4b := cell_keep hb4 k4) | (go_simp; go_at_call 47; (with_reducible refine (HW.out _ (hEA.out _)).mono ?_); rintro e w4 ⟨us4, f4, rfl, o4, hf4, hb4⟩; obtain ⟨A5, c5, rfl⟩ := Own.slD o4; have hqB := bt (hqA.out _) hb4; have hx4 := hb4.size; have k4b := cell_keep hb4 (kA.out _)) | (go_simp; go_at_call 47; (with_reducible refine (HW.out _ hE3).mono ?_); rintro e w4 ⟨us4, f4, rfl, o4, hf4, hb4⟩; obtain ⟨A5, c5, rfl⟩ := Own.slD o4) | (refine step_pushesN (by rfl) _ _ _ (by rfl) (enc := strD) (base := w.heap.size) (wr := w3) (xs := JSel.waysL (xs.take k) p ++ [p ++ xs[k].under]) (JSel.waysL xs[k].kids (p ++ xs[k].under ++ ⟨#[47]⟩)) 9 i0 (.string ⟨#[]⟩) 1 16 Tryd.underlying31 hi hz0 hz1 hz2 (by rfl) (by decide) strD_len (by rfl) hG3 hb4 hE3.size A5 c5 (by rfl) ((JSel.waysL xs[k].kids (p ++ xs[k].under ++ ⟨#[47]⟩)).map Value.string) [] (strs_row _ _ (Own.rd _ _ _ o4).str_small) (Fresh.nil _) (Rd.str_news (Own.rd _ _ _ o4)) hcap1.out hcap2.out ?_; intro A6 n6 c6 w5 hn6 hG5 hB5 _ _; clear hn6; have hB6 : Below w.heap.size w w5 := hE3.trans ((hb4.mono hE3.size).trans hB5)))
    all_goals
      have hG9 := Lib.hid hG5
      have hB9 := Lib.hid hB6
      clear hG5 hB6 hB5 hG3 hB3 hg3 hH3
      go_wp2
      go_roundw
      case rel => exact ⟨k + 1, by omega, by go_num, hB9.out, Gr.cast hG9.out (by rw [htk.out]) rfl⟩
      case measure => simp [intOf]; omega
theorem waysOf_all : ∀ n, ∀ xs : List JSel, SizeOf.sizeOf xs < n → ImplWays xs
  | 0 => fun _ h => absurd h (by omega)
  | n + 1 => fun xs h => waysOf_of xs fun x hx => waysOf_all n x.kids (by have := JSel.kids_lt x; have := List.sizeOf_lt_of_mem hx; omega)
theorem waysOf_c (xs : List JSel) : ImplWays xs := waysOf_all _ xs (Nat.lt_succ_self _)

noncomputable def waysR (xs : List JSel) : List ByteArray := if tf (AskOkP xs) = true then JSel.waysL xs ⟨#[]⟩ else []
theorem waysR_y {xs : List JSel} (h : AskOkP xs) : waysR xs = JSel.waysL xs ⟨#[]⟩ := by unfold waysR; rw [if_pos (tf_t h)]
theorem waysR_n {xs : List JSel} (h : ¬ AskOkP xs) : waysR xs = [] := by unfold waysR; rw [if_neg (by rw [tf_f h]; decide)]
theorem waysR_len (xs : List JSel) : (waysR xs).length ≤ 24 := by
  by_cases h : AskOkP xs
  · rw [waysR_y h, JSel.waysL_len]; exact h.2.2.1
  · rw [waysR_n h]; simp
theorem Made1.of {w w1 w' : World} {d d' : D} {e : Ending} (h : Made1 w1 d e w') (hd : d = d') (hb : Below w.heap.size w w1) : Made1 w d' e w' := by
  subst hd
  obtain ⟨v, fp, h1, h2, h3, h4⟩ := h
  exact ⟨v, fp, h1, h2, ⟨h3.1, fun b hm => Nat.le_trans hb.size (h3.2 b hm)⟩, bt hb h4⟩
set_option maxRecDepth 100000 in
set_option maxHeartbeats 4000000 in
theorem specAskWays_c (xs : List JSel) (A : Option Addr) (n c : Nat) (w : World) (hx : Rd w (slD JSel.enc 5 xs) (.slice A n c)) :
    Calls Tryd.prog 22 #[.slice A n c] w (Made1 w (slD strD 1 (waysR xs))) := by
  obtain rfl := Rd.len hx
  have HL := Lib.hid (fun W (h : Below w.heap.size w W) => specAskOk_c xs A xs.length c W (hx.below h))
  have HW := Lib.hid (fun W (h : Below w.heap.size w W) (ho : AskL xs 1) (hn : JSel.nodesL xs ≤ 24) => l12Ways_c xs A xs.length c 1 ⟨#[]⟩ W (hx.below h) ho (by omega) (by decide) hn)
  clear hx
  by_cases h1 : AskOkP xs
  · have HW2 := Lib.hid (fun W (h : Below w.heap.size w W) => HW.out W h h1.2.1 h1.2.2.1)
    replace h1 := Lib.hid h1
    go_enter Tryd.func22, Tryd.ntmps22
    go_wp2_with fail
    refine (HL.out _ (Below.refl _ _)).mono ?_
    intro e w1 hr
    obtain ⟨rfl, hb1⟩ := Ret.tt h1.out hr
    clear hr
    go_wp2_with fail
    refine (HW2.out _ hb1).mono ?_
    rintro e w2 ⟨us2, f2, rfl, o2, hf2, hb2⟩
    have hfin : Made1 w (slD strD 1 (waysR xs)) (.returned us2) w2 := Made1.of ⟨us2, f2, rfl, o2, hf2, hb2⟩ (by rw [waysR_y h1.out]) hb1
    obtain ⟨A5, c5, rfl⟩ := Own.slD o2
    replace hfin := Lib.hid hfin
    clear hb1 hb2 o2 hf2
    go_wp2
    go_ret
    exact hfin.out
  · replace h1 := Lib.hid h1
    go_enter Tryd.func22, Tryd.ntmps22
    go_wp2_with fail
    refine (HL.out _ (Below.refl _ _)).mono ?_
    intro e w1 hr
    obtain ⟨rfl, hb1⟩ := Ret.ff h1.out hr
    clear hr
    go_wp2
    go_ret
    exact Made1.of (Gr.made strD_len (Gr.empty (base := w1.heap.size) w1 9 strD 1 (Nat.le_refl _)) (Nat.le_refl _) (b1 _ _)) (by rw [waysR_n h1.out]) hb1
set_option maxRecDepth 100000 in
set_option maxHeartbeats 4000000 in
theorem implAskWays_c (xs : List JSel) (A : Option Addr) (n c : Nat) (w : World) (hx : Rd w (slD JSel.enc 5 xs) (.slice A n c)) (hbk : xs.length + JSel.bulks xs ≤ 1048576) (htab : TabW w) :
    Calls Tryd.prog 23 #[.slice A n c] w (Made1 w (slD strD 1 (waysR xs))) := by
  obtain rfl := Rd.len hx
  have HL := Lib.hid (fun W (h : Below w.heap.size w W) => implAskOk_c xs A xs.length c W (hx.below h) hbk (htab.below h))
  have HW := Lib.hid (fun W (h : Below w.heap.size w W) (ho : AskL xs 1) (hn : JSel.nodesL xs ≤ 24) => waysOf_c xs A xs.length c 1 ⟨#[]⟩ W (hx.below h) ho (by omega) (by decide) hn)
  clear hx
  by_cases h1 : AskOkP xs
  · have HW2 := Lib.hid (fun W (h : Below w.heap.size w W) => HW.out W h h1.2.1 h1.2.2.1)
    replace h1 := Lib.hid h1
    go_enter Tryd.func23, Tryd.ntmps23
    go_wp2_with fail
    refine (HL.out _ (Below.refl _ _)).mono ?_
    intro e w1 hr
    obtain ⟨rfl, hb1⟩ := Ret.tt h1.out hr
    clear hr
    go_wp2_with fail
    refine (HW2.out _ hb1).mono ?_
    rintro e w2 ⟨us2, f2, rfl, o2, hf2, hb2⟩
    have hfin : Made1 w (slD strD 1 (waysR xs)) (.returned us2) w2 := Made1.of ⟨us2, f2, rfl, o2, hf2, hb2⟩ (by rw [waysR_y h1.out]) hb1
    obtain ⟨A5, c5, rfl⟩ := Own.slD o2
    replace hfin := Lib.hid hfin
    clear hb1 hb2 o2 hf2
    go_wp2
    go_ret
    exact hfin.out
  · replace h1 := Lib.hid h1
    go_enter Tryd.func23, Tryd.ntmps23
    go_wp2_with fail
    refine (HL.out _ (Below.refl _ _)).mono ?_
    intro e w1 hr
    obtain ⟨rfl, hb1⟩ := Ret.ff h1.out hr
    clear hr
    go_wp2
    go_ret
    exact Made1.of (Gr.made strD_len (Gr.nil w1.heap.size w1 9 strD 1) (Nat.le_refl _) (Below.refl _ _)) (by rw [waysR_n h1.out]) hb1
end Go.Proofs.YtephnocoajbieaaDoor.Lib
