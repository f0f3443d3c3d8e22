/- The program's StoreGet and what it comes to. Sizes up to 2^20. -/
import Derived.Test.YtegabeefggcelaaGet3
set_option linter.unusedVariables false
set_option linter.unusedSimpArgs false
namespace Go.Proofs.Ytegabeefggcelaa.Lib
open Go.RowKit

theorem live_cell1 : Live 77 := live_of Try.func77 (by kernel_rfl) (by kernel_rfl)
theorem cell1_c (name : ByteArray) (g : Nat) (x : JCell) (cs : List Value) (w : World) (hc : w.cell? ⟨g, 0, none⟩ = some (.string name)) (hx : RdL w x.enc cs) :
    Calls Try.prog 77 #[.agg cs.toArray, .pointer (some ⟨g, 0, none⟩)] w (Ret w (.bool (tf (x.name = name)))) := by
  obtain ⟨A4, c4, A5, c5, rfl, g4, g5, l0, l3, n4, n5⟩ := JCell.open_ hx
  clear hx g4 g5
  have hgl := World.block_lt_of_cell? w _ hc
  by_cases h : x.name = name
  · have t1 := str_t h
    replace h := Lib.hid h
    go_enter Try.func77, Try.ntmps77
    go_wp2
    go_ret
    exact Ret.t h.out (b1 _ _)
  · have t1 := str_f h
    replace h := Lib.hid h
    go_enter Try.func77, Try.ntmps77
    go_wp2
    go_ret
    exact Ret.f h.out (b1 _ _)
theorem live_row1 : Live 75 := live_of Try.func75 (by kernel_rfl) (by kernel_rfl)
theorem row1_c (name : ByteArray) (id : Int) (g g2 : Nat) (x : JRow) (cs : List Value) (w : World) (hc : w.cell? ⟨g, 0, none⟩ = some (.string name)) (hd : w.cell? ⟨g2, 0, none⟩ = some (.int .i64 id)) (hx : RdL w x.enc cs) :
    Calls Try.prog 75 #[.agg cs.toArray, .pointer (some ⟨g, 0, none⟩), .pointer (some ⟨g2, 0, none⟩)] w (Ret w (.bool (tf (x.typ = name ∧ x.id = id)))) := by
  obtain ⟨A2, c2, rfl, q2, l0, l2⟩ := JRow.open_ hx
  clear hx q2
  have hgl := World.block_lt_of_cell? w _ hc
  have hgl2 := World.block_lt_of_cell? w _ hd
  by_cases h : x.typ = name
  · have t1 := str_t h
    replace h := Lib.hid h
    by_cases h2 : x.id = id
    · have t2 : (x.id == id) = true := by rw [beq_iff_eq]; exact h2
      replace h2 := Lib.hid h2
      go_enter Try.func75, Try.ntmps75
      go_wp2
      go_ret
      exact Ret.t ⟨h.out, h2.out⟩ (b1 _ _)
    · have t2 : (x.id == id) = false := by rw [beq_eq_false_iff_ne]; exact h2
      replace h2 := Lib.hid h2
      go_enter Try.func75, Try.ntmps75
      go_wp2
      go_ret
      exact Ret.f (fun k => h2.out k.2) (b1 _ _)
  · have t1 := str_f h
    replace h := Lib.hid h
    go_enter Try.func75, Try.ntmps75
    go_wp2
    go_ret
    exact Ret.f (fun k => h.out k.1) (b1 _ _)

set_option maxRecDepth 100000 in
set_option maxHeartbeats 4000000 in
theorem rowCell_c (r : JRow) (cs : List Value) (name : ByteArray) (w : World) (hx : RdL w r.enc cs) :
    Calls Try.prog 57 #[.agg cs.toArray, .string name] w (TellB w (cellR r name).1.enc (cellR r name).2) := by
  have hmf : ∀ (fn : Fn) (first cap : Array Value) (w : World), (Instr.makeFunc fn first cap).run Try.prog w = .ok (.func fn first cap) w := fun _ _ _ _ => rfl
  obtain ⟨A2, c2, rfl, q2, l0, l2⟩ := JRow.open_ hx
  have HC := Lib.hid (fun (W : World) (hb : Below w.heap.size w W) (hg : W.cell? ⟨w.heap.size + 1, 0, none⟩ = some (.string name)) => indexFuncCell_c r.cells A2 c2 (fun x => x.name = name) 77 #[.pointer (some ⟨w.heap.size + 1, 0, none⟩)] W (q2.below hb) ⟨live_cell1, fun x us W2 h1 h2 => cell1_c name _ x us W2 (cell_keep h2 hg) h1⟩)
  have G2 := Lib.hid q2
  clear hx q2
  go_enter Try.func57, Try.ntmps57
  go_wp2_with fail
  refine (HC.out _ (bt (bt (b1 _ _) (b1 _ _)) (b1 _ _)) (by simp [go_sem])).mono ?_
  intro e w2 hr
  obtain ⟨i, ⟨rfl, hb2⟩, hf⟩ := hr
  obtain ⟨hc2, hf2⟩ := bcell hb2
  have hz2 : w.heap.size + 2 < w2.heap.size := by have := hb2.size; simp at this; omega
  have hz3 : w.heap.size + 1 + 1 < w2.heap.size := by omega
  have hz4 : w.heap.size < w2.heap.size := by omega
  have hB2 := bt (bt (bt (b1 _ _) (b1 _ _)) (b1 _ _)) hb2
  replace hb2 := Lib.hid hb2
  rcases hf with ⟨rfl, hn⟩ | ⟨k, rfl, hk, hp, hn⟩
  · have hv : cellR r name = (JValue.zero, false) := cellR_no hn
    replace hv := Lib.hid hv
    clear hn
    go_wp2
    refine bodyPost_ret (v := .tuple #[.agg #[.int .i64 0, .int .i64 0, .string ⟨#[]⟩, .slice none 0 0, .slice none 0 0], .bool false]) (by simp [results, Try.results57, go_sem, hc2, hz2, hz3]) rfl ⟨_, by rw [hv.out], ?_, ?_⟩
    · rw [hv.out]; exact zero_rd _
    · repeat (first | (with_reducible exact hB2) | refine Below.setCell ?_ (by dsimp only; omega) _)
  · have hv : cellR r name = (r.cells[k].value, true) := cellR_yes hk hp hn
    replace hv := Lib.hid hv
    clear hn hp
    obtain ⟨ad2, A4, c4, A5, c5, rfl, y0, y1, y2, y3, y4, y5, g4, g5, m0, m3, _, _⟩ := JCell.elem G2.out k hk
    have GG := Lib.hid (JValue.close_ r.cells[k].value g4 g5 m3)
    clear g4 g5
    replace y1 := cell_keep hB2 y1
    replace y2 := cell_keep hB2 y2
    replace y3 := cell_keep hB2 y3
    replace y4 := cell_keep hB2 y4
    replace y5 := cell_keep hB2 y5
    have hkI : (k : Int) < r.cells.length := by omega
    go_wp2
    refine bodyPost_ret (v := .tuple #[.agg #[.int .i64 r.cells[k].value.sort, .int .i64 r.cells[k].value.num, .string r.cells[k].value.text, .slice A4 r.cells[k].value.names.length c4, .slice A5 r.cells[k].value.kids.length c5], .bool true]) (by simp [results, Try.results57, go_sem, hc2, hz2, hz3]) rfl ⟨_, by rw [hv.out], ?_, ?_⟩
    · rw [hv.out]
      exact GG.out.keep (by repeat (first | (with_reducible exact hB2) | refine Below.setCell ?_ (by dsimp only; omega) _))
    · repeat (first | (with_reducible exact hB2) | refine Below.setCell ?_ (by dsimp only; omega) _)

theorem zero_row_rd (w : World) : RdL w JRow.zero.enc [.string ⟨#[]⟩, .int .i64 0, .slice none 0 0] := OwnRow.rdl (zero_Row w)
set_option maxRecDepth 100000 in
set_option maxHeartbeats 4000000 in
theorem rowOf_c (rows : List JRow) (A : Option Addr) (c : Nat) (name : ByteArray) (id : Int) (w : World) (hx : Rd w (slD JRow.enc 3 rows) (.slice A rows.length c)) :
    Calls Try.prog 56 #[.slice A rows.length c, .string name, .int .i64 id] w (TellB w (rowR rows name id).1.enc (rowR rows name id).2) := by
  have hmf : ∀ (fn : Fn) (first cap : Array Value) (w : World), (Instr.makeFunc fn first cap).run Try.prog w = .ok (.func fn first cap) w := fun _ _ _ _ => rfl
  have HC := Lib.hid (fun (W : World) (hb : Below w.heap.size w W) (hg : W.cell? ⟨w.heap.size, 0, none⟩ = some (.string name)) (hd : W.cell? ⟨w.heap.size + 1, 0, none⟩ = some (.int .i64 id)) => indexFuncRow_c rows A c (fun x => x.typ = name ∧ x.id = id) 75 #[.pointer (some ⟨w.heap.size, 0, none⟩), .pointer (some ⟨w.heap.size + 1, 0, none⟩)] W (hx.below hb) ⟨live_row1, fun x us W2 h1 h2 => row1_c name id _ _ x us W2 (cell_keep h2 hg) (cell_keep h2 hd) h1⟩)
  have G2 := Lib.hid hx
  clear hx
  go_enter Try.func56, Try.ntmps56
  go_wp2_with fail
  refine (HC.out _ (bt (bt (b1 _ _) (b1 _ _)) (b1 _ _)) (by simp [go_sem]) (by simp [go_sem])).mono ?_
  intro e w2 hr
  obtain ⟨i, ⟨rfl, hb2⟩, hf⟩ := hr
  obtain ⟨hc2, hf2⟩ := bcell hb2
  have hz2 : w.heap.size + 2 < w2.heap.size := by have := hb2.size; simp at this; omega
  have hz3 : w.heap.size + 1 + 1 < w2.heap.size := by omega
  have hz4 : w.heap.size < w2.heap.size := by omega
  have hB2 := bt (bt (bt (b1 _ _) (b1 _ _)) (b1 _ _)) hb2
  replace hb2 := Lib.hid hb2
  rcases hf with ⟨rfl, hn⟩ | ⟨k, rfl, hk, hp, hn⟩
  · have hv : rowR rows name id = (JRow.zero, false) := rowR_no hn
    replace hv := Lib.hid hv
    clear hn
    go_wp2
    refine bodyPost_ret (v := .tuple #[.agg #[.string ⟨#[]⟩, .int .i64 0, .slice none 0 0], .bool false]) (by simp [results, Try.results56, go_sem, hc2, hz2, hz3]) rfl ⟨_, by rw [hv.out], ?_, ?_⟩
    · rw [hv.out]; exact zero_row_rd _
    · repeat (first | (with_reducible exact hB2) | refine Below.setCell ?_ (by dsimp only; omega) _)
  · have hv : rowR rows name id = (rows[k], true) := rowR_yes hk hp hn
    replace hv := Lib.hid hv
    clear hn hp
    obtain ⟨ad2, A2, c2, rfl, y0, y1, y2, g2, l0, l2⟩ := JRow.elem G2.out k hk
    have GG := Lib.hid (JRow.close_ rows[k] g2 l0)
    clear g2
    replace y0 := cell_keep hB2 y0
    replace y1 := cell_keep hB2 y1
    replace y2 := cell_keep hB2 y2
    have hkI : (k : Int) < rows.length := by omega
    go_wp2
    refine bodyPost_ret (v := .tuple #[.agg #[.string rows[k].typ, .int .i64 rows[k].id, .slice A2 rows[k].cells.length c2], .bool true]) (by simp [results, Try.results56, go_sem, hc2, hz2, hz3]) rfl ⟨_, by rw [hv.out], ?_, ?_⟩
    · rw [hv.out]
      exact GG.out.keep (by repeat (first | (with_reducible exact hB2) | refine Below.setCell ?_ (by dsimp only; omega) _))
    · repeat (first | (with_reducible exact hB2) | refine Below.setCell ?_ (by dsimp only; omega) _)

theorem rowR_bulk {rows : List JRow} {name : ByteArray} {id : Int} (h : rows.length + JRow.bulks rows ≤ 1048576) : JRow.bulk (rowR rows name id).1 ≤ 1048576 := by
  unfold rowR
  split
  · rename_i r hr
    exact bulkL_mem (f := JRow.bulk) (xs := rows) (by rw [JRow.bulkL_eq]; exact h) (List.mem_of_find?_eq_some hr)
  · simp [JRow.zero, JRow.bulk, JCell.bulks]; decide
theorem cellR_bulk {r : JRow} {name : ByteArray} (h : JRow.bulk r ≤ 1048576) : JValue.bulk (cellR r name).1 ≤ 1048576 := by
  unfold cellR
  split
  · rename_i x hr
    rw [JRow.bulk_eq] at h
    have := bulkL_mem (f := JCell.bulk) (xs := r.cells) (n := 1048576) (by rw [JCell.bulkL_eq]; omega) (List.mem_of_find?_eq_some hr)
    rw [JCell.bulk_eq] at this
    dsimp only
    omega
  · rw [JValue.bulk_eq]; simp [JValue.zero, JValue.bulks, strsBulk, sumB]; decide
set_option maxRecDepth 100000 in
set_option maxHeartbeats 4000000 in
theorem implStoreGet_c (rows : List JRow) (A : Option Addr) (c : Nat) (name field : ByteArray) (id : Int) (w : World) (hx : Rd w (slD JRow.enc 3 rows) (.slice A rows.length c)) (hbk : rows.length + JRow.bulks rows ≤ 1048576) :
    Calls Try.prog 28 #[.slice A rows.length c, .string name, .int .i64 id, .string field] w (MadeB w (getR rows name id field).1.enc (getR rows name id field).2) := by
  have HR := Lib.hid (fun W (hb : Below w.heap.size w W) => rowOf_c rows A c name id W (hx.below hb))
  have HB1 := Lib.hid (rowR_bulk (name := name) (id := id) hbk)
  have HB2 := Lib.hid (cellR_bulk (name := field) HB1.out)
  have hgr : getR rows name id field = cellR (rowR rows name id).1 field := rfl
  rw [hgr]
  clear hx hbk hgr
  generalize rowR rows name id = rr at *
  obtain ⟨r1, r2⟩ := rr
  dsimp only at *
  have hv : ∀ W cs, RdL W r1.enc cs → _ := fun W cs h => rowCell_c r1 cs field W h
  replace hv := Lib.hid hv
  generalize cellR r1 field = vv at *
  obtain ⟨v1, v2⟩ := vv
  dsimp only at *
  go_enter Try.func28, Try.ntmps28
  go_wp2_with fail
  refine (HR.out _ (b1 _ _)).mono ?_
  rintro e w1 ⟨us1, rfl, g1, hb1⟩
  obtain ⟨A2, c2, rfl, q2, l0, l2⟩ := JRow.open_ g1
  clear q2
  obtain ⟨hc1, hf1⟩ := bcell hb1
  have hz1 : w.heap.size < w1.heap.size := by have := hb1.size; simp at this; omega
  have hB1 := bt (b1 _ _) hb1
  replace hb1 := Lib.hid hb1
  have G1 := Lib.hid g1
  clear g1
  go_wp2_with fail
  refine (hv.out _ _ (G1.out.keep (b1 _ _))).mono ?_
  rintro e w2 ⟨us2, rfl, g2, hb2⟩
  obtain ⟨A3, c3, A4, c4, rfl, q3, q4, m2, _, _⟩ := JValue.open_ g2
  clear q3 q4
  obtain ⟨hc2, hf2⟩ := bcell hb2
  have hz2 : w1.heap.size < w2.heap.size := by have := hb2.size; simp at this; omega
  have hB2 := bt (bt hB1 (b1 _ _)) hb2
  replace hb2 := Lib.hid hb2
  have G2 := Lib.hid g2
  clear g2
  have HM := Lib.hid (fun W cs h => copied_c v1 cs W h HB2.out)
  go_wp2_with fail
  refine (HM.out _ _ (G2.out.keep (b1 _ _))).mono ?_
  rintro e w3 ⟨us3, f3, rfl, o3, fr3, hb3⟩
  obtain ⟨B3, d3, B4, d4, rfl⟩ := JValue.openO o3
  have O3 := Lib.hid o3
  clear o3
  obtain ⟨hc3, hf3⟩ := bcell hb3
  have hz3 : w2.heap.size < w3.heap.size := by have := hb3.size; simp at this; omega
  have hz0 : w.heap.size < w2.heap.size := by omega
  have hz9 : w.heap.size < w3.heap.size := by omega
  have hB3 := bt (bt hB2 (b1 _ _)) hb3
  have hBz : Below (w.alloc (.cells #[.int .i64 0, .int .i64 0, .string ⟨#[]⟩, .slice none 0 0, .slice none 0 0] 31)).heap.size (w.alloc (.cells #[.int .i64 0, .int .i64 0, .string ⟨#[]⟩, .slice none 0 0, .slice none 0 0] 31)) w3 := bt (bt (bt (bt hb1.out (b1 _ _)) hb2.out) (b1 _ _)) hb3
  have e0 := cell_keep hBz (a := ⟨w.heap.size, 0, none⟩) (v := .int .i64 0) (by simp [go_sem])
  have e1 := cell_keep hBz (a := ⟨w.heap.size, 1, none⟩) (v := .int .i64 0) (by simp [go_sem])
  have e2 := cell_keep hBz (a := ⟨w.heap.size, 2, none⟩) (v := .string ⟨#[]⟩) (by simp [go_sem])
  have e3 := cell_keep hBz (a := ⟨w.heap.size, 3, none⟩) (v := .slice none 0 0) (by simp [go_sem])
  have e4 := cell_keep hBz (a := ⟨w.heap.size, 4, none⟩) (v := .slice none 0 0) (by simp [go_sem])
  clear hBz
  go_wp2
  refine bodyPost_ret (v := .tuple #[.agg #[.int .i64 v1.sort, .int .i64 v1.num, .string v1.text, .slice B3 v1.names.length d3, .slice B4 v1.kids.length d4], .bool v2]) (by simp [results, Try.results28, go_sem, e0, e1, e2, e3, e4]) rfl ⟨_, f3, rfl, ?_, fr3.lower (by simp; omega), ?_⟩
  · repeat (first | (with_reducible exact O3.out) | refine OwnRow.set ?_ (fun hm => by have := fr3.2 _ hm; simp at this; omega) _)
  · repeat (first | (with_reducible exact hB3) | refine Below.setCell ?_ (by dsimp only; omega) _)
end Go.Proofs.Ytegabeefggcelaa.Lib
