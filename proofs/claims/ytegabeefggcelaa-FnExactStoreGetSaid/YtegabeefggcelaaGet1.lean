/- Copies of values: slices.Clone at texts, the reference's l1Copy, the program's copied. Sizes up to 2^20. -/
import Derived.Test.YtegabeefggcelaaGr
import Derived.Test.YtegabeefggcelaaSlices
import Derived.Test.YtegabeefggcelaaTo
import Derived.Deep.QuietTactic
import Derived.BigQuiet
import Derived.StillTailTactics
import Derived.Deep.RegionHeld3
import Derived.Deep.RegionLaw
import Derived.WalkSpells
set_option linter.unusedVariables false
set_option linter.unusedSimpArgs false
namespace Go.Proofs.Ytegabeefggcelaa.Lib
open Go.RowKit

set_option maxRecDepth 100000 in
theorem cloneStr_c (xs : List ByteArray) (A : Option Addr) (c : Nat) (w : World) (hx : Rd w (slD strD 1 xs) (.slice A xs.length c)) (hl : xs.length ≤ 1048576) :
    Calls Try.prog 78 #[.slice A xs.length c] w (Made1 w (slD strD 1 xs)) := by
  obtain ⟨i0, hi, hz0, hz1, hz2⟩ := info_parts info_str
  have HX := Lib.hid hx
  cases A with
  | none =>
    have h0 : xs = [] := by
      cases xs with
      | nil => rfl
      | cons x r => obtain ⟨ad, e, _⟩ := Rd.str_news hx (by simp); cases e
    clear hx
    subst h0
    have hnil : ∀ (w : World), (binOp .eql 23 (.slice none 0 c) (.slice none 0 0)).run Try.prog w = .ok (.bool true) w := fun w => Go.Lib.run_eql_slice_nil w _ _ none 0 c 0 0 Try.underlying23
    go_enter Try.func78, Try.ntmps78
    go_wp2
    go_ret
    exact (Gr.nil w.heap.size w 9 strD 1).made strD_len (Nat.le_refl _) (Below.refl _ _)
  | some ad =>
    clear hx
    have hnil : ∀ (w : World), (binOp .eql 23 (.slice (some ad) xs.length c) (.slice none 0 0)).run Try.prog w = .ok (.bool false) w := fun w => Go.Lib.run_eql_slice_nil w _ _ (some ad) _ c 0 0 Try.underlying23
    go_enter Try.func78, Try.ntmps78
    go_wp2_with (at_builtin; refine wpList_pushes rfl _ _ 23 rfl (enc := strD) (base := w.heap.size) (wr := w.alloc (.cells #[] 9)) (xs := []) xs 9 i0 (.string ⟨#[]⟩) 1 16 Try.underlying23 hi hz0 hz1 hz2 rfl (by decide) strD_len rfl (Gr.empty w 9 strD 1 (Nat.le_refl _)) (Below.refl _ _) ?c0 (some ad) c rfl (xs.map Value.string) [] (strs_row _ xs HX.out.str_small) (Fresh.nil _) ((HX.out.below (b1 _ _)).str_news) ?c1 ?c2 ?_)
    case c0 => simp
    case c1 => simp only [List.length_nil]; unfold maxLen; omega
    case c2 => simp only [List.length_nil]; omega
    intro A2 c2 w2 hG hB _ _
    go_wp2
    go_ret
    exact hG.made strD_len (Nat.le_refl _) ((b1 _ _).trans hB)

def Copied (v : JValue) : Prop := ∀ (cs : List Value) (w : World), RdL w v.enc cs → JValue.bulk v ≤ 1048576 → Calls Try.prog 58 #[.agg cs.toArray] w (Made w v.enc)
set_option maxRecDepth 100000 in
set_option maxHeartbeats 4000000 in
theorem copied_of (v : JValue) (hK : ∀ x, x ∈ v.kids → Copied x) : Copied v := by
  intro cs w hcs hbk
  obtain ⟨i0, hi, hz0, hz1', hz2⟩ := info_parts info_Value
  have HBK := Lib.hid hbk
  rw [JValue.bulk_eq] at hbk
  unfold strsBulk at hbk
  obtain ⟨A3, c3, A4, c4, rfl, g3, g4, l2, _n3, _n4⟩ := JValue.open_ hcs
  have hl3 : v.names.length ≤ 1048576 := by omega
  have hl4 : v.kids.length ≤ 1048576 := by omega
  clear hbk
  have G3 := Lib.hid g3
  clear g3
  have G4 := Lib.hid g4
  clear g4
  have HK := Lib.hid hK
  clear hK
  clear hcs
  go_enter Try.func58, Try.ntmps58
  go_wp2_with fail
  refine (cloneStr_c v.names A3 c3 _ (G3.out.below (bt (bt (b1 _ _) (b1 _ _)) (b1 _ _))) hl3).mono ?_
  rintro e w1 ⟨us1, f1, rfl, o1, fr1, hb1⟩
  obtain ⟨X1, x1, rfl⟩ := Own.slD o1
  obtain ⟨hc1, hf1⟩ := bcell hb1
  have hs1 := hb1.size
  simp only [World.size_setCell, World.size_alloc] at hs1
  have hx1 : w.heap.size + 1 + 1 < w1.heap.size := by omega
  have hy1 : w.heap.size + 1 < w1.heap.size := by omega
  have hz1 : w.heap.size < w1.heap.size := by omega
  go_wp2
  have hO4 : ∀ u, ((w1.setCell ⟨w.heap.size + 1 + 1, 3, none⟩ (.slice X1 v.names.length x1)).setCell ⟨w.heap.size + 1 + 1, 4, none⟩ u).cell? ⟨w.heap.size + 1 + 1, 4, none⟩ = some u := fun u => by simp [go_sem, hc1, hx1, hy1, hz1]
  have hB1 : ∀ u, Below w.heap.size w ((w1.setCell ⟨w.heap.size + 1 + 1, 3, none⟩ (.slice X1 v.names.length x1)).setCell ⟨w.heap.size + 1 + 1, 4, none⟩ u) := fun u => ((bt (bt (bt (b1 _ _) (b1 _ _)) (b1 _ _)) hb1).setCell (by dsimp only; omega) _).setCell (by dsimp only; omega) _
  have hf4 : ∀ u, ((w1.setCell ⟨w.heap.size + 1 + 1, 3, none⟩ (.slice X1 v.names.length x1)).setCell ⟨w.heap.size + 1 + 1, 4, none⟩ u).frozen? ⟨w.heap.size + 1 + 1, 4, none⟩ = false := fun u => by simp [go_sem, hf1, hx1, hy1, hz1]
  have hO4 := Lib.hid hO4
  have hf4 := Lib.hid hf4
  have hB1 := Lib.hid hB1
  have O1 := Lib.hid o1
  have F1 := Lib.hid fr1
  have C1 := Lib.hid hc1
  have Z1 := Lib.hid hf1
  clear o1 fr1 hc1 hf1 hb1
  go_loopw [5, 15] (fun _ i wr => ∃ k : Nat, k ≤ v.kids.length ∧ i = .int .i64 k ∧ ∃ u, Hid (Below w1.heap.size ((w1.setCell ⟨w.heap.size + 1 + 1, 3, none⟩ (.slice X1 v.names.length x1)).setCell ⟨w.heap.size + 1 + 1, 4, none⟩ u) wr) ∧ Hid (Gr w1.heap.size wr 31 JValue.enc 5 (v.kids.take k) u)) (fun _ i _ => v.kids.length - (intOf i).toNat)
  case atStart => exact ⟨0, Nat.zero_le _, rfl, _, Below.refl _ _, Gr.nil _ _ _ _ _⟩
  case round =>
    obtain ⟨k, hk, rfl, u, HB, HG⟩ := hrel
    have hbd : Below w.heap.size w wr := (hB1.out u).trans (HB.out.mono (by omega))
    have hszr : w1.heap.size ≤ wr.heap.size := by have := HB.out.size; simpa using this
    have h4 : wr.cell? ⟨w.heap.size + 1 + 1, 4, none⟩ = some u := (HB.out.cell (p := ⟨w.heap.size + 1 + 1, 4, none⟩) hx1).trans (hO4.out u)
    have f4 : wr.frozen? ⟨w.heap.size + 1 + 1, 4, none⟩ = false := (HB.out.frozen (p := ⟨w.heap.size + 1 + 1, 4, none⟩) hx1).trans (hf4.out u)
    by_cases hlt : k < v.kids.length
    · obtain ⟨ad, A3', c3', A4', c4', rfl, y0, y1, y2, y3, y4, gg3, gg4, ll2, nn3, nn4⟩ := JValue.elem (G4.out.below hbd) k hlt
      have GG := Lib.hid (JValue.close_ _ gg3 gg4 ll2)
      clear gg3 gg4
      have HQ := Lib.hid (bulkL_mem (f := JValue.bulk) (xs := v.kids) (n := 1048576) (by have := HBK.out; rw [JValue.bulk_eq] at this; rw [JValue.bulkL_eq]; omega) (List.getElem_mem hlt))
      generalize hbx : Obj.cells #[.int .i64 v.kids[k].sort, .int .i64 v.kids[k].num, .string v.kids[k].text, .slice A3' v.kids[k].names.length c3', .slice A4' v.kids[k].kids.length c4'] 31 = bx
      have hbw : Below wr.heap.size wr ((wr.alloc bx).drew) := (b1 wr bx).drew
      have k4 : ((wr.alloc bx).drew).cell? ⟨w.heap.size + 1 + 1, 4, none⟩ = some u := cell_keep hbw h4
      have p0 : ((wr.alloc bx).drew).cell? ⟨wr.heap.size, 0, none⟩ = some (.int .i64 v.kids[k].sort) := by subst hbx; simp [go_sem]
      have p1 : ((wr.alloc bx).drew).cell? ⟨wr.heap.size, 1, none⟩ = some (.int .i64 v.kids[k].num) := by subst hbx; simp [go_sem]
      have p2 : ((wr.alloc bx).drew).cell? ⟨wr.heap.size, 2, none⟩ = some (.string v.kids[k].text) := by subst hbx; simp [go_sem]
      have p3 : ((wr.alloc bx).drew).cell? ⟨wr.heap.size, 3, none⟩ = some (.slice A3' v.kids[k].names.length c3') := by subst hbx; simp [go_sem]
      have p4 : ((wr.alloc bx).drew).cell? ⟨wr.heap.size, 4, none⟩ = some (.slice A4' v.kids[k].kids.length c4') := by subst hbx; simp [go_sem]
      subst hbx
      go_wp2_with fail
      go_region_law (first | (refine step_push (by rfl) _ _ _ (by rfl) (enc := JValue.enc) (base := w1.heap.size) (wr := wr) (xs := v.kids.take k) v.kids[k] 31 i0 _ 5 80 Try.underlying29 hi hz0 hz1' hz2 (by rfl) (by decide) JValue.enc_len (by rfl) HG.out (bt (bt hbw hb2) (b1 _ _)) hszr ⟨w2.heap.size, 0, none⟩ 1 (by rfl) _ f2 (o2.keep (b1 _ _)) (fr2.lower (by simp)) (box_new (by rfl)) ⟨by rw [List.length_take]; omega, by rw [List.length_take]; omega⟩ ?_; intro A9 c9 w3 hG3 hB3 _ _; have k4c : w3.cell? ⟨w.heap.size + 1 + 1, 4, none⟩ = some u := (hB3.cell (p := ⟨w.heap.size + 1 + 1, 4, none⟩) hx1).trans (cell_keep (b1 _ _) k4b); have f4c : w3.frozen? ⟨w.heap.size + 1 + 1, 4, none⟩ = false := (hB3.frozen (p := ⟨w.heap.size + 1 + 1, 4, none⟩) hx1).trans (((bt (bt hbw hb2) (b1 _ _)).frozen (p := ⟨w.heap.size + 1 + 1, 4, none⟩) (by dsimp only; omega)).trans f4)) | (go_simp; go_at_call 58; refine (HK.out _ (List.getElem_mem hlt) _ _ (GG.out.keep hbw) HQ.out).mono ?_; rintro e w2 ⟨us2, f2, rfl, o2, fr2, hb2⟩; obtain ⟨B3, d3, B4, d4, rfl⟩ := JValue.openO o2; have k4b := cell_keep hb2 k4; have hx2 : w.heap.size + 1 + 1 < w2.heap.size := World.block_lt_of_cell? w2 _ k4b))
      all_goals
        have hB9 : Below w1.heap.size ((w1.setCell ⟨w.heap.size + 1 + 1, 3, none⟩ (.slice X1 v.names.length x1)).setCell ⟨w.heap.size + 1 + 1, 4, none⟩ u) w3 := HB.out.trans (((bt (bt hbw hb2) (b1 _ _)).mono hszr).trans hB3)
        have hB9 := Lib.hid hB9
        have hG9 := Lib.hid hG3
        clear hG3 hB3 hb2 o2 fr2 k4b k4c f4c
        go_wp2
        go_roundw
        case rel => exact ⟨k + 1, by omega, by go_num, _, Below.again hB9.out _, Gr.cast (Gr.set hG9.out hx1 _) (by rw [List.take_succ_eq_append_getElem hlt]) (by congr 1; simp)⟩
        case measure => simp [intOf]; omega
    · have hkk : k = v.kids.length := by omega
      have HG9 := Lib.hid (Gr.cast HG.out (by rw [hkk, List.take_of_length_le (Nat.le_refl _)]) rfl : Gr w1.heap.size wr 31 JValue.enc 5 v.kids u)
      clear hkk
      obtain ⟨Au, cu, rfl⟩ := HG9.out.len
      obtain ⟨hcr, hfr⟩ := bcell (W := (w1.setCell ⟨w.heap.size + 1 + 1, 3, none⟩ (.slice X1 v.names.length x1)).setCell ⟨w.heap.size + 1 + 1, 4, none⟩ (.slice Au v.kids.length cu)) (w1 := wr) (by simpa using HB.out)
      have hc1 := C1.out
      have hf1 := Z1.out
      have hx9 : w.heap.size + 1 + 1 < wr.heap.size := by omega
      go_wp2
      obtain ⟨f2, o2, nd2, ge2⟩ := HG9.out.own JValue.enc_len
      have lt1 : ∀ b, b ∈ f1 → b < w1.heap.size := Own.lt _ _ _ O1.out
      have fr1 : Fresh w f1 := F1.out.lower (by simp; omega)
      have ge1 : ∀ b, b ∈ f1 → w.heap.size + 1 + 1 < b := fun b hm => by have := F1.out.2 b hm; simp at this; omega
      have P1 : Own wr (slD strD 1 v.names) (.slice X1 v.names.length x1) f1 := Own.stay (Own.set (Own.set O1.out (fun hm => by have := ge1 _ hm; dsimp only at this; omega) _) (fun hm => by have := ge1 _ hm; dsimp only at this; omega) _) lt1 HB.out
      refine bodyPost_ret (v := .agg #[.int .i64 v.sort, .int .i64 v.num, .string v.text, .slice X1 v.names.length x1, .slice Au v.kids.length cu]) (by simp [results, Try.results58, go_sem, hcr, hc1, hx1, hy1, hz1, hx9]) rfl ⟨_, f1 ++ (f2 ++ []), rfl, ?_, ?_, ?_⟩
      · rw [JValue.enc_eq]
        exact .int (.int (.str l2 (.cons (by repeat (first | (with_reducible exact P1) | refine Own.set ?_ (fun hm => by have := ge1 _ hm; dsimp only at this; omega) _)) (.cons (by repeat (first | (with_reducible exact o2) | refine Own.set ?_ (fun hm => by have := ge2 _ hm; dsimp only at this; omega) _)) (.nil _)))))
      · rw [List.append_nil]
        exact ⟨List.nodup_append.2 ⟨fr1.1, nd2, fun a ha b hb e => by have := lt1 a ha; have := ge2 b hb; omega⟩, fun b hm => by
          rcases List.mem_append.1 hm with hm | hm
          · exact fr1.2 b hm
          · have := ge2 b hm; omega⟩
      · repeat (first | (with_reducible exact hbd) | refine Below.setCell ?_ (by dsimp only; omega) _)
theorem copied_all : ∀ n, ∀ v : JValue, SizeOf.sizeOf v < n → Copied v
  | 0 => fun _ h => absurd h (by omega)
  | n + 1 => fun v h => copied_of v fun x hx => copied_all n x (by have := JValue.kids_lt v; have := List.sizeOf_lt_of_mem hx; omega)
theorem copied_c (v : JValue) : Copied v := copied_all _ v (Nat.lt_succ_self _)
end Go.Proofs.Ytegabeefggcelaa.Lib
