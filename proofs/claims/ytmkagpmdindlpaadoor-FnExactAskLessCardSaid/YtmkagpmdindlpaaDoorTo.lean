/- Contracts of the laws' copying functions: the same value, in new memory through and through. Printed by gto.py. Lists' sizes as far as memory goes. -/
import Derived.Test.YtmkagpmdindlpaaDoorProg
import Derived.Test.YtmkagpmdindlpaaDoorBulk
import Derived.Test.YtmkagpmdindlpaaDoorOwnLib
set_option linter.unusedVariables false
set_option linter.unusedSimpArgs false
namespace Go.Proofs.YtmkagpmdindlpaaDoor.Lib
open Go.RowKit

theorem info_str : (Tryd.prog.info? 9).map (fun i => (i.zero, i.size, i.bytes)) = some (some (.string ⟨#[]⟩), 1, 16) := by kernel_rfl
theorem zero_str (w : World) : OwnRow w [.str ⟨#[]⟩] (#[.string ⟨#[]⟩] : Array Value).toList [] := .str (by decide) (.nil w)
def ToSel (v : JSel) : Prop := ∀ (cs : List Value) (w : World), RdL w v.enc cs → JSel.bulk v ≤ 1048576 →
    Calls Tryd.prog 19 #[.agg cs.toArray] w (Made w v.enc)
theorem JSel.openO {w : World} {v : JSel} {cs : List Value} {fp : List Nat} (h : OwnRow w v.enc cs fp) : ∃ A4 c4, cs = [.string v.as_, .string v.name, .bool v.one, .int .i64 v.id, .slice A4 v.kids.length c4] := by
  obtain ⟨A4, c4, rfl, _⟩ := JSel.open_ (OwnRow.rdl h)
  exact ⟨A4, c4, rfl⟩
def ToSelS (xs : List JSel) : Prop := ∀ (A : Option Addr) (c : Nat) (w : World), Rd w (slD JSel.enc 5 xs) (.slice A xs.length c) → bulkL (JSel.bulk) xs ≤ 1048576 →
    Calls Tryd.prog 7 #[.slice A xs.length c] w (Made1 w (slD JSel.enc 5 xs))
set_option maxHeartbeats 3200000 in
theorem toSel_of (v : JSel) (hK : ToSelS v.kids) : ToSel v := by
  intro cs w hcs hbk
  rw [JSel.bulk_eq] at hbk
  obtain ⟨A4, c4, rfl, g4, l0, l1, _n4⟩ := JSel.open_ hcs
  have G4 := Lib.hid g4
  clear g4
  have HK := Lib.hid hK
  clear hK
  clear hcs
  have HBK := Lib.hid hbk
  clear hbk
  go_enter Tryd.func19, Tryd.ntmps19
  go_wp2_with fail
  refine (HK.out _ _ _ (G4.out.below (bt (bt (b1 _ _) (b1 _ _)) (b1 _ _))) (by have := HBK.out; rw [JSel.bulkL_eq]; omega)).mono ?_
  rintro e w1 ⟨us1, f1, rfl, o1, fr1, hb1⟩
  obtain ⟨X1, x1, rfl⟩ := Own.slD o1
  obtain ⟨hc1, hf1⟩ := bcell hb1
  have hs1 := hb1.size
  simp only [World.size_setCell, World.size_alloc] at hs1
  have hx1 : w.heap.size + 1 + 1 < w1.heap.size := by omega
  have hy1 : w.heap.size + 1 < w1.heap.size := by omega
  have hz1 : w.heap.size < w1.heap.size := by omega
  have hB1 : Below w.heap.size w w1 := bt (bt (bt (b1 _ _) (b1 _ _)) (b1 _ _)) hb1
  have O1 := Lib.hid o1
  clear o1
  have hq1 : ∀ b, b ≤ w.heap.size + 1 + 1 → b ∉ f1 := fun b hb => fr1.not (by simp only [World.size_setCell, World.size_alloc]; omega)
  have hfl1 : ∀ b, b ∈ f1 → b < w1.heap.size := Own.lt _ _ _ O1.out
  go_wp2
  refine bodyPost_ret (v := .agg #[.string v.as_, .string v.name, .bool v.one, .int .i64 v.id, .slice X1 v.kids.length x1]) (by simp [results, Tryd.results19, go_sem, hc1, hx1, hy1, hz1]) rfl ⟨_, f1 ++ ([]), rfl, ?_, ?_, ?_⟩
  · rw [JSel.enc_eq]
    exact .str l0 (.str l1 (.bool (.int (.cons (by repeat (first | (with_reducible exact O1.out) | refine Own.set ?_ (hq1 _ (by dsimp only; omega)) _)) (.nil _)))))
  · exact (Fresh.lower (Fresh.app1 fr1) (by first | (simp only [World.size_setCell, World.size_alloc]; omega) | omega))
  · repeat (first | (with_reducible exact hB1) | refine Below.setCell ?_ (by dsimp only; omega) _)
theorem info_Sel : (Tryd.prog.info? 42).map (fun i => (i.zero, i.size, i.bytes)) = some (some (.agg #[.string ⟨#[]⟩, .string ⟨#[]⟩, .bool false, .int .i64 0, .slice none 0 0]), 5, 72) := by kernel_rfl
theorem zero_Sel (w : World) : OwnRow w [.str ⟨#[]⟩, .str ⟨#[]⟩, .bool false, .int .i64 0, .sl 5 0 []] (#[.string ⟨#[]⟩, .string ⟨#[]⟩, .bool false, .int .i64 0, .slice none 0 0] : Array Value).toList [] := .str (by decide) (.str (by decide) (.bool (.int (.cons (f1 := []) (by simp [Own]) (.nil w)))))
set_option maxHeartbeats 1600000 in
theorem toSelS_of (xs : List JSel) (hE : ∀ x, x ∈ xs → ToSel x) : ToSelS xs := by
  intro A c w hx hbk
  have hl : xs.length ≤ 1048576 := by unfold bulkL at hbk; omega
  have HE := Lib.hid hE
  have HK := Lib.hid hbk
  clear hE hbk
  obtain ⟨i0, hi, hz0, hz1, hz2⟩ := info_parts info_Sel
  have HX := Lib.hid hx
  clear hx
  go_enter Tryd.func7, Tryd.ntmps7
  go_wp2_with (at_make; refine wpList_make_full _ rfl (.tmp 6) (.tmp 6) 24 rfl w.heap.size 42 i0 (.agg #[.string ⟨#[]⟩, .string ⟨#[]⟩, .bool false, .int .i64 0, .slice none 0 0]) 5 Tryd.underlying24 hi hz0 hz1 .i64 .i64 _ _ xs.length rfl rfl rfl rfl ?hb2 ?hb3 ?hb4 ?_)
  case hb2 => rw [hz2]; omega
  case hb3 => unfold maxLen; omega
  case hb4 => exact Nat.le_refl _
  intro w1 ho hg
  obtain ⟨cur, hblk, hcur, hsz⟩ := made_block ho
  have hB1 : Below w.heap.size w w1 := (Below.refl _ _).grown hg (Nat.le_refl _) (fun k h => by cases h)
  have K1 := Lib.hid (half_start (enc := JSel.enc) (sz := 5) (z := [.str ⟨#[]⟩, .str ⟨#[]⟩, .bool false, .int .i64 0, .sl 5 0 []]) (zc := #[.string ⟨#[]⟩, .string ⟨#[]⟩, .bool false, .int .i64 0, .slice none 0 0]) xs hblk (by simpa using hcur) hsz rfl (by decide) (by unfold maxLen; omega) zero_Sel)
  have hw1 := K1.out.lt
  clear ho hg hcur hsz hblk
  go_wp2
  go_loopw [4] (fun i wr => ∃ k : Nat, k ≤ xs.length ∧ i = .int .i64 k ∧ Hid (Half wr JSel.enc 5 [.str ⟨#[]⟩, .str ⟨#[]⟩, .bool false, .int .i64 0, .sl 5 0 []] xs k w.heap.size) ∧ Below w.heap.size w wr ∧ w.heap.size < wr.heap.size) (fun i _ => xs.length - (intOf i).toNat)
  case atStart => exact ⟨0, Nat.zero_le _, rfl, K1.out, hB1, hw1⟩
  case round =>
    obtain ⟨k, hk, rfl, HH, hb, hlt0⟩ := hrel
    by_cases hlt : k < xs.length
    · obtain ⟨ad, A4, c4, rfl, hx0, hx1, hx2, hx3, hx4, g4, l0, l1, _n4⟩ := JSel.elem (HX.out.below hb) k hlt
      have HM := Lib.hid (HE.out xs[k] (List.getElem_mem hlt))
      have HQ := Lib.hid (bulkL_mem HK.out (List.getElem_mem hlt))
      have G4 := Lib.hid g4
      clear g4
      go_wp2_with fail
      refine (HM.out _ _ (JSel.close_ _ G4.out l0 l1) HQ.out).mono ?_
      rintro e w2 ⟨us, f2, rfl, o2, fr2, hb2⟩
      obtain ⟨B4, d4, rfl⟩ := JSel.openO o2
      have O2 := Lib.hid o2
      clear o2
      have hs2 : w.heap.size < w2.heap.size := by have := hb2.size; omega
      obtain ⟨hc2, hf2⟩ := bcell hb2
      obtain ⟨y0, q0⟩ := HH.out.cell (k * 5) (by omega)
      obtain ⟨y1, q1⟩ := HH.out.cell (k * 5 + 1) (by omega)
      obtain ⟨y2, q2⟩ := HH.out.cell (k * 5 + 2) (by omega)
      obtain ⟨y3, q3⟩ := HH.out.cell (k * 5 + 3) (by omega)
      obtain ⟨y4, q4⟩ := HH.out.cell (k * 5 + 4) (by omega)
      have qf := HH.out.free
      go_wp2
      go_roundw
      case rel =>
        have hst := Half.step HH.out rfl JSel.enc_len hlt hb2 O2.out fr2
        simp only [putAll] at hst
        exact ⟨k + 1, by omega, by go_num, hst, by repeat (first | (with_reducible exact bt hb hb2) | refine Below.setCell ?_ (by dsimp only; omega) _), by simp only [World.size_setCell]; exact hs2⟩
      case measure => simp [intOf]; omega
    · have hkk : k = xs.length := by omega
      have HF := Lib.hid (show Half wr JSel.enc 5 [.str ⟨#[]⟩, .str ⟨#[]⟩, .bool false, .int .i64 0, .sl 5 0 []] xs xs.length w.heap.size by rw [← hkk]; exact HH.out)
      clear hkk
      go_wp2
      go_ret
      exact Half.done HF.out (Nat.le_refl _) hb

theorem toSel_both : ∀ n, (∀ v : JSel, SizeOf.sizeOf v < n → ToSel v) ∧ (∀ xs : List JSel, SizeOf.sizeOf xs < n → ToSelS xs)
  | 0 => ⟨fun _ h => absurd h (by omega), fun _ h => absurd h (by omega)⟩
  | n + 1 => by
    have ih := toSel_both n
    refine ⟨fun v h => toSel_of v (ih.2 _ (by have := JSel.kids_lt v; omega)), fun xs h => toSelS_of xs (fun x hx => ih.1 x (by have := List.sizeOf_lt_of_mem hx; omega))⟩
theorem toSel_c (v : JSel) : ToSel v := (toSel_both _).1 v (Nat.lt_succ_self _)
theorem toSelS_c (xs : List JSel) : ToSelS xs := (toSel_both _).2 xs (Nat.lt_succ_self _)

end Go.Proofs.YtmkagpmdindlpaaDoor.Lib
