/- Who knows a field, on both sides. Sizes up to 2^20. -/
import Derived.Test.YtmkagpmdindlpaaGr
import Derived.Test.YtmkagpmdindlpaaSlices
import Derived.Test.YtmkagpmdindlpaaTell
import Derived.Test.YtmkagpmdindlpaaTo
import Derived.Deep.QuietTactic
import Derived.BigQuiet
import Derived.StillTailTactics
import Derived.Deep.RegionHeld3
import Derived.Deep.RegionLaw
import Derived.WalkSpells
import Derived.Deep.DeepCutAuto
set_option linter.unusedVariables false
set_option linter.unusedSimpArgs false
namespace Go.Proofs.Ytmkagpmdindlpaa.Lib
open Go.RowKit

set_option maxRecDepth 100000 in
theorem cloneInt_c (xs : List Int) (A : Option Addr) (c : Nat) (w : World) (hx : Rd w (slD intD 1 xs) (.slice A xs.length c)) (hl : xs.length ≤ 1048576) :
    Calls Try.prog 53 #[.slice A xs.length c] w (Made1 w (slD intD 1 xs)) := by
  obtain ⟨i0, hi, hz0, hz1, hz2⟩ := info_parts info_int
  have HX := Lib.hid hx
  cases A with
  | none =>
    have h0 : xs = [] := by
      cases xs with
      | nil => rfl
      | cons x r => obtain ⟨ad, e, _⟩ := Rd.int_news hx (by simp); cases e
    clear hx
    subst h0
    have hnil : ∀ (w : World), (binOp .eql 29 (.slice none 0 c) (.slice none 0 0)).run Try.prog w = .ok (.bool true) w := fun w => Go.Lib.run_eql_slice_nil w _ _ none 0 c 0 0 Try.underlying29
    go_enter Try.func53, Try.ntmps53
    go_wp2
    go_ret
    exact (Gr.nil w.heap.size w 3 intD 1).made intD_len (Nat.le_refl _) (Below.refl _ _)
  | some ad =>
    clear hx
    have hnil : ∀ (w : World), (binOp .eql 29 (.slice (some ad) xs.length c) (.slice none 0 0)).run Try.prog w = .ok (.bool false) w := fun w => Go.Lib.run_eql_slice_nil w _ _ (some ad) _ c 0 0 Try.underlying29
    go_enter Try.func53, Try.ntmps53
    go_wp2_with (at_builtin; refine wpList_pushes rfl _ _ 29 rfl (enc := intD) (base := w.heap.size) (wr := w.alloc (.cells #[] 3)) (xs := []) xs 3 i0 (.int .i64 0) 1 8 Try.underlying29 hi hz0 hz1 hz2 rfl (by decide) intD_len rfl (Gr.empty w 3 intD 1 (Nat.le_refl _)) (Below.refl _ _) ?c0 (some ad) c rfl (xs.map (Value.int .i64)) [] (ints_row _ xs) (Fresh.nil _) ((HX.out.below (b1 _ _)).int_news) ?c1 ?c2 ?_)
    case c0 => simp
    case c1 => simp only [List.length_nil]; unfold maxLen; omega
    case c2 => simp only [List.length_nil]; omega
    intro A2 c2 w2 hG hB _ _
    go_wp2
    go_ret
    exact hG.made intD_len (Nat.le_refl _) ((b1 _ _).trans hB)

/-- The parts that know a field. -/
noncomputable def ownerR (c : JChart) (name field : ByteArray) : List Int := ((c.owners.find? (fun o => tf (o.typ = name ∧ o.field = field))).map JOwner.parts).getD []
theorem ownerR_no {c : JChart} {name field : ByteArray} (h : ∀ j (hj : j < c.owners.length), ¬ (c.owners[j].typ = name ∧ c.owners[j].field = field)) : ownerR c name field = [] := by
  unfold ownerR; rw [find_no h]; rfl
theorem ownerR_yes {c : JChart} {name field : ByteArray} {k : Nat} (hk : k < c.owners.length) (h : c.owners[k].typ = name ∧ c.owners[k].field = field) (hn : ∀ j (hj : j < c.owners.length), j < k → ¬ (c.owners[j].typ = name ∧ c.owners[j].field = field)) : ownerR c name field = c.owners[k].parts := by
  unfold ownerR; rw [find_yes (p := fun o : JOwner => o.typ = name ∧ o.field = field) hk h hn]; rfl
theorem JOwner.len_k {xs : List JOwner} (k : Nat) (hk : k < xs.length) : xs[k].parts.length ≤ JOwner.bulks xs := by
  have h3 := JOwner.bulks_take xs k hk
  have h4 := JOwner.bulks_le xs (k + 1)
  rw [JOwner.bulk_eq] at h3
  omega
theorem ownerR_len {c : JChart} {name field : ByteArray} (hb : JChart.bulk c ≤ 1048576) : (ownerR c name field).length ≤ 8 * 1048576 := by
  unfold ownerR
  cases h : c.owners.find? (fun o => tf (o.typ = name ∧ o.field = field)) with
  | none => simp
  | some o =>
    obtain ⟨k, hk, rfl⟩ := List.getElem_of_mem (List.mem_of_find?_eq_some h)
    have := JOwner.len_k k hk
    rw [JChart.bulk_eq] at hb
    simp only [Option.map_some, Option.getD_some]
    omega

theorem live_co1 : Live 52 := live_of Try.func52 (by kernel_rfl) (by kernel_rfl)
theorem co1_c (name field : ByteArray) (g g2 : Nat) (x : JOwner) (cs : List Value) (w : World) (hc : w.cell? ⟨g, 0, none⟩ = some (.string name)) (hd : w.cell? ⟨g2, 0, none⟩ = some (.string field)) (hx : RdL w x.enc cs) :
    Calls Try.prog 52 #[.agg cs.toArray, .pointer (some ⟨g, 0, none⟩), .pointer (some ⟨g2, 0, none⟩)] w (Ret w (.bool (tf (x.typ = name ∧ x.field = field)))) := by
  obtain ⟨A2, c2, rfl, q2, l0, l1, l2⟩ := JOwner.open_ hx
  clear hx q2
  have hgl := World.block_lt_of_cell? w _ hc
  have hgl2 := World.block_lt_of_cell? w _ hd
  by_cases h : x.typ = name
  · have t1 := str_t h
    replace h := Lib.hid h
    by_cases h2 : x.field = field
    · have t2 := str_t h2
      replace h2 := Lib.hid h2
      go_enter Try.func52, Try.ntmps52
      go_wp2
      go_ret
      exact Ret.t ⟨h.out, h2.out⟩ (b1 _ _)
    · have t2 := str_f h2
      replace h2 := Lib.hid h2
      go_enter Try.func52, Try.ntmps52
      go_wp2
      go_ret
      exact Ret.f (fun k => h2.out k.2) (b1 _ _)
  · have t1 := str_f h
    replace h := Lib.hid h
    go_enter Try.func52, Try.ntmps52
    go_wp2
    go_ret
    exact Ret.f (fun k => h.out k.1) (b1 _ _)

set_option maxRecDepth 100000 in
set_option maxHeartbeats 4000000 in
theorem implChartOwner_c (c : JChart) (cs : List Value) (name field : ByteArray) (w : World) (hx : RdL w c.enc cs) (hb : JChart.bulk c ≤ 1048576) :
    Calls Try.prog 16 #[.agg cs.toArray, .string name, .string field] w (Made1 w (slD intD 1 (ownerR c name field))) := by
  have hmf : ∀ (fn : Fn) (first cap : Array Value) (w : World), (Instr.makeFunc fn first cap).run Try.prog w = .ok (.func fn first cap) w := fun _ _ _ _ => rfl
  obtain ⟨A1, c1, A2, c2, rfl, q1, q2, l0, n1, n2⟩ := JChart.open_ hx
  have HC := Lib.hid (fun (W : World) (hb : Below w.heap.size w W) (hg : W.cell? ⟨w.heap.size + 1, 0, none⟩ = some (.string name)) (hd : W.cell? ⟨w.heap.size + 1 + 1, 0, none⟩ = some (.string field)) => indexFuncOwner_c c.owners A2 c2 (fun x => x.typ = name ∧ x.field = field) 52 #[.pointer (some ⟨w.heap.size + 1, 0, none⟩), .pointer (some ⟨w.heap.size + 1 + 1, 0, none⟩)] W (q2.below hb) ⟨live_co1, fun x us W2 h1 h2 => co1_c name field _ _ x us W2 (cell_keep h2 hg) (cell_keep h2 hd) h1⟩)
  have G2 := Lib.hid q2
  have HL := Lib.hid (fun k (hk : k < c.owners.length) => (by have := JOwner.len_k k hk; rw [JChart.bulk_eq] at hb; omega : c.owners[k].parts.length ≤ 1048576))
  clear hx q1 q2 hb
  go_enter Try.func16, Try.ntmps16
  go_wp2_with fail
  refine (HC.out _ (bt (bt (b1 _ _) (b1 _ _)) (b1 _ _)) (by simp [go_sem]) (by simp [go_sem])).mono ?_
  intro e w2 hr
  obtain ⟨i, ⟨rfl, hb2⟩, hf⟩ := hr
  have v1 : w2.cell? ⟨w.heap.size, 1, none⟩ = some (.slice A1 c.all.types.length c1) := cell_keep hb2 (by simp [go_sem])
  have v2 : w2.cell? ⟨w.heap.size, 2, none⟩ = some (.slice A2 c.owners.length c2) := cell_keep hb2 (by simp [go_sem])
  have hB2 := bt (bt (bt (b1 _ _) (b1 _ _)) (b1 _ _)) hb2
  clear hb2
  rcases hf with ⟨rfl, hn⟩ | ⟨k, rfl, hk, hp, hn⟩
  · have hv := ownerR_no hn
    replace hv := Lib.hid hv
    clear hn
    go_wp2
    go_ret
    rw [hv.out]
    exact (Gr.nil w.heap.size _ 3 intD 1).made intD_len (Nat.le_refl _) hB2
  · have hv := ownerR_yes hk hp hn
    replace hv := Lib.hid hv
    clear hn hp
    obtain ⟨ad2, A3, c3, rfl, y0, y1, y2, g3, m0, m1, m2⟩ := JOwner.elem G2.out k hk
    have hl := HL.out k hk
    have hl := Lib.hid hl
    replace y2 := cell_keep hB2 y2
    have HK := Lib.hid (g3.below hB2)
    clear y0 y1 g3
    have hkI : (k : Int) < c.owners.length := by omega
    go_wp2_with fail
    refine (cloneInt_c _ _ _ _ HK.out hl.out).mono ?_
    rintro e w3 ⟨v3, f3, rfl, o3, fr3, hb3⟩
    replace o3 := Lib.hid o3
    replace fr3 := Lib.hid fr3
    go_wp2
    go_ret
    rw [hv.out]
    exact ⟨_, _, rfl, o3.out, fr3.out.lower hB2.size, bt hB2 hb3⟩

set_option maxRecDepth 100000 in
set_option maxHeartbeats 4000000 in
theorem specChartOwner_c (c : JChart) (cs : List Value) (name field : ByteArray) (w : World) (hx : RdL w c.enc cs) (hb : JChart.bulk c ≤ 1048576) :
    Calls Try.prog 14 #[.agg cs.toArray, .string name, .string field] w (Made1 w (slD intD 1 (ownerR c name field))) := by
  obtain ⟨i0, hi, hz0, hz1', hz2⟩ := info_parts info_int
  obtain ⟨A1, c1, A2, c2, rfl, q1, q2, l0, n1, n2⟩ := JChart.open_ hx
  have G2 := Lib.hid (q2.below (b1 w (.cells #[.string c.all.name, .slice A1 c.all.types.length c1, .slice A2 c.owners.length c2] 36)))
  have HL := Lib.hid (fun k (hk : k < c.owners.length) => (by have := JOwner.len_k k hk; rw [JChart.bulk_eq] at hb; omega : c.owners[k].parts.length ≤ 1048576))
  clear hx q1 q2 hb
  have hB1 := Lib.hid (b1 w (.cells #[.string c.all.name, .slice A1 c.all.types.length c1, .slice A2 c.owners.length c2] 36))
  go_enter Try.func14, Try.ntmps14
  go_wp2
  go_loopw [6, 7] (fun _ i wr => ∃ k : Nat, k ≤ c.owners.length ∧ i = .int .i64 k ∧ Hid (Below ((w.alloc (.cells #[.string c.all.name, .slice A1 c.all.types.length c1, .slice A2 c.owners.length c2] 36))).heap.size (w.alloc (.cells #[.string c.all.name, .slice A1 c.all.types.length c1, .slice A2 c.owners.length c2] 36)) wr) ∧ Hid (∀ j (h : j < c.owners.length), j < k → ¬ (c.owners[j].typ = name ∧ c.owners[j].field = field))) (fun _ i _ => c.owners.length - (intOf i).toNat)
  case atStart => exact ⟨0, Nat.zero_le _, rfl, Below.refl _ _, fun j h hj => absurd hj (by omega)⟩
  case round =>
    obtain ⟨k, hk, rfl, HB, HA⟩ := hrel
    have v2 : wr.cell? ⟨w.heap.size, 2, none⟩ = some (.slice A2 c.owners.length c2) := cell_keep HB.out (by simp [go_sem])
    by_cases hlt : k < c.owners.length
    · obtain ⟨ad, A3, c3, rfl, y0, y1, y2, g3, m0, m1, _⟩ := JOwner.elem (G2.out.below HB.out) k hlt
      have hiI : (k : Int) < c.owners.length := by omega
      have HN := Lib.hid (fun W (h : Below wr.heap.size wr W) => (g3.below h).int_news)
      clear g3
      by_cases h1 : c.owners[k].typ = name ∧ c.owners[k].field = field
      case neg =>
        replace h1 := Lib.hid h1
        have hr : Hid (∀ j (h : j < c.owners.length), j < k + 1 → ¬ (c.owners[j].typ = name ∧ c.owners[j].field = field)) := Lib.hid (fun j h hj => by
            by_cases e : j = k
            · subst e; exact h1.out
            · exact HA.out j h (by omega))
        by_cases h2 : c.owners[k].typ = name
        · have t1 := str_t h2
          have t2 := str_f (fun h => h1.out ⟨h2, h⟩)
          go_wp2
          go_roundw
          case rel => exact ⟨k + 1, by omega, by go_num, HB, hr⟩
          case measure => simp [intOf]; omega
        · have t1 := str_f h2
          go_wp2
          go_roundw
          case rel => exact ⟨k + 1, by omega, by go_num, HB, hr⟩
          case measure => simp [intOf]; omega
      have t1 := str_t h1.1
      have t2 := str_t h1.2
      have hv := ownerR_yes hlt h1 HA.out
      replace hv := Lib.hid hv
      replace h1 := Lib.hid h1
      have hl := HL.out k hlt
      have hl3a : List.length ([] : List Int) + c.owners[k].parts.length ≤ maxLen := by simp only [List.length_nil]; unfold maxLen; omega
      have hl3b : (List.length ([] : List Int) + c.owners[k].parts.length) * 8 ≤ 140737488355328 := by simp only [List.length_nil]; omega
      replace hl3a := Lib.hid hl3a
      replace hl3b := Lib.hid hl3b
      replace hl := Lib.hid hl
      have hE := Lib.hid (Gr.empty (base := wr.heap.size) wr 3 intD 1 (Nat.le_refl _))
      have hz1 := World.block_lt_of_cell? wr _ v2
      have hz2' := World.block_lt_of_cell? wr _ y2
      go_wp2_with (at_builtin; refine wpList_pushes rfl _ _ 29 rfl (enc := intD) (base := wr.heap.size) (wr := wr.alloc (.cells #[] 3)) (xs := []) c.owners[k].parts 3 i0 (.int .i64 0) 1 8 Try.underlying29 hi hz0 hz1' hz2 rfl (by decide) intD_len rfl hE.out (Below.refl _ _) (b1 _ _).size A3 c3 rfl (c.owners[k].parts.map (Value.int .i64)) [] (ints_row _ _) (Fresh.nil _) (HN.out _ (b1 _ _)) hl3a.out hl3b.out ?_)
      intro X1 x1 w3 hG3 hb3 hg3 hH3
      have hP := bt hB1.out (bt HB.out ((b1 _ _).trans hb3))
      replace hP := Lib.hid hP
      replace hG3 := Lib.hid hG3
      clear hb3 hg3 hH3
      go_wp2
      go_ret
      rw [hv.out]
      exact (hG3.out.low (bt hB1.out HB.out).size).made intD_len (Nat.le_refl _) hP.out
    · go_wp2
      go_ret
      rw [ownerR_no (fun j h => HA.out j h (by omega))]
      exact ((Gr.empty wr 3 intD 1 (Nat.le_refl _)).low (bt hB1.out HB.out).size).made intD_len (Nat.le_refl _) (bt (bt hB1.out HB.out) (b1 _ _))
end Go.Proofs.Ytmkagpmdindlpaa.Lib
