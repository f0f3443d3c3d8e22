/- The text of a field on the program's side: line. Fields of 2^20 at most. -/
import Derived.Test.YtmkagpmdindlpaaPartK
import Derived.Test.YtmkagpmdindlpaaShelf
set_option linter.unusedVariables false
set_option linter.unusedSimpArgs false
namespace Go.Proofs.Ytmkagpmdindlpaa.Lib
open Go.RowKit

def joinSp : List ByteArray → ByteArray
  | [] => ⟨#[]⟩
  | x :: r => x ++ sepT r
theorem sepT_join {xs : List ByteArray} (h : xs ≠ []) : sepT xs = (⟨#[32]⟩ : ByteArray) ++ joinSp xs := by
  cases xs with
  | nil => exact absurd rfl h
  | cons x r => simp only [sepT, joinSp, ByteArray.append_assoc]
def spB : ByteArray := ⟨#[32]⟩
theorem sepT_tail (xs : List ByteArray) : (sepT xs).data.toList = Go.Lib.joinTail spB.data.toList (xs.map (·.data.toList)) := by
  induction xs with
  | nil => rfl
  | cons x r ih =>
    simp only [sepT, ByteArray.data_append, Array.toList_append, ih, List.map_cons, Go.Lib.joinTail, List.flatten_cons]
    rfl
theorem joinSp_join (xs : List ByteArray) : (⟨(Go.Lib.join (xs.map (·.data.toList)) spB.data.toList).toArray⟩ : ByteArray) = joinSp xs := by
  cases xs with
  | nil => rfl
  | cons x r =>
    rw [List.map_cons, Go.Lib.join_cons]
    rw [← sepT_tail]
    show (⟨(x.data.toList ++ (sepT r).data.toList).toArray⟩ : ByteArray) = x ++ sepT r
    rw [← Array.toList_append, Array.toArray_toList, ← ByteArray.data_append]
theorem joinSp_size (xs : List ByteArray) : (joinSp xs).size ≤ strsBulk xs := by
  cases xs with
  | nil => exact Nat.zero_le _
  | cons x r =>
    have h := sepT_size (x :: r)
    rw [sepT_join (by simp)] at h
    rw [ByteArray.size_append] at h
    omega
/-- strings.Join of texts that are read, with a blank between. -/
theorem joinSp_c (xs : List ByteArray) (A : Option Addr) (c : Nat) (w : World) (hr : Rd w (slD strD 1 xs) (.slice A xs.length c)) (hz : strsBulk xs ≤ 1048576) :
    Calls Try.prog 131 #[.slice A xs.length c, .string ⟨#[32]⟩] w (Ret w (.string (joinSp xs))) := by
  by_cases h0 : xs = []
  · subst h0
    exact (Try.strings_Join_none A c _ w).mono fun e w' ⟨he, hw⟩ => ⟨by rw [he]; rfl, by first | (rw [hw]; exact Below.refl _ _) | (rw [← hw]; exact Below.refl _ _)⟩
  · have hp : 0 < xs.length := List.length_pos_iff.2 h0
    obtain ⟨_, _, e_, hc, _, _⟩ := Rd.slice hr
    injection e_ with ea en ec
    subst ec
    obtain ⟨ad, e2, hcell, _⟩ := Rd.elem_str hr 0 hp
    subst e2
    obtain ⟨b, o, sp⟩ := ad
    have hsp : sp = none := by
      cases sp with
      | none => rfl
      | some s =>
        exfalso
        simp [Addr.add, World.cell?] at hcell
        split at hcell <;> simp at hcell
    subst hsp
    have hgl : b < w.heap.size := by
      have := World.block_lt_of_cell? w _ hcell
      simpa [Addr.add] using this
    have hcells : ∀ (j : Nat) x, xs[j]? = some x → w.cell? ⟨b, o + j, none⟩ = some (.string x) := by
      intro j x hj
      obtain ⟨hjl, rfl⟩ := List.getElem?_eq_some_iff.1 hj
      obtain ⟨ad3, e3, hc3, _⟩ := Rd.elem_str hr j hjl
      injection e3 with e3
      subst e3
      by_cases hj0 : j = 0
      · subst hj0; simpa [Addr.add] using hc3
      · simpa [Addr.add, hj0] using hc3
    have hl : xs.length ≤ strsBulk xs := Nat.le_add_right _ _
    have hjl : (Go.Lib.join (xs.map (·.data.toList)) spB.data.toList).length ≤ 140737488355328 := by
      have e : (Go.Lib.join (xs.map (·.data.toList)) spB.data.toList).length = (joinSp xs).size := by
        rw [← joinSp_join]; simp [ByteArray.size]
      have := joinSp_size xs
      omega
    exact (Try.strings_Join b o _ xs spB w hcells hgl (by omega) hc hjl).mono fun e w' ⟨he, hb⟩ => ⟨by rw [he, joinSp_join], hb⟩

/-- A field's text behind its first marks. -/
def mkK (f : JField) : Nat → ByteArray
  | 0 => headT f
  | 1 => markT (headT f) f.far farB
  | 2 => markT (markT (headT f) f.far farB) f.hidden hiddenB
  | _ => marksT f
set_option maxRecDepth 100000 in
set_option maxHeartbeats 8000000 in
theorem line_c (f : JField) (cs : List Value) (w : World) (hx : RdL w f.enc cs) (hb : f.bulk ≤ 1048576) : Calls Try.prog 105 #[.agg cs.toArray] w (Ret w (.string (lineT f))) := by
  have hx' := hx
  obtain ⟨A7, c7, rfl, g7, l0, l1, n7⟩ := JField.open_ hx
  have hbk := JField.bulk_eq f
  have z4 := needT_size f
  have y3 := ofT1_size f
  have y4 := ofT2_size f
  have y5 := headT_size f
  have e1 : farB.size = 4 := rfl
  have e2 : hiddenB.size = 7 := rfl
  have y6 := markT_size (headT f) f.far farB
  have y7 := markT_size (markT (headT f) f.far farB) f.hidden hiddenB
  have y8 := marksT_size f
  replace y3 : (ofT1 f).size ≤ 1048700 := by omega
  replace y4 : (ofT2 f).size ≤ 1048700 := by omega
  replace y5 : (headT f).size ≤ 1048700 := by omega
  replace y6 : (markT (headT f) f.far farB).size ≤ 1048800 := by omega
  replace y7 : (markT (markT (headT f) f.far farB) f.hidden hiddenB).size ≤ 1048900 := by omega
  replace y8 : (marksT f).size ≤ 1048700 := by omega
  have y1 : f.name.size ≤ 1048700 := by omega
  have y2 : f.of.size ≤ 1048700 := by omega
  have zk : ∀ k, (mkK f k).size ≤ 1048900 := fun k => by
    unfold mkK
    split <;> omega
  have HJ := Lib.hid (fun W (h : Below w.heap.size w W) => joinSp_c f.needs A7 c7 W (g7.below h) (by omega))
  have zj : (joinSp f.needs).size ≤ 1048576 := by have := joinSp_size f.needs; omega
  have HN := Lib.hid (fun W (h : Below w.heap.size w W) => needy_c f _ W (hx'.keep h))
  clear hx hx'
  obtain ⟨name, of_, list, must, far, hidden, shared, needs⟩ := f
  dsimp only at g7 l0 l1 n7 hbk z4 zk HJ zj HN y1 y2 y3 y4 y5 y6 y7 y8 ⊢
  have HG := Lib.hid g7
  clear g7
  go_enter Try.func105, Try.ntmps105
  go_upto_if 9 with fail
  go_cut [3] (fun s wx => s = .string (ofT1 (⟨name, of_, list, must, far, hidden, shared, needs⟩ : JField)) ∧ wx = w.alloc (.cells #[.string name, .string of_, .bool list, .bool must, .bool far, .bool hidden, .bool shared, .slice A7 needs.length c7] 59))
  case first =>
    cases list <;> (go_wp2; go_meet; exact ⟨rfl, rfl⟩)
  case rest =>
    obtain ⟨rfl, rfl⟩ := hcut
    go_upto_if 14 with fail
    go_cut [3] (fun s wx => s = .string (ofT2 (⟨name, of_, list, must, far, hidden, shared, needs⟩ : JField)) ∧ wx = w.alloc (.cells #[.string name, .string of_, .bool list, .bool must, .bool far, .bool hidden, .bool shared, .slice A7 needs.length c7] 59))
    case first =>
      cases must <;> (go_wp2; go_meet; exact ⟨rfl, rfl⟩)
    case rest =>
      obtain ⟨rfl, rfl⟩ := hcut
      go_wp2
      go_loopw [3, 4, 5, 31] (fun s _ _ i wr => ∃ k : Nat, k ≤ 3 ∧ i = .int .i64 k ∧ s = .string (mkK (⟨name, of_, list, must, far, hidden, shared, needs⟩ : JField) k) ∧ Hid (Below ((w.alloc (.cells #[.string name, .string of_, .bool list, .bool must, .bool far, .bool hidden, .bool shared, .slice A7 needs.length c7] 59)).alloc (.cells #[.bool far, .bool hidden, .bool shared] 4)).heap.size ((w.alloc (.cells #[.string name, .string of_, .bool list, .bool must, .bool far, .bool hidden, .bool shared, .slice A7 needs.length c7] 59)).alloc (.cells #[.bool far, .bool hidden, .bool shared] 4)) wr)) (fun _ _ _ i _ => 3 - (intOf i).toNat)
      case atStart => exact ⟨0, by omega, rfl, rfl, Below.refl _ _⟩
      case round =>
        obtain ⟨k, hk, rfl, rfl, HB⟩ := hrel
        have hzr : w.heap.size + 1 < wr.heap.size := by have := (HB.out).size; (try simp at this); omega
        have zk' := zk k
        obtain rfl | rfl | rfl | rfl : k = 0 ∨ k = 1 ∨ k = 2 ∨ k = 3 := by omega
        · obtain ⟨b, hcb, HQ⟩ : ∃ b, wr.cell? ⟨w.heap.size + 1, 0, none⟩ = some (.bool b) ∧ Hid (b = far) := ⟨far, cell_keep HB.out (by simp [go_sem]), rfl⟩
          cases b <;>
          · go_wp2
            go_roundw
            case rel => exact ⟨1, by omega, by go_num, congrArg Value.string (by have := HQ.out; subst this; rfl), by first | exact HB | exact Lib.hid (bt HB.out (b1 _ _))⟩
            case measure => simp [intOf]
        · obtain ⟨b, hcb, HQ⟩ : ∃ b, wr.cell? ⟨w.heap.size + 1, 1, none⟩ = some (.bool b) ∧ Hid (b = hidden) := ⟨hidden, cell_keep HB.out (by simp [go_sem]), rfl⟩
          cases b <;>
          · go_wp2
            go_roundw
            case rel => exact ⟨2, by omega, by go_num, congrArg Value.string (by have := HQ.out; subst this; rfl), by first | exact HB | exact Lib.hid (bt HB.out (b1 _ _))⟩
            case measure => simp [intOf]
        · obtain ⟨b, hcb, HQ⟩ : ∃ b, wr.cell? ⟨w.heap.size + 1, 2, none⟩ = some (.bool b) ∧ Hid (b = shared) := ⟨shared, cell_keep HB.out (by simp [go_sem]), rfl⟩
          cases b <;>
          · go_wp2
            go_roundw
            case rel => exact ⟨3, by omega, by go_num, congrArg Value.string (by have := HQ.out; subst this; rfl), by first | exact HB | exact Lib.hid (bt HB.out (b1 _ _))⟩
            case measure => simp [intOf]
        · have v0 : wr.cell? ⟨w.heap.size, 0, none⟩ = some (.string name) := cell_keep HB.out (by simp [go_sem])
          have v1 : wr.cell? ⟨w.heap.size, 1, none⟩ = some (.string of_) := cell_keep HB.out (by simp [go_sem])
          have v2 : wr.cell? ⟨w.heap.size, 2, none⟩ = some (.bool list) := cell_keep HB.out (by simp [go_sem])
          have v3 : wr.cell? ⟨w.heap.size, 3, none⟩ = some (.bool must) := cell_keep HB.out (by simp [go_sem])
          have v4 : wr.cell? ⟨w.heap.size, 4, none⟩ = some (.bool far) := cell_keep HB.out (by simp [go_sem])
          have v5 : wr.cell? ⟨w.heap.size, 5, none⟩ = some (.bool hidden) := cell_keep HB.out (by simp [go_sem])
          have v6 : wr.cell? ⟨w.heap.size, 6, none⟩ = some (.bool shared) := cell_keep HB.out (by simp [go_sem])
          have v7 : wr.cell? ⟨w.heap.size, 7, none⟩ = some (.slice A7 needs.length c7) := cell_keep HB.out (by simp [go_sem])
          have hB := bt (bt (b1 w (.cells #[.string name, .string of_, .bool list, .bool must, .bool far, .bool hidden, .bool shared, .slice A7 needs.length c7] 59)) (b1 _ (.cells #[.bool far, .bool hidden, .bool shared] 4))) HB.out
          have HB2 := Lib.hid hB
          have z6 : (mkK (⟨name, of_, list, must, far, hidden, shared, needs⟩ : JField) 3).size ≤ 1048900 := zk 3
          by_cases hn : needs = []
          · have tn : tf (JField.needy (⟨name, of_, list, must, far, hidden, shared, needs⟩ : JField)) = false := tf_f (fun h => h hn)
            replace hn := Lib.hid hn
            go_wp2_with fail
            refine (HN.out _ HB2.out).mono ?_
            rintro e w1 ⟨rfl, hb1⟩
            have hb1 := Lib.hid (bt HB2.out hb1)
            rw [tn]
            go_wp2
            go_ret
            exact Ret.txt (by have hn := hn.out; subst hn; show marksT _ ++ _ = marksT _ ++ (⟨#[]⟩ : ByteArray) ++ _; rw [ba_empty]) hb1.out
          · have tn : tf (JField.needy (⟨name, of_, list, must, far, hidden, shared, needs⟩ : JField)) = true := tf_t hn
            have eJ := sepT_join hn
            have e2 : needT (⟨name, of_, list, must, far, hidden, shared, needs⟩ : JField) = marksT (⟨name, of_, list, must, far, hidden, shared, needs⟩ : JField) ++ needsB := if_neg hn
            replace hn := Lib.hid hn
            go_wp2_with fail
            refine (HN.out _ HB2.out).mono ?_
            rintro e w1 ⟨rfl, hb1⟩
            have v7 := cell_keep hb1 v7
            have hb1 := Lib.hid (bt HB2.out hb1)
            rw [tn]
            go_wp2_with fail
            refine (HJ.out _ hb1.out).mono ?_
            rintro e w2 ⟨rfl, hb2⟩
            have hb2 := Lib.hid (bt hb1.out hb2)
            go_wp2
            go_ret
            exact Ret.txt (by rw [show lineT (⟨name, of_, list, must, far, hidden, shared, needs⟩ : JField) = needT (⟨name, of_, list, must, far, hidden, shared, needs⟩ : JField) ++ sepT needs ++ ⟨#[10]⟩ from rfl, e2, eJ]; simp only [ByteArray.append_assoc]; rfl) hb2.out
end Go.Proofs.Ytmkagpmdindlpaa.Lib
