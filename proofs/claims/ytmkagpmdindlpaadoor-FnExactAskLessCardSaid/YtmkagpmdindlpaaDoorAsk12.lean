/- The reference's l2Cut at the byte 47. Texts up to 2^20. -/
import Derived.Test.YtmkagpmdindlpaaDoorLessP
import Derived.Test.YtmkagpmdindlpaaDoorAsk7
set_option linter.unusedVariables false
set_option linter.unusedSimpArgs false
namespace Go.Proofs.YtmkagpmdindlpaaDoor.Lib
open Go.RowKit

theorem seg_list (s : ByteArray) (a b : Nat) : (s.extract a b).data.toList = (s.data.toList.drop a).take (b - a) := by
  simp [ByteArray.data_extract]
/-- The pieces so far, where the next begins, how far it goes. -/
def CutS (s : ByteArray) (ps : List ByteArray) (a k : Nat) : Prop := cutBs s.data.toList = ps.map (·.data.toList) ++ cutBs (s.data.toList.drop a) ∧ ∀ j (h : j < s.size), a ≤ j → j < k → s[j] ≠ 47

theorem bget (s : ByteArray) (j : Nat) (h : j < s.size) : s.data.toList[j]'h = s[j] := by simp [ByteArray.getElem_eq_getElem_data]
theorem CutS.free {s : ByteArray} {ps : List ByteArray} {a k : Nat} (h : CutS s ps a k) (hk : k ≤ s.size) : ∀ b, b ∈ (s.data.toList.drop a).take (k - a) → b ≠ 47 := by
  intro b hb e
  obtain ⟨j, hj, rfl⟩ := List.getElem_of_mem hb
  simp only [List.length_take, List.length_drop] at hj
  have hl : s.data.toList.length = s.size := rfl
  rw [List.getElem_take, List.getElem_drop] at e
  exact h.2 (a + j) (by omega) (by omega) (by omega) (by rw [← bget]; exact e)
theorem CutS.on {s : ByteArray} {ps : List ByteArray} {a k : Nat} (h : CutS s ps a k) (hk : k < s.size) (hb : s[k] ≠ 47) : CutS s ps a (k + 1) :=
  ⟨h.1, fun j hj h1 h2 => by
    by_cases e : j = k
    · subst e; exact hb
    · exact h.2 j hj h1 (by omega)⟩
theorem CutS.cut {s : ByteArray} {ps : List ByteArray} {a k : Nat} (h : CutS s ps a k) (ha : a ≤ k) (hk : k < s.size) (hb : s[k] = 47) : CutS s (ps ++ [s.extract a k]) (k + 1) (k + 1) := by
  refine ⟨?_, fun j hj h1 h2 => by omega⟩
  have e : s.data.toList.drop a = (s.data.toList.drop a).take (k - a) ++ 47 :: s.data.toList.drop (k + 1) := by
    conv => lhs; rw [← List.take_append_drop (k - a) (s.data.toList.drop a)]
    rw [List.drop_drop, show a + (k - a) = k by omega, List.drop_eq_getElem_cons (show k < s.data.toList.length from hk), bget s k hk, hb]
  rw [h.1, e, cutBs_at _ _ (h.free (by omega)), List.map_append, List.append_assoc]
  simp [seg_list]
theorem CutS.done {s : ByteArray} {ps : List ByteArray} {a : Nat} (h : CutS s ps a s.size) : ps ++ [s.extract a s.size] = cutL s := by
  have e : s.data.toList.drop a = (s.data.toList.drop a).take (s.size - a) := by
    rw [List.take_of_length_le]
    have hl : s.data.toList.length = s.size := rfl
    rw [List.length_drop]; omega
  unfold cutL
  rw [h.1, e.trans (seg_list s a s.size).symm, cutBs_none _ (by rw [seg_list]; exact h.free (Nat.le_refl _))]
  simp only [List.map_append, List.map_map, List.map_cons, List.map_nil, Function.comp_def, Array.toArray_toList, List.map_id']

set_option maxRecDepth 100000 in
set_option maxHeartbeats 8000000 in
theorem l2Cut_c (s : ByteArray) (w : World) (hs : s.size ≤ 1048576) : Calls Tryd.prog 18 #[.string s, .int .u8 47] w (Made1 w (slD strD 1 (cutL s))) := by
  obtain ⟨i0, hi, hz0, hz1, hz2⟩ := info_parts info_strE
  go_enter Tryd.func18, Tryd.ntmps18
  go_wp2
  go_loopw [5, 6, 7] (fun v from_ i wr => ∃ (k a : Nat) (ps : List ByteArray), k ≤ s.size ∧ a ≤ k ∧ i = .int .i64 k ∧ from_ = .int .i64 a ∧ ps.length ≤ k ∧ Hid (CutS s ps a k) ∧ Hid (Below w.heap.size w wr) ∧ Hid (Gr w.heap.size wr 9 strD 1 ps v)) (fun _ _ i _ => s.size - (intOf i).toNat)
  case atStart => exact ⟨0, 0, [], Nat.zero_le _, Nat.le_refl _, rfl, rfl, Nat.le_refl _, Lib.hid ⟨by simp, fun j h h1 h2 => by omega⟩, b1 _ _, Gr.empty _ _ _ _ (Nat.le_refl _)⟩
  case round =>
    obtain ⟨k, a, ps, hk, hak, rfl, rfl, hpl, HC, HB, HG⟩ := hrel
    by_cases hlt : k < s.size
    case neg =>
      have hkk : k = s.size := by omega
      subst hkk
      have hsz1 : (s.extract a s.size).size ≤ 9223372036854775807 := by rw [ByteArray.size_extract]; omega
      have hfin := Lib.hid HC.out.done
      go_wp2_with (at_builtin; refine wpList_push rfl _ _ 39 rfl (enc := strD) (base := w.heap.size) (wr := wr) (xs := ps) (s.extract a s.size) 9 i0 (.string ⟨#[]⟩) 1 16 Tryd.underlying39 hi hz0 hz1 hz2 rfl (by decide) strD_len rfl HG.out (b1 _ _) HB.out.size ⟨wr.heap.size, 0, none⟩ 1 rfl [.string (s.extract a s.size)] [] (.str hsz1 (.nil _)) (Fresh.nil _) (box_new rfl) ?c1 ?_)
      case c1 => constructor <;> omega
      intro A9 c9 w3 hG3 hB3 _ _
      generalize hn9 : (ps ++ [s.extract a s.size]).length = n9 at hG3 ⊢
      have hG9 := Lib.hid hG3
      have hB9 := Lib.hid (HB.out.trans (((b1 wr (.cells #[.string (s.extract a s.size)] 9)).mono HB.out.size).trans hB3))
      replace hn9 := Lib.hid hn9
      clear hG3 hB3
      go_wp2
      go_ret
      exact Gr.made strD_len (Gr.cast hG9.out hfin.out rfl) (Nat.le_refl _) hB9.out
    by_cases hb : s[k] = 47
    · have hbI : (s[k].toNat : Int) = 47 := by rw [hb]; rfl
      have hsz1 : (s.extract a k).size ≤ 9223372036854775807 := by rw [ByteArray.size_extract]; omega
      have hfin := Lib.hid (HC.out.cut hak hlt hb)
      go_wp2_with (at_builtin; refine wpList_push rfl _ _ 39 rfl (enc := strD) (base := w.heap.size) (wr := wr) (xs := ps) (s.extract a k) 9 i0 (.string ⟨#[]⟩) 1 16 Tryd.underlying39 hi hz0 hz1 hz2 rfl (by decide) strD_len rfl HG.out (b1 _ _) HB.out.size ⟨wr.heap.size, 0, none⟩ 1 rfl [.string (s.extract a k)] [] (.str hsz1 (.nil _)) (Fresh.nil _) (box_new rfl) ?c1 ?_)
      case c1 => constructor <;> omega
      intro A9 c9 w3 hG3 hB3 _ _
      generalize hn9 : (ps ++ [s.extract a k]).length = n9 at hG3 ⊢
      have hG9 := Lib.hid hG3
      have hB9 := Lib.hid (HB.out.trans (((b1 wr (.cells #[.string (s.extract a k)] 9)).mono HB.out.size).trans hB3))
      replace hn9 := Lib.hid hn9
      clear hG3 hB3
      go_wp2
      go_roundw
      case rel => exact ⟨k + 1, k + 1, ps ++ [s.extract a k], by omega, Nat.le_refl _, by go_num, by go_num, by simp; omega, hfin.out, hB9.out, hG9.out⟩
      case measure => simp [intOf]; omega
    · have hbI : ¬ (s[k].toNat : Int) = 47 := fun e => hb (UInt8.toNat_inj.1 (show s[k].toNat = 47 by omega))
      have hfin := Lib.hid (HC.out.on hlt hb)
      go_wp2
      go_roundw
      case rel => exact ⟨k + 1, a, ps, by omega, by omega, by go_num, rfl, by omega, hfin.out, HB.out, HG.out⟩
      case measure => simp [intOf]; omega
end Go.Proofs.YtmkagpmdindlpaaDoor.Lib
