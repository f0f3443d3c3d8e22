/- Texts of asks: the reference's l1Dec and l3Write; strconv.Itoa and strings.Join in this work's words. Numbers to 999999; asks that are ok. -/
import Derived.Test.YtmkagpmdindlpaaDoorAsk3
import Derived.Test.YtmkagpmdindlpaaDoorMk
import Derived.Test.YtmkagpmdindlpaaDoorShelf
import Derived.Lib.SmallJoins
import Derived.IntWalk
set_option linter.unusedVariables false
set_option linter.unusedSimpArgs false
namespace Go.Proofs.YtmkagpmdindlpaaDoor.Lib
open Go.RowKit

theorem dig_eq (n : Nat) : digN n = Go.Lib.decDigits n := by
  induction n using Nat.strongRecOn with
  | _ n ih =>
    rw [digN, Go.Lib.decDigits]
    split
    · rfl
    · rw [ih (n / 10) (by omega)]
theorem decB_itoa {n : Int} (h : 0 ≤ n) : (⟨(Go.Lib.itoa n).toArray⟩ : ByteArray) = decB n := by
  unfold decB Go.Lib.itoa
  rw [if_neg (by omega), dig_eq]
theorem ba_ext {a b : ByteArray} (h : a.data.toList = b.data.toList) : a = b := by
  cases a; cases b; simp only [ByteArray.mk.injEq]; exact Array.toList_inj.1 h
theorem decB_small {n : Int} (h0 : 0 ≤ n) (h1 : n < 10) : strOfNums [48 + n] = decB n := by
  unfold decB
  rw [digN, dif_pos (by omega)]
  apply ba_ext
  rw [strOfNums_data]
  show [UInt8.ofNat (48 + n).toNat] = [UInt8.ofNat (48 + n.toNat)]
  rw [show (48 + n).toNat = 48 + n.toNat by omega]
theorem decB_step {n : Int} (h0 : 10 ≤ n) : decB (n / 10) ++ strOfNums [48 + n % 10] = decB n := by
  unfold decB
  conv => rhs; rw [digN, dif_neg (by omega)]
  have e1 : n.toNat / 10 = (n / 10).toNat := by omega
  rw [e1]
  apply ba_ext
  rw [ByteArray.data_append, Array.toList_append, strOfNums_data]
  show digN (n / 10).toNat ++ [UInt8.ofNat (48 + n % 10).toNat] = digN (n / 10).toNat ++ [UInt8.ofNat (48 + n.toNat % 10)]
  rw [show (48 + n % 10).toNat = 48 + n.toNat % 10 by omega]
theorem conv_at (src e dst : TypeId) (hs : Tryd.prog.underlying src = some (.slice e)) (he : Tryd.prog.underlying e = some (.int .u8)) (hd : Tryd.prog.underlying dst = some .string) (w : World) (g : Nat) (n : Int) (hc : w.cell? ⟨g, 0, none⟩ = some (.int .u8 n)) :
    (convert src dst (.slice (some ⟨g, 0, none⟩) 1 1)).run Tryd.prog w = .ok (.string (strOfNums [n])) w :=
  run_convert_bytes_arg _ src e hs he g 0 1 1 [n] rfl (fun i hi => by
    obtain rfl : i = 0 := by omega
    simpa using hc) dst hd
def L1Dec (n : Int) : Prop := ∀ (w : World), 0 ≤ n → n ≤ 999999 → Calls Tryd.prog 37 #[.int .i64 n] w (Ret w (.string (decB n)))
set_option maxRecDepth 100000 in
set_option maxHeartbeats 4000000 in
theorem l1Dec_of (n : Int) (hK : 10 ≤ n → L1Dec (n / 10)) : L1Dec n := by
  intro w h0 h1
  have kc := conv_one 53 5 9 Tryd.underlying53 Tryd.underlying5 Tryd.underlying9 5
  by_cases hs : n < 10
  · clear hK
    go_enter Tryd.func37, Tryd.ntmps37
    go_wp2
    go_ret
    exact Ret.str (decB_small h0 hs) (b1 _ _)
  · have HM := Lib.hid (fun W => hK (by omega) W (by omega) (by omega))
    have hz := decB_size (n := n / 10) (by omega) (by omega)
    have hsz : ¬ 9223372036854775807 < (decB (n / 10)).size + (strOfNums [48 + n % 10]).size := by rw [strOfNums_size]; simp; omega
    have hst := Lib.hid (decB_step (n := n) (by omega))
    have hbd := (Below.refl w.heap.size w).drew
    clear hK
    go_enter Tryd.func37, Tryd.ntmps37
    go_wp2_with fail
    have e1 : IntKind.i64.wrap (n.tdiv 10) = n / 10 := by rw [Int.tdiv_eq_ediv_of_nonneg h0]; exact IntWalk.i64_in _ (by omega)
    have e2 : n.tmod 10 = n % 10 := Int.tmod_eq_emod_of_nonneg h0
    have e3 : IntKind.i64.wrap (48 + n % 10) = 48 + n % 10 := IntWalk.i64_in _ (by omega)
    have e4 : IntKind.u8.wrap (48 + n % 10) = 48 + n % 10 := IntWalk.u8_in _ (by omega)
    have hbx : ((w.alloc (.cells #[.int .u8 (48 + n % 10)] 5)).drew).cell? ⟨w.heap.size, 0, none⟩ = some (.int .u8 (48 + n % 10)) := by simp [go_sem]
    replace hbx := Lib.hid hbx
    have kd0 := conv_at 53 5 9 Tryd.underlying53 Tryd.underlying5 Tryd.underlying9 ((w.alloc (.cells #[.int .u8 (48 + n % 10)] 5)).drew) w.heap.size (48 + n % 10) hbx.out
    go_region_law (first | (go_simp; go_at_call 37; (with_reducible refine (HM.out w.drew).mono ?_); rintro e w1 ⟨rfl, hb1⟩) | (go_simp; go_at_call 37; (with_reducible refine (HM.out ((w.alloc (.cells #[.int .u8 (48 + n % 10)] 5)).drew)).mono ?_); rintro e w1 ⟨rfl, hb1⟩; have kd := conv_at 53 5 9 Tryd.underlying53 Tryd.underlying5 Tryd.underlying9 w1 w.heap.size (48 + n % 10) (cell_keep hb1 hbx.out)))
    all_goals
      clear e1 e2 e3 e4
      go_wp2
      go_ret
      exact Ret.str hst.out (by first | exact bt hbd (bt hb1 (b1 _ _)) | exact bt (b1 w _).drew hb1)
theorem l1Dec_all : ∀ (k : Nat) (n : Int), n.toNat < k → L1Dec n
  | 0 => fun _ h => absurd h (by omega)
  | k + 1 => fun n h => l1Dec_of n fun h10 => l1Dec_all k (n / 10) (by omega)
theorem l1Dec_c (n : Int) : L1Dec n := l1Dec_all _ n (Nat.lt_succ_self _)

/-- The library's table of powers of ten stands in memory. -/
def TabW (w : World) : Prop := Go.Lib.TabIs Tryd.prog w "internal/strconv.uint64pow10" .u64 Go.Lib.pow10Tab
theorem TabW.below {w w' : World} (h : TabW w) (hb : Below w.heap.size w w') : TabW w' := by
  unfold TabW Go.Lib.TabIs World.var? at *
  cases hg : Tryd.prog.globalNamed "internal/strconv.uint64pow10" with
  | none => rw [hg] at h; cases h
  | some g =>
    rw [hg] at h
    simp only [Option.bind_some] at h ⊢
    cases hh : w.heap[g]? with
    | none => rw [hh] at h; cases h
    | some o =>
      rw [hb.block g (Array.getElem?_eq_some_iff.1 hh).1, hh]
      rw [hh] at h
      exact h
theorem itoa_c (n : Int) (w : World) (h0 : 0 ≤ n) (h1 : n ≤ 999999) (ht : TabW w) : Calls Tryd.prog 43 #[.int .i64 n] w (Ret w (.string (decB n))) :=
  (Tryd.strconv_Itoa n (by omega) (by omega) w ht).mono fun e w' ⟨he, k, os, hw⟩ => ⟨by rw [he, decB_itoa h0], by
    rw [hw]
    exact ⟨rfl, rfl, rfl, by simp [Go.Sort.grow], fun i hi => by
      show ((w.drewN k).heap ++ os)[i]? = _
      rw [Array.getElem?_append_left (by show i < w.heap.size; exact hi)]
      rfl⟩⟩
theorem tailT_join (xs : List JSel) : (JSel.tailT xs).data.toList = Go.Lib.joinTail commaB.data.toList ((xs.map JSel.text).map (·.data.toList)) := by
  induction xs with
  | nil => rfl
  | cons x r ih =>
    simp only [JSel.tailT, ByteArray.data_append, Array.toList_append, ih, List.map_cons, Go.Lib.joinTail, List.flatten_cons]
theorem joinT_join (xs : List JSel) : (⟨(Go.Lib.join ((xs.map JSel.text).map (·.data.toList)) commaB.data.toList).toArray⟩ : ByteArray) = JSel.joinT xs := by
  apply ba_ext
  cases xs with
  | nil => rfl
  | cons x r =>
    rw [List.map_cons, List.map_cons, Go.Lib.join_cons]
    simp only [JSel.joinT, ByteArray.data_append, Array.toList_append, tailT_join]
end Go.Proofs.YtmkagpmdindlpaaDoor.Lib
