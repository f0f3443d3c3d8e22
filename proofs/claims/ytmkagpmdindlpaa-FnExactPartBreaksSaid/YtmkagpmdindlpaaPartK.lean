/- The text of a field: plain; the reference's l2Line. Fields of 2^20 at most. -/
import Derived.Test.YtmkagpmdindlpaaPartH
import Derived.Deep.DeepCutAuto
set_option linter.unusedVariables false
set_option linter.unusedSimpArgs false
namespace Go.Proofs.Ytmkagpmdindlpaa.Lib
open Go.RowKit

def ofT1 (f : JField) : ByteArray := if f.list = true then (⟨#[91]⟩ : ByteArray) ++ f.of ++ ⟨#[93]⟩ else f.of
def ofT2 (f : JField) : ByteArray := if f.must = true then ofT1 f ++ ⟨#[33]⟩ else ofT1 f
def farB : ByteArray := ⟨#[32, 102, 97, 114]⟩
def hiddenB : ByteArray := ⟨#[32, 104, 105, 100, 100, 101, 110]⟩
def sharedB : ByteArray := ⟨#[32, 115, 104, 97, 114, 101, 100]⟩
def headT (f : JField) : ByteArray := (⟨#[32, 32]⟩ : ByteArray) ++ f.name ++ ⟨#[32]⟩ ++ ofT2 f
/-- A text with a mark behind it, if it is said. -/
def markT (s : ByteArray) (b : Bool) (m : ByteArray) : ByteArray := if b = true then s ++ m else s
def sepT : List ByteArray → ByteArray
  | [] => ⟨#[]⟩
  | x :: r => (⟨#[32]⟩ : ByteArray) ++ x ++ sepT r
def needsB : ByteArray := ⟨#[32, 110, 101, 101, 100, 115]⟩
def marksT (f : JField) : ByteArray := markT (markT (markT (headT f) f.far farB) f.hidden hiddenB) f.shared sharedB
def needT (f : JField) : ByteArray := if f.needs = [] then marksT f else marksT f ++ needsB
/-- A field's line. -/
def lineT (f : JField) : ByteArray := needT f ++ sepT f.needs ++ ⟨#[10]⟩

theorem Ret.txt {w w' : World} {a b : ByteArray} (h : a = b) (hb : Below w.heap.size w w') : Ret w (.string b) (.returned (.string a)) w' := ⟨by rw [h], hb⟩
theorem size_mk (l : Array UInt8) : (⟨l⟩ : ByteArray).size = l.size := rfl
theorem ofT1_size (f : JField) : (ofT1 f).size ≤ f.of.size + 2 := by
  unfold ofT1
  split <;> (try simp only [ByteArray.size_append, size_mk, List.size_toArray, List.length_cons, List.length_nil]) <;> omega
theorem ofT2_size (f : JField) : (ofT2 f).size ≤ f.of.size + 3 := by
  unfold ofT2 ofT1
  split <;> split <;> (try simp only [ByteArray.size_append, size_mk, List.size_toArray, List.length_cons, List.length_nil]) <;> omega
theorem headT_size (f : JField) : (headT f).size ≤ f.name.size + f.of.size + 6 := by
  have := ofT2_size f
  unfold headT
  simp only [ByteArray.size_append, size_mk, List.size_toArray, List.length_cons, List.length_nil]
  omega
theorem markT_size (s : ByteArray) (b : Bool) (m : ByteArray) : (markT s b m).size ≤ s.size + m.size := by
  unfold markT
  split <;> (try simp only [ByteArray.size_append]) <;> omega
theorem marksT_size (f : JField) : (marksT f).size ≤ f.name.size + f.of.size + 24 := by
  have h0 := headT_size f
  have h1 := markT_size (headT f) f.far farB
  have h2 := markT_size (markT (headT f) f.far farB) f.hidden hiddenB
  have h3 := markT_size (markT (markT (headT f) f.far farB) f.hidden hiddenB) f.shared sharedB
  have e1 : farB.size = 4 := rfl
  have e2 : hiddenB.size = 7 := rfl
  have e3 : sharedB.size = 7 := rfl
  unfold marksT
  omega
theorem needT_size (f : JField) : (needT f).size ≤ f.name.size + f.of.size + 30 := by
  have h0 := marksT_size f
  have e1 : needsB.size = 6 := rfl
  unfold needT
  split <;> (try simp only [ByteArray.size_append]) <;> omega
theorem sepT_append (xs ys : List ByteArray) : sepT (xs ++ ys) = sepT xs ++ sepT ys := by
  induction xs with
  | nil => simp [sepT, empty_ba]
  | cons x r ih => simp only [List.cons_append, sepT, ih, ByteArray.append_assoc]
theorem sepT_take (xs : List ByteArray) (k : Nat) (h : k < xs.length) : sepT (xs.take (k + 1)) = sepT (xs.take k) ++ ⟨#[32]⟩ ++ xs[k] := by
  rw [List.take_succ_eq_append_getElem h, sepT_append]
  simp only [sepT, ba_empty, ByteArray.append_assoc]
theorem sepT_size (xs : List ByteArray) : (sepT xs).size = strsBulk xs := by
  induction xs with
  | nil => rfl
  | cons x r ih =>
    unfold strsBulk at ih ⊢
    simp only [sepT, ByteArray.size_append, ih, size_mk, List.size_toArray, List.length_cons, List.length_nil, sumB, List.map_cons, List.sum_cons]
    omega
theorem strsBulk_take (xs : List ByteArray) (k : Nat) : strsBulk (xs.take k) ≤ strsBulk xs := by
  induction xs generalizing k with
  | nil => simp
  | cons x r ih =>
    cases k with
    | zero => simp [strsBulk, sumB]
    | succ k =>
      have := ih k
      unfold strsBulk sumB at this ⊢
      simp only [List.take_succ_cons, List.length_cons, List.map_cons, List.sum_cons]
      omega
theorem lineT_size (f : JField) : (lineT f).size ≤ f.bulk + 31 := by
  have h0 := needT_size f
  have h1 := sepT_size f.needs
  have h2 := JField.bulk_eq f
  unfold lineT
  simp only [ByteArray.size_append, size_mk, List.size_toArray, List.length_cons, List.length_nil]
  omega

set_option maxRecDepth 100000 in
set_option maxHeartbeats 8000000 in
theorem l2Line_c (f : JField) (cs : List Value) (w : World) (hx : RdL w f.enc cs) (hb : f.bulk ≤ 1048576) : Calls Try.prog 90 #[.agg cs.toArray] w (Ret w (.string (lineT f))) := by
  obtain ⟨A7, c7, rfl, g7, l0, l1, n7⟩ := JField.open_ hx
  have hbk := JField.bulk_eq f
  have z4 := needT_size f
  have y3 := ofT1_size f
  have y4 := ofT2_size f
  have y5 := headT_size f
  have e1 : farB.size = 4 := rfl
  have e2 : hiddenB.size = 7 := rfl
  have y6 := markT_size (headT f) f.far farB
  have y7 := markT_size (markT (headT f) f.far farB) f.hidden hiddenB
  have y8 := marksT_size f
  replace y3 : (ofT1 f).size ≤ 1048700 := by omega
  replace y4 : (ofT2 f).size ≤ 1048700 := by omega
  replace y5 : (headT f).size ≤ 1048700 := by omega
  replace y6 : (markT (headT f) f.far farB).size ≤ 1048800 := by omega
  replace y7 : (markT (markT (headT f) f.far farB) f.hidden hiddenB).size ≤ 1048900 := by omega
  replace y8 : (marksT f).size ≤ 1048700 := by omega
  replace z4 : (needT f).size ≤ 1048700 := by omega
  have y1 : f.name.size ≤ 1048700 := by omega
  have y2 : f.of.size ≤ 1048700 := by omega
  have z5 : ∀ k, (sepT (f.needs.take k)).size ≤ 1048576 := fun k => by have := sepT_size (f.needs.take k); have := strsBulk_take f.needs k; omega
  clear hx
  obtain ⟨name, of_, list, must, far, hidden, shared, needs⟩ := f
  dsimp only at g7 l0 l1 n7 hbk z4 z5 y1 y2 y3 y4 y5 y6 y7 y8 ⊢
  have HG := Lib.hid g7
  clear g7
  go_enter Try.func90, Try.ntmps90
  go_upto_if 9 with fail
  go_cut [3] (fun s wx => s = .string (ofT1 (⟨name, of_, list, must, far, hidden, shared, needs⟩ : JField)) ∧ wx = w.alloc (.cells #[.string name, .string of_, .bool list, .bool must, .bool far, .bool hidden, .bool shared, .slice A7 needs.length c7] 59))
  case first =>
    cases list <;> (go_wp2; go_meet; exact ⟨rfl, rfl⟩)
  case rest =>
    obtain ⟨rfl, rfl⟩ := hcut
    go_upto_if 14 with fail
    go_cut [3] (fun s wx => s = .string (ofT2 (⟨name, of_, list, must, far, hidden, shared, needs⟩ : JField)) ∧ wx = w.alloc (.cells #[.string name, .string of_, .bool list, .bool must, .bool far, .bool hidden, .bool shared, .slice A7 needs.length c7] 59))
    case first =>
      cases must <;> (go_wp2; go_meet; exact ⟨rfl, rfl⟩)
    case rest =>
      obtain ⟨rfl, rfl⟩ := hcut
      go_upto_if 24 with fail
      go_cut [4] (fun s wx => s = .string (markT (headT (⟨name, of_, list, must, far, hidden, shared, needs⟩ : JField)) far farB) ∧ wx = w.alloc (.cells #[.string name, .string of_, .bool list, .bool must, .bool far, .bool hidden, .bool shared, .slice A7 needs.length c7] 59))
      case first =>
        cases far <;> (go_wp2; go_meet; exact ⟨rfl, rfl⟩)
      case rest =>
        obtain ⟨rfl, rfl⟩ := hcut
        go_upto_if 28 with fail
        go_cut [4] (fun s wx => s = .string (markT (markT (headT (⟨name, of_, list, must, far, hidden, shared, needs⟩ : JField)) far farB) hidden hiddenB) ∧ wx = w.alloc (.cells #[.string name, .string of_, .bool list, .bool must, .bool far, .bool hidden, .bool shared, .slice A7 needs.length c7] 59))
        case first =>
          cases hidden <;> (go_wp2; go_meet; exact ⟨rfl, rfl⟩)
        case rest =>
          obtain ⟨rfl, rfl⟩ := hcut
          go_upto_if 32 with fail
          go_cut [4] (fun s wx => s = .string (marksT (⟨name, of_, list, must, far, hidden, shared, needs⟩ : JField)) ∧ wx = w.alloc (.cells #[.string name, .string of_, .bool list, .bool must, .bool far, .bool hidden, .bool shared, .slice A7 needs.length c7] 59))
          case first =>
            cases shared <;> (go_wp2; go_meet; exact ⟨rfl, rfl⟩)
          case rest =>
            obtain ⟨rfl, rfl⟩ := hcut
            go_upto_if 38 with fail
            go_cut [4] (fun s wx => s = .string (needT (⟨name, of_, list, must, far, hidden, shared, needs⟩ : JField)) ∧ wx = w.alloc (.cells #[.string name, .string of_, .bool list, .bool must, .bool far, .bool hidden, .bool shared, .slice A7 needs.length c7] 59))
            case first =>
              by_cases hn : needs = []
              · subst hn
                go_wp2
                go_meet
                exact ⟨rfl, rfl⟩
              · have hp : (0 : Int) < (needs.length : Nat) := by have := List.length_pos_iff.2 hn; omega
                have e : needT (⟨name, of_, list, must, far, hidden, shared, needs⟩ : JField) = marksT (⟨name, of_, list, must, far, hidden, shared, needs⟩ : JField) ++ needsB := if_neg hn
                replace hn := Lib.hid hn
                go_wp2
                go_meet
                exact ⟨by rw [e]; rfl, rfl⟩
            case rest =>
              obtain ⟨rfl, rfl⟩ := hcut
              have HF : needT (⟨name, of_, list, must, far, hidden, shared, needs⟩ : JField) ++ sepT needs ++ ⟨#[10]⟩ = lineT (⟨name, of_, list, must, far, hidden, shared, needs⟩ : JField) := rfl
              replace HF := Lib.hid HF
              generalize needT (⟨name, of_, list, must, far, hidden, shared, needs⟩ : JField) = N0 at *
              go_wp2
              go_loopw [4, 5] (fun s i wr => ∃ k : Nat, k ≤ needs.length ∧ i = .int .i64 k ∧ s = .string (N0 ++ sepT (needs.take k)) ∧ wr = w.alloc (.cells #[.string name, .string of_, .bool list, .bool must, .bool far, .bool hidden, .bool shared, .slice A7 needs.length c7] 59)) (fun _ i _ => needs.length - (intOf i).toNat)
              case atStart => exact ⟨0, Nat.zero_le _, rfl, by rw [List.take_zero]; exact congrArg Value.string (ba_empty _).symm, rfl⟩
              case round =>
                obtain ⟨k, hk, rfl, rfl, rfl⟩ := hrel
                have z6 := z5 k
                have z8 : (N0 ++ sepT (needs.take k)).size ≤ 2097400 := by rw [ByteArray.size_append]; omega
                by_cases hlt : k < needs.length
                · obtain ⟨ad, ea, hc, hl⟩ := Rd.elem_str (show Rd (w.alloc (.cells #[.string name, .string of_, .bool list, .bool must, .bool far, .bool hidden, .bool shared, .slice A7 needs.length c7] 59)) (slD strD 1 needs) (.slice A7 needs.length c7) from HG.out.below (b1 _ _)) k hlt
                  subst ea
                  have e := sepT_take needs k hlt
                  have z7 : needs[k].size ≤ 1048576 := by
                    have := z5 (k + 1)
                    rw [e, ByteArray.size_append] at this
                    omega
                  replace e := Lib.hid e
                  generalize hs : N0 ++ sepT (needs.take k) = s at z8
                  replace hs := Lib.hid hs
                  go_wp2
                  go_roundw
                  case rel => exact ⟨k + 1, by omega, by go_num, by rw [e.out, ← hs.out]; simp only [ByteArray.append_assoc], by first | trivial | rfl⟩
                  case measure => simp [intOf]; omega
                · have hke : k = needs.length := by omega
                  subst hke
                  rw [List.take_length] at z8 ⊢
                  generalize N0 ++ sepT needs = s at HF z8 ⊢
                  go_wp2
                  go_ret
                  exact Ret.txt HF.out (b1 _ _)
end Go.Proofs.Ytmkagpmdindlpaa.Lib
