/- The program's structs as Lean structures; what their cells read as and what owns them. Printed by gtypes.py. No condition. -/
import Derived.Test.YtmkagpmdindlpaaLib
set_option linter.unusedVariables false
set_option linter.unusedSimpArgs false
namespace Go.Proofs.Ytmkagpmdindlpaa.Lib
open Go.RowKit

def intD (n : Int) : List D := [.int .i64 n]
def boolD (b : Bool) : List D := [.bool b]
def strD (s : ByteArray) : List D := [.str s]
theorem intD_len (s : Int) : (intD s).length = 1 := rfl
theorem boolD_len (s : Bool) : (boolD s).length = 1 := rfl
theorem strD_len (s : ByteArray) : (strD s).length = 1 := rfl

theorem Rd.elem_str {w : World} {xs : List ByteArray} {A : Option Addr} {n c : Nat} (h : Rd w (slD strD 1 xs) (.slice A n c)) (k : Nat) (hk : k < xs.length) : ∃ ad, A = some ad ∧ w.cell? (ad.add k) = some (.string xs[k]) ∧ xs[k].size ≤ 9223372036854775807 := by
  obtain ⟨ad, us, h1, h2, h3⟩ := Rd.elem strD_len h k xs[k] (by simp [hk])
  refine ⟨ad, h1, ?_⟩
  cases h2 with
  | cons h r =>
    have := h3 0 _ rfl
    simp only [Rd] at h
    obtain ⟨rfl, hl⟩ := h
    exact ⟨by simpa using this, hl⟩
theorem Rd.elem_int {w : World} {xs : List Int} {A : Option Addr} {n c : Nat} (h : Rd w (slD intD 1 xs) (.slice A n c)) (k : Nat) (hk : k < xs.length) : ∃ ad, A = some ad ∧ w.cell? (ad.add k) = some (.int .i64 xs[k]) := by
  obtain ⟨ad, us, h1, h2, h3⟩ := Rd.elem intD_len h k xs[k] (by simp [hk])
  refine ⟨ad, h1, ?_⟩
  cases h2 with
  | cons h r =>
    have := h3 0 _ rfl
    simp only [Rd] at h
    subst h
    simpa using this

theorem RdL.cons_inv {w : World} {d : D} {ds : List D} {cs : List Value} (h : RdL w (d :: ds) cs) : ∃ v vs, cs = v :: vs ∧ Rd w d v ∧ RdL w ds vs := by
  cases h with
  | cons h r => exact ⟨_, _, rfl, h, r⟩
theorem RdL.nil_inv {w : World} {cs : List Value} (h : RdL w [] cs) : cs = [] := by cases h; rfl

theorem addr_field (ad : Addr) (i j : Nat) (hj : 0 < j) : ad.add (i + j) = ⟨(ad.add i).block, (ad.add i).off + j, none⟩ := by
  rw [← addr_add]
  unfold Addr.add
  rw [if_neg (by omega)]

/-! ### Value -/
structure JValue where
  sort : Int
  num : Int
  text : ByteArray
  names : List ByteArray
  kids : List JValue
mutual
def JValue.enc : JValue → List D
  | ⟨y0, y1, y2, y3, y4⟩ => [.int .i64 y0, .int .i64 y1, .str y2, slD strD 1 y3, .sl 5 y4.length (JValue.encs y4)]
def JValue.encs : List JValue → List D
  | [] => []
  | x :: r => JValue.enc x ++ JValue.encs r
end
theorem JValue.encs_eq (xs : List JValue) : JValue.encs xs = xs.flatMap JValue.enc := by
  induction xs with
  | nil => simp [JValue.encs]
  | cons x r ih => rw [JValue.encs, ih, List.flatMap_cons]
theorem JValue.enc_eq (x : JValue) : x.enc = [.int .i64 x.sort, .int .i64 x.num, .str x.text, slD strD 1 x.names, slD JValue.enc 5 x.kids] := by
  cases x
  simp only [JValue.enc, JValue.encs_eq, slD]
theorem JValue.enc_len (x : JValue) : x.enc.length = 5 := by rw [JValue.enc_eq]; rfl
theorem JValue.open_ {w : World} {x : JValue} {cs : List Value} (h : RdL w x.enc cs) : ∃ A3 c3 A4 c4, cs = [.int .i64 x.sort, .int .i64 x.num, .string x.text, .slice A3 x.names.length c3, .slice A4 x.kids.length c4] ∧ Rd w (slD strD 1 x.names) (.slice A3 x.names.length c3) ∧ Rd w (slD JValue.enc 5 x.kids) (.slice A4 x.kids.length c4) ∧ x.text.size ≤ 9223372036854775807 ∧ x.names.length ≤ 9223372036854775807 ∧ x.kids.length ≤ 9223372036854775807 := by
  rw [JValue.enc_eq] at h
  obtain ⟨v0, t0, e0, h0, r0⟩ := RdL.cons_inv h
  obtain ⟨v1, t1, e1, h1, r1⟩ := RdL.cons_inv r0
  obtain ⟨v2, t2, e2, h2, r2⟩ := RdL.cons_inv r1
  obtain ⟨v3, t3, e3, h3, r3⟩ := RdL.cons_inv r2
  obtain ⟨v4, t4, e4, h4, r4⟩ := RdL.cons_inv r3
  have e_ := RdL.nil_inv r4
  subst e_ e4 e3 e2 e1 e0
  simp only [Rd] at h0
  subst h0
  simp only [Rd] at h1
  subst h1
  simp only [Rd] at h2
  obtain ⟨rfl, l2⟩ := h2
  obtain ⟨A3, c3, rfl, m3, n3, g3⟩ := Rd.slice h3
  unfold maxLen at n3
  obtain ⟨A4, c4, rfl, m4, n4, g4⟩ := Rd.slice h4
  unfold maxLen at n4
  exact ⟨A3, c3, A4, c4, rfl, g3, g4, l2, (by omega), (by omega)⟩
theorem JValue.close_ {w : World} (x : JValue) {A3 : Option Addr} {c3 : Nat} (g3 : Rd w (slD strD 1 x.names) (.slice A3 x.names.length c3)) {A4 : Option Addr} {c4 : Nat} (g4 : Rd w (slD JValue.enc 5 x.kids) (.slice A4 x.kids.length c4)) (l2 : x.text.size ≤ 9223372036854775807) : RdL w x.enc [.int .i64 x.sort, .int .i64 x.num, .string x.text, .slice A3 x.names.length c3, .slice A4 x.kids.length c4] := by
  rw [JValue.enc_eq]
  exact .cons (by simp only [Rd]) (.cons (by simp only [Rd]) (.cons (by simp only [Rd, true_and]; exact l2) (.cons g3 (.cons g4 (.nil)))))
theorem JValue.elem {w : World} {xs : List JValue} {A : Option Addr} {n c : Nat} (h : Rd w (slD JValue.enc 5 xs) (.slice A n c)) (k : Nat) (hk : k < xs.length) : ∃ ad A3 c3 A4 c4, A = some ad ∧ w.cell? (ad.add (k * 5)) = some (.int .i64 xs[k].sort) ∧ w.cell? ⟨(ad.add (k * 5)).block, (ad.add (k * 5)).off + 1, none⟩ = some (.int .i64 xs[k].num) ∧ w.cell? ⟨(ad.add (k * 5)).block, (ad.add (k * 5)).off + 2, none⟩ = some (.string xs[k].text) ∧ w.cell? ⟨(ad.add (k * 5)).block, (ad.add (k * 5)).off + 3, none⟩ = some (.slice A3 xs[k].names.length c3) ∧ w.cell? ⟨(ad.add (k * 5)).block, (ad.add (k * 5)).off + 4, none⟩ = some (.slice A4 xs[k].kids.length c4) ∧ Rd w (slD strD 1 xs[k].names) (.slice A3 xs[k].names.length c3) ∧ Rd w (slD JValue.enc 5 xs[k].kids) (.slice A4 xs[k].kids.length c4) ∧ xs[k].text.size ≤ 9223372036854775807 ∧ xs[k].names.length ≤ 9223372036854775807 ∧ xs[k].kids.length ≤ 9223372036854775807 := by
  obtain ⟨ad, us, h1, h2, h3⟩ := Rd.elem JValue.enc_len h k xs[k] (by simp [hk])
  obtain ⟨A3, c3, A4, c4, rfl, g3, g4, l2, n3, n4⟩ := JValue.open_ h2
  exact ⟨ad, A3, c3, A4, c4, h1, by simpa using h3 0 _ rfl, by rw [← addr_field _ _ 1 (by omega)]; exact h3 1 _ rfl, by rw [← addr_field _ _ 2 (by omega)]; exact h3 2 _ rfl, by rw [← addr_field _ _ 3 (by omega)]; exact h3 3 _ rfl, by rw [← addr_field _ _ 4 (by omega)]; exact h3 4 _ rfl, g3, g4, l2, n3, n4⟩

/-! ### Cell -/
structure JCell where
  name : ByteArray
  value : JValue
def JCell.enc (x : JCell) : List D := [.str x.name, .int .i64 x.value.sort, .int .i64 x.value.num, .str x.value.text, slD strD 1 x.value.names, slD JValue.enc 5 x.value.kids]
theorem JCell.enc_eq (x : JCell) : x.enc = [.str x.name, .int .i64 x.value.sort, .int .i64 x.value.num, .str x.value.text, slD strD 1 x.value.names, slD JValue.enc 5 x.value.kids] := rfl
theorem JCell.enc_nest (x : JCell) : x.enc = (.str x.name :: (JValue.enc x.value ++ [])) := by
  rw [JCell.enc_eq, JValue.enc_eq]
  rfl
theorem JCell.enc_len (x : JCell) : x.enc.length = 6 := by rw [JCell.enc_eq]; rfl
theorem JCell.open_ {w : World} {x : JCell} {cs : List Value} (h : RdL w x.enc cs) : ∃ A4 c4 A5 c5, cs = [.string x.name, .int .i64 x.value.sort, .int .i64 x.value.num, .string x.value.text, .slice A4 x.value.names.length c4, .slice A5 x.value.kids.length c5] ∧ Rd w (slD strD 1 x.value.names) (.slice A4 x.value.names.length c4) ∧ Rd w (slD JValue.enc 5 x.value.kids) (.slice A5 x.value.kids.length c5) ∧ x.name.size ≤ 9223372036854775807 ∧ x.value.text.size ≤ 9223372036854775807 ∧ x.value.names.length ≤ 9223372036854775807 ∧ x.value.kids.length ≤ 9223372036854775807 := by
  rw [JCell.enc_eq] at h
  obtain ⟨v0, t0, e0, h0, r0⟩ := RdL.cons_inv h
  obtain ⟨v1, t1, e1, h1, r1⟩ := RdL.cons_inv r0
  obtain ⟨v2, t2, e2, h2, r2⟩ := RdL.cons_inv r1
  obtain ⟨v3, t3, e3, h3, r3⟩ := RdL.cons_inv r2
  obtain ⟨v4, t4, e4, h4, r4⟩ := RdL.cons_inv r3
  obtain ⟨v5, t5, e5, h5, r5⟩ := RdL.cons_inv r4
  have e_ := RdL.nil_inv r5
  subst e_ e5 e4 e3 e2 e1 e0
  simp only [Rd] at h0
  obtain ⟨rfl, l0⟩ := h0
  simp only [Rd] at h1
  subst h1
  simp only [Rd] at h2
  subst h2
  simp only [Rd] at h3
  obtain ⟨rfl, l3⟩ := h3
  obtain ⟨A4, c4, rfl, m4, n4, g4⟩ := Rd.slice h4
  unfold maxLen at n4
  obtain ⟨A5, c5, rfl, m5, n5, g5⟩ := Rd.slice h5
  unfold maxLen at n5
  exact ⟨A4, c4, A5, c5, rfl, g4, g5, l0, l3, (by omega), (by omega)⟩
theorem JCell.close_ {w : World} (x : JCell) {A4 : Option Addr} {c4 : Nat} (g4 : Rd w (slD strD 1 x.value.names) (.slice A4 x.value.names.length c4)) {A5 : Option Addr} {c5 : Nat} (g5 : Rd w (slD JValue.enc 5 x.value.kids) (.slice A5 x.value.kids.length c5)) (l0 : x.name.size ≤ 9223372036854775807) (l3 : x.value.text.size ≤ 9223372036854775807) : RdL w x.enc [.string x.name, .int .i64 x.value.sort, .int .i64 x.value.num, .string x.value.text, .slice A4 x.value.names.length c4, .slice A5 x.value.kids.length c5] := by
  rw [JCell.enc_eq]
  exact .cons (by simp only [Rd, true_and]; exact l0) (.cons (by simp only [Rd]) (.cons (by simp only [Rd]) (.cons (by simp only [Rd, true_and]; exact l3) (.cons g4 (.cons g5 (.nil))))))
theorem JCell.elem {w : World} {xs : List JCell} {A : Option Addr} {n c : Nat} (h : Rd w (slD JCell.enc 6 xs) (.slice A n c)) (k : Nat) (hk : k < xs.length) : ∃ ad A4 c4 A5 c5, A = some ad ∧ w.cell? (ad.add (k * 6)) = some (.string xs[k].name) ∧ w.cell? ⟨(ad.add (k * 6)).block, (ad.add (k * 6)).off + 1, none⟩ = some (.int .i64 xs[k].value.sort) ∧ w.cell? ⟨(ad.add (k * 6)).block, (ad.add (k * 6)).off + 2, none⟩ = some (.int .i64 xs[k].value.num) ∧ w.cell? ⟨(ad.add (k * 6)).block, (ad.add (k * 6)).off + 3, none⟩ = some (.string xs[k].value.text) ∧ w.cell? ⟨(ad.add (k * 6)).block, (ad.add (k * 6)).off + 4, none⟩ = some (.slice A4 xs[k].value.names.length c4) ∧ w.cell? ⟨(ad.add (k * 6)).block, (ad.add (k * 6)).off + 5, none⟩ = some (.slice A5 xs[k].value.kids.length c5) ∧ Rd w (slD strD 1 xs[k].value.names) (.slice A4 xs[k].value.names.length c4) ∧ Rd w (slD JValue.enc 5 xs[k].value.kids) (.slice A5 xs[k].value.kids.length c5) ∧ xs[k].name.size ≤ 9223372036854775807 ∧ xs[k].value.text.size ≤ 9223372036854775807 ∧ xs[k].value.names.length ≤ 9223372036854775807 ∧ xs[k].value.kids.length ≤ 9223372036854775807 := by
  obtain ⟨ad, us, h1, h2, h3⟩ := Rd.elem JCell.enc_len h k xs[k] (by simp [hk])
  obtain ⟨A4, c4, A5, c5, rfl, g4, g5, l0, l3, n4, n5⟩ := JCell.open_ h2
  exact ⟨ad, A4, c4, A5, c5, h1, by simpa using h3 0 _ rfl, by rw [← addr_field _ _ 1 (by omega)]; exact h3 1 _ rfl, by rw [← addr_field _ _ 2 (by omega)]; exact h3 2 _ rfl, by rw [← addr_field _ _ 3 (by omega)]; exact h3 3 _ rfl, by rw [← addr_field _ _ 4 (by omega)]; exact h3 4 _ rfl, by rw [← addr_field _ _ 5 (by omega)]; exact h3 5 _ rfl, g4, g5, l0, l3, n4, n5⟩

/-! ### Row -/
structure JRow where
  typ : ByteArray
  id : Int
  cells : List JCell
def JRow.enc (x : JRow) : List D := [.str x.typ, .int .i64 x.id, slD JCell.enc 6 x.cells]
theorem JRow.enc_eq (x : JRow) : x.enc = [.str x.typ, .int .i64 x.id, slD JCell.enc 6 x.cells] := rfl
theorem JRow.enc_len (x : JRow) : x.enc.length = 3 := by rw [JRow.enc_eq]; rfl
theorem JRow.open_ {w : World} {x : JRow} {cs : List Value} (h : RdL w x.enc cs) : ∃ A2 c2, cs = [.string x.typ, .int .i64 x.id, .slice A2 x.cells.length c2] ∧ Rd w (slD JCell.enc 6 x.cells) (.slice A2 x.cells.length c2) ∧ x.typ.size ≤ 9223372036854775807 ∧ x.cells.length ≤ 9223372036854775807 := by
  rw [JRow.enc_eq] at h
  obtain ⟨v0, t0, e0, h0, r0⟩ := RdL.cons_inv h
  obtain ⟨v1, t1, e1, h1, r1⟩ := RdL.cons_inv r0
  obtain ⟨v2, t2, e2, h2, r2⟩ := RdL.cons_inv r1
  have e_ := RdL.nil_inv r2
  subst e_ e2 e1 e0
  simp only [Rd] at h0
  obtain ⟨rfl, l0⟩ := h0
  simp only [Rd] at h1
  subst h1
  obtain ⟨A2, c2, rfl, m2, n2, g2⟩ := Rd.slice h2
  unfold maxLen at n2
  exact ⟨A2, c2, rfl, g2, l0, (by omega)⟩
theorem JRow.close_ {w : World} (x : JRow) {A2 : Option Addr} {c2 : Nat} (g2 : Rd w (slD JCell.enc 6 x.cells) (.slice A2 x.cells.length c2)) (l0 : x.typ.size ≤ 9223372036854775807) : RdL w x.enc [.string x.typ, .int .i64 x.id, .slice A2 x.cells.length c2] := by
  rw [JRow.enc_eq]
  exact .cons (by simp only [Rd, true_and]; exact l0) (.cons (by simp only [Rd]) (.cons g2 (.nil)))
theorem JRow.elem {w : World} {xs : List JRow} {A : Option Addr} {n c : Nat} (h : Rd w (slD JRow.enc 3 xs) (.slice A n c)) (k : Nat) (hk : k < xs.length) : ∃ ad A2 c2, A = some ad ∧ w.cell? (ad.add (k * 3)) = some (.string xs[k].typ) ∧ w.cell? ⟨(ad.add (k * 3)).block, (ad.add (k * 3)).off + 1, none⟩ = some (.int .i64 xs[k].id) ∧ w.cell? ⟨(ad.add (k * 3)).block, (ad.add (k * 3)).off + 2, none⟩ = some (.slice A2 xs[k].cells.length c2) ∧ Rd w (slD JCell.enc 6 xs[k].cells) (.slice A2 xs[k].cells.length c2) ∧ xs[k].typ.size ≤ 9223372036854775807 ∧ xs[k].cells.length ≤ 9223372036854775807 := by
  obtain ⟨ad, us, h1, h2, h3⟩ := Rd.elem JRow.enc_len h k xs[k] (by simp [hk])
  obtain ⟨A2, c2, rfl, g2, l0, n2⟩ := JRow.open_ h2
  exact ⟨ad, A2, c2, h1, by simpa using h3 0 _ rfl, by rw [← addr_field _ _ 1 (by omega)]; exact h3 1 _ rfl, by rw [← addr_field _ _ 2 (by omega)]; exact h3 2 _ rfl, g2, l0, n2⟩

/-! ### Sel -/
structure JSel where
  as_ : ByteArray
  name : ByteArray
  one : Bool
  id : Int
  kids : List JSel
mutual
def JSel.enc : JSel → List D
  | ⟨y0, y1, y2, y3, y4⟩ => [.str y0, .str y1, .bool y2, .int .i64 y3, .sl 5 y4.length (JSel.encs y4)]
def JSel.encs : List JSel → List D
  | [] => []
  | x :: r => JSel.enc x ++ JSel.encs r
end
theorem JSel.encs_eq (xs : List JSel) : JSel.encs xs = xs.flatMap JSel.enc := by
  induction xs with
  | nil => simp [JSel.encs]
  | cons x r ih => rw [JSel.encs, ih, List.flatMap_cons]
theorem JSel.enc_eq (x : JSel) : x.enc = [.str x.as_, .str x.name, .bool x.one, .int .i64 x.id, slD JSel.enc 5 x.kids] := by
  cases x
  simp only [JSel.enc, JSel.encs_eq, slD]
theorem JSel.enc_len (x : JSel) : x.enc.length = 5 := by rw [JSel.enc_eq]; rfl
theorem JSel.open_ {w : World} {x : JSel} {cs : List Value} (h : RdL w x.enc cs) : ∃ A4 c4, cs = [.string x.as_, .string x.name, .bool x.one, .int .i64 x.id, .slice A4 x.kids.length c4] ∧ Rd w (slD JSel.enc 5 x.kids) (.slice A4 x.kids.length c4) ∧ x.as_.size ≤ 9223372036854775807 ∧ x.name.size ≤ 9223372036854775807 ∧ x.kids.length ≤ 9223372036854775807 := by
  rw [JSel.enc_eq] at h
  obtain ⟨v0, t0, e0, h0, r0⟩ := RdL.cons_inv h
  obtain ⟨v1, t1, e1, h1, r1⟩ := RdL.cons_inv r0
  obtain ⟨v2, t2, e2, h2, r2⟩ := RdL.cons_inv r1
  obtain ⟨v3, t3, e3, h3, r3⟩ := RdL.cons_inv r2
  obtain ⟨v4, t4, e4, h4, r4⟩ := RdL.cons_inv r3
  have e_ := RdL.nil_inv r4
  subst e_ e4 e3 e2 e1 e0
  simp only [Rd] at h0
  obtain ⟨rfl, l0⟩ := h0
  simp only [Rd] at h1
  obtain ⟨rfl, l1⟩ := h1
  simp only [Rd] at h2
  subst h2
  simp only [Rd] at h3
  subst h3
  obtain ⟨A4, c4, rfl, m4, n4, g4⟩ := Rd.slice h4
  unfold maxLen at n4
  exact ⟨A4, c4, rfl, g4, l0, l1, (by omega)⟩
theorem JSel.close_ {w : World} (x : JSel) {A4 : Option Addr} {c4 : Nat} (g4 : Rd w (slD JSel.enc 5 x.kids) (.slice A4 x.kids.length c4)) (l0 : x.as_.size ≤ 9223372036854775807) (l1 : x.name.size ≤ 9223372036854775807) : RdL w x.enc [.string x.as_, .string x.name, .bool x.one, .int .i64 x.id, .slice A4 x.kids.length c4] := by
  rw [JSel.enc_eq]
  exact .cons (by simp only [Rd, true_and]; exact l0) (.cons (by simp only [Rd, true_and]; exact l1) (.cons (by simp only [Rd]) (.cons (by simp only [Rd]) (.cons g4 (.nil)))))
theorem JSel.elem {w : World} {xs : List JSel} {A : Option Addr} {n c : Nat} (h : Rd w (slD JSel.enc 5 xs) (.slice A n c)) (k : Nat) (hk : k < xs.length) : ∃ ad A4 c4, A = some ad ∧ w.cell? (ad.add (k * 5)) = some (.string xs[k].as_) ∧ w.cell? ⟨(ad.add (k * 5)).block, (ad.add (k * 5)).off + 1, none⟩ = some (.string xs[k].name) ∧ w.cell? ⟨(ad.add (k * 5)).block, (ad.add (k * 5)).off + 2, none⟩ = some (.bool xs[k].one) ∧ w.cell? ⟨(ad.add (k * 5)).block, (ad.add (k * 5)).off + 3, none⟩ = some (.int .i64 xs[k].id) ∧ w.cell? ⟨(ad.add (k * 5)).block, (ad.add (k * 5)).off + 4, none⟩ = some (.slice A4 xs[k].kids.length c4) ∧ Rd w (slD JSel.enc 5 xs[k].kids) (.slice A4 xs[k].kids.length c4) ∧ xs[k].as_.size ≤ 9223372036854775807 ∧ xs[k].name.size ≤ 9223372036854775807 ∧ xs[k].kids.length ≤ 9223372036854775807 := by
  obtain ⟨ad, us, h1, h2, h3⟩ := Rd.elem JSel.enc_len h k xs[k] (by simp [hk])
  obtain ⟨A4, c4, rfl, g4, l0, l1, n4⟩ := JSel.open_ h2
  exact ⟨ad, A4, c4, h1, by simpa using h3 0 _ rfl, by rw [← addr_field _ _ 1 (by omega)]; exact h3 1 _ rfl, by rw [← addr_field _ _ 2 (by omega)]; exact h3 2 _ rfl, by rw [← addr_field _ _ 3 (by omega)]; exact h3 3 _ rfl, by rw [← addr_field _ _ 4 (by omega)]; exact h3 4 _ rfl, g4, l0, l1, n4⟩

/-! ### Field -/
structure JField where
  name : ByteArray
  of : ByteArray
  list : Bool
  must : Bool
  far : Bool
  hidden : Bool
  shared : Bool
  needs : List ByteArray
def JField.enc (x : JField) : List D := [.str x.name, .str x.of, .bool x.list, .bool x.must, .bool x.far, .bool x.hidden, .bool x.shared, slD strD 1 x.needs]
theorem JField.enc_eq (x : JField) : x.enc = [.str x.name, .str x.of, .bool x.list, .bool x.must, .bool x.far, .bool x.hidden, .bool x.shared, slD strD 1 x.needs] := rfl
theorem JField.enc_len (x : JField) : x.enc.length = 8 := by rw [JField.enc_eq]; rfl
theorem JField.open_ {w : World} {x : JField} {cs : List Value} (h : RdL w x.enc cs) : ∃ A7 c7, cs = [.string x.name, .string x.of, .bool x.list, .bool x.must, .bool x.far, .bool x.hidden, .bool x.shared, .slice A7 x.needs.length c7] ∧ Rd w (slD strD 1 x.needs) (.slice A7 x.needs.length c7) ∧ x.name.size ≤ 9223372036854775807 ∧ x.of.size ≤ 9223372036854775807 ∧ x.needs.length ≤ 9223372036854775807 := by
  rw [JField.enc_eq] at h
  obtain ⟨v0, t0, e0, h0, r0⟩ := RdL.cons_inv h
  obtain ⟨v1, t1, e1, h1, r1⟩ := RdL.cons_inv r0
  obtain ⟨v2, t2, e2, h2, r2⟩ := RdL.cons_inv r1
  obtain ⟨v3, t3, e3, h3, r3⟩ := RdL.cons_inv r2
  obtain ⟨v4, t4, e4, h4, r4⟩ := RdL.cons_inv r3
  obtain ⟨v5, t5, e5, h5, r5⟩ := RdL.cons_inv r4
  obtain ⟨v6, t6, e6, h6, r6⟩ := RdL.cons_inv r5
  obtain ⟨v7, t7, e7, h7, r7⟩ := RdL.cons_inv r6
  have e_ := RdL.nil_inv r7
  subst e_ e7 e6 e5 e4 e3 e2 e1 e0
  simp only [Rd] at h0
  obtain ⟨rfl, l0⟩ := h0
  simp only [Rd] at h1
  obtain ⟨rfl, l1⟩ := h1
  simp only [Rd] at h2
  subst h2
  simp only [Rd] at h3
  subst h3
  simp only [Rd] at h4
  subst h4
  simp only [Rd] at h5
  subst h5
  simp only [Rd] at h6
  subst h6
  obtain ⟨A7, c7, rfl, m7, n7, g7⟩ := Rd.slice h7
  unfold maxLen at n7
  exact ⟨A7, c7, rfl, g7, l0, l1, (by omega)⟩
theorem JField.close_ {w : World} (x : JField) {A7 : Option Addr} {c7 : Nat} (g7 : Rd w (slD strD 1 x.needs) (.slice A7 x.needs.length c7)) (l0 : x.name.size ≤ 9223372036854775807) (l1 : x.of.size ≤ 9223372036854775807) : RdL w x.enc [.string x.name, .string x.of, .bool x.list, .bool x.must, .bool x.far, .bool x.hidden, .bool x.shared, .slice A7 x.needs.length c7] := by
  rw [JField.enc_eq]
  exact .cons (by simp only [Rd, true_and]; exact l0) (.cons (by simp only [Rd, true_and]; exact l1) (.cons (by simp only [Rd]) (.cons (by simp only [Rd]) (.cons (by simp only [Rd]) (.cons (by simp only [Rd]) (.cons (by simp only [Rd]) (.cons g7 (.nil))))))))
theorem JField.elem {w : World} {xs : List JField} {A : Option Addr} {n c : Nat} (h : Rd w (slD JField.enc 8 xs) (.slice A n c)) (k : Nat) (hk : k < xs.length) : ∃ ad A7 c7, A = some ad ∧ w.cell? (ad.add (k * 8)) = some (.string xs[k].name) ∧ w.cell? ⟨(ad.add (k * 8)).block, (ad.add (k * 8)).off + 1, none⟩ = some (.string xs[k].of) ∧ w.cell? ⟨(ad.add (k * 8)).block, (ad.add (k * 8)).off + 2, none⟩ = some (.bool xs[k].list) ∧ w.cell? ⟨(ad.add (k * 8)).block, (ad.add (k * 8)).off + 3, none⟩ = some (.bool xs[k].must) ∧ w.cell? ⟨(ad.add (k * 8)).block, (ad.add (k * 8)).off + 4, none⟩ = some (.bool xs[k].far) ∧ w.cell? ⟨(ad.add (k * 8)).block, (ad.add (k * 8)).off + 5, none⟩ = some (.bool xs[k].hidden) ∧ w.cell? ⟨(ad.add (k * 8)).block, (ad.add (k * 8)).off + 6, none⟩ = some (.bool xs[k].shared) ∧ w.cell? ⟨(ad.add (k * 8)).block, (ad.add (k * 8)).off + 7, none⟩ = some (.slice A7 xs[k].needs.length c7) ∧ Rd w (slD strD 1 xs[k].needs) (.slice A7 xs[k].needs.length c7) ∧ xs[k].name.size ≤ 9223372036854775807 ∧ xs[k].of.size ≤ 9223372036854775807 ∧ xs[k].needs.length ≤ 9223372036854775807 := by
  obtain ⟨ad, us, h1, h2, h3⟩ := Rd.elem JField.enc_len h k xs[k] (by simp [hk])
  obtain ⟨A7, c7, rfl, g7, l0, l1, n7⟩ := JField.open_ h2
  exact ⟨ad, A7, c7, h1, by simpa using h3 0 _ rfl, by rw [← addr_field _ _ 1 (by omega)]; exact h3 1 _ rfl, by rw [← addr_field _ _ 2 (by omega)]; exact h3 2 _ rfl, by rw [← addr_field _ _ 3 (by omega)]; exact h3 3 _ rfl, by rw [← addr_field _ _ 4 (by omega)]; exact h3 4 _ rfl, by rw [← addr_field _ _ 5 (by omega)]; exact h3 5 _ rfl, by rw [← addr_field _ _ 6 (by omega)]; exact h3 6 _ rfl, by rw [← addr_field _ _ 7 (by omega)]; exact h3 7 _ rfl, g7, l0, l1, n7⟩

/-! ### Typ -/
structure JTyp where
  name : ByteArray
  key : ByteArray
  fields : List JField
def JTyp.enc (x : JTyp) : List D := [.str x.name, .str x.key, slD JField.enc 8 x.fields]
theorem JTyp.enc_eq (x : JTyp) : x.enc = [.str x.name, .str x.key, slD JField.enc 8 x.fields] := rfl
theorem JTyp.enc_len (x : JTyp) : x.enc.length = 3 := by rw [JTyp.enc_eq]; rfl
theorem JTyp.open_ {w : World} {x : JTyp} {cs : List Value} (h : RdL w x.enc cs) : ∃ A2 c2, cs = [.string x.name, .string x.key, .slice A2 x.fields.length c2] ∧ Rd w (slD JField.enc 8 x.fields) (.slice A2 x.fields.length c2) ∧ x.name.size ≤ 9223372036854775807 ∧ x.key.size ≤ 9223372036854775807 ∧ x.fields.length ≤ 9223372036854775807 := by
  rw [JTyp.enc_eq] at h
  obtain ⟨v0, t0, e0, h0, r0⟩ := RdL.cons_inv h
  obtain ⟨v1, t1, e1, h1, r1⟩ := RdL.cons_inv r0
  obtain ⟨v2, t2, e2, h2, r2⟩ := RdL.cons_inv r1
  have e_ := RdL.nil_inv r2
  subst e_ e2 e1 e0
  simp only [Rd] at h0
  obtain ⟨rfl, l0⟩ := h0
  simp only [Rd] at h1
  obtain ⟨rfl, l1⟩ := h1
  obtain ⟨A2, c2, rfl, m2, n2, g2⟩ := Rd.slice h2
  unfold maxLen at n2
  exact ⟨A2, c2, rfl, g2, l0, l1, (by omega)⟩
theorem JTyp.close_ {w : World} (x : JTyp) {A2 : Option Addr} {c2 : Nat} (g2 : Rd w (slD JField.enc 8 x.fields) (.slice A2 x.fields.length c2)) (l0 : x.name.size ≤ 9223372036854775807) (l1 : x.key.size ≤ 9223372036854775807) : RdL w x.enc [.string x.name, .string x.key, .slice A2 x.fields.length c2] := by
  rw [JTyp.enc_eq]
  exact .cons (by simp only [Rd, true_and]; exact l0) (.cons (by simp only [Rd, true_and]; exact l1) (.cons g2 (.nil)))
theorem JTyp.elem {w : World} {xs : List JTyp} {A : Option Addr} {n c : Nat} (h : Rd w (slD JTyp.enc 3 xs) (.slice A n c)) (k : Nat) (hk : k < xs.length) : ∃ ad A2 c2, A = some ad ∧ w.cell? (ad.add (k * 3)) = some (.string xs[k].name) ∧ w.cell? ⟨(ad.add (k * 3)).block, (ad.add (k * 3)).off + 1, none⟩ = some (.string xs[k].key) ∧ w.cell? ⟨(ad.add (k * 3)).block, (ad.add (k * 3)).off + 2, none⟩ = some (.slice A2 xs[k].fields.length c2) ∧ Rd w (slD JField.enc 8 xs[k].fields) (.slice A2 xs[k].fields.length c2) ∧ xs[k].name.size ≤ 9223372036854775807 ∧ xs[k].key.size ≤ 9223372036854775807 ∧ xs[k].fields.length ≤ 9223372036854775807 := by
  obtain ⟨ad, us, h1, h2, h3⟩ := Rd.elem JTyp.enc_len h k xs[k] (by simp [hk])
  obtain ⟨A2, c2, rfl, g2, l0, l1, n2⟩ := JTyp.open_ h2
  exact ⟨ad, A2, c2, h1, by simpa using h3 0 _ rfl, by rw [← addr_field _ _ 1 (by omega)]; exact h3 1 _ rfl, by rw [← addr_field _ _ 2 (by omega)]; exact h3 2 _ rfl, g2, l0, l1, n2⟩

/-! ### Part -/
structure JPart where
  name : ByteArray
  types : List JTyp
def JPart.enc (x : JPart) : List D := [.str x.name, slD JTyp.enc 3 x.types]
theorem JPart.enc_eq (x : JPart) : x.enc = [.str x.name, slD JTyp.enc 3 x.types] := rfl
theorem JPart.enc_len (x : JPart) : x.enc.length = 2 := by rw [JPart.enc_eq]; rfl
theorem JPart.open_ {w : World} {x : JPart} {cs : List Value} (h : RdL w x.enc cs) : ∃ A1 c1, cs = [.string x.name, .slice A1 x.types.length c1] ∧ Rd w (slD JTyp.enc 3 x.types) (.slice A1 x.types.length c1) ∧ x.name.size ≤ 9223372036854775807 ∧ x.types.length ≤ 9223372036854775807 := by
  rw [JPart.enc_eq] at h
  obtain ⟨v0, t0, e0, h0, r0⟩ := RdL.cons_inv h
  obtain ⟨v1, t1, e1, h1, r1⟩ := RdL.cons_inv r0
  have e_ := RdL.nil_inv r1
  subst e_ e1 e0
  simp only [Rd] at h0
  obtain ⟨rfl, l0⟩ := h0
  obtain ⟨A1, c1, rfl, m1, n1, g1⟩ := Rd.slice h1
  unfold maxLen at n1
  exact ⟨A1, c1, rfl, g1, l0, (by omega)⟩
theorem JPart.close_ {w : World} (x : JPart) {A1 : Option Addr} {c1 : Nat} (g1 : Rd w (slD JTyp.enc 3 x.types) (.slice A1 x.types.length c1)) (l0 : x.name.size ≤ 9223372036854775807) : RdL w x.enc [.string x.name, .slice A1 x.types.length c1] := by
  rw [JPart.enc_eq]
  exact .cons (by simp only [Rd, true_and]; exact l0) (.cons g1 (.nil))
theorem JPart.elem {w : World} {xs : List JPart} {A : Option Addr} {n c : Nat} (h : Rd w (slD JPart.enc 2 xs) (.slice A n c)) (k : Nat) (hk : k < xs.length) : ∃ ad A1 c1, A = some ad ∧ w.cell? (ad.add (k * 2)) = some (.string xs[k].name) ∧ w.cell? ⟨(ad.add (k * 2)).block, (ad.add (k * 2)).off + 1, none⟩ = some (.slice A1 xs[k].types.length c1) ∧ Rd w (slD JTyp.enc 3 xs[k].types) (.slice A1 xs[k].types.length c1) ∧ xs[k].name.size ≤ 9223372036854775807 ∧ xs[k].types.length ≤ 9223372036854775807 := by
  obtain ⟨ad, us, h1, h2, h3⟩ := Rd.elem JPart.enc_len h k xs[k] (by simp [hk])
  obtain ⟨A1, c1, rfl, g1, l0, n1⟩ := JPart.open_ h2
  exact ⟨ad, A1, c1, h1, by simpa using h3 0 _ rfl, by rw [← addr_field _ _ 1 (by omega)]; exact h3 1 _ rfl, g1, l0, n1⟩

/-! ### Step -/
structure JStep where
  part : Int
  way : List ByteArray
  typ : ByteArray
  sels : List JSel
  after_ : List Int
  brings : List ByteArray
def JStep.enc (x : JStep) : List D := [.int .i64 x.part, slD strD 1 x.way, .str x.typ, slD JSel.enc 5 x.sels, slD intD 1 x.after_, slD strD 1 x.brings]
theorem JStep.enc_eq (x : JStep) : x.enc = [.int .i64 x.part, slD strD 1 x.way, .str x.typ, slD JSel.enc 5 x.sels, slD intD 1 x.after_, slD strD 1 x.brings] := rfl
theorem JStep.enc_len (x : JStep) : x.enc.length = 6 := by rw [JStep.enc_eq]; rfl
theorem JStep.open_ {w : World} {x : JStep} {cs : List Value} (h : RdL w x.enc cs) : ∃ A1 c1 A3 c3 A4 c4 A5 c5, cs = [.int .i64 x.part, .slice A1 x.way.length c1, .string x.typ, .slice A3 x.sels.length c3, .slice A4 x.after_.length c4, .slice A5 x.brings.length c5] ∧ Rd w (slD strD 1 x.way) (.slice A1 x.way.length c1) ∧ Rd w (slD JSel.enc 5 x.sels) (.slice A3 x.sels.length c3) ∧ Rd w (slD intD 1 x.after_) (.slice A4 x.after_.length c4) ∧ Rd w (slD strD 1 x.brings) (.slice A5 x.brings.length c5) ∧ x.typ.size ≤ 9223372036854775807 ∧ x.way.length ≤ 9223372036854775807 ∧ x.sels.length ≤ 9223372036854775807 ∧ x.after_.length ≤ 9223372036854775807 ∧ x.brings.length ≤ 9223372036854775807 := by
  rw [JStep.enc_eq] at h
  obtain ⟨v0, t0, e0, h0, r0⟩ := RdL.cons_inv h
  obtain ⟨v1, t1, e1, h1, r1⟩ := RdL.cons_inv r0
  obtain ⟨v2, t2, e2, h2, r2⟩ := RdL.cons_inv r1
  obtain ⟨v3, t3, e3, h3, r3⟩ := RdL.cons_inv r2
  obtain ⟨v4, t4, e4, h4, r4⟩ := RdL.cons_inv r3
  obtain ⟨v5, t5, e5, h5, r5⟩ := RdL.cons_inv r4
  have e_ := RdL.nil_inv r5
  subst e_ e5 e4 e3 e2 e1 e0
  simp only [Rd] at h0
  subst h0
  obtain ⟨A1, c1, rfl, m1, n1, g1⟩ := Rd.slice h1
  unfold maxLen at n1
  simp only [Rd] at h2
  obtain ⟨rfl, l2⟩ := h2
  obtain ⟨A3, c3, rfl, m3, n3, g3⟩ := Rd.slice h3
  unfold maxLen at n3
  obtain ⟨A4, c4, rfl, m4, n4, g4⟩ := Rd.slice h4
  unfold maxLen at n4
  obtain ⟨A5, c5, rfl, m5, n5, g5⟩ := Rd.slice h5
  unfold maxLen at n5
  exact ⟨A1, c1, A3, c3, A4, c4, A5, c5, rfl, g1, g3, g4, g5, l2, (by omega), (by omega), (by omega), (by omega)⟩
theorem JStep.close_ {w : World} (x : JStep) {A1 : Option Addr} {c1 : Nat} (g1 : Rd w (slD strD 1 x.way) (.slice A1 x.way.length c1)) {A3 : Option Addr} {c3 : Nat} (g3 : Rd w (slD JSel.enc 5 x.sels) (.slice A3 x.sels.length c3)) {A4 : Option Addr} {c4 : Nat} (g4 : Rd w (slD intD 1 x.after_) (.slice A4 x.after_.length c4)) {A5 : Option Addr} {c5 : Nat} (g5 : Rd w (slD strD 1 x.brings) (.slice A5 x.brings.length c5)) (l2 : x.typ.size ≤ 9223372036854775807) : RdL w x.enc [.int .i64 x.part, .slice A1 x.way.length c1, .string x.typ, .slice A3 x.sels.length c3, .slice A4 x.after_.length c4, .slice A5 x.brings.length c5] := by
  rw [JStep.enc_eq]
  exact .cons (by simp only [Rd]) (.cons g1 (.cons (by simp only [Rd, true_and]; exact l2) (.cons g3 (.cons g4 (.cons g5 (.nil))))))
theorem JStep.elem {w : World} {xs : List JStep} {A : Option Addr} {n c : Nat} (h : Rd w (slD JStep.enc 6 xs) (.slice A n c)) (k : Nat) (hk : k < xs.length) : ∃ ad A1 c1 A3 c3 A4 c4 A5 c5, A = some ad ∧ w.cell? (ad.add (k * 6)) = some (.int .i64 xs[k].part) ∧ w.cell? ⟨(ad.add (k * 6)).block, (ad.add (k * 6)).off + 1, none⟩ = some (.slice A1 xs[k].way.length c1) ∧ w.cell? ⟨(ad.add (k * 6)).block, (ad.add (k * 6)).off + 2, none⟩ = some (.string xs[k].typ) ∧ w.cell? ⟨(ad.add (k * 6)).block, (ad.add (k * 6)).off + 3, none⟩ = some (.slice A3 xs[k].sels.length c3) ∧ w.cell? ⟨(ad.add (k * 6)).block, (ad.add (k * 6)).off + 4, none⟩ = some (.slice A4 xs[k].after_.length c4) ∧ w.cell? ⟨(ad.add (k * 6)).block, (ad.add (k * 6)).off + 5, none⟩ = some (.slice A5 xs[k].brings.length c5) ∧ Rd w (slD strD 1 xs[k].way) (.slice A1 xs[k].way.length c1) ∧ Rd w (slD JSel.enc 5 xs[k].sels) (.slice A3 xs[k].sels.length c3) ∧ Rd w (slD intD 1 xs[k].after_) (.slice A4 xs[k].after_.length c4) ∧ Rd w (slD strD 1 xs[k].brings) (.slice A5 xs[k].brings.length c5) ∧ xs[k].typ.size ≤ 9223372036854775807 ∧ xs[k].way.length ≤ 9223372036854775807 ∧ xs[k].sels.length ≤ 9223372036854775807 ∧ xs[k].after_.length ≤ 9223372036854775807 ∧ xs[k].brings.length ≤ 9223372036854775807 := by
  obtain ⟨ad, us, h1, h2, h3⟩ := Rd.elem JStep.enc_len h k xs[k] (by simp [hk])
  obtain ⟨A1, c1, A3, c3, A4, c4, A5, c5, rfl, g1, g3, g4, g5, l2, n1, n3, n4, n5⟩ := JStep.open_ h2
  exact ⟨ad, A1, c1, A3, c3, A4, c4, A5, c5, h1, by simpa using h3 0 _ rfl, by rw [← addr_field _ _ 1 (by omega)]; exact h3 1 _ rfl, by rw [← addr_field _ _ 2 (by omega)]; exact h3 2 _ rfl, by rw [← addr_field _ _ 3 (by omega)]; exact h3 3 _ rfl, by rw [← addr_field _ _ 4 (by omega)]; exact h3 4 _ rfl, by rw [← addr_field _ _ 5 (by omega)]; exact h3 5 _ rfl, g1, g3, g4, g5, l2, n1, n3, n4, n5⟩

/-! ### Owner -/
structure JOwner where
  typ : ByteArray
  field : ByteArray
  parts : List Int
def JOwner.enc (x : JOwner) : List D := [.str x.typ, .str x.field, slD intD 1 x.parts]
theorem JOwner.enc_eq (x : JOwner) : x.enc = [.str x.typ, .str x.field, slD intD 1 x.parts] := rfl
theorem JOwner.enc_len (x : JOwner) : x.enc.length = 3 := by rw [JOwner.enc_eq]; rfl
theorem JOwner.open_ {w : World} {x : JOwner} {cs : List Value} (h : RdL w x.enc cs) : ∃ A2 c2, cs = [.string x.typ, .string x.field, .slice A2 x.parts.length c2] ∧ Rd w (slD intD 1 x.parts) (.slice A2 x.parts.length c2) ∧ x.typ.size ≤ 9223372036854775807 ∧ x.field.size ≤ 9223372036854775807 ∧ x.parts.length ≤ 9223372036854775807 := by
  rw [JOwner.enc_eq] at h
  obtain ⟨v0, t0, e0, h0, r0⟩ := RdL.cons_inv h
  obtain ⟨v1, t1, e1, h1, r1⟩ := RdL.cons_inv r0
  obtain ⟨v2, t2, e2, h2, r2⟩ := RdL.cons_inv r1
  have e_ := RdL.nil_inv r2
  subst e_ e2 e1 e0
  simp only [Rd] at h0
  obtain ⟨rfl, l0⟩ := h0
  simp only [Rd] at h1
  obtain ⟨rfl, l1⟩ := h1
  obtain ⟨A2, c2, rfl, m2, n2, g2⟩ := Rd.slice h2
  unfold maxLen at n2
  exact ⟨A2, c2, rfl, g2, l0, l1, (by omega)⟩
theorem JOwner.close_ {w : World} (x : JOwner) {A2 : Option Addr} {c2 : Nat} (g2 : Rd w (slD intD 1 x.parts) (.slice A2 x.parts.length c2)) (l0 : x.typ.size ≤ 9223372036854775807) (l1 : x.field.size ≤ 9223372036854775807) : RdL w x.enc [.string x.typ, .string x.field, .slice A2 x.parts.length c2] := by
  rw [JOwner.enc_eq]
  exact .cons (by simp only [Rd, true_and]; exact l0) (.cons (by simp only [Rd, true_and]; exact l1) (.cons g2 (.nil)))
theorem JOwner.elem {w : World} {xs : List JOwner} {A : Option Addr} {n c : Nat} (h : Rd w (slD JOwner.enc 3 xs) (.slice A n c)) (k : Nat) (hk : k < xs.length) : ∃ ad A2 c2, A = some ad ∧ w.cell? (ad.add (k * 3)) = some (.string xs[k].typ) ∧ w.cell? ⟨(ad.add (k * 3)).block, (ad.add (k * 3)).off + 1, none⟩ = some (.string xs[k].field) ∧ w.cell? ⟨(ad.add (k * 3)).block, (ad.add (k * 3)).off + 2, none⟩ = some (.slice A2 xs[k].parts.length c2) ∧ Rd w (slD intD 1 xs[k].parts) (.slice A2 xs[k].parts.length c2) ∧ xs[k].typ.size ≤ 9223372036854775807 ∧ xs[k].field.size ≤ 9223372036854775807 ∧ xs[k].parts.length ≤ 9223372036854775807 := by
  obtain ⟨ad, us, h1, h2, h3⟩ := Rd.elem JOwner.enc_len h k xs[k] (by simp [hk])
  obtain ⟨A2, c2, rfl, g2, l0, l1, n2⟩ := JOwner.open_ h2
  exact ⟨ad, A2, c2, h1, by simpa using h3 0 _ rfl, by rw [← addr_field _ _ 1 (by omega)]; exact h3 1 _ rfl, by rw [← addr_field _ _ 2 (by omega)]; exact h3 2 _ rfl, g2, l0, l1, n2⟩

/-! ### Chart -/
structure JChart where
  all : JPart
  owners : List JOwner
def JChart.enc (x : JChart) : List D := [.str x.all.name, slD JTyp.enc 3 x.all.types, slD JOwner.enc 3 x.owners]
theorem JChart.enc_eq (x : JChart) : x.enc = [.str x.all.name, slD JTyp.enc 3 x.all.types, slD JOwner.enc 3 x.owners] := rfl
theorem JChart.enc_nest (x : JChart) : x.enc = (JPart.enc x.all ++ (slD JOwner.enc 3 x.owners :: [])) := by
  rw [JChart.enc_eq, JPart.enc_eq]
  rfl
theorem JChart.enc_len (x : JChart) : x.enc.length = 3 := by rw [JChart.enc_eq]; rfl
theorem JChart.open_ {w : World} {x : JChart} {cs : List Value} (h : RdL w x.enc cs) : ∃ A1 c1 A2 c2, cs = [.string x.all.name, .slice A1 x.all.types.length c1, .slice A2 x.owners.length c2] ∧ Rd w (slD JTyp.enc 3 x.all.types) (.slice A1 x.all.types.length c1) ∧ Rd w (slD JOwner.enc 3 x.owners) (.slice A2 x.owners.length c2) ∧ x.all.name.size ≤ 9223372036854775807 ∧ x.all.types.length ≤ 9223372036854775807 ∧ x.owners.length ≤ 9223372036854775807 := by
  rw [JChart.enc_eq] at h
  obtain ⟨v0, t0, e0, h0, r0⟩ := RdL.cons_inv h
  obtain ⟨v1, t1, e1, h1, r1⟩ := RdL.cons_inv r0
  obtain ⟨v2, t2, e2, h2, r2⟩ := RdL.cons_inv r1
  have e_ := RdL.nil_inv r2
  subst e_ e2 e1 e0
  simp only [Rd] at h0
  obtain ⟨rfl, l0⟩ := h0
  obtain ⟨A1, c1, rfl, m1, n1, g1⟩ := Rd.slice h1
  unfold maxLen at n1
  obtain ⟨A2, c2, rfl, m2, n2, g2⟩ := Rd.slice h2
  unfold maxLen at n2
  exact ⟨A1, c1, A2, c2, rfl, g1, g2, l0, (by omega), (by omega)⟩
theorem JChart.close_ {w : World} (x : JChart) {A1 : Option Addr} {c1 : Nat} (g1 : Rd w (slD JTyp.enc 3 x.all.types) (.slice A1 x.all.types.length c1)) {A2 : Option Addr} {c2 : Nat} (g2 : Rd w (slD JOwner.enc 3 x.owners) (.slice A2 x.owners.length c2)) (l0 : x.all.name.size ≤ 9223372036854775807) : RdL w x.enc [.string x.all.name, .slice A1 x.all.types.length c1, .slice A2 x.owners.length c2] := by
  rw [JChart.enc_eq]
  exact .cons (by simp only [Rd, true_and]; exact l0) (.cons g1 (.cons g2 (.nil)))
theorem JChart.elem {w : World} {xs : List JChart} {A : Option Addr} {n c : Nat} (h : Rd w (slD JChart.enc 3 xs) (.slice A n c)) (k : Nat) (hk : k < xs.length) : ∃ ad A1 c1 A2 c2, A = some ad ∧ w.cell? (ad.add (k * 3)) = some (.string xs[k].all.name) ∧ w.cell? ⟨(ad.add (k * 3)).block, (ad.add (k * 3)).off + 1, none⟩ = some (.slice A1 xs[k].all.types.length c1) ∧ w.cell? ⟨(ad.add (k * 3)).block, (ad.add (k * 3)).off + 2, none⟩ = some (.slice A2 xs[k].owners.length c2) ∧ Rd w (slD JTyp.enc 3 xs[k].all.types) (.slice A1 xs[k].all.types.length c1) ∧ Rd w (slD JOwner.enc 3 xs[k].owners) (.slice A2 xs[k].owners.length c2) ∧ xs[k].all.name.size ≤ 9223372036854775807 ∧ xs[k].all.types.length ≤ 9223372036854775807 ∧ xs[k].owners.length ≤ 9223372036854775807 := by
  obtain ⟨ad, us, h1, h2, h3⟩ := Rd.elem JChart.enc_len h k xs[k] (by simp [hk])
  obtain ⟨A1, c1, A2, c2, rfl, g1, g2, l0, n1, n2⟩ := JChart.open_ h2
  exact ⟨ad, A1, c1, A2, c2, h1, by simpa using h3 0 _ rfl, by rw [← addr_field _ _ 1 (by omega)]; exact h3 1 _ rfl, by rw [← addr_field _ _ 2 (by omega)]; exact h3 2 _ rfl, g1, g2, l0, n1, n2⟩

/-! ### PartFault -/
structure JPartFault where
  at_ : Int
  code : Int
def JPartFault.enc (x : JPartFault) : List D := [.int .i64 x.at_, .int .i64 x.code]
theorem JPartFault.enc_eq (x : JPartFault) : x.enc = [.int .i64 x.at_, .int .i64 x.code] := rfl
theorem JPartFault.enc_len (x : JPartFault) : x.enc.length = 2 := by rw [JPartFault.enc_eq]; rfl
theorem JPartFault.open_ {w : World} {x : JPartFault} {cs : List Value} (h : RdL w x.enc cs) : cs = [.int .i64 x.at_, .int .i64 x.code] := by
  rw [JPartFault.enc_eq] at h
  obtain ⟨v0, t0, e0, h0, r0⟩ := RdL.cons_inv h
  obtain ⟨v1, t1, e1, h1, r1⟩ := RdL.cons_inv r0
  have e_ := RdL.nil_inv r1
  subst e_ e1 e0
  simp only [Rd] at h0
  subst h0
  simp only [Rd] at h1
  subst h1
  rfl
theorem JPartFault.close_ {w : World} (x : JPartFault)  : RdL w x.enc [.int .i64 x.at_, .int .i64 x.code] := by
  rw [JPartFault.enc_eq]
  exact .cons (by simp only [Rd]) (.cons (by simp only [Rd]) (.nil))
theorem JPartFault.elem {w : World} {xs : List JPartFault} {A : Option Addr} {n c : Nat} (h : Rd w (slD JPartFault.enc 2 xs) (.slice A n c)) (k : Nat) (hk : k < xs.length) : ∃ ad, A = some ad ∧ w.cell? (ad.add (k * 2)) = some (.int .i64 xs[k].at_) ∧ w.cell? ⟨(ad.add (k * 2)).block, (ad.add (k * 2)).off + 1, none⟩ = some (.int .i64 xs[k].code) := by
  obtain ⟨ad, us, h1, h2, h3⟩ := Rd.elem JPartFault.enc_len h k xs[k] (by simp [hk])
  obtain rfl := JPartFault.open_ h2
  exact ⟨ad, h1, by simpa using h3 0 _ rfl, by rw [← addr_field _ _ 1 (by omega)]; exact h3 1 _ rfl⟩

end Go.Proofs.Ytmkagpmdindlpaa.Lib
