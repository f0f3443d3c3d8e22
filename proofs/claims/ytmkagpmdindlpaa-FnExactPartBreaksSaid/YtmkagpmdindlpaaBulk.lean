/- How much a value holds: texts' bytes and lists' lengths. Printed by gsz.py. No condition. -/
import Derived.Test.YtmkagpmdindlpaaTypes
set_option linter.unusedVariables false
set_option linter.unusedSimpArgs false
namespace Go.Proofs.Ytmkagpmdindlpaa.Lib
def sumB (xs : List ByteArray) : Nat := (xs.map (·.size)).sum
theorem sumB_take (xs : List ByteArray) (k : Nat) (h : k < xs.length) : sumB (xs.take (k + 1)) = sumB (xs.take k) + xs[k].size := by
  unfold sumB
  rw [List.take_succ_eq_append_getElem h, List.map_append, List.sum_append]
  simp
theorem sumB_le (xs : List ByteArray) (k : Nat) : sumB (xs.take k) ≤ sumB xs := by
  unfold sumB
  conv => rhs; rw [← List.take_append_drop k xs]
  rw [List.map_append, List.sum_append]
  omega
def strsBulk (xs : List ByteArray) : Nat := xs.length + sumB xs
def bulkL {α : Type} (f : α → Nat) (xs : List α) : Nat := xs.length + (xs.map f).sum
theorem bulkL_strs (xs : List ByteArray) : bulkL (fun s : ByteArray => s.size) xs = strsBulk xs := rfl
theorem bulkL_ints (xs : List Int) : bulkL (fun _ : Int => 0) xs = xs.length := by
  unfold bulkL
  have : (xs.map fun _ : Int => 0).sum = 0 := by
    induction xs with
    | nil => rfl
    | cons x r ih => rw [List.map_cons, List.sum_cons, ih]
  omega
theorem bulkL_mem {α : Type} {f : α → Nat} {xs : List α} {n : Nat} (h : bulkL f xs ≤ n) {x : α} (hx : x ∈ xs) : f x ≤ n := by
  have : f x ≤ (xs.map f).sum := by
    clear h
    induction xs with
    | nil => cases hx
    | cons y r ih =>
      rw [List.map_cons, List.sum_cons]
      rcases List.mem_cons.1 hx with rfl | hx
      · omega
      · have := ih hx
        omega
  unfold bulkL at h
  omega

mutual
def JValue.bulk : JValue → Nat
  | ⟨y0, y1, y2, y3, y4⟩ => y2.size + strsBulk y3 + (y4.length + JValue.bulks y4)
def JValue.bulks : List JValue → Nat
  | [] => 0
  | x :: r => JValue.bulk x + JValue.bulks r
end
theorem JValue.bulk_eq (x : JValue) : JValue.bulk x = x.text.size + strsBulk x.names + (x.kids.length + JValue.bulks x.kids) := by cases x; simp only [JValue.bulk]
theorem JValue.kids_lt (v : JValue) : SizeOf.sizeOf v.kids < SizeOf.sizeOf v := by
  cases v
  simp
  omega
theorem JValue.bulks_take (xs : List JValue) (k : Nat) (h : k < xs.length) : JValue.bulks (xs.take (k + 1)) = JValue.bulks (xs.take k) + JValue.bulk xs[k] := by
  induction xs generalizing k with
  | nil => simp at h
  | cons x r ih =>
    cases k with
    | zero => simp [JValue.bulks]
    | succ k =>
      have := ih k (by simpa using h)
      simp only [List.take_succ_cons, JValue.bulks, List.getElem_cons_succ]
      omega
theorem JValue.bulkL_eq (xs : List JValue) : bulkL JValue.bulk xs = xs.length + JValue.bulks xs := by
  unfold bulkL
  congr 1
  induction xs with
  | nil => simp [JValue.bulks]
  | cons x r ih => rw [List.map_cons, List.sum_cons, ih, JValue.bulks]
theorem JValue.bulks_le (xs : List JValue) (k : Nat) : JValue.bulks (xs.take k) ≤ JValue.bulks xs := by
  induction xs generalizing k with
  | nil => simp
  | cons x r ih =>
    cases k with
    | zero => simp [JValue.bulks]
    | succ k =>
      have := ih k
      simp only [List.take_succ_cons, JValue.bulks]
      omega

def JCell.bulk (x : JCell) : Nat := x.name.size + JValue.bulk x.value
theorem JCell.bulk_eq (x : JCell) : JCell.bulk x = x.name.size + JValue.bulk x.value := rfl
def JCell.bulks : List JCell → Nat
  | [] => 0
  | x :: r => JCell.bulk x + JCell.bulks r
theorem JCell.bulks_take (xs : List JCell) (k : Nat) (h : k < xs.length) : JCell.bulks (xs.take (k + 1)) = JCell.bulks (xs.take k) + JCell.bulk xs[k] := by
  induction xs generalizing k with
  | nil => simp at h
  | cons x r ih =>
    cases k with
    | zero => simp [JCell.bulks]
    | succ k =>
      have := ih k (by simpa using h)
      simp only [List.take_succ_cons, JCell.bulks, List.getElem_cons_succ]
      omega
theorem JCell.bulkL_eq (xs : List JCell) : bulkL JCell.bulk xs = xs.length + JCell.bulks xs := by
  unfold bulkL
  congr 1
  induction xs with
  | nil => simp [JCell.bulks]
  | cons x r ih => rw [List.map_cons, List.sum_cons, ih, JCell.bulks]
theorem JCell.bulks_le (xs : List JCell) (k : Nat) : JCell.bulks (xs.take k) ≤ JCell.bulks xs := by
  induction xs generalizing k with
  | nil => simp
  | cons x r ih =>
    cases k with
    | zero => simp [JCell.bulks]
    | succ k =>
      have := ih k
      simp only [List.take_succ_cons, JCell.bulks]
      omega

def JRow.bulk (x : JRow) : Nat := x.typ.size + (x.cells.length + JCell.bulks x.cells)
theorem JRow.bulk_eq (x : JRow) : JRow.bulk x = x.typ.size + (x.cells.length + JCell.bulks x.cells) := rfl
def JRow.bulks : List JRow → Nat
  | [] => 0
  | x :: r => JRow.bulk x + JRow.bulks r
theorem JRow.bulks_take (xs : List JRow) (k : Nat) (h : k < xs.length) : JRow.bulks (xs.take (k + 1)) = JRow.bulks (xs.take k) + JRow.bulk xs[k] := by
  induction xs generalizing k with
  | nil => simp at h
  | cons x r ih =>
    cases k with
    | zero => simp [JRow.bulks]
    | succ k =>
      have := ih k (by simpa using h)
      simp only [List.take_succ_cons, JRow.bulks, List.getElem_cons_succ]
      omega
theorem JRow.bulkL_eq (xs : List JRow) : bulkL JRow.bulk xs = xs.length + JRow.bulks xs := by
  unfold bulkL
  congr 1
  induction xs with
  | nil => simp [JRow.bulks]
  | cons x r ih => rw [List.map_cons, List.sum_cons, ih, JRow.bulks]
theorem JRow.bulks_le (xs : List JRow) (k : Nat) : JRow.bulks (xs.take k) ≤ JRow.bulks xs := by
  induction xs generalizing k with
  | nil => simp
  | cons x r ih =>
    cases k with
    | zero => simp [JRow.bulks]
    | succ k =>
      have := ih k
      simp only [List.take_succ_cons, JRow.bulks]
      omega

mutual
def JSel.bulk : JSel → Nat
  | ⟨y0, y1, y2, y3, y4⟩ => y0.size + y1.size + (y4.length + JSel.bulks y4)
def JSel.bulks : List JSel → Nat
  | [] => 0
  | x :: r => JSel.bulk x + JSel.bulks r
end
theorem JSel.bulk_eq (x : JSel) : JSel.bulk x = x.as_.size + x.name.size + (x.kids.length + JSel.bulks x.kids) := by cases x; simp only [JSel.bulk]
theorem JSel.kids_lt (v : JSel) : SizeOf.sizeOf v.kids < SizeOf.sizeOf v := by
  cases v
  simp
  omega
theorem JSel.bulks_take (xs : List JSel) (k : Nat) (h : k < xs.length) : JSel.bulks (xs.take (k + 1)) = JSel.bulks (xs.take k) + JSel.bulk xs[k] := by
  induction xs generalizing k with
  | nil => simp at h
  | cons x r ih =>
    cases k with
    | zero => simp [JSel.bulks]
    | succ k =>
      have := ih k (by simpa using h)
      simp only [List.take_succ_cons, JSel.bulks, List.getElem_cons_succ]
      omega
theorem JSel.bulkL_eq (xs : List JSel) : bulkL JSel.bulk xs = xs.length + JSel.bulks xs := by
  unfold bulkL
  congr 1
  induction xs with
  | nil => simp [JSel.bulks]
  | cons x r ih => rw [List.map_cons, List.sum_cons, ih, JSel.bulks]
theorem JSel.bulks_le (xs : List JSel) (k : Nat) : JSel.bulks (xs.take k) ≤ JSel.bulks xs := by
  induction xs generalizing k with
  | nil => simp
  | cons x r ih =>
    cases k with
    | zero => simp [JSel.bulks]
    | succ k =>
      have := ih k
      simp only [List.take_succ_cons, JSel.bulks]
      omega

def JField.bulk (x : JField) : Nat := x.name.size + x.of.size + strsBulk x.needs
theorem JField.bulk_eq (x : JField) : JField.bulk x = x.name.size + x.of.size + strsBulk x.needs := rfl
def JField.bulks : List JField → Nat
  | [] => 0
  | x :: r => JField.bulk x + JField.bulks r
theorem JField.bulks_take (xs : List JField) (k : Nat) (h : k < xs.length) : JField.bulks (xs.take (k + 1)) = JField.bulks (xs.take k) + JField.bulk xs[k] := by
  induction xs generalizing k with
  | nil => simp at h
  | cons x r ih =>
    cases k with
    | zero => simp [JField.bulks]
    | succ k =>
      have := ih k (by simpa using h)
      simp only [List.take_succ_cons, JField.bulks, List.getElem_cons_succ]
      omega
theorem JField.bulkL_eq (xs : List JField) : bulkL JField.bulk xs = xs.length + JField.bulks xs := by
  unfold bulkL
  congr 1
  induction xs with
  | nil => simp [JField.bulks]
  | cons x r ih => rw [List.map_cons, List.sum_cons, ih, JField.bulks]
theorem JField.bulks_le (xs : List JField) (k : Nat) : JField.bulks (xs.take k) ≤ JField.bulks xs := by
  induction xs generalizing k with
  | nil => simp
  | cons x r ih =>
    cases k with
    | zero => simp [JField.bulks]
    | succ k =>
      have := ih k
      simp only [List.take_succ_cons, JField.bulks]
      omega

def JTyp.bulk (x : JTyp) : Nat := x.name.size + x.key.size + (x.fields.length + JField.bulks x.fields)
theorem JTyp.bulk_eq (x : JTyp) : JTyp.bulk x = x.name.size + x.key.size + (x.fields.length + JField.bulks x.fields) := rfl
def JTyp.bulks : List JTyp → Nat
  | [] => 0
  | x :: r => JTyp.bulk x + JTyp.bulks r
theorem JTyp.bulks_take (xs : List JTyp) (k : Nat) (h : k < xs.length) : JTyp.bulks (xs.take (k + 1)) = JTyp.bulks (xs.take k) + JTyp.bulk xs[k] := by
  induction xs generalizing k with
  | nil => simp at h
  | cons x r ih =>
    cases k with
    | zero => simp [JTyp.bulks]
    | succ k =>
      have := ih k (by simpa using h)
      simp only [List.take_succ_cons, JTyp.bulks, List.getElem_cons_succ]
      omega
theorem JTyp.bulkL_eq (xs : List JTyp) : bulkL JTyp.bulk xs = xs.length + JTyp.bulks xs := by
  unfold bulkL
  congr 1
  induction xs with
  | nil => simp [JTyp.bulks]
  | cons x r ih => rw [List.map_cons, List.sum_cons, ih, JTyp.bulks]
theorem JTyp.bulks_le (xs : List JTyp) (k : Nat) : JTyp.bulks (xs.take k) ≤ JTyp.bulks xs := by
  induction xs generalizing k with
  | nil => simp
  | cons x r ih =>
    cases k with
    | zero => simp [JTyp.bulks]
    | succ k =>
      have := ih k
      simp only [List.take_succ_cons, JTyp.bulks]
      omega

def JPart.bulk (x : JPart) : Nat := x.name.size + (x.types.length + JTyp.bulks x.types)
theorem JPart.bulk_eq (x : JPart) : JPart.bulk x = x.name.size + (x.types.length + JTyp.bulks x.types) := rfl
def JPart.bulks : List JPart → Nat
  | [] => 0
  | x :: r => JPart.bulk x + JPart.bulks r
theorem JPart.bulks_take (xs : List JPart) (k : Nat) (h : k < xs.length) : JPart.bulks (xs.take (k + 1)) = JPart.bulks (xs.take k) + JPart.bulk xs[k] := by
  induction xs generalizing k with
  | nil => simp at h
  | cons x r ih =>
    cases k with
    | zero => simp [JPart.bulks]
    | succ k =>
      have := ih k (by simpa using h)
      simp only [List.take_succ_cons, JPart.bulks, List.getElem_cons_succ]
      omega
theorem JPart.bulkL_eq (xs : List JPart) : bulkL JPart.bulk xs = xs.length + JPart.bulks xs := by
  unfold bulkL
  congr 1
  induction xs with
  | nil => simp [JPart.bulks]
  | cons x r ih => rw [List.map_cons, List.sum_cons, ih, JPart.bulks]
theorem JPart.bulks_le (xs : List JPart) (k : Nat) : JPart.bulks (xs.take k) ≤ JPart.bulks xs := by
  induction xs generalizing k with
  | nil => simp
  | cons x r ih =>
    cases k with
    | zero => simp [JPart.bulks]
    | succ k =>
      have := ih k
      simp only [List.take_succ_cons, JPart.bulks]
      omega

def JStep.bulk (x : JStep) : Nat := strsBulk x.way + x.typ.size + (x.sels.length + JSel.bulks x.sels) + x.after_.length + strsBulk x.brings
theorem JStep.bulk_eq (x : JStep) : JStep.bulk x = strsBulk x.way + x.typ.size + (x.sels.length + JSel.bulks x.sels) + x.after_.length + strsBulk x.brings := rfl
def JStep.bulks : List JStep → Nat
  | [] => 0
  | x :: r => JStep.bulk x + JStep.bulks r
theorem JStep.bulks_take (xs : List JStep) (k : Nat) (h : k < xs.length) : JStep.bulks (xs.take (k + 1)) = JStep.bulks (xs.take k) + JStep.bulk xs[k] := by
  induction xs generalizing k with
  | nil => simp at h
  | cons x r ih =>
    cases k with
    | zero => simp [JStep.bulks]
    | succ k =>
      have := ih k (by simpa using h)
      simp only [List.take_succ_cons, JStep.bulks, List.getElem_cons_succ]
      omega
theorem JStep.bulkL_eq (xs : List JStep) : bulkL JStep.bulk xs = xs.length + JStep.bulks xs := by
  unfold bulkL
  congr 1
  induction xs with
  | nil => simp [JStep.bulks]
  | cons x r ih => rw [List.map_cons, List.sum_cons, ih, JStep.bulks]
theorem JStep.bulks_le (xs : List JStep) (k : Nat) : JStep.bulks (xs.take k) ≤ JStep.bulks xs := by
  induction xs generalizing k with
  | nil => simp
  | cons x r ih =>
    cases k with
    | zero => simp [JStep.bulks]
    | succ k =>
      have := ih k
      simp only [List.take_succ_cons, JStep.bulks]
      omega

def JOwner.bulk (x : JOwner) : Nat := x.typ.size + x.field.size + x.parts.length
theorem JOwner.bulk_eq (x : JOwner) : JOwner.bulk x = x.typ.size + x.field.size + x.parts.length := rfl
def JOwner.bulks : List JOwner → Nat
  | [] => 0
  | x :: r => JOwner.bulk x + JOwner.bulks r
theorem JOwner.bulks_take (xs : List JOwner) (k : Nat) (h : k < xs.length) : JOwner.bulks (xs.take (k + 1)) = JOwner.bulks (xs.take k) + JOwner.bulk xs[k] := by
  induction xs generalizing k with
  | nil => simp at h
  | cons x r ih =>
    cases k with
    | zero => simp [JOwner.bulks]
    | succ k =>
      have := ih k (by simpa using h)
      simp only [List.take_succ_cons, JOwner.bulks, List.getElem_cons_succ]
      omega
theorem JOwner.bulkL_eq (xs : List JOwner) : bulkL JOwner.bulk xs = xs.length + JOwner.bulks xs := by
  unfold bulkL
  congr 1
  induction xs with
  | nil => simp [JOwner.bulks]
  | cons x r ih => rw [List.map_cons, List.sum_cons, ih, JOwner.bulks]
theorem JOwner.bulks_le (xs : List JOwner) (k : Nat) : JOwner.bulks (xs.take k) ≤ JOwner.bulks xs := by
  induction xs generalizing k with
  | nil => simp
  | cons x r ih =>
    cases k with
    | zero => simp [JOwner.bulks]
    | succ k =>
      have := ih k
      simp only [List.take_succ_cons, JOwner.bulks]
      omega

def JChart.bulk (x : JChart) : Nat := JPart.bulk x.all + (x.owners.length + JOwner.bulks x.owners)
theorem JChart.bulk_eq (x : JChart) : JChart.bulk x = JPart.bulk x.all + (x.owners.length + JOwner.bulks x.owners) := rfl
def JChart.bulks : List JChart → Nat
  | [] => 0
  | x :: r => JChart.bulk x + JChart.bulks r
theorem JChart.bulks_take (xs : List JChart) (k : Nat) (h : k < xs.length) : JChart.bulks (xs.take (k + 1)) = JChart.bulks (xs.take k) + JChart.bulk xs[k] := by
  induction xs generalizing k with
  | nil => simp at h
  | cons x r ih =>
    cases k with
    | zero => simp [JChart.bulks]
    | succ k =>
      have := ih k (by simpa using h)
      simp only [List.take_succ_cons, JChart.bulks, List.getElem_cons_succ]
      omega
theorem JChart.bulkL_eq (xs : List JChart) : bulkL JChart.bulk xs = xs.length + JChart.bulks xs := by
  unfold bulkL
  congr 1
  induction xs with
  | nil => simp [JChart.bulks]
  | cons x r ih => rw [List.map_cons, List.sum_cons, ih, JChart.bulks]
theorem JChart.bulks_le (xs : List JChart) (k : Nat) : JChart.bulks (xs.take k) ≤ JChart.bulks xs := by
  induction xs generalizing k with
  | nil => simp
  | cons x r ih =>
    cases k with
    | zero => simp [JChart.bulks]
    | succ k =>
      have := ih k
      simp only [List.take_succ_cons, JChart.bulks]
      omega

def JPartFault.bulk (x : JPartFault) : Nat := 0
theorem JPartFault.bulk_eq (x : JPartFault) : JPartFault.bulk x = 0 := rfl
def JPartFault.bulks : List JPartFault → Nat
  | [] => 0
  | x :: r => JPartFault.bulk x + JPartFault.bulks r
theorem JPartFault.bulks_take (xs : List JPartFault) (k : Nat) (h : k < xs.length) : JPartFault.bulks (xs.take (k + 1)) = JPartFault.bulks (xs.take k) + JPartFault.bulk xs[k] := by
  induction xs generalizing k with
  | nil => simp at h
  | cons x r ih =>
    cases k with
    | zero => simp [JPartFault.bulks]
    | succ k =>
      have := ih k (by simpa using h)
      simp only [List.take_succ_cons, JPartFault.bulks, List.getElem_cons_succ]
      omega
theorem JPartFault.bulkL_eq (xs : List JPartFault) : bulkL JPartFault.bulk xs = xs.length + JPartFault.bulks xs := by
  unfold bulkL
  congr 1
  induction xs with
  | nil => simp [JPartFault.bulks]
  | cons x r ih => rw [List.map_cons, List.sum_cons, ih, JPartFault.bulks]
theorem JPartFault.bulks_le (xs : List JPartFault) (k : Nat) : JPartFault.bulks (xs.take k) ≤ JPartFault.bulks xs := by
  induction xs generalizing k with
  | nil => simp
  | cons x r ih =>
    cases k with
    | zero => simp [JPartFault.bulks]
    | succ k =>
      have := ih k
      simp only [List.take_succ_cons, JPartFault.bulks]
      omega

end Go.Proofs.Ytmkagpmdindlpaa.Lib
