/- Marks of a struct alone, and what is held of lists at any length's spelling; how many marks fit. Printed by gsmk.py. No condition but numbers up to 2^62. -/
import Derived.Test.YtmkagpmdindlpaaDoorMk
import Derived.Test.YtmkagpmdindlpaaDoorTo
import Derived.Test.YtmkagpmdindlpaaDoorGr
set_option linter.unusedVariables false
set_option linter.unusedSimpArgs false
namespace Go.Proofs.YtmkagpmdindlpaaDoor.Lib
open Go.RowKit

theorem cell_touch {w w' : World} {fp : List Nat} (ht : Touch w w' fp) {b o : Nat} {v : Value} (h : w.cell? ⟨b, o, none⟩ = some v) (hn : b ∉ fp) : w'.cell? ⟨b, o, none⟩ = some v :=
  (World.cell?_of_block (w := w) (a := ⟨b, o, none⟩) (ht.block b (World.block_lt_of_cell? w ⟨b, o, none⟩ h) hn)).trans h
theorem OwnRow.inv {w : World} {d : D} {r : List D} {us : List Value} {fp : List Nat} (h : OwnRow w (d :: r) us fp) : ∃ u us' f1 f2, us = u :: us' ∧ fp = f1 ++ f2 ∧ Own w d u f1 ∧ OwnRow w r us' f2 := by
  simp only [OwnRow] at h
  exact h
theorem ow_int {w : World} {k : IntKind} {n : Int} {u : Value} {f : List Nat} (h : Own w (.int k n) u f) : u = .int k n ∧ f = [] := by simpa only [Own] using h
theorem ow_bool {w : World} {b : Bool} {u : Value} {f : List Nat} (h : Own w (.bool b) u f) : u = .bool b ∧ f = [] := by simpa only [Own] using h
theorem ow_str {w : World} {s : ByteArray} {u : Value} {f : List Nat} (h : Own w (.str s) u f) : (u = .string s ∧ s.size ≤ 9223372036854775807) ∧ f = [] := by simpa only [Own] using h
def MarkedR (w : World) (ds : List D) (us : List Value) (fp : List Nat) (r : Int) (e : Ending) (w' : World) : Prop := e = .returned (.int .i64 r) ∧ OwnRow w' ds us fp ∧ Touch w w' fp
theorem MarkedR.int {w w' : World} {ds : List D} {us : List Value} {fp : List Nat} {a b : Int} (h : a = b) (ho : OwnRow w' ds us fp) (ht : Touch w w' fp) : MarkedR w ds us fp b (.returned (.int .i64 a)) w' := ⟨by rw [h], ho, ht⟩

theorem heldSelS_n (ys : List JSel) (k : Int) (A : Option Addr) (n c : Nat) (w : World) (hx : Rd w (slD JSel.enc 5 (JSel.mks ys k)) (.slice A n c)) (h0 : 0 ≤ k) (h1 : k + ((JSel.cnts ys : Nat) : Int) ≤ 4611686018427387904) :
    Calls Tryd.prog 11 #[.slice A n c, .int .i64 k] w (Ret w (.int .i64 (k + ((JSel.cnts ys : Nat) : Int)))) := by
  obtain rfl := Rd.len hx
  exact heldSelS_c ys k A c w hx h0 h1
theorem strs_len_le (xs : List ByteArray) : xs.length ≤ strsBulk xs := by unfold strsBulk; omega
theorem cntsSel_all : ∀ n, (∀ x : JSel, SizeOf.sizeOf x < n → JSel.cnt x ≤ 8 + 8 * JSel.bulk x) ∧ (∀ xs : List JSel, SizeOf.sizeOf xs < n → JSel.cnts xs ≤ 8 * (xs.length + JSel.bulks xs))
  | 0 => ⟨fun _ h => absurd h (by omega), fun _ h => absurd h (by omega)⟩
  | n + 1 => by
    have ih := cntsSel_all n
    refine ⟨fun x h => ?_, fun xs h => ?_⟩
    · have := ih.2 x.kids (by have := JSel.kids_lt x; omega)
      rw [JSel.cnt_eq, JSel.bulk_eq]
      omega
    · cases xs with
      | nil => simp [JSel.cnts]
      | cons x r =>
        have h1 := ih.1 x (by simp at h; omega)
        have h2 := ih.2 r (by simp at h; omega)
        simp only [JSel.cnts, JSel.bulks, List.length_cons]
        omega
theorem cntsSel_le (xs : List JSel) : JSel.cnts xs ≤ 8 * (xs.length + JSel.bulks xs) := (cntsSel_all _).2 xs (Nat.lt_succ_self _)
end Go.Proofs.YtmkagpmdindlpaaDoor.Lib
