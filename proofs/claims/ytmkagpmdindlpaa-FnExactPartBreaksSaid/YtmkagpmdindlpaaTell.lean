/- What walks tell: the ends of ways that part by themselves, structs with a bool, the first of a list. No condition. -/
import Derived.Test.YtmkagpmdindlpaaLeaf
import Derived.Test.YtmkagpmdindlpaaGr
set_option linter.unusedVariables false
set_option linter.unusedSimpArgs false
namespace Go.Proofs.Ytmkagpmdindlpaa.Lib
open Go.RowKit

theorem tf_no {p : Prop} : tf p = false ↔ ¬ p := by
  by_cases h : p
  · rw [tf_t h]; exact ⟨fun e => (by cases e), fun e => absurd h e⟩
  · rw [tf_f h]; exact ⟨fun _ => h, fun _ => rfl⟩
theorem Ret.fin {w w' : World} {p : Prop} {b : Bool} (h : b = true ↔ p) (hb : Below w.heap.size w w') : Ret w (.bool (tf p)) (.returned (.bool b)) w' := ⟨by
  have : b = tf p := by
    cases b
    · rw [tf_f]; intro hp; exact absurd (h.2 hp) (by decide)
    · rw [tf_t (h.1 rfl)]
  rw [this], hb⟩
theorem lit_iff {s : ByteArray} {l : List UInt8} : s.toList = l ↔ s = ⟨l.toArray⟩ := by
  rw [ByteArray.toList_eq]
  constructor
  · intro h; cases s; simp only [ByteArray.mk.injEq] at h ⊢; exact Array.toList_inj.1 (by simpa using h)
  · intro h; rw [h]
theorem str_iff {s t : ByteArray} : s.toList = t.toList ↔ s = t := by
  constructor
  · intro h
    exact Classical.byContradiction fun hn => by have := str_f hn; simp [h] at this
  · intro h
    rw [h]
theorem find_no {α : Type} {p : α → Prop} {xs : List α} (h : ∀ j (hj : j < xs.length), ¬ p xs[j]) : xs.find? (fun x => tf (p x)) = none := by
  rw [List.find?_eq_none]
  intro x hx
  obtain ⟨j, hj, rfl⟩ := List.getElem_of_mem hx
  rw [tf_f (h j hj)]
  decide
theorem find_yes {α : Type} {p : α → Prop} {xs : List α} {k : Nat} (hk : k < xs.length) (h : p xs[k]) (hn : ∀ j (hj : j < xs.length), j < k → ¬ p xs[j]) : xs.find? (fun x => tf (p x)) = some xs[k] := by
  rw [List.find?_eq_some_iff_getElem]
  exact ⟨tf_t h, k, hk, rfl, fun j hj => by rw [tf_f (hn j (by omega) hj)]; rfl⟩
/-- The call returned a struct, new through and through, and a bool. -/
def MadeB (w : World) (ds : List D) (b : Bool) (e : Ending) (w' : World) : Prop := ∃ us fp, e = .returned (.tuple #[.agg us.toArray, .bool b]) ∧ OwnRow w' ds us fp ∧ Fresh w fp ∧ Below w.heap.size w w'
/-- The call returned a struct that stands in memory, and a bool. -/
def TellB (w : World) (ds : List D) (b : Bool) (e : Ending) (w' : World) : Prop := ∃ us, e = .returned (.tuple #[.agg us.toArray, .bool b]) ∧ RdL w' ds us ∧ Below w.heap.size w w'
theorem info_strE : (Try.prog.info? 9).map (fun i => (i.zero, i.size, i.bytes)) = some (some (.string ⟨#[]⟩), 1, 16) := by kernel_rfl
end Go.Proofs.Ytmkagpmdindlpaa.Lib
