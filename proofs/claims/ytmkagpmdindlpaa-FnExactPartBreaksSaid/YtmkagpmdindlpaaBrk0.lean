/- The fields of a part that can not be asked for as before: plain. No condition. -/
import Derived.Test.YtmkagpmdindlpaaPartV
set_option linter.unusedVariables false
set_option linter.unusedSimpArgs false
namespace Go.Proofs.Ytmkagpmdindlpaa.Lib
open Go.RowKit
def BreakG (f g : JField) (is : Bool) : Prop := f.hidden = false ∧ (is = false ∨ g.hidden = true ∨ g.of ≠ f.of ∨ g.list ≠ f.list)
noncomputable def BreakF (now : JPart) (t : JTyp) (f : JField) : Prop := BreakG f ((now.findF t.name f.name).getD JField.zero) (now.findF t.name f.name).isSome
def wayT (t : JTyp) (f : JField) : ByteArray := t.name ++ ⟨#[46]⟩ ++ f.name
noncomputable def brkF (now : JPart) (t : JTyp) (f : JField) : List ByteArray := if tf (BreakF now t f) = true then [wayT t f] else []
theorem brkF_t {now : JPart} {t : JTyp} {f : JField} (h : BreakF now t f) : brkF now t f = [wayT t f] := by unfold brkF; rw [if_pos (tf_t h)]
theorem brkF_f {now : JPart} {t : JTyp} {f : JField} (h : ¬ BreakF now t f) : brkF now t f = [] := by unfold brkF; rw [if_neg (by rw [tf_f h]; simp)]
noncomputable def brkFs (now : JPart) (t : JTyp) (fs : List JField) : List ByteArray := fs.flatMap (brkF now t)
noncomputable def brkTs (now : JPart) (ts : List JTyp) : List ByteArray := ts.flatMap (fun t => brkFs now t t.fields)
theorem brkFs_take (now : JPart) (t : JTyp) (fs : List JField) (k : Nat) (h : k < fs.length) : brkFs now t (fs.take (k + 1)) = brkFs now t (fs.take k) ++ brkF now t fs[k] := by
  unfold brkFs
  rw [List.take_succ_eq_append_getElem h, List.flatMap_append, List.flatMap_cons, List.flatMap_nil, List.append_nil]
theorem brkTs_take (now : JPart) (ts : List JTyp) (k : Nat) (h : k < ts.length) : brkTs now (ts.take (k + 1)) = brkTs now (ts.take k) ++ brkFs now ts[k] ts[k].fields := by
  unfold brkTs
  rw [List.take_succ_eq_append_getElem h, List.flatMap_append, List.flatMap_cons, List.flatMap_nil, List.append_nil]
theorem brkF_len (now : JPart) (t : JTyp) (f : JField) : (brkF now t f).length ≤ 1 := by unfold brkF; split <;> simp
theorem brkFs_len (now : JPart) (t : JTyp) (fs : List JField) : (brkFs now t fs).length ≤ fs.length := by
  induction fs with
  | nil => simp [brkFs]
  | cons f r ih =>
    have := brkF_len now t f
    unfold brkFs at ih ⊢
    rw [List.flatMap_cons, List.length_append, List.length_cons]
    omega
theorem brkTs_len (now : JPart) (ts : List JTyp) : (brkTs now ts).length ≤ JTyp.bulks ts := by
  induction ts with
  | nil => simp [brkTs]
  | cons t r ih =>
    have h := brkFs_len now t t.fields
    have h2 := JTyp.bulk_eq t
    unfold brkTs at ih ⊢
    rw [List.flatMap_cons, List.length_append, JTyp.bulks]
    omega
noncomputable def breaksR (old now : JPart) : List ByteArray := if tf (PartOk old) = true then if tf (PartOk now) = true then brkTs now old.types else [] else []
theorem breaksR_t {old now : JPart} (h : PartOk old) (h2 : PartOk now) : breaksR old now = brkTs now old.types := by unfold breaksR; rw [if_pos (tf_t h), if_pos (tf_t h2)]
theorem breaksR_f {old now : JPart} (h : ¬ (PartOk old ∧ PartOk now)) : breaksR old now = [] := by
  unfold breaksR
  by_cases h1 : PartOk old
  · rw [if_pos (tf_t h1), if_neg (by rw [tf_f (fun h2 => h ⟨h1, h2⟩)]; simp)]
  · rw [if_neg (by rw [tf_f h1]; simp)]
theorem breaksR_len {old now : JPart} (hb : old.bulk ≤ 1048576) : (breaksR old now).length ≤ 8 * 1048576 := by
  unfold breaksR
  have := brkTs_len now old.types
  have := JPart.bulk_eq' old
  split
  · split
    · omega
    · simp
  · simp
/-- How many there are behind k types and q fields of the next. -/
theorem brk_len2 {old now : JPart} (hb : old.bulk ≤ 1048576) (k : Nat) (hk : k < old.types.length) (q : Nat) : (brkTs now (old.types.take k) ++ brkFs now old.types[k] (old.types[k].fields.take q)).length ≤ 1048576 := by
  rw [List.length_append]
  have h1 := brkTs_len now (old.types.take k)
  have h2 := brkFs_len now old.types[k] (old.types[k].fields.take q)
  have h3 := JPart.bulk_eq' old
  have h4 := JTyp.bulks_take old.types k hk
  have h5 := JTyp.bulks_le old.types (k + 1)
  have h6 := JTyp.bulk_eq old.types[k]
  have h7 : (old.types[k].fields.take q).length ≤ old.types[k].fields.length := by rw [List.length_take]; omega
  omega
/-- Their names are no longer than the part. -/
theorem brk_size {old : JPart} (hb : old.bulk ≤ 1048576) (k : Nat) (hk : k < old.types.length) (q : Nat) (hq : q < old.types[k].fields.length) : old.types[k].name.size ≤ 1048576 ∧ old.types[k].fields[q].name.size ≤ 1048576 := by
  have h1 := JTyp.bulk_k hb k hk
  have h2 := JField.bulk_k h1 q hq
  have h3 := JTyp.bulk_eq old.types[k]
  have h4 := JField.bulk_eq old.types[k].fields[q]
  omega
theorem Gr.own_small {α : Type} {enc : α → List D} {sz base : Nat} {w : World} {e : TypeId} {xs : List α} {v : Value} (h : Gr base w e enc sz xs v) : ∀ k, v.ownBlock = some k → k < w.heap.size := by
  intro k hk
  obtain ⟨us, fs, h1, h2, h3, h4, h5⟩ := h
  rcases h1.2 with ⟨rfl, _⟩ | ⟨g, cap, cur, rfl, hg, hh, _⟩
  · cases hk
  · simp only [Value.ownBlock, Option.some.injEq] at hk
    subst hk
    exact (Array.getElem?_eq_some_iff.1 hh).1
end Go.Proofs.Ytmkagpmdindlpaa.Lib
