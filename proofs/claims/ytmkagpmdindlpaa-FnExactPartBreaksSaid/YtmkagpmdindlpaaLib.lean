/- Words of this work: a datum as cells (D), what memory reads as it (Rd), what memory of one's own is it, block by block (Own). No condition. -/
import Derived.WalkKit
import Derived.KernelRfl
import Derived.Lib.Hide
import Derived.Deep.Draws
set_option linter.unusedVariables false
set_option linter.unusedSimpArgs false
namespace Go.Proofs.Ytmkagpmdindlpaa.Lib
open Go.RowKit

/-- A datum of one cell: a number, a bool, a text, a slice (n elements of sz cells each, one behind the other). -/
inductive D where
  | int (k : IntKind) (n : Int)
  | bool (b : Bool)
  | str (s : ByteArray)
  | sl (sz n : Nat) (cs : List D)

mutual
/-- The value v reads as the datum in the world w. -/
def Rd (w : World) : D → Value → Prop
  | .int k n, v => v = .int k n
  | .bool b, v => v = .bool b
  | .str s, v => v = .string s ∧ s.size ≤ 9223372036854775807
  | .sl sz n cs, v => ∃ A c, v = .slice A n c ∧ n ≤ c ∧ c ≤ maxLen ∧ cs.length = n * sz ∧ (0 < n → ∃ ad, A = some ad ∧ RdRow w cs ad 0)
/-- The cells from number j on behind ad read as the data. -/
def RdRow (w : World) : List D → Addr → Nat → Prop
  | [], _, _ => True
  | d :: r, ad, j => (∃ u, w.cell? (ad.add j) = some u ∧ Rd w d u) ∧ RdRow w r ad (j + 1)
end

/-- Values read as data, one by one. -/
inductive RdL (w : World) : List D → List Value → Prop
  | nil : RdL w [] []
  | cons {d : D} {v : Value} {ds : List D} {vs : List Value} (h : Rd w d v) (r : RdL w ds vs) : RdL w (d :: ds) (v :: vs)

theorem RdL.length {w : World} {ds : List D} {vs : List Value} (h : RdL w ds vs) : vs.length = ds.length := by
  induction h with
  | nil => rfl
  | cons _ _ ih => simp [ih]

theorem RdL.append {w : World} {ds es : List D} {vs us : List Value} (h : RdL w ds vs) (k : RdL w es us) : RdL w (ds ++ es) (vs ++ us) := by
  induction h with
  | nil => exact k
  | cons h _ ih => exact .cons h ih

/-- Agreeing on the blocks below B. -/
def Same (B : Nat) (w w' : World) : Prop := ∀ k, k < B → w'.heap[k]? = w.heap[k]?

theorem cell_same {w w' : World} (h : Same w.heap.size w w') {a : Addr} {v : Value} (hc : w.cell? a = some v) : w'.cell? a = some v :=
  (World.cell?_of_block (w := w) (h a.block (World.block_lt_of_cell? w a hc))).trans hc

mutual
theorem Rd.same {w w' : World} (hs : Same w.heap.size w w') : ∀ (d : D) (v : Value), Rd w d v → Rd w' d v
  | .int _ _, _, h => by simpa only [Rd] using h
  | .bool _, _, h => by simpa only [Rd] using h
  | .str _, _, h => by simpa only [Rd] using h
  | .sl sz n cs, v, h => by
    simp only [Rd] at h ⊢
    obtain ⟨A, c, h1, h2, h3, h4, h5⟩ := h
    exact ⟨A, c, h1, h2, h3, h4, fun hn => by
      obtain ⟨ad, e, hr⟩ := h5 hn
      exact ⟨ad, e, RdRow.same hs cs ad 0 hr⟩⟩
theorem RdRow.same {w w' : World} (hs : Same w.heap.size w w') : ∀ (cs : List D) (ad : Addr) (j : Nat), RdRow w cs ad j → RdRow w' cs ad j
  | [], _, _, _ => by simp only [RdRow]
  | d :: r, ad, j, h => by
    simp only [RdRow] at h ⊢
    obtain ⟨⟨u, hu, hd⟩, hr⟩ := h
    exact ⟨⟨u, cell_same hs hu, Rd.same hs d u hd⟩, RdRow.same hs r ad (j + 1) hr⟩
end

theorem Rd.below {w w' : World} {d : D} {v : Value} (h : Rd w d v) (hb : Below w.heap.size w w') : Rd w' d v := Rd.same hb.block d v h
theorem RdL.keep {w w' : World} {ds : List D} {vs : List Value} (h : RdL w ds vs) (hb : Below w.heap.size w w') : RdL w' ds vs := by
  induction h with
  | nil => exact .nil
  | cons h _ ih => exact .cons (h.below hb) ih

theorem addr_add {ad : Addr} (i j : Nat) : (ad.add i).add j = ad.add (i + j) := by
  unfold Addr.add
  by_cases h1 : i = 0 <;> by_cases h2 : j = 0 <;> simp [h1, h2, Nat.add_assoc]

/-- A row, cell by cell. -/
theorem RdRow.get {w : World} : ∀ {cs : List D} {ad : Addr} {j : Nat}, RdRow w cs ad j → ∀ (i : Nat) (d : D), cs[i]? = some d → ∃ u, w.cell? (ad.add (j + i)) = some u ∧ Rd w d u
  | [], _, _, _, i, d, h => by simp at h
  | c :: r, ad, j, h, i, d, hd => by
    simp only [RdRow] at h
    cases i with
    | zero =>
      simp only [List.getElem?_cons_zero, Option.some.injEq] at hd
      subst hd
      simpa using h.1
    | succ i =>
      simp only [List.getElem?_cons_succ] at hd
      obtain ⟨u, hu, hr⟩ := RdRow.get h.2 i d hd
      exact ⟨u, by rw [show j + (i + 1) = j + 1 + i by omega]; exact hu, hr⟩

theorem RdRow.mk {w : World} : ∀ {cs : List D} {ad : Addr} {j : Nat}, (∀ (i : Nat) (d : D), cs[i]? = some d → ∃ u, w.cell? (ad.add (j + i)) = some u ∧ Rd w d u) → RdRow w cs ad j
  | [], _, _, _ => by simp only [RdRow]
  | c :: r, ad, j, h => by
    simp only [RdRow]
    refine ⟨by simpa using h 0 c rfl, RdRow.mk fun i d hd => ?_⟩
    obtain ⟨u, hu, hr⟩ := h (i + 1) d (by simpa using hd)
    exact ⟨u, by rw [show j + 1 + i = j + (i + 1) by omega]; exact hu, hr⟩

/-- A piece of a row as values. -/
theorem RdRow.take {w : World} {cs : List D} {ad : Addr} (h : RdRow w cs ad 0) (i : Nat) : ∀ (ds : List D), (∀ j, j < ds.length → cs[i + j]? = ds[j]?) →
    ∃ us, RdL w ds us ∧ ∀ j u, us[j]? = some u → w.cell? (ad.add (i + j)) = some u
  | [], _ => ⟨[], .nil, fun j u h => by simp at h⟩
  | d :: r, hd => by
    have h0 : cs[i]? = some d := by simpa using hd 0 (by simp)
    obtain ⟨u, hu, hr⟩ := h.get i d h0
    rw [Nat.zero_add] at hu
    obtain ⟨us, hl, hc⟩ := RdRow.take h (i + 1) r (fun j hj => by
      have := hd (j + 1) (by simpa using hj)
      rw [show i + 1 + j = i + (j + 1) by omega]
      simpa using this)
    refine ⟨u :: us, .cons hr hl, fun j v hv => ?_⟩
    cases j with
    | zero =>
      simp only [List.getElem?_cons_zero, Option.some.injEq] at hv
      subst hv
      exact hu
    | succ j =>
      simp only [List.getElem?_cons_succ] at hv
      have := hc j v hv
      rwa [show i + 1 + j = i + (j + 1) by omega] at this

/-! ### slices of elements that are told by 'enc' -/
/-- The datum of a slice of elements. -/
def slD {α : Type} (enc : α → List D) (sz : Nat) (xs : List α) : D := .sl sz xs.length (xs.flatMap enc)

theorem flat_length {α : Type} {enc : α → List D} {sz : Nat} (he : ∀ x, (enc x).length = sz) (xs : List α) : (xs.flatMap enc).length = xs.length * sz := by
  induction xs with
  | nil => simp
  | cons x r ih => rw [List.flatMap_cons, List.length_append, ih, he, List.length_cons, Nat.succ_mul, Nat.add_comm]

theorem flat_get {α : Type} {enc : α → List D} {sz : Nat} (he : ∀ x, (enc x).length = sz) : ∀ (xs : List α) (i : Nat) (x : α), xs[i]? = some x → ∀ j, j < sz → (xs.flatMap enc)[i * sz + j]? = (enc x)[j]?
  | [], i, x, h, _, _ => by simp at h
  | y :: r, 0, x, h, j, hj => by
    simp only [List.getElem?_cons_zero, Option.some.injEq] at h
    subst h
    rw [List.flatMap_cons, Nat.zero_mul, Nat.zero_add, List.getElem?_append_left (by rw [he]; exact hj)]
  | y :: r, i + 1, x, h, j, hj => by
    simp only [List.getElem?_cons_succ] at h
    rw [List.flatMap_cons, List.getElem?_append_right (by rw [he, Nat.succ_mul]; omega), he, show (i + 1) * sz + j - sz = i * sz + j by rw [Nat.succ_mul]; omega]
    exact flat_get he r i x h j hj

/-- A slice that reads as elements: its value. -/
theorem Rd.slice {α : Type} {w : World} {enc : α → List D} {sz : Nat} {xs : List α} {v : Value} (h : Rd w (slD enc sz xs) v) : ∃ A c, v = .slice A xs.length c ∧ xs.length ≤ c ∧ c ≤ maxLen ∧ Rd w (slD enc sz xs) (.slice A xs.length c) := by
  have h' := h
  simp only [slD, Rd] at h'
  obtain ⟨A, c, rfl, h2, h3, _⟩ := h'
  exact ⟨A, c, rfl, h2, h3, h⟩

/-- Element i of such a slice: its cells. -/
theorem Rd.elem {α : Type} {w : World} {enc : α → List D} {sz : Nat} (he : ∀ x, (enc x).length = sz) {xs : List α} {A : Option Addr} {n c : Nat} (h : Rd w (slD enc sz xs) (.slice A n c)) (i : Nat) (x : α) (hi : xs[i]? = some x) :
    ∃ ad us, A = some ad ∧ RdL w (enc x) us ∧ ∀ j u, us[j]? = some u → w.cell? (ad.add (i * sz + j)) = some u := by
  simp only [slD, Rd] at h
  obtain ⟨A', c', hv, _, _, hl, hr⟩ := h
  injection hv with h1 h2 h3
  subst h1
  have hlt : i < xs.length := (List.getElem?_eq_some_iff.1 hi).1
  obtain ⟨ad, rfl, hrow⟩ := hr (by omega)
  obtain ⟨us, h1, h2⟩ := hrow.take (i * sz) (enc x) (fun j hj => flat_get he xs i x hi j (by rw [he] at hj; exact hj))
  exact ⟨ad, us, rfl, h1, h2⟩

theorem Rd.len {α : Type} {w : World} {enc : α → List D} {sz : Nat} {xs : List α} {A : Option Addr} {n c : Nat} (h : Rd w (slD enc sz xs) (.slice A n c)) : n = xs.length := by
  simp only [slD, Rd] at h
  obtain ⟨A', c', hv, _⟩ := h
  injection hv

/-! ### memory of one's own -/
mutual
/-- The value v is the datum d, in the blocks fp, each of them for this alone. -/
def Own (w : World) : D → Value → List Nat → Prop
  | .int k n, v, fp => v = .int k n ∧ fp = []
  | .bool b, v, fp => v = .bool b ∧ fp = []
  | .str s, v, fp => (v = .string s ∧ s.size ≤ 9223372036854775807) ∧ fp = []
  | .sl sz n cs, v, fp => cs.length = n * sz ∧ ((v = .slice none 0 0 ∧ n = 0 ∧ fp = []) ∨
      ∃ g cap cur e fs, v = .slice (some ⟨g, 0, none⟩) n cap ∧ w.heap[g]? = some (.cells cur e (0, 0)) ∧ n ≤ cap ∧ cap ≤ maxLen ∧ cur.size = cap * sz ∧ fp = g :: fs ∧ OwnRow w cs (cur.toList.take (n * sz)) fs)
def OwnRow (w : World) : List D → List Value → List Nat → Prop
  | [], us, fp => us = [] ∧ fp = []
  | d :: r, us, fp => ∃ u us' f1 f2, us = u :: us' ∧ fp = f1 ++ f2 ∧ Own w d u f1 ∧ OwnRow w r us' f2
end

mutual
theorem Own.frame {w w' : World} : ∀ (d : D) (v : Value) (fp : List Nat), (∀ b, b ∈ fp → w'.heap[b]? = w.heap[b]?) → Own w d v fp → Own w' d v fp
  | .int _ _, _, _, _, h => by simpa only [Own] using h
  | .bool _, _, _, _, h => by simpa only [Own] using h
  | .str _, _, _, _, h => by simpa only [Own] using h
  | .sl sz n cs, v, fp, hf, h => by
    simp only [Own] at h ⊢
    refine ⟨h.1, ?_⟩
    rcases h.2 with h | ⟨g, cap, cur, e, fs, h1, h2, h3, h4, h5, rfl, h6⟩
    · exact .inl h
    · exact .inr ⟨g, cap, cur, e, fs, h1, by rw [hf g (by simp)]; exact h2, h3, h4, h5, rfl, OwnRow.frame cs _ fs (fun b hb => hf b (by simp [hb])) h6⟩
theorem OwnRow.frame {w w' : World} : ∀ (cs : List D) (us : List Value) (fp : List Nat), (∀ b, b ∈ fp → w'.heap[b]? = w.heap[b]?) → OwnRow w cs us fp → OwnRow w' cs us fp
  | [], _, _, _, h => by simpa only [OwnRow] using h
  | d :: r, us, fp, hf, h => by
    simp only [OwnRow] at h ⊢
    obtain ⟨u, us', f1, f2, h1, rfl, h3, h4⟩ := h
    exact ⟨u, us', f1, f2, h1, rfl, Own.frame d u f1 (fun b hb => hf b (by simp [hb])) h3, OwnRow.frame r us' f2 (fun b hb => hf b (by simp [hb])) h4⟩
end

mutual
theorem Own.lt {w : World} : ∀ (d : D) (v : Value) (fp : List Nat), Own w d v fp → ∀ b, b ∈ fp → b < w.heap.size
  | .int _ _, _, _, h, b, hb => by simp only [Own] at h; rw [h.2] at hb; cases hb
  | .bool _, _, _, h, b, hb => by simp only [Own] at h; rw [h.2] at hb; cases hb
  | .str _, _, _, h, b, hb => by simp only [Own] at h; rw [h.2] at hb; cases hb
  | .sl sz n cs, v, fp, h, b, hb => by
    simp only [Own] at h
    rcases h.2 with h | ⟨g, cap, cur, e, fs, h1, h2, h3, h4, h5, rfl, h6⟩
    · rw [h.2.2] at hb; cases hb
    · rcases List.mem_cons.1 hb with rfl | hb
      · exact (Array.getElem?_eq_some_iff.1 h2).1
      · exact OwnRow.lt cs _ fs h6 b hb
theorem OwnRow.lt {w : World} : ∀ (cs : List D) (us : List Value) (fp : List Nat), OwnRow w cs us fp → ∀ b, b ∈ fp → b < w.heap.size
  | [], _, _, h, b, hb => by simp only [OwnRow] at h; rw [h.2] at hb; cases hb
  | d :: r, us, fp, h, b, hb => by
    simp only [OwnRow] at h
    obtain ⟨u, us', f1, f2, h1, rfl, h3, h4⟩ := h
    rcases List.mem_append.1 hb with hb | hb
    · exact Own.lt d u f1 h3 b hb
    · exact OwnRow.lt r us' f2 h4 b hb
end

theorem add_plain (g j : Nat) : (⟨g, 0, none⟩ : Addr).add j = ⟨g, j, none⟩ := by unfold Addr.add; split <;> simp_all

mutual
theorem Own.rd {w : World} : ∀ (d : D) (v : Value) (fp : List Nat), Own w d v fp → Rd w d v
  | .int _ _, _, _, h => by simp only [Own] at h; simp only [Rd]; exact h.1
  | .bool _, _, _, h => by simp only [Own] at h; simp only [Rd]; exact h.1
  | .str _, _, _, h => by simp only [Own] at h; simp only [Rd]; exact h.1
  | .sl sz n cs, v, fp, h => by
    simp only [Own] at h
    simp only [Rd]
    rcases h.2 with ⟨rfl, rfl, _⟩ | ⟨g, cap, cur, e, fs, h1, h2, h3, h4, h5, _, h6⟩
    · exact ⟨none, 0, rfl, Nat.le_refl _, by simp [maxLen], h.1, fun hn => absurd hn (by omega)⟩
    · refine ⟨_, cap, h1, h3, h4, h.1, fun hn => ⟨_, rfl, ?_⟩⟩
      refine OwnRow.rd cs _ fs h6 ⟨g, 0, none⟩ 0 (fun j u hu => ?_)
      rw [Nat.zero_add, add_plain]
      have h7 : cur[j]? = some u := by
        rw [List.getElem?_take] at hu
        split at hu
        · simpa using hu
        · cases hu
      simp [World.cell?, h2, h7]
theorem OwnRow.rd {w : World} : ∀ (cs : List D) (us : List Value) (fp : List Nat), OwnRow w cs us fp → ∀ (ad : Addr) (j : Nat), (∀ i u, us[i]? = some u → w.cell? (ad.add (j + i)) = some u) → RdRow w cs ad j
  | [], _, _, _, _, _, _ => by simp only [RdRow]
  | d :: r, us, fp, h, ad, j, hc => by
    simp only [OwnRow] at h
    obtain ⟨u, us', f1, f2, rfl, rfl, h3, h4⟩ := h
    simp only [RdRow]
    refine ⟨⟨u, by simpa using hc 0 u rfl, Own.rd d u f1 h3⟩, OwnRow.rd r us' f2 h4 ad (j + 1) (fun i v hv => ?_)⟩
    have := hc (i + 1) v (by simpa using hv)
    rwa [show j + (i + 1) = j + 1 + i by omega] at this
end


/-! ### what a call leaves -/
theorem bcell {W w1 : World} (hb : Below W.heap.size W w1) : (∀ b o, b < W.heap.size → w1.cell? ⟨b, o, none⟩ = W.cell? ⟨b, o, none⟩) ∧ (∀ b o, b < W.heap.size → w1.frozen? ⟨b, o, none⟩ = W.frozen? ⟨b, o, none⟩) :=
  ⟨fun b o h => hb.cell (p := ⟨b, o, none⟩) h, fun b o h => hb.frozen (p := ⟨b, o, none⟩) h⟩
theorem bt {w W W1 : World} (h : Below w.heap.size w W) (k : Below W.heap.size W W1) : Below w.heap.size w W1 := h.trans (k.mono h.size)
theorem b1 (w : World) (o : Obj) : Below w.heap.size w (w.alloc o) := (Below.refl _ _).alloc (Nat.le_refl _) _
/-- The call returned this, and below where it began nothing has turned. -/
def Ret (w : World) (v : Value) (e : Ending) (w' : World) : Prop := e = .returned v ∧ Below w.heap.size w w'
theorem Ret.int {w w' : World} {a b : Int} (h : a = b) (hb : Below w.heap.size w w') : Ret w (.int .i64 b) (.returned (.int .i64 a)) w' := ⟨by rw [h], hb⟩
theorem Ret.bool {w w' : World} {a b : Bool} (h : a = b) (hb : Below w.heap.size w w') : Ret w (.bool b) (.returned (.bool a)) w' := ⟨by rw [h], hb⟩

/-- What is left of 'left' behind a bulk. -/
def szR (b : Nat) (left : Int) : Int := if (b : Int) ≤ left then left - b else -1
theorem szR_yes {b : Nat} {left : Int} (h : (b : Int) ≤ left) : szR b left = left - b := if_pos h
theorem szR_no {b : Nat} {left : Int} (h : ¬ (b : Int) ≤ left) : szR b left = -1 := if_neg h

theorem str_t {s t : ByteArray} (h : s = t) : (s.toList == t.toList) = true := by simp [h]
theorem str_f {s t : ByteArray} (h : ¬ s = t) : (s.toList == t.toList) = false := by
  rw [beq_eq_false_iff_ne]
  intro e
  rw [ByteArray.toList_eq, ByteArray.toList_eq] at e
  exact h (by cases s; cases t; simp only [ByteArray.mk.injEq]; exact Array.toList_inj.1 e)

/-- Are the two the same? -/
noncomputable def same {α : Type} (a b : α) : Bool := @decide (a = b) (Classical.propDecidable _)
theorem same_t {α : Type} {a b : α} (h : a = b) : same a b = true := by unfold same; exact @decide_eq_true _ (Classical.propDecidable _) h
theorem same_f {α : Type} {a b : α} (h : ¬ a = b) : same a b = false := by unfold same; exact @decide_eq_false _ (Classical.propDecidable _) h
theorem same_iff {α : Type} {a b : α} : same a b = true ↔ a = b := by
  by_cases h : a = b
  · exact ⟨fun _ => h, same_t⟩
  · rw [same_f h]; exact ⟨fun e => (by cases e), fun e => absurd e h⟩
theorem take_eq {α : Type} {xs ys : List α} {k : Nat} (h : xs.take k = ys.take k) (hx : k < xs.length) (hy : k < ys.length) (e : xs[k] = ys[k]) : xs.take (k + 1) = ys.take (k + 1) := by
  rw [List.take_succ_eq_append_getElem hx, List.take_succ_eq_append_getElem hy, h, e]
theorem drewN_below {B : Nat} {w W : World} (h : Below B w W) (n : Nat) : Below B w (W.drewN n) := ⟨h.os, h.tape, h.output, h.size, h.block⟩

/-! ### made by a call -/
/-- Blocks that are new since w, each once. -/
def Fresh (w : World) (fp : List Nat) : Prop := fp.Nodup ∧ ∀ b, b ∈ fp → w.heap.size ≤ b
theorem Fresh.nil (w : World) : Fresh w [] := ⟨List.nodup_nil, fun _ h => by cases h⟩
theorem Fresh.lower {w W : World} {fp : List Nat} (h : Fresh W fp) (hs : w.heap.size ≤ W.heap.size) : Fresh w fp := ⟨h.1, fun b hb => Nat.le_trans hs (h.2 b hb)⟩
/-- Two, the second made behind the first. -/
theorem Fresh.app {w W : World} {f1 f2 : List Nat} (h1 : Fresh w f1) (hs : w.heap.size ≤ W.heap.size) (hl : ∀ b, b ∈ f1 → b < W.heap.size) (h2 : Fresh W f2) : Fresh w (f1 ++ f2) :=
  ⟨List.nodup_append.2 ⟨h1.1, h2.1, fun a ha b hb e => by have := hl a ha; have := h2.2 b hb; omega⟩, fun b hb => by
    rcases List.mem_append.1 hb with hb | hb
    · exact h1.2 b hb
    · exact Nat.le_trans hs (h2.2 b hb)⟩
theorem Own.keep {w w1 : World} {d : D} {v : Value} {fp : List Nat} (h : Own w d v fp) (hb : Below w.heap.size w w1) : Own w1 d v fp := Own.frame d v fp (fun b hm => hb.block b (Own.lt d v fp h b hm)) h
theorem OwnRow.keep {w w1 : World} {ds : List D} {us : List Value} {fp : List Nat} (h : OwnRow w ds us fp) (hb : Below w.heap.size w w1) : OwnRow w1 ds us fp := OwnRow.frame ds us fp (fun b hm => hb.block b (OwnRow.lt ds us fp h b hm)) h
theorem Own.set {w : World} {d : D} {v : Value} {fp : List Nat} (h : Own w d v fp) {p : Addr} (hp : p.block ∉ fp) (u : Value) : Own (w.setCell p u) d v fp :=
  Own.frame d v fp (fun b hm => Below.heap_setCell w p u b (fun e => hp (e ▸ hm))) h
theorem OwnRow.set {w : World} {ds : List D} {us : List Value} {fp : List Nat} (h : OwnRow w ds us fp) {p : Addr} (hp : p.block ∉ fp) (u : Value) : OwnRow (w.setCell p u) ds us fp :=
  OwnRow.frame ds us fp (fun b hm => Below.heap_setCell w p u b (fun e => hp (e ▸ hm))) h
theorem OwnRow.nil (w : World) : OwnRow w [] [] [] := by simp only [OwnRow, and_self]
theorem OwnRow.cons {w : World} {d : D} {ds : List D} {u : Value} {us : List Value} {f1 f2 : List Nat} (h : Own w d u f1) (r : OwnRow w ds us f2) : OwnRow w (d :: ds) (u :: us) (f1 ++ f2) := by
  simp only [OwnRow]
  exact ⟨u, us, f1, f2, rfl, rfl, h, r⟩
theorem OwnRow.int {w : World} {k : IntKind} {n : Int} {ds : List D} {us : List Value} {f : List Nat} (r : OwnRow w ds us f) : OwnRow w (.int k n :: ds) (.int k n :: us) f := OwnRow.cons (f1 := []) (by simp only [Own, and_self]) r
theorem OwnRow.bool {w : World} {b : Bool} {ds : List D} {us : List Value} {f : List Nat} (r : OwnRow w ds us f) : OwnRow w (.bool b :: ds) (.bool b :: us) f := OwnRow.cons (f1 := []) (by simp only [Own, and_self]) r
theorem OwnRow.str {w : World} {s : ByteArray} {ds : List D} {us : List Value} {f : List Nat} (hl : s.size ≤ 9223372036854775807) (r : OwnRow w ds us f) : OwnRow w (.str s :: ds) (.string s :: us) f := OwnRow.cons (f1 := []) (by simp only [Own, true_and, and_true]; exact hl) r
theorem OwnRow.length {w : World} : ∀ {ds : List D} {us : List Value} {fp : List Nat}, OwnRow w ds us fp → us.length = ds.length
  | [], us, fp, h => by simp only [OwnRow] at h; simp [h.1]
  | d :: r, us, fp, h => by
    simp only [OwnRow] at h
    obtain ⟨u, us', f1, f2, rfl, rfl, h3, h4⟩ := h
    simp [OwnRow.length h4]
theorem OwnRow.app {w : World} : ∀ {ds es : List D} {us vs : List Value} {f1 f2 : List Nat}, OwnRow w ds us f1 → OwnRow w es vs f2 → OwnRow w (ds ++ es) (us ++ vs) (f1 ++ f2)
  | [], es, us, vs, f1, f2, h, k => by simp only [OwnRow] at h; rw [h.1, h.2]; exact k
  | d :: r, es, us, vs, f1, f2, h, k => by
    simp only [OwnRow] at h
    obtain ⟨u, us', g1, g2, rfl, rfl, h3, h4⟩ := h
    rw [List.append_assoc]
    exact OwnRow.cons h3 (OwnRow.app h4 k)
theorem OwnRow.split {w : World} : ∀ {ds es : List D} {us : List Value} {fp : List Nat}, OwnRow w (ds ++ es) us fp → ∃ u1 u2 f1 f2, us = u1 ++ u2 ∧ fp = f1 ++ f2 ∧ OwnRow w ds u1 f1 ∧ OwnRow w es u2 f2
  | [], es, us, fp, h => ⟨[], us, [], fp, rfl, rfl, OwnRow.nil w, h⟩
  | d :: r, es, us, fp, h => by
    simp only [List.cons_append, OwnRow] at h
    obtain ⟨u, us', g1, g2, rfl, rfl, h3, h4⟩ := h
    obtain ⟨u1, u2, f1, f2, rfl, rfl, h5, h6⟩ := OwnRow.split h4
    exact ⟨u :: u1, u2, g1 ++ f1, f2, rfl, by rw [List.append_assoc], OwnRow.cons h3 h5, h6⟩
theorem OwnRow.rdl {w : World} : ∀ {ds : List D} {us : List Value} {fp : List Nat}, OwnRow w ds us fp → RdL w ds us
  | [], us, fp, h => by simp only [OwnRow] at h; rw [h.1]; exact .nil
  | d :: r, us, fp, h => by
    simp only [OwnRow] at h
    obtain ⟨u, us', g1, g2, rfl, rfl, h3, h4⟩ := h
    exact .cons (Own.rd _ _ _ h3) (OwnRow.rdl h4)

/-- The call returned a struct, new memory through and through; below where it began nothing has turned. -/
def Made (w : World) (ds : List D) (e : Ending) (w' : World) : Prop := ∃ us fp, e = .returned (.agg us.toArray) ∧ OwnRow w' ds us fp ∧ Fresh w fp ∧ Below w.heap.size w w'
/-- The same for a value of one cell. -/
def Made1 (w : World) (d : D) (e : Ending) (w' : World) : Prop := ∃ v fp, e = .returned v ∧ Own w' d v fp ∧ Fresh w fp ∧ Below w.heap.size w w'

theorem Own.slice {w : World} {sz n : Nat} {cs : List D} {v : Value} {fp : List Nat} (h : Own w (.sl sz n cs) v fp) : ∃ A c, v = .slice A n c := by
  simp only [Own] at h
  rcases h.2 with ⟨rfl, rfl, _⟩ | ⟨g, cap, cur, e, fs, rfl, _⟩
  · exact ⟨none, 0, rfl⟩
  · exact ⟨_, cap, rfl⟩
theorem Own.slD {α : Type} {enc : α → List D} {sz : Nat} {xs : List α} {w : World} {v : Value} {fp : List Nat} (h : Own w (slD enc sz xs) v fp) : ∃ A c, v = .slice A xs.length c := Own.slice h

theorem cell_keep {w w1 : World} (hb : Below w.heap.size w w1) {a : Addr} {v : Value} (h : w.cell? a = some v) : w1.cell? a = some v := (hb.cell (World.block_lt_of_cell? w a h)).trans h

end Go.Proofs.Ytmkagpmdindlpaa.Lib
