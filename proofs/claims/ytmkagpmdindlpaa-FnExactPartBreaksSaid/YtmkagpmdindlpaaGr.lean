/- A list of the call's own that grows by append (Gr). No condition beyond sizes that every list has. -/
import Derived.Test.YtmkagpmdindlpaaOwnLib
import Derived.Test.YtmkagpmdindlpaaTypes
import Derived.Laws.AppendOwn
import Derived.Laws.MakeOwn
import Derived.Maps.AppendAt
import Derived.Deep.AppendLies
set_option linter.unusedVariables false
set_option linter.unusedSimpArgs false
namespace Go.Proofs.Ytmkagpmdindlpaa.Lib
open Go.RowKit

/-- The list stands in a block from base on, what it leads to as well, each for this alone. -/
def Gr (base : Nat) (w : World) (e : TypeId) {α : Type} (enc : α → List D) (sz : Nat) (xs : List α) (v : Value) : Prop :=
  ∃ us fs, w.ownsRow base e sz v xs.length us ∧ OwnRow w (xs.flatMap enc) us fs ∧ fs.Nodup ∧ (∀ b, b ∈ fs → base ≤ b) ∧ ∀ k, v.ownBlock = some k → k ∉ fs

theorem OwnRow.one {w : World} : ∀ {ds : List D} {us : List Value} {f : List Nat}, OwnRow w ds us f → ∀ u, u ∈ us → u.oneCell' = true
  | [], us, f, h, u, hu => by simp only [OwnRow] at h; rw [h.1] at hu; cases hu
  | d :: r, us, f, h, u, hu => by
    simp only [OwnRow] at h
    obtain ⟨y, us', f1, f2, rfl, rfl, h3, h4⟩ := h
    rcases List.mem_cons.1 hu with rfl | hu
    · cases d with
      | int k n => simp only [Own] at h3; rw [h3.1]; rfl
      | bool b => simp only [Own] at h3; rw [h3.1]; rfl
      | str s => simp only [Own] at h3; rw [h3.1.1]; rfl
      | sl sz n cs =>
        obtain ⟨A, c, rfl⟩ := Own.slice h3
        rfl
    · exact OwnRow.one h4 u hu

section
variable {α : Type} {enc : α → List D} {sz base : Nat} {w wr W w2 : World} {e : TypeId} {xs : List α} {v : Value}

theorem Gr.nil (base : Nat) (w : World) (e : TypeId) (enc : α → List D) (sz : Nat) : Gr base w e enc sz [] (.slice none 0 0) :=
  ⟨[], [], World.ownsRow_nil w _ _ _, OwnRow.nil w, List.nodup_nil, (fun b h => (by cases h)), (fun k h => (by cases h))⟩
theorem Gr.empty {base : Nat} (w : World) (e : TypeId) (enc : α → List D) (sz : Nat) (hb : base ≤ w.heap.size) : Gr base (w.alloc (.cells #[] e)) e enc sz [] (.slice (some ⟨w.heap.size, 0, none⟩) 0 0) :=
  ⟨[], [], ⟨by simp, .inr ⟨_, 0, #[], rfl, hb, by simp [World.alloc, -World.alloc_eq], Nat.le_refl _, by simp [maxLen], by simp, by simp⟩⟩, OwnRow.nil _, List.nodup_nil, (fun b h => (by cases h)), (fun k h => List.not_mem_nil)⟩
theorem Gr.emptyAt {base g : Nat} (w : World) (e : TypeId) (enc : α → List D) (sz : Nat) (hg : w.heap.size = g) (hb : base ≤ g) : Gr base (w.alloc (.cells #[] e)) e enc sz [] (.slice (some ⟨g, 0, none⟩) 0 0) := by
  subst hg
  exact Gr.empty w e enc sz hb
theorem Gr.cast {ys : List α} {v' : Value} (h : Gr base w e enc sz xs v) (hx : xs = ys) (hv : v = v') : Gr base w e enc sz ys v' := by subst hx hv; exact h
theorem Gr.len (h : Gr base w e enc sz xs v) : ∃ A c, v = .slice A xs.length c := by
  obtain ⟨us, fs, h1, _⟩ := h
  rcases h1.2 with ⟨rfl, h0⟩ | ⟨g, cap, cur, rfl, _⟩
  · exact ⟨none, 0, by rw [h0]⟩
  · exact ⟨_, cap, rfl⟩
theorem Gr.keep (h : Gr base wr e enc sz xs v) (hb : Below wr.heap.size wr W) : Gr base W e enc sz xs v := by
  obtain ⟨us, fs, h1, h2, h3, h4, h5⟩ := h
  refine ⟨us, fs, ⟨h1.1, ?_⟩, h2.keep hb, h3, h4, h5⟩
  rcases h1.2 with h | ⟨g, cap, cur, rfl, hg, hh, hn, hc, hs, ht⟩
  · exact .inl h
  · exact .inr ⟨g, cap, cur, rfl, hg, (hb.block g (Array.getElem?_eq_some_iff.1 hh).1).trans hh, hn, hc, hs, ht⟩
theorem Gr.low {b0 : Nat} (h : Gr base w e enc sz xs v) (hs : b0 ≤ base) : Gr b0 w e enc sz xs v := by
  obtain ⟨us, fs, h1, h2, h3, h4, h5⟩ := h
  refine ⟨us, fs, ⟨h1.1, ?_⟩, h2, h3, fun b hb => Nat.le_trans hs (h4 b hb), h5⟩
  rcases h1.2 with h | ⟨g, cap, cur, rfl, hg, hh⟩
  · exact .inl h
  · exact .inr ⟨g, cap, cur, rfl, Nat.le_trans hs hg, hh⟩
theorem Gr.own (he : ∀ x, (enc x).length = sz) (h : Gr base w e enc sz xs v) : ∃ fp, Own w (slD enc sz xs) v fp ∧ fp.Nodup ∧ ∀ b, b ∈ fp → base ≤ b := by
  obtain ⟨us, fs, h1, h2, h3, h4, h5⟩ := h
  rcases h1.2 with ⟨rfl, h0⟩ | ⟨g, cap, cur, rfl, hg, hh, hn, hc, hs, ht⟩
  · have hx : xs = [] := List.eq_nil_of_length_eq_zero h0
    subst hx
    refine ⟨[], ?_, List.nodup_nil, fun b hm => by cases hm⟩
    simp [slD, Own]
  · refine ⟨g :: fs, ?_, List.nodup_cons.2 ⟨h5 g rfl, h3⟩, fun b hm => ?_⟩
    · simp only [slD, Own]
      exact ⟨flat_length he _, .inr ⟨g, cap, cur, _, fs, rfl, hh, hn, hc, hs, rfl, by rw [ht]; exact h2⟩⟩
    · rcases List.mem_cons.1 hm with rfl | hm
      · exact hg
      · exact h4 b hm
theorem Gr.made (he : ∀ x, (enc x).length = sz) (h : Gr base W e enc sz xs v) (hs : w.heap.size ≤ base) (hb : Below w.heap.size w W) : Made1 w (slD enc sz xs) (.returned v) W := by
  obtain ⟨fp, h1, h2, h3⟩ := h.own he
  exact ⟨v, fp, rfl, h1, ⟨h2, fun b hm => Nat.le_trans hs (h3 b hm)⟩, hb⟩
theorem Gr.rd (he : ∀ x, (enc x).length = sz) (h : Gr base w e enc sz xs v) : Rd w (slD enc sz xs) v := by
  obtain ⟨fp, h1, _⟩ := h.own he
  exact Own.rd _ _ _ h1

/-- What an append leaves below. -/
theorem Gr.below (h : Gr base wr e enc sz xs v) (hb : Below wr.heap.size wr W) (hs : base ≤ wr.heap.size) (hg : W.grownBy w2 v.ownBlock) : Below base W w2 := by
  obtain ⟨us, fs, h1, _⟩ := h
  refine ⟨hg.os, hg.tape, hg.output, hg.size, fun k hk => hg.block k (by have := hb.size; omega) ?_⟩
  rcases h1.2 with ⟨rfl, _⟩ | ⟨g, cap, cur, rfl, hge, _⟩
  · simp [Value.ownBlock]
  · simp only [Value.ownBlock, ne_eq, Option.some.injEq]
    omega
/-- Elements laid behind: as the append's law tells it. -/
theorem Gr.app {us ns : List Value} {fs f : List Nat} {ys : List α} {v' : Value} (h1 : W.ownsRow base e sz v xs.length us) (h2 : OwnRow W (xs.flatMap enc) us fs) (h3 : fs.Nodup) (h4 : ∀ b, b ∈ fs → base ≤ b ∧ b < wr.heap.size) (h5 : ∀ k, v.ownBlock = some k → k ∉ fs ∧ k < wr.heap.size)
    (hy : OwnRow W (ys.flatMap enc) ns f) (hf : Fresh wr f) (hbs : base ≤ wr.heap.size)
    (ho : w2.ownsRow base e sz v' (xs.length + ys.length) (us ++ ns)) (hg : W.grownBy w2 v.ownBlock) (hH : ∀ k, v'.ownBlock = some k → v.ownBlock = some k ∨ W.heap.size ≤ k) : Gr base w2 e enc sz (xs ++ ys) v' := by
  have hlf := OwnRow.lt _ _ _ hy
  have hls := OwnRow.lt _ _ _ h2
  have k1 : OwnRow w2 (xs.flatMap enc) us fs := OwnRow.frame _ _ _ (fun b hm => hg.block b (hls b hm) (fun e => (h5 b e.symm).1 hm)) h2
  have k2 : OwnRow w2 (ys.flatMap enc) ns f := OwnRow.frame _ _ _ (fun b hm => hg.block b (hlf b hm) (fun e => by have := (h5 b e.symm).2; have := hf.2 b hm; omega)) hy
  refine ⟨us ++ ns, fs ++ f, by rw [List.length_append]; exact ho, by rw [List.flatMap_append]; exact k1.app k2, List.nodup_append.2 ⟨h3, hf.1, fun a ha b hb e => by have := (h4 a ha).2; have := hf.2 b hb; omega⟩, fun b hm => ?_, fun k hk hm => ?_⟩
  · rcases List.mem_append.1 hm with hm | hm
    · exact (h4 b hm).1
    · exact Nat.le_trans hbs (hf.2 b hm)
  · rcases hH k hk with h | h
    · rcases List.mem_append.1 hm with hm | hm
      · exact (h5 k h).1 hm
      · have := hf.2 k hm; have := (h5 k h).2; omega
    · rcases List.mem_append.1 hm with hm | hm
      · have := (h4 k hm).2; have := hls k hm; omega
      · have := hlf k hm; omega
end

theorem run_append_zero {P : Program} (w : World) (base : Nat) (t ty e : TypeId) (i : TypeInfo) (size : Nat) (ht : P.underlying t = some (.slice e)) (hi : P.info? e = some i)
    (v : Value) (n : Nat) (xs : List Value) (hown : w.ownsRow base e size v n xs) (c : Nat) : (Builtin.append_ #[t, t] ty #[v, .slice none 0 c]).run P w = .ok v w := by
  rcases hown.2 with ⟨rfl, rfl⟩ | ⟨g, cap, cur, rfl, _, _, hnc, _⟩
  · simp [Builtin.append_, run_underlying ht, sizeOf, typeInfo, hi, Builtin.lenOf, Builtin.firstCells]
  · simp [Builtin.append_, run_underlying ht, sizeOf, typeInfo, hi, Builtin.lenOf, Builtin.firstCells, hnc, storeCells]

/-- One append, whatever is laid behind (none, one, many): v grows by ys. -/
theorem run_pushes0 {P : Program} {α : Type} {enc : α → List D} {sz base : Nat} {wr w : World} {xs ys : List α} {v : Value} (t ty e : TypeId) (i : TypeInfo) (z : Value) (bytes : Nat) (ht : P.underlying t = some (.slice e)) (hi : P.info? e = some i) (hz : i.zero = some z)
    (hsize : i.size = sz) (hby : i.bytes = bytes) (hzs : z.cells.size = sz) (hsz : 0 < sz) (he : ∀ x, (enc x).length = sz)
    (HG : Gr base wr e enc sz xs v) (hb : Below wr.heap.size wr w) (hbase : base ≤ wr.heap.size)
    (A : Option Addr) (c : Nat) (ns : List Value) (f : List Nat) (hy : OwnRow w (ys.flatMap enc) ns f) (hf : Fresh wr f) (hn : 0 < ys.length → ∃ ad, A = some ad ∧ ∀ j u, ns[j]? = some u → w.cell? (ad.add j) = some u)
    (h63 : xs.length + ys.length ≤ maxLen) (hbytes : (xs.length + ys.length) * bytes ≤ 140737488355328) :
    ∃ v' w', (Builtin.append_ #[t, t] ty #[v, .slice A ys.length c]).run P w = .ok v' w' ∧ Gr base w' e enc sz (xs ++ ys) v' ∧ Below base w w' ∧ w.grownBy w' v.ownBlock ∧ (∀ k, v'.ownBlock = some k → v.ownBlock = some k ∨ w.heap.size ≤ k) := by
  have HG0 := HG
  obtain ⟨us, fs, h1, h2, h3, h4, h5⟩ := HG
  have hlt := OwnRow.lt _ _ _ h2
  have h1' : w.ownsRow base e sz v xs.length us := by
    refine ⟨h1.1, ?_⟩
    rcases h1.2 with h | ⟨g, cap, cur, rfl, hg, hh, hn, hc, hs, ht⟩
    · exact .inl h
    · exact .inr ⟨g, cap, cur, rfl, hg, (hb.block g (Array.getElem?_eq_some_iff.1 hh).1).trans hh, hn, hc, hs, ht⟩
  have h6 : ∀ k, v.ownBlock = some k → k < wr.heap.size := by
    intro k hk
    rcases h1.2 with ⟨rfl, _⟩ | ⟨g, cap, cur, rfl, hg, hh, _⟩
    · cases hk
    · simp only [Value.ownBlock, Option.some.injEq] at hk
      subst hk
      exact (Array.getElem?_eq_some_iff.1 hh).1
  have hnl : ns.length = ys.length * sz := by rw [OwnRow.length hy, flat_length he]
  rcases Nat.eq_zero_or_pos ys.length with h0 | h0
  · have hys : ys = [] := List.eq_nil_of_length_eq_zero h0
    subst hys
    cases A with
    | none =>
      refine ⟨v, w, run_append_zero w base t ty e i sz ht hi v _ us h1' c, by rw [List.append_nil]; exact HG0.keep hb, Below.refl _ _, World.grownBy.refl w _, fun k hk => .inl hk⟩
    | some ad =>
      have hns : ns = [] := List.eq_nil_of_length_eq_zero (by simpa using hnl)
      subst hns
      obtain ⟨v', w', hr, ho, hg, _, hH⟩ := run_append_own_at (P := P) w base t ty e i z sz bytes ht hi hz hsize hby hzs hsz v _ us h1' ad 0 c [] (by simp) (fun j u hj => by simp at hj) (fun u hu => by cases hu) h63 hbytes (by have := hb.size; omega)
      exact ⟨v', w', hr, Gr.app h1' (h2.keep hb) h3 (fun b hm => ⟨h4 b hm, hlt b hm⟩) (fun k hk => ⟨h5 k hk, h6 k hk⟩) hy hf hbase ho hg (fun k hk => by rcases hH with h | h <;> rw [h] at hk; exact .inl hk; simp only [Option.some.injEq] at hk; exact .inr (by omega)), HG0.below hb hbase hg, hg, fun k hk => by rcases hH with h | h <;> rw [h] at hk; exact .inl hk; simp only [Option.some.injEq] at hk; exact .inr (by omega)⟩
  · obtain ⟨ad, rfl, hcell⟩ := hn h0
    obtain ⟨v', w', hr, ho, hg, _, hH⟩ := run_append_own_at (P := P) w base t ty e i z sz bytes ht hi hz hsize hby hzs hsz v _ us h1' ad ys.length c ns hnl hcell (OwnRow.one hy) h63 hbytes (by have := hb.size; omega)
    exact ⟨v', w', hr, Gr.app h1' (h2.keep hb) h3 (fun b hm => ⟨h4 b hm, hlt b hm⟩) (fun k hk => ⟨h5 k hk, h6 k hk⟩) hy hf hbase ho hg (fun k hk => by rcases hH with h | h <;> rw [h] at hk; exact .inl hk; simp only [Option.some.injEq] at hk; exact .inr (by omega)), HG0.below hb hbase hg, hg, fun k hk => by rcases hH with h | h <;> rw [h] at hk; exact .inl hk; simp only [Option.some.injEq] at hk; exact .inr (by omega)⟩

theorem wpList_pushes {P : Program} {ops : Array Oper} {rest : List Oper} {o : Oper} {a : Act} {Q : Exit → Act → World → Prop} {w : World} (hgd : o.guard = none) (s x : Operand) (t : TypeId)
    (ho : o.op = .call { callee := .builtin .append, args := #[s, x], argTypes := #[t, t] })
    {α : Type} {enc : α → List D} {base : Nat} {wr : World} {xs : List α} (ys : List α) {v : Value} (e : TypeId) (i : TypeInfo) (z : Value) (sz bytes : Nat) (ht : P.underlying t = some (.slice e)) (hi : P.info? e = some i) (hz : i.zero = some z)
    (hsize : i.size = sz) (hby : i.bytes = bytes) (hzs : z.cells.size = sz) (hsz : 0 < sz) (he : ∀ x, (enc x).length = sz)
    (hs : a.eval s = v) (HG : Gr base wr e enc sz xs v) (hb : Below wr.heap.size wr w) (hbase : base ≤ wr.heap.size)
    (A : Option Addr) (c : Nat) (hx : a.eval x = .slice A ys.length c) (ns : List Value) (f : List Nat) (hy : OwnRow w (ys.flatMap enc) ns f) (hf : Fresh wr f) (hn : 0 < ys.length → ∃ ad, A = some ad ∧ ∀ j u, ns[j]? = some u → w.cell? (ad.add j) = some u)
    (h63 : xs.length + ys.length ≤ maxLen) (hbytes : (xs.length + ys.length) * bytes ≤ 140737488355328)
    (h : ∀ A' c' w', Gr base w' e enc sz (xs ++ ys) (.slice A' (xs ++ ys).length c') → Below base w w' → w.grownBy w' v.ownBlock → (∀ k, (Value.slice A' 0 c').ownBlock = some k → v.ownBlock = some k ∨ w.heap.size ≤ k) → wpList P ops Q rest (a.put o.dst (.slice A' (xs ++ ys).length c')) w') : wpList P ops Q (o :: rest) a w := by
  refine wpList_plain hgd fun K hK => ?_
  obtain ⟨v', w', hr, h2, h3, h4, h5⟩ := run_pushes0 (P := P) t o.type e i z bytes ht hi hz hsize hby hzs hsz he HG hb hbase A c ns f hy hf hn h63 hbytes
  unfold Oper.wp execOp
  simp only [ho, resolve, invoke, builtin, Sem.run_bind, Sem.run_pure, Result.andThen_ok, List.map_toArray, List.map_cons, List.map_nil, hs, hx, hr]
  obtain ⟨A', c', rfl⟩ := h2.len
  exact hK _ _ (h A' c' w' h2 h3 h4 (by cases A' <;> exact h5))

/-- One element, laid in a box. -/
theorem wpList_push {P : Program} {ops : Array Oper} {rest : List Oper} {o : Oper} {a : Act} {Q : Exit → Act → World → Prop} {w : World} (hgd : o.guard = none) (s x : Operand) (t : TypeId)
    (ho : o.op = .call { callee := .builtin .append, args := #[s, x], argTypes := #[t, t] })
    {α : Type} {enc : α → List D} {base : Nat} {wr : World} {xs : List α} (y : α) {v : Value} (e : TypeId) (i : TypeInfo) (z : Value) (sz bytes : Nat) (ht : P.underlying t = some (.slice e)) (hi : P.info? e = some i) (hz : i.zero = some z)
    (hsize : i.size = sz) (hby : i.bytes = bytes) (hzs : z.cells.size = sz) (hsz : 0 < sz) (he : ∀ x, (enc x).length = sz)
    (hs : a.eval s = v) (HG : Gr base wr e enc sz xs v) (hb : Below wr.heap.size wr w) (hbase : base ≤ wr.heap.size)
    (ad : Addr) (c : Nat) (hx : a.eval x = .slice (some ad) 1 c) (ns : List Value) (f : List Nat) (hy : OwnRow w (enc y) ns f) (hf : Fresh wr f) (hn : ∀ j u, ns[j]? = some u → w.cell? (ad.add j) = some u)
    (h63 : (xs.length + 1) * bytes ≤ 140737488355328 ∧ xs.length < 9000000000000000000)
    (h : ∀ A' c' w', Gr base w' e enc sz (xs ++ [y]) (.slice A' (xs ++ [y]).length c') → Below base w w' → w.grownBy w' v.ownBlock → (∀ k, (Value.slice A' 0 c').ownBlock = some k → v.ownBlock = some k ∨ w.heap.size ≤ k) → wpList P ops Q rest (a.put o.dst (.slice A' (xs ++ [y]).length c')) w') : wpList P ops Q (o :: rest) a w :=
  wpList_pushes hgd s x t ho [y] e i z sz bytes ht hi hz hsize hby hzs hsz he hs HG hb hbase (some ad) c hx ns f (by rw [List.flatMap_cons, List.flatMap_nil, List.append_nil]; exact hy) hf (fun _ => ⟨ad, rfl, hn⟩) (by unfold maxLen; have := h63.2; simp only [List.length_cons, List.length_nil]; omega) h63.1 h

/-- The same at a step of a region that draws its order. -/
theorem step_pushes {P : Program} {ops : Array Oper} {o : Oper} {a : Act} {K : Act → World → Prop} {Q : Exit → Act → World → Prop} {E : Prop} {w : World} (hgd : o.guard = none) (s x : Operand) (t : TypeId)
    (ho : o.op = .call { callee := .builtin .append, args := #[s, x], argTypes := #[t, t] })
    {α : Type} {enc : α → List D} {base : Nat} {wr : World} {xs : List α} (ys : List α) {v : Value} (e : TypeId) (i : TypeInfo) (z : Value) (sz bytes : Nat) (ht : P.underlying t = some (.slice e)) (hi : P.info? e = some i) (hz : i.zero = some z)
    (hsize : i.size = sz) (hby : i.bytes = bytes) (hzs : z.cells.size = sz) (hsz : 0 < sz) (he : ∀ x, (enc x).length = sz)
    (hs : a.eval s = v) (HG : Gr base wr e enc sz xs v) (hb : Below wr.heap.size wr w) (hbase : base ≤ wr.heap.size)
    (A : Option Addr) (c : Nat) (hx : a.eval x = .slice A ys.length c) (ns : List Value) (f : List Nat) (hy : OwnRow w (ys.flatMap enc) ns f) (hf : Fresh wr f) (hn : 0 < ys.length → ∃ ad, A = some ad ∧ ∀ j u, ns[j]? = some u → w.cell? (ad.add j) = some u)
    (h63 : xs.length + ys.length ≤ maxLen) (hbytes : (xs.length + ys.length) * bytes ≤ 140737488355328)
    (h : ∀ A' c' w', Gr base w' e enc sz (xs ++ ys) (.slice A' (xs ++ ys).length c') → Below base w w' → w.grownBy w' v.ownBlock → (∀ k, (Value.slice A' 0 c').ownBlock = some k → v.ownBlock = some k ∨ w.heap.size ≤ k) → K (a.put o.dst (.slice A' (xs ++ ys).length c')) w') : if Region.wanted o (yielded ops a.tmps) = true then Oper.wp P o a w K Q else E := by
  have hw : Region.wanted o (yielded ops a.tmps) = true := by simp [Region.wanted, hgd]
  rw [if_pos hw]
  obtain ⟨v', w', hr, h2, h3, h4, h5⟩ := run_pushes0 (P := P) t o.type e i z bytes ht hi hz hsize hby hzs hsz he HG hb hbase A c ns f hy hf hn h63 hbytes
  unfold Oper.wp execOp
  simp only [ho, resolve, invoke, builtin, Sem.run_bind, Sem.run_pure, Result.andThen_ok, List.map_toArray, List.map_cons, List.map_nil, hs, hx, hr]
  obtain ⟨A', c', rfl⟩ := h2.len
  exact h A' c' w' h2 h3 h4 (by cases A' <;> exact h5)
theorem step_push {P : Program} {ops : Array Oper} {o : Oper} {a : Act} {K : Act → World → Prop} {Q : Exit → Act → World → Prop} {E : Prop} {w : World} (hgd : o.guard = none) (s x : Operand) (t : TypeId)
    (ho : o.op = .call { callee := .builtin .append, args := #[s, x], argTypes := #[t, t] })
    {α : Type} {enc : α → List D} {base : Nat} {wr : World} {xs : List α} (y : α) {v : Value} (e : TypeId) (i : TypeInfo) (z : Value) (sz bytes : Nat) (ht : P.underlying t = some (.slice e)) (hi : P.info? e = some i) (hz : i.zero = some z)
    (hsize : i.size = sz) (hby : i.bytes = bytes) (hzs : z.cells.size = sz) (hsz : 0 < sz) (he : ∀ x, (enc x).length = sz)
    (hs : a.eval s = v) (HG : Gr base wr e enc sz xs v) (hb : Below wr.heap.size wr w) (hbase : base ≤ wr.heap.size)
    (ad : Addr) (c : Nat) (hx : a.eval x = .slice (some ad) 1 c) (ns : List Value) (f : List Nat) (hy : OwnRow w (enc y) ns f) (hf : Fresh wr f) (hn : ∀ j u, ns[j]? = some u → w.cell? (ad.add j) = some u)
    (h63 : (xs.length + 1) * bytes ≤ 140737488355328 ∧ xs.length < 9000000000000000000)
    (h : ∀ A' c' w', Gr base w' e enc sz (xs ++ [y]) (.slice A' (xs ++ [y]).length c') → Below base w w' → w.grownBy w' v.ownBlock → (∀ k, (Value.slice A' 0 c').ownBlock = some k → v.ownBlock = some k ∨ w.heap.size ≤ k) → K (a.put o.dst (.slice A' (xs ++ [y]).length c')) w') : if Region.wanted o (yielded ops a.tmps) = true then Oper.wp P o a w K Q else E :=
  step_pushes hgd s x t ho [y] e i z sz bytes ht hi hz hsize hby hzs hsz he hs HG hb hbase (some ad) c hx ns f (by rw [List.flatMap_cons, List.flatMap_nil, List.append_nil]; exact hy) hf (fun _ => ⟨ad, rfl, hn⟩) (by unfold maxLen; have := h63.2; simp only [List.length_cons, List.length_nil]; omega) h63.1 h

theorem Own.stay {W w' : World} {d : D} {v : Value} {fp : List Nat} {B : Nat} (h : Own W d v fp) (hf : ∀ b, b ∈ fp → b < B) (hb : Below B W w') : Own w' d v fp := Own.frame d v fp (fun b hm => hb.block b (hf b hm)) h
theorem OwnRow.stay {W w' : World} {ds : List D} {us : List Value} {fp : List Nat} {B : Nat} (h : OwnRow W ds us fp) (hf : ∀ b, b ∈ fp → b < B) (hb : Below B W w') : OwnRow w' ds us fp := OwnRow.frame ds us fp (fun b hm => hb.block b (hf b hm)) h
theorem cell_at {B : Nat} {w w' : World} (hb : Below B w w') {b o : Nat} {v : Value} (h : w.cell? ⟨b, o, none⟩ = some v) (hB : b < B) : w'.cell? ⟨b, o, none⟩ = some v := (hb.cell (p := ⟨b, o, none⟩) hB).trans h
theorem grown_cell {w w' : World} {row : Option Nat} (h : w.grownBy w' row) {b : Nat} (hb : b < w.heap.size) (hne : row ≠ some b) : (∀ o, w'.cell? ⟨b, o, none⟩ = w.cell? ⟨b, o, none⟩) ∧ (∀ o, w'.frozen? ⟨b, o, none⟩ = w.frozen? ⟨b, o, none⟩) :=
  ⟨fun o => World.cell?_of_block (a := ⟨b, o, none⟩) (h.block b hb (fun e => hne e.symm)), fun o => World.frozen?_of_block (a := ⟨b, o, none⟩) (h.block b hb (fun e => hne e.symm))⟩
theorem b1d (w : World) (o : Obj) : Below w.drew.heap.size w.drew (w.alloc o).drew := b1 w.drew o
theorem strs_fp {w : World} : ∀ {xs : List ByteArray} {us : List Value} {f : List Nat}, OwnRow w (xs.flatMap strD) us f → f = []
  | [], us, f, h => by simp only [List.flatMap_nil, OwnRow] at h; exact h.2
  | x :: r, us, f, h => by
    rw [List.flatMap_cons] at h
    simp only [strD, List.cons_append, List.nil_append, OwnRow] at h
    obtain ⟨u, us', f1, f2, rfl, rfl, h3, h4⟩ := h
    simp only [Own] at h3
    rw [h3.2, strs_fp h4]
    rfl
theorem Own.str_fp {w : World} {xs : List ByteArray} {v : Value} {fp : List Nat} (h : Own w (Lib.slD strD 1 xs) v fp) : ∀ b, b ∈ fp → v.ownBlock = some b := by
  intro b hm
  simp only [Lib.slD, Own] at h
  rcases h.2 with ⟨rfl, _, rfl⟩ | ⟨g, cap, cur, e, fs, rfl, _, _, _, _, rfl, h6⟩
  · cases hm
  · have := strs_fp h6
    subst this
    simp only [List.mem_cons, List.not_mem_nil, or_false] at hm
    simp [Value.ownBlock, hm]
theorem Below.setSame {B : Nat} {w : World} {b o : Nat} {u : Value} (h : w.cell? ⟨b, o, none⟩ = some u) : Below B (w.setCell ⟨b, o, none⟩ u) w := by
  refine ⟨rfl, rfl, rfl, by simp, fun k _ => ?_⟩
  by_cases e : k = b
  · subst e
    simp only [World.setCell, Array.getElem?_modify, if_true]
    unfold World.cell? at h
    dsimp only at h
    cases hk : w.heap[k]? with
    | none => rfl
    | some ob =>
      rw [hk] at h
      cases ob with
      | cells c el fz =>
        simp only [Option.map_some, Option.isSome_none, Bool.false_eq_true, if_false]
        congr 2
        have h : c[o]? = some u := by simpa using h
        obtain ⟨hlt, hv⟩ := Array.getElem?_eq_some_iff.1 h
        apply Array.ext
        · simp
        · intro i h1 h2
          by_cases e : i = o
          · subst e; simp [hv]
          · rw [Array.getElem_setIfInBounds (by simpa using h2), if_neg (fun h => e h.symm)]
      | _ => rfl
  · exact (Below.heap_setCell w ⟨b, o, none⟩ u k e).symm
/-- One cell below the mark written once more. -/
theorem Below.again {B : Nat} {W w : World} {p : Addr} {u : Value} (h : Below B (W.setCell p u) w) (u' : Value) : Below B (W.setCell p u') (w.setCell p u') := by
  refine ⟨h.os, h.tape, h.output, by have := h.size; simp only [World.size_setCell] at this ⊢; exact this, fun k hk => ?_⟩
  have hb := h.block k hk
  by_cases e : k = p.block
  · subst e
    simp only [World.setCell, Array.getElem?_modify, if_true] at hb ⊢
    rw [hb]
    cases W.heap[p.block]? with
    | none => rfl
    | some o => cases o <;> by_cases hsp : p.spot.isSome = true <;> simp [hsp]
  · rw [Below.heap_setCell w p u' k e, hb, Below.heap_setCell W p u k e, Below.heap_setCell W p u' k e]
theorem Gr.set {α : Type} {enc : α → List D} {sz base : Nat} {w : World} {e : TypeId} {xs : List α} {v : Value} (h : Gr base w e enc sz xs v) {p : Addr} (hp : p.block < base) (u : Value) : Gr base (w.setCell p u) e enc sz xs v := by
  obtain ⟨us, fs, h1, h2, h3, h4, h5⟩ := h
  refine ⟨us, fs, ⟨h1.1, ?_⟩, h2.set (fun hm => by have := h4 _ hm; omega) u, h3, h4, h5⟩
  rcases h1.2 with h | ⟨g, cap, cur, rfl, hg, hh, hn, hc, hs, ht⟩
  · exact .inl h
  · exact .inr ⟨g, cap, cur, rfl, hg, (Below.heap_setCell w p u g (by omega)).trans hh, hn, hc, hs, ht⟩

/-- The cells of a box that has just been laid. -/
theorem box_cells {w : World} {vs : List Value} {g : Nat} {cur : Array Value} {e : TypeId} {fz : Nat × Nat} (h : w.heap[g]? = some (.cells cur e fz)) (hv : cur.toList = vs) : ∀ j u, vs[j]? = some u → w.cell? ((⟨g, 0, none⟩ : Addr).add j) = some u := by
  intro j u hj
  rw [add_plain]
  subst hv
  rw [Array.getElem?_toList] at hj
  simp [World.cell?, h, hj]
theorem box_newAt {w : World} {cur : Array Value} {e : TypeId} {vs : List Value} {g : Nat} (hg : w.heap.size = g) (hv : cur.toList = vs) : ∀ j u, vs[j]? = some u → (w.alloc (.cells cur e)).cell? ((⟨g, 0, none⟩ : Addr).add j) = some u := by
  subst hg
  exact box_cells (e := e) (fz := (0, 0)) (by simp [World.alloc, -World.alloc_eq]) hv
theorem box_new {w : World} {cur : Array Value} {e : TypeId} {vs : List Value} (hv : cur.toList = vs) : ∀ j u, vs[j]? = some u → (w.alloc (.cells cur e)).cell? ((⟨w.heap.size, 0, none⟩ : Addr).add j) = some u :=
  box_cells (e := e) (fz := (0, 0)) (by simp [World.alloc, -World.alloc_eq]) hv

/-! ### lists of texts and of numbers: their cells lead nowhere -/
theorem strs_row (w : World) : ∀ (xs : List ByteArray), (∀ x, x ∈ xs → x.size ≤ 9223372036854775807) → OwnRow w (xs.flatMap strD) (xs.map Value.string) []
  | [], _ => OwnRow.nil w
  | x :: r, h => by
    have := OwnRow.str (h x (by simp)) (strs_row w r fun y hy => h y (by simp [hy]))
    simpa [strD] using this
theorem ints_row (w : World) : ∀ (xs : List Int), OwnRow w (xs.flatMap intD) (xs.map (Value.int .i64)) []
  | [] => OwnRow.nil w
  | x :: r => by
    have := OwnRow.int (k := .i64) (n := x) (ints_row w r)
    simpa [intD] using this
theorem Rd.str_small {w : World} {xs : List ByteArray} {A : Option Addr} {n c : Nat} (h : Rd w (slD strD 1 xs) (.slice A n c)) : ∀ x, x ∈ xs → x.size ≤ 9223372036854775807 := by
  intro x hx
  obtain ⟨k, hk, rfl⟩ := List.getElem_of_mem hx
  obtain ⟨ad, rfl, hc, hs⟩ := Rd.elem_str h k hk
  exact hs
theorem Rd.str_news {w : World} {xs : List ByteArray} {A : Option Addr} {n c : Nat} (h : Rd w (slD strD 1 xs) (.slice A n c)) : 0 < xs.length → ∃ ad, A = some ad ∧ ∀ j u, (xs.map Value.string)[j]? = some u → w.cell? (ad.add j) = some u := by
  intro h0
  obtain ⟨ad, rfl, _⟩ := Rd.elem_str h 0 h0
  refine ⟨ad, rfl, fun j u hj => ?_⟩
  obtain ⟨hl, rfl⟩ := List.getElem?_eq_some_iff.1 hj
  rw [List.length_map] at hl
  obtain ⟨ad', e, hc, _⟩ := Rd.elem_str h j hl
  injection e with e
  subst e
  simpa using hc
theorem Rd.int_news {w : World} {xs : List Int} {A : Option Addr} {n c : Nat} (h : Rd w (slD intD 1 xs) (.slice A n c)) : 0 < xs.length → ∃ ad, A = some ad ∧ ∀ j u, (xs.map (Value.int .i64))[j]? = some u → w.cell? (ad.add j) = some u := by
  intro h0
  obtain ⟨ad, rfl, _⟩ := Rd.elem_int h 0 h0
  refine ⟨ad, rfl, fun j u hj => ?_⟩
  obtain ⟨hl, rfl⟩ := List.getElem?_eq_some_iff.1 hj
  rw [List.length_map] at hl
  obtain ⟨ad', e, hc⟩ := Rd.elem_int h j hl
  injection e with e
  subst e
  simpa using hc
end Go.Proofs.Ytmkagpmdindlpaa.Lib
