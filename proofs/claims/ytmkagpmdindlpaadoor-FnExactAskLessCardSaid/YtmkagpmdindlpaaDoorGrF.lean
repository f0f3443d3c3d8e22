/- A list of the call's own that grows by elements whose memory may be handed over from elsewhere (GrF); the footprints of a list's elements. No condition beyond sizes that every list has. -/
import Derived.Test.YtmkagpmdindlpaaDoorGr
set_option linter.unusedVariables false
set_option linter.unusedSimpArgs false
namespace Go.Proofs.YtmkagpmdindlpaaDoor.Lib
open Go.RowKit

/-- The list stands in a block from base on; what it leads to lies in the blocks F or from base on, each for this alone. -/
def GrF (F : List Nat) (base : Nat) (w : World) (e : TypeId) {α : Type} (enc : α → List D) (sz : Nat) (xs : List α) (v : Value) : Prop :=
  ∃ us fs, w.ownsRow base e sz v xs.length us ∧ OwnRow w (xs.flatMap enc) us fs ∧ fs.Nodup ∧ (∀ b, b ∈ fs → b ∈ F ∨ base ≤ b) ∧ ∀ k, v.ownBlock = some k → k ∉ fs

section
variable {α : Type} {enc : α → List D} {sz base : Nat} {w wr W w2 : World} {e : TypeId} {xs : List α} {v : Value} {F : List Nat}

theorem GrF.nil (base : Nat) (w : World) (e : TypeId) (enc : α → List D) (sz : Nat) : GrF [] base w e enc sz [] (.slice none 0 0) :=
  ⟨[], [], World.ownsRow_nil w _ _ _, OwnRow.nil w, List.nodup_nil, (fun b h => (by cases h)), (fun k h => (by cases h))⟩
theorem GrF.empty {base : Nat} (w : World) (e : TypeId) (enc : α → List D) (sz : Nat) (hb : base ≤ w.heap.size) : GrF [] base (w.alloc (.cells #[] e)) e enc sz [] (.slice (some ⟨w.heap.size, 0, none⟩) 0 0) := by
  obtain ⟨us, fs, h1, h2, h3, h4, h5⟩ := Gr.empty (base := base) w e enc sz hb
  exact ⟨us, fs, h1, h2, h3, fun b hm => .inr (h4 b hm), h5⟩
theorem GrF.cast {ys : List α} {v' : Value} (h : GrF F base w e enc sz xs v) (hx : xs = ys) (hv : v = v') : GrF F base w e enc sz ys v' := by subst hx hv; exact h
theorem GrF.len (h : GrF F base w e enc sz xs v) : ∃ A c, v = .slice A xs.length c := by
  obtain ⟨us, fs, h1, _⟩ := h
  rcases h1.2 with ⟨rfl, h0⟩ | ⟨g, cap, cur, rfl, _⟩
  · exact ⟨none, 0, by rw [h0]⟩
  · exact ⟨_, _, rfl⟩
theorem GrF.more {G : List Nat} (h : GrF F base w e enc sz xs v) (hF : ∀ b, b ∈ F → b ∈ G) : GrF G base w e enc sz xs v := by
  obtain ⟨us, fs, h1, h2, h3, h4, h5⟩ := h
  exact ⟨us, fs, h1, h2, h3, fun b hm => (h4 b hm).imp (hF b) id, h5⟩
theorem GrF.keep (h : GrF F base wr e enc sz xs v) (hb : Below wr.heap.size wr W) : GrF F base W e enc sz xs v := by
  obtain ⟨us, fs, h1, h2, h3, h4, h5⟩ := h
  refine ⟨us, fs, ⟨h1.1, ?_⟩, h2.keep hb, h3, h4, h5⟩
  rcases h1.2 with h | ⟨g, cap, cur, rfl, hg, hh, hn, hc, hs, ht⟩
  · exact .inl h
  · exact .inr ⟨g, cap, cur, rfl, hg, (hb.block g (Array.getElem?_eq_some_iff.1 hh).1).trans hh, hn, hc, hs, ht⟩
theorem GrF.own (he : ∀ x, (enc x).length = sz) (h : GrF F base w e enc sz xs v) : ∃ fp, Own w (slD enc sz xs) v fp ∧ fp.Nodup ∧ ∀ b, b ∈ fp → b ∈ F ∨ base ≤ b := by
  obtain ⟨us, fs, h1, h2, h3, h4, h5⟩ := h
  rcases h1.2 with ⟨rfl, h0⟩ | ⟨g, cap, cur, rfl, hg, hh, hn, hc, hs, ht⟩
  · have hx : xs = [] := List.eq_nil_of_length_eq_zero h0
    subst hx
    refine ⟨[], ?_, List.nodup_nil, fun b hm => by cases hm⟩
    simp [slD, Own]
  · refine ⟨g :: fs, ?_, List.nodup_cons.2 ⟨h5 g rfl, h3⟩, fun b hm => ?_⟩
    · simp only [slD, Own]
      exact ⟨flat_length he _, .inr ⟨g, cap, cur, _, fs, rfl, hh, hn, hc, hs, rfl, by rw [ht]; exact h2⟩⟩
    · rcases List.mem_cons.1 hm with rfl | hm
      · exact .inr hg
      · exact h4 b hm
theorem GrF.rd (he : ∀ x, (enc x).length = sz) (h : GrF F base w e enc sz xs v) : Rd w (slD enc sz xs) v := by
  obtain ⟨fp, h1, _⟩ := h.own he
  exact Own.rd _ _ _ h1
theorem GrF.own_lt (h : GrF F base w e enc sz xs v) : ∀ k, v.ownBlock = some k → base ≤ k ∧ k < w.heap.size := by
  obtain ⟨us, fs, h1, _⟩ := h
  exact h1.lt
theorem GrF.below (h : GrF F base wr e enc sz xs v) (hb : Below wr.heap.size wr W) (hs : base ≤ wr.heap.size) (hg : W.grownBy w2 v.ownBlock) : Below base W w2 := by
  refine ⟨hg.os, hg.tape, hg.output, hg.size, fun k hk => hg.block k (by have := hb.size; omega) (fun e => ?_)⟩
  have := (h.own_lt k e.symm).1
  omega

theorem GrF.push {P : Program} {G : List Nat} (y : α) (t ty : TypeId) (i : TypeInfo) (z : Value) (bytes : Nat) (ht : P.underlying t = some (.slice e)) (hi : P.info? e = some i) (hz : i.zero = some z)
    (hsize : i.size = sz) (hby : i.bytes = bytes) (hzs : z.cells.size = sz) (hsz : 0 < sz) (he : ∀ x, (enc x).length = sz)
    (HG : GrF F base wr e enc sz xs v) (hb : Below wr.heap.size wr w) (hbase : base ≤ wr.heap.size)
    (ad : Addr) (c : Nat) (ns : List Value) (f : List Nat) (hy : OwnRow w (enc y) ns f) (hnd : f.Nodup) (hf : ∀ b, b ∈ f → (b ∈ G ∧ b ∉ F ∧ b < base) ∨ wr.heap.size ≤ b) (hn : ∀ j u, ns[j]? = some u → w.cell? (ad.add j) = some u)
    (h63 : xs.length < 9000000000000000000) (hbytes : (xs.length + 1) * bytes ≤ 140737488355328) :
    ∃ v' w', (Builtin.append_ #[t, t] ty #[v, .slice (some ad) 1 c]).run P w = .ok v' w' ∧ GrF (F ++ G) base w' e enc sz (xs ++ [y]) v' ∧ Below base w w' ∧ w.grownBy w' v.ownBlock := by
  have HG0 := HG
  obtain ⟨us, fs, h1, h2, h3, h4, h5⟩ := HG
  have hlt := OwnRow.lt _ _ _ h2
  have h6 := h1.lt
  have h1' : w.ownsRow base e sz v xs.length us := by
    refine ⟨h1.1, ?_⟩
    rcases h1.2 with h | ⟨g, cap, cur, rfl, hg, hh, hn, hc, hs, ht⟩
    · exact .inl h
    · exact .inr ⟨g, cap, cur, rfl, hg, (hb.block g (Array.getElem?_eq_some_iff.1 hh).1).trans hh, hn, hc, hs, ht⟩
  have hnl : ns.length = 1 * sz := by rw [OwnRow.length hy, he, Nat.one_mul]
  obtain ⟨v', w', hr, ho, hg, _, hH⟩ := run_append_own_at (P := P) w base t ty e i z sz bytes ht hi hz hsize hby hzs hsz v _ us h1' ad 1 c ns hnl hn (OwnRow.one hy) (by unfold maxLen; omega) hbytes (by have := hb.size; omega)
  have hlf := OwnRow.lt _ _ _ hy
  have hws := hb.size
  have k1 : OwnRow w' (xs.flatMap enc) us fs := OwnRow.frame _ _ _ (fun b hm => hg.block b (by have := hlt b hm; omega) (fun e => h5 b e.symm hm)) (h2.keep hb)
  have k2 : OwnRow w' (enc y) ns f := OwnRow.frame _ _ _ (fun b hm => hg.block b (hlf b hm) (fun e => by have := h6 b e.symm; rcases hf b hm with h | h <;> omega)) hy
  refine ⟨v', w', hr, ⟨us ++ ns, fs ++ f, by rw [List.length_append]; exact ho, by rw [List.flatMap_append, List.flatMap_cons, List.flatMap_nil, List.append_nil]; exact k1.app k2, List.nodup_append.2 ⟨h3, hnd, fun a ha b hb' e => ?_⟩, fun b hm => ?_, fun k hk hm => ?_⟩, HG0.below hb hbase hg, hg⟩
  · subst e
    have q1 := hlt a ha
    rcases hf a hb' with ⟨_, q2, q3⟩ | q2
    · rcases h4 a ha with q4 | q4
      · exact q2 q4
      · omega
    · omega
  · rcases List.mem_append.1 hm with hm | hm
    · exact (h4 b hm).imp (fun q => List.mem_append_left _ q) id
    · rcases hf b hm with ⟨q, _⟩ | q
      · exact .inl (List.mem_append_right _ q)
      · exact .inr (by omega)
  · rcases hH with h | h
    · rw [h] at hk
      have q1 := h6 k hk
      rcases List.mem_append.1 hm with hm | hm
      · exact h5 k hk hm
      · rcases hf k hm with ⟨_, _, q2⟩ | q2 <;> omega
    · rw [h] at hk
      simp only [Option.some.injEq] at hk
      subst hk
      rcases List.mem_append.1 hm with hm | hm
      · have := hlt _ hm; omega
      · have := hlf _ hm; omega
end

/-- One element, laid in a box, its memory handed over or fresh. -/
theorem wpList_pushF {P : Program} {ops : Array Oper} {rest : List Oper} {o : Oper} {a : Act} {Q : Exit → Act → World → Prop} {w : World} (hgd : o.guard = none) (s x : Operand) (t : TypeId)
    (ho : o.op = .call { callee := .builtin .append, args := #[s, x], argTypes := #[t, t] })
    {α : Type} {enc : α → List D} {base : Nat} {wr : World} {xs : List α} {F : List Nat} (G : List Nat) (y : α) {v : Value} (e : TypeId) (i : TypeInfo) (z : Value) (sz bytes : Nat) (ht : P.underlying t = some (.slice e)) (hi : P.info? e = some i) (hz : i.zero = some z)
    (hsize : i.size = sz) (hby : i.bytes = bytes) (hzs : z.cells.size = sz) (hsz : 0 < sz) (he : ∀ x, (enc x).length = sz)
    (hs : a.eval s = v) (HG : GrF F base wr e enc sz xs v) (hb : Below wr.heap.size wr w) (hbase : base ≤ wr.heap.size)
    (ad : Addr) (c : Nat) (hx : a.eval x = .slice (some ad) 1 c) (ns : List Value) (f : List Nat) (hy : OwnRow w (enc y) ns f) (hnd : f.Nodup) (hf : ∀ b, b ∈ f → (b ∈ G ∧ b ∉ F ∧ b < base) ∨ wr.heap.size ≤ b) (hn : ∀ j u, ns[j]? = some u → w.cell? (ad.add j) = some u)
    (h63 : (xs.length + 1) * bytes ≤ 140737488355328 ∧ xs.length < 9000000000000000000)
    (h : ∀ A' n' c' w', n' = xs.length + 1 → GrF (F ++ G) base w' e enc sz (xs ++ [y]) (.slice A' n' c') → Below base w w' → w.grownBy w' v.ownBlock → wpList P ops Q rest (a.put o.dst (.slice A' n' c')) w') : wpList P ops Q (o :: rest) a w := by
  refine wpList_plain hgd fun K hK => ?_
  obtain ⟨v', w', hr, h2, h3, h4⟩ := GrF.push (P := P) y t o.type i z bytes ht hi hz hsize hby hzs hsz he HG hb hbase ad c ns f hy hnd hf hn h63.2 h63.1
  unfold Oper.wp execOp
  simp only [ho, resolve, invoke, builtin, Sem.run_bind, Sem.run_pure, Result.andThen_ok, List.map_toArray, List.map_cons, List.map_nil, hs, hx, hr]
  obtain ⟨A', c', rfl⟩ := h2.len
  exact hK _ _ (h A' _ c' w' (by simp) h2 h3 h4)

/-- Each element's own blocks. -/
theorem OwnRow.parts {α : Type} {enc : α → List D} {sz : Nat} (he : ∀ x, (enc x).length = sz) {w : World} : ∀ {xs : List α} {us : List Value} {f : List Nat}, OwnRow w (xs.flatMap enc) us f →
    ∃ Fs : List (List Nat), Fs.length = xs.length ∧ f = Fs.flatten ∧ ∀ (k : Nat) (h1 : k < xs.length) (h2 : k < Fs.length), OwnRow w (enc xs[k]) ((us.drop (k * sz)).take sz) Fs[k]
  | [], us, f, h => by
    simp only [List.flatMap_nil, OwnRow] at h
    exact ⟨[], rfl, by rw [h.2]; rfl, fun k h1 => by simp at h1⟩
  | x :: r, us, f, h => by
    rw [List.flatMap_cons] at h
    obtain ⟨u1, u2, f1, f2, rfl, rfl, o1, o2⟩ := OwnRow.split h
    obtain ⟨Fs, e1, e2, e3⟩ := OwnRow.parts he o2
    have l1 : u1.length = sz := by rw [OwnRow.length o1, he]
    refine ⟨f1 :: Fs, by simp [e1], by rw [e2]; rfl, fun k h1 h2 => ?_⟩
    cases k with
    | zero => simp only [List.getElem_cons_zero, Nat.zero_mul, List.drop_zero]; rw [List.take_append_of_le_length (by omega), List.take_of_length_le (by omega)]; exact o1
    | succ k =>
      simp only [List.getElem_cons_succ]
      have e5 : ((u1 ++ u2).drop ((k + 1) * sz)) = u2.drop (k * sz) := by rw [show (k + 1) * sz = u1.length + k * sz by rw [l1, Nat.succ_mul]; omega, List.drop_append, List.drop_of_length_le (by omega), List.nil_append]; congr 1; omega
      rw [e5]
      exact e3 k (by simpa using h1) (by simpa using h2)
/-- The blocks of the first ones, of the next one. -/
theorem parts_apart {Fs : List (List Nat)} (h : Fs.flatten.Nodup) (k : Nat) (hk : k < Fs.length) : Fs[k].Nodup ∧ (∀ b, b ∈ Fs[k] → b ∉ (Fs.take k).flatten) ∧ (Fs.take (k + 1)).flatten = (Fs.take k).flatten ++ Fs[k] ∧ (∀ b, b ∈ Fs[k] → b ∈ Fs.flatten) := by
  have e : (Fs.take (k + 1)).flatten = (Fs.take k).flatten ++ Fs[k] := by rw [List.take_succ_eq_append_getElem hk, List.flatten_append]; simp
  have e2 : Fs.flatten = (Fs.take (k + 1)).flatten ++ (Fs.drop (k + 1)).flatten := by rw [← List.flatten_append, List.take_append_drop]
  rw [e2, e, List.append_assoc] at h
  obtain ⟨h1, h2, h3⟩ := List.nodup_append.1 h
  obtain ⟨h4, h5, h6⟩ := List.nodup_append.1 h2
  exact ⟨h4, fun b hm hm2 => h3 b hm2 b (List.mem_append_left _ hm) rfl, e, fun b hm => by rw [e2, e]; simp [hm]⟩
end Go.Proofs.YtmkagpmdindlpaaDoor.Lib
