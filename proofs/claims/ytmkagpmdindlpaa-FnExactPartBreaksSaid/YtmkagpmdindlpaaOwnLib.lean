/- A list of elements that is being filled, from the front on, in a block of the call's own (Half). No condition. -/
import Derived.Test.YtmkagpmdindlpaaLib
set_option linter.unusedVariables false
set_option linter.unusedSimpArgs false
namespace Go.Proofs.Ytmkagpmdindlpaa.Lib
open Go.RowKit

theorem made_block {w : World} {base g : Nat} {e : TypeId} {size n : Nat} {xs : List Value} (h : w.ownsRow base e size (.slice (some ⟨g, 0, none⟩) n n) n xs) :
    ∃ cur : Array Value, w.heap[g]? = some (.cells cur e (0, 0)) ∧ cur.toList = xs ∧ cur.size = n * size := by
  rcases h.2 with ⟨h1, _⟩ | ⟨g', cap', cur, h1, hb, hh, h2, h3, h4, h5⟩
  · cases h1
  · injection h1 with h1 h6 h7
    injection h1 with h1
    injection h1 with h1
    subst h1 h7
    refine ⟨cur, hh, ?_, h4⟩
    rw [← h5, List.take_of_length_le (by rw [Array.length_toList, h4]; exact Nat.le_refl _)]

/-- Values laid one behind the other. -/
def putAll (w : World) (g j : Nat) : List Value → World
  | [] => w
  | u :: us => putAll (w.setCell ⟨g, j, none⟩ u) g (j + 1) us

theorem setCell_block {w : World} {g j : Nat} {cur : Array Value} {e : TypeId} {fr : Nat × Nat} (h : w.heap[g]? = some (.cells cur e fr)) (u : Value) : (w.setCell ⟨g, j, none⟩ u).heap[g]? = some (.cells (cur.setIfInBounds j u) e fr) := by
  simp [World.setCell, Array.getElem?_modify, h]

theorem putAll_below {w0 w : World} {B g : Nat} (h : Below B w0 w) (hg : B ≤ g) : ∀ (us : List Value) (j : Nat), Below B w0 (putAll w g j us)
  | [], _ => h
  | u :: us, j => putAll_below (h.setCell (p := ⟨g, j, none⟩) hg u) hg us (j + 1)
theorem putAll_size {w : World} {g : Nat} : ∀ (us : List Value) (j : Nat), (putAll w g j us).heap.size = w.heap.size
  | [], _ => rfl
  | u :: us, j => by unfold putAll; rw [putAll_size us]; exact World.size_setCell ..
theorem putAll_other {w : World} {g b : Nat} (hb : b ≠ g) : ∀ (us : List Value) (j : Nat), (putAll w g j us).heap[b]? = w.heap[b]?
  | [], _ => rfl
  | u :: us, j => by unfold putAll; rw [putAll_other hb us]; exact Below.heap_setCell _ _ _ _ hb
theorem putAll_at {w : World} {g : Nat} {e : TypeId} {fr : Nat × Nat} : ∀ (us : List Value) (j : Nat) (cur : Array Value), w.heap[g]? = some (.cells cur e fr) → j + us.length ≤ cur.size →
    ∃ cur' : Array Value, (putAll w g j us).heap[g]? = some (.cells cur' e fr) ∧ cur'.size = cur.size ∧ cur'.toList = cur.toList.take j ++ us ++ cur.toList.drop (j + us.length)
  | [], j, cur, h, hl => ⟨cur, h, rfl, by simp⟩
  | u :: us, j, cur, h, hl => by
    simp only [List.length_cons] at hl
    have hd : cur.toList = cur.toList.take j ++ cur.toList[j]'(by simp; omega) :: cur.toList.drop (j + 1) := by
      conv => lhs; rw [← List.take_append_drop j cur.toList, List.drop_eq_getElem_cons (by simp; omega)]
    obtain ⟨cur', h1, h2, h3⟩ := putAll_at us (j + 1) (cur.setIfInBounds j u) (setCell_block h u) (by simp; omega)
    refine ⟨cur', h1, by rw [h2]; simp, ?_⟩
    have hL : (cur.setIfInBounds j u).toList = cur.toList.take j ++ u :: cur.toList.drop (j + 1) := by
      rw [Array.toList_setIfInBounds, List.set_eq_take_append_cons_drop, if_pos (by simp; omega)]
    have hj : (cur.toList.take j).length = j := by rw [List.length_take]; simp; omega
    rw [h3, hL, List.take_append, hj, List.drop_append, hj, show j + 1 - j = 1 by omega, show j + 1 + us.length - j = us.length + 1 by omega,
      List.take_of_length_le (by omega), List.drop_of_length_le (l := cur.toList.take j) (by omega)]
    simp [Nat.add_comm, Nat.add_left_comm, Nat.add_assoc]

/-- The first k elements stand in the block g, all others are zero. -/
def Half {α : Type} (w : World) (enc : α → List D) (sz : Nat) (z : List D) (xs : List α) (k : Nat) (g : Nat) : Prop :=
  ∃ cur e fs, w.heap[g]? = some (.cells cur e (0, 0)) ∧ cur.size = xs.length * sz ∧ xs.length ≤ maxLen ∧ OwnRow w ((xs.take k).flatMap enc ++ (List.replicate (xs.length - k) z).flatten) cur.toList fs ∧ (g :: fs).Nodup ∧ ∀ b, b ∈ fs → g ≤ b

theorem OwnRow.zeros {w : World} {z : List D} {zc : List Value} (h : OwnRow w z zc []) : ∀ n, OwnRow w (List.replicate n z).flatten (List.replicate n zc).flatten []
  | 0 => by simpa using OwnRow.nil w
  | n + 1 => by
    rw [List.replicate_succ, List.replicate_succ, List.flatten_cons, List.flatten_cons]
    exact OwnRow.app (f1 := []) h (OwnRow.zeros h n)

theorem made_flat (zc : Array Value) (h0 : 0 < zc.size) (n : Nat) : (madeCells zc (n * zc.size)).toList = (List.replicate n zc.toList).flatten := by
  apply List.ext_getElem?
  intro i
  have hlen : ∀ m, ((List.replicate m zc.toList).flatten).length = m * zc.size := by
    intro m
    induction m with
    | zero => simp
    | succ m ih => rw [List.replicate_succ, List.flatten_cons, List.length_append, ih, Array.length_toList, Nat.succ_mul, Nat.add_comm]
  by_cases hi : i < n * zc.size
  · have key : ∀ (m i : Nat), i < m * zc.size → ((List.replicate m zc.toList).flatten)[i]? = some (zc[i % zc.size]!) := by
      intro m
      induction m with
      | zero => intro i hi; simp at hi
      | succ m ih =>
        intro i hi
        rw [List.replicate_succ, List.flatten_cons]
        by_cases hl : i < zc.size
        · rw [List.getElem?_append_left (by simpa using hl), Nat.mod_eq_of_lt hl]
          simp [getElem!_pos, hl]
        · rw [List.getElem?_append_right (by simpa using hl), Array.length_toList, ih (i - zc.size) (by rw [Nat.succ_mul] at hi; omega)]
          rw [← Nat.mod_eq_sub_mod (by omega)]
    rw [key n i hi]
    simp [madeCells, hi]
  · rw [List.getElem?_eq_none (l := (madeCells zc (n * zc.size)).toList) (by rw [Array.length_toList, size_madeCells]; omega), List.getElem?_eq_none (by rw [hlen]; omega)]

theorem half_start {α : Type} {enc : α → List D} {sz g : Nat} {z : List D} {w : World} {cur : Array Value} {e : TypeId} {zc : Array Value} (xs : List α) (hb : w.heap[g]? = some (.cells cur e (0, 0))) (hc : cur.toList = (madeCells zc (xs.length * sz)).toList)
    (hs : cur.size = xs.length * sz) (hzs : zc.size = sz) (h0 : 0 < sz) (hl : xs.length ≤ maxLen) (hz : ∀ w, OwnRow w z zc.toList []) : Half w enc sz z xs 0 g := by
  subst hzs
  refine ⟨cur, e, [], hb, hs, hl, ?_, by simp, fun b h => by cases h⟩
  rw [hc, made_flat zc h0, List.take_zero, List.flatMap_nil, List.nil_append, Nat.sub_zero]
  exact OwnRow.zeros (hz w) _

theorem Half.cell {α : Type} {w : World} {enc : α → List D} {sz : Nat} {z : List D} {xs : List α} {k g : Nat} (h : Half w enc sz z xs k g) (j : Nat) (hj : j < xs.length * sz) : ∃ y, w.cell? ⟨g, j, none⟩ = some y := by
  obtain ⟨cur, e, fs, h1, h2, _⟩ := h
  refine ⟨cur[j]'(by omega), ?_⟩
  simp [World.cell?, h1, show j < cur.size by omega]
theorem Half.free {α : Type} {w : World} {enc : α → List D} {sz : Nat} {z : List D} {xs : List α} {k g : Nat} (h : Half w enc sz z xs k g) (j : Nat) : w.frozen? ⟨g, j, none⟩ = false := by
  obtain ⟨cur, e, fs, h1, h2, _⟩ := h
  simp [World.frozen?, h1]
theorem Half.lt {α : Type} {w : World} {enc : α → List D} {sz : Nat} {z : List D} {xs : List α} {k g : Nat} (h : Half w enc sz z xs k g) : g < w.heap.size := by
  obtain ⟨cur, e, fs, h1, h2, _⟩ := h
  exact (Array.getElem?_eq_some_iff.1 h1).1

theorem splice {α : Type} {u1 uz u2 us : List α} {a s : Nat} (h1 : u1.length = a) (hz : uz.length = s) (hu : us.length = s) : (u1 ++ (uz ++ u2)).take a ++ us ++ (u1 ++ (uz ++ u2)).drop (a + us.length) = u1 ++ us ++ u2 := by
  subst h1 hz
  rw [List.take_left, ← List.drop_drop, List.drop_left, hu, List.drop_left]
theorem Half.step {α : Type} {w w2 : World} {enc : α → List D} {sz : Nat} {z : List D} {xs : List α} {k g : Nat} (h : Half w enc sz z xs k g) (hz : z.length = sz) (he : ∀ x, (enc x).length = sz) (hk : k < xs.length) (hb : Below w.heap.size w w2)
    {us : List Value} {f : List Nat} (o : OwnRow w2 (enc xs[k]) us f) (fr : Fresh w f) : Half (putAll w2 g (k * sz) us) enc sz z xs (k + 1) g := by
  have hg := h.lt
  obtain ⟨cur, e, fs, h1, h2, h3, h4, h5, h6⟩ := h
  rw [show xs.length - k = (xs.length - (k + 1)) + 1 by omega, List.replicate_succ, List.flatten_cons] at h4
  have hfs := OwnRow.lt _ _ _ h4
  obtain ⟨u1, ur, f1, fr1, e1, rfl, o1, o2⟩ := OwnRow.split h4
  obtain ⟨uz, u2, fz, f2, rfl, rfl, oz, o3⟩ := OwnRow.split o2
  have l1 : u1.length = k * sz := by rw [OwnRow.length o1, flat_length he, List.length_take]; congr 1; omega
  have lz : uz.length = sz := by rw [OwnRow.length oz, hz]
  have lu : us.length = sz := by rw [OwnRow.length o, he]
  have hmul : k * sz + sz ≤ xs.length * sz := by rw [← Nat.succ_mul]; exact Nat.mul_le_mul_right _ hk
  obtain ⟨cur', q1, q2, q3⟩ := putAll_at us (k * sz) cur ((hb.block g hg).trans h1) (by omega)
  have hnd := List.nodup_cons.1 h5
  have keepL : ∀ {ds vs fp}, OwnRow w ds vs fp → (∀ b, b ∈ fp → b ∈ f1 ++ (fz ++ f2)) → OwnRow (putAll w2 g (k * sz) us) ds vs fp := fun ho hs =>
    OwnRow.frame _ _ _ (fun b hm => (putAll_other (fun e => hnd.1 (by rw [← e]; exact hs b hm)) us _).trans (hb.block b (hfs b (hs b hm)))) ho
  have keepN : OwnRow (putAll w2 g (k * sz) us) (enc xs[k]) us f := OwnRow.frame _ _ _ (fun b hm => putAll_other (fun e => by have := fr.2 b hm; omega) us _) o
  refine ⟨cur', e, f1 ++ (f ++ f2), q1, q2.trans h2, h3, ?_, ?_, ?_⟩
  · rw [q3, e1, splice l1 lz lu]
    rw [List.take_succ_eq_append_getElem hk, List.flatMap_append, List.flatMap_singleton, List.append_assoc, List.append_assoc]
    exact OwnRow.app (keepL o1 (fun b hm => by simp [hm])) (OwnRow.app keepN (keepL o3 (fun b hm => by simp [hm])))
  · have hn1 := hnd.2
    rw [List.nodup_append] at hn1
    have hn2 := hn1.2.1
    rw [List.nodup_append] at hn2
    refine List.nodup_cons.2 ⟨fun hm => ?_, ?_⟩
    · rcases List.mem_append.1 hm with hm | hm
      · exact hnd.1 (by simp [hm])
      · rcases List.mem_append.1 hm with hm | hm
        · have := fr.2 g hm; omega
        · exact hnd.1 (by simp [hm])
    · refine List.nodup_append.2 ⟨hn1.1, List.nodup_append.2 ⟨fr.1, hn2.2.1, fun a ha b hb e => ?_⟩, fun a ha b hb e => ?_⟩
      · have := fr.2 a ha; have := hfs b (by simp [hb]); omega
      · rcases List.mem_append.1 hb with hb | hb
        · have := fr.2 b hb; have := hfs a (by simp [ha]); omega
        · exact hn1.2.2 a ha b (by simp [hb]) e
  · intro b hm
    rcases List.mem_append.1 hm with hm | hm
    · exact h6 b (by simp [hm])
    · rcases List.mem_append.1 hm with hm | hm
      · have := fr.2 b hm; omega
      · exact h6 b (by simp [hm])

theorem Half.done {α : Type} {w w1 : World} {enc : α → List D} {sz : Nat} {z : List D} {xs : List α} {g : Nat} (h : Half w1 enc sz z xs xs.length g) (hg : w.heap.size ≤ g) (hb : Below w.heap.size w w1) :
    Made1 w (slD enc sz xs) (.returned (.slice (some ⟨g, 0, none⟩) xs.length xs.length)) w1 := by
  obtain ⟨cur, e, fs, h1, h2, h3, h4, h5, h6⟩ := h
  have he : (List.take xs.length xs).flatMap enc ++ (List.replicate (xs.length - xs.length) z).flatten = xs.flatMap enc := by simp
  rw [he] at h4
  have hlen : (xs.flatMap enc).length = xs.length * sz := by rw [← OwnRow.length h4, Array.length_toList, h2]
  refine ⟨_, g :: fs, rfl, ?_, ⟨h5, fun b hm => ?_⟩, hb⟩
  · simp only [slD, Own]
    refine ⟨hlen, .inr ⟨g, xs.length, cur, e, fs, rfl, h1, Nat.le_refl _, h3, h2, rfl, ?_⟩⟩
    rw [List.take_of_length_le (by rw [Array.length_toList, h2]; exact Nat.le_refl _)]
    exact h4
  · rcases List.mem_cons.1 hm with rfl | hm
    · exact hg
    · exact Nat.le_trans hg (h6 b hm)

/-- The same for elements of one cell. -/
theorem Half.step1 {α : Type} {w w2 : World} {enc : α → List D} {z : List D} {xs : List α} {k g : Nat} (h : Half w enc 1 z xs k g) (hz : z.length = 1) (he : ∀ x, (enc x).length = 1) (hk : k < xs.length) (hb : Below w.heap.size w w2)
    {u : Value} {f : List Nat} (o : OwnRow w2 (enc xs[k]) [u] f) (fr : Fresh w f) : Half (w2.setCell ⟨g, k, none⟩ u) enc 1 z xs (k + 1) g := by
  have := Half.step h hz he hk hb o fr
  rw [Nat.mul_one] at this
  exact this
theorem Fresh.app1 {w : World} {f : List Nat} (h : Fresh w f) : Fresh w (f ++ []) := by rw [List.append_nil]; exact h
theorem Fresh.not {w : World} {fp : List Nat} (h : Fresh w fp) {b : Nat} (hb : b < w.heap.size) : b ∉ fp := fun hm => by have := h.2 b hm; omega

/-! ### what is owned, written -/
/-- Only blocks of fp have been written. -/
structure Touch (w w' : World) (fp : List Nat) : Prop where
  os : w'.os = w.os
  tape : w'.tape = w.tape
  output : w'.output = w.output
  size : w.heap.size ≤ w'.heap.size
  block : ∀ b, b < w.heap.size → b ∉ fp → w'.heap[b]? = w.heap[b]?
theorem Touch.refl (w : World) (fp : List Nat) : Touch w w fp := ⟨rfl, rfl, rfl, Nat.le_refl _, fun _ _ _ => rfl⟩
theorem Touch.trans {w w1 w2 : World} {fp : List Nat} (h : Touch w w1 fp) (k : Touch w1 w2 fp) : Touch w w2 fp :=
  ⟨k.os.trans h.os, k.tape.trans h.tape, k.output.trans h.output, Nat.le_trans h.size k.size, fun b hb hn => (k.block b (Nat.lt_of_lt_of_le hb h.size) hn).trans (h.block b hb hn)⟩
theorem Touch.mono {w w1 : World} {f fp : List Nat} (h : Touch w w1 f) (hs : ∀ b, b ∈ f → b ∈ fp) : Touch w w1 fp := ⟨h.os, h.tape, h.output, h.size, fun b hb hn => h.block b hb (fun hm => hn (hs b hm))⟩
theorem Touch.below {w w1 : World} {fp : List Nat} (h : Below w.heap.size w w1) : Touch w w1 fp := ⟨h.os, h.tape, h.output, h.size, fun b hb _ => h.block b hb⟩
theorem Touch.set {w : World} {fp : List Nat} {p : Addr} (hp : p.block ∈ fp) (u : Value) : Touch w (w.setCell p u) fp :=
  ⟨rfl, rfl, rfl, by rw [World.size_setCell]; exact Nat.le_refl _, fun b _ hn => Below.heap_setCell w p u b (fun e => hn (e ▸ hp))⟩
theorem Touch.toBelow {w0 w w1 : World} {fp : List Nat} (h : Touch w w1 fp) (hb : Below w0.heap.size w0 w) (hf : ∀ b, b ∈ fp → w0.heap.size ≤ b) : Below w0.heap.size w0 w1 :=
  hb.trans ⟨h.os, h.tape, h.output, h.size, fun k hk => h.block k (Nat.lt_of_lt_of_le hk hb.size) (fun hm => by have := hf k hm; omega)⟩
theorem Own.touch {w w1 : World} {d : D} {v : Value} {f fp : List Nat} (h : Own w d v f) (ht : Touch w w1 fp) (hd : ∀ b, b ∈ f → b ∉ fp) : Own w1 d v f :=
  Own.frame d v f (fun b hm => ht.block b (Own.lt d v f h b hm) (hd b hm)) h
theorem OwnRow.touch {w w1 : World} {ds : List D} {us : List Value} {f fp : List Nat} (h : OwnRow w ds us f) (ht : Touch w w1 fp) (hd : ∀ b, b ∈ f → b ∉ fp) : OwnRow w1 ds us f :=
  OwnRow.frame ds us f (fun b hm => ht.block b (OwnRow.lt ds us f h b hm) (hd b hm)) h

/-- A slice of one's own: it is empty, or begins at the head of its block. -/
theorem Own.head {w : World} {sz n : Nat} {cs : List D} {v : Value} {fp : List Nat} (h : Own w (.sl sz n cs) v fp) : (n = 0 ∧ ∃ A c, v = .slice A 0 c) ∨ ∃ g cap, v = .slice (some ⟨g, 0, none⟩) n cap := by
  simp only [Own] at h
  rcases h.2 with ⟨rfl, rfl, _⟩ | ⟨g, cap, cur, e, fs, rfl, _⟩
  · exact .inl ⟨rfl, none, 0, rfl⟩
  · exact .inr ⟨g, cap, rfl⟩

/-- Cell j of a slice of one's own: it can be written; what it leads to is owned apart from the rest. -/
theorem Own.sub {w : World} {sz n cap g : Nat} {cs : List D} {fp : List Nat} (h : Own w (.sl sz n cs) (.slice (some ⟨g, 0, none⟩) n cap) fp) (nd : fp.Nodup) (j : Nat) (d : D) (hj : cs[j]? = some d) :
    ∃ u f, w.cell? ⟨g, j, none⟩ = some u ∧ w.frozen? ⟨g, j, none⟩ = false ∧ Own w d u f ∧ f.Nodup ∧ (∀ b, b ∈ f → b ∈ fp) ∧ g ∈ fp ∧ g < w.heap.size ∧
      (∀ w' d', Touch w w' f → Own w' d' u f → Own w' (.sl sz n (cs.set j d')) (.slice (some ⟨g, 0, none⟩) n cap) fp) ∧
      (f = [] → ∀ d' u', (∀ w', Own w' d' u' []) → Own (w.setCell ⟨g, j, none⟩ u') (.sl sz n (cs.set j d')) (.slice (some ⟨g, 0, none⟩) n cap) fp) := by
  simp only [Own] at h
  obtain ⟨hl, h⟩ := h
  rcases h with ⟨h, _⟩ | ⟨g', cap', cur, e, fs, hv, hb, hn, hcap, hsz, rfl, hr⟩
  · cases h
  injection hv with h1 _ h2
  injection h1 with h1
  injection h1 with h1
  subst h1 h2
  have hjl : j < cs.length := (List.getElem?_eq_some_iff.1 hj).1
  have hcs : cs = cs.take j ++ (d :: cs.drop (j + 1)) := by
    have := (List.getElem?_eq_some_iff.1 hj).2
    rw [← this, ← List.drop_eq_getElem_cons hjl, List.take_append_drop]
  have hr' := hr
  rw [hcs] at hr'
  obtain ⟨u1, u2, f1, f2, e1, rfl, o1, o2⟩ := OwnRow.split hr'
  simp only [OwnRow] at o2
  obtain ⟨u, u3, fd, f3, rfl, rfl, od, o3⟩ := o2
  have l1 : u1.length = j := by rw [OwnRow.length o1, List.length_take]; omega
  have l3 : u3.length = cs.length - (j + 1) := by rw [OwnRow.length o3, List.length_drop]
  have hlen : n * sz ≤ cur.size := by rw [hsz]; exact Nat.mul_le_mul_right _ hn
  have hcur : cur.toList[j]? = some u := by
    have : (cur.toList.take (n * sz))[j]? = some u := by rw [e1, List.getElem?_append_right (by omega), l1]; simp
    rw [List.getElem?_take] at this
    split at this
    · exact this
    · cases this
  have hnd := List.nodup_cons.1 nd
  have hn1 := List.nodup_append.1 hnd.2
  have hn2 := List.nodup_append.1 hn1.2.1
  have hlt : ∀ b, b ∈ f1 ++ (fd ++ f3) → b < w.heap.size := OwnRow.lt _ _ _ hr
  have hset : ∀ d', cs.set j d' = cs.take j ++ (d' :: cs.drop (j + 1)) := fun d' => by rw [List.set_eq_take_append_cons_drop, if_pos hjl]
  refine ⟨u, fd, ?_, by simp [World.frozen?, hb], od, hn2.1, fun b hm => by simp [hm], by simp, (Array.getElem?_eq_some_iff.1 hb).1, ?_, ?_⟩
  · rw [Array.getElem?_toList] at hcur
    simp [World.cell?, hb, hcur]
  · intro w' d' ht ho
    simp only [Own]
    refine ⟨by rw [List.length_set]; exact hl, .inr ⟨g, cap, cur, e, _, rfl, ?_, hn, hcap, hsz, rfl, ?_⟩⟩
    · rw [ht.block g (Array.getElem?_eq_some_iff.1 hb).1 (fun hm => hnd.1 (by simp [hm]))]; exact hb
    · rw [e1, hset]
      refine OwnRow.app (OwnRow.touch o1 ht fun b hm hm2 => hn1.2.2 b hm b (by simp [hm2]) rfl) (OwnRow.cons ho (OwnRow.touch o3 ht fun b hm hm2 => hn2.2.2 b hm2 b hm rfl))
  · intro hf d' u' ho
    subst hf
    simp only [Own]
    refine ⟨by rw [List.length_set]; exact hl, .inr ⟨g, cap, cur.setIfInBounds j u', e, _, rfl, setCell_block hb u', hn, hcap, by simpa using hsz, rfl, ?_⟩⟩
    have hL : (cur.setIfInBounds j u').toList.take (n * sz) = u1 ++ (u' :: u3) := by
      rw [Array.toList_setIfInBounds, List.take_set, e1, List.set_append_right _ _ (by omega), l1, Nat.sub_self]
      rfl
    rw [hL, hset]
    have fr : ∀ {ds us f}, OwnRow w ds us f → (∀ b, b ∈ f → b ∈ f1 ++ ([] ++ f3)) → OwnRow (w.setCell ⟨g, j, none⟩ u') ds us f := fun ho hs => OwnRow.set ho (fun hm => hnd.1 (hs _ hm)) _
    exact OwnRow.app (fr o1 fun b hm => by simp [hm]) (OwnRow.cons (ho _) (fr o3 fun b hm => by simp [hm]))
/-- A cell that leads nowhere. -/
def D.flat : D → Prop
  | .sl _ _ _ => False
  | _ => True
theorem Own.flat {w : World} : ∀ {d : D} {u : Value} {f : List Nat}, Own w d u f → d.flat → f = []
  | .int _ _, _, _, h, _ => by simp only [Own] at h; exact h.2
  | .bool _, _, _, h, _ => by simp only [Own] at h; exact h.2
  | .str _, _, _, h, _ => by simp only [Own] at h; exact h.2
theorem set_at {A L C : List D} {a : Nat} (hA : A.length = a) {j : Nat} (hj : j < L.length) (d : D) : (A ++ (L ++ C)).set (a + j) d = A ++ (L.set j d ++ C) := by
  subst hA
  rw [List.set_append_right _ _ (by omega), show A.length + j - A.length = j by omega, List.set_append_left _ _ hj]
theorem get_at {A L C : List D} {a : Nat} (hA : A.length = a) {j : Nat} (hj : j < L.length) : (A ++ (L ++ C))[a + j]? = L[j]? := by
  subst hA
  rw [List.getElem?_append_right (by omega), show A.length + j - A.length = j by omega, List.getElem?_append_left hj]
/-- The marks are laid: the number behind the last, and what has been written. -/
def Marked (w : World) (d : D) (v : Value) (fp : List Nat) (r : Int) (e : Ending) (w' : World) : Prop := e = .returned (.int .i64 r) ∧ Own w' d v fp ∧ Touch w w' fp

theorem Marked.int {w w' : World} {d : D} {v : Value} {fp : List Nat} {a b : Int} (h : a = b) (ho : Own w' d v fp) (ht : Touch w w' fp) : Marked w d v fp b (.returned (.int .i64 a)) w' := ⟨by rw [h], ho, ht⟩

end Go.Proofs.Ytmkagpmdindlpaa.Lib
