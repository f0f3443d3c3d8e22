/- How an argument that reads opens into data. Printed by gopen.py. No condition. -/
import Derived.Test.YtmkagpmdindlpaaTypes
import Derived.Test.YtmkagpmdindlpaaProg
import Derived.Deep.Slices
import Derived.ChangeArms
set_option linter.unusedVariables false
set_option linter.unusedSimpArgs false
namespace Go.Proofs.Ytmkagpmdindlpaa.Lib
open Go.RowKit

mutual
/-- Each whole number in the datum is one of its kind. -/
def WfD : D → Prop
  | .int k n => (Lit.int k n).wf = true
  | .bool _ => True
  | .str _ => True
  | .sl _ _ cs => WfDs cs
def WfDs : List D → Prop
  | [] => True
  | d :: r => WfD d ∧ WfDs r
end
theorem WfDs.app : ∀ {ds es : List D}, WfDs ds → WfDs es → WfDs (ds ++ es)
  | [], _, _, h => h
  | d :: r, es, h, k => by
    simp only [List.cons_append, WfDs] at h ⊢
    exact ⟨h.1, WfDs.app h.2 k⟩
theorem WfDs.flat {α : Type} {e : α → List D} : ∀ {xs : List α}, (∀ a, a ∈ xs → WfDs (e a)) → WfDs (xs.flatMap e)
  | [], _ => by simp only [List.flatMap_nil, WfDs]
  | x :: r, h => by
    rw [List.flatMap_cons]
    exact WfDs.app (h x (by simp)) (WfDs.flat fun a ha => h a (by simp [ha]))
theorem WfDs.split : ∀ {ds es : List D}, WfDs (ds ++ es) → WfDs ds ∧ WfDs es
  | [], _, h => ⟨by simp only [WfDs], h⟩
  | d :: r, es, h => by
    simp only [List.cons_append, WfDs] at h ⊢
    obtain ⟨h1, h2⟩ := WfDs.split h.2
    exact ⟨⟨h.1, h1⟩, h2⟩
theorem WfDs.of_flat {α : Type} {e : α → List D} : ∀ {xs : List α}, WfDs (xs.flatMap e) → ∀ a, a ∈ xs → WfDs (e a)
  | [], _, a, ha => by cases ha
  | x :: r, h, a, ha => by
    rw [List.flatMap_cons] at h
    obtain ⟨h1, h2⟩ := WfDs.split h
    rcases List.mem_cons.1 ha with rfl | ha
    · exact h1
    · exact WfDs.of_flat h2 a ha

theorem RdRow.app {w : World} : ∀ {cs ds : List D} {ad : Addr} {j : Nat}, RdRow w cs ad j → RdRow w ds ad (j + cs.length) → RdRow w (cs ++ ds) ad j
  | [], _, _, _, _, k => k
  | c :: r, ds, ad, j, h, k => by
    simp only [List.cons_append, RdRow] at h ⊢
    exact ⟨h.1, RdRow.app h.2 (by rw [show j + 1 + r.length = j + (c :: r).length by rw [List.length_cons]; omega]; exact k)⟩
theorem RdL.row {w : World} {ds : List D} {us : List Value} (h : RdL w ds us) : ∀ {ad : Addr} {j : Nat}, (∀ i u, us[i]? = some u → w.cell? (ad.add (j + i)) = some u) → RdRow w ds ad j := by
  induction h with
  | nil => intro ad j _; simp only [RdRow]
  | cons h _ ih =>
    intro ad j hc
    simp only [RdRow]
    exact ⟨⟨_, by simpa using hc 0 _ rfl, h⟩, ih fun i u hu => by
      have := hc (i + 1) u (by simpa using hu)
      rwa [show j + (i + 1) = j + 1 + i by omega] at this⟩
theorem RdL.step {w : World} {d1 d2 : List D} {cs : List Value} {k c m : Nat} (h1 : RdL w d1 ((cs.drop k).take c)) (h2 : RdL w d2 (cs.drop m)) (hm : k + c = m) : RdL w (d1 ++ d2) (cs.drop k) := by
  have h := h1.append h2
  rw [← hm, ← List.drop_drop, List.take_append_drop] at h
  exact h
theorem RdL.end_ {w : World} {cs : List Value} {k : Nat} (h : cs.length = k) : RdL w [] (cs.drop k) := by
  rw [List.drop_eq_nil_of_le (by omega)]
  exact .nil

section
variable {H : Type} {en : TypeId × Value → H} {w : World} {base : Nat} {sp : Nat → Bool} {hd : Bool}
/-- A reading of type t with at most n rounds opens into an element. -/
def OpAt (en : TypeId × Value → H) (w : World) (base : Nat) (sp : Nat → Bool) (hd : Bool) {α : Type} (n : Nat) (t : TypeId) (e : α → List D) : Prop :=
  ∀ cs x, DataW.trod en Try.prog w base sp hd n t cs = some x → ∃ a, RdL w (e a) cs ∧ WfDs (e a)
theorem op_int {n : Nat} {t : TypeId} (ht : Try.prog.underlying t = some (.int .i64)) : OpAt en w base sp hd n t intD := by
  intro cs x h
  obtain ⟨m, rfl, rfl, hw⟩ := DataW.trod_int ht h
  exact ⟨m, .cons (by simp only [Rd]) .nil, hw, trivial⟩
theorem op_bool {n : Nat} {t : TypeId} (ht : Try.prog.underlying t = some .bool) : OpAt en w base sp hd n t boolD := by
  intro cs x h
  obtain ⟨m, rfl, rfl⟩ := DataW.trod_bool ht h
  exact ⟨m, .cons (by simp only [Rd]) .nil, trivial, trivial⟩
theorem op_str {n : Nat} {t : TypeId} (ht : Try.prog.underlying t = some .string) : OpAt en w base sp hd n t strD := by
  intro cs x h
  obtain ⟨m, rfl, rfl, hl⟩ := DataW.trod_string ht h
  exact ⟨m, .cons (by simp only [Rd, true_and]; simpa [maxLen] using hl) .nil, trivial, trivial⟩
theorem op_row {α : Type} {e : α → List D} {sz : Nat} (he : ∀ x, (e x).length = sz) {ad : Addr} : ∀ (xs : List α) (j : Nat),
    (∀ i a, xs[i]? = some a → ∃ us, RdL w (e a) us ∧ ∀ k, k < sz → w.cell? (ad.add (j + i * sz + k)) = us[k]?) → RdRow w (xs.flatMap e) ad j
  | [], _, _ => by simp only [List.flatMap_nil, RdRow]
  | x :: r, j, h => by
    rw [List.flatMap_cons]
    refine RdRow.app ?_ ?_
    · obtain ⟨us, h1, h2⟩ := h 0 x rfl
      refine h1.row fun i u hu => ?_
      have hl := h1.length
      have hi : i < us.length := (List.getElem?_eq_some_iff.1 hu).1
      have := h2 i (by rw [← he x]; omega)
      rw [hu] at this
      simpa using this
    · rw [he]
      refine op_row he r (j + sz) fun i a hi => ?_
      obtain ⟨us, h1, h2⟩ := h (i + 1) a (by simpa using hi)
      exact ⟨us, h1, fun k hk => by rw [show j + sz + i * sz + k = j + (i + 1) * sz + k by rw [Nat.succ_mul]; omega]; exact h2 k hk⟩
theorem op_list {α : Type} {q : Nat → α → Prop} : ∀ (len : Nat), (∀ i, i < len → ∃ a, q i a) → ∃ xs : List α, xs.length = len ∧ ∀ i a, xs[i]? = some a → q i a
  | 0, _ => ⟨[], rfl, fun i a h => by simp at h⟩
  | n + 1, h => by
    obtain ⟨xs, hl, hx⟩ := op_list n fun i hi => h i (by omega)
    obtain ⟨a, ha⟩ := h n (by omega)
    refine ⟨xs ++ [a], by simp [hl], fun i b hb => ?_⟩
    by_cases hi : i < n
    · rw [List.getElem?_append_left (by omega)] at hb
      exact hx i b hb
    · rw [List.getElem?_append_right (by omega)] at hb
      have h0 : i - xs.length = 0 := by
        have := (List.getElem?_eq_some_iff.1 hb).1
        simp at this
        omega
      rw [h0] at hb
      simp only [List.getElem?_cons_zero, Option.some.injEq] at hb
      subst hb
      rw [show i = n by omega]
      exact ha
theorem op_slice {α : Type} {e : α → List D} {sz n : Nat} {t et : TypeId} (he : ∀ x, (e x).length = sz) (ht : Try.prog.underlying t = some (.slice et)) (hc : Try.prog.cellsOf et = sz) (hel : ∀ m, m < n → OpAt en w base sp hd m et e) :
    OpAt en w base sp hd n t (fun xs => [slD e sz xs]) := by
  intro cs x h
  rcases DataW.trod_slice ht h with ⟨rfl, _⟩ | ⟨a, len, cap, elems, rest, m, rfl, rfl, rfl, hb, hl, hm, hlen, hx, _, _⟩
  · exact ⟨[], .cons (by simp only [slD, Rd]; exact ⟨none, 0, rfl, Nat.le_refl _, by simp [maxLen], by simp, fun h => by simp at h⟩) .nil, by simp only [slD, WfD, WfDs, List.flatMap_nil, and_self]⟩
  obtain ⟨xs, hxl, hxs⟩ := op_list (q := fun i (y : α) => WfDs (e y) ∧ ∃ us, RdL w (e y) us ∧ ∀ k, k < sz → w.cell? (a.add (0 + i * sz + k)) = us[k]?) len (fun i hi => by
    have h1 := hx i hi
    rw [List.getElem?_eq_getElem (by omega), Option.bind_eq_some_iff] at h1
    obtain ⟨us, h2, h3⟩ := h1
    obtain ⟨y, h4, h5⟩ := hel m (by omega) us _ h3
    refine ⟨y, h5, us, h4, fun k hk => ?_⟩
    have h6 := (World.cells?_some h2).2.2 k (by rw [hc]; exact hk)
    rw [hc, addr_add] at h6
    rw [Nat.zero_add]
    exact h6)
  refine ⟨xs, .cons ?_ .nil, ?_⟩
  · simp only [slD, Rd]
    refine ⟨some a, cap, by rw [hxl], by omega, hm, flat_length he xs, fun _ => ⟨a, rfl, op_row he xs 0 fun i y hy => (hxs i y hy).2⟩⟩
  · simp only [slD, WfD, WfDs, and_true]
    refine WfDs.flat fun y hy => ?_
    obtain ⟨i, hi⟩ := List.mem_iff_getElem?.1 hy
    exact (hxs i y hi).1

theorem op_strS (n : Nat) : OpAt en w base sp hd n 52 (fun xs => [slD strD 1 xs]) := op_slice (et := 9) strD_len (by kernel_rfl) (by kernel_rfl) (fun m _ => op_str (by kernel_rfl))
theorem op_Field : ∀ (n : Nat), OpAt en w base sp hd n 166 JField.enc := by
  intro n
  intro cs x h
  obtain ⟨xs, m, hn, _, hlen, hxl, hf⟩ := DataW.trod_struct Try.underlying166 h
  have hlen : cs.length = 8 := hlen.trans (by kernel_rfl)
  have hxl : xs.length = 8 := hxl
  have f0 : DataW.trod en Try.prog w base sp hd m 9 ((cs.drop 0).take (Try.prog.cellsOf 9)) = xs[0]? := hf 0 _ rfl
  rw [List.getElem?_eq_getElem (by omega), show Try.prog.cellsOf 9 = 1 by kernel_rfl] at f0
  obtain ⟨a0, g0, w0⟩ := (op_str (by kernel_rfl) : OpAt en w base sp hd m 9 strD) _ _ f0
  have g0 : RdL w _ ((cs.drop 0).take 1) := g0
  have f1 : DataW.trod en Try.prog w base sp hd m 9 ((cs.drop 1).take (Try.prog.cellsOf 9)) = xs[1]? := hf 1 _ rfl
  rw [List.getElem?_eq_getElem (by omega), show Try.prog.cellsOf 9 = 1 by kernel_rfl] at f1
  obtain ⟨a1, g1, w1⟩ := (op_str (by kernel_rfl) : OpAt en w base sp hd m 9 strD) _ _ f1
  have g1 : RdL w _ ((cs.drop 1).take 1) := g1
  have f2 : DataW.trod en Try.prog w base sp hd m 4 ((cs.drop 2).take (Try.prog.cellsOf 4)) = xs[2]? := hf 2 _ rfl
  rw [List.getElem?_eq_getElem (by omega), show Try.prog.cellsOf 4 = 1 by kernel_rfl] at f2
  obtain ⟨a2, g2, w2⟩ := (op_bool (by kernel_rfl) : OpAt en w base sp hd m 4 boolD) _ _ f2
  have g2 : RdL w _ ((cs.drop 2).take 1) := g2
  have f3 : DataW.trod en Try.prog w base sp hd m 4 ((cs.drop 3).take (Try.prog.cellsOf 4)) = xs[3]? := hf 3 _ rfl
  rw [List.getElem?_eq_getElem (by omega), show Try.prog.cellsOf 4 = 1 by kernel_rfl] at f3
  obtain ⟨a3, g3, w3⟩ := (op_bool (by kernel_rfl) : OpAt en w base sp hd m 4 boolD) _ _ f3
  have g3 : RdL w _ ((cs.drop 3).take 1) := g3
  have f4 : DataW.trod en Try.prog w base sp hd m 4 ((cs.drop 4).take (Try.prog.cellsOf 4)) = xs[4]? := hf 4 _ rfl
  rw [List.getElem?_eq_getElem (by omega), show Try.prog.cellsOf 4 = 1 by kernel_rfl] at f4
  obtain ⟨a4, g4, w4⟩ := (op_bool (by kernel_rfl) : OpAt en w base sp hd m 4 boolD) _ _ f4
  have g4 : RdL w _ ((cs.drop 4).take 1) := g4
  have f5 : DataW.trod en Try.prog w base sp hd m 4 ((cs.drop 5).take (Try.prog.cellsOf 4)) = xs[5]? := hf 5 _ rfl
  rw [List.getElem?_eq_getElem (by omega), show Try.prog.cellsOf 4 = 1 by kernel_rfl] at f5
  obtain ⟨a5, g5, w5⟩ := (op_bool (by kernel_rfl) : OpAt en w base sp hd m 4 boolD) _ _ f5
  have g5 : RdL w _ ((cs.drop 5).take 1) := g5
  have f6 : DataW.trod en Try.prog w base sp hd m 4 ((cs.drop 6).take (Try.prog.cellsOf 4)) = xs[6]? := hf 6 _ rfl
  rw [List.getElem?_eq_getElem (by omega), show Try.prog.cellsOf 4 = 1 by kernel_rfl] at f6
  obtain ⟨a6, g6, w6⟩ := (op_bool (by kernel_rfl) : OpAt en w base sp hd m 4 boolD) _ _ f6
  have g6 : RdL w _ ((cs.drop 6).take 1) := g6
  have f7 : DataW.trod en Try.prog w base sp hd m 52 ((cs.drop 7).take (Try.prog.cellsOf 52)) = xs[7]? := hf 7 _ rfl
  rw [List.getElem?_eq_getElem (by omega), show Try.prog.cellsOf 52 = 1 by kernel_rfl] at f7
  obtain ⟨a7, g7, w7⟩ := (op_strS m : OpAt en w base sp hd m 52 (fun xs => [slD strD 1 xs])) _ _ f7
  have g7 : RdL w _ ((cs.drop 7).take 1) := g7
  have hr := RdL.step g0 (RdL.step g1 (RdL.step g2 (RdL.step g3 (RdL.step g4 (RdL.step g5 (RdL.step g6 (RdL.step g7 (RdL.end_ hlen) (m := 8) rfl) (m := 7) rfl) (m := 6) rfl) (m := 5) rfl) (m := 4) rfl) (m := 3) rfl) (m := 2) rfl) (m := 1) rfl
  have hw := (WfDs.app w0 (WfDs.app w1 (WfDs.app w2 (WfDs.app w3 (WfDs.app w4 (WfDs.app w5 (WfDs.app w6 (WfDs.app w7 (show WfDs [] from trivial)))))))))
  refine ⟨⟨a0, a1, a2, a3, a4, a5, a6, a7⟩, ?_, ?_⟩
  · rw [JField.enc_eq]; exact hr
  · rw [JField.enc_eq]; exact hw
theorem op_FieldS (n : Nat) : OpAt en w base sp hd n 118 (fun xs => [slD JField.enc 8 xs]) := op_slice (et := 166) JField.enc_len (by kernel_rfl) (by kernel_rfl) (fun m _ => op_Field m)
theorem op_Typ : ∀ (n : Nat), OpAt en w base sp hd n 120 JTyp.enc := by
  intro n
  intro cs x h
  obtain ⟨xs, m, hn, _, hlen, hxl, hf⟩ := DataW.trod_struct Try.underlying120 h
  have hlen : cs.length = 3 := hlen.trans (by kernel_rfl)
  have hxl : xs.length = 3 := hxl
  have f0 : DataW.trod en Try.prog w base sp hd m 9 ((cs.drop 0).take (Try.prog.cellsOf 9)) = xs[0]? := hf 0 _ rfl
  rw [List.getElem?_eq_getElem (by omega), show Try.prog.cellsOf 9 = 1 by kernel_rfl] at f0
  obtain ⟨a0, g0, w0⟩ := (op_str (by kernel_rfl) : OpAt en w base sp hd m 9 strD) _ _ f0
  have g0 : RdL w _ ((cs.drop 0).take 1) := g0
  have f1 : DataW.trod en Try.prog w base sp hd m 9 ((cs.drop 1).take (Try.prog.cellsOf 9)) = xs[1]? := hf 1 _ rfl
  rw [List.getElem?_eq_getElem (by omega), show Try.prog.cellsOf 9 = 1 by kernel_rfl] at f1
  obtain ⟨a1, g1, w1⟩ := (op_str (by kernel_rfl) : OpAt en w base sp hd m 9 strD) _ _ f1
  have g1 : RdL w _ ((cs.drop 1).take 1) := g1
  have f2 : DataW.trod en Try.prog w base sp hd m 118 ((cs.drop 2).take (Try.prog.cellsOf 118)) = xs[2]? := hf 2 _ rfl
  rw [List.getElem?_eq_getElem (by omega), show Try.prog.cellsOf 118 = 1 by kernel_rfl] at f2
  obtain ⟨a2, g2, w2⟩ := (op_FieldS m : OpAt en w base sp hd m 118 (fun xs => [slD JField.enc 8 xs])) _ _ f2
  have g2 : RdL w _ ((cs.drop 2).take 1) := g2
  have hr := RdL.step g0 (RdL.step g1 (RdL.step g2 (RdL.end_ hlen) (m := 3) rfl) (m := 2) rfl) (m := 1) rfl
  have hw := (WfDs.app w0 (WfDs.app w1 (WfDs.app w2 (show WfDs [] from trivial))))
  refine ⟨⟨a0, a1, a2⟩, ?_, ?_⟩
  · rw [JTyp.enc_eq]; exact hr
  · rw [JTyp.enc_eq]; exact hw
theorem op_TypS (n : Nat) : OpAt en w base sp hd n 22 (fun xs => [slD JTyp.enc 3 xs]) := op_slice (et := 120) JTyp.enc_len (by kernel_rfl) (by kernel_rfl) (fun m _ => op_Typ m)
theorem op_Part : ∀ (n : Nat), OpAt en w base sp hd n 24 JPart.enc := by
  intro n
  intro cs x h
  obtain ⟨xs, m, hn, _, hlen, hxl, hf⟩ := DataW.trod_struct Try.underlying24 h
  have hlen : cs.length = 2 := hlen.trans (by kernel_rfl)
  have hxl : xs.length = 2 := hxl
  have f0 : DataW.trod en Try.prog w base sp hd m 9 ((cs.drop 0).take (Try.prog.cellsOf 9)) = xs[0]? := hf 0 _ rfl
  rw [List.getElem?_eq_getElem (by omega), show Try.prog.cellsOf 9 = 1 by kernel_rfl] at f0
  obtain ⟨a0, g0, w0⟩ := (op_str (by kernel_rfl) : OpAt en w base sp hd m 9 strD) _ _ f0
  have g0 : RdL w _ ((cs.drop 0).take 1) := g0
  have f1 : DataW.trod en Try.prog w base sp hd m 22 ((cs.drop 1).take (Try.prog.cellsOf 22)) = xs[1]? := hf 1 _ rfl
  rw [List.getElem?_eq_getElem (by omega), show Try.prog.cellsOf 22 = 1 by kernel_rfl] at f1
  obtain ⟨a1, g1, w1⟩ := (op_TypS m : OpAt en w base sp hd m 22 (fun xs => [slD JTyp.enc 3 xs])) _ _ f1
  have g1 : RdL w _ ((cs.drop 1).take 1) := g1
  have hr := RdL.step g0 (RdL.step g1 (RdL.end_ hlen) (m := 2) rfl) (m := 1) rfl
  have hw := (WfDs.app w0 (WfDs.app w1 (show WfDs [] from trivial)))
  refine ⟨⟨a0, a1⟩, ?_, ?_⟩
  · rw [JPart.enc_eq]; exact hr
  · rw [JPart.enc_eq]; exact hw
theorem op_intS (n : Nat) : OpAt en w base sp hd n 29 (fun xs => [slD intD 1 xs]) := op_slice (et := 3) intD_len (by kernel_rfl) (by kernel_rfl) (fun m _ => op_int (by kernel_rfl))
theorem op_Owner : ∀ (n : Nat), OpAt en w base sp hd n 114 JOwner.enc := by
  intro n
  intro cs x h
  obtain ⟨xs, m, hn, _, hlen, hxl, hf⟩ := DataW.trod_struct Try.underlying114 h
  have hlen : cs.length = 3 := hlen.trans (by kernel_rfl)
  have hxl : xs.length = 3 := hxl
  have f0 : DataW.trod en Try.prog w base sp hd m 9 ((cs.drop 0).take (Try.prog.cellsOf 9)) = xs[0]? := hf 0 _ rfl
  rw [List.getElem?_eq_getElem (by omega), show Try.prog.cellsOf 9 = 1 by kernel_rfl] at f0
  obtain ⟨a0, g0, w0⟩ := (op_str (by kernel_rfl) : OpAt en w base sp hd m 9 strD) _ _ f0
  have g0 : RdL w _ ((cs.drop 0).take 1) := g0
  have f1 : DataW.trod en Try.prog w base sp hd m 9 ((cs.drop 1).take (Try.prog.cellsOf 9)) = xs[1]? := hf 1 _ rfl
  rw [List.getElem?_eq_getElem (by omega), show Try.prog.cellsOf 9 = 1 by kernel_rfl] at f1
  obtain ⟨a1, g1, w1⟩ := (op_str (by kernel_rfl) : OpAt en w base sp hd m 9 strD) _ _ f1
  have g1 : RdL w _ ((cs.drop 1).take 1) := g1
  have f2 : DataW.trod en Try.prog w base sp hd m 29 ((cs.drop 2).take (Try.prog.cellsOf 29)) = xs[2]? := hf 2 _ rfl
  rw [List.getElem?_eq_getElem (by omega), show Try.prog.cellsOf 29 = 1 by kernel_rfl] at f2
  obtain ⟨a2, g2, w2⟩ := (op_intS m : OpAt en w base sp hd m 29 (fun xs => [slD intD 1 xs])) _ _ f2
  have g2 : RdL w _ ((cs.drop 2).take 1) := g2
  have hr := RdL.step g0 (RdL.step g1 (RdL.step g2 (RdL.end_ hlen) (m := 3) rfl) (m := 2) rfl) (m := 1) rfl
  have hw := (WfDs.app w0 (WfDs.app w1 (WfDs.app w2 (show WfDs [] from trivial))))
  refine ⟨⟨a0, a1, a2⟩, ?_, ?_⟩
  · rw [JOwner.enc_eq]; exact hr
  · rw [JOwner.enc_eq]; exact hw
theorem op_OwnerS (n : Nat) : OpAt en w base sp hd n 25 (fun xs => [slD JOwner.enc 3 xs]) := op_slice (et := 114) JOwner.enc_len (by kernel_rfl) (by kernel_rfl) (fun m _ => op_Owner m)
theorem op_Chart : ∀ (n : Nat), OpAt en w base sp hd n 27 JChart.enc := by
  intro n
  intro cs x h
  obtain ⟨xs, m, hn, _, hlen, hxl, hf⟩ := DataW.trod_struct Try.underlying27 h
  have hlen : cs.length = 3 := hlen.trans (by kernel_rfl)
  have hxl : xs.length = 2 := hxl
  have f0 : DataW.trod en Try.prog w base sp hd m 24 ((cs.drop 0).take (Try.prog.cellsOf 24)) = xs[0]? := hf 0 _ rfl
  rw [List.getElem?_eq_getElem (by omega), show Try.prog.cellsOf 24 = 2 by kernel_rfl] at f0
  obtain ⟨a0, g0, w0⟩ := (op_Part m : OpAt en w base sp hd m 24 JPart.enc) _ _ f0
  have g0 : RdL w _ ((cs.drop 0).take 2) := g0
  have f1 : DataW.trod en Try.prog w base sp hd m 25 ((cs.drop 2).take (Try.prog.cellsOf 25)) = xs[1]? := hf 1 _ rfl
  rw [List.getElem?_eq_getElem (by omega), show Try.prog.cellsOf 25 = 1 by kernel_rfl] at f1
  obtain ⟨a1, g1, w1⟩ := (op_OwnerS m : OpAt en w base sp hd m 25 (fun xs => [slD JOwner.enc 3 xs])) _ _ f1
  have g1 : RdL w _ ((cs.drop 2).take 1) := g1
  have hr := RdL.step g0 (RdL.step g1 (RdL.end_ hlen) (m := 3) rfl) (m := 2) rfl
  have hw := (WfDs.app w0 (WfDs.app w1 (show WfDs [] from trivial)))
  refine ⟨⟨a0, a1⟩, ?_, ?_⟩
  · rw [JChart.enc_nest]; simpa [strD, intD, boolD] using hr
  · rw [JChart.enc_nest]; simpa [strD, intD, boolD] using hw
end

end Go.Proofs.Ytmkagpmdindlpaa.Lib
