/- PartField on both sides, a field of a part. Printed by gfield.py. Parts of 2^20 at most. -/
import Derived.Test.YtmkagpmdindlpaaPartU
import Derived.Test.YtmkagpmdindlpaaSMk
set_option linter.unusedVariables false
set_option linter.unusedSimpArgs false
namespace Go.Proofs.Ytmkagpmdindlpaa.Lib
open Go.RowKit
noncomputable def okF (p : JPart) (n f : ByteArray) : Option JField := if tf (PartOk p) = true then p.findF n f else none
theorem okF_t {p : JPart} {n f : ByteArray} (h : PartOk p) : okF p n f = p.findF n f := by unfold okF; rw [if_pos (tf_t h)]
theorem okF_f {p : JPart} {n f : ByteArray} (h : ¬ PartOk p) : okF p n f = none := by unfold okF; rw [if_neg (by rw [tf_f h]; simp)]
theorem okF_none {p : JPart} {n f : ByteArray} (h : p.findF n f = none) : okF p n f = none := by unfold okF; split; exact h; rfl
theorem findF_bulk {p : JPart} {n f : ByteArray} {x : JField} (hb : p.bulk ≤ 1048576) (h : p.findF n f = some x) : x.bulk ≤ 1048576 := by
  unfold JPart.findF at h
  cases ht : p.find n with
  | none => rw [ht] at h; cases h
  | some t =>
    rw [ht] at h
    have h : t.find f = some x := h
    unfold JPart.find at ht
    unfold JTyp.find at h
    obtain ⟨k, hk, rfl⟩ := List.getElem_of_mem (List.mem_of_find?_eq_some ht)
    obtain ⟨j, hj, rfl⟩ := List.getElem_of_mem (List.mem_of_find?_eq_some h)
    exact JField.bulk_k (JTyp.bulk_k hb k hk) j hj
theorem needs_len {x : JField} (h : x.bulk ≤ 1048576) : x.needs.length ≤ 1048576 := by
  rw [JField.bulk_eq] at h
  have := strs_len_le x.needs
  omega
theorem zero_made {w w' : World} (hB : Below w.heap.size w w') : MadeB w JField.zero.enc false (.returned (.tuple #[.agg #[.string ⟨#[]⟩, .string ⟨#[]⟩, .bool false, .bool false, .bool false, .bool false, .bool false, .slice none 0 0], .bool false])) w' :=
  ⟨[.string ⟨#[]⟩, .string ⟨#[]⟩, .bool false, .bool false, .bool false, .bool false, .bool false, .slice none 0 0], [], rfl, zero_Field _, Fresh.nil _, hB⟩

set_option maxRecDepth 100000 in
set_option maxHeartbeats 1000000 in
theorem specPartField_c (p : JPart) (cs : List Value) (name field : ByteArray) (w : World) (hx : RdL w p.enc cs) (hb : p.bulk ≤ 1048576) :
    Calls Try.prog 36 #[.agg cs.toArray, .string name, .string field] w (MadeB w ((okF p name field).getD JField.zero).enc (okF p name field).isSome) := by
  have hfd := fld_code
  have hx' := hx
  obtain ⟨A1, c1, rfl, g1, l0, n1⟩ := JPart.open_ hx
  have HT := Lib.hid (fun W (h : Below w.heap.size w W) => l2Type_c p _ name W (hx'.keep h))
  have HC := Lib.hid (fun W (h : Below w.heap.size w W) => specPartCheck_c p _ W (hx'.keep h) hb)
  have HG := Lib.hid (fun W (h : Below w.heap.size w W) => g1.below h)
  have hfind := Lib.hid (show p.findF name field = (p.find name).bind (fun t => t.find field) from rfl)
  clear hx hx' g1
  go_enter Try.func36, Try.ntmps36
  go_wp2_with fail
  refine (HT.out _ (bt (b1 _ _) (b1 _ _))).mono ?_
  intro e w1 hr
  obtain ⟨i, ⟨rfl, hb1⟩, hf⟩ := hr
  have ha := Lib.hid (find_first hf)
  have hbound := hf.bounds
  clear hf
  have p0 : w1.cell? ⟨w.heap.size, 0, none⟩ = some (.string p.name) := cell_keep hb1 (by simp [go_sem])
  have p1 : w1.cell? ⟨w.heap.size, 1, none⟩ = some (.slice A1 p.types.length c1) := cell_keep hb1 (by simp [go_sem])
  have e0 : w1.cell? ⟨w.heap.size + 1, 0, none⟩ = some (.string ⟨#[]⟩) := cell_keep hb1 (by simp [go_sem])
  have e1 : w1.cell? ⟨w.heap.size + 1, 1, none⟩ = some (.string ⟨#[]⟩) := cell_keep hb1 (by simp [go_sem])
  have e2 : w1.cell? ⟨w.heap.size + 1, 2, none⟩ = some (.bool false) := cell_keep hb1 (by simp [go_sem])
  have e3 : w1.cell? ⟨w.heap.size + 1, 3, none⟩ = some (.bool false) := cell_keep hb1 (by simp [go_sem])
  have e4 : w1.cell? ⟨w.heap.size + 1, 4, none⟩ = some (.bool false) := cell_keep hb1 (by simp [go_sem])
  have e5 : w1.cell? ⟨w.heap.size + 1, 5, none⟩ = some (.bool false) := cell_keep hb1 (by simp [go_sem])
  have e6 : w1.cell? ⟨w.heap.size + 1, 6, none⟩ = some (.bool false) := cell_keep hb1 (by simp [go_sem])
  have e7 : w1.cell? ⟨w.heap.size + 1, 7, none⟩ = some (.slice none 0 0) := cell_keep hb1 (by simp [go_sem])
  have ef : ∀ o, w1.frozen? ⟨w.heap.size + 1, o, none⟩ = false := fun o => (hb1.frozen (p := ⟨w.heap.size + 1, o, none⟩) (by simp)).trans (by simp [go_sem])
  have hz1 : w.heap.size + 1 < w1.heap.size := World.block_lt_of_cell? _ _ e0
  have hz0 : w.heap.size < w1.heap.size := by omega
  have hB : Below w.heap.size w w1 := bt (bt (b1 _ _) (b1 _ _)) hb1
  go_wp2_with fail
  refine (HC.out _ hB).mono ?_
  rintro e2 w2 ⟨rfl, hb2⟩
  clear p0 p1 e0 e1 e2 e3 e4 e5 e6 e7 ef hz1 hz0 hB
  replace hb2 := bt hb1 hb2
  clear hb1
  have p0 : w2.cell? ⟨w.heap.size, 0, none⟩ = some (.string p.name) := cell_keep hb2 (by simp [go_sem])
  have p1 : w2.cell? ⟨w.heap.size, 1, none⟩ = some (.slice A1 p.types.length c1) := cell_keep hb2 (by simp [go_sem])
  have e0 : w2.cell? ⟨w.heap.size + 1, 0, none⟩ = some (.string ⟨#[]⟩) := cell_keep hb2 (by simp [go_sem])
  have e1 : w2.cell? ⟨w.heap.size + 1, 1, none⟩ = some (.string ⟨#[]⟩) := cell_keep hb2 (by simp [go_sem])
  have e2 : w2.cell? ⟨w.heap.size + 1, 2, none⟩ = some (.bool false) := cell_keep hb2 (by simp [go_sem])
  have e3 : w2.cell? ⟨w.heap.size + 1, 3, none⟩ = some (.bool false) := cell_keep hb2 (by simp [go_sem])
  have e4 : w2.cell? ⟨w.heap.size + 1, 4, none⟩ = some (.bool false) := cell_keep hb2 (by simp [go_sem])
  have e5 : w2.cell? ⟨w.heap.size + 1, 5, none⟩ = some (.bool false) := cell_keep hb2 (by simp [go_sem])
  have e6 : w2.cell? ⟨w.heap.size + 1, 6, none⟩ = some (.bool false) := cell_keep hb2 (by simp [go_sem])
  have e7 : w2.cell? ⟨w.heap.size + 1, 7, none⟩ = some (.slice none 0 0) := cell_keep hb2 (by simp [go_sem])
  have ef : ∀ o, w2.frozen? ⟨w.heap.size + 1, o, none⟩ = false := fun o => (hb2.frozen (p := ⟨w.heap.size + 1, o, none⟩) (by simp)).trans (by simp [go_sem])
  have hz1 : w.heap.size + 1 < w2.heap.size := World.block_lt_of_cell? _ _ e0
  have hz0 : w.heap.size < w2.heap.size := by omega
  have hB : Below w.heap.size w w2 := bt (bt (b1 _ _) (b1 _ _)) hb2
  by_cases ho : PartOk p
  case neg =>
    have tc : ((faultOf p).code == 0) = false := by rw [beq_eq_false_iff_ne]; exact ho
    have tn : ((faultOf p).code != 0) = true := by unfold bne; rw [tc]; rfl
    generalize faultOf p = T at *
    obtain ⟨t1, t2⟩ := T
    dsimp only at tc tn
    replace ho := Lib.hid ho
    go_wp2
    rw [okF_f ho.out]
    simp only [Option.isSome_none, Option.getD_none]
    (refine bodyPost_ret (v := .tuple #[.agg #[.string ⟨#[]⟩, .string ⟨#[]⟩, .bool false, .bool false, .bool false, .bool false, .bool false, .slice none 0 0], .bool false]) (by simp [results, Try.results36, go_sem, e0, e1, e2, e3, e4, e5, e6, e7, hz1, hz0]) rfl (zero_made (by repeat (first | (with_reducible exact hB) | (with_reducible refine Below.setCell ?_ (by dsimp only; omega) _) | (with_reducible refine bt ?_ (b1 _ _))))))
  have tc : ((faultOf p).code == 0) = true := by rw [show (faultOf p).code = 0 from ho]; rfl
  have tn : ((faultOf p).code != 0) = false := by unfold bne; rw [tc]; rfl
  generalize faultOf p = T at *
  obtain ⟨t1, t2⟩ := T
  dsimp only at tc tn
  replace ho := Lib.hid ho
  rcases ha.out with ⟨rfl, hn⟩ | ⟨k, rfl, hk, hn⟩
  · have hv : p.findF name field = none := by rw [hfind.out, show p.find name = none from hn]; rfl
    replace hv := Lib.hid hv
    replace hn := Lib.hid hn
    clear ha hfind
    go_wp2
    rw [okF_t ho.out, hv.out]
    simp only [Option.isSome_none, Option.getD_none]
    (refine bodyPost_ret (v := .tuple #[.agg #[.string ⟨#[]⟩, .string ⟨#[]⟩, .bool false, .bool false, .bool false, .bool false, .bool false, .slice none 0 0], .bool false]) (by simp [results, Try.results36, go_sem, e0, e1, e2, e3, e4, e5, e6, e7, hz1, hz0]) rfl (zero_made (by repeat (first | (with_reducible exact hB) | (with_reducible refine Below.setCell ?_ (by dsimp only; omega) _) | (with_reducible refine bt ?_ (b1 _ _))))))
  have hfind2 := Lib.hid (show p.findF name field = p.types[k].find field by rw [hfind.out, show p.find name = some p.types[k] from hn]; rfl)
  have hkI : (k : Int) < p.types.length := by omega
  have hkn : ¬ (k : Int) < 0 := by omega
  clear ha hfind hn
  obtain ⟨ad, A2, c2, rfl, y0, y1, y2, g2, m0, m1, n2⟩ := JTyp.elem (HG.out _ hB) k hk
  have HF := Lib.hid (fun W (h : Below w2.heap.size w2 W) => l2Field_c p.types[k] _ field W ((JTyp.close_ p.types[k] g2 m0 m1).keep h))
  have HG2 := Lib.hid (fun W (h : Below w2.heap.size w2 W) => g2.below h)
  clear g2
  go_wp2_with fail
  refine (HF.out _ (Below.refl _ _)).mono ?_
  intro e w3 hr
  obtain ⟨i2, ⟨rfl, hb3⟩, hf⟩ := hr
  have ha := Lib.hid (find_first hf)
  clear hf
  clear p0 p1 e0 e1 e2 e3 e4 e5 e6 e7 ef hz1 hz0 hB
  have hb9 := bt hb2 hb3
  have p0 : w3.cell? ⟨w.heap.size, 0, none⟩ = some (.string p.name) := cell_keep hb9 (by simp [go_sem])
  have p1 : w3.cell? ⟨w.heap.size, 1, none⟩ = some (.slice (some ad) p.types.length c1) := cell_keep hb9 (by simp [go_sem])
  have e0 : w3.cell? ⟨w.heap.size + 1, 0, none⟩ = some (.string ⟨#[]⟩) := cell_keep hb9 (by simp [go_sem])
  have e1 : w3.cell? ⟨w.heap.size + 1, 1, none⟩ = some (.string ⟨#[]⟩) := cell_keep hb9 (by simp [go_sem])
  have e2 : w3.cell? ⟨w.heap.size + 1, 2, none⟩ = some (.bool false) := cell_keep hb9 (by simp [go_sem])
  have e3 : w3.cell? ⟨w.heap.size + 1, 3, none⟩ = some (.bool false) := cell_keep hb9 (by simp [go_sem])
  have e4 : w3.cell? ⟨w.heap.size + 1, 4, none⟩ = some (.bool false) := cell_keep hb9 (by simp [go_sem])
  have e5 : w3.cell? ⟨w.heap.size + 1, 5, none⟩ = some (.bool false) := cell_keep hb9 (by simp [go_sem])
  have e6 : w3.cell? ⟨w.heap.size + 1, 6, none⟩ = some (.bool false) := cell_keep hb9 (by simp [go_sem])
  have e7 : w3.cell? ⟨w.heap.size + 1, 7, none⟩ = some (.slice none 0 0) := cell_keep hb9 (by simp [go_sem])
  have ef : ∀ o, w3.frozen? ⟨w.heap.size + 1, o, none⟩ = false := fun o => (hb9.frozen (p := ⟨w.heap.size + 1, o, none⟩) (by simp)).trans (by simp [go_sem])
  have hz1 : w.heap.size + 1 < w3.heap.size := World.block_lt_of_cell? _ _ e0
  have hz0 : w.heap.size < w3.heap.size := by omega
  have hB : Below w.heap.size w w3 := bt (bt (b1 _ _) (b1 _ _)) hb9
  replace y2 := cell_keep hb3 y2
  rcases ha.out with ⟨rfl, hn⟩ | ⟨m, rfl, hm, hn⟩
  · have hv : p.findF name field = none := by rw [hfind2.out]; exact hn
    replace hv := Lib.hid hv
    replace hn := Lib.hid hn
    clear ha hfind2
    go_wp2
    rw [okF_t ho.out, hv.out]
    simp only [Option.isSome_none, Option.getD_none]
    (refine bodyPost_ret (v := .tuple #[.agg #[.string ⟨#[]⟩, .string ⟨#[]⟩, .bool false, .bool false, .bool false, .bool false, .bool false, .slice none 0 0], .bool false]) (by simp [results, Try.results36, go_sem, e0, e1, e2, e3, e4, e5, e6, e7, hz1, hz0]) rfl (zero_made (by repeat (first | (with_reducible exact hB) | (with_reducible refine Below.setCell ?_ (by dsimp only; omega) _) | (with_reducible refine bt ?_ (b1 _ _))))))
  have hv : p.findF name field = some p.types[k].fields[m] := by rw [hfind2.out]; exact hn
  clear ha hfind2 hn
  have hmI : (m : Int) < p.types[k].fields.length := by omega
  have hmn : ¬ (m : Int) < 0 := by omega
  obtain ⟨ae, A7, c7, rfl, v0, v1, v2, v3, v4, v5, v6, v7, g7, k0, k1, k7⟩ := JField.elem (HG2.out _ hb3) m hm
  have hnl := needs_len (findF_bulk hb hv)
  replace hv := Lib.hid hv
  generalize hx : p.types[k].fields[m] = x at *
  replace hx := Lib.hid hx
  have HL := Lib.hid (fun W (h : Below w3.heap.size w3 W) => l2Copy_c x _ W ((JField.close_ x g7 k0 k1).keep h) hnl)
  clear g7
  go_wp2_with fail
  refine (HL.out _ (Below.refl _ _)).mono ?_
  rintro e w4 ⟨us4, f4, rfl, o4, fr4, hb4⟩
  obtain ⟨B7, d7, rfl⟩ := JField.openO o4
  have O4 := Lib.hid o4
  clear o4
  clear p0 p1 e0 e1 e2 e3 e4 e5 e6 e7 ef hz1 hz0 hB
  replace hb9 := bt hb9 hb4
  have hs4 := hb3.size
  have hs5 : w.heap.size + 1 < w3.heap.size := by have := hb2.size; simp at this; omega
  have p0 : w4.cell? ⟨w.heap.size, 0, none⟩ = some (.string p.name) := cell_keep hb9 (by simp [go_sem])
  have p1 : w4.cell? ⟨w.heap.size, 1, none⟩ = some (.slice (some ad) p.types.length c1) := cell_keep hb9 (by simp [go_sem])
  have e0 : w4.cell? ⟨w.heap.size + 1, 0, none⟩ = some (.string ⟨#[]⟩) := cell_keep hb9 (by simp [go_sem])
  have e1 : w4.cell? ⟨w.heap.size + 1, 1, none⟩ = some (.string ⟨#[]⟩) := cell_keep hb9 (by simp [go_sem])
  have e2 : w4.cell? ⟨w.heap.size + 1, 2, none⟩ = some (.bool false) := cell_keep hb9 (by simp [go_sem])
  have e3 : w4.cell? ⟨w.heap.size + 1, 3, none⟩ = some (.bool false) := cell_keep hb9 (by simp [go_sem])
  have e4 : w4.cell? ⟨w.heap.size + 1, 4, none⟩ = some (.bool false) := cell_keep hb9 (by simp [go_sem])
  have e5 : w4.cell? ⟨w.heap.size + 1, 5, none⟩ = some (.bool false) := cell_keep hb9 (by simp [go_sem])
  have e6 : w4.cell? ⟨w.heap.size + 1, 6, none⟩ = some (.bool false) := cell_keep hb9 (by simp [go_sem])
  have e7 : w4.cell? ⟨w.heap.size + 1, 7, none⟩ = some (.slice none 0 0) := cell_keep hb9 (by simp [go_sem])
  have ef : ∀ o, w4.frozen? ⟨w.heap.size + 1, o, none⟩ = false := fun o => (hb9.frozen (p := ⟨w.heap.size + 1, o, none⟩) (by simp)).trans (by simp [go_sem])
  have hz1 : w.heap.size + 1 < w4.heap.size := World.block_lt_of_cell? _ _ e0
  have hz0 : w.heap.size < w4.heap.size := by omega
  have hB : Below w.heap.size w w4 := bt (bt (b1 _ _) (b1 _ _)) hb9
  go_wp2
  rw [okF_t ho.out, hv.out]
  simp only [Option.isSome_some, Option.getD_some]
  refine bodyPost_ret (v := .tuple #[.agg #[.string x.name, .string x.of, .bool x.list, .bool x.must, .bool x.far, .bool x.hidden, .bool x.shared, .slice B7 x.needs.length d7], .bool true]) (by simp [results, Try.results36, go_sem, e0, e1, e2, e3, e4, e5, e6, e7]) rfl ⟨_, f4, rfl, ?_, fr4.lower (by omega), ?_⟩
  · repeat (first | (with_reducible exact O4.out) | refine OwnRow.set ?_ (fun hm => by have := fr4.2 _ hm; dsimp only at this; omega) _)
  · exact (by repeat (first | (with_reducible exact hB) | (with_reducible refine Below.setCell ?_ (by dsimp only; omega) _) | (with_reducible refine bt ?_ (b1 _ _))))
set_option maxRecDepth 100000 in
set_option maxHeartbeats 1000000 in
theorem implPartField_c (p : JPart) (cs : List Value) (name field : ByteArray) (w : World) (hx : RdL w p.enc cs) (hb : p.bulk ≤ 1048576) :
    Calls Try.prog 37 #[.agg cs.toArray, .string name, .string field] w (MadeB w ((okF p name field).getD JField.zero).enc (okF p name field).isSome) := by
  have hx' := hx
  obtain ⟨A1, c1, rfl, g1, l0, n1⟩ := JPart.open_ hx
  have HT := Lib.hid (fun W (h : Below w.heap.size w W) => field_c p _ name field w W h hx')
  have HC := Lib.hid (fun W (h : Below w.heap.size w W) => partOk_c p _ W (hx'.keep h) hb)
  have hbk := Lib.hid (fun x => findF_bulk (n := name) (f := field) (x := x) hb)
  clear hx hx' g1
  go_enter Try.func37, Try.ntmps37
  go_wp2_with fail
  refine (HT.out _ (bt (b1 _ _) (b1 _ _))).mono ?_
  rintro e w1 ⟨us1, rfl, g1, hb1⟩
  obtain ⟨A7, c7, rfl, q7, k0, k1, _⟩ := JField.open_ g1
  have Q7 := Lib.hid (fun W (h : Below w.heap.size w W) => q7.below h)
  clear q7 g1
  have p0 : w1.cell? ⟨w.heap.size, 0, none⟩ = some (.string p.name) := cell_keep hb1 (by simp [go_sem])
  have p1 : w1.cell? ⟨w.heap.size, 1, none⟩ = some (.slice A1 p.types.length c1) := cell_keep hb1 (by simp [go_sem])
  have e0 : w1.cell? ⟨w.heap.size + 1, 0, none⟩ = some (.string ⟨#[]⟩) := cell_keep hb1 (by simp [go_sem])
  have e1 : w1.cell? ⟨w.heap.size + 1, 1, none⟩ = some (.string ⟨#[]⟩) := cell_keep hb1 (by simp [go_sem])
  have e2 : w1.cell? ⟨w.heap.size + 1, 2, none⟩ = some (.bool false) := cell_keep hb1 (by simp [go_sem])
  have e3 : w1.cell? ⟨w.heap.size + 1, 3, none⟩ = some (.bool false) := cell_keep hb1 (by simp [go_sem])
  have e4 : w1.cell? ⟨w.heap.size + 1, 4, none⟩ = some (.bool false) := cell_keep hb1 (by simp [go_sem])
  have e5 : w1.cell? ⟨w.heap.size + 1, 5, none⟩ = some (.bool false) := cell_keep hb1 (by simp [go_sem])
  have e6 : w1.cell? ⟨w.heap.size + 1, 6, none⟩ = some (.bool false) := cell_keep hb1 (by simp [go_sem])
  have e7 : w1.cell? ⟨w.heap.size + 1, 7, none⟩ = some (.slice none 0 0) := cell_keep hb1 (by simp [go_sem])
  have ef : ∀ o, w1.frozen? ⟨w.heap.size + 1, o, none⟩ = false := fun o => (hb1.frozen (p := ⟨w.heap.size + 1, o, none⟩) (by simp)).trans (by simp [go_sem])
  have hz1 : w.heap.size + 1 < w1.heap.size := World.block_lt_of_cell? _ _ e0
  have hz0 : w.heap.size < w1.heap.size := by omega
  have hB : Below w.heap.size w w1 := bt (bt (b1 _ _) (b1 _ _)) hb1
  cases hr : p.findF name field with
  | none =>
    replace hr := Lib.hid hr
    simp only [Option.isSome_none, Option.getD_none]
    go_wp2
    rw [okF_none hr.out]
    simp only [Option.isSome_none, Option.getD_none]
    (refine bodyPost_ret (v := .tuple #[.agg #[.string ⟨#[]⟩, .string ⟨#[]⟩, .bool false, .bool false, .bool false, .bool false, .bool false, .slice none 0 0], .bool false]) (by simp [results, Try.results37, go_sem, e0, e1, e2, e3, e4, e5, e6, e7, hz1, hz0]) rfl (zero_made (by repeat (first | (with_reducible exact hB) | (with_reducible refine Below.setCell ?_ (by dsimp only; omega) _) | (with_reducible refine bt ?_ (b1 _ _))))))
  | some x =>
  have hnl := needs_len (hbk.out x hr)
  rw [hr] at Q7 k0 k1
  simp only [Option.isSome_some, Option.getD_some] at Q7 k0 k1 ⊢
  have hs1 : w.heap.size + 1 < w1.heap.size := hz1
  by_cases ho : PartOk p
  case neg =>
    rw [tf_f ho] at HC
    replace ho := Lib.hid ho
    go_wp2_with fail
    refine (HC.out _ (bt hB (b1 _ _))).mono ?_
    rintro e w2 ⟨rfl, hb2⟩
    clear p0 p1 e0 e1 e2 e3 e4 e5 e6 e7 ef hz1 hz0 hB
    have hb9 := bt (bt hb1 (b1 _ _)) hb2
    have p0 : w2.cell? ⟨w.heap.size, 0, none⟩ = some (.string p.name) := cell_keep hb9 (by simp [go_sem])
    have p1 : w2.cell? ⟨w.heap.size, 1, none⟩ = some (.slice A1 p.types.length c1) := cell_keep hb9 (by simp [go_sem])
    have e0 : w2.cell? ⟨w.heap.size + 1, 0, none⟩ = some (.string ⟨#[]⟩) := cell_keep hb9 (by simp [go_sem])
    have e1 : w2.cell? ⟨w.heap.size + 1, 1, none⟩ = some (.string ⟨#[]⟩) := cell_keep hb9 (by simp [go_sem])
    have e2 : w2.cell? ⟨w.heap.size + 1, 2, none⟩ = some (.bool false) := cell_keep hb9 (by simp [go_sem])
    have e3 : w2.cell? ⟨w.heap.size + 1, 3, none⟩ = some (.bool false) := cell_keep hb9 (by simp [go_sem])
    have e4 : w2.cell? ⟨w.heap.size + 1, 4, none⟩ = some (.bool false) := cell_keep hb9 (by simp [go_sem])
    have e5 : w2.cell? ⟨w.heap.size + 1, 5, none⟩ = some (.bool false) := cell_keep hb9 (by simp [go_sem])
    have e6 : w2.cell? ⟨w.heap.size + 1, 6, none⟩ = some (.bool false) := cell_keep hb9 (by simp [go_sem])
    have e7 : w2.cell? ⟨w.heap.size + 1, 7, none⟩ = some (.slice none 0 0) := cell_keep hb9 (by simp [go_sem])
    have ef : ∀ o, w2.frozen? ⟨w.heap.size + 1, o, none⟩ = false := fun o => (hb9.frozen (p := ⟨w.heap.size + 1, o, none⟩) (by simp)).trans (by simp [go_sem])
    have hz1 : w.heap.size + 1 < w2.heap.size := World.block_lt_of_cell? _ _ e0
    have hz0 : w.heap.size < w2.heap.size := by omega
    have hB : Below w.heap.size w w2 := bt (bt (b1 _ _) (b1 _ _)) hb9
    go_wp2
    rw [okF_f ho.out]
    simp only [Option.isSome_none, Option.getD_none]
    (refine bodyPost_ret (v := .tuple #[.agg #[.string ⟨#[]⟩, .string ⟨#[]⟩, .bool false, .bool false, .bool false, .bool false, .bool false, .slice none 0 0], .bool false]) (by simp [results, Try.results37, go_sem, e0, e1, e2, e3, e4, e5, e6, e7, hz1, hz0]) rfl (zero_made (by repeat (first | (with_reducible exact hB) | (with_reducible refine Below.setCell ?_ (by dsimp only; omega) _) | (with_reducible refine bt ?_ (b1 _ _))))))
  rw [tf_t ho] at HC
  replace ho := Lib.hid ho
  go_wp2_with fail
  refine (HC.out _ (bt hB (b1 _ _))).mono ?_
  rintro e w2 ⟨rfl, hb2⟩
  clear p0 p1 e0 e1 e2 e3 e4 e5 e6 e7 ef hz1 hz0 hB
  have hb9 := bt (bt hb1 (b1 _ _)) hb2
  have p0 : w2.cell? ⟨w.heap.size, 0, none⟩ = some (.string p.name) := cell_keep hb9 (by simp [go_sem])
  have p1 : w2.cell? ⟨w.heap.size, 1, none⟩ = some (.slice A1 p.types.length c1) := cell_keep hb9 (by simp [go_sem])
  have e0 : w2.cell? ⟨w.heap.size + 1, 0, none⟩ = some (.string ⟨#[]⟩) := cell_keep hb9 (by simp [go_sem])
  have e1 : w2.cell? ⟨w.heap.size + 1, 1, none⟩ = some (.string ⟨#[]⟩) := cell_keep hb9 (by simp [go_sem])
  have e2 : w2.cell? ⟨w.heap.size + 1, 2, none⟩ = some (.bool false) := cell_keep hb9 (by simp [go_sem])
  have e3 : w2.cell? ⟨w.heap.size + 1, 3, none⟩ = some (.bool false) := cell_keep hb9 (by simp [go_sem])
  have e4 : w2.cell? ⟨w.heap.size + 1, 4, none⟩ = some (.bool false) := cell_keep hb9 (by simp [go_sem])
  have e5 : w2.cell? ⟨w.heap.size + 1, 5, none⟩ = some (.bool false) := cell_keep hb9 (by simp [go_sem])
  have e6 : w2.cell? ⟨w.heap.size + 1, 6, none⟩ = some (.bool false) := cell_keep hb9 (by simp [go_sem])
  have e7 : w2.cell? ⟨w.heap.size + 1, 7, none⟩ = some (.slice none 0 0) := cell_keep hb9 (by simp [go_sem])
  have ef : ∀ o, w2.frozen? ⟨w.heap.size + 1, o, none⟩ = false := fun o => (hb9.frozen (p := ⟨w.heap.size + 1, o, none⟩) (by simp)).trans (by simp [go_sem])
  have hz1 : w.heap.size + 1 < w2.heap.size := World.block_lt_of_cell? _ _ e0
  have hz0 : w.heap.size < w2.heap.size := by omega
  have hB : Below w.heap.size w w2 := bt (bt (b1 _ _) (b1 _ _)) hb9
  have f0 : w2.cell? ⟨w1.heap.size, 0, none⟩ = some (.string x.name) := cell_keep hb2 (by simp [go_sem])
  have f1 : w2.cell? ⟨w1.heap.size, 1, none⟩ = some (.string x.of) := cell_keep hb2 (by simp [go_sem])
  have f2 : w2.cell? ⟨w1.heap.size, 2, none⟩ = some (.bool x.list) := cell_keep hb2 (by simp [go_sem])
  have f3 : w2.cell? ⟨w1.heap.size, 3, none⟩ = some (.bool x.must) := cell_keep hb2 (by simp [go_sem])
  have f4 : w2.cell? ⟨w1.heap.size, 4, none⟩ = some (.bool x.far) := cell_keep hb2 (by simp [go_sem])
  have f5 : w2.cell? ⟨w1.heap.size, 5, none⟩ = some (.bool x.hidden) := cell_keep hb2 (by simp [go_sem])
  have f6 : w2.cell? ⟨w1.heap.size, 6, none⟩ = some (.bool x.shared) := cell_keep hb2 (by simp [go_sem])
  have f7 : w2.cell? ⟨w1.heap.size, 7, none⟩ = some (.slice A7 x.needs.length c7) := cell_keep hb2 (by simp [go_sem])
  have ff : ∀ o, w2.frozen? ⟨w1.heap.size, o, none⟩ = false := fun o => (hb2.frozen (p := ⟨w1.heap.size, o, none⟩) (by simp)).trans (by simp [go_sem])
  have hz3 : w1.heap.size < w2.heap.size := World.block_lt_of_cell? _ _ f0
  have hsz := hz3
  have hC := Lib.hid (fun W (h : Below w.heap.size w W) => cloneStr_c x.needs A7 c7 W (Q7.out W h) hnl)
  go_wp2_with fail
  refine (hC.out _ hB).mono ?_
  rintro e w3 ⟨v3, fp3, rfl, o3, fr3, hb3⟩
  obtain ⟨B7, d7, rfl⟩ := Own.slD o3
  have O3 := Lib.hid o3
  clear o3
  clear p0 p1 e0 e1 e2 e3 e4 e5 e6 e7 ef hz1 hz0 hB
  clear f0 f1 f2 f3 f4 f5 f6 f7 ff hz3
  replace hb9 := bt hb9 hb3
  replace hb2 := bt hb2 hb3

  have p0 : w3.cell? ⟨w.heap.size, 0, none⟩ = some (.string p.name) := cell_keep hb9 (by simp [go_sem])
  have p1 : w3.cell? ⟨w.heap.size, 1, none⟩ = some (.slice A1 p.types.length c1) := cell_keep hb9 (by simp [go_sem])
  have e0 : w3.cell? ⟨w.heap.size + 1, 0, none⟩ = some (.string ⟨#[]⟩) := cell_keep hb9 (by simp [go_sem])
  have e1 : w3.cell? ⟨w.heap.size + 1, 1, none⟩ = some (.string ⟨#[]⟩) := cell_keep hb9 (by simp [go_sem])
  have e2 : w3.cell? ⟨w.heap.size + 1, 2, none⟩ = some (.bool false) := cell_keep hb9 (by simp [go_sem])
  have e3 : w3.cell? ⟨w.heap.size + 1, 3, none⟩ = some (.bool false) := cell_keep hb9 (by simp [go_sem])
  have e4 : w3.cell? ⟨w.heap.size + 1, 4, none⟩ = some (.bool false) := cell_keep hb9 (by simp [go_sem])
  have e5 : w3.cell? ⟨w.heap.size + 1, 5, none⟩ = some (.bool false) := cell_keep hb9 (by simp [go_sem])
  have e6 : w3.cell? ⟨w.heap.size + 1, 6, none⟩ = some (.bool false) := cell_keep hb9 (by simp [go_sem])
  have e7 : w3.cell? ⟨w.heap.size + 1, 7, none⟩ = some (.slice none 0 0) := cell_keep hb9 (by simp [go_sem])
  have ef : ∀ o, w3.frozen? ⟨w.heap.size + 1, o, none⟩ = false := fun o => (hb9.frozen (p := ⟨w.heap.size + 1, o, none⟩) (by simp)).trans (by simp [go_sem])
  have hz1 : w.heap.size + 1 < w3.heap.size := World.block_lt_of_cell? _ _ e0
  have hz0 : w.heap.size < w3.heap.size := by omega
  have hB : Below w.heap.size w w3 := bt (bt (b1 _ _) (b1 _ _)) hb9
  have f0 : w3.cell? ⟨w1.heap.size, 0, none⟩ = some (.string x.name) := cell_keep hb2 (by simp [go_sem])
  have f1 : w3.cell? ⟨w1.heap.size, 1, none⟩ = some (.string x.of) := cell_keep hb2 (by simp [go_sem])
  have f2 : w3.cell? ⟨w1.heap.size, 2, none⟩ = some (.bool x.list) := cell_keep hb2 (by simp [go_sem])
  have f3 : w3.cell? ⟨w1.heap.size, 3, none⟩ = some (.bool x.must) := cell_keep hb2 (by simp [go_sem])
  have f4 : w3.cell? ⟨w1.heap.size, 4, none⟩ = some (.bool x.far) := cell_keep hb2 (by simp [go_sem])
  have f5 : w3.cell? ⟨w1.heap.size, 5, none⟩ = some (.bool x.hidden) := cell_keep hb2 (by simp [go_sem])
  have f6 : w3.cell? ⟨w1.heap.size, 6, none⟩ = some (.bool x.shared) := cell_keep hb2 (by simp [go_sem])
  have f7 : w3.cell? ⟨w1.heap.size, 7, none⟩ = some (.slice A7 x.needs.length c7) := cell_keep hb2 (by simp [go_sem])
  have ff : ∀ o, w3.frozen? ⟨w1.heap.size, o, none⟩ = false := fun o => (hb2.frozen (p := ⟨w1.heap.size, o, none⟩) (by simp)).trans (by simp [go_sem])
  have hz3 : w1.heap.size < w3.heap.size := World.block_lt_of_cell? _ _ f0
  go_wp2
  rw [okF_t ho.out, hr]
  simp only [Option.isSome_some, Option.getD_some]
  refine bodyPost_ret (v := .tuple #[.agg #[.string x.name, .string x.of, .bool x.list, .bool x.must, .bool x.far, .bool x.hidden, .bool x.shared, .slice B7 x.needs.length d7], .bool true]) (by simp [results, Try.results37, go_sem, e0, e1, e2, e3, e4, e5, e6, e7, hz1, hz0]) rfl ⟨_, fp3, rfl, ?_, fr3.lower (by omega), ?_⟩
  · rw [JField.enc_eq]
    refine .str k0 (.str k1 (.bool (.bool (.bool (.bool (.bool ?_))))))
    have hO : OwnRow w3 [slD strD 1 x.needs] [.slice B7 x.needs.length d7] (fp3 ++ []) := .cons O3.out (OwnRow.nil _)
    rw [List.append_nil] at hO
    repeat (first | (with_reducible exact hO) | refine OwnRow.set ?_ (fun hm => by have := fr3.2 _ hm; dsimp only at this; omega) _)
  · exact (by repeat (first | (with_reducible exact hB) | (with_reducible refine Below.setCell ?_ (by dsimp only; omega) _) | (with_reducible refine bt ?_ (b1 _ _))))
noncomputable def fieldR (p : JPart) (n f : ByteArray) : JField × Bool := ((okF p n f).getD JField.zero, (okF p n f).isSome)
theorem specPartField_r (p : JPart) (cs : List Value) (name field : ByteArray) (w : World) (hx : RdL w p.enc cs) (hb : p.bulk ≤ 1048576) :
    Calls Try.prog 36 #[.agg cs.toArray, .string name, .string field] w (MadeB w (fieldR p name field).1.enc (fieldR p name field).2) := specPartField_c p cs name field w hx hb
theorem implPartField_r (p : JPart) (cs : List Value) (name field : ByteArray) (w : World) (hx : RdL w p.enc cs) (hb : p.bulk ≤ 1048576) :
    Calls Try.prog 37 #[.agg cs.toArray, .string name, .string field] w (MadeB w (fieldR p name field).1.enc (fieldR p name field).2) := implPartField_c p cs name field w hx hb
theorem fieldR_bulk {p : JPart} {n f : ByteArray} (hb : p.bulk ≤ 1048576) : JField.bulk (fieldR p n f).1 ≤ 1048576 := by
  unfold fieldR okF
  dsimp only
  split
  · cases h : p.findF n f with
    | none => decide
    | some x => exact findF_bulk hb h
  · decide
end Go.Proofs.Ytmkagpmdindlpaa.Lib
