/- The reference's field of a part. Printed by gget.py. No condition. -/
import Derived.Test.YtmkagpmdindlpaaPartT
set_option linter.unusedVariables false
set_option linter.unusedSimpArgs false
namespace Go.Proofs.Ytmkagpmdindlpaa.Lib
open Go.RowKit
set_option maxRecDepth 100000 in
set_option maxHeartbeats 1000000 in
theorem l2Get_c (p : JPart) (cs : List Value) (name field : ByteArray) (w0 w : World) (h0_ : Below w0.heap.size w0 w) (hx : RdL w0 p.enc cs) :
    Calls Try.prog 66 #[.agg cs.toArray, .string name, .string field] w (TellW w0 w ((p.findF name field).getD JField.zero).enc (p.findF name field).isSome) := by
  have hx' := hx
  obtain ⟨A1, c1, rfl, g1, l0, n1⟩ := JPart.open_ hx
  have HT := Lib.hid (fun W (h : Below w.heap.size w W) => l2Type_c p _ name W (hx'.keep (bt h0_ h)))
  have hfind := Lib.hid (show p.findF name field = (p.find name).bind (fun t => t.find field) from rfl)
  have HG := Lib.hid g1
  clear hx hx' g1
  go_enter Try.func66, Try.ntmps66
  go_wp2_with fail
  refine (HT.out _ (bt (b1 _ _) (b1 _ _))).mono ?_
  intro e w2 hr
  obtain ⟨i, ⟨rfl, hb2⟩, hf⟩ := hr
  have ha := Lib.hid (find_first hf)
  clear hf
  have p0 : w2.cell? ⟨w.heap.size, 0, none⟩ = some (.string p.name) := cell_keep hb2 (by simp [go_sem])
  have p1 : w2.cell? ⟨w.heap.size, 1, none⟩ = some (.slice A1 p.types.length c1) := cell_keep hb2 (by simp [go_sem])
  have e0 : w2.cell? ⟨w.heap.size + 1, 0, none⟩ = some (.string ⟨#[]⟩) := cell_keep hb2 (by simp [go_sem])
  have e1 : w2.cell? ⟨w.heap.size + 1, 1, none⟩ = some (.string ⟨#[]⟩) := cell_keep hb2 (by simp [go_sem])
  have e2 : w2.cell? ⟨w.heap.size + 1, 2, none⟩ = some (.bool false) := cell_keep hb2 (by simp [go_sem])
  have e3 : w2.cell? ⟨w.heap.size + 1, 3, none⟩ = some (.bool false) := cell_keep hb2 (by simp [go_sem])
  have e4 : w2.cell? ⟨w.heap.size + 1, 4, none⟩ = some (.bool false) := cell_keep hb2 (by simp [go_sem])
  have e5 : w2.cell? ⟨w.heap.size + 1, 5, none⟩ = some (.bool false) := cell_keep hb2 (by simp [go_sem])
  have e6 : w2.cell? ⟨w.heap.size + 1, 6, none⟩ = some (.bool false) := cell_keep hb2 (by simp [go_sem])
  have e7 : w2.cell? ⟨w.heap.size + 1, 7, none⟩ = some (.slice none 0 0) := cell_keep hb2 (by simp [go_sem])
  have ef : ∀ o, w2.frozen? ⟨w.heap.size + 1, o, none⟩ = false := fun o => (hb2.frozen (p := ⟨w.heap.size + 1, o, none⟩) (by simp)).trans (by simp [go_sem])
  have hz1 : w.heap.size + 1 < w2.heap.size := World.block_lt_of_cell? _ _ e0
  have hz0 : w.heap.size < w2.heap.size := by omega
  have hB : Below w.heap.size w w2 := bt (bt (b1 _ _) (b1 _ _)) hb2
  rcases ha.out with ⟨rfl, hn⟩ | ⟨k, rfl, hk, hn⟩
  · have hv : p.findF name field = none := by rw [hfind.out, show p.find name = none from hn]; rfl
    replace hv := Lib.hid hv
    replace hn := Lib.hid hn
    clear ha hfind
    go_wp2
    rw [hv.out]
    simp only [Option.isSome_none, Option.getD_none]
    (refine bodyPost_ret (v := .tuple #[.agg #[.string ⟨#[]⟩, .string ⟨#[]⟩, .bool false, .bool false, .bool false, .bool false, .bool false, .slice none 0 0], .bool false]) (by simp [results, Try.results66, go_sem, e0, e1, e2, e3, e4, e5, e6, e7, hz1, hz0]) rfl ⟨_, rfl, zero_field_rd _, (by repeat (first | (with_reducible exact hB) | (with_reducible refine Below.setCell ?_ (by dsimp only; omega) _) | (with_reducible refine bt ?_ (b1 _ _))))⟩)
  have hfind2 := Lib.hid (show p.findF name field = p.types[k].find field by rw [hfind.out, show p.find name = some p.types[k] from hn]; rfl)
  have hkI : (k : Int) < p.types.length := by omega
  have hkn : ¬ (k : Int) < 0 := by omega
  clear ha hfind hn
  obtain ⟨ad, A2, c2, rfl, y0, y1, y2, g2, m0, m1, n2⟩ := JTyp.elem HG.out k hk
  have hW2 := bt h0_ hB
  replace y0 := cell_keep hW2 y0
  replace y1 := cell_keep hW2 y1
  replace y2 := cell_keep hW2 y2
  have HF := Lib.hid (fun W (h : Below w0.heap.size w0 W) => l2Field_c p.types[k] _ field W ((JTyp.close_ p.types[k] g2 m0 m1).keep h))
  have HG2 := Lib.hid g2
  clear g2
  go_wp2_with fail
  refine (HF.out _ hW2).mono ?_
  intro e w3 hr
  obtain ⟨i2, ⟨rfl, hb3⟩, hf⟩ := hr
  have ha := Lib.hid (find_first hf)
  clear hf
  clear p0 p1 e0 e1 e2 e3 e4 e5 e6 e7 ef hz1 hz0 hB
  have hb9 := bt hb2 hb3
  replace hW2 := bt hW2 hb3
  have p0 : w3.cell? ⟨w.heap.size, 0, none⟩ = some (.string p.name) := cell_keep hb9 (by simp [go_sem])
  have p1 : w3.cell? ⟨w.heap.size, 1, none⟩ = some (.slice (some ad) p.types.length c1) := cell_keep hb9 (by simp [go_sem])
  have e0 : w3.cell? ⟨w.heap.size + 1, 0, none⟩ = some (.string ⟨#[]⟩) := cell_keep hb9 (by simp [go_sem])
  have e1 : w3.cell? ⟨w.heap.size + 1, 1, none⟩ = some (.string ⟨#[]⟩) := cell_keep hb9 (by simp [go_sem])
  have e2 : w3.cell? ⟨w.heap.size + 1, 2, none⟩ = some (.bool false) := cell_keep hb9 (by simp [go_sem])
  have e3 : w3.cell? ⟨w.heap.size + 1, 3, none⟩ = some (.bool false) := cell_keep hb9 (by simp [go_sem])
  have e4 : w3.cell? ⟨w.heap.size + 1, 4, none⟩ = some (.bool false) := cell_keep hb9 (by simp [go_sem])
  have e5 : w3.cell? ⟨w.heap.size + 1, 5, none⟩ = some (.bool false) := cell_keep hb9 (by simp [go_sem])
  have e6 : w3.cell? ⟨w.heap.size + 1, 6, none⟩ = some (.bool false) := cell_keep hb9 (by simp [go_sem])
  have e7 : w3.cell? ⟨w.heap.size + 1, 7, none⟩ = some (.slice none 0 0) := cell_keep hb9 (by simp [go_sem])
  have ef : ∀ o, w3.frozen? ⟨w.heap.size + 1, o, none⟩ = false := fun o => (hb9.frozen (p := ⟨w.heap.size + 1, o, none⟩) (by simp)).trans (by simp [go_sem])
  have hz1 : w.heap.size + 1 < w3.heap.size := World.block_lt_of_cell? _ _ e0
  have hz0 : w.heap.size < w3.heap.size := by omega
  have hB : Below w.heap.size w w3 := bt (bt (b1 _ _) (b1 _ _)) hb9
  replace y2 := cell_keep hb3 y2
  rcases ha.out with ⟨rfl, hn⟩ | ⟨m, rfl, hm, hn⟩
  · have hv : p.findF name field = none := by rw [hfind2.out]; exact hn
    replace hv := Lib.hid hv
    replace hn := Lib.hid hn
    clear ha hfind2
    go_wp2
    rw [hv.out]
    simp only [Option.isSome_none, Option.getD_none]
    (refine bodyPost_ret (v := .tuple #[.agg #[.string ⟨#[]⟩, .string ⟨#[]⟩, .bool false, .bool false, .bool false, .bool false, .bool false, .slice none 0 0], .bool false]) (by simp [results, Try.results66, go_sem, e0, e1, e2, e3, e4, e5, e6, e7, hz1, hz0]) rfl ⟨_, rfl, zero_field_rd _, (by repeat (first | (with_reducible exact hB) | (with_reducible refine Below.setCell ?_ (by dsimp only; omega) _) | (with_reducible refine bt ?_ (b1 _ _))))⟩)
  have hv : p.findF name field = some p.types[k].fields[m] := by rw [hfind2.out]; exact hn
  clear ha hfind2 hn
  have hmI : (m : Int) < p.types[k].fields.length := by omega
  have hmn : ¬ (m : Int) < 0 := by omega
  obtain ⟨ae, A7, c7, rfl, v0, v1, v2, v3, v4, v5, v6, v7, g7, k0, k1, k7⟩ := JField.elem HG2.out m hm
  replace hv := Lib.hid hv
  generalize hx : p.types[k].fields[m] = x at *
  replace hx := Lib.hid hx
  have GG := Lib.hid (JField.close_ x g7 k0 k1)
  clear g7
  replace v0 := cell_keep hW2 v0
  replace v1 := cell_keep hW2 v1
  replace v2 := cell_keep hW2 v2
  replace v3 := cell_keep hW2 v3
  replace v4 := cell_keep hW2 v4
  replace v5 := cell_keep hW2 v5
  replace v6 := cell_keep hW2 v6
  replace v7 := cell_keep hW2 v7
  go_wp2
  rw [hv.out]
  simp only [Option.isSome_some, Option.getD_some]
  refine bodyPost_ret (v := .tuple #[.agg #[.string x.name, .string x.of, .bool x.list, .bool x.must, .bool x.far, .bool x.hidden, .bool x.shared, .slice A7 x.needs.length c7], .bool true]) (by simp [results, Try.results66, go_sem, e0, e1, e2, e3, e4, e5, e6, e7, hz1, hz0]) rfl ⟨_, rfl, GG.out, (by repeat (first | (with_reducible exact hB) | (with_reducible refine Below.setCell ?_ (by dsimp only; omega) _) | (with_reducible refine bt ?_ (b1 _ _))))⟩
end Go.Proofs.Ytmkagpmdindlpaa.Lib
