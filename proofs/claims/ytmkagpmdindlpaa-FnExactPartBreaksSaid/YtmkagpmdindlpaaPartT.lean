/- A field of a part by its type's name and its own; PartField on both sides. Parts of 2^20 at most. -/
import Derived.Test.YtmkagpmdindlpaaPartS
set_option linter.unusedVariables false
set_option linter.unusedSimpArgs false
namespace Go.Proofs.Ytmkagpmdindlpaa.Lib
open Go.RowKit
/-- The field of a name of the type of a name. -/
noncomputable def JPart.findF (p : JPart) (n f : ByteArray) : Option JField := (p.find n).bind (fun t => t.find f)
theorem findF_eq (p : JPart) (n f : ByteArray) : ((p.find n).getD JTyp.zero).find f = p.findF n f := by
  unfold JPart.findF
  cases p.find n with
  | none => rfl
  | some t => rfl
theorem zero_field_rd (w : World) : RdL w JField.zero.enc [.string ⟨#[]⟩, .string ⟨#[]⟩, .bool false, .bool false, .bool false, .bool false, .bool false, .slice none 0 0] := OwnRow.rdl (zero_Field w)
/-- The call returned a struct that stood in memory ahead of it, and a bool. -/
def TellW (w0 w : World) (ds : List D) (b : Bool) (e : Ending) (w' : World) : Prop := ∃ us, e = .returned (.tuple #[.agg us.toArray, .bool b]) ∧ RdL w0 ds us ∧ Below w.heap.size w w'
set_option maxRecDepth 100000 in
set_option maxHeartbeats 4000000 in
theorem tfindW_c (t : JTyp) (cs : List Value) (name : ByteArray) (w0 w : World) (h0_ : Below w0.heap.size w0 w) (hx : RdL w0 t.enc cs) :
    Calls Try.prog 108 #[.agg cs.toArray, .string name] w (TellW w0 w ((t.find name).getD JField.zero).enc (t.find name).isSome) := by
  have hmf : ∀ (fn : Fn) (first cap : Array Value) (w : World), (Instr.makeFunc fn first cap).run Try.prog w = .ok (.func fn first cap) w := fun _ _ _ _ => rfl
  obtain ⟨A2, c2, rfl, q2, l0, l1, n2⟩ := JTyp.open_ hx
  have HC := Lib.hid (fun (W : World) (hb : Below w.heap.size w W) (hg : W.cell? ⟨w.heap.size + 1, 0, none⟩ = some (.string name)) => indexFuncField_c t.fields A2 c2 (fun x => x.name = name) 133 #[.pointer (some ⟨w.heap.size + 1, 0, none⟩)] W (q2.below (bt h0_ hb)) ⟨live_tf1, fun x us W2 h1 h2 => tf1_c name _ x us W2 (cell_keep h2 hg) h1⟩)
  have G2 := Lib.hid q2
  clear hx q2
  go_enter Try.func108, Try.ntmps108
  go_wp2_with fail
  refine (HC.out _ (bt (bt (b1 _ _) (b1 _ _)) (b1 _ _)) (by simp [go_sem])).mono ?_
  intro e w2 hr
  obtain ⟨i, ⟨rfl, hb2⟩, hf⟩ := hr
  obtain ⟨hc2, hf2⟩ := bcell hb2
  have hz2 : w.heap.size + 2 < w2.heap.size := by have := hb2.size; simp at this; omega
  have hz3 : w.heap.size + 1 + 1 < w2.heap.size := by omega
  have hz4 : w.heap.size < w2.heap.size := by omega
  have hB2 := bt (bt (bt (b1 _ _) (b1 _ _)) (b1 _ _)) hb2
  have hB0 := bt h0_ hB2
  replace hb2 := Lib.hid hb2
  rcases find_first hf with ⟨rfl, hn⟩ | ⟨k, rfl, hk, hn⟩
  · have hv : t.find name = none := hn
    replace hv := Lib.hid hv
    clear hn hf
    go_wp2
    refine bodyPost_ret (v := .tuple #[.agg #[.string ⟨#[]⟩, .string ⟨#[]⟩, .bool false, .bool false, .bool false, .bool false, .bool false, .slice none 0 0], .bool false]) (by simp [results, Try.results108, go_sem, hc2, hz2, hz3]) rfl ⟨_, by rw [hv.out]; rfl, ?_, ?_⟩
    · rw [hv.out]; exact OwnRow.rdl (zero_Field _)
    · exact (by repeat (first | (with_reducible exact hB2) | refine Below.setCell ?_ (by dsimp only; omega) _))
  · have hv : t.find name = some t.fields[k] := hn
    replace hv := Lib.hid hv
    clear hn hf
    obtain ⟨ad2, A7, c7, rfl, y0, y1, y2, y3, y4, y5, y6, y7, g7, m0, m1, _⟩ := JField.elem G2.out k hk
    have GG := Lib.hid (JField.close_ t.fields[k] g7 m0 m1)
    clear g7
    replace y0 := cell_keep hB0 y0
    replace y1 := cell_keep hB0 y1
    replace y2 := cell_keep hB0 y2
    replace y3 := cell_keep hB0 y3
    replace y4 := cell_keep hB0 y4
    replace y5 := cell_keep hB0 y5
    replace y6 := cell_keep hB0 y6
    replace y7 := cell_keep hB0 y7
    have hkI : (k : Int) < t.fields.length := by omega
    go_wp2
    refine bodyPost_ret (v := .tuple #[.agg #[.string t.fields[k].name, .string t.fields[k].of, .bool t.fields[k].list, .bool t.fields[k].must, .bool t.fields[k].far, .bool t.fields[k].hidden, .bool t.fields[k].shared, .slice A7 t.fields[k].needs.length c7], .bool true]) (by simp [results, Try.results108, go_sem, hc2, hz2, hz3]) rfl ⟨_, by rw [hv.out]; rfl, ?_, ?_⟩
    · rw [hv.out]
      exact GG.out
    · exact (by repeat (first | (with_reducible exact hB2) | refine Below.setCell ?_ (by dsimp only; omega) _))
set_option maxRecDepth 100000 in
set_option maxHeartbeats 4000000 in
theorem pfindW_c (p : JPart) (cs : List Value) (name : ByteArray) (w0 w : World) (h0_ : Below w0.heap.size w0 w) (hx : RdL w0 p.enc cs) :
    Calls Try.prog 94 #[.agg cs.toArray, .string name] w (TellW w0 w ((p.find name).getD JTyp.zero).enc (p.find name).isSome) := by
  have hmf : ∀ (fn : Fn) (first cap : Array Value) (w : World), (Instr.makeFunc fn first cap).run Try.prog w = .ok (.func fn first cap) w := fun _ _ _ _ => rfl
  obtain ⟨A1, c1, rfl, q2, l0, n1⟩ := JPart.open_ hx
  have HC := Lib.hid (fun (W : World) (hb : Below w.heap.size w W) (hg : W.cell? ⟨w.heap.size + 1, 0, none⟩ = some (.string name)) => indexFuncTyp_c p.types A1 c1 (fun x => x.name = name) 123 #[.pointer (some ⟨w.heap.size + 1, 0, none⟩)] W (q2.below (bt h0_ hb)) ⟨live_pf1, fun x us W2 h1 h2 => pf1_c name _ x us W2 (cell_keep h2 hg) h1⟩)
  have G2 := Lib.hid q2
  clear hx q2
  go_enter Try.func94, Try.ntmps94
  go_wp2_with fail
  refine (HC.out _ (bt (bt (b1 _ _) (b1 _ _)) (b1 _ _)) (by simp [go_sem])).mono ?_
  intro e w2 hr
  obtain ⟨i, ⟨rfl, hb2⟩, hf⟩ := hr
  obtain ⟨hc2, hf2⟩ := bcell hb2
  have hz2 : w.heap.size + 2 < w2.heap.size := by have := hb2.size; simp at this; omega
  have hz3 : w.heap.size + 1 + 1 < w2.heap.size := by omega
  have hz4 : w.heap.size < w2.heap.size := by omega
  have hB2 := bt (bt (bt (b1 _ _) (b1 _ _)) (b1 _ _)) hb2
  have hB0 := bt h0_ hB2
  replace hb2 := Lib.hid hb2
  rcases find_first hf with ⟨rfl, hn⟩ | ⟨k, rfl, hk, hn⟩
  · have hv : p.find name = none := hn
    replace hv := Lib.hid hv
    clear hn hf
    go_wp2
    refine bodyPost_ret (v := .tuple #[.agg #[.string ⟨#[]⟩, .string ⟨#[]⟩, .slice none 0 0], .bool false]) (by simp [results, Try.results94, go_sem, hc2, hz2, hz3]) rfl ⟨_, by rw [hv.out]; rfl, ?_, ?_⟩
    · rw [hv.out]; exact OwnRow.rdl (zero_Typ _)
    · exact (by repeat (first | (with_reducible exact hB2) | refine Below.setCell ?_ (by dsimp only; omega) _))
  · have hv : p.find name = some p.types[k] := hn
    replace hv := Lib.hid hv
    clear hn hf
    obtain ⟨ad2, A2, c2, rfl, y0, y1, y2, g7, m0, m1, _⟩ := JTyp.elem G2.out k hk
    have GG := Lib.hid (JTyp.close_ p.types[k] g7 m0 m1)
    clear g7
    replace y0 := cell_keep hB0 y0
    replace y1 := cell_keep hB0 y1
    replace y2 := cell_keep hB0 y2
    have hkI : (k : Int) < p.types.length := by omega
    go_wp2
    refine bodyPost_ret (v := .tuple #[.agg #[.string p.types[k].name, .string p.types[k].key, .slice A2 p.types[k].fields.length c2], .bool true]) (by simp [results, Try.results94, go_sem, hc2, hz2, hz3]) rfl ⟨_, by rw [hv.out]; rfl, ?_, ?_⟩
    · rw [hv.out]
      exact GG.out
    · exact (by repeat (first | (with_reducible exact hB2) | refine Below.setCell ?_ (by dsimp only; omega) _))
set_option maxRecDepth 100000 in
set_option maxHeartbeats 4000000 in
theorem field_c (p : JPart) (cs : List Value) (name field : ByteArray) (w0 w : World) (h0_ : Below w0.heap.size w0 w) (hx : RdL w0 p.enc cs) :
    Calls Try.prog 67 #[.agg cs.toArray, .string name, .string field] w (TellW w0 w ((p.findF name field).getD JField.zero).enc (p.findF name field).isSome) := by
  have hx' := hx
  obtain ⟨A1, c1, rfl, g1, l0, n1⟩ := JPart.open_ hx
  have HP := Lib.hid (fun W (h : Below w.heap.size w W) => pfindW_c p _ name w0 W (bt h0_ h) hx')
  have hfe := findF_eq p name field
  clear hx hx' g1
  generalize (p.find name).isSome = b1_ at HP
  generalize (p.find name).getD JTyp.zero = t at *
  have HT := Lib.hid (fun W cs (hb : Below w.heap.size w W) (h : RdL w0 t.enc cs) => tfindW_c t cs field w0 W (bt h0_ hb) h)
  rw [← hfe]
  clear hfe
  generalize t.find field = r at *
  generalize r.isSome = rb at *
  generalize r.getD JField.zero = rf at *
  go_enter Try.func67, Try.ntmps67
  go_wp2_with fail
  refine (HP.out _ (bt (b1 _ _) (b1 _ _))).mono ?_
  rintro e w1 ⟨us1, rfl, g1, hb1⟩
  obtain ⟨A2, c2, rfl, q2, m0, m1, _⟩ := JTyp.open_ g1
  clear q2
  obtain ⟨hc1, hf1⟩ := bcell hb1
  have hz1 : w.heap.size + 1 < w1.heap.size := by have := hb1.size; simp at this; omega
  have hz0 : w.heap.size < w1.heap.size := by omega
  have hB1 := Lib.hid hb1
  have G1 := Lib.hid g1
  clear hb1 g1
  go_wp2_with fail
  refine (HT.out _ _ (bt (bt (bt (b1 _ _) (b1 _ _)) hB1.out) (b1 _ _)) G1.out).mono ?_
  rintro e w2 ⟨us2, rfl, g2, hb2⟩
  obtain ⟨A7, c7, rfl, q7, m2, m3, _⟩ := JField.open_ g2
  clear q7
  have hB2 := bt (bt hB1.out (b1 _ _)) hb2
  have hB9 := bt (bt (b1 _ _) (b1 _ _)) hB2
  have e0 := cell_keep hB2 (a := ⟨w.heap.size + 1, 0, none⟩) (v := .string ⟨#[]⟩) (by simp [go_sem])
  have e1 := cell_keep hB2 (a := ⟨w.heap.size + 1, 1, none⟩) (v := .string ⟨#[]⟩) (by simp [go_sem])
  have e2 := cell_keep hB2 (a := ⟨w.heap.size + 1, 2, none⟩) (v := .bool false) (by simp [go_sem])
  have e3 := cell_keep hB2 (a := ⟨w.heap.size + 1, 3, none⟩) (v := .bool false) (by simp [go_sem])
  have e4 := cell_keep hB2 (a := ⟨w.heap.size + 1, 4, none⟩) (v := .bool false) (by simp [go_sem])
  have e5 := cell_keep hB2 (a := ⟨w.heap.size + 1, 5, none⟩) (v := .bool false) (by simp [go_sem])
  have e6 := cell_keep hB2 (a := ⟨w.heap.size + 1, 6, none⟩) (v := .bool false) (by simp [go_sem])
  have e7 := cell_keep hB2 (a := ⟨w.heap.size + 1, 7, none⟩) (v := .slice none 0 0) (by simp [go_sem])
  have hz2 : w.heap.size + 1 < w2.heap.size := World.block_lt_of_cell? _ _ e0
  have ef : ∀ o, w2.frozen? ⟨w.heap.size + 1, o, none⟩ = false := fun o => (hB2.frozen (p := ⟨w.heap.size + 1, o, none⟩) (by simp)).trans (by simp [go_sem])
  replace hB2 := Lib.hid hB2
  have G2 := Lib.hid g2
  clear g2 hb2 hc1 hf1
  go_wp2
  refine bodyPost_ret (v := .tuple #[.agg #[.string rf.name, .string rf.of, .bool rf.list, .bool rf.must, .bool rf.far, .bool rf.hidden, .bool rf.shared, .slice A7 rf.needs.length c7], .bool rb]) (by simp [results, Try.results67, go_sem, e0, e1, e2, e3, e4, e5, e6, e7]) rfl ⟨_, rfl, ?_, ?_⟩
  · exact G2.out
  · exact (by repeat (first | (with_reducible exact hB9) | refine Below.setCell ?_ (by dsimp only; omega) _))
end Go.Proofs.Ytmkagpmdindlpaa.Lib
