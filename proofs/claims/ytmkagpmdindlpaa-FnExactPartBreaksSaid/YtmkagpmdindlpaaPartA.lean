/- Fields and types of parts: small functions of the program and of the reference. No condition. -/
import Derived.Test.YtmkagpmdindlpaaPart0
import Derived.Test.YtmkagpmdindlpaaTo
import Derived.Deep.RegionHeld3
set_option linter.unusedVariables false
set_option linter.unusedSimpArgs false
namespace Go.Proofs.Ytmkagpmdindlpaa.Lib
open Go.RowKit

theorem needy_c (f : JField) (cs : List Value) (w : World) (hx : RdL w f.enc cs) : Calls Try.prog 129 #[.agg cs.toArray] w (Ret w (.bool (tf f.needy))) := by
  obtain ⟨A7, c7, rfl, g7, l0, l1, n7⟩ := JField.open_ hx
  clear hx g7
  go_enter Try.func129, Try.ntmps129
  go_wp2
  go_ret
  refine Ret.d (p := f.needy) ?_ (b1 _ _)
  unfold JField.needy
  rw [← List.length_pos_iff]
  first | done | omega
set_option maxRecDepth 100000 in
theorem ofWord_c (f : JField) (cs : List Value) (w : World) (hx : RdL w f.enc cs) : Calls Try.prog 96 #[.agg cs.toArray] w (Ret w (.bool (tf (f.of ∈ ofWords)))) := by
  obtain ⟨A7, c7, rfl, g7, l0, l1, n7⟩ := JField.open_ hx
  clear hx g7
  go_enter Try.func96, Try.ntmps96
  go_wp2
  all_goals
    go_ret
    refine Ret.fin ?_ (b1 _ _)
    simp_all [ofWords, lit_iff, tf_iff, tf_no, wInt, wText, wBool]
set_option maxRecDepth 100000 in
theorem plainInt_c (f : JField) (cs : List Value) (w : World) (hx : RdL w f.enc cs) : Calls Try.prog 128 #[.agg cs.toArray] w (Ret w (.bool (tf f.plainInt))) := by
  have hx' := hx
  obtain ⟨A7, c7, rfl, g7, l0, l1, n7⟩ := JField.open_ hx
  have HX := Lib.hid (fun W (h : Below w.heap.size w W) => hx'.keep h)
  clear hx hx' g7
  go_enter Try.func128, Try.ntmps128
  go_wp2_with (go_at_call 129; refine (needy_c f _ _ (by have h := HX.out; (try simp only [*] at h); exact h _ (b1 _ _))).mono ?_; rintro e w1 ⟨rfl, hb1⟩)
  all_goals
    go_ret
    refine Ret.fin ?_ (by first | exact b1 _ _ | exact bt (b1 _ _) ‹_›)
    simp_all [JField.plainInt, JField.needy, lit_iff, tf_iff, tf_no, wInt]

theorem live_tf1 : Live 133 := live_of Try.func133 (by kernel_rfl) (by kernel_rfl)
theorem tf1_c (name : ByteArray) (g : Nat) (x : JField) (cs : List Value) (w : World) (hc : w.cell? ⟨g, 0, none⟩ = some (.string name)) (hx : RdL w x.enc cs) :
    Calls Try.prog 133 #[.agg cs.toArray, .pointer (some ⟨g, 0, none⟩)] w (Ret w (.bool (tf (x.name = name)))) := by
  obtain ⟨A7, c7, rfl, g7, l0, l1, n7⟩ := JField.open_ hx
  clear hx g7
  have hgl := World.block_lt_of_cell? w _ hc
  go_enter Try.func133, Try.ntmps133
  go_wp2
  go_ret
  exact Ret.fin (by simp [str_iff]) (b1 _ _)
theorem live_pf1 : Live 123 := live_of Try.func123 (by kernel_rfl) (by kernel_rfl)
theorem pf1_c (name : ByteArray) (g : Nat) (x : JTyp) (cs : List Value) (w : World) (hc : w.cell? ⟨g, 0, none⟩ = some (.string name)) (hx : RdL w x.enc cs) :
    Calls Try.prog 123 #[.agg cs.toArray, .pointer (some ⟨g, 0, none⟩)] w (Ret w (.bool (tf (x.name = name)))) := by
  obtain ⟨A2, c2, rfl, g2, l0, l1, n2⟩ := JTyp.open_ hx
  clear hx g2
  have hgl := World.block_lt_of_cell? w _ hc
  go_enter Try.func123, Try.ntmps123
  go_wp2
  go_ret
  exact Ret.fin (by simp [str_iff]) (b1 _ _)

set_option maxRecDepth 100000 in
set_option maxHeartbeats 4000000 in
theorem tfind_c (t : JTyp) (cs : List Value) (name : ByteArray) (w : World) (hx : RdL w t.enc cs) :
    Calls Try.prog 108 #[.agg cs.toArray, .string name] w (TellB w ((t.find name).getD JField.zero).enc (t.find name).isSome) := by
  have hmf : ∀ (fn : Fn) (first cap : Array Value) (w : World), (Instr.makeFunc fn first cap).run Try.prog w = .ok (.func fn first cap) w := fun _ _ _ _ => rfl
  obtain ⟨A2, c2, rfl, q2, l0, l1, n2⟩ := JTyp.open_ hx
  have HC := Lib.hid (fun (W : World) (hb : Below w.heap.size w W) (hg : W.cell? ⟨w.heap.size + 1, 0, none⟩ = some (.string name)) => indexFuncField_c t.fields A2 c2 (fun x => x.name = name) 133 #[.pointer (some ⟨w.heap.size + 1, 0, none⟩)] W (q2.below hb) ⟨live_tf1, fun x us W2 h1 h2 => tf1_c name _ x us W2 (cell_keep h2 hg) h1⟩)
  have G2 := Lib.hid q2
  clear hx q2
  go_enter Try.func108, Try.ntmps108
  go_wp2_with fail
  refine (HC.out _ (bt (bt (b1 _ _) (b1 _ _)) (b1 _ _)) (by simp [go_sem])).mono ?_
  intro e w2 hr
  obtain ⟨i, ⟨rfl, hb2⟩, hf⟩ := hr
  obtain ⟨hc2, hf2⟩ := bcell hb2
  have hz2 : w.heap.size + 2 < w2.heap.size := by have := hb2.size; simp at this; omega
  have hz3 : w.heap.size + 1 + 1 < w2.heap.size := by omega
  have hz4 : w.heap.size < w2.heap.size := by omega
  have hB2 := bt (bt (bt (b1 _ _) (b1 _ _)) (b1 _ _)) hb2
  replace hb2 := Lib.hid hb2
  rcases find_first hf with ⟨rfl, hn⟩ | ⟨k, rfl, hk, hn⟩
  · have hv : t.find name = none := hn
    replace hv := Lib.hid hv
    clear hn hf
    go_wp2
    refine bodyPost_ret (v := .tuple #[.agg #[.string ⟨#[]⟩, .string ⟨#[]⟩, .bool false, .bool false, .bool false, .bool false, .bool false, .slice none 0 0], .bool false]) (by simp [results, Try.results108, go_sem, hc2, hz2, hz3]) rfl ⟨_, by rw [hv.out]; rfl, ?_, ?_⟩
    · rw [hv.out]; exact OwnRow.rdl (zero_Field _)
    · exact (by repeat (first | (with_reducible exact hB2) | refine Below.setCell ?_ (by dsimp only; omega) _))
  · have hv : t.find name = some t.fields[k] := hn
    replace hv := Lib.hid hv
    clear hn hf
    obtain ⟨ad2, A7, c7, rfl, y0, y1, y2, y3, y4, y5, y6, y7, g7, m0, m1, _⟩ := JField.elem G2.out k hk
    have GG := Lib.hid (JField.close_ t.fields[k] g7 m0 m1)
    clear g7
    replace y0 := cell_keep hB2 y0
    replace y1 := cell_keep hB2 y1
    replace y2 := cell_keep hB2 y2
    replace y3 := cell_keep hB2 y3
    replace y4 := cell_keep hB2 y4
    replace y5 := cell_keep hB2 y5
    replace y6 := cell_keep hB2 y6
    replace y7 := cell_keep hB2 y7
    have hkI : (k : Int) < t.fields.length := by omega
    go_wp2
    refine bodyPost_ret (v := .tuple #[.agg #[.string t.fields[k].name, .string t.fields[k].of, .bool t.fields[k].list, .bool t.fields[k].must, .bool t.fields[k].far, .bool t.fields[k].hidden, .bool t.fields[k].shared, .slice A7 t.fields[k].needs.length c7], .bool true]) (by simp [results, Try.results108, go_sem, hc2, hz2, hz3]) rfl ⟨_, by rw [hv.out]; rfl, ?_, ?_⟩
    · rw [hv.out]
      exact GG.out.keep (by repeat (first | (with_reducible exact hB2) | refine Below.setCell ?_ (by dsimp only; omega) _))
    · exact (by repeat (first | (with_reducible exact hB2) | refine Below.setCell ?_ (by dsimp only; omega) _))
set_option maxRecDepth 100000 in
set_option maxHeartbeats 4000000 in
theorem pfind_c (p : JPart) (cs : List Value) (name : ByteArray) (w : World) (hx : RdL w p.enc cs) :
    Calls Try.prog 94 #[.agg cs.toArray, .string name] w (TellB w ((p.find name).getD JTyp.zero).enc (p.find name).isSome) := by
  have hmf : ∀ (fn : Fn) (first cap : Array Value) (w : World), (Instr.makeFunc fn first cap).run Try.prog w = .ok (.func fn first cap) w := fun _ _ _ _ => rfl
  obtain ⟨A1, c1, rfl, q2, l0, n1⟩ := JPart.open_ hx
  have HC := Lib.hid (fun (W : World) (hb : Below w.heap.size w W) (hg : W.cell? ⟨w.heap.size + 1, 0, none⟩ = some (.string name)) => indexFuncTyp_c p.types A1 c1 (fun x => x.name = name) 123 #[.pointer (some ⟨w.heap.size + 1, 0, none⟩)] W (q2.below hb) ⟨live_pf1, fun x us W2 h1 h2 => pf1_c name _ x us W2 (cell_keep h2 hg) h1⟩)
  have G2 := Lib.hid q2
  clear hx q2
  go_enter Try.func94, Try.ntmps94
  go_wp2_with fail
  refine (HC.out _ (bt (bt (b1 _ _) (b1 _ _)) (b1 _ _)) (by simp [go_sem])).mono ?_
  intro e w2 hr
  obtain ⟨i, ⟨rfl, hb2⟩, hf⟩ := hr
  obtain ⟨hc2, hf2⟩ := bcell hb2
  have hz2 : w.heap.size + 2 < w2.heap.size := by have := hb2.size; simp at this; omega
  have hz3 : w.heap.size + 1 + 1 < w2.heap.size := by omega
  have hz4 : w.heap.size < w2.heap.size := by omega
  have hB2 := bt (bt (bt (b1 _ _) (b1 _ _)) (b1 _ _)) hb2
  replace hb2 := Lib.hid hb2
  rcases find_first hf with ⟨rfl, hn⟩ | ⟨k, rfl, hk, hn⟩
  · have hv : p.find name = none := hn
    replace hv := Lib.hid hv
    clear hn hf
    go_wp2
    refine bodyPost_ret (v := .tuple #[.agg #[.string ⟨#[]⟩, .string ⟨#[]⟩, .slice none 0 0], .bool false]) (by simp [results, Try.results94, go_sem, hc2, hz2, hz3]) rfl ⟨_, by rw [hv.out]; rfl, ?_, ?_⟩
    · rw [hv.out]; exact OwnRow.rdl (zero_Typ _)
    · exact (by repeat (first | (with_reducible exact hB2) | refine Below.setCell ?_ (by dsimp only; omega) _))
  · have hv : p.find name = some p.types[k] := hn
    replace hv := Lib.hid hv
    clear hn hf
    obtain ⟨ad2, A2, c2, rfl, y0, y1, y2, g7, m0, m1, _⟩ := JTyp.elem G2.out k hk
    have GG := Lib.hid (JTyp.close_ p.types[k] g7 m0 m1)
    clear g7
    replace y0 := cell_keep hB2 y0
    replace y1 := cell_keep hB2 y1
    replace y2 := cell_keep hB2 y2
    have hkI : (k : Int) < p.types.length := by omega
    go_wp2
    refine bodyPost_ret (v := .tuple #[.agg #[.string p.types[k].name, .string p.types[k].key, .slice A2 p.types[k].fields.length c2], .bool true]) (by simp [results, Try.results94, go_sem, hc2, hz2, hz3]) rfl ⟨_, by rw [hv.out]; rfl, ?_, ?_⟩
    · rw [hv.out]
      exact GG.out.keep (by repeat (first | (with_reducible exact hB2) | refine Below.setCell ?_ (by dsimp only; omega) _))
    · exact (by repeat (first | (with_reducible exact hB2) | refine Below.setCell ?_ (by dsimp only; omega) _))
end Go.Proofs.Ytmkagpmdindlpaa.Lib
