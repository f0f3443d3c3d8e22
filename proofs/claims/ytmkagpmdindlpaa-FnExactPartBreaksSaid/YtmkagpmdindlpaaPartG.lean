/- Is a type's line bad: on the program's side. No condition. -/
import Derived.Test.YtmkagpmdindlpaaPartC
import Derived.Laws.EntriesVeiled
set_option linter.unusedVariables false
set_option linter.unusedSimpArgs false
namespace Go.Proofs.Ytmkagpmdindlpaa.Lib
open Go.RowKit

theorem live_bl1 : Live 124 := live_of Try.func124 (by kernel_rfl) (by kernel_rfl)
theorem bl1_c (s : ByteArray) (w : World) (hs : s.size ≤ 9223372036854775807) : Calls Try.prog 124 #[.string s] w (Ret w (.bool (tf (¬ NameOk s)))) := by
  have HI := Lib.hid (fun W => isName_c s W hs)
  go_enter Try.func124, Try.ntmps124
  go_wp2_with fail
  refine (HI.out _).mono ?_
  rintro e w1 ⟨rfl, hb1⟩
  have hb1 := Lib.hid hb1
  go_wp2
  all_goals
    go_ret
    refine Ret.fin ?_ hb1.out
    simp_all [tf_iff, tf_no]
theorem live_bl2 : Live 125 := live_of Try.func125 (by kernel_rfl) (by kernel_rfl)
set_option maxRecDepth 100000 in
set_option maxHeartbeats 4000000 in
theorem bl2_c (g : Nat) (f : JField) (cs : List Value) (w : World) (hc : w.cell? ⟨g, 0, none⟩ = some (.func (.func 124) #[] #[])) (hx : RdL w f.enc cs) :
    Calls Try.prog 125 #[.agg cs.toArray, .pointer (some ⟨g, 0, none⟩)] w (Ret w (.bool (tf (FieldBad f)))) := by
  have hx' := hx
  obtain ⟨A7, c7, rfl, g7, l0, l1, n7⟩ := JField.open_ hx
  have HI := Lib.hid (fun W => isName_c f.name W l0)
  have HO := Lib.hid (fun W => isName_c f.of W l1)
  have HX := Lib.hid (fun W (h : Below w.heap.size w W) => ofWord_c f _ W (hx'.keep h))
  have HC := Lib.hid (fun W (h : Below w.heap.size w W) => containsFuncStr_c f.needs A7 c7 (fun s => ¬ NameOk s) 124 #[] W (g7.below h) ⟨live_bl1, fun s W hs _ => bl1_c s W hs⟩)
  have hgl := World.block_lt_of_cell? w _ hc
  clear hx hx' g7
  go_enter Try.func125, Try.ntmps125
  go_wp2_with (first | (go_at_call 61; (first | (with_reducible refine (HI.out _).mono ?_) | (with_reducible refine (HO.out _).mono ?_)); rintro e w1 ⟨rfl, hb1⟩; obtain ⟨hc1, hf1⟩ := bcell hb1; have hz1 : w.heap.size < w1.heap.size := (by have := hb1.size; (try simp at this); omega); have hzg : g < w1.heap.size := (by omega); have hB1 : Below w.heap.size w w1 := (by first | exact bt (b1 _ _) hb1 | exact bt (by assumption) hb1)) | (go_at_call 96; (refine (HX.out _ (by first | exact b1 _ _ | assumption)).mono ?_); rintro e w1 ⟨rfl, hb1⟩; obtain ⟨hc1, hf1⟩ := bcell hb1; have hz1 : w.heap.size < w1.heap.size := (by have := hb1.size; (try simp at this); omega); have hzg : g < w1.heap.size := (by omega); have hB1 : Below w.heap.size w w1 := (by first | exact bt (b1 _ _) hb1 | exact bt (by assumption) hb1)) | (go_at_call 126; (refine (HC.out _ (by first | exact b1 _ _ | assumption)).mono ?_); rintro e w1 ⟨rfl, hb1⟩; obtain ⟨hc1, hf1⟩ := bcell hb1; have hz1 : w.heap.size < w1.heap.size := (by have := hb1.size; (try simp at this); omega); have hzg : g < w1.heap.size := (by omega); have hB1 : Below w.heap.size w w1 := (by first | exact bt (b1 _ _) hb1 | exact bt (by assumption) hb1)))
  all_goals
    go_ret
    refine Ret.fin ?_ (by first | exact b1 _ _ | assumption)
    simp_all [FieldBad, tf_iff, tf_no]
set_option maxRecDepth 100000 in
set_option maxHeartbeats 4000000 in
theorem badLine_c (t : JTyp) (cs : List Value) (w : World) (hx : RdL w t.enc cs) : Calls Try.prog 97 #[.agg cs.toArray] w (Ret w (.bool (tf t.badLine))) := by
  have hmf : ∀ (fn : Fn) (first cap : Array Value) (w : World), (Instr.makeFunc fn first cap).run Try.prog w = .ok (.func fn first cap) w := fun _ _ _ _ => rfl
  obtain ⟨A2, c2, rfl, g2, l0, l1, n2⟩ := JTyp.open_ hx
  have HI := Lib.hid (fun W => isName_c t.name W l0)
  have HO := Lib.hid (fun W => isName_c t.key W l1)
  have HC := Lib.hid (fun W (h : Below w.heap.size w W) (hg : W.cell? ⟨w.heap.size + 1, 0, none⟩ = some (.func (.func 124) #[] #[])) => containsFuncField_c t.fields A2 c2 FieldBad 125 #[.pointer (some ⟨w.heap.size + 1, 0, none⟩)] W (g2.below h) ⟨live_bl2, fun f us W2 h1 h2 => bl2_c _ f us W2 (cell_keep h2 hg) h1⟩)
  clear hx g2
  go_enter Try.func97, Try.ntmps97
  go_wp2_with (first | (go_at_call 61; (first | (with_reducible refine (HI.out _).mono ?_) | (with_reducible refine (HO.out _).mono ?_)); rintro e w1 ⟨rfl, hb1⟩; obtain ⟨hc1, hf1⟩ := bcell hb1; have hz1 : w.heap.size + 1 < w1.heap.size := (by have := hb1.size; (try simp at this); omega); have hz0 : w.heap.size < w1.heap.size := (by omega); have hB1 : Below w.heap.size w w1 := (by first | exact bt (bt (b1 _ _) (b1 _ _)) hb1 | exact bt (by assumption) hb1)) | (go_at_call 120; refine (in_c _ _ _ _).mono ?_; rintro e w1 ⟨rfl, rfl⟩) | (go_at_call 100; (refine (HC.out _ (by first | exact bt (b1 _ _) (b1 _ _) | assumption) (by simp [go_sem, *])).mono ?_); rintro e w1 ⟨rfl, hb1⟩; obtain ⟨hc1, hf1⟩ := bcell hb1; have hz1 : w.heap.size + 1 < w1.heap.size := (by have := hb1.size; (try simp at this); omega); have hz0 : w.heap.size < w1.heap.size := (by omega); have hB1 : Below w.heap.size w w1 := (by first | exact bt (bt (b1 _ _) (b1 _ _)) hb1 | exact bt (by assumption) hb1)))
  all_goals
    go_ret
    refine Ret.fin ?_ (by first | exact bt (b1 _ _) (b1 _ _) | assumption)
    simp_all [JTyp.badLine, tf_iff, tf_no, lit_iff]
end Go.Proofs.Ytmkagpmdindlpaa.Lib
