/- A part that is ok; PartWrite on both sides. Parts of 2^20 at most. -/
import Derived.Test.YtmkagpmdindlpaaPartR
set_option linter.unusedVariables false
set_option linter.unusedSimpArgs false
namespace Go.Proofs.Ytmkagpmdindlpaa.Lib
open Go.RowKit
theorem codeAt_pos (ts : List JTyp) (i : Nat) : 0 ≤ codeAt ts i := by
  unfold codeAt
  split
  · exact typeCode_pos _ _ _
  · exact Int.le_refl _
theorem firstBad_ne {c : Nat → Int} : ∀ (n i k : Nat), firstBad c n i = some k → c k ≠ 0 := by
  intro n
  induction n with
  | zero => intro i k h; cases h
  | succ n ih =>
    intro i k h
    unfold firstBad at h
    split at h
    · rename_i hc; cases h; exact hc
    · exact ih _ _ h
def PartOk (p : JPart) : Prop := (faultOf p).code = 0
theorem partOk_iff {p : JPart} : PartOk p ↔ faultOf p = ⟨0, 0⟩ := by
  unfold PartOk
  constructor
  · intro h
    unfold faultOf at h ⊢
    split
    · rename_i h1; rw [if_pos h1] at h; cases h
    · rename_i h1
      rw [if_neg h1] at h
      split
      · rename_i h2; rw [if_pos h2] at h; cases h
      · rename_i h2
        rw [if_neg h2] at h
        split
        · rename_i h3; rw [if_pos h3] at h; cases h
        · rename_i h3
          rw [if_neg h3] at h
          unfold restFault at h ⊢
          split
          · rename_i i hi
            rw [hi] at h
            exact absurd h (firstBad_ne _ _ _ hi)
          · rename_i hi
            rw [hi] at h
            dsimp only at h
            split
            · rename_i h4; rw [if_pos h4] at h; cases h
            · rfl
  · intro h; rw [h]
set_option maxRecDepth 100000 in
theorem partOk_c (p : JPart) (cs : List Value) (w : World) (hx : RdL w p.enc cs) (hb : p.bulk ≤ 1048576) : Calls Try.prog 65 #[.agg cs.toArray] w (Ret w (.bool (tf (PartOk p)))) := by
  have hx' := hx
  obtain ⟨A1, c1, rfl, g1, l0, n1⟩ := JPart.open_ hx
  have HC := Lib.hid (fun W (h : Below w.heap.size w W) => implPartCheck_c p _ W (hx'.keep h) hb)
  have hi := Lib.hid (partOk_iff (p := p))
  clear hx hx' g1
  generalize hT : faultOf p = T at *
  obtain ⟨t1, t2⟩ := T
  go_enter Try.func65, Try.ntmps65
  go_wp2_with fail
  refine (HC.out _ (b1 _ _)).mono ?_
  rintro e w1 ⟨rfl, hb1⟩
  go_wp2
  all_goals
    go_ret
    refine Ret.fin ?_ (bt (b1 _ _) hb1)
    rw [hi.out]
    simp_all
theorem fld_code (a b : Int) (w : World) : (Instr.field 45 (.agg #[.int .i64 a, .int .i64 b]) 1).run Try.prog w = .ok (.int .i64 b) w := by kernel_rfl
noncomputable def writeP (p : JPart) : ByteArray := if tf (PartOk p) = true then partT p else ⟨#[]⟩
theorem writeP_t {p : JPart} (h : PartOk p) : writeP p = partT p := by unfold writeP; rw [if_pos (tf_t h)]
theorem writeP_f {p : JPart} (h : ¬ PartOk p) : writeP p = ⟨#[]⟩ := by unfold writeP; rw [if_neg (by rw [tf_f h]; simp)]
set_option maxRecDepth 100000 in
theorem specPartWrite_c (p : JPart) (cs : List Value) (w : World) (hx : RdL w p.enc cs) (hb : p.bulk ≤ 1048576) : Calls Try.prog 28 #[.agg cs.toArray] w (Ret w (.string (writeP p))) := by
  have hfd := fld_code
  have hx' := hx
  obtain ⟨A1, c1, rfl, g1, l0, n1⟩ := JPart.open_ hx
  have HC := Lib.hid (fun W (h : Below w.heap.size w W) => specPartCheck_c p _ W (hx'.keep h) hb)
  have HW := Lib.hid (fun W (h : Below w.heap.size w W) => l2Write_c p _ W (hx'.keep h) hb)
  clear hx hx' g1
  by_cases ho : PartOk p
  · have e0 := writeP_t ho
    have tc : ((faultOf p).code == 0) = true := by rw [show (faultOf p).code = 0 from ho]; rfl
    generalize faultOf p = T at *
    obtain ⟨t1, t2⟩ := T
    dsimp only at tc HC
    replace ho := Lib.hid ho
    go_enter Try.func28, Try.ntmps28
    go_wp2_with fail
    refine (HC.out _ (b1 _ _)).mono ?_
    rintro e w1 ⟨rfl, hb1⟩
    obtain ⟨hc1, hf1⟩ := bcell hb1
    have hz1 : w.heap.size < w1.heap.size := by have := hb1.size; simp at this; omega
    have hB1 := Lib.hid (bt (b1 _ _) hb1)
    clear hb1
    go_wp2_with fail
    refine (HW.out _ hB1.out).mono ?_
    rintro e w2 ⟨rfl, hb2⟩
    go_wp2
    go_ret
    rw [e0]
    exact ⟨rfl, bt hB1.out hb2⟩
  · have e0 := writeP_f ho
    have tc : ((faultOf p).code == 0) = false := by rw [beq_eq_false_iff_ne]; exact ho
    generalize faultOf p = T at *
    obtain ⟨t1, t2⟩ := T
    dsimp only at tc HC
    replace ho := Lib.hid ho
    go_enter Try.func28, Try.ntmps28
    go_wp2_with fail
    refine (HC.out _ (b1 _ _)).mono ?_
    rintro e w1 ⟨rfl, hb1⟩
    go_wp2
    go_ret
    rw [e0]
    exact ⟨rfl, bt (b1 _ _) hb1⟩
set_option maxRecDepth 100000 in
theorem implPartWrite_c (p : JPart) (cs : List Value) (w : World) (hx : RdL w p.enc cs) (hb : p.bulk ≤ 1048576) : Calls Try.prog 29 #[.agg cs.toArray] w (Ret w (.string (writeP p))) := by
  have hx' := hx
  obtain ⟨A1, c1, rfl, g1, l0, n1⟩ := JPart.open_ hx
  have HC := Lib.hid (fun W (h : Below w.heap.size w W) => partOk_c p _ W (hx'.keep h) hb)
  have HW := Lib.hid (fun W (h : Below w.heap.size w W) => write_c p _ W (hx'.keep h) hb)
  clear hx hx' g1
  by_cases ho : PartOk p
  · have e0 := writeP_t ho
    rw [tf_t ho] at HC
    replace ho := Lib.hid ho
    go_enter Try.func29, Try.ntmps29
    go_wp2_with fail
    refine (HC.out _ (b1 _ _)).mono ?_
    rintro e w1 ⟨rfl, hb1⟩
    obtain ⟨hc1, hf1⟩ := bcell hb1
    have hz1 : w.heap.size < w1.heap.size := by have := hb1.size; simp at this; omega
    have hB1 := Lib.hid (bt (b1 _ _) hb1)
    clear hb1
    go_wp2_with fail
    refine (HW.out _ hB1.out).mono ?_
    rintro e w2 ⟨rfl, hb2⟩
    go_wp2
    go_ret
    rw [e0]
    exact ⟨rfl, bt hB1.out hb2⟩
  · have e0 := writeP_f ho
    rw [tf_f ho] at HC
    replace ho := Lib.hid ho
    go_enter Try.func29, Try.ntmps29
    go_wp2_with fail
    refine (HC.out _ (b1 _ _)).mono ?_
    rintro e w1 ⟨rfl, hb1⟩
    go_wp2
    go_ret
    rw [e0]
    exact ⟨rfl, bt (b1 _ _) hb1⟩
end Go.Proofs.Ytmkagpmdindlpaa.Lib
