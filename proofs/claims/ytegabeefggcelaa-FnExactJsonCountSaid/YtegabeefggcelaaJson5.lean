/- The program's (Value).shape. Printed by gshape.py. No condition. -/
import Derived.Test.YtegabeefggcelaaJson4
set_option linter.unusedVariables false
set_option linter.unusedSimpArgs false
namespace Go.Proofs.Ytegabeefggcelaa.Lib
open Go.RowKit

theorem namesOk_iff (xs : List ByteArray) : NamesOk xs ↔ ¬ Twice xs ∧ ¬ ∃ x, x ∈ xs ∧ ¬ OkName x := by
  constructor
  · intro h
    refine ⟨fun ⟨i, hi, ht⟩ => (h i hi).2 ht, fun ⟨x, hx, hn⟩ => ?_⟩
    obtain ⟨i, hi, rfl⟩ := List.getElem_of_mem hx
    exact hn (h i hi).1
  · rintro ⟨h1, h2⟩ i hi
    exact ⟨Classical.byContradiction fun hn => h2 ⟨xs[i], List.getElem_mem hi, hn⟩, fun ht => h1 ⟨i, hi, ht⟩⟩

set_option maxRecDepth 100000 in
set_option maxHeartbeats 4000000 in
theorem shape_s1 (v : JValue) (A3 A4 : Option Addr) (c3 c4 : Nat) (w : World) (g3 : Rd w (slD strD 1 v.names) (.slice A3 v.names.length c3)) (l2 : v.text.size ≤ 9223372036854775807) (n3 : v.names.length ≤ 9223372036854775807) (n4 : v.kids.length ≤ 9223372036854775807)
    (hs1 : v.sort = 1) : Calls Try.prog 65 #[.agg #[.int .i64 v.sort, .int .i64 v.num, .string v.text, .slice A3 v.names.length c3, .slice A4 v.kids.length c4]] w (Ret w (.bool (tf (Plain v)))) := by
  have G3 := Lib.hid g3
  clear g3
  have hv := Lib.hid hs1
  have s1 : (v.sort == 1) = true := by rw [beq_iff_eq]; exact hs1
  have s2 : (v.sort == 2) = false := by rw [beq_eq_false_iff_ne, hs1]; decide
  have s3 : (v.sort == 3) = false := by rw [beq_eq_false_iff_ne, hs1]; decide
  have s4 : (v.sort == 4) = false := by rw [beq_eq_false_iff_ne, hs1]; decide
  have s5 : (v.sort == 5) = false := by rw [beq_eq_false_iff_ne, hs1]; decide
  have s6 : (v.sort == 6) = false := by rw [beq_eq_false_iff_ne, hs1]; decide
  clear hs1
  by_cases hu : v.num = 0
  case neg =>
    have hu0 : (v.num == 0) = false := by rw [beq_eq_false_iff_ne]; exact hu
    replace hu := Lib.hid hu
    go_enter Try.func65, Try.ntmps65
    go_wp2_with fail
    go_quiet (fail)
    go_wp2_with fail
    go_quiet (fail)
    go_wp2
    go_ret
    exact Ret.f (Plain.f3 (by rw [hv.out]; decide) (by rw [hv.out]; decide) hu.out) (drewN_below (b1 _ _) _)
  have hu0 : (v.num == 0) = true := by rw [beq_iff_eq]; exact hu
  replace hu := Lib.hid hu
  by_cases ht : v.text = ⟨#[]⟩
  case neg =>
    have ht0 := empty_f ht
    replace ht := Lib.hid ht
    go_enter Try.func65, Try.ntmps65
    go_wp2_with fail
    go_quiet (fail)
    go_wp2_with fail
    go_quiet (fail)
    go_wp2
    go_ret
    exact Ret.f (Plain.f2 (by rw [hv.out]; decide) ht.out) (drewN_below (b1 _ _) _)
  have ht0 := empty_t ht
  replace ht := Lib.hid ht
  by_cases hn : ¬ 0 < v.names.length
  case neg =>
    have hn0 : ((v.names.length : Int) == 0) = false := by rw [beq_eq_false_iff_ne]; omega
    replace hn := Lib.hid hn
    go_enter Try.func65, Try.ntmps65
    go_wp2_with fail
    go_quiet (fail)
    go_wp2_with fail
    go_quiet (fail)
    go_wp2
    go_ret
    exact Ret.f (Plain.f1 (by rw [hv.out]; decide) (by have := hn.out; omega)) (drewN_below (b1 _ _) _)
  have hn0 : ((v.names.length : Int) == 0) = true := by rw [beq_iff_eq]; omega
  replace hn := Lib.hid hn
  by_cases hk : (v.kids.length : Int) = 0
  case neg =>
    have hk0 : ((v.kids.length : Int) == 0) = false := by rw [beq_eq_false_iff_ne]; exact hk
    replace hk := Lib.hid hk
    go_enter Try.func65, Try.ntmps65
    go_wp2_with fail
    go_quiet (fail)
    go_wp2_with fail
    go_quiet (fail)
    go_wp2
    go_ret
    exact Ret.f (fun h => hk.out ((plain1 hv.out hn.out ht.out hu.out).1 h)) (drewN_below (b1 _ _) _)
  have hk0 : ((v.kids.length : Int) == 0) = true := by rw [beq_iff_eq]; exact hk
  replace hk := Lib.hid hk
  go_enter Try.func65, Try.ntmps65
  go_wp2_with fail
  go_quiet (fail)
  go_wp2_with fail
  go_quiet (fail)
  go_wp2
  go_ret
  exact Ret.t ((plain1 hv.out hn.out ht.out hu.out).2 hk.out) (drewN_below (b1 _ _) _)
set_option maxRecDepth 100000 in
set_option maxHeartbeats 4000000 in
theorem shape_s2 (v : JValue) (A3 A4 : Option Addr) (c3 c4 : Nat) (w : World) (g3 : Rd w (slD strD 1 v.names) (.slice A3 v.names.length c3)) (l2 : v.text.size ≤ 9223372036854775807) (n3 : v.names.length ≤ 9223372036854775807) (n4 : v.kids.length ≤ 9223372036854775807)
    (hs2 : v.sort = 2) : Calls Try.prog 65 #[.agg #[.int .i64 v.sort, .int .i64 v.num, .string v.text, .slice A3 v.names.length c3, .slice A4 v.kids.length c4]] w (Ret w (.bool (tf (Plain v)))) := by
  have G3 := Lib.hid g3
  clear g3
  have hv := Lib.hid hs2
  have s1 : (v.sort == 1) = false := by rw [beq_eq_false_iff_ne, hs2]; decide
  have s2 : (v.sort == 2) = true := by rw [beq_iff_eq]; exact hs2
  have s3 : (v.sort == 3) = false := by rw [beq_eq_false_iff_ne, hs2]; decide
  have s4 : (v.sort == 4) = false := by rw [beq_eq_false_iff_ne, hs2]; decide
  have s5 : (v.sort == 5) = false := by rw [beq_eq_false_iff_ne, hs2]; decide
  have s6 : (v.sort == 6) = false := by rw [beq_eq_false_iff_ne, hs2]; decide
  clear hs2
  by_cases hp : InI v.num 0 1
  case neg =>
    replace hp := Lib.hid hp
    go_enter Try.func65, Try.ntmps65
    go_wp2_with fail
    go_quiet (fail)
    go_wp2_with fail
    go_quiet (fail)
    go_wp2_with fail
    refine (in_c _ _ _ _).mono ?_
    intro e w1 hr
    obtain ⟨rfl, rfl⟩ := RetQ.ff hp.out hr
    clear hr
    go_wp2
    go_ret
    exact Ret.f (fun h => hp.out (h.2.2.2.elim (fun h => absurd h.1 (by rw [hv.out]; decide)) fun h => h.elim (fun h => h.2.1) fun h => h.elim (fun h => absurd h.1 (by rw [hv.out]; decide)) fun h => h.elim (fun h => absurd h.1 (by rw [hv.out]; decide)) fun h => h.elim (fun h => absurd h (by rw [hv.out]; decide)) (fun h => absurd h.1 (by rw [hv.out]; decide)))) (drewN_below (b1 _ _) _)
  replace hp := Lib.hid hp
  by_cases ht : v.text = ⟨#[]⟩
  case neg =>
    have ht0 := empty_f ht
    replace ht := Lib.hid ht
    go_enter Try.func65, Try.ntmps65
    go_wp2_with fail
    go_quiet (fail)
    go_wp2_with fail
    go_quiet (fail)
    go_wp2_with fail
    refine (in_c _ _ _ _).mono ?_
    intro e w1 hr
    obtain ⟨rfl, rfl⟩ := RetQ.tt hp.out hr
    clear hr
    go_wp2
    go_ret
    exact Ret.f (Plain.f2 (by rw [hv.out]; decide) ht.out) (drewN_below (b1 _ _) _)
  have ht0 := empty_t ht
  replace ht := Lib.hid ht
  by_cases hn : ¬ 0 < v.names.length
  case neg =>
    have hn0 : ((v.names.length : Int) == 0) = false := by rw [beq_eq_false_iff_ne]; omega
    replace hn := Lib.hid hn
    go_enter Try.func65, Try.ntmps65
    go_wp2_with fail
    go_quiet (fail)
    go_wp2_with fail
    go_quiet (fail)
    go_wp2_with fail
    refine (in_c _ _ _ _).mono ?_
    intro e w1 hr
    obtain ⟨rfl, rfl⟩ := RetQ.tt hp.out hr
    clear hr
    go_wp2
    go_ret
    exact Ret.f (Plain.f1 (by rw [hv.out]; decide) (by have := hn.out; omega)) (drewN_below (b1 _ _) _)
  have hn0 : ((v.names.length : Int) == 0) = true := by rw [beq_iff_eq]; omega
  replace hn := Lib.hid hn
  by_cases hk : (v.kids.length : Int) = 0
  case neg =>
    have hk0 : ((v.kids.length : Int) == 0) = false := by rw [beq_eq_false_iff_ne]; exact hk
    replace hk := Lib.hid hk
    go_enter Try.func65, Try.ntmps65
    go_wp2_with fail
    go_quiet (fail)
    go_wp2_with fail
    go_quiet (fail)
    go_wp2_with fail
    refine (in_c _ _ _ _).mono ?_
    intro e w1 hr
    obtain ⟨rfl, rfl⟩ := RetQ.tt hp.out hr
    clear hr
    go_wp2
    go_ret
    exact Ret.f (fun h => hk.out ((plain2 hv.out hn.out ht.out).1 h).2) (drewN_below (b1 _ _) _)
  have hk0 : ((v.kids.length : Int) == 0) = true := by rw [beq_iff_eq]; exact hk
  replace hk := Lib.hid hk
  go_enter Try.func65, Try.ntmps65
  go_wp2_with fail
  go_quiet (fail)
  go_wp2_with fail
  go_quiet (fail)
  go_wp2_with fail
  refine (in_c _ _ _ _).mono ?_
  intro e w1 hr
  obtain ⟨rfl, rfl⟩ := RetQ.tt hp.out hr
  clear hr
  go_wp2
  go_ret
  exact Ret.t ((plain2 hv.out hn.out ht.out).2 ⟨hp.out, hk.out⟩) (drewN_below (b1 _ _) _)
set_option maxRecDepth 100000 in
set_option maxHeartbeats 4000000 in
theorem shape_s3 (v : JValue) (A3 A4 : Option Addr) (c3 c4 : Nat) (w : World) (g3 : Rd w (slD strD 1 v.names) (.slice A3 v.names.length c3)) (l2 : v.text.size ≤ 9223372036854775807) (n3 : v.names.length ≤ 9223372036854775807) (n4 : v.kids.length ≤ 9223372036854775807)
    (hs3 : v.sort = 3) : Calls Try.prog 65 #[.agg #[.int .i64 v.sort, .int .i64 v.num, .string v.text, .slice A3 v.names.length c3, .slice A4 v.kids.length c4]] w (Ret w (.bool (tf (Plain v)))) := by
  have G3 := Lib.hid g3
  clear g3
  have hv := Lib.hid hs3
  have s1 : (v.sort == 1) = false := by rw [beq_eq_false_iff_ne, hs3]; decide
  have s2 : (v.sort == 2) = false := by rw [beq_eq_false_iff_ne, hs3]; decide
  have s3 : (v.sort == 3) = true := by rw [beq_iff_eq]; exact hs3
  have s4 : (v.sort == 4) = false := by rw [beq_eq_false_iff_ne, hs3]; decide
  have s5 : (v.sort == 5) = false := by rw [beq_eq_false_iff_ne, hs3]; decide
  have s6 : (v.sort == 6) = false := by rw [beq_eq_false_iff_ne, hs3]; decide
  clear hs3
  by_cases hp : InI v.num (-999999) 999999
  case neg =>
    replace hp := Lib.hid hp
    go_enter Try.func65, Try.ntmps65
    go_wp2_with fail
    go_quiet (fail)
    go_wp2_with fail
    go_quiet (fail)
    go_wp2_with fail
    refine (in_c _ _ _ _).mono ?_
    intro e w1 hr
    obtain ⟨rfl, rfl⟩ := RetQ.ff hp.out hr
    clear hr
    go_wp2
    go_ret
    exact Ret.f (fun h => hp.out (h.2.2.2.elim (fun h => absurd h.1 (by rw [hv.out]; decide)) fun h => h.elim (fun h => absurd h.1 (by rw [hv.out]; decide)) fun h => h.elim (fun h => h.2.1) fun h => h.elim (fun h => absurd h.1 (by rw [hv.out]; decide)) fun h => h.elim (fun h => absurd h (by rw [hv.out]; decide)) (fun h => absurd h.1 (by rw [hv.out]; decide)))) (drewN_below (b1 _ _) _)
  replace hp := Lib.hid hp
  by_cases ht : v.text = ⟨#[]⟩
  case neg =>
    have ht0 := empty_f ht
    replace ht := Lib.hid ht
    go_enter Try.func65, Try.ntmps65
    go_wp2_with fail
    go_quiet (fail)
    go_wp2_with fail
    go_quiet (fail)
    go_wp2_with fail
    refine (in_c _ _ _ _).mono ?_
    intro e w1 hr
    obtain ⟨rfl, rfl⟩ := RetQ.tt hp.out hr
    clear hr
    go_wp2
    go_ret
    exact Ret.f (Plain.f2 (by rw [hv.out]; decide) ht.out) (drewN_below (b1 _ _) _)
  have ht0 := empty_t ht
  replace ht := Lib.hid ht
  by_cases hn : ¬ 0 < v.names.length
  case neg =>
    have hn0 : ((v.names.length : Int) == 0) = false := by rw [beq_eq_false_iff_ne]; omega
    replace hn := Lib.hid hn
    go_enter Try.func65, Try.ntmps65
    go_wp2_with fail
    go_quiet (fail)
    go_wp2_with fail
    go_quiet (fail)
    go_wp2_with fail
    refine (in_c _ _ _ _).mono ?_
    intro e w1 hr
    obtain ⟨rfl, rfl⟩ := RetQ.tt hp.out hr
    clear hr
    go_wp2
    go_ret
    exact Ret.f (Plain.f1 (by rw [hv.out]; decide) (by have := hn.out; omega)) (drewN_below (b1 _ _) _)
  have hn0 : ((v.names.length : Int) == 0) = true := by rw [beq_iff_eq]; omega
  replace hn := Lib.hid hn
  by_cases hk : (v.kids.length : Int) = 0
  case neg =>
    have hk0 : ((v.kids.length : Int) == 0) = false := by rw [beq_eq_false_iff_ne]; exact hk
    replace hk := Lib.hid hk
    go_enter Try.func65, Try.ntmps65
    go_wp2_with fail
    go_quiet (fail)
    go_wp2_with fail
    go_quiet (fail)
    go_wp2_with fail
    refine (in_c _ _ _ _).mono ?_
    intro e w1 hr
    obtain ⟨rfl, rfl⟩ := RetQ.tt hp.out hr
    clear hr
    go_wp2
    go_ret
    exact Ret.f (fun h => hk.out ((plain3 hv.out hn.out ht.out).1 h).2) (drewN_below (b1 _ _) _)
  have hk0 : ((v.kids.length : Int) == 0) = true := by rw [beq_iff_eq]; exact hk
  replace hk := Lib.hid hk
  go_enter Try.func65, Try.ntmps65
  go_wp2_with fail
  go_quiet (fail)
  go_wp2_with fail
  go_quiet (fail)
  go_wp2_with fail
  refine (in_c _ _ _ _).mono ?_
  intro e w1 hr
  obtain ⟨rfl, rfl⟩ := RetQ.tt hp.out hr
  clear hr
  go_wp2
  go_ret
  exact Ret.t ((plain3 hv.out hn.out ht.out).2 ⟨hp.out, hk.out⟩) (drewN_below (b1 _ _) _)
set_option maxRecDepth 100000 in
set_option maxHeartbeats 4000000 in
theorem shape_s4 (v : JValue) (A3 A4 : Option Addr) (c3 c4 : Nat) (w : World) (g3 : Rd w (slD strD 1 v.names) (.slice A3 v.names.length c3)) (l2 : v.text.size ≤ 9223372036854775807) (n3 : v.names.length ≤ 9223372036854775807) (n4 : v.kids.length ≤ 9223372036854775807)
    (hs4 : v.sort = 4) : Calls Try.prog 65 #[.agg #[.int .i64 v.sort, .int .i64 v.num, .string v.text, .slice A3 v.names.length c3, .slice A4 v.kids.length c4]] w (Ret w (.bool (tf (Plain v)))) := by
  have G3 := Lib.hid g3
  clear g3
  have hv := Lib.hid hs4
  have s1 : (v.sort == 1) = false := by rw [beq_eq_false_iff_ne, hs4]; decide
  have s2 : (v.sort == 2) = false := by rw [beq_eq_false_iff_ne, hs4]; decide
  have s3 : (v.sort == 3) = false := by rw [beq_eq_false_iff_ne, hs4]; decide
  have s4 : (v.sort == 4) = true := by rw [beq_iff_eq]; exact hs4
  have s5 : (v.sort == 5) = false := by rw [beq_eq_false_iff_ne, hs4]; decide
  have s6 : (v.sort == 6) = false := by rw [beq_eq_false_iff_ne, hs4]; decide
  clear hs4
  by_cases hu : v.num = 0
  case neg =>
    have hu0 : (v.num == 0) = false := by rw [beq_eq_false_iff_ne]; exact hu
    replace hu := Lib.hid hu
    go_enter Try.func65, Try.ntmps65
    go_wp2_with fail
    go_quiet (fail)
    go_wp2_with fail
    go_quiet (fail)
    go_wp2_with fail
    refine (textOk_c _ _ l2).mono ?_
    intro e w1 hr
    obtain ⟨rfl, hb1⟩ := hr
    have hb1 := bt (drewN_below (b1 _ _) _) hb1
    go_wp2
    go_ret
    exact Ret.f (Plain.f3 (by rw [hv.out]; decide) (by rw [hv.out]; decide) hu.out) hb1
  have hu0 : (v.num == 0) = true := by rw [beq_iff_eq]; exact hu
  replace hu := Lib.hid hu
  by_cases hp : OkText v.text
  case neg =>
    replace hp := Lib.hid hp
    go_enter Try.func65, Try.ntmps65
    go_wp2_with fail
    go_quiet (fail)
    go_wp2_with fail
    go_quiet (fail)
    go_wp2_with fail
    refine (textOk_c _ _ l2).mono ?_
    intro e w1 hr
    obtain ⟨rfl, hb1⟩ := Ret.ff hp.out hr
    have hb1 := bt (drewN_below (b1 _ _) _) hb1
    go_wp2
    go_ret
    exact Ret.f (fun h => hp.out (h.2.2.2.elim (fun h => absurd h.1 (by rw [hv.out]; decide)) fun h => h.elim (fun h => absurd h.1 (by rw [hv.out]; decide)) fun h => h.elim (fun h => absurd h.1 (by rw [hv.out]; decide)) fun h => h.elim (fun h => h.2.1) fun h => h.elim (fun h => absurd h (by rw [hv.out]; decide)) (fun h => absurd h.1 (by rw [hv.out]; decide)))) hb1
  replace hp := Lib.hid hp
  by_cases hn : ¬ 0 < v.names.length
  case neg =>
    have hn0 : ((v.names.length : Int) == 0) = false := by rw [beq_eq_false_iff_ne]; omega
    replace hn := Lib.hid hn
    go_enter Try.func65, Try.ntmps65
    go_wp2_with fail
    go_quiet (fail)
    go_wp2_with fail
    go_quiet (fail)
    go_wp2_with fail
    refine (textOk_c _ _ l2).mono ?_
    intro e w1 hr
    obtain ⟨rfl, hb1⟩ := Ret.tt hp.out hr
    have hb1 := bt (drewN_below (b1 _ _) _) hb1
    go_wp2
    go_ret
    exact Ret.f (Plain.f1 (by rw [hv.out]; decide) (by have := hn.out; omega)) hb1
  have hn0 : ((v.names.length : Int) == 0) = true := by rw [beq_iff_eq]; omega
  replace hn := Lib.hid hn
  by_cases hk : (v.kids.length : Int) = 0
  case neg =>
    have hk0 : ((v.kids.length : Int) == 0) = false := by rw [beq_eq_false_iff_ne]; exact hk
    replace hk := Lib.hid hk
    go_enter Try.func65, Try.ntmps65
    go_wp2_with fail
    go_quiet (fail)
    go_wp2_with fail
    go_quiet (fail)
    go_wp2_with fail
    refine (textOk_c _ _ l2).mono ?_
    intro e w1 hr
    obtain ⟨rfl, hb1⟩ := Ret.tt hp.out hr
    have hb1 := bt (drewN_below (b1 _ _) _) hb1
    go_wp2
    go_ret
    exact Ret.f (fun h => hk.out ((plain4 hv.out hn.out hu.out).1 h).2) hb1
  have hk0 : ((v.kids.length : Int) == 0) = true := by rw [beq_iff_eq]; exact hk
  replace hk := Lib.hid hk
  go_enter Try.func65, Try.ntmps65
  go_wp2_with fail
  go_quiet (fail)
  go_wp2_with fail
  go_quiet (fail)
  go_wp2_with fail
  refine (textOk_c _ _ l2).mono ?_
  intro e w1 hr
  obtain ⟨rfl, hb1⟩ := Ret.tt hp.out hr
  have hb1 := bt (drewN_below (b1 _ _) _) hb1
  go_wp2
  go_ret
  exact Ret.t ((plain4 hv.out hn.out hu.out).2 ⟨hp.out, hk.out⟩) hb1
set_option maxRecDepth 100000 in
set_option maxHeartbeats 4000000 in
theorem shape_s5 (v : JValue) (A3 A4 : Option Addr) (c3 c4 : Nat) (w : World) (g3 : Rd w (slD strD 1 v.names) (.slice A3 v.names.length c3)) (l2 : v.text.size ≤ 9223372036854775807) (n3 : v.names.length ≤ 9223372036854775807) (n4 : v.kids.length ≤ 9223372036854775807)
    (hs5 : v.sort = 5) : Calls Try.prog 65 #[.agg #[.int .i64 v.sort, .int .i64 v.num, .string v.text, .slice A3 v.names.length c3, .slice A4 v.kids.length c4]] w (Ret w (.bool (tf (Plain v)))) := by
  have G3 := Lib.hid g3
  clear g3
  have hv := Lib.hid hs5
  have s1 : (v.sort == 1) = false := by rw [beq_eq_false_iff_ne, hs5]; decide
  have s2 : (v.sort == 2) = false := by rw [beq_eq_false_iff_ne, hs5]; decide
  have s3 : (v.sort == 3) = false := by rw [beq_eq_false_iff_ne, hs5]; decide
  have s4 : (v.sort == 4) = false := by rw [beq_eq_false_iff_ne, hs5]; decide
  have s5 : (v.sort == 5) = true := by rw [beq_iff_eq]; exact hs5
  have s6 : (v.sort == 6) = false := by rw [beq_eq_false_iff_ne, hs5]; decide
  clear hs5
  by_cases hu : v.num = 0
  case neg =>
    have hu0 : (v.num == 0) = false := by rw [beq_eq_false_iff_ne]; exact hu
    replace hu := Lib.hid hu
    go_enter Try.func65, Try.ntmps65
    go_wp2_with fail
    go_quiet (fail)
    go_wp2_with fail
    go_quiet (fail)
    go_wp2
    go_ret
    exact Ret.f (Plain.f3 (by rw [hv.out]; decide) (by rw [hv.out]; decide) hu.out) (drewN_below (b1 _ _) _)
  have hu0 : (v.num == 0) = true := by rw [beq_iff_eq]; exact hu
  replace hu := Lib.hid hu
  by_cases ht : v.text = ⟨#[]⟩
  case neg =>
    have ht0 := empty_f ht
    replace ht := Lib.hid ht
    go_enter Try.func65, Try.ntmps65
    go_wp2_with fail
    go_quiet (fail)
    go_wp2_with fail
    go_quiet (fail)
    go_wp2
    go_ret
    exact Ret.f (Plain.f2 (by rw [hv.out]; decide) ht.out) (drewN_below (b1 _ _) _)
  have ht0 := empty_t ht
  replace ht := Lib.hid ht
  by_cases hn : ¬ 0 < v.names.length
  case neg =>
    have hn0 : ((v.names.length : Int) == 0) = false := by rw [beq_eq_false_iff_ne]; omega
    replace hn := Lib.hid hn
    go_enter Try.func65, Try.ntmps65
    go_wp2_with fail
    go_quiet (fail)
    go_wp2_with fail
    go_quiet (fail)
    go_wp2
    go_ret
    exact Ret.f (Plain.f1 (by rw [hv.out]; decide) (by have := hn.out; omega)) (drewN_below (b1 _ _) _)
  have hn0 : ((v.names.length : Int) == 0) = true := by rw [beq_iff_eq]; omega
  replace hn := Lib.hid hn
  go_enter Try.func65, Try.ntmps65
  go_wp2_with fail
  go_quiet (fail)
  go_wp2_with fail
  go_quiet (fail)
  go_wp2
  go_ret
  exact Ret.t (plain5 hv.out hn.out ht.out hu.out) (drewN_below (b1 _ _) _)
set_option maxRecDepth 100000 in
set_option maxHeartbeats 4000000 in
theorem shape_s6 (v : JValue) (A3 A4 : Option Addr) (c3 c4 : Nat) (w : World) (g3 : Rd w (slD strD 1 v.names) (.slice A3 v.names.length c3)) (l2 : v.text.size ≤ 9223372036854775807) (n3 : v.names.length ≤ 9223372036854775807) (n4 : v.kids.length ≤ 9223372036854775807)
    (hs6 : v.sort = 6) : Calls Try.prog 65 #[.agg #[.int .i64 v.sort, .int .i64 v.num, .string v.text, .slice A3 v.names.length c3, .slice A4 v.kids.length c4]] w (Ret w (.bool (tf (Plain v)))) := by
  have G3 := Lib.hid g3
  clear g3
  have hv := Lib.hid hs6
  have s1 : (v.sort == 1) = false := by rw [beq_eq_false_iff_ne, hs6]; decide
  have s2 : (v.sort == 2) = false := by rw [beq_eq_false_iff_ne, hs6]; decide
  have s3 : (v.sort == 3) = false := by rw [beq_eq_false_iff_ne, hs6]; decide
  have s4 : (v.sort == 4) = false := by rw [beq_eq_false_iff_ne, hs6]; decide
  have s5 : (v.sort == 5) = false := by rw [beq_eq_false_iff_ne, hs6]; decide
  have s6 : (v.sort == 6) = true := by rw [beq_iff_eq]; exact hs6
  clear hs6
  by_cases hu : v.num = 0
  case neg =>
    have hu0 : (v.num == 0) = false := by rw [beq_eq_false_iff_ne]; exact hu
    replace hu := Lib.hid hu
    by_cases he : (v.names.length : Int) = v.kids.length
    case neg =>
      have he0 : ((v.names.length : Int) == v.kids.length) = false := by rw [beq_eq_false_iff_ne]; exact he
      replace he := Lib.hid he
      go_enter Try.func65, Try.ntmps65
      go_wp2_with fail
      go_quiet (fail)
      go_wp2_with fail
      go_quiet (fail)
      go_wp2
      go_ret
      exact Ret.f (Plain.f3 (by rw [hv.out]; decide) (by rw [hv.out]; decide) hu.out) (drewN_below (b1 _ _) _)
    have he0 : ((v.names.length : Int) == v.kids.length) = true := by rw [beq_iff_eq]; exact he
    replace he := Lib.hid he
    by_cases hw : ¬ Twice v.names
    case neg =>
      replace hw := Lib.hid hw
      replace hw : Hid (Twice v.names) := Classical.not_not.1 hw.out
      go_enter Try.func65, Try.ntmps65
      go_wp2_with fail
      go_quiet (fail)
      go_wp2_with fail
      go_quiet (fail)
      go_wp2_with fail
      refine (twice_c _ _ _ _ (G3.out.below (drewN_below (b1 _ _) _))).mono ?_
      intro e w1 hr
      obtain ⟨rfl, hb1⟩ := Ret.tt hw.out hr
      clear hr
      obtain ⟨hc1, hf1⟩ := bcell hb1
      have hz1 : w.heap.size < w1.heap.size := by have := hb1.size; simp at this; omega
      have hB1 := bt (drewN_below (b1 _ _) _) hb1
      go_wp2
      go_ret
      exact Ret.f (Plain.f3 (by rw [hv.out]; decide) (by rw [hv.out]; decide) hu.out) hB1
    replace hw := Lib.hid hw
    by_cases hc : ¬ ∃ x, x ∈ v.names ∧ ¬ OkName x
    case neg =>
      replace hc := Lib.hid hc
      replace hc : Hid (∃ x, x ∈ v.names ∧ ¬ OkName x) := Classical.not_not.1 hc.out
      go_enter Try.func65, Try.ntmps65
      go_wp2_with fail
      go_quiet (fail)
      go_wp2_with fail
      go_quiet (fail)
      go_wp2_with fail
      refine (twice_c _ _ _ _ (G3.out.below (drewN_below (b1 _ _) _))).mono ?_
      intro e w1 hr
      obtain ⟨rfl, hb1⟩ := Ret.ff hw.out hr
      clear hr
      obtain ⟨hc1, hf1⟩ := bcell hb1
      have hz1 : w.heap.size < w1.heap.size := by have := hb1.size; simp at this; omega
      have hB1 := bt (drewN_below (b1 _ _) _) hb1
      go_wp2_with fail
      refine (containsFuncStr_c v.names _ _ (fun s => ¬ OkName s) _ #[] _ (G3.out.below hB1) ⟨live_shape1, fun s W hs _ => shape1_c s W hs⟩).mono ?_
      intro e w2 hr
      obtain ⟨rfl, hb2⟩ := Ret.tt hc.out hr
      clear hr
      have hB1 := bt hB1 hb2
      go_wp2
      go_ret
      exact Ret.f (Plain.f3 (by rw [hv.out]; decide) (by rw [hv.out]; decide) hu.out) hB1
    replace hc := Lib.hid hc
    go_enter Try.func65, Try.ntmps65
    go_wp2_with fail
    go_quiet (fail)
    go_wp2_with fail
    go_quiet (fail)
    go_wp2_with fail
    refine (twice_c _ _ _ _ (G3.out.below (drewN_below (b1 _ _) _))).mono ?_
    intro e w1 hr
    obtain ⟨rfl, hb1⟩ := Ret.ff hw.out hr
    clear hr
    obtain ⟨hc1, hf1⟩ := bcell hb1
    have hz1 : w.heap.size < w1.heap.size := by have := hb1.size; simp at this; omega
    have hB1 := bt (drewN_below (b1 _ _) _) hb1
    go_wp2_with fail
    refine (containsFuncStr_c v.names _ _ (fun s => ¬ OkName s) _ #[] _ (G3.out.below hB1) ⟨live_shape1, fun s W hs _ => shape1_c s W hs⟩).mono ?_
    intro e w2 hr
    obtain ⟨rfl, hb2⟩ := Ret.ff hc.out hr
    clear hr
    have hB1 := bt hB1 hb2
    go_wp2
    go_ret
    exact Ret.f (Plain.f3 (by rw [hv.out]; decide) (by rw [hv.out]; decide) hu.out) hB1
  have hu0 : (v.num == 0) = true := by rw [beq_iff_eq]; exact hu
  replace hu := Lib.hid hu
  by_cases ht : v.text = ⟨#[]⟩
  case neg =>
    have ht0 := empty_f ht
    replace ht := Lib.hid ht
    by_cases he : (v.names.length : Int) = v.kids.length
    case neg =>
      have he0 : ((v.names.length : Int) == v.kids.length) = false := by rw [beq_eq_false_iff_ne]; exact he
      replace he := Lib.hid he
      go_enter Try.func65, Try.ntmps65
      go_wp2_with fail
      go_quiet (fail)
      go_wp2_with fail
      go_quiet (fail)
      go_wp2
      go_ret
      exact Ret.f (Plain.f2 (by rw [hv.out]; decide) ht.out) (drewN_below (b1 _ _) _)
    have he0 : ((v.names.length : Int) == v.kids.length) = true := by rw [beq_iff_eq]; exact he
    replace he := Lib.hid he
    by_cases hw : ¬ Twice v.names
    case neg =>
      replace hw := Lib.hid hw
      replace hw : Hid (Twice v.names) := Classical.not_not.1 hw.out
      go_enter Try.func65, Try.ntmps65
      go_wp2_with fail
      go_quiet (fail)
      go_wp2_with fail
      go_quiet (fail)
      go_wp2_with fail
      refine (twice_c _ _ _ _ (G3.out.below (drewN_below (b1 _ _) _))).mono ?_
      intro e w1 hr
      obtain ⟨rfl, hb1⟩ := Ret.tt hw.out hr
      clear hr
      obtain ⟨hc1, hf1⟩ := bcell hb1
      have hz1 : w.heap.size < w1.heap.size := by have := hb1.size; simp at this; omega
      have hB1 := bt (drewN_below (b1 _ _) _) hb1
      go_wp2
      go_ret
      exact Ret.f (Plain.f2 (by rw [hv.out]; decide) ht.out) hB1
    replace hw := Lib.hid hw
    by_cases hc : ¬ ∃ x, x ∈ v.names ∧ ¬ OkName x
    case neg =>
      replace hc := Lib.hid hc
      replace hc : Hid (∃ x, x ∈ v.names ∧ ¬ OkName x) := Classical.not_not.1 hc.out
      go_enter Try.func65, Try.ntmps65
      go_wp2_with fail
      go_quiet (fail)
      go_wp2_with fail
      go_quiet (fail)
      go_wp2_with fail
      refine (twice_c _ _ _ _ (G3.out.below (drewN_below (b1 _ _) _))).mono ?_
      intro e w1 hr
      obtain ⟨rfl, hb1⟩ := Ret.ff hw.out hr
      clear hr
      obtain ⟨hc1, hf1⟩ := bcell hb1
      have hz1 : w.heap.size < w1.heap.size := by have := hb1.size; simp at this; omega
      have hB1 := bt (drewN_below (b1 _ _) _) hb1
      go_wp2_with fail
      refine (containsFuncStr_c v.names _ _ (fun s => ¬ OkName s) _ #[] _ (G3.out.below hB1) ⟨live_shape1, fun s W hs _ => shape1_c s W hs⟩).mono ?_
      intro e w2 hr
      obtain ⟨rfl, hb2⟩ := Ret.tt hc.out hr
      clear hr
      have hB1 := bt hB1 hb2
      go_wp2
      go_ret
      exact Ret.f (Plain.f2 (by rw [hv.out]; decide) ht.out) hB1
    replace hc := Lib.hid hc
    go_enter Try.func65, Try.ntmps65
    go_wp2_with fail
    go_quiet (fail)
    go_wp2_with fail
    go_quiet (fail)
    go_wp2_with fail
    refine (twice_c _ _ _ _ (G3.out.below (drewN_below (b1 _ _) _))).mono ?_
    intro e w1 hr
    obtain ⟨rfl, hb1⟩ := Ret.ff hw.out hr
    clear hr
    obtain ⟨hc1, hf1⟩ := bcell hb1
    have hz1 : w.heap.size < w1.heap.size := by have := hb1.size; simp at this; omega
    have hB1 := bt (drewN_below (b1 _ _) _) hb1
    go_wp2_with fail
    refine (containsFuncStr_c v.names _ _ (fun s => ¬ OkName s) _ #[] _ (G3.out.below hB1) ⟨live_shape1, fun s W hs _ => shape1_c s W hs⟩).mono ?_
    intro e w2 hr
    obtain ⟨rfl, hb2⟩ := Ret.ff hc.out hr
    clear hr
    have hB1 := bt hB1 hb2
    go_wp2
    go_ret
    exact Ret.f (Plain.f2 (by rw [hv.out]; decide) ht.out) hB1
  have ht0 := empty_t ht
  replace ht := Lib.hid ht
  by_cases he : (v.names.length : Int) = v.kids.length
  case neg =>
    have he0 : ((v.names.length : Int) == v.kids.length) = false := by rw [beq_eq_false_iff_ne]; exact he
    replace he := Lib.hid he
    go_enter Try.func65, Try.ntmps65
    go_wp2_with fail
    go_quiet (fail)
    go_wp2_with fail
    go_quiet (fail)
    go_wp2
    go_ret
    exact Ret.f (fun h => he.out (by have := ((plain6 hv.out ht.out hu.out).1 h).2; omega)) (drewN_below (b1 _ _) _)
  have he0 : ((v.names.length : Int) == v.kids.length) = true := by rw [beq_iff_eq]; exact he
  replace he := Lib.hid he
  by_cases hw : ¬ Twice v.names
  case neg =>
    replace hw := Lib.hid hw
    replace hw : Hid (Twice v.names) := Classical.not_not.1 hw.out
    go_enter Try.func65, Try.ntmps65
    go_wp2_with fail
    go_quiet (fail)
    go_wp2_with fail
    go_quiet (fail)
    go_wp2_with fail
    refine (twice_c _ _ _ _ (G3.out.below (drewN_below (b1 _ _) _))).mono ?_
    intro e w1 hr
    obtain ⟨rfl, hb1⟩ := Ret.tt hw.out hr
    clear hr
    obtain ⟨hc1, hf1⟩ := bcell hb1
    have hz1 : w.heap.size < w1.heap.size := by have := hb1.size; simp at this; omega
    have hB1 := bt (drewN_below (b1 _ _) _) hb1
    go_wp2
    go_ret
    exact Ret.f (fun h => ((namesOk_iff _).1 ((plain6 hv.out ht.out hu.out).1 h).1).1 hw.out) hB1
  replace hw := Lib.hid hw
  by_cases hc : ¬ ∃ x, x ∈ v.names ∧ ¬ OkName x
  case neg =>
    replace hc := Lib.hid hc
    replace hc : Hid (∃ x, x ∈ v.names ∧ ¬ OkName x) := Classical.not_not.1 hc.out
    go_enter Try.func65, Try.ntmps65
    go_wp2_with fail
    go_quiet (fail)
    go_wp2_with fail
    go_quiet (fail)
    go_wp2_with fail
    refine (twice_c _ _ _ _ (G3.out.below (drewN_below (b1 _ _) _))).mono ?_
    intro e w1 hr
    obtain ⟨rfl, hb1⟩ := Ret.ff hw.out hr
    clear hr
    obtain ⟨hc1, hf1⟩ := bcell hb1
    have hz1 : w.heap.size < w1.heap.size := by have := hb1.size; simp at this; omega
    have hB1 := bt (drewN_below (b1 _ _) _) hb1
    go_wp2_with fail
    refine (containsFuncStr_c v.names _ _ (fun s => ¬ OkName s) _ #[] _ (G3.out.below hB1) ⟨live_shape1, fun s W hs _ => shape1_c s W hs⟩).mono ?_
    intro e w2 hr
    obtain ⟨rfl, hb2⟩ := Ret.tt hc.out hr
    clear hr
    have hB1 := bt hB1 hb2
    go_wp2
    go_ret
    exact Ret.f (fun h => ((namesOk_iff _).1 ((plain6 hv.out ht.out hu.out).1 h).1).2 hc.out) hB1
  replace hc := Lib.hid hc
  go_enter Try.func65, Try.ntmps65
  go_wp2_with fail
  go_quiet (fail)
  go_wp2_with fail
  go_quiet (fail)
  go_wp2_with fail
  refine (twice_c _ _ _ _ (G3.out.below (drewN_below (b1 _ _) _))).mono ?_
  intro e w1 hr
  obtain ⟨rfl, hb1⟩ := Ret.ff hw.out hr
  clear hr
  obtain ⟨hc1, hf1⟩ := bcell hb1
  have hz1 : w.heap.size < w1.heap.size := by have := hb1.size; simp at this; omega
  have hB1 := bt (drewN_below (b1 _ _) _) hb1
  go_wp2_with fail
  refine (containsFuncStr_c v.names _ _ (fun s => ¬ OkName s) _ #[] _ (G3.out.below hB1) ⟨live_shape1, fun s W hs _ => shape1_c s W hs⟩).mono ?_
  intro e w2 hr
  obtain ⟨rfl, hb2⟩ := Ret.ff hc.out hr
  clear hr
  have hB1 := bt hB1 hb2
  go_wp2
  go_ret
  exact Ret.t ((plain6 hv.out ht.out hu.out).2 ⟨(namesOk_iff _).2 ⟨hw.out, hc.out⟩, by have := he.out; omega⟩) hB1
set_option maxRecDepth 100000 in
set_option maxHeartbeats 4000000 in
theorem shape_other (v : JValue) (A3 A4 : Option Addr) (c3 c4 : Nat) (w : World) (g3 : Rd w (slD strD 1 v.names) (.slice A3 v.names.length c3)) (l2 : v.text.size ≤ 9223372036854775807) (n3 : v.names.length ≤ 9223372036854775807) (n4 : v.kids.length ≤ 9223372036854775807)
    (hs1 : ¬ v.sort = 1) (hs2 : ¬ v.sort = 2) (hs3 : ¬ v.sort = 3) (hs4 : ¬ v.sort = 4) (hs5 : ¬ v.sort = 5) (hs6 : ¬ v.sort = 6) : Calls Try.prog 65 #[.agg #[.int .i64 v.sort, .int .i64 v.num, .string v.text, .slice A3 v.names.length c3, .slice A4 v.kids.length c4]] w (Ret w (.bool (tf (Plain v)))) := by
  have G3 := Lib.hid g3
  clear g3
  have NO : Hid (¬ Plain v) := Plain.f4 hs1 hs2 hs3 hs4 hs5 hs6
  have s1 : (v.sort == 1) = false := by rw [beq_eq_false_iff_ne]; exact hs1
  have s2 : (v.sort == 2) = false := by rw [beq_eq_false_iff_ne]; exact hs2
  have s3 : (v.sort == 3) = false := by rw [beq_eq_false_iff_ne]; exact hs3
  have s4 : (v.sort == 4) = false := by rw [beq_eq_false_iff_ne]; exact hs4
  have s5 : (v.sort == 5) = false := by rw [beq_eq_false_iff_ne]; exact hs5
  have s6 : (v.sort == 6) = false := by rw [beq_eq_false_iff_ne]; exact hs6
  clear hs1 hs2 hs3 hs4 hs5 hs6
  go_enter Try.func65, Try.ntmps65
  go_wp2_with fail
  go_quiet (fail)
  go_wp2_with fail
  go_quiet (fail)
  go_wp2
  go_ret
  exact Ret.f NO.out (drewN_below (b1 _ _) _)
theorem shape_c (v : JValue) (cs : List Value) (w : World) (hcs : RdL w v.enc cs) : Calls Try.prog 65 #[.agg cs.toArray] w (Ret w (.bool (tf (Plain v)))) := by
  obtain ⟨A3, c3, A4, c4, rfl, g3, g4, l2, n3, n4⟩ := JValue.open_ hcs
  by_cases h1 : v.sort = 1
  · exact shape_s1 v A3 A4 c3 c4 w g3 l2 n3 n4 h1
  by_cases h2 : v.sort = 2
  · exact shape_s2 v A3 A4 c3 c4 w g3 l2 n3 n4 h2
  by_cases h3 : v.sort = 3
  · exact shape_s3 v A3 A4 c3 c4 w g3 l2 n3 n4 h3
  by_cases h4 : v.sort = 4
  · exact shape_s4 v A3 A4 c3 c4 w g3 l2 n3 n4 h4
  by_cases h5 : v.sort = 5
  · exact shape_s5 v A3 A4 c3 c4 w g3 l2 n3 n4 h5
  by_cases h6 : v.sort = 6
  · exact shape_s6 v A3 A4 c3 c4 w g3 l2 n3 n4 h6
  exact shape_other v A3 A4 c3 c4 w g3 l2 n3 n4 h1 h2 h3 h4 h5 h6
end Go.Proofs.Ytegabeefggcelaa.Lib
