/- The reference's l1Plain and what it comes to. Printed by gplain.py. No condition. -/
import Derived.Test.YtegabeefggcelaaJson1
set_option linter.unusedVariables false
set_option linter.unusedSimpArgs false
namespace Go.Proofs.Ytegabeefggcelaa.Lib
open Go.RowKit

set_option maxRecDepth 100000 in
set_option maxHeartbeats 4000000 in
theorem l1Plain_s1 (v : JValue) (A3 A4 : Option Addr) (c3 c4 : Nat) (w : World) (g3 : Rd w (slD strD 1 v.names) (.slice A3 v.names.length c3)) (l2 : v.text.size ≤ 9223372036854775807) (n3 : v.names.length ≤ 9223372036854775807) (n4 : v.kids.length ≤ 9223372036854775807)
    (hs1 : v.sort = 1) : Calls Try.prog 64 #[.agg #[.int .i64 v.sort, .int .i64 v.num, .string v.text, .slice A3 v.names.length c3, .slice A4 v.kids.length c4]] w (Ret w (.bool (tf (Plain v)))) := by
  obtain ⟨_, _, e_, hm0, hm1, _⟩ := Rd.slice g3
  injection e_ with ea _ ec
  subst ea ec
  have hm0 := Lib.hid hm0
  unfold maxLen at hm1
  have G3 := Lib.hid g3
  have hm1 := Lib.hid hm1
  clear g3
  have hv := Lib.hid hs1
  have s1 : (v.sort == 1) = true := by rw [beq_iff_eq]; exact hs1
  have s2 : (v.sort == 2) = false := by rw [beq_eq_false_iff_ne, hs1]; decide
  have r2 : (v.sort != 2) = true := by rw [bne, s2]; rfl
  have s3 : (v.sort == 3) = false := by rw [beq_eq_false_iff_ne, hs1]; decide
  have r3 : (v.sort != 3) = true := by rw [bne, s3]; rfl
  have s4 : (v.sort == 4) = false := by rw [beq_eq_false_iff_ne, hs1]; decide
  have r4 : (v.sort != 4) = true := by rw [bne, s4]; rfl
  have s5 : (v.sort == 5) = false := by rw [beq_eq_false_iff_ne, hs1]; decide
  have s6 : (v.sort == 6) = false := by rw [beq_eq_false_iff_ne, hs1]; decide
  have r6 : (v.sort != 6) = true := by rw [bne, s6]; rfl
  clear hs1
  by_cases hn : 0 < v.names.length
  · have hnI : (0 : Int) < v.names.length := by omega
    go_enter Try.func64, Try.ntmps64
    go_wp2
    go_ret
    exact Ret.f (Plain.f1 (by rw [hv.out]; decide) hn) (b1 _ _)
  have hnI : ¬ (0 : Int) < v.names.length := by omega
  have hn := Lib.hid hn
  by_cases ht : v.text = ⟨#[]⟩
  case neg =>
    have ht0 := empty_f ht
    have ht := Lib.hid ht
    go_enter Try.func64, Try.ntmps64
    go_wp2
    go_ret
    exact Ret.f (Plain.f2 (by rw [hv.out]; decide) ht.out) (b1 _ _)
  have ht0 := empty_t ht
  have ht := Lib.hid ht
  by_cases hu : v.num = 0
  case neg =>
    have hu0 : (v.num != 0) = true := by rw [bne_iff_ne]; exact hu
    have hu := Lib.hid hu
    go_enter Try.func64, Try.ntmps64
    go_wp2
    go_ret
    exact Ret.f (Plain.f3 (by rw [hv.out]; decide) (by rw [hv.out]; decide) hu.out) (b1 _ _)
  have hu0 : (v.num != 0) = false := by rw [hu]; rfl
  have hu := Lib.hid hu
  by_cases hk : (v.kids.length : Int) = 0
  · have hk0 : ((v.kids.length : Int) == 0) = true := by rw [beq_iff_eq]; exact hk
    have hk := Lib.hid hk
    go_enter Try.func64, Try.ntmps64
    go_wp2
    go_ret
    exact Ret.t ((plain1 hv.out hn.out ht.out hu.out).2 hk.out) (b1 _ _)
  · have hk0 : ((v.kids.length : Int) == 0) = false := by rw [beq_eq_false_iff_ne]; exact hk
    have hk := Lib.hid hk
    go_enter Try.func64, Try.ntmps64
    go_wp2
    go_ret
    exact Ret.f (fun h => hk.out ((plain1 hv.out hn.out ht.out hu.out).1 h)) (b1 _ _)
set_option maxRecDepth 100000 in
set_option maxHeartbeats 4000000 in
theorem l1Plain_s2 (v : JValue) (A3 A4 : Option Addr) (c3 c4 : Nat) (w : World) (g3 : Rd w (slD strD 1 v.names) (.slice A3 v.names.length c3)) (l2 : v.text.size ≤ 9223372036854775807) (n3 : v.names.length ≤ 9223372036854775807) (n4 : v.kids.length ≤ 9223372036854775807)
    (hs2 : v.sort = 2) : Calls Try.prog 64 #[.agg #[.int .i64 v.sort, .int .i64 v.num, .string v.text, .slice A3 v.names.length c3, .slice A4 v.kids.length c4]] w (Ret w (.bool (tf (Plain v)))) := by
  obtain ⟨_, _, e_, hm0, hm1, _⟩ := Rd.slice g3
  injection e_ with ea _ ec
  subst ea ec
  have hm0 := Lib.hid hm0
  unfold maxLen at hm1
  have G3 := Lib.hid g3
  have hm1 := Lib.hid hm1
  clear g3
  have hv := Lib.hid hs2
  have s1 : (v.sort == 1) = false := by rw [beq_eq_false_iff_ne, hs2]; decide
  have s2 : (v.sort == 2) = true := by rw [beq_iff_eq]; exact hs2
  have r2 : (v.sort != 2) = false := by rw [bne, s2]; rfl
  have s3 : (v.sort == 3) = false := by rw [beq_eq_false_iff_ne, hs2]; decide
  have r3 : (v.sort != 3) = true := by rw [bne, s3]; rfl
  have s4 : (v.sort == 4) = false := by rw [beq_eq_false_iff_ne, hs2]; decide
  have r4 : (v.sort != 4) = true := by rw [bne, s4]; rfl
  have s5 : (v.sort == 5) = false := by rw [beq_eq_false_iff_ne, hs2]; decide
  have s6 : (v.sort == 6) = false := by rw [beq_eq_false_iff_ne, hs2]; decide
  have r6 : (v.sort != 6) = true := by rw [bne, s6]; rfl
  clear hs2
  by_cases hn : 0 < v.names.length
  · have hnI : (0 : Int) < v.names.length := by omega
    go_enter Try.func64, Try.ntmps64
    go_wp2
    go_ret
    exact Ret.f (Plain.f1 (by rw [hv.out]; decide) hn) (b1 _ _)
  have hnI : ¬ (0 : Int) < v.names.length := by omega
  have hn := Lib.hid hn
  by_cases ht : v.text = ⟨#[]⟩
  case neg =>
    have ht0 := empty_f ht
    have ht := Lib.hid ht
    go_enter Try.func64, Try.ntmps64
    go_wp2
    go_ret
    exact Ret.f (Plain.f2 (by rw [hv.out]; decide) ht.out) (b1 _ _)
  have ht0 := empty_t ht
  have ht := Lib.hid ht
  by_cases hp : InI v.num 0 1
  case neg =>
    have hp := Lib.hid hp
    go_enter Try.func64, Try.ntmps64
    go_wp2_with fail
    refine (l1In_c _ _ _ _).mono ?_
    intro e w1 hr
    obtain ⟨rfl, rfl⟩ := RetQ.ff hp.out hr
    clear hr
    go_wp2
    go_ret
    exact Ret.f (fun h => hp.out ((plain2 hv.out hn.out ht.out).1 h).1) (b1 _ _)
  have hp := Lib.hid hp
  by_cases hk : (v.kids.length : Int) = 0
  · have hk0 : ((v.kids.length : Int) == 0) = true := by rw [beq_iff_eq]; exact hk
    have hk := Lib.hid hk
    go_enter Try.func64, Try.ntmps64
    go_wp2_with fail
    refine (l1In_c _ _ _ _).mono ?_
    intro e w1 hr
    obtain ⟨rfl, rfl⟩ := RetQ.tt hp.out hr
    clear hr
    go_wp2
    go_ret
    exact Ret.t ((plain2 hv.out hn.out ht.out).2 ⟨hp.out, hk.out⟩) (b1 _ _)
  · have hk0 : ((v.kids.length : Int) == 0) = false := by rw [beq_eq_false_iff_ne]; exact hk
    have hk := Lib.hid hk
    go_enter Try.func64, Try.ntmps64
    go_wp2_with fail
    refine (l1In_c _ _ _ _).mono ?_
    intro e w1 hr
    obtain ⟨rfl, rfl⟩ := RetQ.tt hp.out hr
    clear hr
    go_wp2
    go_ret
    exact Ret.f (fun h => hk.out ((plain2 hv.out hn.out ht.out).1 h).2) (b1 _ _)
set_option maxRecDepth 100000 in
set_option maxHeartbeats 4000000 in
theorem l1Plain_s3 (v : JValue) (A3 A4 : Option Addr) (c3 c4 : Nat) (w : World) (g3 : Rd w (slD strD 1 v.names) (.slice A3 v.names.length c3)) (l2 : v.text.size ≤ 9223372036854775807) (n3 : v.names.length ≤ 9223372036854775807) (n4 : v.kids.length ≤ 9223372036854775807)
    (hs3 : v.sort = 3) : Calls Try.prog 64 #[.agg #[.int .i64 v.sort, .int .i64 v.num, .string v.text, .slice A3 v.names.length c3, .slice A4 v.kids.length c4]] w (Ret w (.bool (tf (Plain v)))) := by
  obtain ⟨_, _, e_, hm0, hm1, _⟩ := Rd.slice g3
  injection e_ with ea _ ec
  subst ea ec
  have hm0 := Lib.hid hm0
  unfold maxLen at hm1
  have G3 := Lib.hid g3
  have hm1 := Lib.hid hm1
  clear g3
  have hv := Lib.hid hs3
  have s1 : (v.sort == 1) = false := by rw [beq_eq_false_iff_ne, hs3]; decide
  have s2 : (v.sort == 2) = false := by rw [beq_eq_false_iff_ne, hs3]; decide
  have r2 : (v.sort != 2) = true := by rw [bne, s2]; rfl
  have s3 : (v.sort == 3) = true := by rw [beq_iff_eq]; exact hs3
  have r3 : (v.sort != 3) = false := by rw [bne, s3]; rfl
  have s4 : (v.sort == 4) = false := by rw [beq_eq_false_iff_ne, hs3]; decide
  have r4 : (v.sort != 4) = true := by rw [bne, s4]; rfl
  have s5 : (v.sort == 5) = false := by rw [beq_eq_false_iff_ne, hs3]; decide
  have s6 : (v.sort == 6) = false := by rw [beq_eq_false_iff_ne, hs3]; decide
  have r6 : (v.sort != 6) = true := by rw [bne, s6]; rfl
  clear hs3
  by_cases hn : 0 < v.names.length
  · have hnI : (0 : Int) < v.names.length := by omega
    go_enter Try.func64, Try.ntmps64
    go_wp2
    go_ret
    exact Ret.f (Plain.f1 (by rw [hv.out]; decide) hn) (b1 _ _)
  have hnI : ¬ (0 : Int) < v.names.length := by omega
  have hn := Lib.hid hn
  by_cases ht : v.text = ⟨#[]⟩
  case neg =>
    have ht0 := empty_f ht
    have ht := Lib.hid ht
    go_enter Try.func64, Try.ntmps64
    go_wp2
    go_ret
    exact Ret.f (Plain.f2 (by rw [hv.out]; decide) ht.out) (b1 _ _)
  have ht0 := empty_t ht
  have ht := Lib.hid ht
  by_cases hp : InI v.num (-999999) 999999
  case neg =>
    have hp := Lib.hid hp
    go_enter Try.func64, Try.ntmps64
    go_wp2_with fail
    refine (l1In_c _ _ _ _).mono ?_
    intro e w1 hr
    obtain ⟨rfl, rfl⟩ := RetQ.ff hp.out hr
    clear hr
    go_wp2
    go_ret
    exact Ret.f (fun h => hp.out ((plain3 hv.out hn.out ht.out).1 h).1) (b1 _ _)
  have hp := Lib.hid hp
  by_cases hk : (v.kids.length : Int) = 0
  · have hk0 : ((v.kids.length : Int) == 0) = true := by rw [beq_iff_eq]; exact hk
    have hk := Lib.hid hk
    go_enter Try.func64, Try.ntmps64
    go_wp2_with fail
    refine (l1In_c _ _ _ _).mono ?_
    intro e w1 hr
    obtain ⟨rfl, rfl⟩ := RetQ.tt hp.out hr
    clear hr
    go_wp2
    go_ret
    exact Ret.t ((plain3 hv.out hn.out ht.out).2 ⟨hp.out, hk.out⟩) (b1 _ _)
  · have hk0 : ((v.kids.length : Int) == 0) = false := by rw [beq_eq_false_iff_ne]; exact hk
    have hk := Lib.hid hk
    go_enter Try.func64, Try.ntmps64
    go_wp2_with fail
    refine (l1In_c _ _ _ _).mono ?_
    intro e w1 hr
    obtain ⟨rfl, rfl⟩ := RetQ.tt hp.out hr
    clear hr
    go_wp2
    go_ret
    exact Ret.f (fun h => hk.out ((plain3 hv.out hn.out ht.out).1 h).2) (b1 _ _)
set_option maxRecDepth 100000 in
set_option maxHeartbeats 4000000 in
theorem l1Plain_s4 (v : JValue) (A3 A4 : Option Addr) (c3 c4 : Nat) (w : World) (g3 : Rd w (slD strD 1 v.names) (.slice A3 v.names.length c3)) (l2 : v.text.size ≤ 9223372036854775807) (n3 : v.names.length ≤ 9223372036854775807) (n4 : v.kids.length ≤ 9223372036854775807)
    (hs4 : v.sort = 4) : Calls Try.prog 64 #[.agg #[.int .i64 v.sort, .int .i64 v.num, .string v.text, .slice A3 v.names.length c3, .slice A4 v.kids.length c4]] w (Ret w (.bool (tf (Plain v)))) := by
  obtain ⟨_, _, e_, hm0, hm1, _⟩ := Rd.slice g3
  injection e_ with ea _ ec
  subst ea ec
  have hm0 := Lib.hid hm0
  unfold maxLen at hm1
  have G3 := Lib.hid g3
  have hm1 := Lib.hid hm1
  clear g3
  have hv := Lib.hid hs4
  have s1 : (v.sort == 1) = false := by rw [beq_eq_false_iff_ne, hs4]; decide
  have s2 : (v.sort == 2) = false := by rw [beq_eq_false_iff_ne, hs4]; decide
  have r2 : (v.sort != 2) = true := by rw [bne, s2]; rfl
  have s3 : (v.sort == 3) = false := by rw [beq_eq_false_iff_ne, hs4]; decide
  have r3 : (v.sort != 3) = true := by rw [bne, s3]; rfl
  have s4 : (v.sort == 4) = true := by rw [beq_iff_eq]; exact hs4
  have r4 : (v.sort != 4) = false := by rw [bne, s4]; rfl
  have s5 : (v.sort == 5) = false := by rw [beq_eq_false_iff_ne, hs4]; decide
  have s6 : (v.sort == 6) = false := by rw [beq_eq_false_iff_ne, hs4]; decide
  have r6 : (v.sort != 6) = true := by rw [bne, s6]; rfl
  clear hs4
  by_cases hn : 0 < v.names.length
  · have hnI : (0 : Int) < v.names.length := by omega
    go_enter Try.func64, Try.ntmps64
    go_wp2
    go_ret
    exact Ret.f (Plain.f1 (by rw [hv.out]; decide) hn) (b1 _ _)
  have hnI : ¬ (0 : Int) < v.names.length := by omega
  have hn := Lib.hid hn
  by_cases hu : v.num = 0
  case neg =>
    have hu0 : (v.num != 0) = true := by rw [bne_iff_ne]; exact hu
    have hu := Lib.hid hu
    go_enter Try.func64, Try.ntmps64
    go_wp2
    go_ret
    exact Ret.f (Plain.f3 (by rw [hv.out]; decide) (by rw [hv.out]; decide) hu.out) (b1 _ _)
  have hu0 : (v.num != 0) = false := by rw [hu]; rfl
  have hu := Lib.hid hu
  by_cases hp : OkText v.text
  case neg =>
    have hp := Lib.hid hp
    go_enter Try.func64, Try.ntmps64
    go_wp2_with fail
    refine (l1Text_c _ _ l2).mono ?_
    intro e w1 hr
    obtain ⟨rfl, rfl⟩ := RetQ.ff hp.out hr
    clear hr
    go_wp2
    go_ret
    exact Ret.f (fun h => hp.out ((plain4 hv.out hn.out hu.out).1 h).1) (b1 _ _)
  have hp := Lib.hid hp
  by_cases hk : (v.kids.length : Int) = 0
  · have hk0 : ((v.kids.length : Int) == 0) = true := by rw [beq_iff_eq]; exact hk
    have hk := Lib.hid hk
    go_enter Try.func64, Try.ntmps64
    go_wp2_with fail
    refine (l1Text_c _ _ l2).mono ?_
    intro e w1 hr
    obtain ⟨rfl, rfl⟩ := RetQ.tt hp.out hr
    clear hr
    go_wp2
    go_ret
    exact Ret.t ((plain4 hv.out hn.out hu.out).2 ⟨hp.out, hk.out⟩) (b1 _ _)
  · have hk0 : ((v.kids.length : Int) == 0) = false := by rw [beq_eq_false_iff_ne]; exact hk
    have hk := Lib.hid hk
    go_enter Try.func64, Try.ntmps64
    go_wp2_with fail
    refine (l1Text_c _ _ l2).mono ?_
    intro e w1 hr
    obtain ⟨rfl, rfl⟩ := RetQ.tt hp.out hr
    clear hr
    go_wp2
    go_ret
    exact Ret.f (fun h => hk.out ((plain4 hv.out hn.out hu.out).1 h).2) (b1 _ _)
set_option maxRecDepth 100000 in
set_option maxHeartbeats 4000000 in
theorem l1Plain_s5 (v : JValue) (A3 A4 : Option Addr) (c3 c4 : Nat) (w : World) (g3 : Rd w (slD strD 1 v.names) (.slice A3 v.names.length c3)) (l2 : v.text.size ≤ 9223372036854775807) (n3 : v.names.length ≤ 9223372036854775807) (n4 : v.kids.length ≤ 9223372036854775807)
    (hs5 : v.sort = 5) : Calls Try.prog 64 #[.agg #[.int .i64 v.sort, .int .i64 v.num, .string v.text, .slice A3 v.names.length c3, .slice A4 v.kids.length c4]] w (Ret w (.bool (tf (Plain v)))) := by
  obtain ⟨_, _, e_, hm0, hm1, _⟩ := Rd.slice g3
  injection e_ with ea _ ec
  subst ea ec
  have hm0 := Lib.hid hm0
  unfold maxLen at hm1
  have G3 := Lib.hid g3
  have hm1 := Lib.hid hm1
  clear g3
  have hv := Lib.hid hs5
  have s1 : (v.sort == 1) = false := by rw [beq_eq_false_iff_ne, hs5]; decide
  have s2 : (v.sort == 2) = false := by rw [beq_eq_false_iff_ne, hs5]; decide
  have r2 : (v.sort != 2) = true := by rw [bne, s2]; rfl
  have s3 : (v.sort == 3) = false := by rw [beq_eq_false_iff_ne, hs5]; decide
  have r3 : (v.sort != 3) = true := by rw [bne, s3]; rfl
  have s4 : (v.sort == 4) = false := by rw [beq_eq_false_iff_ne, hs5]; decide
  have r4 : (v.sort != 4) = true := by rw [bne, s4]; rfl
  have s5 : (v.sort == 5) = true := by rw [beq_iff_eq]; exact hs5
  have s6 : (v.sort == 6) = false := by rw [beq_eq_false_iff_ne, hs5]; decide
  have r6 : (v.sort != 6) = true := by rw [bne, s6]; rfl
  clear hs5
  by_cases hn : 0 < v.names.length
  · have hnI : (0 : Int) < v.names.length := by omega
    go_enter Try.func64, Try.ntmps64
    go_wp2
    go_ret
    exact Ret.f (Plain.f1 (by rw [hv.out]; decide) hn) (b1 _ _)
  have hnI : ¬ (0 : Int) < v.names.length := by omega
  have hn := Lib.hid hn
  by_cases ht : v.text = ⟨#[]⟩
  case neg =>
    have ht0 := empty_f ht
    have ht := Lib.hid ht
    go_enter Try.func64, Try.ntmps64
    go_wp2
    go_ret
    exact Ret.f (Plain.f2 (by rw [hv.out]; decide) ht.out) (b1 _ _)
  have ht0 := empty_t ht
  have ht := Lib.hid ht
  by_cases hu : v.num = 0
  case neg =>
    have hu0 : (v.num != 0) = true := by rw [bne_iff_ne]; exact hu
    have hu := Lib.hid hu
    go_enter Try.func64, Try.ntmps64
    go_wp2
    go_ret
    exact Ret.f (Plain.f3 (by rw [hv.out]; decide) (by rw [hv.out]; decide) hu.out) (b1 _ _)
  have hu0 : (v.num != 0) = false := by rw [hu]; rfl
  have hu := Lib.hid hu
  go_enter Try.func64, Try.ntmps64
  go_wp2
  go_ret
  exact Ret.t (plain5 hv.out hn.out ht.out hu.out) (b1 _ _)
set_option maxRecDepth 100000 in
set_option maxHeartbeats 4000000 in
theorem l1Plain_s6 (v : JValue) (A3 A4 : Option Addr) (c3 c4 : Nat) (w : World) (g3 : Rd w (slD strD 1 v.names) (.slice A3 v.names.length c3)) (l2 : v.text.size ≤ 9223372036854775807) (n3 : v.names.length ≤ 9223372036854775807) (n4 : v.kids.length ≤ 9223372036854775807)
    (hs6 : v.sort = 6) : Calls Try.prog 64 #[.agg #[.int .i64 v.sort, .int .i64 v.num, .string v.text, .slice A3 v.names.length c3, .slice A4 v.kids.length c4]] w (Ret w (.bool (tf (Plain v)))) := by
  obtain ⟨_, _, e_, hm0, hm1, _⟩ := Rd.slice g3
  injection e_ with ea _ ec
  subst ea ec
  have hm0 := Lib.hid hm0
  unfold maxLen at hm1
  have G3 := Lib.hid g3
  have hm1 := Lib.hid hm1
  clear g3
  have hv := Lib.hid hs6
  have s1 : (v.sort == 1) = false := by rw [beq_eq_false_iff_ne, hs6]; decide
  have s2 : (v.sort == 2) = false := by rw [beq_eq_false_iff_ne, hs6]; decide
  have r2 : (v.sort != 2) = true := by rw [bne, s2]; rfl
  have s3 : (v.sort == 3) = false := by rw [beq_eq_false_iff_ne, hs6]; decide
  have r3 : (v.sort != 3) = true := by rw [bne, s3]; rfl
  have s4 : (v.sort == 4) = false := by rw [beq_eq_false_iff_ne, hs6]; decide
  have r4 : (v.sort != 4) = true := by rw [bne, s4]; rfl
  have s5 : (v.sort == 5) = false := by rw [beq_eq_false_iff_ne, hs6]; decide
  have s6 : (v.sort == 6) = true := by rw [beq_iff_eq]; exact hs6
  have r6 : (v.sort != 6) = false := by rw [bne, s6]; rfl
  clear hs6
  by_cases ht : v.text = ⟨#[]⟩
  case neg =>
    have ht0 := empty_f ht
    have ht := Lib.hid ht
    go_enter Try.func64, Try.ntmps64
    go_wp2
    go_ret
    exact Ret.f (Plain.f2 (by rw [hv.out]; decide) ht.out) (b1 _ _)
  have ht0 := empty_t ht
  have ht := Lib.hid ht
  by_cases hu : v.num = 0
  case neg =>
    have hu0 : (v.num != 0) = true := by rw [bne_iff_ne]; exact hu
    have hu := Lib.hid hu
    go_enter Try.func64, Try.ntmps64
    go_wp2
    go_ret
    exact Ret.f (Plain.f3 (by rw [hv.out]; decide) (by rw [hv.out]; decide) hu.out) (b1 _ _)
  have hu0 : (v.num != 0) = false := by rw [hu]; rfl
  have hu := Lib.hid hu
  have KEY := Lib.hid (plain6 hv.out ht.out hu.out)
  go_enter Try.func64, Try.ntmps64
  go_wp2
  go_loopw [3] (fun i wr => ∃ k : Nat, k ≤ v.names.length ∧ i = .int .i64 k ∧ Below w.heap.size w wr ∧ wr.cell? ⟨w.heap.size, 3, none⟩ = some (.slice A3 v.names.length c3) ∧ wr.cell? ⟨w.heap.size, 4, none⟩ = some (.slice A4 v.kids.length c4) ∧ Hid (∀ j (h : j < v.names.length), j < k → NameAt v.names j v.names[j])) (fun i _ => v.names.length - (intOf i).toNat)
  case atStart => exact ⟨0, Nat.zero_le _, rfl, b1 _ _, by simp [go_sem], by simp [go_sem], fun j h hj => absurd hj (by omega)⟩
  case round =>
    obtain ⟨k, hk, rfl, hbd, hx3, hx4, HA⟩ := hrel
    by_cases hlt : k < v.names.length
    · obtain ⟨ad, rfl, hc, hsz⟩ := Rd.elem_str (G3.out.below hbd) k hlt
      have hkc : k ≤ c3 := by have := hm0.out; omega
      have HT := Lib.hid (Rd.take (G3.out.below hbd) hk)
      by_cases hp : OkName v.names[k]
      · have hp := Lib.hid hp
        by_cases hq : v.names[k] ∈ v.names.take k
        · have hq := Lib.hid hq
          have NM := Lib.hid (fun W => (l1Name_c v.names[k] W hsz).mono (fun e w1 h => RetQ.tt hp.out h))
          have HS := Lib.hid (fun W h => (l1Has_c (v.names.take k) (some ad) k c3 v.names[k] W h).mono (fun e w1 h => RetQ.tt hq.out h))
          go_wp2_with fail
          go_quiet (first | (go_at_call 82; exact Calls.quiet_of_same (NM.out _)) | (go_at_call 83; exact Calls.quiet_of_same (HS.out _ (HT.out.below (drewN_below (Below.refl _ _) _)))))
          go_wp2
          go_ret
          exact Ret.f (fun h => ((KEY.out.1 h).1 k hlt).2 hq.out) (drewN_below hbd _)
        · have hq := Lib.hid hq
          have NM := Lib.hid (fun W => (l1Name_c v.names[k] W hsz).mono (fun e w1 h => RetQ.tt hp.out h))
          have HS := Lib.hid (fun W h => (l1Has_c (v.names.take k) (some ad) k c3 v.names[k] W h).mono (fun e w1 h => RetQ.ff hq.out h))
          go_wp2_with fail
          go_quiet (first | (go_at_call 82; exact Calls.quiet_of_same (NM.out _)) | (go_at_call 83; exact Calls.quiet_of_same (HS.out _ (HT.out.below (drewN_below (Below.refl _ _) _)))))
          go_wp2
          go_roundw
          case rel => exact ⟨k + 1, by omega, by go_num, drewN_below hbd _, hx3, hx4, fun j h hj => by
            by_cases e : j = k
            · subst e; exact ⟨hp.out, hq.out⟩
            · exact HA.out j h (by omega)⟩
          case measure => simp [intOf]; omega
      · have hp := Lib.hid hp
        have NM := Lib.hid (fun W => (l1Name_c v.names[k] W hsz).mono (fun e w1 h => RetQ.ff hp.out h))
        go_wp2_with fail
        go_quiet (first | (go_at_call 82; exact Calls.quiet_of_same (NM.out _)))
        go_wp2
        go_ret
        exact Ret.f (fun h => hp.out ((KEY.out.1 h).1 k hlt).1) (drewN_below hbd _)
    · go_wp2
      go_ret
      exact Ret.d (KEY.out.trans ⟨fun h => by simp [h.2], fun h => ⟨fun j h => HA.out j h (by omega), Int.ofNat_inj.1 (by simpa using h)⟩⟩) hbd
set_option maxRecDepth 100000 in
set_option maxHeartbeats 4000000 in
theorem l1Plain_other (v : JValue) (A3 A4 : Option Addr) (c3 c4 : Nat) (w : World) (g3 : Rd w (slD strD 1 v.names) (.slice A3 v.names.length c3)) (l2 : v.text.size ≤ 9223372036854775807) (n3 : v.names.length ≤ 9223372036854775807) (n4 : v.kids.length ≤ 9223372036854775807)
    (hs1 : ¬ v.sort = 1) (hs2 : ¬ v.sort = 2) (hs3 : ¬ v.sort = 3) (hs4 : ¬ v.sort = 4) (hs5 : ¬ v.sort = 5) (hs6 : ¬ v.sort = 6) : Calls Try.prog 64 #[.agg #[.int .i64 v.sort, .int .i64 v.num, .string v.text, .slice A3 v.names.length c3, .slice A4 v.kids.length c4]] w (Ret w (.bool (tf (Plain v)))) := by
  obtain ⟨_, _, e_, hm0, hm1, _⟩ := Rd.slice g3
  injection e_ with ea _ ec
  subst ea ec
  have hm0 := Lib.hid hm0
  unfold maxLen at hm1
  have G3 := Lib.hid g3
  have hm1 := Lib.hid hm1
  clear g3
  have hsx : Hid (v.sort ≠ 1 ∧ v.sort ≠ 2 ∧ v.sort ≠ 3 ∧ v.sort ≠ 4 ∧ v.sort ≠ 5 ∧ v.sort ≠ 6) := ⟨hs1, hs2, hs3, hs4, hs5, hs6⟩
  have s1 : (v.sort == 1) = false := by rw [beq_eq_false_iff_ne]; exact hs1
  have s2 : (v.sort == 2) = false := by rw [beq_eq_false_iff_ne]; exact hs2
  have r2 : (v.sort != 2) = true := by rw [bne, s2]; rfl
  have s3 : (v.sort == 3) = false := by rw [beq_eq_false_iff_ne]; exact hs3
  have r3 : (v.sort != 3) = true := by rw [bne, s3]; rfl
  have s4 : (v.sort == 4) = false := by rw [beq_eq_false_iff_ne]; exact hs4
  have r4 : (v.sort != 4) = true := by rw [bne, s4]; rfl
  have s5 : (v.sort == 5) = false := by rw [beq_eq_false_iff_ne]; exact hs5
  have s6 : (v.sort == 6) = false := by rw [beq_eq_false_iff_ne]; exact hs6
  have r6 : (v.sort != 6) = true := by rw [bne, s6]; rfl
  clear hs1 hs2 hs3 hs4 hs5 hs6
  have NO : Hid (¬ Plain v) := Plain.f4 hsx.out.1 hsx.out.2.1 hsx.out.2.2.1 hsx.out.2.2.2.1 hsx.out.2.2.2.2.1 hsx.out.2.2.2.2.2
  by_cases hn : 0 < v.names.length
  case pos =>
    have hnI : (0 : Int) < v.names.length := by omega
    go_enter Try.func64, Try.ntmps64
    go_wp2
    go_ret
    exact Ret.f NO.out (b1 _ _)
  have hnI : ¬ (0 : Int) < v.names.length := by omega
  by_cases ht : v.text = ⟨#[]⟩
  case neg =>
    have ht0 := empty_f ht
    clear ht
    go_enter Try.func64, Try.ntmps64
    go_wp2
    go_ret
    exact Ret.f NO.out (b1 _ _)
  have ht0 := empty_t ht
  clear ht
  by_cases hu : v.num = 0
  case neg =>
    have hu0 : (v.num != 0) = true := by rw [bne_iff_ne]; exact hu
    clear hu
    go_enter Try.func64, Try.ntmps64
    go_wp2
    go_ret
    exact Ret.f NO.out (b1 _ _)
  have hu0 : (v.num != 0) = false := by rw [hu]; rfl
  clear hu
  go_enter Try.func64, Try.ntmps64
  go_wp2
  go_ret
  exact Ret.f NO.out (b1 _ _)
theorem l1Plain_c (v : JValue) (cs : List Value) (w : World) (hcs : RdL w v.enc cs) : Calls Try.prog 64 #[.agg cs.toArray] w (Ret w (.bool (tf (Plain v)))) := by
  obtain ⟨A3, c3, A4, c4, rfl, g3, g4, l2, n3, n4⟩ := JValue.open_ hcs
  by_cases h1 : v.sort = 1
  · exact l1Plain_s1 v A3 A4 c3 c4 w g3 l2 n3 n4 h1
  by_cases h2 : v.sort = 2
  · exact l1Plain_s2 v A3 A4 c3 c4 w g3 l2 n3 n4 h2
  by_cases h3 : v.sort = 3
  · exact l1Plain_s3 v A3 A4 c3 c4 w g3 l2 n3 n4 h3
  by_cases h4 : v.sort = 4
  · exact l1Plain_s4 v A3 A4 c3 c4 w g3 l2 n3 n4 h4
  by_cases h5 : v.sort = 5
  · exact l1Plain_s5 v A3 A4 c3 c4 w g3 l2 n3 n4 h5
  by_cases h6 : v.sort = 6
  · exact l1Plain_s6 v A3 A4 c3 c4 w g3 l2 n3 n4 h6
  exact l1Plain_other v A3 A4 c3 c4 w g3 l2 n3 n4 h1 h2 h3 h4 h5 h6
end Go.Proofs.Ytegabeefggcelaa.Lib
