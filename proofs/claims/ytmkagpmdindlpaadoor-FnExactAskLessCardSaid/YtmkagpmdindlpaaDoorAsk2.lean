/- The reference's l3Ok. Levels to 6, numbers to 24. -/
import Derived.Test.YtmkagpmdindlpaaDoorAsk1
import Derived.Deep.DeepCutAuto
import Derived.Deep.RegionHeld3
import Derived.Deep.RegionLaw
set_option linter.unusedVariables false
set_option linter.unusedSimpArgs false
namespace Go.Proofs.YtmkagpmdindlpaaDoor.Lib
open Go.RowKit

theorem twice_take {ys : List ByteArray} {k : Nat} (hk : k < ys.length) : Twice (ys.take (k + 1)) ↔ Twice (ys.take k) ∨ ys[k] ∈ ys.take k := by
  constructor
  · rintro ⟨i, hi, hm⟩
    rw [List.length_take] at hi
    by_cases e : i = k
    · subst e
      rw [List.getElem_take, List.take_take, show min i (i + 1) = i by omega] at hm
      exact .inr hm
    · refine .inl ⟨i, by rw [List.length_take]; omega, ?_⟩
      rw [List.getElem_take, List.take_take, show min i (k + 1) = i by omega] at hm
      rw [List.getElem_take, List.take_take, show min i k = i by omega]
      exact hm
  · rintro (⟨i, hi, hm⟩ | hm)
    · rw [List.length_take] at hi
      rw [List.getElem_take, List.take_take, show min i k = i by omega] at hm
      refine ⟨i, by rw [List.length_take]; omega, ?_⟩
      rw [List.getElem_take, List.take_take, show min i (k + 1) = i by omega]
      exact hm
    · refine ⟨k, by rw [List.length_take]; omega, ?_⟩
      rw [List.getElem_take, List.take_take, show min k (k + 1) = k by omega]
      exact hm
theorem under_mem {xs : List JSel} {k : Nat} (hk : k < xs.length) : (xs.map JSel.under)[k]'(by simpa using hk) ∈ (xs.map JSel.under).take k ↔ ∃ j, ∃ h : j < xs.length, j < k ∧ xs[j].under = xs[k].under := by
  rw [List.getElem_map, ← List.map_take, List.mem_map]
  constructor
  · rintro ⟨x, hx, e⟩
    obtain ⟨j, hj, rfl⟩ := List.getElem_of_mem hx
    rw [List.length_take] at hj
    exact ⟨j, by omega, by omega, by rw [List.getElem_take] at e; exact e⟩
  · rintro ⟨j, hj, hjk, e⟩
    exact ⟨xs[j], by rw [List.mem_take_iff_getElem]; exact ⟨j, by omega, rfl⟩, e⟩
/-- The first k fields are ok. -/
def PreOk (xs : List JSel) (d : Int) (k : Nat) : Prop := JSel.okL (xs.take k) d ∧ ¬ Twice ((xs.map JSel.under).take k)
theorem PreOk.zero (xs : List JSel) (d : Int) : PreOk xs d 0 := ⟨by simp [JSel.okL], by simp [Twice]⟩
theorem PreOk.step {xs : List JSel} {d : Int} {k : Nat} (h : PreOk xs d k) (hk : k < xs.length) (h1 : xs[k].okAt d) (h2 : ∀ j, ∀ h : j < xs.length, j < k → ¬ xs[j].under = xs[k].under) : PreOk xs d (k + 1) := by
  refine ⟨(JSel.okL_take xs d k hk).2 ⟨h.1, h1⟩, fun h3 => ?_⟩
  rcases (twice_take (by simpa using hk)).1 h3 with h3 | h3
  · exact h.2 h3
  · obtain ⟨j, hj, hjk, e⟩ := (under_mem hk).1 h3
    exact h2 j hj hjk e
theorem PreOk.all {xs : List JSel} {d : Int} (h : PreOk xs d xs.length) (hd : xs ≠ [] → d ≤ 5) : AskL xs d := by
  obtain ⟨h1, h2⟩ := h
  rw [List.take_of_length_le (Nat.le_refl _)] at h1
  rw [List.take_of_length_le (by simp)] at h2
  exact ⟨hd, h2, h1⟩
theorem AskL.get {xs : List JSel} {d : Int} (h : AskL xs d) {k : Nat} (hk : k < xs.length) : xs[k].okAt d := JSel.okL_get h.2.2 k hk
theorem AskL.apart {xs : List JSel} {d : Int} (h : AskL xs d) {j k : Nat} (hj : j < xs.length) (hk : k < xs.length) (hjk : j < k) : ¬ xs[j].under = xs[k].under := fun e => by
  refine h.2.1 ⟨k, by simpa using hk, ?_⟩
  exact (under_mem hk).2 ⟨j, hj, hjk, e⟩
theorem nodesL_k {xs : List JSel} {k : Nat} (hk : k < xs.length) : JSel.nodesL (xs.take k) + 1 + JSel.nodesL xs[k].kids ≤ JSel.nodesL xs ∧ JSel.nodesL (xs.take (k + 1)) = JSel.nodesL (xs.take k) + 1 + JSel.nodesL xs[k].kids := by
  have h1 := JSel.nodesL_take xs k hk
  have h2 := JSel.nodesL_le xs (k + 1)
  rw [JSel.nodes_eq] at h1
  omega

def L3R (xs : List JSel) (d left n : Int) : Prop := ((AskL xs d ∧ (JSel.nodesL xs : Int) ≤ left) → n = left - JSel.nodesL xs) ∧ (¬ (AskL xs d ∧ (JSel.nodesL xs : Int) ≤ left) → n = -1)
theorem L3R.lo {xs : List JSel} {d left n : Int} (h : L3R xs d left n) : -1 ≤ n ∧ n ≤ (if left < -1 then -1 else left) := by
  by_cases h0 : AskL xs d ∧ (JSel.nodesL xs : Int) ≤ left
  · have := h.1 h0; split <;> omega
  · have := h.2 h0; split <;> omega
def L3Ok (xs : List JSel) : Prop := ∀ (A : Option Addr) (n c : Nat) (d left : Int) (w : World), Rd w (slD JSel.enc 5 xs) (.slice A n c) → 0 ≤ d → d ≤ 6 → -1 ≤ left → left ≤ 24 →
  Calls Tryd.prog 27 #[.slice A n c, .int .i64 d, .int .i64 left] w (fun e w' => ∃ r : Int, Ret w (.int .i64 r) e w' ∧ L3R xs d left r)
theorem not_t {p : Prop} (h : ¬ p) : Hid (true = true ↔ ¬ p) := ⟨fun _ => h, fun _ => rfl⟩
theorem not_f {p : Prop} (h : p) : Hid (false = true ↔ ¬ p) := ⟨fun k => (by cases k), fun k => absurd h k⟩
set_option maxRecDepth 100000 in
set_option maxHeartbeats 8000000 in
theorem l3Ok_of (xs : List JSel) (hK : ∀ x, x ∈ xs → L3Ok x.kids) : L3Ok xs := by
  intro A n c d left w hx hd0 hd1 hl0 hl1
  obtain rfl := Rd.len hx
  obtain ⟨_, _, _, hm0, hm1, _⟩ := Rd.slice hx
  unfold maxLen at hm1
  have hm : xs.length ≤ 9223372036854775807 := by omega
  have HX := Lib.hid hx
  have HK := Lib.hid hK
  clear hx hm0 hm1 hK
  by_cases hdp : 0 < xs.length ∧ 5 < d
  · obtain ⟨h1, h2⟩ := hdp
    have h1I : (0 : Int) < xs.length := by omega
    go_enter Tryd.func27, Tryd.ntmps27
    go_wp2
    go_ret
    exact ⟨_, ⟨rfl, Below.refl _ _⟩, fun h => by have := h.1.1 (by intro e; rw [e] at h1; simp at h1); omega, fun _ => rfl⟩
  have hdd : xs ≠ [] → d ≤ 5 := fun h => by
    have : 0 < xs.length := List.length_pos_iff.2 h
    omega
  replace hdd := Lib.hid hdd
  have hstart : ∀ m : Int, m = left → ((0 ≤ m → PreOk xs d 0 ∧ m = left - JSel.nodesL (xs.take 0)) ∧ (m < 0 → m = -1 ∧ ¬ (AskL xs d ∧ (JSel.nodesL xs : Int) ≤ left))) := fun m e => ⟨fun _ => ⟨PreOk.zero xs d, by simp [JSel.nodesL, e]⟩, fun h => ⟨by omega, fun h2 => by have := h2.2; omega⟩⟩
  replace hstart := Lib.hid hstart
  have done : ∀ (P : World → Prop), (∀ W, P W → Below w.heap.size w W) → True := fun _ _ => trivial
  clear done
  by_cases hpos : 0 < xs.length
  case neg =>
    have h0 : xs.length = 0 := by omega
    have hr : L3R xs d left left := by
      have hn : xs = [] := List.eq_nil_of_length_eq_zero h0
      subst hn
      have ha : AskL [] d := ⟨fun h => absurd rfl h, by simp [Twice], by simp [JSel.okL]⟩
      exact ⟨fun _ => by simp [JSel.nodesL], fun h => by
        have : ¬ (JSel.nodesL [] : Int) ≤ left := fun h2 => h ⟨ha, h2⟩
        simp [JSel.nodesL] at this
        omega⟩
    have h0I : ¬ (0 : Int) < xs.length := by omega
    replace hr := Lib.hid hr
    clear hdp
    go_enter Tryd.func27, Tryd.ntmps27
    go_wp2
    go_loopw [8, 7] (fun i m wr => i = .int .i64 0 ∧ m = .int .i64 left ∧ wr = w) (fun _ _ _ => 0)
    case atStart => exact ⟨rfl, rfl, rfl⟩
    case round =>
      obtain ⟨rfl, rfl, rfl⟩ := hrel
      go_wp2
      go_ret
      exact ⟨_, ⟨rfl, Below.refl _ _⟩, hr.out⟩
  have hd5 : d ≤ 5 := by omega
  have hposI : (0 : Int) < xs.length := by omega
  clear hdp
  go_enter Tryd.func27, Tryd.ntmps27
  go_wp2
  go_loopw [8, 7, 9, 10] (fun i n _ _ wr => ∃ k : Nat, k ≤ xs.length ∧ i = .int .i64 k ∧ ∃ m : Int, n = .int .i64 m ∧ -1 ≤ m ∧ m ≤ 24 ∧ Hid (Below w.heap.size w wr) ∧ Hid ((0 ≤ m → PreOk xs d k ∧ m = left - JSel.nodesL (xs.take k)) ∧ (m < 0 → m = -1 ∧ ¬ (AskL xs d ∧ (JSel.nodesL xs : Int) ≤ left)))) (fun i _ _ _ _ => xs.length - (intOf i).toNat)
  case atStart => exact ⟨0, Nat.zero_le _, rfl, _, rfl, by omega, by omega, Below.refl _ _, hstart.out _ rfl⟩
  case round =>
    obtain ⟨k, hk, rfl, m, rfl, hm0, hm1, HB, HR⟩ := hrel
    by_cases hlt : k < xs.length
    case neg =>
      go_wp2
      go_ret
      refine ⟨_, ⟨rfl, HB.out⟩, ?_⟩
      have hke : k = xs.length := by omega
      by_cases hmn : 0 ≤ m
      · obtain ⟨h1, h2⟩ := HR.out.1 hmn
        rw [hke] at h1 h2
        rw [List.take_of_length_le (Nat.le_refl _)] at h2
        exact ⟨fun _ => h2, fun h => absurd ⟨h1.all hdd.out, by omega⟩ h⟩
      · obtain ⟨h1, h2⟩ := HR.out.2 (by omega)
        exact ⟨fun h => absurd h h2, fun _ => h1⟩
    by_cases hmn : 0 ≤ m
    case neg =>
      have hmn' : m < 0 := by omega
      go_wp2
      go_ret
      refine ⟨_, ⟨rfl, HB.out⟩, ?_⟩
      obtain ⟨h1, h2⟩ := HR.out.2 (by omega)
      exact ⟨fun h => absurd h h2, fun _ => h1⟩
    obtain ⟨ad, A4, c4, rfl, y0, y1, y2, y3, y4, g4, l0, l1, n4⟩ := JSel.elem (HX.out.below HB.out) k hlt
    have GG := Lib.hid (JSel.close_ _ g4 l0 l1)
    have G4 := Lib.hid g4
    clear g4
    obtain ⟨wo, rfl⟩ : ∃ x, x = wr := ⟨wr, rfl⟩
    go_upto_region 8 with fail
    go_cut [70] (fun b wx => ∃ bb : Bool, b = .bool bb ∧ Hid (bb = true ↔ ¬ SelOk xs[k]) ∧ wx = wo.alloc (.cells #[.string xs[k].as_, .string xs[k].name, .bool xs[k].one, .int .i64 xs[k].id, .slice A4 xs[k].kids.length c4] 42))
    case first =>
      by_cases h1 : NameOk xs[k].name
      case neg =>
        replace h1 := Lib.hid h1
        go_wp2_with fail
        refine (l2Name_c _ _ l1).mono ?_
        intro e w1 hr
        obtain ⟨rfl, rfl⟩ := RetQ.ff h1.out hr
        clear hr
        go_wp2_with fail
        go_meet
        exact ⟨_, rfl, not_t (fun h => h1.out h.1), rfl⟩
      replace h1 := Lib.hid h1
      by_cases h2 : xs[k].as_ = ⟨#[]⟩
      · have t2 := empty_t h2
        replace h2 := Lib.hid h2
        cases ho : xs[k].one with
        | true =>
          by_cases h3 : InI xs[k].id 0 999999
          case neg =>
            replace h3 := Lib.hid h3
            go_wp2_with fail
            refine (l2Name_c _ _ l1).mono ?_
            intro e w1 hr
            obtain ⟨rfl, rfl⟩ := RetQ.tt h1.out hr
            clear hr
            go_wp2_with fail
            refine (l1In_c _ _ _ _).mono ?_
            intro e w1 hr
            obtain ⟨rfl, rfl⟩ := RetQ.ff h3.out hr
            clear hr
            go_wp2_with fail
            go_meet
            exact ⟨_, rfl, not_t (fun h => h3.out h.2.2.1), by rw [ho]⟩
          replace h3 := Lib.hid h3
          go_wp2_with fail
          refine (l2Name_c _ _ l1).mono ?_
          intro e w1 hr
          obtain ⟨rfl, rfl⟩ := RetQ.tt h1.out hr
          clear hr
          go_wp2_with fail
          refine (l1In_c _ _ _ _).mono ?_
          intro e w1 hr
          obtain ⟨rfl, rfl⟩ := RetQ.tt h3.out hr
          clear hr
          go_wp2_with fail
          go_meet
          exact ⟨_, rfl, not_f ⟨h1.out, .inl h2.out, h3.out, .inl ho⟩, by rw [ho]⟩
        | false =>
          by_cases h4 : xs[k].id = 0
          case neg =>
            have t4 : (xs[k].id != 0) = true := by rw [bne_iff_ne]; exact h4
            replace h4 := Lib.hid h4
            go_wp2_with fail
            refine (l2Name_c _ _ l1).mono ?_
            intro e w1 hr
            obtain ⟨rfl, rfl⟩ := RetQ.tt h1.out hr
            clear hr
            go_wp2_with fail
            go_meet
            exact ⟨_, rfl, not_t (fun h => h.2.2.2.elim (fun k => (by rw [ho] at k; cases k)) (fun k => h4.out k)), by rw [ho]⟩
          have t4 : (xs[k].id != 0) = false := by rw [h4]; rfl
          have h3 : InI xs[k].id 0 999999 := by rw [h4]; unfold InI; omega
          replace h3 := Lib.hid h3
          replace h4 := Lib.hid h4
          go_wp2_with fail
          refine (l2Name_c _ _ l1).mono ?_
          intro e w1 hr
          obtain ⟨rfl, rfl⟩ := RetQ.tt h1.out hr
          clear hr
          go_wp2_with fail
          refine (l1In_c _ _ _ _).mono ?_
          intro e w1 hr
          obtain ⟨rfl, rfl⟩ := RetQ.tt h3.out hr
          clear hr
          go_wp2_with fail
          go_meet
          exact ⟨_, rfl, not_f ⟨h1.out, .inl h2.out, h3.out, .inr h4.out⟩, by rw [ho]⟩
      have t2 := empty_f h2
      replace h2 := Lib.hid h2
      by_cases h5 : NameOk xs[k].as_
      case neg =>
        replace h5 := Lib.hid h5
        go_wp2_with fail
        refine (l2Name_c _ _ l1).mono ?_
        intro e w1 hr
        obtain ⟨rfl, rfl⟩ := RetQ.tt h1.out hr
        clear hr
        go_wp2_with fail
        refine (l2Name_c _ _ l0).mono ?_
        intro e w1 hr
        obtain ⟨rfl, rfl⟩ := RetQ.ff h5.out hr
        clear hr
        go_wp2_with fail
        go_meet
        exact ⟨_, rfl, not_t (fun h => h.2.1.elim (fun k => h2.out k) (fun k => h5.out k.1)), rfl⟩
      replace h5 := Lib.hid h5
      by_cases h6 : xs[k].as_ = xs[k].name
      case pos =>
        have t6 := str_t h6
        replace h6 := Lib.hid h6
        go_wp2_with fail
        refine (l2Name_c _ _ l1).mono ?_
        intro e w1 hr
        obtain ⟨rfl, rfl⟩ := RetQ.tt h1.out hr
        clear hr
        go_wp2_with fail
        refine (l2Name_c _ _ l0).mono ?_
        intro e w1 hr
        obtain ⟨rfl, rfl⟩ := RetQ.tt h5.out hr
        clear hr
        go_wp2_with fail
        go_meet
        exact ⟨_, rfl, not_t (fun h => h.2.1.elim (fun k => h2.out k) (fun k => k.2 h6.out)), rfl⟩
      have t6 := str_f h6
      replace h6 := Lib.hid h6
      cases ho : xs[k].one with
      | true =>
        by_cases h3 : InI xs[k].id 0 999999
        case neg =>
          replace h3 := Lib.hid h3
          go_wp2_with fail
          refine (l2Name_c _ _ l1).mono ?_
          intro e w1 hr
          obtain ⟨rfl, rfl⟩ := RetQ.tt h1.out hr
          clear hr
          go_wp2_with fail
          refine (l2Name_c _ _ l0).mono ?_
          intro e w1 hr
          obtain ⟨rfl, rfl⟩ := RetQ.tt h5.out hr
          clear hr
          go_wp2_with fail
          refine (l1In_c _ _ _ _).mono ?_
          intro e w1 hr
          obtain ⟨rfl, rfl⟩ := RetQ.ff h3.out hr
          clear hr
          go_wp2_with fail
          go_meet
          exact ⟨_, rfl, not_t (fun h => h3.out h.2.2.1), by rw [ho]⟩
        replace h3 := Lib.hid h3
        go_wp2_with fail
        refine (l2Name_c _ _ l1).mono ?_
        intro e w1 hr
        obtain ⟨rfl, rfl⟩ := RetQ.tt h1.out hr
        clear hr
        go_wp2_with fail
        refine (l2Name_c _ _ l0).mono ?_
        intro e w1 hr
        obtain ⟨rfl, rfl⟩ := RetQ.tt h5.out hr
        clear hr
        go_wp2_with fail
        refine (l1In_c _ _ _ _).mono ?_
        intro e w1 hr
        obtain ⟨rfl, rfl⟩ := RetQ.tt h3.out hr
        clear hr
        go_wp2_with fail
        go_meet
        exact ⟨_, rfl, not_f ⟨h1.out, .inr ⟨h5.out, h6.out⟩, h3.out, .inl ho⟩, by rw [ho]⟩
      | false =>
        by_cases h4 : xs[k].id = 0
        case neg =>
          have t4 : (xs[k].id != 0) = true := by rw [bne_iff_ne]; exact h4
          replace h4 := Lib.hid h4
          go_wp2_with fail
          refine (l2Name_c _ _ l1).mono ?_
          intro e w1 hr
          obtain ⟨rfl, rfl⟩ := RetQ.tt h1.out hr
          clear hr
          go_wp2_with fail
          refine (l2Name_c _ _ l0).mono ?_
          intro e w1 hr
          obtain ⟨rfl, rfl⟩ := RetQ.tt h5.out hr
          clear hr
          go_wp2_with fail
          go_meet
          exact ⟨_, rfl, not_t (fun h => h.2.2.2.elim (fun k => (by rw [ho] at k; cases k)) (fun k => h4.out k)), by rw [ho]⟩
        have t4 : (xs[k].id != 0) = false := by rw [h4]; rfl
        have h3 : InI xs[k].id 0 999999 := by rw [h4]; unfold InI; omega
        replace h3 := Lib.hid h3
        replace h4 := Lib.hid h4
        go_wp2_with fail
        refine (l2Name_c _ _ l1).mono ?_
        intro e w1 hr
        obtain ⟨rfl, rfl⟩ := RetQ.tt h1.out hr
        clear hr
        go_wp2_with fail
        refine (l2Name_c _ _ l0).mono ?_
        intro e w1 hr
        obtain ⟨rfl, rfl⟩ := RetQ.tt h5.out hr
        clear hr
        go_wp2_with fail
        refine (l1In_c _ _ _ _).mono ?_
        intro e w1 hr
        obtain ⟨rfl, rfl⟩ := RetQ.tt h3.out hr
        clear hr
        go_wp2_with fail
        go_meet
        exact ⟨_, rfl, not_f ⟨h1.out, .inr ⟨h5.out, h6.out⟩, h3.out, .inr h4.out⟩, by rw [ho]⟩
    case rest =>
      obtain ⟨bb, rfl, HBB, rfl⟩ := hcut
      have hno : ¬ SelOk xs[k] → ¬ (AskL xs d ∧ (JSel.nodesL xs : Int) ≤ left) := fun h1 h2 => h1 (((xs[k].okAt_eq d).1 (h2.1.get hlt)).1)
      replace hno := Lib.hid hno
      cases bb with
      | true =>
        have hs := Lib.hid (HBB.out.1 rfl)
        go_wp2
        go_ret
        exact ⟨_, ⟨rfl, bt HB.out (b1 _ _)⟩, fun h => absurd h (hno.out hs.out), fun _ => rfl⟩
      | false =>
        have hs : Hid (SelOk xs[k]) := Classical.byContradiction fun h => (by have hh := HBB.out.2 h; cases hh)
        have hkI : (k : Int) < xs.length := by omega
        go_wp2
        go_loopw [10] (fun j wr => ∃ q : Nat, q ≤ k ∧ j = .int .i64 q ∧ Hid (Below (wo.alloc (.cells #[.string xs[k].as_, .string xs[k].name, .bool xs[k].one, .int .i64 xs[k].id, .slice A4 xs[k].kids.length c4] 42)).heap.size (wo.alloc (.cells #[.string xs[k].as_, .string xs[k].name, .bool xs[k].one, .int .i64 xs[k].id, .slice A4 xs[k].kids.length c4] 42)) wr) ∧ Hid (∀ j, ∀ h : j < xs.length, j < q → ¬ xs[j].under = xs[k].under)) (fun j _ => k - (intOf j).toNat)
        case atStart => exact ⟨0, Nat.zero_le _, rfl, Below.refl _ _, fun j h hj => absurd hj (by omega)⟩
        case round =>
          obtain ⟨q, hq, rfl, HBi, HA⟩ := hrel
          have hB3 := Lib.hid (bt HB.out (bt (b1 _ _) HBi.out))
          have s0 : wr.cell? ⟨wo.heap.size, 0, none⟩ = some (.string xs[k].as_) := cell_keep HBi.out (by simp [go_sem])
          have s1 : wr.cell? ⟨wo.heap.size, 1, none⟩ = some (.string xs[k].name) := cell_keep HBi.out (by simp [go_sem])
          have s2 : wr.cell? ⟨wo.heap.size, 2, none⟩ = some (.bool xs[k].one) := cell_keep HBi.out (by simp [go_sem])
          have s3 : wr.cell? ⟨wo.heap.size, 3, none⟩ = some (.int .i64 xs[k].id) := cell_keep HBi.out (by simp [go_sem])
          have s4 : wr.cell? ⟨wo.heap.size, 4, none⟩ = some (.slice A4 xs[k].kids.length c4) := cell_keep HBi.out (by simp [go_sem])
          have sz : wo.heap.size < wr.heap.size := World.block_lt_of_cell? _ _ s0
          by_cases hlt2 : q < k
          case neg =>
            have hql : q = k := by omega
            have HAll : Hid (∀ j, ∀ h : j < xs.length, j < k → ¬ xs[j].under = xs[k].under) := fun j h hj => HA.out j h (by omega)
            clear hql
            have HM := Lib.hid (fun W (h : Below wo.heap.size wo W) => HK.out xs[k] (List.getElem_mem hlt) A4 xs[k].kids.length c4 (d + 1) (m - 1) W (G4.out.below h) (by omega) (by omega) (by omega) (by omega))
            go_wp2_with fail
            refine (HM.out _ (bt (b1 _ _) HBi.out)).mono ?_
            rintro e w2 ⟨r, ⟨rfl, hb2⟩, hr⟩
            have hr1 := hr.lo
            have hr2 : r ≤ 24 := by have := hr1.2; split at this <;> omega
            have hr3 := hr1.1
            have hr := Lib.hid hr
            have hb9 := Lib.hid (bt hB3.out hb2)
            clear hr1 hb2
            go_wp2
            go_roundw
            case rel =>
              refine ⟨k + 1, by omega, by go_num, r, rfl, by omega, by omega, hb9.out, fun h0 => ?_, fun h0 => ?_⟩
              · have hg : AskL xs[k].kids (d + 1) ∧ (JSel.nodesL xs[k].kids : Int) ≤ m - 1 := Classical.byContradiction fun hc => by have := hr.out.2 hc; omega
                have e1 := hr.out.1 hg
                obtain ⟨p1, p2⟩ := HR.out.1 hmn
                have hn := (nodesL_k hlt).2
                exact ⟨p1.step hlt ((xs[k].okAt_eq d).2 ⟨hs.out, hg.1⟩) HAll.out, by omega⟩
              · have hr0 : r = -1 := Classical.byContradiction fun hc => by
                  by_cases hg : AskL xs[k].kids (d + 1) ∧ (JSel.nodesL xs[k].kids : Int) ≤ m - 1
                  · have := hr.out.1 hg; omega
                  · exact hc (hr.out.2 hg)
                refine ⟨hr0, fun h2 => ?_⟩
                obtain ⟨p1, p2⟩ := HR.out.1 hmn
                have hn := (nodesL_k hlt).1
                have hg : AskL xs[k].kids (d + 1) ∧ (JSel.nodesL xs[k].kids : Int) ≤ m - 1 := ⟨((xs[k].okAt_eq d).1 (h2.1.get hlt)).2, by have := h2.2; omega⟩
                have := hr.out.1 hg
                have := hg.2
                omega
            case measure => simp [intOf]; omega
          have hqx : q < xs.length := by omega
          have hqI : (q : Int) < xs.length := by omega
          obtain ⟨ad_, A5, c5, ea, x0, x1, x2, x3, x4, g5, l5, l6, n5⟩ := JSel.elem (HX.out.below hB3.out) q hqx
          obtain rfl : ad = ad_ := by injection ea
          have G5 := Lib.hid (JSel.close_ _ g5 l5 l6)
          clear g5 ea
          have hbd := (Below.refl wr.heap.size wr).drew
          have hS := Lib.hid (fun (w' : World) (h : Below wr.heap.size wr w') => (⟨cell_keep (h) x0, cell_keep (h) x1, cell_keep (h) x2, cell_keep (h) x3, cell_keep (h) x4, cell_keep (h) s0, cell_keep (h) s1, cell_keep (h) s2, cell_keep (h) s3, cell_keep (h) s4, h⟩ : w'.cell? (ad.add (q * 5)) = some (.string xs[q].as_) ∧ w'.cell? (⟨(ad.add (q * 5)).block, (ad.add (q * 5)).off + 1, none⟩) = some (.string xs[q].name) ∧ w'.cell? (⟨(ad.add (q * 5)).block, (ad.add (q * 5)).off + 2, none⟩) = some (.bool xs[q].one) ∧ w'.cell? (⟨(ad.add (q * 5)).block, (ad.add (q * 5)).off + 3, none⟩) = some (.int .i64 xs[q].id) ∧ w'.cell? (⟨(ad.add (q * 5)).block, (ad.add (q * 5)).off + 4, none⟩) = some (.slice A5 xs[q].kids.length c5) ∧ w'.cell? ⟨wo.heap.size, 0, none⟩ = some (.string xs[k].as_) ∧ w'.cell? ⟨wo.heap.size, 1, none⟩ = some (.string xs[k].name) ∧ w'.cell? ⟨wo.heap.size, 2, none⟩ = some (.bool xs[k].one) ∧ w'.cell? ⟨wo.heap.size, 3, none⟩ = some (.int .i64 xs[k].id) ∧ w'.cell? ⟨wo.heap.size, 4, none⟩ = some (.slice A4 xs[k].kids.length c4) ∧ Below wr.heap.size wr w'))
          have GS := Lib.hid (fun (w' : World) (h : Below wr.heap.size wr w') => GG.out.keep (bt (bt (b1 wo (.cells #[.string xs[k].as_, .string xs[k].name, .bool xs[k].one, .int .i64 xs[k].id, .slice A4 xs[k].kids.length c4] 42)) HBi.out) h))
          by_cases hu : xs[q].under = xs[k].under
          · have tu := str_t hu
            replace hu := Lib.hid hu
            go_wp2_with fail
            go_region_held3 (fun w' => w'.cell? (ad.add (q * 5)) = some (.string xs[q].as_) ∧ w'.cell? (⟨(ad.add (q * 5)).block, (ad.add (q * 5)).off + 1, none⟩) = some (.string xs[q].name) ∧ w'.cell? (⟨(ad.add (q * 5)).block, (ad.add (q * 5)).off + 2, none⟩) = some (.bool xs[q].one) ∧ w'.cell? (⟨(ad.add (q * 5)).block, (ad.add (q * 5)).off + 3, none⟩) = some (.int .i64 xs[q].id) ∧ w'.cell? (⟨(ad.add (q * 5)).block, (ad.add (q * 5)).off + 4, none⟩) = some (.slice A5 xs[q].kids.length c5) ∧ w'.cell? ⟨wo.heap.size, 0, none⟩ = some (.string xs[k].as_) ∧ w'.cell? ⟨wo.heap.size, 1, none⟩ = some (.string xs[k].name) ∧ w'.cell? ⟨wo.heap.size, 2, none⟩ = some (.bool xs[k].one) ∧ w'.cell? ⟨wo.heap.size, 3, none⟩ = some (.int .i64 xs[k].id) ∧ w'.cell? ⟨wo.heap.size, 4, none⟩ = some (.slice A4 xs[k].kids.length c4) ∧ Below wr.heap.size wr w') (first | (with_reducible exact hS.out _ hbd) | (with_reducible exact hS.out _ ha) | (with_reducible exact hS.out _ hc))
              (first | (go_at_call 29; (with_reducible refine (l3Key_c xs[q] _ _ (G5.out.keep ?_)).mono ?_); (first | (with_reducible exact hbd) | (with_reducible exact hc)); rintro e w4 ⟨rfl, hb4⟩; have ha := bt (by first | (with_reducible exact hbd) | (with_reducible exact hc) : Below wr.heap.size wr _) hb4) | (go_at_call 29; (with_reducible refine (l3Key_c xs[k] _ _ (GS.out _ ?_)).mono ?_); (first | (with_reducible exact hbd) | (with_reducible exact ha)); rintro e w5 ⟨rfl, hb5⟩; have hc := bt (by first | (with_reducible exact hbd) | (with_reducible exact ha) : Below wr.heap.size wr _) hb5))
            go_wp2
            go_ret
            exact ⟨_, ⟨rfl, bt hB3.out (by first | (with_reducible exact hc) | (with_reducible exact ha))⟩, fun h => absurd hu.out (h.1.apart hqx hlt hlt2), fun _ => rfl⟩
          have tu := str_f hu
          replace hu := Lib.hid hu
          go_wp2_with fail
          go_region_held3 (fun w' => w'.cell? (ad.add (q * 5)) = some (.string xs[q].as_) ∧ w'.cell? (⟨(ad.add (q * 5)).block, (ad.add (q * 5)).off + 1, none⟩) = some (.string xs[q].name) ∧ w'.cell? (⟨(ad.add (q * 5)).block, (ad.add (q * 5)).off + 2, none⟩) = some (.bool xs[q].one) ∧ w'.cell? (⟨(ad.add (q * 5)).block, (ad.add (q * 5)).off + 3, none⟩) = some (.int .i64 xs[q].id) ∧ w'.cell? (⟨(ad.add (q * 5)).block, (ad.add (q * 5)).off + 4, none⟩) = some (.slice A5 xs[q].kids.length c5) ∧ w'.cell? ⟨wo.heap.size, 0, none⟩ = some (.string xs[k].as_) ∧ w'.cell? ⟨wo.heap.size, 1, none⟩ = some (.string xs[k].name) ∧ w'.cell? ⟨wo.heap.size, 2, none⟩ = some (.bool xs[k].one) ∧ w'.cell? ⟨wo.heap.size, 3, none⟩ = some (.int .i64 xs[k].id) ∧ w'.cell? ⟨wo.heap.size, 4, none⟩ = some (.slice A4 xs[k].kids.length c4) ∧ Below wr.heap.size wr w') (first | (with_reducible exact hS.out _ hbd) | (with_reducible exact hS.out _ ha) | (with_reducible exact hS.out _ hc))
            (first | (go_at_call 29; (with_reducible refine (l3Key_c xs[q] _ _ (G5.out.keep ?_)).mono ?_); (first | (with_reducible exact hbd) | (with_reducible exact hc)); rintro e w4 ⟨rfl, hb4⟩; have ha := bt (by first | (with_reducible exact hbd) | (with_reducible exact hc) : Below wr.heap.size wr _) hb4) | (go_at_call 29; (with_reducible refine (l3Key_c xs[k] _ _ (GS.out _ ?_)).mono ?_); (first | (with_reducible exact hbd) | (with_reducible exact ha)); rintro e w5 ⟨rfl, hb5⟩; have hc := bt (by first | (with_reducible exact hbd) | (with_reducible exact ha) : Below wr.heap.size wr _) hb5))
          go_wp2
          go_roundw
          case rel => exact ⟨q + 1, by omega, by go_num, bt HBi.out (by first | (with_reducible exact hc) | (with_reducible exact ha)), fun j h hj => by
            by_cases e : j = q
            · subst e; exact hu.out
            · exact HA.out j h (by omega)⟩
          case measure => simp [intOf]; omega
theorem l3Ok_all : ∀ n, ∀ xs : List JSel, SizeOf.sizeOf xs < n → L3Ok xs
  | 0 => fun _ h => absurd h (by omega)
  | n + 1 => fun xs h => l3Ok_of xs fun x hx => l3Ok_all n x.kids (by have := JSel.kids_lt x; have := List.sizeOf_lt_of_mem hx; omega)
theorem l3Ok_c (xs : List JSel) : L3Ok xs := l3Ok_all _ xs (Nat.lt_succ_self _)
end Go.Proofs.YtmkagpmdindlpaaDoor.Lib
