/- The reference's l2Fault. Printed by gfault.py. No condition beyond sizes that every list has. -/
import Derived.Test.YtmkagpmdindlpaaPartF
import Derived.Test.YtmkagpmdindlpaaPartI
import Derived.Test.YtmkagpmdindlpaaGrow
import Derived.Deep.RegionHeld3
import Derived.Deep.RegionLaw
import Derived.Deep.DeepCutAuto
set_option linter.unusedVariables false
set_option linter.unusedSimpArgs false
namespace Go.Proofs.Ytmkagpmdindlpaa.Lib
open Go.RowKit

/-- What is wrong with a type at a place first, but for what is asked of query. -/
noncomputable def faultCode (ts : List JTyp) (i : Nat) (t : JTyp) : Int :=
  if tf t.badLine = true then 1 else if tf (TwiceP ts i t) = true then 2 else if tf (∃ f, f ∈ t.fields ∧ Strange ts f) = true then 3 else if tf t.badKey = true then 4
  else if tf (∃ f, f ∈ t.fields ∧ t.badNeed f) = true then 5 else 0
theorem firstAt_self {α : Type} {p : α → Prop} {xs : List α} {i : Int} (h : FirstAt p xs i) {k : Nat} (hk : k < xs.length) (hp : p xs[k]) : (i = k ↔ ¬ ∃ u, u ∈ xs.take k ∧ p u) := by
  constructor
  · rintro rfl ⟨u, hu, hpu⟩
    rcases h with ⟨h, _⟩ | ⟨m, e, hm, _, hn⟩
    · omega
    · obtain ⟨j, hj, rfl⟩ := List.getElem_of_mem hu
      rw [List.length_take] at hj
      rw [List.getElem_take] at hpu
      exact hn j (by omega) (by omega) hpu
  · intro hn
    rcases h with ⟨_, h⟩ | ⟨m, e, hm, hpm, hf⟩
    · exact absurd hp (h k hk)
    · by_cases h1 : m < k
      · exact absurd ⟨xs[m], List.mem_take_iff_getElem.2 ⟨m, by omega, rfl⟩, hpm⟩ hn
      · by_cases h2 : k < m
        · exact absurd hp (hf k hk h2)
        · have : m = k := by omega
          rw [e, this]
theorem twice_names {t : JTyp} : Twice t.names ↔ ∃ j, ∃ h : j < t.fields.length, ∃ u, u ∈ t.fields.take j ∧ u.name = t.fields[j].name := by
  unfold Twice JTyp.names
  constructor
  · rintro ⟨j, h, hm⟩
    rw [List.length_map] at h
    rw [List.getElem_map, ← List.map_take] at hm
    obtain ⟨u, hu, he⟩ := List.mem_map.1 hm
    exact ⟨j, h, u, hu, he⟩
  · rintro ⟨j, h, u, hu, he⟩
    refine ⟨j, by rw [List.length_map]; exact h, ?_⟩
    rw [List.getElem_map, ← List.map_take]
    exact List.mem_map.2 ⟨u, hu, he⟩
set_option maxRecDepth 100000 in
set_option maxHeartbeats 16000000 in
theorem l2Fault_c (p : JPart) (i : Nat) (cs : List Value) (w : World) (hx : RdL w p.enc cs) (hi : i < p.types.length) :
    Calls Try.prog 58 #[.agg cs.toArray, .int .i64 i] w (Ret w (.int .i64 (faultCode p.types i p.types[i]))) := by
  have hx' := hx
  obtain ⟨A1, c1, rfl, g1, l0, n1⟩ := JPart.open_ hx
  obtain ⟨ad, A2, c2, rfl, y0, y1, y2, g2, m0, m1, n2⟩ := JTyp.elem g1 i hi
  have HP := Lib.hid (fun W (h : Below w.heap.size w W) => hx'.keep h)
  have HT := Lib.hid (fun W (h : Below w.heap.size w W) => (JTyp.close_ p.types[i] g2 m0 m1).keep h)
  have G2 := Lib.hid (fun W (h : Below w.heap.size w W) => g2.below h)
  have hiI : (i : Int) < p.types.length := by omega
  replace y0 := cell_keep (b1 w (.cells #[.string p.name, .slice (some ad) p.types.length c1] 33)) y0
  replace y1 := cell_keep (b1 w (.cells #[.string p.name, .slice (some ad) p.types.length c1] 33)) y1
  replace y2 := cell_keep (b1 w (.cells #[.string p.name, .slice (some ad) p.types.length c1] 33)) y2
  have hb0 := Lib.hid (bt (b1 _ _) (b1 _ _) : Below w.heap.size w ((w.alloc (.cells #[.string p.name, .slice (some ad) p.types.length c1] 33)).alloc (.cells #[.string p.types[i].name, .string p.types[i].key, .slice A2 p.types[i].fields.length c2] 71)))
  have fin : ∀ (W : World) (c : Int), Below ((w.alloc (.cells #[.string p.name, .slice (some ad) p.types.length c1] 33)).alloc (.cells #[.string p.types[i].name, .string p.types[i].key, .slice A2 p.types[i].fields.length c2] 71)).heap.size ((w.alloc (.cells #[.string p.name, .slice (some ad) p.types.length c1] 33)).alloc (.cells #[.string p.types[i].name, .string p.types[i].key, .slice A2 p.types[i].fields.length c2] 71)) W → c = faultCode p.types i p.types[i] → Ret w (.int .i64 (faultCode p.types i p.types[i])) (.returned (.int .i64 c)) W := fun W c h e => Ret.int e (bt hb0.out h)
  replace fin := Lib.hid fin
  clear hx hx' g1 g2
  by_cases qN : NameOk p.types[i].name
  case neg =>
    replace qN := Lib.hid qN
    go_enter Try.func58, Try.ntmps58
    go_wp2_with fail
    refine (l2Name_c _ _ m0).mono ?_
    intro e wq hr
    obtain ⟨rfl, rfl⟩ := RetQ.ff qN.out hr
    clear hr
    go_wp2
    go_ret
    exact fin.out _ _ (Below.refl _ _) (by unfold faultCode; rw [tf_t (show p.types[i].badLine from .inl qN.out)]; rfl)
  replace qN := Lib.hid qN
  by_cases qK : p.types[i].key ≠ ⟨#[]⟩ ∧ ¬ NameOk p.types[i].key
  case pos =>
    have t1 := empty_f qK.1
    replace qK := Lib.hid qK
    go_enter Try.func58, Try.ntmps58
    go_wp2_with fail
    refine (l2Name_c _ _ m0).mono ?_
    intro e wq hr
    obtain ⟨rfl, rfl⟩ := RetQ.tt qN.out hr
    clear hr
    go_wp2_with fail
    refine (l2Name_c _ _ m1).mono ?_
    intro e wq hr
    obtain ⟨rfl, rfl⟩ := RetQ.ff qK.out.2 hr
    clear hr
    go_wp2
    go_ret
    exact fin.out _ _ (Below.refl _ _) (by unfold faultCode; rw [tf_t (show p.types[i].badLine from .inr (.inl qK.out))]; rfl)
  have hkey : p.types[i].key = ⟨#[]⟩ ∨ (p.types[i].key ≠ ⟨#[]⟩ ∧ NameOk p.types[i].key) := by
    by_cases h : p.types[i].key = ⟨#[]⟩
    · exact .inl h
    · exact .inr ⟨h, Classical.byContradiction fun hn => qK ⟨h, hn⟩⟩
  replace qK := Lib.hid qK
  have hkt : ((p.types[i].key.toList == []) = true ∧ Hid True) ∨ ((p.types[i].key.toList == []) = false ∧ Hid (NameOk p.types[i].key)) := hkey.imp (fun h => ⟨empty_t h, trivial⟩) (fun h => ⟨empty_f h.1, h.2⟩)
  clear hkey
  by_cases qF : InI p.types[i].fields.length 1 8
  case neg =>
    have hlen : p.types[i].fields.length = 0 ∨ (0 < p.types[i].fields.length ∧ (8 : Int) < p.types[i].fields.length) := by unfold InI at qF; omega
    replace qF := Lib.hid qF
    rcases hlen with hlen | ⟨hlen, hlen8⟩
    · have e0 : (((p.types[i].fields.length : Nat) : Int) == 0) = true := by rw [hlen]; rfl
      replace hlen := Lib.hid hlen
      rcases hkt with ⟨t1, hk⟩ | ⟨t1, hk⟩
      · go_enter Try.func58, Try.ntmps58
        go_wp2_with fail
        refine (l2Name_c _ _ m0).mono ?_
        intro e wq hr
        obtain ⟨rfl, rfl⟩ := RetQ.tt qN.out hr
        clear hr
        go_wp2
        go_ret
        exact fin.out _ _ (Below.refl _ _) (by unfold faultCode; rw [tf_t (show p.types[i].badLine from .inr (.inr (.inl qF.out)))]; rfl)
      · go_enter Try.func58, Try.ntmps58
        go_wp2_with fail
        refine (l2Name_c _ _ m0).mono ?_
        intro e wq hr
        obtain ⟨rfl, rfl⟩ := RetQ.tt qN.out hr
        clear hr
        go_wp2_with fail
        refine (l2Name_c _ _ m1).mono ?_
        intro e wq hr
        obtain ⟨rfl, rfl⟩ := RetQ.tt hk.out hr
        clear hr
        go_wp2
        go_ret
        exact fin.out _ _ (Below.refl _ _) (by unfold faultCode; rw [tf_t (show p.types[i].badLine from .inr (.inr (.inl qF.out)))]; rfl)
    · have e0 : (((p.types[i].fields.length : Nat) : Int) == 0) = false := by rw [beq_eq_false_iff_ne]; omega
      rcases hkt with ⟨t1, hk⟩ | ⟨t1, hk⟩
      · go_enter Try.func58, Try.ntmps58
        go_wp2_with fail
        refine (l2Name_c _ _ m0).mono ?_
        intro e wq hr
        obtain ⟨rfl, rfl⟩ := RetQ.tt qN.out hr
        clear hr
        go_wp2
        go_ret
        exact fin.out _ _ (Below.refl _ _) (by unfold faultCode; rw [tf_t (show p.types[i].badLine from .inr (.inr (.inl qF.out)))]; rfl)
      · go_enter Try.func58, Try.ntmps58
        go_wp2_with fail
        refine (l2Name_c _ _ m0).mono ?_
        intro e wq hr
        obtain ⟨rfl, rfl⟩ := RetQ.tt qN.out hr
        clear hr
        go_wp2_with fail
        refine (l2Name_c _ _ m1).mono ?_
        intro e wq hr
        obtain ⟨rfl, rfl⟩ := RetQ.tt hk.out hr
        clear hr
        go_wp2
        go_ret
        exact fin.out _ _ (Below.refl _ _) (by unfold faultCode; rw [tf_t (show p.types[i].badLine from .inr (.inr (.inl qF.out)))]; rfl)
  have e0 : (((p.types[i].fields.length : Nat) : Int) == 0) = false := by unfold InI at qF; rw [beq_eq_false_iff_ne]; omega
  have e8 : ¬ (8 : Int) < p.types[i].fields.length := by unfold InI at qF; omega
  replace qF := Lib.hid qF
  go_enter Try.func58, Try.ntmps58
  go_upto_region 2 with fail
  go_cut [43] (fun s wx => s = .bool false ∧ wx = ((w.alloc (.cells #[.string p.name, .slice (some ad) p.types.length c1] 33)).alloc (.cells #[.string p.types[i].name, .string p.types[i].key, .slice A2 p.types[i].fields.length c2] 71)))
  case first =>
    rcases hkt with ⟨t1, hk⟩ | ⟨t1, hk⟩
    · skip
      go_wp2_with fail
      refine (l2Name_c _ _ m0).mono ?_
      intro e wq hr
      obtain ⟨rfl, rfl⟩ := RetQ.tt qN.out hr
      clear hr
      go_wp2_with fail
      go_meet
      exact ⟨by simp [e8], rfl⟩
    · skip
      go_wp2_with fail
      refine (l2Name_c _ _ m0).mono ?_
      intro e wq hr
      obtain ⟨rfl, rfl⟩ := RetQ.tt qN.out hr
      clear hr
      go_wp2_with fail
      refine (l2Name_c _ _ m1).mono ?_
      intro e wq hr
      obtain ⟨rfl, rfl⟩ := RetQ.tt hk.out hr
      clear hr
      go_wp2_with fail
      go_meet
      exact ⟨by simp [e8], rfl⟩
  case rest =>
    obtain ⟨rfl, rfl⟩ := hcut
    go_wp2
    go_loopw [6, 7, 8] (fun x _ _ wr => ∃ k : Nat, k ≤ p.types[i].fields.length ∧ x = .int .i64 k ∧ Hid (Below ((w.alloc (.cells #[.string p.name, .slice (some ad) p.types.length c1] 33)).alloc (.cells #[.string p.types[i].name, .string p.types[i].key, .slice A2 p.types[i].fields.length c2] 71)).heap.size ((w.alloc (.cells #[.string p.name, .slice (some ad) p.types.length c1] 33)).alloc (.cells #[.string p.types[i].name, .string p.types[i].key, .slice A2 p.types[i].fields.length c2] 71)) wr) ∧ Hid (∀ j (h : j < p.types[i].fields.length), j < k → ¬ FieldBad p.types[i].fields[j])) (fun x _ _ _ => p.types[i].fields.length - (intOf x).toNat)
    case atStart => exact ⟨0, Nat.zero_le _, rfl, Below.refl _ _, Lib.hid (fun j h hj => absurd hj (by omega))⟩
    case round =>
      obtain ⟨k, hk_, rfl, HB, HA⟩ := hrel
      have p0 : wr.cell? ⟨w.heap.size, 0, none⟩ = some (.string p.name) := cell_keep HB.out (by simp [go_sem])
      have p1 : wr.cell? ⟨w.heap.size, 1, none⟩ = some (.slice (some ad) p.types.length c1) := cell_keep HB.out (by simp [go_sem])
      have t0 : wr.cell? ⟨w.heap.size + 1, 0, none⟩ = some (.string p.types[i].name) := cell_keep HB.out (by simp [go_sem])
      have t1_ : wr.cell? ⟨w.heap.size + 1, 1, none⟩ = some (.string p.types[i].key) := cell_keep HB.out (by simp [go_sem])
      have t2 : wr.cell? ⟨w.heap.size + 1, 2, none⟩ = some (.slice A2 p.types[i].fields.length c2) := cell_keep HB.out (by simp [go_sem])
      have hzr : w.heap.size + 1 < wr.heap.size := by have := (HB.out).size; (try simp at this); omega
      have hzr0 : w.heap.size < wr.heap.size := by omega
      by_cases hlt : k < p.types[i].fields.length
      case pos =>
        obtain ⟨ae, A7, c7, ea, v0, v1, v2, v3, v4, v5, v6, v7, g7, k0, k1, k7⟩ := JField.elem (G2.out _ (bt hb0.out HB.out)) k hlt
        subst ea
        have bad : FieldBad p.types[i].fields[k] → p.types[i].badLine := fun h => .inr (.inr (.inr ⟨_, List.getElem_mem hlt, h⟩))
        replace bad := Lib.hid bad
        have G7 := Lib.hid (g7.below (b1 wr (.cells #[.string p.types[i].fields[k].name, .string p.types[i].fields[k].of, .bool p.types[i].fields[k].list, .bool p.types[i].fields[k].must, .bool p.types[i].fields[k].far, .bool p.types[i].fields[k].hidden, .bool p.types[i].fields[k].shared, .slice A7 p.types[i].fields[k].needs.length c7] 59)))
        clear g7
        have hBa := Lib.hid (HB.out.trans ((b1 wr (.cells #[.string p.types[i].fields[k].name, .string p.types[i].fields[k].of, .bool p.types[i].fields[k].list, .bool p.types[i].fields[k].must, .bool p.types[i].fields[k].far, .bool p.types[i].fields[k].hidden, .bool p.types[i].fields[k].shared, .slice A7 p.types[i].fields[k].needs.length c7] 59)).mono HB.out.size))
        by_cases d0 : NameOk p.types[i].fields[k].name
        case neg =>
          replace d0 := Lib.hid d0
          go_wp2_with fail
          refine (l2Name_c _ _ k0).mono ?_
          intro e wq hr
          obtain ⟨rfl, rfl⟩ := RetQ.ff d0.out hr
          clear hr
          go_wp2
          go_ret
          exact fin.out _ _ hBa.out (by unfold faultCode; rw [tf_t (show p.types[i].badLine from bad.out (.inl d0.out))]; rfl)
        replace d0 := Lib.hid d0
        by_cases d1 : p.types[i].fields[k].of ∈ ofWords
        · replace d1 := Lib.hid d1
          go_wp2_with fail
          refine (l2Name_c _ _ k0).mono ?_
          intro e wq hr
          obtain ⟨rfl, rfl⟩ := RetQ.tt d0.out hr
          clear hr
          go_wp2_with fail
          refine (l2Scalar_c _ _).mono ?_
          intro e wq hr
          obtain ⟨rfl, rfl⟩ := RetQ.tt d1.out hr
          clear hr
          go_wp2
          go_loop [8] (fun x => ∃ m : Nat, m ≤ p.types[i].fields[k].needs.length ∧ x = .int .i64 m ∧ Hid (∀ j (h : j < p.types[i].fields[k].needs.length), j < m → NameOk p.types[i].fields[k].needs[j])) (fun x => p.types[i].fields[k].needs.length - (intOf x).toNat)
          case atStart => exact ⟨0, Nat.zero_le _, rfl, Lib.hid (fun j h hj => absurd hj (by omega))⟩
          case round =>
            obtain ⟨m, hm, rfl, HN⟩ := hrel
            by_cases hltm : m < p.types[i].fields[k].needs.length
            case pos =>
              obtain ⟨an, en, u0, u1⟩ := Rd.elem_str G7.out m hltm
              subst en
              by_cases d3 : NameOk p.types[i].fields[k].needs[m]
              case neg =>
                replace d3 := Lib.hid d3
                go_wp2_with fail
                refine (l2Name_c _ _ u1).mono ?_
                intro e wq hr
                obtain ⟨rfl, rfl⟩ := RetQ.ff d3.out hr
                clear hr
                go_wp2
                go_ret
                exact fin.out _ _ hBa.out (by unfold faultCode; rw [tf_t (show p.types[i].badLine from bad.out (.inr (.inr ⟨_, List.getElem_mem hltm, d3.out⟩)))]; rfl)
              replace d3 := Lib.hid d3
              go_wp2_with fail
              refine (l2Name_c _ _ u1).mono ?_
              intro e wq hr
              obtain ⟨rfl, rfl⟩ := RetQ.tt d3.out hr
              clear hr
              go_wp2
              go_round
              case rel => exact ⟨m + 1, by omega, by go_num, Lib.hid (fun j h hj => by
                by_cases e : j = m
                · subst e; exact d3.out
                · exact HN.out j h (by omega))⟩
              case measure => simp [intOf]; omega
            have hnb : Hid (¬ FieldBad p.types[i].fields[k]) := fun h => by
              rcases h with h | h | ⟨n, hn, hb⟩
              · exact h d0.out
              · exact h.2 d1.out
              · obtain ⟨j, hj, rfl⟩ := List.getElem_of_mem hn
                exact hb (HN.out j hj (by omega))
            go_wp2
            go_roundw
            case rel => exact ⟨k + 1, by omega, by go_num, hBa.out, Lib.hid (fun j h hj => by
              by_cases e : j = k
              · subst e; exact hnb.out
              · exact HA.out j h (by omega))⟩
            case measure => simp [intOf]; omega
        · replace d1 := Lib.hid d1
          by_cases d2 : NameOk p.types[i].fields[k].of
          case neg =>
            replace d2 := Lib.hid d2
            go_wp2_with fail
            refine (l2Name_c _ _ k0).mono ?_
            intro e wq hr
            obtain ⟨rfl, rfl⟩ := RetQ.tt d0.out hr
            clear hr
            go_wp2_with fail
            refine (l2Scalar_c _ _).mono ?_
            intro e wq hr
            obtain ⟨rfl, rfl⟩ := RetQ.ff d1.out hr
            clear hr
            go_wp2_with fail
            refine (l2Name_c _ _ k1).mono ?_
            intro e wq hr
            obtain ⟨rfl, rfl⟩ := RetQ.ff d2.out hr
            clear hr
            go_wp2
            go_ret
            exact fin.out _ _ hBa.out (by unfold faultCode; rw [tf_t (show p.types[i].badLine from bad.out (.inr (.inl ⟨d2.out, d1.out⟩)))]; rfl)
          replace d2 := Lib.hid d2
          go_wp2_with fail
          refine (l2Name_c _ _ k0).mono ?_
          intro e wq hr
          obtain ⟨rfl, rfl⟩ := RetQ.tt d0.out hr
          clear hr
          go_wp2_with fail
          refine (l2Scalar_c _ _).mono ?_
          intro e wq hr
          obtain ⟨rfl, rfl⟩ := RetQ.ff d1.out hr
          clear hr
          go_wp2_with fail
          refine (l2Name_c _ _ k1).mono ?_
          intro e wq hr
          obtain ⟨rfl, rfl⟩ := RetQ.tt d2.out hr
          clear hr
          go_wp2
          go_loop [8] (fun x => ∃ m : Nat, m ≤ p.types[i].fields[k].needs.length ∧ x = .int .i64 m ∧ Hid (∀ j (h : j < p.types[i].fields[k].needs.length), j < m → NameOk p.types[i].fields[k].needs[j])) (fun x => p.types[i].fields[k].needs.length - (intOf x).toNat)
          case atStart => exact ⟨0, Nat.zero_le _, rfl, Lib.hid (fun j h hj => absurd hj (by omega))⟩
          case round =>
            obtain ⟨m, hm, rfl, HN⟩ := hrel
            by_cases hltm : m < p.types[i].fields[k].needs.length
            case pos =>
              obtain ⟨an, en, u0, u1⟩ := Rd.elem_str G7.out m hltm
              subst en
              by_cases d3 : NameOk p.types[i].fields[k].needs[m]
              case neg =>
                replace d3 := Lib.hid d3
                go_wp2_with fail
                refine (l2Name_c _ _ u1).mono ?_
                intro e wq hr
                obtain ⟨rfl, rfl⟩ := RetQ.ff d3.out hr
                clear hr
                go_wp2
                go_ret
                exact fin.out _ _ hBa.out (by unfold faultCode; rw [tf_t (show p.types[i].badLine from bad.out (.inr (.inr ⟨_, List.getElem_mem hltm, d3.out⟩)))]; rfl)
              replace d3 := Lib.hid d3
              go_wp2_with fail
              refine (l2Name_c _ _ u1).mono ?_
              intro e wq hr
              obtain ⟨rfl, rfl⟩ := RetQ.tt d3.out hr
              clear hr
              go_wp2
              go_round
              case rel => exact ⟨m + 1, by omega, by go_num, Lib.hid (fun j h hj => by
                by_cases e : j = m
                · subst e; exact d3.out
                · exact HN.out j h (by omega))⟩
              case measure => simp [intOf]; omega
            have hnb : Hid (¬ FieldBad p.types[i].fields[k]) := fun h => by
              rcases h with h | h | ⟨n, hn, hb⟩
              · exact h d0.out
              · exact h.1 d2.out
              · obtain ⟨j, hj, rfl⟩ := List.getElem_of_mem hn
                exact hb (HN.out j hj (by omega))
            go_wp2
            go_roundw
            case rel => exact ⟨k + 1, by omega, by go_num, hBa.out, Lib.hid (fun j h hj => by
              by_cases e : j = k
              · subst e; exact hnb.out
              · exact HA.out j h (by omega))⟩
            case measure => simp [intOf]; omega
      have hline : Hid (¬ p.types[i].badLine) := fun h => by
        rcases h with h | h | h | ⟨f, hf, hb⟩
        · exact h qN.out
        · exact qK.out h
        · exact h qF.out
        · obtain ⟨j, hj, rfl⟩ := List.getElem_of_mem hf
          exact HA.out j hj (by omega) hb
      clear HA
      go_wp2_with fail
      refine (l2Type_c p _ p.types[i].name _ (HP.out _ (bt hb0.out HB.out))).mono ?_
      rintro e w1 ⟨ix, ⟨rfl, hb1⟩, hf⟩
      have hB1 := Lib.hid (bt HB.out hb1)
      have hself := firstAt_self hf hi rfl
      clear hf hb1 HB p0 p1 t0 t1_ t2
      by_cases hix : ix = i
      case neg =>
        have hne : (ix == (i : Int)) = false := by rw [beq_eq_false_iff_ne]; exact hix
        have htw : Hid (∃ u, u ∈ p.types.take i ∧ u.name = p.types[i].name) := Classical.byContradiction fun h => hix (hself.2 h)
        clear hself hix
        go_wp2
        go_ret
        exact fin.out _ _ hB1.out (by unfold faultCode; rw [tf_f hline.out]; rw [tf_t (show TwiceP p.types i p.types[i] from .inl htw.out)]; rfl)
      have hno : Hid (¬ ∃ u, u ∈ p.types.take i ∧ u.name = p.types[i].name) := hself.1 hix
      subst hix
      clear hself
      go_wp2
      go_loopw [9] (fun x wr => ∃ k : Nat, k ≤ p.types[i].fields.length ∧ x = .int .i64 k ∧ Hid (Below ((w.alloc (.cells #[.string p.name, .slice (some ad) p.types.length c1] 33)).alloc (.cells #[.string p.types[i].name, .string p.types[i].key, .slice A2 p.types[i].fields.length c2] 71)).heap.size ((w.alloc (.cells #[.string p.name, .slice (some ad) p.types.length c1] 33)).alloc (.cells #[.string p.types[i].name, .string p.types[i].key, .slice A2 p.types[i].fields.length c2] 71)) wr) ∧ Hid (∀ j (h : j < p.types[i].fields.length), j < k → ¬ ∃ u, u ∈ p.types[i].fields.take j ∧ u.name = p.types[i].fields[j].name)) (fun x _ => p.types[i].fields.length - (intOf x).toNat)
      case atStart => exact ⟨0, Nat.zero_le _, rfl, hB1.out, Lib.hid (fun j h hj => absurd hj (by omega))⟩
      case round =>
        obtain ⟨k, hk_, rfl, HB, HA⟩ := hrel
        have p0 : wr.cell? ⟨w.heap.size, 0, none⟩ = some (.string p.name) := cell_keep HB.out (by simp [go_sem])
        have p1 : wr.cell? ⟨w.heap.size, 1, none⟩ = some (.slice (some ad) p.types.length c1) := cell_keep HB.out (by simp [go_sem])
        have t0 : wr.cell? ⟨w.heap.size + 1, 0, none⟩ = some (.string p.types[i].name) := cell_keep HB.out (by simp [go_sem])
        have t1_ : wr.cell? ⟨w.heap.size + 1, 1, none⟩ = some (.string p.types[i].key) := cell_keep HB.out (by simp [go_sem])
        have t2 : wr.cell? ⟨w.heap.size + 1, 2, none⟩ = some (.slice A2 p.types[i].fields.length c2) := cell_keep HB.out (by simp [go_sem])
        have hzr : w.heap.size + 1 < wr.heap.size := by have := (HB.out).size; (try simp at this); omega
        have hzr0 : w.heap.size < wr.heap.size := by omega
        by_cases hlt : k < p.types[i].fields.length
        case pos =>
          obtain ⟨ae, A7, c7, ea, v0, v1, v2, v3, v4, v5, v6, v7, g7, k0, k1, k7⟩ := JField.elem (G2.out _ (bt hb0.out HB.out)) k hlt
          subst ea
          clear g7
          have hS := Lib.hid (fun (w' : World) (h : Below wr.heap.size wr w') => (⟨cell_keep h t0, cell_keep h t1_, cell_keep h t2, cell_keep h v0, h⟩ : w'.cell? ⟨w.heap.size + 1, 0, none⟩ = some (.string p.types[i].name) ∧ w'.cell? ⟨w.heap.size + 1, 1, none⟩ = some (.string p.types[i].key) ∧ w'.cell? ⟨w.heap.size + 1, 2, none⟩ = some (.slice (some ae) p.types[i].fields.length c2) ∧ w'.cell? (ae.add (k * 8)) = some (.string p.types[i].fields[k].name) ∧ Below wr.heap.size wr w'))
          have hbd := (Below.refl wr.heap.size wr).drew
          go_wp2_with fail
          first
            | (go_region_held3 (fun w' => w'.cell? ⟨w.heap.size + 1, 0, none⟩ = some (.string p.types[i].name) ∧ w'.cell? ⟨w.heap.size + 1, 1, none⟩ = some (.string p.types[i].key) ∧ w'.cell? ⟨w.heap.size + 1, 2, none⟩ = some (.slice (some ae) p.types[i].fields.length c2) ∧ w'.cell? (ae.add (k * 8)) = some (.string p.types[i].fields[k].name) ∧ Below wr.heap.size wr w') (first | (with_reducible exact hS.out _ hbd) | (with_reducible exact hS.out _ hb2))
                (first | (go_at_call 71; refine (l2Field_c p.types[i] _ p.types[i].fields[k].name _ (HT.out _ (bt hb0.out (bt HB.out hbd)))).mono ?_; rintro e w2 ⟨iy, ⟨rfl, hb2_⟩, hf⟩; have hb2 := bt hbd hb2_)))
            | fail "region"
          have hB2 := Lib.hid (bt HB.out hb2)
          have hself := firstAt_self hf hlt rfl
          clear hf hb2 hbd hS
          by_cases hiy : iy = k
          case neg =>
            have hne : (iy == (k : Int)) = false := by rw [beq_eq_false_iff_ne]; exact hiy
            have htw : Hid (∃ u, u ∈ p.types[i].fields.take k ∧ u.name = p.types[i].fields[k].name) := Classical.byContradiction fun h => hiy (hself.2 h)
            clear hself hiy
            go_wp2
            go_ret
            exact fin.out _ _ hB2.out (by unfold faultCode; rw [tf_f hline.out]; rw [tf_t (show TwiceP p.types i p.types[i] from .inr (twice_names.2 ⟨k, hlt, htw.out⟩))]; rfl)
          have hgood : Hid (¬ ∃ u, u ∈ p.types[i].fields.take k ∧ u.name = p.types[i].fields[k].name) := hself.1 hiy
          subst hiy
          clear hself
          go_wp2
          go_roundw
          case rel => exact ⟨k + 1, by omega, by go_num, hB2.out, Lib.hid (fun j h hj => by
            by_cases e : j = k
            · subst e; exact hgood.out
            · exact HA.out j h (by omega))⟩
          case measure => simp [intOf]; omega
        have htwo : Hid (¬ TwiceP p.types i p.types[i]) := fun h => h.elim hno.out (fun h => by obtain ⟨j, hj, hb⟩ := twice_names.1 h; exact HA.out j hj (by omega) hb)
        clear HA
        have hB3 := HB
        go_wp2
        go_loopw [10] (fun x wr => ∃ k : Nat, k ≤ p.types[i].fields.length ∧ x = .int .i64 k ∧ Hid (Below ((w.alloc (.cells #[.string p.name, .slice (some ad) p.types.length c1] 33)).alloc (.cells #[.string p.types[i].name, .string p.types[i].key, .slice A2 p.types[i].fields.length c2] 71)).heap.size ((w.alloc (.cells #[.string p.name, .slice (some ad) p.types.length c1] 33)).alloc (.cells #[.string p.types[i].name, .string p.types[i].key, .slice A2 p.types[i].fields.length c2] 71)) wr) ∧ Hid (∀ j (h : j < p.types[i].fields.length), j < k → ¬ Strange p.types p.types[i].fields[j])) (fun x _ => p.types[i].fields.length - (intOf x).toNat)
        case atStart => exact ⟨0, Nat.zero_le _, rfl, hB3.out, Lib.hid (fun j h hj => absurd hj (by omega))⟩
        case round =>
          obtain ⟨k, hk_, rfl, HB, HA⟩ := hrel
          have p0 : wr.cell? ⟨w.heap.size, 0, none⟩ = some (.string p.name) := cell_keep HB.out (by simp [go_sem])
          have p1 : wr.cell? ⟨w.heap.size, 1, none⟩ = some (.slice (some ad) p.types.length c1) := cell_keep HB.out (by simp [go_sem])
          have t0 : wr.cell? ⟨w.heap.size + 1, 0, none⟩ = some (.string p.types[i].name) := cell_keep HB.out (by simp [go_sem])
          have t1_ : wr.cell? ⟨w.heap.size + 1, 1, none⟩ = some (.string p.types[i].key) := cell_keep HB.out (by simp [go_sem])
          have t2 : wr.cell? ⟨w.heap.size + 1, 2, none⟩ = some (.slice A2 p.types[i].fields.length c2) := cell_keep HB.out (by simp [go_sem])
          have hzr : w.heap.size + 1 < wr.heap.size := by have := (HB.out).size; (try simp at this); omega
          have hzr0 : w.heap.size < wr.heap.size := by omega
          by_cases hlt : k < p.types[i].fields.length
          case pos =>
            obtain ⟨ae, A7, c7, ea, v0, v1, v2, v3, v4, v5, v6, v7, g7, k0, k1, k7⟩ := JField.elem (G2.out _ (bt hb0.out HB.out)) k hlt
            subst ea
            clear g7
            by_cases d1 : p.types[i].fields[k].of ∈ ofWords
            · have HS1 := Lib.hid (fun W => (by rw [← tf_t d1]; exact l2Scalar_c p.types[i].fields[k].of W : Calls Try.prog 87 #[.string p.types[i].fields[k].of] W (RetQ W (.bool true))))
              have hgood : Hid (¬ Strange p.types p.types[i].fields[k]) := fun h => h.1 d1
              clear d1
              go_wp2_with fail
              go_quiet (first | (go_at_call 87; exact Calls.quiet_of_same (HS1.out _)))
              go_wp2
              go_roundw
              case rel => exact ⟨k + 1, by omega, by go_num, Lib.hid (drewN_below HB.out _), Lib.hid (fun j h hj => by
                by_cases e : j = k
                · subst e; exact hgood.out
                · exact HA.out j h (by omega))⟩
              case measure => simp [intOf]; omega
            have HS1 := Lib.hid (fun W => (by rw [← tf_f d1]; exact l2Scalar_c p.types[i].fields[k].of W : Calls Try.prog 87 #[.string p.types[i].fields[k].of] W (RetQ W (.bool false))))
            replace d1 := Lib.hid d1
            have hS := Lib.hid (fun (w' : World) (h : Below wr.heap.size wr w') => (⟨cell_keep h p0, cell_keep h p1, cell_keep h t2, cell_keep h v1, h⟩ : w'.cell? ⟨w.heap.size, 0, none⟩ = some (.string p.name) ∧ w'.cell? ⟨w.heap.size, 1, none⟩ = some (.slice (some ad) p.types.length c1) ∧ w'.cell? ⟨w.heap.size + 1, 2, none⟩ = some (.slice (some ae) p.types[i].fields.length c2) ∧ w'.cell? ⟨(ae.add (k * 8)).block, (ae.add (k * 8)).off + 1, none⟩ = some (.string p.types[i].fields[k].of) ∧ Below wr.heap.size wr w'))
            have hbd := (Below.refl wr.heap.size wr).drew
            go_wp2_with fail
            first
              | (go_region_held3 (fun w' => w'.cell? ⟨w.heap.size, 0, none⟩ = some (.string p.name) ∧ w'.cell? ⟨w.heap.size, 1, none⟩ = some (.slice (some ad) p.types.length c1) ∧ w'.cell? ⟨w.heap.size + 1, 2, none⟩ = some (.slice (some ae) p.types[i].fields.length c2) ∧ w'.cell? ⟨(ae.add (k * 8)).block, (ae.add (k * 8)).off + 1, none⟩ = some (.string p.types[i].fields[k].of) ∧ Below wr.heap.size wr w') (first | (with_reducible exact hS.out _ hbd) | (with_reducible exact hS.out _ hb2))
                  (first | (go_at_call 87; (with_reducible refine (HS1.out _).mono ?_); rintro e w3 ⟨rfl, rfl⟩) | (go_at_call 70; refine (l2Type_c p _ p.types[i].fields[k].of _ (HP.out _ (bt hb0.out (bt HB.out hbd)))).mono ?_; rintro e w2 ⟨iy, ⟨rfl, hb2_⟩, hf⟩; have hb2 := bt hbd hb2_)))
              | fail "region"
            have hB2 := Lib.hid (bt HB.out hb2)
            clear hb2 hbd hS
            rcases hf with ⟨rfl, hn⟩ | ⟨m, rfl, hm, hn, _⟩
            · have hbad : Hid (Strange p.types p.types[i].fields[k]) := ⟨d1.out, fun ⟨u, hu, he⟩ => by obtain ⟨j, hj, rfl⟩ := List.getElem_of_mem hu; exact hn j hj he⟩
              clear hn
              go_wp2
              go_ret
              exact fin.out _ _ hB2.out (by unfold faultCode; rw [tf_f hline.out]; rw [tf_f htwo.out]; rw [tf_t (show ∃ f, f ∈ p.types[i].fields ∧ Strange p.types f from ⟨_, List.getElem_mem hlt, hbad.out⟩)]; rfl)
            have hgood : Hid (¬ Strange p.types p.types[i].fields[k]) := fun h => h.2 ⟨_, List.getElem_mem hm, hn⟩
            have hm0 : ¬ (m : Int) < 0 := by omega
            clear hn
            go_wp2
            go_roundw
            case rel => exact ⟨k + 1, by omega, by go_num, hB2.out, Lib.hid (fun j h hj => by
              by_cases e : j = k
              · subst e; exact hgood.out
              · exact HA.out j h (by omega))⟩
            case measure => simp [intOf]; omega
          have hstr : Hid (¬ ∃ f, f ∈ p.types[i].fields ∧ Strange p.types f) := fun ⟨f, hf, hb⟩ => by obtain ⟨j, hj, rfl⟩ := List.getElem_of_mem hf; exact HA.out j hj (by omega) hb
          clear HA
          have hB4 := HB
          go_wp2_with fail
          refine (l2Key_c p.types[i] _ _ (HT.out _ (bt hb0.out HB.out))).mono ?_
          rintro e w5 ⟨rfl, hb5⟩
          have hB5 := Lib.hid (bt HB.out hb5)
          clear hb5 p0 p1 t0 t1_ t2
          by_cases hkb : p.types[i].badKey
          case pos =>
            rw [tf_f (fun h => h hkb)]
            replace hkb := Lib.hid hkb
            go_wp2
            go_ret
            exact fin.out _ _ hB5.out (by unfold faultCode; rw [tf_f hline.out]; rw [tf_f htwo.out]; rw [tf_f hstr.out]; rw [tf_t hkb.out]; rfl)
          rw [tf_t hkb]
          replace hkb := Lib.hid hkb
          go_wp2
          go_loopw [11] (fun x wr => ∃ k : Nat, k ≤ p.types[i].fields.length ∧ x = .int .i64 k ∧ Hid (Below ((w.alloc (.cells #[.string p.name, .slice (some ad) p.types.length c1] 33)).alloc (.cells #[.string p.types[i].name, .string p.types[i].key, .slice A2 p.types[i].fields.length c2] 71)).heap.size ((w.alloc (.cells #[.string p.name, .slice (some ad) p.types.length c1] 33)).alloc (.cells #[.string p.types[i].name, .string p.types[i].key, .slice A2 p.types[i].fields.length c2] 71)) wr) ∧ Hid (∀ j (h : j < p.types[i].fields.length), j < k → ¬ p.types[i].badNeed p.types[i].fields[j])) (fun x _ => p.types[i].fields.length - (intOf x).toNat)
          case atStart => exact ⟨0, Nat.zero_le _, rfl, hB5.out, Lib.hid (fun j h hj => absurd hj (by omega))⟩
          case round =>
            obtain ⟨k, hk_, rfl, HB, HA⟩ := hrel
            have p0 : wr.cell? ⟨w.heap.size, 0, none⟩ = some (.string p.name) := cell_keep HB.out (by simp [go_sem])
            have p1 : wr.cell? ⟨w.heap.size, 1, none⟩ = some (.slice (some ad) p.types.length c1) := cell_keep HB.out (by simp [go_sem])
            have t0 : wr.cell? ⟨w.heap.size + 1, 0, none⟩ = some (.string p.types[i].name) := cell_keep HB.out (by simp [go_sem])
            have t1_ : wr.cell? ⟨w.heap.size + 1, 1, none⟩ = some (.string p.types[i].key) := cell_keep HB.out (by simp [go_sem])
            have t2 : wr.cell? ⟨w.heap.size + 1, 2, none⟩ = some (.slice A2 p.types[i].fields.length c2) := cell_keep HB.out (by simp [go_sem])
            have hzr : w.heap.size + 1 < wr.heap.size := by have := (HB.out).size; (try simp at this); omega
            have hzr0 : w.heap.size < wr.heap.size := by omega
            by_cases hlt : k < p.types[i].fields.length
            case pos =>
              obtain ⟨ae, A7, c7, ea, v0, v1, v2, v3, v4, v5, v6, v7, g7, k0, k1, k7⟩ := JField.elem (G2.out _ (bt hb0.out HB.out)) k hlt
              subst ea
              have HF := Lib.hid (fun (W : World) (h : Below wr.heap.size wr W) => (JField.close_ p.types[i].fields[k] g7 k0 k1).keep h)
              clear g7
              by_cases hnb : NeedsBad p.types[i] p.types[i].fields[k]
              · have hbad : Hid (∃ f, f ∈ p.types[i].fields ∧ p.types[i].badNeed f) := ⟨_, List.getElem_mem hlt, badNeed_needs.2 (.inr hnb)⟩
                have HN := Lib.hid (fun (W : World) (h : Below wr.heap.size wr W) => (by rw [← tf_f (p := ¬ NeedsBad p.types[i] p.types[i].fields[k]) (fun h => h hnb)]; exact l2Needs_c p.types[i] p.types[i].fields[k] _ _ W (HT.out _ (bt hb0.out (bt HB.out h))) (HF.out W h) : Calls Try.prog 89 #[.agg #[.string p.types[i].name, .string p.types[i].key, .slice (some ae) p.types[i].fields.length c2], .agg #[.string p.types[i].fields[k].name, .string p.types[i].fields[k].of, .bool p.types[i].fields[k].list, .bool p.types[i].fields[k].must, .bool p.types[i].fields[k].far, .bool p.types[i].fields[k].hidden, .bool p.types[i].fields[k].shared, .slice A7 p.types[i].fields[k].needs.length c7]] W (Ret W (.bool false))))
                clear hnb
                go_wp2_with fail
                refine wp_region_grow (by kernel_rfl) (by kernel_rfl) ?_
                repeat (any_goals (first | go_big_quiet_step ((first | (intro hW; have d0 := cell_keep hW t0; have d1 := cell_keep hW t1_; have d2 := cell_keep hW t2; have e0 := cell_keep hW v0; have e1 := cell_keep hW v1; have e2 := cell_keep hW v2; have e3 := cell_keep hW v3; have e4 := cell_keep hW v4; have e5 := cell_keep hW v5; have e6 := cell_keep hW v6; have e7 := cell_keep hW v7; (go_simp <;> rfl)) | (intro hW; go_at_call 89; exact Ret.grow hW (HN.out _ hW)))) | quiet_step ((first | (intro hW; have d0 := cell_keep hW t0; have d1 := cell_keep hW t1_; have d2 := cell_keep hW t2; have e0 := cell_keep hW v0; have e1 := cell_keep hW v1; have e2 := cell_keep hW v2; have e3 := cell_keep hW v3; have e4 := cell_keep hW v4; have e5 := cell_keep hW v5; have e6 := cell_keep hW v6; have e7 := cell_keep hW v7; (go_simp <;> rfl)) | (intro hW; go_at_call 89; exact Ret.grow hW (HN.out _ hW))))))
                refine wpQuiet_nil ?_
                intro w2 hb2
                have hB2 := Lib.hid (bt HB.out hb2)
                clear hb2
                go_wp2
                go_ret
                exact fin.out _ _ hB2.out (by unfold faultCode; rw [tf_f hline.out]; rw [tf_f htwo.out]; rw [tf_f hstr.out]; rw [tf_f hkb.out]; rw [tf_t hbad.out]; rfl)
              have HN := Lib.hid (fun (W : World) (h : Below wr.heap.size wr W) => (by rw [← tf_t (p := ¬ NeedsBad p.types[i] p.types[i].fields[k]) hnb]; exact l2Needs_c p.types[i] p.types[i].fields[k] _ _ W (HT.out _ (bt hb0.out (bt HB.out h))) (HF.out W h) : Calls Try.prog 89 #[.agg #[.string p.types[i].name, .string p.types[i].key, .slice (some ae) p.types[i].fields.length c2], .agg #[.string p.types[i].fields[k].name, .string p.types[i].fields[k].of, .bool p.types[i].fields[k].list, .bool p.types[i].fields[k].must, .bool p.types[i].fields[k].far, .bool p.types[i].fields[k].hidden, .bool p.types[i].fields[k].shared, .slice A7 p.types[i].fields[k].needs.length c7]] W (Ret W (.bool true))))
              cases hfar : p.types[i].fields[k].far with
              | false =>
                have hgood : Hid (¬ p.types[i].badNeed p.types[i].fields[k]) := fun h => by
                  rcases badNeed_needs.1 h with h | h
                  · rw [hfar] at h; exact absurd h.1 (by decide)
                  · exact hnb h
                rw [hfar] at HN v4
                clear hfar hnb
                go_wp2_with fail
                refine wp_region_grow (by kernel_rfl) (by kernel_rfl) ?_
                repeat (any_goals (first | go_big_quiet_step ((first | (intro hW; have d0 := cell_keep hW t0; have d1 := cell_keep hW t1_; have d2 := cell_keep hW t2; have e0 := cell_keep hW v0; have e1 := cell_keep hW v1; have e2 := cell_keep hW v2; have e3 := cell_keep hW v3; have e4 := cell_keep hW v4; have e5 := cell_keep hW v5; have e6 := cell_keep hW v6; have e7 := cell_keep hW v7; (go_simp <;> rfl)) | (intro hW; go_at_call 89; exact Ret.grow hW (HN.out _ hW)))) | quiet_step ((first | (intro hW; have d0 := cell_keep hW t0; have d1 := cell_keep hW t1_; have d2 := cell_keep hW t2; have e0 := cell_keep hW v0; have e1 := cell_keep hW v1; have e2 := cell_keep hW v2; have e3 := cell_keep hW v3; have e4 := cell_keep hW v4; have e5 := cell_keep hW v5; have e6 := cell_keep hW v6; have e7 := cell_keep hW v7; (go_simp <;> rfl)) | (intro hW; go_at_call 89; exact Ret.grow hW (HN.out _ hW))))))
                refine wpQuiet_nil ?_
                intro w2 hb2
                have hB2 := Lib.hid (bt HB.out hb2)
                clear hb2
                go_wp2
                go_roundw
                case rel => exact ⟨k + 1, by omega, by go_num, hB2.out, Lib.hid (fun j h hj => by
                  by_cases e : j = k
                  · subst e; exact hgood.out
                  · exact HA.out j h (by omega))⟩
                case measure => simp [intOf]; omega
              | true =>
              cases hsh : p.types[i].fields[k].shared with
              | false =>
                have hgood : Hid (¬ p.types[i].badNeed p.types[i].fields[k]) := fun h => by
                  rcases badNeed_needs.1 h with h | h
                  · rw [hsh] at h; exact absurd h.2 (by decide)
                  · exact hnb h
                rw [hfar] at HN v4
                rw [hsh] at HN v6
                clear hfar hsh hnb
                go_wp2_with fail
                refine wp_region_grow (by kernel_rfl) (by kernel_rfl) ?_
                repeat (any_goals (first | go_big_quiet_step ((first | (intro hW; have d0 := cell_keep hW t0; have d1 := cell_keep hW t1_; have d2 := cell_keep hW t2; have e0 := cell_keep hW v0; have e1 := cell_keep hW v1; have e2 := cell_keep hW v2; have e3 := cell_keep hW v3; have e4 := cell_keep hW v4; have e5 := cell_keep hW v5; have e6 := cell_keep hW v6; have e7 := cell_keep hW v7; (go_simp <;> rfl)) | (intro hW; go_at_call 89; exact Ret.grow hW (HN.out _ hW)))) | quiet_step ((first | (intro hW; have d0 := cell_keep hW t0; have d1 := cell_keep hW t1_; have d2 := cell_keep hW t2; have e0 := cell_keep hW v0; have e1 := cell_keep hW v1; have e2 := cell_keep hW v2; have e3 := cell_keep hW v3; have e4 := cell_keep hW v4; have e5 := cell_keep hW v5; have e6 := cell_keep hW v6; have e7 := cell_keep hW v7; (go_simp <;> rfl)) | (intro hW; go_at_call 89; exact Ret.grow hW (HN.out _ hW))))))
                refine wpQuiet_nil ?_
                intro w2 hb2
                have hB2 := Lib.hid (bt HB.out hb2)
                clear hb2
                go_wp2
                go_roundw
                case rel => exact ⟨k + 1, by omega, by go_num, hB2.out, Lib.hid (fun j h hj => by
                  by_cases e : j = k
                  · subst e; exact hgood.out
                  · exact HA.out j h (by omega))⟩
                case measure => simp [intOf]; omega
              | true =>
                have hbad : Hid (∃ f, f ∈ p.types[i].fields ∧ p.types[i].badNeed f) := ⟨_, List.getElem_mem hlt, badNeed_needs.2 (.inl ⟨hfar, hsh⟩)⟩
                rw [hfar] at HN v4
                rw [hsh] at HN v6
                clear hfar hsh hnb
                go_wp2_with fail
                refine wp_region_grow (by kernel_rfl) (by kernel_rfl) ?_
                repeat (any_goals (first | go_big_quiet_step ((first | (intro hW; have d0 := cell_keep hW t0; have d1 := cell_keep hW t1_; have d2 := cell_keep hW t2; have e0 := cell_keep hW v0; have e1 := cell_keep hW v1; have e2 := cell_keep hW v2; have e3 := cell_keep hW v3; have e4 := cell_keep hW v4; have e5 := cell_keep hW v5; have e6 := cell_keep hW v6; have e7 := cell_keep hW v7; (go_simp <;> rfl)) | (intro hW; go_at_call 89; exact Ret.grow hW (HN.out _ hW)))) | quiet_step ((first | (intro hW; have d0 := cell_keep hW t0; have d1 := cell_keep hW t1_; have d2 := cell_keep hW t2; have e0 := cell_keep hW v0; have e1 := cell_keep hW v1; have e2 := cell_keep hW v2; have e3 := cell_keep hW v3; have e4 := cell_keep hW v4; have e5 := cell_keep hW v5; have e6 := cell_keep hW v6; have e7 := cell_keep hW v7; (go_simp <;> rfl)) | (intro hW; go_at_call 89; exact Ret.grow hW (HN.out _ hW))))))
                refine wpQuiet_nil ?_
                intro w2 hb2
                have hB2 := Lib.hid (bt HB.out hb2)
                clear hb2
                go_wp2
                go_ret
                exact fin.out _ _ hB2.out (by unfold faultCode; rw [tf_f hline.out]; rw [tf_f htwo.out]; rw [tf_f hstr.out]; rw [tf_f hkb.out]; rw [tf_t hbad.out]; rfl)
            have hnee : Hid (¬ ∃ f, f ∈ p.types[i].fields ∧ p.types[i].badNeed f) := fun ⟨f, hf, hb⟩ => by obtain ⟨j, hj, rfl⟩ := List.getElem_of_mem hf; exact HA.out j hj (by omega) hb
            clear HA
            go_wp2
            go_ret
            exact fin.out _ _ HB.out (by unfold faultCode; rw [tf_f hline.out]; rw [tf_f htwo.out]; rw [tf_f hstr.out]; rw [tf_f hkb.out]; rw [tf_f hnee.out]; rfl)
end Go.Proofs.Ytmkagpmdindlpaa.Lib
