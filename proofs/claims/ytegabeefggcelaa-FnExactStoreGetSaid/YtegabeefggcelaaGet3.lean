/- StoreGet on both sides: what is found of rows and cells. Sizes up to 2^20. -/
import Derived.Test.YtegabeefggcelaaGet2
set_option linter.unusedVariables false
set_option linter.unusedSimpArgs false
namespace Go.Proofs.Ytegabeefggcelaa.Lib
open Go.RowKit

def JValue.zero : JValue := ⟨0, 0, ⟨#[]⟩, [], []⟩
def JRow.zero : JRow := ⟨⟨#[]⟩, 0, []⟩
noncomputable def cellR (r : JRow) (name : ByteArray) : JValue × Bool := match r.cells.find? (fun c => tf (c.name = name)) with
  | some c => (c.value, true)
  | none => (JValue.zero, false)
noncomputable def rowR (rows : List JRow) (name : ByteArray) (id : Int) : JRow × Bool := match rows.find? (fun r => tf (r.typ = name ∧ r.id = id)) with
  | some r => (r, true)
  | none => (JRow.zero, false)
noncomputable def getR (rows : List JRow) (name : ByteArray) (id : Int) (field : ByteArray) : JValue × Bool := cellR (rowR rows name id).1 field

theorem find_no {α : Type} {p : α → Prop} {xs : List α} (h : ∀ j (hj : j < xs.length), ¬ p xs[j]) : xs.find? (fun x => tf (p x)) = none := by
  rw [List.find?_eq_none]
  intro x hx
  obtain ⟨j, hj, rfl⟩ := List.getElem_of_mem hx
  rw [tf_f (h j hj)]
  decide
theorem find_yes {α : Type} {p : α → Prop} {xs : List α} {k : Nat} (hk : k < xs.length) (h : p xs[k]) (hn : ∀ j (hj : j < xs.length), j < k → ¬ p xs[j]) : xs.find? (fun x => tf (p x)) = some xs[k] := by
  rw [List.find?_eq_some_iff_getElem]
  exact ⟨tf_t h, k, hk, rfl, fun j hj => by rw [tf_f (hn j (by omega) hj)]; rfl⟩
theorem cellR_no {r : JRow} {name : ByteArray} (h : ∀ j (hj : j < r.cells.length), ¬ r.cells[j].name = name) : cellR r name = (JValue.zero, false) := by
  unfold cellR; rw [find_no (p := fun c : JCell => c.name = name) h]
theorem cellR_yes {r : JRow} {name : ByteArray} {k : Nat} (hk : k < r.cells.length) (h : r.cells[k].name = name) (hn : ∀ j (hj : j < r.cells.length), j < k → ¬ r.cells[j].name = name) : cellR r name = (r.cells[k].value, true) := by
  unfold cellR; rw [find_yes (p := fun c : JCell => c.name = name) hk h hn]
theorem rowR_no {rows : List JRow} {name : ByteArray} {id : Int} (h : ∀ j (hj : j < rows.length), ¬ (rows[j].typ = name ∧ rows[j].id = id)) : rowR rows name id = (JRow.zero, false) := by
  unfold rowR; rw [find_no (p := fun r : JRow => r.typ = name ∧ r.id = id) h]
theorem rowR_yes {rows : List JRow} {name : ByteArray} {id : Int} {k : Nat} (hk : k < rows.length) (h : rows[k].typ = name ∧ rows[k].id = id) (hn : ∀ j (hj : j < rows.length), j < k → ¬ (rows[j].typ = name ∧ rows[j].id = id)) : rowR rows name id = (rows[k], true) := by
  unfold rowR; rw [find_yes (p := fun r : JRow => r.typ = name ∧ r.id = id) hk h hn]

/-- The call returned a struct, new through and through, and a bool. -/
def MadeB (w : World) (ds : List D) (b : Bool) (e : Ending) (w' : World) : Prop := ∃ us fp, e = .returned (.tuple #[.agg us.toArray, .bool b]) ∧ OwnRow w' ds us fp ∧ Fresh w fp ∧ Below w.heap.size w w'
/-- The call returned a struct that stands in memory, and a bool. -/
def TellB (w : World) (ds : List D) (b : Bool) (e : Ending) (w' : World) : Prop := ∃ us, e = .returned (.tuple #[.agg us.toArray, .bool b]) ∧ RdL w' ds us ∧ Below w.heap.size w w'

set_option maxHeartbeats 1600000 in
theorem l4Find_c (rows : List JRow) (A : Option Addr) (c : Nat) (name : ByteArray) (id : Int) (w : World) (hx : Rd w (slD JRow.enc 3 rows) (.slice A rows.length c)) :
    Calls Try.prog 53 #[.slice A rows.length c, .string name, .int .i64 id] w (fun e w' => ∃ i : Int, RetQ w (.int .i64 i) e w' ∧ FirstAt (fun r : JRow => r.typ = name ∧ r.id = id) rows i) := by
  obtain ⟨_, _, _, hm0, hm1, _⟩ := Rd.slice hx
  unfold maxLen at hm1
  have hm : rows.length ≤ 9223372036854775807 := by omega
  have HX := Lib.hid hx
  clear hx hm0 hm1
  go_enter Try.func53, Try.ntmps53
  go_wp2
  go_loop [7] (fun i => ∃ k : Nat, k ≤ rows.length ∧ i = .int .i64 k ∧ Hid (∀ j (h : j < rows.length), j < k → ¬ (rows[j].typ = name ∧ rows[j].id = id))) (fun i => rows.length - (intOf i).toNat)
  case atStart => exact ⟨0, Nat.zero_le _, rfl, fun j h hj => absurd hj (by omega)⟩
  case round =>
    obtain ⟨k, hk, rfl, HA⟩ := hrel
    by_cases hlt : k < rows.length
    · obtain ⟨ad, A2, c2, rfl, x0, x1, x2, g2, l0, _⟩ := JRow.elem HX.out k hlt
      clear g2
      have next : ¬ (rows[k].typ = name ∧ rows[k].id = id) → ∃ k2 : Nat, k2 ≤ rows.length ∧ Value.int .i64 ((k : Int) + 1) = .int .i64 k2 ∧ Hid (∀ j (h : j < rows.length), j < k2 → ¬ (rows[j].typ = name ∧ rows[j].id = id)) := fun hn => ⟨k + 1, by omega, by go_num, fun j h hj => by
        by_cases e : j = k
        · subst e; exact hn
        · exact HA.out j h (by omega)⟩
      replace next := Lib.hid next
      by_cases h1 : rows[k].typ = name
      · have t1 := str_t h1
        replace h1 := Lib.hid h1
        by_cases h2 : rows[k].id = id
        · have t2 : (rows[k].id == id) = true := by rw [beq_iff_eq]; exact h2
          replace h2 := Lib.hid h2
          go_wp2
          go_ret
          exact ⟨_, ⟨rfl, rfl⟩, .inr ⟨k, rfl, hlt, ⟨h1.out, h2.out⟩, fun j h hj => HA.out j h hj⟩⟩
        · have t2 : (rows[k].id == id) = false := by rw [beq_eq_false_iff_ne]; exact h2
          replace h2 := Lib.hid h2
          go_wp2
          go_round
          case rel => exact next.out (fun h => h2.out h.2)
          case measure => simp [intOf]; omega
      · have t1 := str_f h1
        replace h1 := Lib.hid h1
        go_wp2
        go_round
        case rel => exact next.out (fun h => h1.out h.1)
        case measure => simp [intOf]; omega
    · go_wp2
      go_ret
      exact ⟨_, ⟨rfl, rfl⟩, .inl ⟨rfl, fun j h => HA.out j h (by omega)⟩⟩

theorem RetQ.out' {w w' : World} {v : Value} {e : Ending} (h : RetQ w v e w') : e = .returned v ∧ w = w' := ⟨h.1, h.2.symm⟩
theorem zero_value (w : World) : OwnRow w JValue.zero.enc [.int .i64 0, .int .i64 0, .string ⟨#[]⟩, .slice none 0 0, .slice none 0 0] [] := by
  rw [JValue.enc_eq]
  exact zero_Value w
theorem zero_rd (w : World) : RdL w JValue.zero.enc [.int .i64 0, .int .i64 0, .string ⟨#[]⟩, .slice none 0 0, .slice none 0 0] := OwnRow.rdl (zero_value w)
set_option maxRecDepth 100000 in
set_option maxHeartbeats 4000000 in
theorem specStoreGet_c (rows : List JRow) (A : Option Addr) (c : Nat) (name field : ByteArray) (id : Int) (w : World) (hx : Rd w (slD JRow.enc 3 rows) (.slice A rows.length c)) (hbk : rows.length + JRow.bulks rows ≤ 1048576) :
    Calls Try.prog 26 #[.slice A rows.length c, .string name, .int .i64 id, .string field] w (MadeB w (getR rows name id field).1.enc (getR rows name id field).2) := by
  have HX := Lib.hid hx
  have HBK := Lib.hid hbk
  have HF := Lib.hid (fun W h => l4Find_c rows A c name id W h)
  clear hx hbk
  go_enter Try.func26, Try.ntmps26
  go_wp2_with fail
  refine (HF.out _ (HX.out.below (b1 _ _))).mono ?_
  intro e w1 hr
  obtain ⟨i, hr, hf⟩ := hr
  obtain ⟨rfl, rfl⟩ := hr.out'
  clear hr
  rcases hf with ⟨rfl, hn⟩ | ⟨k, rfl, hk, hp, hn⟩
  · have hv : getR rows name id field = (JValue.zero, false) := by
      unfold getR; rw [rowR_no hn]; exact cellR_no (fun j hj => by simp [JRow.zero] at hj)
    replace hv := Lib.hid hv
    clear hn
    go_wp2
    refine bodyPost_ret (v := .tuple #[.agg #[.int .i64 0, .int .i64 0, .string ⟨#[]⟩, .slice none 0 0, .slice none 0 0], .bool false]) (by simp [results, Try.results26, go_sem]) rfl ⟨_, [], by rw [hv.out], ?_, Fresh.nil _, ?_⟩
    · rw [hv.out]; exact zero_value _
    · repeat (first | (with_reducible exact b1 w _) | refine Below.setCell ?_ (by dsimp only; omega) _)
  · have hv : rowR rows name id = (rows[k], true) := rowR_yes hk hp hn
    have hv : getR rows name id field = cellR rows[k] field := by unfold getR; rw [hv]
    replace hv := Lib.hid hv
    clear hn hp
    have HQ : JRow.bulk rows[k] ≤ 1048576 := bulkL_mem (f := JRow.bulk) (xs := rows) (n := 1048576) (by have := HBK.out; rw [JRow.bulkL_eq]; omega) (List.getElem_mem hk)
    rw [JRow.bulk_eq] at HQ
    replace HQ := Lib.hid HQ
    obtain ⟨ad, A2, c2, rfl, x0, x1, x2, g2, l0, l2⟩ := JRow.elem (HX.out.below (b1 w (.cells #[.int .i64 0, .int .i64 0, .string ⟨#[]⟩, .slice none 0 0, .slice none 0 0] 31))) k hk
    have G2 := Lib.hid g2
    clear g2 x0 x1
    have hkI : (k : Int) < rows.length := by omega
    go_wp2
    go_loop [11] (fun i => ∃ j : Nat, j ≤ rows[k].cells.length ∧ i = .int .i64 j ∧ Hid (∀ q (h : q < rows[k].cells.length), q < j → ¬ rows[k].cells[q].name = field)) (fun i => rows[k].cells.length - (intOf i).toNat)
    case atStart => exact ⟨0, Nat.zero_le _, rfl, fun j h hj => absurd hj (by omega)⟩
    case round =>
      obtain ⟨j, hj, rfl, HA⟩ := hrel
      by_cases hlt : j < rows[k].cells.length
      · obtain ⟨ad2, A4, c4, A5, c5, rfl, y0, y1, y2, y3, y4, y5, g4, g5, m0, m3, _, _⟩ := JCell.elem G2.out j hlt
        have GG := Lib.hid (JValue.close_ rows[k].cells[j].value g4 g5 m3)
        clear g4 g5
        by_cases h1 : rows[k].cells[j].name = field
        · have t1 := str_t h1
          have hv2 : cellR rows[k] field = (rows[k].cells[j].value, true) := cellR_yes hlt h1 (fun q hq hqj => HA.out q hq hqj)
          replace hv2 := Lib.hid hv2
          replace h1 := Lib.hid h1
          have HM := Lib.hid (l1Copy_c rows[k].cells[j].value _ _ GG.out (by
            have h2 := bulkL_mem (f := JCell.bulk) (xs := rows[k].cells) (n := 1048576) (by have := HQ.out; rw [JCell.bulkL_eq]; omega) (List.getElem_mem hlt)
            rw [JCell.bulk_eq] at h2; omega))
          go_wp2_with fail
          refine HM.out.mono ?_
          rintro e w2 ⟨us, f2, rfl, o2, fr2, hb2⟩
          obtain ⟨B3, d3, B4, d4, rfl⟩ := JValue.openO o2
          have O2 := Lib.hid o2
          clear o2
          obtain ⟨hc2, hf2⟩ := bcell hb2
          have hz2 : w.heap.size < w2.heap.size := by have := hb2.size; simp at this; omega
          have hB2 := bt (b1 w _) hb2
          go_wp2
          refine bodyPost_ret (v := .tuple #[.agg #[.int .i64 rows[k].cells[j].value.sort, .int .i64 rows[k].cells[j].value.num, .string rows[k].cells[j].value.text, .slice B3 rows[k].cells[j].value.names.length d3, .slice B4 rows[k].cells[j].value.kids.length d4], .bool true]) (by simp [results, Try.results26, go_sem, hc2, hz2]) rfl ⟨_, f2, by rw [hv.out, hv2.out], ?_, fr2.lower (by simp), ?_⟩
          · rw [hv.out, hv2.out]
            repeat (first | (with_reducible exact O2.out) | refine OwnRow.set ?_ (fun hm => by have := fr2.2 _ hm; simp at this; omega) _)
          · repeat (first | (with_reducible exact hB2) | refine Below.setCell ?_ (by dsimp only; omega) _)
        · have t1 := str_f h1
          replace h1 := Lib.hid h1
          go_wp2
          go_round
          case rel => exact ⟨j + 1, by omega, by go_num, fun q h hq => by
            by_cases e : q = j
            · subst e; exact h1.out
            · exact HA.out q h (by omega)⟩
          case measure => simp [intOf]; omega
      · have hv2 : cellR rows[k] field = (JValue.zero, false) := cellR_no (fun q hq => HA.out q hq (by omega))
        replace hv2 := Lib.hid hv2
        go_wp2
        refine bodyPost_ret (v := .tuple #[.agg #[.int .i64 0, .int .i64 0, .string ⟨#[]⟩, .slice none 0 0, .slice none 0 0], .bool false]) (by simp [results, Try.results26, go_sem]) rfl ⟨_, [], by rw [hv.out, hv2.out], ?_, Fresh.nil _, ?_⟩
        · rw [hv.out, hv2.out]; exact zero_value _
        · repeat (first | (with_reducible exact b1 w _) | refine Below.setCell ?_ (by dsimp only; omega) _)
end Go.Proofs.Ytegabeefggcelaa.Lib
