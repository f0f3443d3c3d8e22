/- Contracts of instances of slices' functions. Printed by gslices.py. No condition. -/
import Derived.Test.YtmkagpmdindlpaaLeaf
set_option linter.unusedVariables false
set_option linter.unusedSimpArgs false
namespace Go.Proofs.Ytmkagpmdindlpaa.Lib
open Go.RowKit

/-- A function that is entered when it is called (it has a body). -/
def Live (fn : FuncId) : Prop := ∀ (args : Array Value) (w : World), Sem.run Try.prog (callFunc fn args) w = .ok (.enter fn args) w
theorem live_of {f : FuncId} {fn : Func} (hf : Try.prog.funcs[f]? = some fn) (hname : (fn.name == "runtime.NumGoroutine") = false) (hb : fn.body.isNone = false) : Live f := fun args w => by
  simp only [Option.isNone_eq_false_iff] at hb
  obtain ⟨c, hc⟩ := Option.isSome_iff_exists.1 hb
  simp [callFunc, go_sem, hf, show ¬ fn.name = "runtime.NumGoroutine" by simpa using hname, hc]
/-- A function value answers on elements as a sentence does. -/
def Asks {α : Type} (v1 : α → Value) (ok : α → Prop) (fn : FuncId) (cap : Array Value) (p : α → Prop) (w0 : World) : Prop :=
  Live fn ∧ ∀ (x : α) (w : World), ok x → Below w0.heap.size w0 w → Calls Try.prog fn (#[v1 x] ++ cap) w (Ret w (.bool (tf (p x))))
/-- The same on structs. -/
def AsksS {α : Type} (enc : α → List D) (fn : FuncId) (cap : Array Value) (p : α → Prop) (w0 : World) : Prop :=
  Live fn ∧ ∀ (x : α) (cs : List Value) (w : World), RdL w (enc x) cs → Below w0.heap.size w0 w → Calls Try.prog fn (#[.agg cs.toArray] ++ cap) w (Ret w (.bool (tf (p x))))
/-- The number of the first element of which a sentence is true; -1: of none. -/
def FirstAt {α : Type} (p : α → Prop) (xs : List α) (i : Int) : Prop := (i = -1 ∧ ∀ j (h : j < xs.length), ¬ p xs[j]) ∨ ∃ k : Nat, i = k ∧ ∃ h : k < xs.length, p xs[k] ∧ ∀ j (h : j < xs.length), j < k → ¬ p xs[j]
theorem FirstAt.iff {α : Type} {p : α → Prop} {xs : List α} {i : Int} (h : FirstAt p xs i) : 0 ≤ i ↔ ∃ x, x ∈ xs ∧ p x := by
  rcases h with ⟨rfl, h⟩ | ⟨k, rfl, hk, hp, _⟩
  · refine ⟨fun h => absurd h (by omega), fun ⟨x, hx, hp⟩ => ?_⟩
    obtain ⟨j, hj, rfl⟩ := List.getElem_of_mem hx
    exact absurd hp (h j hj)
  · exact ⟨fun _ => ⟨_, List.getElem_mem hk, hp⟩, fun _ => by omega⟩
theorem FirstAt.bounds {α : Type} {p : α → Prop} {xs : List α} {i : Int} (h : FirstAt p xs i) : -1 ≤ i ∧ i < xs.length := by
  rcases h with ⟨rfl, h⟩ | ⟨k, rfl, hk, hp, _⟩ <;> omega
def byteD (b : UInt8) : List D := [.int .u8 b.toNat]
theorem byteD_len (b : UInt8) : (byteD b).length = 1 := rfl
theorem Rd.elem_byte {w : World} {xs : List UInt8} {A : Option Addr} {n c : Nat} (h : Rd w (slD byteD 1 xs) (.slice A n c)) (k : Nat) (hk : k < xs.length) : ∃ ad, A = some ad ∧ w.cell? (ad.add k) = some (.int .u8 xs[k].toNat) := by
  obtain ⟨ad, us, h1, h2, h3⟩ := Rd.elem byteD_len h k xs[k] (by simp [hk])
  refine ⟨ad, h1, ?_⟩
  cases h2 with
  | cons h r =>
    have := h3 0 _ rfl
    simp only [Rd] at h
    subst h
    simpa using this
/-- What '[]byte(s)' makes. -/
theorem bytes_made (w : World) (s : ByteArray) (e : TypeId) (m : Nat × Nat) (hs : s.size ≤ maxLen) :
    Rd (w.drew.alloc (.cells (bytesRow s (grownCap w s.size 0 e)) e m)) (slD byteD 1 s.data.toList) (.slice (some ⟨w.heap.size, 0, none⟩) s.size (grownCap w s.size 0 e)) := by
  simp only [slD, Rd]
  refine ⟨_, _, rfl, ?_, grownCap_le_maxLen w _ _ e hs, flat_length byteD_len _, fun _ => ⟨_, rfl, ?_⟩⟩
  · have := grownCap_ge w s.size 0 e
    simpa using this
  · refine RdRow.mk fun i d hd => ?_
    have hi : i < s.data.size := by
      have := (List.getElem?_eq_some_iff.1 hd).1
      rw [flat_length byteD_len] at this
      simpa using this
    have e1 := flat_get byteD_len s.data.toList i s.data[i] (by simp [hi]) 0 (by omega)
    rw [Nat.mul_one, Nat.add_zero, hd] at e1
    simp only [byteD, List.getElem?_cons_zero, Option.some.injEq] at e1
    subst e1
    refine ⟨.int .u8 s.data[i].toNat, ?_, by simp only [Rd]⟩
    rw [Nat.zero_add, add_plain]
    have h2 := World.cell?_alloc_mark w.drew (bytesRow s (grownCap w s.size 0 e)) e m i
    rw [bytesRow_at s _ i hi] at h2
    exact h2
theorem bytes_below (w : World) (o : Obj) : Below w.heap.size w (w.drew.alloc o) := by
  have h : Below w.heap.size w w.drew := ⟨rfl, rfl, rfl, Nat.le_refl _, fun _ _ => rfl⟩
  exact h.alloc (Nat.le_refl _) _

set_option maxRecDepth 100000 in
theorem indexStr_c (xs : List ByteArray) (A : Option Addr) (c : Nat) (v : ByteArray) (w : World) (hx : Rd w (slD strD 1 xs) (.slice A xs.length c)) :
    Calls Try.prog 121 #[.slice A xs.length c, .string v] w (fun e w' => ∃ i : Int, RetQ w (.int .i64 i) e w' ∧ FirstAt (fun x => x = v) xs i) := by
  obtain ⟨_, _, _, hm0, hm1, _⟩ := Rd.slice hx
  unfold maxLen at hm1
  have hm : xs.length ≤ 9223372036854775807 := by omega
  have HX := Lib.hid hx
  clear hx hm0 hm1
  go_enter Try.func121, Try.ntmps121
  go_wp2
  go_loop [8, 5] (fun i j => ∃ k : Nat, k ≤ xs.length ∧ i = .int .i64 k ∧ Hid (∀ j (h : j < xs.length), j < k → ¬ xs[j] = v)) (fun i j => xs.length - (intOf i).toNat)
  case atStart => exact ⟨0, Nat.zero_le _, rfl, fun j h hj => absurd hj (by omega)⟩
  case round =>
    obtain ⟨k, hk, rfl, HA⟩ := hrel
    by_cases hlt : k < xs.length
    · obtain ⟨ad, rfl, hc, hsz⟩ := Rd.elem_str HX.out k hlt
      by_cases hp : xs[k] = v
      · have ht := str_t hp.symm
        have hp := Lib.hid hp
        go_wp2
        go_ret
        exact ⟨_, ⟨rfl, rfl⟩, .inr ⟨k, rfl, hlt, hp.out, HA.out⟩⟩
      · have ht := str_f (fun e => hp e.symm)
        have hp := Lib.hid hp
        go_wp2
        go_round
        case rel => exact ⟨k + 1, by omega, by go_num, fun j h hj => by
            by_cases e : j = k
            · subst e; exact hp.out
            · exact HA.out j h (by omega)⟩
        case measure => simp [intOf]; omega
    · go_wp2
      go_ret
      exact ⟨_, ⟨rfl, rfl⟩, .inl ⟨rfl, fun j h => HA.out j h (by omega)⟩⟩

theorem containsStr_c (xs : List ByteArray) (A : Option Addr) (c : Nat) (v : ByteArray) (w : World) (hx : Rd w (slD strD 1 xs) (.slice A xs.length c)) :
    Calls Try.prog 93 #[.slice A xs.length c, .string v] w (RetQ w (.bool (tf (v ∈ xs)))) := by
  have HC := Lib.hid (indexStr_c xs A c v w hx)
  clear hx
  go_enter Try.func93, Try.ntmps93
  go_wp2_with fail
  refine HC.out.mono ?_
  rintro e w1 ⟨i, ⟨rfl, rfl⟩, hi⟩
  have hi := Lib.hid hi
  go_wp2
  go_ret
  exact RetQ.d ⟨fun h => hi.out.iff.2 ⟨v, h, rfl⟩, fun h => by obtain ⟨x, hx, rfl⟩ := hi.out.iff.1 h; exact hx⟩

set_option maxRecDepth 100000 in
set_option maxHeartbeats 1600000 in
theorem indexFuncStr_c (xs : List ByteArray) (A : Option Addr) (c : Nat) (p : ByteArray → Prop) (fn : FuncId) (cap : Array Value) (w : World) (hx : Rd w (slD strD 1 xs) (.slice A xs.length c))
    (hf : Asks Value.string (fun s => s.size ≤ 9223372036854775807) fn cap p w) :
    Calls Try.prog 142 #[.slice A xs.length c, .func (.func fn) #[] cap] w (fun e w' => ∃ i : Int, Ret w (.int .i64 i) e w' ∧ FirstAt p xs i) := by
  obtain ⟨_, _, _, hm0, hm1, _⟩ := Rd.slice hx
  unfold maxLen at hm1
  have hm : xs.length ≤ 9223372036854775807 := by omega
  have HX := Lib.hid hx
  obtain ⟨hl, hf⟩ := hf
  have HL := Lib.hid hl
  have HF := Lib.hid hf
  clear hx hm0 hm1 hf hl
  go_enter Try.func142, Try.ntmps142
  go_wp2
  go_loopw [8, 5] (fun i j wr => ∃ k : Nat, k ≤ xs.length ∧ i = .int .i64 k ∧ Below w.heap.size w wr ∧ Hid (∀ j (h : j < xs.length), j < k → ¬ p xs[j])) (fun i j _ => xs.length - (intOf i).toNat)
  case atStart => exact ⟨0, Nat.zero_le _, rfl, Below.refl _ _, fun j h hj => absurd hj (by omega)⟩
  case round =>
    obtain ⟨k, hk, rfl, hbd, HA⟩ := hrel
    by_cases hlt : k < xs.length
    · obtain ⟨ad, rfl, hc, hsz⟩ := Rd.elem_str HX.out k hlt
      have hc := cell_keep hbd hc
      have hF := Lib.hid (HF.out xs[k] wr hsz hbd)
      by_cases hp : p xs[k]
      · have hp := Lib.hid hp
        go_wp2_with fail
        rw [HL.out, Oper.upon_enter]
        refine hF.out.mono ?_
        intro e w1 hr
        obtain ⟨rfl, hb1⟩ := Ret.tt hp.out hr
        clear hr
        go_wp2
        go_ret
        exact ⟨_, ⟨rfl, bt hbd hb1⟩, .inr ⟨k, rfl, hlt, hp.out, HA.out⟩⟩
      · have hp := Lib.hid hp
        go_wp2_with fail
        rw [HL.out, Oper.upon_enter]
        refine hF.out.mono ?_
        intro e w1 hr
        obtain ⟨rfl, hb1⟩ := Ret.ff hp.out hr
        clear hr
        go_wp2
        go_roundw
        case rel => exact ⟨k + 1, by omega, by go_num, bt hbd hb1, fun j h hj => by
            by_cases e : j = k
            · subst e; exact hp.out
            · exact HA.out j h (by omega)⟩
        case measure => simp [intOf]; omega
    · go_wp2
      go_ret
      exact ⟨_, ⟨rfl, hbd⟩, .inl ⟨rfl, fun j h => HA.out j h (by omega)⟩⟩

theorem containsFuncStr_c (xs : List ByteArray) (A : Option Addr) (c : Nat) (p : ByteArray → Prop) (fn : FuncId) (cap : Array Value) (w : World) (hx : Rd w (slD strD 1 xs) (.slice A xs.length c))
    (hf : Asks Value.string (fun s => s.size ≤ 9223372036854775807) fn cap p w) :
    Calls Try.prog 126 #[.slice A xs.length c, .func (.func fn) #[] cap] w (Ret w (.bool (tf (∃ x, x ∈ xs ∧ p x)))) := by
  have HC := Lib.hid (indexFuncStr_c xs A c p fn cap w hx hf)
  clear hx hf
  go_enter Try.func126, Try.ntmps126
  go_wp2_with fail
  refine HC.out.mono ?_
  rintro e w1 ⟨i, ⟨rfl, hb1⟩, hi⟩
  have hi := Lib.hid hi
  go_wp2
  go_ret
  exact Ret.d hi.out.iff.symm hb1

set_option maxRecDepth 100000 in
set_option maxHeartbeats 1600000 in
theorem indexFuncField_c (xs : List JField) (A : Option Addr) (c : Nat) (p : JField → Prop) (fn : FuncId) (cap : Array Value) (w : World) (hx : Rd w (slD JField.enc 8 xs) (.slice A xs.length c))
    (hf : AsksS JField.enc fn cap p w) :
    Calls Try.prog 127 #[.slice A xs.length c, .func (.func fn) #[] cap] w (fun e w' => ∃ i : Int, Ret w (.int .i64 i) e w' ∧ FirstAt p xs i) := by
  obtain ⟨_, _, _, hm0, hm1, _⟩ := Rd.slice hx
  unfold maxLen at hm1
  have hm : xs.length ≤ 9223372036854775807 := by omega
  have HX := Lib.hid hx
  obtain ⟨hl, hf⟩ := hf
  have HL := Lib.hid hl
  have HF := Lib.hid hf
  clear hx hm0 hm1 hf hl
  go_enter Try.func127, Try.ntmps127
  go_wp2
  go_loopw [8, 5] (fun i j wr => ∃ k : Nat, k ≤ xs.length ∧ i = .int .i64 k ∧ Below w.heap.size w wr ∧ Hid (∀ j (h : j < xs.length), j < k → ¬ p xs[j])) (fun i j _ => xs.length - (intOf i).toNat)
  case atStart => exact ⟨0, Nat.zero_le _, rfl, Below.refl _ _, fun j h hj => absurd hj (by omega)⟩
  case round =>
    obtain ⟨k, hk, rfl, hbd, HA⟩ := hrel
    by_cases hlt : k < xs.length
    · obtain ⟨ad, A7, c7, rfl, hx0, hx1, hx2, hx3, hx4, hx5, hx6, hx7, g7, l0, l1, n7⟩ := JField.elem (HX.out.below hbd) k hlt
      have hF := Lib.hid (HF.out xs[k] _ wr (JField.close_ _ g7 l0 l1) hbd)
      clear g7
      by_cases hp : p xs[k]
      · have hp := Lib.hid hp
        go_wp2_with fail
        rw [HL.out, Oper.upon_enter]
        refine hF.out.mono ?_
        intro e w1 hr
        obtain ⟨rfl, hb1⟩ := Ret.tt hp.out hr
        clear hr
        go_wp2
        go_ret
        exact ⟨_, ⟨rfl, bt hbd hb1⟩, .inr ⟨k, rfl, hlt, hp.out, HA.out⟩⟩
      · have hp := Lib.hid hp
        go_wp2_with fail
        rw [HL.out, Oper.upon_enter]
        refine hF.out.mono ?_
        intro e w1 hr
        obtain ⟨rfl, hb1⟩ := Ret.ff hp.out hr
        clear hr
        go_wp2
        go_roundw
        case rel => exact ⟨k + 1, by omega, by go_num, bt hbd hb1, fun j h hj => by
            by_cases e : j = k
            · subst e; exact hp.out
            · exact HA.out j h (by omega)⟩
        case measure => simp [intOf]; omega
    · go_wp2
      go_ret
      exact ⟨_, ⟨rfl, hbd⟩, .inl ⟨rfl, fun j h => HA.out j h (by omega)⟩⟩

theorem containsFuncField_c (xs : List JField) (A : Option Addr) (c : Nat) (p : JField → Prop) (fn : FuncId) (cap : Array Value) (w : World) (hx : Rd w (slD JField.enc 8 xs) (.slice A xs.length c))
    (hf : AsksS JField.enc fn cap p w) :
    Calls Try.prog 100 #[.slice A xs.length c, .func (.func fn) #[] cap] w (Ret w (.bool (tf (∃ x, x ∈ xs ∧ p x)))) := by
  have HC := Lib.hid (indexFuncField_c xs A c p fn cap w hx hf)
  clear hx hf
  go_enter Try.func100, Try.ntmps100
  go_wp2_with fail
  refine HC.out.mono ?_
  rintro e w1 ⟨i, ⟨rfl, hb1⟩, hi⟩
  have hi := Lib.hid hi
  go_wp2
  go_ret
  exact Ret.d hi.out.iff.symm hb1

set_option maxRecDepth 100000 in
set_option maxHeartbeats 1600000 in
theorem indexFuncTyp_c (xs : List JTyp) (A : Option Addr) (c : Nat) (p : JTyp → Prop) (fn : FuncId) (cap : Array Value) (w : World) (hx : Rd w (slD JTyp.enc 3 xs) (.slice A xs.length c))
    (hf : AsksS JTyp.enc fn cap p w) :
    Calls Try.prog 122 #[.slice A xs.length c, .func (.func fn) #[] cap] w (fun e w' => ∃ i : Int, Ret w (.int .i64 i) e w' ∧ FirstAt p xs i) := by
  obtain ⟨_, _, _, hm0, hm1, _⟩ := Rd.slice hx
  unfold maxLen at hm1
  have hm : xs.length ≤ 9223372036854775807 := by omega
  have HX := Lib.hid hx
  obtain ⟨hl, hf⟩ := hf
  have HL := Lib.hid hl
  have HF := Lib.hid hf
  clear hx hm0 hm1 hf hl
  go_enter Try.func122, Try.ntmps122
  go_wp2
  go_loopw [8, 5] (fun i j wr => ∃ k : Nat, k ≤ xs.length ∧ i = .int .i64 k ∧ Below w.heap.size w wr ∧ Hid (∀ j (h : j < xs.length), j < k → ¬ p xs[j])) (fun i j _ => xs.length - (intOf i).toNat)
  case atStart => exact ⟨0, Nat.zero_le _, rfl, Below.refl _ _, fun j h hj => absurd hj (by omega)⟩
  case round =>
    obtain ⟨k, hk, rfl, hbd, HA⟩ := hrel
    by_cases hlt : k < xs.length
    · obtain ⟨ad, A2, c2, rfl, hx0, hx1, hx2, g2, l0, l1, n2⟩ := JTyp.elem (HX.out.below hbd) k hlt
      have hF := Lib.hid (HF.out xs[k] _ wr (JTyp.close_ _ g2 l0 l1) hbd)
      clear g2
      by_cases hp : p xs[k]
      · have hp := Lib.hid hp
        go_wp2_with fail
        rw [HL.out, Oper.upon_enter]
        refine hF.out.mono ?_
        intro e w1 hr
        obtain ⟨rfl, hb1⟩ := Ret.tt hp.out hr
        clear hr
        go_wp2
        go_ret
        exact ⟨_, ⟨rfl, bt hbd hb1⟩, .inr ⟨k, rfl, hlt, hp.out, HA.out⟩⟩
      · have hp := Lib.hid hp
        go_wp2_with fail
        rw [HL.out, Oper.upon_enter]
        refine hF.out.mono ?_
        intro e w1 hr
        obtain ⟨rfl, hb1⟩ := Ret.ff hp.out hr
        clear hr
        go_wp2
        go_roundw
        case rel => exact ⟨k + 1, by omega, by go_num, bt hbd hb1, fun j h hj => by
            by_cases e : j = k
            · subst e; exact hp.out
            · exact HA.out j h (by omega)⟩
        case measure => simp [intOf]; omega
    · go_wp2
      go_ret
      exact ⟨_, ⟨rfl, hbd⟩, .inl ⟨rfl, fun j h => HA.out j h (by omega)⟩⟩

set_option maxRecDepth 100000 in
set_option maxHeartbeats 1600000 in
theorem indexFuncOwner_c (xs : List JOwner) (A : Option Addr) (c : Nat) (p : JOwner → Prop) (fn : FuncId) (cap : Array Value) (w : World) (hx : Rd w (slD JOwner.enc 3 xs) (.slice A xs.length c))
    (hf : AsksS JOwner.enc fn cap p w) :
    Calls Try.prog 51 #[.slice A xs.length c, .func (.func fn) #[] cap] w (fun e w' => ∃ i : Int, Ret w (.int .i64 i) e w' ∧ FirstAt p xs i) := by
  obtain ⟨_, _, _, hm0, hm1, _⟩ := Rd.slice hx
  unfold maxLen at hm1
  have hm : xs.length ≤ 9223372036854775807 := by omega
  have HX := Lib.hid hx
  obtain ⟨hl, hf⟩ := hf
  have HL := Lib.hid hl
  have HF := Lib.hid hf
  clear hx hm0 hm1 hf hl
  go_enter Try.func51, Try.ntmps51
  go_wp2
  go_loopw [8, 5] (fun i j wr => ∃ k : Nat, k ≤ xs.length ∧ i = .int .i64 k ∧ Below w.heap.size w wr ∧ Hid (∀ j (h : j < xs.length), j < k → ¬ p xs[j])) (fun i j _ => xs.length - (intOf i).toNat)
  case atStart => exact ⟨0, Nat.zero_le _, rfl, Below.refl _ _, fun j h hj => absurd hj (by omega)⟩
  case round =>
    obtain ⟨k, hk, rfl, hbd, HA⟩ := hrel
    by_cases hlt : k < xs.length
    · obtain ⟨ad, A2, c2, rfl, hx0, hx1, hx2, g2, l0, l1, n2⟩ := JOwner.elem (HX.out.below hbd) k hlt
      have hF := Lib.hid (HF.out xs[k] _ wr (JOwner.close_ _ g2 l0 l1) hbd)
      clear g2
      by_cases hp : p xs[k]
      · have hp := Lib.hid hp
        go_wp2_with fail
        rw [HL.out, Oper.upon_enter]
        refine hF.out.mono ?_
        intro e w1 hr
        obtain ⟨rfl, hb1⟩ := Ret.tt hp.out hr
        clear hr
        go_wp2
        go_ret
        exact ⟨_, ⟨rfl, bt hbd hb1⟩, .inr ⟨k, rfl, hlt, hp.out, HA.out⟩⟩
      · have hp := Lib.hid hp
        go_wp2_with fail
        rw [HL.out, Oper.upon_enter]
        refine hF.out.mono ?_
        intro e w1 hr
        obtain ⟨rfl, hb1⟩ := Ret.ff hp.out hr
        clear hr
        go_wp2
        go_roundw
        case rel => exact ⟨k + 1, by omega, by go_num, bt hbd hb1, fun j h hj => by
            by_cases e : j = k
            · subst e; exact hp.out
            · exact HA.out j h (by omega)⟩
        case measure => simp [intOf]; omega
    · go_wp2
      go_ret
      exact ⟨_, ⟨rfl, hbd⟩, .inl ⟨rfl, fun j h => HA.out j h (by omega)⟩⟩

end Go.Proofs.Ytmkagpmdindlpaa.Lib
