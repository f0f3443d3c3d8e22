/- Contracts of small functions over numbers, texts and lists of texts (spec and impl alike). No condition beyond sizes that every text has. -/
import Derived.Test.YtmkagpmdindlpaaOpen
import Derived.Test.YtmkagpmdindlpaaOwnLib
import Derived.Laws.IdiomStrings
set_option linter.unusedVariables false
set_option linter.unusedSimpArgs false
namespace Go.Proofs.Ytmkagpmdindlpaa.Lib
open Go.RowKit

/-- The truth of a sentence as a bool. -/
noncomputable def tf (p : Prop) : Bool := @decide p (Classical.propDecidable p)
theorem tf_t {p : Prop} (h : p) : tf p = true := by unfold tf; exact @decide_eq_true _ (Classical.propDecidable _) h
theorem tf_f {p : Prop} (h : ¬ p) : tf p = false := by unfold tf; exact @decide_eq_false _ (Classical.propDecidable _) h
theorem tf_iff {p : Prop} : tf p = true ↔ p := by
  by_cases h : p
  · exact ⟨fun _ => h, tf_t⟩
  · rw [tf_f h]; exact ⟨fun e => (by cases e), fun e => absurd e h⟩
theorem tf_congr {p q : Prop} (h : p ↔ q) : tf p = tf q := by
  by_cases hp : p
  · rw [tf_t hp, tf_t (h.1 hp)]
  · rw [tf_f hp, tf_f (fun e => hp (h.2 e))]
theorem Ret.t {w w' : World} {p : Prop} (h : p) (hb : Below w.heap.size w w') : Ret w (.bool (tf p)) (.returned (.bool true)) w' := ⟨by rw [tf_t h], hb⟩
theorem Ret.f {w w' : World} {p : Prop} (h : ¬ p) (hb : Below w.heap.size w w') : Ret w (.bool (tf p)) (.returned (.bool false)) w' := ⟨by rw [tf_f h], hb⟩
theorem Ret.d {w w' : World} {p q : Prop} {_ : Decidable q} (h : p ↔ q) (hb : Below w.heap.size w w') : Ret w (.bool (tf p)) (.returned (.bool (decide q))) w' := ⟨by rw [tf_congr h]; unfold tf; congr, hb⟩
theorem Ret.tt {w w' : World} {p : Prop} {e : Ending} (h : p) (r : Ret w (.bool (tf p)) e w') : Ret w (.bool true) e w' := by rwa [tf_t h] at r
theorem Ret.ff {w w' : World} {p : Prop} {e : Ending} (h : ¬ p) (r : Ret w (.bool (tf p)) e w') : Ret w (.bool false) e w' := by rwa [tf_f h] at r
/-- The call returned this and left the world as it was. -/
def RetQ (w : World) (v : Value) (e : Ending) (w' : World) : Prop := e = .returned v ∧ w' = w
theorem RetQ.ret {w w' : World} {v : Value} {e : Ending} (h : RetQ w v e w') : Ret w v e w' := ⟨h.1, by rw [h.2]; exact Below.refl _ _⟩
theorem RetQ.t {w : World} {p : Prop} (h : p) : RetQ w (.bool (tf p)) (.returned (.bool true)) w := ⟨by rw [tf_t h], rfl⟩
theorem RetQ.f {w : World} {p : Prop} (h : ¬ p) : RetQ w (.bool (tf p)) (.returned (.bool false)) w := ⟨by rw [tf_f h], rfl⟩
theorem RetQ.d {w : World} {p q : Prop} {_ : Decidable q} (h : p ↔ q) : RetQ w (.bool (tf p)) (.returned (.bool (decide q))) w := ⟨by rw [tf_congr h]; unfold tf; congr, rfl⟩
theorem RetQ.tt {w w' : World} {p : Prop} {e : Ending} (h : p) (r : RetQ w (.bool (tf p)) e w') : RetQ w (.bool true) e w' := by rwa [tf_t h] at r
theorem RetQ.ff {w w' : World} {p : Prop} {e : Ending} (h : ¬ p) (r : RetQ w (.bool (tf p)) e w') : RetQ w (.bool false) e w' := by rwa [tf_f h] at r
theorem Ret.mono {w W w1 : World} {v : Value} {e : Ending} (hb : Below w.heap.size w W) (h : Ret W v e w1) : Ret w v e w1 := ⟨h.1, bt hb h.2⟩

theorem empty_t {s : ByteArray} (h : s = ⟨#[]⟩) : (s.toList == []) = true := by rw [h, ByteArray.toList_eq]; rfl
theorem empty_f {s : ByteArray} (h : ¬ s = ⟨#[]⟩) : (s.toList == []) = false := by
  have := str_f h
  rwa [show (⟨#[]⟩ : ByteArray).toList = [] by rw [ByteArray.toList_eq]] at this
/-- A number between two. -/
def InI (n lo hi : Int) : Prop := lo ≤ n ∧ n ≤ hi
theorem l1In_c (n lo hi : Int) (w : World) : Calls Try.prog 118 #[.int .i64 n, .int .i64 lo, .int .i64 hi] w (RetQ w (.bool (tf (InI n lo hi)))) := by
  by_cases h1 : lo ≤ n
  · by_cases h2 : n ≤ hi
    · go_enter Try.func118, Try.ntmps118
      go_wp2
      go_ret
      exact RetQ.t ⟨h1, h2⟩
    · go_enter Try.func118, Try.ntmps118
      go_wp2
      go_ret
      exact RetQ.f (fun h => absurd h.2 (by omega))
  · go_enter Try.func118, Try.ntmps118
    go_wp2
    go_ret
    exact RetQ.f (fun h => absurd h.1 (by omega))
theorem in_c (n lo hi : Int) (w : World) : Calls Try.prog 120 #[.int .i64 n, .int .i64 lo, .int .i64 hi] w (RetQ w (.bool (tf (InI n lo hi)))) := by
  by_cases h1 : lo ≤ n
  · by_cases h2 : n ≤ hi
    · go_enter Try.func120, Try.ntmps120
      go_wp2
      go_ret
      exact RetQ.t ⟨h1, h2⟩
    · go_enter Try.func120, Try.ntmps120
      go_wp2
      go_ret
      exact RetQ.f (fun h => absurd h.2 (by omega))
  · go_enter Try.func120, Try.ntmps120
    go_wp2
    go_ret
    exact RetQ.f (fun h => absurd h.1 (by omega))

/-- A text that may stand in a value. -/
def TextByte (b : UInt8) : Prop := InI b.toNat 32 126
def TextAll (s : ByteArray) : Prop := ∀ k (h : k < s.size), TextByte s[k]
def OkText (s : ByteArray) : Prop := s.size ≤ 24 ∧ TextAll s
/-- A name's byte at a place. -/
def NameByte (k : Nat) (b : UInt8) : Prop := InI b.toNat 97 122 ∨ b.toNat = 95 ∨ (0 < k ∧ InI b.toNat 48 57)
def NameAll (s : ByteArray) : Prop := ∀ k (h : k < s.size), NameByte k s[k]
def OkName (s : ByteArray) : Prop := InI s.size 1 9 ∧ NameAll s
set_option maxHeartbeats 1600000 in
theorem l1Name_c (s : ByteArray) (w : World) (hs : s.size ≤ 9223372036854775807) : Calls Try.prog 86 #[.string s] w (RetQ w (.bool (tf (OkName s)))) := by
  by_cases hin : InI s.size 1 9
  case neg =>
    have hin := Lib.hid hin
    go_enter Try.func86, Try.ntmps86
    go_wp2_with fail
    refine (l1In_c _ _ _ _).mono ?_
    intro e w1 hr
    obtain ⟨rfl, rfl⟩ := RetQ.ff hin.out hr
    clear hr
    go_wp2
    go_ret
    exact RetQ.f (p := OkName s) (fun h => hin.out h.1)
  have hin := Lib.hid hin
  go_enter Try.func86, Try.ntmps86
  go_wp2_with fail
  refine (l1In_c _ _ _ _).mono ?_
  intro e w1 hr
  obtain ⟨rfl, rfl⟩ := RetQ.tt hin.out hr
  clear hr
  go_wp2
  go_loop [3] (fun i => ∃ k : Nat, k ≤ s.size ∧ i = .int .i64 k ∧ Hid (∀ j (h : j < s.size), j < k → NameByte j s[j])) (fun i => s.size - (intOf i).toNat)
  case atStart => exact ⟨0, Nat.zero_le _, rfl, fun j h hj => absurd hj (by omega)⟩
  case round =>
    obtain ⟨k, hk, rfl, HA⟩ := hrel
    by_cases hlt : k < s.size
    · have good : NameByte k s[k] → ∃ k2 : Nat, k2 ≤ s.size ∧ Value.int .i64 ((k : Int) + 1) = .int .i64 k2 ∧ Hid (∀ j (h : j < s.size), j < k2 → NameByte j s[j]) := fun hg => ⟨k + 1, by omega, by go_num, fun j h hj => by
            by_cases e : j = k
            · subst e; exact hg
            · exact HA.out j h (by omega)⟩
      have good := Lib.hid good
      have bad : ¬ NameByte k s[k] → RetQ w1 (.bool (tf (OkName s))) (.returned (.bool false)) w1 := fun hg => RetQ.f (fun h => hg (h.2 k hlt))
      have bad := Lib.hid bad
      generalize hb : (s[k].toNat) = b at *
      have key : NameByte k s[k] ↔ (97 ≤ b ∧ b ≤ 122) ∨ b = 95 ∨ (0 < k ∧ 48 ≤ b ∧ b ≤ 57) := by unfold NameByte InI; rw [hb]; omega
      have key := Lib.hid key
      by_cases h1 : (97 : Int) ≤ b
      · by_cases h2 : (b : Int) ≤ 122
        · go_wp2
          go_round
          case rel => exact good.out (key.out.2 (by omega))
          case measure => simp [intOf]; omega
        · have f95 : ((b : Int) == 95) = false := by rw [beq_eq_false_iff_ne]; omega
          have h5 : (48 : Int) ≤ b := by omega
          have h6 : ¬ (b : Int) ≤ 57 := by omega
          by_cases h4 : (0 : Int) < k
          · go_wp2
            go_ret
            exact bad.out (fun h => by have := key.out.1 h; omega)
          · go_wp2
            go_ret
            exact bad.out (fun h => by have := key.out.1 h; omega)
      · by_cases h3 : (b : Int) = 95
        · have f95 : ((b : Int) == 95) = true := by rw [beq_iff_eq]; exact h3
          go_wp2
          go_round
          case rel => exact good.out (key.out.2 (by omega))
          case measure => simp [intOf]; omega
        · have f95 : ((b : Int) == 95) = false := by rw [beq_eq_false_iff_ne]; exact h3
          by_cases h4 : (0 : Int) < k
          · by_cases h5 : (48 : Int) ≤ b
            · by_cases h6 : (b : Int) ≤ 57
              · go_wp2
                go_round
                case rel => exact good.out (key.out.2 (by omega))
                case measure => simp [intOf]; omega
              · go_wp2
                go_ret
                exact bad.out (fun h => by have := key.out.1 h; omega)
            · go_wp2
              go_ret
              exact bad.out (fun h => by have := key.out.1 h; omega)
          · go_wp2
            go_ret
            exact bad.out (fun h => by have := key.out.1 h; omega)
    · go_wp2
      go_ret
      exact RetQ.t (p := OkName s) ⟨hin.out, fun j h => HA.out j h (by omega)⟩
end Go.Proofs.Ytmkagpmdindlpaa.Lib
