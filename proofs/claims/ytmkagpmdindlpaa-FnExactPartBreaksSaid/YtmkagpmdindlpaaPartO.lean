/- What is wrong with a part first: plain. No condition. -/
import Derived.Test.YtmkagpmdindlpaaPartJ
import Derived.Test.YtmkagpmdindlpaaPartM
set_option linter.unusedVariables false
set_option linter.unusedSimpArgs false
namespace Go.Proofs.Ytmkagpmdindlpaa.Lib
open Go.RowKit

/-- The first number of n numbers from i on at which c is not 0. -/
def firstBad (c : Nat → Int) : Nat → Nat → Option Nat
  | 0, _ => none
  | n + 1, i => if c i ≠ 0 then some i else firstBad c n (i + 1)
theorem firstBad_some {c : Nat → Int} : ∀ (n i k : Nat), i ≤ k → k < i + n → (∀ j, i ≤ j → j < k → c j = 0) → c k ≠ 0 → firstBad c n i = some k := by
  intro n
  induction n with
  | zero => intro i k h1 h2; omega
  | succ n ih =>
    intro i k h1 h2 h3 h4
    unfold firstBad
    by_cases hk : i = k
    · subst hk
      rw [if_pos h4]
    · rw [if_neg (by simpa using h3 i (Nat.le_refl _) (by omega))]
      exact ih (i + 1) k (by omega) (by omega) (fun j a b => h3 j (by omega) b) h4
theorem firstBad_none {c : Nat → Int} : ∀ (n i : Nat), (∀ j, i ≤ j → j < i + n → c j = 0) → firstBad c n i = none := by
  intro n
  induction n with
  | zero => intro i _; rfl
  | succ n ih =>
    intro i h
    unfold firstBad
    rw [if_neg (by simpa using h i (Nat.le_refl _) (by omega))]
    exact ih (i + 1) (fun j a b => h j (by omega) (by omega))
theorem typeCode_fault (ts : List JTyp) (i : Nat) (t : JTyp) : typeCode ts i t = if faultCode ts i t ≠ 0 then faultCode ts i t else if tf (∃ f, f ∈ t.fields ∧ f.of = wQuery) = true then 7 else 0 := by
  unfold typeCode faultCode
  split
  · rfl
  · split
    · rfl
    · split
      · rfl
      · split
        · rfl
        · split <;> rfl
theorem typeCode_pos (ts : List JTyp) (i : Nat) (t : JTyp) : 0 ≤ typeCode ts i t := by
  unfold typeCode
  repeat (first | omega | split)
/-- The code of a place. -/
noncomputable def codeAt (ts : List JTyp) (i : Nat) : Int := if h : i < ts.length then typeCode ts i ts[i] else 0
theorem codeAt_at {ts : List JTyp} {i : Nat} (h : i < ts.length) : codeAt ts i = typeCode ts i ts[i] := dif_pos h
/-- The first type is none, is not query, or has a key. -/
def RootBad (p : JPart) : Prop := p.types = [] ∨ ∃ h : 0 < p.types.length, p.types[0].name ≠ wQuery ∨ p.types[0].key ≠ ⟨#[]⟩
noncomputable def restFault (p : JPart) : JPartFault :=
  match firstBad (codeAt p.types) p.types.length 0 with
  | some i => ⟨(i : Int) + 1, codeAt p.types i⟩
  | none => if 1500 < (partT p).size then ⟨0, 6⟩ else ⟨0, 0⟩
theorem restFault_some {p : JPart} {k : Nat} (hk : k < p.types.length) (hA : ∀ j, j < k → codeAt p.types j = 0) (h : codeAt p.types k ≠ 0) : restFault p = ⟨(k : Int) + 1, codeAt p.types k⟩ := by
  unfold restFault; rw [firstBad_some p.types.length 0 k (Nat.zero_le _) (by omega) (fun j _ h => hA j h) h]
theorem restFault_none {p : JPart} (hA : ∀ j, j < p.types.length → codeAt p.types j = 0) : restFault p = if 1500 < (partT p).size then ⟨0, 6⟩ else ⟨0, 0⟩ := by
  unfold restFault; rw [firstBad_none p.types.length 0 (fun j _ h => hA j (by omega))]
noncomputable def faultOf (p : JPart) : JPartFault :=
  if 5 < p.types.length then ⟨6, 6⟩ else if tf (NameOk p.name) = false then ⟨0, 1⟩ else if tf (RootBad p) = true then ⟨0, 7⟩ else restFault p
end Go.Proofs.Ytmkagpmdindlpaa.Lib
