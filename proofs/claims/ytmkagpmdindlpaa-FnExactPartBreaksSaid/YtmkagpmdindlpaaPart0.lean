/- Parts: what is wrong with one, its text, in plain words. No condition. -/
import Derived.Test.YtmkagpmdindlpaaNames
import Derived.Test.YtmkagpmdindlpaaTell
import Derived.WalkLawsBesides
set_option linter.unusedVariables false
set_option linter.unusedSimpArgs false
namespace Go.Proofs.Ytmkagpmdindlpaa.Lib

def wQuery : ByteArray := ⟨#[113, 117, 101, 114, 121]⟩
def JField.zero : JField := ⟨⟨#[]⟩, ⟨#[]⟩, false, false, false, false, false, []⟩
def JTyp.zero : JTyp := ⟨⟨#[]⟩, ⟨#[]⟩, []⟩
def JField.needy (f : JField) : Prop := f.needs ≠ []
def JField.plainInt (f : JField) : Prop := f.of = wInt ∧ f.list = false ∧ f.needs = []
/-- The first field of a name. -/
noncomputable def JTyp.find (t : JTyp) (n : ByteArray) : Option JField := t.fields.find? (fun f => tf (f.name = n))
/-- The first type of a name. -/
noncomputable def JPart.find (p : JPart) (n : ByteArray) : Option JTyp := p.types.find? (fun t => tf (t.name = n))
theorem find_first {α : Type} {p : α → Prop} {xs : List α} {i : Int} (h : FirstAt p xs i) : (i = -1 ∧ xs.find? (fun x => tf (p x)) = none) ∨ ∃ k : Nat, i = k ∧ ∃ hk : k < xs.length, xs.find? (fun x => tf (p x)) = some xs[k] := by
  rcases h with ⟨h1, h2⟩ | ⟨k, h1, hk, h2, h3⟩
  · exact .inl ⟨h1, find_no h2⟩
  · exact .inr ⟨k, h1, hk, find_yes hk h2 h3⟩
def FieldBad (f : JField) : Prop := ¬ NameOk f.name ∨ (¬ NameOk f.of ∧ f.of ∉ ofWords) ∨ ∃ n, n ∈ f.needs ∧ ¬ NameOk n
def JTyp.badLine (t : JTyp) : Prop := ¬ NameOk t.name ∨ (t.key ≠ ⟨#[]⟩ ∧ ¬ NameOk t.key) ∨ ¬ InI t.fields.length 1 8 ∨ ∃ f, f ∈ t.fields ∧ FieldBad f
def JTyp.badKey (t : JTyp) : Prop := t.key ≠ ⟨#[]⟩ ∧ ¬ ∃ f, t.find t.key = some f ∧ f.plainInt ∧ f.must = true ∧ f.far = false ∧ f.hidden = false
/-- Not behind it, byte by byte. -/
def LeB (a b : ByteArray) : Prop := (Op.bytesLess a.toList b.toList || a.toList == b.toList) = true
/-- What a field needs at a place is no number of the type, or not behind the one ahead. -/
def NeedBad (t : JTyp) (f : JField) (i : Nat) (h : i < f.needs.length) : Prop := (¬ ∃ g, t.find f.needs[i] = some g ∧ g.plainInt) ∨ (0 < i ∧ ∃ h0 : i - 1 < f.needs.length, LeB f.needs[i] f.needs[i - 1])
def JTyp.badNeed (t : JTyp) (f : JField) : Prop := (f.far = true ∧ f.shared = true) ∨ (f.needs ≠ [] ∧ (f.of ≠ wInt ∨ f.list = true ∨ f.far = true ∨ f.must = true ∨ f.name = t.key ∨ t.key = ⟨#[]⟩ ∨ ∃ i, ∃ h : i < f.needs.length, NeedBad t f i h))
def JTyp.names (t : JTyp) : List ByteArray := t.fields.map JField.name
end Go.Proofs.Ytmkagpmdindlpaa.Lib
