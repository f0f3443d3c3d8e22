/- Names and asks: what is ok, in plain words. No condition. -/
import Derived.Test.YtmkagpmdindlpaaLeafI
import Derived.Test.YtmkagpmdindlpaaBulk
set_option linter.unusedVariables false
set_option linter.unusedSimpArgs false
namespace Go.Proofs.Ytmkagpmdindlpaa.Lib
open Go.RowKit

/-- The three words of what is no type. -/
def wInt : ByteArray := ⟨#[105, 110, 116]⟩
def wText : ByteArray := ⟨#[116, 101, 120, 116]⟩
def wBool : ByteArray := ⟨#[98, 111, 111, 108]⟩
def ofWords : List ByteArray := [wInt, wText, wBool]
/-- The other words of lines. -/
def lineWords : List ByteArray := [⟨#[112, 97, 114, 116]⟩, ⟨#[116, 121, 112, 101]⟩, ⟨#[107, 101, 121]⟩, ⟨#[102, 97, 114]⟩, ⟨#[104, 105, 100, 100, 101, 110]⟩, ⟨#[115, 104, 97, 114, 101, 100]⟩, ⟨#[110, 101, 101, 100, 115]⟩]
/-- A name. -/
def NameOk (s : ByteArray) : Prop := OkName s ∧ s.size ≤ 8 ∧ (∀ h : 0 < s.size, s[0].toNat ≠ 95) ∧ s ∉ ofWords ++ lineWords

/-- The name under which a field is answered. -/
def JSel.under (s : JSel) : ByteArray := if s.as_ = ⟨#[]⟩ then s.name else s.as_
def SelOk (s : JSel) : Prop := NameOk s.name ∧ (s.as_ = ⟨#[]⟩ ∨ (NameOk s.as_ ∧ s.as_ ≠ s.name)) ∧ InI s.id 0 999999 ∧ (s.one = true ∨ s.id = 0)
mutual
def JSel.nodes : JSel → Nat
  | ⟨_, _, _, _, ks⟩ => 1 + JSel.nodesL ks
def JSel.nodesL : List JSel → Nat
  | [] => 0
  | x :: r => JSel.nodes x + JSel.nodesL r
end
mutual
def JSel.okAt : JSel → Int → Prop
  | ⟨a, b, c, e, ks⟩, d => SelOk ⟨a, b, c, e, ks⟩ ∧ (ks ≠ [] → d + 1 ≤ 5) ∧ ¬ Twice (ks.map JSel.under) ∧ JSel.okL ks (d + 1)
def JSel.okL : List JSel → Int → Prop
  | [], _ => True
  | x :: r, d => JSel.okAt x d ∧ JSel.okL r d
end
/-- Fields of a level are ok. -/
def AskL (xs : List JSel) (d : Int) : Prop := (xs ≠ [] → d ≤ 5) ∧ ¬ Twice (xs.map JSel.under) ∧ JSel.okL xs d
theorem JSel.nodes_eq (v : JSel) : v.nodes = 1 + JSel.nodesL v.kids := by cases v; simp only [JSel.nodes]
theorem JSel.okAt_eq (v : JSel) (d : Int) : v.okAt d ↔ SelOk v ∧ AskL v.kids (d + 1) := by cases v; simp only [JSel.okAt, AskL]
theorem JSel.okL_iff {xs : List JSel} {d : Int} : JSel.okL xs d ↔ ∀ x, x ∈ xs → x.okAt d := by
  induction xs with
  | nil => simp [JSel.okL]
  | cons x r ih => simp [JSel.okL, ih]
theorem JSel.nodesL_app (xs ys : List JSel) : JSel.nodesL (xs ++ ys) = JSel.nodesL xs + JSel.nodesL ys := by
  induction xs with
  | nil => simp [JSel.nodesL]
  | cons x r ih => simp only [List.cons_append, JSel.nodesL, ih]; omega
theorem JSel.nodesL_take (xs : List JSel) (k : Nat) (h : k < xs.length) : JSel.nodesL (xs.take (k + 1)) = JSel.nodesL (xs.take k) + xs[k].nodes := by
  rw [List.take_succ_eq_append_getElem h, JSel.nodesL_app]
  simp [JSel.nodesL]
theorem JSel.nodesL_le (xs : List JSel) (k : Nat) : JSel.nodesL (xs.take k) ≤ JSel.nodesL xs := by
  conv => rhs; rw [← List.take_append_drop k xs]
  rw [JSel.nodesL_app]
  omega
theorem JSel.nodes_pos (v : JSel) : 0 < v.nodes := by rw [JSel.nodes_eq]; omega
theorem JSel.nodesL_len (xs : List JSel) : xs.length ≤ JSel.nodesL xs := by
  induction xs with
  | nil => simp
  | cons x r ih => have := JSel.nodes_pos x; simp only [List.length_cons, JSel.nodesL]; omega
theorem JSel.okL_take (xs : List JSel) (d : Int) (k : Nat) (h : k < xs.length) : JSel.okL (xs.take (k + 1)) d ↔ JSel.okL (xs.take k) d ∧ xs[k].okAt d := by
  rw [JSel.okL_iff, JSel.okL_iff, List.take_succ_eq_append_getElem h]
  constructor
  · intro hx
    exact ⟨fun x hm => hx x (List.mem_append_left _ hm), hx _ (List.mem_append_right _ (List.mem_cons_self ..))⟩
  · rintro ⟨h1, h2⟩ x hm
    rcases List.mem_append.1 hm with hm | hm
    · exact h1 x hm
    · simp only [List.mem_cons, List.not_mem_nil, or_false] at hm
      rw [hm]; exact h2
theorem JSel.okL_get {xs : List JSel} {d : Int} (h : JSel.okL xs d) (k : Nat) (hk : k < xs.length) : xs[k].okAt d := JSel.okL_iff.1 h _ (List.getElem_mem hk)
/-- The kids' fields, all lists together. -/
def JSel.subL : List JSel → Nat
  | [] => 0
  | x :: r => JSel.nodesL x.kids + JSel.subL r
theorem JSel.subL_eq (xs : List JSel) : JSel.nodesL xs = xs.length + JSel.subL xs := by
  induction xs with
  | nil => simp [JSel.nodesL, JSel.subL]
  | cons x r ih => simp only [JSel.nodesL, JSel.subL, List.length_cons, JSel.nodes_eq, ih]; omega
theorem JSel.subL_take (xs : List JSel) (k : Nat) (h : k < xs.length) : JSel.subL (xs.take (k + 1)) = JSel.subL (xs.take k) + JSel.nodesL xs[k].kids := by
  have h1 := JSel.nodesL_take xs k h
  rw [JSel.subL_eq, JSel.subL_eq, JSel.nodes_eq] at h1
  simp only [List.length_take] at h1
  omega
theorem JSel.subL_le (xs : List JSel) (k : Nat) : JSel.subL (xs.take k) ≤ JSel.subL xs := by
  have h : ∀ ys zs : List JSel, JSel.subL (ys ++ zs) = JSel.subL ys + JSel.subL zs := by
    intro ys zs
    induction ys with
    | nil => simp [JSel.subL]
    | cons x r ih => simp only [List.cons_append, JSel.subL, ih]; omega
  conv => rhs; rw [← List.take_append_drop k xs]
  rw [h]
  omega

/-! ### the text -/
def commaB : ByteArray := ⟨#[44]⟩
def lbB : ByteArray := ⟨#[123]⟩
def rbB : ByteArray := ⟨#[125]⟩
def colonB : ByteArray := ⟨#[58]⟩
def lpB : ByteArray := ⟨#[40]⟩
def rpB : ByteArray := ⟨#[41]⟩
/-- A number from 0 on in decimals. -/
def digN : Nat → List UInt8
  | n => if h : n < 10 then [UInt8.ofNat (48 + n)] else digN (n / 10) ++ [UInt8.ofNat (48 + n % 10)]
termination_by n => n
decreasing_by omega
def decB (n : Int) : ByteArray := ⟨(digN n.toNat).toArray⟩
/-- What stands ahead of a field's kids. -/
def JSel.head (s : JSel) : ByteArray := (if s.as_ = ⟨#[]⟩ then s.name else s.as_ ++ colonB ++ s.name) ++ (if s.one = true then lpB ++ decB s.id ++ rpB else ⟨#[]⟩)
mutual
def JSel.text : JSel → ByteArray
  | ⟨a, n, o, i, ks⟩ => JSel.head ⟨a, n, o, i, []⟩ ++ JSel.kidsT ks
def JSel.kidsT : List JSel → ByteArray
  | [] => ⟨#[]⟩
  | x :: r => lbB ++ (JSel.text x ++ JSel.tailT r) ++ rbB
def JSel.tailT : List JSel → ByteArray
  | [] => ⟨#[]⟩
  | x :: r => commaB ++ JSel.text x ++ JSel.tailT r
end
/-- The text of fields. -/
def askT (xs : List JSel) : ByteArray := match xs with
  | [] => lbB ++ rbB
  | x :: r => lbB ++ (JSel.text x ++ JSel.tailT r) ++ rbB
theorem JSel.text_eq (v : JSel) : v.text = v.head ++ JSel.kidsT v.kids := by cases v; simp only [JSel.text]; rfl
theorem JSel.kidsT_eq {xs : List JSel} (h : xs ≠ []) : JSel.kidsT xs = askT xs := by
  cases xs with
  | nil => exact absurd rfl h
  | cons x r => simp only [JSel.kidsT, askT]

def JSel.joinT (xs : List JSel) : ByteArray := match xs with
  | [] => ⟨#[]⟩
  | x :: r => JSel.text x ++ JSel.tailT r
theorem ba_empty (s : ByteArray) : s ++ (⟨#[]⟩ : ByteArray) = s := ByteArray.append_empty
theorem empty_ba (s : ByteArray) : (⟨#[]⟩ : ByteArray) ++ s = s := ByteArray.empty_append
theorem askT_eq (xs : List JSel) : askT xs = lbB ++ JSel.joinT xs ++ rbB := by
  cases xs with
  | nil => simp only [askT, JSel.joinT, ba_empty]
  | cons x r => simp only [askT, JSel.joinT]
theorem JSel.tailT_app (xs ys : List JSel) : JSel.tailT (xs ++ ys) = JSel.tailT xs ++ JSel.tailT ys := by
  induction xs with
  | nil => simp only [List.nil_append, JSel.tailT, empty_ba]
  | cons x r ih => simp only [List.cons_append, JSel.tailT, ih, ByteArray.append_assoc]
theorem JSel.joinT_take (xs : List JSel) (k : Nat) (h : k < xs.length) : JSel.joinT (xs.take (k + 1)) = JSel.joinT (xs.take k) ++ (if k = 0 then ⟨#[]⟩ else commaB) ++ JSel.text xs[k] := by
  rw [List.take_succ_eq_append_getElem h]
  cases xs with
  | nil => simp at h
  | cons x r =>
    cases k with
    | zero => simp only [List.take_zero, List.nil_append, List.getElem_cons_zero, JSel.joinT, JSel.tailT, if_true, empty_ba, ba_empty]
    | succ k =>
      rw [if_neg (by omega)]
      simp only [List.take_succ_cons, List.cons_append, JSel.joinT, JSel.tailT_app, JSel.tailT, ba_empty, ByteArray.append_assoc]
theorem digN_len : ∀ (k n : Nat), 0 < k → n < 10 ^ k → (digN n).length ≤ k
  | 0, _, h, _ => absurd h (by omega)
  | k + 1, n, _, h => by
    rw [digN]
    split
    · simp
    · cases k with
      | zero => omega
      | succ k =>
        have := digN_len (k + 1) (n / 10) (by omega) (by rw [Nat.pow_succ] at h; omega)
        simp only [List.length_append, List.length_cons, List.length_nil]
        omega
theorem decB_size {n : Int} (h0 : 0 ≤ n) (h1 : n ≤ 999999) : (decB n).size ≤ 6 := by
  have : (decB n).size = (digN n.toNat).length := by simp [decB, ByteArray.size]
  rw [this]
  exact digN_len 6 _ (by omega) (by omega)
theorem NameOk.size {s : ByteArray} (h : NameOk s) : s.size ≤ 8 := h.2.1
theorem JSel.head_size {v : JSel} (h : SelOk v) : v.head.size ≤ 25 := by
  obtain ⟨h1, h2, h3, _⟩ := h
  have a1 := h1.size
  have a3 := decB_size h3.1 h3.2
  have c1 : colonB.size = 1 := rfl
  have c2 : lpB.size = 1 := rfl
  have c3 : rpB.size = 1 := rfl
  have c4 : (⟨#[]⟩ : ByteArray).size = 0 := rfl
  unfold JSel.head
  rw [ByteArray.size_append]
  have b1 : (if v.as_ = ⟨#[]⟩ then v.name else v.as_ ++ colonB ++ v.name).size ≤ 17 := by
    split
    · omega
    · rename_i hne
      rcases h2 with h2 | h2
      · exact absurd h2 hne
      · have := h2.1.size
        rw [ByteArray.size_append, ByteArray.size_append]
        omega
  have b2 : (if v.one = true then lpB ++ decB v.id ++ rpB else ⟨#[]⟩ : ByteArray).size ≤ 8 := by
    split
    · rw [ByteArray.size_append, ByteArray.size_append]; omega
    · omega
  omega
theorem JSel.sizes : ∀ n, (∀ v : JSel, SizeOf.sizeOf v < n → ∀ d, v.okAt d → v.text.size + 1 ≤ 28 * v.nodes) ∧ (∀ xs : List JSel, SizeOf.sizeOf xs < n → ∀ d, JSel.okL xs d → (JSel.tailT xs).size ≤ 28 * JSel.nodesL xs)
  | 0 => ⟨fun _ h => absurd h (by omega), fun _ h => absurd h (by omega)⟩
  | n + 1 => by
    have ih := JSel.sizes n
    have e1 : lbB.size = 1 := rfl
    have e2 : rbB.size = 1 := rfl
    have e3 : commaB.size = 1 := rfl
    have e4 : (⟨#[]⟩ : ByteArray).size = 0 := rfl
    refine ⟨fun v h d ho => ?_, fun xs h d ho => ?_⟩
    · rw [JSel.okAt_eq] at ho
      have hh := JSel.head_size ho.1
      have hl := JSel.kids_lt v
      have hk : (JSel.kidsT v.kids).size ≤ 2 + 28 * JSel.nodesL v.kids := by
        cases hv : v.kids with
        | nil => simp only [JSel.kidsT]; omega
        | cons x r =>
          have h2 := ho.2.2.2
          rw [hv] at h2 hl
          have hsz : SizeOf.sizeOf (x :: r) = 1 + SizeOf.sizeOf x + SizeOf.sizeOf r := rfl
          have i1 := ih.1 x (by omega) _ h2.1
          have i2 := ih.2 r (by omega) _ h2.2
          simp only [JSel.kidsT, ByteArray.size_append, JSel.nodesL]
          omega
      rw [JSel.text_eq, JSel.nodes_eq, ByteArray.size_append]
      omega
    · cases xs with
      | nil => simp only [JSel.tailT]; omega
      | cons x r =>
        have hsz : SizeOf.sizeOf (x :: r) = 1 + SizeOf.sizeOf x + SizeOf.sizeOf r := rfl
        have i1 := ih.1 x (by omega) _ ho.1
        have i2 := ih.2 r (by omega) _ ho.2
        simp only [JSel.tailT, ByteArray.size_append, JSel.nodesL]
        omega
theorem JSel.text_size {v : JSel} {d : Int} (h : v.okAt d) : v.text.size + 1 ≤ 28 * v.nodes := (JSel.sizes _).1 v (Nat.lt_succ_self _) d h
theorem JSel.joinT_size {xs : List JSel} {d : Int} (h : JSel.okL xs d) : (JSel.joinT xs).size ≤ 28 * JSel.nodesL xs := by
  cases xs with
  | nil => show 0 ≤ _; omega
  | cons x r =>
    have i1 := JSel.text_size h.1
    have i2 := (JSel.sizes _).2 r (Nat.lt_succ_self _) d h.2
    simp only [JSel.joinT, ByteArray.size_append, JSel.nodesL]
    omega
theorem askT_size {xs : List JSel} {d : Int} (h : JSel.okL xs d) : (askT xs).size ≤ 2 + 28 * JSel.nodesL xs := by
  have := JSel.joinT_size h
  have e1 : lbB.size = 1 := rfl
  have e2 : rbB.size = 1 := rfl
  rw [askT_eq, ByteArray.size_append, ByteArray.size_append]
  omega
/-- An ask is ok. -/
def AskOkP (xs : List JSel) : Prop := xs ≠ [] ∧ AskL xs 1 ∧ JSel.nodesL xs ≤ 24 ∧ (askT xs).size ≤ 400
end Go.Proofs.Ytmkagpmdindlpaa.Lib
