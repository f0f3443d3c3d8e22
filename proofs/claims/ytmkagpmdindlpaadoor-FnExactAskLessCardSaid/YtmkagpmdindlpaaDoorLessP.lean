/- The pieces of a way, and an ask without what stands at a way: plain words. No condition. -/
import Derived.Test.YtmkagpmdindlpaaDoorAsk7
set_option linter.unusedVariables false
set_option linter.unusedSimpArgs false
namespace Go.Proofs.YtmkagpmdindlpaaDoor.Lib

/-- The pieces between the bytes 47. -/
def cutBs : List UInt8 → List (List UInt8)
  | [] => [[]]
  | b :: r => if b = 47 then [] :: cutBs r else match cutBs r with
    | [] => [[b]]
    | p :: q => (b :: p) :: q
theorem cutBs_ne : ∀ l : List UInt8, cutBs l ≠ []
  | [] => by simp [cutBs]
  | b :: r => by
    unfold cutBs
    split
    · simp
    · split <;> simp
theorem cutBs_at : ∀ (l r : List UInt8), (∀ b, b ∈ l → b ≠ 47) → cutBs (l ++ 47 :: r) = l :: cutBs r
  | [], r, _ => by simp [cutBs]
  | b :: l, r, h => by
    have h1 := cutBs_at l r fun x hx => h x (List.mem_cons_of_mem _ hx)
    rw [List.cons_append, cutBs, if_neg (h b (List.mem_cons_self ..)), h1]
theorem cutBs_none : ∀ (l : List UInt8), (∀ b, b ∈ l → b ≠ 47) → cutBs l = [l]
  | [], _ => rfl
  | b :: l, h => by
    rw [cutBs, if_neg (h b (List.mem_cons_self ..)), cutBs_none l fun x hx => h x (List.mem_cons_of_mem _ hx)]
/-- The pieces of a way. -/
def cutL (s : ByteArray) : List ByteArray := (cutBs s.data.toList).map fun l => ⟨l.toArray⟩
theorem cutL_ne (s : ByteArray) : cutL s ≠ [] := by unfold cutL; simp [cutBs_ne]

/-- An ask without what stands at a way, and without what then asks for nothing. -/
def lessL : List ByteArray → List JSel → List JSel
  | [], xs => xs
  | p :: rest, xs => xs.filterMap fun s => if s.under = p then (if rest = [] then none else if lessL rest s.kids ≠ [] ∨ s.kids = [] then some { s with kids := lessL rest s.kids } else none) else some s
/-- What becomes of one field. -/
def lessOne (p : ByteArray) (rest : List ByteArray) (s : JSel) : Option JSel := if s.under = p then (if rest = [] then none else if lessL rest s.kids ≠ [] ∨ s.kids = [] then some { s with kids := lessL rest s.kids } else none) else some s
theorem lessL_cons (p : ByteArray) (rest : List ByteArray) (xs : List JSel) : lessL (p :: rest) xs = xs.filterMap (lessOne p rest) := by
  rw [lessL]; rfl
theorem lessL_take (p : ByteArray) (rest : List ByteArray) (xs : List JSel) (k : Nat) (h : k < xs.length) : lessL (p :: rest) (xs.take (k + 1)) = lessL (p :: rest) (xs.take k) ++ (lessOne p rest xs[k]).toList := by
  rw [lessL_cons, lessL_cons, List.take_succ_eq_append_getElem h, List.filterMap_append]
  cases hl : lessOne p rest xs[k] <;> simp [hl]
theorem lessL_len (p : ByteArray) (rest : List ByteArray) (xs : List JSel) : (lessL (p :: rest) xs).length ≤ xs.length := by
  rw [lessL_cons]; exact List.length_filterMap_le _ _
end Go.Proofs.YtmkagpmdindlpaaDoor.Lib
