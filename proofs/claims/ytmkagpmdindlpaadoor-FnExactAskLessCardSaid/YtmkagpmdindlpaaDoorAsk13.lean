/- The reference's l12Less. Asks of 2^20 fields a level at most. (Not done yet.) -/
import Derived.Test.YtmkagpmdindlpaaDoorLessP
import Derived.Test.YtmkagpmdindlpaaDoorTail
import Derived.Test.YtmkagpmdindlpaaDoorAsk11
import Derived.Deep.RegionHeld3
set_option linter.unusedVariables false
set_option linter.unusedSimpArgs false
namespace Go.Proofs.YtmkagpmdindlpaaDoor.Lib
open Go.RowKit

/-- The call returned a list of its own; what it leads to was handed over or is fresh. -/
def LessR (w : World) (fp : List Nat) (ys : List JSel) (e : Ending) (w' : World) : Prop := ∃ v fp', e = .returned v ∧ Own w' (slD JSel.enc 5 ys) v fp' ∧ fp'.Nodup ∧ (∀ b, b ∈ fp' → b ∈ fp ∨ w.heap.size ≤ b) ∧ Below w.heap.size w w'
/-- Each field's own blocks and what its cells hold, out of the list's. -/
theorem sel_parts {w : World} {xs : List JSel} {A : Option Addr} {n c : Nat} {fp : List Nat} (h : Own w (slD JSel.enc 5 xs) (.slice A n c) fp) : ∃ Fs : List (List Nat), Fs.length = xs.length ∧ (∀ b, b ∈ Fs.flatten → b ∈ fp) ∧ (fp.Nodup → Fs.flatten.Nodup) ∧ ∀ (k : Nat) (h1 : k < xs.length) (h2 : k < Fs.length), ∃ ad u, A = some ad ∧ OwnRow w xs[k].enc u Fs[k] ∧ ∀ j x, u[j]? = some x → w.cell? (ad.add (k * 5 + j)) = some x := by
  have hn := Rd.len (Own.rd _ _ _ h)
  simp only [slD, Own] at h
  obtain ⟨h1, h⟩ := h
  rcases h with ⟨_, h2, rfl⟩ | ⟨g, cap, cur, e, fs, ev, hh, hn2, hc, hs, rfl, h6⟩
  · have : xs = [] := List.eq_nil_of_length_eq_zero (by simpa using h2)
    subst this
    exact ⟨[], rfl, by simp, fun _ => by simp, fun k h1 => by simp at h1⟩
  · obtain ⟨Fs, e1, rfl, e3⟩ := OwnRow.parts JSel.enc_len h6
    refine ⟨Fs, e1, fun b hb => List.mem_cons_of_mem _ hb, fun hn => (List.nodup_cons.1 hn).2, fun k h1 h2 => ⟨⟨g, 0, none⟩, _, ?_, e3 k h1 h2, fun j x hj => ?_⟩⟩
    · injection ev
    · rw [List.getElem?_take] at hj
      split at hj
      · rw [List.getElem?_drop, List.getElem?_take] at hj
        split at hj
        · rw [add_plain]
          unfold World.cell?
          dsimp only
          rw [hh]
          simpa using hj
        · cases hj
      · cases hj
/-- A field's kids, each block theirs alone. -/
theorem JSel.kidsO {w : World} {x : JSel} {cs : List Value} {f : List Nat} (h : OwnRow w x.enc cs f) : ∃ A4 c4, cs = [.string x.as_, .string x.name, .bool x.one, .int .i64 x.id, .slice A4 x.kids.length c4] ∧ Own w (slD JSel.enc 5 x.kids) (.slice A4 x.kids.length c4) f := by
  obtain ⟨A4, c4, rfl⟩ := JSel.openO h
  refine ⟨A4, c4, rfl, ?_⟩
  rw [JSel.enc_eq] at h
  simp only [OwnRow] at h
  obtain ⟨v1, t1, f1, g1, e1, rfl, o1, v2, t2, f2, g2, e2, rfl, o2, v3, t3, f3, g3, e3, rfl, o3, v4, t4, f4, g4, e4, rfl, o4, v5, t5, f5, g5, e5, rfl, o5, rfl, rfl⟩ := h
  simp only [List.cons.injEq] at e1
  obtain ⟨rfl, rfl⟩ := e1
  simp only [List.cons.injEq] at e2
  obtain ⟨rfl, rfl⟩ := e2
  simp only [List.cons.injEq] at e3
  obtain ⟨rfl, rfl⟩ := e3
  simp only [List.cons.injEq] at e4
  obtain ⟨rfl, rfl⟩ := e4
  simp only [List.cons.injEq, and_true] at e5
  subst e5
  simp only [Own] at o1 o2 o3 o4
  rw [o1.2, o2.2, o3.2, o4.2]
  simpa using o5
/-- Each field of a list that is owned: its cells, its kids. -/
theorem sel_rows {w : World} {xs : List JSel} {A : Option Addr} {n c : Nat} {fp : List Nat} (h : Own w (slD JSel.enc 5 xs) (.slice A n c) fp) : ∃ Fs : List (List Nat), Fs.length = xs.length ∧ (∀ b, b ∈ Fs.flatten → b ∈ fp) ∧ (fp.Nodup → Fs.flatten.Nodup) ∧ ∀ (k : Nat) (h1 : k < xs.length) (h2 : k < Fs.length), ∃ ad A4 c4, A = some ad ∧ (w.cell? (ad.add (k * 5)) = some (.string xs[k].as_) ∧ w.cell? ⟨(ad.add (k * 5)).block, (ad.add (k * 5)).off + 1, none⟩ = some (.string xs[k].name) ∧ w.cell? ⟨(ad.add (k * 5)).block, (ad.add (k * 5)).off + 2, none⟩ = some (.bool xs[k].one) ∧ w.cell? ⟨(ad.add (k * 5)).block, (ad.add (k * 5)).off + 3, none⟩ = some (.int .i64 xs[k].id) ∧ w.cell? ⟨(ad.add (k * 5)).block, (ad.add (k * 5)).off + 4, none⟩ = some (.slice A4 xs[k].kids.length c4)) ∧ Own w (slD JSel.enc 5 xs[k].kids) (.slice A4 xs[k].kids.length c4) Fs[k] ∧ xs[k].as_.size ≤ 9223372036854775807 ∧ xs[k].name.size ≤ 9223372036854775807 ∧ xs[k].kids.length ≤ 9223372036854775807 := by
  obtain ⟨Fs, h1, h2, h3, h4⟩ := sel_parts h
  refine ⟨Fs, h1, h2, h3, fun k hk hk2 => ?_⟩
  obtain ⟨ad, u, ea, hrow, hc⟩ := h4 k hk hk2
  obtain ⟨_, _, _, _, l0, l1, n4⟩ := JSel.open_ (OwnRow.rdl hrow)
  obtain ⟨A4, c4, rfl, ho⟩ := JSel.kidsO hrow
  exact ⟨ad, A4, c4, ea, ⟨by simpa using hc 0 _ rfl, by rw [← addr_field _ _ 1 (by omega)]; exact hc 1 _ rfl, by rw [← addr_field _ _ 2 (by omega)]; exact hc 2 _ rfl, by rw [← addr_field _ _ 3 (by omega)]; exact hc 3 _ rfl, by rw [← addr_field _ _ 4 (by omega)]; exact hc 4 _ rfl⟩, ho, l0, l1, n4⟩
end Go.Proofs.YtmkagpmdindlpaaDoor.Lib
