/- The text of a part: plain; the reference's l2Write. Parts of 2^20 at most. -/
import Derived.Test.YtmkagpmdindlpaaPartK
set_option linter.unusedVariables false
set_option linter.unusedSimpArgs false
namespace Go.Proofs.Ytmkagpmdindlpaa.Lib
open Go.RowKit

def nlB : ByteArray := ⟨#[10]⟩
def linesT : List JField → ByteArray
  | [] => ⟨#[]⟩
  | f :: r => lineT f ++ linesT r
def typeB : ByteArray := ⟨#[116, 121, 112, 101, 32]⟩
def keyB : ByteArray := ⟨#[32, 107, 101, 121, 32]⟩
def partB : ByteArray := ⟨#[112, 97, 114, 116, 32]⟩
/-- A type's first line. -/
def typH (t : JTyp) : ByteArray := (if t.key = ⟨#[]⟩ then typeB ++ t.name else typeB ++ t.name ++ (keyB ++ t.key)) ++ nlB
def typT (t : JTyp) : ByteArray := typH t ++ linesT t.fields
def typsT : List JTyp → ByteArray
  | [] => ⟨#[]⟩
  | t :: r => typT t ++ typsT r
def partH (p : JPart) : ByteArray := partB ++ p.name ++ nlB
/-- A part's text. -/
def partT (p : JPart) : ByteArray := partH p ++ typsT p.types

theorem linesT_append (xs ys : List JField) : linesT (xs ++ ys) = linesT xs ++ linesT ys := by
  induction xs with
  | nil => simp [linesT, empty_ba]
  | cons x r ih => simp only [List.cons_append, linesT, ih, ByteArray.append_assoc]
theorem linesT_take (xs : List JField) (k : Nat) (h : k < xs.length) : linesT (xs.take (k + 1)) = linesT (xs.take k) ++ lineT xs[k] := by
  rw [List.take_succ_eq_append_getElem h, linesT_append]
  simp only [linesT, ba_empty]
theorem linesT_size (xs : List JField) : (linesT xs).size ≤ 31 * xs.length + JField.bulks xs := by
  induction xs with
  | nil => exact Nat.zero_le _
  | cons x r ih =>
    have := lineT_size x
    simp only [linesT, ByteArray.size_append, List.length_cons, JField.bulks]
    omega
theorem typH_size (t : JTyp) : (typH t).size ≤ t.name.size + t.key.size + 11 := by
  unfold typH
  have e1 : typeB.size = 5 := rfl
  have e2 : keyB.size = 5 := rfl
  have e3 : nlB.size = 1 := rfl
  split <;> simp only [ByteArray.size_append] <;> omega
theorem typT_size (t : JTyp) : (typT t).size ≤ 11 + 31 * t.bulk := by
  have h1 := typH_size t
  have h2 := linesT_size t.fields
  have h3 := JTyp.bulk_eq t
  unfold typT
  rw [ByteArray.size_append]
  omega
theorem typsT_append (xs ys : List JTyp) : typsT (xs ++ ys) = typsT xs ++ typsT ys := by
  induction xs with
  | nil => simp [typsT, empty_ba]
  | cons x r ih => simp only [List.cons_append, typsT, ih, ByteArray.append_assoc]
theorem typsT_take (xs : List JTyp) (k : Nat) (h : k < xs.length) : typsT (xs.take (k + 1)) = typsT (xs.take k) ++ typT xs[k] := by
  rw [List.take_succ_eq_append_getElem h, typsT_append]
  simp only [typsT, ba_empty]
theorem typsT_size (xs : List JTyp) : (typsT xs).size ≤ 11 * xs.length + 31 * JTyp.bulks xs := by
  induction xs with
  | nil => exact Nat.zero_le _
  | cons x r ih =>
    have := typT_size x
    simp only [typsT, ByteArray.size_append, List.length_cons, JTyp.bulks]
    omega
theorem JPart.bulk_eq' (p : JPart) : p.bulk = p.name.size + (p.types.length + JTyp.bulks p.types) := JPart.bulk_eq p
theorem partT_size (p : JPart) (h : p.bulk ≤ 1048576) : (partT p).size ≤ 33554432 := by
  have h1 := typsT_size p.types
  have h2 := JPart.bulk_eq' p
  have e1 : partB.size = 5 := rfl
  have e2 : nlB.size = 1 := rfl
  unfold partT partH
  simp only [ByteArray.size_append]
  omega
theorem partT_prefix (p : JPart) (h : p.bulk ≤ 1048576) (k : Nat) : (partH p ++ typsT (p.types.take k)).size ≤ 33554432 := by
  have h1 := typsT_size (p.types.take k)
  have h2 := JPart.bulk_eq' p
  have h3 := JTyp.bulks_le p.types k
  have h4 : (p.types.take k).length ≤ p.types.length := by rw [List.length_take]; omega
  have e1 : partB.size = 5 := rfl
  have e2 : nlB.size = 1 := rfl
  unfold partH
  simp only [ByteArray.size_append]
  omega
theorem linesT_prefix (t : JTyp) (j : Nat) : (linesT (t.fields.take j)).size ≤ 31 * t.bulk := by
  have h1 := linesT_size (t.fields.take j)
  have h2 := JTyp.bulk_eq t
  have h3 := JField.bulks_le t.fields j
  have h4 : (t.fields.take j).length ≤ t.fields.length := by rw [List.length_take]; omega
  omega
theorem JTyp.bulk_k {p : JPart} (h : p.bulk ≤ 1048576) (k : Nat) (hk : k < p.types.length) : p.types[k].bulk ≤ 1048576 := by
  have h2 := JPart.bulk_eq' p
  have h3 := JTyp.bulks_take p.types k hk
  have h4 := JTyp.bulks_le p.types (k + 1)
  omega
theorem JField.bulk_k {t : JTyp} (h : t.bulk ≤ 1048576) (k : Nat) (hk : k < t.fields.length) : t.fields[k].bulk ≤ 1048576 := by
  have h2 := JTyp.bulk_eq t
  have h3 := JField.bulks_take t.fields k hk
  have h4 := JField.bulks_le t.fields (k + 1)
  omega

set_option maxRecDepth 100000 in
set_option maxHeartbeats 8000000 in
theorem l2Write_c (p : JPart) (cs : List Value) (w : World) (hx : RdL w p.enc cs) (hb : p.bulk ≤ 1048576) : Calls Try.prog 59 #[.agg cs.toArray] w (Ret w (.string (partT p))) := by
  obtain ⟨A1, c1, rfl, g1, l0, n1⟩ := JPart.open_ hx
  have HG := Lib.hid g1
  have zp := partT_prefix p hb
  have zn : p.name.size ≤ 1048576 := by have := JPart.bulk_eq' p; omega
  have HT := Lib.hid (JTyp.bulk_k hb)
  have HS := Lib.hid (fun k (h : k < p.types.length) => typsT_take p.types k h)
  have HE := Lib.hid (show partH p ++ typsT p.types = partT p from rfl)
  have HB0 := Lib.hid (b1 w (.cells #[.string p.name, .slice A1 p.types.length c1] 33))
  clear hx g1 hb
  go_enter Try.func59, Try.ntmps59
  go_wp2
  go_loopw [3, 4, 5, 6] (fun s i _ _ wr => ∃ k : Nat, k ≤ p.types.length ∧ i = .int .i64 k ∧ ∃ out : ByteArray, s = .string out ∧ out.size ≤ 33554432 ∧ Hid (out = partH p ++ typsT (p.types.take k)) ∧ Hid (Below (w.alloc (.cells #[.string p.name, .slice A1 p.types.length c1] 33)).heap.size (w.alloc (.cells #[.string p.name, .slice A1 p.types.length c1] 33)) wr)) (fun _ i _ _ _ => p.types.length - (intOf i).toNat)
  case atStart => exact ⟨0, Nat.zero_le _, rfl, partH p, rfl, by have := zp 0; rw [ByteArray.size_append] at this; omega, by exact Lib.hid (by rw [List.take_zero]; exact (ba_empty _).symm), Below.refl _ _⟩
  case round =>
    obtain ⟨k, hk, rfl, out, rfl, hz, HO, HB⟩ := hrel
    obtain ⟨wo, rfl⟩ : ∃ x, x = wr := ⟨wr, rfl⟩
    have v0 : wo.cell? ⟨w.heap.size, 0, none⟩ = some (.string p.name) := cell_keep HB.out (by simp [go_sem])
    have v1 : wo.cell? ⟨w.heap.size, 1, none⟩ = some (.slice A1 p.types.length c1) := cell_keep HB.out (by simp [go_sem])
    by_cases hlt : k < p.types.length
    · obtain ⟨ad, A2, c2, rfl, y0, y1, y2, g2, m0, m1, m2⟩ := JTyp.elem (HG.out.below (bt HB0.out HB.out)) k hlt
      have hbt := HT.out k hlt
      have hst := HS.out k hlt
      have zs := zp (k + 1)
      rw [hst] at zs
      clear zp
      generalize ht : p.types[k] = t at *
      have HG2 := Lib.hid g2
      clear g2
      have hbe := JTyp.bulk_eq t
      have x0 : t.name.size ≤ 1048576 := by omega
      have x1 : t.key.size ≤ 1048576 := by omega
      have zh := typH_size t
      have zl : ∀ q, (linesT (t.fields.take q)).size ≤ 31 * 1048576 := fun q => by have := linesT_prefix t q; omega
      have HF := Lib.hid (JField.bulk_k hbt)
      have HL := Lib.hid (fun q (h : q < t.fields.length) => linesT_take t.fields q h)
      have HC := Lib.hid (fun W (h : Below (wo.alloc (.cells #[.string t.name, .string t.key, .slice A2 t.fields.length c2] 71)).heap.size (wo.alloc (.cells #[.string t.name, .string t.key, .slice A2 t.fields.length c2] 71)) W) q (hq : q < t.fields.length) => JField.elem (HG2.out.below (bt (b1 wo (.cells #[.string t.name, .string t.key, .slice A2 t.fields.length c2] 71)) h)) q hq)
      clear hbe hbt
      have eH : typH t = (if t.key = ⟨#[]⟩ then typeB ++ t.name else typeB ++ t.name ++ (keyB ++ t.key)) ++ nlB := rfl
      replace eH := Lib.hid eH
      go_upto_if 30 with fail
      generalize hbk : (!t.key.toList.isEmpty) = bk
      replace hbk := Lib.hid hbk
      go_cut [3] (fun s wx => ∃ S : ByteArray, s = .string S ∧ S.size ≤ 40000000 ∧ Hid (S ++ nlB = out ++ typH t) ∧ wx = wo.alloc (.cells #[.string t.name, .string t.key, .slice A2 t.fields.length c2] 71))
      case first =>
        cases bk
        · have h0 : t.key = ⟨#[]⟩ := by
            have e := hbk.out
            by_cases h : t.key = ⟨#[]⟩
            · exact h
            · have := empty_f h
              simp_all
          have e := eH.out
          rw [if_pos h0] at e
          replace e := Lib.hid e
          replace h0 := Lib.hid h0
          go_wp2
          go_meet
          exact ⟨_, rfl, by simp only [ByteArray.size_append, size_mk, List.size_toArray, List.length_cons, List.length_nil]; omega, Lib.hid (by rw [e.out]; simp only [ByteArray.append_assoc, typeB]), by first | trivial | rfl⟩
        · have h0 : ¬ t.key = ⟨#[]⟩ := by
            intro h
            have e := hbk.out
            have := empty_t h
            simp_all
          have e := eH.out
          rw [if_neg h0] at e
          replace e := Lib.hid e
          replace h0 := Lib.hid h0
          go_wp2
          go_meet
          exact ⟨_, rfl, by simp only [ByteArray.size_append, size_mk, List.size_toArray, List.length_cons, List.length_nil]; omega, Lib.hid (by rw [e.out]; simp only [ByteArray.append_assoc, typeB, keyB]), by first | trivial | rfl⟩
      case rest =>
        obtain ⟨S, rfl, hS, HS1, rfl⟩ := hcut
        replace HS1 := HS1.out
        have hzS : (S ++ nlB).size ≤ 40000001 := by rw [ByteArray.size_append]; have : nlB.size = 1 := rfl; omega
        have zq : ∀ q, (out ++ typH t ++ linesT (t.fields.take q)).size ≤ 100000000 := fun q => by have := zl q; rw [ByteArray.size_append, ← HS1]; omega
        replace HS1 := Lib.hid HS1
        clear zl zh
        go_wp2
        go_loopw [3, 6] (fun s j wr => ∃ q : Nat, q ≤ t.fields.length ∧ j = .int .i64 q ∧ ∃ o : ByteArray, s = .string o ∧ o.size ≤ 100000000 ∧ Hid (o = out ++ typH t ++ linesT (t.fields.take q)) ∧ Hid (Below (wo.alloc (.cells #[.string t.name, .string t.key, .slice A2 t.fields.length c2] 71)).heap.size (wo.alloc (.cells #[.string t.name, .string t.key, .slice A2 t.fields.length c2] 71)) wr)) (fun _ j _ => t.fields.length - (intOf j).toNat)
        case atStart => exact ⟨0, Nat.zero_le _, rfl, _, rfl, by have := zq 0; rw [List.take_zero] at this; rw [show linesT [] = ⟨#[]⟩ from rfl, ba_empty, ← HS1.out] at this; exact this, Lib.hid (by rw [List.take_zero, show linesT [] = ⟨#[]⟩ from rfl, ba_empty]; exact HS1.out), Below.refl _ _⟩
        case round =>
          obtain ⟨q, hq, rfl, o, rfl, ho, HO2, HB2⟩ := hrel
          have u0 : wr.cell? ⟨wo.heap.size, 2, none⟩ = some (.slice A2 t.fields.length c2) := cell_keep HB2.out (by simp [go_sem])
          by_cases hlq : q < t.fields.length
          · obtain ⟨ae, A7, c7, rfl, k0, k1, k2, k3, k4, k5, k6, k7, g7, o0, o1, o7⟩ := HC.out _ HB2.out q hlq
            have hbf := HF.out q hlq
            have hzf := lineT_size t.fields[q]
            have HM := Lib.hid (fun W (h : Below wr.heap.size wr W) => l2Line_c t.fields[q] _ W ((JField.close_ t.fields[q] g7 o0 o1).keep h) hbf)
            have zq1 := zq (q + 1)
            have hlt2 := HL.out q hlq
            replace hlt2 : out ++ typH t ++ linesT (t.fields.take (q + 1)) = out ++ typH t ++ linesT (t.fields.take q) ++ lineT t.fields[q] := by rw [hlt2]; simp only [ByteArray.append_assoc]
            rw [hlt2, ← HO2.out] at zq1
            replace hlt2 := Lib.hid hlt2
            replace hzf : (lineT t.fields[q]).size ≤ 1048700 := by omega
            clear g7
            go_wp2_with fail
            refine (HM.out _ (Below.refl _ _)).mono ?_
            rintro e w1 ⟨rfl, hb1⟩
            have hb1 := Lib.hid hb1
            go_wp2
            go_roundw
            case rel => exact ⟨q + 1, by omega, by go_num, _, rfl, zq1, Lib.hid (by rw [hlt2.out, HO2.out]), Lib.hid (bt HB2.out hb1.out)⟩
            case measure => simp [intOf]; omega
          · have hqe : q = t.fields.length := by omega
            replace HO2 := HO2.out
            rw [hqe, List.take_length] at HO2
            have e : o = partH p ++ typsT (p.types.take (k + 1)) := by rw [HO2, hst, HO.out]; simp only [typT, ByteArray.append_assoc]
            have hzo : o.size ≤ 33554432 := by rw [e, hst]; exact zs
            replace e := Lib.hid e
            replace HO2 := Lib.hid HO2
            clear zq hst zs
            go_wp2
            go_roundw
            case rel => exact ⟨k + 1, by omega, by go_num, o, rfl, hzo, e, Lib.hid (bt HB.out (bt (b1 _ _) HB2.out))⟩
            case measure => simp [intOf]; omega
    · have hke : k = p.types.length := by omega
      replace HO := HO.out
      rw [hke, List.take_length, HE.out] at HO
      subst hke
      subst HO
      go_wp2
      go_ret
      exact Ret.txt rfl (bt HB0.out HB.out)
end Go.Proofs.Ytmkagpmdindlpaa.Lib
