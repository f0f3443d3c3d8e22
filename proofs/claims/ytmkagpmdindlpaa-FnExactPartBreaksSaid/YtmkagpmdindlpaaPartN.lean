/- The program's write of a part, by a strings.Builder. Parts of 2^20 at most. -/
import Derived.Test.YtmkagpmdindlpaaPartL
import Derived.Test.YtmkagpmdindlpaaPartM
import Derived.Shelf.Strings.BuilderK
set_option linter.unusedVariables false
set_option linter.unusedSimpArgs false
namespace Go.Proofs.Ytmkagpmdindlpaa.Lib
open Go.RowKit

theorem bldAt_below {T e : TypeId} {B b : Nat} {p : Value} {bs : List Value} {W W' : World} (h : Go.Lib.BuilderAtF T e B b p bs W) (hb : Below W.heap.size W W') : Go.Lib.BuilderAtF T e B b p bs W' := by
  have hlt := h.lt
  obtain ⟨hB, v, hv, hown, hne⟩ := h
  exact ⟨hB, v, (hb.block b hlt).trans hv, hown.kept (row := none) ⟨hb.os, hb.tape, hb.output, hb.size, fun k hk _ => hb.block k hk⟩ (Classical.em _), hne⟩
theorem bld_below {T e : TypeId} {B b : Nat} {bs : List Value} {W W' : World} (h : Go.Lib.IsBuilderF T e B b bs W) (hb : Below W.heap.size W W') : Go.Lib.IsBuilderF T e B b bs W' :=
  h.elim (fun x => .inl (bldAt_below x hb)) (fun x => .inr (bldAt_below x hb))
/-- A builder of the call's own that holds a text. -/
def Bld (b : Nat) (o : ByteArray) (w : World) : Prop := Go.Lib.IsBuilderF 135 5 b b (Go.Lib.strCells o) w
theorem Bld.below {b : Nat} {o : ByteArray} {W W' : World} (h : Bld b o W) (hb : Below W.heap.size W W') : Bld b o W' := bld_below h hb
theorem Bld.lt {b : Nat} {o : ByteArray} {W : World} (h : Bld b o W) : b < W.heap.size := h.elim (fun x => x.lt) (fun x => x.lt)
theorem Bld.new (w : World) : Bld w.heap.size ⟨#[]⟩ (w.alloc (.cells #[.pointer none, .slice none 0 0] 135)) := Go.Lib.IsBuilderF.of (Go.Lib.fresh_isBuilder _ _ w)
theorem strCells_append (a b : ByteArray) : Go.Lib.strCells a ++ Go.Lib.strCells b = Go.Lib.strCells (a ++ b) := by
  unfold Go.Lib.strCells
  rw [ByteArray.data_append, Array.toList_append, List.map_append]
/-- Every block but the builder's and rows of bytes is kept. -/
def Stays (b : Nat) (w w' : World) : Prop := ∀ k (c : Array Value) (t : TypeId) (fz : Nat × Nat), w.heap[k]? = some (.cells c t fz) → k ≠ b → t ≠ 5 → w'.heap[k]? = some (.cells c t fz)
/-- (*strings.Builder).WriteString. -/
theorem wstr_c (b : Nat) (o s : ByteArray) (w : World) (h : Bld b o w) (hz : o.size + s.size ≤ 140737488355328) :
    Calls Try.prog 104 #[.pointer (some ⟨b, 0, none⟩), .string s] w fun e w' => e = .returned (.tuple #[.int .i64 s.size, .nilIface]) ∧ Bld b (o ++ s) w' ∧ Below b w w' ∧ Stays b w w' := by
  refine (Any.Builder_WriteString_k { Try.lays156 with } Try.Builder_Extra_156 b b (Go.Lib.strCells o) s w h (by rw [Go.Lib.strCells_length]; exact hz) (Nat.le_of_lt h.lt)).mono ?_
  rintro e w' ⟨he, hA, hB, hK⟩
  rw [strCells_append] at hA
  refine ⟨he, .inr hA, hB, fun k c t fz hk hb ht => hK k _ hk (fun e => hb (by simpa using e)) (fun c' fz' e => ht ?_)⟩
  injection e
/-- (*strings.Builder).String. -/
theorem bstr_c (b : Nat) (o : ByteArray) (w : World) (h : Bld b o w) :
    Calls Try.prog 106 #[.pointer (some ⟨b, 0, none⟩)] w fun e w' => e = .returned (.string o) ∧ Below b w w' := by
  refine (Try.Builder_String_any_k b b o.data.toList w h (Nat.le_of_lt h.lt)).mono ?_
  rintro e w' ⟨he, _, hB, _⟩
  exact ⟨he, hB⟩
theorem cell_low {B : Nat} {w w' : World} {a : Addr} {v : Value} (h : Below B w w') (hb : a.block < B) (hc : w.cell? a = some v) : w'.cell? a = some v := by
  unfold World.cell? at hc ⊢
  rw [h.block a.block hb]
  exact hc
theorem below_alloc {w W : World} {o : Obj} (h : Below (w.heap.size + 1) (w.alloc o) W) : Below w.heap.size w W := by
  have e : (w.alloc o).heap.size = w.heap.size + 1 := by simp
  rw [← e] at h
  exact bt (b1 w o) h

set_option maxRecDepth 100000 in
set_option maxHeartbeats 8000000 in
theorem write_c (p : JPart) (cs : List Value) (w : World) (hx : RdL w p.enc cs) (hb : p.bulk ≤ 1048576) : Calls Try.prog 63 #[.agg cs.toArray] w (Ret w (.string (partT p))) := by
  obtain ⟨A1, c1, rfl, g1, l0, n1⟩ := JPart.open_ hx
  have HG := Lib.hid g1
  have zp := partT_prefix p hb
  have zn : p.name.size ≤ 1048576 := by have := JPart.bulk_eq' p; omega
  have HT := Lib.hid (JTyp.bulk_k hb)
  have HS := Lib.hid (fun k (h : k < p.types.length) => typsT_take p.types k h)
  have HE := Lib.hid (show partH p ++ typsT p.types = partT p from rfl)
  have eW : ((w.alloc (.cells #[.string p.name, .slice A1 p.types.length c1] 33))).heap.size = w.heap.size + 1 := by simp
  have HN := Lib.hid (show Bld (w.heap.size + 1) ⟨#[]⟩ (((w.alloc (.cells #[.string p.name, .slice A1 p.types.length c1] 33))).alloc (.cells #[.pointer none, .slice none 0 0] 135)) from eW ▸ Bld.new ((w.alloc (.cells #[.string p.name, .slice A1 p.types.length c1] 33))))
  have HB0 := Lib.hid (show Below (w.heap.size + 1) ((w.alloc (.cells #[.string p.name, .slice A1 p.types.length c1] 33))) (((w.alloc (.cells #[.string p.name, .slice A1 p.types.length c1] 33))).alloc (.cells #[.pointer none, .slice none 0 0] 135)) from eW ▸ b1 ((w.alloc (.cells #[.string p.name, .slice A1 p.types.length c1] 33))) _)
  clear hx g1 hb eW
  go_enter Try.func63, Try.ntmps63
  go_wp2_with fail
  refine (wstr_c _ _ _ _ HN.out (by simp only [ByteArray.size_append, size_mk, List.size_toArray, List.length_cons, List.length_nil]; omega)).mono ?_
  rintro e w1 ⟨rfl, hA1, hB1, hK1⟩
  replace hB1 := HB0.out.trans hB1
  have v1 : w1.cell? ⟨w.heap.size, 1, none⟩ = some (.slice A1 p.types.length c1) := cell_low hB1 (Nat.lt_succ_self _) (by simp [go_sem])
  replace hA1 := Lib.hid hA1
  replace hB1 := Lib.hid hB1
  clear hK1
  go_wp2
  go_loopw [16] (fun i wr => ∃ k : Nat, k ≤ p.types.length ∧ i = .int .i64 k ∧ ∃ out : ByteArray, out.size ≤ 33554432 ∧ Hid (out = partH p ++ typsT (p.types.take k)) ∧ Hid (Bld (w.heap.size + 1) out wr) ∧ Hid (Below (w.heap.size + 1) ((w.alloc (.cells #[.string p.name, .slice A1 p.types.length c1] 33))) wr)) (fun i _ => p.types.length - (intOf i).toNat)
  case atStart => exact ⟨0, Nat.zero_le _, rfl, partH p, by have := zp 0; rw [ByteArray.size_append] at this; omega, by exact Lib.hid (by rw [List.take_zero]; exact (ba_empty _).symm), by have h := hA1.out; rw [empty_ba] at h; exact h, hB1⟩
  case round =>
    obtain ⟨k, hk, rfl, out, hz, HO, HD, HB⟩ := hrel
    obtain ⟨wo, rfl⟩ : ∃ x, x = wr := ⟨wr, rfl⟩
    by_cases hlt : k < p.types.length
    · obtain ⟨ad, A2, c2, rfl, y0, y1, y2, g2, m0, m1, m2⟩ := JTyp.elem HG.out k hlt
      replace y0 := cell_keep (below_alloc HB.out) y0
      replace y1 := cell_keep (below_alloc HB.out) y1
      replace y2 := cell_keep (below_alloc HB.out) y2
      have hbt := HT.out k hlt
      have hst := HS.out k hlt
      have zs := zp (k + 1)
      rw [hst] at zs
      clear zp
      generalize ht : p.types[k] = t at *
      have HG2 := Lib.hid g2
      clear g2
      have hbe := JTyp.bulk_eq t
      have x0 : t.name.size ≤ 1048576 := by omega
      have x1 : t.key.size ≤ 1048576 := by omega
      have zh := typH_size t
      have zl : ∀ q, (linesT (t.fields.take q)).size ≤ 31 * 1048576 := fun q => by have := linesT_prefix t q; omega
      have HF := Lib.hid (JField.bulk_k hbt)
      have HL := Lib.hid (fun q (h : q < t.fields.length) => linesT_take t.fields q h)
      clear hbe hbt
      have eH : typH t = (if t.key = ⟨#[]⟩ then typeB ++ t.name else typeB ++ t.name ++ (keyB ++ t.key)) ++ nlB := rfl
      replace eH := Lib.hid eH
      have hne := HD.out.lt
      have hB0 : Below (w.heap.size + 1) ((w.alloc (.cells #[.string p.name, .slice (some ad) p.types.length c1] 33))) (wo.alloc (.cells #[.string t.name, .string t.key, .slice A2 t.fields.length c2] 71)) := HB.out.trans ((b1 wo _).mono (Nat.le_of_lt hne))
      have hp0 : ((wo.alloc (.cells #[.string t.name, .string t.key, .slice A2 t.fields.length c2] 71))).heap[wo.heap.size]? = some (.cells #[.string t.name, .string t.key, .slice A2 t.fields.length c2] 71 (0, 0)) := heap_alloc_new wo _
      replace hp0 := Lib.hid hp0
      replace hB0 := Lib.hid hB0
      go_wp2_with fail
      refine (wstr_c _ _ _ _ (HD.out.below (b1 _ _)) (by simp only [ByteArray.size_append, size_mk, List.size_toArray, List.length_cons, List.length_nil]; omega)).mono ?_
      rintro e w1 ⟨rfl, hA1, hB1, hK1⟩
      have hp1 := hK1 _ _ _ _ hp0.out (by omega) (by decide)
      have r1 : w1.cell? ⟨wo.heap.size, 1, none⟩ = some (.string t.key) := by rw [Go.Lib.cell_of_heap hp1]; rfl
      replace hB1 := Lib.hid (hB0.out.trans hB1)
      replace hA1 := Lib.hid hA1
      replace hp1 := Lib.hid hp1
      clear hK1
      go_upto_if 26 with fail
      generalize hbk : (!t.key.toList.isEmpty) = bk
      replace hbk := Lib.hid hbk
      go_cut [5] (fun s wx => s = .pointer (some ⟨wo.heap.size, 0, none⟩) ∧ ∃ S : ByteArray, S.size ≤ 40000000 ∧ Hid (S ++ nlB = out ++ typH t) ∧ Hid (Bld (w.heap.size + 1) S wx) ∧ Hid (Below (w.heap.size + 1) ((w.alloc (.cells #[.string p.name, .slice (some ad) p.types.length c1] 33))) wx) ∧ Hid (wx.heap[wo.heap.size]? = some (.cells #[.string t.name, .string t.key, .slice A2 t.fields.length c2] 71 (0, 0))))
      case first =>
        cases bk
        · have h0 : t.key = ⟨#[]⟩ := by
            have e := hbk.out
            by_cases h : t.key = ⟨#[]⟩
            · exact h
            · have := empty_f h
              simp_all
          have e := eH.out
          rw [if_pos h0] at e
          replace e := Lib.hid e
          replace h0 := Lib.hid h0
          go_wp2
          go_meet
          exact ⟨rfl, _, by simp only [ByteArray.size_append, size_mk, List.size_toArray, List.length_cons, List.length_nil]; omega, Lib.hid (by rw [e.out]; simp only [ByteArray.append_assoc, typeB]), hA1, hB1, hp1⟩
        · have h0 : ¬ t.key = ⟨#[]⟩ := by
            intro h
            have e := hbk.out
            have := empty_t h
            simp_all
          have e := eH.out
          rw [if_neg h0] at e
          replace e := Lib.hid e
          replace h0 := Lib.hid h0
          go_wp2_with fail
          refine (wstr_c _ _ _ _ hA1.out (by simp only [ByteArray.size_append, size_mk, List.size_toArray, List.length_cons, List.length_nil]; omega)).mono ?_
          rintro e2 w2 ⟨rfl, hA2, hB2, hK2⟩
          replace hp1 := Lib.hid (hK2 _ _ _ _ hp1.out (by omega) (by decide))
          replace hB1 := Lib.hid (hB1.out.trans hB2)
          replace hA1 := Lib.hid hA2
          clear hK2 hA2 hB2
          go_wp2
          go_meet
          exact ⟨rfl, _, by simp only [ByteArray.size_append, size_mk, List.size_toArray, List.length_cons, List.length_nil]; omega, Lib.hid (by rw [e.out]; simp only [ByteArray.append_assoc, typeB, keyB]), hA1, hB1, hp1⟩
      case rest =>
        obtain ⟨rfl, S, hS, HS1, HA, HB4, HP⟩ := hcut
        replace HS1 := HS1.out
        have hzS : (S ++ nlB).size ≤ 40000001 := by rw [ByteArray.size_append]; have : nlB.size = 1 := rfl; omega
        have zq : ∀ q, (out ++ typH t ++ linesT (t.fields.take q)).size ≤ 100000000 := fun q => by have := zl q; rw [ByteArray.size_append, ← HS1]; omega
        replace HS1 := Lib.hid HS1
        clear zl zh
        go_wp2_with fail
        refine (wstr_c _ _ _ _ HA.out (by simp only [size_mk, List.size_toArray, List.length_cons, List.length_nil]; omega)).mono ?_
        rintro e3 w3 ⟨rfl, hA3, hB3, hK3⟩
        have hp3 := hK3 _ _ _ _ HP.out (by omega) (by decide)
        have r3 : w3.cell? ⟨wo.heap.size, 2, none⟩ = some (.slice A2 t.fields.length c2) := by rw [Go.Lib.cell_of_heap hp3]; rfl
        replace hB3 := Lib.hid (HB4.out.trans hB3)
        have e0 : S ++ (⟨#[10]⟩ : ByteArray) = out ++ typH t := HS1.out
        replace hA3 := Lib.hid (e0 ▸ hA3)
        clear hK3 hp3 e0
        go_wp2
        go_loopw [35] (fun j wr => ∃ q : Nat, q ≤ t.fields.length ∧ j = .int .i64 q ∧ ∃ o : ByteArray, o.size ≤ 100000000 ∧ Hid (o = out ++ typH t ++ linesT (t.fields.take q)) ∧ Hid (Bld (w.heap.size + 1) o wr) ∧ Hid (Below (w.heap.size + 1) ((w.alloc (.cells #[.string p.name, .slice (some ad) p.types.length c1] 33))) wr)) (fun j _ => t.fields.length - (intOf j).toNat)
        case atStart => exact ⟨0, Nat.zero_le _, rfl, _, by have := zq 0; rw [List.take_zero] at this; rw [show linesT [] = ⟨#[]⟩ from rfl, ba_empty] at this; exact this, Lib.hid (by rw [List.take_zero, show linesT [] = ⟨#[]⟩ from rfl, ba_empty]), hA3, hB3⟩
        case round =>
          obtain ⟨q, hq, rfl, o, ho, HO2, HD2, HB2⟩ := hrel
          by_cases hlq : q < t.fields.length
          · obtain ⟨ae, A7, c7, rfl, k0, k1, k2, k3, k4, k5, k6, k7, g7, o0, o1, o7⟩ := JField.elem HG2.out q hlq
            have hB5 := below_alloc HB2.out
            replace k0 := cell_keep hB5 k0
            replace k1 := cell_keep hB5 k1
            replace k2 := cell_keep hB5 k2
            replace k3 := cell_keep hB5 k3
            replace k4 := cell_keep hB5 k4
            replace k5 := cell_keep hB5 k5
            replace k6 := cell_keep hB5 k6
            replace k7 := cell_keep hB5 k7
            replace hB5 := Lib.hid hB5
            have hbf := HF.out q hlq
            have hzf := lineT_size t.fields[q]
            have HM := Lib.hid (fun W (h : Below w.heap.size w W) => line_c t.fields[q] _ W ((JField.close_ t.fields[q] g7 o0 o1).keep h) hbf)
            have zq1 := zq (q + 1)
            have hlt2 := HL.out q hlq
            replace hlt2 : out ++ typH t ++ linesT (t.fields.take (q + 1)) = out ++ typH t ++ linesT (t.fields.take q) ++ lineT t.fields[q] := by rw [hlt2]; simp only [ByteArray.append_assoc]
            rw [hlt2, ← HO2.out] at zq1
            replace hlt2 := Lib.hid hlt2
            replace hzf : (lineT t.fields[q]).size ≤ 1048700 := by omega
            clear g7
            have hne2 := HD2.out.lt
            go_wp2_with fail
            refine (HM.out _ (bt hB5.out (b1 _ _))).mono ?_
            rintro e4 w4 ⟨rfl, hb4⟩
            have hD4 := Lib.hid ((HD2.out.below (b1 _ _)).below hb4)
            have hb4 := Lib.hid ((HB2.out.trans ((b1 wr _).mono (Nat.le_of_lt hne2))).trans (hb4.mono (by have := hb4.size; simp; omega)))
            go_wp2_with fail
            refine (wstr_c _ _ _ _ hD4.out (by omega)).mono ?_
            rintro e5 w5 ⟨rfl, hA5, hB5', hK5⟩
            replace hb4 := Lib.hid (hb4.out.trans hB5')
            replace hA5 := Lib.hid hA5
            clear hK5 hB5'
            go_wp2
            go_roundw
            case rel => exact ⟨q + 1, by omega, by go_num, _, zq1, Lib.hid (by rw [hlt2.out, HO2.out]), hA5, hb4⟩
            case measure => simp [intOf]; omega
          · have hqe : q = t.fields.length := by omega
            replace HO2 := HO2.out
            rw [hqe, List.take_length] at HO2
            have e : o = partH p ++ typsT (p.types.take (k + 1)) := by rw [HO2, hst, HO.out]; simp only [typT, ByteArray.append_assoc]
            have hzo : o.size ≤ 33554432 := by rw [e, hst]; exact zs
            replace e := Lib.hid e
            replace HO2 := Lib.hid HO2
            clear zq hst zs
            go_wp2
            go_roundw
            case rel => exact ⟨k + 1, by omega, by go_num, o, hzo, e, HD2, HB2⟩
            case measure => simp [intOf]; omega
    · have hke : k = p.types.length := by omega
      replace HO := HO.out
      rw [hke, List.take_length, HE.out] at HO
      subst hke
      subst HO
      go_wp2_with fail
      refine (bstr_c _ _ _ HD.out).mono ?_
      rintro e w2 ⟨rfl, hB2⟩
      have hB3 := below_alloc (HB.out.trans hB2)
      replace hB2 := Lib.hid hB2
      go_wp2
      go_ret
      exact Ret.txt rfl hB3
end Go.Proofs.Ytmkagpmdindlpaa.Lib
