/- Marks of a chart alone. No condition but numbers up to 2^62. -/
import Derived.Test.YtmkagpmdindlpaaSMk
set_option linter.unusedVariables false
set_option linter.unusedSimpArgs false
namespace Go.Proofs.Ytmkagpmdindlpaa.Lib
open Go.RowKit

def JChart.scnt (v : JChart) : Nat := JPart.scnt v.all + JOwner.cnts v.owners
def JChart.smk (v : JChart) (k : Int) : JChart := ⟨JPart.smk v.all k, JOwner.mks v.owners (k + ((JPart.scnt v.all : Nat) : Int))⟩
theorem scntChart_le (v : JChart) : JChart.scnt v ≤ 8 * JChart.bulk v := by
  rw [JChart.bulk_eq]
  unfold JChart.scnt
  have h1 := scntPart_le v.all
  have h2 := cntsOwner_le v.owners
  omega
set_option maxRecDepth 100000 in
set_option maxHeartbeats 4000000 in
theorem smkChart_c (v : JChart) (cs : List Value) (fp : List Nat) (k : Int) (w : World) (ho : OwnRow w v.enc cs fp) (nd : fp.Nodup) (h0 : 0 ≤ k) (h1 : k + ((JChart.scnt v : Nat) : Int) ≤ 4611686018427387904) :
    Calls Try.prog 19 #[.agg cs.toArray, .int .i64 k] w (MarkedR w (JChart.smk v k).enc cs fp (k + ((JChart.scnt v : Nat) : Int))) := by
  rw [JChart.enc_nest] at ho
  unfold JChart.scnt at h1
  obtain ⟨u1, u2, f1, f2, rfl, rfl, o1, o2⟩ := OwnRow.split ho
  obtain ⟨A1, c1, rfl⟩ := JPart.openO o1
  obtain ⟨u3, us3, f3, f4, rfl, rfl, o3, o4⟩ := OwnRow.inv o2
  simp only [OwnRow] at o4
  obtain ⟨rfl, rfl⟩ := o4
  obtain ⟨A2, c2, rfl⟩ := Own.slD o3
  simp only [List.append_nil, List.nodup_append] at nd
  obtain ⟨n1, n2, dj⟩ := nd
  have lt1 := OwnRow.lt _ _ _ o1
  have lt3 := Own.lt _ _ _ o3
  have Q1 := Lib.hid o1
  have Q3 := Lib.hid o3
  have DJ := Lib.hid dj
  clear o1 o3 dj ho o2
  simp only [List.cons_append, List.nil_append]
  go_enter Try.func19, Try.ntmps19
  go_wp2_with fail
  refine (smkPart_c v.all _ f1 k _ (Q1.out.keep (b1 _ _)) n1 (by omega) (by omega)).mono ?_
  rintro e w1 ⟨rfl, hm1, ht1⟩
  have hs1 := ht1.size
  simp only [World.size_alloc] at hs1
  have x2 : w1.cell? ⟨w.heap.size, 2, none⟩ = some (.slice A2 v.owners.length c2) := cell_touch ht1 (by simp [go_sem]) (fun hm => by have := lt1 _ hm; omega)
  have z2 : w.heap.size < w1.heap.size := by omega
  have P3 : Own w1 _ _ f3 := (Q3.out.keep (b1 _ _)).touch ht1 (fun b h1 h2 => DJ.out b h2 b h1 rfl)
  have M1 := Lib.hid hm1
  have T1 := Lib.hid ht1
  have P2 := Lib.hid P3
  clear hm1 ht1 P3
  go_wp2_with fail
  refine (mkOwnerS_c v.owners _ f3 (k + ((JPart.scnt v.all : Nat) : Int)) _ P2.out n2 (by omega) (by omega)).mono ?_
  rintro e w2 ⟨rfl, hm2, ht2⟩
  have M2 := Lib.hid hm2
  have T2 := Lib.hid ht2
  clear hm2 ht2
  go_wp2
  go_ret
  refine MarkedR.int (by unfold JChart.scnt; omega) ?_ ?_
  · rw [JChart.enc_nest]
    have h1 := (M1.out.touch T2.out (fun b h1 h2 => DJ.out b h1 b h2 rfl))
    exact OwnRow.app h1 (.cons M2.out (OwnRow.nil _))
  · exact ((Touch.below (b1 _ _)).trans (T1.out.mono (fun b hm => by simp [hm]))).trans (T2.out.mono (fun b hm => by simp [hm]))
end Go.Proofs.Ytmkagpmdindlpaa.Lib
