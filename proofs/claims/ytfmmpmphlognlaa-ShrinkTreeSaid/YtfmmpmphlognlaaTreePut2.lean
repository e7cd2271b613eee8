/- tree.Put; shrink.paths. -/
import Derived.Test.YtfmmpmphlognlaaTreePut
import Derived.Test.YtfmmpmphlognlaaCloInt
namespace Go.Proofs.Ytfmmpmphlognlaa
open Go.RowKit

set_option linter.unusedSimpArgs false in
set_option maxRecDepth 100000 in
set_option maxHeartbeats 4000000 in
theorem treePut (p : List Int) (t x s : TreeD) (w : World) (S S' S2 : Nat → Prop) (A : Option Addr) (m c : Nat) (Ap : Option Addr) (np cp : Nat) (A2 : Option Addr) (m2 c2 : Nat) (hst : sizeT t ≤ 100000) (hss : sizeT s ≤ 100000) (hs : Sl RTree w S A m c t.kids) (hl : ∀ x ∈ nodesT t, Leafy x) (hp : Rd w S' 1 Ap np (p.map (Value.int .i64))) (hpc : np ≤ cp) (hnp : np ≤ 1000000) (hs2 : Sl RTree w S2 A2 m2 c2 s.kids) (hx : subAt t p = some x) :
    Calls Try.prog 95 #[.agg #[.int .i64 t.rule, .int .i64 t.term, .slice A m c], .slice Ap np cp, .agg #[.int .i64 s.rule, .int .i64 s.term, .slice A2 m2 c2]] w fun e w' => (∃ (A' : Option Addr) (m' c' : Nat), e = .returned (.tuple #[.agg #[.int .i64 (putT t p s).rule, .int .i64 (putT t p s).term, .slice A' m' c'], .int .i64 0]) ∧ Sl RTree w' (fun b => w.heap.size ≤ b) A' m' c' (putT t p s).kids) ∧ Below w.heap.size w w' := by
  obtain ⟨zz, hzz⟩ : ∃ zz, zz = putT t p s := ⟨_, rfl⟩
  rw [← hzz]
  obtain ⟨w1, hw1⟩ : ∃ w1 : World, w1 = ((w.alloc (.cells #[.int .i64 t.rule, .int .i64 t.term, .slice A m c] 31)).alloc (.cells #[.int .i64 s.rule, .int .i64 s.term, .slice A2 m2 c2] 31)).alloc (.cells #[.int .i64 0, .int .i64 0, .slice none 0 0] 31) := ⟨_, rfl⟩
  have hz1 : w1.heap.size = w.heap.size + 3 := by rw [hw1]; simp
  have hb1 : Below w.heap.size w w1 := by rw [hw1]; exact (((Below.refl _ _).alloc (Nat.le_refl _) _).alloc (by simp) _).alloc (by simp; omega) _
  have b1 : w1.heap[w.heap.size]? = some (.cells #[.int .i64 t.rule, .int .i64 t.term, .slice A m c] 31 (0, 0)) := by rw [hw1]; exact (Below.heap_alloc _ _ _ (by simp; omega)).trans ((Below.heap_alloc _ _ _ (by simp)).trans (heap_alloc_new w _))
  have b2 : w1.heap[w.heap.size + 1]? = some (.cells #[.int .i64 s.rule, .int .i64 s.term, .slice A2 m2 c2] 31 (0, 0)) := by rw [hw1]; exact (Below.heap_alloc _ _ _ (by simp)).trans (heap_new _ _ _ (by simp))
  have b3 : w1.heap[w.heap.size + 2]? = some (.cells #[.int .i64 0, .int .i64 0, .slice none 0 0] 31 (0, 0)) := by rw [hw1]; exact heap_new _ _ _ (by simp)
  have HB1 := Lib.hid hb1
  have H1 := Lib.hid b1
  have H2 := Lib.hid b2
  have H3 := Lib.hid b3
  have HZZ := Lib.hid hzz
  have HS := Lib.hid (hs.below hb1)
  have HS2 := Lib.hid (hs2.below hb1)
  have HP := Lib.hid (hp.below hb1)
  have HL := Lib.hid hl
  have HX := Lib.hid hx
  clear hb1 b1 b2 b3 hs hs2 hp hl hx hzz
  go_enter Try.func95, Try.ntmps95
  go_wp2_with fail
  rw [← hw1]
  clear hw1
  refine (treeAt t x w1 S S' A m c (by omega) HS.out HL.out Ap np cp p HP.out hnp HX.out).mono ?_
  rintro e w2 ⟨⟨A3, m3, c3, rfl, _⟩, hb2⟩
  have hz2 := hb2.size
  have hb12 := hb2.alloc hz2 (.cells #[.int .i64 x.rule, .int .i64 x.term, .slice A3 m3 c3] 31)
  obtain ⟨w3, hw3⟩ : ∃ w3 : World, w3 = w2.alloc (.cells #[.int .i64 x.rule, .int .i64 x.term, .slice A3 m3 c3] 31) := ⟨_, rfl⟩
  obtain ⟨d0, d1, d2, _, _, _⟩ := tree_cells' ((hb12.block _ (by omega)).trans H1.out)
  obtain ⟨e0, e1, e2, _, _, _⟩ := tree_cells' ((hb12.block _ (by omega)).trans H2.out)
  rw [← hw3] at hb12
  have HB12 := Lib.hid hb12
  have hz3 : w3.heap.size = w2.heap.size + 1 := by rw [hw3]; simp
  clear hb2 hb12
  --@1
  go_wp2_with fail
  rw [← hw3]
  clear hw3 d0 d1 d2 e0 e1 e2
  refine (treePutIn p t x s w3 S S' S2 A m c Ap np cp A2 m2 c2 hst hss (HS.out.below HB12.out) (HP.out.below HB12.out) hpc hnp (HS2.out.below HB12.out) HX.out).mono ?_
  rw [← HZZ.out]
  rintro e w4 ⟨⟨A4, m4, c4, rfl, hz⟩, hb4⟩
  have HZ := Lib.hid hz
  have hz4 := hb4.size
  obtain ⟨d0, d1, d2, f0, f1, f2⟩ := tree_cells' ((hb4.block _ (by omega)).trans ((HB12.out.block _ (by omega)).trans H3.out))
  have HB4 := Lib.hid (HB1.out.trans ((HB12.out.trans (hb4.mono (by omega))).mono (by omega)))
  have ld : w.heap.size + 2 < w4.heap.size := by omega
  clear hz hb4
  --@2
  go_wp2_with fail
  refine bodyPost_ret (v := .tuple #[.agg #[.int .i64 zz.rule, .int .i64 zz.term, .slice A4 m4 c4], .int .i64 0]) (by simp [results, Try.results95, go_sem, d0, d1, d2, ld]) rfl ?_
  have hset : ∀ (u : World) (q : Nat) (v : Value), Below w.heap.size u (u.setCell ⟨w.heap.size + 2, q, none⟩ v) := fun u q v => (Below.refl _ _).setCell (by show w.heap.size ≤ w.heap.size + 2; omega) _
  refine ⟨⟨A4, m4, c4, rfl, ?_⟩, HB4.out.trans (((hset _ _ _).trans (hset _ _ _)).trans (hset _ _ _))⟩
  exact ((HZ.out.more (S' := fun b => w.heap.size + 3 ≤ b) (fun b hb => by omega)).keep (((Kept.setCell _ _ _ _ (by simp)).trans (.setCell _ _ _ _ (by simp))).trans (.setCell _ _ _ _ (by simp)))).more (fun b hb => by omega)
end Go.Proofs.Ytfmmpmphlognlaa
