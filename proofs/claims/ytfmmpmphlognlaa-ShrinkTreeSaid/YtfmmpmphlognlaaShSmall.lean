/- shrink.Smaller: the smaller trees of a checked tree. -/
import Derived.Test.YtfmmpmphlognlaaSmaller
import Derived.Test.YtfmmpmphlognlaaTreeV
namespace Go.Proofs.Ytfmmpmphlognlaa
open Go.RowKit

set_option linter.unusedSimpArgs false in
set_option maxRecDepth 100000 in
set_option maxHeartbeats 4000000 in
theorem shSmaller (w : World) (S S' : Nat → Prop) (AR : Option Addr) (nR cR : Nat) (g : GramD) (hg : Sl RRule w S AR nR cR g.2.2.2) (hv : GValid g) (t : TreeD) (s : SymD) (A : Option Addr) (m c : Nat) (hs : Sl RTree w S' A m c t.kids) (ht : TV g.2.2.2 s t) (hso : SymOk g.1 g.2.1 s) (hsz : sizeT t ≤ 60) :
    Calls Try.prog 13 #[.agg #[.int .i64 g.1, .int .i64 g.2.1, .int .i64 g.2.2.1, .slice AR nR cR], .agg #[.int .i64 t.rule, .int .i64 t.term, .slice A m c]] w fun e w' => SmallMade (smallerT g.2.2.2 t) w.heap.size e w' ∧ Below w.heap.size w w' := by
  obtain ⟨w1, hw1⟩ : ∃ w1 : World, w1 = (w.alloc (.cells #[.int .i64 g.1, .int .i64 g.2.1, .int .i64 g.2.2.1, .slice AR nR cR] 25)).alloc (.cells #[.int .i64 t.rule, .int .i64 t.term, .slice A m c] 31) := ⟨_, rfl⟩
  have hz1 : w1.heap.size = w.heap.size + 2 := by rw [hw1]; simp
  have hb1 : Below w.heap.size w w1 := by rw [hw1]; exact ((Below.refl _ _).alloc (Nat.le_refl _) _).alloc (by simp) _
  have b1 : w1.heap[w.heap.size]? = some (.cells #[.int .i64 g.1, .int .i64 g.2.1, .int .i64 g.2.2.1, .slice AR nR cR] 25 (0, 0)) := by rw [hw1]; exact (Below.heap_alloc _ _ _ (by simp)).trans (heap_alloc_new w _)
  have b2 : w1.heap[w.heap.size + 1]? = some (.cells #[.int .i64 t.rule, .int .i64 t.term, .slice A m c] 31 (0, 0)) := by rw [hw1]; exact heap_new _ _ _ (by simp)
  have hall : ∀ u : World, Below w1.heap.size w1 u → (u.cell? ⟨w.heap.size, 0, none⟩ = some (.int .i64 g.1) ∧ u.cell? ⟨w.heap.size, 1, none⟩ = some (.int .i64 g.2.1) ∧ u.cell? ⟨w.heap.size, 2, none⟩ = some (.int .i64 g.2.2.1) ∧ u.cell? ⟨w.heap.size, 3, none⟩ = some (.slice AR nR cR)) ∧
      (u.cell? ⟨w.heap.size + 1, 0, none⟩ = some (.int .i64 t.rule) ∧ u.cell? ⟨w.heap.size + 1, 1, none⟩ = some (.int .i64 t.term) ∧ u.cell? ⟨w.heap.size + 1, 2, none⟩ = some (.slice A m c)) := by
    intro u hu
    have e1 := (hu.block _ (by omega)).trans b1
    have e2 := (hu.block _ (by omega)).trans b2
    exact ⟨by simp [World.cell?, e1], by simp [World.cell?, e2]⟩
  have HALL := Lib.hid hall
  have HG := Lib.hid (hg.below hb1)
  have HS := Lib.hid (hs.below hb1)
  have HB1 := Lib.hid hb1
  have HV := Lib.hid hv
  have HTV := Lib.hid ht
  have HLV := Lib.hid ht.leaves
  have HSO := Lib.hid hso
  obtain ⟨⟨k0, k1, k2, k3⟩, k4, k5, k6⟩ := hall w1 (Below.refl _ _)
  rw [hw1] at k0 k1 k2 k3 k4 k5 k6
  clear hall hg hs hb1 hv ht hso b1 b2
  go_enter Try.func13, Try.ntmps13
  --@1
  go_wp2_with fail
  rw [← hw1]
  clear hw1 k0 k1 k2 k3 k4 k5 k6
  refine (treeCheck w1 _ _ AR nR cR g HG.out HV.out t s A m c HS.out HTV.out HSO.out (by omega)).mono ?_
  rintro e w2 ⟨rfl, hb2⟩
  have HB2 := Lib.hid hb2
  have hz2 := hb2.size
  obtain ⟨⟨k0, k1, k2, k3⟩, k4, k5, k6⟩ := HALL.out w2 hb2
  clear hb2
  --@2
  go_wp2_with fail
  clear k0 k1 k2 k3 k4 k5 k6
  refine (treeSize w2 _ t A m c (HS.out.below HB2.out) HLV.out (by omega)).mono ?_
  rintro e w3 ⟨rfl, hb3⟩
  have HB3 := Lib.hid (HB2.out.trans (hb3.mono hz2))
  have hz3 := hb3.size
  have hgt : decide ((60 : Int) < (sizeT t : Int)) = false := by simp; omega
  obtain ⟨⟨k0, k1, k2, k3⟩, k4, k5, k6⟩ := HALL.out w3 HB3.out
  clear hb3
  --@3
  go_wp2_with fail
  clear k0 k1 k2 k3 k4 k5 k6
  refine (shrinkSmaller w3 _ _ AR nR cR g (HG.out.below HB3.out) t s A m c (HS.out.below HB3.out) HTV.out (by omega)).mono ?_
  rintro e w4 ⟨⟨A4, n4, c4, rfl, hs4⟩, hb4⟩
  have HS4 := Lib.hid hs4
  have HB4 := Lib.hid (HB1.out.trans ((HB3.out.mono (by omega)).trans (hb4.mono (by omega))))
  clear hs4 hb4
  --@4
  go_wp2_with fail
  go_ret
  exact ⟨⟨A4, n4, c4, rfl, HS4.out.more (fun b hb => by omega)⟩, HB4.out⟩
end Go.Proofs.Ytfmmpmphlognlaa
