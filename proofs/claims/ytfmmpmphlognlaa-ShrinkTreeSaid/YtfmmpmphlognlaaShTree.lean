/- shrink.Tree: a tree is made smaller as long as it fails. -/
import Derived.Test.YtfmmpmphlognlaaShPaths
import Derived.Test.YtfmmpmphlognlaaTreeV
import Derived.Test.YtfmmpmphlognlaaSlIdxTr
namespace Go.Proofs.Ytfmmpmphlognlaa
open Go.RowKit

set_option linter.unusedSimpArgs false in
set_option maxRecDepth 100000 in
set_option maxHeartbeats 2000000 in
/-- the function value that copies a tree and asks -/
theorem shTreeFn (w0 : World) (Bf : Nat) (F : FuncId) (caps : Array Value) (he : ∀ (args : Array Value) (u : World), (callFunc F args).run Try.prog u = .ok (.enter F args) u) (G : TreeD → Prop) (q : TreeD → Bool) (hF : TellsT Try.prog w0 G q F caps)
    (hB : w0.heap[Bf]? = some (.cells #[.func (.func F) #[] caps] 37 (0, 0))) (hsz : ∀ x, G x → sizeT x ≤ 1000000) :
    TellsT Try.prog w0 G q 60 #[.pointer (some ⟨Bf, 0, none⟩)] := by
  intro w hb x A m c S hs hG
  show Calls Try.prog 60 #[.agg #[.int .i64 x.rule, .int .i64 x.term, .slice A m c], .pointer (some ⟨Bf, 0, none⟩)] w _
  have hB' := (hb.block _ (heap_lt hB)).trans hB
  obtain ⟨w1, hw1⟩ : ∃ w1 : World, w1 = w.alloc (.cells #[.int .i64 x.rule, .int .i64 x.term, .slice A m c] 31) := ⟨_, rfl⟩
  have hz1 : w1.heap.size = w.heap.size + 1 := by rw [hw1]; simp
  have hb1 : Below w.heap.size w w1 := by rw [hw1]; exact (Below.refl _ _).alloc (Nat.le_refl _) _
  have hbt : w1.heap[w.heap.size]? = some (.cells #[.int .i64 x.rule, .int .i64 x.term, .slice A m c] 31 (0, 0)) := by rw [hw1]; exact heap_alloc_new w _
  have hBl := heap_lt hB'
  have hall : ∀ u : World, Below w1.heap.size w1 u → u.cell? ⟨Bf, 0, none⟩ = some (.func (.func F) #[] caps) ∧ u.cell? ⟨w.heap.size, 0, none⟩ = some (.int .i64 x.rule) ∧ u.cell? ⟨w.heap.size, 1, none⟩ = some (.int .i64 x.term) ∧ u.cell? ⟨w.heap.size, 2, none⟩ = some (.slice A m c) := fun u hu => by
    obtain ⟨d0, d1, d2, _, _, _⟩ := tree_cells' ((hu.block _ (by omega)).trans hbt)
    exact ⟨cell_of_one ((hu.block _ (by omega)).trans ((hb1.block _ hBl).trans hB')), d0, d1, d2⟩
  have HALL := Lib.hid hall
  have HK0 := Lib.hid (hall w1.drew (Below.refl _ _).drew)
  have HS := Lib.hid (hs.below hb1)
  have HB1 := Lib.hid hb1
  have HB := Lib.hid hb
  have HF := Lib.hid hF
  have HG := Lib.hid hG
  have HSZ := Lib.hid (hsz x hG)
  clear hall hs hb1 hb hF hG hsz hB hB' hbt
  go_enter Try.func60, Try.ntmps60
  --@1
  go_wp2_with fail
  rw [← hw1]
  clear hw1
  refine wp_region_late (late := []) (S1 := fun u => u.cell? ⟨Bf, 0, none⟩ = some (.func (.func F) #[] caps) ∧ u.cell? ⟨w.heap.size, 0, none⟩ = some (.int .i64 x.rule) ∧ u.cell? ⟨w.heap.size, 1, none⟩ = some (.int .i64 x.term) ∧ u.cell? ⟨w.heap.size, 2, none⟩ = some (.slice A m c)) (S := fun _ => True) (by kernel_rfl) ?_
  refine wpAnyL_pure (i := 0) rfl (by kernel_rfl) (fun _ _ _ h => h) (Or.inl ⟨by rfl, (fun u hu => by obtain ⟨k0, k1, k2, k3⟩ := hu; go_simp; try rfl)⟩) HK0.out (fun _ => trivial) ?_
  simp only [Act.put, List.setIfInBounds_toArray, List.set_cons_zero, List.set_cons_succ, List.getElem_toArray, List.getElem_cons_zero, List.getElem_cons_succ]
  refine wpAnyL_pure (i := 1) rfl (by kernel_rfl) (fun _ _ _ h => h) (Or.inl ⟨by rfl, (fun u hu => by obtain ⟨k0, k1, k2, k3⟩ := hu; go_simp; try rfl)⟩) HK0.out (fun _ => trivial) ?_
  simp only [Act.put, List.setIfInBounds_toArray, List.set_cons_zero, List.set_cons_succ, List.getElem_toArray, List.getElem_cons_zero, List.getElem_cons_succ]
  refine wpAnyL_ready (rs := [2]) (by kernel_rfl) (by simp) ?_
  refine AllL.cons rfl (fun K hK => ?_) ?_
  · go_simp
    refine (treeClone x _ _ A m c HSZ.out HS.out.drew).mono ?_
    rintro e w2 ⟨⟨A2, m2, c2, rfl, hz⟩, hb2⟩
    have HZ := Lib.hid hz
    have HB2 := Lib.hid ((Below.refl w1.heap.size w1).drew.trans hb2)
    clear hz hb2
    refine hK.out _ _ (HALL.out _ HB2.out) (fun _ => trivial) ?_
    clear hK K
    refine wpAnyL_ready (rs := [3]) (by kernel_rfl) (by simp) ?_
    refine AllL.cons rfl (fun K hK => ?_) ?_
    · go_simp
      have hz2 := HB2.out.size
      refine (HF.out w2 (HB.out.trans ((HB1.out.trans (HB2.out.mono (by omega))).mono HB.out.size)) x A2 m2 c2 _ HZ.out HG.out).mono ?_
      rintro e w3 ⟨rfl, hb3⟩
      have HB3 := Lib.hid (HB2.out.trans (hb3.mono (by omega)))
      clear hb3
      refine hK.out _ _ (HALL.out _ HB3.out) (fun _ => trivial) ?_
      clear hK K
      refine wpAnyL_pure (i := 4) rfl (by kernel_rfl) (fun _ _ _ h => h) (Or.inl ⟨by rfl, (fun u hu => by obtain ⟨k0, k1, k2, k3⟩ := hu; go_simp; try rfl)⟩) (HALL.out _ HB3.out) (fun _ => trivial) ?_
      simp only [Act.put, List.setIfInBounds_toArray, List.set_cons_zero, List.set_cons_succ, List.getElem_toArray, List.getElem_cons_zero, List.getElem_cons_succ]
      refine wpAnyL_done (by kernel_rfl) ?_ _
      go_wp2_with fail
      go_ret
      exact ⟨rfl, HB1.out.trans (HB3.out.mono (by omega))⟩
    exact AllL.nil
  exact AllL.nil
/-- what shrink.Tree returns of a tree that fails -/
def TreeShrunk (R : List RuleD) (s : SymD) (q : TreeD → Bool) (t : TreeD) (base : Nat) (e : Ending) (w' : World) : Prop :=
  ∃ (x : TreeD) (A : Option Addr) (m c : Nat), e = .returned (.tuple #[.agg #[.int .i64 x.rule, .int .i64 x.term, .slice A m c], .int .i64 0]) ∧ Sl RTree w' (fun b => base ≤ b) A m c x.kids ∧ TV R s x ∧ q x = true ∧ sizeT x ≤ sizeT t ∧ (∀ z ∈ smallerT R x, q z = false)
theorem entersSh : ∀ (args : Array Value) (u : World), (callFunc 60 args).run Try.prog u = .ok (.enter 60 args) u := enters_of Try.func60 (by kernel_rfl) rfl
end Go.Proofs.Ytfmmpmphlognlaa
