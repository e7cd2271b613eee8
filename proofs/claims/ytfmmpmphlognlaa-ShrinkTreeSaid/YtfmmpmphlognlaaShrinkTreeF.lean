/- The condition of trees that ShrinkTree uses. -/
import Derived.Test.YtfmmpmphlognlaaTreeS
import Derived.Test.YtfmmpmphlognlaaSlIdxTr
import Derived.Test.YtfmmpmphlognlaaLate
import Derived.Test.YtfmmpmphlognlaaBelow
import Derived.Test.YtfmmpmphlognlaaTreeC
import Derived.Test.YtfmmpmphlognlaaTreeB
namespace Go.Proofs.Ytfmmpmphlognlaa
open Go.RowKit

/-- the law's condition of trees -/
def shF (a : Int) (x : TreeD) : Bool := ((((wordT x).length : Int) + a) % 2 == 0) || decide (9 < (sizeT x : Int))
theorem word_size (t : TreeD) : (wordT t).length ≤ sizeT t := by
  unfold wordT wordOf sizeT
  rw [List.length_map]
  exact List.length_filter_le _ _
set_option linter.unusedSimpArgs false in
set_option maxRecDepth 100000 in
set_option maxHeartbeats 2000000 in
/-- the law's function value -/
theorem shFn (w : World) (Ba : Nat) (a : Int) (h0 : 0 ≤ a) (h3 : a ≤ 3) (hB : w.heap[Ba]? = some (.cells #[.int .i64 a] 3 (0, 0))) (x : TreeD) (A : Option Addr) (m c : Nat) (S : Nat → Prop) (hs : Sl RTree w S A m c x.kids) (hl : ∀ y ∈ nodesT x, Leafy y) (hsz : sizeT x ≤ 60) :
    Calls Try.prog 18 #[.agg #[.int .i64 x.rule, .int .i64 x.term, .slice A m c], .pointer (some ⟨Ba, 0, none⟩)] w fun e w' => e = .returned (.bool (shF a x)) ∧ Below w.heap.size w w' := by
  obtain ⟨w1, hw1⟩ : ∃ w1 : World, w1 = w.alloc (.cells #[.int .i64 x.rule, .int .i64 x.term, .slice A m c] 31) := ⟨_, rfl⟩
  have hz1 : w1.heap.size = w.heap.size + 1 := by rw [hw1]; simp
  have hb1 : Below w.heap.size w w1 := by rw [hw1]; exact (Below.refl _ _).alloc (Nat.le_refl _) _
  have hbt : w1.heap[w.heap.size]? = some (.cells #[.int .i64 x.rule, .int .i64 x.term, .slice A m c] 31 (0, 0)) := by rw [hw1]; exact heap_alloc_new w _
  have hBl := heap_lt hB
  have hall : ∀ u : World, Below w1.heap.size w1 u → u.cell? ⟨Ba, 0, none⟩ = some (.int .i64 a) ∧ u.cell? ⟨w.heap.size, 0, none⟩ = some (.int .i64 x.rule) ∧ u.cell? ⟨w.heap.size, 1, none⟩ = some (.int .i64 x.term) ∧ u.cell? ⟨w.heap.size, 2, none⟩ = some (.slice A m c) := fun u hu => by
    obtain ⟨d0, d1, d2, _, _, _⟩ := tree_cells' ((hu.block _ (by omega)).trans hbt)
    exact ⟨cell_of_one ((hu.block _ (by omega)).trans ((hb1.block _ hBl).trans hB)), d0, d1, d2⟩
  have HALL := Lib.hid hall
  have HK0 := Lib.hid (hall w1.drew (Below.refl _ _).drew)
  have HS := Lib.hid (hs.below hb1)
  have HB1 := Lib.hid hb1
  have HL := Lib.hid hl
  obtain ⟨n, hn⟩ : ∃ n, n = (wordT x).length := ⟨_, rfl⟩
  obtain ⟨sz, hsz'⟩ : ∃ sz, sz = sizeT x := ⟨_, rfl⟩
  have hn60 : n ≤ 60 := by rw [hn]; exact Nat.le_trans (word_size x) hsz
  have hz60 : sz ≤ 60 := by omega
  have hf : shF a x = ((((n : Nat) : Int) + a) % 2 == 0 || decide (9 < ((sz : Nat) : Int))) := by rw [hn, hsz']; rfl
  have HF := Lib.hid hf
  have HN := Lib.hid hn
  have HZ := Lib.hid hsz'
  clear hall hs hb1 hl hB hbt hf hn hsz'
  have hwr : IntKind.i64.wrap ((n : Int) + a) = (n : Int) + a := IntWalk.i64_in _ ⟨by omega, by omega⟩
  have hmd : ((n : Int) + a).tmod 2 = ((n : Int) + a) % 2 := Int.tmod_eq_emod_of_nonneg (by omega)
  have HW := Lib.hid (show (IntKind.i64.wrap ((n : Int) + a)).tmod 2 = ((n : Int) + a) % 2 by rw [hwr, hmd])
  clear hwr hmd
  cases h1 : (((n : Nat) : Int) + a) % 2 == 0 with
  | true =>
    have HQ := Lib.hid (show ((IntKind.i64.wrap ((n : Int) + a)).tmod 2 == 0) = true by rw [HW.out]; exact h1)
    have H1 := Lib.hid h1
    clear h1 HW
    go_enter Try.func18, Try.ntmps18
    --@1
    go_wp2_with fail
    rw [← hw1]
    clear hw1
    refine wp_region_late (late := []) (S1 := fun u => u.cell? ⟨Ba, 0, none⟩ = some (.int .i64 a) ∧ u.cell? ⟨w.heap.size, 0, none⟩ = some (.int .i64 x.rule) ∧ u.cell? ⟨w.heap.size, 1, none⟩ = some (.int .i64 x.term) ∧ u.cell? ⟨w.heap.size, 2, none⟩ = some (.slice A m c)) (S := fun _ => True) (by kernel_rfl) ?_
    refine wpAnyL_pure (i := 0) rfl (by kernel_rfl) (fun _ _ _ h => h) (Or.inl ⟨by rfl, (fun u hu => by obtain ⟨k0, k1, k2, k3⟩ := hu; go_simp; try rfl)⟩) HK0.out (fun _ => trivial) ?_
    simp only [Act.put, List.setIfInBounds_toArray, List.set_cons_zero, List.set_cons_succ, List.getElem_toArray, List.getElem_cons_zero, List.getElem_cons_succ]
    refine wpAnyL_pure (i := 3) rfl (by kernel_rfl) (fun _ _ _ h => h) (Or.inl ⟨by rfl, (fun u hu => by obtain ⟨k0, k1, k2, k3⟩ := hu; go_simp; try rfl)⟩) HK0.out (fun _ => trivial) ?_
    simp only [Act.put, List.setIfInBounds_toArray, List.set_cons_zero, List.set_cons_succ, List.getElem_toArray, List.getElem_cons_zero, List.getElem_cons_succ]
    refine wpAnyL_ready (rs := [1]) (by kernel_rfl) (by simp) ?_
    refine AllL.cons rfl (fun K hK => ?_) ?_
    · go_simp
      refine (treeWord w1.drew _ x A m c HS.out.drew HL.out (by omega)).mono ?_
      rintro e w2 ⟨A2, c2, rfl, _, _, hb2⟩
      rw [← HN.out]
      have HB2 := Lib.hid ((Below.refl w1.heap.size w1).drew.trans hb2)
      clear hb2
      refine hK.out _ _ (HALL.out _ HB2.out) (fun _ => trivial) ?_
      clear hK K
      refine wpAnyL_pure (i := 2) rfl (by kernel_rfl) (fun _ _ _ h => h) (Or.inl ⟨by rfl, (fun u hu => by obtain ⟨k0, k1, k2, k3⟩ := hu; go_simp; try rfl)⟩) (HALL.out _ HB2.out) (fun _ => trivial) ?_
      simp only [Act.put, List.setIfInBounds_toArray, List.set_cons_zero, List.set_cons_succ, List.getElem_toArray, List.getElem_cons_zero, List.getElem_cons_succ]
      refine wpAnyL_pure (i := 4) rfl (by kernel_rfl) (fun _ _ _ h => h) (Or.inl ⟨by rfl, (fun u hu => by obtain ⟨k0, k1, k2, k3⟩ := hu; go_simp; try rfl)⟩) (HALL.out _ HB2.out) (fun _ => trivial) ?_
      simp only [Act.put, List.setIfInBounds_toArray, List.set_cons_zero, List.set_cons_succ, List.getElem_toArray, List.getElem_cons_zero, List.getElem_cons_succ]
      refine wpAnyL_pure (i := 5) rfl (by kernel_rfl) (fun _ _ _ h => h) (Or.inl ⟨by rfl, (fun u hu => by obtain ⟨k0, k1, k2, k3⟩ := hu; go_simp; try rfl)⟩) (HALL.out _ HB2.out) (fun _ => trivial) ?_
      simp only [Act.put, List.setIfInBounds_toArray, List.set_cons_zero, List.set_cons_succ, List.getElem_toArray, List.getElem_cons_zero, List.getElem_cons_succ]
      refine wpAnyL_pure (i := 6) (v := .bool true) rfl (by kernel_rfl) (fun _ _ _ h => h) (Or.inl ⟨by rfl, (fun u hu => by have hq := HQ.out; obtain ⟨k0, k1, k2, k3⟩ := hu; go_simp; try rfl)⟩) (HALL.out _ HB2.out) (fun _ => trivial) ?_
      simp only [Act.put, List.setIfInBounds_toArray, List.set_cons_zero, List.set_cons_succ, List.getElem_toArray, List.getElem_cons_zero, List.getElem_cons_succ]
      refine wpAnyL_pure (i := 7) rfl (by kernel_rfl) (fun _ _ _ h => h) (Or.inl ⟨by rfl, (fun u hu => by obtain ⟨k0, k1, k2, k3⟩ := hu; go_simp; try rfl)⟩) (HALL.out _ HB2.out) (fun _ => trivial) ?_
      simp only [Act.put, List.setIfInBounds_toArray, List.set_cons_zero, List.set_cons_succ, List.getElem_toArray, List.getElem_cons_zero, List.getElem_cons_succ]
      refine wpAnyL_pure (i := 8) (v := undef) rfl (by kernel_rfl) (fun _ _ _ h => h) (Or.inr ⟨by rfl, rfl⟩) (HALL.out _ HB2.out) (fun _ => trivial) ?_
      simp only [Act.put, List.setIfInBounds_toArray, List.set_cons_zero, List.set_cons_succ, List.getElem_toArray, List.getElem_cons_zero, List.getElem_cons_succ]
      refine wpAnyL_pure (i := 9) (v := undef) rfl (by kernel_rfl) (fun _ _ _ h => h) (Or.inr ⟨by rfl, rfl⟩) (HALL.out _ HB2.out) (fun _ => trivial) ?_
      simp only [Act.put, List.setIfInBounds_toArray, List.set_cons_zero, List.set_cons_succ, List.getElem_toArray, List.getElem_cons_zero, List.getElem_cons_succ]
      refine wpAnyL_pure (i := 10) (v := undef) rfl (by kernel_rfl) (fun _ _ _ h => h) (Or.inr ⟨by rfl, rfl⟩) (HALL.out _ HB2.out) (fun _ => trivial) ?_
      simp only [Act.put, List.setIfInBounds_toArray, List.set_cons_zero, List.set_cons_succ, List.getElem_toArray, List.getElem_cons_zero, List.getElem_cons_succ]
      refine wpAnyL_pure (i := 11) rfl (by kernel_rfl) (fun _ _ _ h => h) (Or.inl ⟨by rfl, (fun u hu => by obtain ⟨k0, k1, k2, k3⟩ := hu; go_simp; try rfl)⟩) (HALL.out _ HB2.out) (fun _ => trivial) ?_
      simp only [Act.put, List.setIfInBounds_toArray, List.set_cons_zero, List.set_cons_succ, List.getElem_toArray, List.getElem_cons_zero, List.getElem_cons_succ]
      refine wpAnyL_pure (i := 12) rfl (by kernel_rfl) (fun _ _ _ h => h) (Or.inl ⟨by rfl, (fun u hu => by obtain ⟨k0, k1, k2, k3⟩ := hu; go_simp; try rfl)⟩) (HALL.out _ HB2.out) (fun _ => trivial) ?_
      simp only [Act.put, List.setIfInBounds_toArray, List.set_cons_zero, List.set_cons_succ, List.getElem_toArray, List.getElem_cons_zero, List.getElem_cons_succ]
      refine wpAnyL_done (by kernel_rfl) ?_ _
      go_wp2_with fail
      go_ret
      exact ⟨ret_bool (by rw [HF.out, H1.out]; rfl), HB1.out.trans (HB2.out.mono (by omega))⟩
    exact AllL.nil
  | false =>
    have HQ := Lib.hid (show ((IntKind.i64.wrap ((n : Int) + a)).tmod 2 == 0) = false by rw [HW.out]; exact h1)
    have H1 := Lib.hid h1
    clear h1 HW
    go_enter Try.func18, Try.ntmps18
    --@2
    go_wp2_with fail
    rw [← hw1]
    clear hw1
    refine wp_region_late (late := []) (S1 := fun u => u.cell? ⟨Ba, 0, none⟩ = some (.int .i64 a) ∧ u.cell? ⟨w.heap.size, 0, none⟩ = some (.int .i64 x.rule) ∧ u.cell? ⟨w.heap.size, 1, none⟩ = some (.int .i64 x.term) ∧ u.cell? ⟨w.heap.size, 2, none⟩ = some (.slice A m c)) (S := fun _ => True) (by kernel_rfl) ?_
    refine wpAnyL_pure (i := 0) rfl (by kernel_rfl) (fun _ _ _ h => h) (Or.inl ⟨by rfl, (fun u hu => by obtain ⟨k0, k1, k2, k3⟩ := hu; go_simp; try rfl)⟩) HK0.out (fun _ => trivial) ?_
    simp only [Act.put, List.setIfInBounds_toArray, List.set_cons_zero, List.set_cons_succ, List.getElem_toArray, List.getElem_cons_zero, List.getElem_cons_succ]
    refine wpAnyL_pure (i := 3) rfl (by kernel_rfl) (fun _ _ _ h => h) (Or.inl ⟨by rfl, (fun u hu => by obtain ⟨k0, k1, k2, k3⟩ := hu; go_simp; try rfl)⟩) HK0.out (fun _ => trivial) ?_
    simp only [Act.put, List.setIfInBounds_toArray, List.set_cons_zero, List.set_cons_succ, List.getElem_toArray, List.getElem_cons_zero, List.getElem_cons_succ]
    refine wpAnyL_ready (rs := [1]) (by kernel_rfl) (by simp) ?_
    refine AllL.cons rfl (fun K hK => ?_) ?_
    · go_simp
      refine (treeWord w1.drew _ x A m c HS.out.drew HL.out (by omega)).mono ?_
      rintro e w2 ⟨A2, c2, rfl, _, _, hb2⟩
      rw [← HN.out]
      have HB2 := Lib.hid ((Below.refl w1.heap.size w1).drew.trans hb2)
      clear hb2
      refine hK.out _ _ (HALL.out _ HB2.out) (fun _ => trivial) ?_
      clear hK K
      refine wpAnyL_pure (i := 2) rfl (by kernel_rfl) (fun _ _ _ h => h) (Or.inl ⟨by rfl, (fun u hu => by obtain ⟨k0, k1, k2, k3⟩ := hu; go_simp; try rfl)⟩) (HALL.out _ HB2.out) (fun _ => trivial) ?_
      simp only [Act.put, List.setIfInBounds_toArray, List.set_cons_zero, List.set_cons_succ, List.getElem_toArray, List.getElem_cons_zero, List.getElem_cons_succ]
      refine wpAnyL_pure (i := 4) rfl (by kernel_rfl) (fun _ _ _ h => h) (Or.inl ⟨by rfl, (fun u hu => by obtain ⟨k0, k1, k2, k3⟩ := hu; go_simp; try rfl)⟩) (HALL.out _ HB2.out) (fun _ => trivial) ?_
      simp only [Act.put, List.setIfInBounds_toArray, List.set_cons_zero, List.set_cons_succ, List.getElem_toArray, List.getElem_cons_zero, List.getElem_cons_succ]
      refine wpAnyL_pure (i := 5) rfl (by kernel_rfl) (fun _ _ _ h => h) (Or.inl ⟨by rfl, (fun u hu => by obtain ⟨k0, k1, k2, k3⟩ := hu; go_simp; try rfl)⟩) (HALL.out _ HB2.out) (fun _ => trivial) ?_
      simp only [Act.put, List.setIfInBounds_toArray, List.set_cons_zero, List.set_cons_succ, List.getElem_toArray, List.getElem_cons_zero, List.getElem_cons_succ]
      refine wpAnyL_pure (i := 6) (v := .bool false) rfl (by kernel_rfl) (fun _ _ _ h => h) (Or.inl ⟨by rfl, (fun u hu => by have hq := HQ.out; obtain ⟨k0, k1, k2, k3⟩ := hu; go_simp; try rfl)⟩) (HALL.out _ HB2.out) (fun _ => trivial) ?_
      simp only [Act.put, List.setIfInBounds_toArray, List.set_cons_zero, List.set_cons_succ, List.getElem_toArray, List.getElem_cons_zero, List.getElem_cons_succ]
      refine wpAnyL_pure (i := 7) rfl (by kernel_rfl) (fun _ _ _ h => h) (Or.inl ⟨by rfl, (fun u hu => by obtain ⟨k0, k1, k2, k3⟩ := hu; go_simp; try rfl)⟩) (HALL.out _ HB2.out) (fun _ => trivial) ?_
      simp only [Act.put, List.setIfInBounds_toArray, List.set_cons_zero, List.set_cons_succ, List.getElem_toArray, List.getElem_cons_zero, List.getElem_cons_succ]
      refine wpAnyL_pure (i := 8) rfl (by kernel_rfl) (fun _ _ _ h => h) (Or.inl ⟨by rfl, (fun u hu => by obtain ⟨k0, k1, k2, k3⟩ := hu; go_simp; try rfl)⟩) (HALL.out _ HB2.out) (fun _ => trivial) ?_
      simp only [Act.put, List.setIfInBounds_toArray, List.set_cons_zero, List.set_cons_succ, List.getElem_toArray, List.getElem_cons_zero, List.getElem_cons_succ]
      refine wpAnyL_ready (rs := [9]) (by kernel_rfl) (by simp) ?_
      refine AllL.cons rfl (fun K hK => ?_) ?_
      · go_simp
        have hz2 := HB2.out.size
        refine (treeSize w2 _ x A m c (HS.out.below HB2.out) HL.out (by omega)).mono ?_
        rintro e w3 ⟨rfl, hb3⟩
        rw [← HZ.out]
        have HB3 := Lib.hid (HB2.out.trans (hb3.mono hz2))
        clear hb3
        refine hK.out _ _ (HALL.out _ HB3.out) (fun _ => trivial) ?_
        clear hK K
        refine wpAnyL_pure (i := 10) rfl (by kernel_rfl) (fun _ _ _ h => h) (Or.inl ⟨by rfl, (fun u hu => by obtain ⟨k0, k1, k2, k3⟩ := hu; go_simp; try rfl)⟩) (HALL.out _ HB3.out) (fun _ => trivial) ?_
        simp only [Act.put, List.setIfInBounds_toArray, List.set_cons_zero, List.set_cons_succ, List.getElem_toArray, List.getElem_cons_zero, List.getElem_cons_succ]
        refine wpAnyL_pure (i := 11) rfl (by kernel_rfl) (fun _ _ _ h => h) (Or.inl ⟨by rfl, (fun u hu => by obtain ⟨k0, k1, k2, k3⟩ := hu; go_simp; try rfl)⟩) (HALL.out _ HB3.out) (fun _ => trivial) ?_
        simp only [Act.put, List.setIfInBounds_toArray, List.set_cons_zero, List.set_cons_succ, List.getElem_toArray, List.getElem_cons_zero, List.getElem_cons_succ]
        refine wpAnyL_pure (i := 12) rfl (by kernel_rfl) (fun _ _ _ h => h) (Or.inl ⟨by rfl, (fun u hu => by obtain ⟨k0, k1, k2, k3⟩ := hu; go_simp; try rfl)⟩) (HALL.out _ HB3.out) (fun _ => trivial) ?_
        simp only [Act.put, List.setIfInBounds_toArray, List.set_cons_zero, List.set_cons_succ, List.getElem_toArray, List.getElem_cons_zero, List.getElem_cons_succ]
        refine wpAnyL_done (by kernel_rfl) ?_ _
        go_wp2_with fail
        go_ret
        exact ⟨ret_bool (by rw [HF.out, H1.out]; rfl), HB1.out.trans (HB3.out.mono (by omega))⟩
      exact AllL.nil
    exact AllL.nil
theorem tellsSh (w0 : World) (Ba : Nat) (a : Int) (h0 : 0 ≤ a) (h3 : a ≤ 3) (hB : w0.heap[Ba]? = some (.cells #[.int .i64 a] 3 (0, 0))) (R : List RuleD) (s : SymD) :
    TellsT Try.prog w0 (fun x => TV R s x ∧ sizeT x ≤ 60) (shF a) 18 #[.pointer (some ⟨Ba, 0, none⟩)] := fun w hb x A m c S hs hg =>
  shFn w Ba a h0 h3 ((hb.block _ (heap_lt hB)).trans hB) x A m c S hs hg.1.leaves hg.2
theorem entersShF : ∀ (args : Array Value) (u : World), (callFunc 18 args).run Try.prog u = .ok (.enter 18 args) u := enters_of Try.func18 (by kernel_rfl) rfl
end Go.Proofs.Ytfmmpmphlognlaa
