/- MkValid -/
import Derived.Test.YtbmcoamdfpegnaaMt12
import Derived.Test.YtbmcoamdfpegnaaMt34
import Derived.Test.YtbmcoamdfpegnaaMt36
import Derived.Test.YtbmcoamdfpegnaaMt37
import Derived.Test.YtbmcoamdfpegnaaMt38
namespace Go.Proofs.Ytbmcoamdfpegnaa
open Go.RowKit
theorem gramTM (a : Int) (w : World) : Calls Try.prog 69 #[.int .i64 a] w fun e w' => e = .returned (.agg #[.bool true, .int .i64 a]) ∧ Below w.heap.size w w' := by
 go_enter Try.func69, Try.ntmps69
 go_wp2_with fail
 exact bodyPost_ret (v := .agg #[.bool true, .int .i64 a]) (by simp [results, Try.results69, go_sem]) rfl ⟨rfl, (Below.refl _ _).alloc (Nat.le_refl _) _⟩
theorem gramNM (a : Int) (w : World) : Calls Try.prog 39 #[.int .i64 a] w fun e w' => e = .returned (.agg #[.bool false, .int .i64 a]) ∧ Below w.heap.size w w' := by
 go_enter Try.func39, Try.ntmps39
 go_wp2_with fail
 exact bodyPost_ret (v := .agg #[.bool false, .int .i64 a]) (by simp [results, Try.results39, go_sem]) rfl ⟨rfl, (Below.refl _ _).alloc (Nat.le_refl _) _⟩
theorem gramLeafM (x : Int) (w : World) : Calls Try.prog 41 #[.int .i64 x] w fun e w' => e = .returned (.agg #[.int .i64 (-1), .int .i64 x, .slice none 0 0]) ∧ Below w.heap.size w w' := by
 go_enter Try.func41, Try.ntmps41
 go_wp2_with fail
 exact bodyPost_ret (v := .agg #[.int .i64 (-1), .int .i64 x, .slice none 0 0]) (by simp [results, Try.results41, go_sem]) rfl ⟨rfl, (Below.refl _ _).alloc (Nat.le_refl _) _⟩
theorem neqSymM (a c : Bool) (b d : Int) (w : World) : (binOp .neq 42 (.agg #[.bool a, .int .i64 b]) (.agg #[.bool c, .int .i64 d])).run Try.prog w = .ok (.bool (!(a == c && b == d))) w := by
 have h := eqSym a c b d w
 rw [run_eql_struct] at h
 rw [run_neq_struct]
 cases hr : (Op.equalIn 10000 42 (.agg #[.bool a, .int .i64 b]) (.agg #[.bool c, .int .i64 d])).run Try.prog w with
 | ok b w' =>
  rw [hr] at h
  simp only [Result.andThen, Result.ok.injEq, Value.bool.injEq] at h ⊢
  obtain ⟨rfl, rfl⟩ := h
  exact ⟨rfl, rfl⟩
 | halt h' w' =>
  rw [hr] at h
  cases h
def ValidAt (T N : Nat) (P : List RuleD) (sz : Nat) : Prop :=
 ∀ (t : TreeD) (s : SymD) (w : World) (S S' : Nat → Prop) (AP : Option Addr) (nP cP : Nat) (AN AF : Option Addr) (nN cN nF cF : Nat) (A : Option Addr) (m c : Nat), sizeT t ≤ sz → TV P s t → SymOk (T : Int) (N : Int) s → Sl RRule w S AP nP cP P → Sl RTree w S' A m c t.kids →
  Calls Try.prog 46 #[.agg #[.int .i64 (T : Int), .int .i64 (N : Int), .int .i64 0, .slice AP nP cP, .slice AN nN cN, .slice AF nF cF], .agg #[.int .i64 t.rule, .int .i64 t.term, .slice A m c], .agg #[.bool s.1, .int .i64 s.2]] w fun e w' => e = .returned (.bool true) ∧ Below w.heap.size w w'
set_option linter.unusedSimpArgs false in
set_option maxRecDepth 100000 in
set_option maxHeartbeats 8000000 in
theorem mkValidS (T N : Nat) (P : List RuleD) (hli : LstIn T N P) (sz : Nat) (IH : ValidAt T N P sz) : ValidAt T N P (sz + 1) := by
 intro t s w S S' AP nP cP AN AF nN cN nF cF A m c hsz ht hso hg hs
 obtain ⟨w1, hw1⟩ : ∃ w1 : World, w1 = ((w.alloc (.cells #[.int .i64 (T : Int), .int .i64 (N : Int), .int .i64 0, .slice AP nP cP, .slice AN nN cN, .slice AF nF cF] 34)).alloc (.cells #[.int .i64 t.rule, .int .i64 t.term, .slice A m c] 55)).alloc (.cells #[.bool s.1, .int .i64 s.2] 42) := ⟨_, rfl⟩
 have hz1 : w1.heap.size = w.heap.size + 3 := by rw [hw1]; simp
 have hb1 : Below w.heap.size w w1 := by rw [hw1]; exact (((Below.refl _ _).alloc (Nat.le_refl _) _).alloc (by simp) _).alloc (by simp; omega) _
 have b1 : w1.heap[w.heap.size]? = some (.cells #[.int .i64 (T : Int), .int .i64 (N : Int), .int .i64 0, .slice AP nP cP, .slice AN nN cN, .slice AF nF cF] 34 (0, 0)) := by rw [hw1]; exact (Below.heap_alloc _ _ _ (by simp; omega)).trans ((Below.heap_alloc _ _ _ (by simp)).trans (heap_alloc_new w _))
 have b2 : w1.heap[w.heap.size + 1]? = some (.cells #[.int .i64 t.rule, .int .i64 t.term, .slice A m c] 55 (0, 0)) := by rw [hw1]; exact (Below.heap_alloc _ _ _ (by simp)).trans (heap_new _ _ _ (by simp))
 have b3 : w1.heap[w.heap.size + 2]? = some (.cells #[.bool s.1, .int .i64 s.2] 42 (0, 0)) := by rw [hw1]; exact heap_new _ _ _ (by simp)
 have HALL := Lib.hid (show ∀ u : World, Below w1.heap.size w1 u → (u.cell? ⟨w.heap.size, 0, none⟩ = some (.int .i64 (T : Int)) ∧ u.cell? ⟨w.heap.size, 1, none⟩ = some (.int .i64 (N : Int)) ∧ u.cell? ⟨w.heap.size, 2, none⟩ = some (.int .i64 0) ∧ u.cell? ⟨w.heap.size, 3, none⟩ = some (.slice AP nP cP) ∧ u.cell? ⟨w.heap.size, 4, none⟩ = some (.slice AN nN cN) ∧ u.cell? ⟨w.heap.size, 5, none⟩ = some (.slice AF nF cF)) ∧
     (u.cell? ⟨w.heap.size + 1, 0, none⟩ = some (.int .i64 t.rule) ∧ u.cell? ⟨w.heap.size + 1, 1, none⟩ = some (.int .i64 t.term) ∧ u.cell? ⟨w.heap.size + 1, 2, none⟩ = some (.slice A m c)) ∧ u.cell? ⟨w.heap.size + 2, 0, none⟩ = some (.bool s.1) ∧ u.cell? ⟨w.heap.size + 2, 1, none⟩ = some (.int .i64 s.2) from fun u hu => by
  have e1 := (hu.block _ (by omega)).trans b1
  have e2 := (hu.block _ (by omega)).trans b2
  have e3 := (hu.block _ (by omega)).trans b3
  simp [World.cell?, e1, e2, e3])
 have HB1 := Lib.hid hb1
 have HW1 := Lib.hid hw1
 have HZ1 := Lib.hid hz1
 clear b1 b2 b3 hw1 hz1
 rcases ht.inv with ⟨y, rfl, rfl⟩ | ⟨k, r, ts, rfl, rfl, h1, h2⟩
 ·
  have hm := hs.len
  simp only [TreeD.rule, TreeD.term, TreeD.kids, List.length_nil] at hm HALL HW1 ⊢
  subst hm
  obtain ⟨s1, s2⟩ := hso
  simp only [if_true] at s1 s2
  have d1 : decide ((0 : Int) ≤ y) = true := by simpa using s1
  have d2 : decide (y < (T : Int)) = true := by simpa using s2
  have hse : (true == true && y == y) = true := by simp
  have HEQ := Lib.hid (fun u => (eqSym true true y y u).trans (by rw [hse]))
  have HK0 := Lib.hid (HALL.out w1.drew (Below.refl _ _).drew)
  clear hs ht hg hse s1 s2 hb1 hsz IH
  go_enter Try.func46, Try.ntmps46
  go_wp2_with fail
  rw [← HW1.out]
  refine wp_region_late (late := []) (S1 := fun u => (u.cell? ⟨w.heap.size, 0, none⟩ = some (.int .i64 (T : Int)) ∧ u.cell? ⟨w.heap.size, 1, none⟩ = some (.int .i64 (N : Int)) ∧ u.cell? ⟨w.heap.size, 2, none⟩ = some (.int .i64 0) ∧ u.cell? ⟨w.heap.size, 3, none⟩ = some (.slice AP nP cP) ∧ u.cell? ⟨w.heap.size, 4, none⟩ = some (.slice AN nN cN) ∧ u.cell? ⟨w.heap.size, 5, none⟩ = some (.slice AF nF cF)) ∧
   (u.cell? ⟨w.heap.size + 1, 0, none⟩ = some (.int .i64 (-1)) ∧ u.cell? ⟨w.heap.size + 1, 1, none⟩ = some (.int .i64 y) ∧ u.cell? ⟨w.heap.size + 1, 2, none⟩ = some (.slice A 0 c)) ∧ u.cell? ⟨w.heap.size + 2, 0, none⟩ = some (.bool true) ∧ u.cell? ⟨w.heap.size + 2, 1, none⟩ = some (.int .i64 y)) (S := fun _ => True) (by kernel_rfl) ?_
  refine wpAnyL_pure (i := 0) rfl (by kernel_rfl) (fun _ _ _ h => h) (Or.inl ⟨by rfl, (fun u hu => by obtain ⟨⟨k0, k1, k2, k3, k4, k5⟩, ⟨k6, k7, k8⟩, k9, k10⟩ := hu; go_simp; try rfl)⟩) HK0.out (fun _ => trivial) ?_
  simp only [Act.put, List.setIfInBounds_toArray, List.set_cons_zero, List.set_cons_succ, List.getElem_toArray, List.getElem_cons_zero, List.getElem_cons_succ]
  refine wpAnyL_pure (i := 1) rfl (by kernel_rfl) (fun _ _ _ h => h) (Or.inl ⟨by rfl, (fun u hu => by obtain ⟨⟨k0, k1, k2, k3, k4, k5⟩, ⟨k6, k7, k8⟩, k9, k10⟩ := hu; go_simp; try rfl)⟩) HK0.out (fun _ => trivial) ?_
  simp only [Act.put, List.setIfInBounds_toArray, List.set_cons_zero, List.set_cons_succ, List.getElem_toArray, List.getElem_cons_zero, List.getElem_cons_succ]
  refine wpAnyL_pure (i := 2) rfl (by kernel_rfl) (fun _ _ _ h => h) (Or.inl ⟨by rfl, (fun u hu => by obtain ⟨⟨k0, k1, k2, k3, k4, k5⟩, ⟨k6, k7, k8⟩, k9, k10⟩ := hu; go_simp; try rfl)⟩) HK0.out (fun _ => trivial) ?_
  simp only [Act.put, List.setIfInBounds_toArray, List.set_cons_zero, List.set_cons_succ, List.getElem_toArray, List.getElem_cons_zero, List.getElem_cons_succ]
  refine wpAnyL_ready (rs := [3]) (by kernel_rfl) (by simp) ?_
  refine AllL.cons rfl (fun K hK => ?_) ?_
  ·
   go_simp
   refine (gramTM y w1.drew).mono ?_
   rintro e w2 ⟨rfl, hb2⟩
   have HB2 := Lib.hid ((Below.refl w1.heap.size w1).drew.trans hb2)
   clear hb2
   refine hK.out _ _ (HALL.out _ HB2.out) (fun _ => trivial) ?_
   clear hK K
   refine wpAnyL_pure (i := 4) rfl (by kernel_rfl) (fun _ _ _ h => h) (Or.inl ⟨by rfl, (fun u hu => by have heq := HEQ.out u; go_simp; try rfl)⟩) (HALL.out _ HB2.out) (fun _ => trivial) ?_
   simp only [Act.put, List.setIfInBounds_toArray, List.set_cons_zero, List.set_cons_succ, List.getElem_toArray, List.getElem_cons_zero, List.getElem_cons_succ]
   refine wpAnyL_pure (i := 5) rfl (by kernel_rfl) (fun _ _ _ h => h) (Or.inl ⟨by rfl, (fun u hu => by obtain ⟨⟨k0, k1, k2, k3, k4, k5⟩, ⟨k6, k7, k8⟩, k9, k10⟩ := hu; go_simp; try rfl)⟩) (HALL.out _ HB2.out) (fun _ => trivial) ?_
   simp only [Act.put, List.setIfInBounds_toArray, List.set_cons_zero, List.set_cons_succ, List.getElem_toArray, List.getElem_cons_zero, List.getElem_cons_succ]
   refine wpAnyL_pure (i := 6) rfl (by kernel_rfl) (fun _ _ _ h => h) (Or.inl ⟨by rfl, (fun u hu => by obtain ⟨⟨k0, k1, k2, k3, k4, k5⟩, ⟨k6, k7, k8⟩, k9, k10⟩ := hu; go_simp; try rfl)⟩) (HALL.out _ HB2.out) (fun _ => trivial) ?_
   simp only [Act.put, List.setIfInBounds_toArray, List.set_cons_zero, List.set_cons_succ, List.getElem_toArray, List.getElem_cons_zero, List.getElem_cons_succ]
   refine wpAnyL_pure (i := 7) rfl (by kernel_rfl) (fun _ _ _ h => h) (Or.inl ⟨by rfl, (fun u hu => by obtain ⟨⟨k0, k1, k2, k3, k4, k5⟩, ⟨k6, k7, k8⟩, k9, k10⟩ := hu; go_simp; try rfl)⟩) (HALL.out _ HB2.out) (fun _ => trivial) ?_
   simp only [Act.put, List.setIfInBounds_toArray, List.set_cons_zero, List.set_cons_succ, List.getElem_toArray, List.getElem_cons_zero, List.getElem_cons_succ]
   refine wpAnyL_pure (i := 8) rfl (by kernel_rfl) (fun _ _ _ h => h) (Or.inl ⟨by rfl, (fun u hu => by obtain ⟨⟨k0, k1, k2, k3, k4, k5⟩, ⟨k6, k7, k8⟩, k9, k10⟩ := hu; go_simp; try rfl)⟩) (HALL.out _ HB2.out) (fun _ => trivial) ?_
   simp only [Act.put, List.setIfInBounds_toArray, List.set_cons_zero, List.set_cons_succ, List.getElem_toArray, List.getElem_cons_zero, List.getElem_cons_succ]
   refine wpAnyL_pure (i := 9) rfl (by kernel_rfl) (fun _ _ _ h => h) (Or.inl ⟨by rfl, (fun u hu => by obtain ⟨⟨k0, k1, k2, k3, k4, k5⟩, ⟨k6, k7, k8⟩, k9, k10⟩ := hu; go_simp; try rfl)⟩) (HALL.out _ HB2.out) (fun _ => trivial) ?_
   simp only [Act.put, List.setIfInBounds_toArray, List.set_cons_zero, List.set_cons_succ, List.getElem_toArray, List.getElem_cons_zero, List.getElem_cons_succ]
   refine wpAnyL_pure (i := 10) rfl (by kernel_rfl) (fun _ _ _ h => h) (Or.inl ⟨by rfl, (fun u hu => by obtain ⟨⟨k0, k1, k2, k3, k4, k5⟩, ⟨k6, k7, k8⟩, k9, k10⟩ := hu; go_simp; try rfl)⟩) (HALL.out _ HB2.out) (fun _ => trivial) ?_
   simp only [Act.put, List.setIfInBounds_toArray, List.set_cons_zero, List.set_cons_succ, List.getElem_toArray, List.getElem_cons_zero, List.getElem_cons_succ]
   refine wpAnyL_pure (i := 11) rfl (by kernel_rfl) (fun _ _ _ h => h) (Or.inl ⟨by rfl, (fun u hu => by obtain ⟨⟨k0, k1, k2, k3, k4, k5⟩, ⟨k6, k7, k8⟩, k9, k10⟩ := hu; go_simp; try rfl)⟩) (HALL.out _ HB2.out) (fun _ => trivial) ?_
   simp only [Act.put, List.setIfInBounds_toArray, List.set_cons_zero, List.set_cons_succ, List.getElem_toArray, List.getElem_cons_zero, List.getElem_cons_succ]
   refine wpAnyL_pure (i := 12) rfl (by kernel_rfl) (fun _ _ _ h => h) (Or.inl ⟨by rfl, (fun u hu => by obtain ⟨⟨k0, k1, k2, k3, k4, k5⟩, ⟨k6, k7, k8⟩, k9, k10⟩ := hu; go_simp; try rfl)⟩) (HALL.out _ HB2.out) (fun _ => trivial) ?_
   simp only [Act.put, List.setIfInBounds_toArray, List.set_cons_zero, List.set_cons_succ, List.getElem_toArray, List.getElem_cons_zero, List.getElem_cons_succ]
   refine wpAnyL_pure (i := 13) rfl (by kernel_rfl) (fun _ _ _ h => h) (Or.inl ⟨by rfl, (fun u hu => by obtain ⟨⟨k0, k1, k2, k3, k4, k5⟩, ⟨k6, k7, k8⟩, k9, k10⟩ := hu; go_simp; try rfl)⟩) (HALL.out _ HB2.out) (fun _ => trivial) ?_
   simp only [Act.put, List.setIfInBounds_toArray, List.set_cons_zero, List.set_cons_succ, List.getElem_toArray, List.getElem_cons_zero, List.getElem_cons_succ]
   refine wpAnyL_pure (i := 14) rfl (by kernel_rfl) (fun _ _ _ h => h) (Or.inl ⟨by rfl, (fun u hu => by obtain ⟨⟨k0, k1, k2, k3, k4, k5⟩, ⟨k6, k7, k8⟩, k9, k10⟩ := hu; go_simp; try rfl)⟩) (HALL.out _ HB2.out) (fun _ => trivial) ?_
   simp only [Act.put, List.setIfInBounds_toArray, List.set_cons_zero, List.set_cons_succ, List.getElem_toArray, List.getElem_cons_zero, List.getElem_cons_succ]
   refine wpAnyL_pure (i := 15) rfl (by kernel_rfl) (fun _ _ _ h => h) (Or.inl ⟨by rfl, (fun u hu => by obtain ⟨⟨k0, k1, k2, k3, k4, k5⟩, ⟨k6, k7, k8⟩, k9, k10⟩ := hu; go_simp; try rfl)⟩) (HALL.out _ HB2.out) (fun _ => trivial) ?_
   simp only [Act.put, List.setIfInBounds_toArray, List.set_cons_zero, List.set_cons_succ, List.getElem_toArray, List.getElem_cons_zero, List.getElem_cons_succ]
   refine wpAnyL_pure (i := 16) rfl (by kernel_rfl) (fun _ _ _ h => h) (Or.inl ⟨by rfl, (fun u hu => by obtain ⟨⟨k0, k1, k2, k3, k4, k5⟩, ⟨k6, k7, k8⟩, k9, k10⟩ := hu; go_simp; try rfl)⟩) (HALL.out _ HB2.out) (fun _ => trivial) ?_
   simp only [Act.put, List.setIfInBounds_toArray, List.set_cons_zero, List.set_cons_succ, List.getElem_toArray, List.getElem_cons_zero, List.getElem_cons_succ]
   refine wpAnyL_pure (i := 17) rfl (by kernel_rfl) (fun _ _ _ h => h) (Or.inl ⟨by rfl, (fun u hu => by obtain ⟨⟨k0, k1, k2, k3, k4, k5⟩, ⟨k6, k7, k8⟩, k9, k10⟩ := hu; go_simp; try rfl)⟩) (HALL.out _ HB2.out) (fun _ => trivial) ?_
   simp only [Act.put, List.setIfInBounds_toArray, List.set_cons_zero, List.set_cons_succ, List.getElem_toArray, List.getElem_cons_zero, List.getElem_cons_succ]
   refine wpAnyL_pure (i := 18) rfl (by kernel_rfl) (fun _ _ _ h => h) (Or.inl ⟨by rfl, (fun u hu => by obtain ⟨⟨k0, k1, k2, k3, k4, k5⟩, ⟨k6, k7, k8⟩, k9, k10⟩ := hu; go_simp; try rfl)⟩) (HALL.out _ HB2.out) (fun _ => trivial) ?_
   simp only [Act.put, List.setIfInBounds_toArray, List.set_cons_zero, List.set_cons_succ, List.getElem_toArray, List.getElem_cons_zero, List.getElem_cons_succ]
   refine wpAnyL_pure (i := 19) rfl (by kernel_rfl) (fun _ _ _ h => h) (Or.inl ⟨by rfl, (fun u hu => by obtain ⟨⟨k0, k1, k2, k3, k4, k5⟩, ⟨k6, k7, k8⟩, k9, k10⟩ := hu; go_simp; try rfl)⟩) (HALL.out _ HB2.out) (fun _ => trivial) ?_
   simp only [Act.put, List.setIfInBounds_toArray, List.set_cons_zero, List.set_cons_succ, List.getElem_toArray, List.getElem_cons_zero, List.getElem_cons_succ]
   refine wpAnyL_pure (i := 20) rfl (by kernel_rfl) (fun _ _ _ h => h) (Or.inl ⟨by rfl, (fun u hu => by obtain ⟨⟨k0, k1, k2, k3, k4, k5⟩, ⟨k6, k7, k8⟩, k9, k10⟩ := hu; go_simp; try rfl)⟩) (HALL.out _ HB2.out) (fun _ => trivial) ?_
   simp only [Act.put, List.setIfInBounds_toArray, List.set_cons_zero, List.set_cons_succ, List.getElem_toArray, List.getElem_cons_zero, List.getElem_cons_succ]
   refine wpAnyL_pure (i := 21) rfl (by kernel_rfl) (fun _ _ _ h => h) (Or.inl ⟨by rfl, (fun u hu => by obtain ⟨⟨k0, k1, k2, k3, k4, k5⟩, ⟨k6, k7, k8⟩, k9, k10⟩ := hu; go_simp; try rfl)⟩) (HALL.out _ HB2.out) (fun _ => trivial) ?_
   simp only [Act.put, List.setIfInBounds_toArray, List.set_cons_zero, List.set_cons_succ, List.getElem_toArray, List.getElem_cons_zero, List.getElem_cons_succ]
   refine wpAnyL_pure (i := 22) rfl (by kernel_rfl) (fun _ _ _ h => h) (Or.inl ⟨by rfl, (fun u hu => by obtain ⟨⟨k0, k1, k2, k3, k4, k5⟩, ⟨k6, k7, k8⟩, k9, k10⟩ := hu; go_simp; try rfl)⟩) (HALL.out _ HB2.out) (fun _ => trivial) ?_
   simp only [Act.put, List.setIfInBounds_toArray, List.set_cons_zero, List.set_cons_succ, List.getElem_toArray, List.getElem_cons_zero, List.getElem_cons_succ]
   refine wpAnyL_pure (i := 23) rfl (by kernel_rfl) (fun _ _ _ h => h) (Or.inl ⟨by rfl, (fun u hu => by obtain ⟨⟨k0, k1, k2, k3, k4, k5⟩, ⟨k6, k7, k8⟩, k9, k10⟩ := hu; go_simp; try rfl)⟩) (HALL.out _ HB2.out) (fun _ => trivial) ?_
   simp only [Act.put, List.setIfInBounds_toArray, List.set_cons_zero, List.set_cons_succ, List.getElem_toArray, List.getElem_cons_zero, List.getElem_cons_succ]
   refine wpAnyL_pure (i := 24) rfl (by kernel_rfl) (fun _ _ _ h => h) (Or.inl ⟨by rfl, (fun u hu => by obtain ⟨⟨k0, k1, k2, k3, k4, k5⟩, ⟨k6, k7, k8⟩, k9, k10⟩ := hu; go_simp; try rfl)⟩) (HALL.out _ HB2.out) (fun _ => trivial) ?_
   simp only [Act.put, List.setIfInBounds_toArray, List.set_cons_zero, List.set_cons_succ, List.getElem_toArray, List.getElem_cons_zero, List.getElem_cons_succ]
   refine wpAnyL_done (by kernel_rfl) ?_ _
   go_wp2_with fail
   go_ret
   exact ⟨rfl, HB1.out.trans (HB2.out.mono (by have := HZ1.out; omega))⟩
  exact AllL.nil
 ·
  have hk : k < nP := by
   have := (List.getElem?_eq_some_iff.1 h1).1
   have := hg.len
   omega
  have hm := hs.len
  have hlen := h2.len
  have hr4 := hli.r4 r (List.mem_of_getElem? h1)
  simp only [TreeD.rule, TreeD.term, TreeD.kids] at hm hs HALL HW1 ⊢
  have hm4 : m ≤ 4 := by omega
  obtain ⟨b, off, A2, m2, c2, r', rfl, _, hbl, hc1, hc2, hr, hrs⟩ := rule_at (hg.below hb1) hk
  rw [h1] at hr
  injection hr with hr
  subst hr
  have hm2 : m2 = m := by rw [hrs.len, hm, hlen]
  subst hm2
  have HRC := Lib.hid (show ∀ u : World, Below w1.heap.size w1 u → u.cell? ⟨b, off + k * 2, none⟩ = some (.int .i64 r.1) ∧ u.cell? ⟨b, off + k * 2 + 1, none⟩ = some (.slice A2 m2 c2) from fun u hu => ⟨(hu.cell (p := ⟨b, off + k * 2, none⟩) hbl).trans hc1, (hu.cell (p := ⟨b, off + k * 2 + 1, none⟩) hbl).trans hc2⟩)
  have HK0 := Lib.hid (And.intro (HALL.out w1.drew (Below.refl _ _).drew) (HRC.out w1.drew (Below.refl _ _).drew))
  have HG1 := Lib.hid (hg.below hb1)
  have HTS := Lib.hid (hs.below hb1)
  have HRS := Lib.hid hrs
  have HV := Lib.hid h2
  have HIH := Lib.hid IH
  have HSO := Lib.hid (hli.so r (List.mem_of_getElem? h1))
  have HSZ := Lib.hid (show ∀ x ∈ ts, sizeT x ≤ sz from fun x hx => by have := sizeT_kid (t := .node (k : Int) 0 ts) (x := x) hx; omega)
  have hkI : (k : Int) < (nP : Int) := by omega
  have hk0 : (0 : Int) ≤ (k : Int) := by omega
  have hkm : ¬ ((k : Int) = -1) := by omega
  have hkn : ¬ ((k : Int) < 0) := by omega
  have hkn2 : decide ((k : Int) < 0) = false := by simp
  have hkg : ¬ ((nP : Int) ≤ (k : Int)) := by omega
  have hkg2 : decide ((nP : Int) ≤ (k : Int)) = false := by simpa using hkg
  obtain ⟨rl, hrl⟩ : ∃ rl, rl = r.1 := ⟨_, rfl⟩
  rw [← hrl] at HRC HK0 HALL HW1 ⊢
  have hse : (!(false == false && rl == rl)) = false := by simp
  have HNE := Lib.hid (fun u => (neqSymM false false rl rl u).trans (by rw [hse]))
  clear hg ht hb1 hs h1 h2 hr4 hlen hso hc1 hc2 hrs hm IH hse hrl hsz hbl
  go_enter Try.func46, Try.ntmps46
  go_wp2_with fail
  rw [← HW1.out]
  refine wp_region_late (late := []) (S1 := fun u => ((u.cell? ⟨w.heap.size, 0, none⟩ = some (.int .i64 (T : Int)) ∧ u.cell? ⟨w.heap.size, 1, none⟩ = some (.int .i64 (N : Int)) ∧ u.cell? ⟨w.heap.size, 2, none⟩ = some (.int .i64 0) ∧ u.cell? ⟨w.heap.size, 3, none⟩ = some (.slice (some ⟨b, off, none⟩) nP cP) ∧ u.cell? ⟨w.heap.size, 4, none⟩ = some (.slice AN nN cN) ∧ u.cell? ⟨w.heap.size, 5, none⟩ = some (.slice AF nF cF)) ∧
   (u.cell? ⟨w.heap.size + 1, 0, none⟩ = some (.int .i64 (k : Int)) ∧ u.cell? ⟨w.heap.size + 1, 1, none⟩ = some (.int .i64 0) ∧ u.cell? ⟨w.heap.size + 1, 2, none⟩ = some (.slice A m2 c)) ∧ u.cell? ⟨w.heap.size + 2, 0, none⟩ = some (.bool false) ∧ u.cell? ⟨w.heap.size + 2, 1, none⟩ = some (.int .i64 rl)) ∧ u.cell? ⟨b, off + k * 2, none⟩ = some (.int .i64 rl) ∧ u.cell? ⟨b, off + k * 2 + 1, none⟩ = some (.slice A2 m2 c2)) (S := fun _ => True) (by kernel_rfl) ?_
  refine wpAnyL_pure (i := 0) rfl (by kernel_rfl) (fun _ _ _ h => h) (Or.inl ⟨by rfl, (fun u hu => by obtain ⟨⟨⟨k0, k1, k2, k3, k4, k5⟩, ⟨k6, k7, k8⟩, k9, k10⟩, k11, k12⟩ := hu; go_simp; try rfl)⟩) HK0.out (fun _ => trivial) ?_
  simp only [Act.put, List.setIfInBounds_toArray, List.set_cons_zero, List.set_cons_succ, List.getElem_toArray, List.getElem_cons_zero, List.getElem_cons_succ]
  refine wpAnyL_pure (i := 1) rfl (by kernel_rfl) (fun _ _ _ h => h) (Or.inl ⟨by rfl, (fun u hu => by obtain ⟨⟨⟨k0, k1, k2, k3, k4, k5⟩, ⟨k6, k7, k8⟩, k9, k10⟩, k11, k12⟩ := hu; go_simp; try rfl)⟩) HK0.out (fun _ => trivial) ?_
  simp only [Act.put, List.setIfInBounds_toArray, List.set_cons_zero, List.set_cons_succ, List.getElem_toArray, List.getElem_cons_zero, List.getElem_cons_succ]
  refine wpAnyL_pure (i := 2) (v := .bool false) rfl (by kernel_rfl) (fun _ _ _ h => h) (Or.inl ⟨by rfl, (fun u hu => by obtain ⟨⟨⟨k0, k1, k2, k3, k4, k5⟩, ⟨k6, k7, k8⟩, k9, k10⟩, k11, k12⟩ := hu; go_simp; try first | rfl | omega | (simp; omega))⟩) HK0.out (fun _ => trivial) ?_
  simp only [Act.put, List.setIfInBounds_toArray, List.set_cons_zero, List.set_cons_succ, List.getElem_toArray, List.getElem_cons_zero, List.getElem_cons_succ]
  refine wpAnyL_pure (i := 3) (v := .bool false) rfl (by kernel_rfl) (fun _ _ _ h => h) (Or.inl ⟨by rfl, (fun u hu => by obtain ⟨⟨⟨k0, k1, k2, k3, k4, k5⟩, ⟨k6, k7, k8⟩, k9, k10⟩, k11, k12⟩ := hu; go_simp; try first | rfl | omega | (simp; omega))⟩) HK0.out (fun _ => trivial) ?_
  simp only [Act.put, List.setIfInBounds_toArray, List.set_cons_zero, List.set_cons_succ, List.getElem_toArray, List.getElem_cons_zero, List.getElem_cons_succ]
  refine wpAnyL_pure (i := 4) rfl (by kernel_rfl) (fun _ _ _ h => h) (Or.inl ⟨by rfl, (fun u hu => by obtain ⟨⟨⟨k0, k1, k2, k3, k4, k5⟩, ⟨k6, k7, k8⟩, k9, k10⟩, k11, k12⟩ := hu; go_simp; try rfl)⟩) HK0.out (fun _ => trivial) ?_
  simp only [Act.put, List.setIfInBounds_toArray, List.set_cons_zero, List.set_cons_succ, List.getElem_toArray, List.getElem_cons_zero, List.getElem_cons_succ]
  refine wpAnyL_pure (i := 5) rfl (by kernel_rfl) (fun _ _ _ h => h) (Or.inl ⟨by rfl, (fun u hu => by obtain ⟨⟨⟨k0, k1, k2, k3, k4, k5⟩, ⟨k6, k7, k8⟩, k9, k10⟩, k11, k12⟩ := hu; go_simp; try rfl)⟩) HK0.out (fun _ => trivial) ?_
  simp only [Act.put, List.setIfInBounds_toArray, List.set_cons_zero, List.set_cons_succ, List.getElem_toArray, List.getElem_cons_zero, List.getElem_cons_succ]
  refine wpAnyL_pure (i := 6) rfl (by kernel_rfl) (fun _ _ _ h => h) (Or.inl ⟨by rfl, (fun u hu => by obtain ⟨⟨⟨k0, k1, k2, k3, k4, k5⟩, ⟨k6, k7, k8⟩, k9, k10⟩, k11, k12⟩ := hu; go_simp; try rfl)⟩) HK0.out (fun _ => trivial) ?_
  simp only [Act.put, List.setIfInBounds_toArray, List.set_cons_zero, List.set_cons_succ, List.getElem_toArray, List.getElem_cons_zero, List.getElem_cons_succ]
  refine wpAnyL_pure (i := 7) rfl (by kernel_rfl) (fun _ _ _ h => h) (Or.inl ⟨by rfl, (fun u hu => by obtain ⟨⟨⟨k0, k1, k2, k3, k4, k5⟩, ⟨k6, k7, k8⟩, k9, k10⟩, k11, k12⟩ := hu; go_simp; try rfl)⟩) HK0.out (fun _ => trivial) ?_
  simp only [Act.put, List.setIfInBounds_toArray, List.set_cons_zero, List.set_cons_succ, List.getElem_toArray, List.getElem_cons_zero, List.getElem_cons_succ]
  refine wpAnyL_pure (i := 8) rfl (by kernel_rfl) (fun _ _ _ h => h) (Or.inl ⟨by rfl, (fun u hu => by obtain ⟨⟨⟨k0, k1, k2, k3, k4, k5⟩, ⟨k6, k7, k8⟩, k9, k10⟩, k11, k12⟩ := hu; go_simp; try rfl)⟩) HK0.out (fun _ => trivial) ?_
  simp only [Act.put, List.setIfInBounds_toArray, List.set_cons_zero, List.set_cons_succ, List.getElem_toArray, List.getElem_cons_zero, List.getElem_cons_succ]
  refine wpAnyL_pure (i := 9) rfl (by kernel_rfl) (fun _ _ _ h => h) (Or.inl ⟨by rfl, (fun u hu => by obtain ⟨⟨⟨k0, k1, k2, k3, k4, k5⟩, ⟨k6, k7, k8⟩, k9, k10⟩, k11, k12⟩ := hu; go_simp; try rfl)⟩) HK0.out (fun _ => trivial) ?_
  simp only [Act.put, List.setIfInBounds_toArray, List.set_cons_zero, List.set_cons_succ, List.getElem_toArray, List.getElem_cons_zero, List.getElem_cons_succ]
  refine wpAnyL_pure (i := 10) (v := .bool false) rfl (by kernel_rfl) (fun _ _ _ h => h) (Or.inl ⟨by rfl, (fun u hu => by obtain ⟨⟨⟨k0, k1, k2, k3, k4, k5⟩, ⟨k6, k7, k8⟩, k9, k10⟩, k11, k12⟩ := hu; go_simp; try first | rfl | omega | (simp; omega))⟩) HK0.out (fun _ => trivial) ?_
  simp only [Act.put, List.setIfInBounds_toArray, List.set_cons_zero, List.set_cons_succ, List.getElem_toArray, List.getElem_cons_zero, List.getElem_cons_succ]
  refine wpAnyL_pure (i := 11) (v := .bool false) rfl (by kernel_rfl) (fun _ _ _ h => h) (Or.inl ⟨by rfl, (fun u hu => by obtain ⟨⟨⟨k0, k1, k2, k3, k4, k5⟩, ⟨k6, k7, k8⟩, k9, k10⟩, k11, k12⟩ := hu; go_simp; try first | rfl | omega | (simp; omega))⟩) HK0.out (fun _ => trivial) ?_
  simp only [Act.put, List.setIfInBounds_toArray, List.set_cons_zero, List.set_cons_succ, List.getElem_toArray, List.getElem_cons_zero, List.getElem_cons_succ]
  refine wpAnyL_pure (i := 12) (v := .bool false) rfl (by kernel_rfl) (fun _ _ _ h => h) (Or.inl ⟨by rfl, (fun u hu => by obtain ⟨⟨⟨k0, k1, k2, k3, k4, k5⟩, ⟨k6, k7, k8⟩, k9, k10⟩, k11, k12⟩ := hu; go_simp; try first | rfl | omega | (simp; omega))⟩) HK0.out (fun _ => trivial) ?_
  simp only [Act.put, List.setIfInBounds_toArray, List.set_cons_zero, List.set_cons_succ, List.getElem_toArray, List.getElem_cons_zero, List.getElem_cons_succ]
  refine wpAnyL_pure (i := 13) rfl (by kernel_rfl) (fun _ _ _ h => h) (Or.inl ⟨by rfl, (fun u hu => by obtain ⟨⟨⟨k0, k1, k2, k3, k4, k5⟩, ⟨k6, k7, k8⟩, k9, k10⟩, k11, k12⟩ := hu; go_simp; try rfl)⟩) HK0.out (fun _ => trivial) ?_
  simp only [Act.put, List.setIfInBounds_toArray, List.set_cons_zero, List.set_cons_succ, List.getElem_toArray, List.getElem_cons_zero, List.getElem_cons_succ]
  refine wpAnyL_pure (i := 14) rfl (by kernel_rfl) (fun _ _ _ h => h) (Or.inl ⟨by rfl, (fun u hu => by obtain ⟨⟨⟨k0, k1, k2, k3, k4, k5⟩, ⟨k6, k7, k8⟩, k9, k10⟩, k11, k12⟩ := hu; go_simp; try rfl)⟩) HK0.out (fun _ => trivial) ?_
  simp only [Act.put, List.setIfInBounds_toArray, List.set_cons_zero, List.set_cons_succ, List.getElem_toArray, List.getElem_cons_zero, List.getElem_cons_succ]
  refine wpAnyL_pure (i := 15) (v := .bool false) rfl (by kernel_rfl) (fun _ _ _ h => h) (Or.inl ⟨by rfl, (fun u hu => by obtain ⟨⟨⟨k0, k1, k2, k3, k4, k5⟩, ⟨k6, k7, k8⟩, k9, k10⟩, k11, k12⟩ := hu; go_simp; try first | rfl | omega | (simp; omega))⟩) HK0.out (fun _ => trivial) ?_
  simp only [Act.put, List.setIfInBounds_toArray, List.set_cons_zero, List.set_cons_succ, List.getElem_toArray, List.getElem_cons_zero, List.getElem_cons_succ]
  refine wpAnyL_pure (i := 16) (v := .bool false) rfl (by kernel_rfl) (fun _ _ _ h => h) (Or.inl ⟨by rfl, (fun u hu => by obtain ⟨⟨⟨k0, k1, k2, k3, k4, k5⟩, ⟨k6, k7, k8⟩, k9, k10⟩, k11, k12⟩ := hu; go_simp; try first | rfl | omega | (simp; omega))⟩) HK0.out (fun _ => trivial) ?_
  simp only [Act.put, List.setIfInBounds_toArray, List.set_cons_zero, List.set_cons_succ, List.getElem_toArray, List.getElem_cons_zero, List.getElem_cons_succ]
  refine wpAnyL_pure (i := 17) (v := .bool false) rfl (by kernel_rfl) (fun _ _ _ h => h) (Or.inl ⟨by rfl, (fun u hu => by obtain ⟨⟨⟨k0, k1, k2, k3, k4, k5⟩, ⟨k6, k7, k8⟩, k9, k10⟩, k11, k12⟩ := hu; go_simp; try first | rfl | omega | (simp; omega))⟩) HK0.out (fun _ => trivial) ?_
  simp only [Act.put, List.setIfInBounds_toArray, List.set_cons_zero, List.set_cons_succ, List.getElem_toArray, List.getElem_cons_zero, List.getElem_cons_succ]
  refine wpAnyL_pure (i := 18) rfl (by kernel_rfl) (fun _ _ _ h => h) (Or.inl ⟨by rfl, (fun u hu => by obtain ⟨⟨⟨k0, k1, k2, k3, k4, k5⟩, ⟨k6, k7, k8⟩, k9, k10⟩, k11, k12⟩ := hu; go_simp; try rfl)⟩) HK0.out (fun _ => trivial) ?_
  simp only [Act.put, List.setIfInBounds_toArray, List.set_cons_zero, List.set_cons_succ, List.getElem_toArray, List.getElem_cons_zero, List.getElem_cons_succ]
  refine wpAnyL_pure (i := 19) rfl (by kernel_rfl) (fun _ _ _ h => h) (Or.inl ⟨by rfl, (fun u hu => by obtain ⟨⟨⟨k0, k1, k2, k3, k4, k5⟩, ⟨k6, k7, k8⟩, k9, k10⟩, k11, k12⟩ := hu; go_simp; try rfl)⟩) HK0.out (fun _ => trivial) ?_
  simp only [Act.put, List.setIfInBounds_toArray, List.set_cons_zero, List.set_cons_succ, List.getElem_toArray, List.getElem_cons_zero, List.getElem_cons_succ]
  refine wpAnyL_pure (i := 20) rfl (by kernel_rfl) (fun _ _ _ h => h) (Or.inl ⟨by rfl, (fun u hu => by obtain ⟨⟨⟨k0, k1, k2, k3, k4, k5⟩, ⟨k6, k7, k8⟩, k9, k10⟩, k11, k12⟩ := hu; go_simp; try rfl)⟩) HK0.out (fun _ => trivial) ?_
  simp only [Act.put, List.setIfInBounds_toArray, List.set_cons_zero, List.set_cons_succ, List.getElem_toArray, List.getElem_cons_zero, List.getElem_cons_succ]
  refine wpAnyL_pure (i := 21) rfl (by kernel_rfl) (fun _ _ _ h => h) (Or.inl ⟨by rfl, (fun u hu => by obtain ⟨⟨⟨k0, k1, k2, k3, k4, k5⟩, ⟨k6, k7, k8⟩, k9, k10⟩, k11, k12⟩ := hu; go_simp; try rfl)⟩) HK0.out (fun _ => trivial) ?_
  simp only [Act.put, List.setIfInBounds_toArray, List.set_cons_zero, List.set_cons_succ, List.getElem_toArray, List.getElem_cons_zero, List.getElem_cons_succ]
  refine wpAnyL_pure (i := 22) rfl (by kernel_rfl) (fun _ _ _ h => h) (Or.inl ⟨by rfl, (fun u hu => by obtain ⟨⟨⟨k0, k1, k2, k3, k4, k5⟩, ⟨k6, k7, k8⟩, k9, k10⟩, k11, k12⟩ := hu; go_simp; try rfl)⟩) HK0.out (fun _ => trivial) ?_
  simp only [Act.put, List.setIfInBounds_toArray, List.set_cons_zero, List.set_cons_succ, List.getElem_toArray, List.getElem_cons_zero, List.getElem_cons_succ]
  refine wpAnyL_pure (i := 23) rfl (by kernel_rfl) (fun _ _ _ h => h) (Or.inl ⟨by rfl, (fun u hu => by obtain ⟨⟨⟨k0, k1, k2, k3, k4, k5⟩, ⟨k6, k7, k8⟩, k9, k10⟩, k11, k12⟩ := hu; go_simp; try rfl)⟩) HK0.out (fun _ => trivial) ?_
  simp only [Act.put, List.setIfInBounds_toArray, List.set_cons_zero, List.set_cons_succ, List.getElem_toArray, List.getElem_cons_zero, List.getElem_cons_succ]
  refine wpAnyL_pure (i := 24) rfl (by kernel_rfl) (fun _ _ _ h => h) (Or.inl ⟨by rfl, (fun u hu => by obtain ⟨⟨⟨k0, k1, k2, k3, k4, k5⟩, ⟨k6, k7, k8⟩, k9, k10⟩, k11, k12⟩ := hu; go_simp; try rfl)⟩) HK0.out (fun _ => trivial) ?_
  simp only [Act.put, List.setIfInBounds_toArray, List.set_cons_zero, List.set_cons_succ, List.getElem_toArray, List.getElem_cons_zero, List.getElem_cons_succ]
  refine wpAnyL_pure (i := 25) rfl (by kernel_rfl) (fun _ _ _ h => h) (Or.inl ⟨by rfl, (fun u hu => by obtain ⟨⟨⟨k0, k1, k2, k3, k4, k5⟩, ⟨k6, k7, k8⟩, k9, k10⟩, k11, k12⟩ := hu; go_simp; try rfl)⟩) HK0.out (fun _ => trivial) ?_
  simp only [Act.put, List.setIfInBounds_toArray, List.set_cons_zero, List.set_cons_succ, List.getElem_toArray, List.getElem_cons_zero, List.getElem_cons_succ]
  refine wpAnyL_pure (i := 26) rfl (by kernel_rfl) (fun _ _ _ h => h) (Or.inl ⟨by rfl, (fun u hu => by obtain ⟨⟨⟨k0, k1, k2, k3, k4, k5⟩, ⟨k6, k7, k8⟩, k9, k10⟩, k11, k12⟩ := hu; go_simp; try rfl)⟩) HK0.out (fun _ => trivial) ?_
  simp only [Act.put, List.setIfInBounds_toArray, List.set_cons_zero, List.set_cons_succ, List.getElem_toArray, List.getElem_cons_zero, List.getElem_cons_succ]
  refine wpAnyL_ready (rs := [27]) (by kernel_rfl) (by simp) ?_
  refine AllL.cons rfl (fun K hK => ?_) ?_
  ·
   go_simp
   refine (gramNM rl w1.drew).mono ?_
   rintro e w2 ⟨rfl, hb2⟩
   have HB2 := Lib.hid ((Below.refl w1.heap.size w1).drew.trans hb2)
   clear hb2
   refine hK.out _ _ (And.intro (HALL.out _ HB2.out) (HRC.out _ HB2.out)) (fun _ => trivial) ?_
   clear hK K
   refine wpAnyL_pure (i := 28) (v := .bool false) rfl (by kernel_rfl) (fun _ _ _ h => h) (Or.inl ⟨by rfl, (fun u hu => by have heq := HNE.out u; go_simp; try rfl)⟩) (And.intro (HALL.out _ HB2.out) (HRC.out _ HB2.out)) (fun _ => trivial) ?_
   simp only [Act.put, List.setIfInBounds_toArray, List.set_cons_zero, List.set_cons_succ, List.getElem_toArray, List.getElem_cons_zero, List.getElem_cons_succ]
   refine wpAnyL_pure (i := 29) (v := .bool false) rfl (by kernel_rfl) (fun _ _ _ h => h) (Or.inl ⟨by rfl, (fun u hu => by obtain ⟨⟨⟨k0, k1, k2, k3, k4, k5⟩, ⟨k6, k7, k8⟩, k9, k10⟩, k11, k12⟩ := hu; go_simp; try first | rfl | omega | (simp; omega))⟩) (And.intro (HALL.out _ HB2.out) (HRC.out _ HB2.out)) (fun _ => trivial) ?_
   simp only [Act.put, List.setIfInBounds_toArray, List.set_cons_zero, List.set_cons_succ, List.getElem_toArray, List.getElem_cons_zero, List.getElem_cons_succ]
   refine wpAnyL_pure (i := 30) (v := .bool false) rfl (by kernel_rfl) (fun _ _ _ h => h) (Or.inl ⟨by rfl, (fun u hu => by obtain ⟨⟨⟨k0, k1, k2, k3, k4, k5⟩, ⟨k6, k7, k8⟩, k9, k10⟩, k11, k12⟩ := hu; go_simp; try first | rfl | omega | (simp; omega))⟩) (And.intro (HALL.out _ HB2.out) (HRC.out _ HB2.out)) (fun _ => trivial) ?_
   simp only [Act.put, List.setIfInBounds_toArray, List.set_cons_zero, List.set_cons_succ, List.getElem_toArray, List.getElem_cons_zero, List.getElem_cons_succ]
   refine wpAnyL_pure (i := 31) rfl (by kernel_rfl) (fun _ _ _ h => h) (Or.inl ⟨by rfl, (fun u hu => by obtain ⟨⟨⟨k0, k1, k2, k3, k4, k5⟩, ⟨k6, k7, k8⟩, k9, k10⟩, k11, k12⟩ := hu; go_simp; try rfl)⟩) (And.intro (HALL.out _ HB2.out) (HRC.out _ HB2.out)) (fun _ => trivial) ?_
   simp only [Act.put, List.setIfInBounds_toArray, List.set_cons_zero, List.set_cons_succ, List.getElem_toArray, List.getElem_cons_zero, List.getElem_cons_succ]
   refine wpAnyL_pure (i := 32) rfl (by kernel_rfl) (fun _ _ _ h => h) (Or.inl ⟨by rfl, (fun u hu => by obtain ⟨⟨⟨k0, k1, k2, k3, k4, k5⟩, ⟨k6, k7, k8⟩, k9, k10⟩, k11, k12⟩ := hu; go_simp; try rfl)⟩) (And.intro (HALL.out _ HB2.out) (HRC.out _ HB2.out)) (fun _ => trivial) ?_
   simp only [Act.put, List.setIfInBounds_toArray, List.set_cons_zero, List.set_cons_succ, List.getElem_toArray, List.getElem_cons_zero, List.getElem_cons_succ]
   refine wpAnyL_pure (i := 33) rfl (by kernel_rfl) (fun _ _ _ h => h) (Or.inl ⟨by rfl, (fun u hu => by obtain ⟨⟨⟨k0, k1, k2, k3, k4, k5⟩, ⟨k6, k7, k8⟩, k9, k10⟩, k11, k12⟩ := hu; go_simp; try rfl)⟩) (And.intro (HALL.out _ HB2.out) (HRC.out _ HB2.out)) (fun _ => trivial) ?_
   simp only [Act.put, List.setIfInBounds_toArray, List.set_cons_zero, List.set_cons_succ, List.getElem_toArray, List.getElem_cons_zero, List.getElem_cons_succ]
   refine wpAnyL_pure (i := 34) rfl (by kernel_rfl) (fun _ _ _ h => h) (Or.inl ⟨by rfl, (fun u hu => by obtain ⟨⟨⟨k0, k1, k2, k3, k4, k5⟩, ⟨k6, k7, k8⟩, k9, k10⟩, k11, k12⟩ := hu; go_simp; try rfl)⟩) (And.intro (HALL.out _ HB2.out) (HRC.out _ HB2.out)) (fun _ => trivial) ?_
   simp only [Act.put, List.setIfInBounds_toArray, List.set_cons_zero, List.set_cons_succ, List.getElem_toArray, List.getElem_cons_zero, List.getElem_cons_succ]
   refine wpAnyL_pure (i := 35) rfl (by kernel_rfl) (fun _ _ _ h => h) (Or.inl ⟨by rfl, (fun u hu => by obtain ⟨⟨⟨k0, k1, k2, k3, k4, k5⟩, ⟨k6, k7, k8⟩, k9, k10⟩, k11, k12⟩ := hu; go_simp; try rfl)⟩) (And.intro (HALL.out _ HB2.out) (HRC.out _ HB2.out)) (fun _ => trivial) ?_
   simp only [Act.put, List.setIfInBounds_toArray, List.set_cons_zero, List.set_cons_succ, List.getElem_toArray, List.getElem_cons_zero, List.getElem_cons_succ]
   refine wpAnyL_pure (i := 36) rfl (by kernel_rfl) (fun _ _ _ h => h) (Or.inl ⟨by rfl, (fun u hu => by obtain ⟨⟨⟨k0, k1, k2, k3, k4, k5⟩, ⟨k6, k7, k8⟩, k9, k10⟩, k11, k12⟩ := hu; go_simp; try rfl)⟩) (And.intro (HALL.out _ HB2.out) (HRC.out _ HB2.out)) (fun _ => trivial) ?_
   simp only [Act.put, List.setIfInBounds_toArray, List.set_cons_zero, List.set_cons_succ, List.getElem_toArray, List.getElem_cons_zero, List.getElem_cons_succ]
   refine wpAnyL_pure (i := 37) rfl (by kernel_rfl) (fun _ _ _ h => h) (Or.inl ⟨by rfl, (fun u hu => by obtain ⟨⟨⟨k0, k1, k2, k3, k4, k5⟩, ⟨k6, k7, k8⟩, k9, k10⟩, k11, k12⟩ := hu; go_simp; try rfl)⟩) (And.intro (HALL.out _ HB2.out) (HRC.out _ HB2.out)) (fun _ => trivial) ?_
   simp only [Act.put, List.setIfInBounds_toArray, List.set_cons_zero, List.set_cons_succ, List.getElem_toArray, List.getElem_cons_zero, List.getElem_cons_succ]
   refine wpAnyL_pure (i := 38) rfl (by kernel_rfl) (fun _ _ _ h => h) (Or.inl ⟨by rfl, (fun u hu => by obtain ⟨⟨⟨k0, k1, k2, k3, k4, k5⟩, ⟨k6, k7, k8⟩, k9, k10⟩, k11, k12⟩ := hu; go_simp; try rfl)⟩) (And.intro (HALL.out _ HB2.out) (HRC.out _ HB2.out)) (fun _ => trivial) ?_
   simp only [Act.put, List.setIfInBounds_toArray, List.set_cons_zero, List.set_cons_succ, List.getElem_toArray, List.getElem_cons_zero, List.getElem_cons_succ]
   refine wpAnyL_pure (i := 39) rfl (by kernel_rfl) (fun _ _ _ h => h) (Or.inl ⟨by rfl, (fun u hu => by obtain ⟨⟨⟨k0, k1, k2, k3, k4, k5⟩, ⟨k6, k7, k8⟩, k9, k10⟩, k11, k12⟩ := hu; go_simp; try rfl)⟩) (And.intro (HALL.out _ HB2.out) (HRC.out _ HB2.out)) (fun _ => trivial) ?_
   simp only [Act.put, List.setIfInBounds_toArray, List.set_cons_zero, List.set_cons_succ, List.getElem_toArray, List.getElem_cons_zero, List.getElem_cons_succ]
   refine wpAnyL_pure (i := 40) rfl (by kernel_rfl) (fun _ _ _ h => h) (Or.inl ⟨by rfl, (fun u hu => by obtain ⟨⟨⟨k0, k1, k2, k3, k4, k5⟩, ⟨k6, k7, k8⟩, k9, k10⟩, k11, k12⟩ := hu; go_simp; try rfl)⟩) (And.intro (HALL.out _ HB2.out) (HRC.out _ HB2.out)) (fun _ => trivial) ?_
   simp only [Act.put, List.setIfInBounds_toArray, List.set_cons_zero, List.set_cons_succ, List.getElem_toArray, List.getElem_cons_zero, List.getElem_cons_succ]
   refine wpAnyL_pure (i := 41) rfl (by kernel_rfl) (fun _ _ _ h => h) (Or.inl ⟨by rfl, (fun u hu => by obtain ⟨⟨⟨k0, k1, k2, k3, k4, k5⟩, ⟨k6, k7, k8⟩, k9, k10⟩, k11, k12⟩ := hu; go_simp; try rfl)⟩) (And.intro (HALL.out _ HB2.out) (HRC.out _ HB2.out)) (fun _ => trivial) ?_
   simp only [Act.put, List.setIfInBounds_toArray, List.set_cons_zero, List.set_cons_succ, List.getElem_toArray, List.getElem_cons_zero, List.getElem_cons_succ]
   refine wpAnyL_pure (i := 42) rfl (by kernel_rfl) (fun _ _ _ h => h) (Or.inl ⟨by rfl, (fun u hu => by obtain ⟨⟨⟨k0, k1, k2, k3, k4, k5⟩, ⟨k6, k7, k8⟩, k9, k10⟩, k11, k12⟩ := hu; go_simp; try rfl)⟩) (And.intro (HALL.out _ HB2.out) (HRC.out _ HB2.out)) (fun _ => trivial) ?_
   simp only [Act.put, List.setIfInBounds_toArray, List.set_cons_zero, List.set_cons_succ, List.getElem_toArray, List.getElem_cons_zero, List.getElem_cons_succ]
   refine wpAnyL_pure (i := 43) (v := .bool false) rfl (by kernel_rfl) (fun _ _ _ h => h) (Or.inl ⟨by rfl, (fun u hu => by obtain ⟨⟨⟨k0, k1, k2, k3, k4, k5⟩, ⟨k6, k7, k8⟩, k9, k10⟩, k11, k12⟩ := hu; go_simp; try first | rfl | omega | (simp; omega))⟩) (And.intro (HALL.out _ HB2.out) (HRC.out _ HB2.out)) (fun _ => trivial) ?_
   simp only [Act.put, List.setIfInBounds_toArray, List.set_cons_zero, List.set_cons_succ, List.getElem_toArray, List.getElem_cons_zero, List.getElem_cons_succ]
   refine wpAnyL_pure (i := 44) (v := .bool false) rfl (by kernel_rfl) (fun _ _ _ h => h) (Or.inl ⟨by rfl, (fun u hu => by obtain ⟨⟨⟨k0, k1, k2, k3, k4, k5⟩, ⟨k6, k7, k8⟩, k9, k10⟩, k11, k12⟩ := hu; go_simp; try first | rfl | omega | (simp; omega))⟩) (And.intro (HALL.out _ HB2.out) (HRC.out _ HB2.out)) (fun _ => trivial) ?_
   simp only [Act.put, List.setIfInBounds_toArray, List.set_cons_zero, List.set_cons_succ, List.getElem_toArray, List.getElem_cons_zero, List.getElem_cons_succ]
   refine wpAnyL_done (by kernel_rfl) ?_ _
   have hkm2 := (HALL.out _ HB2.out).2.1.2.2
   go_wp2_with fail
   clear hkm2
   go_loopg [84] m2 (fun gj v84 wr => ∃ j : Nat, j ≤ m2 ∧ gj = m2 - j ∧ v84 = .int .i64 j ∧ Below w1.heap.size w1 wr)
   case atStart => exact ⟨0, Nat.zero_le _, rfl, rfl, HB2.out⟩
   case round =>
    obtain ⟨j, hj, hgj, rfl, hb13⟩ := hrel
    obtain ⟨w3, rfl⟩ : ∃ w3 : World, w3 = wr := ⟨_, rfl⟩
    have HGJ := Lib.hid hgj
    have HB13 := Lib.hid hb13
    clear hgj
    by_cases hjl : j < m2
    ·
     have hjI : (j : Int) < (m2 : Int) := by omega
     have hj0 : (0 : Int) ≤ (j : Int) := by omega
     obtain ⟨bt, ot, A5, m5, c5, x, rfl, _, hbt, hx0, hx1, hx2, hx, hxs⟩ := tree_at (HTS.out.below hb13) hjl
     obtain ⟨s, hsj, hxv⟩ := HV.out.get hx
     obtain ⟨bs, os, u1, u2, s', rfl, _, hls, hok, hs1, hs2⟩ := (HRS.out.below hb13).at2 (k := j) rfl hjl
     rw [hsj] at hls
     obtain rfl : s = s' := Option.some.inj hls
     have h2 := RSym.cells.1 hok
     injection h2 with e1 h2
     injection h2 with e2 _
     subst e1
     subst e2
     have hs2 : w3.cell? ⟨bs, os + j * 2 + 1, none⟩ = some (.int .i64 s.2) := hs2
     obtain ⟨w4, hw4⟩ : ∃ w4 : World, w4 = w3.alloc (.cells #[.int .i64 x.rule, .int .i64 x.term, .slice A5 m5 c5] 55) := ⟨_, rfl⟩
     have hb34 : Below w3.heap.size w3 w4 := by rw [hw4]; exact (Below.refl _ _).alloc (Nat.le_refl _) _
     have hbx : w4.heap[w3.heap.size]? = some (.cells #[.int .i64 x.rule, .int .i64 x.term, .slice A5 m5 c5] 55 (0, 0)) := by rw [hw4]; exact heap_alloc_new _ _
     have hb14 := hb13.trans (hb34.mono hb13.size)
     have HB14 := Lib.hid hb14
     have HKF := Lib.hid (show ∀ u : World, Below w4.heap.size w4 u → (((u.cell? ⟨w.heap.size, 0, none⟩ = some (.int .i64 (T : Int)) ∧ u.cell? ⟨w.heap.size, 1, none⟩ = some (.int .i64 (N : Int)) ∧ u.cell? ⟨w.heap.size, 2, none⟩ = some (.int .i64 0) ∧ u.cell? ⟨w.heap.size, 3, none⟩ = some (.slice (some ⟨b, off, none⟩) nP cP) ∧ u.cell? ⟨w.heap.size, 4, none⟩ = some (.slice AN nN cN) ∧ u.cell? ⟨w.heap.size, 5, none⟩ = some (.slice AF nF cF)) ∧
      (u.cell? ⟨w.heap.size + 1, 0, none⟩ = some (.int .i64 (k : Int)) ∧ u.cell? ⟨w.heap.size + 1, 1, none⟩ = some (.int .i64 0) ∧ u.cell? ⟨w.heap.size + 1, 2, none⟩ = some (.slice (some ⟨bt, ot, none⟩) m2 c)) ∧ u.cell? ⟨w.heap.size + 2, 0, none⟩ = some (.bool false) ∧ u.cell? ⟨w.heap.size + 2, 1, none⟩ = some (.int .i64 rl)) ∧ u.cell? ⟨b, off + k * 2, none⟩ = some (.int .i64 rl) ∧ u.cell? ⟨b, off + k * 2 + 1, none⟩ = some (.slice (some ⟨bs, os, none⟩) m2 c2)) ∧
      (u.cell? ⟨w3.heap.size, 0, none⟩ = some (.int .i64 x.rule) ∧ u.cell? ⟨w3.heap.size, 1, none⟩ = some (.int .i64 x.term) ∧ u.cell? ⟨w3.heap.size, 2, none⟩ = some (.slice A5 m5 c5)) ∧ u.cell? ⟨bs, os + j * 2, none⟩ = some (.bool s.1) ∧ u.cell? ⟨bs, os + j * 2 + 1, none⟩ = some (.int .i64 s.2) from fun u hu => by
      have h3 := hb34.trans (hu.mono hb34.size)
      have h1 := hb14.trans (hu.mono hb14.size)
      have e := (hu.block _ (heap_lt hbx)).trans hbx
      exact ⟨⟨HALL.out u h1, HRC.out u h1⟩, by simp [World.cell?, e], (h3.cell (cell_lt hs1)).trans hs1, (h3.cell (cell_lt hs2)).trans hs2⟩)
     have HK4 := Lib.hid (HKF.out w4.drew (Below.refl _ _).drew)
     have HG4 := Lib.hid (HG1.out.below hb14)
     have HXS := Lib.hid (hxs.below hb34)
     have HXM := Lib.hid (List.mem_of_getElem? hx)
     have HXV := Lib.hid hxv
     have HXO := Lib.hid (HSO.out s (List.mem_of_getElem? hsj))
     have HSX := HSZ
     have HW4 := Lib.hid hw4
     clear hb13 hbt hx hxs hsj hxv hls hok hs1 hs2 hw4 hb34 hbx hb14
     go_wp2_with fail
     rw [← HW4.out]
     clear hx0 hx1 hx2
     refine wp_region_late (late := []) (S1 := fun u => (((u.cell? ⟨w.heap.size, 0, none⟩ = some (.int .i64 (T : Int)) ∧ u.cell? ⟨w.heap.size, 1, none⟩ = some (.int .i64 (N : Int)) ∧ u.cell? ⟨w.heap.size, 2, none⟩ = some (.int .i64 0) ∧ u.cell? ⟨w.heap.size, 3, none⟩ = some (.slice (some ⟨b, off, none⟩) nP cP) ∧ u.cell? ⟨w.heap.size, 4, none⟩ = some (.slice AN nN cN) ∧ u.cell? ⟨w.heap.size, 5, none⟩ = some (.slice AF nF cF)) ∧
      (u.cell? ⟨w.heap.size + 1, 0, none⟩ = some (.int .i64 (k : Int)) ∧ u.cell? ⟨w.heap.size + 1, 1, none⟩ = some (.int .i64 0) ∧ u.cell? ⟨w.heap.size + 1, 2, none⟩ = some (.slice (some ⟨bt, ot, none⟩) m2 c)) ∧ u.cell? ⟨w.heap.size + 2, 0, none⟩ = some (.bool false) ∧ u.cell? ⟨w.heap.size + 2, 1, none⟩ = some (.int .i64 rl)) ∧ u.cell? ⟨b, off + k * 2, none⟩ = some (.int .i64 rl) ∧ u.cell? ⟨b, off + k * 2 + 1, none⟩ = some (.slice (some ⟨bs, os, none⟩) m2 c2)) ∧
      (u.cell? ⟨w3.heap.size, 0, none⟩ = some (.int .i64 x.rule) ∧ u.cell? ⟨w3.heap.size, 1, none⟩ = some (.int .i64 x.term) ∧ u.cell? ⟨w3.heap.size, 2, none⟩ = some (.slice A5 m5 c5)) ∧ u.cell? ⟨bs, os + j * 2, none⟩ = some (.bool s.1) ∧ u.cell? ⟨bs, os + j * 2 + 1, none⟩ = some (.int .i64 s.2)) (S := fun _ => True) (by kernel_rfl) ?_
     refine wpAnyL_pure (i := 0) rfl (by kernel_rfl) (fun _ _ _ h => h) (Or.inl ⟨by rfl, (fun u hu => by obtain ⟨⟨⟨⟨k0, k1, k2, k3, k4, k5⟩, ⟨k6, k7, k8⟩, k9, k10⟩, k11, k12⟩, ⟨g1, g2, g3⟩, g4, g5⟩ := hu; go_simp; try rfl)⟩) HK4.out (fun _ => trivial) ?_
     simp only [Act.put, List.setIfInBounds_toArray, List.set_cons_zero, List.set_cons_succ, List.getElem_toArray, List.getElem_cons_zero, List.getElem_cons_succ]
     refine wpAnyL_pure (i := 1) rfl (by kernel_rfl) (fun _ _ _ h => h) (Or.inl ⟨by rfl, (fun u hu => by obtain ⟨⟨⟨⟨k0, k1, k2, k3, k4, k5⟩, ⟨k6, k7, k8⟩, k9, k10⟩, k11, k12⟩, ⟨g1, g2, g3⟩, g4, g5⟩ := hu; go_simp; try rfl)⟩) HK4.out (fun _ => trivial) ?_
     simp only [Act.put, List.setIfInBounds_toArray, List.set_cons_zero, List.set_cons_succ, List.getElem_toArray, List.getElem_cons_zero, List.getElem_cons_succ]
     refine wpAnyL_pure (i := 2) rfl (by kernel_rfl) (fun _ _ _ h => h) (Or.inl ⟨by rfl, (fun u hu => by obtain ⟨⟨⟨⟨k0, k1, k2, k3, k4, k5⟩, ⟨k6, k7, k8⟩, k9, k10⟩, k11, k12⟩, ⟨g1, g2, g3⟩, g4, g5⟩ := hu; go_simp; try rfl)⟩) HK4.out (fun _ => trivial) ?_
     simp only [Act.put, List.setIfInBounds_toArray, List.set_cons_zero, List.set_cons_succ, List.getElem_toArray, List.getElem_cons_zero, List.getElem_cons_succ]
     refine wpAnyL_pure (i := 3) rfl (by kernel_rfl) (fun _ _ _ h => h) (Or.inl ⟨by rfl, (fun u hu => by obtain ⟨⟨⟨⟨k0, k1, k2, k3, k4, k5⟩, ⟨k6, k7, k8⟩, k9, k10⟩, k11, k12⟩, ⟨g1, g2, g3⟩, g4, g5⟩ := hu; go_simp; try rfl)⟩) HK4.out (fun _ => trivial) ?_
     simp only [Act.put, List.setIfInBounds_toArray, List.set_cons_zero, List.set_cons_succ, List.getElem_toArray, List.getElem_cons_zero, List.getElem_cons_succ]
     refine wpAnyL_pure (i := 4) rfl (by kernel_rfl) (fun _ _ _ h => h) (Or.inl ⟨by rfl, (fun u hu => by obtain ⟨⟨⟨⟨k0, k1, k2, k3, k4, k5⟩, ⟨k6, k7, k8⟩, k9, k10⟩, k11, k12⟩, ⟨g1, g2, g3⟩, g4, g5⟩ := hu; go_simp; try rfl)⟩) HK4.out (fun _ => trivial) ?_
     simp only [Act.put, List.setIfInBounds_toArray, List.set_cons_zero, List.set_cons_succ, List.getElem_toArray, List.getElem_cons_zero, List.getElem_cons_succ]
     refine wpAnyL_pure (i := 5) rfl (by kernel_rfl) (fun _ _ _ h => h) (Or.inl ⟨by rfl, (fun u hu => by obtain ⟨⟨⟨⟨k0, k1, k2, k3, k4, k5⟩, ⟨k6, k7, k8⟩, k9, k10⟩, k11, k12⟩, ⟨g1, g2, g3⟩, g4, g5⟩ := hu; go_simp; try rfl)⟩) HK4.out (fun _ => trivial) ?_
     simp only [Act.put, List.setIfInBounds_toArray, List.set_cons_zero, List.set_cons_succ, List.getElem_toArray, List.getElem_cons_zero, List.getElem_cons_succ]
     refine wpAnyL_pure (i := 6) rfl (by kernel_rfl) (fun _ _ _ h => h) (Or.inl ⟨by rfl, (fun u hu => by obtain ⟨⟨⟨⟨k0, k1, k2, k3, k4, k5⟩, ⟨k6, k7, k8⟩, k9, k10⟩, k11, k12⟩, ⟨g1, g2, g3⟩, g4, g5⟩ := hu; go_simp; try rfl)⟩) HK4.out (fun _ => trivial) ?_
     simp only [Act.put, List.setIfInBounds_toArray, List.set_cons_zero, List.set_cons_succ, List.getElem_toArray, List.getElem_cons_zero, List.getElem_cons_succ]
     refine wpAnyL_pure (i := 7) rfl (by kernel_rfl) (fun _ _ _ h => h) (Or.inl ⟨by rfl, (fun u hu => by obtain ⟨⟨⟨⟨k0, k1, k2, k3, k4, k5⟩, ⟨k6, k7, k8⟩, k9, k10⟩, k11, k12⟩, ⟨g1, g2, g3⟩, g4, g5⟩ := hu; go_simp; try rfl)⟩) HK4.out (fun _ => trivial) ?_
     simp only [Act.put, List.setIfInBounds_toArray, List.set_cons_zero, List.set_cons_succ, List.getElem_toArray, List.getElem_cons_zero, List.getElem_cons_succ]
     refine wpAnyL_pure (i := 8) rfl (by kernel_rfl) (fun _ _ _ h => h) (Or.inl ⟨by rfl, (fun u hu => by obtain ⟨⟨⟨⟨k0, k1, k2, k3, k4, k5⟩, ⟨k6, k7, k8⟩, k9, k10⟩, k11, k12⟩, ⟨g1, g2, g3⟩, g4, g5⟩ := hu; go_simp; try rfl)⟩) HK4.out (fun _ => trivial) ?_
     simp only [Act.put, List.setIfInBounds_toArray, List.set_cons_zero, List.set_cons_succ, List.getElem_toArray, List.getElem_cons_zero, List.getElem_cons_succ]
     refine wpAnyL_pure (i := 9) rfl (by kernel_rfl) (fun _ _ _ h => h) (Or.inl ⟨by rfl, (fun u hu => by obtain ⟨⟨⟨⟨k0, k1, k2, k3, k4, k5⟩, ⟨k6, k7, k8⟩, k9, k10⟩, k11, k12⟩, ⟨g1, g2, g3⟩, g4, g5⟩ := hu; go_simp; try rfl)⟩) HK4.out (fun _ => trivial) ?_
     simp only [Act.put, List.setIfInBounds_toArray, List.set_cons_zero, List.set_cons_succ, List.getElem_toArray, List.getElem_cons_zero, List.getElem_cons_succ]
     refine wpAnyL_pure (i := 10) rfl (by kernel_rfl) (fun _ _ _ h => h) (Or.inl ⟨by rfl, (fun u hu => by obtain ⟨⟨⟨⟨k0, k1, k2, k3, k4, k5⟩, ⟨k6, k7, k8⟩, k9, k10⟩, k11, k12⟩, ⟨g1, g2, g3⟩, g4, g5⟩ := hu; go_simp; try rfl)⟩) HK4.out (fun _ => trivial) ?_
     simp only [Act.put, List.setIfInBounds_toArray, List.set_cons_zero, List.set_cons_succ, List.getElem_toArray, List.getElem_cons_zero, List.getElem_cons_succ]
     refine wpAnyL_pure (i := 11) rfl (by kernel_rfl) (fun _ _ _ h => h) (Or.inl ⟨by rfl, (fun u hu => by obtain ⟨⟨⟨⟨k0, k1, k2, k3, k4, k5⟩, ⟨k6, k7, k8⟩, k9, k10⟩, k11, k12⟩, ⟨g1, g2, g3⟩, g4, g5⟩ := hu; go_simp; try rfl)⟩) HK4.out (fun _ => trivial) ?_
     simp only [Act.put, List.setIfInBounds_toArray, List.set_cons_zero, List.set_cons_succ, List.getElem_toArray, List.getElem_cons_zero, List.getElem_cons_succ]
     refine wpAnyL_pure (i := 12) rfl (by kernel_rfl) (fun _ _ _ h => h) (Or.inl ⟨by rfl, (fun u hu => by obtain ⟨⟨⟨⟨k0, k1, k2, k3, k4, k5⟩, ⟨k6, k7, k8⟩, k9, k10⟩, k11, k12⟩, ⟨g1, g2, g3⟩, g4, g5⟩ := hu; go_simp; try rfl)⟩) HK4.out (fun _ => trivial) ?_
     simp only [Act.put, List.setIfInBounds_toArray, List.set_cons_zero, List.set_cons_succ, List.getElem_toArray, List.getElem_cons_zero, List.getElem_cons_succ]
     refine wpAnyL_ready (rs := [13]) (by kernel_rfl) (by simp) ?_
     refine AllL.cons rfl (fun K hK => ?_) ?_
     ·
      go_simp
      refine (HIH.out x s w4.drew _ _ _ nP cP AN AF nN cN nF cF A5 m5 c5 (HSX.out x HXM.out) HXV.out HXO.out HG4.out.drew HXS.out.drew).mono ?_
      rintro e w5 ⟨rfl, hb5⟩
      have HB5 := Lib.hid ((Below.refl w4.heap.size w4).drew.trans hb5)
      clear hb5
      refine hK.out _ _ (HKF.out _ HB5.out) (fun _ => trivial) ?_
      clear hK K
      refine wpAnyL_pure (i := 14) rfl (by kernel_rfl) (fun _ _ _ h => h) (Or.inl ⟨by rfl, (fun u hu => by obtain ⟨⟨⟨⟨k0, k1, k2, k3, k4, k5⟩, ⟨k6, k7, k8⟩, k9, k10⟩, k11, k12⟩, ⟨g1, g2, g3⟩, g4, g5⟩ := hu; go_simp; try rfl)⟩) (HKF.out _ HB5.out) (fun _ => trivial) ?_
      simp only [Act.put, List.setIfInBounds_toArray, List.set_cons_zero, List.set_cons_succ, List.getElem_toArray, List.getElem_cons_zero, List.getElem_cons_succ]
      refine wpAnyL_done (by kernel_rfl) ?_ _
      go_wp2_with fail
      go_roundg (m2 - (j + 1))
      case measure => rw [HGJ.out]; omega
      case rel => exact ⟨j + 1, by omega, rfl, by go_num, HB14.out.trans (HB5.out.mono HB14.out.size)⟩
     exact AllL.nil
    ·
     obtain rfl : j = m2 := by omega
     clear hb13
     go_wp2_with fail
     go_ret
     exact ⟨rfl, HB1.out.trans (HB13.out.mono (by have := HZ1.out; omega))⟩
  exact AllL.nil
theorem mkValid (T N : Nat) (P : List RuleD) (hli : LstIn T N P) : ∀ sz, ValidAt T N P sz
 | 0 => fun t _ _ _ _ _ _ _ _ _ _ _ _ _ _ _ _ hsz _ _ _ _ => by rw [sizeT_eq] at hsz; omega
 | sz + 1 => mkValidS T N P hli sz (mkValid T N P hli sz)
end Go.Proofs.Ytbmcoamdfpegnaa
