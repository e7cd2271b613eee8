/- KeyCmp -/
import Derived.Sort.Grow
import Derived.Test.YtimklgbljjamkaaDoorCs13
import Derived.Test.YtimklgbljjamkaaDoorCs33
namespace Go.Proofs.YtimklgbljjamkaaDoor
open Go.RowKit
def cmpK (u v : KeyD) : Int := if cmpI (u.2.1 : Int) (v.2.1 : Int) = 0 then (if cmpI (u.2.2 : Int) (v.2.2 : Int) = 0 then orderSym u.1 v.1 else cmpI (u.2.2 : Int) (v.2.2 : Int)) else cmpI (u.2.1 : Int) (v.2.1 : Int)
def bI (b : Bool) : Nat := if b = true then 0 else 1
def KLt (u v : KeyD) : Prop := u.2.1 < v.2.1 ∨ (u.2.1 = v.2.1 ∧ (u.2.2 < v.2.2 ∨ (u.2.2 = v.2.2 ∧ (bI u.1.1 < bI v.1.1 ∨ (bI u.1.1 = bI v.1.1 ∧ u.1.2 < v.1.2)))))
theorem cmpI_negT {x y : Nat} : cmpI (x : Int) (y : Int) < 0 ↔ x < y := by
 unfold cmpI
 by_cases h1 : (x : Int) < (y : Int)
 ·
  rw [if_pos h1]
  exact ⟨fun _ => by omega, fun _ => by decide⟩
 ·
  rw [if_neg h1]
  by_cases h2 : (y : Int) < (x : Int)
  ·
   rw [if_pos h2]
   exact ⟨fun h => by omega, fun h => by omega⟩
  ·
   rw [if_neg h2]
   exact ⟨fun h => by omega, fun h => by omega⟩
theorem cmpI_zeroT {x y : Nat} : cmpI (x : Int) (y : Int) = 0 ↔ x = y := by
 unfold cmpI
 by_cases h1 : (x : Int) < (y : Int)
 ·
  rw [if_pos h1]
  exact ⟨fun h => by omega, fun h => by omega⟩
 ·
  rw [if_neg h1]
  by_cases h2 : (y : Int) < (x : Int)
  ·
   rw [if_pos h2]
   exact ⟨fun h => by omega, fun h => by omega⟩
  ·
   rw [if_neg h2]
   exact ⟨fun _ => by omega, fun _ => rfl⟩
theorem orderSym_neg {a b : SymD} : orderSym a b < 0 ↔ bI a.1 < bI b.1 ∨ (bI a.1 = bI b.1 ∧ a.2 < b.2) := by
 obtain ⟨a1, a2⟩ := a
 obtain ⟨b1, b2⟩ := b
 unfold orderSym bI cmpInt
 cases a1 <;> cases b1 <;> simp
 all_goals
  split
  ·
   simp_all
  ·
   split <;> simp_all
theorem cmpK_neg {u v : KeyD} : cmpK u v < 0 ↔ KLt u v := by
 unfold cmpK KLt
 by_cases h1 : u.2.1 = v.2.1
 ·
  rw [if_pos (cmpI_zeroT.2 h1)]
  by_cases h2 : u.2.2 = v.2.2
  ·
   rw [if_pos (cmpI_zeroT.2 h2), orderSym_neg]
   omega
  ·
   rw [if_neg (fun h => h2 (cmpI_zeroT.1 h)), cmpI_negT]
   omega
 ·
  rw [if_neg (fun h => h1 (cmpI_zeroT.1 h)), cmpI_negT]
  omega
theorem bI_inj {a b : Bool} (h : bI a = bI b) : a = b := by
 cases a <;> cases b <;> simp [bI] at h ⊢
set_option maxHeartbeats 1000000 in
theorem or3Int (w : World) (b : Nat) (x y z : Int) (h0 : w.cell? ⟨b, 0, none⟩ = some (.int .i64 x)) (h1 : w.cell? ⟨b, 1, none⟩ = some (.int .i64 y)) (h2 : w.cell? ⟨b, 2, none⟩ = some (.int .i64 z)) :
    Calls Tryd.prog 77 #[.slice (some ⟨b, 0, none⟩) 3 3] w fun e w' => e = .returned (.int .i64 (if x = 0 then (if y = 0 then z else y) else x)) ∧ w = w' := by
 have H0 := Lib.hid h0
 have H1 := Lib.hid h1
 have H2 := Lib.hid h2
 clear h0 h1 h2
 go_enter Tryd.func77, Tryd.ntmps77
 go_wp2_with fail
 go_loopg [5, 8] 3 (fun gk _ v8 wr => ∃ k : Nat, k ≤ 3 ∧ gk = 3 - k ∧ v8 = .int .i64 (k : Int) ∧ (1 ≤ k → x = 0) ∧ (2 ≤ k → y = 0) ∧ (3 ≤ k → z = 0) ∧ wr = w)
 case atStart => exact ⟨0, by omega, rfl, rfl, fun h => by omega, fun h => by omega, fun h => by omega, rfl⟩
 case round =>
  obtain ⟨k, hk, hgk, rfl, hx, hy, hz, rfl⟩ := hrel
  have HGK := Lib.hid hgk
  have HX := Lib.hid hx
  have HY := Lib.hid hy
  have HZ := Lib.hid hz
  clear hgk hx hy hz
  rcases (show k = 0 ∨ k = 1 ∨ k = 2 ∨ k = 3 by omega) with rfl | rfl | rfl | rfl
  ·
   have k0 := H0.out
   by_cases hx0 : x = 0
   ·
    subst hx0
    go_wp2_with fail
    go_roundg 2
    case measure => rw [HGK.out]; omega
    case rel => exact ⟨1, by omega, rfl, rfl, by simp, fun h => by omega, fun h => by omega, rfl⟩
   ·
    have i1 : (x != 0) = true := by simp [hx0]
    go_wp2_with fail
    go_ret
    exact ⟨rfl, rfl⟩
  ·
   have k1 := H1.out
   have hx0 := HX.out (by omega)
   by_cases hy0 : y = 0
   ·
    subst hy0
    go_wp2_with fail
    go_roundg 1
    case measure => rw [HGK.out]; omega
    case rel => exact ⟨2, by omega, rfl, rfl, fun _ => hx0, by simp, fun h => by omega, rfl⟩
   ·
    have i1 : (y != 0) = true := by simp [hy0]
    go_wp2_with fail
    go_ret
    exact ⟨rfl, rfl⟩
  ·
   have k2 := H2.out
   have hx0 := HX.out (by omega)
   have hy0 := HY.out (by omega)
   by_cases hz0 : z = 0
   ·
    subst hz0
    go_wp2_with fail
    go_roundg 0
    case measure => rw [HGK.out]; omega
    case rel => exact ⟨3, by omega, rfl, rfl, fun _ => hx0, fun _ => hy0, by simp, rfl⟩
   ·
    have i1 : (z != 0) = true := by simp [hz0]
    go_wp2_with fail
    go_ret
    exact ⟨rfl, rfl⟩
  ·
   have hx0 := HX.out (by omega)
   have hy0 := HY.out (by omega)
   have hz0 := HZ.out (by omega)
   go_wp2_with fail
   go_ret
   exact ⟨rfl, rfl⟩
set_option maxHeartbeats 1000000 in
theorem gramOrderX (a b : SymD) (w : World) : Calls Tryd.prog 94 #[.agg #[.bool a.1, .int .i64 a.2], .agg #[.bool b.1, .int .i64 b.2]] w fun e w' => e = .returned (.int .i64 (orderSym a b)) ∧ w' = (w.alloc (.cells #[.bool a.1, .int .i64 a.2] 63)).alloc (.cells #[.bool b.1, .int .i64 b.2] 63) := by
 obtain ⟨a1, a2⟩ := a
 obtain ⟨b1, b2⟩ := b
 dsimp only at *
 cases a1 <;> cases b1
 all_goals
  go_enter Tryd.func94, Tryd.ntmps94
  go_wp2_with (go_at_call 78; refine (cmpCompare _ _ _).mono ?_; rintro e w' ⟨rfl, rfl⟩)
  go_ret
  exact ⟨ret_int (by simp [orderSym]), rfl⟩
theorem grow5 (w : World) (a b c d e : Obj) : ∃ os, ((((((w.alloc a).alloc b).drew).alloc c).alloc d).alloc e) = Go.Sort.grow (w.drewN 1) os := by
 refine ⟨(((#[a] ++ #[b]) ++ #[c]) ++ #[d]) ++ #[e], ?_⟩
 show ((((((w.drewN 1).alloc a).alloc b).alloc c).alloc d).alloc e) = _
 rw [Go.Sort.alloc_eq_grow, Go.Sort.alloc_eq_grow, Go.Sort.alloc_eq_grow, Go.Sort.alloc_eq_grow, Go.Sort.alloc_eq_grow, Go.Sort.grow_grow, Go.Sort.grow_grow, Go.Sort.grow_grow, Go.Sort.grow_grow]
 simp
set_option linter.unusedSimpArgs false in
set_option maxRecDepth 100000 in
set_option maxHeartbeats 4000000 in
theorem cmpKey (w : World) (u v : KeyD) : Calls Tryd.prog 74 #[.agg #[.bool u.1.1, .int .i64 u.1.2, .int .i64 (u.2.1 : Int), .int .i64 (u.2.2 : Int)], .agg #[.bool v.1.1, .int .i64 v.1.2, .int .i64 (v.2.1 : Int), .int .i64 (v.2.2 : Int)]] w fun e w' => e = .returned (.int .i64 (cmpK u v)) ∧ ∃ q os, w' = Go.Sort.grow (w.drewN q) os := by
 obtain ⟨w2, hw2⟩ : ∃ w2 : World, w2 = (w.alloc (.cells #[.bool u.1.1, .int .i64 u.1.2, .int .i64 (u.2.1 : Int), .int .i64 (u.2.2 : Int)] 138)).alloc (.cells #[.bool v.1.1, .int .i64 v.1.2, .int .i64 (v.2.1 : Int), .int .i64 (v.2.2 : Int)] 138) := ⟨_, rfl⟩
 have HW2 := Lib.hid hw2
 have h1 : w2.heap[w.heap.size]? = some (.cells #[.bool u.1.1, .int .i64 u.1.2, .int .i64 (u.2.1 : Int), .int .i64 (u.2.2 : Int)] 138 (0, 0)) := by
  rw [hw2, Below.heap_alloc _ _ _ (by simp)]
  exact heap_alloc_new _ _
 have h2 : w2.heap[w.heap.size + 1]? = some (.cells #[.bool v.1.1, .int .i64 v.1.2, .int .i64 (v.2.1 : Int), .int .i64 (v.2.2 : Int)] 138 (0, 0)) := by
  rw [hw2]
  exact heap_new _ _ _ (by simp)
 have HC := Lib.hid (show ∀ x : World, Below w2.heap.size w2 x → x.cell? ⟨w.heap.size, 0, none⟩ = some (.bool u.1.1) ∧ x.cell? ⟨w.heap.size, 1, none⟩ = some (.int .i64 u.1.2) ∧ x.cell? ⟨w.heap.size, 2, none⟩ = some (.int .i64 (u.2.1 : Int)) ∧ x.cell? ⟨w.heap.size, 3, none⟩ = some (.int .i64 (u.2.2 : Int)) ∧ x.cell? ⟨w.heap.size + 1, 0, none⟩ = some (.bool v.1.1) ∧ x.cell? ⟨w.heap.size + 1, 1, none⟩ = some (.int .i64 v.1.2) ∧ x.cell? ⟨w.heap.size + 1, 2, none⟩ = some (.int .i64 (v.2.1 : Int)) ∧ x.cell? ⟨w.heap.size + 1, 3, none⟩ = some (.int .i64 (v.2.2 : Int)) from fun x hx => by
  have k1 := (hx.block _ (heap_lt h1)).trans h1
  have k2 := (hx.block _ (heap_lt h2)).trans h2
  exact ⟨by simp [World.cell?, k1], by simp [World.cell?, k1], by simp [World.cell?, k1], by simp [World.cell?, k1], by simp [World.cell?, k2], by simp [World.cell?, k2], by simp [World.cell?, k2], by simp [World.cell?, k2]⟩)
 clear hw2 h1 h2
 go_enter Tryd.func74, Tryd.ntmps74
 go_wp2_with fail
 rw [← HW2.out]
 refine wp_region_late (late := []) (S1 := fun x => x.cell? ⟨w.heap.size, 0, none⟩ = some (.bool u.1.1) ∧ x.cell? ⟨w.heap.size, 1, none⟩ = some (.int .i64 u.1.2) ∧ x.cell? ⟨w.heap.size, 2, none⟩ = some (.int .i64 (u.2.1 : Int)) ∧ x.cell? ⟨w.heap.size, 3, none⟩ = some (.int .i64 (u.2.2 : Int)) ∧ x.cell? ⟨w.heap.size + 1, 0, none⟩ = some (.bool v.1.1) ∧ x.cell? ⟨w.heap.size + 1, 1, none⟩ = some (.int .i64 v.1.2) ∧ x.cell? ⟨w.heap.size + 1, 2, none⟩ = some (.int .i64 (v.2.1 : Int)) ∧ x.cell? ⟨w.heap.size + 1, 3, none⟩ = some (.int .i64 (v.2.2 : Int))) (S := fun _ => True) (by kernel_rfl) ?_
 refine wpAnyL_pure (i := 0) rfl (by kernel_rfl) (fun _ _ _ h => h) (Or.inl ⟨by rfl, (fun u hu => by obtain ⟨k0, k1, k2, k3, k4, k5, k6, k7⟩ := hu; go_simp; try rfl)⟩) (HC.out _ (Below.refl _ _).drew) (fun _ => trivial) ?_
 simp only [Act.put, List.setIfInBounds_toArray, List.set_cons_zero, List.set_cons_succ, List.getElem_toArray, List.getElem_cons_zero, List.getElem_cons_succ]
 refine wpAnyL_pure (i := 1) rfl (by kernel_rfl) (fun _ _ _ h => h) (Or.inl ⟨by rfl, (fun u hu => by obtain ⟨k0, k1, k2, k3, k4, k5, k6, k7⟩ := hu; go_simp; try rfl)⟩) (HC.out _ (Below.refl _ _).drew) (fun _ => trivial) ?_
 simp only [Act.put, List.setIfInBounds_toArray, List.set_cons_zero, List.set_cons_succ, List.getElem_toArray, List.getElem_cons_zero, List.getElem_cons_succ]
 refine wpAnyL_pure (i := 2) rfl (by kernel_rfl) (fun _ _ _ h => h) (Or.inl ⟨by rfl, (fun u hu => by obtain ⟨k0, k1, k2, k3, k4, k5, k6, k7⟩ := hu; go_simp; try rfl)⟩) (HC.out _ (Below.refl _ _).drew) (fun _ => trivial) ?_
 simp only [Act.put, List.setIfInBounds_toArray, List.set_cons_zero, List.set_cons_succ, List.getElem_toArray, List.getElem_cons_zero, List.getElem_cons_succ]
 refine wpAnyL_pure (i := 3) rfl (by kernel_rfl) (fun _ _ _ h => h) (Or.inl ⟨by rfl, (fun u hu => by obtain ⟨k0, k1, k2, k3, k4, k5, k6, k7⟩ := hu; go_simp; try rfl)⟩) (HC.out _ (Below.refl _ _).drew) (fun _ => trivial) ?_
 simp only [Act.put, List.setIfInBounds_toArray, List.set_cons_zero, List.set_cons_succ, List.getElem_toArray, List.getElem_cons_zero, List.getElem_cons_succ]
 refine wpAnyL_pure (i := 5) rfl (by kernel_rfl) (fun _ _ _ h => h) (Or.inl ⟨by rfl, (fun u hu => by obtain ⟨k0, k1, k2, k3, k4, k5, k6, k7⟩ := hu; go_simp; try rfl)⟩) (HC.out _ (Below.refl _ _).drew) (fun _ => trivial) ?_
 simp only [Act.put, List.setIfInBounds_toArray, List.set_cons_zero, List.set_cons_succ, List.getElem_toArray, List.getElem_cons_zero, List.getElem_cons_succ]
 refine wpAnyL_pure (i := 6) rfl (by kernel_rfl) (fun _ _ _ h => h) (Or.inl ⟨by rfl, (fun u hu => by obtain ⟨k0, k1, k2, k3, k4, k5, k6, k7⟩ := hu; go_simp; try rfl)⟩) (HC.out _ (Below.refl _ _).drew) (fun _ => trivial) ?_
 simp only [Act.put, List.setIfInBounds_toArray, List.set_cons_zero, List.set_cons_succ, List.getElem_toArray, List.getElem_cons_zero, List.getElem_cons_succ]
 refine wpAnyL_pure (i := 7) rfl (by kernel_rfl) (fun _ _ _ h => h) (Or.inl ⟨by rfl, (fun u hu => by obtain ⟨k0, k1, k2, k3, k4, k5, k6, k7⟩ := hu; go_simp; try rfl)⟩) (HC.out _ (Below.refl _ _).drew) (fun _ => trivial) ?_
 simp only [Act.put, List.setIfInBounds_toArray, List.set_cons_zero, List.set_cons_succ, List.getElem_toArray, List.getElem_cons_zero, List.getElem_cons_succ]
 refine wpAnyL_pure (i := 8) rfl (by kernel_rfl) (fun _ _ _ h => h) (Or.inl ⟨by rfl, (fun u hu => by obtain ⟨k0, k1, k2, k3, k4, k5, k6, k7⟩ := hu; go_simp; try rfl)⟩) (HC.out _ (Below.refl _ _).drew) (fun _ => trivial) ?_
 simp only [Act.put, List.setIfInBounds_toArray, List.set_cons_zero, List.set_cons_succ, List.getElem_toArray, List.getElem_cons_zero, List.getElem_cons_succ]
 refine wpAnyL_pure (i := 10) rfl (by kernel_rfl) (fun _ _ _ h => h) (Or.inl ⟨by rfl, (fun u hu => by obtain ⟨k0, k1, k2, k3, k4, k5, k6, k7⟩ := hu; go_simp; try rfl)⟩) (HC.out _ (Below.refl _ _).drew) (fun _ => trivial) ?_
 simp only [Act.put, List.setIfInBounds_toArray, List.set_cons_zero, List.set_cons_succ, List.getElem_toArray, List.getElem_cons_zero, List.getElem_cons_succ]
 refine wpAnyL_pure (i := 11) rfl (by kernel_rfl) (fun _ _ _ h => h) (Or.inl ⟨by rfl, (fun u hu => by obtain ⟨k0, k1, k2, k3, k4, k5, k6, k7⟩ := hu; go_simp; try rfl)⟩) (HC.out _ (Below.refl _ _).drew) (fun _ => trivial) ?_
 simp only [Act.put, List.setIfInBounds_toArray, List.set_cons_zero, List.set_cons_succ, List.getElem_toArray, List.getElem_cons_zero, List.getElem_cons_succ]
 refine wpAnyL_pure (i := 12) rfl (by kernel_rfl) (fun _ _ _ h => h) (Or.inl ⟨by rfl, (fun u hu => by obtain ⟨k0, k1, k2, k3, k4, k5, k6, k7⟩ := hu; go_simp; try rfl)⟩) (HC.out _ (Below.refl _ _).drew) (fun _ => trivial) ?_
 simp only [Act.put, List.setIfInBounds_toArray, List.set_cons_zero, List.set_cons_succ, List.getElem_toArray, List.getElem_cons_zero, List.getElem_cons_succ]
 refine wpAnyL_pure (i := 13) rfl (by kernel_rfl) (fun _ _ _ h => h) (Or.inl ⟨by rfl, (fun u hu => by obtain ⟨k0, k1, k2, k3, k4, k5, k6, k7⟩ := hu; go_simp; try rfl)⟩) (HC.out _ (Below.refl _ _).drew) (fun _ => trivial) ?_
 simp only [Act.put, List.setIfInBounds_toArray, List.set_cons_zero, List.set_cons_succ, List.getElem_toArray, List.getElem_cons_zero, List.getElem_cons_succ]
 refine wpAnyL_ready (rs := [4]) (by kernel_rfl) (by simp) ?_
 refine AllL.cons rfl (fun K hK => ?_) ?_
 ·
  go_simp
  refine (cmpIntC _ _ _).mono ?_
  rintro e _ ⟨rfl, rfl⟩
  refine hK.out _ _ (HC.out _ (Below.refl _ _).drew) (fun _ => trivial) ?_
  clear hK K
  refine wpAnyL_ready (rs := [9]) (by kernel_rfl) (by simp) ?_
  refine AllL.cons rfl (fun K hK => ?_) ?_
  ·
   go_simp
   refine (cmpIntC _ _ _).mono ?_
   rintro e _ ⟨rfl, rfl⟩
   refine hK.out _ _ (HC.out _ (Below.refl _ _).drew) (fun _ => trivial) ?_
   clear hK K
   refine wpAnyL_ready (rs := [14]) (by kernel_rfl) (by simp) ?_
   refine AllL.cons rfl (fun K hK => ?_) ?_
   ·
    go_simp
    refine (gramOrderX u.1 v.1 _).mono ?_
    rintro e _ ⟨rfl, rfl⟩
    refine hK.out _ _ (HC.out _ (((Below.refl _ _).drew.alloc (Nat.le_refl _) _).alloc (by show w2.heap.size ≤ (World.alloc _ _).heap.size; rw [World.size_alloc]; exact Nat.le_succ _) _)) (fun _ => trivial) ?_
    clear hK K
    refine wpAnyL_ready (rs := [15]) (by kernel_rfl) (by simp) ?_
    refine AllL.cons rfl (fun K hK => ?_) ?_
    ·
     go_simp
     refine hK.out _ _ (HC.out _ ((((Below.refl _ _).drew.alloc (Nat.le_refl _) _).alloc (by show w2.heap.size ≤ (World.alloc _ _).heap.size; rw [World.size_alloc]; exact Nat.le_succ _) _).alloc (by show w2.heap.size ≤ (World.alloc (World.alloc _ _) _).heap.size; rw [World.size_alloc, World.size_alloc]; exact Nat.le_succ_of_le (Nat.le_succ _)) _)) (fun _ => trivial) ?_
     clear hK K
     refine wpAnyL_ready (rs := [16]) (by kernel_rfl) (by simp) ?_
     refine AllL.cons rfl (fun K hK => ?_) ?_
     ·
      go_simp
      obtain ⟨x, hx⟩ : ∃ x, x = cmpI (u.2.1 : Int) (v.2.1 : Int) := ⟨_, rfl⟩
      obtain ⟨y, hy⟩ : ∃ y, y = cmpI (u.2.2 : Int) (v.2.2 : Int) := ⟨_, rfl⟩
      obtain ⟨z, hz⟩ : ∃ z, z = orderSym u.1 v.1 := ⟨_, rfl⟩
      have HE := Lib.hid (show (if x = 0 then (if y = 0 then z else y) else x) = cmpK u v by unfold cmpK; rw [hx, hy, hz])
      rw [← hx, ← hy, ← hz]
      refine (or3Int _ _ x y z (by show (World.alloc _ _).cell? _ = _; rw [World.cell?_alloc_at _ _ _ _ (by simp)]; rfl) (by show (World.alloc _ _).cell? _ = _; rw [World.cell?_alloc_at _ _ _ _ (by simp)]; rfl) (by show (World.alloc _ _).cell? _ = _; rw [World.cell?_alloc_at _ _ _ _ (by simp)]; rfl)).mono ?_
      rintro e _ ⟨rfl, rfl⟩
      rw [HE.out]
      refine hK.out _ _ (HC.out _ ((((Below.refl _ _).drew.alloc (Nat.le_refl _) _).alloc (by show w2.heap.size ≤ (World.alloc _ _).heap.size; rw [World.size_alloc]; exact Nat.le_succ _) _).alloc (by show w2.heap.size ≤ (World.alloc (World.alloc _ _) _).heap.size; rw [World.size_alloc, World.size_alloc]; exact Nat.le_succ_of_le (Nat.le_succ _)) _)) (fun _ => trivial) ?_
      clear hK K
      refine wpAnyL_pure (i := 17) rfl (by kernel_rfl) (fun _ _ _ h => h) (Or.inl ⟨by rfl, (fun u hu => by obtain ⟨k0, k1, k2, k3, k4, k5, k6, k7⟩ := hu; go_simp; try rfl)⟩) (HC.out _ ((((Below.refl _ _).drew.alloc (Nat.le_refl _) _).alloc (by show w2.heap.size ≤ (World.alloc _ _).heap.size; rw [World.size_alloc]; exact Nat.le_succ _) _).alloc (by show w2.heap.size ≤ (World.alloc (World.alloc _ _) _).heap.size; rw [World.size_alloc, World.size_alloc]; exact Nat.le_succ_of_le (Nat.le_succ _)) _)) (fun _ => trivial) ?_
      simp only [Act.put, List.setIfInBounds_toArray, List.set_cons_zero, List.set_cons_succ, List.getElem_toArray, List.getElem_cons_zero, List.getElem_cons_succ]
      refine wpAnyL_done (by kernel_rfl) ?_ _
      go_wp2_with fail
      go_ret
      refine ⟨rfl, 1, ?_⟩
      rw [HW2.out]
      exact grow5 w _ _ _ _ _
     exact AllL.nil
    exact AllL.nil
   exact AllL.nil
  exact AllL.nil
 exact AllL.nil
end Go.Proofs.YtimklgbljjamkaaDoor
