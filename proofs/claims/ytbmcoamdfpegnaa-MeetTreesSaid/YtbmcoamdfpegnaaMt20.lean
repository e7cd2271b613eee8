/- SlCmpInt MkCmp -/
import Derived.Shelf.Abstract
import Derived.Sort.Grow
import Derived.Test.YtbmcoamdfpegnaaMt05
import Derived.Test.YtbmcoamdfpegnaaMt19
namespace Go.Proofs.Ytbmcoamdfpegnaa
open Go.RowKit
def cmpI (x y : Int) : Int := if x < y then -1 else if y < x then 1 else 0
set_option maxHeartbeats 1000000 in
theorem cmpIntC (x y : Int) (w : World) : Calls Try.prog 50 #[.int .i64 x, .int .i64 y] w fun e w' => e = .returned (.int .i64 (cmpI x y)) ∧ w = w' := by
 by_cases h1 : x < y
 ·
  go_enter Try.func50, Try.ntmps50
  go_wp2
  go_ret
  exact ⟨ret_int (by simp [cmpI, h1]), rfl⟩
 ·
  by_cases h2 : y < x
  ·
   go_enter Try.func50, Try.ntmps50
   go_wp2
   go_ret
   exact ⟨ret_int (by simp [cmpI, h1, h2]), rfl⟩
  ·
   go_enter Try.func50, Try.ntmps50
   go_wp2
   go_ret
   exact ⟨ret_int (by unfold cmpI; rw [if_neg (by omega), if_neg (by omega)]), rfl⟩
def cmpL : List Int → List Int → Int
 | [], [] => 0
 | [], _ :: _ => -1
 | _ :: _, [] => 1
 | x :: l, y :: m => if cmpI x y = 0 then cmpL l m else cmpI x y
theorem cmpL_drop {l m : List Int} {k : Nat} {x y : Int} (h1 : l[k]? = some x) (h2 : m[k]? = some y) (hc : cmpI x y = 0) : cmpL (l.drop k) (m.drop k) = cmpL (l.drop (k + 1)) (m.drop (k + 1)) := by
 obtain ⟨a1, rfl⟩ := List.getElem?_eq_some_iff.1 h1
 obtain ⟨a2, rfl⟩ := List.getElem?_eq_some_iff.1 h2
 rw [List.drop_eq_getElem_cons a1, List.drop_eq_getElem_cons a2, cmpL, if_pos hc]
theorem cmpL_stop {l m : List Int} {k : Nat} {x y : Int} (h1 : l[k]? = some x) (h2 : m[k]? = some y) (hc : cmpI x y ≠ 0) : cmpL (l.drop k) (m.drop k) = cmpI x y := by
 obtain ⟨a1, rfl⟩ := List.getElem?_eq_some_iff.1 h1
 obtain ⟨a2, rfl⟩ := List.getElem?_eq_some_iff.1 h2
 rw [List.drop_eq_getElem_cons a1, List.drop_eq_getElem_cons a2, cmpL, if_neg hc]
set_option maxHeartbeats 1000000 in
theorem compareInt (A1 A2 : Option Addr) (n1 c1 n2 c2 : Nat) (S1 S2 : Nat → Prop) (l1 l2 : List Int) (w : World) (hr1 : Rd w S1 1 A1 n1 (l1.map (Value.int .i64))) (hr2 : Rd w S2 1 A2 n2 (l2.map (Value.int .i64))) (hn : n1 ≤ 1000000000000) :
    Calls Try.prog 51 #[.slice A1 n1 c1, .slice A2 n2 c2] w fun e w' => e = .returned (.int .i64 (cmpL l1 l2)) ∧ w = w' := by
 have hl1 : l1.length = n1 := by simpa using hr1.1
 have hl2 : l2.length = n2 := by simpa using hr2.1
 have HL1 := Lib.hid hl1
 have HL2 := Lib.hid hl2
 have HR1 := Lib.hid hr1
 have HR2 := Lib.hid hr2
 clear hl1 hl2 hr1 hr2
 go_enter Try.func51, Try.ntmps51
 go_wp2_with fail
 go_loop [11] (fun i => ∃ k : Nat, k ≤ n1 ∧ k ≤ n2 ∧ i = .int .i64 k ∧ cmpL l1 l2 = cmpL (l1.drop k) (l2.drop k)) (fun i => n1 - (intOf i).toNat)
 case atStart => exact ⟨0, Nat.zero_le _, Nat.zero_le _, rfl, rfl⟩
 case round =>
  obtain ⟨k, hk1, hk2, rfl, heq⟩ := hrel
  have HE := Lib.hid heq
  clear heq
  by_cases hlt : k < n1
  ·
   obtain ⟨b1, o1, x, rfl, _, hx, hcell1⟩ := HR1.out.int_at hlt
   have HX := Lib.hid hx
   clear hx
   by_cases hlt2 : k < n2
   ·
    obtain ⟨b2, o2, y, rfl, _, hy, hcell2⟩ := HR2.out.int_at hlt2
    have HY := Lib.hid hy
    clear hy
    by_cases hc : cmpI x y = 0
    ·
     have HC := Lib.hid hc
     clear hc
     go_wp2_with (go_at_call 50; refine (cmpIntC _ _ _).mono ?_; rintro e w' ⟨rfl, rfl⟩; rw [HC.out])
     go_round
     case rel => exact ⟨k + 1, by omega, by omega, by go_num, by rw [HE.out, cmpL_drop HX.out HY.out HC.out]⟩
     case measure => simp [intOf]; omega
    ·
     have hcb : (cmpI x y != 0) = true := by simpa using hc
     have HF := Lib.hid (cmpL_stop HX.out HY.out hc)
     go_wp2_with (go_at_call 50; refine (cmpIntC _ _ _).mono ?_; rintro e w' ⟨rfl, rfl⟩)
     go_ret
     exact ⟨ret_int (by rw [HE.out, HF.out]), rfl⟩
   ·
    have hf : cmpL (l1.drop k) (l2.drop k) = 1 := by
     obtain ⟨a1, rfl⟩ := List.getElem?_eq_some_iff.1 HX.out
     rw [List.drop_eq_getElem_cons a1, List.drop_of_length_le (l := l2) (by rw [HL2.out]; omega), cmpL]
    have HF := Lib.hid hf
    clear hf
    go_wp2_with fail
    go_ret
    exact ⟨ret_int (by rw [HE.out, HF.out]), rfl⟩
  ·
   obtain rfl : k = n1 := by omega
   have hd : l1.drop k = [] := List.drop_of_length_le (by rw [HL1.out]; omega)
   by_cases hlt2 : k < n2
   ·
    have hf : cmpL (l1.drop k) (l2.drop k) = -1 := by rw [hd, List.drop_eq_getElem_cons (by rw [HL2.out]; omega), cmpL]
    have HF := Lib.hid hf
    clear hf hd
    go_wp2_with fail
    go_ret
    exact ⟨ret_int (by rw [HE.out, HF.out]), rfl⟩
   ·
    have hf : cmpL (l1.drop k) (l2.drop k) = 0 := by rw [hd, List.drop_of_length_le (l := l2) (by rw [HL2.out]; omega), cmpL]
    have HF := Lib.hid hf
    clear hf hd
    go_wp2_with fail
    go_ret
    exact ⟨ret_int (by rw [HE.out, HF.out]), rfl⟩
end Go.Proofs.Ytbmcoamdfpegnaa
namespace Go.Proofs.Ytbmcoamdfpegnaa
open Go.RowKit
def cmpT (u v : TriD) : Int := if cmpI (u.1 : Int) (v.1 : Int) = 0 then (if cmpI (u.2.1 : Int) (v.2.1 : Int) = 0 then cmpI (u.2.2 : Int) (v.2.2 : Int) else cmpI (u.2.1 : Int) (v.2.1 : Int)) else cmpI (u.1 : Int) (v.1 : Int)
def TLt (u v : TriD) : Prop := u.1 < v.1 ∨ (u.1 = v.1 ∧ (u.2.1 < v.2.1 ∨ (u.2.1 = v.2.1 ∧ u.2.2 < v.2.2)))
theorem cmpI_negT {x y : Nat} : cmpI (x : Int) (y : Int) < 0 ↔ x < y := by
 unfold cmpI
 by_cases h1 : (x : Int) < (y : Int)
 ·
  rw [if_pos h1]
  exact ⟨fun _ => by omega, fun _ => by decide⟩
 ·
  rw [if_neg h1]
  by_cases h2 : (y : Int) < (x : Int)
  ·
   rw [if_pos h2]
   exact ⟨fun h => by omega, fun h => by omega⟩
  ·
   rw [if_neg h2]
   exact ⟨fun h => by omega, fun h => by omega⟩
theorem cmpI_zeroT {x y : Nat} : cmpI (x : Int) (y : Int) = 0 ↔ x = y := by
 unfold cmpI
 by_cases h1 : (x : Int) < (y : Int)
 ·
  rw [if_pos h1]
  exact ⟨fun h => by omega, fun h => by omega⟩
 ·
  rw [if_neg h1]
  by_cases h2 : (y : Int) < (x : Int)
  ·
   rw [if_pos h2]
   exact ⟨fun h => by omega, fun h => by omega⟩
  ·
   rw [if_neg h2]
   exact ⟨fun _ => by omega, fun _ => rfl⟩
theorem cmpT_neg {u v : TriD} : cmpT u v < 0 ↔ TLt u v := by
 unfold cmpT TLt
 by_cases h1 : u.1 = v.1
 ·
  rw [if_pos (cmpI_zeroT.2 h1)]
  by_cases h2 : u.2.1 = v.2.1
  ·
   rw [if_pos (cmpI_zeroT.2 h2), cmpI_negT]
   omega
  ·
   rw [if_neg (fun h => h2 (cmpI_zeroT.1 h)), cmpI_negT]
   omega
 ·
  rw [if_neg (fun h => h1 (cmpI_zeroT.1 h)), cmpI_negT]
  omega
theorem TLt.total (u v : TriD) : TLt u v ∨ u = v ∨ TLt v u := by
 obtain ⟨a, b, c⟩ := u
 obtain ⟨a', b', c'⟩ := v
 unfold TLt
 simp only [Prod.mk.injEq]
 omega
set_option maxHeartbeats 1000000 in
theorem or3Int (w : World) (b : Nat) (x y z : Int) (h0 : w.cell? ⟨b, 0, none⟩ = some (.int .i64 x)) (h1 : w.cell? ⟨b, 1, none⟩ = some (.int .i64 y)) (h2 : w.cell? ⟨b, 2, none⟩ = some (.int .i64 z)) :
    Calls Try.prog 49 #[.slice (some ⟨b, 0, none⟩) 3 3] w fun e w' => e = .returned (.int .i64 (if x = 0 then (if y = 0 then z else y) else x)) ∧ w = w' := by
 have H0 := Lib.hid h0
 have H1 := Lib.hid h1
 have H2 := Lib.hid h2
 clear h0 h1 h2
 go_enter Try.func49, Try.ntmps49
 go_wp2_with fail
 go_loopg [5, 8] 3 (fun gk _ v8 wr => ∃ k : Nat, k ≤ 3 ∧ gk = 3 - k ∧ v8 = .int .i64 (k : Int) ∧ (1 ≤ k → x = 0) ∧ (2 ≤ k → y = 0) ∧ (3 ≤ k → z = 0) ∧ wr = w)
 case atStart => exact ⟨0, by omega, rfl, rfl, fun h => by omega, fun h => by omega, fun h => by omega, rfl⟩
 case round =>
  obtain ⟨k, hk, hgk, rfl, hx, hy, hz, rfl⟩ := hrel
  have HGK := Lib.hid hgk
  have HX := Lib.hid hx
  have HY := Lib.hid hy
  have HZ := Lib.hid hz
  clear hgk hx hy hz
  rcases (show k = 0 ∨ k = 1 ∨ k = 2 ∨ k = 3 by omega) with rfl | rfl | rfl | rfl
  ·
   have k0 := H0.out
   by_cases hx0 : x = 0
   ·
    subst hx0
    go_wp2_with fail
    go_roundg 2
    case measure => rw [HGK.out]; omega
    case rel => exact ⟨1, by omega, rfl, rfl, by simp, fun h => by omega, fun h => by omega, rfl⟩
   ·
    have i1 : (x != 0) = true := by simp [hx0]
    go_wp2_with fail
    go_ret
    exact ⟨rfl, rfl⟩
  ·
   have k1 := H1.out
   have hx0 := HX.out (by omega)
   by_cases hy0 : y = 0
   ·
    subst hy0
    go_wp2_with fail
    go_roundg 1
    case measure => rw [HGK.out]; omega
    case rel => exact ⟨2, by omega, rfl, rfl, fun _ => hx0, by simp, fun h => by omega, rfl⟩
   ·
    have i1 : (y != 0) = true := by simp [hy0]
    go_wp2_with fail
    go_ret
    exact ⟨rfl, rfl⟩
  ·
   have k2 := H2.out
   have hx0 := HX.out (by omega)
   have hy0 := HY.out (by omega)
   by_cases hz0 : z = 0
   ·
    subst hz0
    go_wp2_with fail
    go_roundg 0
    case measure => rw [HGK.out]; omega
    case rel => exact ⟨3, by omega, rfl, rfl, fun _ => hx0, fun _ => hy0, by simp, rfl⟩
   ·
    have i1 : (z != 0) = true := by simp [hz0]
    go_wp2_with fail
    go_ret
    exact ⟨rfl, rfl⟩
  ·
   have hx0 := HX.out (by omega)
   have hy0 := HY.out (by omega)
   have hz0 := HZ.out (by omega)
   go_wp2_with fail
   go_ret
   exact ⟨rfl, rfl⟩
set_option linter.unusedSimpArgs false in
set_option maxRecDepth 100000 in
set_option maxHeartbeats 4000000 in
theorem cmpTri (w : World) (u v : TriD) : Calls Try.prog 82 #[.agg #[.int .i64 (u.1 : Int), .int .i64 (u.2.1 : Int), .int .i64 (u.2.2 : Int)], .agg #[.int .i64 (v.1 : Int), .int .i64 (v.2.1 : Int), .int .i64 (v.2.2 : Int)]] w fun e w' => e = .returned (.int .i64 (cmpT u v)) ∧ ∃ q os, w' = Go.Sort.grow (w.drewN q) os := by
 obtain ⟨w2, hw2⟩ : ∃ w2 : World, w2 = (w.alloc (.cells #[.int .i64 (u.1 : Int), .int .i64 (u.2.1 : Int), .int .i64 (u.2.2 : Int)] 92)).alloc (.cells #[.int .i64 (v.1 : Int), .int .i64 (v.2.1 : Int), .int .i64 (v.2.2 : Int)] 92) := ⟨_, rfl⟩
 have HW2 := Lib.hid hw2
 have h1 : w2.heap[w.heap.size]? = some (.cells #[.int .i64 (u.1 : Int), .int .i64 (u.2.1 : Int), .int .i64 (u.2.2 : Int)] 92 (0, 0)) := by
  rw [hw2, Below.heap_alloc _ _ _ (by simp)]
  exact heap_alloc_new _ _
 have h2 : w2.heap[w.heap.size + 1]? = some (.cells #[.int .i64 (v.1 : Int), .int .i64 (v.2.1 : Int), .int .i64 (v.2.2 : Int)] 92 (0, 0)) := by
  rw [hw2]
  have := heap_alloc_new (w.alloc (.cells #[.int .i64 (u.1 : Int), .int .i64 (u.2.1 : Int), .int .i64 (u.2.2 : Int)] 92)) (.cells #[.int .i64 (v.1 : Int), .int .i64 (v.2.1 : Int), .int .i64 (v.2.2 : Int)] 92)
  simpa using this
 have HC := Lib.hid (show ∀ x : World, Below w2.heap.size w2 x → x.cell? ⟨w.heap.size, 0, none⟩ = some (.int .i64 (u.1 : Int)) ∧ x.cell? ⟨w.heap.size, 1, none⟩ = some (.int .i64 (u.2.1 : Int)) ∧ x.cell? ⟨w.heap.size, 2, none⟩ = some (.int .i64 (u.2.2 : Int)) ∧ x.cell? ⟨w.heap.size + 1, 0, none⟩ = some (.int .i64 (v.1 : Int)) ∧ x.cell? ⟨w.heap.size + 1, 1, none⟩ = some (.int .i64 (v.2.1 : Int)) ∧ x.cell? ⟨w.heap.size + 1, 2, none⟩ = some (.int .i64 (v.2.2 : Int)) from fun x hx => by
  have k1 := (hx.block _ (heap_lt h1)).trans h1
  have k2 := (hx.block _ (heap_lt h2)).trans h2
  exact ⟨by simp [World.cell?, k1], by simp [World.cell?, k1], by simp [World.cell?, k1], by simp [World.cell?, k2], by simp [World.cell?, k2], by simp [World.cell?, k2]⟩)
 clear hw2 h1 h2
 go_enter Try.func82, Try.ntmps82
 go_wp2_with fail
 rw [← HW2.out]
 refine wp_region_late (late := []) (S1 := fun x => x.cell? ⟨w.heap.size, 0, none⟩ = some (.int .i64 (u.1 : Int)) ∧ x.cell? ⟨w.heap.size, 1, none⟩ = some (.int .i64 (u.2.1 : Int)) ∧ x.cell? ⟨w.heap.size, 2, none⟩ = some (.int .i64 (u.2.2 : Int)) ∧ x.cell? ⟨w.heap.size + 1, 0, none⟩ = some (.int .i64 (v.1 : Int)) ∧ x.cell? ⟨w.heap.size + 1, 1, none⟩ = some (.int .i64 (v.2.1 : Int)) ∧ x.cell? ⟨w.heap.size + 1, 2, none⟩ = some (.int .i64 (v.2.2 : Int))) (S := fun _ => True) (by kernel_rfl) ?_
 refine wpAnyL_pure (i := 0) rfl (by kernel_rfl) (fun _ _ _ h => h) (Or.inl ⟨by rfl, (fun u hu => by obtain ⟨k0, k1, k2, k3, k4, k5⟩ := hu; go_simp; try rfl)⟩) (HC.out _ (Below.refl _ _).drew) (fun _ => trivial) ?_
 simp only [Act.put, List.setIfInBounds_toArray, List.set_cons_zero, List.set_cons_succ, List.getElem_toArray, List.getElem_cons_zero, List.getElem_cons_succ]
 refine wpAnyL_pure (i := 1) rfl (by kernel_rfl) (fun _ _ _ h => h) (Or.inl ⟨by rfl, (fun u hu => by obtain ⟨k0, k1, k2, k3, k4, k5⟩ := hu; go_simp; try rfl)⟩) (HC.out _ (Below.refl _ _).drew) (fun _ => trivial) ?_
 simp only [Act.put, List.setIfInBounds_toArray, List.set_cons_zero, List.set_cons_succ, List.getElem_toArray, List.getElem_cons_zero, List.getElem_cons_succ]
 refine wpAnyL_pure (i := 2) rfl (by kernel_rfl) (fun _ _ _ h => h) (Or.inl ⟨by rfl, (fun u hu => by obtain ⟨k0, k1, k2, k3, k4, k5⟩ := hu; go_simp; try rfl)⟩) (HC.out _ (Below.refl _ _).drew) (fun _ => trivial) ?_
 simp only [Act.put, List.setIfInBounds_toArray, List.set_cons_zero, List.set_cons_succ, List.getElem_toArray, List.getElem_cons_zero, List.getElem_cons_succ]
 refine wpAnyL_pure (i := 3) rfl (by kernel_rfl) (fun _ _ _ h => h) (Or.inl ⟨by rfl, (fun u hu => by obtain ⟨k0, k1, k2, k3, k4, k5⟩ := hu; go_simp; try rfl)⟩) (HC.out _ (Below.refl _ _).drew) (fun _ => trivial) ?_
 simp only [Act.put, List.setIfInBounds_toArray, List.set_cons_zero, List.set_cons_succ, List.getElem_toArray, List.getElem_cons_zero, List.getElem_cons_succ]
 refine wpAnyL_pure (i := 5) rfl (by kernel_rfl) (fun _ _ _ h => h) (Or.inl ⟨by rfl, (fun u hu => by obtain ⟨k0, k1, k2, k3, k4, k5⟩ := hu; go_simp; try rfl)⟩) (HC.out _ (Below.refl _ _).drew) (fun _ => trivial) ?_
 simp only [Act.put, List.setIfInBounds_toArray, List.set_cons_zero, List.set_cons_succ, List.getElem_toArray, List.getElem_cons_zero, List.getElem_cons_succ]
 refine wpAnyL_pure (i := 6) rfl (by kernel_rfl) (fun _ _ _ h => h) (Or.inl ⟨by rfl, (fun u hu => by obtain ⟨k0, k1, k2, k3, k4, k5⟩ := hu; go_simp; try rfl)⟩) (HC.out _ (Below.refl _ _).drew) (fun _ => trivial) ?_
 simp only [Act.put, List.setIfInBounds_toArray, List.set_cons_zero, List.set_cons_succ, List.getElem_toArray, List.getElem_cons_zero, List.getElem_cons_succ]
 refine wpAnyL_pure (i := 7) rfl (by kernel_rfl) (fun _ _ _ h => h) (Or.inl ⟨by rfl, (fun u hu => by obtain ⟨k0, k1, k2, k3, k4, k5⟩ := hu; go_simp; try rfl)⟩) (HC.out _ (Below.refl _ _).drew) (fun _ => trivial) ?_
 simp only [Act.put, List.setIfInBounds_toArray, List.set_cons_zero, List.set_cons_succ, List.getElem_toArray, List.getElem_cons_zero, List.getElem_cons_succ]
 refine wpAnyL_pure (i := 8) rfl (by kernel_rfl) (fun _ _ _ h => h) (Or.inl ⟨by rfl, (fun u hu => by obtain ⟨k0, k1, k2, k3, k4, k5⟩ := hu; go_simp; try rfl)⟩) (HC.out _ (Below.refl _ _).drew) (fun _ => trivial) ?_
 simp only [Act.put, List.setIfInBounds_toArray, List.set_cons_zero, List.set_cons_succ, List.getElem_toArray, List.getElem_cons_zero, List.getElem_cons_succ]
 refine wpAnyL_pure (i := 10) rfl (by kernel_rfl) (fun _ _ _ h => h) (Or.inl ⟨by rfl, (fun u hu => by obtain ⟨k0, k1, k2, k3, k4, k5⟩ := hu; go_simp; try rfl)⟩) (HC.out _ (Below.refl _ _).drew) (fun _ => trivial) ?_
 simp only [Act.put, List.setIfInBounds_toArray, List.set_cons_zero, List.set_cons_succ, List.getElem_toArray, List.getElem_cons_zero, List.getElem_cons_succ]
 refine wpAnyL_pure (i := 11) rfl (by kernel_rfl) (fun _ _ _ h => h) (Or.inl ⟨by rfl, (fun u hu => by obtain ⟨k0, k1, k2, k3, k4, k5⟩ := hu; go_simp; try rfl)⟩) (HC.out _ (Below.refl _ _).drew) (fun _ => trivial) ?_
 simp only [Act.put, List.setIfInBounds_toArray, List.set_cons_zero, List.set_cons_succ, List.getElem_toArray, List.getElem_cons_zero, List.getElem_cons_succ]
 refine wpAnyL_pure (i := 12) rfl (by kernel_rfl) (fun _ _ _ h => h) (Or.inl ⟨by rfl, (fun u hu => by obtain ⟨k0, k1, k2, k3, k4, k5⟩ := hu; go_simp; try rfl)⟩) (HC.out _ (Below.refl _ _).drew) (fun _ => trivial) ?_
 simp only [Act.put, List.setIfInBounds_toArray, List.set_cons_zero, List.set_cons_succ, List.getElem_toArray, List.getElem_cons_zero, List.getElem_cons_succ]
 refine wpAnyL_pure (i := 13) rfl (by kernel_rfl) (fun _ _ _ h => h) (Or.inl ⟨by rfl, (fun u hu => by obtain ⟨k0, k1, k2, k3, k4, k5⟩ := hu; go_simp; try rfl)⟩) (HC.out _ (Below.refl _ _).drew) (fun _ => trivial) ?_
 simp only [Act.put, List.setIfInBounds_toArray, List.set_cons_zero, List.set_cons_succ, List.getElem_toArray, List.getElem_cons_zero, List.getElem_cons_succ]
 refine wpAnyL_ready (rs := [4]) (by kernel_rfl) (by simp) ?_
 refine AllL.cons rfl (fun K hK => ?_) ?_
 ·
  go_simp
  refine (cmpIntC _ _ _).mono ?_
  rintro e _ ⟨rfl, rfl⟩
  refine hK.out _ _ (HC.out _ (Below.refl _ _).drew) (fun _ => trivial) ?_
  clear hK K
  refine wpAnyL_ready (rs := [9]) (by kernel_rfl) (by simp) ?_
  refine AllL.cons rfl (fun K hK => ?_) ?_
  ·
   go_simp
   refine (cmpIntC _ _ _).mono ?_
   rintro e _ ⟨rfl, rfl⟩
   refine hK.out _ _ (HC.out _ (Below.refl _ _).drew) (fun _ => trivial) ?_
   clear hK K
   refine wpAnyL_ready (rs := [14]) (by kernel_rfl) (by simp) ?_
   refine AllL.cons rfl (fun K hK => ?_) ?_
   ·
    go_simp
    refine (cmpIntC _ _ _).mono ?_
    rintro e _ ⟨rfl, rfl⟩
    refine hK.out _ _ (HC.out _ (Below.refl _ _).drew) (fun _ => trivial) ?_
    clear hK K
    refine wpAnyL_ready (rs := [15]) (by kernel_rfl) (by simp) ?_
    refine AllL.cons rfl (fun K hK => ?_) ?_
    ·
     go_simp
     refine hK.out _ _ (HC.out _ ((Below.refl _ _).drew.alloc (Nat.le_refl _) _)) (fun _ => trivial) ?_
     clear hK K
     refine wpAnyL_ready (rs := [16]) (by kernel_rfl) (by simp) ?_
     refine AllL.cons rfl (fun K hK => ?_) ?_
     ·
      go_simp
      obtain ⟨x, hx⟩ : ∃ x, x = cmpI (u.1 : Int) (v.1 : Int) := ⟨_, rfl⟩
      obtain ⟨y, hy⟩ : ∃ y, y = cmpI (u.2.1 : Int) (v.2.1 : Int) := ⟨_, rfl⟩
      obtain ⟨z, hz⟩ : ∃ z, z = cmpI (u.2.2 : Int) (v.2.2 : Int) := ⟨_, rfl⟩
      have HE := Lib.hid (show (if x = 0 then (if y = 0 then z else y) else x) = cmpT u v by unfold cmpT; rw [hx, hy, hz])
      rw [← hx, ← hy, ← hz]
      refine (or3Int _ w2.heap.size x y z (by show (World.alloc _ _).cell? _ = _; rw [World.cell?_alloc_at _ _ _ _ rfl]; rfl) (by show (World.alloc _ _).cell? _ = _; rw [World.cell?_alloc_at _ _ _ _ rfl]; rfl) (by show (World.alloc _ _).cell? _ = _; rw [World.cell?_alloc_at _ _ _ _ rfl]; rfl)).mono ?_
      rintro e _ ⟨rfl, rfl⟩
      rw [HE.out]
      refine hK.out _ _ (HC.out _ ((Below.refl _ _).drew.alloc (Nat.le_refl _) _)) (fun _ => trivial) ?_
      clear hK K
      refine wpAnyL_pure (i := 17) rfl (by kernel_rfl) (fun _ _ _ h => h) (Or.inl ⟨by rfl, (fun u hu => by obtain ⟨k0, k1, k2, k3, k4, k5⟩ := hu; go_simp; try rfl)⟩) (HC.out _ ((Below.refl _ _).drew.alloc (Nat.le_refl _) _)) (fun _ => trivial) ?_
      simp only [Act.put, List.setIfInBounds_toArray, List.set_cons_zero, List.set_cons_succ, List.getElem_toArray, List.getElem_cons_zero, List.getElem_cons_succ]
      refine wpAnyL_done (by kernel_rfl) ?_ _
      go_wp2_with fail
      go_ret
      exact ⟨rfl, 1, _, by rw [HW2.out, Go.Sort.alloc_eq_grow, Go.Sort.alloc_eq_grow, Go.Sort.alloc_eq_grow, Go.Sort.grow_grow]; exact Go.Sort.grow_grow (w.drewN 1) _ _⟩
     exact AllL.nil
    exact AllL.nil
   exact AllL.nil
  exact AllL.nil
 exact AllL.nil
end Go.Proofs.Ytbmcoamdfpegnaa
