/- slices.Sort of at most three ints, by insertion. -/
import Derived.Test.YtfmmpmphlognlaaLate
import Derived.Test.YtfmmpmphlognlaaRep2
import Derived.Test.YtfmmpmphlognlaaMinMax
import Derived.Deep.LoopGhost
namespace Go.Proofs.Ytfmmpmphlognlaa
open Go.RowKit

/-- the first i are in order -/
def Srt (xs : List Int) (i : Nat) : Prop := ∀ (p q : Nat) (x y : Int), p < q → q < i → xs[p]? = some x → xs[q]? = some y → x ≤ y
/-- those up to i are in order, but for number j, which may be too small -/
def SrtX (xs : List Int) (i j : Nat) : Prop := ∀ (p q : Nat) (x y : Int), p < q → q ≤ i → q ≠ j → xs[p]? = some x → xs[q]? = some y → x ≤ y
theorem Srt.start {xs : List Int} {i : Nat} (h : Srt xs i) : SrtX xs i i := fun p q x y h1 h2 h3 => h p q x y h1 (by omega)
theorem SrtX.end_ {xs : List Int} {i j : Nat} (h : SrtX xs i j) (hj : ∀ x y, 1 ≤ j → xs[j - 1]? = some x → xs[j]? = some y → x ≤ y) : Srt xs (i + 1) := by
  intro p q x y h1 h2 h3 h4
  by_cases hq : q = j
  · subst hq
    obtain ⟨hl, _⟩ := List.getElem?_eq_some_iff.1 h4
    have h5 := hj _ y (by omega) (List.getElem?_eq_getElem (by omega)) h4
    by_cases hp : p = q - 1
    · subst hp
      rw [List.getElem?_eq_getElem (by omega)] at h3
      injection h3 with h3
      omega
    · have := h p (q - 1) x _ (by omega) (by omega) (by omega) h3 (List.getElem?_eq_getElem (by omega))
      omega
  · exact h p q x y h1 (by omega) hq h3 h4
theorem SrtX.swap {xs : List Int} {i j : Nat} {x y : Int} (h : SrtX xs i (j + 1)) (hx : xs[j + 1]? = some x) (hy : xs[j]? = some y) (hlt : x < y) : SrtX ((xs.set (j + 1) y).set j x) i j := by
  obtain ⟨hl, _⟩ := List.getElem?_eq_some_iff.1 hx
  have hg : ∀ k, ((xs.set (j + 1) y).set j x)[k]? = if k = j then some x else if k = j + 1 then some y else xs[k]? := by
    intro k
    rw [List.getElem?_set]
    by_cases h1 : j = k
    · subst h1
      rw [if_pos rfl, if_pos rfl, if_pos (by rw [List.length_set]; omega)]
    · rw [if_neg h1, if_neg (fun e => h1 e.symm), List.getElem?_set]
      by_cases h2 : j + 1 = k
      · subst h2
        rw [if_pos rfl, if_pos rfl, if_pos (by omega)]
      · rw [if_neg h2, if_neg (fun e => h2 e.symm)]
  intro p q a b h1 h2 h3 ha hb
  rw [hg] at ha hb
  rw [if_neg h3] at hb
  by_cases hq : q = j + 1
  · rw [if_pos hq] at hb
    injection hb with hb
    subst hb
    by_cases hp : p = j
    · rw [if_pos hp] at ha; injection ha with ha; omega
    · rw [if_neg hp, if_neg (by omega)] at ha
      exact h p j a y (by omega) (by omega) (by omega) ha hy
  · rw [if_neg hq] at hb
    by_cases hp : p = j
    · rw [if_pos hp] at ha
      injection ha with ha
      subst ha
      exact h (j + 1) q x b (by omega) h2 hq hx hb
    · rw [if_neg hp] at ha
      by_cases hp1 : p = j + 1
      · rw [if_pos hp1] at ha
        injection ha with ha
        subst ha
        exact h j q y b (by omega) h2 hq hy hb
      · rw [if_neg hp1] at ha
        exact h p q a b h1 h2 hq ha hb
theorem swap_perm {xs : List Int} {j : Nat} {x y : Int} (hx : xs[j + 1]? = some x) (hy : xs[j]? = some y) : ((xs.set (j + 1) y).set j x).Perm xs := by
  obtain ⟨h1, rfl⟩ := List.getElem?_eq_some_iff.1 hx
  obtain ⟨h2, rfl⟩ := List.getElem?_eq_some_iff.1 hy
  exact List.set_set_perm h1 h2
theorem set_grownI {g : Nat} (w2 : World) (i : Nat) (u : Value) : w2.grownBy (w2.setCell ⟨g, i, none⟩ u) (some g) := ⟨rfl, rfl, rfl, by simp [World.setCell], fun q _ hq => Below.heap_setCell w2 ⟨g, i, none⟩ _ q (fun e => hq (by rw [e]))⟩
theorem grown_drew {w w' : World} {r : Option Nat} (h : w.grownBy w' r) : w.grownBy w'.drew r := ⟨h.os, h.tape, h.output, h.size, h.block⟩
set_option maxRecDepth 100000 in
set_option maxHeartbeats 1000000 in
theorem cmpLess (x y : Int) (w : World) : Calls Try.prog 120 #[.int .i64 x, .int .i64 y] w fun e w' => e = .returned (.bool (decide (x < y))) ∧ w = w' := by
  go_enter Try.func120, Try.ntmps120
  go_wp2
  go_ret
  exact ⟨rfl, rfl⟩
set_option linter.unusedSimpArgs false in
set_option maxRecDepth 100000 in
set_option maxHeartbeats 4000000 in
theorem insSort (w : World) (base g n cap : Nat) (zs : List Int) (hown : w.ownsRow base 3 1 (.slice (some ⟨g, 0, none⟩) n cap) n (zs.map (Value.int .i64))) (hn : n ≤ 12) (h1 : 1 ≤ n) :
    Calls Try.prog 114 #[.slice (some ⟨g, 0, none⟩) n cap, .int .i64 0, .int .i64 n] w fun e w' => e = .returned (.tuple #[]) ∧
      ∃ ys : List Int, ys.Perm zs ∧ Srt ys n ∧ w'.ownsRow base 3 1 (.slice (some ⟨g, 0, none⟩) n cap) n (ys.map (Value.int .i64)) ∧ w.grownBy w' (some g) := by
  have HOWN := Lib.hid hown
  clear hown
  go_enter Try.func114, Try.ntmps114
  --@1
  go_wp2_with fail
  go_loopg [6] (n - 1) (fun gk i wr => ∃ (k : Nat) (ys : List Int), 1 ≤ k ∧ k ≤ n ∧ gk = n - k ∧ i = .int .i64 k ∧ ys.Perm zs ∧ Srt ys k ∧ wr.ownsRow base 3 1 (.slice (some ⟨g, 0, none⟩) n cap) n (ys.map (Value.int .i64)) ∧ w.grownBy wr (some g))
  case atStart => exact ⟨1, zs, Nat.le_refl _, h1, rfl, rfl, List.Perm.refl _, fun p q x y h1 h2 => by omega, HOWN.out, World.grownBy.refl w _⟩
  case round =>
    obtain ⟨k, ys, hk1, hk, hgk, rfl, hp, hs, ho, hgr⟩ := hrel
    have HGK := Lib.hid hgk
    have HP := Lib.hid hp
    have HS := Lib.hid hs
    have HO := Lib.hid ho
    have HGR := Lib.hid hgr
    obtain ⟨wo, rfl⟩ : ∃ wo : World, wo = wr := ⟨_, rfl⟩
    clear hgk hp hs ho hgr
    by_cases hlt : k < n
    · have hkI : (k : Int) < (n : Int) := by omega
      --@2
      go_wp2_with fail
      go_loopg [7] (k + 1) (fun gj v wr => ∃ (j : Nat) (xs : List Int), j ≤ k ∧ gj = j + 1 ∧ v = .int .i64 j ∧ xs.Perm zs ∧ SrtX xs k j ∧ wr.ownsRow base 3 1 (.slice (some ⟨g, 0, none⟩) n cap) n (xs.map (Value.int .i64)) ∧ w.grownBy wr (some g))
      case atStart => exact ⟨k, ys, Nat.le_refl _, rfl, rfl, HP.out, HS.out.start, HO.out, HGR.out⟩
      case round =>
        obtain ⟨j, xs, hjk, hgj, rfl, hp, hs, ho, hgr⟩ := hrel
        have HGJ := Lib.hid hgj
        have HPX := Lib.hid hp
        have HSX := Lib.hid hs
        have HOX := Lib.hid ho
        have HGX := Lib.hid hgr
        have hxl : xs.length = n := by simpa using ho.1
        have HXL := Lib.hid hxl
        obtain ⟨wi, rfl⟩ : ∃ wi : World, wi = wr := ⟨_, rfl⟩
        clear hgj hp hs ho hgr hxl
        cases j with
        | zero =>
          have hz : ((0 : Nat) : Int) = 0 := rfl
          --@3
          go_wp2_with fail
          refine wp_region_late (late := []) (S1 := fun _ => True) (S := fun _ => True) (by kernel_rfl) ?_
          refine wpAnyL_pure (i := 0) rfl (by kernel_rfl) (fun _ _ _ h => h) (Or.inl ⟨by rfl, (fun u hu => by go_simp; try rfl)⟩) trivial (fun _ => trivial) ?_
          simp only [Act.put, List.setIfInBounds_toArray, List.set_cons_zero, List.set_cons_succ, List.getElem_toArray, List.getElem_cons_zero, List.getElem_cons_succ]
          refine wpAnyL_pure (i := 1) rfl (by kernel_rfl) (fun _ _ _ h => h) (Or.inl ⟨by rfl, (fun u hu => by go_simp; try rfl)⟩) trivial (fun _ => trivial) ?_
          simp only [Act.put, List.setIfInBounds_toArray, List.set_cons_zero, List.set_cons_succ, List.getElem_toArray, List.getElem_cons_zero, List.getElem_cons_succ]
          refine wpAnyL_pure (i := 2) rfl (by kernel_rfl) (fun _ _ _ h => h) (Or.inl ⟨by rfl, (fun u hu => by go_simp; try rfl)⟩) trivial (fun _ => trivial) ?_
          simp only [Act.put, List.setIfInBounds_toArray, List.set_cons_zero, List.set_cons_succ, List.getElem_toArray, List.getElem_cons_zero, List.getElem_cons_succ]
          refine wpAnyL_pure (i := 3) rfl (by kernel_rfl) (fun _ _ _ h => h) (Or.inl ⟨by rfl, (fun u hu => by go_simp; try rfl)⟩) trivial (fun _ => trivial) ?_
          simp only [Act.put, List.setIfInBounds_toArray, List.set_cons_zero, List.set_cons_succ, List.getElem_toArray, List.getElem_cons_zero, List.getElem_cons_succ]
          refine wpAnyL_pure (i := 4) (v := undef) rfl (by kernel_rfl) (fun _ _ _ h => h) (Or.inr ⟨by rfl, rfl⟩) trivial (fun _ => trivial) ?_
          simp only [Act.put, List.setIfInBounds_toArray, List.set_cons_zero, List.set_cons_succ, List.getElem_toArray, List.getElem_cons_zero, List.getElem_cons_succ]
          refine wpAnyL_pure (i := 5) (v := undef) rfl (by kernel_rfl) (fun _ _ _ h => h) (Or.inr ⟨by rfl, rfl⟩) trivial (fun _ => trivial) ?_
          simp only [Act.put, List.setIfInBounds_toArray, List.set_cons_zero, List.set_cons_succ, List.getElem_toArray, List.getElem_cons_zero, List.getElem_cons_succ]
          refine wpAnyL_pure (i := 6) (v := undef) rfl (by kernel_rfl) (fun _ _ _ h => h) (Or.inr ⟨by rfl, rfl⟩) trivial (fun _ => trivial) ?_
          simp only [Act.put, List.setIfInBounds_toArray, List.set_cons_zero, List.set_cons_succ, List.getElem_toArray, List.getElem_cons_zero, List.getElem_cons_succ]
          refine wpAnyL_pure (i := 7) (v := undef) rfl (by kernel_rfl) (fun _ _ _ h => h) (Or.inr ⟨by rfl, rfl⟩) trivial (fun _ => trivial) ?_
          simp only [Act.put, List.setIfInBounds_toArray, List.set_cons_zero, List.set_cons_succ, List.getElem_toArray, List.getElem_cons_zero, List.getElem_cons_succ]
          refine wpAnyL_pure (i := 8) (v := undef) rfl (by kernel_rfl) (fun _ _ _ h => h) (Or.inr ⟨by rfl, rfl⟩) trivial (fun _ => trivial) ?_
          simp only [Act.put, List.setIfInBounds_toArray, List.set_cons_zero, List.set_cons_succ, List.getElem_toArray, List.getElem_cons_zero, List.getElem_cons_succ]
          refine wpAnyL_pure (i := 9) (v := undef) rfl (by kernel_rfl) (fun _ _ _ h => h) (Or.inr ⟨by rfl, rfl⟩) trivial (fun _ => trivial) ?_
          simp only [Act.put, List.setIfInBounds_toArray, List.set_cons_zero, List.set_cons_succ, List.getElem_toArray, List.getElem_cons_zero, List.getElem_cons_succ]
          refine wpAnyL_pure (i := 10) (v := undef) rfl (by kernel_rfl) (fun _ _ _ h => h) (Or.inr ⟨by rfl, rfl⟩) trivial (fun _ => trivial) ?_
          simp only [Act.put, List.setIfInBounds_toArray, List.set_cons_zero, List.set_cons_succ, List.getElem_toArray, List.getElem_cons_zero, List.getElem_cons_succ]
          refine wpAnyL_pure (i := 11) (v := undef) rfl (by kernel_rfl) (fun _ _ _ h => h) (Or.inr ⟨by rfl, rfl⟩) trivial (fun _ => trivial) ?_
          simp only [Act.put, List.setIfInBounds_toArray, List.set_cons_zero, List.set_cons_succ, List.getElem_toArray, List.getElem_cons_zero, List.getElem_cons_succ]
          refine wpAnyL_pure (i := 12) (v := undef) rfl (by kernel_rfl) (fun _ _ _ h => h) (Or.inr ⟨by rfl, rfl⟩) trivial (fun _ => trivial) ?_
          simp only [Act.put, List.setIfInBounds_toArray, List.set_cons_zero, List.set_cons_succ, List.getElem_toArray, List.getElem_cons_zero, List.getElem_cons_succ]
          refine wpAnyL_pure (i := 13) (v := undef) rfl (by kernel_rfl) (fun _ _ _ h => h) (Or.inr ⟨by rfl, rfl⟩) trivial (fun _ => trivial) ?_
          simp only [Act.put, List.setIfInBounds_toArray, List.set_cons_zero, List.set_cons_succ, List.getElem_toArray, List.getElem_cons_zero, List.getElem_cons_succ]
          refine wpAnyL_pure (i := 14) rfl (by kernel_rfl) (fun _ _ _ h => h) (Or.inl ⟨by rfl, (fun u hu => by go_simp; try rfl)⟩) trivial (fun _ => trivial) ?_
          simp only [Act.put, List.setIfInBounds_toArray, List.set_cons_zero, List.set_cons_succ, List.getElem_toArray, List.getElem_cons_zero, List.getElem_cons_succ]
          refine wpAnyL_done (by kernel_rfl) ?_ _
          go_wp2_with fail
          go_roundg (n - (k + 1))
          case measure => rw [HGK.out]; omega
          case rel => exact ⟨k + 1, xs, by omega, by omega, rfl, by go_num, HPX.out, HSX.out.end_ (fun x y h => by omega), HOX.out.drew, grown_drew HGX.out⟩
        | succ j =>
          obtain ⟨x, hx⟩ : ∃ x, xs[j + 1]? = some x := ⟨_, List.getElem?_eq_getElem (by have := HXL.out; omega)⟩
          obtain ⟨y, hy⟩ : ∃ y, xs[j]? = some y := ⟨_, List.getElem?_eq_getElem (by have := HXL.out; omega)⟩
          have hall : ∀ u : World, u.heap[g]? = wi.heap[g]? → u.cell? ⟨g, j + 1, none⟩ = some (.int .i64 x) ∧ u.cell? ⟨g, j, none⟩ = some (.int .i64 y) := fun u hu => by
            have e1 : u.cell? ⟨g, j + 1, none⟩ = wi.cell? ⟨g, j + 1, none⟩ := World.cell?_of_block hu
            have e2 : u.cell? ⟨g, j, none⟩ = wi.cell? ⟨g, j, none⟩ := World.cell?_of_block hu
            rw [e1, e2, HOX.out.cellAt _ (by omega), HOX.out.cellAt _ (by omega), List.getElem?_map, List.getElem?_map, hx, hy]
            exact ⟨rfl, rfl⟩
          have HK := Lib.hid (hall wi.drew rfl)
          have HKW := Lib.hid (hall wi rfl)
          have HX := Lib.hid hx
          have HY := Lib.hid hy
          have hwj : IntKind.i64.wrap (j : Int) = (j : Int) := IntWalk.i64_in _ ⟨by omega, by omega⟩
          have HWJ := Lib.hid hwj
          have hjI : (0 : Int) < ((j : Int) + 1) := by omega
          have hjn : (j : Int) + 1 < (n : Int) := by omega
          have hj0 : (0 : Int) ≤ (j : Int) := by omega
          have hjn2 : (j : Int) < (n : Int) := by omega
          clear hall hx hy hwj
          --@4
          go_wp2_with fail
          refine wp_region_late (late := []) (S1 := fun u => u.cell? ⟨g, j + 1, none⟩ = some (.int .i64 x) ∧ u.cell? ⟨g, j, none⟩ = some (.int .i64 y)) (S := fun _ => True) (by kernel_rfl) ?_
          refine wpAnyL_pure (i := 0) rfl (by kernel_rfl) (fun _ _ _ h => h) (Or.inl ⟨by rfl, (fun u hu => by have hw := HWJ.out; obtain ⟨k0, k1⟩ := hu; go_simp; try rfl)⟩) HK.out (fun _ => trivial) ?_
          simp only [Act.put, List.setIfInBounds_toArray, List.set_cons_zero, List.set_cons_succ, List.getElem_toArray, List.getElem_cons_zero, List.getElem_cons_succ]
          refine wpAnyL_pure (i := 1) rfl (by kernel_rfl) (fun _ _ _ h => h) (Or.inl ⟨by rfl, (fun u hu => by have hw := HWJ.out; obtain ⟨k0, k1⟩ := hu; go_simp; try rfl)⟩) HK.out (fun _ => trivial) ?_
          simp only [Act.put, List.setIfInBounds_toArray, List.set_cons_zero, List.set_cons_succ, List.getElem_toArray, List.getElem_cons_zero, List.getElem_cons_succ]
          refine wpAnyL_pure (i := 2) rfl (by kernel_rfl) (fun _ _ _ h => h) (Or.inl ⟨by rfl, (fun u hu => by have hw := HWJ.out; obtain ⟨k0, k1⟩ := hu; go_simp; try rfl)⟩) HK.out (fun _ => trivial) ?_
          simp only [Act.put, List.setIfInBounds_toArray, List.set_cons_zero, List.set_cons_succ, List.getElem_toArray, List.getElem_cons_zero, List.getElem_cons_succ]
          refine wpAnyL_pure (i := 3) rfl (by kernel_rfl) (fun _ _ _ h => h) (Or.inl ⟨by rfl, (fun u hu => by have hw := HWJ.out; obtain ⟨k0, k1⟩ := hu; go_simp; try rfl)⟩) HK.out (fun _ => trivial) ?_
          simp only [Act.put, List.setIfInBounds_toArray, List.set_cons_zero, List.set_cons_succ, List.getElem_toArray, List.getElem_cons_zero, List.getElem_cons_succ]
          refine wpAnyL_pure (i := 4) rfl (by kernel_rfl) (fun _ _ _ h => h) (Or.inl ⟨by rfl, (fun u hu => by have hw := HWJ.out; obtain ⟨k0, k1⟩ := hu; go_simp; try rfl)⟩) HK.out (fun _ => trivial) ?_
          simp only [Act.put, List.setIfInBounds_toArray, List.set_cons_zero, List.set_cons_succ, List.getElem_toArray, List.getElem_cons_zero, List.getElem_cons_succ]
          refine wpAnyL_pure (i := 5) rfl (by kernel_rfl) (fun _ _ _ h => h) (Or.inl ⟨by rfl, (fun u hu => by have hw := HWJ.out; obtain ⟨k0, k1⟩ := hu; go_simp; try rfl)⟩) HK.out (fun _ => trivial) ?_
          simp only [Act.put, List.setIfInBounds_toArray, List.set_cons_zero, List.set_cons_succ, List.getElem_toArray, List.getElem_cons_zero, List.getElem_cons_succ]
          refine wpAnyL_pure (i := 6) rfl (by kernel_rfl) (fun _ _ _ h => h) (Or.inl ⟨by rfl, (fun u hu => by have hw := HWJ.out; obtain ⟨k0, k1⟩ := hu; go_simp; try rfl)⟩) HK.out (fun _ => trivial) ?_
          simp only [Act.put, List.setIfInBounds_toArray, List.set_cons_zero, List.set_cons_succ, List.getElem_toArray, List.getElem_cons_zero, List.getElem_cons_succ]
          refine wpAnyL_pure (i := 7) rfl (by kernel_rfl) (fun _ _ _ h => h) (Or.inl ⟨by rfl, (fun u hu => by have hw := HWJ.out; obtain ⟨k0, k1⟩ := hu; go_simp; try rfl)⟩) HK.out (fun _ => trivial) ?_
          simp only [Act.put, List.setIfInBounds_toArray, List.set_cons_zero, List.set_cons_succ, List.getElem_toArray, List.getElem_cons_zero, List.getElem_cons_succ]
          refine wpAnyL_pure (i := 8) rfl (by kernel_rfl) (fun _ _ _ h => h) (Or.inl ⟨by rfl, (fun u hu => by have hw := HWJ.out; obtain ⟨k0, k1⟩ := hu; go_simp; try rfl)⟩) HK.out (fun _ => trivial) ?_
          simp only [Act.put, List.setIfInBounds_toArray, List.set_cons_zero, List.set_cons_succ, List.getElem_toArray, List.getElem_cons_zero, List.getElem_cons_succ]
          refine wpAnyL_pure (i := 9) rfl (by kernel_rfl) (fun _ _ _ h => h) (Or.inl ⟨by rfl, (fun u hu => by have hw := HWJ.out; obtain ⟨k0, k1⟩ := hu; go_simp; try rfl)⟩) HK.out (fun _ => trivial) ?_
          simp only [Act.put, List.setIfInBounds_toArray, List.set_cons_zero, List.set_cons_succ, List.getElem_toArray, List.getElem_cons_zero, List.getElem_cons_succ]
          refine wpAnyL_pure (i := 10) rfl (by kernel_rfl) (fun _ _ _ h => h) (Or.inl ⟨by rfl, (fun u hu => by have hw := HWJ.out; obtain ⟨k0, k1⟩ := hu; go_simp; try rfl)⟩) HK.out (fun _ => trivial) ?_
          simp only [Act.put, List.setIfInBounds_toArray, List.set_cons_zero, List.set_cons_succ, List.getElem_toArray, List.getElem_cons_zero, List.getElem_cons_succ]
          refine wpAnyL_pure (i := 11) rfl (by kernel_rfl) (fun _ _ _ h => h) (Or.inl ⟨by rfl, (fun u hu => by have hw := HWJ.out; obtain ⟨k0, k1⟩ := hu; go_simp; try rfl)⟩) HK.out (fun _ => trivial) ?_
          simp only [Act.put, List.setIfInBounds_toArray, List.set_cons_zero, List.set_cons_succ, List.getElem_toArray, List.getElem_cons_zero, List.getElem_cons_succ]
          refine wpAnyL_pure (i := 12) rfl (by kernel_rfl) (fun _ _ _ h => h) (Or.inl ⟨by rfl, (fun u hu => by have hw := HWJ.out; obtain ⟨k0, k1⟩ := hu; go_simp; try rfl)⟩) HK.out (fun _ => trivial) ?_
          simp only [Act.put, List.setIfInBounds_toArray, List.set_cons_zero, List.set_cons_succ, List.getElem_toArray, List.getElem_cons_zero, List.getElem_cons_succ]
          refine wpAnyL_ready (rs := [13]) (by kernel_rfl) (by simp) ?_
          refine AllL.cons rfl (fun K hK => ?_) ?_
          · go_simp
            refine (cmpLess x y _).mono ?_
            rintro e _ ⟨rfl, rfl⟩
            refine hK.out _ _ HK.out (fun _ => trivial) ?_
            clear hK K
            refine wpAnyL_pure (i := 14) rfl (by kernel_rfl) (fun _ _ _ h => h) (Or.inl ⟨by rfl, (fun u hu => by have hw := HWJ.out; obtain ⟨k0, k1⟩ := hu; go_simp; try rfl)⟩) HK.out (fun _ => trivial) ?_
            simp only [Act.put, List.setIfInBounds_toArray, List.set_cons_zero, List.set_cons_succ, List.getElem_toArray, List.getElem_cons_zero, List.getElem_cons_succ]
            refine wpAnyL_done (by kernel_rfl) ?_ _
            cases hxy : decide (x < y) with
            | false =>
              have HLT := Lib.hid hxy
              clear hxy
              --@5
              go_wp2_with fail
              go_roundg (n - (k + 1))
              case measure => rw [HGK.out]; omega
              case rel => exact ⟨k + 1, xs, by omega, by omega, rfl, by go_num, HPX.out, HSX.out.end_ (fun a b _ ha hb => by have h1 := HX.out; have h2 := HY.out; rw [Nat.add_sub_cancel] at ha; rw [h2] at ha; rw [h1] at hb; injection ha with ha; injection hb with hb; have := HLT.out; simp at this; omega), HOX.out.drew, grown_drew HGX.out⟩
            | true =>
              have HLT := Lib.hid hxy
              have HFZ := Lib.hid (fun k => HOX.out.frozenAt k)
              have HK2 := Lib.hid HK.out
              have HST := Lib.hid (show ((wi.setCell ⟨g, j + 1, none⟩ (.int .i64 y)).setCell ⟨g, j, none⟩ (.int .i64 x)).drew.drew.ownsRow base 3 1 (.slice (some ⟨g, 0, none⟩) n cap) n (((xs.set (j + 1) y).set j x).map (Value.int .i64)) by
                have h1 := (HOX.out.stored (j + 1) (.int .i64 y)).1
                have h2 := (h1.stored j (.int .i64 x)).1
                rw [← List.map_set, ← List.map_set] at h2
                exact h2.drew.drew)
              have HGS := Lib.hid (show w.grownBy ((wi.setCell ⟨g, j + 1, none⟩ (.int .i64 y)).setCell ⟨g, j, none⟩ (.int .i64 x)).drew.drew (some g) from grown_drew (grown_drew ((HGX.out.trans (set_grownI _ _ _)).trans (set_grownI _ _ _))))
              clear hxy
              --@6
              go_wp2_with fail
              refine wp_region_late (late := [15, 17]) (S1 := fun _ => True) (S := fun u => u.cell? ⟨g, j + 1, none⟩ = some (.int .i64 x) ∧ u.cell? ⟨g, j, none⟩ = some (.int .i64 y)) (by kernel_rfl) ?_
              refine wpAnyL_pure (i := 0) rfl (by kernel_rfl) (fun _ _ _ h => h) (Or.inl ⟨by rfl, (fun u hu => by have hw := HWJ.out; go_simp; try rfl)⟩) trivial (fun _ => HK2.out) ?_
              simp only [Act.put, List.setIfInBounds_toArray, List.set_cons_zero, List.set_cons_succ, List.getElem_toArray, List.getElem_cons_zero, List.getElem_cons_succ]
              refine wpAnyL_pure (i := 1) rfl (by kernel_rfl) (fun _ _ _ h => h) (Or.inl ⟨by rfl, (fun u hu => by have hw := HWJ.out; go_simp; try rfl)⟩) trivial (fun _ => HK2.out) ?_
              simp only [Act.put, List.setIfInBounds_toArray, List.set_cons_zero, List.set_cons_succ, List.getElem_toArray, List.getElem_cons_zero, List.getElem_cons_succ]
              refine wpAnyL_pure (i := 2) rfl (by kernel_rfl) (fun _ _ _ h => h) (Or.inl ⟨by rfl, (fun u hu => by have hw := HWJ.out; go_simp; try rfl)⟩) trivial (fun _ => HK2.out) ?_
              simp only [Act.put, List.setIfInBounds_toArray, List.set_cons_zero, List.set_cons_succ, List.getElem_toArray, List.getElem_cons_zero, List.getElem_cons_succ]
              refine wpAnyL_pure (i := 3) rfl (by kernel_rfl) (fun _ _ _ h => h) (Or.inl ⟨by rfl, (fun u hu => by have hw := HWJ.out; go_simp; try rfl)⟩) trivial (fun _ => HK2.out) ?_
              simp only [Act.put, List.setIfInBounds_toArray, List.set_cons_zero, List.set_cons_succ, List.getElem_toArray, List.getElem_cons_zero, List.getElem_cons_succ]
              refine wpAnyL_pure (i := 4) rfl (by kernel_rfl) (fun _ _ _ h => h) (Or.inl ⟨by rfl, (fun u hu => by have hw := HWJ.out; go_simp; try rfl)⟩) trivial (fun _ => HK2.out) ?_
              simp only [Act.put, List.setIfInBounds_toArray, List.set_cons_zero, List.set_cons_succ, List.getElem_toArray, List.getElem_cons_zero, List.getElem_cons_succ]
              refine wpAnyL_pure (i := 5) rfl (by kernel_rfl) (fun _ _ _ h => h) (Or.inl ⟨by rfl, (fun u hu => by have hw := HWJ.out; go_simp; try rfl)⟩) trivial (fun _ => HK2.out) ?_
              simp only [Act.put, List.setIfInBounds_toArray, List.set_cons_zero, List.set_cons_succ, List.getElem_toArray, List.getElem_cons_zero, List.getElem_cons_succ]
              refine wpAnyL_pure (i := 6) rfl (by kernel_rfl) (fun _ _ _ h => h) (Or.inl ⟨by rfl, (fun u hu => by have hw := HWJ.out; go_simp; try rfl)⟩) trivial (fun _ => HK2.out) ?_
              simp only [Act.put, List.setIfInBounds_toArray, List.set_cons_zero, List.set_cons_succ, List.getElem_toArray, List.getElem_cons_zero, List.getElem_cons_succ]
              refine wpAnyL_pure (i := 7) rfl (by kernel_rfl) (fun _ _ _ h => h) (Or.inl ⟨by rfl, (fun u hu => by have hw := HWJ.out; go_simp; try rfl)⟩) trivial (fun _ => HK2.out) ?_
              simp only [Act.put, List.setIfInBounds_toArray, List.set_cons_zero, List.set_cons_succ, List.getElem_toArray, List.getElem_cons_zero, List.getElem_cons_succ]
              refine wpAnyL_pure (i := 8) rfl (by kernel_rfl) (fun _ _ _ h => h) (Or.inl ⟨by rfl, (fun u hu => by have hw := HWJ.out; go_simp; try rfl)⟩) trivial (fun _ => HK2.out) ?_
              simp only [Act.put, List.setIfInBounds_toArray, List.set_cons_zero, List.set_cons_succ, List.getElem_toArray, List.getElem_cons_zero, List.getElem_cons_succ]
              refine wpAnyL_take (i := 9) rfl (by kernel_rfl) (fun _ _ _ h => h) (Or.inl ⟨by rfl, (fun u hu => by have hw := HWJ.out; obtain ⟨_, k0, k1⟩ := hu; go_simp; try rfl)⟩) trivial (fun _ => HK2.out) ?_
              simp only [Act.put, List.setIfInBounds_toArray, List.set_cons_zero, List.set_cons_succ, List.getElem_toArray, List.getElem_cons_zero, List.getElem_cons_succ]
              refine wpAnyL_pure (i := 10) rfl (by kernel_rfl) (fun _ _ _ h => h) (Or.inl ⟨by rfl, (fun u hu => by have hw := HWJ.out; go_simp; try rfl)⟩) trivial (fun _ => HK2.out) ?_
              simp only [Act.put, List.setIfInBounds_toArray, List.set_cons_zero, List.set_cons_succ, List.getElem_toArray, List.getElem_cons_zero, List.getElem_cons_succ]
              refine wpAnyL_pure (i := 11) rfl (by kernel_rfl) (fun _ _ _ h => h) (Or.inl ⟨by rfl, (fun u hu => by have hw := HWJ.out; go_simp; try rfl)⟩) trivial (fun _ => HK2.out) ?_
              simp only [Act.put, List.setIfInBounds_toArray, List.set_cons_zero, List.set_cons_succ, List.getElem_toArray, List.getElem_cons_zero, List.getElem_cons_succ]
              refine wpAnyL_pure (i := 12) rfl (by kernel_rfl) (fun _ _ _ h => h) (Or.inl ⟨by rfl, (fun u hu => by have hw := HWJ.out; go_simp; try rfl)⟩) trivial (fun _ => HK2.out) ?_
              simp only [Act.put, List.setIfInBounds_toArray, List.set_cons_zero, List.set_cons_succ, List.getElem_toArray, List.getElem_cons_zero, List.getElem_cons_succ]
              refine wpAnyL_take (i := 13) rfl (by kernel_rfl) (fun _ _ _ h => h) (Or.inl ⟨by rfl, (fun u hu => by have hw := HWJ.out; obtain ⟨_, k0, k1⟩ := hu; go_simp; try rfl)⟩) trivial (fun _ => HK2.out) ?_
              simp only [Act.put, List.setIfInBounds_toArray, List.set_cons_zero, List.set_cons_succ, List.getElem_toArray, List.getElem_cons_zero, List.getElem_cons_succ]
              refine wpAnyL_pure (i := 14) rfl (by kernel_rfl) (fun _ _ _ h => h) (Or.inl ⟨by rfl, (fun u hu => by have hw := HWJ.out; go_simp; try rfl)⟩) trivial (fun _ => HK2.out) ?_
              simp only [Act.put, List.setIfInBounds_toArray, List.set_cons_zero, List.set_cons_succ, List.getElem_toArray, List.getElem_cons_zero, List.getElem_cons_succ]
              refine wpAnyL_ready (rs := [15]) (by kernel_rfl) (by simp) ?_
              refine AllL.cons rfl (fun K hK => ?_) ?_
              · obtain ⟨c1, c0⟩ := HKW.out
                have f1 := HFZ.out (j + 1)
                have f0 := HFZ.out j
                have l1 := cell_lt c1
                have hne1 : j ≠ j + 1 := by omega
                go_simp
                refine hK.out _ _ trivial (fun h => absurd (h 15 (by simp)) (by decide)) ?_
                clear hK K
                refine wpAnyL_pure (i := 16) rfl (by kernel_rfl) (fun _ _ _ h => h) (Or.inl ⟨by rfl, (fun u hu => by have hw := HWJ.out; go_simp; try rfl)⟩) trivial (fun h => absurd (h 15 (by simp)) (by decide)) ?_
                simp only [Act.put, List.setIfInBounds_toArray, List.set_cons_zero, List.set_cons_succ, List.getElem_toArray, List.getElem_cons_zero, List.getElem_cons_succ]
                refine wpAnyL_ready (rs := [17]) (by kernel_rfl) (by simp) ?_
                refine AllL.cons rfl (fun K hK => ?_) ?_
                · go_simp
                  clear c1 c0 f1 f0 hne1
                  refine hK.out _ _ trivial (fun h => absurd (h 15 (by simp)) (by decide)) ?_
                  clear hK K
                  refine wpAnyL_done (by kernel_rfl) ?_ _
                  --@7
                  go_wp2_with fail
                  go_roundg (j + 1)
                  case measure => rw [HGJ.out]; omega
                  case rel => exact ⟨j, (xs.set (j + 1) y).set j x, by omega, rfl, by go_num, (swap_perm HX.out HY.out).trans HPX.out, HSX.out.swap HX.out HY.out (by simpa using HLT.out), HST.out, HGS.out⟩
                exact AllL.nil
              exact AllL.nil
          exact AllL.nil
    · obtain rfl : k = n := by omega
      --@9
      go_wp2_with fail
      go_end0
      exact ⟨rfl, ys, HP.out, HS.out, HO.out, HGR.out⟩
end Go.Proofs.Ytfmmpmphlognlaa
