/- slices.Reverse of ints. -/
import Derived.Test.YtgaahpddlohjoaaLate
import Derived.Test.YtgaahpddlohjoaaRep2
import Derived.Test.YtgaahpddlohjoaaDfaB
import Derived.Deep.LoopGhost
namespace Go.Proofs.Ytgaahpddlohjoaa
open Go.RowKit

/-- a block's first n cells -/
def Fst (w : World) (g n : Nat) (E : TypeId) (sz : Nat) (p : Nat → Value) : Prop := ∃ cur : Array Value, w.heap[g]? = some (.cells cur E (0, 0)) ∧ cur.size = sz ∧ ∀ k, k < n → cur[k]? = some (p k)
section
variable {w w' : World} {g n sz : Nat} {E : TypeId} {p : Nat → Value}
theorem Fst.at_ (h : Fst w g n E sz p) {k : Nat} (hk : k < n) : w.cell? ⟨g, k, none⟩ = some (p k) := by
  obtain ⟨cur, h1, _, h2⟩ := h
  rw [cell_of_row _ _ _ _ _ _ h1]
  exact h2 k hk
theorem Fst.fr (h : Fst w g n E sz p) (k : Nat) : w.frozen? ⟨g, k, none⟩ = false := by
  obtain ⟨cur, h1, _⟩ := h
  simp [World.frozen?, h1]
theorem Fst.set (h : Fst w g n E sz p) {k : Nat} (hk : k < n) (a : Value) : Fst (w.setCell ⟨g, k, none⟩ a) g n E sz (fun i => if i = k then a else p i) := by
  obtain ⟨cur, h1, h2, h3⟩ := h
  have hlt := (Array.getElem?_eq_some_iff.1 (h3 k hk)).1
  refine ⟨cur.setIfInBounds k a, heap_setCell_same w g _ cur E a h1, by simp [h2], fun i hi => ?_⟩
  have h4 := h3 i hi
  by_cases e : i = k
  · subst e
    dsimp only
    rw [if_pos rfl, Array.getElem?_setIfInBounds, if_pos rfl, if_pos hlt]
  · dsimp only
    rw [if_neg e, Array.getElem?_setIfInBounds, if_neg (by omega)]
    exact h4
theorem Fst.congr {q : Nat → Value} (h : Fst w g n E sz p) (e : ∀ k, k < n → p k = q k) : Fst w g n E sz q := by
  obtain ⟨cur, h1, h2, h3⟩ := h
  exact ⟨cur, h1, h2, fun k hk => by rw [← e k hk]; exact h3 k hk⟩
theorem Fst.drew (h : Fst w g n E sz p) : Fst w.drew g n E sz p := h
end
/-- i cells from either end are swapped -/
def revQ {α : Type} (n i : Nat) (p : Nat → α) (k : Nat) : α := if k < i ∨ n < k + i + 1 then p (n - 1 - k) else p k
theorem revQ_step {α : Type} {n i : Nat} {p : Nat → α} (h : i + i + 1 < n) (k : Nat) (hk : k < n) : (if k = n - 1 - i then revQ n i p i else if k = i then revQ n i p (n - 1 - i) else revQ n i p k) = revQ n (i + 1) p k := by
  unfold revQ
  by_cases h1 : k = n - 1 - i
  · rw [if_pos h1, if_neg (by omega), if_pos (by omega)]
    congr 1
    omega
  · rw [if_neg h1]
    by_cases h2 : k = i
    · rw [if_pos h2, if_neg (by omega), if_pos (by omega), h2]
    · rw [if_neg h2]
      by_cases h3 : k < i ∨ n < k + i + 1
      · rw [if_pos h3, if_pos (by omega)]
      · rw [if_neg h3, if_neg (by omega)]
theorem revQ_end {α : Type} {n i : Nat} {p : Nat → α} (h : n ≤ i + i + 1) (k : Nat) (hk : k < n) : revQ n i p k = p (n - 1 - k) := by
  unfold revQ
  split
  · rfl
  · congr 1
    omega
theorem setGr {g : Nat} (w2 : World) (i : Nat) (u : Value) : w2.grownBy (w2.setCell ⟨g, i, none⟩ u) (some g) := ⟨rfl, rfl, rfl, by simp [World.setCell], fun q _ hq => Below.heap_setCell w2 ⟨g, i, none⟩ _ q (fun e => hq (by rw [e]))⟩
theorem grownDr {w w' : World} {r : Option Nat} (h : w.grownBy w' r) : w.grownBy w'.drew r := ⟨h.os, h.tape, h.output, h.size, h.block⟩
set_option linter.unusedSimpArgs false in
set_option maxRecDepth 100000 in
set_option maxHeartbeats 4000000 in
theorem reverseIntF (w : World) (g n c sz : Nat) (p : Nat → Int) (hp : Fst w g n 3 sz (fun k => .int .i64 (p k))) (hn : n ≤ 1000000) :
    Calls Try.prog 90 #[.slice (some ⟨g, 0, none⟩) n c] w fun e w' => e = .returned (.tuple #[]) ∧ Fst w' g n 3 sz (fun k => .int .i64 (p (n - 1 - k))) ∧ w.grownBy w' (some g) := by
  have HP := Lib.hid hp
  clear hp
  go_enter Try.func90, Try.ntmps90
  go_wp2_with fail
  go_loopg [2, 3] n (fun gk a b wr => ∃ (i : Nat) (jj : Int), i ≤ n ∧ jj = (n : Int) - 1 - (i : Int) ∧ gk = n - i ∧ a = .int .i64 i ∧ b = .int .i64 jj ∧ Fst wr g n 3 sz (fun k => .int .i64 (revQ n i p k)) ∧ w.grownBy wr (some g))
  case atStart => exact ⟨0, _, Nat.zero_le _, rfl, rfl, rfl, by go_num, HP.out.congr (fun k hk => by unfold revQ; rw [if_neg (by omega)]), World.grownBy.refl w _⟩
  case round =>
    obtain ⟨i, jj, hi, hjj, hgk, rfl, rfl, hpr, hgr⟩ := hrel
    have HGK := Lib.hid hgk
    have HPR := Lib.hid hpr
    have HGR := Lib.hid hgr
    obtain ⟨w2, rfl⟩ : ∃ w2 : World, w2 = wr := ⟨_, rfl⟩
    clear hgk hpr hgr
    by_cases hlt : i + i + 1 < n
    · obtain ⟨j, hj⟩ : ∃ j : Nat, j = n - 1 - i := ⟨_, rfl⟩
      obtain rfl : jj = (j : Int) := by omega
      have x0 := HPR.out.at_ (k := i) (by omega)
      have y0 := HPR.out.at_ (k := j) (by omega)
      obtain ⟨X, hX⟩ : ∃ X, X = revQ n i p i := ⟨_, rfl⟩
      obtain ⟨Y, hY⟩ : ∃ Y, Y = revQ n i p j := ⟨_, rfl⟩
      rw [← hX] at x0
      rw [← hY] at y0
      have HK := Lib.hid (And.intro x0 y0)
      have HF := Lib.hid (fun k => HPR.out.fr k)
      have HX := Lib.hid (And.intro hX hY)
      have HJ := Lib.hid hj
      have hijI : (i : Int) < (j : Int) := by omega
      have hjnI : (j : Int) < (n : Int) := by omega
      have hi0 : (0 : Int) ≤ (i : Int) := by omega
      have hj0 : (0 : Int) ≤ (j : Int) := by omega
      have hiI : (i : Int) < (n : Int) := by omega
      clear x0 y0 hX hY hj hjj
      go_wp2_with fail
      refine wp_region_late (late := [13, 15]) (S1 := fun _ => True) (S := fun u => u.cell? ⟨g, i, none⟩ = some (.int .i64 X) ∧ u.cell? ⟨g, j, none⟩ = some (.int .i64 Y)) (by kernel_rfl) ?_
      refine wpAnyL_pure (i := 0) rfl (by kernel_rfl) (fun _ _ _ h => h) (Or.inl ⟨by rfl, (fun u hu => by go_simp; try rfl)⟩) trivial (fun _ => HK.out) ?_
      simp only [Act.put, List.setIfInBounds_toArray, List.set_cons_zero, List.set_cons_succ, List.getElem_toArray, List.getElem_cons_zero, List.getElem_cons_succ]
      refine wpAnyL_pure (i := 1) rfl (by kernel_rfl) (fun _ _ _ h => h) (Or.inl ⟨by rfl, (fun u hu => by go_simp; try rfl)⟩) trivial (fun _ => HK.out) ?_
      simp only [Act.put, List.setIfInBounds_toArray, List.set_cons_zero, List.set_cons_succ, List.getElem_toArray, List.getElem_cons_zero, List.getElem_cons_succ]
      refine wpAnyL_pure (i := 2) rfl (by kernel_rfl) (fun _ _ _ h => h) (Or.inl ⟨by rfl, (fun u hu => by go_simp; try rfl)⟩) trivial (fun _ => HK.out) ?_
      simp only [Act.put, List.setIfInBounds_toArray, List.set_cons_zero, List.set_cons_succ, List.getElem_toArray, List.getElem_cons_zero, List.getElem_cons_succ]
      refine wpAnyL_pure (i := 3) rfl (by kernel_rfl) (fun _ _ _ h => h) (Or.inl ⟨by rfl, (fun u hu => by go_simp; try rfl)⟩) trivial (fun _ => HK.out) ?_
      simp only [Act.put, List.setIfInBounds_toArray, List.set_cons_zero, List.set_cons_succ, List.getElem_toArray, List.getElem_cons_zero, List.getElem_cons_succ]
      refine wpAnyL_pure (i := 4) rfl (by kernel_rfl) (fun _ _ _ h => h) (Or.inl ⟨by rfl, (fun u hu => by go_simp; try rfl)⟩) trivial (fun _ => HK.out) ?_
      simp only [Act.put, List.setIfInBounds_toArray, List.set_cons_zero, List.set_cons_succ, List.getElem_toArray, List.getElem_cons_zero, List.getElem_cons_succ]
      refine wpAnyL_pure (i := 5) rfl (by kernel_rfl) (fun _ _ _ h => h) (Or.inl ⟨by rfl, (fun u hu => by go_simp; try rfl)⟩) trivial (fun _ => HK.out) ?_
      simp only [Act.put, List.setIfInBounds_toArray, List.set_cons_zero, List.set_cons_succ, List.getElem_toArray, List.getElem_cons_zero, List.getElem_cons_succ]
      refine wpAnyL_pure (i := 6) rfl (by kernel_rfl) (fun _ _ _ h => h) (Or.inl ⟨by rfl, (fun u hu => by go_simp; try rfl)⟩) trivial (fun _ => HK.out) ?_
      simp only [Act.put, List.setIfInBounds_toArray, List.set_cons_zero, List.set_cons_succ, List.getElem_toArray, List.getElem_cons_zero, List.getElem_cons_succ]
      refine wpAnyL_take (i := 7) rfl (by kernel_rfl) (fun _ _ _ h => h) (Or.inl ⟨by rfl, (fun u hu => by obtain ⟨_, k0, k1⟩ := hu; go_simp; try rfl)⟩) trivial (fun _ => HK.out) ?_
      simp only [Act.put, List.setIfInBounds_toArray, List.set_cons_zero, List.set_cons_succ, List.getElem_toArray, List.getElem_cons_zero, List.getElem_cons_succ]
      refine wpAnyL_pure (i := 8) rfl (by kernel_rfl) (fun _ _ _ h => h) (Or.inl ⟨by rfl, (fun u hu => by go_simp; try rfl)⟩) trivial (fun _ => HK.out) ?_
      simp only [Act.put, List.setIfInBounds_toArray, List.set_cons_zero, List.set_cons_succ, List.getElem_toArray, List.getElem_cons_zero, List.getElem_cons_succ]
      refine wpAnyL_pure (i := 9) rfl (by kernel_rfl) (fun _ _ _ h => h) (Or.inl ⟨by rfl, (fun u hu => by go_simp; try rfl)⟩) trivial (fun _ => HK.out) ?_
      simp only [Act.put, List.setIfInBounds_toArray, List.set_cons_zero, List.set_cons_succ, List.getElem_toArray, List.getElem_cons_zero, List.getElem_cons_succ]
      refine wpAnyL_pure (i := 10) rfl (by kernel_rfl) (fun _ _ _ h => h) (Or.inl ⟨by rfl, (fun u hu => by go_simp; try rfl)⟩) trivial (fun _ => HK.out) ?_
      simp only [Act.put, List.setIfInBounds_toArray, List.set_cons_zero, List.set_cons_succ, List.getElem_toArray, List.getElem_cons_zero, List.getElem_cons_succ]
      refine wpAnyL_take (i := 11) rfl (by kernel_rfl) (fun _ _ _ h => h) (Or.inl ⟨by rfl, (fun u hu => by obtain ⟨_, k0, k1⟩ := hu; go_simp; try rfl)⟩) trivial (fun _ => HK.out) ?_
      simp only [Act.put, List.setIfInBounds_toArray, List.set_cons_zero, List.set_cons_succ, List.getElem_toArray, List.getElem_cons_zero, List.getElem_cons_succ]
      refine wpAnyL_pure (i := 12) rfl (by kernel_rfl) (fun _ _ _ h => h) (Or.inl ⟨by rfl, (fun u hu => by go_simp; try rfl)⟩) trivial (fun _ => HK.out) ?_
      simp only [Act.put, List.setIfInBounds_toArray, List.set_cons_zero, List.set_cons_succ, List.getElem_toArray, List.getElem_cons_zero, List.getElem_cons_succ]
      refine wpAnyL_ready (rs := [13]) (by kernel_rfl) (by simp) ?_
      refine AllL.cons rfl (fun K hK => ?_) ?_
      · obtain ⟨c0, c1⟩ := HK.out
        have f0 := HF.out i
        have f1 := HF.out j
        have l1 := cell_lt c0
        have n1 : i ≠ j := by omega
        go_simp
        refine hK.out _ _ trivial (fun h => absurd (h 13 (by simp)) (by decide)) ?_
        clear hK K
        refine wpAnyL_pure (i := 14) rfl (by kernel_rfl) (fun _ _ _ h => h) (Or.inl ⟨by rfl, (fun u hu => by go_simp; try rfl)⟩) trivial (fun h => absurd (h 13 (by simp)) (by decide)) ?_
        simp only [Act.put, List.setIfInBounds_toArray, List.set_cons_zero, List.set_cons_succ, List.getElem_toArray, List.getElem_cons_zero, List.getElem_cons_succ]
        refine wpAnyL_ready (rs := [15]) (by kernel_rfl) (by simp) ?_
        refine AllL.cons rfl (fun K hK => ?_) ?_
        · go_simp
          clear c0 c1 f0 f1 n1
          refine hK.out _ _ trivial (fun h => absurd (h 13 (by simp)) (by decide)) ?_
          clear hK K
          refine wpAnyL_done (by kernel_rfl) ?_ _
          have HST := Lib.hid ((HPR.out.set (k := i) (by omega) (.int .i64 Y)).set (k := j) (by omega) (.int .i64 X))
          have HGS := Lib.hid ((HGR.out.trans (setGr _ i (.int .i64 Y))).trans (setGr _ j (.int .i64 X)))
          go_wp2_with fail
          go_roundg (n - (i + 1))
          case measure => rw [HGK.out]; omega
          case rel =>
            refine ⟨i + 1, _, by omega, rfl, rfl, by go_num, by have := HJ.out; go_num, (HST.out.congr fun k hk => ?_).drew, grownDr HGS.out⟩
            obtain ⟨e1, e2⟩ := HX.out
            rw [← revQ_step hlt k hk, ← HJ.out, ← e1, ← e2]
            by_cases h1 : k = j
            · rw [if_pos h1, if_pos h1]
            · rw [if_neg h1, if_neg h1]
              by_cases h2 : k = i
              · rw [if_pos h2, if_pos h2]
              · rw [if_neg h2, if_neg h2]
        exact AllL.nil
      exact AllL.nil
    · have hd : decide ((i : Int) < jj) = false := by simp; omega
      go_wp2_with fail
      go_end0
      exact ⟨rfl, HPR.out.congr (fun k hk => by rw [revQ_end (by omega) k hk]), HGR.out⟩
/-- a list of the call's own, turned round -/
theorem reverseInt (w : World) (base : Nat) (A : Option Addr) (c : Nat) (l : List Int) (ho : Own w base 3 1 (.slice A l.length c) l.length (l.map (Value.int .i64))) (hn : l.length ≤ 1000000) :
    Calls Try.prog 90 #[.slice A l.length c] w fun e w' => e = .returned (.tuple #[]) ∧ Own w' base 3 1 (.slice A l.length c) l.length (l.reverse.map (Value.int .i64)) ∧ w.grownBy w' (rowOf (.slice A l.length c)) := by
  rcases Nat.eq_zero_or_pos l.length with h0 | h0
  · have hl : l = [] := List.eq_nil_of_length_eq_zero h0
    subst hl
    have HO := Lib.hid ho
    clear ho h0 hn
    simp only [List.length_nil]
    go_enter Try.func90, Try.ntmps90
    go_wp2_with fail
    go_loop [2, 3] (fun a b => a = .int .i64 0 ∧ b = .int .i64 (-1)) (fun _ _ => 0)
    case atStart => exact ⟨rfl, rfl⟩
    case round =>
      obtain ⟨rfl, rfl⟩ := hrel
      go_wp2_with fail
      go_end0
      exact ⟨rfl, HO.out, World.grownBy.refl w _⟩
  · rcases ho with ho | ⟨A', _, hz, _⟩
    · rcases ho.2 with ⟨_, hz⟩ | ⟨g, cap, cur, e, hb, hh, hnc, hm, hs, ht⟩
      · omega
      · injection e with e1 _ e3
        subst e1
        subst e3
        rw [Nat.mul_one] at hs
        obtain ⟨c', rfl⟩ : ∃ c', c = c' + 1 := ⟨c - 1, by omega⟩
        have hcur : ∀ k, k < l.length → cur[k]? = some (.int .i64 (l.getD k 0)) := fun k hk => by
          have h1 : (cur.toList.take (l.length * 1))[k]? = (l.map (Value.int .i64))[k]? := by rw [ht]
          rw [List.getElem?_take, if_pos (by omega), List.getElem?_map, List.getElem?_eq_getElem hk] at h1
          rw [← Array.getElem?_toList, h1]
          simp [List.getD, List.getElem?_eq_getElem hk]
        refine (reverseIntF w g l.length (c' + 1) cur.size (fun k => l.getD k 0) ⟨cur, hh, rfl, hcur⟩ hn).mono ?_
        rintro e w' ⟨rfl, ⟨cur', h1, h2, h3⟩, hg⟩
        refine ⟨rfl, .inl ⟨by simp, .inr ⟨g, c' + 1, cur', rfl, hb, h1, hnc, hm, by omega, ?_⟩⟩, hg⟩
        rw [Nat.mul_one]
        apply List.ext_getElem?
        intro k
        rw [List.getElem?_take]
        by_cases hk : k < l.length
        · rw [if_pos hk, Array.getElem?_toList, h3 k hk, List.getElem?_map, List.getElem?_reverse hk]
          simp [List.getD, List.getElem?_eq_getElem (show l.length - 1 - k < l.length by omega)]
        · rw [if_neg hk, List.getElem?_eq_none (by simp; omega)]
    · omega
end Go.Proofs.Ytgaahpddlohjoaa
