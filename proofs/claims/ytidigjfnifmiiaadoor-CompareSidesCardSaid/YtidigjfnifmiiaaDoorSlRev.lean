/- slices.Reverse of rules. -/
import Derived.Test.YtidigjfnifmiiaaDoorLate
import Derived.Test.YtidigjfnifmiiaaDoorRep2
import Derived.Test.YtidigjfnifmiiaaDoorDfaB
import Derived.Deep.LoopGhost
namespace Go.Proofs.YtidigjfnifmiiaaDoor
open Go.RowKit

/-- a block holds n pairs -/
def Pairs (w : World) (g n : Nat) (E : TypeId) (sz : Nat) (p : Nat → Value × Value) : Prop := ∃ cur : Array Value, w.heap[g]? = some (.cells cur E (0, 0)) ∧ cur.size = sz ∧ ∀ k, k < n → cur[k * 2]? = some (p k).1 ∧ cur[k * 2 + 1]? = some (p k).2
section
variable {w w' : World} {g n sz : Nat} {E : TypeId} {p : Nat → Value × Value}
theorem Pairs.at_ (h : Pairs w g n E sz p) {k : Nat} (hk : k < n) : w.cell? ⟨g, k * 2, none⟩ = some (p k).1 ∧ w.cell? ⟨g, k * 2 + 1, none⟩ = some (p k).2 := by
  obtain ⟨cur, h1, _, h2⟩ := h
  rw [cell_of_row _ _ _ _ _ _ h1, cell_of_row _ _ _ _ _ _ h1]
  exact h2 k hk
theorem Pairs.fr (h : Pairs w g n E sz p) (k : Nat) : w.frozen? ⟨g, k, none⟩ = false := by
  obtain ⟨cur, h1, _⟩ := h
  simp [World.frozen?, h1]
theorem Pairs.set (h : Pairs w g n E sz p) {k : Nat} (hk : k < n) (a b : Value) : Pairs ((w.setCell ⟨g, k * 2, none⟩ a).setCell ⟨g, k * 2 + 1, none⟩ b) g n E sz (fun i => if i = k then (a, b) else p i) := by
  obtain ⟨cur, h1, h2, h3⟩ := h
  have hb := (h3 k hk).2
  have hlt := (Array.getElem?_eq_some_iff.1 hb).1
  refine ⟨(cur.setIfInBounds (k * 2) a).setIfInBounds (k * 2 + 1) b, heap_setCell_same _ g _ _ E b (heap_setCell_same w g _ cur E a h1), by simp [h2], fun i hi => ?_⟩
  obtain ⟨h4, h5⟩ := h3 i hi
  by_cases e : i = k
  · subst e
    dsimp only
    rw [if_pos rfl]
    constructor
    · rw [Array.getElem?_setIfInBounds, if_neg (by omega), Array.getElem?_setIfInBounds, if_pos rfl, if_pos (by omega)]
    · rw [Array.getElem?_setIfInBounds, if_pos rfl, if_pos (by simp; omega)]
  · dsimp only
    rw [if_neg e]
    constructor
    · rw [Array.getElem?_setIfInBounds, if_neg (by omega), Array.getElem?_setIfInBounds, if_neg (by omega)]
      exact h4
    · rw [Array.getElem?_setIfInBounds, if_neg (by omega), Array.getElem?_setIfInBounds, if_neg (by omega)]
      exact h5
theorem Pairs.congr {q : Nat → Value × Value} (h : Pairs w g n E sz p) (e : ∀ k, k < n → p k = q k) : Pairs w g n E sz q := by
  obtain ⟨cur, h1, h2, h3⟩ := h
  exact ⟨cur, h1, h2, fun k hk => by rw [← e k hk]; exact h3 k hk⟩
end
/-- i pairs from either end are swapped -/
def revP {α : Type} (n i : Nat) (p : Nat → α) (k : Nat) : α := if k < i ∨ n < k + i + 1 then p (n - 1 - k) else p k
theorem revP_step {α : Type} {n i : Nat} {p : Nat → α} (h : i + i + 1 < n) (k : Nat) (hk : k < n) : (if k = n - 1 - i then revP n i p i else if k = i then revP n i p (n - 1 - i) else revP n i p k) = revP n (i + 1) p k := by
  unfold revP
  by_cases h1 : k = n - 1 - i
  · rw [if_pos h1, if_neg (by omega), if_pos (by omega)]
    congr 1
    omega
  · rw [if_neg h1]
    by_cases h2 : k = i
    · rw [if_pos h2, if_neg (by omega), if_pos (by omega), h2]
    · rw [if_neg h2]
      by_cases h3 : k < i ∨ n < k + i + 1
      · rw [if_pos h3, if_pos (by omega)]
      · rw [if_neg h3, if_neg (by omega)]
theorem revP_end {α : Type} {n i : Nat} {p : Nat → α} (h : n ≤ i + i + 1) (k : Nat) (hk : k < n) : revP n i p k = p (n - 1 - k) := by
  unfold revP
  split
  · rfl
  · congr 1
    omega
/-- a rule's cells -/
abbrev RuleC := Int × Option Addr × Nat × Nat
def encR (x : RuleC) : Value × Value := (.int .i64 x.1, .slice x.2.1 x.2.2.1 x.2.2.2)
theorem setG {g : Nat} (w2 : World) (i : Nat) (u : Value) : w2.grownBy (w2.setCell ⟨g, i, none⟩ u) (some g) := ⟨rfl, rfl, rfl, by simp [World.setCell], fun q _ hq => Below.heap_setCell w2 ⟨g, i, none⟩ _ q (fun e => hq (by rw [e]))⟩
theorem grownDrew {w w' : World} {r : Option Nat} (h : w.grownBy w' r) : w.grownBy w'.drew r := ⟨h.os, h.tape, h.output, h.size, h.block⟩
theorem Pairs.drew {w : World} {g n sz : Nat} {E : TypeId} {p : Nat → Value × Value} (h : Pairs w g n E sz p) : Pairs w.drew g n E sz p := h
set_option linter.unusedSimpArgs false in
set_option maxRecDepth 100000 in
set_option maxHeartbeats 4000000 in
theorem reverseRule (w : World) (g n c sz : Nat) (p : Nat → RuleC) (hp : Pairs w g n 29 sz (fun k => encR (p k))) (h1 : 1 ≤ n) (hn : n ≤ 100) :
    Calls Tryd.prog 15 #[.slice (some ⟨g, 0, none⟩) n c] w fun e w' => e = .returned (.tuple #[]) ∧ Pairs w' g n 29 sz (fun k => encR (p (n - 1 - k))) ∧ w.grownBy w' (some g) := by
  have HP := Lib.hid hp
  clear hp
  go_enter Tryd.func15, Tryd.ntmps15
  --@1
  go_wp2_with fail
  go_loopg [2, 3] n (fun gk a b wr => ∃ (i : Nat) (jj : Int), i ≤ n ∧ jj = (n : Int) - 1 - (i : Int) ∧ gk = n - i ∧ a = .int .i64 i ∧ b = .int .i64 jj ∧ Pairs wr g n 29 sz (fun k => encR (revP n i p k)) ∧ w.grownBy wr (some g))
  case atStart => exact ⟨0, _, Nat.zero_le _, rfl, rfl, rfl, by go_num, HP.out.congr (fun k hk => by unfold revP; rw [if_neg (by omega)]), World.grownBy.refl w _⟩
  case round =>
    obtain ⟨i, jj, hi, hjj, hgk, rfl, rfl, hpr, hgr⟩ := hrel
    have HGK := Lib.hid hgk
    have HPR := Lib.hid hpr
    have HGR := Lib.hid hgr
    obtain ⟨w2, rfl⟩ : ∃ w2 : World, w2 = wr := ⟨_, rfl⟩
    clear hgk hpr hgr
    by_cases hlt : i + i + 1 < n
    · obtain ⟨j, hj⟩ : ∃ j : Nat, j = n - 1 - i := ⟨_, rfl⟩
      obtain rfl : jj = (j : Int) := by omega
      obtain ⟨x0, x1⟩ := HPR.out.at_ (k := i) (by omega)
      obtain ⟨y0, y1⟩ := HPR.out.at_ (k := j) (by omega)
      obtain ⟨X, hX⟩ : ∃ X, X = revP n i p i := ⟨_, rfl⟩
      obtain ⟨Y, hY⟩ : ∃ Y, Y = revP n i p j := ⟨_, rfl⟩
      rw [← hX] at x0 x1
      rw [← hY] at y0 y1
      obtain ⟨xn, xA, xm, xc⟩ := X
      obtain ⟨yn, yA, ym, yc⟩ := Y
      simp only [encR] at x0 x1 y0 y1
      have HK := Lib.hid (And.intro x0 (And.intro x1 (And.intro y0 y1)))
      have HF := Lib.hid (fun k => HPR.out.fr k)
      have HX := Lib.hid (And.intro hX hY)
      have HJ := Lib.hid hj
      have hijI : (i : Int) < (j : Int) := by omega
      have hjnI : (j : Int) < (n : Int) := by omega
      have hi0 : (0 : Int) ≤ (i : Int) := by omega
      have hj0 : (0 : Int) ≤ (j : Int) := by omega
      have hiI : (i : Int) < (n : Int) := by omega
      clear x0 x1 y0 y1 hX hY hj hjj
      --@2
      go_wp2_with fail
      refine wp_region_late (late := [13, 15]) (S1 := fun _ => True) (S := fun u => u.cell? ⟨g, i * 2, none⟩ = some (.int .i64 xn) ∧ u.cell? ⟨g, i * 2 + 1, none⟩ = some (.slice xA xm xc) ∧ u.cell? ⟨g, j * 2, none⟩ = some (.int .i64 yn) ∧ u.cell? ⟨g, j * 2 + 1, none⟩ = some (.slice yA ym yc)) (by kernel_rfl) ?_
      refine wpAnyL_pure (i := 0) rfl (by kernel_rfl) (fun _ _ _ h => h) (Or.inl ⟨by rfl, (fun u hu => by go_simp; try rfl)⟩) trivial (fun _ => HK.out) ?_
      simp only [Act.put, List.setIfInBounds_toArray, List.set_cons_zero, List.set_cons_succ, List.getElem_toArray, List.getElem_cons_zero, List.getElem_cons_succ]
      refine wpAnyL_pure (i := 1) rfl (by kernel_rfl) (fun _ _ _ h => h) (Or.inl ⟨by rfl, (fun u hu => by go_simp; try rfl)⟩) trivial (fun _ => HK.out) ?_
      simp only [Act.put, List.setIfInBounds_toArray, List.set_cons_zero, List.set_cons_succ, List.getElem_toArray, List.getElem_cons_zero, List.getElem_cons_succ]
      refine wpAnyL_pure (i := 2) rfl (by kernel_rfl) (fun _ _ _ h => h) (Or.inl ⟨by rfl, (fun u hu => by go_simp; try rfl)⟩) trivial (fun _ => HK.out) ?_
      simp only [Act.put, List.setIfInBounds_toArray, List.set_cons_zero, List.set_cons_succ, List.getElem_toArray, List.getElem_cons_zero, List.getElem_cons_succ]
      refine wpAnyL_pure (i := 3) rfl (by kernel_rfl) (fun _ _ _ h => h) (Or.inl ⟨by rfl, (fun u hu => by go_simp; try rfl)⟩) trivial (fun _ => HK.out) ?_
      simp only [Act.put, List.setIfInBounds_toArray, List.set_cons_zero, List.set_cons_succ, List.getElem_toArray, List.getElem_cons_zero, List.getElem_cons_succ]
      refine wpAnyL_pure (i := 4) rfl (by kernel_rfl) (fun _ _ _ h => h) (Or.inl ⟨by rfl, (fun u hu => by go_simp; try rfl)⟩) trivial (fun _ => HK.out) ?_
      simp only [Act.put, List.setIfInBounds_toArray, List.set_cons_zero, List.set_cons_succ, List.getElem_toArray, List.getElem_cons_zero, List.getElem_cons_succ]
      refine wpAnyL_pure (i := 5) rfl (by kernel_rfl) (fun _ _ _ h => h) (Or.inl ⟨by rfl, (fun u hu => by go_simp; try rfl)⟩) trivial (fun _ => HK.out) ?_
      simp only [Act.put, List.setIfInBounds_toArray, List.set_cons_zero, List.set_cons_succ, List.getElem_toArray, List.getElem_cons_zero, List.getElem_cons_succ]
      refine wpAnyL_pure (i := 6) rfl (by kernel_rfl) (fun _ _ _ h => h) (Or.inl ⟨by rfl, (fun u hu => by go_simp; try rfl)⟩) trivial (fun _ => HK.out) ?_
      simp only [Act.put, List.setIfInBounds_toArray, List.set_cons_zero, List.set_cons_succ, List.getElem_toArray, List.getElem_cons_zero, List.getElem_cons_succ]
      refine wpAnyL_take (i := 7) rfl (by kernel_rfl) (fun _ _ _ h => h) (Or.inl ⟨by rfl, (fun u hu => by obtain ⟨_, k0, k1, k2, k3⟩ := hu; go_simp; try rfl)⟩) trivial (fun _ => HK.out) ?_
      simp only [Act.put, List.setIfInBounds_toArray, List.set_cons_zero, List.set_cons_succ, List.getElem_toArray, List.getElem_cons_zero, List.getElem_cons_succ]
      refine wpAnyL_pure (i := 8) rfl (by kernel_rfl) (fun _ _ _ h => h) (Or.inl ⟨by rfl, (fun u hu => by go_simp; try rfl)⟩) trivial (fun _ => HK.out) ?_
      simp only [Act.put, List.setIfInBounds_toArray, List.set_cons_zero, List.set_cons_succ, List.getElem_toArray, List.getElem_cons_zero, List.getElem_cons_succ]
      refine wpAnyL_pure (i := 9) rfl (by kernel_rfl) (fun _ _ _ h => h) (Or.inl ⟨by rfl, (fun u hu => by go_simp; try rfl)⟩) trivial (fun _ => HK.out) ?_
      simp only [Act.put, List.setIfInBounds_toArray, List.set_cons_zero, List.set_cons_succ, List.getElem_toArray, List.getElem_cons_zero, List.getElem_cons_succ]
      refine wpAnyL_pure (i := 10) rfl (by kernel_rfl) (fun _ _ _ h => h) (Or.inl ⟨by rfl, (fun u hu => by go_simp; try rfl)⟩) trivial (fun _ => HK.out) ?_
      simp only [Act.put, List.setIfInBounds_toArray, List.set_cons_zero, List.set_cons_succ, List.getElem_toArray, List.getElem_cons_zero, List.getElem_cons_succ]
      refine wpAnyL_take (i := 11) rfl (by kernel_rfl) (fun _ _ _ h => h) (Or.inl ⟨by rfl, (fun u hu => by obtain ⟨_, k0, k1, k2, k3⟩ := hu; go_simp; try rfl)⟩) trivial (fun _ => HK.out) ?_
      simp only [Act.put, List.setIfInBounds_toArray, List.set_cons_zero, List.set_cons_succ, List.getElem_toArray, List.getElem_cons_zero, List.getElem_cons_succ]
      refine wpAnyL_pure (i := 12) rfl (by kernel_rfl) (fun _ _ _ h => h) (Or.inl ⟨by rfl, (fun u hu => by go_simp; try rfl)⟩) trivial (fun _ => HK.out) ?_
      simp only [Act.put, List.setIfInBounds_toArray, List.set_cons_zero, List.set_cons_succ, List.getElem_toArray, List.getElem_cons_zero, List.getElem_cons_succ]
      refine wpAnyL_ready (rs := [13]) (by kernel_rfl) (by simp) ?_
      refine AllL.cons rfl (fun K hK => ?_) ?_
      · obtain ⟨c0, c1, c2, c3⟩ := HK.out
        have f0 := HF.out (i * 2)
        have f1 := HF.out (i * 2 + 1)
        have f2 := HF.out (j * 2)
        have f3 := HF.out (j * 2 + 1)
        have l1 := cell_lt c0
        have n1 : i * 2 ≠ j * 2 := by omega
        have n2 : i * 2 + 1 ≠ j * 2 := by omega
        have n3 : i * 2 ≠ j * 2 + 1 := by omega
        have n4 : i * 2 + 1 ≠ j * 2 + 1 := by omega
        go_simp
        refine hK.out _ _ trivial (fun h => absurd (h 13 (by simp)) (by decide)) ?_
        clear hK K
        refine wpAnyL_pure (i := 14) rfl (by kernel_rfl) (fun _ _ _ h => h) (Or.inl ⟨by rfl, (fun u hu => by go_simp; try rfl)⟩) trivial (fun h => absurd (h 13 (by simp)) (by decide)) ?_
        simp only [Act.put, List.setIfInBounds_toArray, List.set_cons_zero, List.set_cons_succ, List.getElem_toArray, List.getElem_cons_zero, List.getElem_cons_succ]
        refine wpAnyL_ready (rs := [15]) (by kernel_rfl) (by simp) ?_
        refine AllL.cons rfl (fun K hK => ?_) ?_
        · go_simp
          clear c0 c1 c2 c3 f0 f1 f2 f3 n1 n2 n3 n4
          refine hK.out _ _ trivial (fun h => absurd (h 13 (by simp)) (by decide)) ?_
          clear hK K
          refine wpAnyL_done (by kernel_rfl) ?_ _
          --@5
          have HST := Lib.hid ((HPR.out.set (k := i) (by omega) (.int .i64 yn) (.slice yA ym yc)).set (k := j) (by omega) (.int .i64 xn) (.slice xA xm xc))
          have HGS := Lib.hid ((((HGR.out.trans (setG _ (i * 2) (.int .i64 yn))).trans (setG _ (i * 2 + 1) (.slice yA ym yc))).trans (setG _ (j * 2) (.int .i64 xn))).trans (setG _ (j * 2 + 1) (.slice xA xm xc)))
          go_wp2_with fail
          go_roundg (n - (i + 1))
          case measure => rw [HGK.out]; omega
          case rel =>
            refine ⟨i + 1, _, by omega, rfl, rfl, by go_num, by have := HJ.out; go_num, (HST.out.congr fun k hk => ?_).drew, grownDrew HGS.out⟩
            obtain ⟨e1, e2⟩ := HX.out
            rw [← revP_step hlt k hk, ← HJ.out, ← e1, ← e2]
            by_cases h1 : k = j
            · rw [if_pos h1, if_pos h1]; rfl
            · rw [if_neg h1, if_neg h1]
              by_cases h2 : k = i
              · rw [if_pos h2, if_pos h2]; rfl
              · rw [if_neg h2, if_neg h2]
        exact AllL.nil
      exact AllL.nil
    · --@9
      have hd : decide ((i : Int) < jj) = false := by simp; omega
      go_wp2_with fail
      go_end0
      exact ⟨rfl, HPR.out.congr (fun k hk => by rw [revP_end (by omega) k hk]), HGR.out⟩
end Go.Proofs.YtidigjfnifmiiaaDoor
