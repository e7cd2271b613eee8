/- slices.Reverse, Clone, EqualFunc at words. -/
import Derived.Test.YtgaahpddlohjoaaSortW
import Derived.Test.YtgaahpddlohjoaaSlRevI
import Derived.Test.YtgaahpddlohjoaaSlEqInt
import Derived.Test.YtgaahpddlohjoaaDfaB
import Derived.Test.YtgaahpddlohjoaaCloW
import Derived.Test.YtgaahpddlohjoaaMergeOf
import Derived.Deep.LoopGhost
namespace Go.Proofs.Ytgaahpddlohjoaa
open Go.RowKit

/-- a slice's value -/
abbrev SlT := Option Addr × Nat × Nat
abbrev encT (t : SlT) : Value := .slice t.1 t.2.1 t.2.2
set_option linter.unusedSimpArgs false in
set_option maxRecDepth 100000 in
set_option maxHeartbeats 4000000 in
theorem reverseWF (w : World) (g n c sz : Nat) (p : Nat → SlT) (hp : Fst w g n 22 sz (fun k => encT (p k))) (hn : n ≤ 1000000) :
    Calls Try.prog 37 #[.slice (some ⟨g, 0, none⟩) n c] w fun e w' => e = .returned (.tuple #[]) ∧ Fst w' g n 22 sz (fun k => encT (p (n - 1 - k))) ∧ w.grownBy w' (some g) := by
  have HP := Lib.hid hp
  clear hp
  go_enter Try.func37, Try.ntmps37
  go_wp2_with fail
  go_loopg [2, 3] n (fun gk a b wr => ∃ (i : Nat) (jj : Int), i ≤ n ∧ jj = (n : Int) - 1 - (i : Int) ∧ gk = n - i ∧ a = .int .i64 i ∧ b = .int .i64 jj ∧ Fst wr g n 22 sz (fun k => encT (revQ n i p k)) ∧ w.grownBy wr (some g))
  case atStart => exact ⟨0, _, Nat.zero_le _, rfl, rfl, rfl, by go_num, HP.out.congr (fun k hk => by unfold revQ; rw [if_neg (by omega)]), World.grownBy.refl w _⟩
  case round =>
    obtain ⟨i, jj, hi, hjj, hgk, rfl, rfl, hpr, hgr⟩ := hrel
    have HGK := Lib.hid hgk
    have HPR := Lib.hid hpr
    have HGR := Lib.hid hgr
    obtain ⟨w2, rfl⟩ : ∃ w2 : World, w2 = wr := ⟨_, rfl⟩
    clear hgk hpr hgr
    by_cases hlt : i + i + 1 < n
    · obtain ⟨j, hj⟩ : ∃ j : Nat, j = n - 1 - i := ⟨_, rfl⟩
      obtain rfl : jj = (j : Int) := by omega
      have x0 := HPR.out.at_ (k := i) (by omega)
      have y0 := HPR.out.at_ (k := j) (by omega)
      obtain ⟨X, hX⟩ : ∃ X, X = revQ n i p i := ⟨_, rfl⟩
      obtain ⟨Y, hY⟩ : ∃ Y, Y = revQ n i p j := ⟨_, rfl⟩
      rw [← hX] at x0
      rw [← hY] at y0
      have HK := Lib.hid (And.intro x0 y0)
      have HF := Lib.hid (fun k => HPR.out.fr k)
      have HX := Lib.hid (And.intro hX hY)
      have HJ := Lib.hid hj
      have hijI : (i : Int) < (j : Int) := by omega
      have hjnI : (j : Int) < (n : Int) := by omega
      have hi0 : (0 : Int) ≤ (i : Int) := by omega
      have hj0 : (0 : Int) ≤ (j : Int) := by omega
      have hiI : (i : Int) < (n : Int) := by omega
      clear x0 y0 hX hY hj hjj
      go_wp2_with fail
      refine wp_region_late (late := [13, 15]) (S1 := fun _ => True) (S := fun u => u.cell? ⟨g, i, none⟩ = some (.slice X.1 X.2.1 X.2.2) ∧ u.cell? ⟨g, j, none⟩ = some (.slice Y.1 Y.2.1 Y.2.2)) (by kernel_rfl) ?_
      refine wpAnyL_pure (i := 0) rfl (by kernel_rfl) (fun _ _ _ h => h) (Or.inl ⟨by rfl, (fun u hu => by go_simp; try rfl)⟩) trivial (fun _ => HK.out) ?_
      simp only [Act.put, List.setIfInBounds_toArray, List.set_cons_zero, List.set_cons_succ, List.getElem_toArray, List.getElem_cons_zero, List.getElem_cons_succ]
      refine wpAnyL_pure (i := 1) rfl (by kernel_rfl) (fun _ _ _ h => h) (Or.inl ⟨by rfl, (fun u hu => by go_simp; try rfl)⟩) trivial (fun _ => HK.out) ?_
      simp only [Act.put, List.setIfInBounds_toArray, List.set_cons_zero, List.set_cons_succ, List.getElem_toArray, List.getElem_cons_zero, List.getElem_cons_succ]
      refine wpAnyL_pure (i := 2) rfl (by kernel_rfl) (fun _ _ _ h => h) (Or.inl ⟨by rfl, (fun u hu => by go_simp; try rfl)⟩) trivial (fun _ => HK.out) ?_
      simp only [Act.put, List.setIfInBounds_toArray, List.set_cons_zero, List.set_cons_succ, List.getElem_toArray, List.getElem_cons_zero, List.getElem_cons_succ]
      refine wpAnyL_pure (i := 3) rfl (by kernel_rfl) (fun _ _ _ h => h) (Or.inl ⟨by rfl, (fun u hu => by go_simp; try rfl)⟩) trivial (fun _ => HK.out) ?_
      simp only [Act.put, List.setIfInBounds_toArray, List.set_cons_zero, List.set_cons_succ, List.getElem_toArray, List.getElem_cons_zero, List.getElem_cons_succ]
      refine wpAnyL_pure (i := 4) rfl (by kernel_rfl) (fun _ _ _ h => h) (Or.inl ⟨by rfl, (fun u hu => by go_simp; try rfl)⟩) trivial (fun _ => HK.out) ?_
      simp only [Act.put, List.setIfInBounds_toArray, List.set_cons_zero, List.set_cons_succ, List.getElem_toArray, List.getElem_cons_zero, List.getElem_cons_succ]
      refine wpAnyL_pure (i := 5) rfl (by kernel_rfl) (fun _ _ _ h => h) (Or.inl ⟨by rfl, (fun u hu => by go_simp; try rfl)⟩) trivial (fun _ => HK.out) ?_
      simp only [Act.put, List.setIfInBounds_toArray, List.set_cons_zero, List.set_cons_succ, List.getElem_toArray, List.getElem_cons_zero, List.getElem_cons_succ]
      refine wpAnyL_pure (i := 6) rfl (by kernel_rfl) (fun _ _ _ h => h) (Or.inl ⟨by rfl, (fun u hu => by go_simp; try rfl)⟩) trivial (fun _ => HK.out) ?_
      simp only [Act.put, List.setIfInBounds_toArray, List.set_cons_zero, List.set_cons_succ, List.getElem_toArray, List.getElem_cons_zero, List.getElem_cons_succ]
      refine wpAnyL_take (i := 7) rfl (by kernel_rfl) (fun _ _ _ h => h) (Or.inl ⟨by rfl, (fun u hu => by obtain ⟨_, k0, k1⟩ := hu; go_simp; try rfl)⟩) trivial (fun _ => HK.out) ?_
      simp only [Act.put, List.setIfInBounds_toArray, List.set_cons_zero, List.set_cons_succ, List.getElem_toArray, List.getElem_cons_zero, List.getElem_cons_succ]
      refine wpAnyL_pure (i := 8) rfl (by kernel_rfl) (fun _ _ _ h => h) (Or.inl ⟨by rfl, (fun u hu => by go_simp; try rfl)⟩) trivial (fun _ => HK.out) ?_
      simp only [Act.put, List.setIfInBounds_toArray, List.set_cons_zero, List.set_cons_succ, List.getElem_toArray, List.getElem_cons_zero, List.getElem_cons_succ]
      refine wpAnyL_pure (i := 9) rfl (by kernel_rfl) (fun _ _ _ h => h) (Or.inl ⟨by rfl, (fun u hu => by go_simp; try rfl)⟩) trivial (fun _ => HK.out) ?_
      simp only [Act.put, List.setIfInBounds_toArray, List.set_cons_zero, List.set_cons_succ, List.getElem_toArray, List.getElem_cons_zero, List.getElem_cons_succ]
      refine wpAnyL_pure (i := 10) rfl (by kernel_rfl) (fun _ _ _ h => h) (Or.inl ⟨by rfl, (fun u hu => by go_simp; try rfl)⟩) trivial (fun _ => HK.out) ?_
      simp only [Act.put, List.setIfInBounds_toArray, List.set_cons_zero, List.set_cons_succ, List.getElem_toArray, List.getElem_cons_zero, List.getElem_cons_succ]
      refine wpAnyL_take (i := 11) rfl (by kernel_rfl) (fun _ _ _ h => h) (Or.inl ⟨by rfl, (fun u hu => by obtain ⟨_, k0, k1⟩ := hu; go_simp; try rfl)⟩) trivial (fun _ => HK.out) ?_
      simp only [Act.put, List.setIfInBounds_toArray, List.set_cons_zero, List.set_cons_succ, List.getElem_toArray, List.getElem_cons_zero, List.getElem_cons_succ]
      refine wpAnyL_pure (i := 12) rfl (by kernel_rfl) (fun _ _ _ h => h) (Or.inl ⟨by rfl, (fun u hu => by go_simp; try rfl)⟩) trivial (fun _ => HK.out) ?_
      simp only [Act.put, List.setIfInBounds_toArray, List.set_cons_zero, List.set_cons_succ, List.getElem_toArray, List.getElem_cons_zero, List.getElem_cons_succ]
      refine wpAnyL_ready (rs := [13]) (by kernel_rfl) (by simp) ?_
      refine AllL.cons rfl (fun K hK => ?_) ?_
      · obtain ⟨c0, c1⟩ := HK.out
        have f0 := HF.out i
        have f1 := HF.out j
        have l1 := cell_lt c0
        have n1 : i ≠ j := by omega
        go_simp
        refine hK.out _ _ trivial (fun h => absurd (h 13 (by simp)) (by decide)) ?_
        clear hK K
        refine wpAnyL_pure (i := 14) rfl (by kernel_rfl) (fun _ _ _ h => h) (Or.inl ⟨by rfl, (fun u hu => by go_simp; try rfl)⟩) trivial (fun h => absurd (h 13 (by simp)) (by decide)) ?_
        simp only [Act.put, List.setIfInBounds_toArray, List.set_cons_zero, List.set_cons_succ, List.getElem_toArray, List.getElem_cons_zero, List.getElem_cons_succ]
        refine wpAnyL_ready (rs := [15]) (by kernel_rfl) (by simp) ?_
        refine AllL.cons rfl (fun K hK => ?_) ?_
        · go_simp
          clear c0 c1 f0 f1 n1
          refine hK.out _ _ trivial (fun h => absurd (h 13 (by simp)) (by decide)) ?_
          clear hK K
          refine wpAnyL_done (by kernel_rfl) ?_ _
          have HST := Lib.hid ((HPR.out.set (k := i) (by omega) (.slice Y.1 Y.2.1 Y.2.2)).set (k := j) (by omega) (.slice X.1 X.2.1 X.2.2))
          have HGS := Lib.hid ((HGR.out.trans (setGr _ i (.slice Y.1 Y.2.1 Y.2.2))).trans (setGr _ j (.slice X.1 X.2.1 X.2.2)))
          go_wp2_with fail
          go_roundg (n - (i + 1))
          case measure => rw [HGK.out]; omega
          case rel =>
            refine ⟨i + 1, _, by omega, rfl, rfl, by go_num, by have := HJ.out; go_num, (HST.out.congr fun k hk => ?_).drew, grownDr HGS.out⟩
            obtain ⟨e1, e2⟩ := HX.out
            rw [← revQ_step hlt k hk, ← HJ.out, ← e1, ← e2]
            by_cases h1 : k = j
            · rw [if_pos h1, if_pos h1]
            · rw [if_neg h1, if_neg h1]
              by_cases h2 : k = i
              · rw [if_pos h2, if_pos h2]
              · rw [if_neg h2, if_neg h2]
        exact AllL.nil
      exact AllL.nil
    · have hd : decide ((i : Int) < jj) = false := by simp; omega
      go_wp2_with fail
      go_end0
      exact ⟨rfl, HPR.out.congr (fun k hk => by rw [revQ_end (by omega) k hk]), HGR.out⟩
/-- words of the call's own, turned round -/
theorem reverseW (w : World) (S : Nat → Prop) (base : Nat) (A : Option Addr) (n c : Nat) (xs : List Value) (L : List (List Int)) (hnl : L.length = n) (ho : Own w base 22 1 (.slice A n c) n xs) (hcells : Cells RIV w S xs L) (hS : ∀ b, S b → rowOf (.slice A n c) ≠ some b) (hL : ∀ l ∈ L, l.length ≤ 1000) (hn : n ≤ 1000000) :
    Calls Try.prog 37 #[.slice A n c] w fun e w' => e = .returned (.tuple #[]) ∧ (∃ xs', Own w' base 22 1 (.slice A n c) n xs' ∧ Cells RIV w' S xs' L.reverse) ∧ w.grownBy w' (rowOf (.slice A n c)) := by
  rcases Nat.eq_zero_or_pos n with h0 | h0
  · subst h0
    have hl : L = [] := List.eq_nil_of_length_eq_zero hnl
    subst hl
    have hx : xs = [] := hcells
    subst hx
    have HO := Lib.hid ho
    clear ho hcells hS hL hn
    go_enter Try.func37, Try.ntmps37
    go_wp2_with fail
    go_loop [2, 3] (fun a b => a = .int .i64 0 ∧ b = .int .i64 (-1)) (fun _ _ => 0)
    case atStart => exact ⟨rfl, rfl⟩
    case round =>
      obtain ⟨rfl, rfl⟩ := hrel
      go_wp2_with fail
      go_end0
      exact ⟨rfl, ⟨[], HO.out, rfl⟩, World.grownBy.refl w _⟩
  · obtain ⟨g, cur, rfl, hb, hh, hnc, hrow, hcur⟩ := ho.blkS h0
    obtain ⟨ds, rfl, hLd⟩ := wv_of_cells hcells hL
    have hlen : ds.length = n := by
      have := congrArg List.length hLd
      rw [List.length_map] at this
      omega
    have hcap := ho
    rcases ho with ho | ⟨A', hz, hz2, _⟩
    · rcases ho.2 with ⟨hz, _⟩ | ⟨g', cap, cur2, e, hb2, hh2, hnc2, hm2, hs2, ht2⟩
      · cases hz
      · injection e with e1 _ e3
        injection e1 with e1
        injection e1 with e1
        subst e1 e3
        have hp : Fst w g n 22 cur2.size (fun k => encT ((ds.getD k default).A, (ds.getD k default).n, (ds.getD k default).c)) := ⟨cur2, hh2, rfl, fun k hk => by
          have h1 : (ds.map WV.enc)[k]? = some (ds[k]'(by omega)).enc := by rw [List.getElem?_map, List.getElem?_eq_getElem (by omega)]; rfl
          have hcc : cur2 = cur := by
            rw [hh] at hh2
            injection hh2 with hh2
            injection hh2 with hh2
            exact hh2.symm
          rw [hcc, hcur k _ h1]
          simp only [List.getD_eq_getElem?_getD, List.getElem?_eq_getElem (show k < ds.length by omega), Option.getD_some]
          rfl⟩
        refine (reverseWF w g n c cur2.size (fun k => ((ds.getD k default).A, (ds.getD k default).n, (ds.getD k default).c)) hp hn).mono ?_
        rintro e w' ⟨rfl, ⟨cur', k1, k2, k3⟩, hg⟩
        have hkeep : Kept S w w' := Kept.grown hg fun b hb' e => hS b hb' (by rw [hrow, e])
        refine ⟨rfl, ⟨ds.reverse.map WV.enc, ?_, ?_⟩, by rw [hrow]; exact hg⟩
        · refine .inl ⟨by rw [List.length_map, List.length_reverse, hlen]; exact (Nat.mul_one n).symm, .inr ⟨g, c, cur', rfl, hb, k1, hnc, hm2, ?_, ?_⟩⟩
          · rw [k2]; exact hs2
          · apply List.ext_getElem?
            intro k
            rw [List.getElem?_take]
            by_cases hk : k < n
            · rw [if_pos (by show k < n * 1; omega), Array.getElem?_toList, k3 k hk, List.getElem?_map, List.getElem?_reverse (by omega)]
              simp only [List.getD_eq_getElem?_getD, List.getElem?_eq_getElem (show n - 1 - k < ds.length by omega), Option.getD_some, hlen, Option.map_some]
              rfl
            · rw [if_neg (by show ¬ k < n * 1; omega), List.getElem?_eq_none (by simp; omega)]
        · have h1 := cells_of_wv hkeep ds.reverse
          rw [List.map_reverse (f := WV.l), ← hLd] at h1
          exact h1
    · rw [hz2] at h0
      omega
theorem entersEqI : ∀ (args : Array Value) (u : World), (callFunc 19 args).run Try.prog u = .ok (.enter 19 args) u := enters_of Try.func19 (by kernel_rfl) rfl
set_option maxHeartbeats 1000000 in
/-- slices.EqualFunc(x, y, slices.Equal) where both read as the same rows -/
theorem equalFnW (w : World) (S1 S2 : Nat → Prop) (A1 A2 : Option Addr) (n c1 c2 : Nat) (l : List (List Int)) (h1 : Sl RI w S1 A1 n c1 l) (h2 : Sl RI w S2 A2 n c2 l) (hl : ∀ r ∈ l, r.length ≤ 1000) (hn : n ≤ 1000000) :
    Calls Try.prog 39 #[.slice A1 n c1, .slice A2 n c2, .func (.func 19) #[] #[]] w fun e w' => e = .returned (.bool true) ∧ ∃ d, w' = w.drewN d := by
  have H1 := Lib.hid h1
  have H2 := Lib.hid h2
  have HL := Lib.hid hl
  have eg := entersEqI
  clear h1 h2 hl
  have i0 : ((n : Int) != (n : Int)) = false := by simp
  go_enter Try.func39, Try.ntmps39
  go_wp2_with fail
  go_loopg [7, 8, 9, 17] n (fun gk _ _ _ v17 wr => ∃ (k d : Nat), k ≤ n ∧ gk = n - k ∧ v17 = .int .i64 (k : Int) ∧ wr = w.drewN d)
  case atStart => exact ⟨0, 0, Nat.zero_le _, rfl, rfl, rfl⟩
  case round =>
    obtain ⟨k, d, hk, hgk, rfl, hwr⟩ := hrel
    obtain ⟨w2, rfl⟩ : ∃ w2 : World, w2 = wr := ⟨_, rfl⟩
    have HGK := Lib.hid hgk
    have HWR := Lib.hid hwr
    clear hgk hwr
    by_cases hlt : k < n
    · have g1 := H1.out.drewN d
      have g2 := H2.out.drewN d
      rw [← HWR.out] at g1 g2
      obtain ⟨b1, o1, B1, m1, e1, x1, rfl, _, _, hc1, hx1, hs1⟩ := word_at g1 hlt
      obtain ⟨b2, o2, B2, m2, e2, x2, rfl, _, _, hc2, hx2, hs2⟩ := word_at g2 hlt
      have hxx : x2 = x1 := by
        rw [hx1] at hx2
        injection hx2 with hx2
        exact hx2.symm
      subst hxx
      have hm := HL.out _ (List.mem_of_getElem? hx1)
      have HS1 := Lib.hid hs1
      have HS2 := Lib.hid hs2
      have hm1 : m1 ≤ 1000 := by rw [hs1.len]; exact hm
      have hm2 : m2 ≤ 1000 := by rw [hs2.len]; exact hm
      have hkI : (k : Int) < (n : Int) := by omega
      clear hs1 hs2 hx1 hx2 hm g1 g2
      go_wp2_with fail
      refine (equalInt B1 B2 m1 e1 m2 e2 _ _ x2 x2 w2 HS1.out.ints HS2.out.ints (by omega) (by omega)).mono ?_
      rintro e _ ⟨rfl, dd, rfl⟩
      rw [show (x2 == x2) = true by simp]
      have HW3 := Lib.hid (show w2.drewN dd = w.drewN (d + dd) by rw [HWR.out, World.drewN_drewN])
      clear hc1 hc2
      go_wp2_with fail
      go_roundg (n - (k + 1))
      case measure => rw [HGK.out]; omega
      case rel => exact ⟨k + 1, d + dd, by omega, rfl, by go_num, HW3.out⟩
    · obtain rfl : k = n := by omega
      have hkI : ¬ (k : Int) < (k : Int) := by omega
      go_wp2_with fail
      go_ret
      exact ⟨rfl, d, HWR.out⟩
end Go.Proofs.Ytgaahpddlohjoaa
