/- rank.count, rank.Count, rank.Tree. -/
import Derived.Test.YthanhegomgbgbaaRankT
namespace Go.Proofs.Ythanhegomgbgbaa
open Go.RowKit

theorem Cok.ord2 {w : World} {L : Lay} {g : GramD} {n : Nat} (h : Cok w L g n) : L.lo ≤ L.l3 := by
  obtain ⟨K, hc, _⟩ := h
  have h1 := hc.o1
  have h2 := hc.o2
  omega
/-- what rank.count returns where there are K trees -/
def CntOk (g : GramD) (n base : Nat) (K : Int) (e : Ending) (w' : World) : Prop :=
  K = -1 ∧ e = .returned (.tuple #[.pointer none, .int .i64 0, .int .i64 9]) ∨ 1000000000 ≤ K ∧ e = .returned (.tuple #[.pointer none, .int .i64 0, .int .i64 2]) ∨
    ∃ L : Lay, (0 ≤ K ∧ K < 1000000000) ∧ e = .returned (.tuple #[.pointer (some ⟨L.Bc, 0, none⟩), .int .i64 K, .int .i64 0]) ∧ Cok w' L g n ∧ base ≤ L.lo
/-- what rank.Tree returns where there are K trees -/
def TreeOk (R : List RuleD) (st n base : Nat) (K i : Int) (e : Ending) (w' : World) : Prop :=
  ¬ (0 ≤ i ∧ i < K) ∧ e = .returned (.tuple #[.agg #[.int .i64 0, .int .i64 0, .slice none 0 0], .int .i64 5]) ∨
    (0 ≤ i ∧ i < K) ∧ ∃ (t : TreeD) (A : Option Addr) (m c : Nat), e = .returned (.tuple #[.agg #[.int .i64 t.rule, .int .i64 t.term, .slice A m c], .int .i64 0]) ∧ Sl RTree w' (fun b => base ≤ b) A m c t.kids ∧ Unr R (false, (st : Int)) n i.toNat t
set_option linter.unusedSimpArgs false in
set_option maxRecDepth 100000 in
set_option maxHeartbeats 4000000 in
theorem rankCnt (w : World) (S : Nat → Prop) (AR : Option Addr) (nR cR : Nat) (g : GramD) (hg : Sl RRule w S AR nR cR g.2.2.2) (hv : GValid g) (n : Nat) (hn : n ≤ 24) (st : Nat) (hst : g.2.2.1 = (st : Int)) :
    Calls Try.prog 57 #[.agg #[.int .i64 g.1, .int .i64 g.2.1, .int .i64 g.2.2.1, .slice AR nR cR], .int .i64 n] w fun e w' =>
      CntOk g n w.heap.size (treesN g.2.2.2 st n) e w' ∧ Below w.heap.size w w' := by
  have HG := Lib.hid hg
  have HV := Lib.hid hv
  have HST := Lib.hid hst
  have hstN : st < nonsOf g := by have := hv.st; unfold nonsOf; omega
  have hrg := treesN_range (rulesN_of hv) (a := st) (k := n) hstN
  obtain ⟨K, hK⟩ : ∃ K, K = treesN g.2.2.2 st n := ⟨_, rfl⟩
  rw [← hK] at hrg ⊢
  have HKE := Lib.hid hK
  clear hK
  have HRN := Lib.hid (rulesN_of hv)
  have HRL := Lib.hid (show g.2.2.2.length ≤ 1000 by have := hv.rl; omega)
  clear hg hv hst
  have hall : ∀ u : World, Below (w.heap.size + 1) (w.alloc (.cells #[.int .i64 g.1, .int .i64 g.2.1, .int .i64 g.2.2.1, .slice AR nR cR] 25)) u → u.cell? ⟨w.heap.size, 0, none⟩ = some (.int .i64 g.1) ∧ u.cell? ⟨w.heap.size, 1, none⟩ = some (.int .i64 g.2.1) ∧ u.cell? ⟨w.heap.size, 2, none⟩ = some (.int .i64 g.2.2.1) ∧ u.cell? ⟨w.heap.size, 3, none⟩ = some (.slice AR nR cR) := by
    intro u hu
    refine ⟨(hu.cell (by simp)).trans ?_, (hu.cell (by simp)).trans ?_, (hu.cell (by simp)).trans ?_, (hu.cell (by simp)).trans ?_⟩ <;> simp
  have HALL := Lib.hid hall
  clear hall
  go_enter Try.func57, Try.ntmps57
  go_wp2_with fail
  refine (censusTotal _ S AR nR cR g (HG.out.alloc _) HV.out n hn).mono ?_
  rintro e w1 ⟨rfl, hb1⟩
  simp only [World.size_alloc] at hb1
  obtain ⟨d0, d1, d2, d3⟩ := HALL.out _ hb1
  have l1 := cell_lt d0
  have HB1 := Lib.hid hb1
  have HG1 := Lib.hid ((HG.out.alloc (.cells #[.int .i64 g.1, .int .i64 g.2.1, .int .i64 g.2.2.1, .slice AR nR cR] 25)).below (hb1.mono (by simp)))
  have hs1 := hb1.size
  simp only [World.size_alloc] at hs1
  clear hb1 HG
  --@1
  go_wp2_with fail
  clear d0 d1 d2 d3
  refine (censusMake _ S AR nR cR g HG1.out HV.out n (by omega)).mono ?_
  rintro e w2 ⟨L, rfl, hctr, hlo, hb2⟩
  have hb12 : Below (w.heap.size + 1) (w.alloc (.cells #[.int .i64 g.1, .int .i64 g.2.1, .int .i64 g.2.2.1, .slice AR nR cR] 25)) w2 := HB1.out.trans (hb2.mono (by omega))
  obtain ⟨_, _, e2, _⟩ := HALL.out _ hb12
  rw [HST.out] at e2
  have l2 := cell_lt e2
  have HB2 := Lib.hid (((Below.refl w.heap.size w).alloc (Nat.le_refl _) (.cells #[.int .i64 g.1, .int .i64 g.2.1, .int .i64 g.2.2.1, .slice AR nR cR] 25)).trans (hb12.mono (by omega)))
  have hLw := hctr.lt
  have o1 := hctr.o1
  have o2 := hctr.o2
  have o3 := hctr.o3
  have o4 := hctr.o4
  have HC := Lib.hid (show Cok w2 L g n from ⟨_, hctr, fun _ _ _ _ => Or.inl (by omega)⟩)
  clear hb12 hb2 hctr HB1 HG1 HALL HV
  --@2
  go_wp2_with fail
  refine (gramN _ _).mono ?_
  rintro e w4 ⟨rfl, hb4⟩
  have HB4 := Lib.hid hb4
  have hs4 := hb4.size
  clear hb4 e2
  --@3
  go_wp2_with fail
  refine (ctrOf (by omega) HRN.out HRL.out st n hstN (Nat.le_refl _) _ (HC.out.below HB4.out)).mono ?_
  rintro e w5 ⟨rfl, hc5, hA5⟩
  have HC5 := Lib.hid hc5
  have HB5 := Lib.hid (HB2.out.trans ((HB4.out.mono HB2.out.size).trans (hA5.below (by omega) (by omega))))
  dsimp only
  rw [← HKE.out]
  clear hc5 hA5 HC HB4 HB2 HKE
  by_cases hk1 : K = -1
  · subst hk1
    --@4
    go_wp2_with fail
    go_ret3
    exact ⟨Or.inl ⟨rfl, rfl⟩, HB5.out⟩
  · by_cases hk2 : 1000000000 ≤ K
    · go_wp2_with fail
      go_ret3
      exact ⟨Or.inr (Or.inl ⟨hk2, rfl⟩), HB5.out⟩
    · go_wp2_with fail
      go_ret3
      exact ⟨Or.inr (Or.inr ⟨L, ⟨by omega, by omega⟩, rfl, HC5.out, by omega⟩), HB5.out⟩
/-- the number of trees that rank.Count tells, and its error -/
noncomputable def rcK (R : List RuleD) (st n : Nat) : Int := if treesN R st n = -1 ∨ 1000000000 ≤ treesN R st n then 0 else treesN R st n
noncomputable def rcE (R : List RuleD) (st n : Nat) : Int := if treesN R st n = -1 then 9 else if 1000000000 ≤ treesN R st n then 2 else 0
set_option linter.unusedSimpArgs false in
set_option maxRecDepth 100000 in
set_option maxHeartbeats 4000000 in
theorem rankCount (w : World) (S : Nat → Prop) (AR : Option Addr) (nR cR : Nat) (g : GramD) (hg : Sl RRule w S AR nR cR g.2.2.2) (hv : GValid g) (n : Nat) (hn : n ≤ 24) (st : Nat) (hst : g.2.2.1 = (st : Int)) :
    Calls Try.prog 15 #[.agg #[.int .i64 g.1, .int .i64 g.2.1, .int .i64 g.2.2.1, .slice AR nR cR], .int .i64 n] w fun e w' => e = .returned (.tuple #[.int .i64 (rcK g.2.2.2 st n), .int .i64 (rcE g.2.2.2 st n)]) ∧ Below w.heap.size w w' := by
  have HG := Lib.hid hg
  have HV := Lib.hid hv
  have HST := Lib.hid hst
  obtain ⟨rk, hrk⟩ : ∃ rk, rk = rcK g.2.2.2 st n := ⟨_, rfl⟩
  obtain ⟨re, hre⟩ : ∃ re, re = rcE g.2.2.2 st n := ⟨_, rfl⟩
  rw [← hrk, ← hre]
  have HRK := Lib.hid hrk
  have HRE := Lib.hid hre
  clear hg hv hst hrk hre
  go_enter Try.func15, Try.ntmps15
  go_wp2_with fail
  refine (rankCnt _ S AR nR cR g (HG.out.alloc _) HV.out n hn st HST.out).mono ?_
  rintro e w1 ⟨hcase, hb1⟩
  have HB1 := Lib.hid (((Below.refl w.heap.size w).alloc (Nat.le_refl _) (.cells #[.int .i64 g.1, .int .i64 g.2.1, .int .i64 g.2.2.1, .slice AR nR cR] 25)).trans (hb1.mono (by simp)))
  clear hb1
  rcases hcase with ⟨h1, rfl⟩ | ⟨h1, rfl⟩ | ⟨L, h1, rfl, _, _⟩
  · have e1 : rk = 0 := by rw [HRK.out]; unfold rcK; rw [if_pos (Or.inl h1)]
    have e2 : re = 9 := by rw [HRE.out]; unfold rcE; rw [if_pos h1]
    subst e1
    subst e2
    clear h1 HRK HRE
    go_wp2_with fail
    go_ret2
    exact ⟨rfl, HB1.out⟩
  · have e1 : rk = 0 := by rw [HRK.out]; unfold rcK; rw [if_pos (Or.inr h1)]
    have e2 : re = 2 := by rw [HRE.out]; unfold rcE; rw [if_neg (by omega), if_pos h1]
    subst e1
    subst e2
    clear h1 HRK HRE
    go_wp2_with fail
    go_ret2
    exact ⟨rfl, HB1.out⟩
  · have e1 : rk = treesN g.2.2.2 st n := by rw [HRK.out]; unfold rcK; rw [if_neg (by omega)]
    have e2 : re = 0 := by rw [HRE.out]; unfold rcE; rw [if_neg (by omega), if_neg (by omega)]
    rw [← e1]
    subst e2
    clear e1 h1 HRK HRE
    go_wp2_with fail
    go_ret2
    exact ⟨rfl, HB1.out⟩
set_option linter.unusedSimpArgs false in
set_option maxRecDepth 100000 in
set_option maxHeartbeats 4000000 in
theorem rankTree (w : World) (S : Nat → Prop) (AR : Option Addr) (nR cR : Nat) (g : GramD) (hg : Sl RRule w S AR nR cR g.2.2.2) (hv : GValid g) (n : Nat) (hn : n ≤ 24) (st : Nat) (hst : g.2.2.1 = (st : Int)) (K : Int) (hK : K = treesN g.2.2.2 st n) (hK0 : 0 ≤ K) (hK1 : K < 1000000000) (i : Int) (hi1 : -1 ≤ i) (hi2 : i ≤ 1000000000) :
    Calls Try.prog 17 #[.agg #[.int .i64 g.1, .int .i64 g.2.1, .int .i64 g.2.2.1, .slice AR nR cR], .int .i64 n, .int .i64 i] w fun e w' =>
      TreeOk g.2.2.2 st n w.heap.size K i e w' ∧ Below w.heap.size w w' := by
  have HG := Lib.hid hg.fit
  have HV := Lib.hid hv
  have HST := Lib.hid hst
  have HKE := Lib.hid hK
  have hstN : st < nonsOf g := by have := hv.st; unfold nonsOf; omega
  obtain ⟨w1, hw1⟩ : ∃ w1 : World, w1 = (w.alloc (.cells #[.int .i64 g.1, .int .i64 g.2.1, .int .i64 g.2.2.1, .slice AR nR cR] 25)).alloc (.cells #[.int .i64 0, .int .i64 0, .slice none 0 0] 34) := ⟨_, rfl⟩
  have hz1 : w1.heap.size = w.heap.size + 2 := by rw [hw1]; simp
  have hgb : w1.heap[w.heap.size]? = some (.cells #[.int .i64 g.1, .int .i64 g.2.1, .int .i64 g.2.2.1, .slice AR nR cR] 25 (0, 0)) := by rw [hw1]; exact (Below.heap_alloc _ _ _ (by simp)).trans (heap_alloc_new w _)
  have htb : w1.heap[w.heap.size + 1]? = some (.cells #[.int .i64 0, .int .i64 0, .slice none 0 0] 34 (0, 0)) := by rw [hw1]; exact heap_new _ _ _ (by simp)
  have HB01 := Lib.hid (show Below w.heap.size w w1 by rw [hw1]; exact ((Below.refl _ _).alloc (Nat.le_refl _) _).alloc (by simp) _)
  have hall : ∀ u : World, Below (w.heap.size + 2) w1 u → (u.cell? ⟨w.heap.size, 0, none⟩ = some (.int .i64 g.1) ∧ u.cell? ⟨w.heap.size, 1, none⟩ = some (.int .i64 g.2.1) ∧ u.cell? ⟨w.heap.size, 2, none⟩ = some (.int .i64 (st : Int)) ∧ u.cell? ⟨w.heap.size, 3, none⟩ = some (.slice AR nR cR)) ∧ u.heap[w.heap.size + 1]? = some (.cells #[.int .i64 0, .int .i64 0, .slice none 0 0] 34 (0, 0)) := by
    intro u hu
    have h1 := (hu.block w.heap.size (by omega)).trans hgb
    refine ⟨?_, (hu.block _ (by omega)).trans htb⟩
    simp [World.cell?, h1, HST.out]
  have HALL := Lib.hid hall
  have HGB := Lib.hid hgb
  have HTB := Lib.hid htb
  clear hg hv hst hall hgb htb hK
  go_enter Try.func17, Try.ntmps17
  --@1
  go_wp2_with fail
  rw [← hw1]
  clear hw1
  refine (rankCnt w1 (fun b => S b ∧ b < w.heap.size) AR nR cR g (HG.out.below HB01.out) HV.out n hn st HST.out).mono ?_
  rintro e w2 ⟨hcase, hb2⟩
  rcases hcase with ⟨h1, _⟩ | ⟨h1, _⟩ | ⟨L, _, rfl, hc2, hlo⟩
  · exfalso; have := HKE.out; omega
  · exfalso; have := HKE.out; omega
  rw [← HKE.out]
  have HB2 := Lib.hid (show Below (w.heap.size + 2) w1 w2 from hb2.mono (by omega))
  have HC2 := Lib.hid hc2
  have hs2 := hb2.size
  have o0 := hc2.ord2
  obtain ⟨o1, o2, o3⟩ := hc2.ord
  have hk2 := (HALL.out _ HB2.out).1
  obtain ⟨d0, d1, d2, f0, f1, f2⟩ := tree_cells (HALL.out _ HB2.out).2
  have HG2 := Lib.hid ((HG.out.below HB01.out).below hb2)
  clear hb2 hc2
  by_cases hin : 0 ≤ i ∧ i < K
  · obtain ⟨hin1, hin2⟩ := hin
    have ht1 : ¬ i < 0 := by omega
    have ht2 : ¬ K ≤ i := by omega
    obtain ⟨q, rfl⟩ : ∃ q : Nat, i = (q : Int) := ⟨i.toNat, by omega⟩
    have hRN := rulesN_of HV.out
    have hke := HKE.out
    have hlen : lenD g.2.2.2 st n = true := by
      apply Classical.byContradiction
      intro hx
      unfold treesN at hke
      rw [if_neg hx] at hke
      omega
    have hmany : ¬ Many g.2.2.2 (st, n) := by
      intro hx
      unfold treesN at hke
      rw [if_pos hlen, if_pos hx] at hke
      omega
    have hcn : K = (cN g.2.2.2 st n : Int) := by
      unfold treesN at hke
      rw [if_pos hlen, if_neg hmany] at hke
      exact hke
    have HTS := Lib.hid (show ∀ Bn, TreeSpec L g n Bn AR nR cR (st, n) from fun Bn => numTree (by omega) HV.out st n hstN (Nat.le_refl _) hmany (by have : MC = 1000000000 := rfl; omega))
    have HQ := Lib.hid (show q < cN g.2.2.2 st n by omega)
    have HK0 := Lib.hid (HALL.out _ HB2.out.drew).1
    clear hRN hke hlen hmany hcn d0 d1 d2 f0 f1 f2 hk2
    --@2
    go_wp2_with fail
    refine wp_region_late (late := []) (S1 := fun u => u.cell? ⟨w.heap.size, 0, none⟩ = some (.int .i64 g.1) ∧ u.cell? ⟨w.heap.size, 1, none⟩ = some (.int .i64 g.2.1) ∧ u.cell? ⟨w.heap.size, 2, none⟩ = some (.int .i64 (st : Int)) ∧ u.cell? ⟨w.heap.size, 3, none⟩ = some (.slice AR nR cR)) (S := fun _ => True) (by kernel_rfl) ?_
    refine wpAnyL_pure (i := 0) rfl (by kernel_rfl) (fun _ _ _ h => h) (Or.inl ⟨by rfl, (fun u hu => by obtain ⟨k0, k1, k2, k3⟩ := hu; go_simp; try rfl)⟩) HK0.out (fun _ => trivial) ?_
    simp only [Act.put, List.setIfInBounds_toArray, List.set_cons_zero, List.set_cons_succ, List.getElem_toArray, List.getElem_cons_zero, List.getElem_cons_succ]
    refine wpAnyL_pure (i := 1) rfl (by kernel_rfl) (fun _ _ _ h => h) (Or.inl ⟨by rfl, (fun u hu => by obtain ⟨k0, k1, k2, k3⟩ := hu; go_simp; try rfl)⟩) HK0.out (fun _ => trivial) ?_
    simp only [Act.put, List.setIfInBounds_toArray, List.set_cons_zero, List.set_cons_succ, List.getElem_toArray, List.getElem_cons_zero, List.getElem_cons_succ]
    refine wpAnyL_pure (i := 2) rfl (by kernel_rfl) (fun _ _ _ h => h) (Or.inl ⟨by rfl, (fun u hu => by obtain ⟨k0, k1, k2, k3⟩ := hu; go_simp; try rfl)⟩) HK0.out (fun _ => trivial) ?_
    simp only [Act.put, List.setIfInBounds_toArray, List.set_cons_zero, List.set_cons_succ, List.getElem_toArray, List.getElem_cons_zero, List.getElem_cons_succ]
    refine wpAnyL_pure (i := 4) rfl (by kernel_rfl) (fun _ _ _ h => h) (Or.inl ⟨by rfl, (fun u hu => by obtain ⟨k0, k1, k2, k3⟩ := hu; go_simp; try rfl)⟩) HK0.out (fun _ => trivial) ?_
    simp only [Act.put, List.setIfInBounds_toArray, List.set_cons_zero, List.set_cons_succ, List.getElem_toArray, List.getElem_cons_zero, List.getElem_cons_succ]
    refine wpAnyL_pure (i := 5) rfl (by kernel_rfl) (fun _ _ _ h => h) (Or.inl ⟨by rfl, (fun u hu => by obtain ⟨k0, k1, k2, k3⟩ := hu; go_simp; try rfl)⟩) HK0.out (fun _ => trivial) ?_
    simp only [Act.put, List.setIfInBounds_toArray, List.set_cons_zero, List.set_cons_succ, List.getElem_toArray, List.getElem_cons_zero, List.getElem_cons_succ]
    refine wpAnyL_pure (i := 7) rfl (by kernel_rfl) (fun _ _ _ h => h) (Or.inl ⟨by rfl, (fun u hu => by obtain ⟨k0, k1, k2, k3⟩ := hu; go_simp; try rfl)⟩) HK0.out (fun _ => trivial) ?_
    simp only [Act.put, List.setIfInBounds_toArray, List.set_cons_zero, List.set_cons_succ, List.getElem_toArray, List.getElem_cons_zero, List.getElem_cons_succ]
    refine wpAnyL_pure (i := 8) rfl (by kernel_rfl) (fun _ _ _ h => h) (Or.inl ⟨by rfl, (fun u hu => by obtain ⟨k0, k1, k2, k3⟩ := hu; go_simp; try rfl)⟩) HK0.out (fun _ => trivial) ?_
    simp only [Act.put, List.setIfInBounds_toArray, List.set_cons_zero, List.set_cons_succ, List.getElem_toArray, List.getElem_cons_zero, List.getElem_cons_succ]
    refine wpAnyL_ready (rs := [3, 6]) (by kernel_rfl) (by simp) ?_
    refine AllL.cons rfl (fun K hK => ?_) ?_
    · go_simp
      obtain ⟨u1, hu1⟩ : ∃ u1 : World, u1 = (w2.alloc (.cells #[.int .i64 g.1, .int .i64 g.2.1, .int .i64 (st : Int), .slice AR nR cR, .pointer (some ⟨L.Bc, 0, none⟩)] 110)).drew := ⟨_, rfl⟩
      obtain ⟨B1, hB1⟩ : ∃ B1 : Nat, B1 = w2.heap.size := ⟨_, rfl⟩
      have HBL1 := Lib.hid (show Below w2.heap.size w2 u1 by rw [hu1]; exact ((Below.refl w2.heap.size w2).alloc (Below.refl w2.heap.size w2).size _).drew)
      have HNB1 := Lib.hid (show u1.heap[B1]? = some (.cells #[.int .i64 g.1, .int .i64 g.2.1, .int .i64 (st : Int), .slice AR nR cR, .pointer (some ⟨L.Bc, 0, none⟩)] 110 (0, 0)) by rw [hu1, hB1]; exact heap_alloc_new w2 _)
      have hBlo1 : w2.heap.size ≤ B1 := by rw [hB1]; exact (Below.refl w2.heap.size w2).size
      have HKK1 := Lib.hid (HALL.out _ (HB2.out.trans (HBL1.out.mono (by omega)))).1
      rw [← hu1, ← hB1]
      clear hu1 hB1
      refine hK.out _ _ HKK1.out (fun _ => trivial) ?_
      clear hK K
      refine wpAnyL_ready (rs := [6]) (by kernel_rfl) (by simp) ?_
      refine AllL.cons rfl (fun K hK => ?_) ?_
      · go_simp
        refine (gramN _ _).mono ?_
        rintro e u2 ⟨rfl, hb2⟩
        have HBL2 := Lib.hid (show Below w2.heap.size w2 u2 from (show Below w2.heap.size w2 u1 from HBL1.out).trans (hb2.mono HBL1.out.size))
        have HKK2 := Lib.hid (HALL.out _ (HB2.out.trans (HBL2.out.mono (by omega)))).1
        have HNB2 := Lib.hid ((hb2.block _ (heap_lt HNB1.out)).trans HNB1.out)
        clear hb2
        refine hK.out _ _ HKK2.out (fun _ => trivial) ?_
        clear hK K
        refine wpAnyL_ready (rs := [9]) (by kernel_rfl) (by simp) ?_
        refine AllL.cons rfl (fun K hK => ?_) ?_
        · go_simp
          have hnum3 : NumSt u2 L g n B1 AR nR cR := ⟨HC2.out.below HBL2.out, by rw [HNB2.out, HST.out], ((HG2.out.below HBL2.out).more (fun b hb => by have := hb.2; omega)), by omega⟩
          refine (HTS.out _ u2 hnum3 q HQ.out).mono ?_
          rintro e w9 ⟨t, A9, m9, c9, rfl, hsl9, hut9, _, hA9⟩
          have hb9 : Below (w.heap.size + 2) w2 w9 := (HBL2.out.mono (by omega)).trans (hA9.below (by have := HBL2.out.size; omega) (by omega))
          have hall9 := HALL.out _ (HB2.out.trans hb9)
          obtain ⟨d0, d1, d2, f0, f1, f2⟩ := tree_cells hall9.2
          have HK9 := Lib.hid hall9.1
          have HSL9 := Lib.hid hsl9
          have HUT9 := Lib.hid hut9
          have hl9 : w.heap.size + 1 < w9.heap.size := heap_lt hall9.2
          have HBZ := Lib.hid (HB01.out.trans ((HB2.out.trans hb9).mono (by omega)))
          have hzu : w2.heap.size ≤ u2.heap.size := HBL2.out.size
          clear hnum3 hall9 hb9 hsl9 hut9 hA9
          refine hK.out _ _ HK9.out (fun _ => trivial) ?_
          clear hK K
          refine wpAnyL_ready (rs := [10]) (by kernel_rfl) (by simp) ?_
          refine AllL.cons rfl (fun K hK => ?_) ?_
          · go_simp
            refine hK.out _ _ ⟨(World.cell?_setCell_other _ _ _ _ (by simp)).trans ((World.cell?_setCell_other _ _ _ _ (by simp)).trans ((World.cell?_setCell_other _ _ _ _ (by simp)).trans HK9.out.1)), (World.cell?_setCell_other _ _ _ _ (by simp)).trans ((World.cell?_setCell_other _ _ _ _ (by simp)).trans ((World.cell?_setCell_other _ _ _ _ (by simp)).trans HK9.out.2.1)), (World.cell?_setCell_other _ _ _ _ (by simp)).trans ((World.cell?_setCell_other _ _ _ _ (by simp)).trans ((World.cell?_setCell_other _ _ _ _ (by simp)).trans HK9.out.2.2.1)), (World.cell?_setCell_other _ _ _ _ (by simp)).trans ((World.cell?_setCell_other _ _ _ _ (by simp)).trans ((World.cell?_setCell_other _ _ _ _ (by simp)).trans HK9.out.2.2.2))⟩ (fun _ => trivial) ?_
            clear hK K
            refine wpAnyL_pure (i := 11) rfl (by kernel_rfl) (fun _ _ _ h => h) (Or.inl ⟨by rfl, (fun u hu => by obtain ⟨k0, k1, k2, k3⟩ := hu; go_simp; try rfl)⟩) ⟨(World.cell?_setCell_other _ _ _ _ (by simp)).trans ((World.cell?_setCell_other _ _ _ _ (by simp)).trans ((World.cell?_setCell_other _ _ _ _ (by simp)).trans HK9.out.1)), (World.cell?_setCell_other _ _ _ _ (by simp)).trans ((World.cell?_setCell_other _ _ _ _ (by simp)).trans ((World.cell?_setCell_other _ _ _ _ (by simp)).trans HK9.out.2.1)), (World.cell?_setCell_other _ _ _ _ (by simp)).trans ((World.cell?_setCell_other _ _ _ _ (by simp)).trans ((World.cell?_setCell_other _ _ _ _ (by simp)).trans HK9.out.2.2.1)), (World.cell?_setCell_other _ _ _ _ (by simp)).trans ((World.cell?_setCell_other _ _ _ _ (by simp)).trans ((World.cell?_setCell_other _ _ _ _ (by simp)).trans HK9.out.2.2.2))⟩ (fun _ => trivial) ?_
            simp only [Act.put, List.setIfInBounds_toArray, List.set_cons_zero, List.set_cons_succ, List.getElem_toArray, List.getElem_cons_zero, List.getElem_cons_succ]
            refine wpAnyL_done (by kernel_rfl) ?_ _
            go_wp2_with fail
            refine bodyPost_ret (v := .tuple #[.agg #[.int .i64 t.rule, .int .i64 t.term, .slice A9 m9 c9], .int .i64 0]) (by simp [results, Try.results17, go_sem, d0, d1, d2]) rfl ?_
            have hset : ∀ (u : World) (q : Nat) (v : Value), Below w.heap.size u (u.setCell ⟨w.heap.size + 1, q, none⟩ v) := fun u q v => (Below.refl _ _).setCell (by show w.heap.size ≤ w.heap.size + 1; omega) _
            have hbf := ((hset w9 0 (.int .i64 t.rule)).trans (hset _ 1 (.int .i64 t.term))).trans (hset _ 2 (.slice A9 m9 c9))
            have hut := HUT9.out
            exact ⟨Or.inr ⟨⟨by omega, by omega⟩, t, A9, m9, c9, rfl, ((HSL9.out.more (S' := fun b => w.heap.size + 2 ≤ b) (fun b hb => by omega)).keep (((Kept.setCell _ _ _ _ (by simp)).trans (.setCell _ _ _ _ (by simp))).trans (.setCell _ _ _ _ (by simp)))).more (fun b hb => by omega), by rw [Int.toNat_natCast]; exact hut⟩, HBZ.out.trans hbf⟩
          exact AllL.nil
        exact AllL.nil
      exact AllL.nil
    refine AllL.cons rfl (fun K hK => ?_) ?_
    · go_simp
      refine (gramN _ _).mono ?_
      rintro e u5 ⟨rfl, hb5⟩
      have HBL5 := Lib.hid (show Below w2.heap.size w2 u5 from (show Below w2.heap.size w2 w2.drew from (Below.refl w2.heap.size w2).drew).trans (hb5.mono (Below.refl w2.heap.size w2).drew.size))
      have HKK5 := Lib.hid (HALL.out _ (HB2.out.trans (HBL5.out.mono (by omega)))).1
      clear hb5
      refine hK.out _ _ HKK5.out (fun _ => trivial) ?_
      clear hK K
      refine wpAnyL_ready (rs := [3]) (by kernel_rfl) (by simp) ?_
      refine AllL.cons rfl (fun K hK => ?_) ?_
      · go_simp
        obtain ⟨u6, hu6⟩ : ∃ u6 : World, u6 = (u5.alloc (.cells #[.int .i64 g.1, .int .i64 g.2.1, .int .i64 (st : Int), .slice AR nR cR, .pointer (some ⟨L.Bc, 0, none⟩)] 110)) := ⟨_, rfl⟩
        obtain ⟨B6, hB6⟩ : ∃ B6 : Nat, B6 = u5.heap.size := ⟨_, rfl⟩
        have HBL6 := Lib.hid (show Below w2.heap.size w2 u6 by rw [hu6]; exact (HBL5.out.alloc HBL5.out.size _))
        have HNB6 := Lib.hid (show u6.heap[B6]? = some (.cells #[.int .i64 g.1, .int .i64 g.2.1, .int .i64 (st : Int), .slice AR nR cR, .pointer (some ⟨L.Bc, 0, none⟩)] 110 (0, 0)) by rw [hu6, hB6]; exact heap_alloc_new u5 _)
        have hBlo6 : w2.heap.size ≤ B6 := by rw [hB6]; exact HBL5.out.size
        have HKK6 := Lib.hid (HALL.out _ (HB2.out.trans (HBL6.out.mono (by omega)))).1
        rw [← hu6, ← hB6]
        clear hu6 hB6
        refine hK.out _ _ HKK6.out (fun _ => trivial) ?_
        clear hK K
        refine wpAnyL_ready (rs := [9]) (by kernel_rfl) (by simp) ?_
        refine AllL.cons rfl (fun K hK => ?_) ?_
        · go_simp
          have hnum7 : NumSt u6 L g n B6 AR nR cR := ⟨HC2.out.below HBL6.out, by rw [HNB6.out, HST.out], ((HG2.out.below HBL6.out).more (fun b hb => by have := hb.2; omega)), by omega⟩
          refine (HTS.out _ u6 hnum7 q HQ.out).mono ?_
          rintro e w9 ⟨t, A9, m9, c9, rfl, hsl9, hut9, _, hA9⟩
          have hb9 : Below (w.heap.size + 2) w2 w9 := (HBL6.out.mono (by omega)).trans (hA9.below (by have := HBL6.out.size; omega) (by omega))
          have hall9 := HALL.out _ (HB2.out.trans hb9)
          obtain ⟨d0, d1, d2, f0, f1, f2⟩ := tree_cells hall9.2
          have HK9 := Lib.hid hall9.1
          have HSL9 := Lib.hid hsl9
          have HUT9 := Lib.hid hut9
          have hl9 : w.heap.size + 1 < w9.heap.size := heap_lt hall9.2
          have HBZ := Lib.hid (HB01.out.trans ((HB2.out.trans hb9).mono (by omega)))
          have hzu : w2.heap.size ≤ u6.heap.size := HBL6.out.size
          clear hnum7 hall9 hb9 hsl9 hut9 hA9
          refine hK.out _ _ HK9.out (fun _ => trivial) ?_
          clear hK K
          refine wpAnyL_ready (rs := [10]) (by kernel_rfl) (by simp) ?_
          refine AllL.cons rfl (fun K hK => ?_) ?_
          · go_simp
            refine hK.out _ _ ⟨(World.cell?_setCell_other _ _ _ _ (by simp)).trans ((World.cell?_setCell_other _ _ _ _ (by simp)).trans ((World.cell?_setCell_other _ _ _ _ (by simp)).trans HK9.out.1)), (World.cell?_setCell_other _ _ _ _ (by simp)).trans ((World.cell?_setCell_other _ _ _ _ (by simp)).trans ((World.cell?_setCell_other _ _ _ _ (by simp)).trans HK9.out.2.1)), (World.cell?_setCell_other _ _ _ _ (by simp)).trans ((World.cell?_setCell_other _ _ _ _ (by simp)).trans ((World.cell?_setCell_other _ _ _ _ (by simp)).trans HK9.out.2.2.1)), (World.cell?_setCell_other _ _ _ _ (by simp)).trans ((World.cell?_setCell_other _ _ _ _ (by simp)).trans ((World.cell?_setCell_other _ _ _ _ (by simp)).trans HK9.out.2.2.2))⟩ (fun _ => trivial) ?_
            clear hK K
            refine wpAnyL_pure (i := 11) rfl (by kernel_rfl) (fun _ _ _ h => h) (Or.inl ⟨by rfl, (fun u hu => by obtain ⟨k0, k1, k2, k3⟩ := hu; go_simp; try rfl)⟩) ⟨(World.cell?_setCell_other _ _ _ _ (by simp)).trans ((World.cell?_setCell_other _ _ _ _ (by simp)).trans ((World.cell?_setCell_other _ _ _ _ (by simp)).trans HK9.out.1)), (World.cell?_setCell_other _ _ _ _ (by simp)).trans ((World.cell?_setCell_other _ _ _ _ (by simp)).trans ((World.cell?_setCell_other _ _ _ _ (by simp)).trans HK9.out.2.1)), (World.cell?_setCell_other _ _ _ _ (by simp)).trans ((World.cell?_setCell_other _ _ _ _ (by simp)).trans ((World.cell?_setCell_other _ _ _ _ (by simp)).trans HK9.out.2.2.1)), (World.cell?_setCell_other _ _ _ _ (by simp)).trans ((World.cell?_setCell_other _ _ _ _ (by simp)).trans ((World.cell?_setCell_other _ _ _ _ (by simp)).trans HK9.out.2.2.2))⟩ (fun _ => trivial) ?_
            simp only [Act.put, List.setIfInBounds_toArray, List.set_cons_zero, List.set_cons_succ, List.getElem_toArray, List.getElem_cons_zero, List.getElem_cons_succ]
            refine wpAnyL_done (by kernel_rfl) ?_ _
            go_wp2_with fail
            refine bodyPost_ret (v := .tuple #[.agg #[.int .i64 t.rule, .int .i64 t.term, .slice A9 m9 c9], .int .i64 0]) (by simp [results, Try.results17, go_sem, d0, d1, d2]) rfl ?_
            have hset : ∀ (u : World) (q : Nat) (v : Value), Below w.heap.size u (u.setCell ⟨w.heap.size + 1, q, none⟩ v) := fun u q v => (Below.refl _ _).setCell (by show w.heap.size ≤ w.heap.size + 1; omega) _
            have hbf := ((hset w9 0 (.int .i64 t.rule)).trans (hset _ 1 (.int .i64 t.term))).trans (hset _ 2 (.slice A9 m9 c9))
            have hut := HUT9.out
            exact ⟨Or.inr ⟨⟨by omega, by omega⟩, t, A9, m9, c9, rfl, ((HSL9.out.more (S' := fun b => w.heap.size + 2 ≤ b) (fun b hb => by omega)).keep (((Kept.setCell _ _ _ _ (by simp)).trans (.setCell _ _ _ _ (by simp))).trans (.setCell _ _ _ _ (by simp)))).more (fun b hb => by omega), by rw [Int.toNat_natCast]; exact hut⟩, HBZ.out.trans hbf⟩
          exact AllL.nil
        exact AllL.nil
      exact AllL.nil
    exact AllL.nil
  · have HIN := Lib.hid hin
    have HBF := Lib.hid ((HB01.out.trans (HB2.out.mono (by omega))).setCell (p := ⟨w.heap.size + 1, 0, none⟩) (by show w.heap.size ≤ w.heap.size + 1; omega) (.int .i64 0))
    by_cases hi0 : i < 0
    · clear hin
      --@8
      go_wp2_with fail
      refine bodyPost_ret (v := .tuple #[.agg #[.int .i64 0, .int .i64 0, .slice none 0 0], .int .i64 5]) (by simp [results, Try.results17, go_sem, d0, d1, d2]) rfl ?_
      exact ⟨Or.inl ⟨HIN.out, rfl⟩, (HBF.out.setCell (by show w.heap.size ≤ w.heap.size + 1; omega) _).setCell (by show w.heap.size ≤ w.heap.size + 1; omega) _⟩
    · have hik : K ≤ i := by omega
      clear hin
      go_wp2_with fail
      refine bodyPost_ret (v := .tuple #[.agg #[.int .i64 0, .int .i64 0, .slice none 0 0], .int .i64 5]) (by simp [results, Try.results17, go_sem, d0, d1, d2]) rfl ?_
      exact ⟨Or.inl ⟨HIN.out, rfl⟩, (HBF.out.setCell (by show w.heap.size ≤ w.heap.size + 1; omega) _).setCell (by show w.heap.size ≤ w.heap.size + 1; omega) _⟩
end Go.Proofs.Ythanhegomgbgbaa
