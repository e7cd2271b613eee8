/- Teacher.Equal, mini.Min. -/
import Derived.Test.YtgaahpddlohjoaaTDiff
namespace Go.Proofs.Ytgaahpddlohjoaa
open Go.RowKit

theorem quiet_leftE {P : Program} {f : FuncId} {args : Array Value} {w : World} {n : Nat} {v : Value}
    (h : Calls P f args (w.drewN n) fun e w' => e = .returned v ∧ w.drewN n = w') : Calls P f args (w.drewN n) fun e w'' => e = .returned v ∧ ∃ m, w'' = w.drewN m :=
  h.mono fun _ _ ⟨he, hm⟩ => ⟨he, n, hm.symm⟩
/-- an automaton of another number of symbols -/
theorem teachEqualNo (w : World) (S : Nat → Prop) (Bt : Nat) (d : DfaD) (m k : Int) (h : TeachB w S Bt d m k) (hv : Valid d)
    (S' : Nat → Prop) (A' : Option Addr) (nA' cA' : Nat) (N' : Option Addr) (n' cN' : Nat) (b : DfaD) (hA' : Sl Rep.int w S' A' nA' cA' b.2.1) (hN' : Sl RI w S' N' n' cN' b.2.2) (hv' : Valid b) (hcc : cols b ≠ cols d) :
    Calls Try.prog 16 #[.pointer (some ⟨Bt, 0, none⟩), .agg #[.int .i64 b.1, .slice A' nA' cA', .slice N' n' cN']] w fun e w' => e = .returned (.tuple #[.bool false, .slice none 0 0, .int .i64 1]) ∧ Below w.heap.size w w' := by
  obtain ⟨w1, hw1⟩ : ∃ w1 : World, w1 = w.alloc (.cells #[.int .i64 b.1, .slice A' nA' cA', .slice N' n' cN'] 25) := ⟨_, rfl⟩
  have hb1 : Below w.heap.size w w1 := by rw [hw1]; exact (Below.refl _ _).alloc (Nat.le_refl _) _
  have hz1 : w1.heap.size = w.heap.size + 1 := by rw [hw1]; simp
  have hg1 : w1.heap[w.heap.size]? = some (.cells #[.int .i64 b.1, .slice A' nA' cA', .slice N' n' cN'] 25 (0, 0)) := by rw [hw1]; exact heap_alloc_new w _
  obtain ⟨bN, oN, AR, cR, rfl, hcR, hnI, _⟩ := teach_row hN' hv'
  have HT := Lib.hid h
  have HV := Lib.hid hv
  have HA := Lib.hid (hA'.below hb1)
  have HN := Lib.hid (hN'.below hb1)
  have HV' := Lib.hid hv'
  have HCR := Lib.hid hcR
  have hcI : ((cols b : Int) != (cols d : Int)) = true := by simp; omega
  obtain ⟨x, hx⟩ : ∃ x : Int, x = (cols b : Int) := ⟨_, rfl⟩
  obtain ⟨y, hy⟩ : ∃ y : Int, y = (cols d : Int) := ⟨_, rfl⟩
  have HW1 := Lib.hid hw1
  have HB1 := Lib.hid hb1
  have HG1 := Lib.hid hg1
  have hz1' : w.heap.size < w1.heap.size := by omega
  clear h hv hA' hN' hv' hcc hw1 hz1 hb1 hg1 hcR
  go_enter Try.func16, Try.ntmps16
  go_upto_block 1 with fail
  rw [← HW1.out]
  have c0 : w1.cell? ⟨w.heap.size, 0, none⟩ = some (.int .i64 b.1) := by simp [World.cell?, HG1.out]
  have c1 : w1.cell? ⟨w.heap.size, 1, none⟩ = some (.slice A' nA' cA') := by simp [World.cell?, HG1.out]
  have c2 : w1.cell? ⟨w.heap.size, 2, none⟩ = some (.slice (some ⟨bN, oN, none⟩) n' cN') := by simp [World.cell?, HG1.out]
  go_wp2_with fail
  refine (dfaCheck _ _ _ _ _ _ _ _ b HA.out HN.out HV'.out).mono ?_
  rintro e w2 ⟨rfl, hb2⟩
  have hc2 := (hb2.cell (p := ⟨w.heap.size, 2, none⟩) hz1').trans c2
  have hcR2 : w2.cell? ⟨bN, oN, none⟩ = some (.slice AR (cols b) cR) := ((HB1.out.trans (hb2.mono HB1.out.size)).cell (cell_lt HCR.out)).trans HCR.out
  have HB2 := Lib.hid (HB1.out.trans (hb2.mono HB1.out.size))
  clear hb2 c0 c1 c2
  go_wp2_with fail
  go_quiet ((go_at_call 14; exact quiet_leftE (teachSymbols _ S Bt d m k (HT.out.below (belowN HB2.out _)) HV.out)))
  go_wp2_with fail
  go_ret3
  exact ⟨rfl, belowN HB2.out _⟩
set_option linter.unusedSimpArgs false in
/-- an automaton of as many symbols -/
theorem teachEqualYes (w : World) (S : Nat → Prop) (Bt : Nat) (d : DfaD) (m k : Int) (h : TeachB w S Bt d m k) (hv : Valid d) (hk : 0 ≤ k ∧ k ≤ 1000000) (hS : ¬ S Bt)
    (S' : Nat → Prop) (A' : Option Addr) (nA' cA' : Nat) (N' : Option Addr) (n' cN' : Nat) (b : DfaD) (hA' : Sl Rep.int w S' A' nA' cA' b.2.1) (hN' : Sl RI w S' N' n' cN' b.2.2) (hv' : Valid b) (hcc : cols b = cols d) (hS' : ¬ S' Bt) :
    Calls Try.prog 16 #[.pointer (some ⟨Bt, 0, none⟩), .agg #[.int .i64 b.1, .slice A' nA' cA', .slice N' n' cN']] w fun e w' => EqualRet d b w.heap.size e w' ∧ TeachB w' S Bt d m (k + 1) ∧ w.grownBy w' (some Bt) := by
  obtain ⟨w1, hw1⟩ : ∃ w1 : World, w1 = w.alloc (.cells #[.int .i64 b.1, .slice A' nA' cA', .slice N' n' cN'] 25) := ⟨_, rfl⟩
  have hb1 : Below w.heap.size w w1 := by rw [hw1]; exact (Below.refl _ _).alloc (Nat.le_refl _) _
  have hz1 : w1.heap.size = w.heap.size + 1 := by rw [hw1]; simp
  have hg1 : w1.heap[w.heap.size]? = some (.cells #[.int .i64 b.1, .slice A' nA' cA', .slice N' n' cN'] 25 (0, 0)) := by rw [hw1]; exact heap_alloc_new w _
  obtain ⟨bN, oN, AR, cR, rfl, hcR, hnI, _⟩ := teach_row hN' hv'
  have HT := Lib.hid h
  have HV := Lib.hid hv
  have HA := Lib.hid (hA'.below hb1)
  have HN := Lib.hid (hN'.below hb1)
  have HV' := Lib.hid hv'
  have HCR := Lib.hid hcR
  have HCC := Lib.hid hcc
  rw [hcc] at hcR HCR
  have HW1 := Lib.hid hw1
  have HB1 := Lib.hid hb1
  have HG1 := Lib.hid hg1
  have HS := Lib.hid hS
  have HS' := Lib.hid hS'
  have hz1' : w.heap.size < w1.heap.size := by omega
  obtain ⟨hk0, hk1⟩ := hk
  have hBt := h.lt
  clear h hv hA' hN' hv' hcc hw1 hz1 hb1 hg1 hcR hS hS'
  go_enter Try.func16, Try.ntmps16
  go_upto_block 1 with fail
  rw [← HW1.out]
  have c0 : w1.cell? ⟨w.heap.size, 0, none⟩ = some (.int .i64 b.1) := by simp [World.cell?, HG1.out]
  have c1 : w1.cell? ⟨w.heap.size, 1, none⟩ = some (.slice A' nA' cA') := by simp [World.cell?, HG1.out]
  have c2 : w1.cell? ⟨w.heap.size, 2, none⟩ = some (.slice (some ⟨bN, oN, none⟩) n' cN') := by simp [World.cell?, HG1.out]
  go_wp2_with fail
  refine (dfaCheck _ _ _ _ _ _ _ _ b HA.out HN.out HV'.out).mono ?_
  rintro e w2 ⟨rfl, hb2⟩
  have HG2 := Lib.hid ((hb2.block _ hz1').trans HG1.out)
  have hc2 := (hb2.cell (p := ⟨w.heap.size, 2, none⟩) hz1').trans c2
  have hcR2 : w2.cell? ⟨bN, oN, none⟩ = some (.slice AR (cols d) cR) := ((HB1.out.trans (hb2.mono HB1.out.size)).cell (cell_lt HCR.out)).trans HCR.out
  have HB2 := Lib.hid (HB1.out.trans (hb2.mono HB1.out.size))
  have HL2 := Lib.hid (show w.heap.size < w2.heap.size from Nat.lt_of_lt_of_le hz1' hb2.size)
  have HA2 := Lib.hid (HA.out.below hb2)
  have HN2 := Lib.hid (HN.out.below hb2)
  clear hb2 c0 c1 c2
  go_wp2_with fail
  go_quiet ((go_at_call 14; exact quiet_leftE (teachSymbols _ S Bt d m k (HT.out.below (belowN HB2.out _)) HV.out)))
  obtain ⟨w3, hw3⟩ : ∃ w3, w3 = w2.drewN nq := ⟨_, rfl⟩
  rw [← hw3]
  have hb3 : Below w.heap.size w w3 := by rw [hw3]; exact belowN HB2.out _
  have hT3 := HT.out.below hb3
  obtain ⟨A, nA, cA, N, n, cN, h1, h2, h3⟩ := hT3
  have q0 : w3.cell? ⟨Bt, 0, none⟩ = some (.int .i64 d.1) := by simp [World.cell?, h1]
  have q1 : w3.cell? ⟨Bt, 1, none⟩ = some (.slice A nA cA) := by simp [World.cell?, h1]
  have q2 : w3.cell? ⟨Bt, 2, none⟩ = some (.slice N n cN) := by simp [World.cell?, h1]
  have q4 : w3.cell? ⟨Bt, 4, none⟩ = some (.int .i64 k) := by simp [World.cell?, h1]
  have qf : w3.frozen? ⟨Bt, 4, none⟩ = false := by simp [World.frozen?, h1]
  have qg : w3.heap[w.heap.size]? = some (.cells #[.int .i64 b.1, .slice A' nA' cA', .slice (some ⟨bN, oN, none⟩) n' cN'] 25 (0, 0)) := by rw [hw3]; exact HG2.out
  have g0 : w3.cell? ⟨w.heap.size, 0, none⟩ = some (.int .i64 b.1) := by simp [World.cell?, qg]
  have g1 : w3.cell? ⟨w.heap.size, 1, none⟩ = some (.slice A' nA' cA') := by simp [World.cell?, qg]
  have g2 : w3.cell? ⟨w.heap.size, 2, none⟩ = some (.slice (some ⟨bN, oN, none⟩) n' cN') := by simp [World.cell?, qg]
  have hlt3 := heap_lt h1
  have hlg := heap_lt qg
  have H1 := Lib.hid h1
  have H2 := Lib.hid h2
  have H3 := Lib.hid h3
  have HB3 := Lib.hid hb3
  have HL3 := Lib.hid (show w.heap.size < w3.heap.size from heap_lt qg)
  have HA3 := Lib.hid (show Sl Rep.int w3 S' A' nA' cA' b.2.1 by rw [hw3]; exact HA2.out.below (belowN (Below.refl _ _) _))
  have HG3 := Lib.hid qg
  have HN3 := Lib.hid (show Sl RI w3 S' (some ⟨bN, oN, none⟩) n' cN' b.2.2 by rw [hw3]; exact HN2.out.below (belowN (Below.refl _ _) _))
  have hne : w.heap.size ≠ Bt := by omega
  clear hc2 hcR2 h1 h2 h3 hb3 hw3 qg
  go_wp2_with fail
  obtain ⟨w4, hw4⟩ : ∃ w4 : World, w4 = w3.setCell ⟨Bt, 4, none⟩ (.int .i64 (k + 1)) := ⟨_, rfl⟩
  rw [← hw4]
  have hgr : w3.grownBy w4 (some Bt) := by rw [hw4]; exact set_grown (Bd := Bt) w3 4 _
  have h5 : w4.heap[Bt]? = some (.cells #[.int .i64 d.1, .slice A nA cA, .slice N n cN, .int .i64 m, .int .i64 (k + 1)] 81 (0, 0)) := by
    rw [hw4]
    have := blk_set H1.out 4 (.int .i64 (k + 1))
    simpa using this
  have hg5 : w4.heap[w.heap.size]? = some (.cells #[.int .i64 b.1, .slice A' nA' cA', .slice (some ⟨bN, oN, none⟩) n' cN'] 25 (0, 0)) := (hgr.block _ HL3.out (fun e => by injection e with e; omega)).trans HG3.out
  have HSET := Lib.hid (show Kept S w3 w4 from Kept.grown hgr fun c hc e => by injection e with e; exact HS.out (by rw [e]; exact hc))
  have HSET' := Lib.hid (show Kept S' w3 w4 from Kept.grown hgr fun c hc e => by injection e with e; exact HS'.out (by rw [e]; exact hc))
  have HGR := Lib.hid (show w.grownBy w4 (some Bt) from World.grownBy.trans ⟨HB3.out.os, HB3.out.tape, HB3.out.output, HB3.out.size, fun q hq _ => HB3.out.block q hq⟩ hgr)
  have HKA := Lib.hid (show ∀ u : World, u.heap[Bt]? = some (.cells #[.int .i64 d.1, .slice A nA cA, .slice N n cN, .int .i64 m, .int .i64 (k + 1)] 81 (0, 0)) → u.heap[w.heap.size]? = some (.cells #[.int .i64 b.1, .slice A' nA' cA', .slice (some ⟨bN, oN, none⟩) n' cN'] 25 (0, 0)) →
      (u.cell? ⟨Bt, 0, none⟩ = some (.int .i64 d.1) ∧ u.cell? ⟨Bt, 1, none⟩ = some (.slice A nA cA) ∧ u.cell? ⟨Bt, 2, none⟩ = some (.slice N n cN)) ∧ u.cell? ⟨w.heap.size, 0, none⟩ = some (.int .i64 b.1) ∧ u.cell? ⟨w.heap.size, 1, none⟩ = some (.slice A' nA' cA') ∧ u.cell? ⟨w.heap.size, 2, none⟩ = some (.slice (some ⟨bN, oN, none⟩) n' cN') from fun u e1 e2 => by simp [World.cell?, e1, e2])
  clear q0 q1 q2 q4 qf g0 g1 g2 hlt3 hlg hw4
  obtain ⟨w5, hw5⟩ : ∃ w5 : World, w5 = w4.drew := ⟨_, rfl⟩
  have H5 := Lib.hid (show w5.heap[Bt]? = some (.cells #[.int .i64 d.1, .slice A nA cA, .slice N n cN, .int .i64 m, .int .i64 (k + 1)] 81 (0, 0)) from by rw [hw5]; exact h5)
  have HG5 := Lib.hid (show w5.heap[w.heap.size]? = some (.cells #[.int .i64 b.1, .slice A' nA' cA', .slice (some ⟨bN, oN, none⟩) n' cN'] 25 (0, 0)) from by rw [hw5]; exact hg5)
  have HSET := Lib.hid (show Kept S w3 w5 by rw [hw5]; exact HSET.out.trans (Kept.drew _ _))
  have HSET' := Lib.hid (show Kept S' w3 w5 by rw [hw5]; exact HSET'.out.trans (Kept.drew _ _))
  have HGR := Lib.hid (show w.grownBy w5 (some Bt) by rw [hw5]; exact grownDr HGR.out)
  have hlt5 := heap_lt H5.out
  have hlg5 := heap_lt HG5.out
  have HK5 := Lib.hid (HKA.out w5 H5.out HG5.out)
  refine wp_region_late (late := []) (S1 := fun u => (u.cell? ⟨Bt, 0, none⟩ = some (.int .i64 d.1) ∧ u.cell? ⟨Bt, 1, none⟩ = some (.slice A nA cA) ∧ u.cell? ⟨Bt, 2, none⟩ = some (.slice N n cN)) ∧ u.cell? ⟨w.heap.size, 0, none⟩ = some (.int .i64 b.1) ∧ u.cell? ⟨w.heap.size, 1, none⟩ = some (.slice A' nA' cA') ∧ u.cell? ⟨w.heap.size, 2, none⟩ = some (.slice (some ⟨bN, oN, none⟩) n' cN')) (S := fun _ => True) (by kernel_rfl) ?_
  rw [← hw5]
  clear hw5 hgr h5 hg5
  refine wpAnyL_pure (i := 0) rfl (by kernel_rfl) (fun _ _ _ h => h) (Or.inl ⟨by rfl, (fun u hu => by obtain ⟨⟨k0, k1, k2⟩, k3, k4, k5⟩ := hu; go_simp; try rfl)⟩) HK5.out (fun _ => trivial) ?_
  simp only [Act.put, List.setIfInBounds_toArray, List.set_cons_zero, List.set_cons_succ, List.getElem_toArray, List.getElem_cons_zero, List.getElem_cons_succ]
  refine wpAnyL_pure (i := 1) rfl (by kernel_rfl) (fun _ _ _ h => h) (Or.inl ⟨by rfl, (fun u hu => by obtain ⟨⟨k0, k1, k2⟩, k3, k4, k5⟩ := hu; go_simp; try rfl)⟩) HK5.out (fun _ => trivial) ?_
  simp only [Act.put, List.setIfInBounds_toArray, List.set_cons_zero, List.set_cons_succ, List.getElem_toArray, List.getElem_cons_zero, List.getElem_cons_succ]
  refine wpAnyL_pure (i := 2) rfl (by kernel_rfl) (fun _ _ _ h => h) (Or.inl ⟨by rfl, (fun u hu => by obtain ⟨⟨k0, k1, k2⟩, k3, k4, k5⟩ := hu; go_simp; try rfl)⟩) HK5.out (fun _ => trivial) ?_
  simp only [Act.put, List.setIfInBounds_toArray, List.set_cons_zero, List.set_cons_succ, List.getElem_toArray, List.getElem_cons_zero, List.getElem_cons_succ]
  refine wpAnyL_pure (i := 3) rfl (by kernel_rfl) (fun _ _ _ h => h) (Or.inl ⟨by rfl, (fun u hu => by obtain ⟨⟨k0, k1, k2⟩, k3, k4, k5⟩ := hu; go_simp; try rfl)⟩) HK5.out (fun _ => trivial) ?_
  simp only [Act.put, List.setIfInBounds_toArray, List.set_cons_zero, List.set_cons_succ, List.getElem_toArray, List.getElem_cons_zero, List.getElem_cons_succ]
  refine wpAnyL_pure (i := 4) rfl (by kernel_rfl) (fun _ _ _ h => h) (Or.inl ⟨by rfl, (fun u hu => by obtain ⟨⟨k0, k1, k2⟩, k3, k4, k5⟩ := hu; go_simp; try rfl)⟩) HK5.out (fun _ => trivial) ?_
  simp only [Act.put, List.setIfInBounds_toArray, List.set_cons_zero, List.set_cons_succ, List.getElem_toArray, List.getElem_cons_zero, List.getElem_cons_succ]
  refine wpAnyL_ready (rs := [5]) (by kernel_rfl) (by simp) ?_
  refine AllL.cons rfl (fun K hK => ?_) ?_
  · go_simp
    refine (teachDiffer w5 _ _ _ _ _ _ _ _ d (H2.out.keep HSET.out) (H3.out.keep HSET.out) HV.out _ _ _ _ _ _ b (HA3.out.keep HSET'.out) (HN3.out.keep HSET'.out) HV'.out HCC.out.symm).mono ?_
    rintro e w6 ⟨⟨Ao, co, l, dif, rfl, hd⟩, hb6⟩
    have HD := Lib.hid hd
    have HB6 := Lib.hid hb6
    have HK6 := Lib.hid (HKA.out w6 ((hb6.block _ hlt5).trans H5.out) ((hb6.block _ hlg5).trans HG5.out))
    clear hd hb6
    refine hK.out _ _ HK6.out (fun _ => trivial) ?_
    clear hK K
    refine wpAnyL_pure (i := 6) rfl (by kernel_rfl) (fun _ _ _ h => h) (Or.inl ⟨by rfl, (fun u hu => by obtain ⟨⟨k0, k1, k2⟩, k3, k4, k5⟩ := hu; go_simp; try rfl)⟩) HK6.out (fun _ => trivial) ?_
    simp only [Act.put, List.setIfInBounds_toArray, List.set_cons_zero, List.set_cons_succ, List.getElem_toArray, List.getElem_cons_zero, List.getElem_cons_succ]
    refine wpAnyL_pure (i := 7) rfl (by kernel_rfl) (fun _ _ _ h => h) (Or.inl ⟨by rfl, (fun u hu => by obtain ⟨⟨k0, k1, k2⟩, k3, k4, k5⟩ := hu; go_simp; try rfl)⟩) HK6.out (fun _ => trivial) ?_
    simp only [Act.put, List.setIfInBounds_toArray, List.set_cons_zero, List.set_cons_succ, List.getElem_toArray, List.getElem_cons_zero, List.getElem_cons_succ]
    refine wpAnyL_pure (i := 8) rfl (by kernel_rfl) (fun _ _ _ h => h) (Or.inl ⟨by rfl, (fun u hu => by obtain ⟨⟨k0, k1, k2⟩, k3, k4, k5⟩ := hu; go_simp; try rfl)⟩) HK6.out (fun _ => trivial) ?_
    simp only [Act.put, List.setIfInBounds_toArray, List.set_cons_zero, List.set_cons_succ, List.getElem_toArray, List.getElem_cons_zero, List.getElem_cons_succ]
    refine wpAnyL_pure (i := 9) rfl (by kernel_rfl) (fun _ _ _ h => h) (Or.inl ⟨by rfl, (fun u hu => by obtain ⟨⟨k0, k1, k2⟩, k3, k4, k5⟩ := hu; go_simp; try rfl)⟩) HK6.out (fun _ => trivial) ?_
    simp only [Act.put, List.setIfInBounds_toArray, List.set_cons_zero, List.set_cons_succ, List.getElem_toArray, List.getElem_cons_zero, List.getElem_cons_succ]
    refine wpAnyL_pure (i := 10) rfl (by kernel_rfl) (fun _ _ _ h => h) (Or.inl ⟨by rfl, (fun u hu => by obtain ⟨⟨k0, k1, k2⟩, k3, k4, k5⟩ := hu; go_simp; try rfl)⟩) HK6.out (fun _ => trivial) ?_
    simp only [Act.put, List.setIfInBounds_toArray, List.set_cons_zero, List.set_cons_succ, List.getElem_toArray, List.getElem_cons_zero, List.getElem_cons_succ]
    refine wpAnyL_done (by kernel_rfl) ?_ _
    have HB6' := HB6.out
    clear HK5 HK6
    go_wp2_with fail
    go_ret3
    refine ⟨⟨Ao, co, l, dif, rfl, ?_⟩, ⟨A, nA, cA, N, n, cN, (HB6.out.block _ hlt5).trans H5.out, (H2.out.keep HSET.out).below HB6.out, (H3.out.keep HSET.out).below HB6.out⟩, HGR.out.trans ⟨HB6.out.os, HB6.out.tape, HB6.out.output, HB6.out.size, fun q hq _ => HB6.out.block q hq⟩⟩
    rcases HD.out with h | ⟨h1, h2, h3⟩
    · exact .inl h
    · exact .inr ⟨h1, h2.more fun b hb => by have := HGR.out.size; omega, h3⟩
  exact AllL.nil
set_option linter.unusedSimpArgs false in
/-- mini.Min -/
theorem miniMin (w : World) (S : Nat → Prop) (A : Option Addr) (nA cA : Nat) (N : Option Addr) (n cN : Nat) (d : DfaD) (hA : Sl Rep.int w S A nA cA d.2.1) (hN : Sl RI w S N n cN d.2.2) (hv : Valid d) (hx : ∀ x ∈ d.2.1, x < 2147483648) :
    Calls Try.prog 15 #[.agg #[.int .i64 d.1, .slice A nA cA, .slice N n cN]] w fun e w' => (∃ A nA cA N n cN, e = .returned (.tuple #[.agg #[.int .i64 0, .slice A nA cA, .slice N n cN], .int .i64 0]) ∧ Sl Rep.int w' (fun b => w.heap.size ≤ b) A nA cA (canonD d).2.1 ∧ Sl RI w' (fun b => w.heap.size ≤ b) N n cN (canonD d).2.2) ∧ Below w.heap.size w w' := by
  obtain ⟨w1, hw1⟩ : ∃ w1 : World, w1 = (w.alloc (.cells #[.int .i64 d.1, .slice A nA cA, .slice N n cN] 25)).alloc (.cells #[.int .i64 0, .slice none 0 0, .slice none 0 0] 25) := ⟨_, rfl⟩
  have hb1 : Below w.heap.size w w1 := by rw [hw1]; exact ((Below.refl _ _).alloc (Nat.le_refl _) _).alloc (by simp) _
  have hz1 : w1.heap.size = w.heap.size + 2 := by rw [hw1]; simp
  have hg1 : w1.heap[w.heap.size]? = some (.cells #[.int .i64 d.1, .slice A nA cA, .slice N n cN] 25 (0, 0)) := by rw [hw1, Below.heap_alloc _ _ _ (by simp)]; exact heap_alloc_new w _
  have hg2 : w1.heap[w.heap.size + 1]? = some (.cells #[.int .i64 0, .slice none 0 0, .slice none 0 0] 25 (0, 0)) := by rw [hw1]; exact heap_new _ _ _ (by simp)
  have HBOX := Lib.hid (show ∀ u : World, Below w1.heap.size w1 u → u.cell? ⟨w.heap.size, 0, none⟩ = some (.int .i64 d.1) ∧ u.cell? ⟨w.heap.size, 1, none⟩ = some (.slice A nA cA) ∧ u.cell? ⟨w.heap.size, 2, none⟩ = some (.slice N n cN) from fun u hu => by
    have e := (hu.block _ (by omega)).trans hg1
    simp [World.cell?, e])
  have HRES := Lib.hid (show ∀ u : World, Below w1.heap.size w1 u → u.heap[w.heap.size + 1]? = some (.cells #[.int .i64 0, .slice none 0 0, .slice none 0 0] 25 (0, 0)) from fun u hu => (hu.block _ (by omega)).trans hg2)
  have HA := Lib.hid (hA.below hb1)
  have HN := Lib.hid (hN.below hb1)
  have HV := Lib.hid hv
  have HX := Lib.hid hx
  have HW1 := Lib.hid hw1
  have HB1 := Lib.hid hb1
  have hz1' : w1.heap.size ≤ w.heap.size + 2 ∧ w.heap.size + 2 ≤ w1.heap.size := by omega
  clear hA hN hv hx hw1 hb1 hz1 hg1 hg2
  obtain ⟨k0, k1, k2⟩ := HBOX.out w1 (Below.refl _ _)
  go_enter Try.func15, Try.ntmps15
  go_upto_block 1 with fail
  rw [← HW1.out]
  go_wp2_with fail
  refine (dfaCheck _ _ _ _ _ _ _ _ d HA.out HN.out HV.out).mono ?_
  rintro e w2 ⟨rfl, hb2⟩
  have HB2 := Lib.hid hb2
  clear k0 k1 k2
  obtain ⟨k0, k1, k2⟩ := HBOX.out w2 hb2
  clear hb2
  go_wp2_with fail
  refine (dfaCanon _ _ _ _ _ _ _ _ d (HA.out.below HB2.out) (HN.out.below HB2.out) HV.out HX.out).mono ?_
  rintro e w3 ⟨⟨A1, n1, c1, N1, m1, d1, rfl, h1, h2⟩, hb3⟩
  have hb13 : Below w1.heap.size w1 w3 := HB2.out.trans (hb3.mono HB2.out.size)
  have hres := HRES.out w3 hb13
  obtain ⟨hr0, hr1, hr2⟩ : w3.cell? ⟨w.heap.size + 1, 0, none⟩ = some (.int .i64 0) ∧ w3.cell? ⟨w.heap.size + 1, 1, none⟩ = some (.slice none 0 0) ∧ w3.cell? ⟨w.heap.size + 1, 2, none⟩ = some (.slice none 0 0) := by simp [World.cell?, hres]
  have hf0 : w3.frozen? ⟨w.heap.size + 1, 0, none⟩ = false := by simp [World.frozen?, hres]
  have hf1 : w3.frozen? ⟨w.heap.size + 1, 1, none⟩ = false := by simp [World.frozen?, hres]
  have hf2 : w3.frozen? ⟨w.heap.size + 1, 2, none⟩ = false := by simp [World.frozen?, hres]
  have H1 := Lib.hid h1
  have H2 := Lib.hid h2
  have HB3 := Lib.hid (HB1.out.trans (hb13.mono HB1.out.size))
  have hz2 : w1.heap.size ≤ w2.heap.size := HB2.out.size
  clear h1 h2 hb3 hb13 hres k0 k1 k2
  go_wp2_with fail
  refine bodyPost_ret (v := .tuple #[.agg #[.int .i64 0, .slice A1 n1 c1, .slice N1 m1 d1], .int .i64 0]) (by simp [results, Try.results15, go_sem, hr0, hr1, hr2]) rfl ?_
  have hk : Kept (fun b => w2.heap.size ≤ b) w3 (((w3.setCell ⟨w.heap.size + 1, 0, none⟩ (.int .i64 0)).setCell ⟨w.heap.size + 1, 1, none⟩ (.slice A1 n1 c1)).setCell ⟨w.heap.size + 1, 2, none⟩ (.slice N1 m1 d1)) :=
    ((Kept.setCell _ _ _ _ (by simp; omega)).trans (Kept.setCell _ _ _ _ (by simp; omega))).trans (Kept.setCell _ _ _ _ (by simp; omega))
  refine ⟨⟨A1, n1, c1, N1, m1, d1, rfl, (H1.out.keep hk).more fun b hb => by omega, (H2.out.keep hk).more fun b hb => by omega⟩, ((HB3.out.setCell (by simp) _).setCell (by simp) _).setCell (by simp) _⟩
end Go.Proofs.Ytgaahpddlohjoaa
