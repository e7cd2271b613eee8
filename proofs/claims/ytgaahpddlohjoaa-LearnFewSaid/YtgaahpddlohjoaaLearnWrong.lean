/- learner.wrong: a counterexample is one. -/
import Derived.Test.YtgaahpddlohjoaaLearnRow
import Derived.Test.YtgaahpddlohjoaaLate
import Derived.Test.YtgaahpddlohjoaaRow
import Derived.Test.YtgaahpddlohjoaaSlIdxFn
import Derived.Test.YtgaahpddlohjoaaCanonSt
namespace Go.Proofs.Ytgaahpddlohjoaa
open Go.RowKit Go.Maps

theorem entersWrong : ∀ (args : Array Value) (u : World), (callFunc 85 args).run Try.prog u = .ok (.enter 85 args) u := enters_of Try.func85 (by kernel_rfl) rfl
set_option maxRecDepth 100000 in
set_option maxHeartbeats 1000000 in
theorem tellsWrong (w : World) (B BL T : Nat) (hB : w.cell? ⟨B, 0, none⟩ = some (.pointer (some ⟨BL, 0, none⟩))) (hc : w.cell? ⟨BL, 0, none⟩ = some (.int .i64 (T : Int))) :
    TellsI Try.prog w (fun c => 0 ≤ c ∧ c < (T : Int)) (fun _ => false) 85 #[.pointer (some ⟨B, 0, none⟩)] := by
  intro u hb x hx
  show Calls Try.prog 85 #[.int .i64 x, .pointer (some ⟨B, 0, none⟩)] u _
  have k1 := (hb.cell (p := ⟨B, 0, none⟩) (cell_lt hB)).trans hB
  have k2 := (hb.cell (p := ⟨BL, 0, none⟩) (cell_lt hc)).trans hc
  obtain ⟨hx1, hx2⟩ := hx
  have i3 : decide (x < 0) = false := by simp; omega
  have i4 : decide ((T : Int) ≤ x) = false := by simp; omega
  clear hb hB hc
  go_enter Try.func85, Try.ntmps85
  go_wp2_with fail
  go_ret
  exact ⟨rfl, Below.refl _ _⟩
set_option linter.unusedSimpArgs false in
set_option maxRecDepth 1000000 in
set_option maxHeartbeats 4000000 in
theorem learnWrong (L : LCtx) (hL : L.Ok) (w : World) (FL : Nat → Prop) (ws : List (List Int)) (q : Nat) (vA vT vR : Value) (access tests : List (List Int)) (h : LSt L w FL ws q vA vT vR access tests)
    (S : Nat → Prop) (A : Option Addr) (nA cA : Nat) (N : Option Addr) (n cN : Nat) (d : DfaD) (hA : Sl Rep.int w S A nA cA d.2.1) (hN : Sl RI w S N n cN d.2.2) (hS : ∀ b, S b → L.B0 ≤ b ∧ b ≠ L.BK) (hv : Valid d) (hcl : cols d = L.T)
    (Sw : Nat → Prop) (Aw : Option Addr) (nw cw : Nat) (x : List Int) (hx : Sl Rep.int w Sw Aw nw cw x) (hw : WOkT L.T x) (hl : x.length ≤ 1000) (hrun : ∀ k, 0 ≤ drun d (x.take k)) (hne : daccept d x ≠ L.acc x) (hws : ws.length ≤ 100000000) :
    Calls Try.prog 48 #[.pointer (some ⟨L.BL, 0, none⟩), .agg #[.int .i64 d.1, .slice A nA cA, .slice N n cN], .slice Aw nw cw] w fun e w' => e = .returned (.int .i64 0) ∧ MemPost L w FL ws q vA vT vR access tests 1 w' := by
  have hnw : nw ≤ 1000 := by have := hx.len; omega
  have e1 := hA.len
  have hnn := hN.len
  rw [hv.na, ← hnn] at e1
  subst e1
  have hn1 : 1 ≤ nA := by have := hv.n1; omega
  have hn2 : nA ≤ 200 := by have := hv.n2; omega
  obtain ⟨w1, hw1⟩ : ∃ w1 : World, w1 = (w.alloc (.cells #[.pointer (some ⟨L.BL, 0, none⟩)] 85)).alloc (.cells #[.int .i64 d.1, .slice A nA cA, .slice N nA cN] 25) := ⟨_, rfl⟩
  have hb1 : Below w.heap.size w w1 := by rw [hw1]; exact ((Below.refl _ _).alloc (Nat.le_refl _) _).alloc (by simp) _
  have hg1 : w1.heap[w.heap.size]? = some (.cells #[.pointer (some ⟨L.BL, 0, none⟩)] 85 (0, 0)) := by rw [hw1, Below.heap_alloc _ _ _ (by simp)]; exact heap_alloc_new w _
  have hg2 : w1.heap[w.heap.size + 1]? = some (.cells #[.int .i64 d.1, .slice A nA cA, .slice N nA cN] 25 (0, 0)) := by rw [hw1]; exact heap_new _ _ _ (by simp)
  have hz1 : w1.heap.size = w.heap.size + 2 := by rw [hw1]; simp
  have HST1 := Lib.hid (h.below hL hb1)
  have HBOX := Lib.hid (show ∀ u : World, Below w1.heap.size w1 u → u.cell? ⟨w.heap.size, 0, none⟩ = some (.pointer (some ⟨L.BL, 0, none⟩)) ∧ u.cell? ⟨w.heap.size + 1, 0, none⟩ = some (.int .i64 d.1) ∧ u.cell? ⟨w.heap.size + 1, 1, none⟩ = some (.slice A nA cA) ∧ u.cell? ⟨w.heap.size + 1, 2, none⟩ = some (.slice N nA cN) from fun u hu => by
    have e1 := (hu.block _ (by omega)).trans hg1
    have e2 := (hu.block _ (by omega)).trans hg2
    simp [World.cell?, e1, e2])
  obtain ⟨k0, k1, k2, k3⟩ := HBOX.out w1 (Below.refl _ _)
  have htl := tellsWrong w1 w.heap.size L.BL L.T k0 HST1.out.cells.1
  have HTL := Lib.hid htl
  have HAW := Lib.hid (hA.below hb1)
  have HNW := Lib.hid (hN.below hb1)
  have HXW := Lib.hid (hx.below hb1)
  have HXL := Lib.hid hx.len
  have HL := Lib.hid hL
  have HB1 := Lib.hid hb1
  have HW1 := Lib.hid hw1
  have HZ1 := Lib.hid hz1
  have HS := Lib.hid hS
  have HV := Lib.hid hv
  have HCL := Lib.hid hcl
  have HW := Lib.hid hw
  have HRUN := Lib.hid hrun
  have HNE := Lib.hid hne
  have HNN := Lib.hid hnn
  have HLE := Lib.hid h.le
  have HBK := Lib.hid (h.flz _ h.flK)
  have hq : idxFn (fun _ => false) x = -1 := idxFn_none fun _ _ _ => rfl
  have hdq : decide (0 ≤ idxFn (fun _ => false) x) = false := by rw [hq]; rfl
  clear h hL hA hN hS hv hcl hx hw hrun hne hnn hw1 hb1 hg1 hg2 hz1 htl hq k0 k1 k2 k3
  go_enter Try.func48, Try.ntmps48
  go_wp2_with fail
  rw [← HW1.out]
  refine (containsFnInt w1 _ _ _ _ Aw nw cw _ x entersWrong HTL.out HXW.out.ints HW.out (by omega)).mono ?_
  rintro e w2 ⟨rfl, hb2⟩
  have HB2 := Lib.hid hb2
  obtain ⟨k0, k1, k2, k3⟩ := HBOX.out w2 hb2
  clear hb2
  go_wp2_with fail
  clear k0 k1 k2 k3 hdq
  go_loopg [7, 9, 20] nw (fun gk vs va vi wr => ∃ k : Nat, k ≤ nw ∧ gk = nw - k ∧ vi = .int .i64 k ∧ vs = .int .i64 (drun d (x.take k)) ∧ Below w1.heap.size w1 wr)
  case atStart => exact ⟨0, Nat.zero_le _, rfl, rfl, rfl, HB2.out⟩
  case round =>
    obtain ⟨k, hk, hgk, rfl, rfl, hb⟩ := hrel
    obtain ⟨w3, rfl⟩ : ∃ w3 : World, w3 = wr := ⟨_, rfl⟩
    have HGK := Lib.hid hgk
    have HB3 := Lib.hid hb
    obtain ⟨k0, k1, k2, k3⟩ := HBOX.out w3 hb
    have hrg := drun_range HV.out (l := x.take k) (fun y hy => by rw [HCL.out]; exact HW.out y (List.mem_of_mem_take hy)) (s := d.1) ⟨by have := HV.out.st; omega, HV.out.st.2⟩
    obtain ⟨ks, hks⟩ : ∃ ks : Nat, drun d (x.take k) = (ks : Int) := ⟨(drun d (x.take k)).toNat, by have := HRUN.out k; omega⟩
    have hkn : ks < nA := by
      have h1 : drun d (x.take k) < d.2.2.length := hrg.2
      rw [hks] at h1
      rw [HNN.out]
      omega
    have HKS := Lib.hid hks
    rw [hks]
    clear hgk hb hrg hks
    by_cases hlt : k < nw
    · obtain ⟨bx, ox, y, rfl, _, hy, hcy0⟩ := HXW.out.ints.int_at hlt
      have hcy : w3.cell? ⟨bx, ox + k, none⟩ = some (.int .i64 y) := (HB3.out.cell (cell_lt hcy0)).trans hcy0
      have hyr := HW.out y (List.mem_of_getElem? hy)
      obtain ⟨bN, oN, bR, oR, m, cR, hNe, hc1, hc2, hm, -⟩ := cell_at (HNW.out.below HB3.out) HV.out (s := (ks : Int)) (c := y) (by rw [← HNN.out]; omega) (by rw [HCL.out]; exact hyr)
      subst hNe
      rw [Int.toNat_natCast] at hc1
      have hy0 : (0 : Int) ≤ y := hyr.1
      have hym : y < (m : Int) := by rw [hm, HCL.out]; exact hyr.2
      have hkI : (ks : Int) < (nA : Int) := by omega
      have hk0 : (0 : Int) ≤ (ks : Int) := by omega
      have HY := Lib.hid hy
      clear hcy0 hy hyr hm k0 k1 k2
      go_wp2_with fail
      go_roundg (nw - (k + 1))
      case measure => rw [HGK.out]; omega
      case rel => exact ⟨k + 1, by omega, rfl, by go_num, by rw [int_step HY.out, drun_snoc, HKS.out], HB3.out⟩
    · obtain rfl : k = nw := by omega
      have ht : x.take k = x := List.take_of_length_le (by rw [← HXL.out]; omega)
      rw [ht] at HKS
      obtain ⟨bA, oA, hAe, hca, -⟩ := acc_at HAW.out HV.out (s := (ks : Int)) (by rw [← HNN.out]; omega)
      subst hAe
      rw [Int.toNat_natCast] at hca
      obtain ⟨y, hy⟩ : ∃ y, y = dat d (ks : Int) := ⟨_, rfl⟩
      rw [← hy] at hca
      have HD := Lib.hid (show daccept d x = decide (0 ≤ y) by unfold daccept; rw [HKS.out, hy])
      have hca3 := (HB3.out.cell (cell_lt hca)).trans hca
      have hkI : (ks : Int) < (nA : Int) := by omega
      have hk0 : (0 : Int) ≤ (ks : Int) := by omega
      have HST3 := Lib.hid (HST1.out.below HL.out HB3.out)
      have HSB := Lib.hid (show L.B0 ≤ bA ∧ bA ≠ L.BK ∧ bA < w1.heap.size from by
        obtain ⟨b, off, e, hb, _⟩ := HAW.out.ints.2 (by omega)
        injection e with e
        injection e with e
        subst e
        have := HS.out bA hb
        exact ⟨this.1, this.2, cell_lt hca⟩)
      have HS1 := Lib.hid (show w3.drew.cell? ⟨w.heap.size + 1, 1, none⟩ = some (.slice (some ⟨bA, oA, none⟩) nA cA) ∧ w3.drew.cell? ⟨bA, oA + ks, none⟩ = some (.int .i64 y) ∧ w3.drew.cell? ⟨w.heap.size, 0, none⟩ = some (.pointer (some ⟨L.BL, 0, none⟩)) from ⟨k2, hca3, k0⟩)
      clear ht hy hca hca3 k0 k1 k2 k3
      go_wp2_with fail
      refine wp_region_late (late := []) (S1 := fun u => u.cell? ⟨w.heap.size + 1, 1, none⟩ = some (.slice (some ⟨bA, oA, none⟩) nA cA) ∧ u.cell? ⟨bA, oA + ks, none⟩ = some (.int .i64 y) ∧ u.cell? ⟨w.heap.size, 0, none⟩ = some (.pointer (some ⟨L.BL, 0, none⟩))) (S := fun _ => True) (by kernel_rfl) ?_
      refine wpAnyL_pure (i := 0) rfl (by kernel_rfl) (fun _ _ _ h => h) (Or.inl ⟨by rfl, (fun u hu => by obtain ⟨k0, k1, k2⟩ := hu; go_simp; try rfl)⟩) HS1.out (fun _ => trivial) ?_
      simp only [Act.put, List.setIfInBounds_toArray, List.set_cons_zero, List.set_cons_succ, List.getElem_toArray, List.getElem_cons_zero, List.getElem_cons_succ]
      refine wpAnyL_pure (i := 1) rfl (by kernel_rfl) (fun _ _ _ h => h) (Or.inl ⟨by rfl, (fun u hu => by obtain ⟨k0, k1, k2⟩ := hu; go_simp; try rfl)⟩) HS1.out (fun _ => trivial) ?_
      simp only [Act.put, List.setIfInBounds_toArray, List.set_cons_zero, List.set_cons_succ, List.getElem_toArray, List.getElem_cons_zero, List.getElem_cons_succ]
      refine wpAnyL_pure (i := 2) rfl (by kernel_rfl) (fun _ _ _ h => h) (Or.inl ⟨by rfl, (fun u hu => by obtain ⟨k0, k1, k2⟩ := hu; go_simp; try rfl)⟩) HS1.out (fun _ => trivial) ?_
      simp only [Act.put, List.setIfInBounds_toArray, List.set_cons_zero, List.set_cons_succ, List.getElem_toArray, List.getElem_cons_zero, List.getElem_cons_succ]
      refine wpAnyL_pure (i := 3) rfl (by kernel_rfl) (fun _ _ _ h => h) (Or.inl ⟨by rfl, (fun u hu => by obtain ⟨k0, k1, k2⟩ := hu; go_simp; try rfl)⟩) HS1.out (fun _ => trivial) ?_
      simp only [Act.put, List.setIfInBounds_toArray, List.set_cons_zero, List.set_cons_succ, List.getElem_toArray, List.getElem_cons_zero, List.getElem_cons_succ]
      refine wpAnyL_pure (i := 4) rfl (by kernel_rfl) (fun _ _ _ h => h) (Or.inl ⟨by rfl, (fun u hu => by obtain ⟨k0, k1, k2⟩ := hu; go_simp; try rfl)⟩) HS1.out (fun _ => trivial) ?_
      simp only [Act.put, List.setIfInBounds_toArray, List.set_cons_zero, List.set_cons_succ, List.getElem_toArray, List.getElem_cons_zero, List.getElem_cons_succ]
      refine wpAnyL_pure (i := 5) rfl (by kernel_rfl) (fun _ _ _ h => h) (Or.inl ⟨by rfl, (fun u hu => by obtain ⟨k0, k1, k2⟩ := hu; go_simp; try rfl)⟩) HS1.out (fun _ => trivial) ?_
      simp only [Act.put, List.setIfInBounds_toArray, List.set_cons_zero, List.set_cons_succ, List.getElem_toArray, List.getElem_cons_zero, List.getElem_cons_succ]
      refine wpAnyL_pure (i := 6) rfl (by kernel_rfl) (fun _ _ _ h => h) (Or.inl ⟨by rfl, (fun u hu => by obtain ⟨k0, k1, k2⟩ := hu; go_simp; try rfl)⟩) HS1.out (fun _ => trivial) ?_
      simp only [Act.put, List.setIfInBounds_toArray, List.set_cons_zero, List.set_cons_succ, List.getElem_toArray, List.getElem_cons_zero, List.getElem_cons_succ]
      refine wpAnyL_pure (i := 7) rfl (by kernel_rfl) (fun _ _ _ h => h) (Or.inl ⟨by rfl, (fun u hu => by obtain ⟨k0, k1, k2⟩ := hu; go_simp; try rfl)⟩) HS1.out (fun _ => trivial) ?_
      simp only [Act.put, List.setIfInBounds_toArray, List.set_cons_zero, List.set_cons_succ, List.getElem_toArray, List.getElem_cons_zero, List.getElem_cons_succ]
      refine wpAnyL_ready (rs := [8]) (by kernel_rfl) (by simp) ?_
      refine AllL.cons rfl (fun K hK => ?_) ?_
      · go_simp
        refine (learnMember L HL.out w3.drew FL ws q vA vT vR access tests (HST3.out.drew HL.out) _ Aw k cw x ((HXW.out.below HB3.out).drew) HW.out (by have := HXL.out; omega) hws).mono ?_
        rintro e w4 ⟨rfl, hmp4⟩
        obtain ⟨_, _, _, ho4⟩ := id hmp4
        have HMP4 := Lib.hid hmp4
        have hz3 := HB3.out.size
        have hz1 := HZ1.out
        have hle := HLE.out
        have hbk := HBK.out
        have hsb := HSB.out
        have HS4 := Lib.hid (show w4.cell? ⟨w.heap.size + 1, 1, none⟩ = some (.slice (some ⟨bA, oA, none⟩) nA cA) ∧ w4.cell? ⟨bA, oA + ks, none⟩ = some (.int .i64 y) ∧ w4.cell? ⟨w.heap.size, 0, none⟩ = some (.pointer (some ⟨L.BL, 0, none⟩)) from by
          obtain ⟨c1, c2, c3⟩ := HS1.out
          refine ⟨(World.cell?_of_block (ho4.block (w.heap.size + 1) (cell_lt c1) (by omega))).trans c1, (World.cell?_of_block (ho4.block bA (cell_lt c2) (by omega))).trans c2, (World.cell?_of_block (ho4.block w.heap.size (cell_lt c3) (by omega))).trans c3⟩)
        clear hmp4 ho4 hz3 hz1 hle hbk hsb
        refine hK.out _ _ HS4.out (fun _ => trivial) ?_
        clear hK K
        refine wpAnyL_pure (i := 9) rfl (by kernel_rfl) (fun _ _ _ h => h) (Or.inl ⟨by rfl, (fun u hu => by obtain ⟨k0, k1, k2⟩ := hu; go_simp; try rfl)⟩) HS4.out (fun _ => trivial) ?_
        simp only [Act.put, List.setIfInBounds_toArray, List.set_cons_zero, List.set_cons_succ, List.getElem_toArray, List.getElem_cons_zero, List.getElem_cons_succ]
        refine wpAnyL_done (by kernel_rfl) ?_ _
        have hnb : decide (0 ≤ y) ≠ L.acc x := by rw [← HD.out]; exact HNE.out
        have hbe : (decide (0 ≤ y) == L.acc x) = false := by simpa using hnb
        rw [hbe]
        clear hnb hbe
        go_wp2_with fail
        go_ret
        exact ⟨rfl, MemPost.more (show MemPost L w3.drew FL ws q vA vT vR access tests 1 w4 from HMP4.out) (Only.of_below ((HB1.out.trans (HB3.out.mono HB1.out.size)).drew) (Nat.le_refl _) _) (Nat.le_refl _)⟩
      exact AllL.nil
end Go.Proofs.Ytgaahpddlohjoaa
