/- gram.Word, mean.Accepts. -/
import Derived.Test.YtidigjfnifmiiaaDoorEnds
import Derived.Test.YtidigjfnifmiiaaDoorSlIdxFn
namespace Go.Proofs.YtidigjfnifmiiaaDoor
open Go.RowKit

theorem entersWord : ∀ (args : Array Value) (u : World), (callFunc 66 args).run Tryd.prog u = .ok (.enter 66 args) u := enters_of Tryd.func66 (by kernel_rfl) rfl
set_option linter.unusedSimpArgs false in
set_option maxRecDepth 100000 in
set_option maxHeartbeats 1000000 in
theorem tellsWord (w0 : World) (Bg : Nat) (T : Int) (a b c : Value) (h : w0.heap[Bg]? = some (.cells #[.int .i64 T, a, b, c] 25 (0, 0))) : TellsI Tryd.prog w0 (fun x => 0 ≤ x ∧ x < T) (fun _ => false) 66 #[.pointer (some ⟨Bg, 0, none⟩)] := by
  intro w hb x hx
  show Calls Tryd.prog 66 #[.int .i64 x, .pointer (some ⟨Bg, 0, none⟩)] w _
  have hg := (hb.block _ (heap_lt h)).trans h
  have hc : w.cell? ⟨Bg, 0, none⟩ = some (.int .i64 T) := by simp [World.cell?, hg]
  obtain ⟨h1, h2⟩ := hx
  have e1 : decide (x < 0) = false := by simp; omega
  have e2 : decide (T ≤ x) = false := by simp; omega
  clear h hb hg
  go_enter Tryd.func66, Tryd.ntmps66
  go_wp2_with fail
  go_ret
  exact ⟨rfl, Below.refl _ _⟩
set_option linter.unusedSimpArgs false in
set_option maxRecDepth 100000 in
set_option maxHeartbeats 2000000 in
theorem gramWord (w : World) (S : Nat → Prop) (T : Int) (a b c : Value) (A : Option Addr) (n cw : Nat) (ws : List Int) (hws : Rd w S 1 A n (ws.map (Value.int .i64))) (hT : ∀ x ∈ ws, 0 ≤ x ∧ x < T) (hn : n ≤ 12) :
    Calls Tryd.prog 45 #[.agg #[.int .i64 T, a, b, c], .slice A n cw, .int .i64 12] w fun e w' => e = .returned (.int .i64 0) ∧ Below w.heap.size w w' := by
  obtain ⟨w1, hw1⟩ : ∃ w1 : World, w1 = w.alloc (.cells #[.int .i64 T, a, b, c] 25) := ⟨_, rfl⟩
  have hb1 : Below w.heap.size w w1 := by rw [hw1]; exact (Below.refl _ _).alloc (Nat.le_refl _) _
  have hg1 : w1.heap[w.heap.size]? = some (.cells #[.int .i64 T, a, b, c] 25 (0, 0)) := by rw [hw1]; exact heap_alloc_new w _
  have HB1 := Lib.hid hb1
  have HG1 := Lib.hid hg1
  have HW := Lib.hid (hws.below hb1)
  have HT := Lib.hid hT
  have hgt : decide ((12 : Int) < (n : Int)) = false := by simp; omega
  clear hb1 hg1 hws hT
  go_enter Tryd.func45, Tryd.ntmps45
  go_wp2_with fail
  rw [← hw1]
  clear hw1
  refine (containsFnInt w1 _ _ _ _ A n cw _ ws entersWord (tellsWord w1 w.heap.size T a b c HG1.out) HW.out HT.out (by omega)).mono ?_
  rintro e w2 ⟨rfl, hb2⟩
  have hix : decide (0 ≤ idxFn (fun _ => false) ws) = false := by rw [idxFn_none (fun _ _ _ => rfl)]; rfl
  rw [hix]
  have HB2 := Lib.hid (HB1.out.trans (hb2.mono HB1.out.size))
  clear hb2 hix
  go_wp2_with fail
  go_ret
  exact ⟨rfl, HB2.out⟩
set_option linter.unusedSimpArgs false in
set_option maxRecDepth 100000 in
set_option maxHeartbeats 2000000 in
theorem meanCheck (w : World) (Sg S : Nat → Prop) (AR : Option Addr) (nR cR : Nat) (g : GramD) (hg : Sl RRule w Sg AR nR cR g.2.2.2) (hv : GValid g) (A : Option Addr) (n cw : Nat) (ws : List Int) (hws : Rd w S 1 A n (ws.map (Value.int .i64))) (hT : ∀ x ∈ ws, 0 ≤ x ∧ x < g.1) (hn : n ≤ 12) :
    Calls Tryd.prog 27 #[.agg #[.int .i64 g.1, .int .i64 g.2.1, .int .i64 g.2.2.1, .slice AR nR cR], .slice A n cw] w fun e w' => e = .returned (.int .i64 0) ∧ Below w.heap.size w w' := by
  obtain ⟨w1, hw1⟩ : ∃ w1 : World, w1 = w.alloc (.cells #[.int .i64 g.1, .int .i64 g.2.1, .int .i64 g.2.2.1, .slice AR nR cR] 25) := ⟨_, rfl⟩
  have hb1 : Below w.heap.size w w1 := by rw [hw1]; exact (Below.refl _ _).alloc (Nat.le_refl _) _
  have hg1 : w1.heap[w.heap.size]? = some (.cells #[.int .i64 g.1, .int .i64 g.2.1, .int .i64 g.2.2.1, .slice AR nR cR] 25 (0, 0)) := by rw [hw1]; exact heap_alloc_new w _
  have HB1 := Lib.hid hb1
  have HG1 := Lib.hid hg1
  have HW := Lib.hid (hws.below hb1)
  have HG := Lib.hid (hg.below hb1)
  have HV := Lib.hid hv
  have HT := Lib.hid hT
  clear hb1 hg1 hws hT hg hv
  go_enter Tryd.func27, Tryd.ntmps27
  go_wp2_with fail
  rw [← hw1]
  clear hw1
  refine (gramCheck w1 _ AR nR cR g HG.out HV.out).mono ?_
  rintro e w2 ⟨rfl, hb2⟩
  have HB2 := Lib.hid hb2
  have hg2 := (hb2.block _ (heap_lt HG1.out)).trans HG1.out
  have k0 : w2.cell? ⟨w.heap.size, 0, none⟩ = some (.int .i64 g.1) := by simp [World.cell?, hg2]
  have k1 : w2.cell? ⟨w.heap.size, 1, none⟩ = some (.int .i64 g.2.1) := by simp [World.cell?, hg2]
  have k2 : w2.cell? ⟨w.heap.size, 2, none⟩ = some (.int .i64 g.2.2.1) := by simp [World.cell?, hg2]
  have k3 : w2.cell? ⟨w.heap.size, 3, none⟩ = some (.slice AR nR cR) := by simp [World.cell?, hg2]
  clear hb2 hg2
  go_wp2_with fail
  clear k0 k1 k2 k3
  refine (gramWord w2 _ g.1 _ _ _ A n cw ws (HW.out.below HB2.out) HT.out hn).mono ?_
  rintro e w3 ⟨rfl, hb3⟩
  have HB3 := Lib.hid (HB1.out.trans ((HB2.out.mono HB1.out.size).trans (hb3.mono (by have := HB1.out.size; have := HB2.out.size; omega))))
  clear hb3
  go_wp2_with fail
  go_ret
  exact ⟨rfl, HB3.out⟩
theorem bit_val {X n : Nat} (hX : X < 4294967296) : (bits .and .u32 ((X : Int) / (2 : Int) ^ n) 1 == 1) = X.testBit n := by
  have e : (X : Int) / (2 : Int) ^ n = ((X / 2 ^ n : Nat) : Int) := by simp
  have h1 : X / 2 ^ n < 4294967296 := Nat.lt_of_le_of_lt (Nat.div_le_self _ _) hX
  rw [e, show (1 : Int) = ((1 : Nat) : Int) from rfl, u32_and_nat _ _ h1 (by decide), Nat.and_one_is_mod, Nat.testBit_eq_decide_div_mod_eq]
  generalize X / 2 ^ n % 2 = q
  rw [Bool.eq_iff_iff, decide_eq_true_eq, beq_iff_eq]
  omega
set_option linter.unusedSimpArgs false in
set_option maxRecDepth 1000000 in
set_option maxHeartbeats 4000000 in
theorem meanAccepts (w : World) (hTb : Tab w) (Sg S : Nat → Prop) (AR : Option Addr) (nR cR : Nat) (g : GramD) (hg : Sl RRule w Sg AR nR cR g.2.2.2) (hv : GValid g) (A : Option Addr) (n cw : Nat) (ws : List Int) (hws : Rd w S 1 A n (ws.map (Value.int .i64))) (hT : ∀ x ∈ ws, 0 ≤ x ∧ x < g.1) (hn : n ≤ 12) :
    Calls Tryd.prog 13 #[.agg #[.int .i64 g.1, .int .i64 g.2.1, .int .i64 g.2.2.1, .slice AR nR cR], .slice A n cw] w fun e w' => e = .returned (.tuple #[.bool (accD g.2.2.2 g.2.2.1 ws), .int .i64 0]) ∧ Below w.heap.size w w' := by
  obtain ⟨w1, hw1⟩ : ∃ w1 : World, w1 = w.alloc (.cells #[.int .i64 g.1, .int .i64 g.2.1, .int .i64 g.2.2.1, .slice AR nR cR] 25) := ⟨_, rfl⟩
  have hz1 : w1.heap.size = w.heap.size + 1 := by rw [hw1]; simp
  have hb1 : Below w.heap.size w w1 := by rw [hw1]; exact (Below.refl _ _).alloc (Nat.le_refl _) _
  have hg1 : w1.heap[w.heap.size]? = some (.cells #[.int .i64 g.1, .int .i64 g.2.1, .int .i64 g.2.2.1, .slice AR nR cR] 25 (0, 0)) := by rw [hw1]; exact heap_alloc_new w _
  have hall : ∀ u : World, Below w1.heap.size w1 u → u.cell? ⟨w.heap.size, 0, none⟩ = some (.int .i64 g.1) ∧ u.cell? ⟨w.heap.size, 1, none⟩ = some (.int .i64 g.2.1) ∧ u.cell? ⟨w.heap.size, 2, none⟩ = some (.int .i64 g.2.2.1) ∧ u.cell? ⟨w.heap.size, 3, none⟩ = some (.slice AR nR cR) := fun u hu => by
    have e := (hu.block _ (heap_lt hg1)).trans hg1
    simp [World.cell?, e]
  have hwl : ws.length = n := by simpa using hws.1
  obtain ⟨st, hst, hstN⟩ : ∃ st : Nat, g.2.2.1 = (st : Int) ∧ st < nonsOf g := ⟨g.2.2.1.toNat, by have := hv.st; omega, by have := hv.st; unfold nonsOf; omega⟩
  have hN10 : nonsOf g ≤ 10 := by have := hv.n2; unfold nonsOf; omega
  obtain ⟨N, hN⟩ : ∃ N, N = nonsOf g := ⟨_, rfl⟩
  rw [← hN] at hstN hN10
  have HALL := Lib.hid hall
  have HB1 := Lib.hid hb1
  have HW := Lib.hid (hws.below hb1)
  have HG := Lib.hid (hg.below hb1)
  have HV := Lib.hid hv
  have HT := Lib.hid hT
  have HTB := Lib.hid hTb
  have HWL := Lib.hid hwl
  have HN := Lib.hid hN
  have HST := Lib.hid hst
  obtain ⟨k0, k1, k2, k3⟩ := hall w1 (Below.refl _ _)
  rw [hw1] at k0 k1 k2 k3
  clear hb1 hg1 hws hT hg hv hall hTb hwl hN hst
  go_enter Tryd.func13, Tryd.ntmps13
  --@1
  go_wp2_with fail
  rw [← hw1]
  clear hw1 k0 k1 k2 k3
  refine (meanCheck w1 _ _ AR nR cR g HG.out HV.out A n cw ws HW.out HT.out hn).mono ?_
  rintro e w2 ⟨rfl, hb2⟩
  have HB2 := Lib.hid hb2
  have hz2 := hb2.size
  have HK0 := Lib.hid (HALL.out w2.drew hb2.drew)
  have hstI : (st : Int) < (N : Int) := by omega
  have hst0 : (0 : Int) ≤ (st : Int) := by omega
  clear hb2
  --@2
  go_wp2_with fail
  refine wp_region_late (late := []) (S1 := fun u => u.cell? ⟨w.heap.size, 0, none⟩ = some (.int .i64 g.1) ∧ u.cell? ⟨w.heap.size, 1, none⟩ = some (.int .i64 g.2.1) ∧ u.cell? ⟨w.heap.size, 2, none⟩ = some (.int .i64 g.2.2.1) ∧ u.cell? ⟨w.heap.size, 3, none⟩ = some (.slice AR nR cR)) (S := fun _ => True) (by kernel_rfl) ?_
  refine wpAnyL_pure (i := 0) rfl (by kernel_rfl) (fun _ _ _ h => h) (Or.inl ⟨by rfl, (fun u hu => by obtain ⟨k0, k1, k2, k3⟩ := hu; go_simp; try rfl)⟩) HK0.out (fun _ => trivial) ?_
  simp only [Act.put, List.setIfInBounds_toArray, List.set_cons_zero, List.set_cons_succ, List.getElem_toArray, List.getElem_cons_zero, List.getElem_cons_succ]
  refine wpAnyL_pure (i := 1) rfl (by kernel_rfl) (fun _ _ _ h => h) (Or.inl ⟨by rfl, (fun u hu => by obtain ⟨k0, k1, k2, k3⟩ := hu; go_simp; try rfl)⟩) HK0.out (fun _ => trivial) ?_
  simp only [Act.put, List.setIfInBounds_toArray, List.set_cons_zero, List.set_cons_succ, List.getElem_toArray, List.getElem_cons_zero, List.getElem_cons_succ]
  refine wpAnyL_pure (i := 3) rfl (by kernel_rfl) (fun _ _ _ h => h) (Or.inl ⟨by rfl, (fun u hu => by obtain ⟨k0, k1, k2, k3⟩ := hu; go_simp; try rfl)⟩) HK0.out (fun _ => trivial) ?_
  simp only [Act.put, List.setIfInBounds_toArray, List.set_cons_zero, List.set_cons_succ, List.getElem_toArray, List.getElem_cons_zero, List.getElem_cons_succ]
  refine wpAnyL_pure (i := 4) rfl (by kernel_rfl) (fun _ _ _ h => h) (Or.inl ⟨by rfl, (fun u hu => by have hst := HST.out; obtain ⟨k0, k1, k2, k3⟩ := hu; rw [hst] at k2; go_simp; try rfl)⟩) HK0.out (fun _ => trivial) ?_
  simp only [Act.put, List.setIfInBounds_toArray, List.set_cons_zero, List.set_cons_succ, List.getElem_toArray, List.getElem_cons_zero, List.getElem_cons_succ]
  refine wpAnyL_pure (i := 9) rfl (by kernel_rfl) (fun _ _ _ h => h) (Or.inl ⟨by rfl, (fun u hu => by obtain ⟨k0, k1, k2, k3⟩ := hu; go_simp; try rfl)⟩) HK0.out (fun _ => trivial) ?_
  simp only [Act.put, List.setIfInBounds_toArray, List.set_cons_zero, List.set_cons_succ, List.getElem_toArray, List.getElem_cons_zero, List.getElem_cons_succ]
  refine wpAnyL_pure (i := 10) rfl (by kernel_rfl) (fun _ _ _ h => h) (Or.inl ⟨by rfl, (fun u hu => by obtain ⟨k0, k1, k2, k3⟩ := hu; go_simp; try rfl)⟩) HK0.out (fun _ => trivial) ?_
  simp only [Act.put, List.setIfInBounds_toArray, List.set_cons_zero, List.set_cons_succ, List.getElem_toArray, List.getElem_cons_zero, List.getElem_cons_succ]
  refine wpAnyL_ready (rs := [2]) (by kernel_rfl) (by simp) ?_
  refine AllL.cons rfl (fun K hK => ?_) ?_
  · go_simp
    refine (coreEnds w2.drew (HTB.out.below (HB1.out.trans (HB2.out.mono (by omega))).drew HTB.out.1) _ _ AR nR cR g (HG.out.below HB2.out).drew HV.out A n cw ws (HW.out.below HB2.out).drew hn).mono ?_
    rw [← HN.out]
    rintro e w3 ⟨H0, E, rfl, hH0, hH1, hgr, hbd, hsn, hcl, hb3⟩
    have HB3 := Lib.hid (HB2.out.drew.trans (hb3.mono (by show w1.heap.size ≤ w2.heap.size; omega)))
    have hch := hgr.hdr st hstN
    have hcc := hgr.cell (k := 0) hstN (by omega)
    have HCH := Lib.hid hch
    have HCC := Lib.hid hcc
    have hX32 : E st 0 < 4294967296 := by
      have h1 := hbd st 0
      have h2 := Nat.le_trans (Nat.pow_le_pow_right (by omega : 0 < 2) (by omega : n + 1 ≤ 13)) (by decide : 2 ^ 13 ≤ 8192)
      omega
    have HBIT := Lib.hid (bit_val (n := n) hX32)
    have HAC := Lib.hid (show (E st 0).testBit n = accD g.2.2.2 (st : Int) ws by
      rw [Bool.eq_iff_iff, accD_iff, HWL.out]
      exact ends_eq hsn hcl hstN (Nat.zero_le _))
    clear hch hcc hgr hbd hsn hcl hb3 hH0 hH1 hX32
    refine hK.out _ _ (HALL.out _ HB3.out) (fun _ => trivial) ?_
    clear hK K
    refine wpAnyL_pure (i := 5) rfl (by kernel_rfl) (fun _ _ _ h => h) (Or.inl ⟨by rfl, (fun u hu => by obtain ⟨k0, k1, k2, k3⟩ := hu; go_simp; try rfl)⟩) (HALL.out _ HB3.out) (fun _ => trivial) ?_
    simp only [Act.put, List.setIfInBounds_toArray, List.set_cons_zero, List.set_cons_succ, List.getElem_toArray, List.getElem_cons_zero, List.getElem_cons_succ]
    refine wpAnyL_ready (rs := [6]) (by kernel_rfl) (by simp) ?_
    refine AllL.cons rfl (fun K hK => ?_) ?_
    · have hch := HCH.out
      go_simp
      clear hch
      refine hK.out _ _ (HALL.out _ HB3.out) (fun _ => trivial) ?_
      clear hK K
      refine wpAnyL_pure (i := 7) rfl (by kernel_rfl) (fun _ _ _ h => h) (Or.inl ⟨by rfl, (fun u hu => by obtain ⟨k0, k1, k2, k3⟩ := hu; go_simp; try rfl)⟩) (HALL.out _ HB3.out) (fun _ => trivial) ?_
      simp only [Act.put, List.setIfInBounds_toArray, List.set_cons_zero, List.set_cons_succ, List.getElem_toArray, List.getElem_cons_zero, List.getElem_cons_succ]
      refine wpAnyL_ready (rs := [8]) (by kernel_rfl) (by simp) ?_
      refine AllL.cons rfl (fun K hK => ?_) ?_
      · have hcc := HCC.out
        go_simp
        clear hcc
        refine hK.out _ _ (HALL.out _ HB3.out) (fun _ => trivial) ?_
        clear hK K
        refine wpAnyL_pure (i := 11) rfl (by kernel_rfl) (fun _ _ _ h => h) (Or.inl ⟨by rfl, (fun u hu => by obtain ⟨k0, k1, k2, k3⟩ := hu; go_simp; try rfl)⟩) (HALL.out _ HB3.out) (fun _ => trivial) ?_
        simp only [Act.put, List.setIfInBounds_toArray, List.set_cons_zero, List.set_cons_succ, List.getElem_toArray, List.getElem_cons_zero, List.getElem_cons_succ]
        refine wpAnyL_pure (i := 12) rfl (by kernel_rfl) (fun _ _ _ h => h) (Or.inl ⟨by rfl, (fun u hu => by obtain ⟨k0, k1, k2, k3⟩ := hu; go_simp; try rfl)⟩) (HALL.out _ HB3.out) (fun _ => trivial) ?_
        simp only [Act.put, List.setIfInBounds_toArray, List.set_cons_zero, List.set_cons_succ, List.getElem_toArray, List.getElem_cons_zero, List.getElem_cons_succ]
        refine wpAnyL_pure (i := 13) rfl (by kernel_rfl) (fun _ _ _ h => h) (Or.inl ⟨by rfl, (fun u hu => by have htb := HBIT.out; go_simp; try rfl)⟩) (HALL.out _ HB3.out) (fun _ => trivial) ?_
        simp only [Act.put, List.setIfInBounds_toArray, List.set_cons_zero, List.set_cons_succ, List.getElem_toArray, List.getElem_cons_zero, List.getElem_cons_succ]
        refine wpAnyL_pure (i := 14) rfl (by kernel_rfl) (fun _ _ _ h => h) (Or.inl ⟨by rfl, (fun u hu => by obtain ⟨k0, k1, k2, k3⟩ := hu; go_simp; try rfl)⟩) (HALL.out _ HB3.out) (fun _ => trivial) ?_
        simp only [Act.put, List.setIfInBounds_toArray, List.set_cons_zero, List.set_cons_succ, List.getElem_toArray, List.getElem_cons_zero, List.getElem_cons_succ]
        refine wpAnyL_pure (i := 15) rfl (by kernel_rfl) (fun _ _ _ h => h) (Or.inl ⟨by rfl, (fun u hu => by obtain ⟨k0, k1, k2, k3⟩ := hu; go_simp; try rfl)⟩) (HALL.out _ HB3.out) (fun _ => trivial) ?_
        simp only [Act.put, List.setIfInBounds_toArray, List.set_cons_zero, List.set_cons_succ, List.getElem_toArray, List.getElem_cons_zero, List.getElem_cons_succ]
        refine wpAnyL_done (by kernel_rfl) ?_ _
        go_wp2_with fail
        go_ret2
        exact ⟨by rw [HAC.out, HST.out]; rfl, HB1.out.trans (HB3.out.mono (by omega))⟩
      exact AllL.nil
    exact AllL.nil
  exact AllL.nil
end Go.Proofs.YtidigjfnifmiiaaDoor
