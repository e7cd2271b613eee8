/- Accepts ApproxExact -/
import Derived.BigQuiet
import Derived.Test.YtabnlbalekmmmaaDoorAe26
import Derived.Test.YtabnlbalekmmmaaDoorAe49
import Derived.Test.YtabnlbalekmmmaaDoorAe51
namespace Go.Proofs.YtabnlbalekmmmaaDoor
open Go.RowKit
theorem entersWord : ∀ (args : Array Value) (u : World), (callFunc 101 args).run Tryd.prog u = .ok (.enter 101 args) u := enters_of Tryd.func101 (by kernel_rfl) rfl
set_option linter.unusedSimpArgs false in
set_option maxRecDepth 100000 in
set_option maxHeartbeats 1000000 in
theorem tellsWord (w0 : World) (Bg : Nat) (T : Int) (a b c : Value) (h : w0.heap[Bg]? = some (.cells #[.int .i64 T, a, b, c] 25 (0, 0))) : TellsI Tryd.prog w0 (fun x => 0 ≤ x ∧ x < T) (fun _ => false) 101 #[.pointer (some ⟨Bg, 0, none⟩)] := by
 intro w hb x hx
 show Calls Tryd.prog 101 #[.int .i64 x, .pointer (some ⟨Bg, 0, none⟩)] w _
 have hg := (hb.block _ (heap_lt h)).trans h
 have hc : w.cell? ⟨Bg, 0, none⟩ = some (.int .i64 T) := by simp [World.cell?, hg]
 obtain ⟨h1, h2⟩ := hx
 have e1 : decide (x < 0) = false := by simp; omega
 have e2 : decide (T ≤ x) = false := by simp; omega
 clear h hb hg
 go_enter Tryd.func101, Tryd.ntmps101
 go_wp2_with fail
 go_ret
 exact ⟨rfl, Below.refl _ _⟩
set_option linter.unusedSimpArgs false in
set_option maxRecDepth 100000 in
set_option maxHeartbeats 2000000 in
theorem gramWord (w : World) (S : Nat → Prop) (T : Int) (a b c : Value) (A : Option Addr) (n cw : Nat) (ws : List Int) (hws : Rd w S 1 A n (ws.map (Value.int .i64))) (hT : ∀ x ∈ ws, 0 ≤ x ∧ x < T) (hn : n ≤ 12) :
    Calls Tryd.prog 66 #[.agg #[.int .i64 T, a, b, c], .slice A n cw, .int .i64 12] w fun e w' => e = .returned (.int .i64 0) ∧ Below w.heap.size w w' := by
 obtain ⟨w1, hw1⟩ : ∃ w1 : World, w1 = w.alloc (.cells #[.int .i64 T, a, b, c] 25) := ⟨_, rfl⟩
 have hb1 : Below w.heap.size w w1 := by rw [hw1]; exact (Below.refl _ _).alloc (Nat.le_refl _) _
 have hg1 : w1.heap[w.heap.size]? = some (.cells #[.int .i64 T, a, b, c] 25 (0, 0)) := by rw [hw1]; exact heap_alloc_new w _
 have HB1 := Lib.hid hb1
 have HG1 := Lib.hid hg1
 have HW := Lib.hid (hws.below hb1)
 have HT := Lib.hid hT
 have hgt : decide ((12 : Int) < (n : Int)) = false := by simp; omega
 clear hb1 hg1 hws hT
 go_enter Tryd.func66, Tryd.ntmps66
 go_wp2_with fail
 rw [← hw1]
 clear hw1
 refine (containsFnInt w1 _ _ _ _ A n cw _ ws entersWord (tellsWord w1 w.heap.size T a b c HG1.out) HW.out HT.out (by omega)).mono ?_
 rintro e w2 ⟨rfl, hb2⟩
 have hix : decide (0 ≤ idxFn (fun _ => false) ws) = false := by rw [idxFn_none (fun _ _ _ => rfl)]; rfl
 rw [hix]
 have HB2 := Lib.hid (HB1.out.trans (hb2.mono HB1.out.size))
 clear hb2 hix
 go_wp2_with fail
 go_ret
 exact ⟨rfl, HB2.out⟩
set_option linter.unusedSimpArgs false in
set_option maxRecDepth 100000 in
set_option maxHeartbeats 2000000 in
theorem meanCheck (w : World) (Sg S : Nat → Prop) (AR : Option Addr) (nR cR : Nat) (g : GramD) (hg : Sl RRule w Sg AR nR cR g.2.2.2) (hv : GValid g) (A : Option Addr) (n cw : Nat) (ws : List Int) (hws : Rd w S 1 A n (ws.map (Value.int .i64))) (hT : ∀ x ∈ ws, 0 ≤ x ∧ x < g.1) (hn : n ≤ 12) :
    Calls Tryd.prog 35 #[.agg #[.int .i64 g.1, .int .i64 g.2.1, .int .i64 g.2.2.1, .slice AR nR cR], .slice A n cw] w fun e w' => e = .returned (.int .i64 0) ∧ Below w.heap.size w w' := by
 obtain ⟨w1, hw1⟩ : ∃ w1 : World, w1 = w.alloc (.cells #[.int .i64 g.1, .int .i64 g.2.1, .int .i64 g.2.2.1, .slice AR nR cR] 25) := ⟨_, rfl⟩
 have hb1 : Below w.heap.size w w1 := by rw [hw1]; exact (Below.refl _ _).alloc (Nat.le_refl _) _
 have hg1 : w1.heap[w.heap.size]? = some (.cells #[.int .i64 g.1, .int .i64 g.2.1, .int .i64 g.2.2.1, .slice AR nR cR] 25 (0, 0)) := by rw [hw1]; exact heap_alloc_new w _
 have HB1 := Lib.hid hb1
 have HG1 := Lib.hid hg1
 have HW := Lib.hid (hws.below hb1)
 have HG := Lib.hid (hg.below hb1)
 have HV := Lib.hid hv
 have HT := Lib.hid hT
 clear hb1 hg1 hws hT hg hv
 go_enter Tryd.func35, Tryd.ntmps35
 go_wp2_with fail
 rw [← hw1]
 clear hw1
 refine (gramCheck w1 _ AR nR cR g HG.out HV.out).mono ?_
 rintro e w2 ⟨rfl, hb2⟩
 have HB2 := Lib.hid hb2
 have hg2 := (hb2.block _ (heap_lt HG1.out)).trans HG1.out
 have k0 : w2.cell? ⟨w.heap.size, 0, none⟩ = some (.int .i64 g.1) := by simp [World.cell?, hg2]
 have k1 : w2.cell? ⟨w.heap.size, 1, none⟩ = some (.int .i64 g.2.1) := by simp [World.cell?, hg2]
 have k2 : w2.cell? ⟨w.heap.size, 2, none⟩ = some (.int .i64 g.2.2.1) := by simp [World.cell?, hg2]
 have k3 : w2.cell? ⟨w.heap.size, 3, none⟩ = some (.slice AR nR cR) := by simp [World.cell?, hg2]
 clear hb2 hg2
 go_wp2_with fail
 clear k0 k1 k2 k3
 refine (gramWord w2 _ g.1 _ _ _ A n cw ws (HW.out.below HB2.out) HT.out hn).mono ?_
 rintro e w3 ⟨rfl, hb3⟩
 have HB3 := Lib.hid (HB1.out.trans ((HB2.out.mono HB1.out.size).trans (hb3.mono (by have := HB1.out.size; have := HB2.out.size; omega))))
 clear hb3
 go_wp2_with fail
 go_ret
 exact ⟨rfl, HB3.out⟩
theorem bit_val {X n : Nat} (hX : X < 4294967296) : (bits .and .u32 ((X : Int) / (2 : Int) ^ n) 1 == 1) = X.testBit n := by
 have e : (X : Int) / (2 : Int) ^ n = ((X / 2 ^ n : Nat) : Int) := by simp
 have h1 : X / 2 ^ n < 4294967296 := Nat.lt_of_le_of_lt (Nat.div_le_self _ _) hX
 rw [e, show (1 : Int) = ((1 : Nat) : Int) from rfl, u32_and_nat _ _ h1 (by decide), Nat.and_one_is_mod, Nat.testBit_eq_decide_div_mod_eq]
 generalize X / 2 ^ n % 2 = q
 rw [Bool.eq_iff_iff, decide_eq_true_eq, beq_iff_eq]
 omega
set_option linter.unusedSimpArgs false in
set_option maxRecDepth 1000000 in
set_option maxHeartbeats 4000000 in
theorem meanAccepts (w : World) (hTb : Tab w) (Sg S : Nat → Prop) (AR : Option Addr) (nR cR : Nat) (g : GramD) (hg : Sl RRule w Sg AR nR cR g.2.2.2) (hv : GValid g) (A : Option Addr) (n cw : Nat) (ws : List Int) (hws : Rd w S 1 A n (ws.map (Value.int .i64))) (hT : ∀ x ∈ ws, 0 ≤ x ∧ x < g.1) (hn : n ≤ 12) :
    Calls Tryd.prog 10 #[.agg #[.int .i64 g.1, .int .i64 g.2.1, .int .i64 g.2.2.1, .slice AR nR cR], .slice A n cw] w fun e w' => e = .returned (.tuple #[.bool (accD g.2.2.2 g.2.2.1 ws), .int .i64 0]) ∧ Below w.heap.size w w' := by
 obtain ⟨w1, hw1⟩ : ∃ w1 : World, w1 = w.alloc (.cells #[.int .i64 g.1, .int .i64 g.2.1, .int .i64 g.2.2.1, .slice AR nR cR] 25) := ⟨_, rfl⟩
 have hz1 : w1.heap.size = w.heap.size + 1 := by rw [hw1]; simp
 have hb1 : Below w.heap.size w w1 := by rw [hw1]; exact (Below.refl _ _).alloc (Nat.le_refl _) _
 have hg1 : w1.heap[w.heap.size]? = some (.cells #[.int .i64 g.1, .int .i64 g.2.1, .int .i64 g.2.2.1, .slice AR nR cR] 25 (0, 0)) := by rw [hw1]; exact heap_alloc_new w _
 have hall : ∀ u : World, Below w1.heap.size w1 u → u.cell? ⟨w.heap.size, 0, none⟩ = some (.int .i64 g.1) ∧ u.cell? ⟨w.heap.size, 1, none⟩ = some (.int .i64 g.2.1) ∧ u.cell? ⟨w.heap.size, 2, none⟩ = some (.int .i64 g.2.2.1) ∧ u.cell? ⟨w.heap.size, 3, none⟩ = some (.slice AR nR cR) := fun u hu => by
  have e := (hu.block _ (heap_lt hg1)).trans hg1
  simp [World.cell?, e]
 have hwl : ws.length = n := by simpa using hws.1
 obtain ⟨st, hst, hstN⟩ : ∃ st : Nat, g.2.2.1 = (st : Int) ∧ st < nonsOf g := ⟨g.2.2.1.toNat, by have := hv.st; omega, by have := hv.st; unfold nonsOf; omega⟩
 have hN10 : nonsOf g ≤ 10 := by have := hv.n2; unfold nonsOf; omega
 obtain ⟨N, hN⟩ : ∃ N, N = nonsOf g := ⟨_, rfl⟩
 rw [← hN] at hstN hN10
 have HALL := Lib.hid hall
 have HB1 := Lib.hid hb1
 have HW := Lib.hid (hws.below hb1)
 have HG := Lib.hid (hg.below hb1)
 have HV := Lib.hid hv
 have HT := Lib.hid hT
 have HTB := Lib.hid hTb
 have HWL := Lib.hid hwl
 have HN := Lib.hid hN
 have HST := Lib.hid hst
 obtain ⟨k0, k1, k2, k3⟩ := hall w1 (Below.refl _ _)
 rw [hw1] at k0 k1 k2 k3
 clear hb1 hg1 hws hT hg hv hall hTb hwl hN hst
 go_enter Tryd.func10, Tryd.ntmps10
 go_wp2_with fail
 rw [← hw1]
 clear hw1 k0 k1 k2 k3
 refine (meanCheck w1 _ _ AR nR cR g HG.out HV.out A n cw ws HW.out HT.out hn).mono ?_
 rintro e w2 ⟨rfl, hb2⟩
 have HB2 := Lib.hid hb2
 have hz2 := hb2.size
 have HK0 := Lib.hid (HALL.out w2.drew hb2.drew)
 have hstI : (st : Int) < (N : Int) := by omega
 have hst0 : (0 : Int) ≤ (st : Int) := by omega
 clear hb2
 go_wp2_with fail
 refine wp_region_late (late := []) (S1 := fun u => u.cell? ⟨w.heap.size, 0, none⟩ = some (.int .i64 g.1) ∧ u.cell? ⟨w.heap.size, 1, none⟩ = some (.int .i64 g.2.1) ∧ u.cell? ⟨w.heap.size, 2, none⟩ = some (.int .i64 g.2.2.1) ∧ u.cell? ⟨w.heap.size, 3, none⟩ = some (.slice AR nR cR)) (S := fun _ => True) (by kernel_rfl) ?_
 refine wpAnyL_pure (i := 0) rfl (by kernel_rfl) (fun _ _ _ h => h) (Or.inl ⟨by rfl, (fun u hu => by obtain ⟨k0, k1, k2, k3⟩ := hu; go_simp; try rfl)⟩) HK0.out (fun _ => trivial) ?_
 simp only [Act.put, List.setIfInBounds_toArray, List.set_cons_zero, List.set_cons_succ, List.getElem_toArray, List.getElem_cons_zero, List.getElem_cons_succ]
 refine wpAnyL_pure (i := 1) rfl (by kernel_rfl) (fun _ _ _ h => h) (Or.inl ⟨by rfl, (fun u hu => by obtain ⟨k0, k1, k2, k3⟩ := hu; go_simp; try rfl)⟩) HK0.out (fun _ => trivial) ?_
 simp only [Act.put, List.setIfInBounds_toArray, List.set_cons_zero, List.set_cons_succ, List.getElem_toArray, List.getElem_cons_zero, List.getElem_cons_succ]
 refine wpAnyL_pure (i := 3) rfl (by kernel_rfl) (fun _ _ _ h => h) (Or.inl ⟨by rfl, (fun u hu => by obtain ⟨k0, k1, k2, k3⟩ := hu; go_simp; try rfl)⟩) HK0.out (fun _ => trivial) ?_
 simp only [Act.put, List.setIfInBounds_toArray, List.set_cons_zero, List.set_cons_succ, List.getElem_toArray, List.getElem_cons_zero, List.getElem_cons_succ]
 refine wpAnyL_pure (i := 4) rfl (by kernel_rfl) (fun _ _ _ h => h) (Or.inl ⟨by rfl, (fun u hu => by have hst := HST.out; obtain ⟨k0, k1, k2, k3⟩ := hu; rw [hst] at k2; go_simp; try rfl)⟩) HK0.out (fun _ => trivial) ?_
 simp only [Act.put, List.setIfInBounds_toArray, List.set_cons_zero, List.set_cons_succ, List.getElem_toArray, List.getElem_cons_zero, List.getElem_cons_succ]
 refine wpAnyL_pure (i := 9) rfl (by kernel_rfl) (fun _ _ _ h => h) (Or.inl ⟨by rfl, (fun u hu => by obtain ⟨k0, k1, k2, k3⟩ := hu; go_simp; try rfl)⟩) HK0.out (fun _ => trivial) ?_
 simp only [Act.put, List.setIfInBounds_toArray, List.set_cons_zero, List.set_cons_succ, List.getElem_toArray, List.getElem_cons_zero, List.getElem_cons_succ]
 refine wpAnyL_pure (i := 10) rfl (by kernel_rfl) (fun _ _ _ h => h) (Or.inl ⟨by rfl, (fun u hu => by obtain ⟨k0, k1, k2, k3⟩ := hu; go_simp; try rfl)⟩) HK0.out (fun _ => trivial) ?_
 simp only [Act.put, List.setIfInBounds_toArray, List.set_cons_zero, List.set_cons_succ, List.getElem_toArray, List.getElem_cons_zero, List.getElem_cons_succ]
 refine wpAnyL_ready (rs := [2]) (by kernel_rfl) (by simp) ?_
 refine AllL.cons rfl (fun K hK => ?_) ?_
 ·
  go_simp
  refine (coreEnds w2.drew (HTB.out.below (HB1.out.trans (HB2.out.mono (by omega))).drew HTB.out.1) _ _ AR nR cR g (HG.out.below HB2.out).drew HV.out A n cw ws (HW.out.below HB2.out).drew hn).mono ?_
  rw [← HN.out]
  rintro e w3 ⟨H0, E, rfl, hH0, hH1, hgr, hbd, hsn, hcl, hb3⟩
  have HB3 := Lib.hid (HB2.out.drew.trans (hb3.mono (by show w1.heap.size ≤ w2.heap.size; omega)))
  have hch := hgr.hdr st hstN
  have hcc := hgr.cell (k := 0) hstN (by omega)
  have HCH := Lib.hid hch
  have HCC := Lib.hid hcc
  have hX32 : E st 0 < 4294967296 := by
   have h1 := hbd st 0
   have h2 := Nat.le_trans (Nat.pow_le_pow_right (by omega : 0 < 2) (by omega : n + 1 ≤ 13)) (by decide : 2 ^ 13 ≤ 8192)
   omega
  have HBIT := Lib.hid (bit_val (n := n) hX32)
  have HAC := Lib.hid (show (E st 0).testBit n = accD g.2.2.2 (st : Int) ws by
   rw [Bool.eq_iff_iff, accD_iff, HWL.out]
   exact ends_eq hsn hcl hstN (Nat.zero_le _))
  clear hch hcc hgr hbd hsn hcl hb3 hH0 hH1 hX32
  refine hK.out _ _ (HALL.out _ HB3.out) (fun _ => trivial) ?_
  clear hK K
  refine wpAnyL_pure (i := 5) rfl (by kernel_rfl) (fun _ _ _ h => h) (Or.inl ⟨by rfl, (fun u hu => by obtain ⟨k0, k1, k2, k3⟩ := hu; go_simp; try rfl)⟩) (HALL.out _ HB3.out) (fun _ => trivial) ?_
  simp only [Act.put, List.setIfInBounds_toArray, List.set_cons_zero, List.set_cons_succ, List.getElem_toArray, List.getElem_cons_zero, List.getElem_cons_succ]
  refine wpAnyL_ready (rs := [6]) (by kernel_rfl) (by simp) ?_
  refine AllL.cons rfl (fun K hK => ?_) ?_
  ·
   have hch := HCH.out
   go_simp
   clear hch
   refine hK.out _ _ (HALL.out _ HB3.out) (fun _ => trivial) ?_
   clear hK K
   refine wpAnyL_pure (i := 7) rfl (by kernel_rfl) (fun _ _ _ h => h) (Or.inl ⟨by rfl, (fun u hu => by obtain ⟨k0, k1, k2, k3⟩ := hu; go_simp; try rfl)⟩) (HALL.out _ HB3.out) (fun _ => trivial) ?_
   simp only [Act.put, List.setIfInBounds_toArray, List.set_cons_zero, List.set_cons_succ, List.getElem_toArray, List.getElem_cons_zero, List.getElem_cons_succ]
   refine wpAnyL_ready (rs := [8]) (by kernel_rfl) (by simp) ?_
   refine AllL.cons rfl (fun K hK => ?_) ?_
   ·
    have hcc := HCC.out
    go_simp
    clear hcc
    refine hK.out _ _ (HALL.out _ HB3.out) (fun _ => trivial) ?_
    clear hK K
    refine wpAnyL_pure (i := 11) rfl (by kernel_rfl) (fun _ _ _ h => h) (Or.inl ⟨by rfl, (fun u hu => by obtain ⟨k0, k1, k2, k3⟩ := hu; go_simp; try rfl)⟩) (HALL.out _ HB3.out) (fun _ => trivial) ?_
    simp only [Act.put, List.setIfInBounds_toArray, List.set_cons_zero, List.set_cons_succ, List.getElem_toArray, List.getElem_cons_zero, List.getElem_cons_succ]
    refine wpAnyL_pure (i := 12) rfl (by kernel_rfl) (fun _ _ _ h => h) (Or.inl ⟨by rfl, (fun u hu => by obtain ⟨k0, k1, k2, k3⟩ := hu; go_simp; try rfl)⟩) (HALL.out _ HB3.out) (fun _ => trivial) ?_
    simp only [Act.put, List.setIfInBounds_toArray, List.set_cons_zero, List.set_cons_succ, List.getElem_toArray, List.getElem_cons_zero, List.getElem_cons_succ]
    refine wpAnyL_pure (i := 13) rfl (by kernel_rfl) (fun _ _ _ h => h) (Or.inl ⟨by rfl, (fun u hu => by have htb := HBIT.out; go_simp; try rfl)⟩) (HALL.out _ HB3.out) (fun _ => trivial) ?_
    simp only [Act.put, List.setIfInBounds_toArray, List.set_cons_zero, List.set_cons_succ, List.getElem_toArray, List.getElem_cons_zero, List.getElem_cons_succ]
    refine wpAnyL_pure (i := 14) rfl (by kernel_rfl) (fun _ _ _ h => h) (Or.inl ⟨by rfl, (fun u hu => by obtain ⟨k0, k1, k2, k3⟩ := hu; go_simp; try rfl)⟩) (HALL.out _ HB3.out) (fun _ => trivial) ?_
    simp only [Act.put, List.setIfInBounds_toArray, List.set_cons_zero, List.set_cons_succ, List.getElem_toArray, List.getElem_cons_zero, List.getElem_cons_succ]
    refine wpAnyL_pure (i := 15) rfl (by kernel_rfl) (fun _ _ _ h => h) (Or.inl ⟨by rfl, (fun u hu => by obtain ⟨k0, k1, k2, k3⟩ := hu; go_simp; try rfl)⟩) (HALL.out _ HB3.out) (fun _ => trivial) ?_
    simp only [Act.put, List.setIfInBounds_toArray, List.set_cons_zero, List.set_cons_succ, List.getElem_toArray, List.getElem_cons_zero, List.getElem_cons_succ]
    refine wpAnyL_done (by kernel_rfl) ?_ _
    go_wp2_with fail
    go_ret2
    exact ⟨by rw [HAC.out, HST.out]; rfl, HB1.out.trans (HB3.out.mono (by omega))⟩
   exact AllL.nil
  exact AllL.nil
 exact AllL.nil
end Go.Proofs.YtabnlbalekmmmaaDoor
namespace Go.Proofs.YtabnlbalekmmmaaDoor
open Go.RowKit Go.Maps
theorem accCanon {w : World} {S Sw : Nat → Prop} {A NN Aw : Option Addr} {n c m c' nw cw : Nat} {d : DfaD} {l : List Int} (hv : Valid d) (hA : Sl Rep.int w S A n c (canonD d).2.1) (hN : Sl RI w S NN m c' (canonD d).2.2) (hw : Sl Rep.int w Sw Aw nw cw l) (hl : nw ≤ 4000) (hx : ∀ x ∈ l, 0 ≤ x ∧ x < cols (canonD d)) :
    Calls Tryd.prog 11 #[.agg #[.int .i64 0, .slice A n c, .slice NN m c'], .slice Aw nw cw] w fun e w' => e = .returned (.bool (daccept (canonD d) l)) ∧ Below w.heap.size w w' := by
 have h := keepAccepts w S A n c NN m c' (canonD d) hA hN (canon_valid hv) Sw Aw nw cw l hw hl hx
 rw [canon_start hv] at h
 exact h
theorem mkw_ok (t : Nat) (ht : 1 ≤ t) (most : Nat) (l : List Int) : (mkWordOf (t : Int) most l).length ≤ most ∧ ∀ x ∈ mkWordOf (t : Int) most l, 0 ≤ x ∧ x < (t : Int) := by
 refine ⟨by rw [mkWordOf_len]; omega, fun x hx => ?_⟩
 unfold mkWordOf at hx
 obtain ⟨y, _, rfl⟩ := List.mem_map.1 hx
 exact ⟨Int.emod_nonneg _ (by omega), Int.emod_lt_of_pos _ (by omega)⟩
theorem exact_acc {R : List RuleD} {N T s0 : Nat} {cf : Int → CompD} {accs : List Int} {rows : List (List Int)} {v : List Int} (H : CfOk R N cf) (hs : s0 < N) (h : ApxA (wholeN R cf N (s0 : Int)) T T accs rows) (hx : ExactP R cf (s0 : Int)) (hv : ∀ c ∈ v, 0 ≤ c ∧ c < (T : Int)) :
    daccept (canonD (ExD accs rows)) v = accD R (s0 : Int) v := by
 rw [Bool.eq_iff_iff, accD_lg]
 exact ⟨fun h1 => apx_only H hs h hx hv h1, fun h1 => (apx_word H hs h h1).2⟩
set_option linter.unusedSimpArgs false in
set_option maxRecDepth 100000 in
set_option maxHeartbeats 20000000 in
theorem approxExact_walk (W : World) (hTb : Tab W) (A0 : Option Addr) (n0 c0 : Nat) (z0 : List Int) (le0 : n0 ≤ c0) (cap0 : c0 ≤ 17592186043904) (rd0 : Rd W (fun _ => True) 1 A0 n0 (z0.map (Value.int .i64))) (_rg0 : ∀ z ∈ z0, -9223372036854775808 ≤ z ∧ z ≤ 9223372036854775807)
    (A1 : Option Addr) (n1 c1 : Nat) (z1 : List Int) (le1 : n1 ≤ c1) (cap1 : c1 ≤ 17592186043904) (rd1 : Rd W (fun _ => True) 1 A1 n1 (z1.map (Value.int .i64))) (_rg1 : ∀ z ∈ z1, -9223372036854775808 ≤ z ∧ z ≤ 9223372036854775807) :
    Calls Tryd.prog 3 #[.slice A0 n0 c0, .slice A1 n1 c1] W fun e W' => e = .returned (.bool true) ∧ Below W.heap.size W W' := by
 have HR0 := Lib.hid (rd0.slInts le0)
 have HR1 := Lib.hid rd1
 have HT := Lib.hid hTb
 clear hTb rd0 _rg0 rd1 _rg1
 go_enter Tryd.func3, Tryd.ntmps3
 go_wp2_with fail
 refine (makeGrammar _ _ _ _ _ z0 HR0.out (by omega)).mono ?_
 rintro e w1 ⟨⟨Tm, Nn, st, R⟩, AR, cR, hv, hsm, rfl, hg, hb1⟩
 obtain ⟨T, rfl⟩ : ∃ T : Nat, Tm = (T : Int) := ⟨Tm.toNat, by have := hv.t1; simp only at this; omega⟩
 obtain ⟨N, rfl⟩ : ∃ N : Nat, Nn = (N : Int) := ⟨Nn.toNat, by have := hv.n1; simp only at this; omega⟩
 obtain ⟨s0, rfl⟩ : ∃ s0 : Nat, st = (s0 : Int) := ⟨st.toNat, by have := hv.st; simp only at this; omega⟩
 have hs0 : s0 < N := by have := hv.st; simp only at this; omega
 dsimp only at hg ⊢
 obtain ⟨nR, hnR⟩ : ∃ nR, nR = R.length := ⟨_, rfl⟩
 rw [← hnR] at hg ⊢
 have HV := Lib.hid hv
 obtain ⟨w2, hw2⟩ : ∃ w2 : World, w2 = w1.alloc (.cells #[.int .i64 (T : Int), .int .i64 (N : Int), .int .i64 (s0 : Int), .slice AR nR cR] 25) := ⟨_, rfl⟩
 have hb12 : Below w1.heap.size w1 w2 := by rw [hw2]; exact (Below.refl _ _).alloc (Nat.le_refl _) _
 have HB2 := Lib.hid (hb1.trans (hb12.mono hb1.size))
 have HBG2 := Lib.hid (show w2.heap[w1.heap.size]? = some (.cells #[.int .i64 (T : Int), .int .i64 (N : Int), .int .i64 (s0 : Int), .slice AR nR cR] 25 (0, 0)) by rw [hw2]; exact heap_alloc_new _ _)
 have HG2 := Lib.hid (hg.below hb12)
 clear hv hsm hg hb1 hb12 hnR
 go_wp2_with fail
 rw [← hw2]
 clear hw2
 refine (keepPlain w2).mono ?_
 rintro e w3 ⟨AP, rfl, hp, hb3⟩
 have HP := Lib.hid hp
 have HB23 := Lib.hid hb3
 clear hp hb3
 go_wp2_with fail
 refine (apxOf w3 _ AP 2 2 plainG HP.out plain_valid).mono ?_
 rintro e w4 ⟨hr, hb4⟩
 obtain ⟨A4, n4, c4, N4, c4', rfl⟩ := apx_plain hr
 obtain ⟨w5, hw5⟩ : ∃ w5 : World, w5 = w4.alloc (.cells #[.int .i64 0, .slice A4 n4 c4, .slice N4 2 c4'] 29) := ⟨_, rfl⟩
 have hb45 : Below w4.heap.size w4 w5 := by rw [hw5]; exact (Below.refl _ _).alloc (Nat.le_refl _) _
 have HB25 := Lib.hid (HB23.out.trans ((hb4.mono HB23.out.size).trans (hb45.mono (Nat.le_trans HB23.out.size hb4.size))))
 have HBG5 := Lib.hid ((HB25.out.block _ (heap_lt HBG2.out)).trans HBG2.out)
 have HCG := Lib.hid (show ∀ u : World, u.heap[w1.heap.size]? = some (.cells #[.int .i64 (T : Int), .int .i64 (N : Int), .int .i64 (s0 : Int), .slice AR nR cR] 25 (0, 0)) → u.cell? ⟨w1.heap.size, 0, none⟩ = some (.int .i64 (T : Int)) ∧ u.cell? ⟨w1.heap.size, 1, none⟩ = some (.int .i64 (N : Int)) ∧ u.cell? ⟨w1.heap.size, 2, none⟩ = some (.int .i64 (s0 : Int)) ∧ u.cell? ⟨w1.heap.size, 3, none⟩ = some (.slice AR nR cR) from fun u h =>
  ⟨by simp [World.cell?, h], by simp [World.cell?, h], by simp [World.cell?, h], by simp [World.cell?, h]⟩)
 have HG5 := Lib.hid (HG2.out.below HB25.out)
 have HB5 := Lib.hid (HB2.out.trans (HB25.out.mono HB2.out.size))
 obtain ⟨g0, g1, g2, g3⟩ := HCG.out w5 HBG5.out
 rw [hw5] at g0 g1 g2 g3
 clear hr hb4 hb45
 go_wp2_with fail
 rw [← hw5]
 clear hw5 g0 g1 g2 g3
 refine (apxOf w5 _ AR nR cR ((T : Int), (N : Int), (s0 : Int), R) HG5.out HV.out).mono ?_
 rintro e w6 ⟨⟨cf, hcf, hr⟩, hb6⟩
 simp only [Int.toNat_natCast] at hcf hr
 have HCF := Lib.hid hcf
 have HB6 := Lib.hid (HB5.out.trans (hb6.mono HB5.out.size))
 have HBG6 := Lib.hid ((hb6.block _ (heap_lt HBG5.out)).trans HBG5.out)
 have HG6 := Lib.hid (HG5.out.below hb6)
 clear hcf hb6
 rcases hr with ⟨rfl, _⟩ | ⟨accs, rows, ex, A, n, c, NN, m, c', rfl, hx, hex, hA, hN⟩
 ·
  --@5
  go_wp2_with fail
  refine Go.bodyPost_ret (v := .bool true) ?_ ?_ ?_
  ·
   simp [results, Tryd.results3, go_sem]
  ·
   rfl
  ·
   exact ⟨rfl, HB6.out.alloc HB6.out.size _⟩
 ·
  cases ex with
  | false =>
   clear hx hex hA hN
   go_wp2_with fail
   refine Go.bodyPost_ret (v := .bool true) ?_ ?_ ?_
   ·
    simp [results, Tryd.results3, go_sem]
   ·
    rfl
   ·
    exact ⟨rfl, HB6.out.alloc HB6.out.size _⟩
  | true =>
   have HX := Lib.hid hx
   have HXP := Lib.hid (hex.1 rfl)
   have HA := Lib.hid hA
   have HN := Lib.hid hN
   clear hx hex hA hN
   obtain ⟨w7, hw7⟩ : ∃ w7 : World, w7 = w6.alloc (.cells #[.int .i64 0, .slice A n c, .slice NN m c'] 29) := ⟨_, rfl⟩
   have HB67 := Lib.hid (show Below w6.heap.size w6 w7 by rw [hw7]; exact (Below.refl _ _).alloc (Nat.le_refl _) _)
   have HBD7 := Lib.hid (show w7.heap[w6.heap.size]? = some (.cells #[.int .i64 0, .slice A n c, .slice NN m c'] 29 (0, 0)) by rw [hw7]; exact heap_alloc_new _ _)
   have HBG7 := Lib.hid ((HB67.out.block _ (heap_lt HBG6.out)).trans HBG6.out)
   obtain ⟨g0, g1, g2, g3⟩ := HCG.out w7 HBG7.out
   rw [hw7] at g0 g1 g2 g3
   have hT1 : 1 ≤ T := by have := HV.out.t1; simp only at this; omega
   have hT8 : T ≤ 8 := by have := HV.out.t2; simp only at this; omega
   have HB7 := Lib.hid (HB6.out.trans (HB67.out.mono HB6.out.size))
   go_wp2_with fail
   rw [← hw7]
   clear hw7 g0 g1 g2 g3
   refine (makeWord T 6 A1 n1 c1 _ z1 w7 (HR1.out.below HB7.out) (by omega) hT1 (by omega) (by omega)).mono ?_
   rintro e w8 ⟨A8, n8, c8, rfl, hsw, hb8⟩
   obtain ⟨hwl, hwx⟩ := mkw_ok T hT1 6 z1
   obtain ⟨v, hv⟩ : ∃ v, v = mkWordOf (T : Int) 6 z1 := ⟨_, rfl⟩
   rw [← hv] at hsw hwl hwx
   have hn8 : n8 ≤ 6 := by have := hsw.len; omega
   have HSW := Lib.hid hsw
   have HWX := Lib.hid hwx
   have HB68 := Lib.hid (HB67.out.trans (hb8.mono HB67.out.size))
   have HB8 := Lib.hid (HB7.out.trans (hb8.mono HB7.out.size))
   have HBD8 := Lib.hid ((hb8.block _ (heap_lt HBD7.out)).trans HBD7.out)
   have HBG8 := Lib.hid ((hb8.block _ (heap_lt HBG7.out)).trans HBG7.out)
   have HTW := Lib.hid (HT.out.below HB8.out (by have := HT.out.1; omega))
   obtain ⟨g0, g1, g2, g3⟩ := HCG.out w8 HBG8.out
   clear hsw hb8 hwl hwx hv
   go_wp2_with fail
   clear g0 g1 g2 g3
   refine (meanAccepts w8 HTW.out _ _ AR nR cR ((T : Int), (N : Int), (s0 : Int), R) (HG6.out.below HB68.out) HV.out A8 n8 c8 v HSW.out.ints HWX.out (by omega)).mono ?_
   rintro e w9 ⟨rfl, hb9⟩
   have HB89 := Lib.hid hb9
   have HAC := Lib.hid (exact_acc HCF.out hs0 HX.out HXP.out HWX.out)
   have HBD9 := Lib.hid ((hb9.block _ (heap_lt HBD8.out)).trans HBD8.out)
   have HWC := Lib.hid (show ∀ x ∈ v, 0 ≤ x ∧ x < cols (canonD (ExD accs rows)) from fun x hx => by rw [canon_cols HX.out.valid.1, HX.out.valid.2]; exact HWX.out x hx)
   have x0 : w9.cell? ⟨w6.heap.size, 0, none⟩ = some (.int .i64 0) := by simp [World.cell?, HBD9.out]
   have x1 : w9.cell? ⟨w6.heap.size, 1, none⟩ = some (.slice A n c) := by simp [World.cell?, HBD9.out]
   have x2 : w9.cell? ⟨w6.heap.size, 2, none⟩ = some (.slice NN m c') := by simp [World.cell?, HBD9.out]
   have HB69 := Lib.hid (HB68.out.trans (hb9.mono HB68.out.size))
   have HSW9 := Lib.hid (HSW.out.below hb9)
   have HBB9 := Lib.hid (HB8.out.trans (hb9.mono HB8.out.size))
   obtain ⟨bA, hbA⟩ : ∃ bA, bA = accD R (s0 : Int) v := ⟨_, rfl⟩
   dsimp only
   rw [← hbA] at HAC ⊢
   clear hb9 hbA
   go_wp2_with fail
   refine (accCanon HX.out.valid.1 (HA.out.below HB69.out) (HN.out.below HB69.out) HSW9.out (by omega) HWC.out).mono ?_
   rintro e w10 ⟨rfl, hb10⟩
   rw [HAC.out]
   have HB10 := Lib.hid (HBB9.out.trans (hb10.mono HBB9.out.size))
   clear hb10 x0 x1 x2
   go_wp2_with fail
   refine Go.bodyPost_ret (v := .bool true) ?_ ?_ ?_
   ·
    simp [results, Tryd.results3, go_sem]
   ·
    rfl
   ·
    exact ⟨by simp, HB10.out⟩
end Go.Proofs.YtabnlbalekmmmaaDoor
