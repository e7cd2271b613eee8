/- MeetTrees -/
import Derived.Test.YtbmcoamdfpegnaaMt45
import Derived.Test.YtbmcoamdfpegnaaMt46
import Derived.Test.YtbmcoamdfpegnaaMt49
import Derived.Test.YtbmcoamdfpegnaaMt52
import Derived.Test.YtbmcoamdfpegnaaMt53
namespace Go.Proofs.Ytbmcoamdfpegnaa
open Go.RowKit Go.Maps
set_option linter.unusedSimpArgs false in
set_option maxRecDepth 100000 in
set_option maxHeartbeats 8000000 in
theorem meetTrees_walk (W : World) (A0 : Option Addr) (n0 c0 : Nat) (z0 : List Int) (le0 : n0 ≤ c0) (cap0 : c0 ≤ 17592186043904) (rd0 : Rd W (fun _ => True) 1 A0 n0 (z0.map (Value.int .i64))) (_rg0 : ∀ z ∈ z0, -9223372036854775808 ≤ z ∧ z ≤ 9223372036854775807)
    (A1 : Option Addr) (n1 c1 : Nat) (z1 : List Int) (le1 : n1 ≤ c1) (cap1 : c1 ≤ 17592186043904) (rd1 : Rd W (fun _ => True) 1 A1 n1 (z1.map (Value.int .i64))) (_rg1 : ∀ z ∈ z1, -9223372036854775808 ≤ z ∧ z ≤ 9223372036854775807)
    (A2 : Option Addr) (n2 c2 : Nat) (z2 : List Int) (le2 : n2 ≤ c2) (cap2 : c2 ≤ 17592186043904) (rd2 : Rd W (fun _ => True) 1 A2 n2 (z2.map (Value.int .i64))) (_rg2 : ∀ z ∈ z2, -9223372036854775808 ≤ z ∧ z ≤ 9223372036854775807) :
    Calls Try.prog 5 #[.slice A0 n0 c0, .slice A1 n1 c1, .slice A2 n2 c2] W fun e W' => e = .returned (.bool true) ∧ Below W.heap.size W W' := by
 have HR0 := Lib.hid (rd0.slInts le0)
 have HR1 := Lib.hid (rd1.slInts le1)
 have HR2 := Lib.hid (rd2.slInts le2)
 clear rd0 rd1 rd2 _rg0 _rg1 _rg2
 go_enter Try.func5, Try.ntmps5
 go_wp2_with fail
 refine (mkPair W A0 n0 c0 _ z0 HR0.out (by omega) A1 n1 c1 _ z1 HR1.out (by omega)).mono ?_
 rintro e w1 ⟨⟨g, d, AR, cR, A, nA, cA, NN, n, cN, hgs, hmi, rfl, hsr, hsa, hsn⟩, hb1⟩
 have HMI := Lib.hid hmi
 have HSR := Lib.hid hsr.fit
 have HSA := Lib.hid hsa.fit
 have HSN := Lib.hid hsn.fit
 have HB1 := Lib.hid hb1
 obtain ⟨nR, hnR⟩ : ∃ nR, nR = g.2.2.2.length := ⟨_, rfl⟩
 rw [← hnR] at HSR ⊢
 have HR2' := Lib.hid (HR2.out.fit.below hb1)
 clear hgs hmi hsr hsa hsn hb1 hnR
 obtain ⟨w2, hw2⟩ : ∃ w2 : World, w2 = (w1.alloc (.cells #[.int .i64 g.1, .int .i64 g.2.1, .int .i64 g.2.2.1, .slice AR nR cR] 25)).alloc (.cells #[.int .i64 d.1, .slice A nA cA, .slice NN n cN] 28) := ⟨_, rfl⟩
 have hb12 : Below w1.heap.size w1 w2 := by rw [hw2]; exact ((Below.refl _ _).alloc (Nat.le_refl _) _).alloc (by simp) _
 have hx5 : w2.heap[w1.heap.size]? = some (.cells #[.int .i64 g.1, .int .i64 g.2.1, .int .i64 g.2.2.1, .slice AR nR cR] 25 (0, 0)) := by rw [hw2, Below.heap_alloc _ _ _ (by simp)]; exact heap_alloc_new _ _
 have hx6 : w2.heap[w1.heap.size + 1]? = some (.cells #[.int .i64 d.1, .slice A nA cA, .slice NN n cN] 28 (0, 0)) := by
  rw [hw2, show w1.heap.size + 1 = (w1.alloc (.cells #[.int .i64 g.1, .int .i64 g.2.1, .int .i64 g.2.2.1, .slice AR nR cR] 25)).heap.size by simp]
  exact heap_alloc_new _ _
 have HALL := Lib.hid (show ∀ u : World, Below w2.heap.size w2 u → (u.cell? ⟨w1.heap.size, 0, none⟩ = some (.int .i64 g.1) ∧ u.cell? ⟨w1.heap.size, 1, none⟩ = some (.int .i64 g.2.1) ∧ u.cell? ⟨w1.heap.size, 2, none⟩ = some (.int .i64 g.2.2.1) ∧ u.cell? ⟨w1.heap.size, 3, none⟩ = some (.slice AR nR cR)) ∧ u.cell? ⟨w1.heap.size + 1, 0, none⟩ = some (.int .i64 d.1) ∧ u.cell? ⟨w1.heap.size + 1, 1, none⟩ = some (.slice A nA cA) ∧ u.cell? ⟨w1.heap.size + 1, 2, none⟩ = some (.slice NN n cN) from fun u hu => by
  have e1 := (hu.block _ (heap_lt hx5)).trans hx5
  have e2 := (hu.block _ (heap_lt hx6)).trans hx6
  simp [World.cell?, e1, e2])
 have HG := Lib.hid (HSR.out.below hb12)
 have HA := Lib.hid (HSA.out.below hb12)
 have HN := Lib.hid (HSN.out.below hb12)
 have HL2 := Lib.hid (HR2'.out.below hb12)
 have HBW := Lib.hid (show ∀ u : World, Below w2.heap.size w2 u → Below W.heap.size W u from fun u hu => HB1.out.trans ((hb12.trans (hu.mono hb12.size)).mono HB1.out.size))
 have HW2 := Lib.hid hw2
 clear hw2 hb12 hx5 hx6
 go_wp2_with fail
 rw [← HW2.out]
 refine (keepMeets w2).mono ?_
 rintro e w3 ⟨rfl, hb3⟩
 have HB3 := Lib.hid hb3
 obtain ⟨⟨k0, k1, k2, k3⟩, k4, k5, k6⟩ := HALL.out w3 hb3
 clear hb3
 go_wp2_with fail
 clear k0 k1 k2 k3 k4 k5 k6
 refine (makeTree w3 _ _ AR nR cR g (HG.out.below HB3.out) HMI.out.gv A2 n2 c2 z2 (HL2.out.below HB3.out) (by omega)).mono ?_
 rintro e w4 ⟨htm, hb4⟩
 have HB4 := Lib.hid (HB3.out.trans (hb4.mono HB3.out.size))
 clear hb4
 rcases htm with rfl | ⟨t, At, mt, ct, rfl, htv, hst, hsz⟩
 ·
  obtain ⟨w5, hw5⟩ : ∃ w5 : World, w5 = w4.alloc (.cells #[.int .i64 0, .int .i64 0, .slice none 0 0] 55) := ⟨_, rfl⟩
  have hb45 : Below w4.heap.size w4 w5 := by rw [hw5]; exact (Below.refl _ _).alloc (Nat.le_refl _) _
  have hb25 := HB4.out.trans (hb45.mono HB4.out.size)
  have HB5 := Lib.hid hb25
  obtain ⟨⟨k0, k1, k2, k3⟩, k4, k5, k6⟩ := HALL.out w5 hb25
  have HW5 := Lib.hid hw5
  rw [hw5] at k0 k1 k2 k3 k4 k5 k6
  clear hw5 hb45 hb25
  go_wp2_with fail
  go_at_call 8
  rw [← HW5.out]
  clear k0 k1 k2 k3 k4 k5 k6
  refine (mkOf w5 (fun _ => True) g d HMI.out AR nR cR ((HG.out.below HB5.out).more fun _ _ => trivial) A nA cA ((HA.out.below HB5.out).more fun _ _ => trivial) NN n cN ((HN.out.below HB5.out).more fun _ _ => trivial)).mono ?_
  rintro e w6 ⟨⟨M, V, hM, e1, e2, e3, e4, e5, hw, hc, hVt, L, hp, hL, hT, hof⟩, hb6⟩
  have HB6 := Lib.hid (HB5.out.trans (hb6.mono HB5.out.size))
  clear hb6 hM e1 e2 e3 e4 e5 hw hc hVt hp hL hT
  rcases hof with ⟨_, FR, FF, FN, vR, vN, vF, rfl, hgr, hgn, hgf, _⟩ | ⟨_, rfl⟩
  ·
   obtain ⟨AP, cP, rfl, _⟩ := hgr.form
   obtain ⟨AN, cNn, rfl, _⟩ := hgn.form
   obtain ⟨AF, cF, rfl, _⟩ := hgf.form
   clear hgr hgn hgf
   go_wp2_with fail
   go_ret
   exact ⟨rfl, (HBW.out w6 HB6.out).trans ((Below.refl _ _).alloc (by have := HBW.out w6 HB6.out; exact this.size) _)⟩
  ·
   go_wp2_with fail
   go_ret
   exact ⟨rfl, (HBW.out w6 HB6.out).trans ((Below.refl _ _).alloc (by have := HBW.out w6 HB6.out; exact this.size) _)⟩
 ·
  obtain ⟨w5, hw5⟩ : ∃ w5 : World, w5 = w4.alloc (.cells #[.int .i64 t.rule, .int .i64 t.term, .slice At mt ct] 55) := ⟨_, rfl⟩
  have hb45 : Below w4.heap.size w4 w5 := by rw [hw5]; exact (Below.refl _ _).alloc (Nat.le_refl _) _
  have hbt : w5.heap[w4.heap.size]? = some (.cells #[.int .i64 t.rule, .int .i64 t.term, .slice At mt ct] 55 (0, 0)) := by rw [hw5]; exact heap_alloc_new _ _
  have hb25 := HB4.out.trans (hb45.mono HB4.out.size)
  have HB5 := Lib.hid hb25
  have HT5 := Lib.hid (show ∀ u : World, Below w5.heap.size w5 u → u.cell? ⟨w4.heap.size, 0, none⟩ = some (.int .i64 t.rule) ∧ u.cell? ⟨w4.heap.size, 1, none⟩ = some (.int .i64 t.term) ∧ u.cell? ⟨w4.heap.size, 2, none⟩ = some (.slice At mt ct) from fun u hu => by
   obtain ⟨q0, q1, q2, _, _, _⟩ := tree_cells' ((hu.block _ (heap_lt hbt)).trans hbt)
   exact ⟨q0, q1, q2⟩)
  have HTV := Lib.hid htv
  have HST := Lib.hid (hst.fit.below hb45)
  have HSZ := Lib.hid hsz
  obtain ⟨⟨k0, k1, k2, k3⟩, k4, k5, k6⟩ := HALL.out w5 hb25
  have HW5 := Lib.hid hw5
  rw [hw5] at k0 k1 k2 k3 k4 k5 k6
  clear hw5 hb45 hb25 hbt htv hst hsz
  go_wp2_with fail
  go_at_call 8
  rw [← HW5.out]
  clear k0 k1 k2 k3 k4 k5 k6
  refine (mkOf w5 (fun _ => True) g d HMI.out AR nR cR ((HG.out.below HB5.out).more fun _ _ => trivial) A nA cA ((HA.out.below HB5.out).more fun _ _ => trivial) NN n cN ((HN.out.below HB5.out).more fun _ _ => trivial)).mono ?_
  rintro e w6 ⟨⟨M, V, hM, e1, e2, e3, e4, e5, hw, hc, hVt, L, hp, hL, hT, hof⟩, hb6⟩
  have HB56 := Lib.hid hb6
  have HB6 := Lib.hid (HB5.out.trans (hb6.mono HB5.out.size))
  rcases hof with ⟨hfew, FR, FF, FN, vR, vN, vF, rfl, hgr, hgn, hgf, _⟩ | ⟨_, rfl⟩
  ·
   have HPR := Lib.hid (show PrIn M V L from ⟨hM, hw, hc, hp, hL, hT⟩)
   have HVT := Lib.hid hVt
   have HE := Lib.hid (And.intro e1 (And.intro e2 e5))
   have HFEW := Lib.hid hfew
   obtain ⟨AP, cP, rfl, _⟩ := hgr.form
   obtain ⟨AN, cNn, rfl, _⟩ := hgn.form
   obtain ⟨AF, cF, rfl, _⟩ := hgf.form
   obtain ⟨nP, hnP⟩ : ∃ nP, nP = ((allPR M V L).map fun x => x.1).length := ⟨_, rfl⟩
   obtain ⟨nN, hnN⟩ : ∃ nN, nN = (((-1, -1, -1) : Int × Int × Int) :: L.map triZ).length := ⟨_, rfl⟩
   obtain ⟨nF, hnF⟩ : ∃ nF, nF = ((allPR M V L).map fun x => x.2.1).length := ⟨_, rfl⟩
   obtain ⟨nn, hnn⟩ : ∃ nn, nn = L.length + 1 := ⟨_, rfl⟩
   obtain ⟨MT, hMT⟩ : ∃ MT, MT = M.T := ⟨_, rfl⟩
   have HLI := Lib.hid (show LstIn MT nn ((allPR M V L).map fun x => x.1) by rw [hMT, hnn]; exact all_in hM)
   have hnn1 : 1 ≤ nn := by omega
   rw [← hnP] at hgr ⊢
   rw [← hnN] at ⊢
   rw [← hnF] at hgf ⊢
   rw [← hnn, ← hMT]
   have HSP := Lib.hid hgr.sl.fit
   have HSF := Lib.hid hgf.sl.fit
   obtain ⟨w7, hw7⟩ : ∃ w7 : World, w7 = w6.alloc (.cells #[.int .i64 (MT : Int), .int .i64 (nn : Int), .int .i64 0, .slice AP nP cP, .slice AN nN cNn, .slice AF nF cF] 34) := ⟨_, rfl⟩
   have hb67 : Below w6.heap.size w6 w7 := by rw [hw7]; exact (Below.refl _ _).alloc (Nat.le_refl _) _
   have hbp : w7.heap[w6.heap.size]? = some (.cells #[.int .i64 (MT : Int), .int .i64 (nn : Int), .int .i64 0, .slice AP nP cP, .slice AN nN cNn, .slice AF nF cF] 34 (0, 0)) := by rw [hw7]; exact heap_alloc_new _ _
   have HB67 := Lib.hid hb67
   have hb27 := HB6.out.trans (hb67.mono HB6.out.size)
   have HB7 := Lib.hid hb27
   have hb57 := HB56.out.trans (hb67.mono HB56.out.size)
   have HB57 := Lib.hid hb57
   have HP7 := Lib.hid (show ∀ u : World, Below w7.heap.size w7 u → u.cell? ⟨w6.heap.size, 0, none⟩ = some (.int .i64 (MT : Int)) ∧ u.cell? ⟨w6.heap.size, 1, none⟩ = some (.int .i64 (nn : Int)) ∧ u.cell? ⟨w6.heap.size, 2, none⟩ = some (.int .i64 0) ∧ u.cell? ⟨w6.heap.size, 3, none⟩ = some (.slice AP nP cP) ∧ u.cell? ⟨w6.heap.size, 4, none⟩ = some (.slice AN nN cNn) ∧ u.cell? ⟨w6.heap.size, 5, none⟩ = some (.slice AF nF cF) from fun u hu => by
    have e1 := (hu.block _ (heap_lt hbp)).trans hbp
    simp [World.cell?, e1])
   obtain ⟨⟨k0, k1, k2, k3⟩, k4, k5, k6⟩ := HALL.out w7 hb27
   obtain ⟨t0, t1, t2⟩ := HT5.out w7 hb57
   have HW7 := Lib.hid hw7
   rw [hw7] at k0 k1 k2 k3 k4 k5 k6 t0 t1 t2
   clear hM e1 e2 e3 e4 e5 hw hc hVt hp hL hT hgr hgn hgf hnP hnN hnF hnn hMT hw7 hb67 hbp hb27 hb57 hb6 hfew
   go_wp2_with fail
   go_at_call 15
   rw [← HW7.out]
   clear k0 k1 k2 k3 k4 k5 k6 t0 t1 t2
   refine (mkInto w7 (fun _ => True) _ g d HMI.out AR nR cR ((HG.out.below HB7.out).more fun _ _ => trivial) A nA cA ((HA.out.below HB7.out).more fun _ _ => trivial) NN n cN ((HN.out.below HB7.out).more fun _ _ => trivial) t At mt ct (HST.out.below HB57.out) HTV.out (by have := HSZ.out; omega)).mono ?_
   rintro e w8 ⟨⟨M2, V2, L2, hpr2, hv2, f1, f2, f3, hcase⟩, hb8⟩
   obtain ⟨hLL, hPP⟩ := pr_same hpr2 HPR.out hv2 HVT.out (f1.trans HE.out.1.symm) (f2.trans HE.out.2.1.symm) (f3.trans HE.out.2.2.symm)
   have HB78 := Lib.hid hb8
   have HB8 := Lib.hid (HB7.out.trans (hb8.mono HB7.out.size))
   have hrg : ∀ c ∈ wordT t, 0 ≤ c ∧ c < (cols d : Int) := by
    have h1 := word_rng HPR.out.hM (t := t) (by rw [HE.out.2.1, HE.out.2.2]; have h2 := HMI.out.gv.st; rw [Int.toNat_of_nonneg h2.1]; exact HTV.out)
    rw [HE.out.1] at h1
    exact h1
   have HRG := Lib.hid hrg
   clear hrg hb8
   rcases hcase with ⟨hl, _⟩ | ⟨_, ⟨hda, rfl⟩ | ⟨hda, X, AX, mX, cX, hX, rfl, hsX⟩⟩
   ·
    exfalso
    rw [hPP] at hl
    have := HFEW.out
    omega
   ·
    have HDA := Lib.hid hda
    clear hpr2 hv2 f1 f2 f3 hLL hPP hda
    obtain ⟨w9, hw9⟩ : ∃ w9 : World, w9 = w8.alloc (.cells #[.int .i64 0, .int .i64 0, .slice none 0 0] 55) := ⟨_, rfl⟩
    have hb89 : Below w8.heap.size w8 w9 := by rw [hw9]; exact (Below.refl _ _).alloc (Nat.le_refl _) _
    have HB9 := Lib.hid (HB8.out.trans (hb89.mono HB8.out.size))
    have HB59 := Lib.hid (HB57.out.trans ((HB78.out.trans (hb89.mono HB78.out.size)).mono HB57.out.size))
    have HW9 := Lib.hid hw9
    clear hw9 hb89
    go_wp2_with fail
    rw [← HW9.out]
    have HF9 := Lib.hid (show ∀ u : World, Below w9.heap.size w9 u → (u.cell? ⟨w1.heap.size + 1, 0, none⟩ = some (.int .i64 d.1) ∧ u.cell? ⟨w1.heap.size + 1, 1, none⟩ = some (.slice A nA cA) ∧ u.cell? ⟨w1.heap.size + 1, 2, none⟩ = some (.slice NN n cN)) ∧ u.cell? ⟨w4.heap.size, 0, none⟩ = some (.int .i64 t.rule) ∧ u.cell? ⟨w4.heap.size, 1, none⟩ = some (.int .i64 t.term) ∧ u.cell? ⟨w4.heap.size, 2, none⟩ = some (.slice At mt ct) from fun u hu =>
     ⟨(HALL.out u (HB9.out.trans (hu.mono HB9.out.size))).2, HT5.out u (HB59.out.trans (hu.mono HB59.out.size))⟩)
    refine wp_region_late (late := []) (S1 := fun u => (u.cell? ⟨w1.heap.size + 1, 0, none⟩ = some (.int .i64 d.1) ∧ u.cell? ⟨w1.heap.size + 1, 1, none⟩ = some (.slice A nA cA) ∧ u.cell? ⟨w1.heap.size + 1, 2, none⟩ = some (.slice NN n cN)) ∧ u.cell? ⟨w4.heap.size, 0, none⟩ = some (.int .i64 t.rule) ∧ u.cell? ⟨w4.heap.size, 1, none⟩ = some (.int .i64 t.term) ∧ u.cell? ⟨w4.heap.size, 2, none⟩ = some (.slice At mt ct)) (S := fun _ => True) (by kernel_rfl) ?_
    refine wpAnyL_pure (i := 0) rfl (by kernel_rfl) (fun _ _ _ h => h) (Or.inl ⟨by rfl, (fun u hu => by obtain ⟨⟨k0, k1, k2⟩, k3, k4, k5⟩ := hu; go_simp; try rfl)⟩) (HF9.out _ (Below.refl _ _).drew) (fun _ => trivial) ?_
    simp only [Act.put, List.setIfInBounds_toArray, List.set_cons_zero, List.set_cons_succ, List.getElem_toArray, List.getElem_cons_zero, List.getElem_cons_succ]
    refine wpAnyL_pure (i := 1) rfl (by kernel_rfl) (fun _ _ _ h => h) (Or.inl ⟨by rfl, (fun u hu => by obtain ⟨⟨k0, k1, k2⟩, k3, k4, k5⟩ := hu; go_simp; try rfl)⟩) (HF9.out _ (Below.refl _ _).drew) (fun _ => trivial) ?_
    simp only [Act.put, List.setIfInBounds_toArray, List.set_cons_zero, List.set_cons_succ, List.getElem_toArray, List.getElem_cons_zero, List.getElem_cons_succ]
    refine wpAnyL_ready (rs := [2]) (by kernel_rfl) (by simp) ?_
    refine AllL.cons rfl (fun K hK => ?_) ?_
    ·
     go_simp
     refine (treeWord w9.drew _ t At mt ct (HST.out.below HB59.out).drew HTV.out.leaves (by have := HSZ.out; omega)).mono ?_
     rintro e wA ⟨Aw, cw, rfl, hwr, hcw, hbA⟩
     have HQA := Lib.hid ((Below.refl w9.heap.size w9).drew.trans hbA)
     have HWR := Lib.hid (Rd.slInts hwr hcw)
     clear hwr hcw hbA
     refine hK.out _ _ (HF9.out _ HQA.out) (fun _ => trivial) ?_
     clear hK K
     refine wpAnyL_ready (rs := [3]) (by kernel_rfl) (by simp) ?_
     refine AllL.cons rfl (fun K hK => ?_) ?_
     ·
      go_simp
      refine (keepAccepts wA (fun _ => True) A nA cA NN n cN d ((HA.out.below (HB9.out.trans (HQA.out.mono HB9.out.size))).more fun _ _ => trivial) ((HN.out.below (HB9.out.trans (HQA.out.mono HB9.out.size))).more fun _ _ => trivial) HMI.out.dv _ Aw (wordT t).length cw (wordT t) HWR.out (by have h1 : (wordT t).length ≤ sizeT t := (by unfold wordT wordOf sizeT; rw [List.length_map]; exact List.length_filter_le _ _); have := HSZ.out; omega) HRG.out).mono ?_
      rintro e wB ⟨rfl, hbB⟩
      rw [HDA.out]
      have HQB := Lib.hid (HQA.out.trans (hbB.mono HQA.out.size))
      clear hbB
      refine hK.out _ _ (HF9.out _ HQB.out) (fun _ => trivial) ?_
      clear hK K
      refine wpAnyL_pure (i := 4) rfl (by kernel_rfl) (fun _ _ _ h => h) (Or.inl ⟨by rfl, (fun u hu => by obtain ⟨⟨k0, k1, k2⟩, k3, k4, k5⟩ := hu; go_simp; try rfl)⟩) (HF9.out _ HQB.out) (fun _ => trivial) ?_
      simp only [Act.put, List.setIfInBounds_toArray, List.set_cons_zero, List.set_cons_succ, List.getElem_toArray, List.getElem_cons_zero, List.getElem_cons_succ]
      refine wpAnyL_done (by kernel_rfl) ?_ _
      go_wp2_with fail
      go_ret
      exact ⟨rfl, HBW.out _ (HB9.out.trans (HQB.out.mono HB9.out.size))⟩
     exact AllL.nil
    exact AllL.nil
   ·
    have HX := Lib.hid (show IntoD M V L t X by
     have hd : M2.d = M.d := f1.trans HE.out.1.symm
     have hR : M2.R = M.R := f2.trans HE.out.2.1.symm
     have hs : M2.st = M.st := f3.trans HE.out.2.2.symm
     exact IntoD.same hd hR hs hLL hPP hX)
    have HDA := Lib.hid hda
    clear hpr2 hv2 f1 f2 f3 hLL hPP hda hX
    obtain ⟨w9, hw9⟩ : ∃ w9 : World, w9 = w8.alloc (.cells #[.int .i64 X.rule, .int .i64 X.term, .slice AX mX cX] 55) := ⟨_, rfl⟩
    have hb89 : Below w8.heap.size w8 w9 := by rw [hw9]; exact (Below.refl _ _).alloc (Nat.le_refl _) _
    have hbx : w9.heap[w8.heap.size]? = some (.cells #[.int .i64 X.rule, .int .i64 X.term, .slice AX mX cX] 55 (0, 0)) := by rw [hw9]; exact heap_alloc_new _ _
    have HX9 := Lib.hid (show ∀ u : World, Below w9.heap.size w9 u → u.cell? ⟨w8.heap.size, 0, none⟩ = some (.int .i64 X.rule) ∧ u.cell? ⟨w8.heap.size, 1, none⟩ = some (.int .i64 X.term) ∧ u.cell? ⟨w8.heap.size, 2, none⟩ = some (.slice AX mX cX) from fun u hu => by
     obtain ⟨q0, q1, q2, _, _, _⟩ := tree_cells' ((hu.block _ (heap_lt hbx)).trans hbx)
     exact ⟨q0, q1, q2⟩)
    have HSX := Lib.hid (hsX.below hb89)
    have HB79 := Lib.hid (HB78.out.trans (hb89.mono HB78.out.size))
    have HB9 := Lib.hid (HB8.out.trans (hb89.mono HB8.out.size))
    have HB59 := Lib.hid (HB57.out.trans (HB79.out.mono HB57.out.size))
    have HW9 := Lib.hid hw9
    clear hw9 hb89 hbx hsX
    go_wp2_with fail
    rw [← HW9.out]
    have HF9 := Lib.hid (show ∀ u : World, Below w9.heap.size w9 u → (u.cell? ⟨w1.heap.size + 1, 0, none⟩ = some (.int .i64 d.1) ∧ u.cell? ⟨w1.heap.size + 1, 1, none⟩ = some (.slice A nA cA) ∧ u.cell? ⟨w1.heap.size + 1, 2, none⟩ = some (.slice NN n cN)) ∧ u.cell? ⟨w4.heap.size, 0, none⟩ = some (.int .i64 t.rule) ∧ u.cell? ⟨w4.heap.size, 1, none⟩ = some (.int .i64 t.term) ∧ u.cell? ⟨w4.heap.size, 2, none⟩ = some (.slice At mt ct) from fun u hu =>
     ⟨(HALL.out u (HB9.out.trans (hu.mono HB9.out.size))).2, HT5.out u (HB59.out.trans (hu.mono HB59.out.size))⟩)
    refine wp_region_late (late := []) (S1 := fun u => (u.cell? ⟨w1.heap.size + 1, 0, none⟩ = some (.int .i64 d.1) ∧ u.cell? ⟨w1.heap.size + 1, 1, none⟩ = some (.slice A nA cA) ∧ u.cell? ⟨w1.heap.size + 1, 2, none⟩ = some (.slice NN n cN)) ∧ u.cell? ⟨w4.heap.size, 0, none⟩ = some (.int .i64 t.rule) ∧ u.cell? ⟨w4.heap.size, 1, none⟩ = some (.int .i64 t.term) ∧ u.cell? ⟨w4.heap.size, 2, none⟩ = some (.slice At mt ct)) (S := fun _ => True) (by kernel_rfl) ?_
    refine wpAnyL_pure (i := 0) rfl (by kernel_rfl) (fun _ _ _ h => h) (Or.inl ⟨by rfl, (fun u hu => by obtain ⟨⟨k0, k1, k2⟩, k3, k4, k5⟩ := hu; go_simp; try rfl)⟩) (HF9.out _ (Below.refl _ _).drew) (fun _ => trivial) ?_
    simp only [Act.put, List.setIfInBounds_toArray, List.set_cons_zero, List.set_cons_succ, List.getElem_toArray, List.getElem_cons_zero, List.getElem_cons_succ]
    refine wpAnyL_pure (i := 1) rfl (by kernel_rfl) (fun _ _ _ h => h) (Or.inl ⟨by rfl, (fun u hu => by obtain ⟨⟨k0, k1, k2⟩, k3, k4, k5⟩ := hu; go_simp; try rfl)⟩) (HF9.out _ (Below.refl _ _).drew) (fun _ => trivial) ?_
    simp only [Act.put, List.setIfInBounds_toArray, List.set_cons_zero, List.set_cons_succ, List.getElem_toArray, List.getElem_cons_zero, List.getElem_cons_succ]
    refine wpAnyL_ready (rs := [2]) (by kernel_rfl) (by simp) ?_
    refine AllL.cons rfl (fun K hK => ?_) ?_
    ·
     go_simp
     refine (treeWord w9.drew _ t At mt ct (HST.out.below HB59.out).drew HTV.out.leaves (by have := HSZ.out; omega)).mono ?_
     rintro e wA ⟨Aw, cw, rfl, hwr, hcw, hbA⟩
     have HQA := Lib.hid ((Below.refl w9.heap.size w9).drew.trans hbA)
     have HWR := Lib.hid (Rd.slInts hwr hcw)
     clear hwr hcw hbA
     refine hK.out _ _ (HF9.out _ HQA.out) (fun _ => trivial) ?_
     clear hK K
     refine wpAnyL_ready (rs := [3]) (by kernel_rfl) (by simp) ?_
     refine AllL.cons rfl (fun K hK => ?_) ?_
     ·
      go_simp
      refine (keepAccepts wA (fun _ => True) A nA cA NN n cN d ((HA.out.below (HB9.out.trans (HQA.out.mono HB9.out.size))).more fun _ _ => trivial) ((HN.out.below (HB9.out.trans (HQA.out.mono HB9.out.size))).more fun _ _ => trivial) HMI.out.dv _ Aw (wordT t).length cw (wordT t) HWR.out (by have h1 : (wordT t).length ≤ sizeT t := (by unfold wordT wordOf sizeT; rw [List.length_map]; exact List.length_filter_le _ _); have := HSZ.out; omega) HRG.out).mono ?_
      rintro e wB ⟨rfl, hbB⟩
      rw [HDA.out]
      have HQB := Lib.hid (HQA.out.trans (hbB.mono HQA.out.size))
      clear hbB
      refine hK.out _ _ (HF9.out _ HQB.out) (fun _ => trivial) ?_
      clear hK K
      refine wpAnyL_pure (i := 4) rfl (by kernel_rfl) (fun _ _ _ h => h) (Or.inl ⟨by rfl, (fun u hu => by obtain ⟨⟨k0, k1, k2⟩, k3, k4, k5⟩ := hu; go_simp; try rfl)⟩) (HF9.out _ HQB.out) (fun _ => trivial) ?_
      simp only [Act.put, List.setIfInBounds_toArray, List.set_cons_zero, List.set_cons_succ, List.getElem_toArray, List.getElem_cons_zero, List.getElem_cons_succ]
      refine wpAnyL_done (by kernel_rfl) ?_ _
      obtain ⟨p0, p1, p2, p3, p4, p5⟩ := HP7.out wB (HB79.out.trans (HQB.out.mono HB79.out.size))
      obtain ⟨x0, x1, x2⟩ := HX9.out wB HQB.out
      go_wp2_with fail
      clear p0 p1 p2 p3 p4 p5 x0 x1 x2
      have htvM : TV M.R (false, (M.st : Int)) t := by rw [HE.out.2.1, HE.out.2.2]; have h2 := HMI.out.gv.st; rw [Int.toNat_of_nonneg h2.1]; exact HTV.out
      obtain ⟨hXtv, hXw, hXsz, xk, hXk, hXb⟩ := into_tv HPR.out htvM HX.out
      have hb6B : Below w6.heap.size w6 wB := HB67.out.trans ((HB79.out.trans (HQB.out.mono HB79.out.size)).mono HB67.out.size)
      refine (mkBack wB MT nn ((allPR M V L).map fun x => x.1) ((allPR M V L).map fun x => x.2.1) HLI.out hnn1 (by simp) _ _ _ AP nP cP AN AF nN cNn nF cF AX mX cX X xk hXk hXtv (HSP.out.below hb6B) (HSF.out.below hb6B) (HSX.out.below HQB.out)).mono ?_
      rintro e wC ⟨⟨AY, mY, cY, rfl, hsY⟩, hbC⟩
      rw [hXb] at hsY ⊢
      have HXL := Lib.hid (show (∀ x ∈ nodesT X, Leafy x) ∧ sizeT X ≤ 1000000 ∧ wordT X = wordT t from ⟨hXtv.leaves, by have := HSZ.out; omega, hXw⟩)
      have HQC := Lib.hid (HQB.out.trans (hbC.mono HQB.out.size))
      obtain ⟨wD, hwD⟩ : ∃ wD : World, wD = wC.alloc (.cells #[.int .i64 t.rule, .int .i64 t.term, .slice AY mY cY] 55) := ⟨_, rfl⟩
      have hbCD : Below wC.heap.size wC wD := by rw [hwD]; exact (Below.refl _ _).alloc (Nat.le_refl _) _
      have hby : wD.heap[wC.heap.size]? = some (.cells #[.int .i64 t.rule, .int .i64 t.term, .slice AY mY cY] 55 (0, 0)) := by rw [hwD]; exact heap_alloc_new _ _
      have hb9D := HQC.out.trans (hbCD.mono HQC.out.size)
      have HQD := Lib.hid hb9D
      have HSY := Lib.hid (hsY.below hbCD)
      have HSXD := Lib.hid (HSX.out.below hb9D)
      have HSTD := Lib.hid (HST.out.below (HB59.out.trans (hb9D.mono HB59.out.size)))
      have HKD := Lib.hid (show ∀ u : World, Below wD.heap.size wD u → (u.cell? ⟨wC.heap.size, 0, none⟩ = some (.int .i64 t.rule) ∧ u.cell? ⟨wC.heap.size, 1, none⟩ = some (.int .i64 t.term) ∧ u.cell? ⟨wC.heap.size, 2, none⟩ = some (.slice AY mY cY)) ∧ (u.cell? ⟨w4.heap.size, 0, none⟩ = some (.int .i64 t.rule) ∧ u.cell? ⟨w4.heap.size, 1, none⟩ = some (.int .i64 t.term) ∧ u.cell? ⟨w4.heap.size, 2, none⟩ = some (.slice At mt ct)) ∧ u.cell? ⟨w8.heap.size, 0, none⟩ = some (.int .i64 X.rule) ∧ u.cell? ⟨w8.heap.size, 1, none⟩ = some (.int .i64 X.term) ∧ u.cell? ⟨w8.heap.size, 2, none⟩ = some (.slice AX mX cX) from fun u hu => by
       obtain ⟨q0, q1, q2, _, _, _⟩ := tree_cells' ((hu.block _ (heap_lt hby)).trans hby)
       have h9 := hb9D.trans (hu.mono hb9D.size)
       exact ⟨⟨q0, q1, q2⟩, HT5.out u (HB59.out.trans (h9.mono HB59.out.size)), HX9.out u h9⟩)
      have HWD := Lib.hid hwD
      have HTL := Lib.hid htvM.leaves
      have hsz6 : sizeT t ≤ 1000000 := by have := HSZ.out; omega
      clear htvM hXtv hXw hXsz hXk hXb hb6B hsY hbC hwD hbCD hby hb9D
      go_wp2_with fail
      rw [← HWD.out]
      refine wp_region_late (late := []) (S1 := fun u => (u.cell? ⟨wC.heap.size, 0, none⟩ = some (.int .i64 t.rule) ∧ u.cell? ⟨wC.heap.size, 1, none⟩ = some (.int .i64 t.term) ∧ u.cell? ⟨wC.heap.size, 2, none⟩ = some (.slice AY mY cY)) ∧ (u.cell? ⟨w4.heap.size, 0, none⟩ = some (.int .i64 t.rule) ∧ u.cell? ⟨w4.heap.size, 1, none⟩ = some (.int .i64 t.term) ∧ u.cell? ⟨w4.heap.size, 2, none⟩ = some (.slice At mt ct)) ∧ u.cell? ⟨w8.heap.size, 0, none⟩ = some (.int .i64 X.rule) ∧ u.cell? ⟨w8.heap.size, 1, none⟩ = some (.int .i64 X.term) ∧ u.cell? ⟨w8.heap.size, 2, none⟩ = some (.slice AX mX cX)) (S := fun _ => True) (by kernel_rfl) ?_
      refine wpAnyL_pure (i := 0) rfl (by kernel_rfl) (fun _ _ _ h => h) (Or.inl ⟨by rfl, (fun u hu => by obtain ⟨⟨k0, k1, k2⟩, ⟨k3, k4, k5⟩, k6, k7, k8⟩ := hu; go_simp; try first | rfl | (simp; done))⟩) (HKD.out _ (Below.refl _ _).drew) (fun _ => trivial) ?_
      simp only [Act.put, List.setIfInBounds_toArray, List.set_cons_zero, List.set_cons_succ, List.getElem_toArray, List.getElem_cons_zero, List.getElem_cons_succ]
      refine wpAnyL_pure (i := 1) (v := .bool true) rfl (by kernel_rfl) (fun _ _ _ h => h) (Or.inl ⟨by rfl, (fun u hu => by obtain ⟨⟨k0, k1, k2⟩, ⟨k3, k4, k5⟩, k6, k7, k8⟩ := hu; go_simp; try first | rfl | (simp; done))⟩) (HKD.out _ (Below.refl _ _).drew) (fun _ => trivial) ?_
      simp only [Act.put, List.setIfInBounds_toArray, List.set_cons_zero, List.set_cons_succ, List.getElem_toArray, List.getElem_cons_zero, List.getElem_cons_succ]
      refine wpAnyL_pure (i := 2) (v := .bool true) rfl (by kernel_rfl) (fun _ _ _ h => h) (Or.inl ⟨by rfl, (fun u hu => by obtain ⟨⟨k0, k1, k2⟩, ⟨k3, k4, k5⟩, k6, k7, k8⟩ := hu; go_simp; try first | rfl | (simp; done))⟩) (HKD.out _ (Below.refl _ _).drew) (fun _ => trivial) ?_
      simp only [Act.put, List.setIfInBounds_toArray, List.set_cons_zero, List.set_cons_succ, List.getElem_toArray, List.getElem_cons_zero, List.getElem_cons_succ]
      refine wpAnyL_pure (i := 3) rfl (by kernel_rfl) (fun _ _ _ h => h) (Or.inl ⟨by rfl, (fun u hu => by obtain ⟨⟨k0, k1, k2⟩, ⟨k3, k4, k5⟩, k6, k7, k8⟩ := hu; go_simp; try first | rfl | (simp; done))⟩) (HKD.out _ (Below.refl _ _).drew) (fun _ => trivial) ?_
      simp only [Act.put, List.setIfInBounds_toArray, List.set_cons_zero, List.set_cons_succ, List.getElem_toArray, List.getElem_cons_zero, List.getElem_cons_succ]
      refine wpAnyL_pure (i := 4) rfl (by kernel_rfl) (fun _ _ _ h => h) (Or.inl ⟨by rfl, (fun u hu => by obtain ⟨⟨k0, k1, k2⟩, ⟨k3, k4, k5⟩, k6, k7, k8⟩ := hu; go_simp; try first | rfl | (simp; done))⟩) (HKD.out _ (Below.refl _ _).drew) (fun _ => trivial) ?_
      simp only [Act.put, List.setIfInBounds_toArray, List.set_cons_zero, List.set_cons_succ, List.getElem_toArray, List.getElem_cons_zero, List.getElem_cons_succ]
      refine wpAnyL_ready (rs := [5]) (by kernel_rfl) (by simp) ?_
      refine AllL.cons rfl (fun K hK => ?_) ?_
      ·
       go_simp
       refine (treeCompare wD.drew _ _ t AY mY cY HSY.out.drew HTL.out hsz6 t At mt ct HSTD.out.drew HTL.out hsz6).mono ?_
       rintro e wE ⟨rfl, hbE⟩
       rw [cmpTree_refl]
       have HQ5 := Lib.hid ((Below.refl wD.heap.size wD).drew.trans hbE)
       clear hbE
       refine hK.out _ _ (HKD.out _ HQ5.out) (fun _ => trivial) ?_
       clear hK K
       refine wpAnyL_pure (i := 6) (v := .bool true) rfl (by kernel_rfl) (fun _ _ _ h => h) (Or.inl ⟨by rfl, (fun u hu => by obtain ⟨⟨k0, k1, k2⟩, ⟨k3, k4, k5⟩, k6, k7, k8⟩ := hu; go_simp; try first | rfl | (simp; done))⟩) (HKD.out _ HQ5.out) (fun _ => trivial) ?_
       simp only [Act.put, List.setIfInBounds_toArray, List.set_cons_zero, List.set_cons_succ, List.getElem_toArray, List.getElem_cons_zero, List.getElem_cons_succ]
       refine wpAnyL_pure (i := 7) (v := .bool true) rfl (by kernel_rfl) (fun _ _ _ h => h) (Or.inl ⟨by rfl, (fun u hu => by obtain ⟨⟨k0, k1, k2⟩, ⟨k3, k4, k5⟩, k6, k7, k8⟩ := hu; go_simp; try first | rfl | (simp; done))⟩) (HKD.out _ HQ5.out) (fun _ => trivial) ?_
       simp only [Act.put, List.setIfInBounds_toArray, List.set_cons_zero, List.set_cons_succ, List.getElem_toArray, List.getElem_cons_zero, List.getElem_cons_succ]
       refine wpAnyL_pure (i := 8) (v := .bool true) rfl (by kernel_rfl) (fun _ _ _ h => h) (Or.inl ⟨by rfl, (fun u hu => by obtain ⟨⟨k0, k1, k2⟩, ⟨k3, k4, k5⟩, k6, k7, k8⟩ := hu; go_simp; try first | rfl | (simp; done))⟩) (HKD.out _ HQ5.out) (fun _ => trivial) ?_
       simp only [Act.put, List.setIfInBounds_toArray, List.set_cons_zero, List.set_cons_succ, List.getElem_toArray, List.getElem_cons_zero, List.getElem_cons_succ]
       refine wpAnyL_pure (i := 9) rfl (by kernel_rfl) (fun _ _ _ h => h) (Or.inl ⟨by rfl, (fun u hu => by obtain ⟨⟨k0, k1, k2⟩, ⟨k3, k4, k5⟩, k6, k7, k8⟩ := hu; go_simp; try first | rfl | (simp; done))⟩) (HKD.out _ HQ5.out) (fun _ => trivial) ?_
       simp only [Act.put, List.setIfInBounds_toArray, List.set_cons_zero, List.set_cons_succ, List.getElem_toArray, List.getElem_cons_zero, List.getElem_cons_succ]
       refine wpAnyL_pure (i := 11) rfl (by kernel_rfl) (fun _ _ _ h => h) (Or.inl ⟨by rfl, (fun u hu => by obtain ⟨⟨k0, k1, k2⟩, ⟨k3, k4, k5⟩, k6, k7, k8⟩ := hu; go_simp; try first | rfl | (simp; done))⟩) (HKD.out _ HQ5.out) (fun _ => trivial) ?_
       simp only [Act.put, List.setIfInBounds_toArray, List.set_cons_zero, List.set_cons_succ, List.getElem_toArray, List.getElem_cons_zero, List.getElem_cons_succ]
       refine wpAnyL_ready (rs := [10]) (by kernel_rfl) (by simp) ?_
       refine AllL.cons rfl (fun K hK => ?_) ?_
       ·
        go_simp
        refine (treeWord wE _ X AX mX cX (HSXD.out.below HQ5.out) HXL.out.1 HXL.out.2.1).mono ?_
        rintro e wF ⟨AF1, cF1, rfl, hwr1, hcw1, hbF⟩
        have HQ10 := Lib.hid (HQ5.out.trans (hbF.mono HQ5.out.size))
        have HWX := Lib.hid hwr1
        clear hwr1 hcw1 hbF
        refine hK.out _ _ (HKD.out _ HQ10.out) (fun _ => trivial) ?_
        clear hK K
        refine wpAnyL_ready (rs := [12]) (by kernel_rfl) (by simp) ?_
        refine AllL.cons rfl (fun K hK => ?_) ?_
        ·
         go_simp
         refine (treeWord wF _ t At mt ct (HSTD.out.below HQ10.out) HTL.out hsz6).mono ?_
         rintro e wG ⟨AG1, cG1, rfl, hwr2, hcw2, hbG⟩
         have HQ12 := Lib.hid (HQ10.out.trans (hbG.mono HQ10.out.size))
         have HWX2 := Lib.hid (Rd.below HWX.out hbG)
         have HWT := Lib.hid hwr2
         clear hwr2 hcw2 hbG
         refine hK.out _ _ (HKD.out _ HQ12.out) (fun _ => trivial) ?_
         clear hK K
         refine wpAnyL_ready (rs := [13]) (by kernel_rfl) (by simp) ?_
         refine AllL.cons rfl (fun K hK => ?_) ?_
         ·
          go_simp
          have hlX : (wordT X).length ≤ 1000000 := by have h1 : (wordT X).length ≤ sizeT X := (by unfold wordT wordOf sizeT; rw [List.length_map]; exact List.length_filter_le _ _); have := HXL.out.2.1; omega
          have hlT : (wordT t).length ≤ 1000000 := by have h1 : (wordT t).length ≤ sizeT t := (by unfold wordT wordOf sizeT; rw [List.length_map]; exact List.length_filter_le _ _); omega
          refine (equalInt AF1 AG1 (wordT X).length cF1 (wordT t).length cG1 _ _ (wordT X) (wordT t) wG HWX2.out HWT.out (by omega) (by omega)).mono ?_
          rintro e wH ⟨rfl, dd, rfl⟩
          rw [show (wordT X == wordT t) = true by rw [HXL.out.2.2]; simp]
          have HQ13 := Lib.hid (show Below wD.heap.size wD (wG.drewN dd) from HQ12.out.trans (below_drewN _ _ _))
          clear hlX hlT
          refine hK.out _ _ (HKD.out _ HQ13.out) (fun _ => trivial) ?_
          clear hK K
          refine wpAnyL_pure (i := 14) (v := .bool true) rfl (by kernel_rfl) (fun _ _ _ h => h) (Or.inl ⟨by rfl, (fun u hu => by obtain ⟨⟨k0, k1, k2⟩, ⟨k3, k4, k5⟩, k6, k7, k8⟩ := hu; go_simp; try first | rfl | (simp; done))⟩) (HKD.out _ HQ13.out) (fun _ => trivial) ?_
          simp only [Act.put, List.setIfInBounds_toArray, List.set_cons_zero, List.set_cons_succ, List.getElem_toArray, List.getElem_cons_zero, List.getElem_cons_succ]
          refine wpAnyL_pure (i := 15) rfl (by kernel_rfl) (fun _ _ _ h => h) (Or.inl ⟨by rfl, (fun u hu => by obtain ⟨⟨k0, k1, k2⟩, ⟨k3, k4, k5⟩, k6, k7, k8⟩ := hu; go_simp; try first | rfl | (simp; done))⟩) (HKD.out _ HQ13.out) (fun _ => trivial) ?_
          simp only [Act.put, List.setIfInBounds_toArray, List.set_cons_zero, List.set_cons_succ, List.getElem_toArray, List.getElem_cons_zero, List.getElem_cons_succ]
          refine wpAnyL_done (by kernel_rfl) ?_ _
          go_wp2_with fail
          go_ret
          exact ⟨rfl, HBW.out _ (HB9.out.trans ((HQD.out.trans (HQ13.out.mono HQD.out.size)).mono HB9.out.size))⟩
         exact AllL.nil
        exact AllL.nil
       exact AllL.nil
      exact AllL.nil
     exact AllL.nil
    exact AllL.nil
  ·
   clear hM e1 e2 e3 e4 e5 hw hc hVt hp hL hT hb6
   go_wp2_with fail
   go_ret
   exact ⟨rfl, (HBW.out w6 HB6.out).trans ((Below.refl _ _).alloc (by have := HBW.out w6 HB6.out; exact this.size) _)⟩
end Go.Proofs.Ytbmcoamdfpegnaa
