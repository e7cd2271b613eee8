/- TeachDiffers: its walk. -/
import Derived.Test.YtgaahpddlohjoaaTEqual
import Derived.Test.YtgaahpddlohjoaaWordsW
import Derived.Test.YtgaahpddlohjoaaEndsD
import Derived.Test.YtgaahpddlohjoaaSlEqInt
namespace Go.Proofs.Ytgaahpddlohjoaa
open Go.RowKit

theorem grownBelow {w w' : World} {B : Nat} {r : Option Nat} (h : Below B w w') (hB : w.heap.size ≤ B) : w.grownBy w' r := ⟨h.os, h.tape, h.output, h.size, fun q hq _ => h.block q (by omega)⟩
theorem belowGrown {w w' : World} {B Bt : Nat} (h : w.grownBy w' (some Bt)) (h1 : B ≤ Bt) (h2 : B ≤ w.heap.size) : Below B w w' := (Below.refl _ _).grown h h2 (fun k e => by injection e with e; omega)
theorem dfaOf_small (l : List Int) : ∀ x ∈ (dfaOf l).2.1, x < 2147483648 := by
  intro x hx
  obtain ⟨j, _, rfl⟩ := List.mem_map.1 (show x ∈ (List.range (dfaN l)).map (dfaAcc l) from hx)
  have := nv_range l (3 + j * (dfaC l + 1)) 3 (by omega)
  unfold dfaAcc
  omega
theorem dfaOf_len (l : List Int) : (dfaOf l).2.2.length ≤ 6 := by
  have := (dfaN_range l).2.1
  simp [dfaOf]; omega
theorem dfaOf_cols (l : List Int) : cols (dfaOf l) ≤ 3 := by
  have h1 := (dfaN_range l).1
  have h2 := (dfaC_range l).2.1
  have : (dfaOf l).2.2[0]? = some (dfaRow l 0) := by
    show ((List.range (dfaN l)).map (dfaRow l))[0]? = _
    rw [List.getElem?_map, List.getElem?_range (by omega)]
    rfl
  unfold cols
  rw [this]
  simp [dfaRow]; omega
set_option linter.unusedSimpArgs false in
set_option maxRecDepth 1000000 in
set_option maxHeartbeats 8000000 in
theorem teachDiffers_walk (W : World) (A0 : Option Addr) (n0 c0 : Nat) (z0 : List Int) (le0 : n0 ≤ c0) (cap0 : c0 ≤ 17592186043904) (rd0 : Rd W (fun _ => True) 1 A0 n0 (z0.map (Value.int .i64))) (_rg0 : ∀ z ∈ z0, -9223372036854775808 ≤ z ∧ z ≤ 9223372036854775807)
    (A1 : Option Addr) (n1 c1 : Nat) (z1 : List Int) (le1 : n1 ≤ c1) (cap1 : c1 ≤ 17592186043904) (rd1 : Rd W (fun _ => True) 1 A1 n1 (z1.map (Value.int .i64))) (_rg1 : ∀ z ∈ z1, -9223372036854775808 ≤ z ∧ z ≤ 9223372036854775807) :
    Calls Try.prog 3 #[.slice A0 n0 c0, .slice A1 n1 c1] W fun e W' => e = .returned (.bool true) ∧ Below W.heap.size W W' := by
  have HR0 := Lib.hid (rd0.slInts le0)
  have HR1 := Lib.hid (rd1.slInts le1)
  have HV := Lib.hid (dfaOf_valid z0)
  have HV' := Lib.hid (dfaOf_valid z1)
  have HX := Lib.hid (dfaOf_small z0)
  have HN6 := Lib.hid (dfaOf_len z0)
  have HN6' := Lib.hid (dfaOf_len z1)
  have HC3 := Lib.hid (dfaOf_cols z0)
  clear rd0 rd1 _rg0 _rg1
  go_enter Try.func3, Try.ntmps3
  go_wp2_with fail
  refine (makeDfa _ _ _ _ _ z0 HR0.out (by omega)).mono ?_
  rintro e w1 ⟨Bd, vA, vN, xs, hBd, rfl, hD, hb1⟩
  obtain ⟨d, hd⟩ : ∃ d, d = dfaOf z0 := ⟨_, rfl⟩
  rw [← hd] at hD HV HX HN6 HC3 ⊢
  clear hd
  obtain ⟨A, cA, rfl, hcA, _⟩ := hD.ownA.form
  obtain ⟨N, cN, rfl, hcN, _⟩ := hD.ownN.form
  obtain ⟨hsA, hsN⟩ := hD.sl
  obtain ⟨nA, hnA⟩ : ∃ k, k = d.2.1.length := ⟨_, rfl⟩
  obtain ⟨n, hn⟩ : ∃ k, k = d.2.2.length := ⟨_, rfl⟩
  rw [← hnA] at hsA hcA ⊢
  rw [← hn] at hsN hcN ⊢
  have HSA := Lib.hid hsA.fit
  have HSN := Lib.hid hsN.fit
  have HB1 := Lib.hid hb1
  clear hb1 hD hsA hsN hnA hn
  go_wp2_with fail
  refine (makeDfa _ _ _ _ _ z1 (HR1.out.below HB1.out) (by omega)).mono ?_
  rintro e w2 ⟨Bd', vA', vN', xs', hBd', rfl, hD', hb2⟩
  obtain ⟨h, hh⟩ : ∃ h, h = dfaOf z1 := ⟨_, rfl⟩
  rw [← hh] at hD' HV' HN6' ⊢
  clear hh
  obtain ⟨A', cA', rfl, hcA', _⟩ := hD'.ownA.form
  obtain ⟨N', cN', rfl, hcN', _⟩ := hD'.ownN.form
  obtain ⟨hsA', hsN'⟩ := hD'.sl
  obtain ⟨nA', hnA'⟩ : ∃ k, k = h.2.1.length := ⟨_, rfl⟩
  obtain ⟨n', hn'⟩ : ∃ k, k = h.2.2.length := ⟨_, rfl⟩
  rw [← hnA'] at hsA' hcA' ⊢
  rw [← hn'] at hsN' hcN' ⊢
  have HSA' := Lib.hid hsA'.fit
  have HSN' := Lib.hid hsN'.fit
  have HB2 := Lib.hid (HB1.out.trans (hb2.mono HB1.out.size))
  have HSA := Lib.hid (HSA.out.below hb2)
  have HSN := Lib.hid (HSN.out.below hb2)
  have hz12 := hb2.size
  clear hb2 hD' hsA' hsN' hnA' hn'
  go_wp2_with fail
  obtain ⟨w3, hw3⟩ : ∃ w3 : World, w3 = (w2.alloc (.cells #[.int .i64 d.1, .slice A nA cA, .slice N n cN] 25)).alloc (.cells #[.int .i64 h.1, .slice A' nA' cA', .slice N' n' cN'] 25) := ⟨_, rfl⟩
  rw [← hw3]
  obtain ⟨B5, hB5⟩ : ∃ B5, B5 = w2.heap.size := ⟨_, rfl⟩
  have HG5 := Lib.hid (show w3.heap[B5]? = some (.cells #[.int .i64 d.1, .slice A nA cA, .slice N n cN] 25 (0, 0)) by rw [hw3, hB5, Below.heap_alloc _ _ _ (by simp)]; exact heap_alloc_new _ _)
  have HG6 := Lib.hid (show w3.heap[B5 + 1]? = some (.cells #[.int .i64 h.1, .slice A' nA' cA', .slice N' n' cN'] 25 (0, 0)) by rw [hw3, hB5]; exact heap_new _ _ _ (by simp))
  have hb23 : Below w2.heap.size w2 w3 := by rw [hw3]; exact ((Below.refl _ _).alloc (Nat.le_refl _) _).alloc (by simp) _
  have hz3 : B5 + 2 ≤ w3.heap.size ∧ w3.heap.size ≤ B5 + 2 ∧ W.heap.size ≤ B5 ∧ w2.heap.size ≤ B5 ∧ w1.heap.size ≤ B5 := by have := HB2.out.size; rw [hw3, hB5]; simp; omega
  have HB3 := Lib.hid (HB2.out.trans (hb23.mono HB2.out.size))
  have HSA3 := Lib.hid (HSA.out.below hb23)
  have HSN3 := Lib.hid (HSN.out.below hb23)
  have HSA3' := Lib.hid (HSA'.out.below hb23)
  have HSN3' := Lib.hid (HSN'.out.below hb23)
  rw [← hB5]
  clear hw3 hB5 hb23 HSA HSN HSA' HSN'
  refine (keepEnds _).mono ?_
  rintro e w4 ⟨EA, En, Ec, EN, Em, Ek, rfl, hea, hen, hb4⟩
  have HEA := Lib.hid hea
  have HEN := Lib.hid hen
  have HB4 := Lib.hid hb4
  clear hb4 hea hen
  go_wp2_with fail
  refine (teachNew _ _ _ _ _ _ _ _ endsD HEA.out HEN.out ends_valid).mono ?_
  rintro e w5 ⟨Be, rfl, hBe, hTe, hb5⟩
  have HTE := Lib.hid hTe
  have HB5 := Lib.hid (HB4.out.trans (hb5.mono HB4.out.size))
  clear hb5 hTe
  go_wp2_with fail
  refine (teachSymbols _ _ _ _ _ _ HTE.out (plain_valid ends_valid)).mono ?_
  rintro e w6 ⟨rfl, rfl⟩
  rw [show cols (plainD endsD) = 2 from rfl]
  have q5 := (HB5.out.block B5 (by omega)).trans HG5.out
  have q0 : w5.cell? ⟨B5, 0, none⟩ = some (.int .i64 d.1) := by simp [World.cell?, q5]
  have q1 : w5.cell? ⟨B5, 1, none⟩ = some (.slice A nA cA) := by simp [World.cell?, q5]
  have q2 : w5.cell? ⟨B5, 2, none⟩ = some (.slice N n cN) := by simp [World.cell?, q5]
  clear q5
  go_wp2_with fail
  refine (teachNew _ _ _ _ _ _ _ _ d (HSA3.out.below HB5.out) (HSN3.out.below HB5.out) HV.out).mono ?_
  rintro e w6 ⟨Bt, rfl, hBt, hT, hb6⟩
  have HT := Lib.hid hT
  have hz5 := HB5.out.size
  have HB6 := Lib.hid (HB5.out.trans (hb6.mono HB5.out.size))
  have hz6 := hb6.size
  have hBt6 := hT.lt
  clear hb6 hT q0 q1 q2
  have q5 := (HB6.out.block B5 (by omega)).trans HG5.out
  have q0 : w6.cell? ⟨B5, 0, none⟩ = some (.int .i64 d.1) := by simp [World.cell?, q5]
  have q1 : w6.cell? ⟨B5, 1, none⟩ = some (.slice A nA cA) := by simp [World.cell?, q5]
  have q2 : w6.cell? ⟨B5, 2, none⟩ = some (.slice N n cN) := by simp [World.cell?, q5]
  clear q5
  go_wp2_with fail
  refine (miniMin _ _ _ _ _ _ _ _ d (HSA3.out.below HB6.out) (HSN3.out.below HB6.out) HV.out HX.out).mono ?_
  rintro e w7 ⟨⟨CA, Cn, Cc, CN, Cm, Ck, rfl, hca, hcn⟩, hb7⟩
  have HCA := Lib.hid hca.fit
  have HCN := Lib.hid hcn.fit
  have HT7 := Lib.hid (HT.out.below hb7)
  have HB7 := Lib.hid (HB6.out.trans (hb7.mono HB6.out.size))
  have hz7 := hb7.size
  clear hb7 hca hcn q0 q1 q2
  go_wp2_with fail
  obtain ⟨w8, hw8⟩ : ∃ w8 : World, w8 = w7.alloc (.cells #[.int .i64 0, .slice CA Cn Cc, .slice CN Cm Ck] 25) := ⟨_, rfl⟩
  rw [← hw8]
  have hb78 : Below w7.heap.size w7 w8 := by rw [hw8]; exact (Below.refl _ _).alloc (Nat.le_refl _) _
  have HB8 := Lib.hid (HB7.out.trans (hb78.mono HB7.out.size))
  have HT8 := Lib.hid (HT7.out.below hb78)
  have HCA8 := Lib.hid (HCA.out.below hb78)
  have HCN8 := Lib.hid (HCN.out.below hb78)
  have hz8 := hb78.size
  have HCELL := Lib.hid (show ∀ u : World, Below w3.heap.size w3 u → (u.cell? ⟨B5, 0, none⟩ = some (.int .i64 d.1) ∧ u.cell? ⟨B5, 1, none⟩ = some (.slice A nA cA) ∧ u.cell? ⟨B5, 2, none⟩ = some (.slice N n cN)) ∧ u.cell? ⟨B5 + 1, 0, none⟩ = some (.int .i64 h.1) ∧ u.cell? ⟨B5 + 1, 1, none⟩ = some (.slice A' nA' cA') ∧ u.cell? ⟨B5 + 1, 2, none⟩ = some (.slice N' n' cN') from fun u hu => by
    have e1 := (hu.block B5 (by omega)).trans HG5.out
    have e2 := (hu.block (B5 + 1) (by omega)).trans HG6.out
    simp [World.cell?, e1, e2])
  have HS := Lib.hid (show ¬ (w5.heap.size ≤ Bt ∧ Bt < Bt) by omega)
  have HSC := Lib.hid (show ¬ (w6.heap.size ≤ Bt ∧ Bt < w7.heap.size) by omega)
  have HSH := Lib.hid (show ¬ (Bd' + 1 ≤ Bt ∧ Bt < w2.heap.size) by omega)
  have heq := teachEqualYes w8 _ Bt (plainD d) 0 0 HT8.out (plain_valid HV.out) (by omega) HS.out _ CA Cn Cc CN Cm Ck (canonD d) HCA8.out HCN8.out (canon_valid HV.out) (canon_cols HV.out) HSC.out
  rw [canon_start HV.out] at heq
  refine heq.mono ?_
  rintro e w9 ⟨⟨Ao, co, l, dif, rfl, hdif⟩, hT9, hg9⟩
  have hdf : dif = false := by
    rcases hdif with ⟨h1, _⟩ | ⟨_, _, h3, _, h5, _⟩
    · exact h1
    · exact absurd (by rw [plain_accept, canon_accept HV.out h3]) h5
  subst hdf
  have HT9 := Lib.hid hT9
  have HB9 := Lib.hid (show Below w3.heap.size w3 w9 from HB8.out.grown hg9 (by omega) (fun g e => by injection e with e; omega))
  have hz9 := hg9.size
  clear heq hdif hT9 hg9 hb78 hw8
  obtain ⟨⟨k0, k1, k2⟩, k3, k4, k5⟩ := HCELL.out _ HB9.out
  go_wp2_with fail
  by_cases hcc : cols h = cols d
  · have HCC := Lib.hid hcc
    refine (teachEqualYes w9 _ Bt (plainD d) 0 (0 + 1) HT9.out (plain_valid HV.out) (by omega) HS.out _ A' nA' cA' N' n' cN' h (HSA3'.out.below HB9.out) (HSN3'.out.below HB9.out) HV'.out HCC.out HSH.out).mono ?_
    rintro e w10 ⟨⟨Al, cl, l, dif, rfl, hdif⟩, hT10, hg10⟩
    have HT10 := Lib.hid hT10
    have HB10 := Lib.hid (show Below w3.heap.size w3 w10 from HB9.out.grown hg10 (by omega) (fun g e => by injection e with e; omega))
    have hdd : (dif = false ∧ l = [] ∧ ∀ v, WOk d v → daccept d v = daccept h v) ∨ (dif = true ∧ Sl Rep.int w10 (fun b => w9.heap.size ≤ b) Al l.length cl l ∧ WOk d l ∧ l.length ≤ 49 ∧ daccept d l ≠ daccept h l ∧ ∀ v, WOk d v → SLt v l → daccept d v = daccept h v) := by
      rcases hdif with ⟨h1, h2, h3⟩ | ⟨h1, h2, h3, h4, h5, h6⟩
      · exact .inl ⟨h1, h2, fun v hv => by rw [← plain_accept d v]; exact h3 v hv⟩
      · refine .inr ⟨h1, h2, h3, ?_, ?_, fun v hv hs => by rw [← plain_accept d v]; exact h6 v hv hs⟩
        · have e1 := HN6.out
          have e2 := HN6'.out
          have : ((plainD d).2.2.length + 1) * (h.2.2.length + 1) ≤ 7 * 7 := Nat.mul_le_mul (by show d.2.2.length + 1 ≤ 7; omega) (by omega)
          omega
        · rw [← plain_accept d l]; exact h5
    clear k0 k1 k2 k3 k4 k5 hT10 hg10 hdif
    have hKB := HB3.out.size
    obtain ⟨⟨k0, k1, k2⟩, k3, k4, k5⟩ := HCELL.out _ HB10.out
    obtain ⟨bN, oN, AR, cR, rfl, hcR, hnI, _⟩ := teach_row (HSN3'.out.below HB10.out) HV'.out
    have hcI : ((cols h : Int) != (cols (plainD d) : Int)) = false := by
      rw [show cols (plainD d) = cols d from rfl]
      simp; omega
    have HDD := Lib.hid hdd
    clear hdd hcc
    go_wp2_with fail
    go_quiet ((go_at_call 14; exact quiet_leftE (teachSymbols _ _ Bt (plainD d) 0 (0 + 1 + 1) (HT10.out.below (belowN (Below.refl _ _) _)) (plain_valid HV.out))))
    obtain ⟨w11, hw11⟩ : ∃ w11 : World, w11 = w10.drewN nq := ⟨_, rfl⟩
    have HB11 := Lib.hid (show Below w3.heap.size w3 w11 by rw [hw11]; exact belowN HB10.out _)
    have HT11 := Lib.hid (HT10.out.below (show Below w10.heap.size w10 w11 by rw [hw11]; exact belowN (Below.refl _ _) _))
    have hll : Sl Rep.int w10 (fun b => w9.heap.size ≤ b) Al l.length cl l → Sl Rep.int w11 (fun b => w9.heap.size ≤ b) Al l.length cl l := fun hs => by rw [hw11]; exact hs.below (belowN (Below.refl _ _) _)
    have HLL := Lib.hid hll
    rw [← hw11]
    clear hw11 k0 k1 k2 k3 k4 k5 hcR hcI hll
    rcases HDD.out with ⟨rfl, rfl, hsame⟩ | ⟨rfl, hsl, hwl, hl49, hdiff, hleast⟩
    · have HSAME := Lib.hid hsame
      have HQ := Lib.hid (show (daccept d [] == daccept h []) = true by rw [hsame [] .nil]; simp)
      clear hsame
      go_wp2_with fail
      obtain ⟨w11d, hw11d⟩ : ∃ w11d : World, w11d = w11.drew := ⟨_, rfl⟩
      have HB11d := Lib.hid (show Below w3.heap.size w3 w11d by rw [hw11d]; exact HB11.out.drew)
      have HBL11d := Lib.hid (show Below w11.heap.size w11 w11d by rw [hw11d]; exact (Below.refl _ _).drew)
      have HK11d := Lib.hid (HCELL.out _ HB11d.out)
      refine wp_region_late (late := []) (S1 := fun u => (u.cell? ⟨B5, 0, none⟩ = some (.int .i64 d.1) ∧ u.cell? ⟨B5, 1, none⟩ = some (.slice A nA cA) ∧ u.cell? ⟨B5, 2, none⟩ = some (.slice N n cN)) ∧ u.cell? ⟨B5 + 1, 0, none⟩ = some (.int .i64 h.1) ∧ u.cell? ⟨B5 + 1, 1, none⟩ = some (.slice A' nA' cA') ∧ u.cell? ⟨B5 + 1, 2, none⟩ = some (.slice (some ⟨bN, oN, none⟩) n' cN')) (S := fun _ => True) (by kernel_rfl) ?_
      rw [← hw11d]
      clear hw11d
      refine wpAnyL_pure (i := 0) rfl (by kernel_rfl) (fun _ _ _ h => h) (Or.inl ⟨by rfl, (fun u hu => by obtain ⟨⟨k0, k1, k2⟩, k3, k4, k5⟩ := hu; go_simp; try rfl)⟩) HK11d.out (fun _ => trivial) ?_
      simp only [Act.put, List.setIfInBounds_toArray, List.set_cons_zero, List.set_cons_succ, List.getElem_toArray, List.getElem_cons_zero, List.getElem_cons_succ]
      refine wpAnyL_pure (i := 1) rfl (by kernel_rfl) (fun _ _ _ h => h) (Or.inl ⟨by rfl, (fun u hu => by obtain ⟨⟨k0, k1, k2⟩, k3, k4, k5⟩ := hu; go_simp; try rfl)⟩) HK11d.out (fun _ => trivial) ?_
      simp only [Act.put, List.setIfInBounds_toArray, List.set_cons_zero, List.set_cons_succ, List.getElem_toArray, List.getElem_cons_zero, List.getElem_cons_succ]
      refine wpAnyL_pure (i := 2) rfl (by kernel_rfl) (fun _ _ _ h => h) (Or.inl ⟨by rfl, (fun u hu => by obtain ⟨⟨k0, k1, k2⟩, k3, k4, k5⟩ := hu; go_simp; try rfl)⟩) HK11d.out (fun _ => trivial) ?_
      simp only [Act.put, List.setIfInBounds_toArray, List.set_cons_zero, List.set_cons_succ, List.getElem_toArray, List.getElem_cons_zero, List.getElem_cons_succ]
      refine wpAnyL_pure (i := 3) rfl (by kernel_rfl) (fun _ _ _ h => h) (Or.inl ⟨by rfl, (fun u hu => by obtain ⟨⟨k0, k1, k2⟩, k3, k4, k5⟩ := hu; go_simp; try rfl)⟩) HK11d.out (fun _ => trivial) ?_
      simp only [Act.put, List.setIfInBounds_toArray, List.set_cons_zero, List.set_cons_succ, List.getElem_toArray, List.getElem_cons_zero, List.getElem_cons_succ]
      refine wpAnyL_pure (i := 4) rfl (by kernel_rfl) (fun _ _ _ h => h) (Or.inl ⟨by rfl, (fun u hu => by obtain ⟨⟨k0, k1, k2⟩, k3, k4, k5⟩ := hu; go_simp; try rfl)⟩) HK11d.out (fun _ => trivial) ?_
      simp only [Act.put, List.setIfInBounds_toArray, List.set_cons_zero, List.set_cons_succ, List.getElem_toArray, List.getElem_cons_zero, List.getElem_cons_succ]
      refine wpAnyL_pure (i := 5) rfl (by kernel_rfl) (fun _ _ _ h => h) (Or.inl ⟨by rfl, (fun u hu => by obtain ⟨⟨k0, k1, k2⟩, k3, k4, k5⟩ := hu; go_simp; try rfl)⟩) HK11d.out (fun _ => trivial) ?_
      simp only [Act.put, List.setIfInBounds_toArray, List.set_cons_zero, List.set_cons_succ, List.getElem_toArray, List.getElem_cons_zero, List.getElem_cons_succ]
      refine wpAnyL_pure (i := 6) rfl (by kernel_rfl) (fun _ _ _ h => h) (Or.inl ⟨by rfl, (fun u hu => by obtain ⟨⟨k0, k1, k2⟩, k3, k4, k5⟩ := hu; go_simp; try rfl)⟩) HK11d.out (fun _ => trivial) ?_
      simp only [Act.put, List.setIfInBounds_toArray, List.set_cons_zero, List.set_cons_succ, List.getElem_toArray, List.getElem_cons_zero, List.getElem_cons_succ]
      refine wpAnyL_pure (i := 7) rfl (by kernel_rfl) (fun _ _ _ h => h) (Or.inl ⟨by rfl, (fun u hu => by obtain ⟨⟨k0, k1, k2⟩, k3, k4, k5⟩ := hu; go_simp; try rfl)⟩) HK11d.out (fun _ => trivial) ?_
      simp only [Act.put, List.setIfInBounds_toArray, List.set_cons_zero, List.set_cons_succ, List.getElem_toArray, List.getElem_cons_zero, List.getElem_cons_succ]
      refine wpAnyL_pure (i := 8) rfl (by kernel_rfl) (fun _ _ _ h => h) (Or.inl ⟨by rfl, (fun u hu => by obtain ⟨⟨k0, k1, k2⟩, k3, k4, k5⟩ := hu; go_simp; try rfl)⟩) HK11d.out (fun _ => trivial) ?_
      simp only [Act.put, List.setIfInBounds_toArray, List.set_cons_zero, List.set_cons_succ, List.getElem_toArray, List.getElem_cons_zero, List.getElem_cons_succ]
      refine wpAnyL_pure (i := 10) rfl (by kernel_rfl) (fun _ _ _ h => h) (Or.inl ⟨by rfl, (fun u hu => by obtain ⟨⟨k0, k1, k2⟩, k3, k4, k5⟩ := hu; go_simp; try rfl)⟩) HK11d.out (fun _ => trivial) ?_
      simp only [Act.put, List.setIfInBounds_toArray, List.set_cons_zero, List.set_cons_succ, List.getElem_toArray, List.getElem_cons_zero, List.getElem_cons_succ]
      refine wpAnyL_ready (rs := [9]) (by kernel_rfl) (by simp) ?_
      refine AllL.cons rfl (fun K hK => ?_) ?_
      · go_simp
        refine (keepAccepts _ _ _ _ _ _ _ _ d (HSA3.out.below HB11d.out) (HSN3.out.below HB11d.out) HV.out _ _ _ _ [] (Sl.nil _ (fun _ => False) none 0) (by omega) (by simp)).mono ?_
        rintro e w12 ⟨rfl, hb12⟩
        have HB12 := Lib.hid (HB11d.out.trans (hb12.mono HB11d.out.size))
        have HBL12 := Lib.hid (HBL11d.out.trans (hb12.mono HBL11d.out.size))
        have HK12 := Lib.hid (HCELL.out _ HB12.out)
        clear hb12
        refine hK.out _ _ HK12.out (fun _ => trivial) ?_
        clear hK K
        refine wpAnyL_ready (rs := [11]) (by kernel_rfl) (by simp) ?_
        refine AllL.cons rfl (fun K hK => ?_) ?_
        · go_simp
          refine (keepAccepts _ _ _ _ _ _ _ _ h (HSA3'.out.below HB12.out) (HSN3'.out.below HB12.out) HV'.out _ _ _ _ [] (Sl.nil _ (fun _ => False) none 0) (by omega) (by simp)).mono ?_
          rintro e w13 ⟨rfl, hb13⟩
          have HB13 := Lib.hid (HB12.out.trans (hb13.mono HB12.out.size))
          have HBL13 := Lib.hid (HBL12.out.trans (hb13.mono HBL12.out.size))
          have HK13 := Lib.hid (HCELL.out _ HB13.out)
          clear hb13
          refine hK.out _ _ HK13.out (fun _ => trivial) ?_
          clear hK K
          refine wpAnyL_pure (i := 12) rfl (by kernel_rfl) (fun _ _ _ h => h) (Or.inl ⟨by rfl, (fun u hu => by obtain ⟨⟨k0, k1, k2⟩, k3, k4, k5⟩ := hu; go_simp; try rfl)⟩) HK13.out (fun _ => trivial) ?_
          simp only [Act.put, List.setIfInBounds_toArray, List.set_cons_zero, List.set_cons_succ, List.getElem_toArray, List.getElem_cons_zero, List.getElem_cons_succ]
          refine wpAnyL_pure (i := 13) rfl (by kernel_rfl) (fun _ _ _ h => h) (Or.inl ⟨by rfl, (fun u hu => by obtain ⟨⟨k0, k1, k2⟩, k3, k4, k5⟩ := hu; go_simp; try rfl)⟩) HK13.out (fun _ => trivial) ?_
          simp only [Act.put, List.setIfInBounds_toArray, List.set_cons_zero, List.set_cons_succ, List.getElem_toArray, List.getElem_cons_zero, List.getElem_cons_succ]
          refine wpAnyL_pure (i := 14) rfl (by kernel_rfl) (fun _ _ _ h => h) (Or.inl ⟨by rfl, (fun u hu => by obtain ⟨⟨k0, k1, k2⟩, k3, k4, k5⟩ := hu; go_simp; try rfl)⟩) HK13.out (fun _ => trivial) ?_
          simp only [Act.put, List.setIfInBounds_toArray, List.set_cons_zero, List.set_cons_succ, List.getElem_toArray, List.getElem_cons_zero, List.getElem_cons_succ]
          refine wpAnyL_pure (i := 15) rfl (by kernel_rfl) (fun _ _ _ h => h) (Or.inl ⟨by rfl, (fun u hu => by obtain ⟨⟨k0, k1, k2⟩, k3, k4, k5⟩ := hu; go_simp; try rfl)⟩) HK13.out (fun _ => trivial) ?_
          simp only [Act.put, List.setIfInBounds_toArray, List.set_cons_zero, List.set_cons_succ, List.getElem_toArray, List.getElem_cons_zero, List.getElem_cons_succ]
          refine wpAnyL_done (by kernel_rfl) ?_ _
          rw [HQ.out]
          go_wp2_with fail
          go_quiet (fail)
          go_wp2_with fail
          go_ret
          exact ⟨rfl, HB3.out.trans ((belowN HB13.out _).mono HB3.out.size)⟩
        exact AllL.nil
      exact AllL.nil
    · have HSL := Lib.hid (HLL.out hsl)
      have HWL := Lib.hid hwl
      have HWL' := Lib.hid (show ∀ x ∈ l, 0 ≤ x ∧ x < cols h from fun x hx => by rw [HCC.out]; exact hwl x hx)
      have HDIFF := Lib.hid hdiff
      have HLEAST := Lib.hid hleast
      have HQE := Lib.hid (show (daccept d l == daccept h l) = false by simpa using hdiff)
      clear hsl hwl hdiff hleast
      by_cases hl0 : l.length = 0
      · obtain rfl : l = [] := List.eq_nil_of_length_eq_zero hl0
        have HQ0 := Lib.hid (show (daccept d [] == daccept h []) = false by simpa using HDIFF.out)
        clear hl0 hl49
        go_wp2_with fail
        obtain ⟨w11d, hw11d⟩ : ∃ w11d : World, w11d = w11.drew := ⟨_, rfl⟩
        have HB11d := Lib.hid (show Below w3.heap.size w3 w11d by rw [hw11d]; exact HB11.out.drew)
        have HBL11d := Lib.hid (show Below w11.heap.size w11 w11d by rw [hw11d]; exact (Below.refl _ _).drew)
        have HK11d := Lib.hid (HCELL.out _ HB11d.out)
        refine wp_region_late (late := []) (S1 := fun u => (u.cell? ⟨B5, 0, none⟩ = some (.int .i64 d.1) ∧ u.cell? ⟨B5, 1, none⟩ = some (.slice A nA cA) ∧ u.cell? ⟨B5, 2, none⟩ = some (.slice N n cN)) ∧ u.cell? ⟨B5 + 1, 0, none⟩ = some (.int .i64 h.1) ∧ u.cell? ⟨B5 + 1, 1, none⟩ = some (.slice A' nA' cA') ∧ u.cell? ⟨B5 + 1, 2, none⟩ = some (.slice (some ⟨bN, oN, none⟩) n' cN')) (S := fun _ => True) (by kernel_rfl) ?_
        rw [← hw11d]
        clear hw11d
        refine wpAnyL_pure (i := 0) rfl (by kernel_rfl) (fun _ _ _ h => h) (Or.inl ⟨by rfl, (fun u hu => by obtain ⟨⟨k0, k1, k2⟩, k3, k4, k5⟩ := hu; go_simp; try rfl)⟩) HK11d.out (fun _ => trivial) ?_
        simp only [Act.put, List.setIfInBounds_toArray, List.set_cons_zero, List.set_cons_succ, List.getElem_toArray, List.getElem_cons_zero, List.getElem_cons_succ]
        refine wpAnyL_pure (i := 1) rfl (by kernel_rfl) (fun _ _ _ h => h) (Or.inl ⟨by rfl, (fun u hu => by obtain ⟨⟨k0, k1, k2⟩, k3, k4, k5⟩ := hu; go_simp; try rfl)⟩) HK11d.out (fun _ => trivial) ?_
        simp only [Act.put, List.setIfInBounds_toArray, List.set_cons_zero, List.set_cons_succ, List.getElem_toArray, List.getElem_cons_zero, List.getElem_cons_succ]
        refine wpAnyL_pure (i := 2) rfl (by kernel_rfl) (fun _ _ _ h => h) (Or.inl ⟨by rfl, (fun u hu => by obtain ⟨⟨k0, k1, k2⟩, k3, k4, k5⟩ := hu; go_simp; try rfl)⟩) HK11d.out (fun _ => trivial) ?_
        simp only [Act.put, List.setIfInBounds_toArray, List.set_cons_zero, List.set_cons_succ, List.getElem_toArray, List.getElem_cons_zero, List.getElem_cons_succ]
        refine wpAnyL_pure (i := 3) rfl (by kernel_rfl) (fun _ _ _ h => h) (Or.inl ⟨by rfl, (fun u hu => by obtain ⟨⟨k0, k1, k2⟩, k3, k4, k5⟩ := hu; go_simp; try rfl)⟩) HK11d.out (fun _ => trivial) ?_
        simp only [Act.put, List.setIfInBounds_toArray, List.set_cons_zero, List.set_cons_succ, List.getElem_toArray, List.getElem_cons_zero, List.getElem_cons_succ]
        refine wpAnyL_pure (i := 4) rfl (by kernel_rfl) (fun _ _ _ h => h) (Or.inl ⟨by rfl, (fun u hu => by obtain ⟨⟨k0, k1, k2⟩, k3, k4, k5⟩ := hu; go_simp; try rfl)⟩) HK11d.out (fun _ => trivial) ?_
        simp only [Act.put, List.setIfInBounds_toArray, List.set_cons_zero, List.set_cons_succ, List.getElem_toArray, List.getElem_cons_zero, List.getElem_cons_succ]
        refine wpAnyL_pure (i := 5) rfl (by kernel_rfl) (fun _ _ _ h => h) (Or.inl ⟨by rfl, (fun u hu => by obtain ⟨⟨k0, k1, k2⟩, k3, k4, k5⟩ := hu; go_simp; try rfl)⟩) HK11d.out (fun _ => trivial) ?_
        simp only [Act.put, List.setIfInBounds_toArray, List.set_cons_zero, List.set_cons_succ, List.getElem_toArray, List.getElem_cons_zero, List.getElem_cons_succ]
        refine wpAnyL_pure (i := 6) rfl (by kernel_rfl) (fun _ _ _ h => h) (Or.inl ⟨by rfl, (fun u hu => by obtain ⟨⟨k0, k1, k2⟩, k3, k4, k5⟩ := hu; go_simp; try rfl)⟩) HK11d.out (fun _ => trivial) ?_
        simp only [Act.put, List.setIfInBounds_toArray, List.set_cons_zero, List.set_cons_succ, List.getElem_toArray, List.getElem_cons_zero, List.getElem_cons_succ]
        refine wpAnyL_pure (i := 7) rfl (by kernel_rfl) (fun _ _ _ h => h) (Or.inl ⟨by rfl, (fun u hu => by obtain ⟨⟨k0, k1, k2⟩, k3, k4, k5⟩ := hu; go_simp; try rfl)⟩) HK11d.out (fun _ => trivial) ?_
        simp only [Act.put, List.setIfInBounds_toArray, List.set_cons_zero, List.set_cons_succ, List.getElem_toArray, List.getElem_cons_zero, List.getElem_cons_succ]
        refine wpAnyL_pure (i := 8) rfl (by kernel_rfl) (fun _ _ _ h => h) (Or.inl ⟨by rfl, (fun u hu => by obtain ⟨⟨k0, k1, k2⟩, k3, k4, k5⟩ := hu; go_simp; try rfl)⟩) HK11d.out (fun _ => trivial) ?_
        simp only [Act.put, List.setIfInBounds_toArray, List.set_cons_zero, List.set_cons_succ, List.getElem_toArray, List.getElem_cons_zero, List.getElem_cons_succ]
        refine wpAnyL_pure (i := 10) rfl (by kernel_rfl) (fun _ _ _ h => h) (Or.inl ⟨by rfl, (fun u hu => by obtain ⟨⟨k0, k1, k2⟩, k3, k4, k5⟩ := hu; go_simp; try rfl)⟩) HK11d.out (fun _ => trivial) ?_
        simp only [Act.put, List.setIfInBounds_toArray, List.set_cons_zero, List.set_cons_succ, List.getElem_toArray, List.getElem_cons_zero, List.getElem_cons_succ]
        refine wpAnyL_ready (rs := [9]) (by kernel_rfl) (by simp) ?_
        refine AllL.cons rfl (fun K hK => ?_) ?_
        · go_simp
          refine (keepAccepts _ _ _ _ _ _ _ _ d (HSA3.out.below HB11d.out) (HSN3.out.below HB11d.out) HV.out _ _ _ _ [] (Sl.nil _ (fun _ => False) none 0) (by omega) (by simp)).mono ?_
          rintro e w12 ⟨rfl, hb12⟩
          have HB12 := Lib.hid (HB11d.out.trans (hb12.mono HB11d.out.size))
          have HBL12 := Lib.hid (HBL11d.out.trans (hb12.mono HBL11d.out.size))
          have HK12 := Lib.hid (HCELL.out _ HB12.out)
          clear hb12
          refine hK.out _ _ HK12.out (fun _ => trivial) ?_
          clear hK K
          refine wpAnyL_ready (rs := [11]) (by kernel_rfl) (by simp) ?_
          refine AllL.cons rfl (fun K hK => ?_) ?_
          · go_simp
            refine (keepAccepts _ _ _ _ _ _ _ _ h (HSA3'.out.below HB12.out) (HSN3'.out.below HB12.out) HV'.out _ _ _ _ [] (Sl.nil _ (fun _ => False) none 0) (by omega) (by simp)).mono ?_
            rintro e w13 ⟨rfl, hb13⟩
            have HB13 := Lib.hid (HB12.out.trans (hb13.mono HB12.out.size))
            have HBL13 := Lib.hid (HBL12.out.trans (hb13.mono HBL12.out.size))
            have HK13 := Lib.hid (HCELL.out _ HB13.out)
            clear hb13
            refine hK.out _ _ HK13.out (fun _ => trivial) ?_
            clear hK K
            refine wpAnyL_pure (i := 12) rfl (by kernel_rfl) (fun _ _ _ h => h) (Or.inl ⟨by rfl, (fun u hu => by obtain ⟨⟨k0, k1, k2⟩, k3, k4, k5⟩ := hu; go_simp; try rfl)⟩) HK13.out (fun _ => trivial) ?_
            simp only [Act.put, List.setIfInBounds_toArray, List.set_cons_zero, List.set_cons_succ, List.getElem_toArray, List.getElem_cons_zero, List.getElem_cons_succ]
            refine wpAnyL_pure (i := 13) rfl (by kernel_rfl) (fun _ _ _ h => h) (Or.inl ⟨by rfl, (fun u hu => by obtain ⟨⟨k0, k1, k2⟩, k3, k4, k5⟩ := hu; go_simp; try rfl)⟩) HK13.out (fun _ => trivial) ?_
            simp only [Act.put, List.setIfInBounds_toArray, List.set_cons_zero, List.set_cons_succ, List.getElem_toArray, List.getElem_cons_zero, List.getElem_cons_succ]
            refine wpAnyL_pure (i := 14) rfl (by kernel_rfl) (fun _ _ _ h => h) (Or.inl ⟨by rfl, (fun u hu => by obtain ⟨⟨k0, k1, k2⟩, k3, k4, k5⟩ := hu; go_simp; try rfl)⟩) HK13.out (fun _ => trivial) ?_
            simp only [Act.put, List.setIfInBounds_toArray, List.set_cons_zero, List.set_cons_succ, List.getElem_toArray, List.getElem_cons_zero, List.getElem_cons_succ]
            refine wpAnyL_pure (i := 15) rfl (by kernel_rfl) (fun _ _ _ h => h) (Or.inl ⟨by rfl, (fun u hu => by obtain ⟨⟨k0, k1, k2⟩, k3, k4, k5⟩ := hu; go_simp; try rfl)⟩) HK13.out (fun _ => trivial) ?_
            simp only [Act.put, List.setIfInBounds_toArray, List.set_cons_zero, List.set_cons_succ, List.getElem_toArray, List.getElem_cons_zero, List.getElem_cons_succ]
            refine wpAnyL_done (by kernel_rfl) ?_ _
            rw [HQ0.out]
            have HSL13 := Lib.hid (show Sl Rep.int w13 (fun b => w9.heap.size ≤ b) Al 0 cl [] from HSL.out.below HBL13.out)
            have HT13 := Lib.hid (HT11.out.below HBL13.out)
            have hlen5 : 0 ≤ 5 := by omega
            have HLB := Lib.hid (show Sl Rep.int w13 (fun b => w9.heap.size ≤ b) Al 0 cl [] from HSL13.out)
            have HLL5 := Lib.hid (show 0 = ([] : List Int).length from HLB.out.len)
            have hC3 := HC3.out
            go_wp2_with fail
            go_loopg [15, 17, 123] (0 + 1) (fun gk va vb vi wr => ∃ k : Nat, k ≤ 0 ∧ gk = 0 + 1 - k ∧ vi = .int .i64 k ∧ Below w13.heap.size w13 wr)
            case atStart => exact ⟨0, Nat.zero_le _, rfl, rfl, Below.refl _ _⟩
            case round =>
              obtain ⟨k, hk, hgk, rfl, hb18⟩ := hrel
              obtain ⟨w18, rfl⟩ : ∃ w18 : World, w18 = wr := ⟨_, rfl⟩
              have HGK := Lib.hid hgk
              have HBC0 := Lib.hid hb18
              have HB18 := Lib.hid (HB13.out.trans (hb18.mono HB13.out.size))
              have HT18 := Lib.hid (HT13.out.below hb18)
              have hkI : (k : Int) < (0 : Int) + 1 := by omega
              have hkL := hkI
              clear hgk hb18
              go_wp2_with fail
              refine (teachSymbols _ _ _ _ _ _ HT18.out (plain_valid HV.out)).mono ?_
              rintro e w19 ⟨rfl, rfl⟩
              rw [show cols (plainD d) = cols d from rfl]
              go_wp2_with fail
              refine (keepWords w18 (cols d) k (by omega) (by omega)).mono ?_
              rintro e w20 ⟨AW, cW, rfl, hsW, hbW⟩
              obtain ⟨L, hL⟩ : ∃ L, L = wordsP (cols d) k := ⟨_, rfl⟩
              have hLl : L.length ≤ 1024 := by
                rw [hL, wordsP_len]
                exact Nat.le_trans (Nat.pow_le_pow_left (show cols d ≤ 4 by omega) k) (Nat.le_trans (Nat.pow_le_pow_right (by omega) (show k ≤ 5 by omega)) (by decide))
              rw [← hL] at hsW ⊢
              have HL := Lib.hid hL
              have HSW := Lib.hid hsW
              have HB20 := Lib.hid (HB18.out.trans (hbW.mono HB18.out.size))
              have HBC := Lib.hid (HBC0.out.trans (hbW.mono HBC0.out.size))
              have hzC := HBC.out.size
              clear hL hsW hbW
              go_wp2_with fail
              go_loopg [17, 131] L.length (fun gj vb vj wr => ∃ i : Nat, i ≤ L.length ∧ gj = L.length - i ∧ vj = .int .i64 i ∧ (∀ q, q < i → L[q]? ≠ some []) ∧ Below w3.heap.size w3 wr ∧ Below w13.heap.size w13 wr ∧ Below w20.heap.size w20 wr)
              case atStart => exact ⟨0, Nat.zero_le _, rfl, rfl, (fun q hq => by omega), HB20.out, HBC.out, Below.refl _ _⟩
              case round =>
                obtain ⟨i, hi, hgj, rfl, hnot, hb21, hbc21, hbw21⟩ := hrel
                obtain ⟨w21, rfl⟩ : ∃ w21 : World, w21 = wr := ⟨_, rfl⟩
                have HGJ := Lib.hid hgj
                have HNOT := Lib.hid hnot
                have HB21 := Lib.hid hb21
                have HBC21 := Lib.hid hbc21
                have HBW21 := Lib.hid hbw21
                clear hgj hnot hb21 hbc21 hbw21
                by_cases hil : i < L.length
                · obtain ⟨bW, oW, Av, mv, cv, v, rfl, _, _, hcv, hv, hsv⟩ := row_at (HSW.out.below HBW21.out) hil
                  have HVV := Lib.hid hv
                  have hvm := (wordsP_mem (cols d) k v).1 (HL.out ▸ List.mem_of_getElem? hv)
                  have hmv : mv ≤ 5 := by rw [hsv.len, hvm.1]; omega
                  have HVX := Lib.hid hvm.2
                  have HVX' := Lib.hid (show ∀ x ∈ v, 0 ≤ x ∧ x < cols h from fun x hx => by rw [HCC.out]; exact hvm.2 x hx)
                  have HVK := Lib.hid hvm.1
                  have HSV := Lib.hid hsv
                  clear hv hvm hsv
                  go_wp2_with fail
                  have heq := equalInt Av Al mv cv 0 cl _ _ v [] w21 HSV.out.ints (HLB.out.below HBC21.out).ints (by omega) (by omega)
                  refine heq.mono ?_
                  rintro e w22 ⟨rfl, nd, hw22⟩
                  have HB22 := Lib.hid (show Below w3.heap.size w3 w22 by rw [hw22]; exact belowN HB21.out _)
                  have HBC22 := Lib.hid (show Below w13.heap.size w13 w22 by rw [hw22]; exact belowN HBC21.out _)
                  have HBW22 := Lib.hid (show Below w20.heap.size w20 w22 by rw [hw22]; exact belowN HBW21.out _)
                  have HSL22 := Lib.hid (HLB.out.below HBC22.out)
                  have HSV22 := Lib.hid (show Sl Rep.int w22 _ Av mv cv v by rw [hw22]; exact HSV.out.below (belowN (Below.refl _ _) _))
                  have hz22 := HBC22.out.size
                  clear heq hcv hw22
                  by_cases hvl : v = []
                  · have hvb : (v == []) = true := by simpa using hvl
                    rw [hvb]
                    clear hvb hvl
                    have HWLX := Lib.hid (show ∀ x ∈ ([] : List Int), 0 ≤ x ∧ x < cols d from HWL.out)
                    have HWLX' := Lib.hid (show ∀ x ∈ ([] : List Int), 0 ≤ x ∧ x < cols h from HWL'.out)
                    go_wp2_with fail
                    obtain ⟨w22d, hw22d⟩ : ∃ w22d : World, w22d = w22.drew := ⟨_, rfl⟩
                    have HB22d := Lib.hid (show Below w3.heap.size w3 w22d by rw [hw22d]; exact HB22.out.drew)
                    have HBL22d := Lib.hid (show Below w22.heap.size w22 w22d by rw [hw22d]; exact (Below.refl _ _).drew)
                    have HK22d := Lib.hid (HCELL.out _ HB22d.out)
                    refine wp_region_late (late := []) (S1 := fun u => (u.cell? ⟨B5, 0, none⟩ = some (.int .i64 d.1) ∧ u.cell? ⟨B5, 1, none⟩ = some (.slice A nA cA) ∧ u.cell? ⟨B5, 2, none⟩ = some (.slice N n cN)) ∧ u.cell? ⟨B5 + 1, 0, none⟩ = some (.int .i64 h.1) ∧ u.cell? ⟨B5 + 1, 1, none⟩ = some (.slice A' nA' cA') ∧ u.cell? ⟨B5 + 1, 2, none⟩ = some (.slice (some ⟨bN, oN, none⟩) n' cN')) (S := fun _ => True) (by kernel_rfl) ?_
                    rw [← hw22d]
                    clear hw22d
                    refine wpAnyL_pure (i := 0) rfl (by kernel_rfl) (fun _ _ _ h => h) (Or.inl ⟨by rfl, (fun u hu => by obtain ⟨⟨k0, k1, k2⟩, k3, k4, k5⟩ := hu; go_simp; try rfl)⟩) HK22d.out (fun _ => trivial) ?_
                    simp only [Act.put, List.setIfInBounds_toArray, List.set_cons_zero, List.set_cons_succ, List.getElem_toArray, List.getElem_cons_zero, List.getElem_cons_succ]
                    refine wpAnyL_pure (i := 1) rfl (by kernel_rfl) (fun _ _ _ h => h) (Or.inl ⟨by rfl, (fun u hu => by obtain ⟨⟨k0, k1, k2⟩, k3, k4, k5⟩ := hu; go_simp; try rfl)⟩) HK22d.out (fun _ => trivial) ?_
                    simp only [Act.put, List.setIfInBounds_toArray, List.set_cons_zero, List.set_cons_succ, List.getElem_toArray, List.getElem_cons_zero, List.getElem_cons_succ]
                    refine wpAnyL_pure (i := 3) rfl (by kernel_rfl) (fun _ _ _ h => h) (Or.inl ⟨by rfl, (fun u hu => by obtain ⟨⟨k0, k1, k2⟩, k3, k4, k5⟩ := hu; go_simp; try rfl)⟩) HK22d.out (fun _ => trivial) ?_
                    simp only [Act.put, List.setIfInBounds_toArray, List.set_cons_zero, List.set_cons_succ, List.getElem_toArray, List.getElem_cons_zero, List.getElem_cons_succ]
                    refine wpAnyL_pure (i := 4) rfl (by kernel_rfl) (fun _ _ _ h => h) (Or.inl ⟨by rfl, (fun u hu => by obtain ⟨⟨k0, k1, k2⟩, k3, k4, k5⟩ := hu; go_simp; try rfl)⟩) HK22d.out (fun _ => trivial) ?_
                    simp only [Act.put, List.setIfInBounds_toArray, List.set_cons_zero, List.set_cons_succ, List.getElem_toArray, List.getElem_cons_zero, List.getElem_cons_succ]
                    refine wpAnyL_ready (rs := [2]) (by kernel_rfl) (by simp) ?_
                    refine AllL.cons rfl (fun K hK => ?_) ?_
                    · go_simp
                      refine (keepAccepts _ _ _ _ _ _ _ _ d (HSA3.out.below HB22d.out) (HSN3.out.below HB22d.out) HV.out _ _ _ _ [] (HSL22.out.below HBL22d.out) (by omega) HWLX.out).mono ?_
                      rintro e w23 ⟨rfl, hb23⟩
                      have HB23 := Lib.hid (HB22d.out.trans (hb23.mono HB22d.out.size))
                      have HBL23 := Lib.hid (HBL22d.out.trans (hb23.mono HBL22d.out.size))
                      have HK23 := Lib.hid (HCELL.out _ HB23.out)
                      clear hb23
                      refine hK.out _ _ HK23.out (fun _ => trivial) ?_
                      clear hK K
                      refine wpAnyL_ready (rs := [5]) (by kernel_rfl) (by simp) ?_
                      refine AllL.cons rfl (fun K hK => ?_) ?_
                      · go_simp
                        refine (keepAccepts _ _ _ _ _ _ _ _ h (HSA3'.out.below HB23.out) (HSN3'.out.below HB23.out) HV'.out _ _ _ _ [] (HSL22.out.below HBL23.out) (by omega) HWLX'.out).mono ?_
                        rintro e w24 ⟨rfl, hb24⟩
                        have HB24 := Lib.hid (HB23.out.trans (hb24.mono HB23.out.size))
                        have HBL24 := Lib.hid (HBL23.out.trans (hb24.mono HBL23.out.size))
                        have HK24 := Lib.hid (HCELL.out _ HB24.out)
                        clear hb24
                        refine hK.out _ _ HK24.out (fun _ => trivial) ?_
                        clear hK K
                        refine wpAnyL_pure (i := 6) rfl (by kernel_rfl) (fun _ _ _ h => h) (Or.inl ⟨by rfl, (fun u hu => by obtain ⟨⟨k0, k1, k2⟩, k3, k4, k5⟩ := hu; go_simp; try rfl)⟩) HK24.out (fun _ => trivial) ?_
                        simp only [Act.put, List.setIfInBounds_toArray, List.set_cons_zero, List.set_cons_succ, List.getElem_toArray, List.getElem_cons_zero, List.getElem_cons_succ]
                        refine wpAnyL_pure (i := 7) rfl (by kernel_rfl) (fun _ _ _ h => h) (Or.inl ⟨by rfl, (fun u hu => by obtain ⟨⟨k0, k1, k2⟩, k3, k4, k5⟩ := hu; go_simp; try rfl)⟩) HK24.out (fun _ => trivial) ?_
                        simp only [Act.put, List.setIfInBounds_toArray, List.set_cons_zero, List.set_cons_succ, List.getElem_toArray, List.getElem_cons_zero, List.getElem_cons_succ]
                        refine wpAnyL_done (by kernel_rfl) ?_ _
                        rw [HQE.out]
                        go_wp2_with fail
                        go_ret
                        exact ⟨rfl, HB3.out.trans (HB24.out.mono HB3.out.size)⟩
                      exact AllL.nil
                    exact AllL.nil
                  · have hvb : (v == []) = false := by simpa using hvl
                    rw [hvb]
                    have HNOT' := Lib.hid (show ∀ q, q < i + 1 → L[q]? ≠ some [] from fun q hq e => by
                      rcases Nat.lt_or_ge q i with h1 | h1
                      · exact HNOT.out q h1 e
                      · obtain rfl : q = i := by omega
                        rw [HVV.out] at e
                        injection e with e
                        exact hvl e)
                    have hslt : SLt v [] := by
                      rcases Nat.lt_or_ge k 0 with h1 | h1
                      · exact .inl (by rw [HVK.out, ← HLL5.out]; exact h1)
                      · have hk5 : k = 0 := by omega
                        have hw : ([] : List Int) ∈ wordsP (cols d) k := (wordsP_mem (cols d) k _).2 ⟨by rw [← HLL5.out, hk5], HWL.out⟩
                        have hno : ∀ q, q ≤ i → L[q]? ≠ some [] := fun q hq => HNOT'.out q (by omega)
                        have hvv := HVV.out
                        rw [HL.out] at hvv hno
                        exact wordsP_before hw hvv hno
                    have HEQV := Lib.hid (show (daccept d v == daccept h v) = true by rw [HLEAST.out v HVX.out hslt]; simp)
                    clear hvb hvl hslt
                    go_wp2_with fail
                    obtain ⟨w22d, hw22d⟩ : ∃ w22d : World, w22d = w22.drew := ⟨_, rfl⟩
                    have HB22d := Lib.hid (show Below w3.heap.size w3 w22d by rw [hw22d]; exact HB22.out.drew)
                    have HBL22d := Lib.hid (show Below w22.heap.size w22 w22d by rw [hw22d]; exact (Below.refl _ _).drew)
                    have HK22d := Lib.hid (HCELL.out _ HB22d.out)
                    refine wp_region_late (late := []) (S1 := fun u => (u.cell? ⟨B5, 0, none⟩ = some (.int .i64 d.1) ∧ u.cell? ⟨B5, 1, none⟩ = some (.slice A nA cA) ∧ u.cell? ⟨B5, 2, none⟩ = some (.slice N n cN)) ∧ u.cell? ⟨B5 + 1, 0, none⟩ = some (.int .i64 h.1) ∧ u.cell? ⟨B5 + 1, 1, none⟩ = some (.slice A' nA' cA') ∧ u.cell? ⟨B5 + 1, 2, none⟩ = some (.slice (some ⟨bN, oN, none⟩) n' cN')) (S := fun _ => True) (by kernel_rfl) ?_
                    rw [← hw22d]
                    clear hw22d
                    refine wpAnyL_pure (i := 0) rfl (by kernel_rfl) (fun _ _ _ h => h) (Or.inl ⟨by rfl, (fun u hu => by obtain ⟨⟨k0, k1, k2⟩, k3, k4, k5⟩ := hu; go_simp; try rfl)⟩) HK22d.out (fun _ => trivial) ?_
                    simp only [Act.put, List.setIfInBounds_toArray, List.set_cons_zero, List.set_cons_succ, List.getElem_toArray, List.getElem_cons_zero, List.getElem_cons_succ]
                    refine wpAnyL_pure (i := 1) rfl (by kernel_rfl) (fun _ _ _ h => h) (Or.inl ⟨by rfl, (fun u hu => by obtain ⟨⟨k0, k1, k2⟩, k3, k4, k5⟩ := hu; go_simp; try rfl)⟩) HK22d.out (fun _ => trivial) ?_
                    simp only [Act.put, List.setIfInBounds_toArray, List.set_cons_zero, List.set_cons_succ, List.getElem_toArray, List.getElem_cons_zero, List.getElem_cons_succ]
                    refine wpAnyL_pure (i := 3) rfl (by kernel_rfl) (fun _ _ _ h => h) (Or.inl ⟨by rfl, (fun u hu => by obtain ⟨⟨k0, k1, k2⟩, k3, k4, k5⟩ := hu; go_simp; try rfl)⟩) HK22d.out (fun _ => trivial) ?_
                    simp only [Act.put, List.setIfInBounds_toArray, List.set_cons_zero, List.set_cons_succ, List.getElem_toArray, List.getElem_cons_zero, List.getElem_cons_succ]
                    refine wpAnyL_pure (i := 4) rfl (by kernel_rfl) (fun _ _ _ h => h) (Or.inl ⟨by rfl, (fun u hu => by obtain ⟨⟨k0, k1, k2⟩, k3, k4, k5⟩ := hu; go_simp; try rfl)⟩) HK22d.out (fun _ => trivial) ?_
                    simp only [Act.put, List.setIfInBounds_toArray, List.set_cons_zero, List.set_cons_succ, List.getElem_toArray, List.getElem_cons_zero, List.getElem_cons_succ]
                    refine wpAnyL_ready (rs := [2]) (by kernel_rfl) (by simp) ?_
                    refine AllL.cons rfl (fun K hK => ?_) ?_
                    · go_simp
                      refine (keepAccepts _ _ _ _ _ _ _ _ d (HSA3.out.below HB22d.out) (HSN3.out.below HB22d.out) HV.out _ _ _ _ v (HSV22.out.below HBL22d.out) (by omega) HVX.out).mono ?_
                      rintro e w23 ⟨rfl, hb23⟩
                      have HB23 := Lib.hid (HB22d.out.trans (hb23.mono HB22d.out.size))
                      have HBL23 := Lib.hid (HBL22d.out.trans (hb23.mono HBL22d.out.size))
                      have HK23 := Lib.hid (HCELL.out _ HB23.out)
                      clear hb23
                      refine hK.out _ _ HK23.out (fun _ => trivial) ?_
                      clear hK K
                      refine wpAnyL_ready (rs := [5]) (by kernel_rfl) (by simp) ?_
                      refine AllL.cons rfl (fun K hK => ?_) ?_
                      · go_simp
                        refine (keepAccepts _ _ _ _ _ _ _ _ h (HSA3'.out.below HB23.out) (HSN3'.out.below HB23.out) HV'.out _ _ _ _ v (HSV22.out.below HBL23.out) (by omega) HVX'.out).mono ?_
                        rintro e w24 ⟨rfl, hb24⟩
                        have HB24 := Lib.hid (HB23.out.trans (hb24.mono HB23.out.size))
                        have HBL24 := Lib.hid (HBL23.out.trans (hb24.mono HBL23.out.size))
                        have HK24 := Lib.hid (HCELL.out _ HB24.out)
                        clear hb24
                        refine hK.out _ _ HK24.out (fun _ => trivial) ?_
                        clear hK K
                        refine wpAnyL_pure (i := 6) rfl (by kernel_rfl) (fun _ _ _ h => h) (Or.inl ⟨by rfl, (fun u hu => by obtain ⟨⟨k0, k1, k2⟩, k3, k4, k5⟩ := hu; go_simp; try rfl)⟩) HK24.out (fun _ => trivial) ?_
                        simp only [Act.put, List.setIfInBounds_toArray, List.set_cons_zero, List.set_cons_succ, List.getElem_toArray, List.getElem_cons_zero, List.getElem_cons_succ]
                        refine wpAnyL_done (by kernel_rfl) ?_ _
                        rw [HEQV.out]
                        go_wp2_with fail
                        go_roundg (L.length - (i + 1))
                        case measure => rw [HGJ.out]; omega
                        case rel => exact ⟨i + 1, by omega, rfl, by go_num, HNOT'.out, HB24.out, HBC22.out.trans (HBL24.out.mono hz22), HBW22.out.trans (HBL24.out.mono HBW22.out.size)⟩
                      exact AllL.nil
                    exact AllL.nil
                · obtain rfl : i = L.length := by omega
                  have hklt : k < 0 := by
                    rcases Nat.lt_or_ge k 0 with h1 | h1
                    · exact h1
                    · have hk5 : k = 0 := by omega
                      have hw : ([] : List Int) ∈ L := by rw [HL.out]; exact (wordsP_mem (cols d) k _).2 ⟨by rw [← HLL5.out, hk5], HWL.out⟩
                      obtain ⟨q, hq⟩ := List.getElem?_of_mem hw
                      exact absurd hq (HNOT.out q (List.getElem?_eq_some_iff.1 hq).1)
                  go_wp2_with fail
                  go_roundg (0 + 1 - (k + 1))
                  case measure => rw [HGK.out]; omega
                  case rel => exact ⟨k + 1, by omega, rfl, by go_num, HBC21.out⟩
          exact AllL.nil
        exact AllL.nil
      · have hl0I : ((l.length : Int) == 0) = false := by simpa using hl0
        obtain ⟨len, hlen⟩ : ∃ len, len = l.length := ⟨_, rfl⟩
        have HLEN := Lib.hid hlen
        rw [← hlen] at hl0I hl49 ⊢
        have hlen0 : 0 < len := by omega
        clear hl0 hlen
        go_wp2_with fail
        go_quiet (fail)
        obtain ⟨w12, hw12⟩ : ∃ w12 : World, w12 = w11.drewN nq := ⟨_, rfl⟩
        have HB12 := Lib.hid (show Below w3.heap.size w3 w12 by rw [hw12]; exact belowN HB11.out _)
        have HT12 := Lib.hid (HT11.out.below (show Below w11.heap.size w11 w12 by rw [hw12]; exact belowN (Below.refl _ _) _))
        have HSL12 := Lib.hid (show Sl Rep.int w12 (fun b => w9.heap.size ≤ b) Al len cl l by rw [hw12, HLEN.out]; exact HSL.out.below (belowN (Below.refl _ _) _))
        rw [← hw12]
        clear hw12
        by_cases hl5 : 5 < len
        · have hl5I : decide ((5 : Int) < (len : Int)) = true := by simp; omega
          go_wp2_with fail
          obtain ⟨w12d, hw12d⟩ : ∃ w12d : World, w12d = w12.drew := ⟨_, rfl⟩
          have HB12d := Lib.hid (show Below w3.heap.size w3 w12d by rw [hw12d]; exact HB12.out.drew)
          have HBL12d := Lib.hid (show Below w12.heap.size w12 w12d by rw [hw12d]; exact (Below.refl _ _).drew)
          have HK12d := Lib.hid (HCELL.out _ HB12d.out)
          refine wp_region_late (late := []) (S1 := fun u => (u.cell? ⟨B5, 0, none⟩ = some (.int .i64 d.1) ∧ u.cell? ⟨B5, 1, none⟩ = some (.slice A nA cA) ∧ u.cell? ⟨B5, 2, none⟩ = some (.slice N n cN)) ∧ u.cell? ⟨B5 + 1, 0, none⟩ = some (.int .i64 h.1) ∧ u.cell? ⟨B5 + 1, 1, none⟩ = some (.slice A' nA' cA') ∧ u.cell? ⟨B5 + 1, 2, none⟩ = some (.slice (some ⟨bN, oN, none⟩) n' cN')) (S := fun _ => True) (by kernel_rfl) ?_
          rw [← hw12d]
          clear hw12d
          refine wpAnyL_pure (i := 0) rfl (by kernel_rfl) (fun _ _ _ h => h) (Or.inl ⟨by rfl, (fun u hu => by obtain ⟨⟨k0, k1, k2⟩, k3, k4, k5⟩ := hu; go_simp; try rfl)⟩) HK12d.out (fun _ => trivial) ?_
          simp only [Act.put, List.setIfInBounds_toArray, List.set_cons_zero, List.set_cons_succ, List.getElem_toArray, List.getElem_cons_zero, List.getElem_cons_succ]
          refine wpAnyL_pure (i := 1) rfl (by kernel_rfl) (fun _ _ _ h => h) (Or.inl ⟨by rfl, (fun u hu => by obtain ⟨⟨k0, k1, k2⟩, k3, k4, k5⟩ := hu; go_simp; try rfl)⟩) HK12d.out (fun _ => trivial) ?_
          simp only [Act.put, List.setIfInBounds_toArray, List.set_cons_zero, List.set_cons_succ, List.getElem_toArray, List.getElem_cons_zero, List.getElem_cons_succ]
          refine wpAnyL_pure (i := 2) rfl (by kernel_rfl) (fun _ _ _ h => h) (Or.inl ⟨by rfl, (fun u hu => by obtain ⟨⟨k0, k1, k2⟩, k3, k4, k5⟩ := hu; go_simp; try rfl)⟩) HK12d.out (fun _ => trivial) ?_
          simp only [Act.put, List.setIfInBounds_toArray, List.set_cons_zero, List.set_cons_succ, List.getElem_toArray, List.getElem_cons_zero, List.getElem_cons_succ]
          refine wpAnyL_pure (i := 3) rfl (by kernel_rfl) (fun _ _ _ h => h) (Or.inl ⟨by rfl, (fun u hu => by obtain ⟨⟨k0, k1, k2⟩, k3, k4, k5⟩ := hu; go_simp; try rfl)⟩) HK12d.out (fun _ => trivial) ?_
          simp only [Act.put, List.setIfInBounds_toArray, List.set_cons_zero, List.set_cons_succ, List.getElem_toArray, List.getElem_cons_zero, List.getElem_cons_succ]
          refine wpAnyL_pure (i := 5) rfl (by kernel_rfl) (fun _ _ _ h => h) (Or.inl ⟨by rfl, (fun u hu => by obtain ⟨⟨k0, k1, k2⟩, k3, k4, k5⟩ := hu; go_simp; try rfl)⟩) HK12d.out (fun _ => trivial) ?_
          simp only [Act.put, List.setIfInBounds_toArray, List.set_cons_zero, List.set_cons_succ, List.getElem_toArray, List.getElem_cons_zero, List.getElem_cons_succ]
          refine wpAnyL_pure (i := 6) rfl (by kernel_rfl) (fun _ _ _ h => h) (Or.inl ⟨by rfl, (fun u hu => by obtain ⟨⟨k0, k1, k2⟩, k3, k4, k5⟩ := hu; go_simp; try rfl)⟩) HK12d.out (fun _ => trivial) ?_
          simp only [Act.put, List.setIfInBounds_toArray, List.set_cons_zero, List.set_cons_succ, List.getElem_toArray, List.getElem_cons_zero, List.getElem_cons_succ]
          refine wpAnyL_ready (rs := [4]) (by kernel_rfl) (by simp) ?_
          refine AllL.cons rfl (fun K hK => ?_) ?_
          · go_simp
            refine (keepAccepts _ _ _ _ _ _ _ _ d (HSA3.out.below HB12d.out) (HSN3.out.below HB12d.out) HV.out _ _ _ _ l (HSL12.out.below HBL12d.out) (by omega) HWL.out).mono ?_
            rintro e w13 ⟨rfl, hb13⟩
            have HB13 := Lib.hid (HB12d.out.trans (hb13.mono HB12d.out.size))
            have HBL13 := Lib.hid (HBL12d.out.trans (hb13.mono HBL12d.out.size))
            have HK13 := Lib.hid (HCELL.out _ HB13.out)
            clear hb13
            refine hK.out _ _ HK13.out (fun _ => trivial) ?_
            clear hK K
            refine wpAnyL_ready (rs := [7]) (by kernel_rfl) (by simp) ?_
            refine AllL.cons rfl (fun K hK => ?_) ?_
            · go_simp
              refine (keepAccepts _ _ _ _ _ _ _ _ h (HSA3'.out.below HB13.out) (HSN3'.out.below HB13.out) HV'.out _ _ _ _ l (HSL12.out.below HBL13.out) (by omega) HWL'.out).mono ?_
              rintro e w14 ⟨rfl, hb14⟩
              have HB14 := Lib.hid (HB13.out.trans (hb14.mono HB13.out.size))
              have HBL14 := Lib.hid (HBL13.out.trans (hb14.mono HBL13.out.size))
              have HK14 := Lib.hid (HCELL.out _ HB14.out)
              clear hb14
              refine hK.out _ _ HK14.out (fun _ => trivial) ?_
              clear hK K
              refine wpAnyL_pure (i := 8) rfl (by kernel_rfl) (fun _ _ _ h => h) (Or.inl ⟨by rfl, (fun u hu => by obtain ⟨⟨k0, k1, k2⟩, k3, k4, k5⟩ := hu; go_simp; try rfl)⟩) HK14.out (fun _ => trivial) ?_
              simp only [Act.put, List.setIfInBounds_toArray, List.set_cons_zero, List.set_cons_succ, List.getElem_toArray, List.getElem_cons_zero, List.getElem_cons_succ]
              refine wpAnyL_pure (i := 9) rfl (by kernel_rfl) (fun _ _ _ h => h) (Or.inl ⟨by rfl, (fun u hu => by obtain ⟨⟨k0, k1, k2⟩, k3, k4, k5⟩ := hu; go_simp; try rfl)⟩) HK14.out (fun _ => trivial) ?_
              simp only [Act.put, List.setIfInBounds_toArray, List.set_cons_zero, List.set_cons_succ, List.getElem_toArray, List.getElem_cons_zero, List.getElem_cons_succ]
              refine wpAnyL_pure (i := 10) rfl (by kernel_rfl) (fun _ _ _ h => h) (Or.inl ⟨by rfl, (fun u hu => by obtain ⟨⟨k0, k1, k2⟩, k3, k4, k5⟩ := hu; go_simp; try rfl)⟩) HK14.out (fun _ => trivial) ?_
              simp only [Act.put, List.setIfInBounds_toArray, List.set_cons_zero, List.set_cons_succ, List.getElem_toArray, List.getElem_cons_zero, List.getElem_cons_succ]
              refine wpAnyL_done (by kernel_rfl) ?_ _
              rw [HQE.out]
              go_wp2_with fail
              go_ret
              exact ⟨rfl, HB3.out.trans (HB14.out.mono HB3.out.size)⟩
            exact AllL.nil
          exact AllL.nil
        · have hl5I : decide ((5 : Int) < (len : Int)) = false := by simp; omega
          have hlen5 : len ≤ 5 := by omega
          have HLB := Lib.hid (show Sl Rep.int w12 (fun b => w9.heap.size ≤ b) Al len cl l from HSL12.out)
          have HLL5 := Lib.hid (show len = (l : List Int).length from HLB.out.len)
          have hC3 := HC3.out
          go_wp2_with fail
          go_loopg [15, 17, 123] (len + 1) (fun gk va vb vi wr => ∃ k : Nat, k ≤ len ∧ gk = len + 1 - k ∧ vi = .int .i64 k ∧ Below w12.heap.size w12 wr)
          case atStart => exact ⟨0, Nat.zero_le _, rfl, rfl, Below.refl _ _⟩
          case round =>
            obtain ⟨k, hk, hgk, rfl, hb18⟩ := hrel
            obtain ⟨w18, rfl⟩ : ∃ w18 : World, w18 = wr := ⟨_, rfl⟩
            have HGK := Lib.hid hgk
            have HBC0 := Lib.hid hb18
            have HB18 := Lib.hid (HB12.out.trans (hb18.mono HB12.out.size))
            have HT18 := Lib.hid (HT12.out.below hb18)
            have hkI : (k : Int) < (len : Int) + 1 := by omega
            have hkL := hkI
            clear hgk hb18
            go_wp2_with fail
            refine (teachSymbols _ _ _ _ _ _ HT18.out (plain_valid HV.out)).mono ?_
            rintro e w19 ⟨rfl, rfl⟩
            rw [show cols (plainD d) = cols d from rfl]
            go_wp2_with fail
            refine (keepWords w18 (cols d) k (by omega) (by omega)).mono ?_
            rintro e w20 ⟨AW, cW, rfl, hsW, hbW⟩
            obtain ⟨L, hL⟩ : ∃ L, L = wordsP (cols d) k := ⟨_, rfl⟩
            have hLl : L.length ≤ 1024 := by
              rw [hL, wordsP_len]
              exact Nat.le_trans (Nat.pow_le_pow_left (show cols d ≤ 4 by omega) k) (Nat.le_trans (Nat.pow_le_pow_right (by omega) (show k ≤ 5 by omega)) (by decide))
            rw [← hL] at hsW ⊢
            have HL := Lib.hid hL
            have HSW := Lib.hid hsW
            have HB20 := Lib.hid (HB18.out.trans (hbW.mono HB18.out.size))
            have HBC := Lib.hid (HBC0.out.trans (hbW.mono HBC0.out.size))
            have hzC := HBC.out.size
            clear hL hsW hbW
            go_wp2_with fail
            go_loopg [17, 131] L.length (fun gj vb vj wr => ∃ i : Nat, i ≤ L.length ∧ gj = L.length - i ∧ vj = .int .i64 i ∧ (∀ q, q < i → L[q]? ≠ some l) ∧ Below w3.heap.size w3 wr ∧ Below w12.heap.size w12 wr ∧ Below w20.heap.size w20 wr)
            case atStart => exact ⟨0, Nat.zero_le _, rfl, rfl, (fun q hq => by omega), HB20.out, HBC.out, Below.refl _ _⟩
            case round =>
              obtain ⟨i, hi, hgj, rfl, hnot, hb21, hbc21, hbw21⟩ := hrel
              obtain ⟨w21, rfl⟩ : ∃ w21 : World, w21 = wr := ⟨_, rfl⟩
              have HGJ := Lib.hid hgj
              have HNOT := Lib.hid hnot
              have HB21 := Lib.hid hb21
              have HBC21 := Lib.hid hbc21
              have HBW21 := Lib.hid hbw21
              clear hgj hnot hb21 hbc21 hbw21
              by_cases hil : i < L.length
              · obtain ⟨bW, oW, Av, mv, cv, v, rfl, _, _, hcv, hv, hsv⟩ := row_at (HSW.out.below HBW21.out) hil
                have HVV := Lib.hid hv
                have hvm := (wordsP_mem (cols d) k v).1 (HL.out ▸ List.mem_of_getElem? hv)
                have hmv : mv ≤ 5 := by rw [hsv.len, hvm.1]; omega
                have HVX := Lib.hid hvm.2
                have HVX' := Lib.hid (show ∀ x ∈ v, 0 ≤ x ∧ x < cols h from fun x hx => by rw [HCC.out]; exact hvm.2 x hx)
                have HVK := Lib.hid hvm.1
                have HSV := Lib.hid hsv
                clear hv hvm hsv
                go_wp2_with fail
                have heq := equalInt Av Al mv cv len cl _ _ v l w21 HSV.out.ints (HLB.out.below HBC21.out).ints (by omega) (by omega)
                refine heq.mono ?_
                rintro e w22 ⟨rfl, nd, hw22⟩
                have HB22 := Lib.hid (show Below w3.heap.size w3 w22 by rw [hw22]; exact belowN HB21.out _)
                have HBC22 := Lib.hid (show Below w12.heap.size w12 w22 by rw [hw22]; exact belowN HBC21.out _)
                have HBW22 := Lib.hid (show Below w20.heap.size w20 w22 by rw [hw22]; exact belowN HBW21.out _)
                have HSL22 := Lib.hid (HLB.out.below HBC22.out)
                have HSV22 := Lib.hid (show Sl Rep.int w22 _ Av mv cv v by rw [hw22]; exact HSV.out.below (belowN (Below.refl _ _) _))
                have hz22 := HBC22.out.size
                clear heq hcv hw22
                by_cases hvl : v = l
                · have hvb : (v == l) = true := by simpa using hvl
                  rw [hvb]
                  clear hvb hvl
                  have HWLX := Lib.hid (show ∀ x ∈ (l : List Int), 0 ≤ x ∧ x < cols d from HWL.out)
                  have HWLX' := Lib.hid (show ∀ x ∈ (l : List Int), 0 ≤ x ∧ x < cols h from HWL'.out)
                  go_wp2_with fail
                  obtain ⟨w22d, hw22d⟩ : ∃ w22d : World, w22d = w22.drew := ⟨_, rfl⟩
                  have HB22d := Lib.hid (show Below w3.heap.size w3 w22d by rw [hw22d]; exact HB22.out.drew)
                  have HBL22d := Lib.hid (show Below w22.heap.size w22 w22d by rw [hw22d]; exact (Below.refl _ _).drew)
                  have HK22d := Lib.hid (HCELL.out _ HB22d.out)
                  refine wp_region_late (late := []) (S1 := fun u => (u.cell? ⟨B5, 0, none⟩ = some (.int .i64 d.1) ∧ u.cell? ⟨B5, 1, none⟩ = some (.slice A nA cA) ∧ u.cell? ⟨B5, 2, none⟩ = some (.slice N n cN)) ∧ u.cell? ⟨B5 + 1, 0, none⟩ = some (.int .i64 h.1) ∧ u.cell? ⟨B5 + 1, 1, none⟩ = some (.slice A' nA' cA') ∧ u.cell? ⟨B5 + 1, 2, none⟩ = some (.slice (some ⟨bN, oN, none⟩) n' cN')) (S := fun _ => True) (by kernel_rfl) ?_
                  rw [← hw22d]
                  clear hw22d
                  refine wpAnyL_pure (i := 0) rfl (by kernel_rfl) (fun _ _ _ h => h) (Or.inl ⟨by rfl, (fun u hu => by obtain ⟨⟨k0, k1, k2⟩, k3, k4, k5⟩ := hu; go_simp; try rfl)⟩) HK22d.out (fun _ => trivial) ?_
                  simp only [Act.put, List.setIfInBounds_toArray, List.set_cons_zero, List.set_cons_succ, List.getElem_toArray, List.getElem_cons_zero, List.getElem_cons_succ]
                  refine wpAnyL_pure (i := 1) rfl (by kernel_rfl) (fun _ _ _ h => h) (Or.inl ⟨by rfl, (fun u hu => by obtain ⟨⟨k0, k1, k2⟩, k3, k4, k5⟩ := hu; go_simp; try rfl)⟩) HK22d.out (fun _ => trivial) ?_
                  simp only [Act.put, List.setIfInBounds_toArray, List.set_cons_zero, List.set_cons_succ, List.getElem_toArray, List.getElem_cons_zero, List.getElem_cons_succ]
                  refine wpAnyL_pure (i := 3) rfl (by kernel_rfl) (fun _ _ _ h => h) (Or.inl ⟨by rfl, (fun u hu => by obtain ⟨⟨k0, k1, k2⟩, k3, k4, k5⟩ := hu; go_simp; try rfl)⟩) HK22d.out (fun _ => trivial) ?_
                  simp only [Act.put, List.setIfInBounds_toArray, List.set_cons_zero, List.set_cons_succ, List.getElem_toArray, List.getElem_cons_zero, List.getElem_cons_succ]
                  refine wpAnyL_pure (i := 4) rfl (by kernel_rfl) (fun _ _ _ h => h) (Or.inl ⟨by rfl, (fun u hu => by obtain ⟨⟨k0, k1, k2⟩, k3, k4, k5⟩ := hu; go_simp; try rfl)⟩) HK22d.out (fun _ => trivial) ?_
                  simp only [Act.put, List.setIfInBounds_toArray, List.set_cons_zero, List.set_cons_succ, List.getElem_toArray, List.getElem_cons_zero, List.getElem_cons_succ]
                  refine wpAnyL_ready (rs := [2]) (by kernel_rfl) (by simp) ?_
                  refine AllL.cons rfl (fun K hK => ?_) ?_
                  · go_simp
                    refine (keepAccepts _ _ _ _ _ _ _ _ d (HSA3.out.below HB22d.out) (HSN3.out.below HB22d.out) HV.out _ _ _ _ l (HSL22.out.below HBL22d.out) (by omega) HWLX.out).mono ?_
                    rintro e w23 ⟨rfl, hb23⟩
                    have HB23 := Lib.hid (HB22d.out.trans (hb23.mono HB22d.out.size))
                    have HBL23 := Lib.hid (HBL22d.out.trans (hb23.mono HBL22d.out.size))
                    have HK23 := Lib.hid (HCELL.out _ HB23.out)
                    clear hb23
                    refine hK.out _ _ HK23.out (fun _ => trivial) ?_
                    clear hK K
                    refine wpAnyL_ready (rs := [5]) (by kernel_rfl) (by simp) ?_
                    refine AllL.cons rfl (fun K hK => ?_) ?_
                    · go_simp
                      refine (keepAccepts _ _ _ _ _ _ _ _ h (HSA3'.out.below HB23.out) (HSN3'.out.below HB23.out) HV'.out _ _ _ _ l (HSL22.out.below HBL23.out) (by omega) HWLX'.out).mono ?_
                      rintro e w24 ⟨rfl, hb24⟩
                      have HB24 := Lib.hid (HB23.out.trans (hb24.mono HB23.out.size))
                      have HBL24 := Lib.hid (HBL23.out.trans (hb24.mono HBL23.out.size))
                      have HK24 := Lib.hid (HCELL.out _ HB24.out)
                      clear hb24
                      refine hK.out _ _ HK24.out (fun _ => trivial) ?_
                      clear hK K
                      refine wpAnyL_pure (i := 6) rfl (by kernel_rfl) (fun _ _ _ h => h) (Or.inl ⟨by rfl, (fun u hu => by obtain ⟨⟨k0, k1, k2⟩, k3, k4, k5⟩ := hu; go_simp; try rfl)⟩) HK24.out (fun _ => trivial) ?_
                      simp only [Act.put, List.setIfInBounds_toArray, List.set_cons_zero, List.set_cons_succ, List.getElem_toArray, List.getElem_cons_zero, List.getElem_cons_succ]
                      refine wpAnyL_pure (i := 7) rfl (by kernel_rfl) (fun _ _ _ h => h) (Or.inl ⟨by rfl, (fun u hu => by obtain ⟨⟨k0, k1, k2⟩, k3, k4, k5⟩ := hu; go_simp; try rfl)⟩) HK24.out (fun _ => trivial) ?_
                      simp only [Act.put, List.setIfInBounds_toArray, List.set_cons_zero, List.set_cons_succ, List.getElem_toArray, List.getElem_cons_zero, List.getElem_cons_succ]
                      refine wpAnyL_done (by kernel_rfl) ?_ _
                      rw [HQE.out]
                      go_wp2_with fail
                      go_ret
                      exact ⟨rfl, HB3.out.trans (HB24.out.mono HB3.out.size)⟩
                    exact AllL.nil
                  exact AllL.nil
                · have hvb : (v == l) = false := by simpa using hvl
                  rw [hvb]
                  have HNOT' := Lib.hid (show ∀ q, q < i + 1 → L[q]? ≠ some l from fun q hq e => by
                    rcases Nat.lt_or_ge q i with h1 | h1
                    · exact HNOT.out q h1 e
                    · obtain rfl : q = i := by omega
                      rw [HVV.out] at e
                      injection e with e
                      exact hvl e)
                  have hslt : SLt v l := by
                    rcases Nat.lt_or_ge k len with h1 | h1
                    · exact .inl (by rw [HVK.out, ← HLL5.out]; exact h1)
                    · have hk5 : k = len := by omega
                      have hw : (l : List Int) ∈ wordsP (cols d) k := (wordsP_mem (cols d) k _).2 ⟨by rw [← HLL5.out, hk5], HWL.out⟩
                      have hno : ∀ q, q ≤ i → L[q]? ≠ some l := fun q hq => HNOT'.out q (by omega)
                      have hvv := HVV.out
                      rw [HL.out] at hvv hno
                      exact wordsP_before hw hvv hno
                  have HEQV := Lib.hid (show (daccept d v == daccept h v) = true by rw [HLEAST.out v HVX.out hslt]; simp)
                  clear hvb hvl hslt
                  go_wp2_with fail
                  obtain ⟨w22d, hw22d⟩ : ∃ w22d : World, w22d = w22.drew := ⟨_, rfl⟩
                  have HB22d := Lib.hid (show Below w3.heap.size w3 w22d by rw [hw22d]; exact HB22.out.drew)
                  have HBL22d := Lib.hid (show Below w22.heap.size w22 w22d by rw [hw22d]; exact (Below.refl _ _).drew)
                  have HK22d := Lib.hid (HCELL.out _ HB22d.out)
                  refine wp_region_late (late := []) (S1 := fun u => (u.cell? ⟨B5, 0, none⟩ = some (.int .i64 d.1) ∧ u.cell? ⟨B5, 1, none⟩ = some (.slice A nA cA) ∧ u.cell? ⟨B5, 2, none⟩ = some (.slice N n cN)) ∧ u.cell? ⟨B5 + 1, 0, none⟩ = some (.int .i64 h.1) ∧ u.cell? ⟨B5 + 1, 1, none⟩ = some (.slice A' nA' cA') ∧ u.cell? ⟨B5 + 1, 2, none⟩ = some (.slice (some ⟨bN, oN, none⟩) n' cN')) (S := fun _ => True) (by kernel_rfl) ?_
                  rw [← hw22d]
                  clear hw22d
                  refine wpAnyL_pure (i := 0) rfl (by kernel_rfl) (fun _ _ _ h => h) (Or.inl ⟨by rfl, (fun u hu => by obtain ⟨⟨k0, k1, k2⟩, k3, k4, k5⟩ := hu; go_simp; try rfl)⟩) HK22d.out (fun _ => trivial) ?_
                  simp only [Act.put, List.setIfInBounds_toArray, List.set_cons_zero, List.set_cons_succ, List.getElem_toArray, List.getElem_cons_zero, List.getElem_cons_succ]
                  refine wpAnyL_pure (i := 1) rfl (by kernel_rfl) (fun _ _ _ h => h) (Or.inl ⟨by rfl, (fun u hu => by obtain ⟨⟨k0, k1, k2⟩, k3, k4, k5⟩ := hu; go_simp; try rfl)⟩) HK22d.out (fun _ => trivial) ?_
                  simp only [Act.put, List.setIfInBounds_toArray, List.set_cons_zero, List.set_cons_succ, List.getElem_toArray, List.getElem_cons_zero, List.getElem_cons_succ]
                  refine wpAnyL_pure (i := 3) rfl (by kernel_rfl) (fun _ _ _ h => h) (Or.inl ⟨by rfl, (fun u hu => by obtain ⟨⟨k0, k1, k2⟩, k3, k4, k5⟩ := hu; go_simp; try rfl)⟩) HK22d.out (fun _ => trivial) ?_
                  simp only [Act.put, List.setIfInBounds_toArray, List.set_cons_zero, List.set_cons_succ, List.getElem_toArray, List.getElem_cons_zero, List.getElem_cons_succ]
                  refine wpAnyL_pure (i := 4) rfl (by kernel_rfl) (fun _ _ _ h => h) (Or.inl ⟨by rfl, (fun u hu => by obtain ⟨⟨k0, k1, k2⟩, k3, k4, k5⟩ := hu; go_simp; try rfl)⟩) HK22d.out (fun _ => trivial) ?_
                  simp only [Act.put, List.setIfInBounds_toArray, List.set_cons_zero, List.set_cons_succ, List.getElem_toArray, List.getElem_cons_zero, List.getElem_cons_succ]
                  refine wpAnyL_ready (rs := [2]) (by kernel_rfl) (by simp) ?_
                  refine AllL.cons rfl (fun K hK => ?_) ?_
                  · go_simp
                    refine (keepAccepts _ _ _ _ _ _ _ _ d (HSA3.out.below HB22d.out) (HSN3.out.below HB22d.out) HV.out _ _ _ _ v (HSV22.out.below HBL22d.out) (by omega) HVX.out).mono ?_
                    rintro e w23 ⟨rfl, hb23⟩
                    have HB23 := Lib.hid (HB22d.out.trans (hb23.mono HB22d.out.size))
                    have HBL23 := Lib.hid (HBL22d.out.trans (hb23.mono HBL22d.out.size))
                    have HK23 := Lib.hid (HCELL.out _ HB23.out)
                    clear hb23
                    refine hK.out _ _ HK23.out (fun _ => trivial) ?_
                    clear hK K
                    refine wpAnyL_ready (rs := [5]) (by kernel_rfl) (by simp) ?_
                    refine AllL.cons rfl (fun K hK => ?_) ?_
                    · go_simp
                      refine (keepAccepts _ _ _ _ _ _ _ _ h (HSA3'.out.below HB23.out) (HSN3'.out.below HB23.out) HV'.out _ _ _ _ v (HSV22.out.below HBL23.out) (by omega) HVX'.out).mono ?_
                      rintro e w24 ⟨rfl, hb24⟩
                      have HB24 := Lib.hid (HB23.out.trans (hb24.mono HB23.out.size))
                      have HBL24 := Lib.hid (HBL23.out.trans (hb24.mono HBL23.out.size))
                      have HK24 := Lib.hid (HCELL.out _ HB24.out)
                      clear hb24
                      refine hK.out _ _ HK24.out (fun _ => trivial) ?_
                      clear hK K
                      refine wpAnyL_pure (i := 6) rfl (by kernel_rfl) (fun _ _ _ h => h) (Or.inl ⟨by rfl, (fun u hu => by obtain ⟨⟨k0, k1, k2⟩, k3, k4, k5⟩ := hu; go_simp; try rfl)⟩) HK24.out (fun _ => trivial) ?_
                      simp only [Act.put, List.setIfInBounds_toArray, List.set_cons_zero, List.set_cons_succ, List.getElem_toArray, List.getElem_cons_zero, List.getElem_cons_succ]
                      refine wpAnyL_done (by kernel_rfl) ?_ _
                      rw [HEQV.out]
                      go_wp2_with fail
                      go_roundg (L.length - (i + 1))
                      case measure => rw [HGJ.out]; omega
                      case rel => exact ⟨i + 1, by omega, rfl, by go_num, HNOT'.out, HB24.out, HBC22.out.trans (HBL24.out.mono hz22), HBW22.out.trans (HBL24.out.mono HBW22.out.size)⟩
                    exact AllL.nil
                  exact AllL.nil
              · obtain rfl : i = L.length := by omega
                have hklt : k < len := by
                  rcases Nat.lt_or_ge k len with h1 | h1
                  · exact h1
                  · have hk5 : k = len := by omega
                    have hw : (l : List Int) ∈ L := by rw [HL.out]; exact (wordsP_mem (cols d) k _).2 ⟨by rw [← HLL5.out, hk5], HWL.out⟩
                    obtain ⟨q, hq⟩ := List.getElem?_of_mem hw
                    exact absurd hq (HNOT.out q (List.getElem?_eq_some_iff.1 hq).1)
                go_wp2_with fail
                go_roundg (len + 1 - (k + 1))
                case measure => rw [HGK.out]; omega
                case rel => exact ⟨k + 1, by omega, rfl, by go_num, HBC21.out⟩

  · have HCC := Lib.hid hcc
    refine (teachEqualNo w9 _ Bt (plainD d) 0 (0 + 1) HT9.out (plain_valid HV.out) _ A' nA' cA' N' n' cN' h (HSA3'.out.below HB9.out) (HSN3'.out.below HB9.out) HV'.out HCC.out).mono ?_
    rintro e w10 ⟨rfl, hb10⟩
    have HT10 := Lib.hid (HT9.out.below hb10)
    have HB10 := Lib.hid (HB9.out.trans (hb10.mono HB9.out.size))
    clear k0 k1 k2 k3 k4 k5 hb10
    obtain ⟨⟨k0, k1, k2⟩, k3, k4, k5⟩ := HCELL.out _ HB10.out
    obtain ⟨bN, oN, AR, cR, rfl, hcR, hnI, _⟩ := teach_row (HSN3'.out.below HB10.out) HV'.out
    have hcI : ((cols h : Int) != (cols (plainD d) : Int)) = true := by
      rw [show cols (plainD d) = cols d from rfl]
      simp; omega
    go_wp2_with fail
    go_quiet ((go_at_call 14; exact quiet_leftE (teachSymbols _ _ Bt (plainD d) 0 (0 + 1) (HT10.out.below (belowN (Below.refl _ _) _)) (plain_valid HV.out))))
    go_wp2_with fail
    go_ret
    exact ⟨rfl, HB3.out.trans ((belowN HB10.out _).mono HB3.out.size)⟩
end Go.Proofs.Ytgaahpddlohjoaa
