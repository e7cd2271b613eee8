/- CompareOther: its walk. -/
import Derived.Test.YtmfahplimnakcaaOtherPlain
import Derived.Test.YtmfahplimnakcaaTeachKeeps
namespace Go.Proofs.Ytmfahplimnakcaa
open Go.RowKit

theorem DfaB.sl {w : World} {base Bd : Nat} {start : Int} {acc : List Int} {rows : List (List Int)} {A N : Option Addr} {nA cA n cN : Nat} {xs : List Value} (h : DfaB w base Bd start acc rows (.slice A nA cA) (.slice N n cN) xs) :
    Sl Rep.int w (fun b => base ≤ b) A nA cA acc ∧ Sl RI w (fun b => base ≤ b) N n cN rows := by
  obtain ⟨A4, n4, c4, A5, n5, c5, e, h1, h2⟩ := RDfa.cells.1 h.rep
  simp only [List.cons.injEq, Value.slice.injEq, and_true] at e
  obtain ⟨_, ⟨rfl, rfl, rfl⟩, ⟨rfl, rfl, rfl⟩⟩ := e
  exact ⟨h1, h2⟩
set_option linter.unusedSimpArgs false in
set_option maxRecDepth 100000 in
set_option maxHeartbeats 4000000 in
theorem compareOther_walk (W : World) (A0 : Option Addr) (n0 c0 : Nat) (z0 : List Int) (le0 : n0 ≤ c0) (cap0 : c0 ≤ 17592186043904) (rd0 : Rd W (fun _ => True) 1 A0 n0 (z0.map (Value.int .i64))) (_rg0 : ∀ z ∈ z0, -9223372036854775808 ≤ z ∧ z ≤ 9223372036854775807)
    (A1 : Option Addr) (n1 c1 : Nat) (z1 : List Int) (le1 : n1 ≤ c1) (cap1 : c1 ≤ 17592186043904) (rd1 : Rd W (fun _ => True) 1 A1 n1 (z1.map (Value.int .i64))) (_rg1 : ∀ z ∈ z1, -9223372036854775808 ≤ z ∧ z ≤ 9223372036854775807) :
    Calls Try.prog 4 #[.slice A0 n0 c0, .slice A1 n1 c1] W fun e W' => e = .returned (.bool true) ∧ Below W.heap.size W W' := by
  have HR0 := Lib.hid (rd0.slInts le0)
  have HR1 := Lib.hid rd1
  have HV := Lib.hid (dfaOf_valid z0)
  have hn6 : (dfaOf z0).2.2.length ≤ 6 := by
    have := (dfaN_range z0).2.1
    simp [dfaOf]; omega
  clear rd0 rd1 _rg0 _rg1
  go_enter Try.func4, Try.ntmps4
  go_wp2_with fail
  refine (makeDfa _ _ _ _ _ z0 HR0.out (by omega)).mono ?_
  rintro e w1 ⟨Bd, vA, vN, xs, hBd, rfl, hD, hb1⟩
  obtain ⟨d, hd⟩ : ∃ d, d = dfaOf z0 := ⟨_, rfl⟩
  rw [← hd] at hD hn6 HV ⊢
  clear hd
  obtain ⟨A, cA, rfl, hcA, _⟩ := hD.ownA.form
  obtain ⟨N, cN, rfl, hcN, _⟩ := hD.ownN.form
  obtain ⟨hsA, hsN⟩ := hD.sl
  have HSA := Lib.hid hsA
  have HSN := Lib.hid hsN
  have HB1 := Lib.hid hb1
  obtain ⟨nA, hnA⟩ : ∃ k, k = d.2.1.length := ⟨_, rfl⟩
  obtain ⟨n, hn⟩ : ∃ k, k = d.2.2.length := ⟨_, rfl⟩
  rw [← hnA] at HSA hcA ⊢
  rw [← hn] at HSN hcN hn6 ⊢
  have HNE := Lib.hid hn
  clear hb1 hD hsA hsN hnA hn
  go_wp2_with fail
  refine (keepEnds _).mono ?_
  rintro e w2 ⟨EA, En, Ec, EN, Em, Ek, rfl, hea, hen, hb2⟩
  have hBx : w1.heap.size < w2.heap.size := by have := hb2.size; simp at this; omega
  have hbx2 : w2.heap[w1.heap.size]? = some (.cells #[.int .i64 d.1, .slice A nA cA, .slice N n cN] 25 (0, 0)) := by
    rw [hb2.block _ (by simp)]
    exact heap_alloc_new w1 _
  have HB12 := Lib.hid (((Below.refl w1.heap.size w1).alloc (Nat.le_refl _) _).trans (hb2.mono (by simp)))
  have HBX2 := Lib.hid hbx2
  have HEA := Lib.hid hea
  have HEN := Lib.hid hen
  clear hb2 hbx2 hea hen
  go_wp2_with fail
  refine (compareOther _ _ _ _ _ _ _ _ endsD HEA.out HEN.out ends_valid).mono ?_
  rintro e w3 ⟨Bd3, vA3, vN3, xs3, hBd3, rfl, hD3, hb3⟩
  obtain ⟨A3, cA3, rfl, _, _⟩ := hD3.ownA.form
  obtain ⟨N3, cN3, rfl, _, _⟩ := hD3.ownN.form
  rw [show (otherD endsD).2.2.length = 3 from rfl, show (otherD endsD).2.1.length = 3 from rfl, show endsD.1 = 0 from rfl]
  have hs3 := hb3.size
  have HB13 := Lib.hid (HB12.out.trans (hb3.mono (by omega)))
  have HBX3 := Lib.hid ((hb3.block w1.heap.size hBx).trans HBX2.out)
  have hc0 : w3.cell? ⟨w1.heap.size, 0, none⟩ = some (.int .i64 d.1) := by simp [World.cell?, HBX3.out]
  have hc1 : w3.cell? ⟨w1.heap.size, 1, none⟩ = some (.slice A nA cA) := by simp [World.cell?, HBX3.out]
  have hc2 : w3.cell? ⟨w1.heap.size, 2, none⟩ = some (.slice N n cN) := by simp [World.cell?, HBX3.out]
  have hl3 : w1.heap.size < w3.heap.size := by omega
  clear hD3 hb3
  go_wp2_with fail
  refine (compareOther _ _ _ _ _ _ _ _ d ((HSA.out.below HB13.out).alloc _) ((HSN.out.below HB13.out).alloc _) HV.out).mono ?_
  rintro e w4 ⟨Bd4, vA4, vN4, xs4, hBd4, rfl, hD4, hb4⟩
  obtain ⟨A4, cA4, rfl, _, _⟩ := hD4.ownA.form
  obtain ⟨N4, cN4, rfl, hcN4, _⟩ := hD4.ownN.form
  obtain ⟨hsA4, hsN4⟩ := hD4.sl
  rw [other_len, ← HNE.out] at hsN4 hcN4 ⊢
  have hs4 := hb4.size
  simp only [World.size_alloc] at hs4
  have hb34 : Below w3.heap.size w3 w4 := ((Below.refl w3.heap.size w3).alloc (Nat.le_refl _) _).trans (hb4.mono (by simp))
  have HB14 := Lib.hid (HB13.out.trans (hb34.mono HB13.out.size))
  have hbx4 := (hb34.block w1.heap.size hl3).trans HBX3.out
  have HBX4 := Lib.hid hbx4
  replace hc0 : w4.cell? ⟨w1.heap.size, 0, none⟩ = some (.int .i64 d.1) := by simp [World.cell?, hbx4]
  replace hc1 : w4.cell? ⟨w1.heap.size, 1, none⟩ = some (.slice A nA cA) := by simp [World.cell?, hbx4]
  replace hc2 : w4.cell? ⟨w1.heap.size, 2, none⟩ = some (.slice N n cN) := by simp [World.cell?, hbx4]
  have hl4 : w1.heap.size < w4.heap.size := by omega
  have HSA4 := Lib.hid hsA4
  have HSN4 := Lib.hid hsN4
  clear hD4 hb4 hb34 hsA4 hsN4 hs4 hs3 hl3 hbx4
  obtain ⟨bN, oN, AR, cR, hNe, hcR, hn0, hn0'⟩ := teach_row (HSN.out.below HB14.out) HV.out
  have hbN : bN < w4.heap.size := cell_lt hcR
  subst hNe
  have hC1 := HV.out.c1
  have hC2 := HV.out.c2
  generalize (otherD d).2.1.length = L4 at *
  go_wp2_with fail
  have hB4 : Below W.heap.size W (w4.alloc (.cells #[.int .i64 d.1, .slice A4 L4 cA4, .slice N4 (n + 1) cN4] 25)) := (HB1.out.trans (HB14.out.mono HB1.out.size)).alloc (by have := HB1.out.size; omega) _
  refine (makeWord (cols d) 40 A1 n1 c1 _ z1 _ (HR1.out.keep (.below hB4)) (by omega) (by omega) (by omega) (by omega)).mono ?_
  rintro e w5 ⟨Av, nv, cv, rfl, hsv, hb5⟩
  have hS5 : w4.heap.size + 1 ≤ w5.heap.size := by have := hb5.size; simp at this; omega
  have hbx5 : w5.heap[w1.heap.size]? = some (.cells #[.int .i64 d.1, .slice A nA cA, .slice (some ⟨bN, oN, none⟩) n cN] 25 (0, 0)) := by
    rw [hb5.block _ (by simp; omega), Below.heap_alloc _ _ _ hl4]
    exact HBX4.out
  have hby5 : w5.heap[w4.heap.size]? = some (.cells #[.int .i64 d.1, .slice A4 L4 cA4, .slice N4 (n + 1) cN4] 25 (0, 0)) := by
    rw [hb5.block _ (by simp)]
    exact heap_alloc_new w4 _
  have hb45 : Below w4.heap.size w4 w5 := ((Below.refl w4.heap.size w4).alloc (Nat.le_refl _) _).trans (hb5.mono (by simp))
  have HB06 := Lib.hid (hB4.trans (hb5.mono hB4.size))
  have hnv := hsv.len
  rw [wordOf_len] at hnv
  have hx : ∀ x ∈ wordOf (cols d) 40 z1, 0 ≤ x ∧ x < cols d := by
    intro x hx
    obtain ⟨y, _, rfl⟩ := List.mem_map.1 (show x ∈ (z1.take 40).map (fun x => x % (cols d : Int)) from hx)
    exact ⟨Int.emod_nonneg y (by omega), Int.emod_lt_of_pos y (by omega)⟩
  have hnv2 : nv ≤ 40 := by omega
  have HSV := Lib.hid hsv
  have HX := Lib.hid hx
  have hb15 : Below w1.heap.size w1 w5 := HB14.out.trans (hb45.mono HB14.out.size)
  have HSA5 := Lib.hid (HSA.out.below hb15)
  have HSN5 := Lib.hid (HSN.out.below hb15)
  have HSA6 := Lib.hid (HSA4.out.below hb45)
  have HSN6 := Lib.hid (HSN4.out.below hb45)
  clear hc0 hc1 hc2 hcR hb5 hsv hx hnv hb45 hB4 hb15
  generalize wordOf (cols d) 40 z1 = l at HSV HX ⊢
  have HX6 := Lib.hid (show ∀ x ∈ l, 0 ≤ x ∧ x < cols (otherD d) by rw [other_cols HV.out]; exact HX.out)
  have HACC := Lib.hid (other_accept HV.out HX.out)
  have HW1 := Lib.hid (IntWalk.i64_in ((n : Int) + 1) (by omega))
  have hall : ∀ u : World, Below w5.heap.size w5.drew u → u.cell? ⟨w1.heap.size, 0, none⟩ = some (.int .i64 d.1) ∧ u.cell? ⟨w1.heap.size, 1, none⟩ = some (.slice A nA cA) ∧ u.cell? ⟨w1.heap.size, 2, none⟩ = some (.slice (some ⟨bN, oN, none⟩) n cN) ∧
      u.cell? ⟨w4.heap.size, 0, none⟩ = some (.int .i64 d.1) ∧ u.cell? ⟨w4.heap.size, 1, none⟩ = some (.slice A4 L4 cA4) ∧ u.cell? ⟨w4.heap.size, 2, none⟩ = some (.slice N4 (n + 1) cN4) := by
    intro u hu
    have h1 := (hu.block w1.heap.size (by omega)).trans hbx5
    have h2 := (hu.block w4.heap.size (by omega)).trans hby5
    simp [World.cell?, h1, h2]
  have HALL := Lib.hid hall
  have HK := Lib.hid (hall _ (Below.refl _ _))
  clear hall hbx5 hby5
  go_wp2_with fail
  refine wp_region_late (late := []) (S1 := fun u => u.cell? ⟨w1.heap.size, 0, none⟩ = some (.int .i64 d.1) ∧ u.cell? ⟨w1.heap.size, 1, none⟩ = some (.slice A nA cA) ∧ u.cell? ⟨w1.heap.size, 2, none⟩ = some (.slice (some ⟨bN, oN, none⟩) n cN) ∧
      u.cell? ⟨w4.heap.size, 0, none⟩ = some (.int .i64 d.1) ∧ u.cell? ⟨w4.heap.size, 1, none⟩ = some (.slice A4 L4 cA4) ∧ u.cell? ⟨w4.heap.size, 2, none⟩ = some (.slice N4 (n + 1) cN4)) (S := fun _ => True) (by kernel_rfl) ?_
  refine wpAnyL_pure (i := 0) rfl (by kernel_rfl) (fun _ _ _ h => h) (Or.inl ⟨by rfl, (fun u hu => by obtain ⟨k0, k1, k2, k3, k4, k5⟩ := hu; go_simp; try rfl)⟩) HK.out (fun _ => trivial) ?_
  simp only [Act.put, List.setIfInBounds_toArray, List.set_cons_zero, List.set_cons_succ, List.getElem_toArray, List.getElem_cons_zero, List.getElem_cons_succ]
  refine wpAnyL_pure (i := 1) rfl (by kernel_rfl) (fun _ _ _ h => h) (Or.inl ⟨by rfl, (fun u hu => by obtain ⟨k0, k1, k2, k3, k4, k5⟩ := hu; go_simp; try rfl)⟩) HK.out (fun _ => trivial) ?_
  simp only [Act.put, List.setIfInBounds_toArray, List.set_cons_zero, List.set_cons_succ, List.getElem_toArray, List.getElem_cons_zero, List.getElem_cons_succ]
  refine wpAnyL_pure (i := 2) rfl (by kernel_rfl) (fun _ _ _ h => h) (Or.inl ⟨by rfl, (fun u hu => by obtain ⟨k0, k1, k2, k3, k4, k5⟩ := hu; go_simp; try rfl)⟩) HK.out (fun _ => trivial) ?_
  simp only [Act.put, List.setIfInBounds_toArray, List.set_cons_zero, List.set_cons_succ, List.getElem_toArray, List.getElem_cons_zero, List.getElem_cons_succ]
  refine wpAnyL_pure (i := 3) rfl (by kernel_rfl) (fun _ _ _ h => h) (Or.inl ⟨by rfl, (fun u hu => by obtain ⟨k0, k1, k2, k3, k4, k5⟩ := hu; go_simp; try rfl)⟩) HK.out (fun _ => trivial) ?_
  simp only [Act.put, List.setIfInBounds_toArray, List.set_cons_zero, List.set_cons_succ, List.getElem_toArray, List.getElem_cons_zero, List.getElem_cons_succ]
  refine wpAnyL_pure (i := 4) rfl (by kernel_rfl) (fun _ _ _ h => h) (Or.inl ⟨by rfl, (fun u hu => by obtain ⟨k0, k1, k2, k3, k4, k5⟩ := hu; go_simp; try rfl)⟩) HK.out (fun _ => trivial) ?_
  simp only [Act.put, List.setIfInBounds_toArray, List.set_cons_zero, List.set_cons_succ, List.getElem_toArray, List.getElem_cons_zero, List.getElem_cons_succ]
  refine wpAnyL_pure (i := 5) rfl (by kernel_rfl) (fun _ _ _ h => h) (Or.inl ⟨by rfl, (fun u hu => by obtain ⟨k0, k1, k2, k3, k4, k5⟩ := hu; go_simp; try rfl)⟩) HK.out (fun _ => trivial) ?_
  simp only [Act.put, List.setIfInBounds_toArray, List.set_cons_zero, List.set_cons_succ, List.getElem_toArray, List.getElem_cons_zero, List.getElem_cons_succ]
  refine wpAnyL_pure (i := 6) (v := .int .i64 ((n : Int) + 1)) rfl (by kernel_rfl) (fun _ _ _ h => h) (Or.inl ⟨by rfl, (fun u hu => by go_simp; rw [HW1.out])⟩) HK.out (fun _ => trivial) ?_
  simp only [Act.put, List.setIfInBounds_toArray, List.set_cons_zero, List.set_cons_succ, List.getElem_toArray, List.getElem_cons_zero, List.getElem_cons_succ]
  refine wpAnyL_pure (i := 7) (v := .bool true) rfl (by kernel_rfl) (fun _ _ _ h => h) (Or.inl ⟨by rfl, (fun u hu => by go_simp)⟩) HK.out (fun _ => trivial) ?_
  simp only [Act.put, List.setIfInBounds_toArray, List.set_cons_zero, List.set_cons_succ, List.getElem_toArray, List.getElem_cons_zero, List.getElem_cons_succ]
  refine wpAnyL_pure (i := 8) rfl (by kernel_rfl) (fun _ _ _ h => h) (Or.inl ⟨by rfl, (fun u hu => by obtain ⟨k0, k1, k2, k3, k4, k5⟩ := hu; go_simp; try rfl)⟩) HK.out (fun _ => trivial) ?_
  simp only [Act.put, List.setIfInBounds_toArray, List.set_cons_zero, List.set_cons_succ, List.getElem_toArray, List.getElem_cons_zero, List.getElem_cons_succ]
  refine wpAnyL_pure (i := 9) rfl (by kernel_rfl) (fun _ _ _ h => h) (Or.inl ⟨by rfl, (fun u hu => by obtain ⟨k0, k1, k2, k3, k4, k5⟩ := hu; go_simp; try rfl)⟩) HK.out (fun _ => trivial) ?_
  simp only [Act.put, List.setIfInBounds_toArray, List.set_cons_zero, List.set_cons_succ, List.getElem_toArray, List.getElem_cons_zero, List.getElem_cons_succ]
  refine wpAnyL_pure (i := 10) rfl (by kernel_rfl) (fun _ _ _ h => h) (Or.inl ⟨by rfl, (fun u hu => by obtain ⟨k0, k1, k2, k3, k4, k5⟩ := hu; go_simp; try rfl)⟩) HK.out (fun _ => trivial) ?_
  simp only [Act.put, List.setIfInBounds_toArray, List.set_cons_zero, List.set_cons_succ, List.getElem_toArray, List.getElem_cons_zero, List.getElem_cons_succ]
  refine wpAnyL_pure (i := 12) rfl (by kernel_rfl) (fun _ _ _ h => h) (Or.inl ⟨by rfl, (fun u hu => by obtain ⟨k0, k1, k2, k3, k4, k5⟩ := hu; go_simp; try rfl)⟩) HK.out (fun _ => trivial) ?_
  simp only [Act.put, List.setIfInBounds_toArray, List.set_cons_zero, List.set_cons_succ, List.getElem_toArray, List.getElem_cons_zero, List.getElem_cons_succ]
  refine wpAnyL_pure (i := 13) rfl (by kernel_rfl) (fun _ _ _ h => h) (Or.inl ⟨by rfl, (fun u hu => by obtain ⟨k0, k1, k2, k3, k4, k5⟩ := hu; go_simp; try rfl)⟩) HK.out (fun _ => trivial) ?_
  simp only [Act.put, List.setIfInBounds_toArray, List.set_cons_zero, List.set_cons_succ, List.getElem_toArray, List.getElem_cons_zero, List.getElem_cons_succ]
  refine wpAnyL_ready (rs := [11]) (by kernel_rfl) (by simp) ?_
  refine AllL.cons rfl (fun K hK => ?_) ?_
  · go_simp
    refine (keepAccepts _ _ _ _ _ _ _ _ d (HSA5.out.drew) (HSN5.out.drew) HV.out _ _ _ _ l (HSV.out.drew) (by omega) HX.out).mono ?_
    rintro e w1 ⟨rfl, hb⟩
    have HB1 := Lib.hid hb
    clear hb
    have hk1 := HALL.out _ ((Below.refl w5.heap.size w5.drew).trans (HB1.out.mono (Below.refl w5.heap.size w5.drew).size))
    have HK1 := Lib.hid hk1
    clear hk1
    refine hK.out _ _ HK1.out (fun _ => trivial) ?_
    clear hK K
    refine wpAnyL_ready (rs := [14]) (by kernel_rfl) (by simp) ?_
    refine AllL.cons rfl (fun K hK => ?_) ?_
    · go_simp
      refine (keepAccepts _ _ _ _ _ _ _ _ (otherD d) ((HSA6.out.drew).below HB1.out) ((HSN6.out.drew).below HB1.out) (other_valid HV.out (by rw [← HNE.out]; omega)) _ _ _ _ l ((HSV.out.drew).below HB1.out) (by omega) HX6.out).mono ?_
      rintro e w2 ⟨rfl, hb⟩
      have HB2 := Lib.hid hb
      clear hb
      have hk2 := HALL.out _ (((Below.refl w5.heap.size w5.drew).trans (HB1.out.mono (Below.refl w5.heap.size w5.drew).size)).trans (HB2.out.mono ((Below.refl w5.heap.size w5.drew).trans (HB1.out.mono (Below.refl w5.heap.size w5.drew).size)).size))
      have HK2 := Lib.hid hk2
      clear hk2
      refine hK.out _ _ HK2.out (fun _ => trivial) ?_
      clear hK K
      refine wpAnyL_pure (i := 15) (v := .bool true) rfl (by kernel_rfl) (fun _ _ _ h => h) (Or.inl ⟨by rfl, (fun u hu => by have hx := HACC.out; go_simp)⟩) HK2.out (fun _ => trivial) ?_
      simp only [Act.put, List.setIfInBounds_toArray, List.set_cons_zero, List.set_cons_succ, List.getElem_toArray, List.getElem_cons_zero, List.getElem_cons_succ]
      refine wpAnyL_pure (i := 16) rfl (by kernel_rfl) (fun _ _ _ h => h) (Or.inl ⟨by rfl, (fun u hu => by obtain ⟨k0, k1, k2, k3, k4, k5⟩ := hu; go_simp; try rfl)⟩) HK2.out (fun _ => trivial) ?_
      simp only [Act.put, List.setIfInBounds_toArray, List.set_cons_zero, List.set_cons_succ, List.getElem_toArray, List.getElem_cons_zero, List.getElem_cons_succ]
      refine wpAnyL_pure (i := 17) rfl (by kernel_rfl) (fun _ _ _ h => h) (Or.inl ⟨by rfl, (fun u hu => by obtain ⟨k0, k1, k2, k3, k4, k5⟩ := hu; go_simp; try rfl)⟩) HK2.out (fun _ => trivial) ?_
      simp only [Act.put, List.setIfInBounds_toArray, List.set_cons_zero, List.set_cons_succ, List.getElem_toArray, List.getElem_cons_zero, List.getElem_cons_succ]
      refine wpAnyL_done (by kernel_rfl) ?_ _
      go_wp2_with fail
      go_ret
      exact ⟨rfl, (HB06.out.drew.trans (((((Below.refl w5.heap.size w5.drew).trans (HB1.out.mono (Below.refl w5.heap.size w5.drew).size)).trans (HB2.out.mono ((Below.refl w5.heap.size w5.drew).trans (HB1.out.mono (Below.refl w5.heap.size w5.drew).size)).size))).mono HB06.out.size))⟩
    exact AllL.nil
  exact AllL.nil
end Go.Proofs.Ytmfahplimnakcaa
