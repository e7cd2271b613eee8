/- CompareSides: its walk. -/
import Derived.Test.YtidigjfnifmiiaaDoorCmpLeast
import Derived.Test.YtidigjfnifmiiaaDoorModSt
import Derived.Test.YtidigjfnifmiiaaDoorKPlain
import Derived.Test.YtidigjfnifmiiaaDoorBelow
import Derived.Test.YtidigjfnifmiiaaDoorSlEqInt
namespace Go.Proofs.YtidigjfnifmiiaaDoor
open Go.RowKit

set_option linter.unusedSimpArgs false in
set_option maxRecDepth 1000000 in
set_option maxHeartbeats 16000000 in
theorem compareSides_walk (W : World) (hTb : Tab W) (A0 : Option Addr) (n0 c0 : Nat) (z0 : List Int) (le0 : n0 ≤ c0) (cap0 : c0 ≤ 17592186043904) (rd0 : Rd W (fun _ => True) 1 A0 n0 (z0.map (Value.int .i64))) (_rg0 : ∀ z ∈ z0, -9223372036854775808 ≤ z ∧ z ≤ 9223372036854775807)
    (A1 : Option Addr) (n1 c1 : Nat) (z1 : List Int) (le1 : n1 ≤ c1) (cap1 : c1 ≤ 17592186043904) (rd1 : Rd W (fun _ => True) 1 A1 n1 (z1.map (Value.int .i64))) (_rg1 : ∀ z ∈ z1, -9223372036854775808 ≤ z ∧ z ≤ 9223372036854775807)
    (x2 : Int) (_lo2 : -9223372036854775808 ≤ x2) (_hi2 : x2 ≤ 9223372036854775807) :
    Calls Tryd.prog 3 #[.slice A0 n0 c0, .slice A1 n1 c1, .int .i64 x2] W fun e W' => e = .returned (.bool true) ∧ Below W.heap.size W W' := by
  have HR0 := Lib.hid (rd0.slInts le0)
  have HR1 := Lib.hid (rd1.slInts le1)
  have HTB := Lib.hid hTb
  have hW0 := hTb.1
  clear rd0 _rg0 rd1 _rg1 _lo2 _hi2 hTb
  go_enter Tryd.func3, Tryd.ntmps3
  go_wp2_with fail
  refine (makeGrammar W _ _ _ _ z0 HR0.out (by omega)).mono ?_
  rintro e w1 ⟨g, AR, cR, hv, hsm, rfl, hg, hb1⟩
  have hs1 := hb1.size
  obtain ⟨nR, hnR⟩ : ∃ nR, nR = g.2.2.2.length := ⟨_, rfl⟩
  obtain ⟨T, hT⟩ : ∃ T : Nat, g.1 = (T : Int) := ⟨g.1.toNat, by have := hv.t1; omega⟩
  have hT3 : T ≤ 3 := by have := hsm.t; omega
  have hT1 : 1 ≤ T := by have := hv.t1; omega
  rw [← hnR] at hg ⊢
  have HV := Lib.hid hv
  have HT := Lib.hid hT
  have HG1 := Lib.hid (show Sl RRule w1 (fun b => W.heap.size ≤ b ∧ b < w1.heap.size) AR nR cR g.2.2.2 from hg.fit)
  have HB1 := Lib.hid hb1
  clear hv hsm hg hb1 HR0 hT hnR
  --@1
  go_wp2_with fail
  refine (makeGrammarK w1 _ _ _ _ z1 (HR1.out.below HB1.out) (by omega)).mono ?_
  rintro e w2 ⟨h, AH, cH, hhv, hhsm, rfl, hh, hb2⟩
  have hs2 := hb2.size
  have hnH1 : 1 ≤ h.2.2.2.length := hhsm.r1
  obtain ⟨hnn, gr, P, rfl, hgr1, hgr2, hpa, hcH, hsy⟩ := hh.rows (by omega)
  obtain ⟨nH, hnH⟩ : ∃ nH, nH = h.2.2.2.length := ⟨_, rfl⟩
  have hnH8 : nH ≤ 8 := by have := hhsm.r2; omega
  rw [← hnH] at hpa hcH hnH1 ⊢
  have HHV := Lib.hid hhv
  have HHS := Lib.hid hhsm
  have HNH := Lib.hid hnH
  have HB12 := Lib.hid hb2
  have HPA2 := Lib.hid hpa
  have HSY2 := Lib.hid hsy
  clear hhv hhsm hh hb2 hpa hsy hnn hnH HR1
  --@2
  go_wp2_with fail
  obtain ⟨w3, hw3⟩ : ∃ w3 : World, w3 = (w2.alloc (.cells #[.int .i64 g.1, .int .i64 g.2.1, .int .i64 g.2.2.1, .slice AR nR cR] 25)).alloc (.cells #[.int .i64 g.1, .int .i64 h.2.1, .int .i64 h.2.2.1, .slice (some ⟨gr, 0, none⟩) nH cH] 25) := ⟨_, rfl⟩
  rw [← hw3]
  have hz3 : w3.heap.size = w2.heap.size + 2 := by rw [hw3]; simp
  have HB23 := Lib.hid (show Below w2.heap.size w2 w3 by rw [hw3]; exact ((Below.refl _ _).alloc (Nat.le_refl _) _).alloc (by simp) _)
  have HBG3 := Lib.hid (show w3.heap[w2.heap.size]? = some (.cells #[.int .i64 g.1, .int .i64 g.2.1, .int .i64 g.2.2.1, .slice AR nR cR] 25 (0, 0)) by rw [hw3]; exact (Below.heap_alloc _ _ _ (by simp)).trans (heap_alloc_new _ _))
  have HBH3 := Lib.hid (show w3.heap[w2.heap.size + 1]? = some (.cells #[.int .i64 g.1, .int .i64 h.2.1, .int .i64 h.2.2.1, .slice (some ⟨gr, 0, none⟩) nH cH] 25 (0, 0)) by rw [hw3]; exact heap_new _ _ _ (by simp))
  have HSY := Lib.hid (show SymsAt w3 w1.heap.size w2.heap.size gr h.2.2.2 P from fun k r hr => by
    obtain ⟨e1, e2⟩ := HSY2.out k r hr
    exact ⟨e1, (e2.keep (.belowB HB23.out fun b hb => hb.2.2.1)).more fun b hb => ⟨hb.1.of (HB23.out.block b hb.2.2.1), hb.2⟩⟩)
  have HPA := Lib.hid (show Pairs w3 gr nH 29 (cH * 2) (fun k => encR (P k)) from by
    obtain ⟨cur, e1, e2, e3⟩ := HPA2.out
    exact ⟨cur, (HB23.out.block _ hgr2).trans e1, e2, e3⟩)
  have HB13 := Lib.hid (HB12.out.trans (HB23.out.mono hs2))
  have hT0 : (g.1 == 0) = false := by have := HT.out; simp; omega
  have HT0 := Lib.hid hT0
  clear hw3 HSY2 HPA2 HB12 hT0
  go_loopg [36] nH (fun gk i wr => ∃ k : Nat, k ≤ nH ∧ gk = nH - k ∧ i = .int .i64 k ∧ ModSt w3 w1.heap.size w2.heap.size gr g.1 h.2.2.2 P (fun k' _ => k' < k) wr)
  case atStart => exact ⟨0, Nat.zero_le _, rfl, rfl, (ModSt.start HSY.out).weak fun k' _ _ _ _ _ hk => by omega⟩
  case round =>
    obtain ⟨k, hk, hgk, rfl, hmod⟩ := hrel
    have HGK := Lib.hid hgk
    have HMOD := Lib.hid hmod
    have hzr := hmod.bel.size
    have hbg := (hmod.rest _ (by omega) (by omega)).trans HBG3.out
    have hbh := (hmod.rest _ (by omega) (by omega)).trans HBH3.out
    have hbr := hmod.rest gr (by omega) (by omega)
    have HBGR := Lib.hid hbg
    have HBHR := Lib.hid hbh
    clear hgk hmod
    obtain ⟨w4, rfl⟩ : ∃ w4 : World, w4 = wr := ⟨_, rfl⟩
    by_cases hlt : k < nH
    · obtain ⟨k0, k1⟩ := HPA.out.at_ hlt
      have hcc : ∀ j, w4.cell? ⟨gr, j, none⟩ = w3.cell? ⟨gr, j, none⟩ := fun j => by simp only [World.cell?, hbr]
      rw [← hcc] at k0 k1
      obtain ⟨r, hr⟩ : ∃ r, h.2.2.2[k]? = some r := ⟨_, List.getElem?_eq_getElem (by rw [← HNH.out]; exact hlt)⟩
      obtain ⟨e1, e2⟩ := HSY.out k r hr
      have hml := e2.len
      have hm4 : r.2.length ≤ 3 := HHS.out.rr r (List.mem_of_getElem? hr)
      have hcap := e2.cap
      obtain ⟨AK, hAK⟩ : ∃ AK, (P k).2.1 = AK := ⟨_, rfl⟩
      obtain ⟨mK, hmK⟩ : ∃ mK, (P k).2.2.1 = mK := ⟨_, rfl⟩
      obtain ⟨cK, hcK⟩ : ∃ cK, (P k).2.2.2 = cK := ⟨_, rfl⟩
      have k0' : w4.cell? ⟨gr, k * 2, none⟩ = some (.int .i64 r.1) := by rw [k0, ← e1]; rfl
      have k1' : w4.cell? ⟨gr, k * 2 + 1, none⟩ = some (.slice AK mK cK) := by rw [k1, ← hAK, ← hmK, ← hcK]; rfl
      have HR := Lib.hid hr
      have HAK := Lib.hid hAK
      rw [hmK] at hml
      rw [hmK, hcK] at hcap
      have hmK3 : mK ≤ 3 := by omega
      have HML := Lib.hid hml
      clear k0 k1 hcc e1 e2 hmK hcK hAK hr hbg hbh hbr hml hm4
      --@3
      go_wp2_with fail
      clear k0' k1'
      obtain ⟨w5, hw5⟩ : ∃ w5 : World, w5 = w4.alloc (.cells #[.int .i64 r.1, .slice AK mK cK] 29) := ⟨_, rfl⟩
      rw [← hw5]
      have hz5 : w5.heap.size = w4.heap.size + 1 := by rw [hw5]; simp
      have HBX5 := Lib.hid (show w5.heap[w4.heap.size]? = some (.cells #[.int .i64 r.1, .slice AK mK cK] 29 (0, 0)) by rw [hw5]; exact heap_alloc_new _ _)
      have HM5 := Lib.hid (show ModSt w3 w1.heap.size w2.heap.size gr g.1 h.2.2.2 P (fun k' _ => k' < k) w5 by rw [hw5]; exact HMOD.out.below ((Below.refl _ _).alloc (Nat.le_refl _) _) (by omega))
      clear hw5
      go_loopg [43] mK (fun gj i wr => ∃ j : Nat, j ≤ mK ∧ gj = mK - j ∧ i = .int .i64 j ∧ w4.heap.size < wr.heap.size ∧ wr.heap[w4.heap.size]? = some (.cells #[.int .i64 r.1, .slice AK mK cK] 29 (0, 0)) ∧ ModSt w3 w1.heap.size w2.heap.size gr g.1 h.2.2.2 P (fun k' i' => k' < k ∨ (k' = k ∧ i' < j)) wr)
      case atStart => exact ⟨0, Nat.zero_le _, rfl, rfl, by omega, HBX5.out, HM5.out.weak fun k' i' _ _ _ _ hd => by omega⟩
      case round =>
        obtain ⟨j, hj, hgj, rfl, hzj, hbx, hmod⟩ := hrel
        have HGJ := Lib.hid hgj
        have HBXJ := Lib.hid hbx
        have HMJ := Lib.hid hmod
        clear hgj hbx hmod HM5
        obtain ⟨w6, rfl⟩ : ∃ w6 : World, w6 = wr := ⟨_, rfl⟩
        by_cases hjl : j < mK
        · obtain ⟨e1, e2⟩ := HSY.out k r HR.out
          obtain ⟨b, o, s, eA, _, _, _, _, hs⟩ := sym_at e2 (show j < (P k).2.2.1 by have := e2.len; have := HML.out; omega)
          obtain ⟨_, _, hunf, hb1, hb2, hbg⟩ := HSY.out.get HR.out hs eA
          obtain ⟨h1, x, h2, hx, _⟩ := HMJ.out.st k r HR.out j s hs b o eA
          obtain rfl : AK = some ⟨b, o, none⟩ := HAK.out.symm.trans eA
          have HS := Lib.hid hs
          have HEA := Lib.hid eA
          have hs0 := ((HHV.out.rules r (List.mem_of_getElem? HR.out)).2.2 s (List.mem_of_getElem? hs)).1
          have hzw := HMJ.out.bel.size
          have hjI : (j : Int) < (mK : Int) := by omega
          have hj0 : (0 : Int) ≤ (j : Int) := by omega
          have hUN := HMJ.out.uk b hunf
          have HUN := Lib.hid hUN
          have hblt := hUN.lt
          by_cases hst : s.1 = true
          · rw [hst] at h1
            have hg1 := HV.out.t1
            have hg2 := HV.out.t2
            have hx0 : 0 ≤ x := by
              rcases hx with hx | hx
              · omega
              · rw [hx, mS_mod hst]
                exact Int.emod_nonneg _ (by omega)
            have hrem : x.tmod g.1 = (mS g.1 s).2 := by
              rw [Int.tmod_eq_emod_of_nonneg hx0, mS_mod hst]
              rcases hx with hx | hx
              · rw [hx]
              · rw [hx, mS_mod hst, Int.emod_emod_of_dvd _ (Int.dvd_refl _)]
            have HREM := Lib.hid hrem
            have HGN := Lib.hid (show 1 ≤ g.1 ∧ g.1 ≤ 8 from ⟨hg1, hg2⟩)
            have hmr : 0 ≤ (mS g.1 s).2 ∧ (mS g.1 s).2 < g.1 := by
              rw [mS_mod hst]
              exact ⟨Int.emod_nonneg _ (by omega), Int.emod_lt_of_pos _ (by omega)⟩
            have HXR := Lib.hid hx0
            have HMR := Lib.hid hmr
            clear hs eA hx hst hrem hg1 hg2 hx0 hmr hs0 e1 e2 hunf hUN
            --@4
            go_wp2_with fail
            obtain ⟨w7, hw7⟩ : ∃ w7 : World, w7 = w6.alloc (.cells #[.bool true, .int .i64 x] 31) := ⟨_, rfl⟩
            rw [← hw7]
            have hz7 : w7.heap.size = w6.heap.size + 1 := by rw [hw7]; simp
            have HBX6 := Lib.hid (show w7.heap[w4.heap.size]? = some (.cells #[.int .i64 r.1, .slice (some ⟨b, o, none⟩) mK cK] 29 (0, 0)) by rw [hw7]; exact (Below.heap_alloc _ _ _ hzj).trans HBXJ.out)
            have HM6 := Lib.hid (show ModSt w3 w1.heap.size w2.heap.size gr g.1 h.2.2.2 P (fun k' i' => k' < k ∨ (k' = k ∧ i' < j)) w7.drew by rw [hw7]; exact HMJ.out.below ((Below.refl _ _).alloc (Nat.le_refl _) _).drew (by omega))
            have HC6 := Lib.hid (show w7.drew.cell? ⟨b, o + j * 2 + 1, none⟩ = some (.int .i64 x) by rw [hw7]; exact (World.cell?_of_block (Below.heap_alloc _ _ _ hblt)).trans h2)
            have HF6 := Lib.hid (show w7.drew.frozen? ⟨b, o + j * 2 + 1, none⟩ = false by rw [hw7]; exact (HUN.out.of (Below.heap_alloc _ _ _ hblt)).fr _)
            have HBGJ := Lib.hid ((HM6.out.rest w2.heap.size (by omega) (by omega)).trans HBG3.out)
            have HSB := Lib.hid (show w7.heap[w6.heap.size]? = some (.cells #[.bool true, .int .i64 x] 31 (0, 0)) by rw [hw7]; exact heap_alloc_new _ _)
            have HK6 := Lib.hid (show w7.drew.cell? ⟨w4.heap.size, 1, none⟩ = some (.slice (some ⟨b, o, none⟩) mK cK) ∧ w7.drew.cell? ⟨w6.heap.size, 1, none⟩ = some (.int .i64 x) ∧ w7.drew.cell? ⟨w2.heap.size, 0, none⟩ = some (.int .i64 g.1) from by
              refine ⟨?_, ?_, ?_⟩
              · show w7.cell? _ = _
                simp [World.cell?, HBX6.out]
              · show w7.cell? _ = _
                simp [World.cell?, HSB.out]
              · have := HBGJ.out
                simp [World.cell?, this])
            clear hw7 h1 h2
            refine wp_region_late (late := []) (S1 := fun u => u.cell? ⟨w4.heap.size, 1, none⟩ = some (.slice (some ⟨b, o, none⟩) mK cK) ∧ u.cell? ⟨w6.heap.size, 1, none⟩ = some (.int .i64 x) ∧ u.cell? ⟨w2.heap.size, 0, none⟩ = some (.int .i64 g.1)) (S := fun _ => True) (by kernel_rfl) ?_
            refine wpAnyL_pure (i := 0) rfl (by kernel_rfl) (fun _ _ _ h => h) (Or.inl ⟨by rfl, (fun u hu => by obtain ⟨k0, k1, k2⟩ := hu; go_simp; try rfl)⟩) HK6.out (fun _ => trivial) ?_
            simp only [Act.put, List.setIfInBounds_toArray, List.set_cons_zero, List.set_cons_succ, List.getElem_toArray, List.getElem_cons_zero, List.getElem_cons_succ]
            refine wpAnyL_pure (i := 1) rfl (by kernel_rfl) (fun _ _ _ h => h) (Or.inl ⟨by rfl, (fun u hu => by obtain ⟨k0, k1, k2⟩ := hu; go_simp; try rfl)⟩) HK6.out (fun _ => trivial) ?_
            simp only [Act.put, List.setIfInBounds_toArray, List.set_cons_zero, List.set_cons_succ, List.getElem_toArray, List.getElem_cons_zero, List.getElem_cons_succ]
            refine wpAnyL_pure (i := 2) rfl (by kernel_rfl) (fun _ _ _ h => h) (Or.inl ⟨by rfl, (fun u hu => by obtain ⟨k0, k1, k2⟩ := hu; go_simp; try rfl)⟩) HK6.out (fun _ => trivial) ?_
            simp only [Act.put, List.setIfInBounds_toArray, List.set_cons_zero, List.set_cons_succ, List.getElem_toArray, List.getElem_cons_zero, List.getElem_cons_succ]
            refine wpAnyL_pure (i := 3) rfl (by kernel_rfl) (fun _ _ _ h => h) (Or.inl ⟨by rfl, (fun u hu => by obtain ⟨k0, k1, k2⟩ := hu; go_simp; try rfl)⟩) HK6.out (fun _ => trivial) ?_
            simp only [Act.put, List.setIfInBounds_toArray, List.set_cons_zero, List.set_cons_succ, List.getElem_toArray, List.getElem_cons_zero, List.getElem_cons_succ]
            refine wpAnyL_pure (i := 4) rfl (by kernel_rfl) (fun _ _ _ h => h) (Or.inl ⟨by rfl, (fun u hu => by obtain ⟨k0, k1, k2⟩ := hu; go_simp; try rfl)⟩) HK6.out (fun _ => trivial) ?_
            simp only [Act.put, List.setIfInBounds_toArray, List.set_cons_zero, List.set_cons_succ, List.getElem_toArray, List.getElem_cons_zero, List.getElem_cons_succ]
            refine wpAnyL_pure (i := 5) rfl (by kernel_rfl) (fun _ _ _ h => h) (Or.inl ⟨by rfl, (fun u hu => by obtain ⟨k0, k1, k2⟩ := hu; go_simp; try rfl)⟩) HK6.out (fun _ => trivial) ?_
            simp only [Act.put, List.setIfInBounds_toArray, List.set_cons_zero, List.set_cons_succ, List.getElem_toArray, List.getElem_cons_zero, List.getElem_cons_succ]
            refine wpAnyL_pure (i := 6) rfl (by kernel_rfl) (fun _ _ _ h => h) (Or.inl ⟨by rfl, (fun u hu => by obtain ⟨k0, k1, k2⟩ := hu; go_simp; try rfl)⟩) HK6.out (fun _ => trivial) ?_
            simp only [Act.put, List.setIfInBounds_toArray, List.set_cons_zero, List.set_cons_succ, List.getElem_toArray, List.getElem_cons_zero, List.getElem_cons_succ]
            refine wpAnyL_pure (i := 7) (v := .int .i64 (mS g.1 s).2) rfl (by kernel_rfl) (fun _ _ _ h => h) (Or.inl ⟨by rfl, (fun u hu => by have hrem := HREM.out; have ht0 := HT0.out; have hg0 : ¬ g.1 = 0 := (by have := HGN.out; omega); have hx0 := HXR.out; go_simp; try rfl)⟩) HK6.out (fun _ => trivial) ?_
            simp only [Act.put, List.setIfInBounds_toArray, List.set_cons_zero, List.set_cons_succ, List.getElem_toArray, List.getElem_cons_zero, List.getElem_cons_succ]
            refine wpAnyL_pure (i := 8) rfl (by kernel_rfl) (fun _ _ _ h => h) (Or.inl ⟨by rfl, (fun u hu => by obtain ⟨k0, k1, k2⟩ := hu; go_simp; try rfl)⟩) HK6.out (fun _ => trivial) ?_
            simp only [Act.put, List.setIfInBounds_toArray, List.set_cons_zero, List.set_cons_succ, List.getElem_toArray, List.getElem_cons_zero, List.getElem_cons_succ]
            refine wpAnyL_pure (i := 9) rfl (by kernel_rfl) (fun _ _ _ h => h) (Or.inl ⟨by rfl, (fun u hu => by obtain ⟨k0, k1, k2⟩ := hu; go_simp; try rfl)⟩) HK6.out (fun _ => trivial) ?_
            simp only [Act.put, List.setIfInBounds_toArray, List.set_cons_zero, List.set_cons_succ, List.getElem_toArray, List.getElem_cons_zero, List.getElem_cons_succ]
            refine wpAnyL_ready (rs := [10]) (by kernel_rfl) (by simp) ?_
            refine AllL.cons rfl (fun K hK => ?_) ?_
            · have hc := HC6.out
              have hf := HF6.out
              go_simp
              clear hc hf
              refine hK.out _ _ ⟨setOther _ HK6.out.1 (by show w4.heap.size ≠ b; omega), setOther _ HK6.out.2.1 (by show w6.heap.size ≠ b; omega), setOther _ HK6.out.2.2 (by show w2.heap.size ≠ b; omega)⟩ (fun _ => trivial) ?_
              clear hK K
              refine wpAnyL_done (by kernel_rfl) ?_ _
              go_wp2_with fail
              go_roundg (mK - (j + 1))
              case measure => rw [HGJ.out]; omega
              case rel => exact ⟨j + 1, by omega, rfl, by go_num, by simp [World.setCell]; omega, (Below.heap_setCell _ _ _ _ (by simp; omega)).trans HBX6.out, (HM6.out.set HSY.out HR.out HS.out HEA.out).weak fun k' i' _ _ _ _ hd => by omega⟩
            exact AllL.nil
          · have hsf : s.1 = false := by simpa using hst
            rw [hsf] at h1
            have HSF := Lib.hid hsf
            clear hs eA hx hst hsf hs0 e1 e2 hunf hUN
            --@5
            go_wp2_with fail
            go_roundg (mK - (j + 1))
            case measure => rw [HGJ.out]; omega
            case rel => exact ⟨j + 1, by omega, rfl, by go_num, by simp; omega, (Below.heap_alloc _ _ _ hzj).trans HBXJ.out, ((HMJ.out.below ((Below.refl _ _).alloc (Nat.le_refl _) _) (by omega)).skip HR.out HS.out HSF.out).weak fun k' i' _ _ _ _ hd => by omega⟩
        · obtain rfl : j = mK := by omega
          --@6
          go_wp2_with fail
          go_roundg (nH - (k + 1))
          case measure => rw [HGK.out]; omega
          case rel => exact ⟨k + 1, by omega, rfl, by go_num, HMJ.out.weak fun k' i' r' s' hr' hs' hd => by
            rcases Nat.lt_succ_iff_lt_or_eq.1 hd with hd | rfl
            · exact .inl hd
            · refine .inr ⟨rfl, ?_⟩
              have e := hr'.symm.trans HR.out
              injection e with e
              subst e
              have := (List.getElem?_eq_some_iff.1 hs').1
              have := HML.out
              omega⟩
    · obtain rfl : k = nH := by omega
      have HP4 := Lib.hid (show Pairs w4 gr k 29 (cH * 2) (fun k => encR (P k)) from by
        obtain ⟨cur, e1, e2, e3⟩ := HPA.out
        exact ⟨cur, hbr.trans e1, e2, e3⟩)
      have HH4 := Lib.hid (show Sl RRule w4 (fun b => w1.heap.size ≤ b ∧ b < w2.heap.size) (some ⟨gr, 0, none⟩) k cH (h.2.2.2.map (mR g.1)) from by
        refine pairs_sl HP4.out (by rw [List.length_map]; exact HNH.out.symm) hcH ⟨hgr1, hgr2⟩ fun q r hq => ?_
        rw [List.getElem?_map] at hq
        cases hr : h.2.2.2[q]? with
        | none => rw [hr] at hq; cases hq
        | some r0 =>
          rw [hr] at hq
          injection hq with hq
          subst hq
          obtain ⟨e1, _⟩ := HSY.out q r0 hr
          exact ⟨e1, (HMOD.out.fin HSY.out hr fun i s _ => by have := (List.getElem?_eq_some_iff.1 hr).1; have := HNH.out; omega).more fun b hb => ⟨hb.1, hb.2.1⟩⟩)
      have HB14 := Lib.hid (HB13.out.trans HMOD.out.bel)
      have HBW4 := Lib.hid (HB1.out.trans (HB14.out.mono hs1))
      clear hbg hbh hbr
      have c3 : w4.cell? ⟨w2.heap.size + 1, 3, none⟩ = some (.slice (some ⟨gr, 0, none⟩) k cH) := by have := HBHR.out; simp [World.cell?, this]
      --@7
      go_wp2_with fail
      refine (distinctR w4 _ _ _ _ _ HH4.out (by omega) (fun r hr => by
        obtain ⟨r0, h0, rfl⟩ := List.mem_map.1 hr
        have := HHS.out.rr r0 h0
        show (r0.2.map _).length ≤ 1000
        rw [List.length_map]
        omega)).mono ?_
      rintro e w5 ⟨AD, cD, rfl, hsd, hb5⟩
      have HVD := Lib.hid (GValid.dist HV.out HHV.out HHS.out)
      obtain ⟨dl, hdl⟩ : ∃ dl, dl = dist [] (h.2.2.2.map (mR g.1)) := ⟨_, rfl⟩
      rw [← hdl] at hsd HVD ⊢
      obtain ⟨nD, hnD⟩ : ∃ nD, nD = dl.length := ⟨_, rfl⟩
      rw [← hnD] at hsd ⊢
      have hs5 := hb5.size
      have HSD := Lib.hid hsd
      have HB5 := Lib.hid hb5
      have hbh5 := (hb5.block (w2.heap.size + 1) (by omega)).trans HBHR.out
      have HBH5 := Lib.hid hbh5
      have d3 : w5.cell? ⟨w2.heap.size + 1, 3, none⟩ = some (.slice (some ⟨gr, 0, none⟩) k cH) := by simp [World.cell?, hbh5]
      have f3 : w5.frozen? ⟨w2.heap.size + 1, 3, none⟩ = false := by simp [World.frozen?, hbh5]
      have hlt5 : w2.heap.size + 1 < w5.heap.size := by omega
      clear hsd hb5 hbh5 c3 hdl hnD
      --@8
      go_wp2_with fail
      obtain ⟨w6, hw6⟩ : ∃ w6 : World, w6 = w5.setCell ⟨w2.heap.size + 1, 3, none⟩ (.slice AD nD cD) := ⟨_, rfl⟩
      rw [← hw6]
      have hz6 : w6.heap.size = w5.heap.size := by rw [hw6]; simp [World.setCell]
      have HBH6 := Lib.hid (show w6.heap[w2.heap.size + 1]? = some (.cells #[.int .i64 g.1, .int .i64 h.2.1, .int .i64 h.2.2.1, .slice AD nD cD] 25 (0, 0)) by
        rw [hw6]
        have := blk_set HBH5.out 3 (.slice AD nD cD)
        simpa using this)
      have HBG6 := Lib.hid (show w6.heap[w2.heap.size]? = some (.cells #[.int .i64 g.1, .int .i64 g.2.1, .int .i64 g.2.2.1, .slice AR nR cR] 25 (0, 0)) by
        rw [hw6]
        exact (Below.heap_setCell _ _ _ _ (by simp)).trans ((HB5.out.block _ (by omega)).trans HBGR.out))
      have HD6 := Lib.hid (show Sl RRule w6 (fun b => ((w1.heap.size ≤ b ∧ b < w2.heap.size) ∧ b < w4.heap.size) ∨ w4.heap.size ≤ b) AD nD cD dl by
        rw [hw6]
        exact HSD.out.keep (.setCell _ _ _ _ (fun hh => by simp at hh; omega)))
      have HB16 := Lib.hid (show Below w1.heap.size w1 w6 by rw [hw6]; exact (HB14.out.trans (HB5.out.mono (by omega))).setCell (by simp; omega) _)
      have HBW6 := Lib.hid (HB1.out.trans (HB16.out.mono hs1))
      have HG6 := Lib.hid (HG1.out.keep (.belowB HB16.out fun b hb => hb.2))
      clear hw6 d3 f3
      have HALLG := Lib.hid (show ∀ u : World, Below w6.heap.size w6 u → (u.cell? ⟨w2.heap.size, 0, none⟩ = some (.int .i64 g.1) ∧ u.cell? ⟨w2.heap.size, 1, none⟩ = some (.int .i64 g.2.1) ∧ u.cell? ⟨w2.heap.size, 2, none⟩ = some (.int .i64 g.2.2.1) ∧ u.cell? ⟨w2.heap.size, 3, none⟩ = some (.slice AR nR cR)) ∧ u.cell? ⟨w2.heap.size + 1, 0, none⟩ = some (.int .i64 g.1) ∧ u.cell? ⟨w2.heap.size + 1, 1, none⟩ = some (.int .i64 h.2.1) ∧ u.cell? ⟨w2.heap.size + 1, 2, none⟩ = some (.int .i64 h.2.2.1) ∧ u.cell? ⟨w2.heap.size + 1, 3, none⟩ = some (.slice AD nD cD) from fun u hu => by
        have e1 := (hu.block _ (by omega)).trans HBG6.out
        have e2 := (hu.block _ (by omega)).trans HBH6.out
        simp [World.cell?, e1, e2])
      refine (keepPlain w6).mono ?_
      rintro e w7 ⟨AP, rfl, hp, hb7⟩
      have hs7 := hb7.size
      have HP := Lib.hid hp
      have HB67 := Lib.hid hb7
      clear hp hb7
      --@9
      go_wp2_with fail
      refine (compareLeast w7 (HTB.out.below (HBW6.out.trans (HB67.out.mono (by omega))) hW0) _ (fun _ => True) AP 2 2 plainG HP.out plain_valid none 0 0 (2, 1, 0, []) (Sl.nil _ _ _ _) empty_valid 2 rfl rfl (by decide) 2 (by decide)).mono ?_
      rintro e w8 ⟨hcase, hb8⟩
      have hs8 := hb8.size
      have HB68 := Lib.hid (HB67.out.trans (hb8.mono hs7))
      clear hb8
      rcases hcase with ⟨hno, _⟩ | ⟨ws, A8, m8, c8, hws, rfl, hsl⟩
      · rw [show plainG.2.2.2 = plainR from rfl, show plainG.2.2.1 = 0 from rfl, plain_leastW] at hno
        cases hno
      rw [show plainG.2.2.2 = plainR from rfl, show plainG.2.2.1 = 0 from rfl, plain_leastW] at hws
      injection hws with hws
      subst hws
      obtain rfl : m8 = 1 := hsl.len
      rw [show plainG.2.2.2 = plainR from rfl, show plainG.2.2.1 = 0 from rfl, plain_yes]
      have HSL := Lib.hid hsl
      clear hsl
      --@10
      go_wp2_with fail
      refine (equalInt A8 (some ⟨w8.heap.size, 0, none⟩) 1 c8 1 1 _ (fun _ => True) [0] [0] (w8.alloc (.cells #[.int .i64 0] 3)) (HSL.out.alloc _).ints (Rd.new w8 (fun _ => True) 3 [.int .i64 0] w8.heap.size rfl trivial) (by decide) (by decide)).mono ?_
      rintro e w9 ⟨rfl, d, rfl⟩
      obtain ⟨w9, hw9⟩ : ∃ w9 : World, w9 = (w8.alloc (.cells #[.int .i64 0] 3)).drewN d := ⟨_, rfl⟩
      rw [← hw9]
      have HB69 := Lib.hid (HB68.out.trans (show Below w6.heap.size w8 w9 by rw [hw9]; exact belowN ((Below.refl _ _).alloc (by omega) _) d))
      have hs9 : w6.heap.size ≤ w9.heap.size := HB69.out.size
      have hbt : (([(0 : Int)] : List Int) == [0]) = true := by decide
      rw [hbt]
      clear hw9 hbt HSL
      --@11
      go_wp2_with fail
      refine (keepBelow x2 4 w9 (by decide) (by decide)).mono ?_
      rintro e w10 ⟨rfl, hw10⟩
      subst hw10
      obtain ⟨nn, hnn⟩ : ∃ nn : Nat, x2 % 4 = (nn : Int) := ⟨(x2 % 4).toNat, by have := Int.emod_nonneg x2 (by decide : (4 : Int) ≠ 0); omega⟩
      have hnn3 : nn ≤ 3 := by have := Int.emod_lt_of_pos x2 (by decide : (0 : Int) < 4); omega
      rw [hnn]
      clear hnn
      obtain ⟨⟨k0, k1, k2, k3⟩, k4, k5, k6, k7⟩ := HALLG.out w9 HB69.out
      --@12
      go_wp2_with fail
      clear k0 k1 k2 k3 k4 k5 k6 k7
      refine (compareLeast w9 (HTB.out.below (HBW6.out.trans (HB69.out.mono (by omega))) hW0) _ _ AR nR cR g (HG6.out.below HB69.out) HV.out AD nD cD (g.1, h.2.1, h.2.2.1, dl) (HD6.out.below HB69.out) HVD.out T HT.out HT.out hT3 nn hnn3).mono ?_
      rintro e w10 ⟨hcase, hb10⟩
      have hs10 := hb10.size
      have HB910 := Lib.hid hb10
      have HB610 := Lib.hid (HB69.out.trans (hb10.mono (by omega)))
      obtain ⟨⟨k0, k1, k2, k3⟩, k4, k5, k6, k7⟩ := HALLG.out w10 HB610.out
      clear hb10
      rcases hcase with ⟨hno, rfl⟩ | ⟨ws, A, m, c, hsome, rfl, hsl⟩
      · have HNO := Lib.hid hno
        clear hno
        --@13
        go_wp2_with fail
        clear k0 k1 k2 k3 k4 k5 k6 k7
        refine (compareLeast w10 (HTB.out.below (HBW6.out.trans (HB610.out.mono (by omega))) hW0) _ _ AD nD cD (g.1, h.2.1, h.2.2.1, dl) (HD6.out.below HB610.out) HVD.out AR nR cR g (HG6.out.below HB610.out) HV.out T HT.out HT.out hT3 nn hnn3).mono ?_
        rintro e w11 ⟨hcase, hb11⟩
        have HB611 := Lib.hid (HB610.out.trans (hb11.mono (by omega)))
        clear hb11
        rw [LeastTold, leastW_swap, HNO.out] at hcase
        rcases hcase with ⟨_, rfl⟩ | ⟨_, _, _, _, h, _⟩
        case inr => cases h
        --@14
        go_wp2_with fail
        go_ret
        exact ⟨rfl, HBW6.out.trans (HB611.out.mono (by omega))⟩
      · have HSOME := Lib.hid hsome
        have HSL := Lib.hid hsl
        obtain ⟨hwo, hne⟩ := bfs_mem _ _ ws (fun v hv => by
          obtain rfl := List.mem_singleton.1 hv
          exact ⟨Nat.zero_le _, fun x hx => by cases hx⟩) hsome
        have hm := hsl.len
        have HWO := Lib.hid hwo
        obtain ⟨ba, hba⟩ : ∃ ba, accD g.2.2.2 g.2.2.1 ws = ba := ⟨_, rfl⟩
        obtain ⟨bb, hbb⟩ : ∃ bb, accD dl h.2.2.1 ws = bb := ⟨_, rfl⟩
        have hne : ba ≠ bb := by
          rw [← hba, ← hbb]
          simpa using hne
        rw [hba]
        have HBA := Lib.hid hba
        have HBB := Lib.hid hbb
        have HNE := Lib.hid hne
        have hm12 : m ≤ 12 := by have := hwo.1; omega
        clear hsome hsl hwo hne hba hbb hm
        cases ba with
        | true =>
          cases bb with
          | true => exact absurd rfl HNE.out
          | false =>
            rw [if_pos rfl]
            --@15
            go_wp2_with fail
            clear k0 k1 k2 k3 k4 k5 k6 k7
            refine (compareLeast w10 (HTB.out.below (HBW6.out.trans (HB610.out.mono (by omega))) hW0) _ _ AD nD cD (g.1, h.2.1, h.2.2.1, dl) (HD6.out.below HB610.out) HVD.out AR nR cR g (HG6.out.below HB610.out) HV.out T HT.out HT.out hT3 nn hnn3).mono ?_
            rintro e w11 ⟨hcase, hb11⟩
            have hs11 := hb11.size
            have HB1011 := Lib.hid hb11
            have HB611 := Lib.hid (HB610.out.trans (hb11.mono (by omega)))
            clear hb11
            rw [LeastTold, leastW_swap, HSOME.out] at hcase
            rcases hcase with ⟨hno, _⟩ | ⟨ws', A', m', c', hsome', rfl, hsl'⟩
            · cases hno
            injection hsome' with hsome'
            subst hsome'
            rw [HBB.out, if_neg (by decide)]
            have HSL2 := Lib.hid hsl'
            have hm2 := hsl'.len
            have hml := HSL.out.len
            have hm212 : m' ≤ 12 := by omega
            obtain ⟨⟨k0, k1, k2, k3⟩, k4, k5, k6, k7⟩ := HALLG.out w11 HB611.out
            clear hsl' hm2 hml
            --@16
            go_wp2_with fail
            clear k0 k1 k2 k3 k4 k5 k6 k7
            refine (meanAccepts w11 (HTB.out.below (HBW6.out.trans (HB611.out.mono (by omega))) hW0) _ _ AR nR cR g (HG6.out.below HB611.out) HV.out A m c ws (HSL.out.below HB1011.out).ints (fun x hx => by rw [HT.out]; exact HWO.out.2 x hx) hm12).mono ?_
            rintro e w12 ⟨rfl, hb12⟩
            have hs12 := hb12.size
            have HB1112 := Lib.hid hb12
            have HB612 := Lib.hid (HB611.out.trans (hb12.mono (by omega)))
            obtain ⟨⟨k0, k1, k2, k3⟩, k4, k5, k6, k7⟩ := HALLG.out w12 HB612.out
            rw [HBA.out]
            clear hb12
            --@17
            go_wp2_with fail
            clear k0 k1 k2 k3 k4 k5 k6 k7
            refine (meanAccepts w12 (HTB.out.below (HBW6.out.trans (HB612.out.mono (by omega))) hW0) _ _ AD nD cD (g.1, h.2.1, h.2.2.1, dl) (HD6.out.below HB612.out) HVD.out A m c ws ((HSL.out.below HB1011.out).below HB1112.out).ints (fun x hx => by show 0 ≤ x ∧ x < g.1; rw [HT.out]; exact HWO.out.2 x hx) hm12).mono ?_
            rintro e w13 ⟨rfl, hb13⟩
            have hs13 := hb13.size
            have HB1213 := Lib.hid hb13
            have HB613 := Lib.hid (HB612.out.trans (hb13.mono (by omega)))
            rw [HBB.out]
            clear hb13
            --@18
            go_wp2_with fail
            refine (equalInt _ _ _ _ _ _ _ _ ws ws w13 (((HSL.out.below HB1011.out).below HB1112.out).below HB1213.out).ints ((HSL2.out.below HB1112.out).below HB1213.out).ints (by omega) (by omega)).mono ?_
            rintro e w14 ⟨rfl, d, rfl⟩
            have hbt : (ws == ws) = true := by simp
            rw [hbt]
            clear hbt
            --@19
            go_wp2_with fail
            go_ret
            exact ⟨rfl, belowN (HBW6.out.trans (HB613.out.mono (by omega))) d⟩
        | false =>
          cases bb with
          | false => exact absurd rfl HNE.out
          | true =>
            rw [if_neg (by decide)]
            --@15
            go_wp2_with fail
            clear k0 k1 k2 k3 k4 k5 k6 k7
            refine (compareLeast w10 (HTB.out.below (HBW6.out.trans (HB610.out.mono (by omega))) hW0) _ _ AD nD cD (g.1, h.2.1, h.2.2.1, dl) (HD6.out.below HB610.out) HVD.out AR nR cR g (HG6.out.below HB610.out) HV.out T HT.out HT.out hT3 nn hnn3).mono ?_
            rintro e w11 ⟨hcase, hb11⟩
            have hs11 := hb11.size
            have HB1011 := Lib.hid hb11
            have HB611 := Lib.hid (HB610.out.trans (hb11.mono (by omega)))
            clear hb11
            rw [LeastTold, leastW_swap, HSOME.out] at hcase
            rcases hcase with ⟨hno, _⟩ | ⟨ws', A', m', c', hsome', rfl, hsl'⟩
            · cases hno
            injection hsome' with hsome'
            subst hsome'
            rw [HBB.out, if_pos rfl]
            have HSL2 := Lib.hid hsl'
            have hm2 := hsl'.len
            have hml := HSL.out.len
            have hm212 : m' ≤ 12 := by omega
            obtain ⟨⟨k0, k1, k2, k3⟩, k4, k5, k6, k7⟩ := HALLG.out w11 HB611.out
            clear hsl' hm2 hml
            --@16
            go_wp2_with fail
            clear k0 k1 k2 k3 k4 k5 k6 k7
            refine (meanAccepts w11 (HTB.out.below (HBW6.out.trans (HB611.out.mono (by omega))) hW0) _ _ AR nR cR g (HG6.out.below HB611.out) HV.out A m c ws (HSL.out.below HB1011.out).ints (fun x hx => by rw [HT.out]; exact HWO.out.2 x hx) hm12).mono ?_
            rintro e w12 ⟨rfl, hb12⟩
            have hs12 := hb12.size
            have HB1112 := Lib.hid hb12
            have HB612 := Lib.hid (HB611.out.trans (hb12.mono (by omega)))
            obtain ⟨⟨k0, k1, k2, k3⟩, k4, k5, k6, k7⟩ := HALLG.out w12 HB612.out
            rw [HBA.out]
            clear hb12
            --@17
            go_wp2_with fail
            clear k0 k1 k2 k3 k4 k5 k6 k7
            refine (meanAccepts w12 (HTB.out.below (HBW6.out.trans (HB612.out.mono (by omega))) hW0) _ _ AD nD cD (g.1, h.2.1, h.2.2.1, dl) (HD6.out.below HB612.out) HVD.out A m c ws ((HSL.out.below HB1011.out).below HB1112.out).ints (fun x hx => by show 0 ≤ x ∧ x < g.1; rw [HT.out]; exact HWO.out.2 x hx) hm12).mono ?_
            rintro e w13 ⟨rfl, hb13⟩
            have hs13 := hb13.size
            have HB1213 := Lib.hid hb13
            have HB613 := Lib.hid (HB612.out.trans (hb13.mono (by omega)))
            rw [HBB.out]
            clear hb13
            --@18
            go_wp2_with fail
            refine (equalInt _ _ _ _ _ _ _ _ ws ws w13 (((HSL.out.below HB1011.out).below HB1112.out).below HB1213.out).ints ((HSL2.out.below HB1112.out).below HB1213.out).ints (by omega) (by omega)).mono ?_
            rintro e w14 ⟨rfl, d, rfl⟩
            have hbt : (ws == ws) = true := by simp
            rw [hbt]
            clear hbt
            --@19
            go_wp2_with fail
            go_ret
            exact ⟨rfl, belowN (HBW6.out.trans (HB613.out.mono (by omega))) d⟩
end Go.Proofs.YtidigjfnifmiiaaDoor
