/- CensusMore: its walk. -/
import Derived.Test.YtmfahplimnakcaaTotal
import Derived.Test.YtmfahplimnakcaaCatRule2
import Derived.Test.YtmfahplimnakcaaMorePlain
import Derived.Test.YtmfahplimnakcaaCensusShort
namespace Go.Proofs.Ytmfahplimnakcaa
open Go.RowKit

theorem rules_cut (l : List RuleD) (i : Nat) : (l.take i ++ l.drop (i + 1)).Sublist l := by
  have h : l.take i ++ l.drop (i + 1) = l.eraseIdx i := (List.eraseIdx_eq_take_drop_succ l i).symm
  rw [h]
  exact List.eraseIdx_sublist ..
set_option linter.unusedSimpArgs false in
set_option maxRecDepth 100000 in
set_option maxHeartbeats 4000000 in
theorem censusMore_walk (W : World) (A0 : Option Addr) (n0 c0 : Nat) (z0 : List Int) (le0 : n0 ≤ c0) (cap0 : c0 ≤ 17592186043904) (rd0 : Rd W (fun _ => True) 1 A0 n0 (z0.map (Value.int .i64))) (_rg0 : ∀ z ∈ z0, -9223372036854775808 ≤ z ∧ z ≤ 9223372036854775807)
    (x1 : Int) (_lo1 : -9223372036854775808 ≤ x1) (_hi1 : x1 ≤ 9223372036854775807) (x2 : Int) (_lo2 : -9223372036854775808 ≤ x2) (_hi2 : x2 ≤ 9223372036854775807) :
    Calls Try.prog 8 #[.slice A0 n0 c0, .int .i64 x1, .int .i64 x2] W fun e W' => e = .returned (.bool true) ∧ Below W.heap.size W W' := by
  have HR0 := Lib.hid (rd0.slInts le0)
  clear rd0 _rg0 _lo1 _hi1 _lo2 _hi2
  go_enter Try.func8, Try.ntmps8
  go_wp2_with fail
  refine (makeGrammar _ _ _ _ _ z0 HR0.out (by omega)).mono ?_
  rintro e w1 ⟨g, AR, cR, hv, hsm, rfl, hg, hb1⟩
  have HV := Lib.hid hv
  have HG := Lib.hid hg.fit
  have HB1 := Lib.hid hb1
  have hs1 := hb1.size
  have hr1 : 1 ≤ g.2.2.2.length := hsm.r1
  have hr2 : g.2.2.2.length ≤ 8 := hsm.r2
  have hcR := hg.cap
  obtain ⟨nR, hnR⟩ : ∃ nR, nR = g.2.2.2.length := ⟨_, rfl⟩
  rw [← hnR] at HG hr1 hr2 hcR
  rw [← hnR]
  have HNR := Lib.hid hnR
  clear hv hg hb1 HR0 hsm hnR
  --@1
  go_wp2_with fail
  refine (keepBelow x2 8 _ (by omega) (by omega)).mono ?_
  rintro e w2 ⟨rfl, rfl⟩
  obtain ⟨n, hn⟩ : ∃ n : Nat, (n : Int) = x2 % 8 := ⟨(x2 % 8).toNat, Int.toNat_of_nonneg (Int.emod_nonneg _ (by omega))⟩
  have hn2 : n ≤ 7 := by have := Int.emod_lt_of_pos x2 (show (0 : Int) < 8 by omega); omega
  rw [← hn]
  clear hn
  --@2
  go_wp2_with fail
  refine (keepBelow x1 (nR : Int) _ (by omega) (by omega)).mono ?_
  rintro e w2 ⟨rfl, rfl⟩
  obtain ⟨i, hi⟩ : ∃ i : Nat, (i : Int) = x1 % (nR : Int) := ⟨(x1 % (nR : Int)).toNat, Int.toNat_of_nonneg (Int.emod_nonneg _ (by omega))⟩
  have hi2 : i < nR := by have := Int.emod_lt_of_pos x1 (show (0 : Int) < nR by omega); omega
  rw [← hi]
  clear hi
  obtain ⟨I1, hI1⟩ : ∃ I1 : Nat, I1 ≤ i + 1 ∧ i + 1 ≤ I1 := ⟨i + 1, by omega⟩
  have hw1 : IntKind.i64.wrap ((i : Int) + 1) = (I1 : Int) := by rw [IntWalk.i64_in _ (by omega)]; omega
  have HW1 := Lib.hid hw1
  have hcut1 := fun u => tRules.hN AR nR cR i (by omega) u
  have HCUT1 := Lib.hid hcut1
  obtain ⟨w3, hw3⟩ : ∃ w3 : World, w3 = (w1.alloc (.cells #[.int .i64 g.1, .int .i64 g.2.1, .int .i64 g.2.2.1, .slice AR nR cR] 43)).alloc (.cells #[.int .i64 g.1, .int .i64 g.2.1, .int .i64 g.2.2.1, .slice AR nR cR] 43) := ⟨_, rfl⟩
  have hz3 : w3.heap.size = w1.heap.size + 2 := by rw [hw3]; simp
  have hall : ∀ u : World, Below (w1.heap.size + 2) w3 u → (u.cell? ⟨w1.heap.size, 0, none⟩ = some (.int .i64 g.1) ∧ u.cell? ⟨w1.heap.size, 1, none⟩ = some (.int .i64 g.2.1) ∧ u.cell? ⟨w1.heap.size, 2, none⟩ = some (.int .i64 g.2.2.1) ∧ u.cell? ⟨w1.heap.size, 3, none⟩ = some (.slice AR nR cR)) ∧
      (u.cell? ⟨w1.heap.size + 1, 0, none⟩ = some (.int .i64 g.1) ∧ u.cell? ⟨w1.heap.size + 1, 1, none⟩ = some (.int .i64 g.2.1) ∧ u.cell? ⟨w1.heap.size + 1, 2, none⟩ = some (.int .i64 g.2.2.1) ∧ u.cell? ⟨w1.heap.size + 1, 3, none⟩ = some (.slice AR nR cR)) ∧ u.frozen? ⟨w1.heap.size + 1, 3, none⟩ = false := by
    intro u hu
    rw [hw3] at hu
    refine ⟨⟨(hu.cell (by simp)).trans ?_, (hu.cell (by simp)).trans ?_, (hu.cell (by simp)).trans ?_, (hu.cell (by simp)).trans ?_⟩, ⟨(hu.cell (by simp)).trans ?_, (hu.cell (by simp)).trans ?_, (hu.cell (by simp)).trans ?_, (hu.cell (by simp)).trans ?_⟩, (hu.frozen (by simp)).trans ?_⟩ <;> simp
  have HALL := Lib.hid hall
  have hG3 : Sl RRule w3 (fun b => W.heap.size ≤ b ∧ b < w1.heap.size) AR nR cR g.2.2.2 := by rw [hw3]; exact (HG.out.alloc _).alloc _
  have HB3 := Lib.hid (show Below W.heap.size W w3 by rw [hw3]; exact (HB1.out.alloc hs1 _).alloc (by simp; omega) _)
  have HG3 := Lib.hid hG3
  have HT1 := Lib.hid (hG3.take i (by omega))
  obtain ⟨A2, hcut2, hT2⟩ := hG3.cutl tRules rfl I1 (by omega)
  obtain ⟨m2, hm2⟩ : ∃ m2 : Nat, m2 ≤ nR - I1 ∧ nR - I1 ≤ m2 := ⟨nR - I1, by omega⟩
  obtain ⟨c2, hc2⟩ : ∃ c2 : Nat, c2 ≤ cR - I1 ∧ cR - I1 ≤ c2 := ⟨cR - I1, by omega⟩
  have em2 : nR - I1 = m2 := by omega
  have ec2 : cR - I1 = c2 := by omega
  rw [em2, ec2] at hcut2 hT2
  have HCUT2 := Lib.hid hcut2
  have HT2 := Lib.hid hT2
  have HK0 := Lib.hid (hall w3.drew (Below.refl _ _).drew).1.2.2.2
  have HK5 := Lib.hid (hall (w3.alloc (.cells #[.slice AR i cR, .slice A2 m2 c2] 41)).drew ((Below.refl _ _).alloc (by omega) _).drew).1.2.2.2
  clear em2 ec2
  have eI : I1 = i + 1 := by omega
  have hsubl := rules_cut g.2.2.2 i
  rw [← eI] at hsubl
  have HHSUB := Lib.hid hsubl
  clear hsubl eI
  clear hw1 hcut1 hall hG3 hcut2 hT2 HG
  --@3
  go_wp2_with fail
  --@4
  rw [← hw3]
  clear hw3
  refine wp_region_late (late := []) (S1 := fun u => u.cell? ⟨w1.heap.size, 3, none⟩ = some (.slice AR nR cR)) (S := fun _ => True) (by kernel_rfl) ?_
  refine wpAnyL_pure (i := 0) rfl (by kernel_rfl) (fun _ _ _ h => h) (Or.inl ⟨by rfl, (fun u hu => by have k0 := hu; go_simp; try rfl)⟩) HK0.out (fun _ => trivial) ?_
  simp only [Act.put, List.setIfInBounds_toArray, List.set_cons_zero, List.set_cons_succ, List.getElem_toArray, List.getElem_cons_zero, List.getElem_cons_succ]
  refine wpAnyL_pure (i := 1) rfl (by kernel_rfl) (fun _ _ _ h => h) (Or.inl ⟨by rfl, (fun u hu => by have k0 := hu; go_simp; try rfl)⟩) HK0.out (fun _ => trivial) ?_
  simp only [Act.put, List.setIfInBounds_toArray, List.set_cons_zero, List.set_cons_succ, List.getElem_toArray, List.getElem_cons_zero, List.getElem_cons_succ]
  refine wpAnyL_pure (i := 2) rfl (by kernel_rfl) (fun _ _ _ h => h) (Or.inl ⟨by rfl, (fun u hu => by have k0 := hu; go_simp; try rfl)⟩) HK0.out (fun _ => trivial) ?_
  simp only [Act.put, List.setIfInBounds_toArray, List.set_cons_zero, List.set_cons_succ, List.getElem_toArray, List.getElem_cons_zero, List.getElem_cons_succ]
  refine wpAnyL_pure (i := 3) (v := .slice AR i cR) rfl (by kernel_rfl) (fun _ _ _ h => h) (Or.inl ⟨by rfl, (fun u hu => by have hx := HCUT1.out u; go_simp)⟩) HK0.out (fun _ => trivial) ?_
  simp only [Act.put, List.setIfInBounds_toArray, List.set_cons_zero, List.set_cons_succ, List.getElem_toArray, List.getElem_cons_zero, List.getElem_cons_succ]
  refine wpAnyL_pure (i := 4) rfl (by kernel_rfl) (fun _ _ _ h => h) (Or.inl ⟨by rfl, (fun u hu => by have k0 := hu; go_simp; try rfl)⟩) HK0.out (fun _ => trivial) ?_
  simp only [Act.put, List.setIfInBounds_toArray, List.set_cons_zero, List.set_cons_succ, List.getElem_toArray, List.getElem_cons_zero, List.getElem_cons_succ]
  refine wpAnyL_pure (i := 5) rfl (by kernel_rfl) (fun _ _ _ h => h) (Or.inl ⟨by rfl, (fun u hu => by have k0 := hu; go_simp; try rfl)⟩) HK0.out (fun _ => trivial) ?_
  simp only [Act.put, List.setIfInBounds_toArray, List.set_cons_zero, List.set_cons_succ, List.getElem_toArray, List.getElem_cons_zero, List.getElem_cons_succ]
  refine wpAnyL_pure (i := 6) rfl (by kernel_rfl) (fun _ _ _ h => h) (Or.inl ⟨by rfl, (fun u hu => by have k0 := hu; go_simp; try rfl)⟩) HK0.out (fun _ => trivial) ?_
  simp only [Act.put, List.setIfInBounds_toArray, List.set_cons_zero, List.set_cons_succ, List.getElem_toArray, List.getElem_cons_zero, List.getElem_cons_succ]
  refine wpAnyL_pure (i := 7) (v := .int .i64 (I1 : Int)) rfl (by kernel_rfl) (fun _ _ _ h => h) (Or.inl ⟨by rfl, (fun u hu => by go_simp; rw [HW1.out])⟩) HK0.out (fun _ => trivial) ?_
  simp only [Act.put, List.setIfInBounds_toArray, List.set_cons_zero, List.set_cons_succ, List.getElem_toArray, List.getElem_cons_zero, List.getElem_cons_succ]
  refine wpAnyL_pure (i := 8) (v := .slice A2 m2 c2) rfl (by kernel_rfl) (fun _ _ _ h => h) (Or.inl ⟨by rfl, (fun u hu => by have hx := HCUT2.out u; go_simp)⟩) HK0.out (fun _ => trivial) ?_
  simp only [Act.put, List.setIfInBounds_toArray, List.set_cons_zero, List.set_cons_succ, List.getElem_toArray, List.getElem_cons_zero, List.getElem_cons_succ]
  refine wpAnyL_ready (rs := [9]) (by kernel_rfl) (by simp) ?_
  refine AllL.cons rfl (fun K hK => ?_) ?_
  · go_simp
    refine hK.out _ _ HK5.out (fun _ => trivial) ?_
    clear hK K
    refine wpAnyL_ready (rs := [10]) (by kernel_rfl) (by simp) ?_
    refine AllL.cons rfl (fun K hK => ?_) ?_
    · go_simp
      refine (concatRule2 _ (fun _ => True) (fun b => W.heap.size ≤ b ∧ b < w1.heap.size) _ _ _ _ _ _ _ (g.2.2.2.take i) (g.2.2.2.drop I1) (Rd.new w3 _ _ [.slice AR i cR, .slice A2 m2 c2] (w1.heap.size + 2) hz3 trivial).drew (HT1.out.alloc _).drew (HT2.out.alloc _).drew (by omega)).mono ?_
      rintro e w5 ⟨A3, c3, rfl, hh5, hb5⟩
      have e5 : ((w3.alloc (.cells #[.slice AR i cR, .slice A2 m2 c2] 41)).drew).heap.size = w1.heap.size + 3 := by show (w3.alloc _).heap.size = _; simp; omega
      rw [e5] at hb5 hh5
      have hk6 := HALL.out _ ((((Below.refl _ _).alloc (by omega) _).drew).trans (hb5.mono (by omega)))
      have HK6 := Lib.hid hk6
      have HH5 := Lib.hid hh5
      have HB5 := Lib.hid hb5
      have hz5 : w1.heap.size + 3 ≤ w5.heap.size := by have := hb5.size; omega
      clear hk6 hh5 hb5 e5
      refine hK.out _ _ HK6.out.1.2.2.2 (fun _ => trivial) ?_
      clear hK K
      refine wpAnyL_pure (i := 11) rfl (by kernel_rfl) (fun _ _ _ h => h) (Or.inl ⟨by rfl, (fun u hu => by have k0 := hu; go_simp; try rfl)⟩) HK6.out.1.2.2.2 (fun _ => trivial) ?_
      simp only [Act.put, List.setIfInBounds_toArray, List.set_cons_zero, List.set_cons_succ, List.getElem_toArray, List.getElem_cons_zero, List.getElem_cons_succ]
      refine wpAnyL_ready (rs := [12]) (by kernel_rfl) (by simp) ?_
      refine AllL.cons rfl (fun K hK => ?_) ?_
      · have hc := HK6.out.2.1.2.2.2
        have hf := HK6.out.2.2
        have HK7 := Lib.hid (show (w5.setCell ⟨w1.heap.size + 1, 3, none⟩ (.slice A3 (i + m2) c3)).cell? ⟨w1.heap.size, 3, none⟩ = some (.slice AR nR cR) from (World.cell?_setCell_other _ _ _ _ (by simp)).trans HK6.out.1.2.2.2)
        go_simp
        clear hc hf
        refine hK.out _ _ HK7.out (fun _ => trivial) ?_
        clear hK K
        refine wpAnyL_done (by kernel_rfl) ?_ _
        obtain ⟨w6, hw6⟩ : ∃ w6 : World, w6 = w5.setCell ⟨w1.heap.size + 1, 3, none⟩ (.slice A3 (i + m2) c3) := ⟨_, rfl⟩
        rw [← hw6]
        have hz6 : w6.heap.size = w5.heap.size := by rw [hw6]; simp [World.setCell]
        have hk6 : (w6.cell? ⟨w1.heap.size, 0, none⟩ = some (.int .i64 g.1) ∧ w6.cell? ⟨w1.heap.size, 1, none⟩ = some (.int .i64 g.2.1) ∧ w6.cell? ⟨w1.heap.size, 2, none⟩ = some (.int .i64 g.2.2.1) ∧ w6.cell? ⟨w1.heap.size, 3, none⟩ = some (.slice AR nR cR)) := by
          rw [hw6]
          exact ⟨(World.cell?_setCell_other _ _ _ _ (by simp)).trans HK6.out.1.1, (World.cell?_setCell_other _ _ _ _ (by simp)).trans HK6.out.1.2.1, (World.cell?_setCell_other _ _ _ _ (by simp)).trans HK6.out.1.2.2.1, (World.cell?_setCell_other _ _ _ _ (by simp)).trans HK6.out.1.2.2.2⟩
        have hh6 : (w6.cell? ⟨w1.heap.size + 1, 0, none⟩ = some (.int .i64 g.1) ∧ w6.cell? ⟨w1.heap.size + 1, 1, none⟩ = some (.int .i64 g.2.1) ∧ w6.cell? ⟨w1.heap.size + 1, 2, none⟩ = some (.int .i64 g.2.2.1) ∧ w6.cell? ⟨w1.heap.size + 1, 3, none⟩ = some (.slice A3 (i + m2) c3)) := by
          rw [hw6]
          have hx := HK6.out.2.1
          refine ⟨(World.cell?_setCell_other _ _ _ _ (by simp)).trans hx.1, (World.cell?_setCell_other _ _ _ _ (by simp)).trans hx.2.1, (World.cell?_setCell_other _ _ _ _ (by simp)).trans hx.2.2.1, ?_⟩
          exact World.cell?_setCell_same _ _ _ hx.2.2.2
        have hb45 : Below W.heap.size W w5 := ((HB3.out.alloc (by omega) _).drew).trans (HB5.out.mono (by omega))
        have HB6 := Lib.hid (show Below W.heap.size W w6 by rw [hw6]; exact hb45.setCell (by simp; omega) _)
        have HG6 := Lib.hid (show Sl RRule w6 (fun b => W.heap.size ≤ b ∧ b < w1.heap.size) AR nR cR g.2.2.2 by
          rw [hw6]
          exact ((HG3.out.alloc _).drew.keep (.belowB HB5.out (fun b hb => by have := hb.2; omega))).keep (.setCell _ _ _ _ (by simp)))
        have HH6 := Lib.hid (show Sl RRule w6 (fun b => (W.heap.size ≤ b ∧ b < w1.heap.size) ∨ w1.heap.size + 3 ≤ b) A3 (i + m2) c3 (g.2.2.2.take i ++ g.2.2.2.drop I1) by
          rw [hw6]
          exact HH5.out.keep (.setCell _ _ _ _ (by simp)))
        have HHK6 := Lib.hid hh6
        have hN2 : nonsOf g ≤ 10 := by have := HV.out.n2; unfold nonsOf; omega
        obtain ⟨nh, hnh⟩ : ∃ nh : Nat, nh ≤ i + m2 ∧ i + m2 ≤ nh := ⟨i + m2, by omega⟩
        have enh : i + m2 = nh := by omega
        rw [enh] at HHK6 HH6
        clear enh
        obtain ⟨R', hR'⟩ : ∃ R', R' = g.2.2.2.take i ++ g.2.2.2.drop I1 := ⟨_, rfl⟩
        rw [← hR'] at HH6 HHSUB
        have HV' := Lib.hid (HV.out.sub HHSUB.out)
        obtain ⟨k0, k1, k2, k3⟩ := hk6
        clear HK6 HH5 HB5 hh6 hb45 HK0 HK5 HK7 HT1 HT2 HCUT1 HCUT2 HW1 HALL HG3 HB3 hw6 hR'
        --@5
        go_wp2_with fail
        clear k0 k1 k2 k3
        refine (censusTrees _ _ _ _ _ g HG6.out HV.out n (by omega)).mono ?_
        rintro e w7 ⟨A7, c7, rfl, ha, hb7⟩
        have HA7 := Lib.hid ha
        have HB7 := Lib.hid (HB6.out.trans (hb7.mono HB6.out.size))
        have HH7 := Lib.hid (HH6.out.below hb7)
        have k0 := (hb7.cell (p := ⟨w1.heap.size + 1, 0, none⟩) (by simp; omega)).trans HHK6.out.1
        have k1 := (hb7.cell (p := ⟨w1.heap.size + 1, 1, none⟩) (by simp; omega)).trans HHK6.out.2.1
        have k2 := (hb7.cell (p := ⟨w1.heap.size + 1, 2, none⟩) (by simp; omega)).trans HHK6.out.2.2.1
        have k3 := (hb7.cell (p := ⟨w1.heap.size + 1, 3, none⟩) (by simp; omega)).trans HHK6.out.2.2.2
        clear ha hb7 HG6 HH6 HB6 HHK6
        --@6
        go_wp2_with fail
        clear k0 k1 k2 k3
        refine (censusTrees _ _ _ _ _ (g.1, g.2.1, g.2.2.1, R') HH7.out HV'.out n (by omega)).mono ?_
        rintro e w8 ⟨A8, c8, rfl, hbs, hb8⟩
        rw [show nonsOf (g.1, g.2.1, g.2.2.1, R') = nonsOf g from rfl] at hbs
        rw [show nonsOf (g.1, g.2.1, g.2.2.1, R') = nonsOf g from rfl]
        dsimp only at hbs
        have HA8 := Lib.hid (HA7.out.below hb8)
        have HBS8 := Lib.hid hbs
        have HB8 := Lib.hid (HB7.out.trans (hb8.mono HB7.out.size))
        clear hbs hb8 HA7 HB7 HH7
        --@7
        go_wp2_with fail
        refine (keepCounts _).mono ?_
        rintro e w9 ⟨rfl, hb9⟩
        have HA9 := Lib.hid (HA8.out.below hb9)
        have HBS9 := Lib.hid (HBS8.out.below hb9)
        have HB9 := Lib.hid (HB8.out.trans (hb9.mono HB8.out.size))
        have HR1 := Lib.hid (rulesN_of HV'.out)
        have HR2 := Lib.hid (rulesN_of HV.out)
        clear hb9 HA8 HBS8 HB8 HV HV'
        --@8
        go_wp2_with fail
        go_loopg [70] (nonsOf g) (fun gk i wr => ∃ k : Nat, k ≤ nonsOf g ∧ gk = nonsOf g - k ∧ i = .int .i64 k ∧ wr = w9)
        case atStart => exact ⟨0, Nat.zero_le _, rfl, rfl, rfl⟩
        case round =>
          obtain ⟨k, hk, hgk, rfl, rfl⟩ := hrel
          have HGK := Lib.hid hgk
          clear hgk
          by_cases hlt : k < nonsOf g
          · obtain ⟨ba, oa, Aa, ca, rfl, hca, hra⟩ := trees_at HA9.out hlt
            obtain ⟨bb, ob, Ab, cb, rfl, hcb, hrb⟩ := trees_at HBS9.out hlt
            have HRA := Lib.hid hra.ints
            have HRB := Lib.hid hrb.ints
            have hkl : (k : Int) < (nonsOf g : Int) := by omega
            have hl1 := cell_lt hca
            have hl2 := cell_lt hcb
            clear hra hrb
            --@9
            go_wp2_with fail
            go_loopg [78] (n + 1) (fun gk i wx => ∃ j : Nat, j ≤ n + 1 ∧ gk = n + 1 - j ∧ i = .int .i64 j ∧ wx = wr)
            case atStart => exact ⟨0, Nat.zero_le _, rfl, rfl, rfl⟩
            case round =>
              obtain ⟨j, hj, hgj, rfl, rfl⟩ := hrel
              have HGJ := Lib.hid hgj
              clear hgj
              by_cases hjl : j < n + 1
              · obtain ⟨b1, o1, u1, rfl, _, hu1, hc1⟩ := HRA.out.at_ hjl
                obtain ⟨b3, o3, u3, rfl, _, hu3, hc3⟩ := HRB.out.at_ hjl
                rw [treesRow, List.map_map, List.getElem?_map, List.getElem?_range hjl] at hu1 hu3
                simp only [Option.map_some, Option.some.injEq, Function.comp] at hu1 hu3
                have hmono := treesN_mono HR1.out HR2.out HHSUB.out (a := k) (k := j) hlt
                obtain ⟨x, hx⟩ : ∃ x, x = treesN g.2.2.2 k j := ⟨_, rfl⟩
                obtain ⟨y, hy⟩ : ∃ y, y = treesN R' k j := ⟨_, rfl⟩
                rw [← hx] at hu1 hmono
                rw [← hy] at hu3 hmono
                subst hu1
                subst hu3
                have hl3 := cell_lt hc1
                have hl4 := cell_lt hc3
                clear hx hy
                rcases hmono with hm | ⟨hm1, hm2⟩
                · subst hm
                  --@10
                  go_wp2_with fail
                  go_roundg (n + 1 - (j + 1))
                  case measure => rw [HGJ.out]; omega
                  case rel => exact ⟨j + 1, by omega, rfl, by go_num, rfl⟩
                · by_cases hxm : x = -1
                  · subst hxm
                    clear hm1 hm2
                    go_wp2_with fail
                    go_roundg (n + 1 - (j + 1))
                    case measure => rw [HGJ.out]; omega
                    case rel => exact ⟨j + 1, by omega, rfl, by go_num, rfl⟩
                  · have hlx : ¬ x < y := by omega
                    clear hm2
                    go_wp2_with fail
                    · exfalso
                      rename_i hcx
                      first | omega | (simp at hcx; omega) | (simp [hxm, hm1] at hcx; omega)
                    · go_roundg (n + 1 - (j + 1))
                      case measure => rw [HGJ.out]; omega
                      case rel => exact ⟨j + 1, by omega, rfl, by go_num, rfl⟩
              · obtain rfl : j = n + 1 := by omega
                go_wp2_with fail
                go_roundg (nonsOf g - (k + 1))
                case measure => rw [HGK.out]; omega
                case rel => exact ⟨k + 1, by omega, rfl, by go_num, rfl⟩
          · obtain rfl : k = nonsOf g := by omega
            go_wp2_with fail
            go_ret
            exact ⟨rfl, HB9.out⟩
      exact AllL.nil
    exact AllL.nil
  exact AllL.nil
end Go.Proofs.Ytmfahplimnakcaa
