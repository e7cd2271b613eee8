/- census.Counter.List of any list: it returns some number. -/
import Derived.Test.YthanhegomgbgbaaOfN
namespace Go.Proofs.Ythanhegomgbgbaa
open Go.RowKit

set_option linter.unusedSimpArgs false in
set_option maxRecDepth 1000000 in
set_option maxHeartbeats 4000000 in
theorem ctrListAny {L : Lay} {g : GramD} {n : Nat} (hn : n ≤ 1000) (hR : RulesN (nonsOf g) g.2.2.2) (hof : ∀ y : Nat × Nat, y.1 < nonsOf g → y.2 ≤ n → OfSpec L g n y) :
    ∀ (l : List SymD) (w : World) (_ : Cok w L g n) (S' : Nat → Prop) (_ : ∀ b, S' b → b < L.l3 ∨ L.hi ≤ b) (A : Option Addr) (m c : Nat) (_ : Sl RSym w S' A m c l) (k : Nat) (_ : NonOk (nonsOf g) l) (_ : k ≤ n),
    Calls Try.prog 95 #[.pointer (some ⟨L.Bc, 0, none⟩), .slice A m c, .int .i64 k] w fun e w' => (∃ v : Int, e = .returned (.int .i64 v)) ∧ Cok w' L g n ∧ Aside L.l3 L.hi w w'
  | [], w, h, S', hS', A, m, c, hl, k, ho, hk => by
    have hm' := hl.len
    simp only [List.length_nil] at hm'
    subst hm'
    have HC := Lib.hid h
    clear ho h hl hof
    by_cases hk0 : k = 0
    · have hz : ((k : Int) == 0) = true := by simp; omega
      have HK := Lib.hid hk0
      clear hk0
      go_enter Try.func95, Try.ntmps95
      go_wp2_with fail
      go_ret
      exact ⟨⟨_, rfl⟩, HC.out, Aside.refl _ _ _⟩
    · have hz : ((k : Int) == 0) = false := by simp; omega
      have HK := Lib.hid hk0
      clear hk0
      go_enter Try.func95, Try.ntmps95
      go_wp2_with fail
      go_ret
      exact ⟨⟨_, rfl⟩, HC.out, Aside.refl _ _ _⟩
  | s :: l, w, h, S', hS', A, m, c, hl, k, ho, hk => by
    have hm' := hl.len
    rw [List.length_cons] at hm'
    obtain ⟨b, off, s', rfl, hSb, hbl, hc1, hc2, hs0⟩ := sym_at hl (k := 0) (by omega)
    obtain rfl : s = s' := by simpa using hs0
    rw [Nat.zero_mul, Nat.add_zero] at hc1 hc2
    obtain ⟨A', hcut, hl'⟩ := hl.cutl tSyms rfl 1 (by omega)
    rw [List.drop_succ_cons, List.drop_zero] at hl'
    simp only [Int.cast_ofNat_Int] at hcut
    have hme : ((m : Int) == 0) = false := by simp; omega
    have hm1 : 0 < m := by omega
    have hcells : ∀ u, Aside L.l3 L.hi w u → u.cell? ⟨b, off, none⟩ = some (.bool s.1) ∧ u.cell? ⟨b, off + 1, none⟩ = some (.int .i64 s.2) := fun u hu =>
      ⟨(hu.cell hbl (hS' _ hSb)).trans hc1, (hu.cell hbl (hS' _ hSb)).trans hc2⟩
    have HCE := Lib.hid hcells
    have HC := Lib.hid h
    have HS' := Lib.hid hS'
    have HL := Lib.hid hl'
    have HO1 := Lib.hid ho.head
    have HO2 := Lib.hid ho.tail
    have HOF := Lib.hid hof
    have HRN := Lib.hid hR
    have ih := ctrListAny (L := L) hn hR hof l
    have HIH := Lib.hid ih
    clear h hl hl' ho hs0 hc1 hc2 ih hm' hcells hof hR hS' hSb hbl
    go_enter Try.func95, Try.ntmps95
    go_wp2_with fail
    go_loopg [7, 16] (k + 1) (fun gk t q wr => ∃ j : Nat, j ≤ k + 1 ∧ gk = k + 1 - j ∧ q = .int .i64 j ∧ (∃ v : Int, t = .int .i64 v) ∧ Cok wr L g n ∧ Aside L.l3 L.hi w wr)
    case atStart => exact ⟨0, Nat.zero_le _, rfl, rfl, ⟨_, rfl⟩, HC.out, Aside.refl _ _ _⟩
    case round =>
      obtain ⟨j, hj, hgj, rfl, ⟨sv, rfl⟩, hcok, hb⟩ := hrel
      have HGJ := Lib.hid hgj
      have HC1 := Lib.hid hcok
      have HB1 := Lib.hid hb
      obtain ⟨hc1, hc2⟩ := HCE.out _ hb
      clear hgj hb
      obtain ⟨K1, hctr, _⟩ := hcok
      have HT1 := Lib.hid hctr
      clear hctr
      by_cases hjl : j < k + 1
      · go_wp2_with fail
        refine (ctrHas _ HT1.out s HO1.out j (by omega)).mono ?_
        rintro e w1 ⟨rfl, hb1⟩
        have HC2 := Lib.hid (HC1.out.below hb1)
        have HT2 := Lib.hid (HT1.out.below hb1)
        have HB2 := Lib.hid (HB1.out.trans (.of hb1))
        clear hb1
        cases hh : hasT (lenD g.2.2.2) s j with
        | false =>
          have HH := Lib.hid hh
          clear hh
          go_wp2_with fail
          go_roundg (k + 1 - (j + 1))
          case measure => rw [HGJ.out]; omega
          case rel => exact ⟨j + 1, by omega, rfl, by go_num, ⟨_, rfl⟩, HC2.out, HB2.out⟩
        | true =>
          have HH := Lib.hid hh
          clear hh
          have hki : ((k : Int) - (j : Int)) = ((k - j : Nat) : Int) := by omega
          have HKI := Lib.hid hki
          clear hki
          go_wp2_with fail
          rw [HKI.out]
          refine (ctrCan hn l _ HT2.out _ _ _ _ (HL.out.keep (.aside HB2.out HS'.out)) HO2.out (k - j) (by omega)).mono ?_
          rintro e w2 ⟨rfl, hb2⟩
          have HC3 := Lib.hid (HC2.out.below hb2)
          have HB3 := Lib.hid (HB2.out.trans (.of hb2))
          clear hb2
          cases hh : canT (lenD g.2.2.2) l (k - j) with
          | false =>
            have HH2 := Lib.hid hh
            clear hh
            go_wp2_with fail
            go_roundg (k + 1 - (j + 1))
            case measure => rw [HGJ.out]; omega
            case rel => exact ⟨j + 1, by omega, rfl, by go_num, ⟨_, rfl⟩, HC3.out, HB3.out⟩
          | true =>
            have HH2 := Lib.hid hh
            clear hh hc1 hc2
            have hofs : ∀ u : World, Cok u L g n → Calls Try.prog 63 #[.pointer (some ⟨L.Bc, 0, none⟩), .agg #[.bool s.1, .int .i64 s.2], .int .i64 j] u fun e w' => (∃ ov : Int, e = .returned (.int .i64 ov)) ∧ Cok w' L g n ∧ Aside L.l3 L.hi u w' := by
              intro u hu
              have ho1 := HO1.out
              obtain ⟨t, y⟩ := s
              cases t with
              | true =>
                refine (ctrOfTerm u hu y j (by omega)).mono ?_
                rintro e w' ⟨rfl, hb⟩
                exact ⟨⟨_, rfl⟩, hu.below hb, .of hb⟩
              | false =>
                have hy := (ho1 (false, y) (by simp) rfl)
                obtain ⟨a, rfl⟩ : ∃ a : Nat, y = (a : Int) := ⟨y.toNat, by have := hy.1; dsimp only at this; omega⟩
                refine (HOF.out (a, j) (by simpa using hy.2) (by dsimp only; omega) u hu).mono ?_
                rintro e w' ⟨rfl, h2, h3⟩
                exact ⟨⟨_, rfl⟩, h2, h3⟩
            have HOFS := Lib.hid hofs
            have HK0 := Lib.hid (HCE.out _ HB3.out.drew)
            have HKW := Lib.hid (show IntKind.i64.wrap ((k : Int) - (j : Int)) = ((k - j : Nat) : Int) by rw [IntWalk.i64_in _ (by omega)]; omega)
            clear hofs
            go_wp2_with fail
            refine wp_region_late (late := []) (S1 := fun u => u.cell? ⟨b, off, none⟩ = some (.bool s.1) ∧ u.cell? ⟨b, off + 1, none⟩ = some (.int .i64 s.2)) (S := fun _ => True) (by kernel_rfl) ?_
            refine wpAnyL_pure (i := 0) rfl (by kernel_rfl) (fun _ _ _ h => h) (Or.inl ⟨by rfl, (fun u hu => by obtain ⟨k0, k1⟩ := hu; go_simp; try rfl)⟩) HK0.out (fun _ => trivial) ?_
            simp only [Act.put, List.setIfInBounds_toArray, List.set_cons_zero, List.set_cons_succ, List.getElem_toArray, List.getElem_cons_zero, List.getElem_cons_succ]
            refine wpAnyL_pure (i := 1) rfl (by kernel_rfl) (fun _ _ _ h => h) (Or.inl ⟨by rfl, (fun u hu => by obtain ⟨k0, k1⟩ := hu; go_simp; try rfl)⟩) HK0.out (fun _ => trivial) ?_
            simp only [Act.put, List.setIfInBounds_toArray, List.set_cons_zero, List.set_cons_succ, List.getElem_toArray, List.getElem_cons_zero, List.getElem_cons_succ]
            refine wpAnyL_pure (i := 2) rfl (by kernel_rfl) (fun _ _ _ h => h) (Or.inl ⟨by rfl, (fun u hu => by obtain ⟨k0, k1⟩ := hu; go_simp; try rfl)⟩) HK0.out (fun _ => trivial) ?_
            simp only [Act.put, List.setIfInBounds_toArray, List.set_cons_zero, List.set_cons_succ, List.getElem_toArray, List.getElem_cons_zero, List.getElem_cons_succ]
            refine wpAnyL_pure (i := 3) rfl (by kernel_rfl) (fun _ _ _ h => h) (Or.inl ⟨by rfl, (fun u hu => by obtain ⟨k0, k1⟩ := hu; go_simp; try rfl)⟩) HK0.out (fun _ => trivial) ?_
            simp only [Act.put, List.setIfInBounds_toArray, List.set_cons_zero, List.set_cons_succ, List.getElem_toArray, List.getElem_cons_zero, List.getElem_cons_succ]
            refine wpAnyL_pure (i := 4) rfl (by kernel_rfl) (fun _ _ _ h => h) (Or.inl ⟨by rfl, (fun u hu => by obtain ⟨k0, k1⟩ := hu; go_simp; try rfl)⟩) HK0.out (fun _ => trivial) ?_
            simp only [Act.put, List.setIfInBounds_toArray, List.set_cons_zero, List.set_cons_succ, List.getElem_toArray, List.getElem_cons_zero, List.getElem_cons_succ]
            refine wpAnyL_pure (i := 5) rfl (by kernel_rfl) (fun _ _ _ h => h) (Or.inl ⟨by rfl, (fun u hu => by obtain ⟨k0, k1⟩ := hu; go_simp; try rfl)⟩) HK0.out (fun _ => trivial) ?_
            simp only [Act.put, List.setIfInBounds_toArray, List.set_cons_zero, List.set_cons_succ, List.getElem_toArray, List.getElem_cons_zero, List.getElem_cons_succ]
            refine wpAnyL_pure (i := 7) rfl (by kernel_rfl) (fun _ _ _ h => h) (Or.inl ⟨by rfl, (fun u hu => by obtain ⟨k0, k1⟩ := hu; go_simp; try rfl)⟩) HK0.out (fun _ => trivial) ?_
            simp only [Act.put, List.setIfInBounds_toArray, List.set_cons_zero, List.set_cons_succ, List.getElem_toArray, List.getElem_cons_zero, List.getElem_cons_succ]
            refine wpAnyL_pure (i := 8) rfl (by kernel_rfl) (fun _ _ _ h => h) (Or.inl ⟨by rfl, (fun u hu => by obtain ⟨k0, k1⟩ := hu; go_simp; try rfl)⟩) HK0.out (fun _ => trivial) ?_
            simp only [Act.put, List.setIfInBounds_toArray, List.set_cons_zero, List.set_cons_succ, List.getElem_toArray, List.getElem_cons_zero, List.getElem_cons_succ]
            refine wpAnyL_pure (i := 9) rfl (by kernel_rfl) (fun _ _ _ h => h) (Or.inl ⟨by rfl, (fun u hu => by obtain ⟨k0, k1⟩ := hu; go_simp; try rfl)⟩) HK0.out (fun _ => trivial) ?_
            simp only [Act.put, List.setIfInBounds_toArray, List.set_cons_zero, List.set_cons_succ, List.getElem_toArray, List.getElem_cons_zero, List.getElem_cons_succ]
            refine wpAnyL_pure (i := 10) rfl (by kernel_rfl) (fun _ _ _ h => h) (Or.inl ⟨by rfl, (fun u hu => by obtain ⟨k0, k1⟩ := hu; go_simp; try rfl)⟩) HK0.out (fun _ => trivial) ?_
            simp only [Act.put, List.setIfInBounds_toArray, List.set_cons_zero, List.set_cons_succ, List.getElem_toArray, List.getElem_cons_zero, List.getElem_cons_succ]
            refine wpAnyL_pure (i := 11) rfl (by kernel_rfl) (fun _ _ _ h => h) (Or.inl ⟨by rfl, (fun u hu => by obtain ⟨k0, k1⟩ := hu; go_simp; try rfl)⟩) HK0.out (fun _ => trivial) ?_
            simp only [Act.put, List.setIfInBounds_toArray, List.set_cons_zero, List.set_cons_succ, List.getElem_toArray, List.getElem_cons_zero, List.getElem_cons_succ]
            refine wpAnyL_pure (i := 12) (v := .int .i64 ((k - j : Nat) : Int)) rfl (by kernel_rfl) (fun _ _ _ h => h) (Or.inl ⟨by rfl, (fun u hu => by have := HKW.out; go_simp; try rfl)⟩) HK0.out (fun _ => trivial) ?_
            simp only [Act.put, List.setIfInBounds_toArray, List.set_cons_zero, List.set_cons_succ, List.getElem_toArray, List.getElem_cons_zero, List.getElem_cons_succ]
            refine wpAnyL_ready (rs := [6]) (by kernel_rfl) (by simp) ?_
            refine AllL.cons rfl (fun K hK => ?_) ?_
            · go_simp
              refine (HOFS.out _ HC3.out.drew).mono ?_
              rintro e w6 ⟨⟨ov, rfl⟩, hc6, hb6⟩
              have HC6 := Lib.hid hc6
              have HB6 := Lib.hid (HB3.out.drew.trans hb6)
              have HK1 := Lib.hid (HCE.out _ HB6.out)
              clear hc6 hb6
              refine hK.out _ _ HK1.out (fun _ => trivial) ?_
              clear hK K
              refine wpAnyL_ready (rs := [13]) (by kernel_rfl) (by simp) ?_
              refine AllL.cons rfl (fun K hK => ?_) ?_
              · go_simp
                refine (HIH.out _ HC6.out _ HS'.out _ _ _ (HL.out.keep (.aside HB6.out HS'.out)) (k - j) HO2.out (by omega)).mono ?_
                rintro e w7 ⟨⟨lv, rfl⟩, hc7, hb7⟩
                obtain ⟨pv, HMUL⟩ : ∃ pv : Int, Hid (IntKind.i64.wrap (ov * lv) = pv) := ⟨_, Lib.hid rfl⟩
                obtain ⟨av, HADD⟩ : ∃ av : Int, Hid (IntKind.i64.wrap (sv + pv) = av) := ⟨_, Lib.hid rfl⟩
                obtain ⟨nv, HNV⟩ : ∃ nv : Int, Hid (nv = if av < 1000000000 then av else 1000000000) := ⟨_, Lib.hid rfl⟩
                have HC7 := Lib.hid hc7
                have HB7 := Lib.hid (HB6.out.trans hb7)
                have HK2 := Lib.hid (HCE.out _ HB7.out)
                clear hc7 hb7
                refine hK.out _ _ HK2.out (fun _ => trivial) ?_
                clear hK K
                refine wpAnyL_pure (i := 14) (v := .int .i64 pv) rfl (by kernel_rfl) (fun _ _ _ h => h) (Or.inl ⟨by rfl, (fun u hu => by go_simp; rw [HMUL.out])⟩) HK2.out (fun _ => trivial) ?_
                simp only [Act.put, List.setIfInBounds_toArray, List.set_cons_zero, List.set_cons_succ, List.getElem_toArray, List.getElem_cons_zero, List.getElem_cons_succ]
                refine wpAnyL_pure (i := 15) (v := .int .i64 av) rfl (by kernel_rfl) (fun _ _ _ h => h) (Or.inl ⟨by rfl, (fun u hu => by go_simp; rw [HADD.out])⟩) HK2.out (fun _ => trivial) ?_
                simp only [Act.put, List.setIfInBounds_toArray, List.set_cons_zero, List.set_cons_succ, List.getElem_toArray, List.getElem_cons_zero, List.getElem_cons_succ]
                refine wpAnyL_pure (i := 16) (v := .int .i64 nv) rfl (by kernel_rfl) (fun _ _ _ h => h) (Or.inl ⟨by rfl, (fun u hu => by clear hu; have hN := HNV.out; split at hN <;> rename_i hc <;> rw [hN] <;> clear hN <;> go_simp <;> omega)⟩) HK2.out (fun _ => trivial) ?_
                simp only [Act.put, List.setIfInBounds_toArray, List.set_cons_zero, List.set_cons_succ, List.getElem_toArray, List.getElem_cons_zero, List.getElem_cons_succ]
                refine wpAnyL_pure (i := 17) rfl (by kernel_rfl) (fun _ _ _ h => h) (Or.inl ⟨by rfl, (fun u hu => by obtain ⟨k0, k1⟩ := hu; go_simp; try rfl)⟩) HK2.out (fun _ => trivial) ?_
                simp only [Act.put, List.setIfInBounds_toArray, List.set_cons_zero, List.set_cons_succ, List.getElem_toArray, List.getElem_cons_zero, List.getElem_cons_succ]
                refine wpAnyL_done (by kernel_rfl) ?_ _
                go_wp2_with fail
                go_roundg (k + 1 - (j + 1))
                case measure => rw [HGJ.out]; omega
                case rel => exact ⟨j + 1, by omega, rfl, by go_num, ⟨_, rfl⟩, HC7.out, HB7.out⟩
              exact AllL.nil
            exact AllL.nil
      · obtain rfl : j = k + 1 := by omega
        go_wp2_with fail
        go_ret
        exact ⟨⟨_, rfl⟩, HC1.out, HB1.out⟩
end Go.Proofs.Ythanhegomgbgbaa
