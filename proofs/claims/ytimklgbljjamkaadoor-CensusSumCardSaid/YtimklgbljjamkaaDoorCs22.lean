/- OfN -/
import Derived.Test.YtimklgbljjamkaaDoorCs21
namespace Go.Proofs.YtimklgbljjamkaaDoor
open Go.RowKit
def ruleP (S : Nat → Nat → Bool) (c : Nat → Nat → Nat) (R : List RuleD) (a k i : Nat) : Nat := (R.take i).foldl (fun sum r => if r.1 = (a : Int) then min (sum + listC S c r.2 k) MC else sum) 0
theorem ruleP_all (S : Nat → Nat → Bool) (c : Nat → Nat → Nat) (R : List RuleD) (a k : Nat) : ruleP S c R a k R.length = ruleC S c R a k := by
 unfold ruleP ruleC
 rw [List.take_length]
theorem ruleP_succ (S : Nat → Nat → Bool) (c : Nat → Nat → Nat) (R : List RuleD) (a k i : Nat) {r : RuleD} (h : R[i]? = some r) : ruleP S c R a k (i + 1) = if r.1 = (a : Int) then min (ruleP S c R a k i + listC S c r.2 k) MC else ruleP S c R a k i := by
 unfold ruleP
 rw [List.take_add_one, h, List.foldl_append]
 rfl
theorem ruleP_le (S : Nat → Nat → Bool) (c : Nat → Nat → Nat) (R : List RuleD) (a k i : Nat) : ruleP S c R a k i ≤ MC := ruleC_le S c (R.take i) a k
set_option linter.unusedSimpArgs false in
set_option maxRecDepth 1000000 in
set_option maxHeartbeats 4000000 in
theorem ctrOfStep {L : Lay} {g : GramD} {n : Nat} (hn : n ≤ 1000) (hR : RulesN (nonsOf g) g.2.2.2) (hrl : g.2.2.2.length ≤ 1000) (a k : Nat) (ha : a < nonsOf g) (hk : k ≤ n) (hof : ¬ Many g.2.2.2 (a, k) → ∀ y, Edge g.2.2.2 (a, k) y → OfSpec L g n y) : OfSpec L g n (a, k) := by
 intro w h
 dsimp only
 have HC := Lib.hid h
 have HOF := Lib.hid hof
 have HRN := Lib.hid hR
 have htr : treesN g.2.2.2 a k = if lenD g.2.2.2 a k then (if manyD g.2.2.2 a k then -1 else (cN g.2.2.2 a k : Int)) else 0 := by
  unfold treesN manyD
  by_cases hm : Many g.2.2.2 (a, k) <;> simp [hm]
 have HTR := Lib.hid htr
 clear htr h hof hR
 have i1 : (a : Int) < (nonsOf g : Int) := by omega
 have i2 : (k : Int) < ((n + 1 : Nat) : Int) := by omega
 have i3 : (0 : Int) ≤ (a : Int) := by omega
 have i4 : (0 : Int) ≤ (k : Int) := by omega
 go_enter Tryd.func24, Tryd.ntmps24
 go_wp2_with fail
 obtain ⟨K, hc, hK⟩ := HC.out.below ((Below.refl _ _).alloc (Nat.le_refl _) (.cells #[.bool false, .int .i64 (a : Int)] 63))
 refine (ctrHas _ hc (false, (a : Int)) (fun s hs _ => by simp at hs; rw [hs]; exact ⟨i3, by simpa using ha⟩) k hk).mono ?_
 rintro e w1 ⟨rfl, hb1⟩
 have hbb : Below w.heap.size w w1 := ((Below.refl _ _).alloc (Nat.le_refl _) _).trans (hb1.mono (by simp))
 have HB := Lib.hid hbb
 have hbx : w1.heap[w.heap.size]? = some (.cells #[.bool false, .int .i64 (a : Int)] 63 (0, 0)) := (hb1.block _ (by simp)).trans (heap_alloc_new w _)
 have HBX := Lib.hid hbx
 have ht : w1.cell? ⟨w.heap.size, 0, none⟩ = some (.bool false) := by simp [World.cell?, hbx]
 have hta : w1.cell? ⟨w.heap.size, 1, none⟩ = some (.int .i64 (a : Int)) := by simp [World.cell?, hbx]
 have hc1 := hc.below hb1
 have HCT := Lib.hid hc1
 have HKK := Lib.hid hK
 clear hb1 hbb hbx hc
 have hd : hasT (lenD g.2.2.2) (false, (a : Int)) k = lenD g.2.2.2 a k := by simp [hasT]
 rw [hd]
 clear hd
 cases hlen : lenD g.2.2.2 a k with
 | false =>
  have HLEN := Lib.hid hlen
  clear hlen hc1
  go_wp2_with fail
  go_ret
  exact ⟨ret_int (by rw [HTR.out, HLEN.out]; rfl), HC.out.below HB.out, .of HB.out⟩
 | true =>
  have HLEN := Lib.hid hlen
  clear hlen
  have c6 : w1.cell? ⟨L.Bc, 6, none⟩ = some (.slice (some ⟨L.g2, 0, none⟩) (nonsOf g) L.c2) := hc1.cell 6
  have c6h := hc1.gM.hdr a ha
  have c6c := hc1.gM.cell ha (show k < n + 1 by omega)
  have c7 : w1.cell? ⟨L.Bc, 7, none⟩ = some (.slice (some ⟨L.g3, 0, none⟩) (nonsOf g) L.c3) := hc1.cell 7
  have c7h := hc1.gK.hdr a ha
  have c7c := hc1.gK.cell ha (show k < n + 1 by omega)
  have l1 := cell_lt c6
  have l2 := cell_lt c6h
  have l3 := cell_lt c6c
  have l4 := cell_lt c7h
  have l5 := cell_lt c7c
  cases hmy : manyD g.2.2.2 a k with
  | true =>
   have HMY := Lib.hid hmy
   rw [hmy] at c6c
   clear hmy hc1 hK c7 c7h c7c
   go_wp2_with fail
   go_quiet (fail)
   go_wp2_with fail
   go_ret
   exact ⟨ret_int (by rw [HTR.out, HLEN.out, HMY.out]; rfl), HC.out.below (belowN HB.out _), .of (belowN HB.out _)⟩
  | false =>
   have HMY := Lib.hid hmy
   rw [hmy] at c6c
   have htr : treesN g.2.2.2 a k = (cN g.2.2.2 a k : Int) := by rw [HTR.out, HLEN.out, HMY.out]; rfl
   have HTR2 := Lib.hid htr
   have hKa := hK a k ha hk
   have hnm : ¬ Many g.2.2.2 (a, k) := by simpa [manyD] using hmy
   have HNM := Lib.hid hnm
   clear hmy hK htr HTR
   by_cases hneg : K a k < 0
   ·
    clear hKa
    have hge : decide (0 ≤ K a k) = false := by simp; omega
    have c0 : w1.cell? ⟨L.Bc, 3, none⟩ = some (.slice L.AR L.nR L.cR) := hc1.cell 3
    have hnR : L.nR ≤ 1000 := by have := hc1.rules.len; omega
    have hnl : L.nR = g.2.2.2.length := hc1.rules.len
    have HNL := Lib.hid hnl
    have ho1 := hc1.o1
    have ho2 := hc1.o2
    have ho3 := hc1.o3
    have ho4 := hc1.o4
    clear hc1 hnl
    generalize hAR0 : L.AR = AR0 at c0
    have HAR0 := Lib.hid hAR0
    clear hAR0
    go_wp2_with fail
    go_quiet (fail)
    go_wp2_with fail
    go_quiet (fail)
    go_wp2_with fail
    generalize hw2 : World.drewN w1 _ = w2
    have HC2 : Hid (Cok w2 L g n) := Lib.hid (hw2 ▸ Cok.drewN ⟨K, HCT.out, HKK.out⟩ _)
    have HBX2 : Hid (w2.heap[w.heap.size]? = some (.cells #[.bool false, .int .i64 (a : Int)] 63 (0, 0))) := Lib.hid (hw2 ▸ HBX.out)
    have HB2 : Hid (Aside L.l3 L.hi w w2) := Lib.hid (hw2 ▸ .of (belowN HB.out _))
    have hwl : L.hi ≤ w.heap.size := by
     obtain ⟨_, hq, _⟩ := HC.out
     have := hq.lt
     have := hq.o4
     omega
    clear hw2 HCT HKK HBX HB ht hta c6 c6h c6c c7 c7h c7c c0 l1 l2 l3 l4 l5 hge hneg hnm
    go_loopg [7, 61] L.nR (fun gk t q wr => ∃ i : Nat, i ≤ L.nR ∧ gk = L.nR - i ∧ q = .int .i64 i ∧ t = .int .i64 ((ruleP (lenD g.2.2.2) (cN g.2.2.2) g.2.2.2 a k i : Nat) : Int) ∧ Cok wr L g n ∧ wr.heap[w.heap.size]? = some (.cells #[.bool false, .int .i64 (a : Int)] 63 (0, 0)) ∧ Aside L.l3 L.hi w wr)
    case atStart => exact ⟨0, Nat.zero_le _, rfl, rfl, rfl, HC2.out, HBX2.out, HB2.out⟩
    case round =>
     obtain ⟨i, hi, hgi, rfl, rfl, hcok, hbx, hb⟩ := hrel
     have HGI := Lib.hid hgi
     have HC3 := Lib.hid hcok
     have HBX3 := Lib.hid hbx
     have HB3 := Lib.hid hb
     have hta : wr.cell? ⟨w.heap.size, 1, none⟩ = some (.int .i64 (a : Int)) := by simp [World.cell?, hbx]
     have hlw := heap_lt hbx
     have hsl : ruleP (lenD g.2.2.2) (cN g.2.2.2) g.2.2.2 a k i ≤ 1000000000 := ruleP_le (lenD g.2.2.2) (cN g.2.2.2) g.2.2.2 a k i
     clear hgi hbx hb HC2 HBX2 HB2
     obtain ⟨K3, hctr, hK3⟩ := hcok
     by_cases hin : i < L.nR
     ·
      obtain ⟨b0, off, AQ, m, cQ, r, hAR, hS0, hb0, hr1, hr2, hr, hrs⟩ := rule_at hctr.rules hin
      rw [HAR0.out] at hAR
      subst hAR
      have hsuc := ruleP_succ (lenD g.2.2.2) (cN g.2.2.2) g.2.2.2 a k i hr
      have HSUC := Lib.hid hsuc
      have HR := Lib.hid hr
      have HRS := Lib.hid hrs
      clear hsuc hr hrs hctr hK3 hS0
      obtain ⟨r1, r2⟩ := r
      dsimp only at hr1
      by_cases he : r1 = (a : Int)
      ·
       have hll : listC (lenD g.2.2.2) (cN g.2.2.2) r2 k ≤ 1000000000 := listC_le (lenD g.2.2.2) (cN g.2.2.2) r2 k
       have hsu : ruleP (lenD g.2.2.2) (cN g.2.2.2) g.2.2.2 a k (i + 1) = min (ruleP (lenD g.2.2.2) (cN g.2.2.2) g.2.2.2 a k i + listC (lenD g.2.2.2) (cN g.2.2.2) r2 k) 1000000000 := by rw [HSUC.out, if_pos he]
       have HSU := Lib.hid hsu
       clear hsu HSUC
       generalize hse : ruleP (lenD g.2.2.2) (cN g.2.2.2) g.2.2.2 a k i = sv at *
       clear hse
       subst he
       go_wp2_with fail
       refine (ctrList hn HRN.out (a, k) ha HNM.out (HOF.out HNM.out) r2 _ (HC3.out.below ((Below.refl _ _).alloc (Nat.le_refl _) _)) (fun b => b < L.lo) (fun b hb => Or.inl (by omega)) _ _ _ (HRS.out.alloc _) k (Suffix.start (x := (a, k)) (List.mem_of_getElem? HR.out) rfl) hk).mono ?_
       rintro e w5 ⟨rfl, hc5, hb5⟩
       have HC5 := Lib.hid hc5
       have HB5 := Lib.hid ((HB3.out.alloc _).trans hb5)
       have HBX5 := Lib.hid ((hb5.block _ (by simp; omega) (Or.inr (by omega))).trans ((Below.heap_alloc _ _ _ hlw).trans HBX3.out))
       clear hc5 hb5
       generalize hle : listC (lenD g.2.2.2) (cN g.2.2.2) r2 k = lv at *
       clear hle
       go_wp2_with fail
       all_goals
        go_roundg (L.nR - (i + 1))
        case measure => rw [HGI.out]; omega
        case rel => exact ⟨i + 1, by omega, rfl, by go_num, by rw [HSU.out]; congr 1; omega, HC5.out, HBX5.out, HB5.out⟩
      ·
       have hne : (r1 == (a : Int)) = false := by simpa using he
       have hsu : ruleP (lenD g.2.2.2) (cN g.2.2.2) g.2.2.2 a k (i + 1) = ruleP (lenD g.2.2.2) (cN g.2.2.2) g.2.2.2 a k i := by rw [HSUC.out, if_neg he]
       have HSU := Lib.hid hsu
       clear hsu HSUC he
       go_wp2_with fail
       go_roundg (L.nR - (i + 1))
       case measure => rw [HGI.out]; omega
       case rel => exact ⟨i + 1, by omega, rfl, by go_num, by rw [HSU.out], HC3.out.below ((Below.refl _ _).alloc (Nat.le_refl _) _), (Below.heap_alloc _ _ _ hlw).trans HBX3.out, HB3.out.alloc _⟩
     ·
      obtain rfl : i = L.nR := by omega
      have hsum : ruleP (lenD g.2.2.2) (cN g.2.2.2) g.2.2.2 a k L.nR = cN g.2.2.2 a k := by
       rw [HNL.out, ruleP_all, ← cN_eq HRN.out (acc_few HRN.out (x := (a, k)) ha HNM.out)]
      rw [hsum]
      have HC9 := Lib.hid hctr.drew
      have HFT9 := Lib.hid (hctr.drew.gK.fr ha k)
      have HCT9 := Lib.hid (hctr.drew.gK.cell ha (show k < n + 1 by omega))
      obtain ⟨rg1, rg2, rg3⟩ := hctr.gK.rng a ha
      have HK9 := Lib.hid (show wr.drew.cell? ⟨L.Bc, 7, none⟩ = some (.slice (some ⟨L.g3, 0, none⟩) (nonsOf g) L.c3) ∧ wr.drew.cell? ⟨L.g3, a, none⟩ = some (.slice (some ⟨L.s3 a, 0, none⟩) (n + 1) (n + 1)) ∧ wr.drew.cell? ⟨w.heap.size, 1, none⟩ = some (.int .i64 (a : Int)) from ⟨hctr.drew.cell 7, hctr.drew.gK.hdr a ha, hta⟩)
      have HS10 := Lib.hid (And.intro (setOther (.int .i64 (cN g.2.2.2 a k : Int)) (p := ⟨L.s3 a, k, none⟩) HK9.out.1 (by simp; omega)) (And.intro (setOther (.int .i64 (cN g.2.2.2 a k : Int)) (p := ⟨L.s3 a, k, none⟩) HK9.out.2.1 (Ne.symm rg3)) (setOther (.int .i64 (cN g.2.2.2 a k : Int)) (p := ⟨L.s3 a, k, none⟩) HK9.out.2.2 (by simp; omega))))
      have HC10 := Lib.hid (show Cok (wr.drew.setCell ⟨L.s3 a, k, none⟩ (.int .i64 (cN g.2.2.2 a k : Int))) L g n from ⟨_, hctr.drew.setK k ha _, fun b j hb hj => by
       by_cases e : b = a ∧ j = k
       ·
        rw [if_pos e]
        obtain ⟨rfl, rfl⟩ := e
        exact Or.inr rfl
       ·
        rw [if_neg e]
        exact hK3 b j hb hj⟩)
      have HB10 := Lib.hid (HB3.out.drew.setCell (p := ⟨L.s3 a, k, none⟩) rg1 rg2 (.int .i64 (cN g.2.2.2 a k : Int)))
      have i5 : (k : Int) < (n : Int) + 1 := by omega
      clear hctr hK3 hta hsum
      go_wp2_with fail
      refine wp_region_late (late := []) (S1 := fun u => u.cell? ⟨L.Bc, 7, none⟩ = some (.slice (some ⟨L.g3, 0, none⟩) (nonsOf g) L.c3) ∧ u.cell? ⟨L.g3, a, none⟩ = some (.slice (some ⟨L.s3 a, 0, none⟩) (n + 1) (n + 1)) ∧ u.cell? ⟨w.heap.size, 1, none⟩ = some (.int .i64 (a : Int))) (S := fun _ => True) (by kernel_rfl) ?_
      refine wpAnyL_pure (i := 0) rfl (by kernel_rfl) (fun _ _ _ h => h) (Or.inl ⟨by rfl, (fun u hu => by obtain ⟨k0, k1, k3⟩ := hu; go_simp; try rfl)⟩) HK9.out (fun _ => trivial) ?_
      simp only [Act.put, List.setIfInBounds_toArray, List.set_cons_zero, List.set_cons_succ, List.getElem_toArray, List.getElem_cons_zero, List.getElem_cons_succ]
      refine wpAnyL_pure (i := 1) rfl (by kernel_rfl) (fun _ _ _ h => h) (Or.inl ⟨by rfl, (fun u hu => by obtain ⟨k0, k1, k3⟩ := hu; go_simp; try rfl)⟩) HK9.out (fun _ => trivial) ?_
      simp only [Act.put, List.setIfInBounds_toArray, List.set_cons_zero, List.set_cons_succ, List.getElem_toArray, List.getElem_cons_zero, List.getElem_cons_succ]
      refine wpAnyL_pure (i := 2) rfl (by kernel_rfl) (fun _ _ _ h => h) (Or.inl ⟨by rfl, (fun u hu => by obtain ⟨k0, k1, k3⟩ := hu; go_simp; try rfl)⟩) HK9.out (fun _ => trivial) ?_
      simp only [Act.put, List.setIfInBounds_toArray, List.set_cons_zero, List.set_cons_succ, List.getElem_toArray, List.getElem_cons_zero, List.getElem_cons_succ]
      refine wpAnyL_pure (i := 3) rfl (by kernel_rfl) (fun _ _ _ h => h) (Or.inl ⟨by rfl, (fun u hu => by obtain ⟨k0, k1, k3⟩ := hu; go_simp; try rfl)⟩) HK9.out (fun _ => trivial) ?_
      simp only [Act.put, List.setIfInBounds_toArray, List.set_cons_zero, List.set_cons_succ, List.getElem_toArray, List.getElem_cons_zero, List.getElem_cons_succ]
      refine wpAnyL_pure (i := 4) rfl (by kernel_rfl) (fun _ _ _ h => h) (Or.inl ⟨by rfl, (fun u hu => by obtain ⟨k0, k1, k3⟩ := hu; go_simp; try rfl)⟩) HK9.out (fun _ => trivial) ?_
      simp only [Act.put, List.setIfInBounds_toArray, List.set_cons_zero, List.set_cons_succ, List.getElem_toArray, List.getElem_cons_zero, List.getElem_cons_succ]
      refine wpAnyL_pure (i := 5) rfl (by kernel_rfl) (fun _ _ _ h => h) (Or.inl ⟨by rfl, (fun u hu => by obtain ⟨k0, k1, k3⟩ := hu; go_simp; try rfl)⟩) HK9.out (fun _ => trivial) ?_
      simp only [Act.put, List.setIfInBounds_toArray, List.set_cons_zero, List.set_cons_succ, List.getElem_toArray, List.getElem_cons_zero, List.getElem_cons_succ]
      refine wpAnyL_pure (i := 6) rfl (by kernel_rfl) (fun _ _ _ h => h) (Or.inl ⟨by rfl, (fun u hu => by obtain ⟨k0, k1, k3⟩ := hu; go_simp; try rfl)⟩) HK9.out (fun _ => trivial) ?_
      simp only [Act.put, List.setIfInBounds_toArray, List.set_cons_zero, List.set_cons_succ, List.getElem_toArray, List.getElem_cons_zero, List.getElem_cons_succ]
      refine wpAnyL_pure (i := 7) rfl (by kernel_rfl) (fun _ _ _ h => h) (Or.inl ⟨by rfl, (fun u hu => by obtain ⟨k0, k1, k3⟩ := hu; go_simp; try rfl)⟩) HK9.out (fun _ => trivial) ?_
      simp only [Act.put, List.setIfInBounds_toArray, List.set_cons_zero, List.set_cons_succ, List.getElem_toArray, List.getElem_cons_zero, List.getElem_cons_succ]
      refine wpAnyL_pure (i := 8) rfl (by kernel_rfl) (fun _ _ _ h => h) (Or.inl ⟨by rfl, (fun u hu => by obtain ⟨k0, k1, k3⟩ := hu; go_simp; try rfl)⟩) HK9.out (fun _ => trivial) ?_
      simp only [Act.put, List.setIfInBounds_toArray, List.set_cons_zero, List.set_cons_succ, List.getElem_toArray, List.getElem_cons_zero, List.getElem_cons_succ]
      refine wpAnyL_pure (i := 9) rfl (by kernel_rfl) (fun _ _ _ h => h) (Or.inl ⟨by rfl, (fun u hu => by obtain ⟨k0, k1, k3⟩ := hu; go_simp; try rfl)⟩) HK9.out (fun _ => trivial) ?_
      simp only [Act.put, List.setIfInBounds_toArray, List.set_cons_zero, List.set_cons_succ, List.getElem_toArray, List.getElem_cons_zero, List.getElem_cons_succ]
      refine wpAnyL_pure (i := 10) rfl (by kernel_rfl) (fun _ _ _ h => h) (Or.inl ⟨by rfl, (fun u hu => by obtain ⟨k0, k1, k3⟩ := hu; go_simp; try rfl)⟩) HK9.out (fun _ => trivial) ?_
      simp only [Act.put, List.setIfInBounds_toArray, List.set_cons_zero, List.set_cons_succ, List.getElem_toArray, List.getElem_cons_zero, List.getElem_cons_succ]
      refine wpAnyL_ready (rs := [11]) (by kernel_rfl) (by simp) ?_
      refine AllL.cons rfl (fun K hK => ?_) ?_
      ·
       have hc := HCT9.out
       have hf := HFT9.out
       go_simp
       clear hc hf
       refine hK.out _ _ HS10.out (fun _ => trivial) ?_
       clear hK K
       refine wpAnyL_done (by kernel_rfl) ?_ _
       go_wp2_with fail
       go_ret
       exact ⟨ret_int (by rw [HTR2.out]), HC10.out, HB10.out⟩
      exact AllL.nil
   ·
    have hKe : K a k = (cN g.2.2.2 a k : Int) := hKa.resolve_left hneg
    rw [hKe] at c7c
    clear hKa hneg hKe hc1
    go_wp2_with fail
    go_quiet (fail)
    go_wp2_with fail
    go_quiet (fail)
    go_wp2_with fail
    go_quiet (fail)
    go_wp2_with fail
    go_ret
    exact ⟨ret_int (by rw [HTR2.out]), HC.out.below (belowN (belowN (belowN HB.out _) _) _), .of (belowN (belowN (belowN HB.out _) _) _)⟩
theorem ctrOf {L : Lay} {g : GramD} {n : Nat} (hn : n ≤ 1000) (hR : RulesN (nonsOf g) g.2.2.2) (hrl : g.2.2.2.length ≤ 1000) (a k : Nat) (ha : a < nonsOf g) (hk : k ≤ n) : OfSpec L g n (a, k) := by
 have key : ∀ x : Nat × Nat, Acc (fun y x => Edge g.2.2.2 x y) x → x.1 < nonsOf g → x.2 ≤ n → ¬ Many g.2.2.2 x → OfSpec L g n x := by
  intro x hx
  induction hx with
  | intro x _ ih =>
   intro h1 h2 hm
   exact ctrOfStep hn hR hrl x.1 x.2 h1 h2 fun _ y hy => ih y hy (hy.lt hR) (Nat.le_trans hy.le h2) fun h => hm (Many.back hy h)
 exact ctrOfStep hn hR hrl a k ha hk fun hm y hy => key y ((acc_few hR (x := (a, k)) ha hm).inv hy) (hy.lt hR) (Nat.le_trans hy.le hk) fun h => hm (Many.back hy h)
end Go.Proofs.YtimklgbljjamkaaDoor
