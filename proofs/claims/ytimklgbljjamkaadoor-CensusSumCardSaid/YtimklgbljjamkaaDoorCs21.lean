/- CtrOf -/
import Derived.Test.YtimklgbljjamkaaDoorCs19
import Derived.Test.YtimklgbljjamkaaDoorCs20
namespace Go.Proofs.YtimklgbljjamkaaDoor
open Go.RowKit
def Cok (w : World) (L : Lay) (g : GramD) (n : Nat) : Prop := ∃ K, Ctr w L g n (lenD g.2.2.2) (manyD g.2.2.2) K ∧ ∀ a k, a < nonsOf g → k ≤ n → K a k < 0 ∨ K a k = (cN g.2.2.2 a k : Int)
theorem Cok.below {w w' : World} {L : Lay} {g : GramD} {n : Nat} (h : Cok w L g n) (hb : Below w.heap.size w w') : Cok w' L g n := by
 obtain ⟨K, h1, h2⟩ := h
 exact ⟨K, h1.below hb, h2⟩
theorem Cok.drew {w : World} {L : Lay} {g : GramD} {n : Nat} (h : Cok w L g n) : Cok w.drew L g n := by
 obtain ⟨K, h1, h2⟩ := h
 exact ⟨K, h1.drew, h2⟩
theorem Cok.drewN {w : World} {L : Lay} {g : GramD} {n : Nat} (h : Cok w L g n) (k : Nat) : Cok (w.drewN k) L g n := by
 obtain ⟨K, h1, h2⟩ := h
 exact ⟨K, h1.drewN k, h2⟩
def OfSpec (L : Lay) (g : GramD) (n : Nat) (y : Nat × Nat) : Prop := ∀ w, Cok w L g n →
 Calls Tryd.prog 24 #[.pointer (some ⟨L.Bc, 0, none⟩), .agg #[.bool false, .int .i64 (y.1 : Int)], .int .i64 (y.2 : Int)] w fun e w' => e = .returned (.int .i64 (treesN g.2.2.2 y.1 y.2)) ∧ Cok w' L g n ∧ Aside L.l3 L.hi w w'
set_option maxRecDepth 100000 in
set_option maxHeartbeats 1000000 in
theorem ctrOfTerm {L : Lay} {g : GramD} {n : Nat} (w : World) (h : Cok w L g n) (x : Int) (k : Nat) (hk : k ≤ n) :
    Calls Tryd.prog 24 #[.pointer (some ⟨L.Bc, 0, none⟩), .agg #[.bool true, .int .i64 x], .int .i64 k] w fun e w' => e = .returned (.int .i64 (if k = 1 then 1 else 0)) ∧ Below w.heap.size w w' := by
 obtain ⟨K, hc, _⟩ := h
 have HC := Lib.hid hc
 clear hc
 go_enter Tryd.func24, Tryd.ntmps24
 go_wp2_with fail
 refine (ctrHas _ (HC.out.below ((Below.refl _ _).alloc (Nat.le_refl _) _)) (true, x) (fun s hs hf => by simp at hs; rw [hs] at hf; cases hf) k hk).mono ?_
 rintro e w1 ⟨rfl, hb1⟩
 have hbb : Below w.heap.size w w1 := ((Below.refl _ _).alloc (Nat.le_refl _) _).trans (hb1.mono (by simp))
 have HB := Lib.hid hbb
 have ht : w1.cell? ⟨w.heap.size, 0, none⟩ = some (.bool true) := by
  rw [hb1.cell (by simp)]; simp
 clear hb1 hbb
 have hd : hasT (lenD g.2.2.2) (true, x) k = decide (k = 1) := by rw [Bool.eq_iff_iff]; simp [hasT]
 rw [hd]
 by_cases hk1 : k = 1
 ·
  have HK := Lib.hid hk1
  clear hd
  rw [show decide (k = 1) = true by simp [hk1]]
  clear hk1
  go_wp2_with fail
  go_ret
  exact ⟨ret_int (by first | rfl | rw [if_pos HK.out]), HB.out⟩
 ·
  have HK := Lib.hid hk1
  clear hd
  rw [show decide (k = 1) = false by simp [hk1]]
  clear hk1
  go_wp2_with fail
  go_ret
  exact ⟨ret_int (by first | rfl | rw [if_neg HK.out]), HB.out⟩
def listP (S : Nat → Nat → Bool) (c : Nat → Nat → Nat) (s : SymD) (l : List SymD) (k j : Nat) : Nat := (List.range j).foldl (fun sum i => if hasT S s i && canT S l (k - i) then min (sum + ofC S c s i * listC S c l (k - i)) MC else sum) 0
theorem listP_all (S : Nat → Nat → Bool) (c : Nat → Nat → Nat) (s : SymD) (l : List SymD) (k : Nat) : listP S c s l k (k + 1) = listC S c (s :: l) k := rfl
theorem listP_succ (S : Nat → Nat → Bool) (c : Nat → Nat → Nat) (s : SymD) (l : List SymD) (k j : Nat) : listP S c s l k (j + 1) = if hasT S s j && canT S l (k - j) then min (listP S c s l k j + ofC S c s j * listC S c l (k - j)) MC else listP S c s l k j := by
 unfold listP
 rw [List.range_succ, List.foldl_append]
 rfl
theorem listP_le (S : Nat → Nat → Bool) (c : Nat → Nat → Nat) (s : SymD) (l : List SymD) (k : Nat) : ∀ j, listP S c s l k j ≤ MC
 | 0 => Nat.zero_le _
 | j + 1 => by
  rw [listP_succ]
  split
  ·
   exact Nat.min_le_right _ _
  ·
   exact listP_le S c s l k j
set_option linter.unusedSimpArgs false in
set_option maxRecDepth 1000000 in
set_option maxHeartbeats 4000000 in
theorem ctrList {L : Lay} {g : GramD} {n : Nat} (hn : n ≤ 1000) (hR : RulesN (nonsOf g) g.2.2.2) (x : Nat × Nat) (hx : x.1 < nonsOf g) (hm : ¬ Many g.2.2.2 x) (hof : ∀ y, Edge g.2.2.2 x y → OfSpec L g n y) :
    ∀ (l : List SymD) (w : World) (_ : Cok w L g n) (S' : Nat → Prop) (_ : ∀ b, S' b → b < L.l3 ∨ L.hi ≤ b) (A : Option Addr) (m c : Nat) (_ : Sl RSym w S' A m c l) (k : Nat) (_ : Suffix g.2.2.2 x l k) (_ : k ≤ n),
    Calls Tryd.prog 47 #[.pointer (some ⟨L.Bc, 0, none⟩), .slice A m c, .int .i64 k] w fun e w' => e = .returned (.int .i64 (listC (lenD g.2.2.2) (cN g.2.2.2) l k : Nat)) ∧ Cok w' L g n ∧ Aside L.l3 L.hi w w'
 | [], w, h, S', hS', A, m, c, hl, k, hsx, hk => by
  have hm' := hl.len
  simp only [List.length_nil] at hm'
  subst hm'
  have HC := Lib.hid h
  clear hsx h hl hof
  have hd : listC (lenD g.2.2.2) (cN g.2.2.2) [] k = if k = 0 then 1 else 0 := rfl
  have HD := Lib.hid hd
  clear hd
  by_cases hk0 : k = 0
  ·
   have hz : ((k : Int) == 0) = true := by simp; omega
   have HK := Lib.hid hk0
   clear hk0
   go_enter Tryd.func47, Tryd.ntmps47
   go_wp2_with fail
   go_ret
   exact ⟨ret_int (by rw [HD.out, if_pos HK.out]; rfl), HC.out, Aside.refl _ _ _⟩
  ·
   have hz : ((k : Int) == 0) = false := by simp; omega
   have HK := Lib.hid hk0
   clear hk0
   go_enter Tryd.func47, Tryd.ntmps47
   go_wp2_with fail
   go_ret
   exact ⟨ret_int (by rw [HD.out, if_neg HK.out]; rfl), HC.out, Aside.refl _ _ _⟩
 | s :: l, w, h, S', hS', A, m, c, hl, k, hsx, hk => by
  have hm' := hl.len
  rw [List.length_cons] at hm'
  have ho := hsx.ok hR
  obtain ⟨b, off, s', rfl, hSb, hbl, hc1, hc2, hs0⟩ := sym_at hl (k := 0) (by omega)
  obtain rfl : s = s' := by simpa using hs0
  rw [Nat.zero_mul, Nat.add_zero] at hc1 hc2
  obtain ⟨A', hcut, hl'⟩ := hl.cutl tSyms rfl 1 (by omega)
  rw [List.drop_succ_cons, List.drop_zero] at hl'
  simp only [Int.cast_ofNat_Int] at hcut
  have hme : ((m : Int) == 0) = false := by simp; omega
  have hm1 : 0 < m := by omega
  have hcells : ∀ u, Aside L.l3 L.hi w u → u.cell? ⟨b, off, none⟩ = some (.bool s.1) ∧ u.cell? ⟨b, off + 1, none⟩ = some (.int .i64 s.2) := fun u hu =>
   ⟨(hu.cell hbl (hS' _ hSb)).trans hc1, (hu.cell hbl (hS' _ hSb)).trans hc2⟩
  have HCE := Lib.hid hcells
  have HC := Lib.hid h
  have HS' := Lib.hid hS'
  have HL := Lib.hid hl'
  have HO1 := Lib.hid ho.head
  have HO2 := Lib.hid ho.tail
  have HSX := Lib.hid hsx
  have HOF := Lib.hid hof
  have HM := Lib.hid hm
  have HX := Lib.hid hx
  have HRN := Lib.hid hR
  have ih := ctrList (L := L) hn hR x hx hm hof l
  have HIH := Lib.hid ih
  clear h hl hl' ho hs0 hc1 hc2 ih hm' hcells hsx hof hm hx hR hS' hSb hbl
  go_enter Tryd.func47, Tryd.ntmps47
  go_wp2_with fail
  go_loopg [7, 16] (k + 1) (fun gk t q wr => ∃ j : Nat, j ≤ k + 1 ∧ gk = k + 1 - j ∧ q = .int .i64 j ∧ t = .int .i64 ((listP (lenD g.2.2.2) (cN g.2.2.2) s l k j : Nat) : Int) ∧ Cok wr L g n ∧ Aside L.l3 L.hi w wr)
  case atStart => exact ⟨0, Nat.zero_le _, rfl, rfl, rfl, HC.out, Aside.refl _ _ _⟩
  case round =>
   obtain ⟨j, hj, hgj, rfl, rfl, hcok, hb⟩ := hrel
   have HGJ := Lib.hid hgj
   have HC1 := Lib.hid hcok
   have HB1 := Lib.hid hb
   obtain ⟨hc1, hc2⟩ := HCE.out _ hb
   have hsl := listP_le (lenD g.2.2.2) (cN g.2.2.2) s l k j
   have hsuc := listP_succ (lenD g.2.2.2) (cN g.2.2.2) s l k j
   have HSUC := Lib.hid hsuc
   clear hgj hb hsuc
   obtain ⟨K1, hctr, _⟩ := hcok
   have HT1 := Lib.hid hctr
   clear hctr
   by_cases hjl : j < k + 1
   ·
    go_wp2_with fail
    refine (ctrHas _ HT1.out s HO1.out j (by omega)).mono ?_
    rintro e w1 ⟨rfl, hb1⟩
    have HC2 := Lib.hid (HC1.out.below hb1)
    have HT2 := Lib.hid (HT1.out.below hb1)
    have HB2 := Lib.hid (HB1.out.trans (.of hb1))
    clear hb1
    cases hh : hasT (lenD g.2.2.2) s j with
    | false =>
     have HH := Lib.hid hh
     clear hh
     go_wp2_with fail
     go_roundg (k + 1 - (j + 1))
     case measure => rw [HGJ.out]; omega
     case rel => exact ⟨j + 1, by omega, rfl, by go_num, by rw [HSUC.out, HH.out]; rfl, HC2.out, HB2.out⟩
    | true =>
     have HH := Lib.hid hh
     clear hh
     have hki : ((k : Int) - (j : Int)) = ((k - j : Nat) : Int) := by omega
     have HKI := Lib.hid hki
     clear hki
     go_wp2_with fail
     rw [HKI.out]
     refine (ctrCan hn l _ HT2.out _ _ _ _ (HL.out.keep (.aside HB2.out HS'.out)) HO2.out (k - j) (by omega)).mono ?_
     rintro e w2 ⟨rfl, hb2⟩
     have HC3 := Lib.hid (HC2.out.below hb2)
     have HB3 := Lib.hid (HB2.out.trans (.of hb2))
     clear hb2
     cases hh : canT (lenD g.2.2.2) l (k - j) with
     | false =>
      have HH2 := Lib.hid hh
      clear hh
      go_wp2_with fail
      go_roundg (k + 1 - (j + 1))
      case measure => rw [HGJ.out]; omega
      case rel => exact ⟨j + 1, by omega, rfl, by go_num, by rw [HSUC.out, HH.out, HH2.out]; rfl, HC3.out, HB3.out⟩
     | true =>
      have HH2 := Lib.hid hh
      clear hh hc1 hc2
      have hd := (hasD_iff HO1.out).1 HH.out
      have hdl := (canD_iff HO2.out HRN.out).1 HH2.out
      have hjk : j ≤ k := by omega
      have hnx := HSX.out.next hjk hd
      have HNX := Lib.hid hnx
      have hofs : ∀ u : World, Cok u L g n → Calls Tryd.prog 24 #[.pointer (some ⟨L.Bc, 0, none⟩), .agg #[.bool s.1, .int .i64 s.2], .int .i64 j] u fun e w' => e = .returned (.int .i64 (ofC (lenD g.2.2.2) (cN g.2.2.2) s j : Nat)) ∧ Cok w' L g n ∧ Aside L.l3 L.hi u w' := by
       intro u hu
       have h1 := HH.out
       have hsx := HSX.out
       have ho1 := HO1.out
       obtain ⟨t, y⟩ := s
       cases t with
       | true =>
        refine (ctrOfTerm u hu y j (by omega)).mono ?_
        rintro e w' ⟨rfl, hb⟩
        refine ⟨ret_int ?_, hu.below hb, .of hb⟩
        have : j = 1 := by simpa [hasT] using h1
        unfold ofC
        rw [if_pos h1, if_pos this]
        rfl
       | false =>
        have hy := (ho1 (false, y) (by simp) rfl)
        have he := hsx.edge' HRN.out hjk hd hdl
        obtain ⟨a, rfl⟩ : ∃ a : Nat, y = (a : Int) := ⟨y.toNat, by have := hy.1; dsimp only at this; omega⟩
        rw [Int.toNat_natCast] at he
        refine (HOF.out (a, j) he u hu).mono ?_
        rintro e w' ⟨rfl, h2, h3⟩
        refine ⟨ret_int ?_, h2, h3⟩
        have hnm : ¬ Many g.2.2.2 (a, j) := fun h => HM.out (Many.back he h)
        have hlen : lenD g.2.2.2 a j = true := by simpa [hasT] using h1
        unfold treesN ofC
        rw [if_pos hlen, if_neg hnm, if_pos h1]
        simp
      have HOFS := Lib.hid hofs
      have hol : ofC (lenD g.2.2.2) (cN g.2.2.2) s j ≤ MC := by
       unfold ofC
       rw [if_pos HH.out]
       split
       ·
        decide
       ·
        rename_i hsf
        have hy := HO1.out s (by simp) (by simpa using hsf)
        have he : Edge g.2.2.2 x (s.2.toNat, j) := by
         have hsx := HSX.out
         obtain ⟨t, y⟩ := s
         obtain rfl : t = false := by simpa using hsf
         exact hsx.edge' HRN.out hjk hd hdl
        exact cN_le HRN.out ((acc_few HRN.out HX.out HM.out).inv he)
      have hll := listC_le (lenD g.2.2.2) (cN g.2.2.2) l (k - j)
      have hpl : ofC (lenD g.2.2.2) (cN g.2.2.2) s j * listC (lenD g.2.2.2) (cN g.2.2.2) l (k - j) ≤ MC * MC := Nat.mul_le_mul hol hll
      have hsucT : listP (lenD g.2.2.2) (cN g.2.2.2) s l k (j + 1) = min (listP (lenD g.2.2.2) (cN g.2.2.2) s l k j + ofC (lenD g.2.2.2) (cN g.2.2.2) s j * listC (lenD g.2.2.2) (cN g.2.2.2) l (k - j)) MC := by
       rw [HSUC.out, HH.out, HH2.out]; rfl
      have HSUT := Lib.hid hsucT
      have HK0 := Lib.hid (HCE.out _ HB3.out.drew)
      clear hd hdl hnx hofs hsucT HSUC
      generalize hoe : ofC (lenD g.2.2.2) (cN g.2.2.2) s j = ov at *
      generalize hle : listC (lenD g.2.2.2) (cN g.2.2.2) l (k - j) = lv at *
      generalize hse : listP (lenD g.2.2.2) (cN g.2.2.2) s l k j = sv at *
      have HLE := Lib.hid hle
      clear hoe hle hse
      have hpv : ((ov : Int) * (lv : Int)) = ((ov * lv : Nat) : Int) := (Int.natCast_mul _ _).symm
      have HPV := Lib.hid hpv
      generalize ov * lv = pv at *
      have hpl' : pv ≤ 1000000000000000000 := hpl
      have hsl' : sv ≤ 1000000000 := hsl
      obtain ⟨nv, hnv⟩ : ∃ nv : Nat, nv = min (sv + pv) MC := ⟨_, rfl⟩
      have HMUL := Lib.hid (show IntKind.i64.wrap ((ov : Int) * (lv : Int)) = (pv : Int) by rw [hpv]; exact IntWalk.i64_in _ (by omega))
      have HADD := Lib.hid (show IntKind.i64.wrap ((sv : Int) + (pv : Int)) = ((sv + pv : Nat) : Int) by rw [IntWalk.i64_in _ (by omega)]; omega)
      have HKW := Lib.hid (show IntKind.i64.wrap ((k : Int) - (j : Int)) = ((k - j : Nat) : Int) by rw [IntWalk.i64_in _ (by omega)]; omega)
      have HNV := Lib.hid (show (nv : Int) = if ((sv + pv : Nat) : Int) < 1000000000 then ((sv + pv : Nat) : Int) else 1000000000 by
       rw [hnv]
       have : MC = 1000000000 := rfl
       split <;> omega)
      have hsn : listP (lenD g.2.2.2) (cN g.2.2.2) s l k (j + 1) = nv := by rw [HSUT.out, hnv]
      have HSN := Lib.hid hsn
      clear hpv hpl hnv hsn HSUT HPV hol hll
      go_wp2_with fail
      refine wp_region_late (late := []) (S1 := fun u => u.cell? ⟨b, off, none⟩ = some (.bool s.1) ∧ u.cell? ⟨b, off + 1, none⟩ = some (.int .i64 s.2)) (S := fun _ => True) (by kernel_rfl) ?_
      refine wpAnyL_pure (i := 0) rfl (by kernel_rfl) (fun _ _ _ h => h) (Or.inl ⟨by rfl, (fun u hu => by obtain ⟨k0, k1⟩ := hu; go_simp; try rfl)⟩) HK0.out (fun _ => trivial) ?_
      simp only [Act.put, List.setIfInBounds_toArray, List.set_cons_zero, List.set_cons_succ, List.getElem_toArray, List.getElem_cons_zero, List.getElem_cons_succ]
      refine wpAnyL_pure (i := 1) rfl (by kernel_rfl) (fun _ _ _ h => h) (Or.inl ⟨by rfl, (fun u hu => by obtain ⟨k0, k1⟩ := hu; go_simp; try rfl)⟩) HK0.out (fun _ => trivial) ?_
      simp only [Act.put, List.setIfInBounds_toArray, List.set_cons_zero, List.set_cons_succ, List.getElem_toArray, List.getElem_cons_zero, List.getElem_cons_succ]
      refine wpAnyL_pure (i := 2) rfl (by kernel_rfl) (fun _ _ _ h => h) (Or.inl ⟨by rfl, (fun u hu => by obtain ⟨k0, k1⟩ := hu; go_simp; try rfl)⟩) HK0.out (fun _ => trivial) ?_
      simp only [Act.put, List.setIfInBounds_toArray, List.set_cons_zero, List.set_cons_succ, List.getElem_toArray, List.getElem_cons_zero, List.getElem_cons_succ]
      refine wpAnyL_pure (i := 3) rfl (by kernel_rfl) (fun _ _ _ h => h) (Or.inl ⟨by rfl, (fun u hu => by obtain ⟨k0, k1⟩ := hu; go_simp; try rfl)⟩) HK0.out (fun _ => trivial) ?_
      simp only [Act.put, List.setIfInBounds_toArray, List.set_cons_zero, List.set_cons_succ, List.getElem_toArray, List.getElem_cons_zero, List.getElem_cons_succ]
      refine wpAnyL_pure (i := 4) rfl (by kernel_rfl) (fun _ _ _ h => h) (Or.inl ⟨by rfl, (fun u hu => by obtain ⟨k0, k1⟩ := hu; go_simp; try rfl)⟩) HK0.out (fun _ => trivial) ?_
      simp only [Act.put, List.setIfInBounds_toArray, List.set_cons_zero, List.set_cons_succ, List.getElem_toArray, List.getElem_cons_zero, List.getElem_cons_succ]
      refine wpAnyL_pure (i := 5) rfl (by kernel_rfl) (fun _ _ _ h => h) (Or.inl ⟨by rfl, (fun u hu => by obtain ⟨k0, k1⟩ := hu; go_simp; try rfl)⟩) HK0.out (fun _ => trivial) ?_
      simp only [Act.put, List.setIfInBounds_toArray, List.set_cons_zero, List.set_cons_succ, List.getElem_toArray, List.getElem_cons_zero, List.getElem_cons_succ]
      refine wpAnyL_pure (i := 7) rfl (by kernel_rfl) (fun _ _ _ h => h) (Or.inl ⟨by rfl, (fun u hu => by obtain ⟨k0, k1⟩ := hu; go_simp; try rfl)⟩) HK0.out (fun _ => trivial) ?_
      simp only [Act.put, List.setIfInBounds_toArray, List.set_cons_zero, List.set_cons_succ, List.getElem_toArray, List.getElem_cons_zero, List.getElem_cons_succ]
      refine wpAnyL_pure (i := 8) rfl (by kernel_rfl) (fun _ _ _ h => h) (Or.inl ⟨by rfl, (fun u hu => by obtain ⟨k0, k1⟩ := hu; go_simp; try rfl)⟩) HK0.out (fun _ => trivial) ?_
      simp only [Act.put, List.setIfInBounds_toArray, List.set_cons_zero, List.set_cons_succ, List.getElem_toArray, List.getElem_cons_zero, List.getElem_cons_succ]
      refine wpAnyL_pure (i := 9) rfl (by kernel_rfl) (fun _ _ _ h => h) (Or.inl ⟨by rfl, (fun u hu => by obtain ⟨k0, k1⟩ := hu; go_simp; try rfl)⟩) HK0.out (fun _ => trivial) ?_
      simp only [Act.put, List.setIfInBounds_toArray, List.set_cons_zero, List.set_cons_succ, List.getElem_toArray, List.getElem_cons_zero, List.getElem_cons_succ]
      refine wpAnyL_pure (i := 10) rfl (by kernel_rfl) (fun _ _ _ h => h) (Or.inl ⟨by rfl, (fun u hu => by obtain ⟨k0, k1⟩ := hu; go_simp; try rfl)⟩) HK0.out (fun _ => trivial) ?_
      simp only [Act.put, List.setIfInBounds_toArray, List.set_cons_zero, List.set_cons_succ, List.getElem_toArray, List.getElem_cons_zero, List.getElem_cons_succ]
      refine wpAnyL_pure (i := 11) rfl (by kernel_rfl) (fun _ _ _ h => h) (Or.inl ⟨by rfl, (fun u hu => by obtain ⟨k0, k1⟩ := hu; go_simp; try rfl)⟩) HK0.out (fun _ => trivial) ?_
      simp only [Act.put, List.setIfInBounds_toArray, List.set_cons_zero, List.set_cons_succ, List.getElem_toArray, List.getElem_cons_zero, List.getElem_cons_succ]
      refine wpAnyL_pure (i := 12) (v := .int .i64 ((k - j : Nat) : Int)) rfl (by kernel_rfl) (fun _ _ _ h => h) (Or.inl ⟨by rfl, (fun u hu => by have := HKW.out; go_simp; try rfl)⟩) HK0.out (fun _ => trivial) ?_
      simp only [Act.put, List.setIfInBounds_toArray, List.set_cons_zero, List.set_cons_succ, List.getElem_toArray, List.getElem_cons_zero, List.getElem_cons_succ]
      refine wpAnyL_ready (rs := [6]) (by kernel_rfl) (by simp) ?_
      refine AllL.cons rfl (fun K hK => ?_) ?_
      ·
       go_simp
       refine (HOFS.out _ HC3.out.drew).mono ?_
       rintro e w6 ⟨rfl, hc6, hb6⟩
       have HC6 := Lib.hid hc6
       have HB6 := Lib.hid (HB3.out.drew.trans hb6)
       have HK1 := Lib.hid (HCE.out _ HB6.out)
       clear hc6 hb6
       refine hK.out _ _ HK1.out (fun _ => trivial) ?_
       clear hK K
       refine wpAnyL_ready (rs := [13]) (by kernel_rfl) (by simp) ?_
       refine AllL.cons rfl (fun K hK => ?_) ?_
       ·
        go_simp
        refine (HIH.out _ HC6.out _ HS'.out _ _ _ (HL.out.keep (.aside HB6.out HS'.out)) (k - j) HNX.out (by omega)).mono ?_
        rintro e w7 ⟨rfl, hc7, hb7⟩
        rw [HLE.out]
        have HC7 := Lib.hid hc7
        have HB7 := Lib.hid (HB6.out.trans hb7)
        have HK2 := Lib.hid (HCE.out _ HB7.out)
        clear hc7 hb7
        refine hK.out _ _ HK2.out (fun _ => trivial) ?_
        clear hK K
        refine wpAnyL_pure (i := 14) (v := .int .i64 (pv : Int)) rfl (by kernel_rfl) (fun _ _ _ h => h) (Or.inl ⟨by rfl, (fun u hu => by have := HMUL.out; go_simp; try rfl)⟩) HK2.out (fun _ => trivial) ?_
        simp only [Act.put, List.setIfInBounds_toArray, List.set_cons_zero, List.set_cons_succ, List.getElem_toArray, List.getElem_cons_zero, List.getElem_cons_succ]
        refine wpAnyL_pure (i := 15) (v := .int .i64 ((sv + pv : Nat) : Int)) rfl (by kernel_rfl) (fun _ _ _ h => h) (Or.inl ⟨by rfl, (fun u hu => by have := HADD.out; go_simp; try rfl)⟩) HK2.out (fun _ => trivial) ?_
        simp only [Act.put, List.setIfInBounds_toArray, List.set_cons_zero, List.set_cons_succ, List.getElem_toArray, List.getElem_cons_zero, List.getElem_cons_succ]
        refine wpAnyL_pure (i := 16) (v := .int .i64 (nv : Int)) rfl (by kernel_rfl) (fun _ _ _ h => h) (Or.inl ⟨by rfl, (fun u hu => by clear hu; have hN := HNV.out; split at hN <;> rename_i hc <;> rw [hN] <;> clear hN <;> go_simp <;> omega)⟩) HK2.out (fun _ => trivial) ?_
        simp only [Act.put, List.setIfInBounds_toArray, List.set_cons_zero, List.set_cons_succ, List.getElem_toArray, List.getElem_cons_zero, List.getElem_cons_succ]
        refine wpAnyL_pure (i := 17) rfl (by kernel_rfl) (fun _ _ _ h => h) (Or.inl ⟨by rfl, (fun u hu => by obtain ⟨k0, k1⟩ := hu; go_simp; try rfl)⟩) HK2.out (fun _ => trivial) ?_
        simp only [Act.put, List.setIfInBounds_toArray, List.set_cons_zero, List.set_cons_succ, List.getElem_toArray, List.getElem_cons_zero, List.getElem_cons_succ]
        refine wpAnyL_done (by kernel_rfl) ?_ _
        go_wp2_with fail
        go_roundg (k + 1 - (j + 1))
        case measure => rw [HGJ.out]; omega
        case rel => exact ⟨j + 1, by omega, rfl, by go_num, by rw [HSN.out], HC7.out, HB7.out⟩
       exact AllL.nil
      exact AllL.nil
   ·
    obtain rfl : j = k + 1 := by omega
    go_wp2_with fail
    go_ret
    exact ⟨ret_int (by rw [listP_all]), HC1.out, HB1.out⟩
end Go.Proofs.YtimklgbljjamkaaDoor
