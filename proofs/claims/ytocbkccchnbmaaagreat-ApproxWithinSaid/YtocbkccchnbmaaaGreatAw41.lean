/- Canon -/
import Derived.Test.YtocbkccchnbmaaaGreatAw07
import Derived.Test.YtocbkccchnbmaaaGreatAw34
namespace Go.Proofs.YtocbkccchnbmaaaGreat
open Go.RowKit
def CanonR (d : DfaD) (base : Nat) (e : Ending) (w' : World) : Prop := ∃ A nA cA N n cN, e = .returned (.agg #[.int .i64 0, .slice A nA cA, .slice N n cN]) ∧ Sl Rep.int w' (fun b => base ≤ b) A nA cA (canonD d).2.1 ∧ Sl RI w' (fun b => base ≤ b) N n cN (canonD d).2.2
theorem mapInt : Tryz.prog.underlying 105 = some (.map 3 3) := by kernel_rfl
theorem wpList_amap_insert {P : Program} {k : TypeId} {κ : Type} [DecidableEq κ] {K : KeyRep P k κ} (w : World) {ops : Array Oper} {rest : List Oper} {o : Oper} {a : Act} {Q : Exit → Act → World → Prop} (hg : o.guard = none) (m x v : Operand) (t : TypeId) (hop : o.op = Op.insert t m x v) (e : TypeId) (ht : P.underlying t = some (.map k e))
    (b : Nat) (l : List (κ × Value)) (hm : a.eval m = .map (some b)) (hown : AMap K w b l) (q : κ) (hx : a.eval x = K.val q) (hq : K.ok q) (u : Value) (hv : a.eval v = u) (hl : l.length < maxLen)
    (hK : ∀ w', AMap K w' b (putL l q u) → w.grownBy w' (some b) → wpList P ops Q rest (a.put o.dst undef) w') : wpList P ops Q (o :: rest) a w := by
 refine wpList_plain hg fun K' hK' => ?_
 obtain ⟨w', hrun, r1, r2⟩ := hown.put ht hq u hl
 unfold Oper.wp
 simp [execOp, hop, hm, hx, hv, hrun, Result.andThen]
 exact hK' _ _ (hK w' r1 r2)
set_option linter.unusedSimpArgs false in
set_option maxRecDepth 1000000 in
set_option maxHeartbeats 8000000 in
theorem dfaCanon (w : World) (S : Nat → Prop) (A : Option Addr) (nA cA : Nat) (N : Option Addr) (n cN : Nat) (d : DfaD) (hA : Sl Rep.int w S A nA cA d.2.1) (hN : Sl RI w S N n cN d.2.2) (hv : Valid d) (hx : ∀ x ∈ d.2.1, x < 2147483648) :
    Calls Tryz.prog 21 #[.agg #[.int .i64 d.1, .slice A nA cA, .slice N n cN]] w fun e w' => CanonR d w.heap.size e w' ∧ Below w.heap.size w w' := by
 have e1 := hA.len
 have hnn := hN.len
 rw [hv.na, ← hnn] at e1
 subst e1
 have hn1 : 1 ≤ nA := by have := hv.n1; omega
 have hn2 : nA ≤ 200 := by have := hv.n2; omega
 obtain ⟨C, hC⟩ : ∃ C, C = cols d := ⟨_, rfl⟩
 have hC1 : 1 ≤ C := by rw [hC]; exact hv.c1
 have hC2 : C ≤ 16 := by rw [hC]; exact hv.c2
 obtain ⟨s0, hs0⟩ : ∃ s0 : Nat, d.1 = (s0 : Int) := ⟨d.1.toNat, by have := hv.st; omega⟩
 have hs0n : s0 < nA := by have := hv.st; omega
 obtain ⟨w1, hw1⟩ : ∃ w1 : World, w1 = (w.alloc (.cells #[.int .i64 (s0 : Int), .slice A nA cA, .slice N nA cN] 29)).alloc (.cells #[.int .i64 0, .slice none 0 0, .slice none 0 0] 29) := ⟨_, rfl⟩
 have hb1 : Below w.heap.size w w1 := by rw [hw1]; exact ((Below.refl _ _).alloc (Nat.le_refl _) _).alloc (by simp) _
 have hz1 : w1.heap.size = w.heap.size + 2 := by rw [hw1]; simp
 have hg1 : w1.heap[w.heap.size]? = some (.cells #[.int .i64 (s0 : Int), .slice A nA cA, .slice N nA cN] 29 (0, 0)) := by rw [hw1, Below.heap_alloc _ _ _ (by simp)]; exact heap_alloc_new w _
 have hg2 : w1.heap[w.heap.size + 1]? = some (.cells #[.int .i64 0, .slice none 0 0, .slice none 0 0] 29 (0, 0)) := by rw [hw1]; exact heap_new _ _ _ (by simp)
 have HBOX := Lib.hid (show ∀ u : World, Below w1.heap.size w1 u → u.cell? ⟨w.heap.size, 0, none⟩ = some (.int .i64 (s0 : Int)) ∧ u.cell? ⟨w.heap.size, 1, none⟩ = some (.slice A nA cA) ∧ u.cell? ⟨w.heap.size, 2, none⟩ = some (.slice N nA cN) from fun u hu => by
  have e := (hu.block _ (by omega)).trans hg1
  simp [World.cell?, e])
 have HRES := Lib.hid (show ∀ u : World, Below w1.heap.size w1 u → u.heap[w.heap.size + 1]? = some (.cells #[.int .i64 0, .slice none 0 0, .slice none 0 0] 29 (0, 0)) from fun u hu => (hu.block _ (by omega)).trans hg2)
 have HAW := Lib.hid hA.fit
 have HNW := Lib.hid hN.fit
 have hk0 : w1.cell? ⟨w.heap.size, 0, none⟩ = some (.int .i64 (s0 : Int)) ∧ w1.cell? ⟨w.heap.size, 1, none⟩ = some (.slice A nA cA) ∧ w1.cell? ⟨w.heap.size, 2, none⟩ = some (.slice N nA cN) := HBOX.out _ (Below.refl _ _)
 have hparts := dfaParts w1 S A nA cA N nA cN d (hA.below hb1) (hN.below hb1) hv hx
 rw [hs0] at hparts
 have HP := Lib.hid hparts
 have HV := Lib.hid hv
 have HX := Lib.hid hx
 have HNN := Lib.hid hnn
 have HC := Lib.hid hC
 have HS0 := Lib.hid hs0
 have HW1 := Lib.hid hw1
 have HB1 := Lib.hid hb1
 have HZ1 := Lib.hid hz1
 rw [hs0]
 clear hA hN hv hx hnn hC hs0 hw1 hb1 hg1 hg2 hk0 hparts hz1
 go_enter Tryz.func21, Tryz.ntmps21
 go_wp2_with fail
 rw [← HW1.out]
 refine HP.out.mono ?_
 rintro e w2 ⟨BP, p, rfl, hBP, hip, hpo, hb2⟩
 have HIP := Lib.hid hip
 have HPO := Lib.hid hpo
 have HB2 := Lib.hid hb2
 have hz2 : w.heap.size + 2 ≤ w2.heap.size := by have := hb2.size; have := HZ1.out; omega
 have HKEEP := Lib.hid (show ∀ u : World, Below w1.heap.size w1 u → Below w.heap.size w u from fun u hu => HB1.out.trans (hu.mono (by have := HZ1.out; omega)))
 obtain ⟨bN, oN, A0, m0, cR0, row0, hNe, hSb, _, hcR00, hr0, hsr0⟩ := row_at HNW.out (k := 0) (by omega)
 subst hNe
 have hm0 : m0 = C := by rw [hsr0.len, HC.out]; exact (HV.out.rows row0 (List.mem_of_getElem? hr0)).1
 subst hm0
 have hcR : w2.cell? ⟨bN, oN, none⟩ = some (.slice A0 m0 cR0) := by
  have := Kept.belowB (S := fun b => S b ∧ b < w.heap.size) (HKEEP.out _ hb2) (fun b hb => hb.2) _ _ hSb hcR00
  simpa using this
 obtain ⟨hk0, hk1, hk2⟩ := HBOX.out w2 hb2
 have hpl : p.length = nA := by rw [hpo.len, HNN.out]
 have HPL := Lib.hid hpl
 obtain ⟨ps, hps, hcp, _⟩ := hip.at_ (i := s0) (by omega)
 by_cases hl : LiveP d d.1
 ·
  obtain ⟨m1, hm1n, hm1, hm1p⟩ := numOf_live hpo (by have := HV.out.st; omega) hl
  rw [HS0.out, Int.toNat_natCast, hps] at hm1
  injection hm1 with hm1
  subst hm1
  have HL := Lib.hid hl
  have HM1 := Lib.hid hm1p
  clear hip hpo hb2 hcR00 hr0 hsr0 hl hps hm1p hpl
  have hmm := @run_makeMap Tryz.prog
  obtain ⟨z2, hz2e⟩ : ∃ z2, z2 = w2.heap.size := ⟨_, rfl⟩
  have HM := Lib.hid ((AMap.made KI (w2.alloc (.cells #[.int .i64 0, .slice none 0 0, .slice none 0 0] 29))))
  have hl0 : w.heap.size < w2.heap.size := by omega
  have hl1 : BP < w2.heap.size := cell_lt hcp
  have hm1r : (m1 : Int) < 200 := by have := HNN.out; omega
  have hdm : decide ((m1 : Int) < 0) = false := by simp
  have hmk := fun W => tInts.make rfl m0 (by omega) (by omega) W
  simp only [made_intsA] at hmk
  go_wp2_with (refine wpList_amap_insert _ rfl _ _ _ 105 rfl 3 mapInt (z2 + 1) [] (by rw [hz2e]; rfl) (by rw [hz2e]; simpa using HM.out) (m1 : Int) rfl (by show -9223372036854775808 ≤ _ ∧ _; omega) (.int .i64 0) rfl (by simp [maxLen]) ?_
               intro w3 hm3 hg3
               have HM3 := Lib.hid hm3
               have HG3 := Lib.hid hg3
               have hz3 : z2 + 2 ≤ w3.heap.size := by have := hg3.size; simp at this; omega
               have HB3 := Lib.hid (show Below w1.heap.size w1 w3 from (HB2.out.trans ((((Below.refl _ _).alloc (Nat.le_refl _) _).alloc (by simp) _).mono HB2.out.size)).grown hg3 (by have := HB2.out.size; simp; omega) (fun g e => by injection e with e; have := HB2.out.size; omega))
               obtain ⟨hk03, hk13, hk23⟩ := HBOX.out w3 HB3.out
               have HOUT := Lib.hid (show w3.heap[z2]? = some (.cells #[.int .i64 0, .slice none 0 0, .slice none 0 0] 29 (0, 0)) from by
                rw [hg3.block z2 (by simp; omega) (by simp), hz2e, Below.heap_alloc _ _ _ (by simp)]
                exact heap_alloc_new _ _)
               clear hm3 hg3)
  clear hmm HM hk0 hk1 hk2 hcR hcp hk03 hk13 hk23 hdm
  rw [← hz2e]
  have HCN := Lib.hid (show CnOut (w3.alloc (.cells #[.int .i64 (s0 : Int)] 3)) (z2 + 2) z2 (z2 + 1) [] [] (.slice none 0 0) (.slice none 0 0) [] (.slice (some ⟨w3.heap.size, 0, none⟩) 1 1) [(s0 : Int)] (numL 0 (keysC p [(s0 : Int)])) by
   refine ⟨⟨?_, Own.nil _ _ _ _ _, Own.nil _ _ _ _ _, (fun i v h => by simp at h), by omega, by simp; omega, (fun g e => by cases e)⟩, .inl ?_, fun g e => ⟨(fun h => by cases h), (fun h => by cases h), (fun i v h => by simp at h)⟩, ?_, by omega⟩
   ·
    rw [Below.heap_alloc _ _ _ (by omega)]; exact HOUT.out
   ·
    exact World.ownsRow_lit (e := 3) (size := 1) (base := z2 + 2) w3 #[.int .i64 (s0 : Int)] 1 (by omega) (by simp [maxLen]) (by simp)
   ·
    have : keysC p [(s0 : Int)] = [(m1 : Int)] := by
     have := HM1.out
     rw [HS0.out] at this
     simp [keysC, this]
    rw [this]
    exact HM3.out.alloc _)
  have HBW := Lib.hid (show Below z2 w2 (w3.alloc (.cells #[.int .i64 (s0 : Int)] 3)) by
   rw [hz2e]
   exact (((((Below.refl _ _).alloc (Nat.le_refl _) _).alloc (by simp) _).grown HG3.out (by simp; omega) (fun g e => by injection e with e; omega))).alloc (by omega) _)
  have HIT := Lib.hid (show (cIter d 0).sts = [(s0 : Int)] ∧ (cIter d 0).rows = [] ∧ (cIter d 0).acc = [] from ⟨by show [d.1] = _; rw [HS0.out], rfl, rfl⟩)
  have HZ2 := Lib.hid hz2e
  have HINV := Lib.hid (cIter_inv HV.out HL.out)
  obtain ⟨BM, hBM⟩ : ∃ BM, BM = z2 + 1 := ⟨_, rfl⟩
  obtain ⟨base, hbase⟩ : ∃ base, base = z2 + 2 := ⟨_, rfl⟩
  rw [← hBM, ← hbase] at HCN
  rw [← hBM]
  have hB0 : w.heap.size + 2 ≤ z2 := by omega
  have HALLW := Lib.hid (show ∀ u : World, Below z2 w2 u → Below w1.heap.size w1 u from fun u hu => HB2.out.trans (hu.mono (by have := HB2.out.size; omega)))
  have HPW := Lib.hid (show ∀ u : World, Below z2 w2 u → InB u BP p from fun u hu => HIP.out.below (by rw [← hz2e]; exact hu))
  have hbz : z2 + 2 ≤ base := by omega
  have hBMz : z2 < BM ∧ BM < base := by omega
  clear hz2e hz3 hBM hbase
  go_loopg [7, 8, 9, 10, 11, 12, 13] nA (fun gk vS vi va vb vc vd ve wr => ∃ (i : Nat) (vA vN : Value) (xs : List Value), i ≤ (cIter d i).sts.length ∧ gk = nA - i ∧ vi = .int .i64 i ∧
   CnOut wr base z2 BM (cIter d i).acc (cIter d i).rows vA vN xs vS (cIter d i).sts (numL 0 (keysC p (cIter d i).sts)) ∧ Below z2 w2 wr)
  case atStart =>
   refine ⟨0, .slice none 0 0, .slice none 0 0, [], Nat.zero_le _, rfl, rfl, ?_, HBW.out⟩
   rw [HIT.out.1, HIT.out.2.1, HIT.out.2.2]
   exact HCN.out
  case round =>
   obtain ⟨i, vA, vN, xs, hi, hgk, rfl, hcn, hb⟩ := hrel
   obtain ⟨w4, rfl⟩ : ∃ w4 : World, w4 = wr := ⟨_, rfl⟩
   obtain ⟨sts, hsts⟩ : ∃ sts, sts = (cIter d i).sts := ⟨_, rfl⟩
   obtain ⟨rows, hrows⟩ : ∃ rows, rows = (cIter d i).rows := ⟨_, rfl⟩
   obtain ⟨acc, hacc⟩ : ∃ acc, acc = (cIter d i).acc := ⟨_, rfl⟩
   rw [← hsts] at hi
   rw [← hsts, ← hrows, ← hacc] at hcn
   have hgood := (HINV.out i).good
   rw [← hsts] at hgood
   have hslen := hgood.len
   have hrl := (HINV.out i).lr
   have hal := (HINV.out i).la
   rw [← hsts, ← hrows] at hrl
   rw [← hsts, ← hacc] at hal
   have HGK := Lib.hid hgk
   have HCN4 := Lib.hid hcn
   have HB4 := Lib.hid hb
   have HGD := Lib.hid hgood
   have HST := Lib.hid hsts
   have HRO := Lib.hid hrows
   have HAC := Lib.hid hacc
   have hnl : sts.length ≤ nA := by rw [HNN.out]; exact hslen
   have HRL := Lib.hid (show rows.length = i by omega)
   have HAL := Lib.hid (show acc.length = i by omega)
   obtain ⟨A6, c6, rfl, hc6, _⟩ := hcn.st.form
   clear hsts hrows hacc
   by_cases hlt : i < sts.length
   ·
    obtain ⟨g6, o6, s, hA6, _, hs, hcs⟩ := hcn.st.rd.int_at hlt
    subst hA6
    obtain ⟨hsn, hsl⟩ := hgood.ok s (List.mem_of_getElem? hs)
    have hs0' := hsl.nonneg
    obtain ⟨k, rfl⟩ : ∃ k : Nat, s = (k : Int) := ⟨s.toNat, by omega⟩
    have hkn : k < nA := by rw [HNN.out]; omega
    obtain ⟨bN', oN', AR, m, cR, row, hNe, hSk, _, hcRk, hr, hsr⟩ := row_at HNW.out hkn
    injection hNe with hNe
    injection hNe with e1 e2
    subst e1
    subst e2
    have hm : m = m0 := by rw [hsr.len, HC.out]; exact (HV.out.rows row (List.mem_of_getElem? hr)).1
    subst hm
    obtain ⟨bA, oA, hAe, hca, hnaa⟩ := acc_at HAW.out HV.out (s := (k : Int)) (by omega)
    subst hAe
    rw [Int.toNat_natCast] at hca
    have hbN := cell_lt hcRk
    have hbA := cell_lt hca
    simp only at hbN hbA
    have HCELL := Lib.hid (show ∀ u : World, Below z2 w2 u → u.cell? ⟨w.heap.size, 1, none⟩ = some (.slice (some ⟨bA, oA, none⟩) nA cA) ∧ u.cell? ⟨w.heap.size, 2, none⟩ = some (.slice (some ⟨bN, oN, none⟩) nA cN) ∧ u.cell? ⟨bN, oN + k, none⟩ = some (.slice AR m cR) ∧ u.cell? ⟨bA, oA + k, none⟩ = some (.int .i64 (dat d (k : Int))) from fun u hu => by
     have h1 := HALLW.out u hu
     have h2 := HKEEP.out u h1
     obtain ⟨_, k1, k2⟩ := HBOX.out u h1
     exact ⟨k1, k2, (h2.cell hbN).trans hcRk, (h2.cell hbA).trans hca⟩)
    have HRD := Lib.hid (show ∀ u : World, Below z2 w2 u → Sl Rep.int u (fun b => S b ∧ b < w.heap.size) AR m cR row from fun u hu => hsr.keep (Kept.belowB (HKEEP.out u (HALLW.out u hu)) (fun b hb => hb.2)))
    have HROW := Lib.hid (HV.out.rows row (List.mem_of_getElem? hr)).2
    have HRLEN := Lib.hid (show row.length = m from hsr.len.symm)
    have HSROW := Lib.hid (show (d.2.2[k]?).getD [] = row by rw [hr]; rfl)
    obtain ⟨x, hxx⟩ : ∃ x, x = dat d (k : Int) := ⟨_, rfl⟩
    have HXX := Lib.hid hxx
    have HSI := Lib.hid hs
    obtain ⟨BR, hBR⟩ : ∃ BR, BR = w4.heap.size := ⟨_, rfl⟩
    have hle4 := hcn.df.le
    have HIN := Lib.hid (hcn.row m)
    have HB5 := Lib.hid (show Below z2 w2 (w4.alloc (.cells (Array.replicate m (Value.int .i64 0)) 3)) from hb.alloc (by omega) _)
    have hg6 : g6 < w4.heap.size := cell_lt hcs
    have HCS := Lib.hid (show (w4.alloc (.cells (Array.replicate m (Value.int .i64 0)) 3)).cell? ⟨g6, o6 + i, none⟩ = some (.int .i64 (k : Int)) from (World.cell?_alloc_lt _ _ _ hg6).trans hcs)
    obtain ⟨w5, hw5⟩ : ∃ w5 : World, w5 = w4.alloc (.cells (Array.replicate m (Value.int .i64 0)) 3) := ⟨_, rfl⟩
    have hsI : (i : Int) < (sts.length : Int) := by omega
    clear hnaa hgk hcn hb hgood hrl hal hs hcs hcRk hr hsr hca hsl hsn hs0' hxx
    go_wp2_with fail
    rw [← hw5]
    rw [← hw5, ← hBR] at HIN
    rw [← hw5] at HB5 HCS
    rw [← hBR]
    have HBRE := Lib.hid hBR
    clear hw5 hmk hBR
    have HK0 := Lib.hid (show w5.drew.cell? ⟨w.heap.size, 2, none⟩ = some (.slice (some ⟨bN, oN, none⟩) nA cN) ∧ w5.drew.cell? ⟨bN, oN + k, none⟩ = some (.slice AR m cR) ∧ w5.drew.cell? ⟨g6, o6 + i, none⟩ = some (.int .i64 (k : Int)) from ⟨(HCELL.out _ HB5.out.drew).2.1, (HCELL.out _ HB5.out.drew).2.2.1, HCS.out⟩)
    refine wp_region_late (late := []) (S1 := fun u => u.cell? ⟨w.heap.size, 2, none⟩ = some (.slice (some ⟨bN, oN, none⟩) nA cN) ∧ u.cell? ⟨bN, oN + k, none⟩ = some (.slice AR m cR) ∧ u.cell? ⟨g6, o6 + i, none⟩ = some (.int .i64 (k : Int))) (S := fun _ => True) (by kernel_rfl) ?_
    refine wpAnyL_pure (i := 0) rfl (by kernel_rfl) (fun _ _ _ h => h) (Or.inl ⟨by rfl, (fun u hu => by obtain ⟨k0, k1, k2⟩ := hu; go_simp; try rfl)⟩) HK0.out (fun _ => trivial) ?_
    simp only [Act.put, List.setIfInBounds_toArray, List.set_cons_zero, List.set_cons_succ, List.getElem_toArray, List.getElem_cons_zero, List.getElem_cons_succ]
    refine wpAnyL_pure (i := 1) rfl (by kernel_rfl) (fun _ _ _ h => h) (Or.inl ⟨by rfl, (fun u hu => by obtain ⟨k0, k1, k2⟩ := hu; go_simp; try rfl)⟩) HK0.out (fun _ => trivial) ?_
    simp only [Act.put, List.setIfInBounds_toArray, List.set_cons_zero, List.set_cons_succ, List.getElem_toArray, List.getElem_cons_zero, List.getElem_cons_succ]
    refine wpAnyL_pure (i := 2) rfl (by kernel_rfl) (fun _ _ _ h => h) (Or.inl ⟨by rfl, (fun u hu => by obtain ⟨k0, k1, k2⟩ := hu; go_simp; try rfl)⟩) HK0.out (fun _ => trivial) ?_
    simp only [Act.put, List.setIfInBounds_toArray, List.set_cons_zero, List.set_cons_succ, List.getElem_toArray, List.getElem_cons_zero, List.getElem_cons_succ]
    refine wpAnyL_pure (i := 3) rfl (by kernel_rfl) (fun _ _ _ h => h) (Or.inl ⟨by rfl, (fun u hu => by obtain ⟨k0, k1, k2⟩ := hu; go_simp; try rfl)⟩) HK0.out (fun _ => trivial) ?_
    simp only [Act.put, List.setIfInBounds_toArray, List.set_cons_zero, List.set_cons_succ, List.getElem_toArray, List.getElem_cons_zero, List.getElem_cons_succ]
    refine wpAnyL_pure (i := 4) rfl (by kernel_rfl) (fun _ _ _ h => h) (Or.inl ⟨by rfl, (fun u hu => by obtain ⟨k0, k1, k2⟩ := hu; go_simp; try rfl)⟩) HK0.out (fun _ => trivial) ?_
    simp only [Act.put, List.setIfInBounds_toArray, List.set_cons_zero, List.set_cons_succ, List.getElem_toArray, List.getElem_cons_zero, List.getElem_cons_succ]
    refine wpAnyL_pure (i := 5) rfl (by kernel_rfl) (fun _ _ _ h => h) (Or.inl ⟨by rfl, (fun u hu => by obtain ⟨k0, k1, k2⟩ := hu; go_simp; try rfl)⟩) HK0.out (fun _ => trivial) ?_
    simp only [Act.put, List.setIfInBounds_toArray, List.set_cons_zero, List.set_cons_succ, List.getElem_toArray, List.getElem_cons_zero, List.getElem_cons_succ]
    refine wpAnyL_pure (i := 6) rfl (by kernel_rfl) (fun _ _ _ h => h) (Or.inl ⟨by rfl, (fun u hu => by obtain ⟨k0, k1, k2⟩ := hu; go_simp; try rfl)⟩) HK0.out (fun _ => trivial) ?_
    simp only [Act.put, List.setIfInBounds_toArray, List.set_cons_zero, List.set_cons_succ, List.getElem_toArray, List.getElem_cons_zero, List.getElem_cons_succ]
    refine wpAnyL_pure (i := 7) rfl (by kernel_rfl) (fun _ _ _ h => h) (Or.inl ⟨by rfl, (fun u hu => by obtain ⟨k0, k1, k2⟩ := hu; go_simp; try rfl)⟩) HK0.out (fun _ => trivial) ?_
    simp only [Act.put, List.setIfInBounds_toArray, List.set_cons_zero, List.set_cons_succ, List.getElem_toArray, List.getElem_cons_zero, List.getElem_cons_succ]
    refine wpAnyL_pure (i := 8) rfl (by kernel_rfl) (fun _ _ _ h => h) (Or.inl ⟨by rfl, (fun u hu => by obtain ⟨k0, k1, k2⟩ := hu; go_simp; try rfl)⟩) HK0.out (fun _ => trivial) ?_
    simp only [Act.put, List.setIfInBounds_toArray, List.set_cons_zero, List.set_cons_succ, List.getElem_toArray, List.getElem_cons_zero, List.getElem_cons_succ]
    refine wpAnyL_pure (i := 9) rfl (by kernel_rfl) (fun _ _ _ h => h) (Or.inl ⟨by rfl, (fun u hu => by obtain ⟨k0, k1, k2⟩ := hu; go_simp; try rfl)⟩) HK0.out (fun _ => trivial) ?_
    simp only [Act.put, List.setIfInBounds_toArray, List.set_cons_zero, List.set_cons_succ, List.getElem_toArray, List.getElem_cons_zero, List.getElem_cons_succ]
    refine wpAnyL_done (by kernel_rfl) ?_ _
    clear HK0
    go_wp2_with fail
    go_loopg [7, 10, 11, 12, 13, 60] m (fun gk vS va vb vc vd vj wr => ∃ (j : Nat), j ≤ m ∧ gk = m - j ∧ vj = .int .i64 j ∧
     CnIn wr base z2 BM BR acc rows vA vN xs vS (rowC d sts (row.take j)).2 (numL 0 (keysC p (rowC d sts (row.take j)).2)) (halfRow m (rowC d sts (row.take j)).1) ∧ Below z2 w2 wr)
    case atStart => exact ⟨0, Nat.zero_le _, rfl, rfl, HIN.out.drew, HB5.out.drew⟩
    case round =>
     obtain ⟨j, hj, hgj, rfl, hin, hb6⟩ := hrel
     obtain ⟨w6, rfl⟩ : ∃ w6 : World, w6 = wr := ⟨_, rfl⟩
     have hr1l := rowC_len (d := d) sts (row.take j)
     rw [List.length_take, HRLEN.out, Nat.min_eq_left hj] at hr1l
     have hg1 := rowC_good HGD.out (row := row.take j) (fun t ht => (HROW.out t (List.mem_of_mem_take ht)).2)
     have HGJ := Lib.hid hgj
     have HB6 := Lib.hid hb6
     by_cases hjl : j < m
     ·
      obtain ⟨bR, oR, t, hARe, hSR, ht, hct0⟩ := (HRD.out w6 hb6).ints.int_at hjl
      subst hARe
      have htk : row.take (j + 1) = row.take j ++ [t] := int_step ht
      have HTK := Lib.hid (show rowC d sts (row.take (j + 1)) = ((rowC d sts (row.take j)).1 ++ [numC d (rowC d sts (row.take j)).2 t], addC d (rowC d sts (row.take j)).2 t) by rw [htk, rowC_snoc])
      obtain ⟨r1, hr1⟩ : ∃ r1, r1 = (rowC d sts (row.take j)).1 := ⟨_, rfl⟩
      obtain ⟨s1, hs1⟩ : ∃ s1, s1 = (rowC d sts (row.take j)).2 := ⟨_, rfl⟩
      rw [← hr1, ← hs1] at HTK hin
      rw [← hs1] at hg1
      rw [← hr1] at hr1l
      have htr := HROW.out t (List.mem_of_getElem? ht)
      obtain ⟨x0, _, hcx, hfx⟩ := hin.rw_.at_ (i := j) (by rw [halfRow_len (by omega)]; exact hjl)
      have hin1 := hin.setRow j (-1)
      have hb7 : Below z2 w2 (w6.setCell ⟨BR, j, none⟩ (.int .i64 (-1))) := hb6.setCell (by have := HIN.out.br; simp; omega) _
      have hsl1 := hg1.len
      obtain ⟨A7, c7, rfl, hc7, _⟩ := hin.o.st.form
      have HIN6 := Lib.hid hin
      have HIN7 := Lib.hid hin1
      have HB7 := Lib.hid hb7
      have HG1 := Lib.hid hg1
      have HR1L := Lib.hid hr1l
      have hs1n : s1.length ≤ nA := by rw [HNN.out]; exact hsl1
      have HL1 := Lib.hid (show ∀ y : Int, (halfRow m r1).set j y = halfRow m (r1 ++ [y]) from fun y => by
       have := halfRow_set (C := m) (l := r1) (by omega) y
       rwa [hr1l] at this)
      have HTT := Lib.hid (show t < (d.2.2.length : Int) from htr.2)
      have htn : t < (nA : Int) := by rw [HNN.out]; exact htr.2
      clear hgj hin hb6 hr1l hg1 htk hr1 hs1 hin1 hb7 hsl1 ht htr
      by_cases ht0 : t < 0
      ·
       obtain ⟨e1, e2⟩ := step_dead (d := d) (sts := s1) (not_live_neg ht0)
       have HFIN := Lib.hid (show CnIn (w6.setCell ⟨BR, j, none⟩ (.int .i64 (-1))) base z2 BM BR acc rows vA vN xs (.slice A7 s1.length c7) (rowC d sts (row.take (j + 1))).2 (numL 0 (keysC p (rowC d sts (row.take (j + 1))).2)) (halfRow m (rowC d sts (row.take (j + 1))).1) by
        rw [HTK.out, e1, e2, ← HL1.out]; exact HIN7.out)
       clear e1 e2
       go_wp2_with fail
       go_roundg (m - (j + 1))
       case measure => rw [HGJ.out]; omega
       case rel => exact ⟨j + 1, by omega, rfl, by go_num, HFIN.out, HB7.out⟩
      ·
       obtain ⟨t, rfl⟩ : ∃ t' : Nat, t = (t' : Int) := ⟨t.toNat, by omega⟩
       have htnN : t < nA := by omega
       obtain ⟨pt, hpt, hcp, _⟩ := (HPW.out _ HB7.out).at_ (i := t) (by rw [HPL.out]; omega)
       by_cases hl : LiveP d t
       ·
        obtain ⟨mt, hmn, hmt, hmp⟩ := numOf_live HPO.out HTT.out hl
        rw [Int.toNat_natCast, hpt] at hmt
        injection hmt with hmt
        subst hmt
        have hmr : (mt : Int) < 200 := by have := HNN.out; omega
        have HMP := Lib.hid hmp
        have HL2 := Lib.hid hl
        have HKOK := Lib.hid (show KI.ok (mt : Int) by show -9223372036854775808 ≤ _ ∧ _; omega)
        have HLEN := Lib.hid (show (keysC p s1).length = s1.length from keysC_len s1)
        have hdm : decide ((mt : Int) < 0) = false := by simp
        clear hpt hl hmp hmn
        by_cases hmem : (mt : Int) ∈ keysC p s1
        ·
         obtain ⟨e1, e2⟩ := step_old HPO.out HG1.out.ok HTT.out HL2.out (by rw [HMP.out]; exact hmem)
         rw [HMP.out] at e1
         obtain ⟨q, hq⟩ : ∃ q : Nat, q = (keysC p s1).idxOf (mt : Int) := ⟨_, rfl⟩
         rw [← hq] at e1
         have hlk : lk (numL 0 (keysC p s1)) (mt : Int) = some (.int .i64 (q : Int)) := by rw [lk_numL, if_pos hmem, Nat.zero_add, hq]
         have HLK := Lib.hid hlk
         have HFIN := Lib.hid (show CnIn ((w6.setCell ⟨BR, j, none⟩ (.int .i64 (-1))).setCell ⟨BR, j, none⟩ (.int .i64 (q : Int))) base z2 BM BR acc rows vA vN xs (.slice A7 s1.length c7) (rowC d sts (row.take (j + 1))).2 (numL 0 (keysC p (rowC d sts (row.take (j + 1))).2)) (halfRow m (rowC d sts (row.take (j + 1))).1) by
          rw [HTK.out, e1, e2, ← HL1.out]
          have := HIN7.out.setRow j (q : Int)
          rw [List.set_set] at this
          exact this)
         have HB8 := Lib.hid (show Below z2 w2 ((w6.setCell ⟨BR, j, none⟩ (.int .i64 (-1))).setCell ⟨BR, j, none⟩ (.int .i64 (q : Int))) from HB7.out.setCell (by have := HIN.out.br; simp; omega) _)
         obtain ⟨x7, _, hcx7, hfx7⟩ := HIN7.out.rw_.at_ (i := j) (by rw [List.length_set, halfRow_len (by have := HR1L.out; omega)]; exact hjl)
         clear e1 e2 hlk hmem hq
         go_wp2_with (at_lookup; refine wpList_amap_ok _ rfl _ _ 105 rfl 3 mapInt zeroI BM _ rfl HIN7.out.o.mp (mt : Int) rfl HKOK.out ?_; rw [HLK.out])
         go_roundg (m - (j + 1))
         case measure => rw [HGJ.out]; omega
         case rel => exact ⟨j + 1, by omega, rfl, by go_num, HFIN.out, HB8.out⟩
        ·
         obtain ⟨e1, e2⟩ := step_new HPO.out HG1.out.ok HTT.out HL2.out (by rw [HMP.out]; exact hmem)
         have hlk : lk (numL 0 (keysC p s1)) (mt : Int) = none := by rw [lk_numL, if_neg hmem]
         have HLK := Lib.hid hlk
         have HNK := Lib.hid (show (mt : Int) ∉ (numL 0 (keysC p s1)).map Prod.fst by rw [numL_keys]; exact hmem)
         have HL4 := Lib.hid (show (numL 0 (keysC p s1)).length < maxLen by rw [numL_len, HLEN.out]; unfold maxLen; omega)
         have HE1 := Lib.hid e1
         have HE2 := Lib.hid e2
         clear e1 e2 hlk hmem
         go_wp2_with (first
          | (at_lookup; refine wpList_amap_ok _ rfl _ _ 105 rfl 3 mapInt zeroI BM _ rfl HIN7.out.o.mp (mt : Int) rfl HKOK.out ?_; rw [HLK.out])
          | (at_mapUpdate
             go_loud ((
              refine wpList_amap_put _ rfl _ _ _ 105 rfl 3 mapInt BM _ rfl HIN7.out.o.mp (mt : Int) rfl HKOK.out (.int .i64 (s1.length : Int)) rfl HL4.out ?_
              intro w8 hm8 hg8
              rw [putL_new HNK.out] at hm8
              have hin8 := HIN7.out.putMap hm8 hg8
              have hb8 : Below z2 w2 w8 := HB7.out.grown hg8 (by rw [World.size_setCell]; have := HIN6.out.o.df.le; omega) (fun q e => by injection e with e; omega)
              obtain ⟨A9, c9, w9, hrun, hin9, hb9⟩ := hin8.pushS (t : Int) (by omega)
              have HRUN := Lib.hid hrun
              have HB9 := Lib.hid (show Below z2 w2 w9 from hb8.trans (hb9.mono (by omega)))
              obtain ⟨x9, _, hcx9, hfx9⟩ := hin9.rw_.at_ (i := j) (by rw [List.length_set, halfRow_len (by have := HR1L.out; omega)]; exact hjl)
              have HFIN := Lib.hid (show CnIn (w9.setCell ⟨BR, j, none⟩ (.int .i64 (s1.length : Int))) base z2 BM BR acc rows vA vN xs (.slice A9 (s1.length + 1) c9) (rowC d sts (row.take (j + 1))).2 (numL 0 (keysC p (rowC d sts (row.take (j + 1))).2)) (halfRow m (rowC d sts (row.take (j + 1))).1) by
               rw [HTK.out, HE1.out, HE2.out, ← HL1.out, keysC_snoc, numL_snoc, HLEN.out, Nat.zero_add, HMP.out]
               have := hin9.setRow j (s1.length : Int)
               rw [List.set_set] at this
               exact this)
              have HB10 := Lib.hid (show Below z2 w2 (w9.setCell ⟨BR, j, none⟩ (.int .i64 (s1.length : Int))) from HB9.out.setCell (by have := HIN.out.br; simp; omega) _)
              clear hm8 hg8 hin8 hb8 hrun hin9 hb9)))
          | (at_builtin; refine Lib.wpList_append_run _ rfl _ _ _ _ rfl _ _ rfl rfl _ _ HRUN.out ?_))
         go_roundg (m - (j + 1))
         case measure => rw [HGJ.out]; omega
         case rel => exact ⟨j + 1, by omega, rfl, by go_num, HFIN.out, HB10.out⟩
       ·
        obtain ⟨e1, e2⟩ := step_dead (d := d) (sts := s1) hl
        have hpd := numOf_dead HPO.out (by omega) HTT.out hl
        rw [Int.toNat_natCast, hpt] at hpd
        injection hpd with hpd
        subst hpd
        have HFIN := Lib.hid (show CnIn (w6.setCell ⟨BR, j, none⟩ (.int .i64 (-1))) base z2 BM BR acc rows vA vN xs (.slice A7 s1.length c7) (rowC d sts (row.take (j + 1))).2 (numL 0 (keysC p (rowC d sts (row.take (j + 1))).2)) (halfRow m (rowC d sts (row.take (j + 1))).1) by
         rw [HTK.out, e1, e2, ← HL1.out]; exact HIN7.out)
        clear e1 e2 hpt
        go_wp2_with fail
        go_roundg (m - (j + 1))
        case measure => rw [HGJ.out]; omega
        case rel => exact ⟨j + 1, by omega, rfl, by go_num, HFIN.out, HB7.out⟩
     ·
      obtain rfl : j = m := by omega
      have htk : row.take j = row := List.take_of_length_le (by have := HRLEN.out; omega)
      rw [htk] at hin hg1 hr1l
      obtain ⟨s2, hs2⟩ : ∃ s2, s2 = (rowC d sts row).2 := ⟨_, rfl⟩
      obtain ⟨r2, hr2⟩ : ∃ r2, r2 = (rowC d sts row).1 := ⟨_, rfl⟩
      rw [← hs2, ← hr2] at hin
      rw [← hs2] at hg1
      rw [← hr2] at hr1l
      rw [halfRow_full hr1l] at hin
      obtain ⟨A7, c7, rfl, hc7, _⟩ := hin.o.st.form
      have hpre := rowC_pre (d := d) sts row
      rw [← hs2] at hpre
      have hlt2 : i < s2.length := Nat.lt_of_lt_of_le hlt hpre.length_le
      obtain ⟨g7, hA7, hg7b, _⟩ := hin.o.st.addr (by omega)
      subst hA7
      have hcs7 : w6.cell? ⟨g7, i, none⟩ = some (.int .i64 (k : Int)) := by
       obtain ⟨b8, o8, x8, e8, _, hx8, hc8⟩ := hin.o.st.rd.int_at hlt2
       injection e8 with e8
       injection e8 with e8 e9
       subst e8
       subst e9
       rw [Nat.zero_add] at hc8
       have : s2[i]? = some (k : Int) := by
        obtain ⟨q, hq⟩ := hpre
        rw [← hq, List.getElem?_append_left hlt]
        exact HSI.out
       rw [this] at hx8
       injection hx8 with hx8
       rw [hx8]; exact hc8
      have hrow7 : rowOf (.slice (some ⟨g7, 0, none⟩) s2.length c7) = some g7 := by
       obtain ⟨c8, rfl⟩ : ∃ c8, c7 = c8 + 1 := ⟨c7 - 1, by omega⟩
       rfl
      have hrlen : r2.length = j := hr1l
      have HV7 := Lib.hid (show Own w6 base 3 1 (.slice (some ⟨BR, 0, none⟩) j j) r2.length (r2.map (Value.int .i64)) from by
       rw [hrlen]
       exact .inl ⟨by simp [hrlen], .inr ⟨BR, j, _, rfl, hin.br, hin.rw_, Nat.le_refl _, by unfold maxLen; omega, by simp [hrlen], by rw [Nat.mul_one]; exact List.take_of_length_le (by simp [hrlen])⟩⟩)
      have hgBR : g7 ≠ BR := fun e => hin.sr (by rw [hrow7, e])
      have hdis := hin.o.ds g7 hrow7
      have hbrj : rowOf (.slice (some ⟨BR, 0, none⟩) j j) = some BR := by
       obtain ⟨j', rfl⟩ : ∃ j', j = j' + 1 := ⟨j - 1, by omega⟩
       rfl
      have hg7l : g7 < w6.heap.size := cell_lt hcs7
      have hdf := hin.o.df
      have hlow := hin.low
      have hTZ : TwoZ (fun b => b = BM ∨ b = g7) w6.drew w6.drew base z2 0 acc rows vA vN xs r2 x (some (.slice (some ⟨BR, 0, none⟩) j j)) none none none none :=
       hdf.drew.twoZ r2 x HV7.out (fun g e e' => by rw [hbrj] at e; injection e with e; subst e; have := hlow.1 _ e'; omega) (fun g e e' => by rw [hbrj] at e; injection e with e; subst e; have := hlow.2.1 _ e'; omega)
        (fun b hb => by
         have := hin.o.mp.lt
         have hd := hdf.lt
         show b < w6.heap.size ∧ _
         rcases hb with rfl | rfl <;> omega)
        (fun b hb => by
         rcases hb with rfl | rfl
         ·
          refine ⟨fun e => ?_, fun e => ?_, fun i v hv e => ?_⟩
          ·
           have := (hdf.ownA.row e).1; omega
          ·
           have := (hdf.ownN.row e).1; omega
          ·
           obtain ⟨r', _, h2, _⟩ := hdf.rown i v hv
           have := (h2.row e).1; omega
         ·
          exact hdis)
        (fun b hb e => by
         rw [hbrj] at e
         injection e with e
         have := hin.br
         rcases hb with rfl | rfl <;> omega)
      have HT := Lib.hid hTZ
      have hcA := hdf.cellA
      have hcN := hdf.cellN
      have HALL := Lib.hid (show ∀ u : World, Below base w6.drew u → (∀ b, (b = BM ∨ b = g7) → u.heap[b]? = w6.drew.heap[b]?) → u.cell? ⟨w.heap.size, 1, none⟩ = some (.slice (some ⟨bA, oA, none⟩) nA cA) ∧ u.cell? ⟨bA, oA + k, none⟩ = some (.int .i64 x) ∧ u.cell? ⟨g7, i, none⟩ = some (.int .i64 (k : Int)) from fun u hu hk => by
       have h1 : Below z2 w2 u := hb6.drew.trans (hu.mono (by omega))
       obtain ⟨k1, _, _, k4⟩ := HCELL.out u h1
       refine ⟨k1, by rw [HXX.out]; exact k4, ?_⟩
       rw [World.cell?_of_block (hk g7 (.inr rfl))]
       exact hcs7)
      have HK0 := Lib.hid (HALL.out _ (Below.refl _ _) (fun _ _ => rfl))
      have HKS := Lib.hid (show w6.drew.cell? ⟨z2, 1, none⟩ = some vA ∧ w6.drew.cell? ⟨z2, 2, none⟩ = some vN from ⟨hcA, hcN⟩)
      have HIN6 := Lib.hid hin
      have HS2 := Lib.hid hs2
      have HR2 := Lib.hid hr2
      have hs2n : s2.length ≤ nA := by rw [HNN.out]; exact hg1.len
      have hal := HAL.out
      have hrl := HRL.out
      have hS1a : w.heap.size ≠ z2 := by omega
      have hS1b : bA ≠ z2 := by omega
      have hS1c : g7 ≠ z2 := by omega
      have hi200 : i ≤ 200 := by omega
      have HG7 := Lib.hid (show ∀ g, rowOf (.slice (some ⟨g7, 0, none⟩) s2.length c7) = some g → g = g7 from fun g e => by rw [hrow7] at e; injection e with e; exact e.symm)
      have HLT2 := Lib.hid hlt2
      have HSTEP := Lib.hid (show (cIter d (i + 1)).sts = s2 ∧ (cIter d (i + 1)).rows = rows ++ [r2] ∧ (cIter d (i + 1)).acc = acc ++ [x] by
       have hs9 : (cIter d i).sts[i]? = some (k : Int) := by rw [← HST.out]; exact HSI.out
       show (cStep d i (cIter d i)).sts = s2 ∧ (cStep d i (cIter d i)).rows = _ ∧ (cStep d i (cIter d i)).acc = _
       unfold cStep
       rw [hs9]
       dsimp only
       rw [Int.toNat_natCast, HSROW.out, ← HST.out, ← HRO.out, ← HAC.out, hs2, hr2, HXX.out]
       exact ⟨rfl, rfl, rfl⟩)
      have HIL := Lib.hid (And.intro hal hrl)
      have HNE := Lib.hid (show w.heap.size ≠ z2 ∧ bA ≠ z2 ∧ g7 ≠ z2 ∧ acc.length ≤ 1000000 ∧ rows.length ≤ 1000000 from ⟨hS1a, hS1b, hS1c, by omega, by omega⟩)
      clear hgj hin hb6 hr1l hg1 htk hs2 hr2 hpre hcs7 hrow7 hrlen hgBR hdis hbrj hdf hlow hTZ hcA hcN hal hrl hS1a hS1b hS1c hg7l hg7b
      go_wp2_with fail
      refine wp_region_late (late := [18, 20]) (S1 := fun u => u.cell? ⟨w.heap.size, 1, none⟩ = some (.slice (some ⟨bA, oA, none⟩) nA cA) ∧ u.cell? ⟨bA, oA + k, none⟩ = some (.int .i64 x) ∧ u.cell? ⟨g7, i, none⟩ = some (.int .i64 (k : Int))) (S := fun u => u.cell? ⟨z2, 1, none⟩ = some vA ∧ u.cell? ⟨z2, 2, none⟩ = some vN) (by kernel_rfl) ?_
      refine wpAnyL_pure (i := 0) rfl (by kernel_rfl) (fun _ _ _ h => h) (Or.inl ⟨by rfl, (fun u hu => by obtain ⟨k0, k1, k2⟩ := hu; go_simp; try rfl)⟩) HK0.out (fun _ => HKS.out) ?_
      simp only [Act.put, List.setIfInBounds_toArray, List.set_cons_zero, List.set_cons_succ, List.getElem_toArray, List.getElem_cons_zero, List.getElem_cons_succ]
      refine wpAnyL_take (i := 1) rfl (by kernel_rfl) (fun _ _ _ h => h) (Or.inl ⟨by rfl, (fun u hu => by obtain ⟨_, hu3, hu4⟩ := hu; go_simp; try rfl)⟩) HK0.out (fun _ => HKS.out) ?_
      simp only [Act.put, List.setIfInBounds_toArray, List.set_cons_zero, List.set_cons_succ, List.getElem_toArray, List.getElem_cons_zero, List.getElem_cons_succ]
      refine wpAnyL_pure (i := 2) rfl (by kernel_rfl) (fun _ _ _ h => h) (Or.inl ⟨by rfl, (fun u hu => by obtain ⟨k0, k1, k2⟩ := hu; go_simp; try rfl)⟩) HK0.out (fun _ => HKS.out) ?_
      simp only [Act.put, List.setIfInBounds_toArray, List.set_cons_zero, List.set_cons_succ, List.getElem_toArray, List.getElem_cons_zero, List.getElem_cons_succ]
      refine wpAnyL_pure (i := 5) rfl (by kernel_rfl) (fun _ _ _ h => h) (Or.inl ⟨by rfl, (fun u hu => by obtain ⟨k0, k1, k2⟩ := hu; go_simp; try rfl)⟩) HK0.out (fun _ => HKS.out) ?_
      simp only [Act.put, List.setIfInBounds_toArray, List.set_cons_zero, List.set_cons_succ, List.getElem_toArray, List.getElem_cons_zero, List.getElem_cons_succ]
      refine wpAnyL_take (i := 6) rfl (by kernel_rfl) (fun _ _ _ h => h) (Or.inl ⟨by rfl, (fun u hu => by obtain ⟨_, hu3, hu4⟩ := hu; go_simp; try rfl)⟩) HK0.out (fun _ => HKS.out) ?_
      simp only [Act.put, List.setIfInBounds_toArray, List.set_cons_zero, List.set_cons_succ, List.getElem_toArray, List.getElem_cons_zero, List.getElem_cons_succ]
      refine wpAnyL_pure (i := 7) rfl (by kernel_rfl) (fun _ _ _ h => h) (Or.inl ⟨by rfl, (fun u hu => by obtain ⟨k0, k1, k2⟩ := hu; go_simp; try rfl)⟩) HK0.out (fun _ => HKS.out) ?_
      simp only [Act.put, List.setIfInBounds_toArray, List.set_cons_zero, List.set_cons_succ, List.getElem_toArray, List.getElem_cons_zero, List.getElem_cons_succ]
      refine wpAnyL_pure (i := 8) rfl (by kernel_rfl) (fun _ _ _ h => h) (Or.inl ⟨by rfl, (fun u hu => by obtain ⟨k0, k1, k2⟩ := hu; go_simp; try rfl)⟩) HK0.out (fun _ => HKS.out) ?_
      simp only [Act.put, List.setIfInBounds_toArray, List.set_cons_zero, List.set_cons_succ, List.getElem_toArray, List.getElem_cons_zero, List.getElem_cons_succ]
      refine wpAnyL_pure (i := 9) rfl (by kernel_rfl) (fun _ _ _ h => h) (Or.inl ⟨by rfl, (fun u hu => by obtain ⟨k0, k1, k2⟩ := hu; go_simp; try rfl)⟩) HK0.out (fun _ => HKS.out) ?_
      simp only [Act.put, List.setIfInBounds_toArray, List.set_cons_zero, List.set_cons_succ, List.getElem_toArray, List.getElem_cons_zero, List.getElem_cons_succ]
      refine wpAnyL_pure (i := 10) rfl (by kernel_rfl) (fun _ _ _ h => h) (Or.inl ⟨by rfl, (fun u hu => by obtain ⟨k0, k1, k2⟩ := hu; go_simp; try rfl)⟩) HK0.out (fun _ => HKS.out) ?_
      simp only [Act.put, List.setIfInBounds_toArray, List.set_cons_zero, List.set_cons_succ, List.getElem_toArray, List.getElem_cons_zero, List.getElem_cons_succ]
      refine wpAnyL_pure (i := 11) rfl (by kernel_rfl) (fun _ _ _ h => h) (Or.inl ⟨by rfl, (fun u hu => by obtain ⟨k0, k1, k2⟩ := hu; go_simp; try rfl)⟩) HK0.out (fun _ => HKS.out) ?_
      simp only [Act.put, List.setIfInBounds_toArray, List.set_cons_zero, List.set_cons_succ, List.getElem_toArray, List.getElem_cons_zero, List.getElem_cons_succ]
      refine wpAnyL_pure (i := 12) rfl (by kernel_rfl) (fun _ _ _ h => h) (Or.inl ⟨by rfl, (fun u hu => by obtain ⟨k0, k1, k2⟩ := hu; go_simp; try rfl)⟩) HK0.out (fun _ => HKS.out) ?_
      simp only [Act.put, List.setIfInBounds_toArray, List.set_cons_zero, List.set_cons_succ, List.getElem_toArray, List.getElem_cons_zero, List.getElem_cons_succ]
      refine wpAnyL_pure (i := 13) rfl (by kernel_rfl) (fun _ _ _ h => h) (Or.inl ⟨by rfl, (fun u hu => by obtain ⟨k0, k1, k2⟩ := hu; go_simp; try rfl)⟩) HK0.out (fun _ => HKS.out) ?_
      simp only [Act.put, List.setIfInBounds_toArray, List.set_cons_zero, List.set_cons_succ, List.getElem_toArray, List.getElem_cons_zero, List.getElem_cons_succ]
      refine wpAnyL_pure (i := 14) rfl (by kernel_rfl) (fun _ _ _ h => h) (Or.inl ⟨by rfl, (fun u hu => by obtain ⟨k0, k1, k2⟩ := hu; go_simp; try rfl)⟩) HK0.out (fun _ => HKS.out) ?_
      simp only [Act.put, List.setIfInBounds_toArray, List.set_cons_zero, List.set_cons_succ, List.getElem_toArray, List.getElem_cons_zero, List.getElem_cons_succ]
      refine wpAnyL_ready (rs := [3, 15]) (by kernel_rfl) (by simp) ?_
      refine AllL.cons rfl (fun K hK => ?_) ?_
      ·
       go_simp
       have HT1 := Lib.hid (HT.out.allocN _ (by first | exact World.size_alloc _ _ | rfl) 22)
       refine hK.out _ _ (HALL.out _ HT1.out.below HT1.out.keep) (fun _ => ⟨HT1.out.two.cellA, HT1.out.two.cellN⟩) ?_
       clear hK K
       refine wpAnyL_ready (rs := [4, 15]) (by kernel_rfl) (by simp) ?_
       refine AllL.cons rfl (fun K hK => ?_) ?_
       ·
        obtain ⟨u2, w2, hrun, ⟨A2, c2, rfl⟩, hT⟩ := HT1.out.appN HNE.out.2.2.2.2
        have HT2 := Lib.hid hT
        have HR2 := Lib.hid hrun
        clear hT hrun
        refine step_append_run _ (by rfl) _ _ _ _ (by rfl) _ _ (by rfl) (by rfl) _ _ HR2.out ?_
        simp only [Act.put, List.setIfInBounds_toArray, List.set_cons_zero, List.set_cons_succ, List.getElem_toArray, List.getElem_cons_zero, List.getElem_cons_succ]
        refine hK.out _ _ (HALL.out _ HT2.out.below HT2.out.keep) (fun _ => ⟨HT2.out.two.cellA, HT2.out.two.cellN⟩) ?_
        clear hK K
        refine wpAnyL_pure (i := 17) rfl (by kernel_rfl) (fun _ _ _ h => h) (Or.inl ⟨by rfl, (fun u hu => by obtain ⟨k0, k1, k2⟩ := hu; go_simp; try rfl)⟩) (HALL.out _ HT2.out.below HT2.out.keep) (fun _ => ⟨HT2.out.two.cellA, HT2.out.two.cellN⟩) ?_
        simp only [Act.put, List.setIfInBounds_toArray, List.set_cons_zero, List.set_cons_succ, List.getElem_toArray, List.getElem_cons_zero, List.getElem_cons_succ]
        refine wpAnyL_ready (rs := [15]) (by kernel_rfl) (by simp) ?_
        refine AllL.cons rfl (fun K hK => ?_) ?_
        ·
         go_simp
         have HT3 := Lib.hid (HT2.out.allocA _ (by first | exact World.size_alloc _ _ | rfl) 3)
         refine hK.out _ _ (HALL.out _ HT3.out.below HT3.out.keep) (fun _ => ⟨HT3.out.two.cellA, HT3.out.two.cellN⟩) ?_
         clear hK K
         refine wpAnyL_ready (rs := [16]) (by kernel_rfl) (by simp) ?_
         refine AllL.cons rfl (fun K hK => ?_) ?_
         ·
          obtain ⟨u4, w4, hrun, ⟨A4, c4, rfl⟩, hT⟩ := HT3.out.appA HNE.out.2.2.2.1
          have HT4 := Lib.hid hT
          have HR4 := Lib.hid hrun
          clear hT hrun
          refine step_append_run _ (by rfl) _ _ _ _ (by rfl) _ _ (by rfl) (by rfl) _ _ HR4.out ?_
          simp only [Act.put, List.setIfInBounds_toArray, List.set_cons_zero, List.set_cons_succ, List.getElem_toArray, List.getElem_cons_zero, List.getElem_cons_succ]
          refine hK.out _ _ (HALL.out _ HT4.out.below HT4.out.keep) (fun _ => ⟨HT4.out.two.cellA, HT4.out.two.cellN⟩) ?_
          clear hK K
          refine wpAnyL_ready (rs := [18]) (by kernel_rfl) (by simp) ?_
          refine AllL.cons rfl (fun K hK => ?_) ?_
          ·
           have hc := HT4.out.two.cellN
           have hf := HT4.out.two.fr 2
           go_simp
           clear hc hf
           refine hK.out _ _ ⟨(setOther _ (p := ⟨z2, 2, none⟩) (HALL.out _ HT4.out.below HT4.out.keep).1 HNE.out.1), (setOther _ (p := ⟨z2, 2, none⟩) (HALL.out _ HT4.out.below HT4.out.keep).2.1 HNE.out.2.1), (setOther _ (p := ⟨z2, 2, none⟩) (HALL.out _ HT4.out.below HT4.out.keep).2.2 HNE.out.2.2.1)⟩ (fun h => absurd (h 18 (by simp)) (by decide)) ?_
           clear hK K
           refine wpAnyL_pure (i := 19) rfl (by kernel_rfl) (fun _ _ _ h => h) (Or.inl ⟨by rfl, (fun u hu => by obtain ⟨k0, k1, k2⟩ := hu; go_simp; try rfl)⟩) ⟨(setOther _ (p := ⟨z2, 2, none⟩) (HALL.out _ HT4.out.below HT4.out.keep).1 HNE.out.1), (setOther _ (p := ⟨z2, 2, none⟩) (HALL.out _ HT4.out.below HT4.out.keep).2.1 HNE.out.2.1), (setOther _ (p := ⟨z2, 2, none⟩) (HALL.out _ HT4.out.below HT4.out.keep).2.2 HNE.out.2.2.1)⟩ (fun h => absurd (h 18 (by simp)) (by decide)) ?_
           simp only [Act.put, List.setIfInBounds_toArray, List.set_cons_zero, List.set_cons_succ, List.getElem_toArray, List.getElem_cons_zero, List.getElem_cons_succ]
           refine wpAnyL_ready (rs := [20]) (by kernel_rfl) (by simp) ?_
           refine AllL.cons rfl (fun K hK => ?_) ?_
           ·
            have hc := fun u => setOther0 (u := u) (HT4.out.two.cellA) (HT4.out.two.fr 1)
            have hc1 := fun u => (hc u).1
            have hc2 := fun u => (hc u).2
            clear hc
            go_simp
            clear hc1 hc2
            refine hK.out _ _ ⟨(setOther _ (p := ⟨z2, 1, none⟩) (setOther _ (p := ⟨z2, 2, none⟩) (HALL.out _ HT4.out.below HT4.out.keep).1 HNE.out.1) HNE.out.1), (setOther _ (p := ⟨z2, 1, none⟩) (setOther _ (p := ⟨z2, 2, none⟩) (HALL.out _ HT4.out.below HT4.out.keep).2.1 HNE.out.2.1) HNE.out.2.1), (setOther _ (p := ⟨z2, 1, none⟩) (setOther _ (p := ⟨z2, 2, none⟩) (HALL.out _ HT4.out.below HT4.out.keep).2.2 HNE.out.2.2.1) HNE.out.2.2.1)⟩ (fun h => absurd (h 18 (by simp)) (by decide)) ?_
            clear hK K
            refine wpAnyL_done (by kernel_rfl) ?_ _
            go_wp2_with fail
            go_roundg (nA - (i + 1))
            case measure => rw [HGK.out]; omega
            case rel =>
             refine ⟨i + 1, ?vA1, ?vN1, ?xs1, by rw [HSTEP.out.1]; exact HLT2.out, rfl, by go_num, ?h1, ?h2⟩
             case h1 =>
              rw [HSTEP.out.1, HSTEP.out.2.1, HSTEP.out.2.2]
              exact HIN6.out.outer HT4.out HG7.out
             case h2 => exact ((HB6.out.drew.trans (HT4.out.below.mono (by omega))).setCell (by simp) _).setCell (by simp) _
           exact AllL.nil
          exact AllL.nil
         exact AllL.nil
        exact AllL.nil
       refine AllL.cons rfl (fun K hK => ?_) ?_
       ·
        go_simp
        have HT7 := Lib.hid (HT1.out.allocA _ (by first | exact World.size_alloc _ _ | rfl) 3)
        refine hK.out _ _ (HALL.out _ HT7.out.below HT7.out.keep) (fun _ => ⟨HT7.out.two.cellA, HT7.out.two.cellN⟩) ?_
        clear hK K
        refine wpAnyL_ready (rs := [4]) (by kernel_rfl) (by simp) ?_
        refine AllL.cons rfl (fun K hK => ?_) ?_
        ·
         obtain ⟨u8, w8, hrun, ⟨A8, c8, rfl⟩, hT⟩ := HT7.out.appN HNE.out.2.2.2.2
         have HT8 := Lib.hid hT
         have HR8 := Lib.hid hrun
         clear hT hrun
         refine step_append_run _ (by rfl) _ _ _ _ (by rfl) _ _ (by rfl) (by rfl) _ _ HR8.out ?_
         simp only [Act.put, List.setIfInBounds_toArray, List.set_cons_zero, List.set_cons_succ, List.getElem_toArray, List.getElem_cons_zero, List.getElem_cons_succ]
         refine hK.out _ _ (HALL.out _ HT8.out.below HT8.out.keep) (fun _ => ⟨HT8.out.two.cellA, HT8.out.two.cellN⟩) ?_
         clear hK K
         refine wpAnyL_pure (i := 17) rfl (by kernel_rfl) (fun _ _ _ h => h) (Or.inl ⟨by rfl, (fun u hu => by obtain ⟨k0, k1, k2⟩ := hu; go_simp; try rfl)⟩) (HALL.out _ HT8.out.below HT8.out.keep) (fun _ => ⟨HT8.out.two.cellA, HT8.out.two.cellN⟩) ?_
         simp only [Act.put, List.setIfInBounds_toArray, List.set_cons_zero, List.set_cons_succ, List.getElem_toArray, List.getElem_cons_zero, List.getElem_cons_succ]
         refine wpAnyL_ready (rs := [16]) (by kernel_rfl) (by simp) ?_
         refine AllL.cons rfl (fun K hK => ?_) ?_
         ·
          obtain ⟨u9, w9, hrun, ⟨A9, c9, rfl⟩, hT⟩ := HT8.out.appA HNE.out.2.2.2.1
          have HT9 := Lib.hid hT
          have HR9 := Lib.hid hrun
          clear hT hrun
          refine step_append_run _ (by rfl) _ _ _ _ (by rfl) _ _ (by rfl) (by rfl) _ _ HR9.out ?_
          simp only [Act.put, List.setIfInBounds_toArray, List.set_cons_zero, List.set_cons_succ, List.getElem_toArray, List.getElem_cons_zero, List.getElem_cons_succ]
          refine hK.out _ _ (HALL.out _ HT9.out.below HT9.out.keep) (fun _ => ⟨HT9.out.two.cellA, HT9.out.two.cellN⟩) ?_
          clear hK K
          refine wpAnyL_ready (rs := [18]) (by kernel_rfl) (by simp) ?_
          refine AllL.cons rfl (fun K hK => ?_) ?_
          ·
           have hc := HT9.out.two.cellN
           have hf := HT9.out.two.fr 2
           go_simp
           clear hc hf
           refine hK.out _ _ ⟨(setOther _ (p := ⟨z2, 2, none⟩) (HALL.out _ HT9.out.below HT9.out.keep).1 HNE.out.1), (setOther _ (p := ⟨z2, 2, none⟩) (HALL.out _ HT9.out.below HT9.out.keep).2.1 HNE.out.2.1), (setOther _ (p := ⟨z2, 2, none⟩) (HALL.out _ HT9.out.below HT9.out.keep).2.2 HNE.out.2.2.1)⟩ (fun h => absurd (h 18 (by simp)) (by decide)) ?_
           clear hK K
           refine wpAnyL_pure (i := 19) rfl (by kernel_rfl) (fun _ _ _ h => h) (Or.inl ⟨by rfl, (fun u hu => by obtain ⟨k0, k1, k2⟩ := hu; go_simp; try rfl)⟩) ⟨(setOther _ (p := ⟨z2, 2, none⟩) (HALL.out _ HT9.out.below HT9.out.keep).1 HNE.out.1), (setOther _ (p := ⟨z2, 2, none⟩) (HALL.out _ HT9.out.below HT9.out.keep).2.1 HNE.out.2.1), (setOther _ (p := ⟨z2, 2, none⟩) (HALL.out _ HT9.out.below HT9.out.keep).2.2 HNE.out.2.2.1)⟩ (fun h => absurd (h 18 (by simp)) (by decide)) ?_
           simp only [Act.put, List.setIfInBounds_toArray, List.set_cons_zero, List.set_cons_succ, List.getElem_toArray, List.getElem_cons_zero, List.getElem_cons_succ]
           refine wpAnyL_ready (rs := [20]) (by kernel_rfl) (by simp) ?_
           refine AllL.cons rfl (fun K hK => ?_) ?_
           ·
            have hc := fun u => setOther0 (u := u) (HT9.out.two.cellA) (HT9.out.two.fr 1)
            have hc1 := fun u => (hc u).1
            have hc2 := fun u => (hc u).2
            clear hc
            go_simp
            clear hc1 hc2
            refine hK.out _ _ ⟨(setOther _ (p := ⟨z2, 1, none⟩) (setOther _ (p := ⟨z2, 2, none⟩) (HALL.out _ HT9.out.below HT9.out.keep).1 HNE.out.1) HNE.out.1), (setOther _ (p := ⟨z2, 1, none⟩) (setOther _ (p := ⟨z2, 2, none⟩) (HALL.out _ HT9.out.below HT9.out.keep).2.1 HNE.out.2.1) HNE.out.2.1), (setOther _ (p := ⟨z2, 1, none⟩) (setOther _ (p := ⟨z2, 2, none⟩) (HALL.out _ HT9.out.below HT9.out.keep).2.2 HNE.out.2.2.1) HNE.out.2.2.1)⟩ (fun h => absurd (h 18 (by simp)) (by decide)) ?_
            clear hK K
            refine wpAnyL_done (by kernel_rfl) ?_ _
            go_wp2_with fail
            go_roundg (nA - (i + 1))
            case measure => rw [HGK.out]; omega
            case rel =>
             refine ⟨i + 1, ?vA2, ?vN2, ?xs2, by rw [HSTEP.out.1]; exact HLT2.out, rfl, by go_num, ?h1, ?h2⟩
             case h1 =>
              rw [HSTEP.out.1, HSTEP.out.2.1, HSTEP.out.2.2]
              exact HIN6.out.outer HT9.out HG7.out
             case h2 => exact ((HB6.out.drew.trans (HT9.out.below.mono (by omega))).setCell (by simp) _).setCell (by simp) _
           exact AllL.nil
          exact AllL.nil
         exact AllL.nil
        exact AllL.nil
       exact AllL.nil
      refine AllL.cons rfl (fun K hK => ?_) ?_
      ·
       go_simp
       have HT12 := Lib.hid (HT.out.allocA _ (by first | exact World.size_alloc _ _ | rfl) 3)
       refine hK.out _ _ (HALL.out _ HT12.out.below HT12.out.keep) (fun _ => ⟨HT12.out.two.cellA, HT12.out.two.cellN⟩) ?_
       clear hK K
       refine wpAnyL_ready (rs := [3]) (by kernel_rfl) (by simp) ?_
       refine AllL.cons rfl (fun K hK => ?_) ?_
       ·
        go_simp
        have HT13 := Lib.hid (HT12.out.allocN _ (by first | exact World.size_alloc _ _ | rfl) 22)
        refine hK.out _ _ (HALL.out _ HT13.out.below HT13.out.keep) (fun _ => ⟨HT13.out.two.cellA, HT13.out.two.cellN⟩) ?_
        clear hK K
        refine wpAnyL_ready (rs := [4]) (by kernel_rfl) (by simp) ?_
        refine AllL.cons rfl (fun K hK => ?_) ?_
        ·
         obtain ⟨u14, w14, hrun, ⟨A14, c14, rfl⟩, hT⟩ := HT13.out.appN HNE.out.2.2.2.2
         have HT14 := Lib.hid hT
         have HR14 := Lib.hid hrun
         clear hT hrun
         refine step_append_run _ (by rfl) _ _ _ _ (by rfl) _ _ (by rfl) (by rfl) _ _ HR14.out ?_
         simp only [Act.put, List.setIfInBounds_toArray, List.set_cons_zero, List.set_cons_succ, List.getElem_toArray, List.getElem_cons_zero, List.getElem_cons_succ]
         refine hK.out _ _ (HALL.out _ HT14.out.below HT14.out.keep) (fun _ => ⟨HT14.out.two.cellA, HT14.out.two.cellN⟩) ?_
         clear hK K
         refine wpAnyL_pure (i := 17) rfl (by kernel_rfl) (fun _ _ _ h => h) (Or.inl ⟨by rfl, (fun u hu => by obtain ⟨k0, k1, k2⟩ := hu; go_simp; try rfl)⟩) (HALL.out _ HT14.out.below HT14.out.keep) (fun _ => ⟨HT14.out.two.cellA, HT14.out.two.cellN⟩) ?_
         simp only [Act.put, List.setIfInBounds_toArray, List.set_cons_zero, List.set_cons_succ, List.getElem_toArray, List.getElem_cons_zero, List.getElem_cons_succ]
         refine wpAnyL_ready (rs := [16]) (by kernel_rfl) (by simp) ?_
         refine AllL.cons rfl (fun K hK => ?_) ?_
         ·
          obtain ⟨u15, w15, hrun, ⟨A15, c15, rfl⟩, hT⟩ := HT14.out.appA HNE.out.2.2.2.1
          have HT15 := Lib.hid hT
          have HR15 := Lib.hid hrun
          clear hT hrun
          refine step_append_run _ (by rfl) _ _ _ _ (by rfl) _ _ (by rfl) (by rfl) _ _ HR15.out ?_
          simp only [Act.put, List.setIfInBounds_toArray, List.set_cons_zero, List.set_cons_succ, List.getElem_toArray, List.getElem_cons_zero, List.getElem_cons_succ]
          refine hK.out _ _ (HALL.out _ HT15.out.below HT15.out.keep) (fun _ => ⟨HT15.out.two.cellA, HT15.out.two.cellN⟩) ?_
          clear hK K
          refine wpAnyL_ready (rs := [18]) (by kernel_rfl) (by simp) ?_
          refine AllL.cons rfl (fun K hK => ?_) ?_
          ·
           have hc := HT15.out.two.cellN
           have hf := HT15.out.two.fr 2
           go_simp
           clear hc hf
           refine hK.out _ _ ⟨(setOther _ (p := ⟨z2, 2, none⟩) (HALL.out _ HT15.out.below HT15.out.keep).1 HNE.out.1), (setOther _ (p := ⟨z2, 2, none⟩) (HALL.out _ HT15.out.below HT15.out.keep).2.1 HNE.out.2.1), (setOther _ (p := ⟨z2, 2, none⟩) (HALL.out _ HT15.out.below HT15.out.keep).2.2 HNE.out.2.2.1)⟩ (fun h => absurd (h 18 (by simp)) (by decide)) ?_
           clear hK K
           refine wpAnyL_pure (i := 19) rfl (by kernel_rfl) (fun _ _ _ h => h) (Or.inl ⟨by rfl, (fun u hu => by obtain ⟨k0, k1, k2⟩ := hu; go_simp; try rfl)⟩) ⟨(setOther _ (p := ⟨z2, 2, none⟩) (HALL.out _ HT15.out.below HT15.out.keep).1 HNE.out.1), (setOther _ (p := ⟨z2, 2, none⟩) (HALL.out _ HT15.out.below HT15.out.keep).2.1 HNE.out.2.1), (setOther _ (p := ⟨z2, 2, none⟩) (HALL.out _ HT15.out.below HT15.out.keep).2.2 HNE.out.2.2.1)⟩ (fun h => absurd (h 18 (by simp)) (by decide)) ?_
           simp only [Act.put, List.setIfInBounds_toArray, List.set_cons_zero, List.set_cons_succ, List.getElem_toArray, List.getElem_cons_zero, List.getElem_cons_succ]
           refine wpAnyL_ready (rs := [20]) (by kernel_rfl) (by simp) ?_
           refine AllL.cons rfl (fun K hK => ?_) ?_
           ·
            have hc := fun u => setOther0 (u := u) (HT15.out.two.cellA) (HT15.out.two.fr 1)
            have hc1 := fun u => (hc u).1
            have hc2 := fun u => (hc u).2
            clear hc
            go_simp
            clear hc1 hc2
            refine hK.out _ _ ⟨(setOther _ (p := ⟨z2, 1, none⟩) (setOther _ (p := ⟨z2, 2, none⟩) (HALL.out _ HT15.out.below HT15.out.keep).1 HNE.out.1) HNE.out.1), (setOther _ (p := ⟨z2, 1, none⟩) (setOther _ (p := ⟨z2, 2, none⟩) (HALL.out _ HT15.out.below HT15.out.keep).2.1 HNE.out.2.1) HNE.out.2.1), (setOther _ (p := ⟨z2, 1, none⟩) (setOther _ (p := ⟨z2, 2, none⟩) (HALL.out _ HT15.out.below HT15.out.keep).2.2 HNE.out.2.2.1) HNE.out.2.2.1)⟩ (fun h => absurd (h 18 (by simp)) (by decide)) ?_
            clear hK K
            refine wpAnyL_done (by kernel_rfl) ?_ _
            go_wp2_with fail
            go_roundg (nA - (i + 1))
            case measure => rw [HGK.out]; omega
            case rel =>
             refine ⟨i + 1, ?vA3, ?vN3, ?xs3, by rw [HSTEP.out.1]; exact HLT2.out, rfl, by go_num, ?h1, ?h2⟩
             case h1 =>
              rw [HSTEP.out.1, HSTEP.out.2.1, HSTEP.out.2.2]
              exact HIN6.out.outer HT15.out HG7.out
             case h2 => exact ((HB6.out.drew.trans (HT15.out.below.mono (by omega))).setCell (by simp) _).setCell (by simp) _
           exact AllL.nil
          exact AllL.nil
         exact AllL.nil
        exact AllL.nil
       exact AllL.nil
      exact AllL.nil
   ·
    obtain rfl : i = sts.length := by omega
    have hend := cIter_end HV.out HL.out (i := sts.length) (by rw [← HST.out])
    have hcd : canonD d = (0, acc, rows) := by
     unfold canonD
     rw [if_pos HL.out, hend, ← HAC.out, ← HRO.out]
    have HCD := Lib.hid hcd
    have hdf := hcn.df
    obtain ⟨A1, c1, rfl, _, _⟩ := hdf.ownA.form
    obtain ⟨A3, c3, rfl, _, _⟩ := hdf.ownN.form
    have HDF := Lib.hid hdf
    have hq0 := hdf.cellS
    have hq1 := hdf.cellA
    have hq2 := hdf.cellN
    have hres := HRES.out w4 (HALLW.out w4 hb)
    obtain ⟨hr0, hr1, hr2⟩ : w4.cell? ⟨w.heap.size + 1, 0, none⟩ = some (.int .i64 0) ∧ w4.cell? ⟨w.heap.size + 1, 1, none⟩ = some (.slice none 0 0) ∧ w4.cell? ⟨w.heap.size + 1, 2, none⟩ = some (.slice none 0 0) := by simp [World.cell?, hres]
    have hf0 : w4.frozen? ⟨w.heap.size + 1, 0, none⟩ = false := by simp [World.frozen?, hres]
    have hf1 : w4.frozen? ⟨w.heap.size + 1, 1, none⟩ = false := by simp [World.frozen?, hres]
    have hf2 : w4.frozen? ⟨w.heap.size + 1, 2, none⟩ = false := by simp [World.frozen?, hres]
    have HBF := Lib.hid (HKEEP.out w4 (HALLW.out w4 hb))
    clear hend hcd hdf hres hgk hcn hb hgood hrl hal
    go_wp2_with fail
    refine bodyPost_ret (v := .agg #[.int .i64 0, .slice A1 acc.length c1, .slice A3 rows.length c3]) (by simp [results, Tryz.results21, go_sem, hr0, hr1, hr2]) rfl ?_
    have hset : ∀ (u : World) (i : Nat) (v : Value), u.grownBy (u.setCell ⟨w.heap.size + 1, i, none⟩ v) (some (w.heap.size + 1)) := fun u i v => set_grown u i v
    have hne : ∀ g, some (w.heap.size + 1) = some g → g ≠ z2 ∧ g < base := fun g e => by injection e with e; omega
    have hfin := ((HDF.out.grown (hset _ 0 (.int .i64 0)) hne).grown (hset _ 1 (.slice A1 acc.length c1)) hne).grown (hset _ 2 (.slice A3 rows.length c3)) hne
    obtain ⟨k1, k2⟩ := hfin.sl
    refine ⟨⟨A1, _, c1, A3, _, c3, rfl, ?_, ?_⟩, ((HBF.out.setCell (by simp) _).setCell (by simp) _).setCell (by simp) _⟩
    ·
     rw [HCD.out]; exact k1.more fun b hb => by omega
    ·
     rw [HCD.out]; exact k2.more fun b hb => by omega
 ·
  have hpd := numOf_dead hpo (by have := HV.out.st; omega) (by have := HV.out.st; omega) hl
  rw [HS0.out, Int.toNat_natCast, hps] at hpd
  injection hpd with hpd
  subst hpd
  have HCD := Lib.hid (canon_dead hl)
  clear hip hpo hcR00 hr0 hsr0 hl hps hpl
  have hl0 : w.heap.size < w2.heap.size := by omega
  go_wp2_with fail
  obtain ⟨w3, hw3⟩ : ∃ w3 : World, w3 = (w2.alloc (.cells #[.int .i64 (-1)] 3)).alloc (.cells #[.int .i64 (-1)] 3) := ⟨_, rfl⟩
  rw [← hw3]
  have hz3 : w3.heap.size = w2.heap.size + 2 := by rw [hw3]; simp
  have hc3 : w3.cell? ⟨w2.heap.size, 0, none⟩ = some (.int .i64 (-1)) := by
   rw [hw3, World.cell?_alloc_lt _ _ _ (by simp)]
   simp
  have hc4 : w3.cell? ⟨w2.heap.size + 1, 0, none⟩ = some (.int .i64 (-1)) := by
   rw [hw3]
   exact (World.cell?_alloc_at _ _ _ _ (by simp)).trans rfl
  have hb3 : Below w2.heap.size w2 w3 := by rw [hw3]; exact ((Below.refl _ _).alloc (Nat.le_refl _) _).alloc (by simp) _
  refine (repeatInt w3 (w2.heap.size + 1) (-1) m0 hC1 hC2 hc4).mono ?_
  rintro e w4 ⟨u, rfl, ho, hb4⟩
  obtain ⟨Au, cu, rfl, hcu, _⟩ := ho.form
  have hb14 : Below w1.heap.size w1 w4 := HB2.out.trans ((hb3.mono HB2.out.size).trans (hb4.mono (by have := HB2.out.size; omega)))
  have hres := HRES.out w4 hb14
  have hlt4 : w.heap.size + 1 < w4.heap.size := heap_lt hres
  obtain ⟨hr0, hr1, hr2⟩ : w4.cell? ⟨w.heap.size + 1, 0, none⟩ = some (.int .i64 0) ∧ w4.cell? ⟨w.heap.size + 1, 1, none⟩ = some (.slice none 0 0) ∧ w4.cell? ⟨w.heap.size + 1, 2, none⟩ = some (.slice none 0 0) := by simp [World.cell?, hres]
  have hf0 : w4.frozen? ⟨w.heap.size + 1, 0, none⟩ = false := by simp [World.frozen?, hres]
  have hf1 : w4.frozen? ⟨w.heap.size + 1, 1, none⟩ = false := by simp [World.frozen?, hres]
  have hf2 : w4.frozen? ⟨w.heap.size + 1, 2, none⟩ = false := by simp [World.frozen?, hres]
  have HC3 := Lib.hid ((hb4.cell (cell_lt hc3)).trans hc3)
  have HO := Lib.hid ho
  have HBF := Lib.hid (HKEEP.out w4 hb14)
  have hz4 : w2.heap.size + 2 ≤ w4.heap.size := by have := hb4.size; omega
  have hz3' : w2.heap.size + 2 ≤ w3.heap.size := by omega
  clear hw3 hz3 hc3 hc4 hb3 ho hb4 hb14 hres hb2 hk0 hk1 hk2 hcR hcp
  go_wp2_with fail
  refine bodyPost_ret (v := .agg #[.int .i64 0, .slice (some ⟨w2.heap.size, 0, none⟩) 1 1, .slice (some ⟨w4.heap.size, 0, none⟩) 1 1]) (by simp [results, Tryz.results21, go_sem, hr0, hr1, hr2, hlt4]) rfl ?_
  have hne : w.heap.size + 1 ≠ w2.heap.size := by omega
  have hne4 : w.heap.size + 1 ≠ w4.heap.size := by omega
  obtain ⟨w5, hw5⟩ : ∃ w5 : World, w5 = ((w4.setCell ⟨w.heap.size + 1, 0, none⟩ (.int .i64 0)).setCell ⟨w.heap.size + 1, 1, none⟩ (.slice (some ⟨w2.heap.size, 0, none⟩) 1 1)).setCell ⟨w.heap.size + 1, 2, none⟩ (.slice (some ⟨w4.heap.size, 0, none⟩) 1 1) := ⟨_, rfl⟩
  rw [← hw5]
  have hz5 : w5.heap.size = w4.heap.size := by rw [hw5]; simp
  have hb5 : Below w.heap.size w w5 := by rw [hw5]; exact ((HBF.out.setCell (by simp) _).setCell (by simp) _).setCell (by simp) _
  have hkeep : ∀ (a : Addr) (v : Value), a.block ≠ w.heap.size + 1 → w4.cell? a = some v → (w5.alloc (.cells #[.slice Au m0 cu] 22)).cell? a = some v := fun a v ha h => by
   refine Kept.alloc (fun _ => True) w5 _ a v trivial ?_
   rw [hw5, World.cell?_setCell_other _ _ _ _ (fun e => ha (by rw [← e])), World.cell?_setCell_other _ _ _ _ (fun e => ha (by rw [← e])), World.cell?_setCell_other _ _ _ _ (fun e => ha (by rw [← e]))]
   exact h
  refine ⟨⟨_, 1, 1, _, 1, 1, rfl, ?_, ?_⟩, hb5.alloc (by omega) _⟩
  ·
   rw [HCD.out]
   refine Rd.slInts ⟨rfl, fun _ => ⟨w2.heap.size, 0, rfl, by omega, fun j v hv => ?_⟩⟩ (Nat.le_refl _)
   cases j with
   | zero =>
    obtain rfl : Value.int .i64 (-1) = v := by simpa using hv
    exact hkeep _ _ (by simp; omega) HC3.out
   | succ j => simp at hv
  ·
   rw [HCD.out]
   refine ⟨[.slice Au m0 cu], rfl, Nat.le_refl _, ⟨rfl, fun _ => ⟨w4.heap.size, 0, rfl, by omega, fun j v hv => ?_⟩⟩, [.slice Au m0 cu], [], rfl, ⟨Au, m0, cu, rfl, ?_⟩, rfl⟩
   ·
    cases j with
    | zero =>
     obtain rfl : Value.slice Au m0 cu = v := by simpa using hv
     exact (World.cell?_alloc_at _ _ _ _ hz5.symm).trans rfl
    | succ j => simp at hv
   ·
    rw [← HC.out]
    refine (Rd.slInts ((HO.out.rd.fit (by decide)).keep (S := fun b => w3.heap.size ≤ b ∧ b < w4.heap.size) fun a v ha h => ?_) hcu).more fun b hb => by omega
    exact hkeep a v (by omega) h
end Go.Proofs.YtocbkccchnbmaaaGreat
