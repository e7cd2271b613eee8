/- MkPair -/
import Derived.Test.YtbmcoamdfpegnaaMt48
namespace Go.Proofs.Ytbmcoamdfpegnaa
open Go.RowKit
def PairR (base : Nat) (e : Ending) (w' : World) : Prop :=
 ∃ (g : GramD) (d : DfaD) (AR : Option Addr) (cR : Nat) (A : Option Addr) (nA cA : Nat) (NN : Option Addr) (n cN : Nat), GSmall g ∧ MeetIn g d ∧ e = .returned (.tuple #[.agg #[.int .i64 g.1, .int .i64 g.2.1, .int .i64 g.2.2.1, .slice AR g.2.2.2.length cR], .agg #[.int .i64 d.1, .slice A nA cA, .slice NN n cN]]) ∧
  Sl RRule w' (fun b => base ≤ b) AR g.2.2.2.length cR g.2.2.2 ∧ Sl Rep.int w' (fun b => base ≤ b) A nA cA d.2.1 ∧ Sl RI w' (fun b => base ≤ b) NN n cN d.2.2
set_option linter.unusedSimpArgs false in
set_option maxRecDepth 100000 in
set_option maxHeartbeats 8000000 in
theorem mkPair (w : World) (A0 : Option Addr) (n0 c0 : Nat) (S0 : Nat → Prop) (l : List Int) (hr0 : Sl Rep.int w S0 A0 n0 c0 l) (hn0 : n0 ≤ 1000000000000000) (A1 : Option Addr) (n1 c1 : Nat) (S1 : Nat → Prop) (m : List Int) (hr1 : Sl Rep.int w S1 A1 n1 c1 m) (hn1 : n1 ≤ 1000000000000000) :
    Calls Try.prog 6 #[.slice A0 n0 c0, .slice A1 n1 c1] w fun e w' => PairR w.heap.size e w' ∧ Below w.heap.size w w' := by
 obtain ⟨w1, hw1⟩ : ∃ w1 : World, w1 = (w.alloc (.cells #[.int .i64 0, .int .i64 0, .int .i64 0, .slice none 0 0] 25)).alloc (.cells #[.int .i64 0, .slice none 0 0, .slice none 0 0] 28) := ⟨_, rfl⟩
 have hb1 : Below w.heap.size w w1 := by rw [hw1]; exact ((Below.refl _ _).alloc (Nat.le_refl _) _).alloc (by simp) _
 have HB1 := Lib.hid hb1
 have HR0 := Lib.hid (hr0.fit.below hb1)
 have HR1 := Lib.hid (hr1.fit.below hb1)
 have HZ1 := Lib.hid (show w1.heap.size = w.heap.size + 2 by rw [hw1]; simp)
 have HG4 := Lib.hid (show w1.heap[w.heap.size]? = some (.cells #[.int .i64 0, .int .i64 0, .int .i64 0, .slice none 0 0] 25 (0, 0)) by rw [hw1, Below.heap_alloc _ _ _ (by simp)]; exact heap_alloc_new _ _)
 have HG5 := Lib.hid (show w1.heap[w.heap.size + 1]? = some (.cells #[.int .i64 0, .slice none 0 0, .slice none 0 0] 28 (0, 0)) by
  rw [hw1, show w.heap.size + 1 = (w.alloc (.cells #[.int .i64 0, .int .i64 0, .int .i64 0, .slice none 0 0] 25)).heap.size by simp]
  exact heap_alloc_new _ _)
 have HW1 := Lib.hid hw1
 clear hr0 hr1 hb1 hw1
 go_enter Try.func6, Try.ntmps6
 go_wp2_with (first
  | (go_at_call 11; rw [← HW1.out]; refine (makeGrammar w1 A0 n0 c0 _ l HR0.out hn0).mono ?_; rintro e w2 ⟨g, AR, cR, hgv, hgs, rfl, hgr, hb2⟩; have HGV := Lib.hid hgv; have HGS := Lib.hid hgs; have HGR := Lib.hid hgr.fit; have HB2 := Lib.hid hb2; obtain ⟨T, hT⟩ : (∃ T : Nat, (T : Int) = g.1) := ⟨g.1.toNat, by have := hgv.t1; omega⟩; rw [← hT]; have HT := Lib.hid hT; obtain ⟨nR, hnR⟩ : (∃ nR, nR = g.2.2.2.length) := ⟨_, rfl⟩; rw [← hnR] at HGR ⊢; have HNR := Lib.hid hnR; clear hgv hgs hgr hb2 hT hnR))
 refine (makeDfaM w2 A1 n1 c1 _ m (HR1.out.below HB2.out) hn1).mono ?_
 rintro e w3 ⟨Bd, vA, vN, xs, hbd, rfl, hdb, hdist, hb3⟩
 obtain ⟨A, cA, rfl, _⟩ := hdb.ownA.form
 obtain ⟨NN, cN, rfl, _⟩ := hdb.ownN.form
 have hv := dfaOf_valid m
 have HV := Lib.hid hv
 obtain ⟨gN, rfl, hgN, _⟩ := hdb.ownN.addr (by have := hv.n1; omega)
 obtain ⟨n, hn⟩ : (∃ n, n = (dfaOf m).2.2.length) := ⟨_, rfl⟩
 have hnA : (dfaOf m).2.1.length = n := (by rw [hn]; exact hv.na)
 rw [hnA, ← hn] at hdb ⊢
 have HDB := Lib.hid hdb
 have HDI := Lib.hid hdist
 have HB3 := Lib.hid hb3
 have HBD := Lib.hid hbd
 have HN := Lib.hid hn
 have hn6 : n ≤ 6 := (by have h1 := (dfaN_range m).2.1; rw [hn]; show ((List.range (dfaN m)).map (dfaRow m)).length ≤ 6; simpa using h1)
 have hnp : 1 ≤ n := (by rw [hn]; exact hv.n1)
 have hon := hdb.ownN
 rw [← hn] at hon
 obtain ⟨hc0, _⟩ := hon.atP (x := 0) (by omega)
 have hxl : xs.length = n := (by have := hon.len; omega)
 obtain ⟨v0, hv0⟩ : (∃ v0, xs[0]? = some v0) := ⟨_, List.getElem?_eq_getElem (by omega)⟩
 obtain ⟨r0, hr0, ho0, _⟩ := hdb.rown 0 v0 hv0
 obtain ⟨R0, cr0, rfl, _⟩ := ho0.form
 have hr0l : r0.length = cols (dfaOf m) := (by unfold cols; rw [hr0]; rfl)
 obtain ⟨C, hC⟩ : (∃ C, C = cols (dfaOf m)) := ⟨_, rfl⟩
 rw [hr0l, ← hC] at hv0
 rw [hv0] at hc0
 have HCE := Lib.hid hC
 have hC1 : 1 ≤ C := (by rw [hC]; exact hv.c1)
 have hC16 : C ≤ 16 := (by rw [hC]; exact hv.c2)
 obtain ⟨w4, hw4⟩ : (∃ w4 : World, w4 = (w3.alloc (.cells #[.int .i64 (T : Int), .int .i64 g.2.1, .int .i64 g.2.2.1, .slice AR nR cR] 25)).alloc (.cells #[.int .i64 (dfaOf m).1, .slice A n cA, .slice (some ⟨gN, 0, none⟩) n cN] 28)) := ⟨_, rfl⟩
 have hb34 : Below w3.heap.size w3 w4 := (by rw [hw4]; exact ((Below.refl _ _).alloc (Nat.le_refl _) _).alloc (by simp) _)
 have HB34 := Lib.hid hb34
 have y0 : w4.cell? ⟨gN, 0, none⟩ = some (.slice R0 C cr0) := (hb34.cell (cell_lt hc0)).trans hc0
 have HW4 := Lib.hid hw4
 rw [hw4] at y0
 have HXL := Lib.hid hxl
 clear hdb hon hdist hb3 hbd hv hnA hn hc0 hxl hv0 hr0 ho0 hr0l hC hw4 hb34
 go_wp2_with fail
 rw [← HW4.out]
 clear y0
 obtain ⟨B6, hB6⟩ : ∃ B6, B6 = w3.heap.size := ⟨_, rfl⟩
 rw [← hB6]
 have HZ4 := Lib.hid (show w4.heap.size = B6 + 2 by rw [HW4.out, hB6]; simp)
 have HBX6 := Lib.hid (show w4.heap[B6]? = some (.cells #[.int .i64 (T : Int), .int .i64 g.2.1, .int .i64 g.2.2.1, .slice AR nR cR] 25 (0, 0)) by rw [HW4.out, hB6, Below.heap_alloc _ _ _ (by simp)]; exact heap_alloc_new _ _)
 have HBX7 := Lib.hid (show w4.heap[B6 + 1]? = some (.cells #[.int .i64 (dfaOf m).1, .slice A n cA, .slice (some ⟨gN, 0, none⟩) n cN] 28 (0, 0)) by
  rw [HW4.out, show B6 + 1 = (w3.alloc (.cells #[.int .i64 (T : Int), .int .i64 g.2.1, .int .i64 g.2.2.1, .slice AR nR cR] 25)).heap.size by simp [hB6]]
  exact heap_alloc_new _ _)
 have HROW := Lib.hid (show ∀ r ∈ (dfaOf m).2.2, r.length = C from fun r hr => by rw [HCE.out]; exact (HV.out.rows r hr).1)
 have HBB := Lib.hid hB6
 have HPA := Lib.hid (show Pa w4 w4 (Bd + 1) T C B6 (dfaOf m).2.1 (dfaOf m).2.2 (.slice A n cA) gN n cN xs xs 0 0 w4.heap.size from by
  have hd := HDB.out.below HB34.out
  have hon := hd.ownN
  rw [← HN.out] at hon
  have hgNr : rowOf (.slice (some ⟨gN, 0, none⟩) n cN) = some gN := by
   obtain ⟨_, c', e, hc, _⟩ := hon.form
   injection e with _ _ e
   obtain ⟨k, hk⟩ : ∃ k, cN = k + 1 := ⟨cN - 1, by omega⟩
   rw [hk]
   rfl
  have hl3 : ∀ {E : TypeId} {v : Value} {k : Nat} {zs : List Value} {b g' : Nat}, Own w3 b E 1 v k zs → rowOf v = some g' → g' < B6 := fun ho e => by rw [hB6]; exact (ho.row e).2
  refine ⟨hd.ownA, hon, fun j v _ hv => ?_, fun i r hi => by omega, fun g' e => ⟨hl3 HDB.out.ownA e, fun e2 => ?_⟩, fun j v g' hv e => ?_, HDI.out, ⟨hgN, ?_⟩, by rw [HZ4.out]; omega, Nat.le_refl _, by rw [HZ4.out]; omega, .refl _ _⟩
  ·
   obtain ⟨r, h1, h2, _⟩ := hd.rown j v hv
   exact ⟨hv, r, h1, h2⟩
  ·
   subst e2
   exact hd.ne g' e hgNr
  ·
   obtain ⟨r, h1, h2, h3⟩ := HDB.out.rown j v hv
   exact ⟨(h2.row e).1, hl3 h2 e, fun e2 => (h3 g' e).2 (by rw [e2]; exact hgNr), (h3 g' e).1⟩
  ·
   have h1 := HDB.out.ownN
   rw [← HN.out] at h1
   exact hl3 h1 hgNr)
 clear hB6 hgN
 have hT8 : T ≤ 8 := by have := HGV.out.t2; have := HT.out; omega
 have hT1 : 1 ≤ T := by have := HGV.out.t1; have := HT.out; omega
 go_loopg [23] n (fun gs v23 wr => ∃ (s : Nat) (ys : List Value), s ≤ n ∧ gs = n - s ∧ v23 = .int .i64 s ∧ Pa w4 wr (Bd + 1) T C B6 (dfaOf m).2.1 (dfaOf m).2.2 (.slice A n cA) gN n cN xs ys s s wr.heap.size)
 case atStart => exact ⟨0, xs, Nat.zero_le _, rfl, rfl, HPA.out⟩
 case round =>
  obtain ⟨s, ys, hs, hgs, rfl, hpa⟩ := hrel
  obtain ⟨w5, rfl⟩ : ∃ w5 : World, w5 = wr := ⟨_, rfl⟩
  have HGS2 := Lib.hid hgs
  have HP := Lib.hid hpa
  clear hgs hpa
  by_cases hsl : s < n
  ·
   have hsI : (s : Int) < (n : Int) := by omega
   have hs0 : (0 : Int) ≤ (s : Int) := by omega
   obtain ⟨v, hv⟩ : ∃ v, xs[s]? = some v := ⟨_, List.getElem?_eq_getElem (by rw [HXL.out]; exact hsl)⟩
   obtain ⟨hy, r, hr, ho⟩ := HP.out.old s v (Nat.le_refl _) hv
   have hrl := HROW.out r (List.mem_of_getElem? hr)
   obtain ⟨Ar, cr, rfl, hcr, _⟩ := ho.form
   rw [hrl] at ho hv hy
   have y0 := (HP.out.ownN.atP hsl).1.trans hy
   have HVX := Lib.hid hv
   have HRX := Lib.hid hr
   have HRL := Lib.hid hrl
   have HOR := Lib.hid (show Own w5 (Bd + 1) 3 1 (.slice Ar C cr) C ((pcyc C r C).map (Value.int .i64)) by rw [pcyc_self hrl]; exact ho)
   have HPT := Lib.hid HP.out.take
   have hz5 := HP.out.only.size
   clear hv hr hrl ho hcr hy
   go_wp2_with fail
   clear y0
   go_loopg [10] (T - C) (fun gk v10 wr => ∃ (k : Nat) (A' : Option Addr) (c' : Nat), C ≤ k ∧ k ≤ C + (T - C) ∧ gk = T - k ∧ v10 = .slice A' k c' ∧ Own wr (Bd + 1) 3 1 (.slice A' k c') k ((pcyc C r k).map (Value.int .i64)) ∧ (∀ g', rowOf (.slice A' k c') = some g' → rowOf (.slice Ar C cr) = some g' ∨ w5.heap.size ≤ g') ∧ Pa w4 wr (Bd + 1) T C B6 (dfaOf m).2.1 (dfaOf m).2.2 (.slice A n cA) gN n cN xs ys (s + 1) s w5.heap.size)
   case atStart => exact ⟨C, Ar, cr, Nat.le_refl _, by omega, rfl, rfl, HOR.out, fun g' e => .inl e, HPT.out⟩
   case round =>
    obtain ⟨k, A', c', hk1, hk2, hgk, rfl, how, hrow, hpa⟩ := hrel
    obtain ⟨w6, rfl⟩ : ∃ w6 : World, w6 = wr := ⟨_, rfl⟩
    have HGK := Lib.hid hgk
    have HOW := Lib.hid how
    have HRW := Lib.hid hrow
    have HP6 := Lib.hid hpa
    have hbx6 := (hpa.only.block _ (heap_lt HBX6.out) (fun h => by omega)).trans HBX6.out
    have HX6 := Lib.hid hbx6
    have kT : w6.cell? ⟨B6, 0, none⟩ = some (.int .i64 (T : Int)) := by simp [World.cell?, hbx6]
    clear hgk how hrow hpa hbx6
    by_cases hkT : k < T
    ·
     have hkI : (k : Int) < (T : Int) := by omega
     have hC0 : 0 < C := by omega
     have hkm := Nat.mod_lt k hC0
     obtain ⟨gr, rfl, _⟩ := HOW.out.addr (by omega)
     obtain ⟨x, hx⟩ : ∃ x, x = (r[k % C]?).getD 0 := ⟨_, rfl⟩
     have y0 := (HOW.out.atP (x := k % C) (by omega)).1.trans (pcyc_at hC0 HRL.out hk1)
     rw [← hx] at y0
     have hm0 : (0 : Int) ≤ (k : Int) % (C : Int) := by omega
     have hm1 : (k : Int) % (C : Int) < (k : Int) := by
      have : ((k % C : Nat) : Int) = (k : Int) % (C : Int) := by simp
      omega
     have hmt : ((k : Int) % (C : Int)).toNat = k % C := by
      have : ((k % C : Nat) : Int) = (k : Int) % (C : Int) := by simp
      omega
     obtain ⟨v2, w8, hrun, ho2, hg2, hrow2⟩ := run_append_Own tInts (w6.alloc (.cells #[.int .i64 x] 3)) 22 (Bd + 1) (.slice (some ⟨gr, 0, none⟩) k c') k _ (HOW.out.alloc _) (fun _ => True) (some ⟨w6.heap.size, 0, none⟩) 1 1 [.int .i64 x]
      (Rd.new w6 _ _ [.int .i64 x] _ rfl trivial) (by intro u hu; obtain rfl := List.mem_singleton.1 hu; rfl) (by unfold maxLen; omega) (by omega) (by have h1 := HDB.out.le; have h2 := HP6.out.le; have h3 := HZ4.out; have h4 := HBB.out; simp; omega)
     obtain ⟨A2, c2, rfl, _, _⟩ := ho2.form
     have HO2 := Lib.hid (show Own w8 (Bd + 1) 3 1 (.slice A2 (k + 1) c2) (k + 1) ((pcyc C r (k + 1)).map (Value.int .i64)) by
      rw [pcyc_succ, List.map_append, ← hx]
      exact ho2)
     have HRW2 := Lib.hid (show ∀ g', rowOf (.slice A2 (k + 1) c2) = some g' → rowOf (.slice Ar C cr) = some g' ∨ w5.heap.size ≤ g' from fun g' e => by
      rcases hrow2 with e2 | e2
      ·
       rw [e2] at e
       exact HRW.out g' e
      ·
       rw [e2] at e
       injection e with e
       have := HP6.out.le
       simp at e
       exact .inr (by omega))
     have HP8 := Lib.hid ((HP6.out.alloc hz5 (.cells #[.int .i64 x] 3)).grown hz5 hg2 fun g' e => (HRW.out g' e).imp (fun h => ⟨_, HVX.out, h⟩) id)
     have HRUN := Lib.hid hrun
     clear hrun ho2 hg2 hrow2 hx
     go_wp2_with (at_builtin; refine Lib.wpList_append_run (o := ⟨some 42, _, _, _, _, _⟩) _ rfl _ _ _ _ rfl _ _ rfl rfl _ _ HRUN.out ?_)
     go_roundg (T - (k + 1))
     case measure => rw [HGK.out]; omega
     case rel => exact ⟨k + 1, A2, c2, by omega, by omega, rfl, by rfl, HO2.out, HRW2.out, HP8.out⟩
    ·
     have hkn : ¬ ((k : Int) < (T : Int)) := by omega
     have hkd : decide (k < T) = false := by simpa using hkT
     have hbx7 := (HP6.out.only.block _ (heap_lt HBX7.out) (fun h => by omega)).trans HBX7.out
     have kN : w6.cell? ⟨B6 + 1, 2, none⟩ = some (.slice (some ⟨gN, 0, none⟩) n cN) := by simp [World.cell?, hbx7]
     have hkc : k ≤ c' := by
      obtain ⟨_, _, hfe, hkc, _⟩ := HOW.out.form
      injection hfe with _ _ hfe
      omega
     have hsl2 : ∀ u : World, (Instr.slice 22 (.slice A' k c') none (some (.int .i64 (T : Int))) none).run Try.prog u = .ok (.slice A' T c') u := fun u => tInts.hN A' k c' T (by omega) u
     obtain ⟨hgc, hgf, _, _⟩ := HP6.out.ownN.atP hsl
     have hyl := HP6.out.ownN.len
     rw [List.getElem?_eq_getElem (by omega)] at hgc
     obtain ⟨y, hy⟩ : ∃ y, y = ys[s]'(by omega) := ⟨_, rfl⟩
     rw [← hy] at hgc
     have hTc : (T : Int) ≤ (c' : Int) := by omega
     have HPP := Lib.hid (HP6.out.put HN.out hsl HVX.out HRX.out HOW.out (by omega) HRW.out hkc)
     clear hbx7 hyl hy
     go_wp2_with fail
     go_region
     clear hgc hgf hsl2 kT kN
     go_wp2_with fail
     go_roundg (n - (s + 1))
     case measure => rw [HGS2.out]; omega
     case rel => exact ⟨s + 1, _, by omega, rfl, by go_num, HPP.out.drew.room⟩
  ·
   obtain rfl : n = s := by omega
   have hbx6 := (HP.out.only.block _ (heap_lt HBX6.out) (fun h => by omega)).trans HBX6.out
   have hbx7 := (HP.out.only.block _ (heap_lt HBX7.out) (fun h => by omega)).trans HBX7.out
   have hz1 := HZ1.out
   have hz2 := HB2.out.size
   have hz3 := HB3.out.size
   have hbd := HBD.out
   have HB14 := Lib.hid (show Below w1.heap.size w1 w4 from HB2.out.trans ((HB3.out.mono hz2).trans (HB34.out.mono (by omega))))
   have HB45 := Lib.hid (show Below w2.heap.size w4 w5 from HP.out.only.below (fun b hb => by omega) (by have := HB34.out.size; omega))
   have HB15 := Lib.hid (HB14.out.trans (HB45.out.mono hz2))
   have hg4 := (HB15.out.block _ (by omega)).trans HG4.out
   have hg5 := (HB15.out.block _ (by omega)).trans HG5.out
   have HH4 := Lib.hid hg4
   have HH5 := Lib.hid hg5
   obtain ⟨y0, y1, y2, y3⟩ : w5.cell? ⟨B6, 0, none⟩ = some (.int .i64 (T : Int)) ∧ w5.cell? ⟨B6, 1, none⟩ = some (.int .i64 g.2.1) ∧ w5.cell? ⟨B6, 2, none⟩ = some (.int .i64 g.2.2.1) ∧ w5.cell? ⟨B6, 3, none⟩ = some (.slice AR nR cR) := ⟨by simp [World.cell?, hbx6], by simp [World.cell?, hbx6], by simp [World.cell?, hbx6], by simp [World.cell?, hbx6]⟩
   obtain ⟨z0, z1, z2⟩ : w5.cell? ⟨B6 + 1, 0, none⟩ = some (.int .i64 (dfaOf m).1) ∧ w5.cell? ⟨B6 + 1, 1, none⟩ = some (.slice A n cA) ∧ w5.cell? ⟨B6 + 1, 2, none⟩ = some (.slice (some ⟨gN, 0, none⟩) n cN) := ⟨by simp [World.cell?, hbx7], by simp [World.cell?, hbx7], by simp [World.cell?, hbx7]⟩
   obtain ⟨a0, a1, a2, a3⟩ : w5.cell? ⟨w.heap.size, 0, none⟩ = some (.int .i64 0) ∧ w5.cell? ⟨w.heap.size, 1, none⟩ = some (.int .i64 0) ∧ w5.cell? ⟨w.heap.size, 2, none⟩ = some (.int .i64 0) ∧ w5.cell? ⟨w.heap.size, 3, none⟩ = some (.slice none 0 0) := ⟨by simp [World.cell?, hg4], by simp [World.cell?, hg4], by simp [World.cell?, hg4], by simp [World.cell?, hg4]⟩
   obtain ⟨b0, b1, b2⟩ : w5.cell? ⟨w.heap.size + 1, 0, none⟩ = some (.int .i64 0) ∧ w5.cell? ⟨w.heap.size + 1, 1, none⟩ = some (.slice none 0 0) ∧ w5.cell? ⟨w.heap.size + 1, 2, none⟩ = some (.slice none 0 0) := ⟨by simp [World.cell?, hg5], by simp [World.cell?, hg5], by simp [World.cell?, hg5]⟩
   have hf4 : ∀ o, w5.frozen? ⟨w.heap.size, o, none⟩ = false := fun o => by simp [World.frozen?, hg4]
   have hf5 : ∀ o, w5.frozen? ⟨w.heap.size + 1, o, none⟩ = false := fun o => by simp [World.frozen?, hg5]
   have hne1 : B6 ≠ w.heap.size := by have := HBB.out; omega
   have hne2 : B6 + 1 ≠ w.heap.size := by have := HBB.out; omega
   have hne3 : B6 ≠ w.heap.size + 1 := by have := HBB.out; omega
   clear hbx6 hbx7 hg4 hg5 hz1 hz2 hz3 hbd
   go_wp2_with fail
   go_region
   have hS : ∀ (u : World) (a o : Nat) (v : Value), Only u (u.setCell ⟨a, o, none⟩ v) (fun b => b = a) := fun u a o v => Only.set _ _ _ _ rfl
   obtain ⟨w6, hw6⟩ : ∃ w6 : World, w6 = (((w5.setCell ⟨w.heap.size, 0, none⟩ (.int .i64 (T : Int))).setCell ⟨w.heap.size, 1, none⟩ (.int .i64 g.2.1)).setCell ⟨w.heap.size, 2, none⟩ (.int .i64 g.2.2.1)).setCell ⟨w.heap.size, 3, none⟩ (.slice AR nR cR) := ⟨_, rfl⟩
   rw [← hw6]
   have ho6 : Only w5 w6 (fun b => b = w.heap.size) := by rw [hw6]; exact (hS _ _ _ _).trans ((hS _ _ _ _).trans ((hS _ _ _ _).trans (hS _ _ _ _)))
   have q4 : w6.heap[w.heap.size]? = some (.cells #[.int .i64 (T : Int), .int .i64 g.2.1, .int .i64 g.2.2.1, .slice AR nR cR] 25 (0, 0)) := by
    rw [hw6]
    simpa using blk_set (blk_set (blk_set (blk_set HH4.out 0 (.int .i64 (T : Int))) 1 (.int .i64 g.2.1)) 2 (.int .i64 g.2.2.1)) 3 (.slice AR nR cR)
   have q5 := (ho6.block _ (heap_lt HH5.out) (by omega)).trans HH5.out
   obtain ⟨w7, hw7⟩ : ∃ w7 : World, w7 = (((w6.setCell ⟨w.heap.size + 1, 0, none⟩ (.int .i64 (dfaOf m).1)).setCell ⟨w.heap.size + 1, 1, none⟩ (.slice A n cA)).setCell ⟨w.heap.size + 1, 2, none⟩ (.slice (some ⟨gN, 0, none⟩) n cN)).drew := ⟨_, rfl⟩
   rw [← hw7]
   have ho7 : Only w6 w7 (fun b => b = w.heap.size + 1) := by rw [hw7]; exact (hS _ _ _ _).trans ((hS _ _ _ _).trans ((hS _ _ _ _).trans (.drew _ _)))
   have p5 : w7.heap[w.heap.size + 1]? = some (.cells #[.int .i64 (dfaOf m).1, .slice A n cA, .slice (some ⟨gN, 0, none⟩) n cN] 28 (0, 0)) := by
    rw [hw7]
    show (((w6.setCell ⟨w.heap.size + 1, 0, none⟩ (.int .i64 (dfaOf m).1)).setCell ⟨w.heap.size + 1, 1, none⟩ (.slice A n cA)).setCell ⟨w.heap.size + 1, 2, none⟩ (.slice (some ⟨gN, 0, none⟩) n cN)).heap[w.heap.size + 1]? = _
    simpa using blk_set (blk_set (blk_set q5 0 (.int .i64 (dfaOf m).1)) 1 (.slice A n cA)) 2 (.slice (some ⟨gN, 0, none⟩) n cN)
   have p4 := (ho7.block _ (heap_lt q4) (by omega)).trans q4
   have ho57 : Only w5 w7 (fun b => b = w.heap.size ∨ b = w.heap.size + 1) := (ho6.more fun b _ h => .inl h).trans (ho7.more fun b _ h => .inr h)
   have hz1 := HZ1.out
   have hz2 := HB2.out.size
   have hz3 := HB3.out.size
   have hz34 := HB34.out.size
   have hbd := HBD.out
   have HBF := Lib.hid (show Below w.heap.size w w7 from (HB1.out.trans (HB15.out.mono (by omega))).trans (ho57.below (fun b hb => by omega) (by have := HB15.out.size; omega)))
   have HPR := Lib.hid (show PairR w.heap.size (.returned (.tuple #[.agg #[.int .i64 (T : Int), .int .i64 g.2.1, .int .i64 g.2.2.1, .slice AR nR cR], .agg #[.int .i64 (dfaOf m).1, .slice A n cA, .slice (some ⟨gN, 0, none⟩) n cN]])) w7 from by
    obtain ⟨hpv, hpc⟩ := padD_valid (T := T) HV.out hT1 (by omega)
    have hgl := (HGR.out.below (HB3.out.trans (HB34.out.mono hz3))).keep (.belowB HB45.out fun b hb => hb.2)
    obtain ⟨_, cA', eA, hcA, _⟩ := HP.out.ownA.form
    injection eA with eA1 eA2 eA3
    have hna : (dfaOf m).2.1.length = n := eA2.symm
    have hoa := HP.out.ownA
    rw [hna] at hoa
    refine ⟨g, padD T (dfaOf m), AR, cR, A, n, cA, some ⟨gN, 0, none⟩, n, cN, HGS.out, ⟨HGV.out, hpv, by rw [hpc]; exact HT.out, ?_⟩, ?_, ?_, ?_, ?_⟩
    ·
     show ((dfaOf m).2.2.map _).length ≤ 12
     rw [List.length_map, ← HN.out]
     omega
    ·
     rw [← HNR.out, HT.out]
     rfl
    ·
     rw [← HNR.out]
     refine (hgl.keep (ho57.kept fun b hb h => ?_)).more fun b hb => ?_
     ·
      have hb := hb.1
      omega
     ·
      have hb := hb.1
      omega
    ·
     refine ((hoa.rd.slInts (by omega)).keep (ho57.kept fun b hb h => ?_)).more fun b hb => ?_
     ·
      have hb : Bd + 1 ≤ b := hb
      omega
     ·
      have hb : Bd + 1 ≤ b := hb
      omega
    ·
     have h1 := HP.out.all HN.out
     rw [HCE.out] at h1
     refine (h1.keep (ho57.kept fun b hb h => ?_)).more fun b hb => ?_
     ·
      have hb : Bd + 1 ≤ b := hb
      omega
     ·
      have hb : Bd + 1 ≤ b := hb
      omega)
   clear y0 y1 y2 y3 z0 z1 z2 a0 a1 a2 a3 b0 b1 b2 hf4 hf5 hne1 hne2 hne3 hS hw6 hw7 ho6 ho7 ho57 q4 q5 hz1 hz2 hz3 hz34 hbd
   obtain ⟨a0, a1, a2, a3⟩ : w7.cell? ⟨w.heap.size, 0, none⟩ = some (.int .i64 (T : Int)) ∧ w7.cell? ⟨w.heap.size, 1, none⟩ = some (.int .i64 g.2.1) ∧ w7.cell? ⟨w.heap.size, 2, none⟩ = some (.int .i64 g.2.2.1) ∧ w7.cell? ⟨w.heap.size, 3, none⟩ = some (.slice AR nR cR) := ⟨by simp [World.cell?, p4], by simp [World.cell?, p4], by simp [World.cell?, p4], by simp [World.cell?, p4]⟩
   obtain ⟨b0, b1, b2⟩ : w7.cell? ⟨w.heap.size + 1, 0, none⟩ = some (.int .i64 (dfaOf m).1) ∧ w7.cell? ⟨w.heap.size + 1, 1, none⟩ = some (.slice A n cA) ∧ w7.cell? ⟨w.heap.size + 1, 2, none⟩ = some (.slice (some ⟨gN, 0, none⟩) n cN) := ⟨by simp [World.cell?, p5], by simp [World.cell?, p5], by simp [World.cell?, p5]⟩
   clear p4 p5
   go_wp2_with fail
   refine Go.bodyPost_ret (v := .tuple #[.agg #[.int .i64 (T : Int), .int .i64 g.2.1, .int .i64 g.2.2.1, .slice AR nR cR], .agg #[.int .i64 (dfaOf m).1, .slice A n cA, .slice (some ⟨gN, 0, none⟩) n cN]]) ?_ rfl ⟨HPR.out, HBF.out⟩
   rw [results_cell_cell rfl]
   go_simp
end Go.Proofs.Ytbmcoamdfpegnaa
