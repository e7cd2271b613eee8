/- MergeOrder: its walk. -/
import Derived.Test.YtgaahpddlohjoaaMergeEx
import Derived.Test.YtgaahpddlohjoaaRevW
import Derived.Deep.LoopGhost
namespace Go.Proofs.Ytgaahpddlohjoaa
open Go.RowKit

set_option linter.unusedSimpArgs false in
set_option maxRecDepth 1000000 in
set_option maxHeartbeats 20000000 in
theorem mergeOrder_walk (W : World) (A0 : Option Addr) (n0 c0 : Nat) (z0 : List Int) (le0 : n0 ≤ c0) (cap0 : c0 ≤ 17592186043904) (rd0 : Rd W (fun _ => True) 1 A0 n0 (z0.map (Value.int .i64))) (_rg0 : ∀ z ∈ z0, -9223372036854775808 ≤ z ∧ z ≤ 9223372036854775807)
    (A1 : Option Addr) (n1 c1 : Nat) (z1 : List Int) (le1 : n1 ≤ c1) (cap1 : c1 ≤ 17592186043904) (rd1 : Rd W (fun _ => True) 1 A1 n1 (z1.map (Value.int .i64))) (_rg1 : ∀ z ∈ z1, -9223372036854775808 ≤ z ∧ z ≤ 9223372036854775807)
    (x2 : Int) (_lo2 : -9223372036854775808 ≤ x2) (_hi2 : x2 ≤ 9223372036854775807) :
    Calls Try.prog 9 #[.slice A0 n0 c0, .slice A1 n1 c1, .int .i64 x2] W fun e W' => e = .returned (.bool true) ∧ Below W.heap.size W W' := by
  have HR0 := Lib.hid (rd0.slInts le0)
  have HR1 := Lib.hid (rd1.slInts le1)
  have HV := Lib.hid (dfaOf_valid z0)
  clear rd0 rd1 _rg0 _rg1
  go_enter Try.func9, Try.ntmps9
  go_wp2_with fail
  refine (makeDfa _ _ _ _ _ z0 HR0.out (by omega)).mono ?_
  rintro e w1 ⟨Bd, vA, vN, xs, hBd, rfl, hD, hb1⟩
  obtain ⟨d, hd⟩ : ∃ d, d = dfaOf z0 := ⟨_, rfl⟩
  rw [← hd] at hD HV ⊢
  clear hd
  obtain ⟨A, cA, rfl, hcA, _⟩ := hD.ownA.form
  obtain ⟨N, cN, rfl, hcN, _⟩ := hD.ownN.form
  obtain ⟨hsA, hsN⟩ := hD.sl
  have HSA := Lib.hid hsA
  have HSN := Lib.hid hsN
  have HB1 := Lib.hid hb1
  have hz1 := hb1.size
  obtain ⟨nA, hnA⟩ : ∃ k, k = d.2.1.length := ⟨_, rfl⟩
  obtain ⟨nN, hnN⟩ : ∃ k, k = d.2.2.length := ⟨_, rfl⟩
  rw [← hnA] at HSA hcA ⊢
  rw [← hnN] at HSN hcN ⊢
  have hN1 : (0 : Int) < (nN : Int) := by have := HV.out.n1; omega
  obtain ⟨bN, oN, AR, mR, cR, r0, rfl, _, _, hcr, hr0, hrs0⟩ := row_at HSN.out (k := 0) (by omega)
  obtain rfl : mR = cols d := by
    rw [hrs0.len]
    unfold cols
    rw [hr0]
    rfl
  have HCR := Lib.hid hcr
  have hltN : bN < w1.heap.size := cell_lt hcr
  have hc1 : 1 ≤ cols d := HV.out.c1
  have hc2 : cols d ≤ 16 := HV.out.c2
  clear hb1 hD hsA hsN hnA hnN hcr hr0 hrs0
  go_wp2_with fail
  obtain ⟨w2, hw2⟩ : ∃ w2 : World, w2 = w1.alloc (.cells #[.int .i64 d.1, .slice A nA cA, .slice (some ⟨bN, oN, none⟩) nN cN] 25) := ⟨_, rfl⟩
  rw [← hw2]
  have hz2 : w2.heap.size = w1.heap.size + 1 := by rw [hw2]; simp
  have hb2 : Below w1.heap.size w1 w2 := by rw [hw2]; exact (Below.refl _ _).alloc (Nat.le_refl _) _
  have HD := Lib.hid (show w2.heap[w1.heap.size]? = some (.cells #[.int .i64 d.1, .slice A nA cA, .slice (some ⟨bN, oN, none⟩) nN cN] 25 (0, 0)) by rw [hw2]; exact heap_alloc_new _ _)
  have HB2 := Lib.hid (HB1.out.trans (hb2.mono hz1))
  have HB12 := Lib.hid hb2
  rw [← hz2]
  clear hw2 hb2
  obtain ⟨hlY, hlN⟩ := lit_wordsM (w := w2)
  refine (mergeOfI _ 1 1 rfl (by omega) (by omega) _ _ 1 1 [[0]] hlY _ _ 1 1 [[]] hlN (by omega) (by simp) (by simp [sumLen]) (by simp)).mono ?_
  rintro e w3 ⟨⟨L3, m3, A3, nA3, cA3, N3, n3, cN3, rfl, -, hN3, hP3, -⟩, hb3⟩
  obtain rfl : n3 = 2 := by rw [hN3.len]; exact (two_states hP3).2
  have hz3 := hb3.size
  simp only [World.size_alloc] at hz3
  have HB3 := Lib.hid (show Below w2.heap.size w2 w3 from (((((Below.refl w2.heap.size w2).alloc (Nat.le_refl _) _).alloc (by simp) _).alloc (by simp; omega) _).alloc (by simp; omega) _).trans (hb3.mono (by simp; omega)))
  clear hlY hlN hb3 hN3 hP3
  have hd3 := (HB3.out.block _ (by omega)).trans HD.out
  have ltD : w1.heap.size < w3.heap.size := by omega
  obtain ⟨kd0, kd1, kd2⟩ : w3.cell? ⟨w1.heap.size, 0, none⟩ = some (.int .i64 d.1) ∧ w3.cell? ⟨w1.heap.size, 1, none⟩ = some (.slice A nA cA) ∧ w3.cell? ⟨w1.heap.size, 2, none⟩ = some (.slice (some ⟨bN, oN, none⟩) nN cN) := by simp [World.cell?, hd3]
  clear hd3
  go_wp2_with fail
  obtain ⟨w4, hw4⟩ : ∃ w4 : World, w4 = w3.alloc (.cells #[.int .i64 0, .slice A3 nA3 cA3, .slice N3 2 cN3] 25) := ⟨_, rfl⟩
  rw [← hw4]
  have hz4 : w3.heap.size < w4.heap.size := by rw [hw4]; simp
  have HB24 := Lib.hid (show Below w2.heap.size w2 w4 by rw [hw4]; exact HB3.out.alloc HB3.out.size _)
  clear hw4 kd0 kd1 kd2
  have HB14 := Lib.hid (HB12.out.trans (HB24.out.mono (by omega)))
  have HB4 := Lib.hid (HB2.out.trans (HB24.out.mono HB2.out.size))
  refine (keepExamples w4 _ A nA cA (some ⟨bN, oN, none⟩) nN cN d (HSA.out.below HB14.out) (HSN.out.below HB14.out) HV.out _ A1 n1 c1 z1 (HR1.out.below HB4.out) (by omega)).mono ?_
  rintro e w5 ⟨⟨Ay, cy, An, cn, ys, ns, rfl, htw, hok⟩, hb5⟩
  have hz5 := hb5.size
  have HTW := Lib.hid htw
  have HOK := Lib.hid hok
  have HWD := Lib.hid hok.words
  have hlen := hok.len
  obtain ⟨ny, hny⟩ : ∃ k, k = ys.length := ⟨_, rfl⟩
  obtain ⟨nn, hnn⟩ : ∃ k, k = ns.length := ⟨_, rfl⟩
  have HLY := Lib.hid (And.intro hny hnn)
  rw [← hny, ← hnn] at HTW hlen ⊢
  have HB25 := Lib.hid (HB24.out.trans (hb5.mono HB24.out.size))
  have HB5 := Lib.hid (HB4.out.trans (hb5.mono HB4.out.size))
  have hz25 := HB25.out.size
  have hd5 := (HB25.out.block _ (by omega)).trans HD.out
  have ltD5 : w1.heap.size < w5.heap.size := by omega
  have kd2 : w5.cell? ⟨w1.heap.size, 2, none⟩ = some (.slice (some ⟨bN, oN, none⟩) nN cN) := by simp [World.cell?, hd5]
  have kr : w5.cell? ⟨bN, oN, none⟩ = some (.slice AR (cols d) cR) := ((HB12.out.trans (HB25.out.mono (by omega))).cell hltN).trans HCR.out
  clear htw hok hb5 hny hnn hd5
  go_wp2_with fail
  refine (mergeOfI w5 (cols d : Int) (cols d) rfl hc1 hc2 _ Ay ny cy ys HTW.out.slY _ An nn cn ns HTW.out.slN (by omega) (fun x hx => ⟨by have := (HWD.out.1 x hx).1; omega, (HWD.out.1 x hx).2⟩) (by have := HWD.out.2.1; omega) HWD.out.2.2).mono ?_
  rintro e w6 ⟨⟨L, m, A6, nA6, cA6, N6, n6, cN6, rfl, hA6, hN6, hP, hL⟩, hb6⟩
  have hz6 := hb6.size
  have HA6 := Lib.hid hA6
  have HN6 := Lib.hid hN6
  have HP := Lib.hid hP
  have HB6 := Lib.hid hb6
  have HB06 := Lib.hid (HB5.out.trans (hb6.mono HB5.out.size))
  have HVC := Lib.hid (hP.valid hL HWD.out.2.2 hc1 hc2)
  clear hA6 hN6 hP hb6
  clear kd2 kr
  obtain ⟨w7, hw7⟩ : ∃ w7 : World, w7 = w6.alloc (.cells #[.int .i64 0, .slice A6 nA6 cA6, .slice N6 n6 cN6] 25) := ⟨_, rfl⟩
  have HB7 := Lib.hid (show Below w6.heap.size w6 w7 by rw [hw7]; exact (Below.refl _ _).alloc (Nat.le_refl _) _)
  have HX7 := Lib.hid (show w7.heap[w6.heap.size]? = some (.cells #[.int .i64 0, .slice A6 nA6 cA6, .slice N6 n6 cN6] 25 (0, 0)) by rw [hw7]; exact heap_alloc_new _ _)
  have hz7 : w6.heap.size < w7.heap.size := by rw [hw7]; simp
  go_wp2_with fail
  rw [← hw7]
  clear hw7
  have HW7 := Lib.hid (HB06.out.trans (HB7.out.mono HB06.out.size))
  have HTW7 := Lib.hid (HTW.out.below (HB6.out.trans (HB7.out.mono hz6)))
  have HSY7 := Lib.hid HTW7.out.slY
  have HSN7 := Lib.hid HTW7.out.slN
  obtain ⟨x1, e1, f1, r1, q1⟩ := HSY7.out.fit
  refine (cloneW Ay ny cy _ x1 w7 r1 (by omega)).mono ?_
  rintro e w8 ⟨va, rfl, hoa, hb8⟩
  obtain ⟨Aa, ca, rfl, hca, _⟩ := hoa.form
  have hz8 := hb8.size
  have HOA8 := Lib.hid hoa
  have HQ1 := Lib.hid (show Cells RIV w8 (fun b => b < w7.heap.size) x1 ys from (q1.keep (.below hb8)).more fun b hb => hb.2)
  have HB8 := Lib.hid hb8
  clear hoa hb8 e1 f1 r1 q1
  go_wp2_with fail
  obtain ⟨x2', e2, f2, r2, q2⟩ := HSN7.out.fit.below HB8.out
  refine (cloneW An nn cn _ x2' w8 r2 (by omega)).mono ?_
  rintro e w9 ⟨vb, rfl, hob, hb9⟩
  obtain ⟨Ab, cb, rfl, hcb, _⟩ := hob.form
  have hz9 := hb9.size
  have HOB9 := Lib.hid hob
  have HQ2 := Lib.hid (show Cells RIV w9 (fun b => b < w7.heap.size) x2' ns from (q2.keep (.below hb9)).more fun b hb => hb.2)
  have HOA9 := Lib.hid (HOA8.out.below hb9 (Nat.le_refl _))
  have HQ19 := Lib.hid (HQ1.out.keep (.below hb9))
  have HB9 := Lib.hid (HB8.out.trans (hb9.mono hz8))
  clear hob hb9 e2 f2 r2 q2
  have hsm : ∀ l ∈ ys ++ ns, l.length ≤ 1000 := fun l hl => by have := (HWD.out.1 l hl).1; omega
  have HSM := Lib.hid hsm
  have HROWA := Lib.hid (show ∀ g, rowOf (.slice Aa ny ca) = some g → w7.heap.size ≤ g ∧ g < w8.heap.size from fun g e => HOA8.out.row e)
  have HROWB := Lib.hid (show ∀ g, rowOf (.slice Ab nn cb) = some g → w8.heap.size ≤ g ∧ g < w9.heap.size from fun g e => HOB9.out.row e)
  clear hsm
  go_wp2_with fail
  refine (reverseW w9 (fun b => b < w7.heap.size) w7.heap.size Aa ny ca x1 ys HLY.out.1.symm HOA9.out HQ19.out (fun b hb e => by have := (HROWA.out b e).1; omega) (fun l hl => HSM.out l (List.mem_append_left _ hl)) (by omega)).mono ?_
  rintro e w10 ⟨rfl, ⟨xa, hoa10, hqa10⟩, hg10⟩
  have hz10 := hg10.size
  have HB10 := Lib.hid (show Below w7.heap.size w7 w10 from HB9.out.grown hg10 (by omega) (fun g e => (HROWA.out g e).1))
  have HOB10 := Lib.hid (show Own w10 w8.heap.size 22 1 (.slice Ab nn cb) nn x2' from HOB9.out.kept hg10 fun g e e' => by have := (HROWA.out g e).2; have := (HROWB.out g e').1; omega)
  have HQ210 := Lib.hid (show Cells RIV w10 (fun b => b < w7.heap.size) x2' ns from HQ2.out.keep (Kept.grown hg10 fun b hb e => by have := (HROWA.out b e).1; omega))
  have HSA10 := Lib.hid (show Sl RIV w10 (fun b => b < w8.heap.size) Aa ny ca ys.reverse from by
    refine ⟨xa, by rw [List.length_reverse]; exact HLY.out.1, hca, ?_, hqa10.more fun b hb => by omega⟩
    rcases Nat.eq_zero_or_pos ny with h0 | h0
    · subst h0
      have hxa : xa = [] := List.eq_nil_of_length_eq_zero (by have := hoa10.len; simpa using this)
      subst hxa
      exact Rd.nil
    · obtain ⟨g, cur, rfl, _, hh, _, hrow, hcur⟩ := hoa10.blkS h0
      exact ⟨hoa10.len, fun _ => ⟨g, 0, rfl, (HROWA.out g hrow).2, fun j u hu => by
        rw [cell_of_row _ _ _ _ _ _ hh, Nat.zero_add]
        exact hcur j u hu⟩⟩)
  clear hoa10 hqa10 hg10
  have HB2 := Lib.hid HB25.out
  have hzz7 : w5.heap.size ≤ w7.heap.size := by omega
  have HB27 := Lib.hid (HB25.out.trans ((HB6.out.trans (HB7.out.mono hz6)).mono hz25))
  by_cases h0 : 0 < nn
  · have hnI : decide ((0 : Int) < (nn : Int)) = true := by simp; omega
    have hnN : decide (0 < nn) = true := by simp; omega
    obtain ⟨q, hq⟩ : ∃ q : Nat, x2 % (nn : Int) = (q : Int) := ⟨(x2 % (nn : Int)).toNat, by have := Int.emod_nonneg x2 (show (nn : Int) ≠ 0 by omega); omega⟩
    have hqn : q < nn := by have := Int.emod_lt_of_pos x2 (show (0 : Int) < (nn : Int) by omega); omega
    obtain ⟨u, hu, x, hx, hux⟩ : ∃ u, x2'[q]? = some u ∧ ∃ x, ns[q]? = some x ∧ RIV.ok w10 (fun b => b < w7.heap.size) [u] x := by
      have hl : q < ns.length := by rw [← HLY.out.2]; exact hqn
      obtain ⟨u, h1, h2⟩ := HQ210.out.get1 rfl hl
      exact ⟨u, h1, ns[q], List.getElem?_eq_getElem hl, h2⟩
    obtain ⟨A4, m4, c4, e4, hs4⟩ := hux
    simp only [List.cons.injEq, and_true] at e4
    subst e4
    obtain ⟨gb, curb, rfl, _, hhb, _, hrowb, hcurb⟩ := HOB10.out.blkS h0
    have hcq : w10.cell? ⟨gb, q, none⟩ = some (.slice A4 m4 c4) := by
      rw [cell_of_row _ _ _ _ _ _ hhb]
      exact hcurb q _ hu
    obtain ⟨v11, w11, hrun, ho11, hg11, hb11⟩ := run_append_lit tIntss (R := RIV) rfl w10 23 w8.heap.size (fun b => b < w7.heap.size) (.slice (some ⟨gb, 0, none⟩) nn cb) ns ⟨x2', by rw [← HLY.out.2]; exact HOB10.out, HQ210.out.more fun b hb => ⟨.inl hb, fun e => by have := (HROWB.out b e).1; omega⟩⟩ 1 [x] [.slice A4 m4 c4]
      (Cells.single ⟨A4, m4, c4, rfl, hs4.more fun b hb => ⟨.inl hb, fun e => by have := (HROWB.out b e).1; omega⟩⟩) rfl (by rw [← HLY.out.2]; unfold maxLen; omega) (by rw [← HLY.out.2]; omega) (by omega)
    obtain ⟨Ac, cc, rfl, hcc, _⟩ := ho11.form
    obtain ⟨bs, hbs⟩ : ∃ bs, bs = ns ++ [x] := ⟨_, rfl⟩
    have hbsl : (ns ++ [x]).length = nn + 1 := by rw [List.length_append, ← HLY.out.2]; rfl
    have HBS := Lib.hid (show (∀ v, v ∈ ns ↔ v ∈ bs) ∧ bs.length = nn + 1 from ⟨fun v => by
      rw [hbs, List.mem_append, List.mem_singleton]
      constructor
      · exact .inl
      · rintro (h | h)
        · exact h
        · rw [h]; exact List.mem_of_getElem? hx, by rw [hbs]; exact hbsl⟩)
    have HSB := Lib.hid (show Sl RIV w11 (fun _ => True) Ac (nn + 1) cc bs by
      have h1 := ho11
      rw [hbsl] at h1
      have h2 := h1.sl.more (S' := fun _ => True) fun _ _ => trivial
      rw [hbs]
      exact h2)
    rw [hbsl] at hrun
    have HRUN := Lib.hid hrun
    have HB11 := Lib.hid hb11
    have hz11 : w10.heap.size ≤ w11.heap.size := by have := hg11.size; simp at this; omega
    have hqI : (q : Int) < (nn : Int) := by omega
    have hq0 : (0 : Int) ≤ (q : Int) := by omega
    clear hu hx hs4 hhb hcurb hrowb ho11 hg11 hb11 hrun hbs hbsl
    go_wp2_with fail
    refine (keepBelow x2 (nn : Int) w10 (by omega) (by omega)).mono ?_
    rintro e _ ⟨rfl, rfl⟩
    rw [hq]
    clear hq
    have HSA11 := Lib.hid (HSA10.out.keep (.belowB HB11.out fun b hb => hb))
    have HB711 := Lib.hid (HB10.out.trans (HB11.out.mono hz8))
    have HB211 := Lib.hid (HB27.out.trans (HB711.out.mono (by have := HB27.out.size; omega)))
    have hd11 := (HB211.out.block _ (by omega)).trans HD.out
    have ltD11 : w1.heap.size < w11.heap.size := by have := HB211.out.size; omega
    have kd2 : w11.cell? ⟨w1.heap.size, 2, none⟩ = some (.slice (some ⟨bN, oN, none⟩) nN cN) := by simp [World.cell?, hd11]
    have kr : w11.cell? ⟨bN, oN, none⟩ = some (.slice AR (cols d) cR) := ((HB12.out.trans (HB211.out.mono (by omega))).cell hltN).trans HCR.out
    clear hd11
    go_wp2_with (at_builtin; refine Lib.wpList_append_run (o := ⟨some 71, _, _, _, _, _⟩) _ rfl _ _ _ _ rfl _ _ rfl rfl _ _ HRUN.out ?_)
    have hwsR : ∀ z ∈ ys.reverse ++ bs, z.length ≤ 4 ∧ ∀ y ∈ z, 0 ≤ y ∧ y < (cols d : Int) := fun z hz => by
      refine HWD.out.1 z (List.mem_append.2 ?_)
      rcases List.mem_append.1 hz with h | h
      · exact .inl (List.mem_reverse.1 h)
      · exact .inr ((HBS.out.1 z).2 h)
    have hsumR : sumLen (ys.reverse ++ bs) ≤ 52 := by
      have h1 := sumLen_le (k := 4) fun z hz => (hwsR z hz).1
      rw [List.length_append, List.length_reverse, HBS.out.2, ← HLY.out.1] at h1
      omega
    refine (mergeOfI w11 (cols d : Int) (cols d) rfl hc1 hc2 _ Aa ny ca ys.reverse HSA11.out _ Ac (nn + 1) cc bs HSB.out (by omega) (fun z hz => ⟨by have := (hwsR z hz).1; omega, (hwsR z hz).2⟩) (by omega) (fun z hz hb => HWD.out.2.2 z (List.mem_reverse.1 hz) ((HBS.out.1 z).2 hb))).mono ?_
    rintro e w12 ⟨⟨L2, m2, A12, nA12, cA12, N12, n12, cN12, rfl, hA12, hN12, hP2, hL2⟩, hb12⟩
    obtain rfl : m = m2 := HP.out.same hP2 (fun z => List.mem_reverse.symm) HBS.out.1
    have hnA : nA12 = nA6 := by rw [hA12.len, HA6.out.len]
    have hnN : n12 = n6 := by rw [hN12.len, HN6.out.len]
    subst hnA hnN
    have HA12 := Lib.hid hA12
    have HN12 := Lib.hid hN12
    have HB12' := Lib.hid (HB711.out.trans (hb12.mono HB711.out.size))
    have HW12 := Lib.hid (HW7.out.trans (HB12'.out.mono HW7.out.size))
    have hx12 := (HB12'.out.block _ hz7).trans HX7.out
    obtain ⟨j1, j2⟩ : w12.cell? ⟨w6.heap.size, 1, none⟩ = some (.slice A6 nA12 cA6) ∧ w12.cell? ⟨w6.heap.size, 2, none⟩ = some (.slice N6 n12 cN6) := by simp [World.cell?, hx12]
    have hl12 : w6.heap.size < w12.heap.size := (Array.getElem?_eq_some_iff.1 hx12).1
    obtain ⟨w13, hw13⟩ : ∃ w13 : World, w13 = w12.alloc (.cells #[.int .i64 0, .slice A12 nA12 cA12, .slice N12 n12 cN12] 25) := ⟨_, rfl⟩
    have HB13 := Lib.hid (show Below w12.heap.size w12 w13 by rw [hw13]; exact (Below.refl _ _).alloc (Nat.le_refl _) _)
    have HY13 := Lib.hid (show w13.heap[w12.heap.size]? = some (.cells #[.int .i64 0, .slice A12 nA12 cA12, .slice N12 n12 cN12] 25 (0, 0)) by rw [hw13]; exact heap_alloc_new _ _)
    have HX13 := Lib.hid (show w13.heap[w6.heap.size]? = some (.cells #[.int .i64 0, .slice A6 nA12 cA6, .slice N6 n12 cN6] 25 (0, 0)) by rw [hw13, Below.heap_alloc _ _ _ hl12]; exact hx12)
    have HW13 := Lib.hid (HW12.out.trans (HB13.out.mono HW12.out.size))
    have HB613 := Lib.hid (show Below w6.heap.size w6 w13 from HB7.out.trans ((HB12'.out.trans (HB13.out.mono HB12'.out.size)).mono (by omega)))
    have hcvv := canon_valid HVC.out.1
    have hA200 : nA12 ≤ 200 := by rw [HA6.out.len, hcvv.na]; exact hcvv.n2
    have hN200 : n12 ≤ 200 := by rw [HN6.out.len]; exact hcvv.n2
    have HRL := Lib.hid (show ∀ r ∈ (canonD (endM m)).2.2, r.length ≤ 1000 from fun r hr => by have := (hcvv.rows r hr).1; have := hcvv.c2; omega)
    clear hwsR hsumR hA12 hN12 hP2 hb12 kd2 kr hx12 hcvv
    go_wp2_with fail
    rw [← hw13]
    clear hw13 j1 j2
    refine (equalInt A6 A12 nA12 cA6 nA12 cA12 _ _ _ _ w13 (HA6.out.below HB613.out).ints (HA12.out.below HB13.out).ints (by omega) (by omega)).mono ?_
    rintro e w14 ⟨rfl, d14, rfl⟩
    rw [show ((canonD (endM m)).2.1 == (canonD (endM m)).2.1) = true by simp]
    obtain ⟨w15, hw15⟩ : ∃ w15, w15 = w13.drewN d14 := ⟨_, rfl⟩
    have hb15 : Below w13.heap.size w13 w15 := by rw [hw15]; exact ⟨rfl, rfl, rfl, Nat.le_refl _, fun _ _ => rfl⟩
    rw [← hw15]
    obtain ⟨j1, j2⟩ : w15.cell? ⟨w6.heap.size, 2, none⟩ = some (.slice N6 n12 cN6) ∧ w15.cell? ⟨w12.heap.size, 2, none⟩ = some (.slice N12 n12 cN12) := by
      have h1 := (hb15.block _ ((Array.getElem?_eq_some_iff.1 HX13.out).1)).trans HX13.out
      have h2 := (hb15.block _ ((Array.getElem?_eq_some_iff.1 HY13.out).1)).trans HY13.out
      simp [World.cell?, h1, h2]
    have HB15 := Lib.hid hb15
    clear hw15 hb15
    go_wp2_with fail
    refine (equalFnW w15 _ _ N6 N12 n12 cN6 cN12 _ ((HN6.out.below HB613.out).below HB15.out) ((HN12.out.below HB13.out).below HB15.out) HRL.out (by omega)).mono ?_
    rintro e w16 ⟨rfl, d16, rfl⟩
    clear j1 j2
    go_wp2_with fail
    go_ret
    exact ⟨rfl, (HW13.out.trans (HB15.out.mono HW13.out.size)).trans ⟨rfl, rfl, rfl, Nat.le_refl _, fun _ _ => rfl⟩⟩
  · obtain rfl : nn = 0 := by omega
    have HB11 := Lib.hid (Below.refl w8.heap.size w10)
    obtain ⟨bs, hbs⟩ : ∃ bs, bs = ns := ⟨_, rfl⟩
    have HBS := Lib.hid (show (∀ v, v ∈ ns ↔ v ∈ bs) ∧ bs.length = 0 from by rw [hbs]; exact ⟨fun _ => Iff.rfl, HLY.out.2.symm⟩)
    have HSB := Lib.hid (show Sl RIV w10 (fun _ => True) Ab 0 cb bs by
      have h1 : bs = [] := List.eq_nil_of_length_eq_zero HBS.out.2
      rw [h1]
      exact Sl.nil _ _ _ _)
    clear hbs
    have HSA11 := Lib.hid (HSA10.out.keep (.belowB HB11.out fun b hb => hb))
    have HB711 := Lib.hid (HB10.out.trans (HB11.out.mono hz8))
    have HB211 := Lib.hid (HB27.out.trans (HB711.out.mono (by have := HB27.out.size; omega)))
    have hd11 := (HB211.out.block _ (by omega)).trans HD.out
    have ltD11 : w1.heap.size < w10.heap.size := by have := HB211.out.size; omega
    have kd2 : w10.cell? ⟨w1.heap.size, 2, none⟩ = some (.slice (some ⟨bN, oN, none⟩) nN cN) := by simp [World.cell?, hd11]
    have kr : w10.cell? ⟨bN, oN, none⟩ = some (.slice AR (cols d) cR) := ((HB12.out.trans (HB211.out.mono (by omega))).cell hltN).trans HCR.out
    clear hd11
    go_wp2_with fail
    have hwsR : ∀ z ∈ ys.reverse ++ bs, z.length ≤ 4 ∧ ∀ y ∈ z, 0 ≤ y ∧ y < (cols d : Int) := fun z hz => by
      refine HWD.out.1 z (List.mem_append.2 ?_)
      rcases List.mem_append.1 hz with h | h
      · exact .inl (List.mem_reverse.1 h)
      · exact .inr ((HBS.out.1 z).2 h)
    have hsumR : sumLen (ys.reverse ++ bs) ≤ 52 := by
      have h1 := sumLen_le (k := 4) fun z hz => (hwsR z hz).1
      rw [List.length_append, List.length_reverse, HBS.out.2, ← HLY.out.1] at h1
      omega
    refine (mergeOfI w10 (cols d : Int) (cols d) rfl hc1 hc2 _ Aa ny ca ys.reverse HSA11.out _ Ab 0 cb bs HSB.out (by omega) (fun z hz => ⟨by have := (hwsR z hz).1; omega, (hwsR z hz).2⟩) (by omega) (fun z hz hb => HWD.out.2.2 z (List.mem_reverse.1 hz) ((HBS.out.1 z).2 hb))).mono ?_
    rintro e w12 ⟨⟨L2, m2, A12, nA12, cA12, N12, n12, cN12, rfl, hA12, hN12, hP2, hL2⟩, hb12⟩
    obtain rfl : m = m2 := HP.out.same hP2 (fun z => List.mem_reverse.symm) HBS.out.1
    have hnA : nA12 = nA6 := by rw [hA12.len, HA6.out.len]
    have hnN : n12 = n6 := by rw [hN12.len, HN6.out.len]
    subst hnA hnN
    have HA12 := Lib.hid hA12
    have HN12 := Lib.hid hN12
    have HB12' := Lib.hid (HB711.out.trans (hb12.mono HB711.out.size))
    have HW12 := Lib.hid (HW7.out.trans (HB12'.out.mono HW7.out.size))
    have hx12 := (HB12'.out.block _ hz7).trans HX7.out
    obtain ⟨j1, j2⟩ : w12.cell? ⟨w6.heap.size, 1, none⟩ = some (.slice A6 nA12 cA6) ∧ w12.cell? ⟨w6.heap.size, 2, none⟩ = some (.slice N6 n12 cN6) := by simp [World.cell?, hx12]
    have hl12 : w6.heap.size < w12.heap.size := (Array.getElem?_eq_some_iff.1 hx12).1
    obtain ⟨w13, hw13⟩ : ∃ w13 : World, w13 = w12.alloc (.cells #[.int .i64 0, .slice A12 nA12 cA12, .slice N12 n12 cN12] 25) := ⟨_, rfl⟩
    have HB13 := Lib.hid (show Below w12.heap.size w12 w13 by rw [hw13]; exact (Below.refl _ _).alloc (Nat.le_refl _) _)
    have HY13 := Lib.hid (show w13.heap[w12.heap.size]? = some (.cells #[.int .i64 0, .slice A12 nA12 cA12, .slice N12 n12 cN12] 25 (0, 0)) by rw [hw13]; exact heap_alloc_new _ _)
    have HX13 := Lib.hid (show w13.heap[w6.heap.size]? = some (.cells #[.int .i64 0, .slice A6 nA12 cA6, .slice N6 n12 cN6] 25 (0, 0)) by rw [hw13, Below.heap_alloc _ _ _ hl12]; exact hx12)
    have HW13 := Lib.hid (HW12.out.trans (HB13.out.mono HW12.out.size))
    have HB613 := Lib.hid (show Below w6.heap.size w6 w13 from HB7.out.trans ((HB12'.out.trans (HB13.out.mono HB12'.out.size)).mono (by omega)))
    have hcvv := canon_valid HVC.out.1
    have hA200 : nA12 ≤ 200 := by rw [HA6.out.len, hcvv.na]; exact hcvv.n2
    have hN200 : n12 ≤ 200 := by rw [HN6.out.len]; exact hcvv.n2
    have HRL := Lib.hid (show ∀ r ∈ (canonD (endM m)).2.2, r.length ≤ 1000 from fun r hr => by have := (hcvv.rows r hr).1; have := hcvv.c2; omega)
    clear hwsR hsumR hA12 hN12 hP2 hb12 kd2 kr hx12 hcvv
    go_wp2_with fail
    rw [← hw13]
    clear hw13 j1 j2
    refine (equalInt A6 A12 nA12 cA6 nA12 cA12 _ _ _ _ w13 (HA6.out.below HB613.out).ints (HA12.out.below HB13.out).ints (by omega) (by omega)).mono ?_
    rintro e w14 ⟨rfl, d14, rfl⟩
    rw [show ((canonD (endM m)).2.1 == (canonD (endM m)).2.1) = true by simp]
    obtain ⟨w15, hw15⟩ : ∃ w15, w15 = w13.drewN d14 := ⟨_, rfl⟩
    have hb15 : Below w13.heap.size w13 w15 := by rw [hw15]; exact ⟨rfl, rfl, rfl, Nat.le_refl _, fun _ _ => rfl⟩
    rw [← hw15]
    obtain ⟨j1, j2⟩ : w15.cell? ⟨w6.heap.size, 2, none⟩ = some (.slice N6 n12 cN6) ∧ w15.cell? ⟨w12.heap.size, 2, none⟩ = some (.slice N12 n12 cN12) := by
      have h1 := (hb15.block _ ((Array.getElem?_eq_some_iff.1 HX13.out).1)).trans HX13.out
      have h2 := (hb15.block _ ((Array.getElem?_eq_some_iff.1 HY13.out).1)).trans HY13.out
      simp [World.cell?, h1, h2]
    have HB15 := Lib.hid hb15
    clear hw15 hb15
    go_wp2_with fail
    refine (equalFnW w15 _ _ N6 N12 n12 cN6 cN12 _ ((HN6.out.below HB613.out).below HB15.out) ((HN12.out.below HB13.out).below HB15.out) HRL.out (by omega)).mono ?_
    rintro e w16 ⟨rfl, d16, rfl⟩
    clear j1 j2
    go_wp2_with fail
    go_ret
    exact ⟨rfl, (HW13.out.trans (HB15.out.mono HW13.out.size)).trans ⟨rfl, rfl, rfl, Nat.le_refl _, fun _ _ => rfl⟩⟩
end Go.Proofs.Ytgaahpddlohjoaa
