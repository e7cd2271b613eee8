/- MakeTree2 -/
import Derived.Test.YtbmcoamdfpegnaaMt38
import Derived.Test.YtbmcoamdfpegnaaMt50
namespace Go.Proofs.Ytbmcoamdfpegnaa
open Go.RowKit
def Mine (R : List RuleD) (yn : Int) (z : Int) : Prop := ∃ (i : Nat) (r : RuleD), z = (i : Int) ∧ R[i]? = some r ∧ r.1 = yn
set_option linter.unusedSimpArgs false in
set_option maxRecDepth 1000000 in
set_option maxHeartbeats 20000000 in
theorem makeTreeNode {g : GramD} (hv : GValid g) {AR : Option Addr} {nR cR : Nat} {l : List Int} {S : Nat → Prop} {Bl Bs lo hi : Nat} (hB1 : lo ≤ Bl) (hB2 : Bl < hi) (hB3 : lo ≤ Bs) (hB4 : Bs < hi) (hne : Bl ≠ Bs) (hS : ∀ b, S b → b < lo)
    (dp : Int) (w : World) (left : Int) (yn : Int) (hst : TrSt w S Bl Bs l left) (hhi : hi ≤ w.heap.size) (hg : Sl RRule w (fun b => b < lo) AR nR cR g.2.2.2) (h0 : 1 ≤ left) (h60 : left ≤ 60) (hdp : 0 ≤ dp) (hdp9 : dp ≤ 100)
    (ih : ∀ (w : World) (left : Int) (y : SymD), TrSt w S Bl Bs l left → hi ≤ w.heap.size → Sl RRule w (fun b => b < lo) AR nR cR g.2.2.2 → 0 ≤ left → left ≤ 60 →
     Calls Try.prog 36 #[.agg #[.int .i64 g.1, .int .i64 g.2.1, .int .i64 g.2.2.1, .slice AR nR cR], .agg #[.bool y.1, .int .i64 y.2], .pointer (some ⟨Bs, 0, none⟩), .pointer (some ⟨Bl, 0, none⟩), .int .i64 (dp - 1)] w fun e w' =>
      ∃ left', left' < left ∧ TrSt w' S Bl Bs l left' ∧ Aside lo hi w w' ∧ MkOk g.2.2.2 y w.heap.size left left' e w') :
    Calls Try.prog 36 #[.agg #[.int .i64 g.1, .int .i64 g.2.1, .int .i64 g.2.2.1, .slice AR nR cR], .agg #[.bool false, .int .i64 yn], .pointer (some ⟨Bs, 0, none⟩), .pointer (some ⟨Bl, 0, none⟩), .int .i64 dp] w fun e w' =>
     ∃ left', left' < left ∧ TrSt w' S Bl Bs l left' ∧ Aside lo hi w w' ∧ MkOk g.2.2.2 (false, yn) w.heap.size left left' e w' := by
 have hSl : ¬ S Bl := fun h => by have := hS Bl h; omega
 have hSs : ¬ S Bs := fun h => by have := hS Bs h; omega
 have c0 := cell_of_one hst.blk
 have f0 := free_of_one hst.blk
 have l0 := lt_of_block hst.blk
 have l1 : Bl < w.heap.size + 1 := by omega
 have l2 : Bl < w.heap.size + 1 + 1 := by omega
 obtain ⟨w1, hw1⟩ : ∃ w1 : World, w1 = (((w.setCell ⟨Bl, 0, none⟩ (.int .i64 (left - 1))).alloc (.cells #[.int .i64 g.1, .int .i64 g.2.1, .int .i64 g.2.2.1, .slice AR nR cR] 25)).alloc (.cells #[.bool false, .int .i64 yn] 42)).alloc (.cells #[.int .i64 0, .int .i64 0, .slice none 0 0] 55) := ⟨_, rfl⟩
 have hz1 : w1.heap.size = w.heap.size + 3 := by rw [hw1]; simp [World.setCell]
 have hst1 : TrSt w1 S Bl Bs l (left - 1) := by rw [hw1]; exact (hst.set hSl hne (left - 1)).below (Below.three _ _ _)
 have hA1 : Aside lo hi w w1 := by rw [hw1]; exact (Aside.set (lo := lo) (hi := hi) w (p := ⟨Bl, 0, none⟩) hB1 hB2 (.int .i64 (left - 1))).trans (.of (Below.three _ _ _))
 have b1 : w1.heap[w.heap.size]? = some (.cells #[.int .i64 g.1, .int .i64 g.2.1, .int .i64 g.2.2.1, .slice AR nR cR] 25 (0, 0)) := by
  rw [hw1]
  exact (Below.heap_alloc _ _ _ (by simp [World.setCell]; omega)).trans ((Below.heap_alloc _ _ _ (by simp [World.setCell])).trans (heap_new _ _ _ (by simp [World.setCell])))
 have b2 : w1.heap[w.heap.size + 1]? = some (.cells #[.bool false, .int .i64 yn] 42 (0, 0)) := by
  rw [hw1]
  exact (Below.heap_alloc _ _ _ (by simp [World.setCell])).trans (heap_new _ _ _ (by simp [World.setCell]))
 have b3 : w1.heap[w.heap.size + 2]? = some (.cells #[.int .i64 0, .int .i64 0, .slice none 0 0] 55 (0, 0)) := by rw [hw1]; exact heap_new _ _ _ (by simp [World.setCell])
 have hall : ∀ u : World, Aside lo hi w1 u → (u.cell? ⟨w.heap.size, 0, none⟩ = some (.int .i64 g.1) ∧ u.cell? ⟨w.heap.size, 1, none⟩ = some (.int .i64 g.2.1) ∧ u.cell? ⟨w.heap.size, 2, none⟩ = some (.int .i64 g.2.2.1) ∧ u.cell? ⟨w.heap.size, 3, none⟩ = some (.slice AR nR cR)) ∧
     u.cell? ⟨w.heap.size + 1, 1, none⟩ = some (.int .i64 yn) ∧ u.heap[w.heap.size + 2]? = some (.cells #[.int .i64 0, .int .i64 0, .slice none 0 0] 55 (0, 0)) ∧ Sl RRule u (fun b => b < lo) AR nR cR g.2.2.2 := by
  intro u hu
  have e1 := (hu.block _ (by omega) (Or.inr (by omega))).trans b1
  have e2 := (hu.block _ (by omega) (Or.inr (by omega))).trans b2
  refine ⟨by simp [World.cell?, e1], by simp [World.cell?, e2], (hu.block _ (by omega) (Or.inr (by omega))).trans b3, hg.keep (.aside (hA1.trans hu) fun b hb => Or.inl hb)⟩
 have HALL := Lib.hid hall
 have HST := Lib.hid hst1
 have HA1 := Lib.hid hA1
 have HV := Lib.hid hv
 have HS := Lib.hid hS
 have IH := Lib.hid ih
 have hnR : nR ≤ 32 := by have := hg.len; have := hv.rl; omega
 have hl : decide (left - 1 < 0) = false := by simp; omega
 have hdn : decide (dp < 0) = false := by simp; omega
 have hhi1 : hi ≤ w1.heap.size := by omega
 clear hst hg hv hS ih hst1 hA1 b1 b2 b3 hall
 go_enter Try.func36, Try.ntmps36
 go_wp2_with fail
 rw [← hw1]
 clear hw1 c0 f0 l0 l1 l2
 go_loopg [12, 42] nR (fun gk vm vj wr => ∃ (j : Nat) (zs : List Int), j ≤ nR ∧ gk = nR - j ∧ vj = .int .i64 j ∧ OwnL Rep.int wr (fun _ => False) w1.heap.size 3 vm zs ∧ (∀ z ∈ zs, Mine g.2.2.2 yn z) ∧ zs.length ≤ j ∧ Below w1.heap.size w1 wr)
 case atStart => exact ⟨0, [], Nat.zero_le _, rfl, rfl, OwnL.nil _ _ _ _ _, (fun z hz => absurd hz (by simp)), Nat.le_refl _, Below.refl _ _⟩
 case round =>
  obtain ⟨j, zs, hj, hgk, rfl, hown, hmine, hzl, hb⟩ := hrel
  have HGK := Lib.hid hgk
  have HOW := Lib.hid hown
  have HMI := Lib.hid hmine
  have HB := Lib.hid hb
  have hzr := hb.size
  obtain ⟨nz, hnz⟩ : ∃ nz, nz = zs.length := ⟨_, rfl⟩
  obtain ⟨A12, c12, rfl, hc12⟩ := hown.formN (a := nz) hnz.symm
  have HNZ := Lib.hid hnz
  have hnzj : nz ≤ j := by omega
  obtain ⟨w2, rfl⟩ : ∃ w2 : World, w2 = wr := ⟨_, rfl⟩
  clear hgk hown hmine hb hnz hzl
  by_cases hlt : j < nR
  ·
   obtain ⟨⟨k0, k1, k2, k3⟩, k4, hblk, hgr⟩ := HALL.out w2 (.of HB.out)
   obtain ⟨b, off, A3, m3, c3, r, rfl, _, hbl, hc1, hc2, hr, _⟩ := rule_at hgr hlt
   obtain ⟨left1, hleft1⟩ : ∃ left1, left1 = r.1 := ⟨_, rfl⟩
   rw [← hleft1] at hc1
   have hjI : (j : Int) < (nR : Int) := by omega
   have hj0 : (0 : Int) ≤ (j : Int) := by omega
   have ly := cell_lt k4
   have HR := Lib.hid hr
   have HL1 := Lib.hid hleft1
   have hbr : Below w1.heap.size w1 (w2.alloc (.cells #[.int .i64 left1, .slice A3 m3 c3] 40)) := HB.out.alloc hzr _
   have HBR := Lib.hid hbr
   clear k0 k1 k2 k3 hblk hgr hr hleft1 hbr
   by_cases hly : left1 = yn
   ·
    obtain ⟨v4, w4, hrun, ho4, hg4, hb4⟩ := run_append_lit (R := Rep.int) tInts rfl (w2.alloc (.cells #[.int .i64 left1, .slice A3 m3 c3] 40)) 22 w1.heap.size (fun _ => False) _ zs (HOW.out.alloc _) 1 [(j : Int)] [.int .i64 (j : Int)] (Cells.single rfl) rfl (by have := HNZ.out; unfold maxLen; omega) (by have := HNZ.out; omega) (by simp; omega)
    simp only [World.size_alloc] at hrun
    have hlb : (left1 == yn) = true := by simpa using hly
    have HMJ := Lib.hid (show Mine g.2.2.2 yn (j : Int) from ⟨j, r, rfl, HR.out, by rw [← HL1.out]; exact hly⟩)
    have HRUN := Lib.hid hrun
    have HO4 := Lib.hid ho4
    have HB4 := Lib.hid (HBR.out.trans hb4)
    clear hrun ho4 hg4 hb4 hly
    go_wp2_with (at_builtin; refine Lib.wpList_append_run (o := ⟨some 55, _, _, _, _, _⟩) _ rfl _ _ _ _ rfl _ _ rfl rfl _ _ HRUN.out ?_)
    go_roundg (nR - (j + 1))
    case measure => rw [HGK.out]; omega
    case rel =>
     refine ⟨j + 1, zs ++ [(j : Int)], by omega, rfl, by go_num, HO4.out, fun z hz => ?_, by rw [List.length_append, ← HNZ.out]; simp; omega, HB4.out⟩
     rcases List.mem_append.1 hz with h | h
     ·
      exact HMI.out z h
     ·
      rw [List.mem_singleton.1 h]; exact HMJ.out
   ·
    have hlb : (left1 == yn) = false := by simpa using hly
    clear hly
    go_wp2_with fail
    go_roundg (nR - (j + 1))
    case measure => rw [HGK.out]; omega
    case rel => exact ⟨j + 1, zs, by omega, rfl, by go_num, HOW.out.alloc _, HMI.out, by rw [← HNZ.out]; omega, HBR.out⟩
  ·
   obtain rfl : nR = j := by omega
   have HST2 := Lib.hid (HST.out.below HB.out)
   have HA2 := Lib.hid (HA1.out.trans (.of HB.out))
   by_cases hz0 : nz = 0
   ·
    subst hz0
    have hblk := (HALL.out w2 (.of HB.out)).2.2.1
    obtain ⟨d0, d1, d2, f0, f1, f2⟩ := tree_cells' hblk
    have ld := cell_lt d0
    clear hblk
    go_wp2_with fail
    refine bodyPost_ret (v := .tuple #[.agg #[.int .i64 0, .int .i64 0, .slice none 0 0], .bool false]) (by simp [results, Try.results36, go_sem, d0, d1, d2]) rfl ?_
    have hset : ∀ (u : World) (q : Nat) (v : Value), Below w.heap.size u (u.setCell ⟨w.heap.size + 2, q, none⟩ v) := fun u q v => (Below.refl _ _).setCell (by show w.heap.size ≤ w.heap.size + 2; omega) _
    have hbb := ((hset w2 0 (.int .i64 0)).trans (hset _ 1 (.int .i64 0))).trans (hset _ 2 (.slice none 0 0))
    exact ⟨left - 1, by omega, HST2.out.kept hbb (by omega) (by omega) (fun b hb => by have := HS.out b hb; omega), HA2.out.grow hbb (Nat.le_refl _), Or.inl rfl⟩
   ·
    have hzb : ((nz : Int) == 0) = false := by simp; omega
    obtain ⟨k, hstr⟩ := HST2.out.str
    have HSTR := Lib.hid hstr
    clear hstr
    go_wp2_with fail
    refine (streamNext _ S Bs k (nz : Int) l HSTR.out hSs (by omega) (by omega)).mono ?_
    rintro e w3 ⟨rfl, hs3, hg3⟩
    obtain ⟨ix, hix, hixn⟩ : ∃ ix : Nat, nv l k (nz : Int) = (ix : Int) ∧ ix < nz := ⟨(nv l k (nz : Int)).toNat, by have := nv_range l k (nz : Int) (by omega); omega, by have := nv_range l k (nz : Int) (by omega); omega⟩
    rw [hix]
    have hst3 := HST2.out.next hs3 hg3 hne
    have hA3 : Aside lo hi w1 w3 := (Aside.of HB.out).trans ⟨hg3.os, hg3.tape, hg3.output, hg3.size, fun q hq hr => hg3.block q hq (fun e => by injection e with e; omega)⟩
    have hsl3 := HOW.out.sl.keep (.grown hg3 (fun b hb e => by injection e with e; rcases hb with h | h; exact h.elim; omega))
    obtain ⟨bz, oz, z, rfl, _, hzx, hcz⟩ := hsl3.ints.int_at hixn
    obtain ⟨i, r, rfl, hri, hry⟩ := HMI.out z (List.mem_of_getElem? hzx)
    have hz3 : w2.heap.size ≤ w3.heap.size := hg3.size
    have hbz := cell_lt hcz
    have hixI : (ix : Int) < (nz : Int) := by omega
    have hix0 : (0 : Int) ≤ (ix : Int) := by omega
    obtain ⟨w4, hw4⟩ : ∃ w4 : World, w4 = w3.alloc (.cells #[.int .i64 (i : Int), .int .i64 0, .slice none 0 0] 55) := ⟨_, rfl⟩
    have hz4 : w4.heap.size = w3.heap.size + 1 := by rw [hw4]; simp
    have hb34 : Below w3.heap.size w3 w4 := by rw [hw4]; exact (Below.refl _ _).alloc (Nat.le_refl _) _
    have hA4 : Aside lo hi w1 w4 := hA3.trans (.of hb34)
    have hbt : w4.heap[w3.heap.size]? = some (.cells #[.int .i64 (i : Int), .int .i64 0, .slice none 0 0] 55 (0, 0)) := by rw [hw4]; exact heap_alloc_new w3 _
    obtain ⟨⟨k0, k1, k2, k3⟩, k4, hblk, hgr⟩ := HALL.out w4 hA4
    have hik : i < nR := by have := (List.getElem?_eq_some_iff.1 hri).1; have := hgr.len; omega
    obtain ⟨b, off, AQ, mQ, cQ, r', hAR, hSb, hbl, hc1, hc2, hr, hrs⟩ := rule_at (HALL.out w1 (Aside.refl _ _ _)).2.2.2 hik
    subst hAR
    rw [hri] at hr
    injection hr with hr
    subst hr
    have hmQ : mQ ≤ 4 := by have := hrs.len; have := (HV.out.rules r (List.mem_of_getElem? hri)).2.1; omega
    have hiI : (i : Int) < (nR : Int) := by omega
    have hi0 : (0 : Int) ≤ (i : Int) := by omega
    have lk := cell_lt k0
    have HST4 := Lib.hid (hst3.below hb34)
    have HA4 := Lib.hid hA4
    have HBT := Lib.hid hbt
    have HRI := Lib.hid hri
    have HRY := Lib.hid hry
    have HQ := Lib.hid hrs
    have HSB := Lib.hid hSb
    have HBL := Lib.hid hbl
    have hc2' : w4.cell? ⟨b, off + i * 2 + 1, none⟩ = some (.slice AQ mQ cQ) := (hA4.cell hbl (Or.inl hSb)).trans hc2
    rw [hw4] at hc2' k3 lk
    clear hix hs3 hg3 hst3 hA3 hsl3 hzx hri hry hb34 hA4 hbt k0 k1 k2 k4 hblk hgr hc1 hc2 hrs HSTR HST HST2 HMI HOW HB HNZ HGK
    go_wp2_with fail
    rw [← hw4]
    clear hw4 hc2' k3 lk hcz
    obtain ⟨Bt, hBt⟩ : ∃ Bt, Bt = w3.heap.size := ⟨_, rfl⟩
    rw [← hBt] at HBT hz4 ⊢
    have hBtl : w2.heap.size ≤ Bt := by omega
    clear hBt hz3
    go_loopg [77] mQ (fun gk vq wr => ∃ (q : Nat) (lq : Int) (ts : List TreeD) (vK : Value), q ≤ mQ ∧ gk = mQ - q ∧ vq = .int .i64 q ∧ TrSt wr S Bl Bs l lq ∧ wr.heap[Bt]? = some (.cells #[.int .i64 (i : Int), .int .i64 0, vK] 55 (0, 0)) ∧ OwnL RTree wr (fun _ => False) (Bt + 1) 55 vK ts ∧
     TVL g.2.2.2 (r.2.take q) ts ∧ ts.length = q ∧ 0 ≤ lq ∧ lq ≤ left - 1 ∧ (sizeTs ts : Int) ≤ left - 1 - lq ∧ w4.heap.size ≤ wr.heap.size ∧ Aside lo hi w1 wr)
    case atStart => exact ⟨0, left - 1, [], .slice none 0 0, Nat.zero_le _, rfl, rfl, HST4.out, HBT.out, OwnL.nil _ _ _ _ _, by rw [List.take_zero]; exact .nil, rfl, by omega, by omega, by rw [sizeTs_nil]; omega, Nat.le_refl _, HA4.out⟩
    case round =>
     obtain ⟨q, lq, ts, vK, hq, hgk, rfl, hstq, hbtq, hown, htvl, htl, hlq0, hlqB, hsz, hzq, hA⟩ := hrel
     have HGK := Lib.hid hgk
     have HSTQ := Lib.hid hstq
     have HBTQ := Lib.hid hbtq
     have HOW := Lib.hid hown
     have HTVL := Lib.hid htvl
     have HTL := Lib.hid htl
     have HAQ := Lib.hid hA
     obtain ⟨AK, cK, rfl, hcK⟩ := hown.formN (a := q) htl
     obtain ⟨w5, rfl⟩ : ∃ w5 : World, w5 = wr := ⟨_, rfl⟩
     clear hgk hstq hbtq hown htvl htl hA
     by_cases hlt : q < mQ
     ·
      obtain ⟨bq, oq, s, rfl, hSq, hblq, hs0, hs1, hs⟩ := sym_at (HQ.out.keep (.aside HAQ.out fun b hb => Or.inl hb)) hlt
      obtain ⟨⟨k0, k1, k2, k3⟩, k4, hblk, hgr⟩ := HALL.out w5 HAQ.out
      have hqI : (q : Int) < (mQ : Int) := by omega
      have hq0 : (0 : Int) ≤ (q : Int) := by omega
      have lk := cell_lt k0
      have HSQ := Lib.hid hs
      have hb5 : Below w5.heap.size w5 (w5.alloc (.cells #[.bool s.1, .int .i64 s.2] 42)) := (Below.refl _ _).alloc (Nat.le_refl _) _
      have HB5 := Lib.hid hb5
      have hA5 := HAQ.out.trans (.of hb5)
      obtain ⟨⟨x0, x1, x2, x3⟩, _, _, hg5⟩ := HALL.out _ hA5
      have HG5 := Lib.hid hg5
      clear hb5 hA5 hs k0 k1 k2 k3 k4 hblk hgr hg5
      go_wp2_with fail
      refine (IH.out _ lq s (HSTQ.out.below HB5.out) (by have := HB5.out.size; omega) HG5.out hlq0 (by omega)).mono ?_
      rintro e w6 ⟨lr, hlr, hst6, hA6, hmk⟩
      have hz5 := HB5.out.size
      have hz6 := hA6.size
      have hA46 : Aside lo hi w1 w6 := (HAQ.out.trans (.of HB5.out)).trans hA6
      have HST6 := Lib.hid hst6
      have HA46 := Lib.hid hA46
      have hbt6 : w6.heap[Bt]? = some (.cells #[.int .i64 (i : Int), .int .i64 0, .slice AK q cK] 55 (0, 0)) := (hA6.block _ (by simp; omega) (Or.inr (by omega))).trans ((Below.heap_alloc _ _ _ (by omega)).trans HBTQ.out)
      have hres := (HALL.out w6 hA46).2.2.1
      have HRES := Lib.hid hres
      have HBT6 := Lib.hid hbt6
      have HOW6 := Lib.hid ((HOW.out.below HB5.out).aside hA6 (by omega))
      clear hst6 hA6 hA46 hbt6 hres x0 x1 x2 x3 hs0 hs1
      rcases hmk with rfl | ⟨t', A6, m6, c6, rfl, htv, hsl6, hlr0, hszt⟩
      ·
       obtain ⟨d0, d1, d2, f0, f1, f2⟩ := tree_cells' HRES.out
       have ld : w.heap.size + 2 < w6.heap.size := by omega
       go_wp2_with fail
       refine bodyPost_ret (v := .tuple #[.agg #[.int .i64 0, .int .i64 0, .slice none 0 0], .bool false]) (by simp [results, Try.results36, go_sem, d0, d1, d2, ld]) rfl ?_
       have hset : ∀ (u : World) (q : Nat) (v : Value), Below w.heap.size u (u.setCell ⟨w.heap.size + 2, q, none⟩ v) := fun u q v => (Below.refl _ _).setCell (by show w.heap.size ≤ w.heap.size + 2; omega) _
       have hbb := (((hset w6 0 (.int .i64 0)).trans (hset _ 1 (.int .i64 0))).trans (hset _ 2 (.slice none 0 0))).alloc (by simp [World.setCell]; omega) (.cells #[.int .i64 0, .int .i64 0, .slice none 0 0] 55)
       exact ⟨lr, by omega, HST6.out.kept hbb (by omega) (by omega) (fun b hb => by have := HS.out b hb; omega), (HA1.out.trans HA46.out).grow hbb (Nat.le_refl _), Or.inl rfl⟩
      ·
       have HTV := Lib.hid htv
       have HSZ := Lib.hid hszt
       obtain ⟨w7, hw7⟩ : ∃ w7 : World, w7 = w6.alloc (.cells #[.int .i64 t'.rule, .int .i64 t'.term, .slice A6 m6 c6] 55) := ⟨_, rfl⟩
       have hz7 : w7.heap.size = w6.heap.size + 1 := by rw [hw7]; simp
       have hb67 : Below w6.heap.size w6 w7 := by rw [hw7]; exact (Below.refl _ _).alloc (Nat.le_refl _) _
       have hown7 := HOW6.out.below hb67
       obtain ⟨v8, w8, hrun, ho8, hg8, hb8⟩ := run_append_lit (R := RTree) tTreesB rfl w7 53 (Bt + 1) (fun _ => False) _ ts hown7 1 [t'] [.int .i64 t'.rule, .int .i64 t'.term, .slice A6 m6 c6] (Cells.single (RTree.cells.2 ⟨A6, m6, c6, rfl, (hsl6.below hb67).more fun b hb => ⟨Or.inr (by have hb' : (w5.alloc _).heap.size ≤ b := hb; simp at hb'; omega), fun e => by have h1 := HOW.out.row e; have hb' : (w5.alloc _).heap.size ≤ b := hb; simp at hb'; omega⟩⟩)) rfl (by have := HTL.out; unfold maxLen; omega) (by have := HTL.out; omega) (by omega)
       obtain ⟨A8, c8, rfl, _⟩ := ho8.formN (a := q + 1) (by rw [List.length_append, HTL.out]; rfl)
       have hbt7 := (hb67.block _ (by omega)).trans HBT6.out
       have hbt8 := (hb8.block _ (by omega)).trans hbt7
       obtain ⟨d0, d1, d2, f0, f1, f2⟩ := tree_cells' HBT6.out
       obtain ⟨q0, q1, q2, g0, g1, g2⟩ := tree_cells' hbt8
       have hset := set_grown (Bd := Bt) w8 2 (.slice A8 (q + 1) c8)
       have hblk9 := blk_set hbt8 2 (.slice A8 (q + 1) c8)
       have hz8 : w7.heap.size ≤ w8.heap.size := by have := hg8.size; simp at this; omega
       have hb48 : Aside lo hi w1 w8 := (HA46.out.trans (.of hb67)).grow hb8 (by omega)
       have hb9 : Below Bt w8 (w8.setCell ⟨Bt, 2, none⟩ (.slice A8 (q + 1) c8)) := (Below.refl _ _).setCell (by show Bt ≤ Bt; omega) _
       have HA9 := Lib.hid (hb48.grow hb9 (by omega))
       have HST9 := Lib.hid ((HST6.out.below hb67).kept ((hb8.mono (by omega)).trans hb9) (by omega) (by omega) (fun b hb => by have := HS.out b hb; omega))
       have HBT9 := Lib.hid (show (w8.setCell ⟨Bt, 2, none⟩ (.slice A8 (q + 1) c8)).heap[Bt]? = some (.cells #[.int .i64 (i : Int), .int .i64 0, .slice A8 (q + 1) c8] 55 (0, 0)) by simpa using hblk9)
       have HOW9 := Lib.hid (ho8.keepG hset (fun g e => by injection e with e; omega))
       have HRUN := Lib.hid hrun
       have hz9 : (w8.setCell ⟨Bt, 2, none⟩ (.slice A8 (q + 1) c8)).heap.size = w8.heap.size := by simp [World.setCell]
       have hls : Bt < w6.heap.size := by omega
       have hls8 : Bt < w8.heap.size := by omega
       rw [hw7] at HRUN
       simp only [World.size_alloc] at HRUN
       clear hrun ho8 hg8 hb8 hbt7 hbt8 hset hblk9 hb48 hb9 hown7 hb67 hsl6 htv hw7
       go_wp2_with (at_builtin; refine Lib.wpList_append_run (o := ⟨some 98, _, _, _, _, _⟩) _ rfl _ _ _ _ rfl _ _ rfl rfl _ _ HRUN.out ?_)
       go_roundg (mQ - (q + 1))
       case measure => rw [HGK.out]; omega
       case rel =>
        refine ⟨q + 1, lr, ts ++ [t'], _, by omega, rfl, by go_num, HST9.out, HBT9.out, HOW9.out, ?_, by rw [List.length_append, HTL.out]; rfl, hlr0, by omega, ?_, by omega, HA9.out⟩
        ·
         rw [List.take_succ_eq_append_getElem (List.getElem?_eq_some_iff.1 HSQ.out).1, (List.getElem?_eq_some_iff.1 HSQ.out).2]
         exact HTVL.out.snoc HTV.out
        ·
         rw [sizeTs_append, sizeTs_cons, sizeTs_nil]
         have := HSZ.out
         omega
     ·
      obtain rfl : mQ = q := by omega
      obtain ⟨d0, d1, d2, f0, f1, f2⟩ := tree_cells' (HALL.out w5 HAQ.out).2.2.1
      obtain ⟨q0, q1, q2, g0, g1, g2⟩ := tree_cells' HBTQ.out
      have ld : w.heap.size + 2 < w5.heap.size := by omega
      have lt2 := cell_lt q0
      go_wp2_with fail
      refine bodyPost_ret (v := .tuple #[.agg #[.int .i64 (i : Int), .int .i64 0, .slice AK mQ cK], .bool true]) (by simp [results, Try.results36, go_sem, d0, d1, d2, ld]) rfl ?_
      have hset : ∀ (u : World) (q : Nat) (v : Value), Below w.heap.size u (u.setCell ⟨w.heap.size + 2, q, none⟩ v) := fun u q v => (Below.refl _ _).setCell (by show w.heap.size ≤ w.heap.size + 2; omega) _
      have hbb := ((hset w5 0 (.int .i64 (i : Int))).trans (hset _ 1 (.int .i64 0))).trans (hset _ 2 (.slice AK mQ cK))
      have htk : r.2.take mQ = r.2 := List.take_of_length_le (by have := HQ.out.len; omega)
      have htv := HTVL.out
      rw [htk] at htv
      refine ⟨lq, by omega, HSTQ.out.kept hbb (by omega) (by omega) (fun b hb => by have := HS.out b hb; omega), (HA1.out.trans HAQ.out).grow hbb (Nat.le_refl _), Or.inr ⟨.node (i : Int) 0 ts, AK, mQ, cK, rfl, ?_, ?_, hlq0, ?_⟩⟩
      ·
       rw [← HRY.out]
       exact .node HRI.out htv
      ·
       have hs := HOW.out.sl
       refine ((hs.more (S' := fun b => w.heap.size + 3 ≤ b) (fun b hb => by rcases hb with h | h; exact h.elim; omega)).keep (((Kept.setCell _ _ _ _ (by simp)).trans (.setCell _ _ _ _ (by simp))).trans (.setCell _ _ _ _ (by simp)))).more (fun b hb => by omega)
      ·
       rw [sizeT_eq, show (TreeD.node (i : Int) 0 ts).kids = ts from rfl]
       omega
end Go.Proofs.Ytbmcoamdfpegnaa
