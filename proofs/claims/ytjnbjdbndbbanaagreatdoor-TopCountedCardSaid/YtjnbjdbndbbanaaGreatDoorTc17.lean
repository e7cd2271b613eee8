/- RankT RankC -/
import Derived.Test.YtjnbjdbndbbanaaGreatDoorTc16
namespace Go.Proofs.YtjnbjdbndbbanaaGreatDoor
open Go.RowKit
set_option linter.unusedSimpArgs false in
set_option maxRecDepth 1000000 in
set_option maxHeartbeats 8000000 in
theorem numTreeStep {L : Lay} {g : GramD} {n Bn nR cR : Nat} {AR : Option Addr} (hn : n ≤ 1000) (hv : GValid g) (a k : Nat) (ha : a < nonsOf g) (hk : k ≤ n) (hm : ¬ Many g.2.2.2 (a, k)) (hc : cN g.2.2.2 a k < MC)
    (htree : ∀ y, Edge g.2.2.2 (a, k) y → cN g.2.2.2 y.1 y.2 < MC → TreeSpec L g n Bn AR nR cR y) : TreeSpec L g n Bn AR nR cR (a, k) := by
 intro w hst i hi
 dsimp only at hi ⊢
 have hR := rulesN_of hv
 have hrl : g.2.2.2.length ≤ 1000 := by have := hv.rl; omega
 obtain ⟨o1, o2, o3⟩ := hst.cok.ord
 have o4 := hst.hB
 have o5 := hst.lt
 have hrn := hst.rules.len
 have hsum := cN_sum hR (acc_few hR (x := (a, k)) ha hm) hc
 rw [hsum] at hi hc
 have hnR : nR ≤ 32 := by have := hv.rl; omega
 have HRN := zh hR
 have HRL := zh hrn
 have HV := zh hv
 have HI := zh hi
 have HC := zh hc
 have HM := zh hm
 have HTR := zh htree
 have HOF := zh (show ∀ y : Nat × Nat, y.1 < nonsOf g → y.2 ≤ n → OfSpec L g n y from fun y h1 h2 => ctrOf hn hR hrl y.1 y.2 h1 h2)
 have hiB : i < 1000000000 := by have : MC = 1000000000 := rfl; omega
 have hb0 : Below w.heap.size w ((w.alloc (.cells #[.bool false, .int .i64 (a : Int)] 62)).alloc (.cells #[.int .i64 0, .int .i64 0, .slice none 0 0] 44)) := ((Below.refl _ _).alloc (Nat.le_refl _) _).alloc (by simp) _
 have HB0 := zh hb0
 have HST := zh (hst.below hb0)
 have HBS0 := zh (show ((w.alloc (.cells #[.bool false, .int .i64 (a : Int)] 62)).alloc (.cells #[.int .i64 0, .int .i64 0, .slice none 0 0] 44)).heap[w.heap.size]? = some (.cells #[.bool false, .int .i64 (a : Int)] 62 (0, 0)) from (Below.heap_alloc _ _ _ (by simp)).trans (heap_alloc_new w _))
 have HBT0 := zh (show ((w.alloc (.cells #[.bool false, .int .i64 (a : Int)] 62)).alloc (.cells #[.int .i64 0, .int .i64 0, .slice none 0 0] 44)).heap[w.heap.size + 1]? = some (.cells #[.int .i64 0, .int .i64 0, .slice none 0 0] 44 (0, 0)) from heap_new _ _ _ (by simp))
 have hcr := hst.rul
 clear hst hi hc hm htree hrn hsum hb0 hR hv hrl
 go_enter Tryz.func30, Tryz.ntmps30
 go_wp2_with fail
 clear hcr
 go_loopg [3, 23] nR (fun gk vi vk wr => ∃ (j ii : Nat), j ≤ nR ∧ gk = nR - j ∧ vi = .int .i64 ii ∧ vk = .int .i64 j ∧ preR g.2.2.2 a k j + ii = i ∧ NumSt wr L g n Bn AR nR cR ∧ Aside L.l3 L.hi w wr ∧ wr.heap[w.heap.size]? = some (.cells #[.bool false, .int .i64 (a : Int)] 62 (0, 0)) ∧ wr.heap[w.heap.size + 1]? = some (.cells #[.int .i64 0, .int .i64 0, .slice none 0 0] 44 (0, 0)))
 case atStart => exact ⟨0, i, Nat.zero_le _, rfl, rfl, rfl, by rw [preR_zero]; omega, HST.out, .of HB0.out, HBS0.out, HBT0.out⟩
 case round =>
  obtain ⟨j, ii, hj, hgk, rfl, rfl, hii, hnum, hA, hbs, hbt⟩ := hrel
  have HGK := zh hgk
  have HII := zh hii
  have HNU := zh hnum
  have HA := zh hA
  have HBS := zh hbs
  have HBT := zh hbt
  have hl1 : w.heap.size + 1 < wr.heap.size := heap_lt hbt
  have hl0 : w.heap.size < wr.heap.size := heap_lt hbs
  have hsa : wr.cell? ⟨w.heap.size, 1, none⟩ = some (.int .i64 (a : Int)) := by simp [World.cell?, hbs]
  clear hgk hii hnum hA hbs hbt HST HBS0 HBT0 HB0
  obtain ⟨w1, rfl⟩ := zE wr
  by_cases hjn : j < nR
  ·
   obtain ⟨b0, off, AQ, m, cQ, r, rfl, _, _, hr1, hr2, hr, hrs⟩ := rule_at HNU.out.rules hjn
   have hm4 : m ≤ 4 := by have := (HV.out.rules r (List.mem_of_getElem? hr)).2.1; have := hrs.len; omega
   have hpre := preR_succ (a := a) (n := k) hr
   have HPRE := zh hpre
   have HR := zh hr
   have HRS := zh hrs
   have HL2 := zh (show j + 1 ≤ g.2.2.2.length by have := HRL.out; omega)
   have HB2 := zh (show Below w1.heap.size w1 (w1.alloc (.cells #[.int .i64 r.1, .slice AQ m cQ] 60)) from (Below.refl _ _).alloc (Nat.le_refl _) _)
   clear hpre hr hrs
   by_cases hra : r.1 = (a : Int)
   ·
    have hne : (r.1 != (a : Int)) = false := by simp [hra]
    have HRA := zh hra
    obtain ⟨left, hleft⟩ := zE r.1
    rw [← hleft] at hr1 hne HB2
    have HLE := zh hleft
    have hrai : ¬ ¬ left = (a : Int) := by rw [hleft, hra]; simp
    clear hra hleft
    have HNU2 := zh ((HNU.out.below HB2.out).drew)
    have HK0 := zh (And.intro HNU2.out.ptr (show (w1.alloc (.cells #[.int .i64 left, .slice AQ m cQ] 60)).drew.cell? ⟨w1.heap.size, 1, none⟩ = some (.slice AQ m cQ) from cell_of_row (w1.alloc (.cells #[.int .i64 left, .slice AQ m cQ] 60)) _ 1 _ _ _ (heap_alloc_new w1 _)))
    go_wp2_with fail
    refine wp_region_late (late := []) (S1 := fun u => u.cell? ⟨Bn, 4, none⟩ = some (.pointer (some ⟨L.Bc, 0, none⟩)) ∧ u.cell? ⟨w1.heap.size, 1, none⟩ = some (.slice AQ m cQ)) (S := fun _ => True) (by kernel_rfl) ?_
    refine zP (i := 0) rfl (fun u hu => by obtain ⟨k0, k1⟩ := hu; go_simp; try rfl) HK0.out zt ?_
    simp only [Act.put, zA, zB, zC, zD, zF, zG]
    refine zP (i := 1) rfl (fun u hu => by obtain ⟨k0, k1⟩ := hu; go_simp; try rfl) HK0.out zt ?_
    simp only [Act.put, zA, zB, zC, zD, zF, zG]
    refine zP (i := 2) rfl (fun u hu => by obtain ⟨k0, k1⟩ := hu; go_simp; try rfl) HK0.out zt ?_
    simp only [Act.put, zA, zB, zC, zD, zF, zG]
    refine zP (i := 3) rfl (fun u hu => by obtain ⟨k0, k1⟩ := hu; go_simp; try rfl) HK0.out zt ?_
    simp only [Act.put, zA, zB, zC, zD, zF, zG]
    refine zP (i := 4) rfl (fun u hu => by obtain ⟨k0, k1⟩ := hu; go_simp; try rfl) HK0.out zt ?_
    simp only [Act.put, zA, zB, zC, zD, zF, zG]
    refine zP (i := 5) rfl (fun u hu => by obtain ⟨k0, k1⟩ := hu; go_simp; try rfl) HK0.out zt ?_
    simp only [Act.put, zA, zB, zC, zD, zF, zG]
    refine zP (i := 6) rfl (fun u hu => by obtain ⟨k0, k1⟩ := hu; go_simp; try rfl) HK0.out zt ?_
    simp only [Act.put, zA, zB, zC, zD, zF, zG]
    refine zR 7 rfl (fun K hK => ?_)
    go_simp
    refine (ctrList hn HRN.out (a, k) ha HM.out (fun y hy => HOF.out y (hy.lt HRN.out) (Nat.le_trans hy.le hk)) r.2 _ HNU2.out.cok _ (fun b hb => Or.inl hb) _ _ _ ((HRS.out.below HB2.out).drew) k (Suffix.start (x := (a, k)) (List.mem_of_getElem? HR.out) HRA.out) hk).mono ?_
    rintro e w3 ⟨rfl, hc3, hA3⟩
    have HNU3 := zh (HNU2.out.aside hc3 hA3)
    have HA3 := zh ((HA.out.trans (.of HB2.out)).drew.trans hA3)
    have hsz3 : w1.heap.size + 1 ≤ w3.heap.size := by have := hA3.size; simpa using this
    have HBR3 := zh (show w3.heap[w1.heap.size]? = some (.cells #[.int .i64 left, .slice AQ m cQ] 60 (0, 0)) from (hA3.block _ (by show w1.heap.size < (w1.alloc _).heap.size; simp) (Or.inr (by have := HNU.out.lt; omega))).trans (heap_alloc_new w1 _))
    have HC3 := zh (show w3.cell? ⟨w1.heap.size, 1, none⟩ = some (.slice AQ m cQ) by simp [World.cell?, HBR3.out])
    have HRS3 := zh (((HRS.out.below HB2.out).drew).keep (.aside hA3 fun b hb => Or.inl hb))
    have HBS3 := zh ((hA3.block _ (by show w.heap.size < (w1.alloc _).heap.size; simp; omega) (Or.inr (by omega))).trans ((HB2.out.block _ (by omega)).trans HBS.out))
    have HBT3 := zh ((hA3.block _ (by show w.heap.size + 1 < (w1.alloc _).heap.size; simp; omega) (Or.inr (by omega))).trans ((HB2.out.block _ hl1).trans HBT.out))
    clear hc3 hA3
    refine hK.out _ _ (And.intro HNU3.out.ptr HC3.out) zt ?_
    clear hK K
    refine zP (i := 8) rfl (fun u hu => by obtain ⟨k0, k1⟩ := hu; go_simp; try rfl) (And.intro HNU3.out.ptr HC3.out) zt ?_
    simp only [Act.put, zA, zB, zC, zD, zF, zG]
    refine wpAnyL_done (by kernel_rfl) ?_ _
    have hp := HPRE.out
    rw [if_pos HRA.out] at hp
    obtain ⟨lv, hlv⟩ := zE (lN g.2.2.2 r.2 k)
    rw [show listC (lenD g.2.2.2) (cN g.2.2.2) r.2 k = lv from hlv.symm]
    rw [← hlv] at hp
    have hple : preR g.2.2.2 a k (j + 1) ≤ preR g.2.2.2 a k g.2.2.2.length := preR_mono HL2.out
    have hlvB : lv < 1000000000 := by have := HC.out; have : MC = 1000000000 := rfl; omega
    have HP := zh hp
    have HLV := zh hlv
    have hiiB : ii ≤ i := by have := HII.out; omega
    clear hp hlv hple
    by_cases hge : lv ≤ ii
    ·
     have hgeI : (lv : Int) ≤ (ii : Int) := by omega
     go_wp2_with fail
     go_roundg (nR - (j + 1))
     case measure => rw [HGK.out]; omega
     case rel => exact ⟨j + 1, ii - lv, by omega, rfl, by first | (congr 1; omega) | go_num, by go_num, by have h1 := HP.out; have h2 := HII.out; omega, HNU3.out, HA3.out, HBS3.out, HBT3.out⟩
    have hgeI : ¬ (lv : Int) ≤ (ii : Int) := by omega
    have hc3 := HC3.out
    go_wp2_with fail
    refine (numList hn HRN.out (by have := HV.out.rl; omega) (a, k) ha hk HM.out HTR.out r.2 w3 HNU3.out _ (fun b hb => hb) _ _ _ HRS3.out (by omega) k (Suffix.start (x := (a, k)) (List.mem_of_getElem? HR.out) HRA.out) hk ii (by have := HLV.out; omega) (by have h1 := HLV.out; have : MC = 1000000000 := rfl; omega)).mono ?_
    rintro e w4 ⟨ts, A4, c4, rfl, hsl4, hul4, hnu4, hA4⟩
    have HSL4 := zh hsl4
    have HUL4 := zh hul4
    have HNU4 := zh hnu4
    have HA4 := zh (HA3.out.trans hA4)
    have hsz4 := hA4.size
    obtain ⟨d0, d1, d2, f0, f1, f2⟩ := tree_cells ((hA4.block _ (by omega) (Or.inr (by omega))).trans HBT3.out)
    clear hsl4 hul4 hnu4 hA4 hc3
    have hl4 : w.heap.size + 1 < w4.heap.size := by omega
    go_wp2_with fail
    refine bodyPost_ret (v := .agg #[.int .i64 (j : Int), .int .i64 0, .slice A4 m c4]) (by simp [results, Tryz.results30, go_sem, d0, d1, d2]) rfl ?_
    have hset : ∀ (u : World) (q : Nat) (v : Value), Below w.heap.size u (u.setCell ⟨w.heap.size + 1, q, none⟩ v) := fun u q v => (Below.refl _ _).setCell (by show w.heap.size ≤ w.heap.size + 1; omega) _
    have hbf := ((hset w4 0 (.int .i64 (j : Int))).trans (hset _ 1 (.int .i64 0))).trans (hset _ 2 (.slice A4 m c4))
    have hu := Unr.node HR.out HRA.out (i := ii) (n := k) (by have := HLV.out; omega) HUL4.out
    rw [HII.out] at hu
    exact ⟨.node (j : Int) 0 ts, A4, m, c4, rfl, ((HSL4.out.more (S' := fun b => w.heap.size + 2 ≤ b) (fun b hb => by omega)).keep (((Kept.setCell _ _ _ _ (by simp)).trans (.setCell _ _ _ _ (by simp))).trans (.setCell _ _ _ _ (by simp)))).more (fun b hb => by omega), hu, HNU4.out.kept hbf o5, HA4.out.grow hbf (Nat.le_refl _)⟩
   have hne : (r.1 != (a : Int)) = true := by simp [hra]
   have HRA := zh hra
   go_wp2_with fail
   go_roundg (nR - (j + 1))
   case measure => rw [HGK.out]; omega
   case rel =>
    have hp := HPRE.out
    rw [if_neg HRA.out] at hp
    exact ⟨j + 1, ii, by omega, rfl, rfl, by go_num, by rw [hp]; exact HII.out, HNU.out.below HB2.out, HA.out.trans (.of HB2.out), (HB2.out.block _ (by omega)).trans HBS.out, (HB2.out.block _ hl1).trans HBT.out⟩
  exfalso
  obtain rfl : j = nR := by omega
  have h1 := HI.out
  have h2 := HII.out
  rw [← HRL.out] at h1
  omega
theorem numTree {L : Lay} {g : GramD} {n Bn nR cR : Nat} {AR : Option Addr} (hn : n ≤ 1000) (hv : GValid g) (a k : Nat) (ha : a < nonsOf g) (hk : k ≤ n) (hm : ¬ Many g.2.2.2 (a, k)) (hc : cN g.2.2.2 a k < MC) : TreeSpec L g n Bn AR nR cR (a, k) := by
 have hR := rulesN_of hv
 have key : ∀ x : Nat × Nat, Acc (fun y x => Edge g.2.2.2 x y) x → x.1 < nonsOf g → x.2 ≤ n → ¬ Many g.2.2.2 x → cN g.2.2.2 x.1 x.2 < MC → TreeSpec L g n Bn AR nR cR x := by
  intro x hx
  induction hx with
  | intro x _ ih =>
   intro h1 h2 h3 h4
   exact numTreeStep hn hv x.1 x.2 h1 h2 h3 h4 fun y hy hlt => ih y hy (hy.lt hR) (Nat.le_trans hy.le h2) (fun h => h3 (Many.back hy h)) hlt
 exact key (a, k) (acc_few hR (x := (a, k)) ha hm) ha hk hm hc
theorem Cok.ord2 {w : World} {L : Lay} {g : GramD} {n : Nat} (h : Cok w L g n) : L.lo ≤ L.l3 := by
 obtain ⟨K, hc, _⟩ := h
 have h1 := hc.o1
 have h2 := hc.o2
 omega
def CntOk (g : GramD) (n base : Nat) (K : Int) (e : Ending) (w' : World) : Prop :=
 K = -1 ∧ e = .returned (.tuple #[.pointer none, .int .i64 0, .int .i64 9]) ∨ 1000000000 ≤ K ∧ e = .returned (.tuple #[.pointer none, .int .i64 0, .int .i64 2]) ∨
  ∃ L : Lay, (0 ≤ K ∧ K < 1000000000) ∧ e = .returned (.tuple #[.pointer (some ⟨L.Bc, 0, none⟩), .int .i64 K, .int .i64 0]) ∧ Cok w' L g n ∧ base ≤ L.lo
def TreeOk (R : List RuleD) (st n base : Nat) (K i : Int) (e : Ending) (w' : World) : Prop :=
 ¬ (0 ≤ i ∧ i < K) ∧ e = .returned (.tuple #[.agg #[.int .i64 0, .int .i64 0, .slice none 0 0], .int .i64 5]) ∨
  (0 ≤ i ∧ i < K) ∧ ∃ (t : TreeD) (A : Option Addr) (m c : Nat), e = .returned (.tuple #[.agg #[.int .i64 t.rule, .int .i64 t.term, .slice A m c], .int .i64 0]) ∧ Sl RTree w' (fun b => base ≤ b) A m c t.kids ∧ Unr R (false, (st : Int)) n i.toNat t
set_option linter.unusedSimpArgs false in
set_option maxRecDepth 100000 in
set_option maxHeartbeats 4000000 in
theorem rankCnt (w : World) (S : Nat → Prop) (AR : Option Addr) (nR cR : Nat) (g : GramD) (hg : Sl RRule w S AR nR cR g.2.2.2) (hv : GValid g) (n : Nat) (hn : n ≤ 24) (st : Nat) (hst : g.2.2.1 = (st : Int)) :
    Calls Tryz.prog 29 #[.agg #[.int .i64 g.1, .int .i64 g.2.1, .int .i64 g.2.2.1, .slice AR nR cR], .int .i64 n] w fun e w' =>
     CntOk g n w.heap.size (treesN g.2.2.2 st n) e w' ∧ Below w.heap.size w w' := by
 have HG := zh hg
 have HV := zh hv
 have HST := zh hst
 have hstN : st < nonsOf g := by have := hv.st; unfold nonsOf; omega
 have hrg := treesN_range (rulesN_of hv) (a := st) (k := n) hstN
 obtain ⟨K, hK⟩ := zE (treesN g.2.2.2 st n)
 rw [← hK] at hrg ⊢
 have HKE := zh hK
 clear hK
 have HRN := zh (rulesN_of hv)
 have HRL := zh (show g.2.2.2.length ≤ 1000 by have := hv.rl; omega)
 clear hg hv hst
 have hall : ∀ u : World, Below (w.heap.size + 1) (w.alloc (.cells #[.int .i64 g.1, .int .i64 g.2.1, .int .i64 g.2.2.1, .slice AR nR cR] 25)) u → u.cell? ⟨w.heap.size, 0, none⟩ = some (.int .i64 g.1) ∧ u.cell? ⟨w.heap.size, 1, none⟩ = some (.int .i64 g.2.1) ∧ u.cell? ⟨w.heap.size, 2, none⟩ = some (.int .i64 g.2.2.1) ∧ u.cell? ⟨w.heap.size, 3, none⟩ = some (.slice AR nR cR) := by
  intro u hu
  refine ⟨(hu.cell (by simp)).trans ?_, (hu.cell (by simp)).trans ?_, (hu.cell (by simp)).trans ?_, (hu.cell (by simp)).trans ?_⟩ <;> simp
 have HALL := zh hall
 clear hall
 go_enter Tryz.func29, Tryz.ntmps29
 go_wp2_with fail
 refine (censusTotal _ S AR nR cR g (HG.out.alloc _) HV.out n hn).mono ?_
 rintro e w1 ⟨rfl, hb1⟩
 simp only [World.size_alloc] at hb1
 obtain ⟨d0, d1, d2, d3⟩ := HALL.out _ hb1
 have l1 := cell_lt d0
 have HB1 := zh hb1
 have HG1 := zh ((HG.out.alloc (.cells #[.int .i64 g.1, .int .i64 g.2.1, .int .i64 g.2.2.1, .slice AR nR cR] 25)).below (hb1.mono (by simp)))
 have hs1 := hb1.size
 simp only [World.size_alloc] at hs1
 clear hb1 HG
 go_wp2_with fail
 clear d0 d1 d2 d3
 refine (censusMake _ S AR nR cR g HG1.out HV.out n (by omega)).mono ?_
 rintro e w2 ⟨L, rfl, hctr, hlo, hb2⟩
 have hb12 : Below (w.heap.size + 1) (w.alloc (.cells #[.int .i64 g.1, .int .i64 g.2.1, .int .i64 g.2.2.1, .slice AR nR cR] 25)) w2 := HB1.out.trans (hb2.mono (by omega))
 obtain ⟨_, _, e2, _⟩ := HALL.out _ hb12
 rw [HST.out] at e2
 have l2 := cell_lt e2
 have HB2 := zh (((Below.refl w.heap.size w).alloc (Nat.le_refl _) (.cells #[.int .i64 g.1, .int .i64 g.2.1, .int .i64 g.2.2.1, .slice AR nR cR] 25)).trans (hb12.mono (by omega)))
 have hLw := hctr.lt
 have o1 := hctr.o1
 have o2 := hctr.o2
 have o3 := hctr.o3
 have o4 := hctr.o4
 have HC := zh (show Cok w2 L g n from ⟨_, hctr, fun _ _ _ _ => Or.inl (by omega)⟩)
 clear hb12 hb2 hctr HB1 HG1 HALL HV
 go_wp2_with fail
 refine (gramN _ _).mono ?_
 rintro e w4 ⟨rfl, hb4⟩
 have HB4 := zh hb4
 have hs4 := hb4.size
 clear hb4 e2
 go_wp2_with fail
 refine (ctrOf (by omega) HRN.out HRL.out st n hstN (Nat.le_refl _) _ (HC.out.below HB4.out)).mono ?_
 rintro e w5 ⟨rfl, hc5, hA5⟩
 have HC5 := zh hc5
 have HB5 := zh (HB2.out.trans ((HB4.out.mono HB2.out.size).trans (hA5.below (by omega) (by omega))))
 dsimp only
 rw [← HKE.out]
 clear hc5 hA5 HC HB4 HB2 HKE
 by_cases hk1 : K = -1
 ·
  subst hk1
  go_wp2_with fail
  go_ret3
  exact ⟨Or.inl ⟨rfl, rfl⟩, HB5.out⟩
 by_cases hk2 : 1000000000 ≤ K
 ·
  go_wp2_with fail
  go_ret3
  exact ⟨Or.inr (Or.inl ⟨hk2, rfl⟩), HB5.out⟩
 go_wp2_with fail
 go_ret3
 exact ⟨Or.inr (Or.inr ⟨L, ⟨by omega, by omega⟩, rfl, HC5.out, by omega⟩), HB5.out⟩
set_option linter.unusedSimpArgs false in
set_option maxRecDepth 100000 in
set_option maxHeartbeats 4000000 in
theorem rankTree (w : World) (S : Nat → Prop) (AR : Option Addr) (nR cR : Nat) (g : GramD) (hg : Sl RRule w S AR nR cR g.2.2.2) (hv : GValid g) (n : Nat) (hn : n ≤ 24) (st : Nat) (hst : g.2.2.1 = (st : Int)) (K : Int) (hK : K = treesN g.2.2.2 st n) (hK0 : 0 ≤ K) (hK1 : K < 1000000000) (i : Int) (hi1 : -1 ≤ i) (hi2 : i ≤ 1000000000) :
    Calls Tryz.prog 12 #[.agg #[.int .i64 g.1, .int .i64 g.2.1, .int .i64 g.2.2.1, .slice AR nR cR], .int .i64 n, .int .i64 i] w fun e w' =>
     TreeOk g.2.2.2 st n w.heap.size K i e w' ∧ Below w.heap.size w w' := by
 have HG := zh hg.fit
 have HV := zh hv
 have HST := zh hst
 have HKE := zh hK
 have hstN : st < nonsOf g := by have := hv.st; unfold nonsOf; omega
 obtain ⟨w1, hw1⟩ : ∃ w1 : World, w1 = (w.alloc (.cells #[.int .i64 g.1, .int .i64 g.2.1, .int .i64 g.2.2.1, .slice AR nR cR] 25)).alloc (.cells #[.int .i64 0, .int .i64 0, .slice none 0 0] 44) := ⟨_, rfl⟩
 have hz1 : w1.heap.size = w.heap.size + 2 := by rw [hw1]; simp
 have hgb : w1.heap[w.heap.size]? = some (.cells #[.int .i64 g.1, .int .i64 g.2.1, .int .i64 g.2.2.1, .slice AR nR cR] 25 (0, 0)) := by rw [hw1]; exact (Below.heap_alloc _ _ _ (by simp)).trans (heap_alloc_new w _)
 have htb : w1.heap[w.heap.size + 1]? = some (.cells #[.int .i64 0, .int .i64 0, .slice none 0 0] 44 (0, 0)) := by rw [hw1]; exact heap_new _ _ _ (by simp)
 have HB01 := zh (show Below w.heap.size w w1 by rw [hw1]; exact ((Below.refl _ _).alloc (Nat.le_refl _) _).alloc (by simp) _)
 have hall : ∀ u : World, Below (w.heap.size + 2) w1 u → (u.cell? ⟨w.heap.size, 0, none⟩ = some (.int .i64 g.1) ∧ u.cell? ⟨w.heap.size, 1, none⟩ = some (.int .i64 g.2.1) ∧ u.cell? ⟨w.heap.size, 2, none⟩ = some (.int .i64 (st : Int)) ∧ u.cell? ⟨w.heap.size, 3, none⟩ = some (.slice AR nR cR)) ∧ u.heap[w.heap.size + 1]? = some (.cells #[.int .i64 0, .int .i64 0, .slice none 0 0] 44 (0, 0)) := by
  intro u hu
  have h1 := (hu.block w.heap.size (by omega)).trans hgb
  refine ⟨?_, (hu.block _ (by omega)).trans htb⟩
  simp [World.cell?, h1, HST.out]
 have HALL := zh hall
 have HGB := zh hgb
 have HTB := zh htb
 clear hg hv hst hall hgb htb hK
 go_enter Tryz.func12, Tryz.ntmps12
 go_wp2_with fail
 rw [← hw1]
 clear hw1
 refine (rankCnt w1 (fun b => S b ∧ b < w.heap.size) AR nR cR g (HG.out.below HB01.out) HV.out n hn st HST.out).mono ?_
 rintro e w2 ⟨hcase, hb2⟩
 rcases hcase with ⟨h1, _⟩ | ⟨h1, _⟩ | ⟨L, _, rfl, hc2, hlo⟩
 · exfalso; have := HKE.out; omega
 · exfalso; have := HKE.out; omega
 rw [← HKE.out]
 have HB2 := zh (show Below (w.heap.size + 2) w1 w2 from hb2.mono (by omega))
 have HC2 := zh hc2
 have hs2 := hb2.size
 have o0 := hc2.ord2
 obtain ⟨o1, o2, o3⟩ := hc2.ord
 have hk2 := (HALL.out _ HB2.out).1
 obtain ⟨d0, d1, d2, f0, f1, f2⟩ := tree_cells (HALL.out _ HB2.out).2
 have HG2 := zh ((HG.out.below HB01.out).below hb2)
 clear hb2 hc2
 by_cases hin : 0 ≤ i ∧ i < K
 ·
  obtain ⟨hin1, hin2⟩ := hin
  have ht1 : ¬ i < 0 := by omega
  have ht2 : ¬ K ≤ i := by omega
  obtain ⟨q, rfl⟩ : ∃ q : Nat, i = (q : Int) := ⟨i.toNat, by omega⟩
  have hRN := rulesN_of HV.out
  have hke := HKE.out
  have hlen : lenD g.2.2.2 st n = true := by
   apply Classical.byContradiction
   intro hx
   unfold treesN at hke
   rw [if_neg hx] at hke
   omega
  have hmany : ¬ Many g.2.2.2 (st, n) := by
   intro hx
   unfold treesN at hke
   rw [if_pos hlen, if_pos hx] at hke
   omega
  have hcn : K = (cN g.2.2.2 st n : Int) := by
   unfold treesN at hke
   rw [if_pos hlen, if_neg hmany] at hke
   exact hke
  have HTS := zh (show ∀ Bn, TreeSpec L g n Bn AR nR cR (st, n) from fun Bn => numTree (by omega) HV.out st n hstN (Nat.le_refl _) hmany (by have : MC = 1000000000 := rfl; omega))
  have HQ := zh (show q < cN g.2.2.2 st n by omega)
  have HK0 := zh (HALL.out _ HB2.out.drew).1
  clear hRN hke hlen hmany hcn d0 d1 d2 f0 f1 f2 hk2
  go_wp2_with fail
  refine wp_region_late (late := []) (S1 := fun u => u.cell? ⟨w.heap.size, 0, none⟩ = some (.int .i64 g.1) ∧ u.cell? ⟨w.heap.size, 1, none⟩ = some (.int .i64 g.2.1) ∧ u.cell? ⟨w.heap.size, 2, none⟩ = some (.int .i64 (st : Int)) ∧ u.cell? ⟨w.heap.size, 3, none⟩ = some (.slice AR nR cR)) (S := fun _ => True) (by kernel_rfl) ?_
  refine zP (i := 0) rfl (fun u hu => by obtain ⟨k0, k1, k2, k3⟩ := hu; go_simp; try rfl) HK0.out zt ?_
  simp only [Act.put, zA, zB, zC, zD, zF, zG]
  refine zP (i := 1) rfl (fun u hu => by obtain ⟨k0, k1, k2, k3⟩ := hu; go_simp; try rfl) HK0.out zt ?_
  simp only [Act.put, zA, zB, zC, zD, zF, zG]
  refine zP (i := 2) rfl (fun u hu => by obtain ⟨k0, k1, k2, k3⟩ := hu; go_simp; try rfl) HK0.out zt ?_
  simp only [Act.put, zA, zB, zC, zD, zF, zG]
  refine zP (i := 4) rfl (fun u hu => by obtain ⟨k0, k1, k2, k3⟩ := hu; go_simp; try rfl) HK0.out zt ?_
  simp only [Act.put, zA, zB, zC, zD, zF, zG]
  refine zP (i := 5) rfl (fun u hu => by obtain ⟨k0, k1, k2, k3⟩ := hu; go_simp; try rfl) HK0.out zt ?_
  simp only [Act.put, zA, zB, zC, zD, zF, zG]
  refine zP (i := 7) rfl (fun u hu => by obtain ⟨k0, k1, k2, k3⟩ := hu; go_simp; try rfl) HK0.out zt ?_
  simp only [Act.put, zA, zB, zC, zD, zF, zG]
  refine zP (i := 8) rfl (fun u hu => by obtain ⟨k0, k1, k2, k3⟩ := hu; go_simp; try rfl) HK0.out zt ?_
  simp only [Act.put, zA, zB, zC, zD, zF, zG]
  refine wpAnyL_ready (rs := [3, 6]) (by kernel_rfl) (by simp) ?_
  refine AllL.cons rfl (fun K hK => ?_) ?_
  ·
   go_simp
   obtain ⟨u1, hu1⟩ : ∃ u1 : World, u1 = (w2.alloc (.cells #[.int .i64 g.1, .int .i64 g.2.1, .int .i64 (st : Int), .slice AR nR cR, .pointer (some ⟨L.Bc, 0, none⟩)] 80)).drew := ⟨_, rfl⟩
   obtain ⟨B1, hB1⟩ := zE w2.heap.size
   have HBL1 := zh (show Below w2.heap.size w2 u1 by rw [hu1]; exact ((Below.refl w2.heap.size w2).alloc (Below.refl w2.heap.size w2).size _).drew)
   have HNB1 := zh (show u1.heap[B1]? = some (.cells #[.int .i64 g.1, .int .i64 g.2.1, .int .i64 (st : Int), .slice AR nR cR, .pointer (some ⟨L.Bc, 0, none⟩)] 80 (0, 0)) by rw [hu1, hB1]; exact heap_alloc_new w2 _)
   have hBlo1 : w2.heap.size ≤ B1 := by rw [hB1]; exact (Below.refl w2.heap.size w2).size
   have HKK1 := zh (HALL.out _ (HB2.out.trans (HBL1.out.mono (by omega)))).1
   rw [← hu1, ← hB1]
   clear hu1 hB1
   refine hK.out _ _ HKK1.out zt ?_
   clear hK K
   refine zR 6 rfl (fun K hK => ?_)
   go_simp
   refine (gramN _ _).mono ?_
   rintro e u2 ⟨rfl, hb2⟩
   have HBL2 := zh (show Below w2.heap.size w2 u2 from (show Below w2.heap.size w2 u1 from HBL1.out).trans (hb2.mono HBL1.out.size))
   have HKK2 := zh (HALL.out _ (HB2.out.trans (HBL2.out.mono (by omega)))).1
   have HNB2 := zh ((hb2.block _ (heap_lt HNB1.out)).trans HNB1.out)
   clear hb2
   refine hK.out _ _ HKK2.out zt ?_
   clear hK K
   refine zR 9 rfl (fun K hK => ?_)
   go_simp
   have hnum3 : NumSt u2 L g n B1 AR nR cR := ⟨HC2.out.below HBL2.out, by rw [HNB2.out, HST.out], ((HG2.out.below HBL2.out).more (fun b hb => by have := hb.2; omega)), by omega⟩
   refine (HTS.out _ u2 hnum3 q HQ.out).mono ?_
   rintro e w9 ⟨t, A9, m9, c9, rfl, hsl9, hut9, _, hA9⟩
   have hb9 : Below (w.heap.size + 2) w2 w9 := (HBL2.out.mono (by omega)).trans (hA9.below (by have := HBL2.out.size; omega) (by omega))
   have hall9 := HALL.out _ (HB2.out.trans hb9)
   obtain ⟨d0, d1, d2, f0, f1, f2⟩ := tree_cells hall9.2
   have HK9 := zh hall9.1
   have HSL9 := zh hsl9
   have HUT9 := zh hut9
   have hl9 : w.heap.size + 1 < w9.heap.size := heap_lt hall9.2
   have HBZ := zh (HB01.out.trans ((HB2.out.trans hb9).mono (by omega)))
   have hzu : w2.heap.size ≤ u2.heap.size := HBL2.out.size
   clear hnum3 hall9 hb9 hsl9 hut9 hA9
   refine hK.out _ _ HK9.out zt ?_
   clear hK K
   refine zR 10 rfl (fun K hK => ?_)
   go_simp
   refine hK.out _ _ ⟨(World.cell?_setCell_other _ _ _ _ (by simp)).trans ((World.cell?_setCell_other _ _ _ _ (by simp)).trans ((World.cell?_setCell_other _ _ _ _ (by simp)).trans HK9.out.1)), (World.cell?_setCell_other _ _ _ _ (by simp)).trans ((World.cell?_setCell_other _ _ _ _ (by simp)).trans ((World.cell?_setCell_other _ _ _ _ (by simp)).trans HK9.out.2.1)), (World.cell?_setCell_other _ _ _ _ (by simp)).trans ((World.cell?_setCell_other _ _ _ _ (by simp)).trans ((World.cell?_setCell_other _ _ _ _ (by simp)).trans HK9.out.2.2.1)), (World.cell?_setCell_other _ _ _ _ (by simp)).trans ((World.cell?_setCell_other _ _ _ _ (by simp)).trans ((World.cell?_setCell_other _ _ _ _ (by simp)).trans HK9.out.2.2.2))⟩ zt ?_
   clear hK K
   refine zP (i := 11) rfl (fun u hu => by obtain ⟨k0, k1, k2, k3⟩ := hu; go_simp; try rfl) ⟨(World.cell?_setCell_other _ _ _ _ (by simp)).trans ((World.cell?_setCell_other _ _ _ _ (by simp)).trans ((World.cell?_setCell_other _ _ _ _ (by simp)).trans HK9.out.1)), (World.cell?_setCell_other _ _ _ _ (by simp)).trans ((World.cell?_setCell_other _ _ _ _ (by simp)).trans ((World.cell?_setCell_other _ _ _ _ (by simp)).trans HK9.out.2.1)), (World.cell?_setCell_other _ _ _ _ (by simp)).trans ((World.cell?_setCell_other _ _ _ _ (by simp)).trans ((World.cell?_setCell_other _ _ _ _ (by simp)).trans HK9.out.2.2.1)), (World.cell?_setCell_other _ _ _ _ (by simp)).trans ((World.cell?_setCell_other _ _ _ _ (by simp)).trans ((World.cell?_setCell_other _ _ _ _ (by simp)).trans HK9.out.2.2.2))⟩ zt ?_
   simp only [Act.put, zA, zB, zC, zD, zF, zG]
   refine wpAnyL_done (by kernel_rfl) ?_ _
   go_wp2_with fail
   refine bodyPost_ret (v := .tuple #[.agg #[.int .i64 t.rule, .int .i64 t.term, .slice A9 m9 c9], .int .i64 0]) (by simp [results, Tryz.results12, go_sem, d0, d1, d2]) rfl ?_
   have hset : ∀ (u : World) (q : Nat) (v : Value), Below w.heap.size u (u.setCell ⟨w.heap.size + 1, q, none⟩ v) := fun u q v => (Below.refl _ _).setCell (by show w.heap.size ≤ w.heap.size + 1; omega) _
   have hbf := ((hset w9 0 (.int .i64 t.rule)).trans (hset _ 1 (.int .i64 t.term))).trans (hset _ 2 (.slice A9 m9 c9))
   have hut := HUT9.out
   exact ⟨Or.inr ⟨⟨by omega, by omega⟩, t, A9, m9, c9, rfl, ((HSL9.out.more (S' := fun b => w.heap.size + 2 ≤ b) (fun b hb => by omega)).keep (((Kept.setCell _ _ _ _ (by simp)).trans (.setCell _ _ _ _ (by simp))).trans (.setCell _ _ _ _ (by simp)))).more (fun b hb => by omega), by rw [Int.toNat_natCast]; exact hut⟩, HBZ.out.trans hbf⟩
  refine AllL.cons rfl (fun K hK => ?_) ?_
  ·
   go_simp
   refine (gramN _ _).mono ?_
   rintro e u5 ⟨rfl, hb5⟩
   have HBL5 := zh (show Below w2.heap.size w2 u5 from (show Below w2.heap.size w2 w2.drew from (Below.refl w2.heap.size w2).drew).trans (hb5.mono (Below.refl w2.heap.size w2).drew.size))
   have HKK5 := zh (HALL.out _ (HB2.out.trans (HBL5.out.mono (by omega)))).1
   clear hb5
   refine hK.out _ _ HKK5.out zt ?_
   clear hK K
   refine zR 3 rfl (fun K hK => ?_)
   go_simp
   obtain ⟨u6, hu6⟩ : ∃ u6 : World, u6 = (u5.alloc (.cells #[.int .i64 g.1, .int .i64 g.2.1, .int .i64 (st : Int), .slice AR nR cR, .pointer (some ⟨L.Bc, 0, none⟩)] 80)) := ⟨_, rfl⟩
   obtain ⟨B6, hB6⟩ := zE u5.heap.size
   have HBL6 := zh (show Below w2.heap.size w2 u6 by rw [hu6]; exact (HBL5.out.alloc HBL5.out.size _))
   have HNB6 := zh (show u6.heap[B6]? = some (.cells #[.int .i64 g.1, .int .i64 g.2.1, .int .i64 (st : Int), .slice AR nR cR, .pointer (some ⟨L.Bc, 0, none⟩)] 80 (0, 0)) by rw [hu6, hB6]; exact heap_alloc_new u5 _)
   have hBlo6 : w2.heap.size ≤ B6 := by rw [hB6]; exact HBL5.out.size
   have HKK6 := zh (HALL.out _ (HB2.out.trans (HBL6.out.mono (by omega)))).1
   rw [← hu6, ← hB6]
   clear hu6 hB6
   refine hK.out _ _ HKK6.out zt ?_
   clear hK K
   refine zR 9 rfl (fun K hK => ?_)
   go_simp
   have hnum7 : NumSt u6 L g n B6 AR nR cR := ⟨HC2.out.below HBL6.out, by rw [HNB6.out, HST.out], ((HG2.out.below HBL6.out).more (fun b hb => by have := hb.2; omega)), by omega⟩
   refine (HTS.out _ u6 hnum7 q HQ.out).mono ?_
   rintro e w9 ⟨t, A9, m9, c9, rfl, hsl9, hut9, _, hA9⟩
   have hb9 : Below (w.heap.size + 2) w2 w9 := (HBL6.out.mono (by omega)).trans (hA9.below (by have := HBL6.out.size; omega) (by omega))
   have hall9 := HALL.out _ (HB2.out.trans hb9)
   obtain ⟨d0, d1, d2, f0, f1, f2⟩ := tree_cells hall9.2
   have HK9 := zh hall9.1
   have HSL9 := zh hsl9
   have HUT9 := zh hut9
   have hl9 : w.heap.size + 1 < w9.heap.size := heap_lt hall9.2
   have HBZ := zh (HB01.out.trans ((HB2.out.trans hb9).mono (by omega)))
   have hzu : w2.heap.size ≤ u6.heap.size := HBL6.out.size
   clear hnum7 hall9 hb9 hsl9 hut9 hA9
   refine hK.out _ _ HK9.out zt ?_
   clear hK K
   refine zR 10 rfl (fun K hK => ?_)
   go_simp
   refine hK.out _ _ ⟨(World.cell?_setCell_other _ _ _ _ (by simp)).trans ((World.cell?_setCell_other _ _ _ _ (by simp)).trans ((World.cell?_setCell_other _ _ _ _ (by simp)).trans HK9.out.1)), (World.cell?_setCell_other _ _ _ _ (by simp)).trans ((World.cell?_setCell_other _ _ _ _ (by simp)).trans ((World.cell?_setCell_other _ _ _ _ (by simp)).trans HK9.out.2.1)), (World.cell?_setCell_other _ _ _ _ (by simp)).trans ((World.cell?_setCell_other _ _ _ _ (by simp)).trans ((World.cell?_setCell_other _ _ _ _ (by simp)).trans HK9.out.2.2.1)), (World.cell?_setCell_other _ _ _ _ (by simp)).trans ((World.cell?_setCell_other _ _ _ _ (by simp)).trans ((World.cell?_setCell_other _ _ _ _ (by simp)).trans HK9.out.2.2.2))⟩ zt ?_
   clear hK K
   refine zP (i := 11) rfl (fun u hu => by obtain ⟨k0, k1, k2, k3⟩ := hu; go_simp; try rfl) ⟨(World.cell?_setCell_other _ _ _ _ (by simp)).trans ((World.cell?_setCell_other _ _ _ _ (by simp)).trans ((World.cell?_setCell_other _ _ _ _ (by simp)).trans HK9.out.1)), (World.cell?_setCell_other _ _ _ _ (by simp)).trans ((World.cell?_setCell_other _ _ _ _ (by simp)).trans ((World.cell?_setCell_other _ _ _ _ (by simp)).trans HK9.out.2.1)), (World.cell?_setCell_other _ _ _ _ (by simp)).trans ((World.cell?_setCell_other _ _ _ _ (by simp)).trans ((World.cell?_setCell_other _ _ _ _ (by simp)).trans HK9.out.2.2.1)), (World.cell?_setCell_other _ _ _ _ (by simp)).trans ((World.cell?_setCell_other _ _ _ _ (by simp)).trans ((World.cell?_setCell_other _ _ _ _ (by simp)).trans HK9.out.2.2.2))⟩ zt ?_
   simp only [Act.put, zA, zB, zC, zD, zF, zG]
   refine wpAnyL_done (by kernel_rfl) ?_ _
   go_wp2_with fail
   refine bodyPost_ret (v := .tuple #[.agg #[.int .i64 t.rule, .int .i64 t.term, .slice A9 m9 c9], .int .i64 0]) (by simp [results, Tryz.results12, go_sem, d0, d1, d2]) rfl ?_
   have hset : ∀ (u : World) (q : Nat) (v : Value), Below w.heap.size u (u.setCell ⟨w.heap.size + 1, q, none⟩ v) := fun u q v => (Below.refl _ _).setCell (by show w.heap.size ≤ w.heap.size + 1; omega) _
   have hbf := ((hset w9 0 (.int .i64 t.rule)).trans (hset _ 1 (.int .i64 t.term))).trans (hset _ 2 (.slice A9 m9 c9))
   have hut := HUT9.out
   exact ⟨Or.inr ⟨⟨by omega, by omega⟩, t, A9, m9, c9, rfl, ((HSL9.out.more (S' := fun b => w.heap.size + 2 ≤ b) (fun b hb => by omega)).keep (((Kept.setCell _ _ _ _ (by simp)).trans (.setCell _ _ _ _ (by simp))).trans (.setCell _ _ _ _ (by simp)))).more (fun b hb => by omega), by rw [Int.toNat_natCast]; exact hut⟩, HBZ.out.trans hbf⟩
  exact AllL.nil
 have HIN := zh hin
 have HBF := zh ((HB01.out.trans (HB2.out.mono (by omega))).setCell (p := ⟨w.heap.size + 1, 0, none⟩) (by show w.heap.size ≤ w.heap.size + 1; omega) (.int .i64 0))
 by_cases hi0 : i < 0
 ·
  clear hin
  go_wp2_with fail
  refine bodyPost_ret (v := .tuple #[.agg #[.int .i64 0, .int .i64 0, .slice none 0 0], .int .i64 5]) (by simp [results, Tryz.results12, go_sem, d0, d1, d2]) rfl ?_
  exact ⟨Or.inl ⟨HIN.out, rfl⟩, (HBF.out.setCell (by show w.heap.size ≤ w.heap.size + 1; omega) _).setCell (by show w.heap.size ≤ w.heap.size + 1; omega) _⟩
 have hik : K ≤ i := by omega
 clear hin
 go_wp2_with fail
 refine bodyPost_ret (v := .tuple #[.agg #[.int .i64 0, .int .i64 0, .slice none 0 0], .int .i64 5]) (by simp [results, Tryz.results12, go_sem, d0, d1, d2]) rfl ?_
 exact ⟨Or.inl ⟨HIN.out, rfl⟩, (HBF.out.setCell (by show w.heap.size ≤ w.heap.size + 1; omega) _).setCell (by show w.heap.size ≤ w.heap.size + 1; omega) _⟩
end Go.Proofs.YtjnbjdbndbbanaaGreatDoor
