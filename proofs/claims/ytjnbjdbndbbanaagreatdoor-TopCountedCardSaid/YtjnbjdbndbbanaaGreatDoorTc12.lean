/- Trees PlainG Total HPlain -/
import Derived.Test.YtjnbjdbndbbanaaGreatDoorTc11
namespace Go.Proofs.YtjnbjdbndbbanaaGreatDoor
open Go.RowKit
theorem Ctr.kept {w w' : World} {L : Lay} {g : GramD} {n : Nat} {S M : Nat → Nat → Bool} {K : Nat → Nat → Int} (h : Ctr w L g n S M K) {base : Nat} (hb : Below base w w') (hB : L.Bc < base) : Ctr w' L g n S M K := h.keep fun q hq => hb.block q (by omega)
theorem Cok.kept {w w' : World} {L : Lay} {g : GramD} {n : Nat} (h : Cok w L g n) {base : Nat} (hb : Below base w w') (hB : L.Bc < base) : Cok w' L g n := by
 obtain ⟨K, h1, h2⟩ := h
 exact ⟨K, h1.kept hb hB, h2⟩
set_option maxRecDepth 100000 in
set_option maxHeartbeats 1000000 in
theorem censusCheck (w : World) (S : Nat → Prop) (AR : Option Addr) (nR cR : Nat) (g : GramD) (hg : Sl RRule w S AR nR cR g.2.2.2) (hv : GValid g) (n : Nat) (hn : n ≤ 24) :
    Calls Tryz.prog 20 #[.agg #[.int .i64 g.1, .int .i64 g.2.1, .int .i64 g.2.2.1, .slice AR nR cR], .int .i64 n] w fun e w' => e = .returned (.int .i64 0) ∧ Below w.heap.size w w' := by
 have HG := zh hg
 have HV := zh hv
 clear hg hv
 go_enter Tryz.func20, Tryz.ntmps20
 go_wp2_with fail
 refine (gramCheck _ S AR nR cR g (HG.out.alloc _) HV.out).mono ?_
 rintro e w1 ⟨rfl, hb1⟩
 have HB := zh (((Below.refl w.heap.size w).alloc (Nat.le_refl _) _).trans (hb1.mono (by simp)))
 clear hb1
 go_wp2_with fail
 go_ret
 exact ⟨rfl, HB.out⟩
theorem gramN (a : Int) (w : World) : Calls Tryz.prog 23 #[.int .i64 a] w fun e w' => e = .returned (.agg #[.bool false, .int .i64 a]) ∧ Below w.heap.size w w' := by
 go_enter Tryz.func23, Tryz.ntmps23
 go_wp2_with fail
 refine bodyPost_ret (v := .agg #[.bool false, .int .i64 a]) (by simp [results, Tryz.results23, go_sem]) rfl ?_
 exact ⟨rfl, (Below.refl _ _).alloc (Nat.le_refl _) _⟩
noncomputable def treesRow (R : List RuleD) (n a : Nat) : List Int := (List.range (n + 1)).map (treesN R a)
noncomputable def treesTab (R : List RuleD) (N n : Nat) : List (List Int) := (List.range N).map (treesRow R n)
set_option maxRecDepth 100000 in
set_option maxHeartbeats 4000000 in
theorem censusTrees (w : World) (S : Nat → Prop) (AR : Option Addr) (nR cR : Nat) (g : GramD) (hg : Sl RRule w S AR nR cR g.2.2.2) (hv : GValid g) (n : Nat) (hn : n ≤ 24) :
    Calls Tryz.prog 8 #[.agg #[.int .i64 g.1, .int .i64 g.2.1, .int .i64 g.2.2.1, .slice AR nR cR], .int .i64 n] w fun e w' => ∃ A c, e = .returned (.tuple #[.slice A (nonsOf g) c, .int .i64 0]) ∧
     Sl RI w' (fun b => w.heap.size ≤ b) A (nonsOf g) c (treesTab g.2.2.2 (nonsOf g) n) ∧ Below w.heap.size w w' := by
 have HG := zh hg
 have HV := zh hv
 have hN : g.2.1 = (nonsOf g : Int) := by have := hv.n1; unfold nonsOf; omega
 have hN2 : nonsOf g ≤ 10 := by have := hv.n2; omega
 have HN := zh hN
 clear hg hv hN
 have hall : ∀ u : World, Below (w.heap.size + 1) (w.alloc (.cells #[.int .i64 g.1, .int .i64 g.2.1, .int .i64 g.2.2.1, .slice AR nR cR] 25)) u → u.cell? ⟨w.heap.size, 0, none⟩ = some (.int .i64 g.1) ∧ u.cell? ⟨w.heap.size, 1, none⟩ = some (.int .i64 g.2.1) ∧ u.cell? ⟨w.heap.size, 2, none⟩ = some (.int .i64 g.2.2.1) ∧ u.cell? ⟨w.heap.size, 3, none⟩ = some (.slice AR nR cR) := by
  intro u hu
  refine ⟨(hu.cell (by simp)).trans ?_, (hu.cell (by simp)).trans ?_, (hu.cell (by simp)).trans ?_, (hu.cell (by simp)).trans ?_⟩ <;> simp
 have HALL := zh hall
 clear hall
 go_enter Tryz.func8, Tryz.ntmps8
 go_wp2_with fail
 refine (censusCheck _ S AR nR cR g (HG.out.alloc _) HV.out n hn).mono ?_
 rintro e w1 ⟨rfl, hb1⟩
 simp only [World.size_alloc] at hb1
 obtain ⟨d0, d1, d2, d3⟩ := HALL.out _ hb1
 have l1 := cell_lt d0
 have HB1 := zh hb1
 have HG1 := zh ((HG.out.alloc (.cells #[.int .i64 g.1, .int .i64 g.2.1, .int .i64 g.2.2.1, .slice AR nR cR] 25)).below (hb1.mono (by simp)))
 clear hb1 HG
 go_wp2_with fail
 refine (censusMake _ S AR nR cR g HG1.out HV.out n (by omega)).mono ?_
 rintro e w2 ⟨L, rfl, hctr, hlo, hb2⟩
 have hs1 := HB1.out.size
 simp only [World.size_alloc] at hs1
 have hb12 : Below (w.heap.size + 1) (w.alloc (.cells #[.int .i64 g.1, .int .i64 g.2.1, .int .i64 g.2.2.1, .slice AR nR cR] 25)) w2 := HB1.out.trans (hb2.mono (by omega))
 obtain ⟨_, e1, _, _⟩ := HALL.out _ hb12
 rw [HN.out] at e1
 have l2 := cell_lt e1
 have HB2 := zh (((Below.refl w.heap.size w).alloc (Nat.le_refl _) (.cells #[.int .i64 g.1, .int .i64 g.2.1, .int .i64 g.2.2.1, .slice AR nR cR] 25)).trans (hb12.mono (by omega)))
 have hLw := hctr.lt
 have o1 := hctr.o1
 have o2 := hctr.o2
 have o3 := hctr.o3
 have o4 := hctr.o4
 have HC := zh (show Cok w2 L g n from ⟨_, hctr, fun _ _ _ _ => Or.inl (by omega)⟩)
 clear hb12 hb2 hctr d0 d1 d2 d3 HB1 HG1 HALL
 have HRN := zh (rulesN_of HV.out)
 have HRL := zh (show g.2.2.2.length ≤ 1000 by have := HV.out.rl; omega)
 clear HV
 go_wp2_with fail
 go_loopg [8, 23] (nonsOf g) (fun gk v i wr => ∃ a : Nat, a ≤ nonsOf g ∧ gk = nonsOf g - a ∧ i = .int .i64 a ∧ OwnL RI wr (fun _ => False) w2.heap.size 22 v (treesTab g.2.2.2 a n) ∧ Cok wr L g n ∧ Aside L.l3 L.hi w2 wr)
 case atStart => exact ⟨0, Nat.zero_le _, rfl, rfl, OwnL.nil _ _ _ _ _, HC.out, Aside.refl _ _ _⟩
 case round =>
  obtain ⟨a, ha, hgk, rfl, hv, hc, hA⟩ := hrel
  have HGK := zh hgk
  have HV := zh hv
  have HC3 := zh hc
  have HA := zh hA
  have hsz := hA.size
  clear hgk hv hc hA HC
  obtain ⟨A8, c8, rfl, hc8⟩ := HV.out.formN (a := a) (by simp [treesTab])
  obtain ⟨wo, rfl⟩ := zE wr
  by_cases hlt : a < nonsOf g
  ·
   go_wp2_with fail
   go_loopg [10, 28] (n + 1) (fun gj v i wi => ∃ j : Nat, j ≤ n + 1 ∧ gj = n + 1 - j ∧ i = .int .i64 j ∧ OwnL Rep.int wi (fun _ => False) wo.heap.size 3 v ((List.range j).map (treesN g.2.2.2 a)) ∧ Cok wi L g n ∧ Aside L.l3 L.hi wo wi)
   case atStart => exact ⟨0, Nat.zero_le _, rfl, rfl, OwnL.nil _ _ _ _ _, HC3.out, Aside.refl _ _ _⟩
   case round =>
    obtain ⟨j, hj, hgj, rfl, hv, hc, hA⟩ := hrel
    have HGJ := zh hgj
    have HVJ := zh hv
    have HCJ := zh hc
    have HAJ := zh hA
    have hszj := hA.size
    clear hgj hv hc hA
    obtain ⟨A10, c10, rfl, hc10⟩ := HVJ.out.formN (a := j) (by simp)
    by_cases hjn : j < n + 1
    ·
     go_wp2_with fail
     refine (gramN _ _).mono ?_
     rintro e w4 ⟨rfl, hb4⟩
     have HB4 := zh hb4
     clear hb4
     go_wp2_with fail
     refine (ctrOf (by omega) HRN.out HRL.out a j hlt (by omega) _ (HCJ.out.below HB4.out)).mono ?_
     rintro e w5 ⟨rfl, hc5, hA5⟩
     have hs4 := HB4.out.size
     have hs5 := hA5.size
     have hA15 : Aside L.l3 L.hi wo w5 := (HAJ.out.trans (.of HB4.out)).trans hA5
     have hv5 : OwnL Rep.int w5 (fun _ => False) wo.heap.size 3 (.slice A10 j c10) ((List.range j).map (treesN g.2.2.2 a)) := (HVJ.out.below HB4.out).aside hA5 (by omega)
     obtain ⟨v6, w6, hrun, ho6, hg6, hb6⟩ := run_append_lit (R := Rep.int) tInts rfl w5 22 wo.heap.size (fun _ => False) _ _ hv5 1 [treesN g.2.2.2 a j] [.int .i64 (treesN g.2.2.2 a j)] (Cells.single rfl) rfl (by simp [maxLen]; omega) (by simp; omega) (by omega)
     have HRUN := zh hrun
     have HO6 := zh ho6
     have HB6 := zh hb6
     have HC5 := zh hc5
     have HA15 := zh hA15
     clear hrun ho6 hb6 hg6 hv5 hA5 hA15 hc5
     obtain ⟨A6, c6, rfl, _⟩ := HO6.out.formN (a := j + 1) (by simp)
     go_wp2_with (at_builtin; refine Lib.wpList_append_run (o := ⟨some 38, _, _, _, _, _⟩) _ rfl _ _ _ _ rfl _ _ rfl rfl _ _ HRUN.out ?_)
     go_roundg (n + 1 - (j + 1))
     case measure => rw [HGJ.out]; omega
     case rel => exact ⟨j + 1, by omega, rfl, by go_num, by rw [List.range_succ, List.map_append]; exact HO6.out, HC5.out.kept HB6.out (by omega), HA15.out.grow HB6.out (Nat.le_refl _)⟩
    obtain rfl : j = n + 1 := by omega
    have hs := HVJ.out.sl
    have hv5 : OwnL RI wr (fun _ => False) w2.heap.size 22 (.slice A8 a c8) (treesTab g.2.2.2 a n) := HV.out.aside HAJ.out (by omega)
    obtain ⟨v6, w6, hrun, ho6, hg6, hb6⟩ := run_append_lit (R := RI) tIntss rfl wr 32 w2.heap.size (fun _ => False) _ _ hv5 1 [treesRow g.2.2.2 n a] [.slice A10 (n + 1) c10] (Cells.single ⟨A10, n + 1, c10, rfl, hs.more fun b hb => by
     rcases hb with h | h
     · exact h.elim
     exact ⟨Or.inr (by omega), fun e => by have := HV.out.row e; omega⟩⟩) rfl (by simp [maxLen, treesTab]; omega) (by simp [treesTab]; omega) (by omega)
    have HRUN := zh hrun
    have HO6 := zh ho6
    have HB6 := zh hb6
    clear hrun ho6 hb6 hg6 hv5 hs
    obtain ⟨A6, c6, rfl, _⟩ := HO6.out.formN (a := a + 1) (by simp [treesTab])
    go_wp2_with (at_builtin; refine Lib.wpList_append_run (o := ⟨some 43, _, _, _, _, _⟩) _ rfl _ _ _ _ rfl _ _ rfl rfl _ _ HRUN.out ?_)
    go_roundg (nonsOf g - (a + 1))
    case measure => rw [HGK.out]; omega
    case rel => exact ⟨a + 1, by omega, rfl, by go_num, by rw [treesTab, List.range_succ, List.map_append]; exact HO6.out, HCJ.out.kept HB6.out (by omega), (HA.out.trans HAJ.out).grow HB6.out (Nat.le_refl _)⟩
  obtain rfl : a = nonsOf g := by omega
  go_wp2_with fail
  go_ret2
  exact ⟨A8, c8, rfl, HV.out.sl.more (by simp; intro b hb; omega), HB2.out.trans (HA.out.below (by omega) (by omega))⟩
end Go.Proofs.YtjnbjdbndbbanaaGreatDoor
namespace Go.Proofs.YtjnbjdbndbbanaaGreatDoor
def plainR : List RuleD := [(0, [(true, 0)]), (0, [(true, 1), (false, 0)])]
abbrev plainG : GramD := (2, 1, 0, plainR)
theorem plain_valid : GValid plainG := by
 refine ⟨by decide, by decide, by decide, by decide, ⟨by decide, by decide⟩, by decide, ?_, by decide⟩
 intro r hr
 simp only [plainR, List.mem_cons, List.not_mem_nil, or_false] at hr
 rcases hr with rfl | rfl <;> simp [SymOk]
theorem plain_rules : RulesN 1 plainR := by
 intro r hr
 simp only [plainR, List.mem_cons, List.not_mem_nil, or_false] at hr
 rcases hr with rfl | rfl <;> simp [NonOk]
theorem plain_der1 {k : Nat} (h : Der plainR [(false, 0)] k) : 1 ≤ k := by
 obtain ⟨r, hr, h1⟩ := Der.non_iff.1 h
 simp only [plainR, List.mem_cons, List.not_mem_nil, or_false, Prod.mk.injEq] at hr
 rcases hr with ⟨_, rfl⟩ | ⟨_, rfl⟩
 · have := Der.term_iff.1 h1; omega
 obtain ⟨i, hi, h2, _⟩ := Der.cons_iff.1 h1
 have := Der.term_iff.1 h2
 omega
theorem plain_der2 : ∀ k : Nat, Der plainR [(false, 0)] (k + 1)
 | 0 => Der.non_iff.2 ⟨[(true, 0)], by simp [plainR], Der.term_iff.2 rfl⟩
 | k + 1 => Der.non_iff.2 ⟨[(true, 1), (false, 0)], by simp [plainR], Der.cons_iff.2 ⟨1, by omega, Der.term_iff.2 rfl, plain_der2 k⟩⟩
theorem plain_len (k : Nat) : lenD plainR 0 k = decide (1 ≤ k) := by
 rw [Bool.eq_iff_iff, lenD_iff, decide_eq_true_eq]
 constructor
 · exact plain_der1
 intro h
 obtain ⟨j, rfl⟩ : ∃ j, k = j + 1 := ⟨k - 1, by omega⟩
 exact plain_der2 j
theorem plain_edge {x y : Nat × Nat} (h : Edge plainR x y) : y.2 < x.2 := by
 obtain ⟨r, hr, _, a, b, h2, p, q, h3, h4, _⟩ := h
 simp only [plainR, List.mem_cons, List.not_mem_nil, or_false] at hr
 rcases hr with rfl | rfl
 ·
  cases a with
  | nil => simp at h2
  | cons s a => simp at h2
 cases a with
 | nil => simp at h2
 | cons s a =>
  cases a with
  | nil =>
   simp only [List.cons_append, List.nil_append, List.cons.injEq] at h2
   rw [← h2.1] at h4
   have := Der.term_iff.1 h4
   omega
  | cons s' a => simp at h2
theorem plain_reach {x y : Nat × Nat} (h : Reach (Edge plainR) x y) : y.2 < x.2 := by
 induction h with
 | one h => exact plain_edge h
 | step h _ ih => have := plain_edge h; omega
theorem plain_few (x : Nat × Nat) : ¬ Many plainR x := by
 rintro ⟨y, _, h⟩
 have := plain_reach h
 omega
theorem plain_ruleC1 (S : Nat → Nat → Bool) (c : Nat → Nat → Nat) (hS : ∀ k, S 0 k = decide (1 ≤ k)) : ruleC S c plainR 0 1 = 1 := by
 simp [ruleC, plainR, listC, List.range_succ, hasT, canT, ofC, hS]
 decide
theorem plain_ruleC2 (S : Nat → Nat → Bool) (c : Nat → Nat → Nat) (hS : ∀ k, S 0 k = decide (1 ≤ k)) (hc : c 0 1 = 1) : ruleC S c plainR 0 2 = 1 := by
 simp [ruleC, plainR, listC, List.range_succ, hasT, canT, ofC, hS, hc]
 decide
theorem plain_c1 : cN plainR 0 1 = 1 := by
 rw [cN_eq plain_rules (acc_few plain_rules (x := (0, 1)) (by decide) (plain_few _)), plain_ruleC1 _ _ plain_len]
theorem plain_c2 : cN plainR 0 2 = 1 := by
 rw [cN_eq plain_rules (acc_few plain_rules (x := (0, 2)) (by decide) (plain_few _)), plain_ruleC2 _ _ plain_len plain_c1]
theorem plain_t0 : treesN plainR 0 0 = 0 := by simp [treesN, plain_len]
theorem plain_t1 : treesN plainR 0 1 = 1 := by simp [treesN, plain_len, plain_few, plain_c1]
theorem plain_t2 : treesN plainR 0 2 = 1 := by simp [treesN, plain_len, plain_few, plain_c2]
theorem treesN_range {R : List RuleD} {N : Nat} (hR : RulesN N R) {a k : Nat} (ha : a < N) : treesN R a k = -1 ∨ 0 ≤ treesN R a k ∧ treesN R a k ≤ 1000000000 := by
 unfold treesN
 split
 ·
  split
  · exact Or.inl rfl
  rename_i h
  have : cN R a k ≤ 1000000000 := cN_le hR (acc_few hR (x := (a, k)) ha h)
  omega
 omega
def totalD : List Int → Int → Int
 | [], s => s
 | x :: l, s => if x = -1 then -1 else totalD l (min (s + x) 1000000000)
end Go.Proofs.YtjnbjdbndbbanaaGreatDoor
namespace Go.Proofs.YtjnbjdbndbbanaaGreatDoor
open Go.RowKit
set_option maxRecDepth 100000 in
set_option maxHeartbeats 1000000 in
theorem censusTotal (w : World) (S : Nat → Prop) (AR : Option Addr) (nR cR : Nat) (g : GramD) (hg : Sl RRule w S AR nR cR g.2.2.2) (hv : GValid g) (n : Nat) (hn : n ≤ 24) :
    Calls Tryz.prog 6 #[.agg #[.int .i64 g.1, .int .i64 g.2.1, .int .i64 g.2.2.1, .slice AR nR cR], .int .i64 n] w fun e w' => e = .returned (.tuple #[.int .i64 (totalD (treesRow g.2.2.2 n g.2.2.1.toNat) 0), .int .i64 0]) ∧ Below w.heap.size w w' := by
 have HG := zh hg
 have HV := zh hv
 have hst : g.2.2.1 = ((g.2.2.1.toNat : Nat) : Int) ∧ g.2.2.1.toNat < nonsOf g := by have := hv.st; unfold nonsOf; omega
 have HST := zh hst
 have HRG := zh (fun k => treesN_range (k := k) (rulesN_of hv) hst.2)
 clear hg hv hst
 go_enter Tryz.func6, Tryz.ntmps6
 go_wp2_with fail
 refine (censusTrees _ S AR nR cR g (HG.out.alloc _) HV.out n hn).mono ?_
 rintro e w1 ⟨A, c, rfl, hsl, hb1⟩
 simp only [World.size_alloc] at hb1 hsl
 have hbx : w1.cell? ⟨w.heap.size, 2, none⟩ = some (.int .i64 g.2.2.1) := (hb1.cell (by simp)).trans (by simp)
 rw [HST.out.1] at hbx
 have l1 := cell_lt hbx
 have HB1 := zh (((Below.refl w.heap.size w).alloc (Nat.le_refl _) (.cells #[.int .i64 g.1, .int .i64 g.2.1, .int .i64 g.2.2.1, .slice AR nR cR] 25)).trans (hb1.mono (by omega)))
 obtain ⟨b, off, u, row, rfl, hSb, hrow, ⟨A1, n1, c1, hu, hsl1⟩, hcell⟩ := hsl.at_ rfl HST.out.2
 obtain rfl : u = .slice A1 n1 c1 := by simpa using hu
 have hrow' : row = treesRow g.2.2.2 n g.2.2.1.toNat := by
  rw [treesTab, List.getElem?_map, List.getElem?_range HST.out.2] at hrow
  simpa using hrow.symm
 have hn1 : n1 = n + 1 := by rw [hsl1.len, hrow']; simp [treesRow]
 subst hn1
 have HROW := zh hrow'
 have HSL1 := zh hsl1.ints
 have l2 := cell_lt hcell
 have hstlt : ((g.2.2.1.toNat : Nat) : Int) < (nonsOf g : Int) := by have := HST.out.2; omega
 obtain ⟨st, hste⟩ := zE g.2.2.1.toNat
 rw [← hste] at hbx hcell hstlt
 clear hb1 hsl hrow hu hsl1 hrow'
 have hr1 : ∀ x ∈ row, x = -1 ∨ 0 ≤ x ∧ x ≤ 1000000000 := by
  intro x hx
  rw [HROW.out] at hx
  obtain ⟨k, _, rfl⟩ := List.mem_map.1 hx
  exact HRG.out k
 have HR1 := zh hr1
 clear hr1 HRG HST HV HG hste
 go_wp2_with fail
 go_loopg [8, 26] (n + 1) (fun gk t i wr => ∃ (k : Nat) (s : Int), k ≤ n + 1 ∧ gk = n + 1 - k ∧ i = .int .i64 k ∧ t = .int .i64 s ∧ 0 ≤ s ∧ s ≤ 1000000000 ∧ totalD (row.drop k) s = totalD row 0 ∧ wr = w1)
 case atStart => exact ⟨0, 0, Nat.zero_le _, rfl, rfl, rfl, by decide, by decide, rfl, rfl⟩
 case round =>
  obtain ⟨k, s, hk, hgk, rfl, rfl, hs1, hs2, htot, rfl⟩ := hrel
  have HGK := zh hgk
  have HT := zh htot
  clear hgk htot
  by_cases hlt : k < n + 1
  ·
   obtain ⟨b1, off1, u1, rfl, _, hu1, hc1⟩ := HSL1.out.at_ hlt
   have hl1 := cell_lt hc1
   rw [List.getElem?_map] at hu1
   obtain ⟨x, hx, rfl⟩ : ∃ x, row[k]? = some x ∧ .int .i64 x = u1 := by simpa using hu1
   have hd : row.drop k = x :: row.drop (k + 1) := by
    obtain ⟨h1, h2⟩ := List.getElem?_eq_some_iff.1 hx
    rw [List.drop_eq_getElem_cons h1, h2]
   have htd : totalD row 0 = if x = -1 then -1 else totalD (row.drop (k + 1)) (min (s + x) 1000000000) := by rw [← HT.out, hd]; rfl
   have hxr := HR1.out x (List.mem_of_getElem? hx)
   have HTD := zh htd
   clear hu1 hx hd htd HT HR1
   by_cases hx1 : x = -1
   ·
    have hxe : (x == -1) = true := by simp [hx1]
    have HX1 := zh hx1
    clear hx1 hxr
    go_wp2_with fail
    go_ret2
    exact ⟨by rw [← HROW.out, HTD.out, if_pos HX1.out]; rfl, HB1.out⟩
   have hxe : (x == -1) = false := by simp [hx1]
   have HX1 := zh hx1
   have hx0 : 0 ≤ x := by omega
   have hx9 : x ≤ 1000000000 := by omega
   clear hxr hx1
   go_wp2_with fail
   all_goals
    go_roundg (n + 1 - (k + 1))
    case measure => rw [HGK.out]; omega
    case rel =>
     rename_i hmin
     refine ⟨k + 1, min (s + x) 1000000000, by omega, rfl, by go_num, ?_, by omega, by omega, by rw [HTD.out, if_neg HX1.out], rfl⟩
     congr 1
     omega
  obtain rfl : k = n + 1 := by omega
  have hln : row.drop (n + 1) = [] := by
   have := HSL1.out.1
   simp only [List.length_map] at this
   exact List.drop_eq_nil_of_le (by omega)
  have htt := HT.out
  rw [hln] at htt
  have HTT := zh (show s = totalD row 0 from htt)
  clear htt hln
  go_wp2_with fail
  go_ret2
  exact ⟨by rw [← HROW.out, ← HTT.out]; rfl, HB1.out⟩
theorem Rd.newS (w : World) (S : Nat → Prop) (t : TypeId) (cs : List Value) (H n size : Nat) (hH : w.heap.size = H) (hS : S H) (hl : cs.length = n * size) : Rd (w.alloc (.cells cs.toArray t)) S size (some ⟨H, 0, none⟩) n cs := by
 subst hH
 refine ⟨hl, fun _ => ⟨w.heap.size, 0, rfl, hS, fun j v hv => ?_⟩⟩
 rw [World.cell?_alloc_at _ _ _ _ rfl]
 simpa using hv
set_option maxRecDepth 100000 in
set_option maxHeartbeats 1000000 in
theorem topPlain (w : World) : Calls Tryz.prog 7 #[] w fun e w' => ∃ AR, e = .returned (.agg #[.int .i64 2, .int .i64 1, .int .i64 0, .slice AR 2 2]) ∧ Sl RRule w' (fun b => w.heap.size ≤ b) AR 2 2 plainR ∧ Below w.heap.size w w' := by
 go_enter Tryz.func7, Tryz.ntmps7
 go_wp2_with fail
 refine bodyPost_ret (v := .agg #[.int .i64 2, .int .i64 1, .int .i64 0, .slice (some ⟨w.heap.size + 3, 0, none⟩) 2 2]) (by simp [results, Tryz.results7, go_sem]) rfl ?_
 have hb := ((((Below.refl w.heap.size w).alloc (Nat.le_refl _) (.cells #[.int .i64 2, .int .i64 1, .int .i64 0, .slice (some ⟨w.heap.size + 1 + 1 + 1, 0, none⟩) 2 2] 25)).alloc (by simp) (.cells #[.bool true, .int .i64 0] 62)).alloc (by simp; omega) (.cells #[.bool true, .int .i64 1, .bool false, .int .i64 0] 62)).alloc (by simp; omega) (.cells #[.int .i64 0, .slice (some ⟨w.heap.size + 1, 0, none⟩) 1 1, .int .i64 0, .slice (some ⟨w.heap.size + 1 + 1, 0, none⟩) 2 2] 60)
 refine ⟨_, rfl, ⟨[.int .i64 0, .slice (some ⟨w.heap.size + 1, 0, none⟩) 1 1, .int .i64 0, .slice (some ⟨w.heap.size + 1 + 1, 0, none⟩) 2 2], rfl, Nat.le_refl _, Rd.newS _ _ _ _ _ 2 2 (by simp) (by simp) rfl, ?_⟩, hb⟩
 refine ⟨[_, _], [_, _], rfl, RRule.cells.2 ⟨_, _, _, rfl, ?_⟩, Cells.single (RRule.cells.2 ⟨_, _, _, rfl, ?_⟩)⟩
 · exact Sl.alloc (Sl.alloc (R := RSym) (l := [(true, 0)]) ⟨[.bool true, .int .i64 0], rfl, Nat.le_refl _, Rd.newS _ _ _ _ (w.heap.size + 1) 1 2 (by simp) (by simp) rfl, Cells.single (RSym.cells.2 rfl)⟩ _) _
 exact Sl.alloc (R := RSym) (l := [(true, 1), (false, 0)]) ⟨[.bool true, .int .i64 1, .bool false, .int .i64 0], rfl, Nat.le_refl _, Rd.newS _ (fun b => w.heap.size ≤ b) _ _ (w.heap.size + 1 + 1) 2 2 (by simp) (by show w.heap.size ≤ _; omega) rfl, ⟨[_, _], [_, _], rfl, RSym.cells.2 rfl, Cells.single (RSym.cells.2 rfl)⟩⟩ _
end Go.Proofs.YtjnbjdbndbbanaaGreatDoor
