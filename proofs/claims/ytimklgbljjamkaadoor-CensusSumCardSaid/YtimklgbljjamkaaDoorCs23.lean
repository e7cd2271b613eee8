/- Trees -/
import Derived.Test.YtimklgbljjamkaaDoorCs22
namespace Go.Proofs.YtimklgbljjamkaaDoor
open Go.RowKit
theorem Ctr.kept {w w' : World} {L : Lay} {g : GramD} {n : Nat} {S M : Nat → Nat → Bool} {K : Nat → Nat → Int} (h : Ctr w L g n S M K) {base : Nat} (hb : Below base w w') (hB : L.Bc < base) : Ctr w' L g n S M K := h.keep fun q hq => hb.block q (by omega)
theorem Cok.kept {w w' : World} {L : Lay} {g : GramD} {n : Nat} (h : Cok w L g n) {base : Nat} (hb : Below base w w') (hB : L.Bc < base) : Cok w' L g n := by
 obtain ⟨K, h1, h2⟩ := h
 exact ⟨K, h1.kept hb hB, h2⟩
set_option maxRecDepth 100000 in
set_option maxHeartbeats 1000000 in
theorem censusCheck (w : World) (S : Nat → Prop) (AR : Option Addr) (nR cR : Nat) (g : GramD) (hg : Sl RRule w S AR nR cR g.2.2.2) (hv : GValid g) (n : Nat) (hn : n ≤ 24) :
    Calls Tryd.prog 22 #[.agg #[.int .i64 g.1, .int .i64 g.2.1, .int .i64 g.2.2.1, .slice AR nR cR], .int .i64 n] w fun e w' => e = .returned (.int .i64 0) ∧ Below w.heap.size w w' := by
 have HG := Lib.hid hg
 have HV := Lib.hid hv
 clear hg hv
 go_enter Tryd.func22, Tryd.ntmps22
 go_wp2_with fail
 refine (gramCheck _ S AR nR cR g (HG.out.alloc _) HV.out).mono ?_
 rintro e w1 ⟨rfl, hb1⟩
 have HB := Lib.hid (((Below.refl w.heap.size w).alloc (Nat.le_refl _) _).trans (hb1.mono (by simp)))
 clear hb1
 go_wp2_with fail
 go_ret
 exact ⟨rfl, HB.out⟩
theorem gramN (a : Int) (w : World) : Calls Tryd.prog 25 #[.int .i64 a] w fun e w' => e = .returned (.agg #[.bool false, .int .i64 a]) ∧ Below w.heap.size w w' := by
 go_enter Tryd.func25, Tryd.ntmps25
 go_wp2_with fail
 refine bodyPost_ret (v := .agg #[.bool false, .int .i64 a]) (by simp [results, Tryd.results25, go_sem]) rfl ?_
 exact ⟨rfl, (Below.refl _ _).alloc (Nat.le_refl _) _⟩
noncomputable def treesRow (R : List RuleD) (n a : Nat) : List Int := (List.range (n + 1)).map (treesN R a)
noncomputable def treesTab (R : List RuleD) (N n : Nat) : List (List Int) := (List.range N).map (treesRow R n)
set_option maxRecDepth 100000 in
set_option maxHeartbeats 4000000 in
theorem censusTrees (w : World) (S : Nat → Prop) (AR : Option Addr) (nR cR : Nat) (g : GramD) (hg : Sl RRule w S AR nR cR g.2.2.2) (hv : GValid g) (n : Nat) (hn : n ≤ 24) :
    Calls Tryd.prog 7 #[.agg #[.int .i64 g.1, .int .i64 g.2.1, .int .i64 g.2.2.1, .slice AR nR cR], .int .i64 n] w fun e w' => ∃ A c, e = .returned (.tuple #[.slice A (nonsOf g) c, .int .i64 0]) ∧
     Sl RI w' (fun b => w.heap.size ≤ b) A (nonsOf g) c (treesTab g.2.2.2 (nonsOf g) n) ∧ Below w.heap.size w w' := by
 have HG := Lib.hid hg
 have HV := Lib.hid hv
 have hN : g.2.1 = (nonsOf g : Int) := by have := hv.n1; unfold nonsOf; omega
 have hN2 : nonsOf g ≤ 10 := by have := hv.n2; omega
 have HN := Lib.hid hN
 clear hg hv hN
 have hall : ∀ u : World, Below (w.heap.size + 1) (w.alloc (.cells #[.int .i64 g.1, .int .i64 g.2.1, .int .i64 g.2.2.1, .slice AR nR cR] 25)) u → u.cell? ⟨w.heap.size, 0, none⟩ = some (.int .i64 g.1) ∧ u.cell? ⟨w.heap.size, 1, none⟩ = some (.int .i64 g.2.1) ∧ u.cell? ⟨w.heap.size, 2, none⟩ = some (.int .i64 g.2.2.1) ∧ u.cell? ⟨w.heap.size, 3, none⟩ = some (.slice AR nR cR) := by
  intro u hu
  refine ⟨(hu.cell (by simp)).trans ?_, (hu.cell (by simp)).trans ?_, (hu.cell (by simp)).trans ?_, (hu.cell (by simp)).trans ?_⟩ <;> simp
 have HALL := Lib.hid hall
 clear hall
 go_enter Tryd.func7, Tryd.ntmps7
 go_wp2_with fail
 refine (censusCheck _ S AR nR cR g (HG.out.alloc _) HV.out n hn).mono ?_
 rintro e w1 ⟨rfl, hb1⟩
 simp only [World.size_alloc] at hb1
 obtain ⟨d0, d1, d2, d3⟩ := HALL.out _ hb1
 have l1 := cell_lt d0
 have HB1 := Lib.hid hb1
 have HG1 := Lib.hid ((HG.out.alloc (.cells #[.int .i64 g.1, .int .i64 g.2.1, .int .i64 g.2.2.1, .slice AR nR cR] 25)).below (hb1.mono (by simp)))
 clear hb1 HG
 go_wp2_with fail
 refine (censusMake _ S AR nR cR g HG1.out HV.out n (by omega)).mono ?_
 rintro e w2 ⟨L, rfl, hctr, hlo, hb2⟩
 have hs1 := HB1.out.size
 simp only [World.size_alloc] at hs1
 have hb12 : Below (w.heap.size + 1) (w.alloc (.cells #[.int .i64 g.1, .int .i64 g.2.1, .int .i64 g.2.2.1, .slice AR nR cR] 25)) w2 := HB1.out.trans (hb2.mono (by omega))
 obtain ⟨_, e1, _, _⟩ := HALL.out _ hb12
 rw [HN.out] at e1
 have l2 := cell_lt e1
 have HB2 := Lib.hid (((Below.refl w.heap.size w).alloc (Nat.le_refl _) (.cells #[.int .i64 g.1, .int .i64 g.2.1, .int .i64 g.2.2.1, .slice AR nR cR] 25)).trans (hb12.mono (by omega)))
 have hLw := hctr.lt
 have o1 := hctr.o1
 have o2 := hctr.o2
 have o3 := hctr.o3
 have o4 := hctr.o4
 have HC := Lib.hid (show Cok w2 L g n from ⟨_, hctr, fun _ _ _ _ => Or.inl (by omega)⟩)
 clear hb12 hb2 hctr d0 d1 d2 d3 HB1 HG1 HALL
 have HRN := Lib.hid (rulesN_of HV.out)
 have HRL := Lib.hid (show g.2.2.2.length ≤ 1000 by have := HV.out.rl; omega)
 clear HV
 go_wp2_with fail
 go_loopg [8, 23] (nonsOf g) (fun gk v i wr => ∃ a : Nat, a ≤ nonsOf g ∧ gk = nonsOf g - a ∧ i = .int .i64 a ∧ OwnL RI wr (fun _ => False) w2.heap.size 22 v (treesTab g.2.2.2 a n) ∧ Cok wr L g n ∧ Aside L.l3 L.hi w2 wr)
 case atStart => exact ⟨0, Nat.zero_le _, rfl, rfl, OwnL.nil _ _ _ _ _, HC.out, Aside.refl _ _ _⟩
 case round =>
  obtain ⟨a, ha, hgk, rfl, hv, hc, hA⟩ := hrel
  have HGK := Lib.hid hgk
  have HV := Lib.hid hv
  have HC3 := Lib.hid hc
  have HA := Lib.hid hA
  have hsz := hA.size
  clear hgk hv hc hA HC
  obtain ⟨A8, c8, rfl, hc8⟩ := HV.out.formN (a := a) (by simp [treesTab])
  obtain ⟨wo, rfl⟩ : ∃ wo : World, wo = wr := ⟨_, rfl⟩
  by_cases hlt : a < nonsOf g
  ·
   go_wp2_with fail
   go_loopg [10, 28] (n + 1) (fun gj v i wi => ∃ j : Nat, j ≤ n + 1 ∧ gj = n + 1 - j ∧ i = .int .i64 j ∧ OwnL Rep.int wi (fun _ => False) wo.heap.size 3 v ((List.range j).map (treesN g.2.2.2 a)) ∧ Cok wi L g n ∧ Aside L.l3 L.hi wo wi)
   case atStart => exact ⟨0, Nat.zero_le _, rfl, rfl, OwnL.nil _ _ _ _ _, HC3.out, Aside.refl _ _ _⟩
   case round =>
    obtain ⟨j, hj, hgj, rfl, hv, hc, hA⟩ := hrel
    have HGJ := Lib.hid hgj
    have HVJ := Lib.hid hv
    have HCJ := Lib.hid hc
    have HAJ := Lib.hid hA
    have hszj := hA.size
    clear hgj hv hc hA
    obtain ⟨A10, c10, rfl, hc10⟩ := HVJ.out.formN (a := j) (by simp)
    by_cases hjn : j < n + 1
    ·
     go_wp2_with fail
     refine (gramN _ _).mono ?_
     rintro e w4 ⟨rfl, hb4⟩
     have HB4 := Lib.hid hb4
     clear hb4
     go_wp2_with fail
     refine (ctrOf (by omega) HRN.out HRL.out a j hlt (by omega) _ (HCJ.out.below HB4.out)).mono ?_
     rintro e w5 ⟨rfl, hc5, hA5⟩
     have hs4 := HB4.out.size
     have hs5 := hA5.size
     have hA15 : Aside L.l3 L.hi wo w5 := (HAJ.out.trans (.of HB4.out)).trans hA5
     have hv5 : OwnL Rep.int w5 (fun _ => False) wo.heap.size 3 (.slice A10 j c10) ((List.range j).map (treesN g.2.2.2 a)) := (HVJ.out.below HB4.out).aside hA5 (by omega)
     obtain ⟨v6, w6, hrun, ho6, hg6, hb6⟩ := run_append_lit (R := Rep.int) tInts rfl w5 22 wo.heap.size (fun _ => False) _ _ hv5 1 [treesN g.2.2.2 a j] [.int .i64 (treesN g.2.2.2 a j)] (Cells.single rfl) rfl (by simp [maxLen]; omega) (by simp; omega) (by omega)
     have HRUN := Lib.hid hrun
     have HO6 := Lib.hid ho6
     have HB6 := Lib.hid hb6
     have HC5 := Lib.hid hc5
     have HA15 := Lib.hid hA15
     clear hrun ho6 hb6 hg6 hv5 hA5 hA15 hc5
     obtain ⟨A6, c6, rfl, _⟩ := HO6.out.formN (a := j + 1) (by simp)
     go_wp2_with (at_builtin; refine Lib.wpList_append_run (o := ⟨some 38, _, _, _, _, _⟩) _ rfl _ _ _ _ rfl _ _ rfl rfl _ _ HRUN.out ?_)
     go_roundg (n + 1 - (j + 1))
     case measure => rw [HGJ.out]; omega
     case rel => exact ⟨j + 1, by omega, rfl, by go_num, by rw [List.range_succ, List.map_append]; exact HO6.out, HC5.out.kept HB6.out (by omega), HA15.out.grow HB6.out (Nat.le_refl _)⟩
    ·
     obtain rfl : j = n + 1 := by omega
     have hs := HVJ.out.sl
     have hv5 : OwnL RI wr (fun _ => False) w2.heap.size 22 (.slice A8 a c8) (treesTab g.2.2.2 a n) := HV.out.aside HAJ.out (by omega)
     obtain ⟨v6, w6, hrun, ho6, hg6, hb6⟩ := run_append_lit (R := RI) tIntss rfl wr 28 w2.heap.size (fun _ => False) _ _ hv5 1 [treesRow g.2.2.2 n a] [.slice A10 (n + 1) c10] (Cells.single ⟨A10, n + 1, c10, rfl, hs.more fun b hb => by
      rcases hb with h | h
      ·
       exact h.elim
      ·
       exact ⟨Or.inr (by omega), fun e => by have := HV.out.row e; omega⟩⟩) rfl (by simp [maxLen, treesTab]; omega) (by simp [treesTab]; omega) (by omega)
     have HRUN := Lib.hid hrun
     have HO6 := Lib.hid ho6
     have HB6 := Lib.hid hb6
     clear hrun ho6 hb6 hg6 hv5 hs
     obtain ⟨A6, c6, rfl, _⟩ := HO6.out.formN (a := a + 1) (by simp [treesTab])
     go_wp2_with (at_builtin; refine Lib.wpList_append_run (o := ⟨some 43, _, _, _, _, _⟩) _ rfl _ _ _ _ rfl _ _ rfl rfl _ _ HRUN.out ?_)
     go_roundg (nonsOf g - (a + 1))
     case measure => rw [HGK.out]; omega
     case rel => exact ⟨a + 1, by omega, rfl, by go_num, by rw [treesTab, List.range_succ, List.map_append]; exact HO6.out, HCJ.out.kept HB6.out (by omega), (HA.out.trans HAJ.out).grow HB6.out (Nat.le_refl _)⟩
  ·
   obtain rfl : a = nonsOf g := by omega
   go_wp2_with fail
   go_ret2
   exact ⟨A8, c8, rfl, HV.out.sl.more (by simp; intro b hb; omega), HB2.out.trans (HA.out.below (by omega) (by omega))⟩
end Go.Proofs.YtimklgbljjamkaaDoor
