/- MkStart0 MkVoid -/
import Derived.BigQuiet
import Derived.Deep.RegionHeld3
import Derived.Test.YtocbkccchnbmaaaGreatAw09
import Derived.Test.YtocbkccchnbmaaaGreatAw24
import Derived.Test.YtocbkccchnbmaaaGreatAw47
namespace Go.Proofs.YtocbkccchnbmaaaGreat
open Go.RowKit Go.Maps
structure MeetIn (g : GramD) (d : DfaD) : Prop where
 gv : GValid g
 dv : Valid d
 cl : (cols d : Int) = g.1
 n12 : d.2.2.length ≤ 12
def StartR (g : GramD) (d : DfaD) (base : Nat) (e : Ending) (w' : World) : Prop :=
 ∃ (M : Mkr) (W : List TriD), M.Ok ∧ M.d = d ∧ M.R = g.2.2.2 ∧ M.T = g.1.toNat ∧ M.N = g.2.1.toNat ∧ M.st = g.2.2.1.toNat ∧ e = .returned (.pointer (some ⟨M.Bm, 0, none⟩)) ∧ M.In w' W ∧ (∀ t ∈ W, Wd M.d M.R t) ∧ ClosedT M.d M.R (inW W) ∧ base ≤ M.Bm
set_option linter.unusedSimpArgs false in
set_option maxRecDepth 100000 in
set_option maxHeartbeats 4000000 in
theorem mkStart (w : World) (S : Nat → Prop) (g : GramD) (d : DfaD) (h : MeetIn g d) (AR : Option Addr) (nR cR : Nat) (hg : Sl RRule w S AR nR cR g.2.2.2) (A : Option Addr) (nA cA : Nat) (hA : Sl Rep.int w S A nA cA d.2.1) (NN : Option Addr) (n cN : Nat) (hN : Sl RI w S NN n cN d.2.2) :
    Calls Tryz.prog 44 #[.agg #[.int .i64 g.1, .int .i64 g.2.1, .int .i64 g.2.2.1, .slice AR nR cR], .agg #[.int .i64 d.1, .slice A nA cA, .slice NN n cN]] w fun e w' => StartR g d w.heap.size e w' ∧ Below w.heap.size w w' := by
 obtain ⟨T, hT⟩ : ∃ T : Nat, T = g.1.toNat := ⟨_, rfl⟩
 obtain ⟨N, hNn⟩ : ∃ N : Nat, N = g.2.1.toNat := ⟨_, rfl⟩
 obtain ⟨st, hst⟩ : ∃ st : Nat, st = g.2.2.1.toNat := ⟨_, rfl⟩
 have hT' : g.1 = (T : Int) := by have := h.gv.t1; omega
 have hN' : g.2.1 = (N : Int) := by have := h.gv.n1; omega
 have hst' : g.2.2.1 = (st : Int) := by have := h.gv.st; omega
 have hnA : nA = n := by rw [hA.len, hN.len]; exact h.dv.na
 subst hnA
 rw [hT', hN', hst']
 obtain ⟨w1, hw1⟩ : ∃ w1 : World, w1 = ((w.alloc (.cells #[.int .i64 (T : Int), .int .i64 (N : Int), .int .i64 (st : Int), .slice AR nR cR] 25)).alloc (.cells #[.int .i64 d.1, .slice A nA cA, .slice NN nA cN] 29)).alloc (.map #[] 0) := ⟨_, rfl⟩
 obtain ⟨M, hM⟩ : ∃ M : Mkr, M = ⟨w.heap.size + 3, w.heap.size + 2, AR, nR, cR, T, N, st, g.2.2.2, A, nA, cA, NN, cN, d, fun b => S b ∧ b < w.heap.size⟩ := ⟨_, rfl⟩
 obtain ⟨w2, hw2⟩ : ∃ w2 : World, w2 = w1.alloc (.cells M.box 135) := ⟨_, rfl⟩
 have z1 : w1.heap.size = w.heap.size + 3 := by rw [hw1]; simp
 have hb1 : Below w.heap.size w w1 := by rw [hw1]; exact (((Below.refl _ _).alloc (Nat.le_refl _) _).alloc (by simp) _).alloc (by simp; omega) _
 have hb2 : Below w.heap.size w w2 := by rw [hw2]; exact hb1.alloc (by omega) _
 have HMO := Lib.hid (show M.Ok by
  rw [hM]
  refine ⟨h.dv, ?_, hN.len, by have h1 := hN.len; have h2 := h.n12; show nA ≤ 12; omega, ?_, hg.len, fun b hb => ?_, by dsimp only; omega⟩
  ·
   have := h.cl; dsimp only; omega
  ·
   dsimp only
   have e : ((T : Int), (N : Int), (st : Int), g.2.2.2) = g := by rw [← hT', ← hN', ← hst']
   rw [e]
   exact h.gv
  ·
   have := hb.2
   dsimp only
   exact ⟨by omega, by omega⟩)
 have HI := Lib.hid (show M.In w2 [] from by
  rw [hM]
  have hk : w2.heap[w.heap.size + 3]? = some (.cells M.box 135 (0, 0)) := by rw [hw2, ← z1]; exact heap_alloc_new _ _
  rw [hM] at hk
  refine ⟨hk, hg.fit.below hb2, hA.fit.below hb2, hN.fit.below hb2, ?_, fun b hb => Nat.lt_of_lt_of_le hb.2 hb2.size, fun t ht => by cases ht⟩
  have h1 := TMap.made ((w.alloc (.cells #[.int .i64 (T : Int), .int .i64 (N : Int), .int .i64 (st : Int), .slice AR nR cR] 25)).alloc (.cells #[.int .i64 d.1, .slice A nA cA, .slice NN nA cN] 29))
  rw [← hw1, show ((w.alloc (.cells #[.int .i64 (T : Int), .int .i64 (N : Int), .int .i64 (st : Int), .slice AR nR cR] 25)).alloc (.cells #[.int .i64 d.1, .slice A nA cA, .slice NN nA cN] 29)).heap.size = w.heap.size + 2 by simp] at h1
  exact h1.block (by rw [hw2]; exact Below.heap_alloc _ _ _ (by omega)))
 have HW2 := Lib.hid (show w2 = (((w.alloc (.cells #[.int .i64 (T : Int), .int .i64 (N : Int), .int .i64 (st : Int), .slice AR nR cR] 25)).alloc (.cells #[.int .i64 d.1, .slice A nA cA, .slice NN nA cN] 29)).alloc (.map #[] 0)).alloc (.cells #[.int .i64 (T : Int), .int .i64 (N : Int), .int .i64 (st : Int), .slice AR nR cR, .int .i64 d.1, .slice A nA cA, .slice NN nA cN, .map (some (w.heap.size + 1 + 1))] 135) by
  rw [hw2, hw1, hM])
 have HB2 := Lib.hid hb2
 have HBM := Lib.hid (show M.Bm = w.heap.size + 1 + 1 + 1 by rw [hM])
 have HE := Lib.hid (show M.d = d ∧ M.R = g.2.2.2 ∧ M.T = g.1.toNat ∧ M.N = g.2.1.toNat ∧ M.st = g.2.2.1.toNat ∧ M.Bw = w.heap.size + 2 by rw [hM]; exact ⟨rfl, rfl, hT, hNn, hst, rfl⟩)
 have hmm := @run_makeMap Tryz.prog
 clear h hg hA hN hT hNn hst hT' hN' hst' hw1 hw2 hM z1 hb1 hb2 w1
 go_enter Tryz.func44, Tryz.ntmps44
 go_wp2_with (go_at_call 71; rw [← HW2.out, ← HBM.out]; refine (mkFill M HMO.out w2 HI.out).mono ?_; rintro e w3 ⟨rfl, W, hin, hw, hc, ho⟩; have HIN := Lib.hid hin; have HWD := Lib.hid hw; have HCL := Lib.hid hc; have HO := Lib.hid ho; clear hin hw hc ho)
 go_ret
 obtain ⟨e1, e2, e3, e4, e5, e6⟩ := HE.out
 exact ⟨⟨M, W, HMO.out, e1, e2, e3, e4, e5, rfl, HIN.out, HWD.out, HCL.out, by rw [HBM.out]; omega⟩, HB2.out.trans (HO.out.below (fun b hb => by omega) HB2.out.size)⟩
set_option linter.unusedSimpArgs false in
set_option maxRecDepth 100000 in
set_option maxHeartbeats 4000000 in
theorem mkCheck (w : World) (S : Nat → Prop) (g : GramD) (d : DfaD) (h : MeetIn g d) (AR : Option Addr) (nR cR : Nat) (hg : Sl RRule w S AR nR cR g.2.2.2) (A : Option Addr) (nA cA : Nat) (hA : Sl Rep.int w S A nA cA d.2.1) (NN : Option Addr) (n cN : Nat) (hN : Sl RI w S NN n cN d.2.2) :
    Calls Tryz.prog 22 #[.agg #[.int .i64 g.1, .int .i64 g.2.1, .int .i64 g.2.2.1, .slice AR nR cR], .agg #[.int .i64 d.1, .slice A nA cA, .slice NN n cN]] w fun e w' => e = .returned (.int .i64 0) ∧ Below w.heap.size w w' := by
 obtain ⟨w1, hw1⟩ : ∃ w1 : World, w1 = (w.alloc (.cells #[.int .i64 g.1, .int .i64 g.2.1, .int .i64 g.2.2.1, .slice AR nR cR] 25)).alloc (.cells #[.int .i64 d.1, .slice A nA cA, .slice NN n cN] 29) := ⟨_, rfl⟩
 have hb1 : Below w.heap.size w w1 := by rw [hw1]; exact ((Below.refl _ _).alloc (Nat.le_refl _) _).alloc (by simp) _
 have HB1 := Lib.hid hb1
 have HG := Lib.hid (hg.below hb1)
 have HA := Lib.hid (hA.below hb1)
 have HN := Lib.hid (hN.below hb1)
 have HH := Lib.hid h
 have HBG := Lib.hid (show w1.heap[w.heap.size]? = some (.cells #[.int .i64 g.1, .int .i64 g.2.1, .int .i64 g.2.2.1, .slice AR nR cR] 25 (0, 0)) by rw [hw1, Below.heap_alloc _ _ _ (by simp)]; exact heap_alloc_new _ _)
 have HBD := Lib.hid (show w1.heap[w.heap.size + 1]? = some (.cells #[.int .i64 d.1, .slice A nA cA, .slice NN n cN] 29 (0, 0)) by
  rw [hw1, show w.heap.size + 1 = (w.alloc (.cells #[.int .i64 g.1, .int .i64 g.2.1, .int .i64 g.2.2.1, .slice AR nR cR] 25)).heap.size by simp]
  exact heap_alloc_new _ _)
 have hn12 : n ≤ 12 := by rw [hN.len]; exact h.n12
 have HW1 := Lib.hid hw1
 have hn1 : 1 ≤ n := by have := h.dv.n1; have := hN.len; omega
 obtain ⟨bN, oN, A0, m0, c0, r0, rfl, _, hbN, hr0, hr1, hr2⟩ := row_at (hN.below hb1) (k := 0) hn1
 rw [Nat.add_zero] at hr0
 have HR0 := Lib.hid hr0
 have hmT : (m0 : Int) = g.1 := by
  rw [← h.cl, hr2.len]
  unfold cols
  rw [hr1]
  rfl
 clear h hg hA hN hw1 hb1 hr0 hr1 hr2
 go_enter Tryz.func22, Tryz.ntmps22
 go_wp2_with (first
  | (go_at_call 10; rw [← HW1.out]; refine (gramCheck w1 S AR nR cR g HG.out HH.out.gv).mono ?_; rintro e w2 ⟨rfl, hb2⟩; have HB2 := Lib.hid hb2; clear hb2; have hbd2 := (HB2.out.block _ (heap_lt HBD.out)).trans HBD.out; obtain ⟨y0, y1, y2⟩ : w2.cell? ⟨w.heap.size + 1, 0, none⟩ = some (.int .i64 d.1) ∧ w2.cell? ⟨w.heap.size + 1, 1, none⟩ = some (.slice A nA cA) ∧ w2.cell? ⟨w.heap.size + 1, 2, none⟩ = some (.slice (some ⟨bN, oN, none⟩) n cN) := ⟨by simp [World.cell?, hbd2], by simp [World.cell?, hbd2], by simp [World.cell?, hbd2]⟩; clear hbd2)
  | (go_at_call 43; refine (dfaCheck w2 S A nA cA _ n cN d (HA.out.below HB2.out) (HN.out.below HB2.out) HH.out.dv).mono ?_; rintro e w3 ⟨rfl, hb3⟩; have HB3 := Lib.hid (HB2.out.trans (hb3.mono HB2.out.size)); clear hb3 y0 y1 y2; have hbd3 := (HB3.out.block _ (heap_lt HBD.out)).trans HBD.out; have hbg3 := (HB3.out.block _ (heap_lt HBG.out)).trans HBG.out; have y2 : w3.cell? ⟨w.heap.size + 1, 2, none⟩ = some (.slice (some ⟨bN, oN, none⟩) n cN) := (by simp [World.cell?, hbd3]); have y0 : w3.cell? ⟨w.heap.size, 0, none⟩ = some (.int .i64 g.1) := (by simp [World.cell?, hbg3]); have y3 := (HB3.out.cell hbN).trans HR0.out; clear hbd3 hbg3))
 have hn1i : (0 : Int) < (n : Int) := by omega
 go_region
 have hn12i : ¬ (12 : Int) < (n : Int) := by omega
 have hn12d : decide ((12 : Int) < (n : Int)) = false := by simpa using hn12i
 go_wp2_with fail
 go_ret
 exact ⟨rfl, (HB1.out.trans (HB3.out.mono HB1.out.size)).drew⟩
end Go.Proofs.YtocbkccchnbmaaaGreat
namespace Go.Proofs.YtocbkccchnbmaaaGreat
open Go.RowKit Go.Maps
def Void (M : Mkr) (W : List TriD) : Prop := ∀ p : Nat, p < M.n → 0 ≤ dat M.d (p : Int) → (M.d.1.toNat, M.st, p) ∉ W
set_option linter.unusedSimpArgs false in
set_option maxRecDepth 100000 in
set_option maxHeartbeats 4000000 in
theorem mkAdd0 (M : Mkr) (hM : M.Ok) (w : World) (W : List TriD) (h : M.In w W) (t : TriD) (ht : M.Tri t) (hW : t ∉ W) (Bx Bs Bo : Nat) (hx : w.cell? ⟨Bx, 0, none⟩ = some (.pointer (some ⟨M.Bm, 0, none⟩))) :
    Calls Tryz.prog 81 #[.agg #[.int .i64 (t.1 : Int), .int .i64 (t.2.1 : Int), .int .i64 (t.2.2 : Int)], .pointer (some ⟨Bx, 0, none⟩), .pointer (some ⟨Bs, 0, none⟩), .pointer (some ⟨Bo, 0, none⟩)] w fun e w' => e = .returned (.tuple #[]) ∧ Below w.heap.size w w' := by
 have hn12 := hM.n12
 have hN10 : M.N ≤ 10 := by have := hM.g.n2; simp only at this; omega
 obtain ⟨tq, ta, tp⟩ := t
 obtain ⟨ht1, ht2, ht3⟩ := ht
 simp only at ht1 ht2 ht3 ⊢
 obtain ⟨w1, hw1⟩ : ∃ w1 : World, w1 = w.alloc (.cells #[.int .i64 (tq : Int), .int .i64 (ta : Int), .int .i64 (tp : Int)] 141) := ⟨_, rfl⟩
 have hb1 : Below w.heap.size w w1 := by rw [hw1]; exact (Below.refl _ _).alloc (Nat.le_refl _) _
 have hbt : w1.heap[w.heap.size]? = some (.cells #[.int .i64 (tq : Int), .int .i64 (ta : Int), .int .i64 (tp : Int)] 141 (0, 0)) := by rw [hw1]; exact heap_alloc_new _ _
 have hin1 := h.below hb1
 have c0 : w1.cell? ⟨Bx, 0, none⟩ = some (.pointer (some ⟨M.Bm, 0, none⟩)) := (hb1.cell (cell_lt hx)).trans hx
 have c1 := hin1.cells.2.2.2.2.2.2.2
 have c3 : w1.cell? ⟨w.heap.size, 0, none⟩ = some (.int .i64 (tq : Int)) := by simp [World.cell?, hbt]
 have c4 : w1.cell? ⟨w.heap.size, 1, none⟩ = some (.int .i64 (ta : Int)) := by simp [World.cell?, hbt]
 have c5 : w1.cell? ⟨w.heap.size, 2, none⟩ = some (.int .i64 (tp : Int)) := by simp [World.cell?, hbt]
 have eW : decide ((tq, ta, tp) ∈ W) = false := by simpa using hW
 have hlk : ∀ n, (Instr.lookup 133 (.map (some M.Bw)) (.agg #[.int .i64 (tq : Int), .int .i64 (ta : Int), .int .i64 (tp : Int)]) false).run Tryz.prog (w1.drewN n) = .ok (.bool false) (w1.drewN n) := fun n => by
  have h2 := AMap.look (w := w1.drewN n) (hin1.words.map.below (below_drewN _ _ _)) mapTri zeroB (triOk tq ta tp (by omega) (by omega) (by omega))
  rw [lk_triB, eW] at h2
  exact h2
 have HB1 := Lib.hid hb1
 rw [hw1] at c0 c1 c3 c4 c5 hlk
 have HW1 := Lib.hid hw1
 clear h hM hb1 hbt hin1 hw1 hx eW hW
 go_enter Tryz.func81, Tryz.ntmps81
 go_wp2_with fail
 go_quiet (fail)
 go_wp2_with fail
 rw [← HW1.out]
 refine Go.bodyPost_end (v := .tuple #[]) (by simp [results, Tryz.results81, go_sem]) rfl ⟨rfl, HB1.out.trans (below_drewN _ _ _)⟩
set_option linter.unusedSimpArgs false in
set_option maxRecDepth 100000 in
set_option maxHeartbeats 2000000 in
theorem len64Z (w : World) : Calls Tryz.prog 98 #[.int .u64 0] w fun e w' => e = .returned (.int .i64 0) ∧ Below w.heap.size w w' := by
 go_enter Tryz.func98, Tryz.ntmps98
 go_wp2_with fail
 go_ret
 exact ⟨by kernel_rfl, Below.refl _ _⟩
set_option linter.unusedSimpArgs false in
set_option maxRecDepth 100000 in
set_option maxHeartbeats 2000000 in
theorem sortZ (w : World) (v : Value) : Calls Tryz.prog 83 #[.slice none 0 0, v] w fun e w' => e = .returned (.tuple #[]) ∧ Below w.heap.size w w' := by
 have hins : ∀ u : World, Calls Tryz.prog 89 #[.slice none 0 0, .int .i64 0, .int .i64 0, v] u fun e w' => e = .returned (.tuple #[]) ∧ Below u.heap.size u w' := fun u => by
  go_enter Tryz.func89, Tryz.ntmps89
  go_wp2_with fail
  go_loopg [8] 0 (fun g v8 wr => g = 0 ∧ v8 = .int .i64 1 ∧ Below u.heap.size u wr)
  case atStart => exact ⟨rfl, rfl, Below.refl _ _⟩
  case round =>
   obtain ⟨_, rfl, hb⟩ := hrel
   go_wp2_with fail
   refine Go.bodyPost_end (v := .tuple #[]) (by simp [results, Tryz.results89, go_sem]) rfl ⟨rfl, hb⟩
 have hpd : ∀ u : World, Calls Tryz.prog 87 #[.slice none 0 0, .int .i64 0, .int .i64 0, .int .i64 0, v] u fun e w' => e = .returned (.tuple #[]) ∧ Below u.heap.size u w' := fun u => by
  go_enter Tryz.func87, Tryz.ntmps87
  go_wp2_with fail
  go_loopg [1, 2] 0 (fun g v1 v2 wr => g = 0 ∧ v1 = .int .i64 0 ∧ v2 = .int .i64 0 ∧ Below u.heap.size u wr)
  case atStart => exact ⟨rfl, rfl, rfl, Below.refl _ _⟩
  case round =>
   obtain ⟨_, rfl, rfl, hb⟩ := hrel
   go_wp2_with fail
   refine (hins _).mono ?_
   rintro e w1 ⟨rfl, hb1⟩
   go_wp2_with fail
   refine Go.bodyPost_ret (v := .tuple #[]) (by simp [results, Tryz.results87, go_sem]) rfl ⟨rfl, hb.trans (hb1.mono hb.size)⟩
 have hlen : ∀ u : World, Calls Tryz.prog 88 #[.int .u64 0] u fun e w' => e = .returned (.int .i64 0) ∧ Below u.heap.size u w' := fun u => by
  go_enter Tryz.func88, Tryz.ntmps88
  go_wp2_with fail
  refine (len64Z _).mono ?_
  rintro e w1 ⟨rfl, hb1⟩
  go_wp2_with fail
  go_ret
  exact ⟨rfl, hb1⟩
 go_enter Tryz.func83, Tryz.ntmps83
 go_wp2_with fail
 refine (hlen _).mono ?_
 rintro e w1 ⟨rfl, hb1⟩
 go_wp2_with fail
 refine (hpd _).mono ?_
 rintro e w2 ⟨rfl, hb2⟩
 go_wp2_with fail
 refine Go.bodyPost_end (v := .tuple #[]) (by simp [results, Tryz.results83, go_sem]) rfl ⟨rfl, hb1.trans (hb2.mono hb1.size)⟩
theorem enters_add0 : ∀ (args : Array Value) (u : World), (callFunc 81 args).run Tryz.prog u = .ok (.enter 81 args) u := enters_of Tryz.func81 (by kernel_rfl) rfl
set_option linter.unusedSimpArgs false in
set_option maxRecDepth 100000 in
set_option maxHeartbeats 4000000 in
theorem mkNeeded0 (M : Mkr) (hM : M.Ok) (w : World) (W : List TriD) (h : M.In w W) (hv : Void M W) : Calls Tryz.prog 72 #[.pointer (some ⟨M.Bm, 0, none⟩)] w fun e w' => e = .returned (.slice none 0 0) ∧ Below w.heap.size w w' := by
 have HM := Lib.hid hM
 have HV := Lib.hid hv
 have hn12 := hM.n12
 have hst := hM.val.st
 have hstN : M.st < M.N := by have := hM.g.st; simp only at this; omega
 have HTS := Lib.hid (show ∀ p, p < M.n → M.Tri (M.d.1.toNat, M.st, p) from fun p hp => ⟨by show M.d.1.toNat < M.n; rw [hM.n]; omega, hstN, hp⟩)
 have hdst : ((M.d.1.toNat : Nat) : Int) = M.d.1 := by omega
 have HDS := Lib.hid hdst
 obtain ⟨K, hK⟩ : ∃ K, K = w.heap.size := ⟨_, rfl⟩
 obtain ⟨w1, hw1⟩ : ∃ w1 : World, w1 = w.alloc (.cells #[.pointer (some ⟨M.Bm, 0, none⟩)] 108) := ⟨_, rfl⟩
 obtain ⟨w2, hw2⟩ : ∃ w2 : World, w2 = w1.alloc (.cells #[.slice none 0 0] 136) := ⟨_, rfl⟩
 obtain ⟨w3, hw3⟩ : ∃ w3 : World, w3 = w2.alloc (.map #[] 0) := ⟨_, rfl⟩
 obtain ⟨w4, hw4⟩ : ∃ w4 : World, w4 = w3.alloc (.cells #[.map (some (K + 1 + 1))] 133) := ⟨_, rfl⟩
 have z1 : w1.heap.size = K + 1 := by rw [hw1]; simp [hK]
 have z2 : w2.heap.size = K + 2 := by rw [hw2]; simp [z1]
 have z3 : w3.heap.size = K + 3 := by rw [hw3]; simp [z2]
 have z4 : w4.heap.size = K + 4 := by rw [hw4]; simp [z3]
 have b04 : Below K w w4 := by rw [hw4, hw3, hw2, hw1, hK]; exact ((((Below.refl _ _).alloc (Nat.le_refl _) _).alloc (by simp) _).alloc (by simp; omega) _).alloc (by simp; omega) _
 have bx : w4.heap[K]? = some (.cells #[.pointer (some ⟨M.Bm, 0, none⟩)] 108 (0, 0)) := by
  rw [hw4, Below.heap_alloc _ _ _ (by omega), hw3, Below.heap_alloc _ _ _ (by omega), hw2, Below.heap_alloc _ _ _ (by omega), hw1, hK]
  exact heap_alloc_new _ _
 have bo : w4.heap[K + 1]? = some (.cells #[.slice none 0 0] 136 (0, 0)) := by
  rw [hw4, Below.heap_alloc _ _ _ (by omega), hw3, Below.heap_alloc _ _ _ (by omega), hw2, ← z1]
  exact heap_alloc_new _ _
 have hin4 := h.below (by rw [← hK]; exact b04)
 obtain ⟨AA, hAA⟩ : ∃ AA, AA = M.A := ⟨_, rfl⟩
 have HAA := Lib.hid hAA
 have HIN := Lib.hid hin4
 have HALL := Lib.hid (show ∀ u : World, Below w4.heap.size w4 u → (u.cell? ⟨K, 0, none⟩ = some (.pointer (some ⟨M.Bm, 0, none⟩)) ∧ u.cell? ⟨K + 1, 0, none⟩ = some (.slice none 0 0)) ∧ u.cell? ⟨M.Bm, 2, none⟩ = some (.int .i64 (M.st : Int)) ∧ u.cell? ⟨M.Bm, 4, none⟩ = some (.int .i64 ((M.d.1.toNat : Nat) : Int)) ∧ u.cell? ⟨M.Bm, 5, none⟩ = some (.slice AA M.n M.cA) from fun u hu => by
  have h1 := (hin4.below hu).cells
  have e1 := (hu.block _ (heap_lt bx)).trans bx
  have e2 := (hu.block _ (heap_lt bo)).trans bo
  rw [hAA, hdst]
  exact ⟨⟨by simp [World.cell?, e1], by simp [World.cell?, e2]⟩, h1.2.2.1, h1.2.2.2.2.1, h1.2.2.2.2.2.1⟩)
 have HB04 := Lib.hid b04
 have HK := Lib.hid hK
 have HW4 := Lib.hid (show w4 = (((w.alloc (.cells #[.pointer (some ⟨M.Bm, 0, none⟩)] 108)).alloc (.cells #[.slice none 0 0] 136)).alloc (.map #[] 0)).alloc (.cells #[.map (some (w.heap.size + 1 + 1))] 133) by rw [hw4, hw3, hw2, hw1, hK])
 have hent := enters_add0
 have hmm := @run_makeMap Tryz.prog
 obtain ⟨⟨k0, _⟩, _, _, k5⟩ := HALL.out w4 (Below.refl _ _)
 rw [HW4.out, hK] at k0
 rw [HW4.out] at k5
 clear h hM hv hw1 hw2 hw3 hw4 z1 z2 z3 z4 b04 hK hst hdst hAA bx bo hin4 w1 w2 w3
 go_enter Tryz.func72, Tryz.ntmps72
 go_wp2_with fail
 rw [← HW4.out]
 rw [← HK.out]
 clear k0 k5 hmm
 obtain ⟨dn, hdn⟩ : ∃ dn, dn = M.d.1.toNat := ⟨_, rfl⟩
 rw [← hdn] at HALL HTS
 have HDN := Lib.hid hdn
 clear hdn
 go_loopg [18] M.n (fun gp v18 wr => ∃ p : Nat, p ≤ M.n ∧ gp = M.n - p ∧ v18 = .int .i64 p ∧ Below w4.heap.size w4 wr)
 case atStart => exact ⟨0, Nat.zero_le _, rfl, rfl, Below.refl _ _⟩
 case round =>
  obtain ⟨p, hp, hgp, rfl, hb⟩ := hrel
  obtain ⟨w5, rfl⟩ : ∃ w5 : World, w5 = wr := ⟨_, rfl⟩
  have HGP := Lib.hid hgp
  have HB5 := Lib.hid hb
  clear hgp hb
  by_cases hpl : p < M.n
  ·
   have hpI : (p : Int) < (M.n : Int) := by omega
   have hp0 : (0 : Int) ≤ (p : Int) := by omega
   have hac := (HIN.out.below HB5.out).acc
   rw [← HAA.out] at hac
   obtain ⟨bA, oA, x, hA, _, hx, hcx⟩ := hac.ints.int_at hpl
   subst hA
   have HX := Lib.hid (show dat M.d (p : Int) = x by
    unfold dat
    rw [if_neg (by omega), Int.toNat_natCast, hx]; rfl)
   clear hac hx
   by_cases hx0 : 0 ≤ x
   ·
    have hd0 : decide ((0 : Int) ≤ x) = true := by simpa using hx0
    obtain ⟨⟨kx, _⟩, k2, k4, _⟩ := HALL.out w5 HB5.out
    have HNW := Lib.hid (show (dn, M.st, p) ∉ W by rw [HDN.out]; exact HV.out p hpl (by rw [HX.out]; exact hx0))
    go_wp2_with fail
    go_region_held3 (fun u => u.cell? ⟨K, 0, none⟩ = some (.pointer (some ⟨M.Bm, 0, none⟩)) ∧ u.cell? ⟨M.Bm, 2, none⟩ = some (.int .i64 (M.st : Int)) ∧ u.cell? ⟨M.Bm, 4, none⟩ = some (.int .i64 (dn : Int))) (first | exact ⟨kx, k2, k4⟩ | exact ⟨yx, y2, y4⟩) (first
     | (go_at_call 81; refine (mkAdd0 M HM.out _ W (HIN.out.below (HB5.out.drew)) (dn, M.st, p) (HTS.out p hpl) HNW.out K (K + 1 + 1 + 1) (K + 1) kx).mono ?_; rintro e w6 ⟨rfl, hb6⟩; have HB6 := Lib.hid (HB5.out.trans (((Below.refl _ _).drew.trans hb6).mono HB5.out.size)); obtain ⟨⟨yx, _⟩, y2, y4, _⟩ := HALL.out w6 HB6.out; clear hb6))
    clear kx k2 k4 y2 y4 yx
    go_wp2_with fail
    go_roundg (M.n - (p + 1))
    case measure => rw [HGP.out]; omega
    case rel => exact ⟨p + 1, by omega, rfl, by go_num, HB6.out⟩
   ·
    have hd0 : decide ((0 : Int) ≤ x) = false := by simpa using hx0
    go_wp2_with fail
    go_roundg (M.n - (p + 1))
    case measure => rw [HGP.out]; omega
    case rel => exact ⟨p + 1, by omega, rfl, by go_num, HB5.out⟩
  ·
   obtain rfl : M.n = p := by omega
   obtain ⟨⟨kx, ko⟩, _⟩ := HALL.out w5 HB5.out
   go_wp2_with fail
   go_loopg [8] 0 (fun gi v8 wr => gi = 0 ∧ v8 = .int .i64 0 ∧ Below w4.heap.size w4 wr)
   case atStart => exact ⟨rfl, rfl, HB5.out⟩
   case round =>
    obtain ⟨_, rfl, hb⟩ := hrel
    obtain ⟨⟨_, ko⟩, _⟩ := HALL.out wr hb
    have HBW := Lib.hid hb
    clear hb kx
    go_wp2_with (go_at_call 83; refine (sortZ _ _).mono ?_; rintro e w7 ⟨rfl, hb7⟩; have HB7 := Lib.hid (HBW.out.trans (hb7.mono HBW.out.size)); obtain ⟨⟨_, ko7⟩, _⟩ := HALL.out w7 HB7.out; clear hb7)
    go_ret
    exact ⟨rfl, by rw [← HK.out]; exact HB04.out.trans (HB7.out.mono (by have := HB04.out.size; have := HK.out; omega))⟩
end Go.Proofs.YtocbkccchnbmaaaGreat
