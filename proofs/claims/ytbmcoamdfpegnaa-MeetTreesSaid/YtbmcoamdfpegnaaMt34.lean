/- MkStart MkOf -/
import Derived.Test.YtbmcoamdfpegnaaMt07
import Derived.Test.YtbmcoamdfpegnaaMt31
import Derived.Test.YtbmcoamdfpegnaaMt33
namespace Go.Proofs.Ytbmcoamdfpegnaa
open Go.RowKit Go.Maps
structure MeetIn (g : GramD) (d : DfaD) : Prop where
 gv : GValid g
 dv : Valid d
 cl : (cols d : Int) = g.1
 n12 : d.2.2.length ≤ 12
def StartR (g : GramD) (d : DfaD) (base : Nat) (e : Ending) (w' : World) : Prop :=
 ∃ (M : Mkr) (W : List TriD), M.Ok ∧ M.d = d ∧ M.R = g.2.2.2 ∧ M.T = g.1.toNat ∧ M.N = g.2.1.toNat ∧ M.st = g.2.2.1.toNat ∧ e = .returned (.pointer (some ⟨M.Bm, 0, none⟩)) ∧ M.In w' W ∧ (∀ t ∈ W, Wd M.d M.R t) ∧ ClosedT M.d M.R (inW W) ∧ base ≤ M.Bm
set_option linter.unusedSimpArgs false in
set_option maxRecDepth 100000 in
set_option maxHeartbeats 4000000 in
theorem mkStart (w : World) (S : Nat → Prop) (g : GramD) (d : DfaD) (h : MeetIn g d) (AR : Option Addr) (nR cR : Nat) (hg : Sl RRule w S AR nR cR g.2.2.2) (A : Option Addr) (nA cA : Nat) (hA : Sl Rep.int w S A nA cA d.2.1) (NN : Option Addr) (n cN : Nat) (hN : Sl RI w S NN n cN d.2.2) :
    Calls Try.prog 25 #[.agg #[.int .i64 g.1, .int .i64 g.2.1, .int .i64 g.2.2.1, .slice AR nR cR], .agg #[.int .i64 d.1, .slice A nA cA, .slice NN n cN]] w fun e w' => StartR g d w.heap.size e w' ∧ Below w.heap.size w w' := by
 obtain ⟨T, hT⟩ : ∃ T : Nat, T = g.1.toNat := ⟨_, rfl⟩
 obtain ⟨N, hNn⟩ : ∃ N : Nat, N = g.2.1.toNat := ⟨_, rfl⟩
 obtain ⟨st, hst⟩ : ∃ st : Nat, st = g.2.2.1.toNat := ⟨_, rfl⟩
 have hT' : g.1 = (T : Int) := by have := h.gv.t1; omega
 have hN' : g.2.1 = (N : Int) := by have := h.gv.n1; omega
 have hst' : g.2.2.1 = (st : Int) := by have := h.gv.st; omega
 have hnA : nA = n := by rw [hA.len, hN.len]; exact h.dv.na
 subst hnA
 rw [hT', hN', hst']
 obtain ⟨w1, hw1⟩ : ∃ w1 : World, w1 = ((w.alloc (.cells #[.int .i64 (T : Int), .int .i64 (N : Int), .int .i64 (st : Int), .slice AR nR cR] 25)).alloc (.cells #[.int .i64 d.1, .slice A nA cA, .slice NN nA cN] 28)).alloc (.map #[] 0) := ⟨_, rfl⟩
 obtain ⟨M, hM⟩ : ∃ M : Mkr, M = ⟨w.heap.size + 3, w.heap.size + 2, AR, nR, cR, T, N, st, g.2.2.2, A, nA, cA, NN, cN, d, fun b => S b ∧ b < w.heap.size⟩ := ⟨_, rfl⟩
 obtain ⟨w2, hw2⟩ : ∃ w2 : World, w2 = w1.alloc (.cells M.box 106) := ⟨_, rfl⟩
 have z1 : w1.heap.size = w.heap.size + 3 := by rw [hw1]; simp
 have hb1 : Below w.heap.size w w1 := by rw [hw1]; exact (((Below.refl _ _).alloc (Nat.le_refl _) _).alloc (by simp) _).alloc (by simp; omega) _
 have hb2 : Below w.heap.size w w2 := by rw [hw2]; exact hb1.alloc (by omega) _
 have HMO := Lib.hid (show M.Ok by
  rw [hM]
  refine ⟨h.dv, ?_, hN.len, by have h1 := hN.len; have h2 := h.n12; show nA ≤ 12; omega, ?_, hg.len, fun b hb => ?_, by dsimp only; omega⟩
  ·
   have := h.cl; dsimp only; omega
  ·
   dsimp only
   have e : ((T : Int), (N : Int), (st : Int), g.2.2.2) = g := by rw [← hT', ← hN', ← hst']
   rw [e]
   exact h.gv
  ·
   have := hb.2
   dsimp only
   exact ⟨by omega, by omega⟩)
 have HI := Lib.hid (show M.In w2 [] from by
  rw [hM]
  have hk : w2.heap[w.heap.size + 3]? = some (.cells M.box 106 (0, 0)) := by rw [hw2, ← z1]; exact heap_alloc_new _ _
  rw [hM] at hk
  refine ⟨hk, hg.fit.below hb2, hA.fit.below hb2, hN.fit.below hb2, ?_, fun b hb => Nat.lt_of_lt_of_le hb.2 hb2.size, fun t ht => by cases ht⟩
  have h1 := TMap.made ((w.alloc (.cells #[.int .i64 (T : Int), .int .i64 (N : Int), .int .i64 (st : Int), .slice AR nR cR] 25)).alloc (.cells #[.int .i64 d.1, .slice A nA cA, .slice NN nA cN] 28))
  rw [← hw1, show ((w.alloc (.cells #[.int .i64 (T : Int), .int .i64 (N : Int), .int .i64 (st : Int), .slice AR nR cR] 25)).alloc (.cells #[.int .i64 d.1, .slice A nA cA, .slice NN nA cN] 28)).heap.size = w.heap.size + 2 by simp] at h1
  exact h1.block (by rw [hw2]; exact Below.heap_alloc _ _ _ (by omega)))
 have HW2 := Lib.hid (show w2 = (((w.alloc (.cells #[.int .i64 (T : Int), .int .i64 (N : Int), .int .i64 (st : Int), .slice AR nR cR] 25)).alloc (.cells #[.int .i64 d.1, .slice A nA cA, .slice NN nA cN] 28)).alloc (.map #[] 0)).alloc (.cells #[.int .i64 (T : Int), .int .i64 (N : Int), .int .i64 (st : Int), .slice AR nR cR, .int .i64 d.1, .slice A nA cA, .slice NN nA cN, .map (some (w.heap.size + 1 + 1))] 106) by
  rw [hw2, hw1, hM])
 have HB2 := Lib.hid hb2
 have HBM := Lib.hid (show M.Bm = w.heap.size + 1 + 1 + 1 by rw [hM])
 have HE := Lib.hid (show M.d = d ∧ M.R = g.2.2.2 ∧ M.T = g.1.toNat ∧ M.N = g.2.1.toNat ∧ M.st = g.2.2.1.toNat ∧ M.Bw = w.heap.size + 2 by rw [hM]; exact ⟨rfl, rfl, hT, hNn, hst, rfl⟩)
 have hmm := @run_makeMap Try.prog
 clear h hg hA hN hT hNn hst hT' hN' hst' hw1 hw2 hM z1 hb1 hb2 w1
 go_enter Try.func25, Try.ntmps25
 go_wp2_with (go_at_call 54; rw [← HW2.out, ← HBM.out]; refine (mkFill M HMO.out w2 HI.out).mono ?_; rintro e w3 ⟨rfl, W, hin, hw, hc, ho⟩; have HIN := Lib.hid hin; have HWD := Lib.hid hw; have HCL := Lib.hid hc; have HO := Lib.hid ho; clear hin hw hc ho)
 go_ret
 obtain ⟨e1, e2, e3, e4, e5, e6⟩ := HE.out
 exact ⟨⟨M, W, HMO.out, e1, e2, e3, e4, e5, rfl, HIN.out, HWD.out, HCL.out, by rw [HBM.out]; omega⟩, HB2.out.trans (HO.out.below (fun b hb => by omega) HB2.out.size)⟩
def OfR (g : GramD) (d : DfaD) (base : Nat) (e : Ending) (w' : World) : Prop :=
 ∃ (M : Mkr) (W : List TriD), M.Ok ∧ M.d = d ∧ M.R = g.2.2.2 ∧ M.T = g.1.toNat ∧ M.N = g.2.1.toNat ∧ M.st = g.2.2.1.toNat ∧ (∀ t ∈ W, Wd M.d M.R t) ∧ ClosedT M.d M.R (inW W) ∧ (∀ t ∈ W, M.Tri t) ∧
  ∃ L : List TriD, L.Pairwise TLt ∧ (∀ t, t ∈ L ↔ NdP M.d M.R (inW W) M.st t) ∧ (∀ t ∈ L, M.Tri t) ∧
  (((allPR M W L).length ≤ 4000 ∧ ∃ (FR FF FN : Nat → Prop) (vR vN vF : Value), e = .returned (.tuple #[.agg #[.int .i64 (M.T : Int), .int .i64 ((L.length + 1 : Nat) : Int), .int .i64 0, vR, vN, vF], .int .i64 0]) ∧ GL RRule 40 w' FR vR ((allPR M W L).map fun x => x.1) ∧ GL RNon 46 w' FN vN ((-1, -1, -1) :: L.map triZ) ∧ GL Rep.int 3 w' FF vF ((allPR M W L).map fun x => x.2.1) ∧ (∀ b, FR b ∨ FF b ∨ FN b → base ≤ b ∧ b < w'.heap.size)) ∨
   (4000 < (allPR M W L).length ∧ e = .returned (.tuple #[.agg #[.int .i64 0, .int .i64 0, .int .i64 0, .slice none 0 0, .slice none 0 0, .slice none 0 0], .int .i64 2])))
set_option linter.unusedSimpArgs false in
set_option maxRecDepth 100000 in
set_option maxHeartbeats 4000000 in
theorem mkCheck (w : World) (S : Nat → Prop) (g : GramD) (d : DfaD) (h : MeetIn g d) (AR : Option Addr) (nR cR : Nat) (hg : Sl RRule w S AR nR cR g.2.2.2) (A : Option Addr) (nA cA : Nat) (hA : Sl Rep.int w S A nA cA d.2.1) (NN : Option Addr) (n cN : Nat) (hN : Sl RI w S NN n cN d.2.2) :
    Calls Try.prog 24 #[.agg #[.int .i64 g.1, .int .i64 g.2.1, .int .i64 g.2.2.1, .slice AR nR cR], .agg #[.int .i64 d.1, .slice A nA cA, .slice NN n cN]] w fun e w' => e = .returned (.int .i64 0) ∧ Below w.heap.size w w' := by
 obtain ⟨w1, hw1⟩ : ∃ w1 : World, w1 = (w.alloc (.cells #[.int .i64 g.1, .int .i64 g.2.1, .int .i64 g.2.2.1, .slice AR nR cR] 25)).alloc (.cells #[.int .i64 d.1, .slice A nA cA, .slice NN n cN] 28) := ⟨_, rfl⟩
 have hb1 : Below w.heap.size w w1 := by rw [hw1]; exact ((Below.refl _ _).alloc (Nat.le_refl _) _).alloc (by simp) _
 have HB1 := Lib.hid hb1
 have HG := Lib.hid (hg.below hb1)
 have HA := Lib.hid (hA.below hb1)
 have HN := Lib.hid (hN.below hb1)
 have HH := Lib.hid h
 have HBG := Lib.hid (show w1.heap[w.heap.size]? = some (.cells #[.int .i64 g.1, .int .i64 g.2.1, .int .i64 g.2.2.1, .slice AR nR cR] 25 (0, 0)) by rw [hw1, Below.heap_alloc _ _ _ (by simp)]; exact heap_alloc_new _ _)
 have HBD := Lib.hid (show w1.heap[w.heap.size + 1]? = some (.cells #[.int .i64 d.1, .slice A nA cA, .slice NN n cN] 28 (0, 0)) by
  rw [hw1, show w.heap.size + 1 = (w.alloc (.cells #[.int .i64 g.1, .int .i64 g.2.1, .int .i64 g.2.2.1, .slice AR nR cR] 25)).heap.size by simp]
  exact heap_alloc_new _ _)
 have hn12 : n ≤ 12 := by rw [hN.len]; exact h.n12
 have HW1 := Lib.hid hw1
 have hn1 : 1 ≤ n := by have := h.dv.n1; have := hN.len; omega
 obtain ⟨bN, oN, A0, m0, c0, r0, rfl, _, hbN, hr0, hr1, hr2⟩ := row_at (hN.below hb1) (k := 0) hn1
 rw [Nat.add_zero] at hr0
 have HR0 := Lib.hid hr0
 have hmT : (m0 : Int) = g.1 := by
  rw [← h.cl, hr2.len]
  unfold cols
  rw [hr1]
  rfl
 clear h hg hA hN hw1 hb1 hr0 hr1 hr2
 go_enter Try.func24, Try.ntmps24
 go_wp2_with (first
  | (go_at_call 52; rw [← HW1.out]; refine (gramCheck w1 S AR nR cR g HG.out HH.out.gv).mono ?_; rintro e w2 ⟨rfl, hb2⟩; have HB2 := Lib.hid hb2; clear hb2; have hbd2 := (HB2.out.block _ (heap_lt HBD.out)).trans HBD.out; obtain ⟨y0, y1, y2⟩ : w2.cell? ⟨w.heap.size + 1, 0, none⟩ = some (.int .i64 d.1) ∧ w2.cell? ⟨w.heap.size + 1, 1, none⟩ = some (.slice A nA cA) ∧ w2.cell? ⟨w.heap.size + 1, 2, none⟩ = some (.slice (some ⟨bN, oN, none⟩) n cN) := ⟨by simp [World.cell?, hbd2], by simp [World.cell?, hbd2], by simp [World.cell?, hbd2]⟩; clear hbd2)
  | (go_at_call 53; refine (dfaCheck w2 S A nA cA _ n cN d (HA.out.below HB2.out) (HN.out.below HB2.out) HH.out.dv).mono ?_; rintro e w3 ⟨rfl, hb3⟩; have HB3 := Lib.hid (HB2.out.trans (hb3.mono HB2.out.size)); clear hb3 y0 y1 y2; have hbd3 := (HB3.out.block _ (heap_lt HBD.out)).trans HBD.out; have hbg3 := (HB3.out.block _ (heap_lt HBG.out)).trans HBG.out; have y2 : w3.cell? ⟨w.heap.size + 1, 2, none⟩ = some (.slice (some ⟨bN, oN, none⟩) n cN) := (by simp [World.cell?, hbd3]); have y0 : w3.cell? ⟨w.heap.size, 0, none⟩ = some (.int .i64 g.1) := (by simp [World.cell?, hbg3]); have y3 := (HB3.out.cell hbN).trans HR0.out; clear hbd3 hbg3))
 have hn1i : (0 : Int) < (n : Int) := by omega
 go_region
 have hn12i : ¬ (12 : Int) < (n : Int) := by omega
 have hn12d : decide ((12 : Int) < (n : Int)) = false := by simpa using hn12i
 go_wp2_with fail
 go_ret
 exact ⟨rfl, (HB1.out.trans (HB3.out.mono HB1.out.size)).drew⟩
end Go.Proofs.Ytbmcoamdfpegnaa
namespace Go.Proofs.Ytbmcoamdfpegnaa
open Go.RowKit Go.Maps
theorem productR_form {M : Mkr} {W : List TriD} {base : Nat} {e : Ending} {w' : World} (h : ProductR M W base e w') : ∃ (i0 i1 i2 : Int) (A0 : Option Addr) (n0 c0 : Nat) (A1 : Option Addr) (n1 c1 : Nat) (A2 : Option Addr) (n2 c2 : Nat) (m : Option Nat) (k : Int), e = .returned (.tuple #[.agg #[.int .i64 i0, .int .i64 i1, .int .i64 i2, .slice A0 n0 c0, .slice A1 n1 c1, .slice A2 n2 c2], .map m, .int .i64 k]) := by
 obtain ⟨L, _, _, _, h | h⟩ := h
 ·
  obtain ⟨_, FR, FF, FN, vR, vN, vF, Bq, rfl, h1, h2, h3, _⟩ := h
  obtain ⟨A0, c0, rfl, _⟩ := h1.form
  obtain ⟨A1, c1, rfl, _⟩ := h2.form
  obtain ⟨A2, c2, rfl, _⟩ := h3.form
  exact ⟨_, _, _, _, _, _, _, _, _, _, _, _, _, _, rfl⟩
 ·
  obtain ⟨_, rfl⟩ := h
  exact ⟨_, _, _, _, _, _, _, _, _, _, _, _, _, _, rfl⟩
theorem ofR_of {g : GramD} {d : DfaD} {M : Mkr} {W : List TriD} {base base' : Nat} {a m : Value} {k : Int} {w1 w2 : World} {X : Nat → Prop} (hM : M.Ok) (e1 : M.d = d) (e2 : M.R = g.2.2.2) (e3 : M.T = g.1.toNat) (e4 : M.N = g.2.1.toNat) (e5 : M.st = g.2.2.1.toNat) (hw : ∀ t ∈ W, Wd M.d M.R t) (hc : ClosedT M.d M.R (inW W)) (ht : ∀ t ∈ W, M.Tri t)
    (h : ProductR M W base' (.returned (.tuple #[a, m, .int .i64 k])) w1) (ho : Only w1 w2 X) (hX : ∀ b, X b → b < w1.heap.size → b < base') (hb : base ≤ base') : OfR g d base (.returned (.tuple #[a, .int .i64 k])) w2 := by
 obtain ⟨L, h1, h2, h3, h⟩ := h
 refine ⟨M, W, hM, e1, e2, e3, e4, e5, hw, hc, ht, L, h1, h2, h3, ?_⟩
 rcases h with h | h
 ·
  obtain ⟨h4, FR, FF, FN, vR, vN, vF, Bq, he, g1, g2, g3, _, hf, _⟩ := h
  simp only [Ending.returned.injEq, Value.tuple.injEq, Array.mk.injEq, List.cons.injEq] at he
  obtain ⟨rfl, _, hk, _⟩ := he
  refine .inl ⟨h4, FR, FF, FN, vR, vN, vF, by rw [hk], g1.only ho fun b hb' hl hx => ?_, g2.only ho fun b hb' hl hx => ?_, g3.only ho fun b hb' hl hx => ?_, fun b hb' => ⟨Nat.le_trans hb (hf b hb').1, Nat.lt_of_lt_of_le (hf b hb').2 ho.size⟩⟩
  ·
   have := (hf b (.inl hb')).1; have := hX b hx hl; omega
  ·
   have := (hf b (.inr (.inr hb'))).1; have := hX b hx hl; omega
  ·
   have := (hf b (.inr (.inl hb'))).1; have := hX b hx hl; omega
 ·
  obtain ⟨h4, he⟩ := h
  simp only [Ending.returned.injEq, Value.tuple.injEq, Array.mk.injEq, List.cons.injEq] at he
  obtain ⟨rfl, _, hk, _⟩ := he
  exact .inr ⟨h4, by rw [hk]⟩
set_option linter.unusedSimpArgs false in
set_option maxRecDepth 100000 in
set_option maxHeartbeats 4000000 in
theorem mkOf (w : World) (S : Nat → Prop) (g : GramD) (d : DfaD) (h : MeetIn g d) (AR : Option Addr) (nR cR : Nat) (hg : Sl RRule w S AR nR cR g.2.2.2) (A : Option Addr) (nA cA : Nat) (hA : Sl Rep.int w S A nA cA d.2.1) (NN : Option Addr) (n cN : Nat) (hN : Sl RI w S NN n cN d.2.2) :
    Calls Try.prog 8 #[.agg #[.int .i64 g.1, .int .i64 g.2.1, .int .i64 g.2.2.1, .slice AR nR cR], .agg #[.int .i64 d.1, .slice A nA cA, .slice NN n cN]] w fun e w' => OfR g d w.heap.size e w' ∧ Below w.heap.size w w' := by
 obtain ⟨w0, hw0⟩ : ∃ w0 : World, w0 = (w.alloc (.cells #[.int .i64 g.1, .int .i64 g.2.1, .int .i64 g.2.2.1, .slice AR nR cR] 25)).alloc (.cells #[.int .i64 d.1, .slice A nA cA, .slice NN n cN] 28) := ⟨_, rfl⟩
 obtain ⟨w1, hw1⟩ : ∃ w1 : World, w1 = w0.alloc (.cells #[.int .i64 0, .int .i64 0, .int .i64 0, .slice none 0 0, .slice none 0 0, .slice none 0 0] 34) := ⟨_, rfl⟩
 have z0 : w0.heap.size = w.heap.size + 2 := by rw [hw0]; simp
 have hb0 : Below w.heap.size w w0 := by rw [hw0]; exact ((Below.refl _ _).alloc (Nat.le_refl _) _).alloc (by simp) _
 have hb1 : Below w.heap.size w w1 := by rw [hw1]; exact hb0.alloc hb0.size _
 have HZ1 := Lib.hid (show w1.heap.size = w.heap.size + 3 by rw [hw1]; simp [z0])
 have HB1 := Lib.hid hb1
 have HG := Lib.hid (hg.fit.below hb1)
 have HA := Lib.hid (hA.fit.below hb1)
 have HN := Lib.hid (hN.fit.below hb1)
 have HH := Lib.hid h
 have HBG := Lib.hid (show w1.heap[w.heap.size]? = some (.cells #[.int .i64 g.1, .int .i64 g.2.1, .int .i64 g.2.2.1, .slice AR nR cR] 25 (0, 0)) by rw [hw1, Below.heap_alloc _ _ _ (by omega), hw0, Below.heap_alloc _ _ _ (by simp)]; exact heap_alloc_new _ _)
 have HBD := Lib.hid (show w1.heap[w.heap.size + 1]? = some (.cells #[.int .i64 d.1, .slice A nA cA, .slice NN n cN] 28 (0, 0)) by
  rw [hw1, Below.heap_alloc _ _ _ (by omega), hw0, show w.heap.size + 1 = (w.alloc (.cells #[.int .i64 g.1, .int .i64 g.2.1, .int .i64 g.2.2.1, .slice AR nR cR] 25)).heap.size by simp]
  exact heap_alloc_new _ _)
 have HBR := Lib.hid (show w1.heap[w.heap.size + 1 + 1]? = some (.cells #[.int .i64 0, .int .i64 0, .int .i64 0, .slice none 0 0, .slice none 0 0, .slice none 0 0] 34 (0, 0)) by
  rw [hw1, show w.heap.size + 1 + 1 = w0.heap.size from z0.symm]
  exact heap_alloc_new _ _)
 have HW1 := Lib.hid (show w1 = ((w.alloc (.cells #[.int .i64 g.1, .int .i64 g.2.1, .int .i64 g.2.2.1, .slice AR nR cR] 25)).alloc (.cells #[.int .i64 d.1, .slice A nA cA, .slice NN n cN] 28)).alloc (.cells #[.int .i64 0, .int .i64 0, .int .i64 0, .slice none 0 0, .slice none 0 0, .slice none 0 0] 34) by rw [hw1, hw0])
 have HC := Lib.hid (show ∀ u : World, Below w1.heap.size w1 u → (u.cell? ⟨w.heap.size, 0, none⟩ = some (.int .i64 g.1) ∧ u.cell? ⟨w.heap.size, 1, none⟩ = some (.int .i64 g.2.1) ∧ u.cell? ⟨w.heap.size, 2, none⟩ = some (.int .i64 g.2.2.1) ∧ u.cell? ⟨w.heap.size, 3, none⟩ = some (.slice AR nR cR)) ∧ u.cell? ⟨w.heap.size + 1, 0, none⟩ = some (.int .i64 d.1) ∧ u.cell? ⟨w.heap.size + 1, 1, none⟩ = some (.slice A nA cA) ∧ u.cell? ⟨w.heap.size + 1, 2, none⟩ = some (.slice NN n cN) from fun u hu => by
  have h1 := (hu.block _ (heap_lt HBG.out)).trans HBG.out
  have h2 := (hu.block _ (heap_lt HBD.out)).trans HBD.out
  exact ⟨⟨by simp [World.cell?, h1], by simp [World.cell?, h1], by simp [World.cell?, h1], by simp [World.cell?, h1]⟩, by simp [World.cell?, h2], by simp [World.cell?, h2], by simp [World.cell?, h2]⟩)
 clear h hg hA hN hw0 hw1 z0 hb0 hb1 w0
 go_enter Try.func8, Try.ntmps8
 go_wp2_with (first
  | (go_at_call 24; rw [← HW1.out]; refine (mkCheck w1 _ g d HH.out AR nR cR HG.out A nA cA HA.out NN n cN HN.out).mono ?_; rintro e w2 ⟨rfl, hb2⟩; have HB2 := Lib.hid hb2; clear hb2; obtain ⟨⟨x0, x1, x2, x3⟩, y0, y1, y2⟩ := HC.out w2 HB2.out)
  | (go_at_call 25; refine (mkStart w2 _ g d HH.out AR nR cR (HG.out.below HB2.out) A nA cA (HA.out.below HB2.out) NN n cN (HN.out.below HB2.out)).mono ?_; rintro e w3 ⟨⟨M, W, hM, e1, e2, e3, e4, e5, rfl, hin, hwd, hcl, hbm⟩, hb3⟩; have HMO := Lib.hid hM; have HE := Lib.hid (And.intro e1 (And.intro e2 (And.intro e3 (And.intro e4 e5)))); have HIN := Lib.hid hin; have HWD := Lib.hid hwd; have HCL := Lib.hid hcl; have HB3 := Lib.hid (HB2.out.trans (hb3.mono HB2.out.size)); clear x0 x1 x2 x3 y0 y1 y2 hM e1 e2 e3 e4 e5 hin hwd hcl hbm hb3)
  | (go_at_call 26; refine (mkProduct M HMO.out w3 W HIN.out).mono ?_; rintro e w4 ⟨hpr, hb4⟩; obtain ⟨i0, i1, i2, P0, n0, c0, P1, n1, c1, P2, n2, c2, mm, kk, rfl⟩ := productR_form hpr; have HPR := Lib.hid hpr; have HB4 := Lib.hid (HB3.out.trans (hb4.mono HB3.out.size)); have HZ3 := Lib.hid HB3.out.size; clear hpr hb4; have hbr := (HB4.out.block _ (heap_lt HBR.out)).trans HBR.out; have HBR4 := Lib.hid hbr; obtain ⟨v0, v1, v2, v3, v4, v5⟩ : w4.cell? ⟨w.heap.size + 1 + 1, 0, none⟩ = some (.int .i64 0) ∧ w4.cell? ⟨w.heap.size + 1 + 1, 1, none⟩ = some (.int .i64 0) ∧ w4.cell? ⟨w.heap.size + 1 + 1, 2, none⟩ = some (.int .i64 0) ∧ w4.cell? ⟨w.heap.size + 1 + 1, 3, none⟩ = some (.slice none 0 0) ∧ w4.cell? ⟨w.heap.size + 1 + 1, 4, none⟩ = some (.slice none 0 0) ∧ w4.cell? ⟨w.heap.size + 1 + 1, 5, none⟩ = some (.slice none 0 0) := ⟨by simp [World.cell?, hbr], by simp [World.cell?, hbr], by simp [World.cell?, hbr], by simp [World.cell?, hbr], by simp [World.cell?, hbr], by simp [World.cell?, hbr]⟩; have hfz : ∀ o, w4.frozen? ⟨w.heap.size + 1 + 1, o, none⟩ = false := (fun o => by simp [World.frozen?, hbr]); have hlt4 := heap_lt HBR4.out; clear hbr))
 obtain ⟨hb5, ho5⟩ := six_set HBR4.out (.int .i64 i0) (.int .i64 i1) (.int .i64 i2) (.slice P0 n0 c0) (.slice P1 n1 c1) (.slice P2 n2 c2)
 obtain ⟨w5, hw5⟩ : ∃ w5 : World, w5 = ((((((w4.setCell ⟨w.heap.size + 1 + 1, 0, none⟩ (.int .i64 i0)).setCell ⟨w.heap.size + 1 + 1, 1, none⟩ (.int .i64 i1)).setCell ⟨w.heap.size + 1 + 1, 2, none⟩ (.int .i64 i2)).setCell ⟨w.heap.size + 1 + 1, 3, none⟩ (.slice P0 n0 c0)).setCell ⟨w.heap.size + 1 + 1, 4, none⟩ (.slice P1 n1 c1)).setCell ⟨w.heap.size + 1 + 1, 5, none⟩ (.slice P2 n2 c2)) := ⟨_, rfl⟩
 rw [← hw5] at hb5 ho5 ⊢
 have ho6 : Only w4 (w5.alloc (.cells #[.int .i64 i0, .int .i64 i1, .int .i64 i2, .slice P0 n0 c0, .slice P1 n1 c1, .slice P2 n2 c2] 34)) (fun b => b = w.heap.size + 1 + 1) := ho5.trans (Only.alloc _ _ _)
 have hb6 := (Below.heap_alloc w5 (.cells #[.int .i64 i0, .int .i64 i1, .int .i64 i2, .slice P0 n0 c0, .slice P1 n1 c1, .slice P2 n2 c2] 34) _ (heap_lt hb5)).trans hb5
 have hz1 := HZ1.out
 have hz3 := HZ3.out
 obtain ⟨e1, e2, e3, e4, e5⟩ := HE.out
 have hOF := ofR_of (base := w.heap.size) HMO.out e1 e2 e3 e4 e5 HWD.out HCL.out HIN.out.rng HPR.out ho6 (fun b e _ => by omega) (by omega)
 have hB : Below w.heap.size w _ := (HB1.out.trans (HB4.out.mono (by omega))).trans (ho6.below (B := w.heap.size) (fun b e => by omega) (by have := HB4.out.size; omega))
 obtain ⟨w6, hw6⟩ : ∃ w6 : World, w6 = w5.alloc (.cells #[.int .i64 i0, .int .i64 i1, .int .i64 i2, .slice P0 n0 c0, .slice P1 n1 c1, .slice P2 n2 c2] 34) := ⟨_, rfl⟩
 rw [← hw6] at hOF hB hb6 ⊢
 have HOF := Lib.hid hOF
 have HBF := Lib.hid hB
 clear v0 v1 v2 v3 v4 v5 hfz hlt4 hOF hB hw6 hw5 ho6 ho5 hb5 hz1 hz3 e1 e2 e3 e4 e5
 obtain ⟨v0, v1, v2, v3, v4, v5⟩ : w6.cell? ⟨w.heap.size + 1 + 1, 0, none⟩ = some (.int .i64 i0) ∧ w6.cell? ⟨w.heap.size + 1 + 1, 1, none⟩ = some (.int .i64 i1) ∧ w6.cell? ⟨w.heap.size + 1 + 1, 2, none⟩ = some (.int .i64 i2) ∧ w6.cell? ⟨w.heap.size + 1 + 1, 3, none⟩ = some (.slice P0 n0 c0) ∧ w6.cell? ⟨w.heap.size + 1 + 1, 4, none⟩ = some (.slice P1 n1 c1) ∧ w6.cell? ⟨w.heap.size + 1 + 1, 5, none⟩ = some (.slice P2 n2 c2) := ⟨by simp [World.cell?, hb6], by simp [World.cell?, hb6], by simp [World.cell?, hb6], by simp [World.cell?, hb6], by simp [World.cell?, hb6], by simp [World.cell?, hb6]⟩
 refine Go.bodyPost_ret (v := .tuple #[.agg #[.int .i64 i0, .int .i64 i1, .int .i64 i2, .slice P0 n0 c0, .slice P1 n1 c1, .slice P2 n2 c2], .int .i64 kk]) ?_ rfl ⟨HOF.out, HBF.out⟩
 rw [results_cell_tmp rfl]
 go_simp
end Go.Proofs.Ytbmcoamdfpegnaa
