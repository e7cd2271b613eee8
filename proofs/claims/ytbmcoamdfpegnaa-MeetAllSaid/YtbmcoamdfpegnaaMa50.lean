/- MkOf -/
import Derived.Test.YtbmcoamdfpegnaaMa49
namespace Go.Proofs.Ytbmcoamdfpegnaa
open Go.RowKit Go.Maps
theorem productR_form {M : Mkr} {W : List TriD} {base : Nat} {e : Ending} {w' : World} (h : ProductR M W base e w') : ∃ (i0 i1 i2 : Int) (A0 : Option Addr) (n0 c0 : Nat) (A1 : Option Addr) (n1 c1 : Nat) (A2 : Option Addr) (n2 c2 : Nat) (m : Option Nat) (k : Int), e = .returned (.tuple #[.agg #[.int .i64 i0, .int .i64 i1, .int .i64 i2, .slice A0 n0 c0, .slice A1 n1 c1, .slice A2 n2 c2], .map m, .int .i64 k]) := by
 obtain ⟨L, _, _, _, h | h⟩ := h
 ·
  obtain ⟨_, FR, FF, FN, vR, vN, vF, Bq, rfl, h1, h2, h3, _⟩ := h
  obtain ⟨A0, c0, rfl, _⟩ := h1.form
  obtain ⟨A1, c1, rfl, _⟩ := h2.form
  obtain ⟨A2, c2, rfl, _⟩ := h3.form
  exact ⟨_, _, _, _, _, _, _, _, _, _, _, _, _, _, rfl⟩
 ·
  obtain ⟨_, rfl⟩ := h
  exact ⟨_, _, _, _, _, _, _, _, _, _, _, _, _, _, rfl⟩
theorem ofR_of {g : GramD} {d : DfaD} {M : Mkr} {W : List TriD} {base base' : Nat} {a m : Value} {k : Int} {w1 w2 : World} {X : Nat → Prop} (hM : M.Ok) (e1 : M.d = d) (e2 : M.R = g.2.2.2) (e3 : M.T = g.1.toNat) (e4 : M.N = g.2.1.toNat) (e5 : M.st = g.2.2.1.toNat) (hw : ∀ t ∈ W, Wd M.d M.R t) (hc : ClosedT M.d M.R (inW W)) (ht : ∀ t ∈ W, M.Tri t)
    (h : ProductR M W base' (.returned (.tuple #[a, m, .int .i64 k])) w1) (ho : Only w1 w2 X) (hX : ∀ b, X b → b < w1.heap.size → b < base') (hb : base ≤ base') : OfR g d base (.returned (.tuple #[a, .int .i64 k])) w2 := by
 obtain ⟨L, h1, h2, h3, h⟩ := h
 refine ⟨M, W, hM, e1, e2, e3, e4, e5, hw, hc, ht, L, h1, h2, h3, ?_⟩
 rcases h with h | h
 ·
  obtain ⟨h4, FR, FF, FN, vR, vN, vF, Bq, he, g1, g2, g3, _, hf, _⟩ := h
  simp only [Ending.returned.injEq, Value.tuple.injEq, Array.mk.injEq, List.cons.injEq] at he
  obtain ⟨rfl, _, hk, _⟩ := he
  refine .inl ⟨h4, FR, FF, FN, vR, vN, vF, by rw [hk], g1.only ho fun b hb' hl hx => ?_, g2.only ho fun b hb' hl hx => ?_, g3.only ho fun b hb' hl hx => ?_, fun b hb' => ⟨Nat.le_trans hb (hf b hb').1, Nat.lt_of_lt_of_le (hf b hb').2 ho.size⟩⟩
  ·
   have := (hf b (.inl hb')).1; have := hX b hx hl; omega
  ·
   have := (hf b (.inr (.inr hb'))).1; have := hX b hx hl; omega
  ·
   have := (hf b (.inr (.inl hb'))).1; have := hX b hx hl; omega
 ·
  obtain ⟨h4, he⟩ := h
  simp only [Ending.returned.injEq, Value.tuple.injEq, Array.mk.injEq, List.cons.injEq] at he
  obtain ⟨rfl, _, hk, _⟩ := he
  exact .inr ⟨h4, by rw [hk]⟩
set_option linter.unusedSimpArgs false in
set_option maxRecDepth 100000 in
set_option maxHeartbeats 4000000 in
theorem mkOf (w : World) (S : Nat → Prop) (g : GramD) (d : DfaD) (h : MeetIn g d) (AR : Option Addr) (nR cR : Nat) (hg : Sl RRule w S AR nR cR g.2.2.2) (A : Option Addr) (nA cA : Nat) (hA : Sl Rep.int w S A nA cA d.2.1) (NN : Option Addr) (n cN : Nat) (hN : Sl RI w S NN n cN d.2.2) :
    Calls Try.prog 8 #[.agg #[.int .i64 g.1, .int .i64 g.2.1, .int .i64 g.2.2.1, .slice AR nR cR], .agg #[.int .i64 d.1, .slice A nA cA, .slice NN n cN]] w fun e w' => OfR g d w.heap.size e w' ∧ Below w.heap.size w w' := by
 obtain ⟨w0, hw0⟩ : ∃ w0 : World, w0 = (w.alloc (.cells #[.int .i64 g.1, .int .i64 g.2.1, .int .i64 g.2.2.1, .slice AR nR cR] 25)).alloc (.cells #[.int .i64 d.1, .slice A nA cA, .slice NN n cN] 28) := ⟨_, rfl⟩
 obtain ⟨w1, hw1⟩ : ∃ w1 : World, w1 = w0.alloc (.cells #[.int .i64 0, .int .i64 0, .int .i64 0, .slice none 0 0, .slice none 0 0, .slice none 0 0] 34) := ⟨_, rfl⟩
 have z0 : w0.heap.size = w.heap.size + 2 := by rw [hw0]; simp
 have hb0 : Below w.heap.size w w0 := by rw [hw0]; exact ((Below.refl _ _).alloc (Nat.le_refl _) _).alloc (by simp) _
 have hb1 : Below w.heap.size w w1 := by rw [hw1]; exact hb0.alloc hb0.size _
 have HZ1 := Lib.hid (show w1.heap.size = w.heap.size + 3 by rw [hw1]; simp [z0])
 have HB1 := Lib.hid hb1
 have HG := Lib.hid (hg.fit.below hb1)
 have HA := Lib.hid (hA.fit.below hb1)
 have HN := Lib.hid (hN.fit.below hb1)
 have HH := Lib.hid h
 have HBG := Lib.hid (show w1.heap[w.heap.size]? = some (.cells #[.int .i64 g.1, .int .i64 g.2.1, .int .i64 g.2.2.1, .slice AR nR cR] 25 (0, 0)) by rw [hw1, Below.heap_alloc _ _ _ (by omega), hw0, Below.heap_alloc _ _ _ (by simp)]; exact heap_alloc_new _ _)
 have HBD := Lib.hid (show w1.heap[w.heap.size + 1]? = some (.cells #[.int .i64 d.1, .slice A nA cA, .slice NN n cN] 28 (0, 0)) by
  rw [hw1, Below.heap_alloc _ _ _ (by omega), hw0, show w.heap.size + 1 = (w.alloc (.cells #[.int .i64 g.1, .int .i64 g.2.1, .int .i64 g.2.2.1, .slice AR nR cR] 25)).heap.size by simp]
  exact heap_alloc_new _ _)
 have HBR := Lib.hid (show w1.heap[w.heap.size + 1 + 1]? = some (.cells #[.int .i64 0, .int .i64 0, .int .i64 0, .slice none 0 0, .slice none 0 0, .slice none 0 0] 34 (0, 0)) by
  rw [hw1, show w.heap.size + 1 + 1 = w0.heap.size from z0.symm]
  exact heap_alloc_new _ _)
 have HW1 := Lib.hid (show w1 = ((w.alloc (.cells #[.int .i64 g.1, .int .i64 g.2.1, .int .i64 g.2.2.1, .slice AR nR cR] 25)).alloc (.cells #[.int .i64 d.1, .slice A nA cA, .slice NN n cN] 28)).alloc (.cells #[.int .i64 0, .int .i64 0, .int .i64 0, .slice none 0 0, .slice none 0 0, .slice none 0 0] 34) by rw [hw1, hw0])
 have HC := Lib.hid (show ∀ u : World, Below w1.heap.size w1 u → (u.cell? ⟨w.heap.size, 0, none⟩ = some (.int .i64 g.1) ∧ u.cell? ⟨w.heap.size, 1, none⟩ = some (.int .i64 g.2.1) ∧ u.cell? ⟨w.heap.size, 2, none⟩ = some (.int .i64 g.2.2.1) ∧ u.cell? ⟨w.heap.size, 3, none⟩ = some (.slice AR nR cR)) ∧ u.cell? ⟨w.heap.size + 1, 0, none⟩ = some (.int .i64 d.1) ∧ u.cell? ⟨w.heap.size + 1, 1, none⟩ = some (.slice A nA cA) ∧ u.cell? ⟨w.heap.size + 1, 2, none⟩ = some (.slice NN n cN) from fun u hu => by
  have h1 := (hu.block _ (heap_lt HBG.out)).trans HBG.out
  have h2 := (hu.block _ (heap_lt HBD.out)).trans HBD.out
  exact ⟨⟨by simp [World.cell?, h1], by simp [World.cell?, h1], by simp [World.cell?, h1], by simp [World.cell?, h1]⟩, by simp [World.cell?, h2], by simp [World.cell?, h2], by simp [World.cell?, h2]⟩)
 clear h hg hA hN hw0 hw1 z0 hb0 hb1 w0
 go_enter Try.func8, Try.ntmps8
 go_wp2_with (first
  | (go_at_call 24; rw [← HW1.out]; refine (mkCheck w1 _ g d HH.out AR nR cR HG.out A nA cA HA.out NN n cN HN.out).mono ?_; rintro e w2 ⟨rfl, hb2⟩; have HB2 := Lib.hid hb2; clear hb2; obtain ⟨⟨x0, x1, x2, x3⟩, y0, y1, y2⟩ := HC.out w2 HB2.out)
  | (go_at_call 25; refine (mkStart w2 _ g d HH.out AR nR cR (HG.out.below HB2.out) A nA cA (HA.out.below HB2.out) NN n cN (HN.out.below HB2.out)).mono ?_; rintro e w3 ⟨⟨M, W, hM, e1, e2, e3, e4, e5, rfl, hin, hwd, hcl, hbm⟩, hb3⟩; have HMO := Lib.hid hM; have HE := Lib.hid (And.intro e1 (And.intro e2 (And.intro e3 (And.intro e4 e5)))); have HIN := Lib.hid hin; have HWD := Lib.hid hwd; have HCL := Lib.hid hcl; have HB3 := Lib.hid (HB2.out.trans (hb3.mono HB2.out.size)); clear x0 x1 x2 x3 y0 y1 y2 hM e1 e2 e3 e4 e5 hin hwd hcl hbm hb3)
  | (go_at_call 26; refine (mkProduct M HMO.out w3 W HIN.out).mono ?_; rintro e w4 ⟨hpr, hb4⟩; obtain ⟨i0, i1, i2, P0, n0, c0, P1, n1, c1, P2, n2, c2, mm, kk, rfl⟩ := productR_form hpr; have HPR := Lib.hid hpr; have HB4 := Lib.hid (HB3.out.trans (hb4.mono HB3.out.size)); have HZ3 := Lib.hid HB3.out.size; clear hpr hb4; have hbr := (HB4.out.block _ (heap_lt HBR.out)).trans HBR.out; have HBR4 := Lib.hid hbr; obtain ⟨v0, v1, v2, v3, v4, v5⟩ : w4.cell? ⟨w.heap.size + 1 + 1, 0, none⟩ = some (.int .i64 0) ∧ w4.cell? ⟨w.heap.size + 1 + 1, 1, none⟩ = some (.int .i64 0) ∧ w4.cell? ⟨w.heap.size + 1 + 1, 2, none⟩ = some (.int .i64 0) ∧ w4.cell? ⟨w.heap.size + 1 + 1, 3, none⟩ = some (.slice none 0 0) ∧ w4.cell? ⟨w.heap.size + 1 + 1, 4, none⟩ = some (.slice none 0 0) ∧ w4.cell? ⟨w.heap.size + 1 + 1, 5, none⟩ = some (.slice none 0 0) := ⟨by simp [World.cell?, hbr], by simp [World.cell?, hbr], by simp [World.cell?, hbr], by simp [World.cell?, hbr], by simp [World.cell?, hbr], by simp [World.cell?, hbr]⟩; have hfz : ∀ o, w4.frozen? ⟨w.heap.size + 1 + 1, o, none⟩ = false := (fun o => by simp [World.frozen?, hbr]); have hlt4 := heap_lt HBR4.out; clear hbr))
 obtain ⟨hb5, ho5⟩ := six_set HBR4.out (.int .i64 i0) (.int .i64 i1) (.int .i64 i2) (.slice P0 n0 c0) (.slice P1 n1 c1) (.slice P2 n2 c2)
 obtain ⟨w5, hw5⟩ : ∃ w5 : World, w5 = ((((((w4.setCell ⟨w.heap.size + 1 + 1, 0, none⟩ (.int .i64 i0)).setCell ⟨w.heap.size + 1 + 1, 1, none⟩ (.int .i64 i1)).setCell ⟨w.heap.size + 1 + 1, 2, none⟩ (.int .i64 i2)).setCell ⟨w.heap.size + 1 + 1, 3, none⟩ (.slice P0 n0 c0)).setCell ⟨w.heap.size + 1 + 1, 4, none⟩ (.slice P1 n1 c1)).setCell ⟨w.heap.size + 1 + 1, 5, none⟩ (.slice P2 n2 c2)) := ⟨_, rfl⟩
 rw [← hw5] at hb5 ho5 ⊢
 have ho6 : Only w4 (w5.alloc (.cells #[.int .i64 i0, .int .i64 i1, .int .i64 i2, .slice P0 n0 c0, .slice P1 n1 c1, .slice P2 n2 c2] 34)) (fun b => b = w.heap.size + 1 + 1) := ho5.trans (Only.alloc _ _ _)
 have hb6 := (Below.heap_alloc w5 (.cells #[.int .i64 i0, .int .i64 i1, .int .i64 i2, .slice P0 n0 c0, .slice P1 n1 c1, .slice P2 n2 c2] 34) _ (heap_lt hb5)).trans hb5
 have hz1 := HZ1.out
 have hz3 := HZ3.out
 obtain ⟨e1, e2, e3, e4, e5⟩ := HE.out
 have hOF := ofR_of (base := w.heap.size) HMO.out e1 e2 e3 e4 e5 HWD.out HCL.out HIN.out.rng HPR.out ho6 (fun b e _ => by omega) (by omega)
 have hB : Below w.heap.size w _ := (HB1.out.trans (HB4.out.mono (by omega))).trans (ho6.below (B := w.heap.size) (fun b e => by omega) (by have := HB4.out.size; omega))
 obtain ⟨w6, hw6⟩ : ∃ w6 : World, w6 = w5.alloc (.cells #[.int .i64 i0, .int .i64 i1, .int .i64 i2, .slice P0 n0 c0, .slice P1 n1 c1, .slice P2 n2 c2] 34) := ⟨_, rfl⟩
 rw [← hw6] at hOF hB hb6 ⊢
 have HOF := Lib.hid hOF
 have HBF := Lib.hid hB
 clear v0 v1 v2 v3 v4 v5 hfz hlt4 hOF hB hw6 hw5 ho6 ho5 hb5 hz1 hz3 e1 e2 e3 e4 e5
 obtain ⟨v0, v1, v2, v3, v4, v5⟩ : w6.cell? ⟨w.heap.size + 1 + 1, 0, none⟩ = some (.int .i64 i0) ∧ w6.cell? ⟨w.heap.size + 1 + 1, 1, none⟩ = some (.int .i64 i1) ∧ w6.cell? ⟨w.heap.size + 1 + 1, 2, none⟩ = some (.int .i64 i2) ∧ w6.cell? ⟨w.heap.size + 1 + 1, 3, none⟩ = some (.slice P0 n0 c0) ∧ w6.cell? ⟨w.heap.size + 1 + 1, 4, none⟩ = some (.slice P1 n1 c1) ∧ w6.cell? ⟨w.heap.size + 1 + 1, 5, none⟩ = some (.slice P2 n2 c2) := ⟨by simp [World.cell?, hb6], by simp [World.cell?, hb6], by simp [World.cell?, hb6], by simp [World.cell?, hb6], by simp [World.cell?, hb6], by simp [World.cell?, hb6]⟩
 refine Go.bodyPost_ret (v := .tuple #[.agg #[.int .i64 i0, .int .i64 i1, .int .i64 i2, .slice P0 n0 c0, .slice P1 n1 c1, .slice P2 n2 c2], .int .i64 kk]) ?_ rfl ⟨HOF.out, HBF.out⟩
 rw [results_cell_tmp rfl]
 go_simp
end Go.Proofs.Ytbmcoamdfpegnaa
