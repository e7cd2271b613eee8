/- MkVoid3 -/
import Derived.Test.YtocbkccchnbmaaaGreatAw49
namespace Go.Proofs.YtocbkccchnbmaaaGreat
open Go.RowKit Go.Maps
theorem void_of {M : Mkr} {W : List TriD} (hM : M.Ok) (hw : ∀ t ∈ W, Wd M.d M.R t) (h0 : ∀ w, LgS M.R (false, (M.st : Int)) w → ¬ 0 ≤ dat M.d (w.foldl (dto M.d) M.d.1)) : Void M W := by
 intro p _ ha hin
 obtain ⟨w, h1, h2⟩ := hw _ hin
 refine h0 w h1 ?_
 simp only at h2
 rw [Int.toNat_of_nonneg hM.val.st.1] at h2
 rw [h2]
 exact ha
set_option linter.unusedSimpArgs false in
set_option maxRecDepth 100000 in
set_option maxHeartbeats 4000000 in
theorem mkOf0 (w : World) (S : Nat → Prop) (g : GramD) (d : DfaD) (h : MeetIn g d) (h0 : ∀ w, LgS g.2.2.2 (false, g.2.2.1) w → ¬ 0 ≤ dat d (w.foldl (dto d) d.1)) (AR : Option Addr) (nR cR : Nat) (hg : Sl RRule w S AR nR cR g.2.2.2) (A : Option Addr) (nA cA : Nat) (hA : Sl Rep.int w S A nA cA d.2.1) (NN : Option Addr) (n cN : Nat) (hN : Sl RI w S NN n cN d.2.2) :
    Calls Tryz.prog 23 #[.agg #[.int .i64 g.1, .int .i64 g.2.1, .int .i64 g.2.2.1, .slice AR nR cR], .agg #[.int .i64 d.1, .slice A nA cA, .slice NN n cN]] w fun e w' => (∃ B : Nat, e = .returned (.tuple #[.agg #[.int .i64 (g.1.toNat : Int), .int .i64 1, .int .i64 0, .slice none 0 0, .slice (some ⟨B, 0, none⟩) 1 1, .slice none 0 0], .int .i64 0])) ∧ Below w.heap.size w w' := by
 have H0 := Lib.hid h0
 clear h0
 obtain ⟨w0, hw0⟩ : ∃ w0 : World, w0 = (w.alloc (.cells #[.int .i64 g.1, .int .i64 g.2.1, .int .i64 g.2.2.1, .slice AR nR cR] 25)).alloc (.cells #[.int .i64 d.1, .slice A nA cA, .slice NN n cN] 29) := ⟨_, rfl⟩
 obtain ⟨w1, hw1⟩ : ∃ w1 : World, w1 = w0.alloc (.cells #[.int .i64 0, .int .i64 0, .int .i64 0, .slice none 0 0, .slice none 0 0, .slice none 0 0] 75) := ⟨_, rfl⟩
 have z0 : w0.heap.size = w.heap.size + 2 := by rw [hw0]; simp
 have hb0 : Below w.heap.size w w0 := by rw [hw0]; exact ((Below.refl _ _).alloc (Nat.le_refl _) _).alloc (by simp) _
 have hb1 : Below w.heap.size w w1 := by rw [hw1]; exact hb0.alloc hb0.size _
 have HZ1 := Lib.hid (show w1.heap.size = w.heap.size + 3 by rw [hw1]; simp [z0])
 have HB1 := Lib.hid hb1
 have HG := Lib.hid (hg.fit.below hb1)
 have HA := Lib.hid (hA.fit.below hb1)
 have HN := Lib.hid (hN.fit.below hb1)
 have HH := Lib.hid h
 have HBG := Lib.hid (show w1.heap[w.heap.size]? = some (.cells #[.int .i64 g.1, .int .i64 g.2.1, .int .i64 g.2.2.1, .slice AR nR cR] 25 (0, 0)) by rw [hw1, Below.heap_alloc _ _ _ (by omega), hw0, Below.heap_alloc _ _ _ (by simp)]; exact heap_alloc_new _ _)
 have HBD := Lib.hid (show w1.heap[w.heap.size + 1]? = some (.cells #[.int .i64 d.1, .slice A nA cA, .slice NN n cN] 29 (0, 0)) by
  rw [hw1, Below.heap_alloc _ _ _ (by omega), hw0, show w.heap.size + 1 = (w.alloc (.cells #[.int .i64 g.1, .int .i64 g.2.1, .int .i64 g.2.2.1, .slice AR nR cR] 25)).heap.size by simp]
  exact heap_alloc_new _ _)
 have HBR := Lib.hid (show w1.heap[w.heap.size + 1 + 1]? = some (.cells #[.int .i64 0, .int .i64 0, .int .i64 0, .slice none 0 0, .slice none 0 0, .slice none 0 0] 75 (0, 0)) by
  rw [hw1, show w.heap.size + 1 + 1 = w0.heap.size from z0.symm]
  exact heap_alloc_new _ _)
 have HW1 := Lib.hid (show w1 = ((w.alloc (.cells #[.int .i64 g.1, .int .i64 g.2.1, .int .i64 g.2.2.1, .slice AR nR cR] 25)).alloc (.cells #[.int .i64 d.1, .slice A nA cA, .slice NN n cN] 29)).alloc (.cells #[.int .i64 0, .int .i64 0, .int .i64 0, .slice none 0 0, .slice none 0 0, .slice none 0 0] 75) by rw [hw1, hw0])
 have HC := Lib.hid (show ∀ u : World, Below w1.heap.size w1 u → (u.cell? ⟨w.heap.size, 0, none⟩ = some (.int .i64 g.1) ∧ u.cell? ⟨w.heap.size, 1, none⟩ = some (.int .i64 g.2.1) ∧ u.cell? ⟨w.heap.size, 2, none⟩ = some (.int .i64 g.2.2.1) ∧ u.cell? ⟨w.heap.size, 3, none⟩ = some (.slice AR nR cR)) ∧ u.cell? ⟨w.heap.size + 1, 0, none⟩ = some (.int .i64 d.1) ∧ u.cell? ⟨w.heap.size + 1, 1, none⟩ = some (.slice A nA cA) ∧ u.cell? ⟨w.heap.size + 1, 2, none⟩ = some (.slice NN n cN) from fun u hu => by
  have h1 := (hu.block _ (heap_lt HBG.out)).trans HBG.out
  have h2 := (hu.block _ (heap_lt HBD.out)).trans HBD.out
  exact ⟨⟨by simp [World.cell?, h1], by simp [World.cell?, h1], by simp [World.cell?, h1], by simp [World.cell?, h1]⟩, by simp [World.cell?, h2], by simp [World.cell?, h2], by simp [World.cell?, h2]⟩)
 clear h hg hA hN hw0 hw1 z0 hb0 hb1 w0
 go_enter Tryz.func23, Tryz.ntmps23
 go_wp2_with (first
  | (go_at_call 22; rw [← HW1.out]; refine (mkCheck w1 _ g d HH.out AR nR cR HG.out A nA cA HA.out NN n cN HN.out).mono ?_; rintro e w2 ⟨rfl, hb2⟩; have HB2 := Lib.hid hb2; clear hb2; obtain ⟨⟨x0, x1, x2, x3⟩, y0, y1, y2⟩ := HC.out w2 HB2.out)
  | (go_at_call 44; refine (mkStart w2 _ g d HH.out AR nR cR (HG.out.below HB2.out) A nA cA (HA.out.below HB2.out) NN n cN (HN.out.below HB2.out)).mono ?_; rintro e w3 ⟨⟨M, W, hM, e1, e2, e3, e4, e5, rfl, hin, hwd, hcl, hbm⟩, hb3⟩; have HMO := Lib.hid hM; have HE := Lib.hid (And.intro e1 (And.intro e2 (And.intro e3 (And.intro e4 e5)))); have HIN := Lib.hid hin; have HWD := Lib.hid hwd; have HCL := Lib.hid hcl; have HB3 := Lib.hid (HB2.out.trans (hb3.mono HB2.out.size)); clear x0 x1 x2 x3 y0 y1 y2 hM e1 e2 e3 e4 e5 hin hwd hcl hbm hb3))
 go_at_call 45
 have hvd : Void M W := void_of HMO.out HWD.out (by
  obtain ⟨e1, e2, e3, e4, e5⟩ := HE.out
  intro wd hwd
  rw [e1]
  rw [e2, e5, Int.toNat_of_nonneg HH.out.gv.st.1] at hwd
  have hz := H0.out wd hwd
  omega)
 refine (mkProduct0 M HMO.out w3 W HIN.out hvd).mono ?_
 rintro e w4 ⟨⟨B, mm, rfl⟩, hb4⟩
 rw [HE.out.2.2.1]
 have HB4 := Lib.hid (HB3.out.trans (hb4.mono HB3.out.size))
 have HZ3 := Lib.hid HB3.out.size
 have hbr := (HB4.out.block _ (heap_lt HBR.out)).trans HBR.out
 have HBR4 := Lib.hid hbr
 obtain ⟨v0, v1, v2, v3, v4, v5⟩ := six_cells hbr
 have hfz : ∀ o, w4.frozen? ⟨w.heap.size + 1 + 1, o, none⟩ = false := fun o => by simp [World.frozen?, hbr]
 have hlt4 := heap_lt HBR4.out
 clear hb4 hbr hvd
 obtain ⟨T, hT⟩ : ∃ T : Nat, T = g.1.toNat := ⟨_, rfl⟩
 rw [← hT]
 have HT := Lib.hid hT
 clear hT
 go_wp2_with fail
 obtain ⟨hb5, ho5⟩ := six_set HBR4.out (.int .i64 (T : Int)) (.int .i64 1) (.int .i64 0) (.slice none 0 0) (.slice (some ⟨B, 0, none⟩) 1 1) (.slice none 0 0)
 obtain ⟨w5, hw5⟩ : ∃ w5 : World, w5 = ((((((w4.setCell ⟨w.heap.size + 1 + 1, 0, none⟩ (.int .i64 (T : Int))).setCell ⟨w.heap.size + 1 + 1, 1, none⟩ (.int .i64 1)).setCell ⟨w.heap.size + 1 + 1, 2, none⟩ (.int .i64 0)).setCell ⟨w.heap.size + 1 + 1, 3, none⟩ (.slice none 0 0)).setCell ⟨w.heap.size + 1 + 1, 4, none⟩ (.slice (some ⟨B, 0, none⟩) 1 1)).setCell ⟨w.heap.size + 1 + 1, 5, none⟩ (.slice none 0 0)) := ⟨_, rfl⟩
 rw [← hw5] at hb5 ho5 ⊢
 have hz1 := HZ1.out
 have hz3 := HZ3.out
 have hb6 := (Below.heap_alloc w5 (.cells #[.int .i64 (T : Int), .int .i64 1, .int .i64 0, .slice none 0 0, .slice (some ⟨B, 0, none⟩) 1 1, .slice none 0 0] 75) _ (heap_lt hb5)).trans hb5
 have hB : Below w.heap.size w (w5.alloc (.cells #[.int .i64 (T : Int), .int .i64 1, .int .i64 0, .slice none 0 0, .slice (some ⟨B, 0, none⟩) 1 1, .slice none 0 0] 75)) :=
  (HB1.out.trans (HB4.out.mono (by omega))).trans ((ho5.trans (Only.alloc _ _ _)).below (B := w.heap.size) (fun b e => by omega) (by have := HB4.out.size; omega))
 obtain ⟨w6, hw6⟩ : ∃ w6 : World, w6 = w5.alloc (.cells #[.int .i64 (T : Int), .int .i64 1, .int .i64 0, .slice none 0 0, .slice (some ⟨B, 0, none⟩) 1 1, .slice none 0 0] 75) := ⟨_, rfl⟩
 rw [← hw6] at hB hb6 ⊢
 have HBF := Lib.hid hB
 clear v0 v1 v2 v3 v4 v5 hfz hlt4 hB hw6 hw5 ho5 hb5 hz1 hz3
 obtain ⟨v0, v1, v2, v3, v4, v5⟩ := six_cells hb6
 refine Go.bodyPost_ret (v := .tuple #[.agg #[.int .i64 (T : Int), .int .i64 1, .int .i64 0, .slice none 0 0, .slice (some ⟨B, 0, none⟩) 1 1, .slice none 0 0], .int .i64 0]) ?_ rfl ⟨⟨B, by rw [HT.out]⟩, HBF.out⟩
 rw [results_cell_tmp rfl]
 go_simp
set_option linter.unusedSimpArgs false in
set_option maxRecDepth 1000000 in
set_option maxHeartbeats 8000000 in
theorem mkSizes0 (w : World) (T N : Nat) (hN1 : 1 ≤ N) (hN16 : N ≤ 16) :
    Calls Tryz.prog 48 #[.agg #[.int .i64 (T : Int), .int .i64 (N : Int), .int .i64 0, .slice none 0 0]] w fun e w' => (∃ BO c : Nat, e = .returned (.slice (some ⟨BO, 0, none⟩) N c) ∧ w'.cell? ⟨BO, 0, none⟩ = some (.int .i64 1099511627776)) ∧ Below w.heap.size w w' := by
 obtain ⟨w1, hw1⟩ : ∃ w1 : World, w1 = (w.alloc (.cells #[.int .i64 (T : Int), .int .i64 (N : Int), .int .i64 0, .slice none 0 0] 25)).alloc (.cells #[.int .i64 1099511627776] 3) := ⟨_, rfl⟩
 have hz1 : w1.heap.size = w.heap.size + 2 := by rw [hw1]; simp
 have hb1 : Below w.heap.size w w1 := by rw [hw1]; exact ((Below.refl _ _).alloc (Nat.le_refl _) _).alloc (by simp) _
 have b1 : w1.heap[w.heap.size]? = some (.cells #[.int .i64 (T : Int), .int .i64 (N : Int), .int .i64 0, .slice none 0 0] 25 (0, 0)) := by rw [hw1, Below.heap_alloc _ _ _ (by simp)]; exact heap_alloc_new _ _
 have b2 : w1.cell? ⟨w.heap.size + 1, 0, none⟩ = some (.int .i64 1099511627776) := by rw [hw1]; exact cell_of_one (heap_new _ _ _ (by simp))
 have HB1 := Lib.hid hb1
 have HALL := Lib.hid (show ∀ u : World, Below w1.heap.size w1 u → (u.cell? ⟨w.heap.size, 1, none⟩ = some (.int .i64 (N : Int)) ∧ u.cell? ⟨w.heap.size, 3, none⟩ = some (.slice none 0 0)) ∧ Below w.heap.size w u from fun u hu => by
  have e1 := (hu.block _ (by omega)).trans b1
  exact ⟨⟨by simp [World.cell?, e1], by simp [World.cell?, e1]⟩, hb1.trans (hu.mono (by omega))⟩)
 clear hb1 b1 hz1
 have hmk := fun W => tIntss.make rfl N (by omega) (by omega) W
 simp only [made_rowsA] at hmk
 go_enter Tryz.func48, Tryz.ntmps48
 go_wp2_with fail
 rw [← hw1]
 clear hw1
 refine (repeatInt w1 (w.heap.size + 1) 1099511627776 N hN1 hN16 b2).mono ?_
 rintro e w2 ⟨u, rfl, hown, hb2⟩
 obtain ⟨A, c, rfl, hc, _⟩ := hown.form
 obtain ⟨BO, rfl, hBO, hro⟩ := hown.addr (by omega)
 have hc0 := hro.cellAt 0 (by omega)
 obtain ⟨⟨k1, k3⟩, _⟩ := HALL.out w2 hb2
 obtain ⟨w3, hw3⟩ : ∃ w3 : World, w3 = w2.alloc (.cells (Array.replicate N (Value.slice none 0 0)) 22) := ⟨_, rfl⟩
 have hb23 : Below w2.heap.size w2 w3 := by rw [hw3]; exact (Below.refl _ _).alloc (Nat.le_refl _) _
 have hb13 : Below w1.heap.size w1 w3 := hb2.trans (hb23.mono hb2.size)
 have HB13 := Lib.hid hb13
 have hcx : w2.cell? ⟨BO, 0, none⟩ = some (.int .i64 1099511627776) := by rw [hc0, List.getElem?_map, List.getElem?_replicate, if_pos (by omega)]; rfl
 have HC3 := Lib.hid ((hb23.cell (cell_lt hcx)).trans hcx)
 have k3' := (HALL.out w3 hb13).1.2
 have HW3 := Lib.hid hw3
 rw [hw3] at k3'
 clear hown hro hc0 hcx hb2 hb23 hb13 hw3 b2
 go_wp2_with fail
 rw [← HW3.out]
 clear k1 k3 k3' hmk
 go_loopg [5, 24] 0 (fun g v5 v24 wr => g = 0 ∧ v5 = .slice none 0 0 ∧ v24 = .int .i64 0 ∧ Below w3.heap.size w3 wr)
 case atStart => exact ⟨rfl, rfl, rfl, Below.refl _ _⟩
 case round =>
  obtain ⟨_, rfl, rfl, hb4⟩ := hrel
  have HB4 := Lib.hid hb4
  clear hb4
  go_wp2_with fail
  go_loopg [5] 0 (fun g v5 wr => g = 0 ∧ v5 = .slice none 0 0 ∧ Below w3.heap.size w3 wr)
  case atStart => exact ⟨rfl, rfl, HB4.out⟩
  case round =>
   clear HB4
   obtain ⟨_, rfl, hb4⟩ := hrel
   have HB4 := Lib.hid hb4
   clear hb4
   go_wp2_with fail
   go_ret
   exact ⟨⟨BO, c, rfl, (HB4.out.cell (cell_lt HC3.out)).trans HC3.out⟩, (HALL.out _ (HB13.out.trans (HB4.out.mono HB13.out.size))).2⟩
set_option linter.unusedSimpArgs false in
set_option maxRecDepth 100000 in
set_option maxHeartbeats 4000000 in
theorem mkLeast0 (w : World) (T : Nat) (B : Nat) :
    Calls Tryz.prog 25 #[.agg #[.int .i64 (T : Int), .int .i64 1, .int .i64 0, .slice none 0 0, .slice (some ⟨B, 0, none⟩) 1 1, .slice none 0 0]] w fun e w' => e = .returned (.tuple #[.slice none 0 0, .int .i64 5]) ∧ Below w.heap.size w w' := by
 obtain ⟨w1, hw1⟩ : ∃ w1 : World, w1 = (w.alloc (.cells #[.int .i64 (T : Int), .int .i64 1, .int .i64 0, .slice none 0 0, .slice (some ⟨B, 0, none⟩) 1 1, .slice none 0 0] 75)).alloc (.cells #[.int .i64 (T : Int), .int .i64 1, .int .i64 0, .slice none 0 0] 25) := ⟨_, rfl⟩
 have hb1 : Below w.heap.size w w1 := by rw [hw1]; exact ((Below.refl _ _).alloc (Nat.le_refl _) _).alloc (by simp) _
 have b1 : w1.heap[w.heap.size + 1]? = some (.cells #[.int .i64 (T : Int), .int .i64 1, .int .i64 0, .slice none 0 0] 25 (0, 0)) := by
  rw [hw1, show w.heap.size + 1 = (w.alloc (.cells #[.int .i64 (T : Int), .int .i64 1, .int .i64 0, .slice none 0 0, .slice (some ⟨B, 0, none⟩) 1 1, .slice none 0 0] 75)).heap.size by simp]
  exact heap_alloc_new _ _
 have HB1 := Lib.hid hb1
 have HW1 := Lib.hid hw1
 have HALL := Lib.hid (show ∀ u : World, Below w1.heap.size w1 u → u.cell? ⟨w.heap.size + 1, 0, none⟩ = some (.int .i64 (T : Int)) ∧ u.cell? ⟨w.heap.size + 1, 1, none⟩ = some (.int .i64 1) ∧ u.cell? ⟨w.heap.size + 1, 2, none⟩ = some (.int .i64 0) ∧ u.cell? ⟨w.heap.size + 1, 3, none⟩ = some (.slice none 0 0) from fun u hu => by
  have e1 := (hu.block _ (heap_lt b1)).trans b1
  exact ⟨by simp [World.cell?, e1], by simp [World.cell?, e1], by simp [World.cell?, e1], by simp [World.cell?, e1]⟩)
 clear hb1 b1 hw1
 go_enter Tryz.func25, Tryz.ntmps25
 go_wp2_with fail
 rw [← HW1.out]
 go_loopg [5, 17] 0 (fun gk v5 v17 wr => gk = 0 ∧ v17 = .int .i64 0 ∧ v5 = .bool false ∧ Below w1.heap.size w1 wr)
 case atStart => exact ⟨rfl, rfl, rfl, .refl _ _⟩
 case round =>
  obtain ⟨_, rfl, rfl, hb12⟩ := hrel
  obtain ⟨w2, rfl⟩ : ∃ w2 : World, w2 = wr := ⟨_, rfl⟩
  have HB12 := Lib.hid hb12
  obtain ⟨g0, g1, g2, g3⟩ := HALL.out w2 hb12
  clear hb12
  go_wp2_with fail
  refine (mkSizes0 w2 T 1 (by omega) (by omega)).mono ?_
  rintro e w3 ⟨⟨BO, c, rfl, hc⟩, hb3⟩
  have HB3 := Lib.hid (HB12.out.trans (hb3.mono HB12.out.size))
  clear hb3 g0 g1 g2 g3
  go_wp2_with fail
  go_ret2
  exact ⟨rfl, HB1.out.trans (HB3.out.mono HB1.out.size)⟩
end Go.Proofs.YtocbkccchnbmaaaGreat
