/- Within -/
import Derived.Test.YtocbkccchnbmaaaGreatAw34
import Derived.Test.YtocbkccchnbmaaaGreatAw50
import Derived.Test.YtocbkccchnbmaaaGreatAw52
namespace Go.Proofs.YtocbkccchnbmaaaGreat
open Go.RowKit Go.Maps
theorem otherC (w : World) (S : Nat → Prop) (A : Option Addr) (nA cA : Nat) (N : Option Addr) (n cN : Nat) (d : DfaD) (hA : Sl Rep.int w S A nA cA d.2.1) (hN : Sl RI w S N n cN d.2.2) (hv : Valid d) :
    Calls Tryz.prog 24 #[.agg #[.int .i64 d.1, .slice A nA cA, .slice N n cN]] w fun e w' => (∃ (A' : Option Addr) (k c : Nat) (N' : Option Addr) (k' c' : Nat), e = .returned (.agg #[.int .i64 d.1, .slice A' k c, .slice N' k' c']) ∧ Sl Rep.int w' (fun b => w.heap.size ≤ b) A' k c (otherD d).2.1 ∧ Sl RI w' (fun b => w.heap.size ≤ b) N' k' c' (otherD d).2.2) ∧ Below w.heap.size w w' := by
 refine (compareOther w S A nA cA N n cN d hA hN hv).mono ?_
 rintro e w' ⟨Bd, vA, vN, xs, hBd, rfl, hd, hb⟩
 obtain ⟨A3, c3, rfl, _, _⟩ := hd.ownA.form
 obtain ⟨N3, c3', rfl, _, _⟩ := hd.ownN.form
 obtain ⟨h1, h2⟩ := hd.sl
 exact ⟨⟨_, _, _, _, _, _, rfl, h1.more fun b hb => by omega, h2.more fun b hb => by omega⟩, hb⟩
theorem other_none {d : DfaD} {R : List RuleD} {st : Int} (hv : Valid d) (h : ∀ w, LgS R (false, st) w → (∀ c ∈ w, 0 ≤ c ∧ c < (cols d : Int)) ∧ daccept d w = true) : ∀ w, LgS R (false, st) w → ¬ 0 ≤ dat (otherD d) (w.foldl (dto (otherD d)) (otherD d).1) := by
 intro w hw h0
 obtain ⟨h1, h2⟩ := h w hw
 have h3 := other_accept hv h1
 rw [h2] at h3
 have h4 : daccept (otherD d) w = true := decide_eq_true h0
 rw [h4] at h3
 cases h3
theorem other_in {g : GramD} {d : DfaD} (h : MeetIn g d) (hn : d.2.2.length ≤ 11) : MeetIn g (otherD d) :=
 ⟨h.gv, other_valid h.dv (by omega), by rw [other_cols h.dv]; exact h.cl, by rw [other_len]; omega⟩
set_option linter.unusedSimpArgs false in
set_option maxRecDepth 100000 in
set_option maxHeartbeats 8000000 in
theorem compareWithin0 (w : World) (S : Nat → Prop) (g : GramD) (d : DfaD) (h : MeetIn g d) (hn : d.2.2.length ≤ 11) (hac : ∀ w, LgS g.2.2.2 (false, g.2.2.1) w → (∀ c ∈ w, 0 ≤ c ∧ c < (cols d : Int)) ∧ daccept d w = true) (AR : Option Addr) (nR cR : Nat) (hg : Sl RRule w S AR nR cR g.2.2.2) (A : Option Addr) (nA cA : Nat) (hA : Sl Rep.int w S A nA cA d.2.1) (NN : Option Addr) (n cN : Nat) (hN : Sl RI w S NN n cN d.2.2) :
    Calls Tryz.prog 7 #[.agg #[.int .i64 g.1, .int .i64 g.2.1, .int .i64 g.2.2.1, .slice AR nR cR], .agg #[.int .i64 d.1, .slice A nA cA, .slice NN n cN]] w fun e w' => e = .returned (.tuple #[.bool true, .slice none 0 0, .int .i64 0]) ∧ Below w.heap.size w w' := by
 have hn11 : n ≤ 11 := by rw [hN.len]; exact hn
 have H0 := Lib.hid (other_none h.dv hac)
 obtain ⟨w1, hw1⟩ : ∃ w1 : World, w1 = (w.alloc (.cells #[.int .i64 g.1, .int .i64 g.2.1, .int .i64 g.2.2.1, .slice AR nR cR] 25)).alloc (.cells #[.int .i64 d.1, .slice A nA cA, .slice NN n cN] 29) := ⟨_, rfl⟩
 have hb1 : Below w.heap.size w w1 := by rw [hw1]; exact ((Below.refl _ _).alloc (Nat.le_refl _) _).alloc (by simp) _
 have HB1 := Lib.hid hb1
 have HG := Lib.hid (hg.fit.below hb1)
 have HA := Lib.hid (hA.fit.below hb1)
 have HN := Lib.hid (hN.fit.below hb1)
 have HH := Lib.hid h
 have HOI := Lib.hid (other_in h hn)
 have HBG := Lib.hid (show w1.heap[w.heap.size]? = some (.cells #[.int .i64 g.1, .int .i64 g.2.1, .int .i64 g.2.2.1, .slice AR nR cR] 25 (0, 0)) by rw [hw1, Below.heap_alloc _ _ _ (by simp)]; exact heap_alloc_new _ _)
 have HBD := Lib.hid (show w1.heap[w.heap.size + 1]? = some (.cells #[.int .i64 d.1, .slice A nA cA, .slice NN n cN] 29 (0, 0)) by
  rw [hw1, show w.heap.size + 1 = (w.alloc (.cells #[.int .i64 g.1, .int .i64 g.2.1, .int .i64 g.2.2.1, .slice AR nR cR] 25)).heap.size by simp]
  exact heap_alloc_new _ _)
 have HW1 := Lib.hid hw1
 have HC := Lib.hid (show ∀ u : World, Below w1.heap.size w1 u → (u.cell? ⟨w.heap.size, 0, none⟩ = some (.int .i64 g.1) ∧ u.cell? ⟨w.heap.size, 1, none⟩ = some (.int .i64 g.2.1) ∧ u.cell? ⟨w.heap.size, 2, none⟩ = some (.int .i64 g.2.2.1) ∧ u.cell? ⟨w.heap.size, 3, none⟩ = some (.slice AR nR cR)) ∧ u.cell? ⟨w.heap.size + 1, 0, none⟩ = some (.int .i64 d.1) ∧ u.cell? ⟨w.heap.size + 1, 1, none⟩ = some (.slice A nA cA) ∧ u.cell? ⟨w.heap.size + 1, 2, none⟩ = some (.slice NN n cN) from fun u hu => by
  have h1 := (hu.block _ (heap_lt HBG.out)).trans HBG.out
  have h2 := (hu.block _ (heap_lt HBD.out)).trans HBD.out
  exact ⟨⟨by simp [World.cell?, h1], by simp [World.cell?, h1], by simp [World.cell?, h1], by simp [World.cell?, h1]⟩, by simp [World.cell?, h2], by simp [World.cell?, h2], by simp [World.cell?, h2]⟩)
 have HBZ := Lib.hid hb1.size
 clear h hg hA hN hw1 hb1 hn hac
 go_enter Tryz.func7, Tryz.ntmps7
 go_wp2_with (go_at_call 22; rw [← HW1.out]; refine (mkCheck w1 _ g d HH.out AR nR cR HG.out A nA cA HA.out NN n cN HN.out).mono ?_; rintro e w2 ⟨rfl, hb2⟩; have HB2 := Lib.hid hb2; clear hb2; obtain ⟨_, y0, y1, y2⟩ := HC.out w2 HB2.out)
 have hn12 : ¬ (n : Int) = 12 := by omega
 go_wp2_with fail
 clear y0 y1 y2
 refine wp_region_late (late := []) (S1 := fun u => (u.cell? ⟨w.heap.size, 0, none⟩ = some (.int .i64 g.1) ∧ u.cell? ⟨w.heap.size, 1, none⟩ = some (.int .i64 g.2.1) ∧ u.cell? ⟨w.heap.size, 2, none⟩ = some (.int .i64 g.2.2.1) ∧ u.cell? ⟨w.heap.size, 3, none⟩ = some (.slice AR nR cR)) ∧ u.cell? ⟨w.heap.size + 1, 0, none⟩ = some (.int .i64 d.1) ∧ u.cell? ⟨w.heap.size + 1, 1, none⟩ = some (.slice A nA cA) ∧ u.cell? ⟨w.heap.size + 1, 2, none⟩ = some (.slice NN n cN)) (S := fun _ => True) (by kernel_rfl) ?_
 have HQ0 := Lib.hid HB2.out.drew
 refine wpAnyL_pure (i := 0) rfl (by kernel_rfl) (fun _ _ _ h => h) (Or.inl ⟨by rfl, (fun u hu => by obtain ⟨⟨k0, k1, k2, k3⟩, k4, k5, k6⟩ := hu; go_simp; try rfl)⟩) (HC.out _ HQ0.out) (fun _ => trivial) ?_
 simp only [Act.put, List.setIfInBounds_toArray, List.set_cons_zero, List.set_cons_succ, List.getElem_toArray, List.getElem_cons_zero, List.getElem_cons_succ]
 refine wpAnyL_pure (i := 1) rfl (by kernel_rfl) (fun _ _ _ h => h) (Or.inl ⟨by rfl, (fun u hu => by obtain ⟨⟨k0, k1, k2, k3⟩, k4, k5, k6⟩ := hu; go_simp; try rfl)⟩) (HC.out _ HQ0.out) (fun _ => trivial) ?_
 simp only [Act.put, List.setIfInBounds_toArray, List.set_cons_zero, List.set_cons_succ, List.getElem_toArray, List.getElem_cons_zero, List.getElem_cons_succ]
 refine wpAnyL_ready (rs := [2, 7]) (by kernel_rfl) (by simp) ?_
 refine AllL.cons rfl (fun K hK => ?_) ?_
 ·
  go_simp
  refine (otherC (w2.drew) _ A nA cA NN n cN d (HA.out.below HQ0.out) (HN.out.below HQ0.out) HH.out.dv).mono ?_
  rintro e v1 ⟨⟨Ao, ko, co, No, ko', co', rfl, hoa, hon⟩, hb1⟩
  have HQ1 := Lib.hid (HQ0.out.trans (hb1.mono HQ0.out.size))
  have HOA := Lib.hid hoa.fit
  have HON := Lib.hid hon.fit
  clear hb1 hoa hon
  refine hK.out _ _ (HC.out _ HQ1.out) (fun _ => trivial) ?_
  clear hK K
  refine wpAnyL_ready (rs := [3, 7]) (by kernel_rfl) (by simp) ?_
  refine AllL.cons rfl (fun K hK => ?_) ?_
  ·
   go_simp
   refine (mkOf0 (v1) (fun _ => True) g (otherD d) HOI.out (fun wd hwd => by have hz := H0.out wd hwd; omega) AR nR cR ((HG.out.below HQ1.out).more fun _ _ => trivial) Ao ko co (HOA.out.more fun _ _ => trivial) No ko' co' (HON.out.more fun _ _ => trivial)).mono ?_
   rintro e v2 ⟨⟨Bp, rfl⟩, hb2⟩
   have HQ2 := Lib.hid (HQ1.out.trans (hb2.mono HQ1.out.size))
   clear hb2
   obtain ⟨Tn, hTn⟩ : ∃ Tn : Nat, Tn = g.1.toNat := ⟨_, rfl⟩
   rw [← hTn]
   clear hTn
   refine hK.out _ _ (HC.out _ HQ2.out) (fun _ => trivial) ?_
   clear hK K
   refine wpAnyL_pure (i := 4) rfl (by kernel_rfl) (fun _ _ _ h => h) (Or.inl ⟨by rfl, (fun u hu => by obtain ⟨⟨k0, k1, k2, k3⟩, k4, k5, k6⟩ := hu; go_simp; try rfl)⟩) (HC.out _ HQ2.out) (fun _ => trivial) ?_
   simp only [Act.put, List.setIfInBounds_toArray, List.set_cons_zero, List.set_cons_succ, List.getElem_toArray, List.getElem_cons_zero, List.getElem_cons_succ]
   refine wpAnyL_pure (i := 5) rfl (by kernel_rfl) (fun _ _ _ h => h) (Or.inl ⟨by rfl, (fun u hu => by obtain ⟨⟨k0, k1, k2, k3⟩, k4, k5, k6⟩ := hu; go_simp; try rfl)⟩) (HC.out _ HQ2.out) (fun _ => trivial) ?_
   simp only [Act.put, List.setIfInBounds_toArray, List.set_cons_zero, List.set_cons_succ, List.getElem_toArray, List.getElem_cons_zero, List.getElem_cons_succ]
   refine wpAnyL_pure (i := 6) rfl (by kernel_rfl) (fun _ _ _ h => h) (Or.inl ⟨by rfl, (fun u hu => by obtain ⟨⟨k0, k1, k2, k3⟩, k4, k5, k6⟩ := hu; go_simp; try rfl)⟩) (HC.out _ HQ2.out) (fun _ => trivial) ?_
   simp only [Act.put, List.setIfInBounds_toArray, List.set_cons_zero, List.set_cons_succ, List.getElem_toArray, List.getElem_cons_zero, List.getElem_cons_succ]
   refine wpAnyL_ready (rs := [7]) (by kernel_rfl) (by simp) ?_
   refine AllL.cons rfl (fun K hK => ?_) ?_
   ·
    go_simp
    obtain ⟨v3, hv3⟩ : ∃ u : World, u = v2.alloc (.cells #[.int .i64 0, .int .i64 0, .int .i64 0, .slice none 0 0, .slice none 0 0, .slice none 0 0] 75) := ⟨_, rfl⟩
    have hb3 : Below (v2).heap.size (v2) v3 := by rw [hv3]; exact (Below.refl _ _).alloc (Nat.le_refl _) _
    have HL3 := Lib.hid (show v3.heap[v2.heap.size]? = some (.cells #[.int .i64 0, .int .i64 0, .int .i64 0, .slice none 0 0, .slice none 0 0, .slice none 0 0] 75 (0, 0)) by rw [hv3]; exact heap_alloc_new _ _)
    have HBB := Lib.hid (show w1.heap.size ≤ v2.heap.size from HQ2.out.size)
    have HQ3 := Lib.hid (HQ2.out.trans (hb3.mono HQ2.out.size))
    have HVN := Lib.hid hv3
    clear hb3 hv3
    first | rw [← HVN.out] | rw [show _ = v3 from HVN.out.symm]
    refine hK.out _ _ (HC.out _ HQ3.out) (fun _ => trivial) ?_
    clear hK K
    refine wpAnyL_ready (rs := [8]) (by kernel_rfl) (by simp) ?_
    refine AllL.cons rfl (fun K hK => ?_) ?_
    ·
     obtain ⟨d0, d1, d2, d3, d4, d5⟩ := six_cells HL3.out
     have hfz : ∀ o, v3.frozen? ⟨v2.heap.size, o, none⟩ = false := (fun o => by simp [World.frozen?, HL3.out])
     have hlt := heap_lt HL3.out
     go_simp
     clear d0 d1 d2 d3 d4 d5 hfz
     obtain ⟨hs, ho⟩ := six_set HL3.out (.int .i64 (Tn : Int)) (.int .i64 1) (.int .i64 0) (.slice none 0 0) (.slice (some ⟨Bp, 0, none⟩) 1 1) (.slice none 0 0)
     obtain ⟨vf, hvf⟩ : ∃ u : World, u = ((((((v3.setCell ⟨v2.heap.size, 0, none⟩ (.int .i64 (Tn : Int))).setCell ⟨v2.heap.size, 1, none⟩ (.int .i64 1)).setCell ⟨v2.heap.size, 2, none⟩ (.int .i64 0)).setCell ⟨v2.heap.size, 3, none⟩ (.slice none 0 0)).setCell ⟨v2.heap.size, 4, none⟩ (.slice (some ⟨Bp, 0, none⟩) 1 1)).setCell ⟨v2.heap.size, 5, none⟩ (.slice none 0 0)) := ⟨_, rfl⟩
     rw [← hvf] at hs ho ⊢
     have HQF := Lib.hid (show Below w1.heap.size w1 vf from HQ3.out.trans (ho.below (B := w1.heap.size) (fun b e => by have := HBB.out; omega) HQ3.out.size))
     have HSF := Lib.hid hs
     clear hs ho hvf hlt
     refine hK.out _ _ (HC.out _ HQF.out) (fun _ => trivial) ?_
     clear hK K
     refine wpAnyL_pure (i := 9) rfl (by kernel_rfl) (fun _ _ _ h => h) (Or.inl ⟨by rfl, (fun u hu => by obtain ⟨⟨k0, k1, k2, k3⟩, k4, k5, k6⟩ := hu; go_simp; try rfl)⟩) (HC.out _ HQF.out) (fun _ => trivial) ?_
     simp only [Act.put, List.setIfInBounds_toArray, List.set_cons_zero, List.set_cons_succ, List.getElem_toArray, List.getElem_cons_zero, List.getElem_cons_succ]
     refine wpAnyL_done (by kernel_rfl) ?_ _
     obtain ⟨x0, x1, x2, x3, x4, x5⟩ := six_cells HSF.out
     go_wp2_with (go_at_call 25; refine (mkLeast0 vf Tn Bp).mono ?_; rintro e ve ⟨rfl, hbe⟩; have HE := Lib.hid (HB1.out.trans ((HQF.out.trans (hbe.mono HQF.out.size)).mono HB1.out.size)); clear hbe x0 x1 x2 x3 x4 x5)
     refine Go.bodyPost_ret (v := .tuple #[.bool true, .slice none 0 0, .int .i64 0]) (by simp [results, Tryz.results7, go_sem]) rfl ⟨rfl, HE.out⟩
    exact AllL.nil
   exact AllL.nil
  refine AllL.cons rfl (fun K hK => ?_) ?_
  ·
   go_simp
   obtain ⟨v5, hv5⟩ : ∃ u : World, u = v1.alloc (.cells #[.int .i64 0, .int .i64 0, .int .i64 0, .slice none 0 0, .slice none 0 0, .slice none 0 0] 75) := ⟨_, rfl⟩
   have hb5 : Below (v1).heap.size (v1) v5 := by rw [hv5]; exact (Below.refl _ _).alloc (Nat.le_refl _) _
   have HL5 := Lib.hid (show v5.heap[v1.heap.size]? = some (.cells #[.int .i64 0, .int .i64 0, .int .i64 0, .slice none 0 0, .slice none 0 0, .slice none 0 0] 75 (0, 0)) by rw [hv5]; exact heap_alloc_new _ _)
   have HBB := Lib.hid (show w1.heap.size ≤ v1.heap.size from HQ1.out.size)
   have HQ5 := Lib.hid (HQ1.out.trans (hb5.mono HQ1.out.size))
   have HVN := Lib.hid hv5
   have HOX := Lib.hid (HOA.out.below hb5)
   have HOY := Lib.hid (HON.out.below hb5)
   clear hb5 hv5
   first | rw [← HVN.out] | rw [show _ = v5 from HVN.out.symm]
   refine hK.out _ _ (HC.out _ HQ5.out) (fun _ => trivial) ?_
   clear hK K
   refine wpAnyL_ready (rs := [3]) (by kernel_rfl) (by simp) ?_
   refine AllL.cons rfl (fun K hK => ?_) ?_
   ·
    go_simp
    refine (mkOf0 (v5) (fun _ => True) g (otherD d) HOI.out (fun wd hwd => by have hz := H0.out wd hwd; omega) AR nR cR ((HG.out.below HQ5.out).more fun _ _ => trivial) Ao ko co (HOX.out.more fun _ _ => trivial) No ko' co' (HOY.out.more fun _ _ => trivial)).mono ?_
    rintro e v6 ⟨⟨Bp, rfl⟩, hb6⟩
    have HQ6 := Lib.hid (HQ5.out.trans (hb6.mono HQ5.out.size))
    have HL6 := Lib.hid ((hb6.block _ (heap_lt HL5.out)).trans HL5.out)
    clear hb6
    obtain ⟨Tn, hTn⟩ : ∃ Tn : Nat, Tn = g.1.toNat := ⟨_, rfl⟩
    rw [← hTn]
    clear hTn
    refine hK.out _ _ (HC.out _ HQ6.out) (fun _ => trivial) ?_
    clear hK K
    refine wpAnyL_pure (i := 4) rfl (by kernel_rfl) (fun _ _ _ h => h) (Or.inl ⟨by rfl, (fun u hu => by obtain ⟨⟨k0, k1, k2, k3⟩, k4, k5, k6⟩ := hu; go_simp; try rfl)⟩) (HC.out _ HQ6.out) (fun _ => trivial) ?_
    simp only [Act.put, List.setIfInBounds_toArray, List.set_cons_zero, List.set_cons_succ, List.getElem_toArray, List.getElem_cons_zero, List.getElem_cons_succ]
    refine wpAnyL_pure (i := 5) rfl (by kernel_rfl) (fun _ _ _ h => h) (Or.inl ⟨by rfl, (fun u hu => by obtain ⟨⟨k0, k1, k2, k3⟩, k4, k5, k6⟩ := hu; go_simp; try rfl)⟩) (HC.out _ HQ6.out) (fun _ => trivial) ?_
    simp only [Act.put, List.setIfInBounds_toArray, List.set_cons_zero, List.set_cons_succ, List.getElem_toArray, List.getElem_cons_zero, List.getElem_cons_succ]
    refine wpAnyL_pure (i := 6) rfl (by kernel_rfl) (fun _ _ _ h => h) (Or.inl ⟨by rfl, (fun u hu => by obtain ⟨⟨k0, k1, k2, k3⟩, k4, k5, k6⟩ := hu; go_simp; try rfl)⟩) (HC.out _ HQ6.out) (fun _ => trivial) ?_
    simp only [Act.put, List.setIfInBounds_toArray, List.set_cons_zero, List.set_cons_succ, List.getElem_toArray, List.getElem_cons_zero, List.getElem_cons_succ]
    refine wpAnyL_ready (rs := [8]) (by kernel_rfl) (by simp) ?_
    refine AllL.cons rfl (fun K hK => ?_) ?_
    ·
     obtain ⟨d0, d1, d2, d3, d4, d5⟩ := six_cells HL6.out
     have hfz : ∀ o, v6.frozen? ⟨v1.heap.size, o, none⟩ = false := (fun o => by simp [World.frozen?, HL6.out])
     have hlt := heap_lt HL6.out
     go_simp
     clear d0 d1 d2 d3 d4 d5 hfz
     obtain ⟨hs, ho⟩ := six_set HL6.out (.int .i64 (Tn : Int)) (.int .i64 1) (.int .i64 0) (.slice none 0 0) (.slice (some ⟨Bp, 0, none⟩) 1 1) (.slice none 0 0)
     obtain ⟨vf, hvf⟩ : ∃ u : World, u = ((((((v6.setCell ⟨v1.heap.size, 0, none⟩ (.int .i64 (Tn : Int))).setCell ⟨v1.heap.size, 1, none⟩ (.int .i64 1)).setCell ⟨v1.heap.size, 2, none⟩ (.int .i64 0)).setCell ⟨v1.heap.size, 3, none⟩ (.slice none 0 0)).setCell ⟨v1.heap.size, 4, none⟩ (.slice (some ⟨Bp, 0, none⟩) 1 1)).setCell ⟨v1.heap.size, 5, none⟩ (.slice none 0 0)) := ⟨_, rfl⟩
     rw [← hvf] at hs ho ⊢
     have HQF := Lib.hid (show Below w1.heap.size w1 vf from HQ6.out.trans (ho.below (B := w1.heap.size) (fun b e => by have := HBB.out; omega) HQ6.out.size))
     have HSF := Lib.hid hs
     clear hs ho hvf hlt
     refine hK.out _ _ (HC.out _ HQF.out) (fun _ => trivial) ?_
     clear hK K
     refine wpAnyL_pure (i := 9) rfl (by kernel_rfl) (fun _ _ _ h => h) (Or.inl ⟨by rfl, (fun u hu => by obtain ⟨⟨k0, k1, k2, k3⟩, k4, k5, k6⟩ := hu; go_simp; try rfl)⟩) (HC.out _ HQF.out) (fun _ => trivial) ?_
     simp only [Act.put, List.setIfInBounds_toArray, List.set_cons_zero, List.set_cons_succ, List.getElem_toArray, List.getElem_cons_zero, List.getElem_cons_succ]
     refine wpAnyL_done (by kernel_rfl) ?_ _
     obtain ⟨x0, x1, x2, x3, x4, x5⟩ := six_cells HSF.out
     go_wp2_with (go_at_call 25; refine (mkLeast0 vf Tn Bp).mono ?_; rintro e ve ⟨rfl, hbe⟩; have HE := Lib.hid (HB1.out.trans ((HQF.out.trans (hbe.mono HQF.out.size)).mono HB1.out.size)); clear hbe x0 x1 x2 x3 x4 x5)
     refine Go.bodyPost_ret (v := .tuple #[.bool true, .slice none 0 0, .int .i64 0]) (by simp [results, Tryz.results7, go_sem]) rfl ⟨rfl, HE.out⟩
    exact AllL.nil
   exact AllL.nil
  exact AllL.nil
 refine AllL.cons rfl (fun K hK => ?_) ?_
 ·
  go_simp
  obtain ⟨v8, hv8⟩ : ∃ u : World, u = (w2.alloc (.cells #[.int .i64 0, .int .i64 0, .int .i64 0, .slice none 0 0, .slice none 0 0, .slice none 0 0] 75)).drew := ⟨_, rfl⟩
  have hb8 : Below (w2.drew).heap.size (w2.drew) v8 := by rw [hv8]; exact (fun (h : Below w2.heap.size w2 ((w2.alloc (.cells #[.int .i64 0, .int .i64 0, .int .i64 0, .slice none 0 0, .slice none 0 0, .slice none 0 0] 75)).drew)) => ⟨h.os, h.tape, h.output, h.size, h.block⟩) ((Below.refl _ _).alloc (Nat.le_refl _) _).drew
  have HL8 := Lib.hid (show v8.heap[w2.heap.size]? = some (.cells #[.int .i64 0, .int .i64 0, .int .i64 0, .slice none 0 0, .slice none 0 0, .slice none 0 0] 75 (0, 0)) by rw [hv8]; exact heap_alloc_new _ _)
  have HBB := Lib.hid (show w1.heap.size ≤ w2.heap.size from HQ0.out.size)
  have HQ8 := Lib.hid (HQ0.out.trans (hb8.mono HQ0.out.size))
  have HVN := Lib.hid hv8
  clear hb8 hv8
  first | rw [← HVN.out] | rw [show _ = v8 from HVN.out.symm]
  refine hK.out _ _ (HC.out _ HQ8.out) (fun _ => trivial) ?_
  clear hK K
  refine wpAnyL_ready (rs := [2]) (by kernel_rfl) (by simp) ?_
  refine AllL.cons rfl (fun K hK => ?_) ?_
  ·
   go_simp
   refine (otherC (v8) _ A nA cA NN n cN d (HA.out.below HQ8.out) (HN.out.below HQ8.out) HH.out.dv).mono ?_
   rintro e v9 ⟨⟨Ao, ko, co, No, ko', co', rfl, hoa, hon⟩, hb9⟩
   have HQ9 := Lib.hid (HQ8.out.trans (hb9.mono HQ8.out.size))
   have HOA := Lib.hid hoa.fit
   have HON := Lib.hid hon.fit
   have HL9 := Lib.hid ((hb9.block _ (heap_lt HL8.out)).trans HL8.out)
   clear hb9 hoa hon
   refine hK.out _ _ (HC.out _ HQ9.out) (fun _ => trivial) ?_
   clear hK K
   refine wpAnyL_ready (rs := [3]) (by kernel_rfl) (by simp) ?_
   refine AllL.cons rfl (fun K hK => ?_) ?_
   ·
    go_simp
    refine (mkOf0 (v9) (fun _ => True) g (otherD d) HOI.out (fun wd hwd => by have hz := H0.out wd hwd; omega) AR nR cR ((HG.out.below HQ9.out).more fun _ _ => trivial) Ao ko co (HOA.out.more fun _ _ => trivial) No ko' co' (HON.out.more fun _ _ => trivial)).mono ?_
    rintro e v10 ⟨⟨Bp, rfl⟩, hb10⟩
    have HQ10 := Lib.hid (HQ9.out.trans (hb10.mono HQ9.out.size))
    have HL10 := Lib.hid ((hb10.block _ (heap_lt HL9.out)).trans HL9.out)
    clear hb10
    obtain ⟨Tn, hTn⟩ : ∃ Tn : Nat, Tn = g.1.toNat := ⟨_, rfl⟩
    rw [← hTn]
    clear hTn
    refine hK.out _ _ (HC.out _ HQ10.out) (fun _ => trivial) ?_
    clear hK K
    refine wpAnyL_pure (i := 4) rfl (by kernel_rfl) (fun _ _ _ h => h) (Or.inl ⟨by rfl, (fun u hu => by obtain ⟨⟨k0, k1, k2, k3⟩, k4, k5, k6⟩ := hu; go_simp; try rfl)⟩) (HC.out _ HQ10.out) (fun _ => trivial) ?_
    simp only [Act.put, List.setIfInBounds_toArray, List.set_cons_zero, List.set_cons_succ, List.getElem_toArray, List.getElem_cons_zero, List.getElem_cons_succ]
    refine wpAnyL_pure (i := 5) rfl (by kernel_rfl) (fun _ _ _ h => h) (Or.inl ⟨by rfl, (fun u hu => by obtain ⟨⟨k0, k1, k2, k3⟩, k4, k5, k6⟩ := hu; go_simp; try rfl)⟩) (HC.out _ HQ10.out) (fun _ => trivial) ?_
    simp only [Act.put, List.setIfInBounds_toArray, List.set_cons_zero, List.set_cons_succ, List.getElem_toArray, List.getElem_cons_zero, List.getElem_cons_succ]
    refine wpAnyL_pure (i := 6) rfl (by kernel_rfl) (fun _ _ _ h => h) (Or.inl ⟨by rfl, (fun u hu => by obtain ⟨⟨k0, k1, k2, k3⟩, k4, k5, k6⟩ := hu; go_simp; try rfl)⟩) (HC.out _ HQ10.out) (fun _ => trivial) ?_
    simp only [Act.put, List.setIfInBounds_toArray, List.set_cons_zero, List.set_cons_succ, List.getElem_toArray, List.getElem_cons_zero, List.getElem_cons_succ]
    refine wpAnyL_ready (rs := [8]) (by kernel_rfl) (by simp) ?_
    refine AllL.cons rfl (fun K hK => ?_) ?_
    ·
     obtain ⟨d0, d1, d2, d3, d4, d5⟩ := six_cells HL10.out
     have hfz : ∀ o, v10.frozen? ⟨w2.heap.size, o, none⟩ = false := (fun o => by simp [World.frozen?, HL10.out])
     have hlt := heap_lt HL10.out
     go_simp
     clear d0 d1 d2 d3 d4 d5 hfz
     obtain ⟨hs, ho⟩ := six_set HL10.out (.int .i64 (Tn : Int)) (.int .i64 1) (.int .i64 0) (.slice none 0 0) (.slice (some ⟨Bp, 0, none⟩) 1 1) (.slice none 0 0)
     obtain ⟨vf, hvf⟩ : ∃ u : World, u = ((((((v10.setCell ⟨w2.heap.size, 0, none⟩ (.int .i64 (Tn : Int))).setCell ⟨w2.heap.size, 1, none⟩ (.int .i64 1)).setCell ⟨w2.heap.size, 2, none⟩ (.int .i64 0)).setCell ⟨w2.heap.size, 3, none⟩ (.slice none 0 0)).setCell ⟨w2.heap.size, 4, none⟩ (.slice (some ⟨Bp, 0, none⟩) 1 1)).setCell ⟨w2.heap.size, 5, none⟩ (.slice none 0 0)) := ⟨_, rfl⟩
     rw [← hvf] at hs ho ⊢
     have HQF := Lib.hid (show Below w1.heap.size w1 vf from HQ10.out.trans (ho.below (B := w1.heap.size) (fun b e => by have := HBB.out; omega) HQ10.out.size))
     have HSF := Lib.hid hs
     clear hs ho hvf hlt
     refine hK.out _ _ (HC.out _ HQF.out) (fun _ => trivial) ?_
     clear hK K
     refine wpAnyL_pure (i := 9) rfl (by kernel_rfl) (fun _ _ _ h => h) (Or.inl ⟨by rfl, (fun u hu => by obtain ⟨⟨k0, k1, k2, k3⟩, k4, k5, k6⟩ := hu; go_simp; try rfl)⟩) (HC.out _ HQF.out) (fun _ => trivial) ?_
     simp only [Act.put, List.setIfInBounds_toArray, List.set_cons_zero, List.set_cons_succ, List.getElem_toArray, List.getElem_cons_zero, List.getElem_cons_succ]
     refine wpAnyL_done (by kernel_rfl) ?_ _
     obtain ⟨x0, x1, x2, x3, x4, x5⟩ := six_cells HSF.out
     go_wp2_with (go_at_call 25; refine (mkLeast0 vf Tn Bp).mono ?_; rintro e ve ⟨rfl, hbe⟩; have HE := Lib.hid (HB1.out.trans ((HQF.out.trans (hbe.mono HQF.out.size)).mono HB1.out.size)); clear hbe x0 x1 x2 x3 x4 x5)
     refine Go.bodyPost_ret (v := .tuple #[.bool true, .slice none 0 0, .int .i64 0]) (by simp [results, Tryz.results7, go_sem]) rfl ⟨rfl, HE.out⟩
    exact AllL.nil
   exact AllL.nil
  exact AllL.nil
 exact AllL.nil
end Go.Proofs.YtocbkccchnbmaaaGreat
