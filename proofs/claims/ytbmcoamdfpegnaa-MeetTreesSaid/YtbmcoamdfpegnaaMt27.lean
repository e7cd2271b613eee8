/- MkPAdd -/
import Derived.Test.YtbmcoamdfpegnaaMt26
namespace Go.Proofs.Ytbmcoamdfpegnaa
open Go.RowKit Go.Maps
set_option linter.unusedSimpArgs false in
set_option maxRecDepth 100000 in
set_option maxHeartbeats 4000000 in
theorem mkPAdd (w : World) (Bo : Nat) (FR FF : Nat → Prop) (vR vN vF : Value) (rs : List RuleD) (fr : List Int) (h : PrOut w Bo FR FF vR vN vF rs fr) (left frm : Int) (G : Nat → Prop) (A : Option Addr) (n c : Nat) (right : List SymD) (hr : Sl RSym w G A n c right) (hG : ∀ b, G b → b < w.heap.size ∧ b ≠ Bo ∧ ¬ FF b ∧ rowOf vR ≠ some b) (hl : rs.length = fr.length) (hl2 : rs.length ≤ 10000) (hfit : ∀ b, FR b ∨ FF b → b < w.heap.size) :
    Calls Try.prog 56 #[.int .i64 left, .int .i64 frm, .slice A n c, .pointer (some ⟨Bo, 0, none⟩)] w (PAddR w Bo FR FF G vN (rs ++ [(left, right)]) (fr ++ [frm])) := by
 have H := Lib.hid h
 have HR0 := Lib.hid hr
 have HG := Lib.hid hG
 have HL := Lib.hid hl
 have HL2 := Lib.hid hl2
 have HBO := Lib.hid (heap_lt h.box)
 have HS := Lib.hid (show ∀ u : World, u.heap[Bo]? = w.heap[Bo]? → u.cell? ⟨Bo, 3, none⟩ = some vR ∧ u.cell? ⟨Bo, 5, none⟩ = some vF from fun u hu => by
  have h1 := hu.trans H.out.box
  exact ⟨by simp [World.cell?, h1], by simp [World.cell?, h1]⟩)
 have HFR := Lib.hid (show ∀ (u : World) (i : Nat), u.heap[Bo]? = w.heap[Bo]? → u.frozen? ⟨Bo, i, none⟩ = false from fun u i hu => by
  have h1 := hu.trans H.out.box
  simp [World.frozen?, h1])
 have HRL := Lib.hid (show ∀ b, rowOf vR = some b → b < w.heap.size from fun b e => h.R.lt e)
 have HFT := Lib.hid hfit
 clear h hr hG hl hl2 hfit
 go_enter Try.func56, Try.ntmps56
 go_wp2_with fail
 refine wp_region_late (late := [15, 17]) (S1 := fun _ => True) (S := fun u => u.cell? ⟨Bo, 3, none⟩ = some vR ∧ u.cell? ⟨Bo, 5, none⟩ = some vF) (by kernel_rfl) ?_
 obtain ⟨w0, hw0⟩ : ∃ w0 : World, w0 = w.drew := ⟨_, rfl⟩
 rw [← hw0]
 have HW0 := Lib.hid (show w0.heap[Bo]? = w.heap[Bo]? by rw [hw0]; rfl)
 have HP0 := Lib.hid (show PrOut w0 Bo FR FF vR vN vF rs fr by rw [hw0]; exact H.out.below (Below.refl _ _).drew)
 have HX0 := Lib.hid (show Only w w0 (fun b => FR b ∨ FF b) by rw [hw0]; exact .drew _ _)
 have HS0 := Lib.hid (show Sl RSym w0 G A n c right by rw [hw0]; exact HR0.out.drew)
 clear hw0
 refine wpAnyL_pure (i := 0) rfl (by kernel_rfl) (fun _ _ _ h => h) (Or.inl ⟨by rfl, (fun u hu => by go_simp; try rfl)⟩) trivial (fun _ => (HS.out _ HW0.out)) ?_
 simp only [Act.put, List.setIfInBounds_toArray, List.set_cons_zero, List.set_cons_succ, List.getElem_toArray, List.getElem_cons_zero, List.getElem_cons_succ]
 refine wpAnyL_pure (i := 1) rfl (by kernel_rfl) (fun _ _ _ h => h) (Or.inl ⟨by rfl, (fun u hu => by go_simp; try rfl)⟩) trivial (fun _ => (HS.out _ HW0.out)) ?_
 simp only [Act.put, List.setIfInBounds_toArray, List.set_cons_zero, List.set_cons_succ, List.getElem_toArray, List.getElem_cons_zero, List.getElem_cons_succ]
 refine wpAnyL_take (i := 2) rfl (by kernel_rfl) (fun _ _ _ h => h) (Or.inl ⟨by rfl, (fun u hu => by obtain ⟨_, hu1, hu2⟩ := hu; go_simp; try rfl)⟩) trivial (fun _ => (HS.out _ HW0.out)) ?_
 simp only [Act.put, List.setIfInBounds_toArray, List.set_cons_zero, List.set_cons_succ, List.getElem_toArray, List.getElem_cons_zero, List.getElem_cons_succ]
 refine wpAnyL_pure (i := 3) rfl (by kernel_rfl) (fun _ _ _ h => h) (Or.inl ⟨by rfl, (fun u hu => by go_simp; try rfl)⟩) trivial (fun _ => (HS.out _ HW0.out)) ?_
 simp only [Act.put, List.setIfInBounds_toArray, List.set_cons_zero, List.set_cons_succ, List.getElem_toArray, List.getElem_cons_zero, List.getElem_cons_succ]
 refine wpAnyL_pure (i := 4) rfl (by kernel_rfl) (fun _ _ _ h => h) (Or.inl ⟨by rfl, (fun u hu => by go_simp; try rfl)⟩) trivial (fun _ => (HS.out _ HW0.out)) ?_
 simp only [Act.put, List.setIfInBounds_toArray, List.set_cons_zero, List.set_cons_succ, List.getElem_toArray, List.getElem_cons_zero, List.getElem_cons_succ]
 refine wpAnyL_pure (i := 5) rfl (by kernel_rfl) (fun _ _ _ h => h) (Or.inl ⟨by rfl, (fun u hu => by go_simp; try rfl)⟩) trivial (fun _ => (HS.out _ HW0.out)) ?_
 simp only [Act.put, List.setIfInBounds_toArray, List.set_cons_zero, List.set_cons_succ, List.getElem_toArray, List.getElem_cons_zero, List.getElem_cons_succ]
 refine wpAnyL_pure (i := 8) rfl (by kernel_rfl) (fun _ _ _ h => h) (Or.inl ⟨by rfl, (fun u hu => by go_simp; try rfl)⟩) trivial (fun _ => (HS.out _ HW0.out)) ?_
 simp only [Act.put, List.setIfInBounds_toArray, List.set_cons_zero, List.set_cons_succ, List.getElem_toArray, List.getElem_cons_zero, List.getElem_cons_succ]
 refine wpAnyL_take (i := 9) rfl (by kernel_rfl) (fun _ _ _ h => h) (Or.inl ⟨by rfl, (fun u hu => by obtain ⟨_, hu1, hu2⟩ := hu; go_simp; try rfl)⟩) trivial (fun _ => (HS.out _ HW0.out)) ?_
 simp only [Act.put, List.setIfInBounds_toArray, List.set_cons_zero, List.set_cons_succ, List.getElem_toArray, List.getElem_cons_zero, List.getElem_cons_succ]
 refine wpAnyL_pure (i := 10) rfl (by kernel_rfl) (fun _ _ _ h => h) (Or.inl ⟨by rfl, (fun u hu => by go_simp; try rfl)⟩) trivial (fun _ => (HS.out _ HW0.out)) ?_
 simp only [Act.put, List.setIfInBounds_toArray, List.set_cons_zero, List.set_cons_succ, List.getElem_toArray, List.getElem_cons_zero, List.getElem_cons_succ]
 refine wpAnyL_ready (rs := [6, 11]) (by kernel_rfl) (by simp) ?_
 refine AllL.cons rfl (fun K hK => ?_) ?_
 ·
  go_simp
  obtain ⟨w1, hw1⟩ : ∃ w1 : World, w1 = (w0).alloc (.cells #[.int .i64 left, .slice A n c] 40) := ⟨_, rfl⟩
  have hbb : Below (w0).heap.size (w0) w1 := by rw [hw1]; exact (Below.refl _ _).alloc (Nat.le_refl _) _
  have HW1 := Lib.hid (show w1.heap[Bo]? = w.heap[Bo]? from (hbb.block _ (Nat.lt_of_lt_of_le HBO.out HX0.out.size)).trans HW0.out)
  have HX1 := Lib.hid (HX0.out.trans (.of_below hbb (Nat.le_refl _) _))
  have HS1 := Lib.hid (HS0.out.below hbb)
  have HP1 := Lib.hid (HP0.out.below hbb)
  have HD6_1 := Lib.hid (show Rd w1 (fun b => b = (w0).heap.size) 2 (some ⟨(w0).heap.size, 0, none⟩) 1 [.int .i64 left, .slice A n c] from by rw [hw1]; exact rd_new2 _ _ _ [.int .i64 left, .slice A n c] rfl)
  have HE6 := Lib.hid (show w.heap.size ≤ (w0).heap.size from HX0.out.size)
  have HN1 := Lib.hid hw1
  have hsz1 : (w0).heap.size < w1.heap.size := by rw [hw1, World.size_alloc]; exact Nat.lt_succ_self _
  clear hbb hw1
  first | rw [← HN1.out] | rw [show _ = w1 from HN1.out.symm]
  refine hK.out _ _ trivial (fun _ => (HS.out _ HW1.out)) ?_
  clear hK K
  refine wpAnyL_ready (rs := [7, 11]) (by kernel_rfl) (by simp) ?_
  refine AllL.cons rfl (fun K hK => ?_) ?_
  ·
   have hvr := HP1.out.R
   obtain ⟨A2, c2, w2, hrun, hgl, hg, hrow⟩ := GL.pushAt tRulesM rfl (x := (left, right)) (ys := [.int .i64 left, .slice A n c]) hvr (G := G) (RRule.cells.2 ⟨A, n, c, rfl, HS1.out⟩) (fun b hb => (HG.out b hb).2.2.2) HD6_1.out (by have := HL2.out; omega) (by omega) 23
   have hxo : Only (w1) w2 FR := Only.of_grown hg fun b e => hvr.row b e
   have HW2 := Lib.hid (show w2.heap[Bo]? = w.heap[Bo]? from (hxo.block _ (Nat.lt_of_lt_of_le HBO.out HX1.out.size) (fun hb => H.out.nb _ (.inl hb) rfl)).trans HW1.out)
   have HX2 := Lib.hid (HX1.out.trans (hxo.more fun b _ hb => .inl hb))
   have HS2 := Lib.hid (HS1.out.keep (Kept.grown hg fun b hb => (HG.out b hb).2.2.2))
   have HQ2 := Lib.hid hgl
   have HF2 := Lib.hid (HP1.out.fm.only hxo fun b hb _ hx => H.out.ap b hx hb)
   have HZ2 := Lib.hid (show w.heap.size ≤ (w1).heap.size from HX1.out.size)
   refine step_append_run _ (by rfl) _ _ _ _ (by rfl) _ _ (by rfl) (by rfl) _ _ hrun ?_
   simp only [Act.put, List.setIfInBounds_toArray, List.set_cons_zero, List.set_cons_succ, List.getElem_toArray, List.getElem_cons_zero, List.getElem_cons_succ]
   have hR2 := hrow
   have HRW := Lib.hid hrow
   clear hvr hrun hgl hg hrow hxo hR2
   refine hK.out _ _ trivial (fun _ => (HS.out _ HW2.out)) ?_
   clear hK K
   refine wpAnyL_pure (i := 13) rfl (by kernel_rfl) (fun _ _ _ h => h) (Or.inl ⟨by rfl, (fun u hu => by go_simp; try rfl)⟩) trivial (fun _ => (HS.out _ HW2.out)) ?_
   simp only [Act.put, List.setIfInBounds_toArray, List.set_cons_zero, List.set_cons_succ, List.getElem_toArray, List.getElem_cons_zero, List.getElem_cons_succ]
   refine wpAnyL_pure (i := 14) rfl (by kernel_rfl) (fun _ _ _ h => h) (Or.inl ⟨by rfl, (fun u hu => by go_simp; try rfl)⟩) trivial (fun _ => (HS.out _ HW2.out)) ?_
   simp only [Act.put, List.setIfInBounds_toArray, List.set_cons_zero, List.set_cons_succ, List.getElem_toArray, List.getElem_cons_zero, List.getElem_cons_succ]
   refine wpAnyL_ready (rs := [11]) (by kernel_rfl) (by simp) ?_
   refine AllL.cons rfl (fun K hK => ?_) ?_
   ·
    go_simp
    obtain ⟨w3, hw3⟩ : ∃ w3 : World, w3 = (w2).alloc (.cells #[.int .i64 frm] 3) := ⟨_, rfl⟩
    have hbb : Below (w2).heap.size (w2) w3 := by rw [hw3]; exact (Below.refl _ _).alloc (Nat.le_refl _) _
    have HW3 := Lib.hid (show w3.heap[Bo]? = w.heap[Bo]? from (hbb.block _ (Nat.lt_of_lt_of_le HBO.out HX2.out.size)).trans HW2.out)
    have HX3 := Lib.hid (HX2.out.trans (.of_below hbb (Nat.le_refl _) _))
    have HS3 := Lib.hid (HS2.out.below hbb)
    have HQ3 := Lib.hid (HQ2.out.below hbb)
    have HF3 := Lib.hid (HF2.out.below hbb)
    have HD11_3 := Lib.hid (show Rd w3 (fun b => b = (w2).heap.size) 1 (some ⟨(w2).heap.size, 0, none⟩) 1 [.int .i64 frm] from by rw [hw3]; exact rd_new2 _ _ _ [.int .i64 frm] rfl)
    have HE11 := Lib.hid (show w.heap.size ≤ (w2).heap.size from HX2.out.size)
    have HN3 := Lib.hid hw3
    have hsz3 : (w2).heap.size < w3.heap.size := by rw [hw3, World.size_alloc]; exact Nat.lt_succ_self _
    clear hbb hw3
    first | rw [← HN3.out] | rw [show _ = w3 from HN3.out.symm]
    refine hK.out _ _ trivial (fun _ => (HS.out _ HW3.out)) ?_
    clear hK K
    refine wpAnyL_ready (rs := [12]) (by kernel_rfl) (by simp) ?_
    refine AllL.cons rfl (fun K hK => ?_) ?_
    ·
     have hvf := HF3.out
     obtain ⟨A4, c4, w4, hrun, hgl, hg, hrow⟩ := GL.pushAt tInts rfl (x := frm) (ys := [.int .i64 frm]) hvf (G := fun _ => False) rfl (fun b hb => hb.elim) HD11_3.out (by have := HL2.out; have := HL.out; omega) (by omega) 22
     have hxo : Only (w3) w4 FF := Only.of_grown hg fun b e => hvf.row b e
     have HW4 := Lib.hid (show w4.heap[Bo]? = w.heap[Bo]? from (hxo.block _ (Nat.lt_of_lt_of_le HBO.out HX3.out.size) (fun hb => H.out.nb _ (.inr hb) rfl)).trans HW3.out)
     have HX4 := Lib.hid (HX3.out.trans (hxo.more fun b _ hb => .inr hb))
     have HQ4 := Lib.hid (HQ3.out.only hxo fun b hb _ hx => by
      rcases hb.1 with h | h | h
      ·
       exact H.out.ap b h hx
      ·
       exact (HG.out b h).2.2.1 hx
      ·
       have := HFT.out b (.inr hx); have := HZ2.out; omega)
     have HF4 := Lib.hid hgl
     have HZ4 := Lib.hid (show w.heap.size ≤ (w3).heap.size from HX3.out.size)
     have HY4 := Lib.hid (show w2.heap.size ≤ (w3).heap.size from Nat.le_of_lt hsz3)
     refine step_append_run _ (by rfl) _ _ _ _ (by rfl) _ _ (by rfl) (by rfl) _ _ hrun ?_
     simp only [Act.put, List.setIfInBounds_toArray, List.set_cons_zero, List.set_cons_succ, List.getElem_toArray, List.getElem_cons_zero, List.getElem_cons_succ]
     clear hvf hrun hgl hg hrow hxo
     refine hK.out _ _ trivial (fun _ => (HS.out _ HW4.out)) ?_
     clear hK K
     refine wpAnyL_ready (rs := [15]) (by kernel_rfl) (by simp) ?_
     refine AllL.cons rfl (fun K hK => ?_) ?_
     ·
      have hc := (HS.out _ HW4.out).1
      have hf := HFR.out _ 3 HW4.out
      go_simp
      clear hc hf
      obtain ⟨wA5, hwA⟩ : ∃ wA5 : World, wA5 = (w4).setCell ⟨Bo, 3, none⟩ (.slice A2 (rs.length + 1) c2) := ⟨_, rfl⟩
      have HBA5 := Lib.hid (show wA5.heap[Bo]? = some (.cells #[.int .i64 0, .int .i64 0, .int .i64 0, .slice A2 (rs.length + 1) c2, vN, vF] 34 (0, 0)) by rw [hwA]; exact blk_set (HW4.out.trans H.out.box) 3 _)
      have HOA5 := Lib.hid (show Only (w4) wA5 (fun b => b = Bo) by rw [hwA]; exact Only.set _ _ _ _ rfl)
      rw [← hwA]
      clear hwA
      refine hK.out _ _ trivial (fun h => absurd (h 15 (by simp)) (by decide)) ?_
      clear hK K
      refine wpAnyL_pure (i := 16) rfl (by kernel_rfl) (fun _ _ _ h => h) (Or.inl ⟨by rfl, (fun u hu => by go_simp; try rfl)⟩) trivial (fun h => absurd (h 15 (by simp)) (by decide)) ?_
      simp only [Act.put, List.setIfInBounds_toArray, List.set_cons_zero, List.set_cons_succ, List.getElem_toArray, List.getElem_cons_zero, List.getElem_cons_succ]
      refine wpAnyL_ready (rs := [17]) (by kernel_rfl) (by simp) ?_
      refine AllL.cons rfl (fun K hK => ?_) ?_
      ·
       have hc : wA5.cell? ⟨Bo, 5, none⟩ = some vF := by simp [World.cell?, HBA5.out]
       have hf : wA5.frozen? ⟨Bo, 5, none⟩ = false := by simp [World.frozen?, HBA5.out]
       go_simp
       clear hc hf
       obtain ⟨wB, hwB⟩ : ∃ wB : World, wB = wA5.setCell ⟨Bo, 5, none⟩ (.slice A4 (fr.length + 1) c4) := ⟨_, rfl⟩
       have HBB := Lib.hid (show wB.heap[Bo]? = some (.cells #[.int .i64 0, .int .i64 0, .int .i64 0, .slice A2 (rs.length + 1) c2, vN, .slice A4 (fr.length + 1) c4] 34 (0, 0)) by rw [hwB]; exact blk_set HBA5.out 5 _)
       have HOB := Lib.hid (show Only wA5 wB (fun b => b = Bo) by rw [hwB]; exact Only.set _ _ _ _ rfl)
       rw [← hwB]
       clear hwB
       refine hK.out _ _ trivial (fun h => absurd (h 15 (by simp)) (by decide)) ?_
       clear hK K
       refine wpAnyL_done (by kernel_rfl) ?_ _
       have hc5 : wB.cell? ⟨Bo, 5, none⟩ = some (.slice A4 (fr.length + 1) c4) := by simp [World.cell?, HBB.out]
       have HR := Lib.hid (show PAddR w Bo FR FF G vN (rs ++ [(left, right)]) (fr ++ [frm]) (.returned (.bool (decide ((fr.length : Int) + 1 ≤ 4000)))) wB from by
        have hAB : Only (w4) wB (fun b => b = Bo) := HOA5.out.trans HOB.out
        refine ⟨_, _, .slice A2 (rs.length + 1) c2, .slice A4 (fr.length + 1) c4, ?_, ⟨HBB.out, HQ4.out.only hAB fun b hb hl hx => ?_, HF4.out.only hAB fun b hb hl hx => ?_, fun b hb hf => ?_, fun b hb => ?_⟩, (HX4.out.more fun b _ hb => .inr hb).trans (hAB.more fun b _ hb => .inl hb), fun b hb => ?_, fun b hb => ?_⟩
        ·
         rw [List.length_append, List.length_singleton]
         congr 2
         rw [decide_eq_decide]
         omega
        ·
         rcases hb.1 with h | h | h
         ·
          exact H.out.nb b (.inl h) hx
         ·
          exact (HG.out b h).2.1 hx
         ·
          have := HBO.out; have := HZ2.out; omega
        ·
         rcases hb.1 with h | h | h
         ·
          exact H.out.nb b (.inr h) hx
         ·
          exact h
         ·
          have := HBO.out; have := HZ4.out; omega
        ·
         rcases hf.1 with h2 | h2 | h2
         ·
          rcases hb.1 with h | h | h
          ·
           exact H.out.ap b h h2
          ·
           exact (HG.out b h).2.2.1 h2
          ·
           have := HFT.out b (.inr h2); have := HZ2.out; omega
         ·
          exact h2
         ·
          have := hb.2; have := HY4.out; omega
        ·
         rcases hb with hb | hb
         ·
          rcases hb.1 with h | h | h
          ·
           exact H.out.nb b (.inl h)
          ·
           exact (HG.out b h).2.1
          ·
           have := HBO.out; have := HZ2.out; omega
         ·
          rcases hb.1 with h | h | h
          ·
           exact H.out.nb b (.inr h)
          ·
           exact h.elim
          ·
           have := HBO.out; have := HZ4.out; omega
        ·
         rcases hb.1 with h | h | h
         ·
          exact .inl h
         ·
          exact .inr (.inl h)
         ·
          exact .inr (.inr (by have := HZ2.out; omega))
        ·
         rcases hb.1 with h | h | h
         ·
          exact .inl h
         ·
          exact h.elim
         ·
          exact .inr (by have := HZ4.out; omega))
       obtain ⟨bb, hbb⟩ : ∃ bb, bb = decide ((fr.length : Int) + 1 ≤ 4000) := ⟨_, rfl⟩
       rw [← hbb] at HR
       have hbb2 : decide ((fr.length : Int) + 1 ≤ 4000) = bb := hbb.symm
       clear hbb
       go_wp2_with fail
       go_ret
       exact HR.out
      exact AllL.nil
     exact AllL.nil
    exact AllL.nil
   exact AllL.nil
  refine AllL.cons rfl (fun K hK => ?_) ?_
  ·
   go_simp
   obtain ⟨w7, hw7⟩ : ∃ w7 : World, w7 = (w1).alloc (.cells #[.int .i64 frm] 3) := ⟨_, rfl⟩
   have hbb : Below (w1).heap.size (w1) w7 := by rw [hw7]; exact (Below.refl _ _).alloc (Nat.le_refl _) _
   have HW7 := Lib.hid (show w7.heap[Bo]? = w.heap[Bo]? from (hbb.block _ (Nat.lt_of_lt_of_le HBO.out HX1.out.size)).trans HW1.out)
   have HX7 := Lib.hid (HX1.out.trans (.of_below hbb (Nat.le_refl _) _))
   have HS7 := Lib.hid (HS1.out.below hbb)
   have HP7 := Lib.hid (HP1.out.below hbb)
   have HD6_7 := Lib.hid (Rd.below HD6_1.out hbb)
   have HD11_7 := Lib.hid (show Rd w7 (fun b => b = (w1).heap.size) 1 (some ⟨(w1).heap.size, 0, none⟩) 1 [.int .i64 frm] from by rw [hw7]; exact rd_new2 _ _ _ [.int .i64 frm] rfl)
   have HE11 := Lib.hid (show w.heap.size ≤ (w1).heap.size from HX1.out.size)
   have HN7 := Lib.hid hw7
   have hsz7 : (w1).heap.size < w7.heap.size := by rw [hw7, World.size_alloc]; exact Nat.lt_succ_self _
   clear hbb hw7
   first | rw [← HN7.out] | rw [show _ = w7 from HN7.out.symm]
   refine hK.out _ _ trivial (fun _ => (HS.out _ HW7.out)) ?_
   clear hK K
   refine wpAnyL_ready (rs := [7]) (by kernel_rfl) (by simp) ?_
   refine AllL.cons rfl (fun K hK => ?_) ?_
   ·
    have hvr := HP7.out.R
    obtain ⟨A8, c8, w8, hrun, hgl, hg, hrow⟩ := GL.pushAt tRulesM rfl (x := (left, right)) (ys := [.int .i64 left, .slice A n c]) hvr (G := G) (RRule.cells.2 ⟨A, n, c, rfl, HS7.out⟩) (fun b hb => (HG.out b hb).2.2.2) HD6_7.out (by have := HL2.out; omega) (by omega) 23
    have hxo : Only (w7) w8 FR := Only.of_grown hg fun b e => hvr.row b e
    have HW8 := Lib.hid (show w8.heap[Bo]? = w.heap[Bo]? from (hxo.block _ (Nat.lt_of_lt_of_le HBO.out HX7.out.size) (fun hb => H.out.nb _ (.inl hb) rfl)).trans HW7.out)
    have HX8 := Lib.hid (HX7.out.trans (hxo.more fun b _ hb => .inl hb))
    have HS8 := Lib.hid (HS7.out.keep (Kept.grown hg fun b hb => (HG.out b hb).2.2.2))
    have HQ8 := Lib.hid hgl
    have HF8 := Lib.hid (HP7.out.fm.only hxo fun b hb _ hx => H.out.ap b hx hb)
    have HZ8 := Lib.hid (show w.heap.size ≤ (w7).heap.size from HX7.out.size)
    have HD11_8 := Lib.hid (HD11_7.out.keep (Kept.grown hg fun b hb e => by have h1 := HRL.out b e; have h2 := HE11.out; omega))
    refine step_append_run _ (by rfl) _ _ _ _ (by rfl) _ _ (by rfl) (by rfl) _ _ hrun ?_
    simp only [Act.put, List.setIfInBounds_toArray, List.set_cons_zero, List.set_cons_succ, List.getElem_toArray, List.getElem_cons_zero, List.getElem_cons_succ]
    have hR8 := hrow
    have HRW := Lib.hid hrow
    clear hvr hrun hgl hg hrow hxo hR8
    refine hK.out _ _ trivial (fun _ => (HS.out _ HW8.out)) ?_
    clear hK K
    refine wpAnyL_pure (i := 13) rfl (by kernel_rfl) (fun _ _ _ h => h) (Or.inl ⟨by rfl, (fun u hu => by go_simp; try rfl)⟩) trivial (fun _ => (HS.out _ HW8.out)) ?_
    simp only [Act.put, List.setIfInBounds_toArray, List.set_cons_zero, List.set_cons_succ, List.getElem_toArray, List.getElem_cons_zero, List.getElem_cons_succ]
    refine wpAnyL_pure (i := 14) rfl (by kernel_rfl) (fun _ _ _ h => h) (Or.inl ⟨by rfl, (fun u hu => by go_simp; try rfl)⟩) trivial (fun _ => (HS.out _ HW8.out)) ?_
    simp only [Act.put, List.setIfInBounds_toArray, List.set_cons_zero, List.set_cons_succ, List.getElem_toArray, List.getElem_cons_zero, List.getElem_cons_succ]
    refine wpAnyL_ready (rs := [12]) (by kernel_rfl) (by simp) ?_
    refine AllL.cons rfl (fun K hK => ?_) ?_
    ·
     have hvf := HF8.out
     obtain ⟨A9, c9, w9, hrun, hgl, hg, hrow⟩ := GL.pushAt tInts rfl (x := frm) (ys := [.int .i64 frm]) hvf (G := fun _ => False) rfl (fun b hb => hb.elim) HD11_8.out (by have := HL2.out; have := HL.out; omega) (by omega) 22
     have hxo : Only (w8) w9 FF := Only.of_grown hg fun b e => hvf.row b e
     have HW9 := Lib.hid (show w9.heap[Bo]? = w.heap[Bo]? from (hxo.block _ (Nat.lt_of_lt_of_le HBO.out HX8.out.size) (fun hb => H.out.nb _ (.inr hb) rfl)).trans HW8.out)
     have HX9 := Lib.hid (HX8.out.trans (hxo.more fun b _ hb => .inr hb))
     have HQ9 := Lib.hid (HQ8.out.only hxo fun b hb _ hx => by
      rcases hb.1 with h | h | h
      ·
       exact H.out.ap b h hx
      ·
       exact (HG.out b h).2.2.1 hx
      ·
       have := HFT.out b (.inr hx); have := HZ8.out; omega)
     have HF9 := Lib.hid hgl
     have HZ9 := Lib.hid (show w.heap.size ≤ (w8).heap.size from HX8.out.size)
     have HY9 := Lib.hid (show w8.heap.size ≤ (w8).heap.size from Nat.le_refl _)
     refine step_append_run _ (by rfl) _ _ _ _ (by rfl) _ _ (by rfl) (by rfl) _ _ hrun ?_
     simp only [Act.put, List.setIfInBounds_toArray, List.set_cons_zero, List.set_cons_succ, List.getElem_toArray, List.getElem_cons_zero, List.getElem_cons_succ]
     clear hvf hrun hgl hg hrow hxo
     refine hK.out _ _ trivial (fun _ => (HS.out _ HW9.out)) ?_
     clear hK K
     refine wpAnyL_ready (rs := [15]) (by kernel_rfl) (by simp) ?_
     refine AllL.cons rfl (fun K hK => ?_) ?_
     ·
      have hc := (HS.out _ HW9.out).1
      have hf := HFR.out _ 3 HW9.out
      go_simp
      clear hc hf
      obtain ⟨wA10, hwA⟩ : ∃ wA10 : World, wA10 = (w9).setCell ⟨Bo, 3, none⟩ (.slice A8 (rs.length + 1) c8) := ⟨_, rfl⟩
      have HBA10 := Lib.hid (show wA10.heap[Bo]? = some (.cells #[.int .i64 0, .int .i64 0, .int .i64 0, .slice A8 (rs.length + 1) c8, vN, vF] 34 (0, 0)) by rw [hwA]; exact blk_set (HW9.out.trans H.out.box) 3 _)
      have HOA10 := Lib.hid (show Only (w9) wA10 (fun b => b = Bo) by rw [hwA]; exact Only.set _ _ _ _ rfl)
      rw [← hwA]
      clear hwA
      refine hK.out _ _ trivial (fun h => absurd (h 15 (by simp)) (by decide)) ?_
      clear hK K
      refine wpAnyL_pure (i := 16) rfl (by kernel_rfl) (fun _ _ _ h => h) (Or.inl ⟨by rfl, (fun u hu => by go_simp; try rfl)⟩) trivial (fun h => absurd (h 15 (by simp)) (by decide)) ?_
      simp only [Act.put, List.setIfInBounds_toArray, List.set_cons_zero, List.set_cons_succ, List.getElem_toArray, List.getElem_cons_zero, List.getElem_cons_succ]
      refine wpAnyL_ready (rs := [17]) (by kernel_rfl) (by simp) ?_
      refine AllL.cons rfl (fun K hK => ?_) ?_
      ·
       have hc : wA10.cell? ⟨Bo, 5, none⟩ = some vF := by simp [World.cell?, HBA10.out]
       have hf : wA10.frozen? ⟨Bo, 5, none⟩ = false := by simp [World.frozen?, HBA10.out]
       go_simp
       clear hc hf
       obtain ⟨wB, hwB⟩ : ∃ wB : World, wB = wA10.setCell ⟨Bo, 5, none⟩ (.slice A9 (fr.length + 1) c9) := ⟨_, rfl⟩
       have HBB := Lib.hid (show wB.heap[Bo]? = some (.cells #[.int .i64 0, .int .i64 0, .int .i64 0, .slice A8 (rs.length + 1) c8, vN, .slice A9 (fr.length + 1) c9] 34 (0, 0)) by rw [hwB]; exact blk_set HBA10.out 5 _)
       have HOB := Lib.hid (show Only wA10 wB (fun b => b = Bo) by rw [hwB]; exact Only.set _ _ _ _ rfl)
       rw [← hwB]
       clear hwB
       refine hK.out _ _ trivial (fun h => absurd (h 15 (by simp)) (by decide)) ?_
       clear hK K
       refine wpAnyL_done (by kernel_rfl) ?_ _
       have hc5 : wB.cell? ⟨Bo, 5, none⟩ = some (.slice A9 (fr.length + 1) c9) := by simp [World.cell?, HBB.out]
       have HR := Lib.hid (show PAddR w Bo FR FF G vN (rs ++ [(left, right)]) (fr ++ [frm]) (.returned (.bool (decide ((fr.length : Int) + 1 ≤ 4000)))) wB from by
        have hAB : Only (w9) wB (fun b => b = Bo) := HOA10.out.trans HOB.out
        refine ⟨_, _, .slice A8 (rs.length + 1) c8, .slice A9 (fr.length + 1) c9, ?_, ⟨HBB.out, HQ9.out.only hAB fun b hb hl hx => ?_, HF9.out.only hAB fun b hb hl hx => ?_, fun b hb hf => ?_, fun b hb => ?_⟩, (HX9.out.more fun b _ hb => .inr hb).trans (hAB.more fun b _ hb => .inl hb), fun b hb => ?_, fun b hb => ?_⟩
        ·
         rw [List.length_append, List.length_singleton]
         congr 2
         rw [decide_eq_decide]
         omega
        ·
         rcases hb.1 with h | h | h
         ·
          exact H.out.nb b (.inl h) hx
         ·
          exact (HG.out b h).2.1 hx
         ·
          have := HBO.out; have := HZ8.out; omega
        ·
         rcases hb.1 with h | h | h
         ·
          exact H.out.nb b (.inr h) hx
         ·
          exact h
         ·
          have := HBO.out; have := HZ9.out; omega
        ·
         rcases hf.1 with h2 | h2 | h2
         ·
          rcases hb.1 with h | h | h
          ·
           exact H.out.ap b h h2
          ·
           exact (HG.out b h).2.2.1 h2
          ·
           have := HFT.out b (.inr h2); have := HZ8.out; omega
         ·
          exact h2
         ·
          have := hb.2; have := HY9.out; omega
        ·
         rcases hb with hb | hb
         ·
          rcases hb.1 with h | h | h
          ·
           exact H.out.nb b (.inl h)
          ·
           exact (HG.out b h).2.1
          ·
           have := HBO.out; have := HZ8.out; omega
         ·
          rcases hb.1 with h | h | h
          ·
           exact H.out.nb b (.inr h)
          ·
           exact h.elim
          ·
           have := HBO.out; have := HZ9.out; omega
        ·
         rcases hb.1 with h | h | h
         ·
          exact .inl h
         ·
          exact .inr (.inl h)
         ·
          exact .inr (.inr (by have := HZ8.out; omega))
        ·
         rcases hb.1 with h | h | h
         ·
          exact .inl h
         ·
          exact h.elim
         ·
          exact .inr (by have := HZ9.out; omega))
       obtain ⟨bb, hbb⟩ : ∃ bb, bb = decide ((fr.length : Int) + 1 ≤ 4000) := ⟨_, rfl⟩
       rw [← hbb] at HR
       have hbb2 : decide ((fr.length : Int) + 1 ≤ 4000) = bb := hbb.symm
       clear hbb
       go_wp2_with fail
       go_ret
       exact HR.out
      exact AllL.nil
     exact AllL.nil
    exact AllL.nil
   exact AllL.nil
  exact AllL.nil
 refine AllL.cons rfl (fun K hK => ?_) ?_
 ·
  go_simp
  obtain ⟨w12, hw12⟩ : ∃ w12 : World, w12 = (w0).alloc (.cells #[.int .i64 frm] 3) := ⟨_, rfl⟩
  have hbb : Below (w0).heap.size (w0) w12 := by rw [hw12]; exact (Below.refl _ _).alloc (Nat.le_refl _) _
  have HW12 := Lib.hid (show w12.heap[Bo]? = w.heap[Bo]? from (hbb.block _ (Nat.lt_of_lt_of_le HBO.out HX0.out.size)).trans HW0.out)
  have HX12 := Lib.hid (HX0.out.trans (.of_below hbb (Nat.le_refl _) _))
  have HS12 := Lib.hid (HS0.out.below hbb)
  have HP12 := Lib.hid (HP0.out.below hbb)
  have HD11_12 := Lib.hid (show Rd w12 (fun b => b = (w0).heap.size) 1 (some ⟨(w0).heap.size, 0, none⟩) 1 [.int .i64 frm] from by rw [hw12]; exact rd_new2 _ _ _ [.int .i64 frm] rfl)
  have HE11 := Lib.hid (show w.heap.size ≤ (w0).heap.size from HX0.out.size)
  have HN12 := Lib.hid hw12
  have hsz12 : (w0).heap.size < w12.heap.size := by rw [hw12, World.size_alloc]; exact Nat.lt_succ_self _
  clear hbb hw12
  first | rw [← HN12.out] | rw [show _ = w12 from HN12.out.symm]
  refine hK.out _ _ trivial (fun _ => (HS.out _ HW12.out)) ?_
  clear hK K
  refine wpAnyL_ready (rs := [6]) (by kernel_rfl) (by simp) ?_
  refine AllL.cons rfl (fun K hK => ?_) ?_
  ·
   go_simp
   obtain ⟨w13, hw13⟩ : ∃ w13 : World, w13 = (w12).alloc (.cells #[.int .i64 left, .slice A n c] 40) := ⟨_, rfl⟩
   have hbb : Below (w12).heap.size (w12) w13 := by rw [hw13]; exact (Below.refl _ _).alloc (Nat.le_refl _) _
   have HW13 := Lib.hid (show w13.heap[Bo]? = w.heap[Bo]? from (hbb.block _ (Nat.lt_of_lt_of_le HBO.out HX12.out.size)).trans HW12.out)
   have HX13 := Lib.hid (HX12.out.trans (.of_below hbb (Nat.le_refl _) _))
   have HS13 := Lib.hid (HS12.out.below hbb)
   have HP13 := Lib.hid (HP12.out.below hbb)
   have HD11_13 := Lib.hid (Rd.below HD11_12.out hbb)
   have HD6_13 := Lib.hid (show Rd w13 (fun b => b = (w12).heap.size) 2 (some ⟨(w12).heap.size, 0, none⟩) 1 [.int .i64 left, .slice A n c] from by rw [hw13]; exact rd_new2 _ _ _ [.int .i64 left, .slice A n c] rfl)
   have HE6 := Lib.hid (show w.heap.size ≤ (w12).heap.size from HX12.out.size)
   have HN13 := Lib.hid hw13
   have hsz13 : (w12).heap.size < w13.heap.size := by rw [hw13, World.size_alloc]; exact Nat.lt_succ_self _
   clear hbb hw13
   first | rw [← HN13.out] | rw [show _ = w13 from HN13.out.symm]
   refine hK.out _ _ trivial (fun _ => (HS.out _ HW13.out)) ?_
   clear hK K
   refine wpAnyL_ready (rs := [7]) (by kernel_rfl) (by simp) ?_
   refine AllL.cons rfl (fun K hK => ?_) ?_
   ·
    have hvr := HP13.out.R
    obtain ⟨A14, c14, w14, hrun, hgl, hg, hrow⟩ := GL.pushAt tRulesM rfl (x := (left, right)) (ys := [.int .i64 left, .slice A n c]) hvr (G := G) (RRule.cells.2 ⟨A, n, c, rfl, HS13.out⟩) (fun b hb => (HG.out b hb).2.2.2) HD6_13.out (by have := HL2.out; omega) (by omega) 23
    have hxo : Only (w13) w14 FR := Only.of_grown hg fun b e => hvr.row b e
    have HW14 := Lib.hid (show w14.heap[Bo]? = w.heap[Bo]? from (hxo.block _ (Nat.lt_of_lt_of_le HBO.out HX13.out.size) (fun hb => H.out.nb _ (.inl hb) rfl)).trans HW13.out)
    have HX14 := Lib.hid (HX13.out.trans (hxo.more fun b _ hb => .inl hb))
    have HS14 := Lib.hid (HS13.out.keep (Kept.grown hg fun b hb => (HG.out b hb).2.2.2))
    have HQ14 := Lib.hid hgl
    have HF14 := Lib.hid (HP13.out.fm.only hxo fun b hb _ hx => H.out.ap b hx hb)
    have HZ14 := Lib.hid (show w.heap.size ≤ (w13).heap.size from HX13.out.size)
    have HD11_14 := Lib.hid (HD11_13.out.keep (Kept.grown hg fun b hb e => by have h1 := HRL.out b e; have h2 := HE11.out; omega))
    refine step_append_run _ (by rfl) _ _ _ _ (by rfl) _ _ (by rfl) (by rfl) _ _ hrun ?_
    simp only [Act.put, List.setIfInBounds_toArray, List.set_cons_zero, List.set_cons_succ, List.getElem_toArray, List.getElem_cons_zero, List.getElem_cons_succ]
    have hR14 := hrow
    have HRW := Lib.hid hrow
    clear hvr hrun hgl hg hrow hxo hR14
    refine hK.out _ _ trivial (fun _ => (HS.out _ HW14.out)) ?_
    clear hK K
    refine wpAnyL_pure (i := 13) rfl (by kernel_rfl) (fun _ _ _ h => h) (Or.inl ⟨by rfl, (fun u hu => by go_simp; try rfl)⟩) trivial (fun _ => (HS.out _ HW14.out)) ?_
    simp only [Act.put, List.setIfInBounds_toArray, List.set_cons_zero, List.set_cons_succ, List.getElem_toArray, List.getElem_cons_zero, List.getElem_cons_succ]
    refine wpAnyL_pure (i := 14) rfl (by kernel_rfl) (fun _ _ _ h => h) (Or.inl ⟨by rfl, (fun u hu => by go_simp; try rfl)⟩) trivial (fun _ => (HS.out _ HW14.out)) ?_
    simp only [Act.put, List.setIfInBounds_toArray, List.set_cons_zero, List.set_cons_succ, List.getElem_toArray, List.getElem_cons_zero, List.getElem_cons_succ]
    refine wpAnyL_ready (rs := [12]) (by kernel_rfl) (by simp) ?_
    refine AllL.cons rfl (fun K hK => ?_) ?_
    ·
     have hvf := HF14.out
     obtain ⟨A15, c15, w15, hrun, hgl, hg, hrow⟩ := GL.pushAt tInts rfl (x := frm) (ys := [.int .i64 frm]) hvf (G := fun _ => False) rfl (fun b hb => hb.elim) HD11_14.out (by have := HL2.out; have := HL.out; omega) (by omega) 22
     have hxo : Only (w14) w15 FF := Only.of_grown hg fun b e => hvf.row b e
     have HW15 := Lib.hid (show w15.heap[Bo]? = w.heap[Bo]? from (hxo.block _ (Nat.lt_of_lt_of_le HBO.out HX14.out.size) (fun hb => H.out.nb _ (.inr hb) rfl)).trans HW14.out)
     have HX15 := Lib.hid (HX14.out.trans (hxo.more fun b _ hb => .inr hb))
     have HQ15 := Lib.hid (HQ14.out.only hxo fun b hb _ hx => by
      rcases hb.1 with h | h | h
      ·
       exact H.out.ap b h hx
      ·
       exact (HG.out b h).2.2.1 hx
      ·
       have := HFT.out b (.inr hx); have := HZ14.out; omega)
     have HF15 := Lib.hid hgl
     have HZ15 := Lib.hid (show w.heap.size ≤ (w14).heap.size from HX14.out.size)
     have HY15 := Lib.hid (show w14.heap.size ≤ (w14).heap.size from Nat.le_refl _)
     refine step_append_run _ (by rfl) _ _ _ _ (by rfl) _ _ (by rfl) (by rfl) _ _ hrun ?_
     simp only [Act.put, List.setIfInBounds_toArray, List.set_cons_zero, List.set_cons_succ, List.getElem_toArray, List.getElem_cons_zero, List.getElem_cons_succ]
     clear hvf hrun hgl hg hrow hxo
     refine hK.out _ _ trivial (fun _ => (HS.out _ HW15.out)) ?_
     clear hK K
     refine wpAnyL_ready (rs := [15]) (by kernel_rfl) (by simp) ?_
     refine AllL.cons rfl (fun K hK => ?_) ?_
     ·
      have hc := (HS.out _ HW15.out).1
      have hf := HFR.out _ 3 HW15.out
      go_simp
      clear hc hf
      obtain ⟨wA16, hwA⟩ : ∃ wA16 : World, wA16 = (w15).setCell ⟨Bo, 3, none⟩ (.slice A14 (rs.length + 1) c14) := ⟨_, rfl⟩
      have HBA16 := Lib.hid (show wA16.heap[Bo]? = some (.cells #[.int .i64 0, .int .i64 0, .int .i64 0, .slice A14 (rs.length + 1) c14, vN, vF] 34 (0, 0)) by rw [hwA]; exact blk_set (HW15.out.trans H.out.box) 3 _)
      have HOA16 := Lib.hid (show Only (w15) wA16 (fun b => b = Bo) by rw [hwA]; exact Only.set _ _ _ _ rfl)
      rw [← hwA]
      clear hwA
      refine hK.out _ _ trivial (fun h => absurd (h 15 (by simp)) (by decide)) ?_
      clear hK K
      refine wpAnyL_pure (i := 16) rfl (by kernel_rfl) (fun _ _ _ h => h) (Or.inl ⟨by rfl, (fun u hu => by go_simp; try rfl)⟩) trivial (fun h => absurd (h 15 (by simp)) (by decide)) ?_
      simp only [Act.put, List.setIfInBounds_toArray, List.set_cons_zero, List.set_cons_succ, List.getElem_toArray, List.getElem_cons_zero, List.getElem_cons_succ]
      refine wpAnyL_ready (rs := [17]) (by kernel_rfl) (by simp) ?_
      refine AllL.cons rfl (fun K hK => ?_) ?_
      ·
       have hc : wA16.cell? ⟨Bo, 5, none⟩ = some vF := by simp [World.cell?, HBA16.out]
       have hf : wA16.frozen? ⟨Bo, 5, none⟩ = false := by simp [World.frozen?, HBA16.out]
       go_simp
       clear hc hf
       obtain ⟨wB, hwB⟩ : ∃ wB : World, wB = wA16.setCell ⟨Bo, 5, none⟩ (.slice A15 (fr.length + 1) c15) := ⟨_, rfl⟩
       have HBB := Lib.hid (show wB.heap[Bo]? = some (.cells #[.int .i64 0, .int .i64 0, .int .i64 0, .slice A14 (rs.length + 1) c14, vN, .slice A15 (fr.length + 1) c15] 34 (0, 0)) by rw [hwB]; exact blk_set HBA16.out 5 _)
       have HOB := Lib.hid (show Only wA16 wB (fun b => b = Bo) by rw [hwB]; exact Only.set _ _ _ _ rfl)
       rw [← hwB]
       clear hwB
       refine hK.out _ _ trivial (fun h => absurd (h 15 (by simp)) (by decide)) ?_
       clear hK K
       refine wpAnyL_done (by kernel_rfl) ?_ _
       have hc5 : wB.cell? ⟨Bo, 5, none⟩ = some (.slice A15 (fr.length + 1) c15) := by simp [World.cell?, HBB.out]
       have HR := Lib.hid (show PAddR w Bo FR FF G vN (rs ++ [(left, right)]) (fr ++ [frm]) (.returned (.bool (decide ((fr.length : Int) + 1 ≤ 4000)))) wB from by
        have hAB : Only (w15) wB (fun b => b = Bo) := HOA16.out.trans HOB.out
        refine ⟨_, _, .slice A14 (rs.length + 1) c14, .slice A15 (fr.length + 1) c15, ?_, ⟨HBB.out, HQ15.out.only hAB fun b hb hl hx => ?_, HF15.out.only hAB fun b hb hl hx => ?_, fun b hb hf => ?_, fun b hb => ?_⟩, (HX15.out.more fun b _ hb => .inr hb).trans (hAB.more fun b _ hb => .inl hb), fun b hb => ?_, fun b hb => ?_⟩
        ·
         rw [List.length_append, List.length_singleton]
         congr 2
         rw [decide_eq_decide]
         omega
        ·
         rcases hb.1 with h | h | h
         ·
          exact H.out.nb b (.inl h) hx
         ·
          exact (HG.out b h).2.1 hx
         ·
          have := HBO.out; have := HZ14.out; omega
        ·
         rcases hb.1 with h | h | h
         ·
          exact H.out.nb b (.inr h) hx
         ·
          exact h
         ·
          have := HBO.out; have := HZ15.out; omega
        ·
         rcases hf.1 with h2 | h2 | h2
         ·
          rcases hb.1 with h | h | h
          ·
           exact H.out.ap b h h2
          ·
           exact (HG.out b h).2.2.1 h2
          ·
           have := HFT.out b (.inr h2); have := HZ14.out; omega
         ·
          exact h2
         ·
          have := hb.2; have := HY15.out; omega
        ·
         rcases hb with hb | hb
         ·
          rcases hb.1 with h | h | h
          ·
           exact H.out.nb b (.inl h)
          ·
           exact (HG.out b h).2.1
          ·
           have := HBO.out; have := HZ14.out; omega
         ·
          rcases hb.1 with h | h | h
          ·
           exact H.out.nb b (.inr h)
          ·
           exact h.elim
          ·
           have := HBO.out; have := HZ15.out; omega
        ·
         rcases hb.1 with h | h | h
         ·
          exact .inl h
         ·
          exact .inr (.inl h)
         ·
          exact .inr (.inr (by have := HZ14.out; omega))
        ·
         rcases hb.1 with h | h | h
         ·
          exact .inl h
         ·
          exact h.elim
         ·
          exact .inr (by have := HZ15.out; omega))
       obtain ⟨bb, hbb⟩ : ∃ bb, bb = decide ((fr.length : Int) + 1 ≤ 4000) := ⟨_, rfl⟩
       rw [← hbb] at HR
       have hbb2 : decide ((fr.length : Int) + 1 ≤ 4000) = bb := hbb.symm
       clear hbb
       go_wp2_with fail
       go_ret
       exact HR.out
      exact AllL.nil
     exact AllL.nil
    exact AllL.nil
   exact AllL.nil
  exact AllL.nil
 exact AllL.nil
end Go.Proofs.Ytbmcoamdfpegnaa
