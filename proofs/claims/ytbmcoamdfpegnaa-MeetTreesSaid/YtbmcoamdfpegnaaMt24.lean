/- MkWalk0 -/
import Derived.Test.YtbmcoamdfpegnaaMt23
namespace Go.Proofs.Ytbmcoamdfpegnaa
open Go.RowKit Go.Maps
set_option linter.unusedSimpArgs false in
set_option maxRecDepth 100000 in
set_option maxHeartbeats 4000000 in
theorem mkWalk0 (M : Mkr) (W : List TriD) (I : ICtx) (hI : I.Ok M W) : WalkAt M W I [] := by
 intro u F done S1 A1 n1 c1 ini q S2 A2 c2 hst hdl hl hS1 hsy hll hsl hS2 hq hil hgd
 obtain rfl : n1 = 0 := by simpa using hl.len
 have HI := Lib.hid hI
 have HST := Lib.hid hst
 have HSL := Lib.hid hsl
 have HS2 := Lib.hid hS2
 have HGD := Lib.hid hgd
 obtain ⟨bs, os, y, hA, _, hy, hcy⟩ := hsl.ints.int_at (k := ini.length) (by omega)
 subst hA
 have hyq : y = (q : Int) := by
  rw [List.getElem?_map] at hy
  simpa using hy.symm
 subst hyq
 obtain ⟨il, hnl⟩ : ∃ il, il = ini.length := ⟨_, rfl⟩
 simp only [List.length_nil, Nat.add_zero] at hil
 rw [← hnl] at HSL hcy hil ⊢
 have HNL := Lib.hid hnl
 obtain ⟨k0, k1, k2, k3, k4, k5, k6⟩ := hst.cells
 have hw : IntKind.i64.wrap (((il : Int) + 1) - 1) = (il : Int) := by rw [IntKind.wrap_i64]; omega
 have hi0 : (0 : Int) ≤ (il : Int) := by omega
 have hi1 : (il : Int) < (il : Int) + 1 := by omega
 clear hI hst hl hS1 hsy hll hsl hS2 hgd hy hnl
 obtain ⟨tz, htz⟩ : ∃ tz, tz = I.t.2.2 := ⟨_, rfl⟩
 rw [← htz] at k3 HGD
 by_cases hqz : q = tz
 ·
  have hne : ((q : Int) != (tz : Int)) = false := by simp [hqz]
  have hne2 : ((q : Int) == (tz : Int)) = true := by simp [hqz]
  have HX := Lib.hid (show instL M.d (inW W) I.t.2.2 [] q = [[q]] by unfold instL; rw [if_pos (by rw [← htz]; exact hqz)])
  have HTZ := Lib.hid htz
  have hqz2 := hqz
  have HQZ := Lib.hid hqz2
  clear hqz htz hqz2
  go_enter Try.func83, Try.ntmps83
  go_wp2_with fail
  have HCA := Lib.hid (show ∀ (F : Nat → Prop) (done : List (List Nat)) (x : World), WSt M I F done x → x.cell? ⟨I.K + 1, 0, none⟩ = some (.int .i64 (I.t.1 : Int)) ∧ x.cell? ⟨I.K + 1, 1, none⟩ = some (.int .i64 (I.t.2.1 : Int)) ∧ x.cell? ⟨I.K + 1, 2, none⟩ = some (.int .i64 (tz : Int)) ∧ x.cell? ⟨I.K + 2, 0, none⟩ = some (.int .i64 (I.rule : Int)) ∧ x.cell? ⟨I.K + 3, 0, none⟩ = some (.func (.func I.f) #[] I.caps) from fun F done x hx => by
   have h := hx.cells
   rw [HTZ.out]
   exact ⟨h.2.1, h.2.2.1, h.2.2.2.1, h.2.2.2.2.1, h.2.2.2.2.2.1⟩)
  have HC := Lib.hid (HCA.out F done)
  have he := HI.out.enters
  refine wp_region_late (late := []) (S1 := fun x => x.cell? ⟨I.K + 1, 0, none⟩ = some (.int .i64 (I.t.1 : Int)) ∧ x.cell? ⟨I.K + 1, 1, none⟩ = some (.int .i64 (I.t.2.1 : Int)) ∧ x.cell? ⟨I.K + 1, 2, none⟩ = some (.int .i64 (tz : Int)) ∧ x.cell? ⟨I.K + 2, 0, none⟩ = some (.int .i64 (I.rule : Int)) ∧ x.cell? ⟨I.K + 3, 0, none⟩ = some (.func (.func I.f) #[] I.caps)) (S := fun _ => True) (by kernel_rfl) ?_
  clear k0 k1 k2 k3 k4 k5 k6 hcy
  refine wpAnyL_pure (i := 0) rfl (by kernel_rfl) (fun _ _ _ h => h) (Or.inl ⟨by rfl, (fun u hu => by obtain ⟨k0, k1, k2, k3, k4⟩ := hu; go_simp; try rfl)⟩) (HC.out _ (HST.out.below HI.out (Below.refl _ _).drew)) (fun _ => trivial) ?_
  simp only [Act.put, List.setIfInBounds_toArray, List.set_cons_zero, List.set_cons_succ, List.getElem_toArray, List.getElem_cons_zero, List.getElem_cons_succ]
  refine wpAnyL_pure (i := 1) rfl (by kernel_rfl) (fun _ _ _ h => h) (Or.inl ⟨by rfl, (fun u hu => by obtain ⟨k0, k1, k2, k3, k4⟩ := hu; go_simp; try rfl)⟩) (HC.out _ (HST.out.below HI.out (Below.refl _ _).drew)) (fun _ => trivial) ?_
  simp only [Act.put, List.setIfInBounds_toArray, List.set_cons_zero, List.set_cons_succ, List.getElem_toArray, List.getElem_cons_zero, List.getElem_cons_succ]
  refine wpAnyL_pure (i := 2) rfl (by kernel_rfl) (fun _ _ _ h => h) (Or.inl ⟨by rfl, (fun u hu => by obtain ⟨k0, k1, k2, k3, k4⟩ := hu; go_simp; try rfl)⟩) (HC.out _ (HST.out.below HI.out (Below.refl _ _).drew)) (fun _ => trivial) ?_
  simp only [Act.put, List.setIfInBounds_toArray, List.set_cons_zero, List.set_cons_succ, List.getElem_toArray, List.getElem_cons_zero, List.getElem_cons_succ]
  refine wpAnyL_pure (i := 3) rfl (by kernel_rfl) (fun _ _ _ h => h) (Or.inl ⟨by rfl, (fun u hu => by obtain ⟨k0, k1, k2, k3, k4⟩ := hu; go_simp; try rfl)⟩) (HC.out _ (HST.out.below HI.out (Below.refl _ _).drew)) (fun _ => trivial) ?_
  simp only [Act.put, List.setIfInBounds_toArray, List.set_cons_zero, List.set_cons_succ, List.getElem_toArray, List.getElem_cons_zero, List.getElem_cons_succ]
  refine wpAnyL_pure (i := 4) rfl (by kernel_rfl) (fun _ _ _ h => h) (Or.inl ⟨by rfl, (fun u hu => by obtain ⟨k0, k1, k2, k3, k4⟩ := hu; go_simp; try rfl)⟩) (HC.out _ (HST.out.below HI.out (Below.refl _ _).drew)) (fun _ => trivial) ?_
  simp only [Act.put, List.setIfInBounds_toArray, List.set_cons_zero, List.set_cons_succ, List.getElem_toArray, List.getElem_cons_zero, List.getElem_cons_succ]
  refine wpAnyL_pure (i := 5) rfl (by kernel_rfl) (fun _ _ _ h => h) (Or.inl ⟨by rfl, (fun u hu => by obtain ⟨k0, k1, k2, k3, k4⟩ := hu; go_simp; try rfl)⟩) (HC.out _ (HST.out.below HI.out (Below.refl _ _).drew)) (fun _ => trivial) ?_
  simp only [Act.put, List.setIfInBounds_toArray, List.set_cons_zero, List.set_cons_succ, List.getElem_toArray, List.getElem_cons_zero, List.getElem_cons_succ]
  refine wpAnyL_pure (i := 6) rfl (by kernel_rfl) (fun _ _ _ h => h) (Or.inl ⟨by rfl, (fun u hu => by obtain ⟨k0, k1, k2, k3, k4⟩ := hu; go_simp; try rfl)⟩) (HC.out _ (HST.out.below HI.out (Below.refl _ _).drew)) (fun _ => trivial) ?_
  simp only [Act.put, List.setIfInBounds_toArray, List.set_cons_zero, List.set_cons_succ, List.getElem_toArray, List.getElem_cons_zero, List.getElem_cons_succ]
  refine wpAnyL_pure (i := 7) rfl (by kernel_rfl) (fun _ _ _ h => h) (Or.inl ⟨by rfl, (fun u hu => by obtain ⟨k0, k1, k2, k3, k4⟩ := hu; go_simp; try rfl)⟩) (HC.out _ (HST.out.below HI.out (Below.refl _ _).drew)) (fun _ => trivial) ?_
  simp only [Act.put, List.setIfInBounds_toArray, List.set_cons_zero, List.set_cons_succ, List.getElem_toArray, List.getElem_cons_zero, List.getElem_cons_succ]
  refine wpAnyL_pure (i := 8) rfl (by kernel_rfl) (fun _ _ _ h => h) (Or.inl ⟨by rfl, (fun u hu => by obtain ⟨k0, k1, k2, k3, k4⟩ := hu; go_simp; try rfl)⟩) (HC.out _ (HST.out.below HI.out (Below.refl _ _).drew)) (fun _ => trivial) ?_
  simp only [Act.put, List.setIfInBounds_toArray, List.set_cons_zero, List.set_cons_succ, List.getElem_toArray, List.getElem_cons_zero, List.getElem_cons_succ]
  refine wpAnyL_ready (rs := [9]) (by kernel_rfl) (by simp) ?_
  refine AllL.cons rfl (fun K hK => ?_) ?_
  ·
   go_simp
   refine (cloneInt _ (il + 1) c2 _ _ _ (HSL.out.drew.ints) (by omega)).mono ?_
   rintro e w9 ⟨v9, rfl, ho9, hb9⟩
   obtain ⟨A9, c9, rfl, hc9, _⟩ := ho9.form
   have hb9 : Below u.heap.size u w9 := ((Below.refl _ _).drew).trans hb9
   have HST9 := Lib.hid (HST.out.below HI.out hb9)
   have HSL9 := Lib.hid (show Sl Rep.int w9 (fun b => u.heap.size ≤ b ∧ b < w9.heap.size) A9 (il + 1) c9 (natI (ini ++ [q])) from (Rd.slInts (ho9.rd.more (S' := fun b => u.heap.size ≤ b) fun b hb => hb) hc9).fit)
   have HB9 := Lib.hid hb9
   clear ho9 hb9
   refine hK.out _ _ (HC.out _ HST9.out) (fun _ => trivial) ?_
   clear hK K
   refine wpAnyL_pure (i := 10) rfl (by kernel_rfl) (fun _ _ _ h => h) (Or.inl ⟨by rfl, (fun u hu => by obtain ⟨k0, k1, k2, k3, k4⟩ := hu; go_simp; try rfl)⟩) (HC.out _ HST9.out) (fun _ => trivial) ?_
   simp only [Act.put, List.setIfInBounds_toArray, List.set_cons_zero, List.set_cons_succ, List.getElem_toArray, List.getElem_cons_zero, List.getElem_cons_succ]
   refine wpAnyL_ready (rs := [11]) (by kernel_rfl) (by simp) ?_
   refine AllL.cons rfl (fun K hK => ?_) ?_
   ·
    go_simp
    rw [HTZ.out]
    have hzb := heap_lt HST.out.b4
    have hfit := HI.out.fit _ _ _ HST.out.inv
    have hxb := HI.out.xb
    refine (HI.out.call F done w9 _ A9 (il + 1) c9 (ini ++ [q]) HST9.out.inv hdl HSL9.out (fun b hb => ⟨hb.2, fun h => by have := hxb b h; have := hb.1; omega, fun h => by have := hfit b h; have := hb.1; omega⟩) (by have h := HGD.out [q] (by unfold instL; rw [if_pos HQZ.out]; simp); rw [HTZ.out] at h; exact h)).mono ?_
    rintro e wA ⟨FA, rfl, hiA, hoA, hfA⟩
    have HSTA := Lib.hid (HST9.out.called HI.out hiA hoA hfA)
    have HOA := Lib.hid hoA
    have HFA := Lib.hid hfA
    have HCD := Lib.hid (HCA.out FA (done ++ [ini ++ [q]]) wA HSTA.out)
    clear hiA hoA hfA hzb hfit hxb
    refine hK.out _ _ (HCD.out) (fun _ => trivial) ?_
    clear hK K
    refine wpAnyL_pure (i := 12) rfl (by kernel_rfl) (fun _ _ _ h => h) (Or.inl ⟨by rfl, (fun u hu => by obtain ⟨k0, k1, k2, k3, k4⟩ := hu; go_simp; try rfl)⟩) (HCD.out) (fun _ => trivial) ?_
    simp only [Act.put, List.setIfInBounds_toArray, List.set_cons_zero, List.set_cons_succ, List.getElem_toArray, List.getElem_cons_zero, List.getElem_cons_succ]
    refine wpAnyL_pure (i := 13) rfl (by kernel_rfl) (fun _ _ _ h => h) (Or.inl ⟨by rfl, (fun u hu => by obtain ⟨k0, k1, k2, k3, k4⟩ := hu; go_simp; try rfl)⟩) (HCD.out) (fun _ => trivial) ?_
    simp only [Act.put, List.setIfInBounds_toArray, List.set_cons_zero, List.set_cons_succ, List.getElem_toArray, List.getElem_cons_zero, List.getElem_cons_succ]
    refine wpAnyL_done (by kernel_rfl) ?_ _
    have HEN := Lib.hid (show WalkR M I u F done ((instL M.d (inW W) I.t.2.2 [] q).map (ini ++ ·)) (.returned (.bool (decide (done.length + 1 ≤ I.lim)))) wA from by
     rw [HX.out]
     refine ⟨FA, fun b hb => ?_, (Only.of_below HB9.out (Nat.le_refl _) _).trans HOA.out, ?_⟩
     ·
      rcases HFA.out b hb with h | h
      ·
       exact .inl h
      ·
       exact .inr (Nat.le_trans HB9.out.size h)
     ·
      by_cases h : done.length + 1 ≤ I.lim
      ·
       exact .inl ⟨by rw [decide_eq_true h], HSTA.out, .inr h⟩
      ·
       exact .inr ⟨by rw [decide_eq_false h], by simp only [List.map_cons, List.map_nil, List.length_cons, List.length_nil]; omega⟩)
    obtain ⟨bb, hbb⟩ : ∃ bb, bb = decide (done.length + 1 ≤ I.lim) := ⟨_, rfl⟩
    rw [← hbb] at HEN ⊢
    clear hbb
    go_wp2_with fail
    go_ret
    exact HEN.out
   exact AllL.nil
  exact AllL.nil
 ·
  have hne : ((q : Int) != (tz : Int)) = true := by simp; omega
  have hne2 : ((q : Int) == (tz : Int)) = false := by simp; omega
  have HX := Lib.hid (show instL M.d (inW W) I.t.2.2 [] q = [] by unfold instL; rw [if_neg (by rw [← htz]; exact hqz)])
  clear hqz htz
  go_enter Try.func83, Try.ntmps83
  go_wp2_with fail
  go_quiet (fail)
  go_wp2_with fail
  go_ret
  rw [HX.out]
  refine ⟨F, fun b hb => .inl hb, .of_below (below_drewN _ _ _) (Nat.le_refl _) _, .inl ⟨rfl, ?_, .inl rfl⟩⟩
  rw [List.map_nil, List.append_nil]
  exact HST.out.below HI.out (below_drewN _ _ _)
end Go.Proofs.Ytbmcoamdfpegnaa
