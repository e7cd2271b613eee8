/- MkWalkS -/
import Derived.Test.YtbmcoamdfpegnaaMt24
namespace Go.Proofs.Ytbmcoamdfpegnaa
open Go.RowKit Go.Maps
def instU (d : DfaD) (V : TriD → Bool) (tz : Nat) (l : List SymD) (q : Nat) (xs : List Nat) : List (List Nat) := xs.flatMap fun p => (instL d V tz l p).map (q :: ·)
theorem instU_succ {d : DfaD} {V : TriD → Bool} {tz : Nat} {l : List SymD} {q : Nat} {xs : List Nat} {j p : Nat} (h : xs[j]? = some p) : instU d V tz l q (xs.take (j + 1)) = instU d V tz l q (xs.take j) ++ (instL d V tz l p).map (q :: ·) := by
 unfold instU
 rw [List.take_add_one, h, List.flatMap_append]
 simp
theorem instU_all (d : DfaD) (V : TriD → Bool) (tz : Nat) (s : SymD) (l : List SymD) (q : Nat) : instU d V tz l q (stpL d V s q) = instL d V tz (s :: l) q := rfl
theorem instU_le {d : DfaD} {V : TriD → Bool} {tz : Nat} {l : List SymD} {q : Nat} {xs : List Nat} (j : Nat) : (instU d V tz l q (xs.take j)).length ≤ (instU d V tz l q xs).length := by
 conv => rhs; rw [← List.take_append_drop j xs]
 unfold instU
 rw [List.flatMap_append, List.length_append]
 omega
structure WLp (M : Mkr) (I : ICtx) (F : Nat → Prop) (done : List (List Nat)) (w6 : World) (X : List (List Nat)) (F' : Nat → Prop) (wr : World) : Prop where
 st : WSt M I F' (done ++ X) wr
 only : Only w6 wr (fun b => I.XB b ∨ F b)
 new : ∀ b, F' b → F b ∨ w6.heap.size ≤ b
 lim : X = [] ∨ done.length + X.length ≤ I.lim
theorem WalkR.bool {M : Mkr} {I : ICtx} {u : World} {F : Nat → Prop} {done X : List (List Nat)} {e : Ending} {w' : World} (h : WalkR M I u F done X e w') : ∃ (F' : Nat → Prop) (b : Bool), e = .returned (.bool b) ∧ (∀ b, F' b → F b ∨ u.heap.size ≤ b) ∧ Only u w' (fun b => I.XB b ∨ F b) ∧ (b = true → WSt M I F' (done ++ X) w' ∧ (X = [] ∨ done.length + X.length ≤ I.lim)) ∧ (b = false → I.lim < done.length + X.length) := by
 obtain ⟨F', h1, h2, h3 | h3⟩ := h
 ·
  exact ⟨F', true, h3.1, h1, h2, fun _ => h3.2, fun e => by cases e⟩
 ·
  exact ⟨F', false, h3.1, h1, h2, fun e => (by cases e), fun _ => h3.2⟩
theorem Rd.belowB2 {w w' : World} {size n : Nat} {A : Option Addr} {xs : List Value} (h : Rd w (fun b => b < w.heap.size) size A n xs) (hb : Below w.heap.size w w') (_ : w.heap.size ≤ w.heap.size) : Rd w' (fun b => b < w.heap.size) size A n xs := h.below hb
set_option linter.unusedSimpArgs false in
set_option maxRecDepth 100000 in
set_option maxHeartbeats 4000000 in
theorem mkWalkS (M : Mkr) (hM : M.Ok) (W : List TriD) (I : ICtx) (hI : I.Ok M W) (s : SymD) (l : List SymD) (ih : WalkAt M W I l) : WalkAt M W I (s :: l) := by
 intro u F done S1 A1 n1 c1 ini q S2 A2 c2 hst hdl hl hS1 hsy hll hsl hS2 hq hil hgd
 have HM := Lib.hid hM
 have HI := Lib.hid hI
 have HIH := Lib.hid ih
 have HST := Lib.hid hst
 have HSL := Lib.hid hsl
 have HS1 := Lib.hid hS1
 have HS2 := Lib.hid hS2
 have HSY := Lib.hid hsy
 have HGD := Lib.hid hgd
 have HLL := Lib.hid hll
 obtain ⟨bs, os, y, hA, _, hy, hcy⟩ := hsl.ints.int_at (k := ini.length) (by omega)
 subst hA
 have hyq : y = (q : Int) := by
  rw [List.getElem?_map] at hy
  simpa using hy.symm
 subst hyq
 obtain ⟨il, hnl⟩ : ∃ il, il = ini.length := ⟨_, rfl⟩
 rw [← hnl] at HSL hcy hil ⊢
 have HNL := Lib.hid hnl
 have hn1 := hl.len
 obtain ⟨nn, hnn⟩ : ∃ nn, nn = l.length := ⟨_, rfl⟩
 have HNN := Lib.hid hnn
 simp only [List.length_cons] at hn1 hll hil
 rw [← hnn] at hn1 hll hil
 subst hn1
 obtain ⟨bl, ol, u1, u2, s', hA, _, hls, hok, hc1, hc2⟩ := hl.at2 (k := 0) rfl (by omega)
 have h2 := RSym.cells.1 hok
 injection h2 with e1 h2
 injection h2 with e2 _
 subst e1
 subst e2
 subst hA
 simp only [List.getElem?_cons_zero, Option.some.injEq] at hls
 subst hls
 obtain ⟨sb, sx⟩ := s
 have HL1 := Lib.hid hl
 have hc1 : u.cell? ⟨bl, ol, none⟩ = some (.bool sb) := by simpa using hc1
 have hc2 : u.cell? ⟨bl, ol + 1, none⟩ = some (.int .i64 sx) := by simpa using hc2
 obtain ⟨k0, k1, k2, k3, k4, k5, k6⟩ := hst.cells
 have HK := Lib.hid (And.intro k0 (And.intro k3 (And.intro hc1 hc2)))
 have hw : IntKind.i64.wrap (((il : Int) + 1) - 1) = (il : Int) := by rw [IntKind.wrap_i64]; omega
 have hi0 : (0 : Int) ≤ (il : Int) := by omega
 have hi1 : (il : Int) < (il : Int) + 1 := by omega
 have hn0 : ((nn : Int) + 1 == 0) = false := by simp; omega
 have hn2 : ((nn : Int) + 1 != 0) = true := by simp; omega
 clear hM hI ih hst hS1 hsy hsl hS2 hgd hy hnl hl hok hnn
 obtain ⟨tz, htz⟩ : ∃ tz, tz = I.t.2.2 := ⟨_, rfl⟩
 rw [← htz] at k3 HGD HK
 have htzn : tz < M.n := by rw [htz]; exact HI.out.tri.2.2
 have HTZ := Lib.hid htz
 have HN := Lib.hid HM.out.n
 have hn12 := HM.out.n12
 clear htz
 go_enter Try.func83, Try.ntmps83
 go_wp2_with fail
 refine wp_region_late (late := []) (S1 := fun x => x.cell? ⟨I.K, 0, none⟩ = some (.pointer (some ⟨M.Bm, 0, none⟩)) ∧ x.cell? ⟨I.K + 1, 2, none⟩ = some (.int .i64 (tz : Int)) ∧ x.cell? ⟨bl, ol, none⟩ = some (.bool sb) ∧ x.cell? ⟨bl, ol + 1, none⟩ = some (.int .i64 sx)) (S := fun _ => True) (by kernel_rfl) ?_
 clear k0 k1 k2 k3 k4 k5 k6 hcy hc1 hc2
 have htI : (tz : Int) < (M.n : Int) := by omega
 have ht0 : (0 : Int) ≤ (tz : Int) := by omega
 refine wpAnyL_pure (i := 0) rfl (by kernel_rfl) (fun _ _ _ h => h) (Or.inl ⟨by rfl, (fun u hu => by obtain ⟨k0, k1, k2, k3⟩ := hu; go_simp; try rfl)⟩) (HK.out) (fun _ => trivial) ?_
 simp only [Act.put, List.setIfInBounds_toArray, List.set_cons_zero, List.set_cons_succ, List.getElem_toArray, List.getElem_cons_zero, List.getElem_cons_succ]
 refine wpAnyL_pure (i := 1) rfl (by kernel_rfl) (fun _ _ _ h => h) (Or.inl ⟨by rfl, (fun u hu => by obtain ⟨k0, k1, k2, k3⟩ := hu; go_simp; try rfl)⟩) (HK.out) (fun _ => trivial) ?_
 simp only [Act.put, List.setIfInBounds_toArray, List.set_cons_zero, List.set_cons_succ, List.getElem_toArray, List.getElem_cons_zero, List.getElem_cons_succ]
 refine wpAnyL_pure (i := 2) rfl (by kernel_rfl) (fun _ _ _ h => h) (Or.inl ⟨by rfl, (fun u hu => by obtain ⟨k0, k1, k2, k3⟩ := hu; go_simp; try rfl)⟩) (HK.out) (fun _ => trivial) ?_
 simp only [Act.put, List.setIfInBounds_toArray, List.set_cons_zero, List.set_cons_succ, List.getElem_toArray, List.getElem_cons_zero, List.getElem_cons_succ]
 refine wpAnyL_pure (i := 4) rfl (by kernel_rfl) (fun _ _ _ h => h) (Or.inl ⟨by rfl, (fun u hu => by obtain ⟨k0, k1, k2, k3⟩ := hu; go_simp; try rfl)⟩) (HK.out) (fun _ => trivial) ?_
 simp only [Act.put, List.setIfInBounds_toArray, List.set_cons_zero, List.set_cons_succ, List.getElem_toArray, List.getElem_cons_zero, List.getElem_cons_succ]
 refine wpAnyL_pure (i := 5) rfl (by kernel_rfl) (fun _ _ _ h => h) (Or.inl ⟨by rfl, (fun u hu => by obtain ⟨k0, k1, k2, k3⟩ := hu; go_simp; try rfl)⟩) (HK.out) (fun _ => trivial) ?_
 simp only [Act.put, List.setIfInBounds_toArray, List.set_cons_zero, List.set_cons_succ, List.getElem_toArray, List.getElem_cons_zero, List.getElem_cons_succ]
 refine wpAnyL_ready (rs := [3]) (by kernel_rfl) (by simp) ?_
 refine AllL.cons rfl (fun K hK => ?_) ?_
 ·
  go_simp
  refine (mkReach M HM.out _ W (HI.out.mkr _ _ _ (HST.out.below HI.out (Below.refl _ _).drew).inv) _ _ (nn + 1) c1 ((sb, sx) :: l) HL1.out.drew (by omega) HSY.out q hq).mono ?_
  rintro e w5 ⟨⟨bB, rfl, hbB, hblB⟩, hb5⟩
  have hb5 : Below u.heap.size u w5 := ((Below.refl _ _).drew).trans hb5
  have hK := HK.out
  have HK5 := Lib.hid (And.intro ((hb5.cell (cell_lt hK.1)).trans hK.1) (And.intro ((hb5.cell (cell_lt hK.2.1)).trans hK.2.1) (And.intro ((hb5.cell (cell_lt hK.2.2.1)).trans hK.2.2.1) ((hb5.cell (cell_lt hK.2.2.2)).trans hK.2.2.2))))
  obtain ⟨b2, hb2, hcb2, _⟩ := hblB.at_ (i := tz) (by rw [rchL_len, ← HN.out]; exact htzn)
  have HR2 := Lib.hid (show b2 = true ↔ RchW M.d (inW W) ((sb, sx) :: l) q tz from by
   rw [← rchL_iff HM.out.val (by rw [← HN.out]; exact hq) (fun s hs => (HSY.out s hs).1), hb2]
   simp)
  have HB5 := Lib.hid hb5
  clear hblB hb5 hbB hb2 hK
  refine hK.out _ _ (HK5.out) (fun _ => trivial) ?_
  clear hK K
  refine wpAnyL_pure (i := 6) rfl (by kernel_rfl) (fun _ _ _ h => h) (Or.inl ⟨by rfl, (fun u hu => by obtain ⟨k0, k1, k2, k3⟩ := hu; go_simp; try rfl)⟩) (HK5.out) (fun _ => trivial) ?_
  simp only [Act.put, List.setIfInBounds_toArray, List.set_cons_zero, List.set_cons_succ, List.getElem_toArray, List.getElem_cons_zero, List.getElem_cons_succ]
  refine wpAnyL_ready (rs := [7]) (by kernel_rfl) (by simp) ?_
  refine AllL.cons rfl (fun K hK => ?_) ?_
  ·
   go_simp
   refine hK.out _ _ (HK5.out) (fun _ => trivial) ?_
   clear hK K
   refine wpAnyL_pure (i := 8) rfl (by kernel_rfl) (fun _ _ _ h => h) (Or.inl ⟨by rfl, (fun u hu => by obtain ⟨k0, k1, k2, k3⟩ := hu; go_simp; try rfl)⟩) (HK5.out) (fun _ => trivial) ?_
   simp only [Act.put, List.setIfInBounds_toArray, List.set_cons_zero, List.set_cons_succ, List.getElem_toArray, List.getElem_cons_zero, List.getElem_cons_succ]
   refine wpAnyL_done (by kernel_rfl) ?_ _
   have HST5 := Lib.hid (HST.out.below HI.out HB5.out)
   cases b2 with
   | false =>
    have HX := Lib.hid (show instL M.d (inW W) I.t.2.2 ((sb, sx) :: l) q = [] from by
     rw [List.eq_nil_iff_forall_not_mem]
     intro x hx
     have h1 := instL_rch hx
     rw [← HTZ.out] at h1
     have := HR2.out.2 h1
     cases this)
    clear hcb2
    go_wp2_with fail
    go_ret
    rw [HX.out]
    refine ⟨F, fun b hb => .inl hb, .of_below HB5.out (Nat.le_refl _) _, .inl ⟨rfl, ?_, .inl rfl⟩⟩
    rw [List.map_nil, List.append_nil]
    exact HST5.out
   | true =>
    clear hcb2
    go_wp2_with fail
    refine wp_region_late (late := []) (S1 := fun x => x.cell? ⟨I.K, 0, none⟩ = some (.pointer (some ⟨M.Bm, 0, none⟩)) ∧ x.cell? ⟨I.K + 1, 2, none⟩ = some (.int .i64 (tz : Int)) ∧ x.cell? ⟨bl, ol, none⟩ = some (.bool sb) ∧ x.cell? ⟨bl, ol + 1, none⟩ = some (.int .i64 sx)) (S := fun _ => True) (by kernel_rfl) ?_
    have hnI : (0 : Int) < (nn : Int) + 1 := by omega
    refine wpAnyL_pure (i := 0) rfl (by kernel_rfl) (fun _ _ _ h => h) (Or.inl ⟨by rfl, (fun u hu => by obtain ⟨k0, k1, k2, k3⟩ := hu; go_simp; try rfl)⟩) (HK5.out) (fun _ => trivial) ?_
    simp only [Act.put, List.setIfInBounds_toArray, List.set_cons_zero, List.set_cons_succ, List.getElem_toArray, List.getElem_cons_zero, List.getElem_cons_succ]
    refine wpAnyL_pure (i := 1) rfl (by kernel_rfl) (fun _ _ _ h => h) (Or.inl ⟨by rfl, (fun u hu => by obtain ⟨k0, k1, k2, k3⟩ := hu; go_simp; try rfl)⟩) (HK5.out) (fun _ => trivial) ?_
    simp only [Act.put, List.setIfInBounds_toArray, List.set_cons_zero, List.set_cons_succ, List.getElem_toArray, List.getElem_cons_zero, List.getElem_cons_succ]
    refine wpAnyL_pure (i := 2) rfl (by kernel_rfl) (fun _ _ _ h => h) (Or.inl ⟨by rfl, (fun u hu => by obtain ⟨k0, k1, k2, k3⟩ := hu; go_simp; try rfl)⟩) (HK5.out) (fun _ => trivial) ?_
    simp only [Act.put, List.setIfInBounds_toArray, List.set_cons_zero, List.set_cons_succ, List.getElem_toArray, List.getElem_cons_zero, List.getElem_cons_succ]
    refine wpAnyL_pure (i := 3) rfl (by kernel_rfl) (fun _ _ _ h => h) (Or.inl ⟨by rfl, (fun u hu => by obtain ⟨k0, k1, k2, k3⟩ := hu; go_simp; try rfl)⟩) (HK5.out) (fun _ => trivial) ?_
    simp only [Act.put, List.setIfInBounds_toArray, List.set_cons_zero, List.set_cons_succ, List.getElem_toArray, List.getElem_cons_zero, List.getElem_cons_succ]
    refine wpAnyL_pure (i := 4) rfl (by kernel_rfl) (fun _ _ _ h => h) (Or.inl ⟨by rfl, (fun u hu => by obtain ⟨k0, k1, k2, k3⟩ := hu; go_simp; try rfl)⟩) (HK5.out) (fun _ => trivial) ?_
    simp only [Act.put, List.setIfInBounds_toArray, List.set_cons_zero, List.set_cons_succ, List.getElem_toArray, List.getElem_cons_zero, List.getElem_cons_succ]
    refine wpAnyL_pure (i := 7) rfl (by kernel_rfl) (fun _ _ _ h => h) (Or.inl ⟨by rfl, (fun u hu => by obtain ⟨k0, k1, k2, k3⟩ := hu; go_simp; try rfl)⟩) (HK5.out) (fun _ => trivial) ?_
    simp only [Act.put, List.setIfInBounds_toArray, List.set_cons_zero, List.set_cons_succ, List.getElem_toArray, List.getElem_cons_zero, List.getElem_cons_succ]
    refine wpAnyL_ready (rs := [5]) (by kernel_rfl) (by simp) ?_
    refine AllL.cons rfl (fun K hK => ?_) ?_
    ·
     go_simp
     refine (mkStep M HM.out _ W (HI.out.mkr _ _ _ (HST5.out.below HI.out (Below.refl _ _).drew).inv) (sb, sx) q hq (HSY.out _ (by simp)).1 (HSY.out _ (by simp)).2).mono ?_
     rintro e w6 ⟨⟨A5, c5, rfl, hs5⟩, hb6⟩
     have hb6 : Below w5.heap.size w5 w6 := ((Below.refl _ _).drew).trans hb6
     have hK := HK5.out
     have HK6 := Lib.hid (And.intro ((hb6.cell (cell_lt hK.1)).trans hK.1) (And.intro ((hb6.cell (cell_lt hK.2.1)).trans hK.2.1) (And.intro ((hb6.cell (cell_lt hK.2.2.1)).trans hK.2.2.1) ((hb6.cell (cell_lt hK.2.2.2)).trans hK.2.2.2))))
     have HB6 := Lib.hid hb6
     have HS5 := Lib.hid (hs5.more (S' := fun b => w5.heap.size ≤ b) fun b hb => hb)
     clear hb6 hs5 hK
     refine hK.out _ _ (HK6.out) (fun _ => trivial) ?_
     clear hK K
     refine wpAnyL_pure (i := 6) rfl (by kernel_rfl) (fun _ _ _ h => h) (Or.inl ⟨by rfl, (fun u hu => by obtain ⟨k0, k1, k2, k3⟩ := hu; go_simp; try rfl)⟩) (HK6.out) (fun _ => trivial) ?_
     simp only [Act.put, List.setIfInBounds_toArray, List.set_cons_zero, List.set_cons_succ, List.getElem_toArray, List.getElem_cons_zero, List.getElem_cons_succ]
     refine wpAnyL_done (by kernel_rfl) ?_ _
     have HST6 := Lib.hid (HST5.out.below HI.out HB6.out)
     have HB06 := Lib.hid (show Below u.heap.size u w6 from HB5.out.trans (HB6.out.mono HB5.out.size))
     obtain ⟨xs, hxs⟩ : ∃ xs, xs = stpL M.d (inW W) (sb, sx) q := ⟨_, rfl⟩
     rw [← hxs] at HS5 ⊢
     have hxl : ∀ x ∈ xs, x < M.n := fun x hx => HM.out.syms_lt HSY.out (by simp : (sb, sx) ∈ (sb, sx) :: l) hq (by rw [← hxs]; exact hx)
     have hxf : xs.length ≤ 13 := by
      have := stpL_few M.d (inW W) (sb, sx) q
      rw [← hxs, ← HN.out] at this
      omega
     have HXS := Lib.hid hxs
     have HXL := Lib.hid hxl
     obtain ⟨m, hm⟩ : ∃ m, m = xs.length := ⟨_, rfl⟩
     rw [← hm] at HS5 hxf ⊢
     have HMX := Lib.hid hm
     have HS6 := Lib.hid HS5.out.fit
     clear hxs hxl hm HS5
     have HLP := Lib.hid (show WLp M I F done w6 ((instU M.d (inW W) I.t.2.2 l q (xs.take 0)).map (ini ++ ·)) F w6 from by
      rw [List.take_zero]
      exact ⟨by simpa [instU] using HST6.out, .refl _ _, fun b hb => .inl hb, .inl rfl⟩)
     go_wp2_with fail
     go_loopg [51] m (fun gk v51 wr => ∃ (j : Nat) (F' : Nat → Prop), j ≤ m ∧ gk = m - j ∧ v51 = .int .i64 j ∧ WLp M I F done w6 ((instU M.d (inW W) I.t.2.2 l q (xs.take j)).map (ini ++ ·)) F' wr)
     case atStart => exact ⟨0, F, Nat.zero_le _, rfl, rfl, HLP.out⟩
     case round =>
      obtain ⟨j, F', hj, hgk, rfl, hlp⟩ := hrel
      obtain ⟨w7, rfl⟩ : ∃ w7 : World, w7 = wr := ⟨_, rfl⟩
      have HGK := Lib.hid hgk
      have HP7 := Lib.hid hlp
      clear hgk hlp HLP
      by_cases hjl : j < m
      ·
       have hjI : (j : Int) < (m : Int) := by omega
       have hj0 : (0 : Int) ≤ (j : Int) := by omega
       have hxj : xs[j]? = some (xs[j]'(by rw [← HMX.out]; exact hjl)) := List.getElem?_eq_getElem _
       generalize xs[j]'(by rw [← HMX.out]; exact hjl) = p at hxj
       have hzb := heap_lt HST.out.b4
       have hfit := HI.out.fit _ _ _ HST.out.inv
       have hxb := HI.out.xb
       have hz06 : u.heap.size ≤ w6.heap.size := HB06.out.size
       have hz5 : u.heap.size ≤ w5.heap.size := HB5.out.size
       have hsj := HS6.out.keep (HP7.out.only.kept fun b hb h => by
        rcases h with h | h
        ·
         have := hxb b h; have := hb.1; omega
        ·
         have := hfit b h; have := hb.1; omega)
       obtain ⟨b5, o5, y, hA5, _, hy5, hcy5⟩ := hsj.ints.int_at hjl
       have hyx : y = (p : Int) := by
        rw [List.getElem?_map, hxj] at hy5
        simpa using hy5.symm
       subst hyx
       subst hA5
       have hpn := HXL.out p (List.mem_of_getElem? hxj)
       have HIU := Lib.hid (instU_succ (d := M.d) (V := inW W) (tz := I.t.2.2) (l := l) (q := q) hxj)
       have hx2 : p ∈ stpL M.d (inW W) (sb, sx) q := by rw [← HXS.out]; exact List.mem_of_getElem? hxj
       have HX2 := Lib.hid hx2
       have hkp : Kept (fun b => b < u.heap.size ∧ ¬ I.XB b ∧ ¬ F b) u w7 := (Kept.belowB HB06.out fun b hb => hb.1).trans (HP7.out.only.kept fun b hb h => h.elim hb.2.1 hb.2.2)
       have hl7 := HL1.out.keep (hkp.sub fun b hb => HS1.out b hb)
       have HSL7 := Lib.hid (HSL.out.keep (hkp.sub fun b hb => HS2.out b hb))
       obtain ⟨A3, hcut, hsl3⟩ := cutM tSyms rfl hl7 1 (by omega)
       have hcut : ∀ x, (Instr.slice 38 (.slice (some ⟨bl, ol, none⟩) (nn + 1) c1) (some (.int .i64 1)) none none).run Try.prog x = .ok (.slice A3 nn (c1 - 1)) x := hcut
       have hnewF : ∀ b, F' b → b < u.heap.size → F b := fun b h1 h2 => (HP7.out.new b h1).resolve_right (by omega)
       have HNF := Lib.hid hnewF
       have HSL3 := Lib.hid (show Sl RSym w7 (fun b => b < w7.heap.size ∧ ¬ I.XB b ∧ ¬ F' b) A3 nn (c1 - 1) l from hsl3.more fun b hb => by
        have h1 := HS1.out b hb
        exact ⟨by have := HP7.out.only.size; omega, h1.2.1, fun h => h1.2.2 (hnewF b h h1.1)⟩)
       have HLE := Lib.hid (show (ini ++ [q]).length = il + 1 by rw [List.length_append, HNL.out]; rfl)
       have HZF := Lib.hid (show (∀ b, I.XB b → b < w7.heap.size) ∧ ∀ b, F' b → b < w7.heap.size from ⟨fun b h => by have := hxb b h; have := HP7.out.only.size; omega, HI.out.fit _ _ _ HP7.out.st.inv⟩)
       have HGD2 := Lib.hid (show ∀ x ∈ instL M.d (inW W) I.t.2.2 l p, (ini ++ [q]) ++ x ∈ instL M.d (inW W) I.t.2.2 I.rhs I.t.1 from fun x hx => by
        have h1 := HGD.out (q :: x) (by
         rw [HTZ.out]
         unfold instL
         exact List.mem_flatMap.2 ⟨p, hx2, List.mem_map.2 ⟨x, hx, rfl⟩⟩)
        rw [HTZ.out] at h1
        simpa using h1)
       have HKA := Lib.hid (show ∀ x : World, Below w7.heap.size w7 x → x.cell? ⟨I.K + 4, 0, none⟩ = some (.func (.func 83) #[] #[.pointer (some ⟨I.K + 1, 0, none⟩), .pointer (some ⟨I.K + 3, 0, none⟩), .pointer (some ⟨I.K + 2, 0, none⟩), .pointer (some ⟨I.K, 0, none⟩), .pointer (some ⟨I.K + 4, 0, none⟩)]) from fun x hx => (HP7.out.st.below HI.out hx).cells.2.2.2.2.2.2)
       have HK7 := Lib.hid (HKA.out w7 (.refl _ _))
       clear hsj hy5 hxj hx2 hzb hfit hxb hkp hl7 hsl3 hnewF
       go_wp2_with fail
       refine wp_region_late (late := []) (S1 := fun x => x.cell? ⟨I.K + 4, 0, none⟩ = some (.func (.func 83) #[] #[.pointer (some ⟨I.K + 1, 0, none⟩), .pointer (some ⟨I.K + 3, 0, none⟩), .pointer (some ⟨I.K + 2, 0, none⟩), .pointer (some ⟨I.K, 0, none⟩), .pointer (some ⟨I.K + 4, 0, none⟩)])) (S := fun _ => True) (by kernel_rfl) ?_
       clear hcy5
       refine wpAnyL_pure (i := 0) rfl (by kernel_rfl) (fun _ _ _ h => h) (Or.inl ⟨by rfl, (fun u hu => by have k0 := hu; go_simp; try rfl)⟩) (HK7.out) (fun _ => trivial) ?_
       simp only [Act.put, List.setIfInBounds_toArray, List.set_cons_zero, List.set_cons_succ, List.getElem_toArray, List.getElem_cons_zero, List.getElem_cons_succ]
       refine wpAnyL_pure (i := 1) rfl (by kernel_rfl) (fun _ _ _ h => h) (Or.inl ⟨by rfl, (fun u hu => by have k0 := hu; go_simp; try rfl)⟩) (HK7.out) (fun _ => trivial) ?_
       simp only [Act.put, List.setIfInBounds_toArray, List.set_cons_zero, List.set_cons_succ, List.getElem_toArray, List.getElem_cons_zero, List.getElem_cons_succ]
       refine wpAnyL_pure (i := 2) rfl (by kernel_rfl) (fun _ _ _ h => h) (Or.inl ⟨by rfl, (fun u hu => by have k0 := hu; go_simp; try rfl)⟩) (HK7.out) (fun _ => trivial) ?_
       simp only [Act.put, List.setIfInBounds_toArray, List.set_cons_zero, List.set_cons_succ, List.getElem_toArray, List.getElem_cons_zero, List.getElem_cons_succ]
       refine wpAnyL_pure (i := 3) rfl (by kernel_rfl) (fun _ _ _ h => h) (Or.inl ⟨by rfl, (fun u hu => by have k0 := hu; go_simp; try rfl)⟩) (HK7.out) (fun _ => trivial) ?_
       simp only [Act.put, List.setIfInBounds_toArray, List.set_cons_zero, List.set_cons_succ, List.getElem_toArray, List.getElem_cons_zero, List.getElem_cons_succ]
       refine wpAnyL_pure (i := 5) rfl (by kernel_rfl) (fun _ _ _ h => h) (Or.inl ⟨by rfl, (fun u hu => by have k0 := hu; go_simp; try rfl)⟩) (HK7.out) (fun _ => trivial) ?_
       simp only [Act.put, List.setIfInBounds_toArray, List.set_cons_zero, List.set_cons_succ, List.getElem_toArray, List.getElem_cons_zero, List.getElem_cons_succ]
       refine wpAnyL_ready (rs := [4, 6]) (by kernel_rfl) (by simp) ?_
       refine AllL.cons rfl (fun K hK => ?_) ?_
       ·
        go_simp
        refine (cloneInt _ (il + 1) c2 _ _ _ (HSL7.out.drew.ints) (by omega)).mono ?_
        rintro e w9 ⟨v9, rfl, ho9, hb9⟩
        obtain ⟨A9, c9, rfl, hc9, _⟩ := ho9.form
        have hb9 : Below w7.heap.size w7 w9 := ((Below.refl _ _).drew).trans hb9
        have ho9 : Own w9 w7.heap.size 3 1 (.slice A9 (il + 1) c9) (il + 1) _ := ho9
        have HB9 := Lib.hid hb9
        have HO9 := Lib.hid ho9
        clear ho9 hb9
        refine hK.out _ _ (HKA.out _ HB9.out) (fun _ => trivial) ?_
        clear hK K
        refine wpAnyL_ready (rs := [6]) (by kernel_rfl) (by simp) ?_
        refine AllL.cons rfl (fun K hK => ?_) ?_
        ·
         go_simp
         refine hK.out _ _ (HKA.out _ (HB9.out.alloc HB9.out.size _)) (fun _ => trivial) ?_
         clear hK K
         refine wpAnyL_ready (rs := [7]) (by kernel_rfl) (by simp) ?_
         refine AllL.cons rfl (fun K hK => ?_) ?_
         ·
          obtain ⟨v4, w4, hrun, ho4, hg4, hrow4⟩ := run_append_Own tInts (w9.alloc (.cells #[.int .i64 (p : Int)] 3)) 22 w7.heap.size _ _ _ (HO9.out.alloc _) (fun _ => True) (some ⟨w9.heap.size, 0, none⟩) 1 1 [.int .i64 (p : Int)] (Rd.new w9 _ _ [.int .i64 (p : Int)] _ rfl trivial) (by intro u hu; obtain rfl := List.mem_singleton.1 hu; rfl) (by unfold maxLen; omega) (by omega) (by have := HB9.out.size; simp; omega)
          obtain ⟨A4, c4, rfl, hc4, _⟩ := ho4.form
          refine step_append_run _ (by rfl) _ _ _ _ (by rfl) _ _ (by rfl) (by rfl) _ _ hrun ?_
          simp only [Act.put, List.setIfInBounds_toArray, List.set_cons_zero, List.set_cons_succ, List.getElem_toArray, List.getElem_cons_zero, List.getElem_cons_succ]
          have HB4 := Lib.hid (show Below w7.heap.size w7 w4 from Below.own (HB9.out.alloc HB9.out.size _) (HO9.out.alloc _) hg4 (Nat.le_refl _) (by have := HB9.out.size; simp; omega))
          have HSL4 := Lib.hid (show Sl Rep.int w4 (fun b => w7.heap.size ≤ b ∧ b < w4.heap.size) A4 (il + 1 + 1) c4 (natI ((ini ++ [q]) ++ [p])) from by
           have h1 := ho4.rd.more (S' := fun b => w7.heap.size ≤ b) fun b hb => hb
           rw [show (natI (ini ++ [q])).map (Value.int .i64) ++ [.int .i64 (p : Int)] = (natI ((ini ++ [q]) ++ [p])).map (Value.int .i64) by simp [natI]] at h1
           exact (h1.slInts hc4).fit)
          clear hrun ho4 hg4 hrow4
          refine hK.out _ _ (HKA.out _ HB4.out) (fun _ => trivial) ?_
          clear hK K
          refine wpAnyL_ready (rs := [8]) (by kernel_rfl) (by simp) ?_
          refine AllL.cons rfl (fun K hK => ?_) ?_
          ·
           have HDL := Lib.hid (show (done ++ (instU M.d (inW W) I.t.2.2 l q (xs.take j)).map (ini ++ ·)).length ≤ I.lim from by
            rw [List.length_append]
            rcases HP7.out.lim with h | h
            ·
             rw [h]; simpa using hdl
            ·
             exact h)
           have HST4 := Lib.hid (HP7.out.st.below HI.out HB4.out)
           have hc := HIH.out w4 F' (done ++ (instU M.d (inW W) I.t.2.2 l q (xs.take j)).map (ini ++ ·)) _ A3 nn (c1 - 1) (ini ++ [q]) p (fun b => w7.heap.size ≤ b ∧ b < w4.heap.size) A4 c4 HST4.out HDL.out (HSL3.out.below HB4.out) (fun b hb => ⟨Nat.lt_of_lt_of_le hb.1 HB4.out.size, hb.2⟩) (fun s hs => HSY.out s (List.mem_cons_of_mem _ hs)) (by rw [← HNN.out]; omega)
            (by rw [HLE.out]; exact HSL4.out) (fun b hb => ⟨hb.2, fun h => by have := HZF.out.1 b h; have := hb.1; omega, fun h => by have := HZF.out.2 b h; have := hb.1; omega⟩) hpn (by rw [HLE.out, ← HNN.out]; omega) HGD2.out
           rw [HLE.out] at hc
           go_simp
           refine hc.mono ?_
           clear hc
           rintro e w10 hwr
           obtain ⟨F2, bb, rfl, hf2, ho2, htr, hfa⟩ := hwr.bool
           have HK10 := Lib.hid (show w10.cell? ⟨I.K + 4, 0, none⟩ = some (.func (.func 83) #[] #[.pointer (some ⟨I.K + 1, 0, none⟩), .pointer (some ⟨I.K + 3, 0, none⟩), .pointer (some ⟨I.K + 2, 0, none⟩), .pointer (some ⟨I.K, 0, none⟩), .pointer (some ⟨I.K + 4, 0, none⟩)]) from by
            have h1 := (ho2.block _ (heap_lt HST4.out.b4) (fun h => by
             rcases h with h | h
             ·
              have := HI.out.xb _ h; omega
             ·
              have := HST4.out.off _ h; omega)).trans HST4.out.b4
            simp [World.cell?, h1])
           have HF2 := Lib.hid hf2
           have HO2 := Lib.hid ho2
           have HTR := Lib.hid htr
           have HFA := Lib.hid hfa
           clear hf2 ho2 htr hfa hwr
           refine hK.out _ _ (HK10.out) (fun _ => trivial) ?_
           clear hK K
           refine wpAnyL_pure (i := 9) rfl (by kernel_rfl) (fun _ _ _ h => h) (Or.inl ⟨by rfl, (fun u hu => by have k0 := hu; go_simp; try rfl)⟩) (HK10.out) (fun _ => trivial) ?_
           simp only [Act.put, List.setIfInBounds_toArray, List.set_cons_zero, List.set_cons_succ, List.getElem_toArray, List.getElem_cons_zero, List.getElem_cons_succ]
           refine wpAnyL_done (by kernel_rfl) ?_ _
           have HO6 := Lib.hid (show Only w6 w10 (fun b => I.XB b ∨ F b) from HP7.out.only.newer ((Only.of_below HB4.out (Nat.le_refl _) _).trans HO2.out) fun b hb hy => hy.imp id fun h => (HP7.out.new b h).resolve_right (by omega))
           have HN6 := Lib.hid (show ∀ b, F2 b → F b ∨ w6.heap.size ≤ b from fun b hb => by
            rcases HF2.out b hb with h | h
            ·
             exact HP7.out.new b h
            ·
             exact .inr (Nat.le_trans HP7.out.only.size (Nat.le_trans HB4.out.size h)))
           have HEQ := Lib.hid (show (instU M.d (inW W) I.t.2.2 l q (xs.take (j + 1))).map (ini ++ ·) = (instU M.d (inW W) I.t.2.2 l q (xs.take j)).map (ini ++ ·) ++ (instL M.d (inW W) I.t.2.2 l p).map ((ini ++ [q]) ++ ·) from by
            rw [HIU.out, List.map_append, List.map_map]
            congr 1
            refine List.map_congr_left fun x _ => ?_
            simp)
           cases bb with
           | true =>
            have HL2 := Lib.hid (show WLp M I F done w6 ((instU M.d (inW W) I.t.2.2 l q (xs.take (j + 1))).map (ini ++ ·)) F2 w10 from by
             obtain ⟨h1, h2⟩ := HTR.out rfl
             rw [HEQ.out]
             refine ⟨by rw [← List.append_assoc]; exact h1, HO6.out, HN6.out, ?_⟩
             rcases h2 with h2 | h2
             ·
              rw [h2, List.append_nil]
              exact HP7.out.lim
             ·
              exact .inr (by rw [List.length_append] at h2 ⊢; omega))
            clear HTR HFA
            go_wp2_with fail
            go_roundg (m - (j + 1))
            case measure => rw [HGK.out]; omega
            case rel => exact ⟨j + 1, F2, by omega, rfl, by go_num, HL2.out⟩
           | false =>
            have HL2 := Lib.hid (show WalkR M I u F done ((instL M.d (inW W) I.t.2.2 ((sb, sx) :: l) q).map (ini ++ ·)) (.returned (.bool false)) w10 from by
             have h1 := HFA.out rfl
             refine ⟨F2, fun b hb => ?_, (Only.of_below HB06.out (Nat.le_refl _) _).trans HO6.out, .inr ⟨rfl, ?_⟩⟩
             ·
              rcases HN6.out b hb with h | h
              ·
               exact .inl h
              ·
               exact .inr (Nat.le_trans HB06.out.size h)
             ·
              have h2 := instU_le (d := M.d) (V := inW W) (tz := I.t.2.2) (l := l) (q := q) (xs := xs) (j + 1)
              rw [show instU M.d (inW W) I.t.2.2 l q xs = instL M.d (inW W) I.t.2.2 ((sb, sx) :: l) q by rw [HXS.out]; exact instU_all _ _ _ _ _ _] at h2
              have h3 := congrArg List.length HEQ.out
              rw [List.length_append, List.length_map] at h3
              rw [List.length_append] at h1
              rw [List.length_map]
              omega)
            clear HTR HFA
            go_wp2_with fail
            go_ret
            exact HL2.out
          exact AllL.nil
         exact AllL.nil
        exact AllL.nil
       refine AllL.cons rfl (fun K hK => ?_) ?_
       ·
        obtain ⟨wB, hwB⟩ : ∃ wB : World, wB = w7.drew.alloc (.cells #[.int .i64 (p : Int)] 3) := ⟨_, rfl⟩
        have hbB : Below w7.heap.size w7 wB := by rw [hwB]; exact (Below.refl _ w7).drew.alloc (Nat.le_refl _) _
        have HBB := Lib.hid hbB
        have HRS0 := Lib.hid (show Rd wB (fun b => b < wB.heap.size) 1 (some ⟨w7.heap.size, 0, none⟩) 1 [.int .i64 (p : Int)] by rw [hwB]; exact Rd.new w7.drew _ _ [.int .i64 (p : Int)] _ rfl (by rw [World.size_alloc]; exact Nat.lt_succ_self _))
        have HZB := Lib.hid (Nat.le_refl wB.heap.size)
        have hw2' : (w7.alloc (.cells #[.int .i64 (p : Int)] 3)).drew = wB := hwB.symm
        have HWB := Lib.hid hw2'
        clear hbB hwB hw2'
        go_simp
        rw [HWB.out]
        refine hK.out _ _ (HKA.out _ HBB.out) (fun _ => trivial) ?_
        clear hK K
        refine wpAnyL_ready (rs := [4]) (by kernel_rfl) (by simp) ?_
        refine AllL.cons rfl (fun K hK => ?_) ?_
        ·
         go_simp
         refine (cloneInt _ (il + 1) c2 _ _ _ (HSL7.out.below HBB.out).ints (by omega)).mono ?_
         rintro e w9 ⟨v9, rfl, ho9, hb9⟩
         have hb90 := hb9
         obtain ⟨A9, c9, rfl, hc9, _⟩ := ho9.form
         have hb9 : Below w7.heap.size w7 w9 := HBB.out.trans (hb9.mono HBB.out.size)
         have ho9 := ho9.mono HBB.out.size
         have HRS := Lib.hid (Rd.belowB2 HRS0.out hb90 HZB.out)
         have HB9 := Lib.hid hb9
         have HO9 := Lib.hid ho9
         clear ho9 hb9 hb90
         refine hK.out _ _ (HKA.out _ HB9.out) (fun _ => trivial) ?_
         clear hK K
         refine wpAnyL_ready (rs := [7]) (by kernel_rfl) (by simp) ?_
         refine AllL.cons rfl (fun K hK => ?_) ?_
         ·
          obtain ⟨v4, w4, hrun, ho4, hg4, hrow4⟩ := run_append_Own tInts w9 22 w7.heap.size _ _ _ HO9.out _ (some ⟨w7.heap.size, 0, none⟩) 1 1 [.int .i64 (p : Int)] HRS.out (by intro u hu; obtain rfl := List.mem_singleton.1 hu; rfl) (by unfold maxLen; omega) (by omega) HB9.out.size
          obtain ⟨A4, c4, rfl, hc4, _⟩ := ho4.form
          refine step_append_run _ (by rfl) _ _ _ _ (by rfl) _ _ (by rfl) (by rfl) _ _ hrun ?_
          simp only [Act.put, List.setIfInBounds_toArray, List.set_cons_zero, List.set_cons_succ, List.getElem_toArray, List.getElem_cons_zero, List.getElem_cons_succ]
          have HB4 := Lib.hid (show Below w7.heap.size w7 w4 from Below.own HB9.out HO9.out hg4 (Nat.le_refl _) HB9.out.size)
          have HSL4 := Lib.hid (show Sl Rep.int w4 (fun b => w7.heap.size ≤ b ∧ b < w4.heap.size) A4 (il + 1 + 1) c4 (natI ((ini ++ [q]) ++ [p])) from by
           have h1 := ho4.rd.more (S' := fun b => w7.heap.size ≤ b) fun b hb => hb
           rw [show (natI (ini ++ [q])).map (Value.int .i64) ++ [.int .i64 (p : Int)] = (natI ((ini ++ [q]) ++ [p])).map (Value.int .i64) by simp [natI]] at h1
           exact (h1.slInts hc4).fit)
          clear hrun ho4 hg4 hrow4
          refine hK.out _ _ (HKA.out _ HB4.out) (fun _ => trivial) ?_
          clear hK K
          refine wpAnyL_ready (rs := [8]) (by kernel_rfl) (by simp) ?_
          refine AllL.cons rfl (fun K hK => ?_) ?_
          ·
           have HDL := Lib.hid (show (done ++ (instU M.d (inW W) I.t.2.2 l q (xs.take j)).map (ini ++ ·)).length ≤ I.lim from by
            rw [List.length_append]
            rcases HP7.out.lim with h | h
            ·
             rw [h]; simpa using hdl
            ·
             exact h)
           have HST4 := Lib.hid (HP7.out.st.below HI.out HB4.out)
           have hc := HIH.out w4 F' (done ++ (instU M.d (inW W) I.t.2.2 l q (xs.take j)).map (ini ++ ·)) _ A3 nn (c1 - 1) (ini ++ [q]) p (fun b => w7.heap.size ≤ b ∧ b < w4.heap.size) A4 c4 HST4.out HDL.out (HSL3.out.below HB4.out) (fun b hb => ⟨Nat.lt_of_lt_of_le hb.1 HB4.out.size, hb.2⟩) (fun s hs => HSY.out s (List.mem_cons_of_mem _ hs)) (by rw [← HNN.out]; omega)
            (by rw [HLE.out]; exact HSL4.out) (fun b hb => ⟨hb.2, fun h => by have := HZF.out.1 b h; have := hb.1; omega, fun h => by have := HZF.out.2 b h; have := hb.1; omega⟩) hpn (by rw [HLE.out, ← HNN.out]; omega) HGD2.out
           rw [HLE.out] at hc
           go_simp
           refine hc.mono ?_
           clear hc
           rintro e w10 hwr
           obtain ⟨F2, bb, rfl, hf2, ho2, htr, hfa⟩ := hwr.bool
           have HK10 := Lib.hid (show w10.cell? ⟨I.K + 4, 0, none⟩ = some (.func (.func 83) #[] #[.pointer (some ⟨I.K + 1, 0, none⟩), .pointer (some ⟨I.K + 3, 0, none⟩), .pointer (some ⟨I.K + 2, 0, none⟩), .pointer (some ⟨I.K, 0, none⟩), .pointer (some ⟨I.K + 4, 0, none⟩)]) from by
            have h1 := (ho2.block _ (heap_lt HST4.out.b4) (fun h => by
             rcases h with h | h
             ·
              have := HI.out.xb _ h; omega
             ·
              have := HST4.out.off _ h; omega)).trans HST4.out.b4
            simp [World.cell?, h1])
           have HF2 := Lib.hid hf2
           have HO2 := Lib.hid ho2
           have HTR := Lib.hid htr
           have HFA := Lib.hid hfa
           clear hf2 ho2 htr hfa hwr
           refine hK.out _ _ (HK10.out) (fun _ => trivial) ?_
           clear hK K
           refine wpAnyL_pure (i := 9) rfl (by kernel_rfl) (fun _ _ _ h => h) (Or.inl ⟨by rfl, (fun u hu => by have k0 := hu; go_simp; try rfl)⟩) (HK10.out) (fun _ => trivial) ?_
           simp only [Act.put, List.setIfInBounds_toArray, List.set_cons_zero, List.set_cons_succ, List.getElem_toArray, List.getElem_cons_zero, List.getElem_cons_succ]
           refine wpAnyL_done (by kernel_rfl) ?_ _
           have HO6 := Lib.hid (show Only w6 w10 (fun b => I.XB b ∨ F b) from HP7.out.only.newer ((Only.of_below HB4.out (Nat.le_refl _) _).trans HO2.out) fun b hb hy => hy.imp id fun h => (HP7.out.new b h).resolve_right (by omega))
           have HN6 := Lib.hid (show ∀ b, F2 b → F b ∨ w6.heap.size ≤ b from fun b hb => by
            rcases HF2.out b hb with h | h
            ·
             exact HP7.out.new b h
            ·
             exact .inr (Nat.le_trans HP7.out.only.size (Nat.le_trans HB4.out.size h)))
           have HEQ := Lib.hid (show (instU M.d (inW W) I.t.2.2 l q (xs.take (j + 1))).map (ini ++ ·) = (instU M.d (inW W) I.t.2.2 l q (xs.take j)).map (ini ++ ·) ++ (instL M.d (inW W) I.t.2.2 l p).map ((ini ++ [q]) ++ ·) from by
            rw [HIU.out, List.map_append, List.map_map]
            congr 1
            refine List.map_congr_left fun x _ => ?_
            simp)
           cases bb with
           | true =>
            have HL2 := Lib.hid (show WLp M I F done w6 ((instU M.d (inW W) I.t.2.2 l q (xs.take (j + 1))).map (ini ++ ·)) F2 w10 from by
             obtain ⟨h1, h2⟩ := HTR.out rfl
             rw [HEQ.out]
             refine ⟨by rw [← List.append_assoc]; exact h1, HO6.out, HN6.out, ?_⟩
             rcases h2 with h2 | h2
             ·
              rw [h2, List.append_nil]
              exact HP7.out.lim
             ·
              exact .inr (by rw [List.length_append] at h2 ⊢; omega))
            clear HTR HFA
            go_wp2_with fail
            go_roundg (m - (j + 1))
            case measure => rw [HGK.out]; omega
            case rel => exact ⟨j + 1, F2, by omega, rfl, by go_num, HL2.out⟩
           | false =>
            have HL2 := Lib.hid (show WalkR M I u F done ((instL M.d (inW W) I.t.2.2 ((sb, sx) :: l) q).map (ini ++ ·)) (.returned (.bool false)) w10 from by
             have h1 := HFA.out rfl
             refine ⟨F2, fun b hb => ?_, (Only.of_below HB06.out (Nat.le_refl _) _).trans HO6.out, .inr ⟨rfl, ?_⟩⟩
             ·
              rcases HN6.out b hb with h | h
              ·
               exact .inl h
              ·
               exact .inr (Nat.le_trans HB06.out.size h)
             ·
              have h2 := instU_le (d := M.d) (V := inW W) (tz := I.t.2.2) (l := l) (q := q) (xs := xs) (j + 1)
              rw [show instU M.d (inW W) I.t.2.2 l q xs = instL M.d (inW W) I.t.2.2 ((sb, sx) :: l) q by rw [HXS.out]; exact instU_all _ _ _ _ _ _] at h2
              have h3 := congrArg List.length HEQ.out
              rw [List.length_append, List.length_map] at h3
              rw [List.length_append] at h1
              rw [List.length_map]
              omega)
            clear HTR HFA
            go_wp2_with fail
            go_ret
            exact HL2.out
          exact AllL.nil
         exact AllL.nil
        exact AllL.nil
       exact AllL.nil
      ·
       obtain rfl : m = j := by omega
       have HALL := Lib.hid (show (instU M.d (inW W) I.t.2.2 l q (xs.take m)) = instL M.d (inW W) I.t.2.2 ((sb, sx) :: l) q by
        rw [List.take_of_length_le (by rw [HMX.out]; exact Nat.le_refl _), HXS.out]
        exact instU_all _ _ _ _ _ _)
       go_wp2_with fail
       go_ret
       have h1 := HP7.out
       rw [HALL.out] at h1
       refine ⟨F', fun b hb => ?_, (Only.of_below HB06.out (Nat.le_refl _) _).trans h1.only, .inl ⟨rfl, h1.st, h1.lim⟩⟩
       rcases h1.new b hb with h | h
       ·
        exact .inl h
       ·
        exact .inr (Nat.le_trans HB06.out.size h)
    exact AllL.nil
  exact AllL.nil
 exact AllL.nil
end Go.Proofs.Ytbmcoamdfpegnaa
