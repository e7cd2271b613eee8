/- ApxBuild -/
import Derived.Laws.EntriesVeiled
import Derived.Test.YtocbkccchnbmaaaGreatAw23
namespace Go.Proofs.YtocbkccchnbmaaaGreat
open Go.RowKit Go.Maps
def BuildR (L : Bdr) (FB : Nat → Prop) (w : World) (st : NfD) (e : Ending) (w' : World) : Prop := e = .returned (.tuple #[]) ∧ ∃ FB', Bst L w' FB' st ∧ Stp L FB w FB' w'
def ZOk (z : Int) : Prop := (z = -1 ∨ z = -2 ∨ 0 ≤ z) ∧ z ≤ 1000000
theorem entersBuild : ∀ (args : Array Value) (u : World), (callFunc 15 args).run Tryz.prog u = .ok (.enter 15 args) u := enters_of Tryz.func15 (by kernel_rfl) rfl
theorem entersNode : ∀ (args : Array Value) (u : World), (callFunc 14 args).run Tryz.prog u = .ok (.enter 14 args) u := enters_of Tryz.func14 (by kernel_rfl) rfl
theorem symsB_next {rec : RecB} {last : Nat} {l : List SymD} {a : Nat × NfD} {i : Nat} {s : SymD} (h : l[i]? = some s) : symsB rec last l a (i + 1) = symB rec l.length last (symsB rec last l a i) i s := by
 conv => lhs; unfold symsB
 rw [h]
theorem MidOk.node {a : NfD} (h : MidOk a) : MidOk { a with nodes := a.nodes + 1 } := ⟨by have := h.few; simp; omega⟩
abbrev BuildAt (L : Bdr) (k : Nat) : Prop := ∀ (m : Nat), m < L.N → L.rk m ≤ k → ∀ (w : World) (FB : Nat → Prop) (st : NfD) (frm dst : Nat), Bst L w FB st → frm < st.nodes → dst < st.nodes → MidOk st → (buildN L.R L.cf L.N (m : Int) frm dst st).nodes ≤ 1000 →
    Calls Tryz.prog 15 #[.pointer (some ⟨L.Bb, 0, none⟩), .int .i64 (m : Int), .int .i64 (frm : Int), .int .i64 (dst : Int)] w (BuildR L FB w (buildN L.R L.cf L.N (m : Int) frm dst st))
set_option linter.unusedSimpArgs false in
set_option maxRecDepth 1000000 in
set_option maxHeartbeats 20000000 in
theorem apxBuildS (L : Bdr) (hL : L.Ok) (T : Nat) (hT : TermsOk L.R T) (k : Nat) (ih : BuildAt L k) : BuildAt L (k + 1) := by
    intro m hm hk
    intro w FB st frm dst hbst hfrm hdst hmid hfin
    have IH := Lib.hid ih
    have HK := Lib.hid hk
    have HB := Lib.hid hbst
    have HMID := Lib.hid hmid
    obtain ⟨fin, hfe⟩ : ∃ fin, fin = buildN L.R L.cf L.N (m : Int) frm dst st := ⟨_, rfl⟩
    rw [← hfe] at hfin ⊢
    have HFE := Lib.hid hfe
    have HFI := Lib.hid hfin
    clear ih hk hbst hmid hfin hfe
    have hRl : L.R.length ≤ 64 := by have := hL.rl; have := hL.nR; omega
    have HRL := Lib.hid hRl
    have hmI : (m : Int) < (L.N : Int) := by omega
    have hm0 : (0 : Int) ≤ (m : Int) := by omega
    have hmr : (0 : Int) ≤ (m : Int) ∧ (m : Int) < L.N := ⟨hm0, hmI⟩
    have HMR := Lib.hid hmr
    clear hmr hRl
    obtain ⟨w1, hw1⟩ : ∃ w1 : World, w1 = (w.alloc (.cells #[.int .i64 (frm : Int)] 3)).alloc (.cells #[.int .i64 (dst : Int)] 3) := ⟨_, rfl⟩
    have HB1 := Lib.hid (show Below w.heap.size w w1 by rw [hw1]; exact ((Below.refl _ _).alloc (Nat.le_refl _) _).alloc (by simp) _)
    have hz1 : w1.heap.size = w.heap.size + 1 + 1 := by rw [hw1]; simp
    have HZ1 := Lib.hid hz1
    clear hz1
    have HST1 := Lib.hid (HB.out.below HB1.out)
    have HBF := Lib.hid (show w1.heap[w.heap.size]? = some (.cells #[.int .i64 (frm : Int)] 3 (0, 0)) by rw [hw1]; exact (Below.heap_alloc _ _ _ (by simp)).trans (heap_alloc_new _ _))
    have HBT := Lib.hid (show w1.heap[w.heap.size + 1]? = some (.cells #[.int .i64 (dst : Int)] 3 (0, 0)) by rw [hw1]; exact heap_new _ _ _ (by simp))
    have HCL := Lib.hid (show ∀ (u : World) (nd : Int), L.In u nd → u.cell? ⟨L.Bb, 0, none⟩ = some (.int .i64 L.Tm) ∧ u.cell? ⟨L.Bb, 1, none⟩ = some (.int .i64 (L.N : Int)) ∧ u.cell? ⟨L.Bb, 2, none⟩ = some (.int .i64 L.st) ∧ u.cell? ⟨L.Bb, 3, none⟩ = some (.slice L.AR L.nR L.cR) ∧ u.cell? ⟨L.Bb, 4, none⟩ = some (.slice L.AC L.N L.cC) ∧ u.cell? ⟨L.Bb, 6, none⟩ = some (.int .i64 nd) ∧ u.cell? ⟨L.Bb, 7, none⟩ = some (.map (some L.BE)) ∧ u.cell? ⟨L.Bb, 8, none⟩ = some (.map (some L.BD)) from fun u nd hu => by
     have h := hu.box
     exact ⟨by simp [World.cell?, h], by simp [World.cell?, h], by simp [World.cell?, h], by simp [World.cell?, h], by simp [World.cell?, h], by simp [World.cell?, h], by simp [World.cell?, h], by simp [World.cell?, h]⟩)
    have hN10 : L.N ≤ 10 := hL.n
    have heB := entersBuild
    have heN := entersNode
    have heA := entersAt
    obtain ⟨b0, b1, b2, b3, b4, b6, b7, b8⟩ := HCL.out w1 _ HST1.out.inn
    obtain ⟨bc, oc, A2, m2, c2, cc, hAC, hbc, _, hc1, hc2, hcx, hcs⟩ := comp_at HST1.out.inn.of hm
    have HCX := Lib.hid hcx
    have HCS := Lib.hid hcs
    clear hcx hcs
    rw [hAC] at b4
    clear hAC hbc
    rw [hw1] at b0 b1 b2 b3 b4 b6 hc1 hc2
    clear b7 b8
    go_enter Tryz.func15, Tryz.ntmps15
    go_wp2_with fail
    rw [← hw1]
    rw [← hw1] at b0 b1 b2 b3 b4 b6 hc1 hc2
    clear hw1
    have HALL := Lib.hid (show ∀ u : World, Below w1.heap.size w1 u → u.cell? ⟨L.Bb, 0, none⟩ = some (.int .i64 L.Tm) ∧ u.cell? ⟨L.Bb, 1, none⟩ = some (.int .i64 (L.N : Int)) ∧ u.cell? ⟨L.Bb, 2, none⟩ = some (.int .i64 L.st) ∧ u.cell? ⟨L.Bb, 3, none⟩ = some (.slice L.AR L.nR L.cR) ∧ u.cell? ⟨L.Bb, 4, none⟩ = some (.slice (some ⟨bc, oc, none⟩) L.N L.cC) ∧ u.cell? ⟨bc, oc + m * 2, none⟩ = some (.int .i64 cc.1) ∧ u.cell? ⟨bc, oc + m * 2 + 1, none⟩ = some (.slice A2 m2 c2) from fun u hu =>
     ⟨(hu.cell (cell_lt b0)).trans b0, (hu.cell (cell_lt b1)).trans b1, (hu.cell (cell_lt b2)).trans b2, (hu.cell (cell_lt b3)).trans b3, (hu.cell (cell_lt b4)).trans b4, (hu.cell (cell_lt hc1)).trans hc1, (hu.cell (cell_lt hc2)).trans hc2⟩)
    refine wp_region_late (late := []) (S1 := fun u => u.cell? ⟨L.Bb, 0, none⟩ = some (.int .i64 L.Tm) ∧ u.cell? ⟨L.Bb, 1, none⟩ = some (.int .i64 (L.N : Int)) ∧ u.cell? ⟨L.Bb, 2, none⟩ = some (.int .i64 L.st) ∧ u.cell? ⟨L.Bb, 3, none⟩ = some (.slice L.AR L.nR L.cR) ∧ u.cell? ⟨L.Bb, 4, none⟩ = some (.slice (some ⟨bc, oc, none⟩) L.N L.cC) ∧ u.cell? ⟨bc, oc + m * 2, none⟩ = some (.int .i64 cc.1) ∧ u.cell? ⟨bc, oc + m * 2 + 1, none⟩ = some (.slice A2 m2 c2)) (S := fun _ => True) (by kernel_rfl) ?_
    clear b0 b1 b2 b3 b4 b6 hc1 hc2
    refine wpAnyL_pure (i := 0) rfl (by kernel_rfl) (fun _ _ _ h => h) (Or.inl ⟨by rfl, (fun u hu => by obtain ⟨k0, k1, k2, k3, k4, k5, k6⟩ := hu; go_simp; try rfl)⟩) (HALL.out _ (Below.refl _ _).drew) (fun _ => trivial) ?_
    simp only [Act.put, List.setIfInBounds_toArray, List.set_cons_zero, List.set_cons_succ, List.getElem_toArray, List.getElem_cons_zero, List.getElem_cons_succ]
    refine wpAnyL_pure (i := 1) rfl (by kernel_rfl) (fun _ _ _ h => h) (Or.inl ⟨by rfl, (fun u hu => by obtain ⟨k0, k1, k2, k3, k4, k5, k6⟩ := hu; go_simp; try rfl)⟩) (HALL.out _ (Below.refl _ _).drew) (fun _ => trivial) ?_
    simp only [Act.put, List.setIfInBounds_toArray, List.set_cons_zero, List.set_cons_succ, List.getElem_toArray, List.getElem_cons_zero, List.getElem_cons_succ]
    refine wpAnyL_pure (i := 2) rfl (by kernel_rfl) (fun _ _ _ h => h) (Or.inl ⟨by rfl, (fun u hu => by obtain ⟨k0, k1, k2, k3, k4, k5, k6⟩ := hu; go_simp; try rfl)⟩) (HALL.out _ (Below.refl _ _).drew) (fun _ => trivial) ?_
    simp only [Act.put, List.setIfInBounds_toArray, List.set_cons_zero, List.set_cons_succ, List.getElem_toArray, List.getElem_cons_zero, List.getElem_cons_succ]
    refine wpAnyL_pure (i := 3) rfl (by kernel_rfl) (fun _ _ _ h => h) (Or.inl ⟨by rfl, (fun u hu => by obtain ⟨k0, k1, k2, k3, k4, k5, k6⟩ := hu; go_simp; try rfl)⟩) (HALL.out _ (Below.refl _ _).drew) (fun _ => trivial) ?_
    simp only [Act.put, List.setIfInBounds_toArray, List.set_cons_zero, List.set_cons_succ, List.getElem_toArray, List.getElem_cons_zero, List.getElem_cons_succ]
    refine wpAnyL_pure (i := 4) rfl (by kernel_rfl) (fun _ _ _ h => h) (Or.inl ⟨by rfl, (fun u hu => by obtain ⟨k0, k1, k2, k3, k4, k5, k6⟩ := hu; go_simp; try rfl)⟩) (HALL.out _ (Below.refl _ _).drew) (fun _ => trivial) ?_
    simp only [Act.put, List.setIfInBounds_toArray, List.set_cons_zero, List.set_cons_succ, List.getElem_toArray, List.getElem_cons_zero, List.getElem_cons_succ]
    refine wpAnyL_pure (i := 5) rfl (by kernel_rfl) (fun _ _ _ h => h) (Or.inl ⟨by rfl, (fun u hu => by obtain ⟨k0, k1, k2, k3, k4, k5, k6⟩ := hu; go_simp; try rfl)⟩) (HALL.out _ (Below.refl _ _).drew) (fun _ => trivial) ?_
    simp only [Act.put, List.setIfInBounds_toArray, List.set_cons_zero, List.set_cons_succ, List.getElem_toArray, List.getElem_cons_zero, List.getElem_cons_succ]
    refine wpAnyL_pure (i := 6) rfl (by kernel_rfl) (fun _ _ _ h => h) (Or.inl ⟨by rfl, (fun u hu => by obtain ⟨k0, k1, k2, k3, k4, k5, k6⟩ := hu; go_simp; try rfl)⟩) (HALL.out _ (Below.refl _ _).drew) (fun _ => trivial) ?_
    simp only [Act.put, List.setIfInBounds_toArray, List.set_cons_zero, List.set_cons_succ, List.getElem_toArray, List.getElem_cons_zero, List.getElem_cons_succ]
    refine wpAnyL_pure (i := 7) rfl (by kernel_rfl) (fun _ _ _ h => h) (Or.inl ⟨by rfl, (fun u hu => by obtain ⟨k0, k1, k2, k3, k4, k5, k6⟩ := hu; go_simp; try rfl)⟩) (HALL.out _ (Below.refl _ _).drew) (fun _ => trivial) ?_
    simp only [Act.put, List.setIfInBounds_toArray, List.set_cons_zero, List.set_cons_succ, List.getElem_toArray, List.getElem_cons_zero, List.getElem_cons_succ]
    refine wpAnyL_pure (i := 8) rfl (by kernel_rfl) (fun _ _ _ h => h) (Or.inl ⟨by rfl, (fun u hu => by obtain ⟨k0, k1, k2, k3, k4, k5, k6⟩ := hu; go_simp; try rfl)⟩) (HALL.out _ (Below.refl _ _).drew) (fun _ => trivial) ?_
    simp only [Act.put, List.setIfInBounds_toArray, List.set_cons_zero, List.set_cons_succ, List.getElem_toArray, List.getElem_cons_zero, List.getElem_cons_succ]
    refine wpAnyL_pure (i := 9) rfl (by kernel_rfl) (fun _ _ _ h => h) (Or.inl ⟨by rfl, (fun u hu => by obtain ⟨k0, k1, k2, k3, k4, k5, k6⟩ := hu; go_simp; try rfl)⟩) (HALL.out _ (Below.refl _ _).drew) (fun _ => trivial) ?_
    simp only [Act.put, List.setIfInBounds_toArray, List.set_cons_zero, List.set_cons_succ, List.getElem_toArray, List.getElem_cons_zero, List.getElem_cons_succ]
    refine wpAnyL_pure (i := 10) rfl (by kernel_rfl) (fun _ _ _ h => h) (Or.inl ⟨by rfl, (fun u hu => by obtain ⟨k0, k1, k2, k3, k4, k5, k6⟩ := hu; go_simp; try rfl)⟩) (HALL.out _ (Below.refl _ _).drew) (fun _ => trivial) ?_
    simp only [Act.put, List.setIfInBounds_toArray, List.set_cons_zero, List.set_cons_succ, List.getElem_toArray, List.getElem_cons_zero, List.getElem_cons_succ]
    refine wpAnyL_pure (i := 11) rfl (by kernel_rfl) (fun _ _ _ h => h) (Or.inl ⟨by rfl, (fun u hu => by obtain ⟨k0, k1, k2, k3, k4, k5, k6⟩ := hu; go_simp; try rfl)⟩) (HALL.out _ (Below.refl _ _).drew) (fun _ => trivial) ?_
    simp only [Act.put, List.setIfInBounds_toArray, List.set_cons_zero, List.set_cons_succ, List.getElem_toArray, List.getElem_cons_zero, List.getElem_cons_succ]
    refine wpAnyL_ready (rs := [12]) (by kernel_rfl) (by simp) ?_
    refine AllL.cons rfl (fun K hK => ?_) ?_
    ·
     have hb0 : Below w1.heap.size w1 w1.drew := (Below.refl _ _).drew
     go_simp
     refine (apxNet w1.drew L.S L.AR L.nR L.cR L.Tm L.N L.st L.R (HST1.out.inn.rules.below hb0) hL.len hL.nR cc.1 (hL.kind cc (List.mem_of_getElem? HCX.out)) A2 m2 c2 _ cc.2 (HCS.out.below hb0) (by have := HCS.out.len; have := hL.few cc (List.mem_of_getElem? HCX.out); omega) (m : Int)).mono ?_
     rintro e w2 ⟨⟨AP, nP, cP, rfl, hps⟩, hb2⟩
     have HB2 := Lib.hid (hb0.trans hb2)
     clear hb0 hb2
     refine hK.out _ _ (HALL.out _ HB2.out) (fun _ => trivial) ?_
     clear hK K
     refine wpAnyL_pure (i := 13) rfl (by kernel_rfl) (fun _ _ _ h => h) (Or.inl ⟨by rfl, (fun u hu => by obtain ⟨k0, k1, k2, k3, k4, k5, k6⟩ := hu; go_simp; try rfl)⟩) (HALL.out _ HB2.out) (fun _ => trivial) ?_
     simp only [Act.put, List.setIfInBounds_toArray, List.set_cons_zero, List.set_cons_succ, List.getElem_toArray, List.getElem_cons_zero, List.getElem_cons_succ]
     refine wpAnyL_pure (i := 14) rfl (by kernel_rfl) (fun _ _ _ h => h) (Or.inl ⟨by rfl, (fun u hu => by obtain ⟨k0, k1, k2, k3, k4, k5, k6⟩ := hu; go_simp; try rfl)⟩) (HALL.out _ HB2.out) (fun _ => trivial) ?_
     simp only [Act.put, List.setIfInBounds_toArray, List.set_cons_zero, List.set_cons_succ, List.getElem_toArray, List.getElem_cons_zero, List.getElem_cons_succ]
     refine wpAnyL_pure (i := 15) rfl (by kernel_rfl) (fun _ _ _ h => h) (Or.inl ⟨by rfl, (fun u hu => by obtain ⟨k0, k1, k2, k3, k4, k5, k6⟩ := hu; go_simp; try rfl)⟩) (HALL.out _ HB2.out) (fun _ => trivial) ?_
     simp only [Act.put, List.setIfInBounds_toArray, List.set_cons_zero, List.set_cons_succ, List.getElem_toArray, List.getElem_cons_zero, List.getElem_cons_succ]
     refine wpAnyL_pure (i := 16) rfl (by kernel_rfl) (fun _ _ _ h => h) (Or.inl ⟨by rfl, (fun u hu => by obtain ⟨k0, k1, k2, k3, k4, k5, k6⟩ := hu; go_simp; try rfl)⟩) (HALL.out _ HB2.out) (fun _ => trivial) ?_
     simp only [Act.put, List.setIfInBounds_toArray, List.set_cons_zero, List.set_cons_succ, List.getElem_toArray, List.getElem_cons_zero, List.getElem_cons_succ]
     refine wpAnyL_pure (i := 17) rfl (by kernel_rfl) (fun _ _ _ h => h) (Or.inl ⟨by rfl, (fun u hu => by obtain ⟨k0, k1, k2, k3, k4, k5, k6⟩ := hu; go_simp; try rfl)⟩) (HALL.out _ HB2.out) (fun _ => trivial) ?_
     simp only [Act.put, List.setIfInBounds_toArray, List.set_cons_zero, List.set_cons_succ, List.getElem_toArray, List.getElem_cons_zero, List.getElem_cons_succ]
     refine wpAnyL_done (by kernel_rfl) ?_ _
     obtain ⟨ps, hps0⟩ : ∃ ps, ps = netP L.R cc (m : Int) := ⟨_, rfl⟩
     rw [← hps0] at hps
     have hcf : L.cf (m : Int) = cc := Bdr.cf_at HCX.out
     have HPN := Lib.hid (show netP L.R (L.cf (m : Int)) (m : Int) = ps by rw [hps0, hcf])
     have HLP := Lib.hid hps.len
     have hnp := netP_few hL.len (c := cc) (x := (m : Int))
     have hcp := hps.cap
     rw [← hps0, ← hps.len, hL.rl] at hnp
     have hnR := hL.nR
     have hnp1 : nP ≤ 400 := by omega
     have hc20 : netN cc ≤ 20 := by
      have := netN_le cc
      have := hL.few cc (List.mem_of_getElem? HCX.out)
      omega
     have HPS := Lib.hid hps.fit
     obtain ⟨mid, hmid⟩ : ∃ mid : Nat → NfD, mid = midB L.R L.cf (buildN L.R L.cf L.N) (m : Int) frm dst st := ⟨_, rfl⟩
     have HMB := Lib.hid (show ∀ i, MidOk (mid i) ∧ Ext (mid i) fin ∧ st.nodes + netN (L.cf (m : Int)) ≤ (mid i).nodes from fun i => by
      rw [hmid, HFE.out]
      exact mid_ok hL.net hT hL.len HRL.out HMR.out hfrm hdst HMID.out i)
     have HM0 := Lib.hid (show mid 0 = { st with nodes := st.nodes + netN (L.cf (m : Int)) } by rw [hmid]; rfl)
     have HMN := Lib.hid (show ∀ i p, ps[i]? = some p → mid (i + 1) = pathB (buildN L.R L.cf L.N) st.nodes frm dst (mid i) p from fun i p hp => by
      rw [hmid]
      exact midB_succ (by rw [HPN.out]; exact hp))
     have HME := Lib.hid (show mid nP = fin by rw [hmid, HFE.out, buildN_eq hL.net HMR.out, ← midB_all, HPN.out, ← HLP.out])
     have HSY := Lib.hid (show ∀ i p, ps[i]? = some p → ∀ j, j ≤ p.2.2.length → ndAt st.nodes frm dst p.1 < (mid i).nodes ∧ ndAt st.nodes frm dst p.2.1 < (mid i).nodes ∧ (symsB (buildN L.R L.cf L.N) (ndAt st.nodes frm dst p.2.1) p.2.2 (ndAt st.nodes frm dst p.1, mid i) j).1 < (symsB (buildN L.R L.cf L.N) (ndAt st.nodes frm dst p.2.1) p.2.2 (ndAt st.nodes frm dst p.1, mid i) j).2.nodes ∧
         ndAt st.nodes frm dst p.2.1 < (symsB (buildN L.R L.cf L.N) (ndAt st.nodes frm dst p.2.1) p.2.2 (ndAt st.nodes frm dst p.1, mid i) j).2.nodes ∧ MidOk (symsB (buildN L.R L.cf L.N) (ndAt st.nodes frm dst p.2.1) p.2.2 (ndAt st.nodes frm dst p.1, mid i) j).2 ∧ Ext (symsB (buildN L.R L.cf L.N) (ndAt st.nodes frm dst p.2.1) p.2.2 (ndAt st.nodes frm dst p.1, mid i) j).2 fin from fun i p hp j hj => by
      rw [hmid, HFE.out]
      exact mid_syms hL.net hT hL.len HRL.out HMR.out hfrm hdst HMID.out (by rw [HPN.out]; exact hp) hj)
     clear hmid
     have HNC := Lib.hid (show netN (L.cf (m : Int)) = netN cc by rw [hcf])
     have HST2 := Lib.hid (HST1.out.below HB2.out)
     have hnb := HB.out.fb
     have hbx := HB.out.inn
     have hbE : L.Bb < w.heap.size ∧ L.BE < w.heap.size ∧ L.BD < w.heap.size := by
      obtain ⟨FE, FD, l1, l2, h1, h2, _⟩ := HB.out.maps
      exact ⟨heap_lt hbx.box, h1.map.lt, h2.map.lt⟩
     have HNX := Lib.hid (show ∀ b, BX L FB b → b < w.heap.size from fun b hb => by
      rcases hb with e | e | e | e
      ·
       omega
      ·
       omega
      ·
       omega
      ·
       exact (hnb b e).1)
     have HNS := Lib.hid (show ∀ b, L.S b → ¬ BX L FB b from fun b hs hb => by
      rcases hb with e | e | e | e
      ·
       exact (hL.apart b hs).1 e
      ·
       exact (hL.apart b hs).2.2.1 e
      ·
       exact (hL.apart b hs).2.2.2 e
      ·
       exact (hnb b e).2.2.2.2 hs)
     clear hcf hps hps0 hnp hcp hnR hnb hbx HALL HCX HCS
     have hz12 : w1.heap.size ≤ w2.heap.size := HB2.out.size
     have hz01 : w.heap.size + 1 + 1 ≤ w1.heap.size := by rw [HZ1.out]; exact Nat.le_refl _
     have hnd : st.nodes + netN cc ≤ 1000 := by
      obtain ⟨_, h2, h3⟩ := HMB.out 0
      have := h2.nodes
      have := HFI.out
      rw [HNC.out] at h3
      omega
     obtain ⟨cN, hcN⟩ : ∃ cN, cN = netN cc := ⟨_, rfl⟩
     rw [← hcN] at hnd HNC hc20 ⊢
     clear hcN
     obtain ⟨w3, hw3⟩ : ∃ w3 : World, w3 = w2.alloc (.cells #[.int .i64 (st.nodes : Int)] 3) := ⟨_, rfl⟩
     have hb3 : Below w2.heap.size w2 w3 := by rw [hw3]; exact (Below.refl _ _).alloc (Nat.le_refl _) _
     have hst3 := HST2.out.below hb3
     obtain ⟨hfz, hst4, hsp4⟩ := hst3.setN hL (st.nodes + cN)
     obtain ⟨-, -, -, -, -, b6, -, -⟩ := HCL.out w2 _ HST2.out.inn
     obtain ⟨-, -, -, -, -, b6', -, -⟩ := HCL.out w3 _ hst3.inn
     rw [show ((st.nodes + cN : Nat) : Int) = (st.nodes : Int) + (cN : Int) by omega] at hst4 hsp4
     obtain ⟨w4, hw4⟩ : ∃ w4 : World, w4 = w3.setCell ⟨L.Bb, 6, none⟩ (.int .i64 ((st.nodes : Int) + (cN : Int))) := ⟨_, rfl⟩
     rw [← hw4] at hst4 hsp4
     have hz4 : w2.heap.size < w4.heap.size := by rw [hw4, hw3]; simp [World.setCell]
     have HBC := Lib.hid (show w4.heap[w2.heap.size]? = some (.cells #[.int .i64 (st.nodes : Int)] 3 (0, 0)) by
      rw [hw4, Below.heap_setCell _ _ _ _ (by simp; omega), hw3]
      exact heap_alloc_new _ _)
     have HSP24 := Lib.hid ((Stp.below (L := L) (FB := FB) hb3).trans hsp4)
     have HSP14 := Lib.hid ((Stp.below (L := L) (FB := FB) HB2.out).trans HSP24.out)
     have HSP04 := Lib.hid ((Stp.below (L := L) (FB := FB) HB1.out).trans HSP14.out)
     have HBF4 := Lib.hid ((HSP14.out.only.block w.heap.size (by omega) fun h => by have := HNX.out _ h; omega).trans HBF.out)
     have HBT4 := Lib.hid ((HSP14.out.only.block (w.heap.size + 1) (by omega) fun h => by have := HNX.out _ h; omega).trans HBT.out)
     have HPS4 := Lib.hid (show Sl RPath w4 (fun b => b < w4.heap.size ∧ ¬ BX L FB b) AP nP cP ps from (HPS.out.keep (HSP24.out.only.kept fun b hb => by
      rcases hb.1 with h | h
      ·
       exact HNS.out b h.1
      ·
       exact fun hx => by have := HNX.out b hx; have e : w1.drew.heap.size = w1.heap.size := rfl; omega)).more fun b hb => ⟨by omega, by
      rcases hb.1 with h | h
      ·
       exact HNS.out b h.1
      ·
       exact fun hx => by have := HNX.out b hx; have e : w1.drew.heap.size = w1.heap.size := rfl; omega⟩)
     have HST4 := Lib.hid (show Bst L w4 FB (mid 0) from by
      rw [HM0.out, HNC.out]
      exact hst4)
     rw [hw3] at b6' hfz
     clear hb3 hst3 hst4 hsp4
     go_wp2_with fail
     rw [← hw3, ← hw4]
     clear b6 b6' hfz hw3 hw4 hbE
     go_loopg [50] nP (fun gk vi wr => ∃ (i : Nat) (FB2 : Nat → Prop), i ≤ nP ∧ gk = nP - i ∧ vi = .int .i64 i ∧ Bst L wr FB2 (mid i) ∧ Stp L FB w4 FB2 wr)
     case atStart => exact ⟨0, FB, Nat.zero_le _, rfl, rfl, HST4.out, .refl _ _ _⟩
     case round =>
      obtain ⟨i, FB2, hi, hgk, rfl, hst, hsp⟩ := hrel
      have HGK := Lib.hid hgk
      have HS5 := Lib.hid hst
      have HP5 := Lib.hid hsp
      obtain ⟨w5, rfl⟩ : ∃ w5 : World, w5 = wr := ⟨_, rfl⟩
      clear hgk hst hsp
      by_cases hlt : i < nP
      ·
       have hz5 : w4.heap.size ≤ w5.heap.size := HP5.out.only.size
       obtain ⟨bp, op, A3, m3, c3, p, hAP, hbp, _, p0, p1, p2, hpx, hpl⟩ := path_at (HPS4.out.keep (HP5.out.only.kept fun b hb => hb.2)) hlt
       have hpl2 := hpl.more (S' := fun b => b < w5.heap.size ∧ ¬ BX L FB2 b) fun b hb => ⟨by omega, fun hx => by
        rcases hx with e | e | e | e
        ·
         exact hb.2 (.inl e)
        ·
         exact hb.2 (.inr (.inl e))
        ·
         exact hb.2 (.inr (.inr (.inl e)))
        ·
         rcases HP5.out.new b e with e | e
         ·
          exact hb.2 (.inr (.inr (.inr e)))
         ·
          omega⟩
       have HPL := Lib.hid hpl2
       have HLM := Lib.hid hpl.len
       have HPX := Lib.hid hpx
       have HPM := Lib.hid (show p ∈ netP L.R (L.cf (m : Int)) (m : Int) by rw [HPN.out]; exact List.mem_of_getElem? hpx)
       have hmc : m3 ≤ c3 := hpl.cap
       have hm4 : m3 ≤ 4 := by rw [HLM.out]; exact netP_short hL.len HPM.out
       clear hpx hpl hpl2
       have hiI : (i : Int) < (nP : Int) := by omega
       have hi0 : (0 : Int) ≤ (i : Int) := by omega
       have hz1 : ZOk p.1 := by
        have h1 := hL.net.frm (m : Int) p HMR.out HPM.out
        rw [HNC.out] at h1
        unfold ZOk
        omega
       have hz2 : ZOk p.2.1 := by
        have h1 := hL.net.dst (m : Int) p HMR.out HPM.out
        rw [HNC.out] at h1
        unfold ZOk
        omega
       obtain ⟨w6, hw6⟩ : ∃ w6 : World, w6 = w5.alloc (.cells #[.int .i64 p.1, .int .i64 p.2.1, .slice A3 m3 c3] 99) := ⟨_, rfl⟩
       have hb6 : Below w5.heap.size w5 w6 := by rw [hw6]; exact (Below.refl _ _).alloc (Nat.le_refl _) _
       have hz6 : w5.heap.size < w6.heap.size := by rw [hw6]; simp
       have HS6 := Lib.hid (HS5.out.below hb6)
       have HBX6 := Lib.hid (show w6.heap[w5.heap.size]? = some (.cells #[.int .i64 p.1, .int .i64 p.2.1, .slice A3 m3 c3] 99 (0, 0)) by rw [hw6]; exact heap_alloc_new _ _)
       have HB56 := Lib.hid hb6
       have q0 : w6.cell? ⟨w5.heap.size, 0, none⟩ = some (.int .i64 p.1) := by simp [World.cell?, HBX6.out]
       have q1 : w6.cell? ⟨w5.heap.size, 1, none⟩ = some (.int .i64 p.2.1) := by simp [World.cell?, HBX6.out]
       have q2 : w6.cell? ⟨w5.heap.size, 2, none⟩ = some (.slice A3 m3 c3) := by simp [World.cell?, HBX6.out]
       have hbf6 := (hb6.block w.heap.size (by omega)).trans ((HP5.out.only.block w.heap.size (by omega) fun h => by have := HNX.out _ h; omega).trans HBF4.out)
       have hbt6 := (hb6.block (w.heap.size + 1) (by omega)).trans ((HP5.out.only.block (w.heap.size + 1) (by omega) fun h => by have := HNX.out _ h; omega).trans HBT4.out)
       have hbc6 := (hb6.block w2.heap.size (by omega)).trans ((HP5.out.only.block w2.heap.size (by omega) fun h => by have := HNX.out _ h; omega).trans HBC.out)
       have HPQ := Lib.hid (show ∀ (n2 : Nat) (z : Int), ZOk z → Calls Tryz.prog 41 #[.int .i64 z, .pointer (some ⟨w.heap.size, 0, none⟩), .pointer (some ⟨w.heap.size + 1, 0, none⟩), .pointer (some ⟨w2.heap.size, 0, none⟩)] (w6.drewN n2) fun e w' => e = .returned (.int .i64 (ndAt st.nodes frm dst z : Int)) ∧ w' = w6.drewN n2 from fun n2 z hz =>
        apxAt (w6.drewN n2) _ _ _ frm dst st.nodes z hz.1 (by simp [World.cell?, hbf6]) (by simp [World.cell?, hbt6]) (by simp [World.cell?, hbc6]) ⟨hz.2, by omega⟩)
       clear hbf6 hbt6 hbc6
       subst hAP
       rw [hw6] at q0 q1 q2
       go_wp2_with fail
       rw [← hw6]
       rw [← hw6] at q0 q1 q2
       clear p0 p1 p2 hw6
       go_quiet ((go_at_fn 41; refine Calls.quiet_of_same (HPQ.out _ _ ?_); assumption))
       obtain ⟨w7, hw7⟩ : ∃ w7 : World, w7 = w6.drewN nq := ⟨_, rfl⟩
       have hb7 : Below w6.heap.size w6 w7 := by rw [hw7]; exact belowN (Below.refl _ _) nq
       have HS7 := Lib.hid (HS6.out.below hb7)
       have HBX7 := Lib.hid ((hb7.block _ hz6).trans HBX6.out)
       have HP57 := Lib.hid (HB56.out.trans (hb7.mono (by omega)))
       have hz7 : w5.heap.size < w7.heap.size := Nat.lt_of_lt_of_le hz6 hb7.size
       rw [← hw7]
       clear hw7 hb7 q0 q1 q2 HPQ hz1 hz2
       obtain ⟨xN, hxN⟩ : ∃ xN, xN = ndAt st.nodes frm dst p.1 := ⟨_, rfl⟩
       obtain ⟨yN, hyN⟩ : ∃ yN, yN = ndAt st.nodes frm dst p.2.1 := ⟨_, rfl⟩
       have HXN := Lib.hid hxN
       have HYN := Lib.hid hyN
       rw [← hxN, ← hyN]
       clear hxN hyN
       have q2 : w7.cell? ⟨w5.heap.size, 2, none⟩ = some (.slice A3 m3 c3) := by simp [World.cell?, HBX7.out]
       obtain ⟨hx1, hy1, -, -, hmo, hxt⟩ := HSY.out i p HPX.out 0 (Nat.zero_le _)
       rw [← HXN.out] at hx1
       rw [← HYN.out] at hy1
       have hmb := (HMB.out i).2.1.nodes
       have hfi := HFI.out
       have hx3 : xN ≤ 1000 := by omega
       have hy3 : yN ≤ 1000 := by omega
       clear hmo hxt hmb hfi hx1 hy1
       rcases Nat.eq_zero_or_pos m3 with rfl | hmp
       ·
        --@5
        go_wp2_with fail
        have hsb := HS7.out.below (Below.refl _ w7).drew
        have hep : (mid i).eps.length ≤ 1000000 := by
         obtain ⟨h1, h2, _⟩ := HMB.out i
         have := h1.few
         have := h2.nodes
         have := HFI.out
         omega
        obtain ⟨l1, n0, A0, c0, hm1, hl1, hvO, A', c', u', hrun, hm2, hbb, hfin⟩ := hsb.pushE hL hep xN yN
        have HVO := Lib.hid hvO
        have HM1 := Lib.hid hm1
        have HM2 := Lib.hid hm2
        have HFIN := Lib.hid hfin
        have HRUN := Lib.hid hrun
        have HBB := Lib.hid hbb
        have HL1 := Lib.hid hl1
        have HKO := Lib.hid (ki_ok (x := xN) (by omega))
        obtain ⟨-, -, -, -, -, -, b7, -⟩ := HCL.out w7 _ HS7.out.inn
        have HB7 := Lib.hid b7
        clear hm1 hm2 hfin hrun hbb hl1 hsb b7 hvO
        refine wp_region_late (late := [14]) (S1 := fun u => u.cell? ⟨L.Bb, 7, none⟩ = some (.map (some L.BE))) (S := fun u => AMap KNat u L.BE l1) (by kernel_rfl) ?_
        clear q2
        refine wpAnyL_pure (i := 0) rfl (by kernel_rfl) (fun _ _ _ h => h) (Or.inl ⟨by rfl, (fun u hu => by go_simp; try rfl)⟩) HB7.out (fun _ => HM1.out) ?_
        simp only [Act.put, List.setIfInBounds_toArray, List.set_cons_zero, List.set_cons_succ, List.getElem_toArray, List.getElem_cons_zero, List.getElem_cons_succ]
        refine wpAnyL_pure (i := 1) rfl (by kernel_rfl) (fun _ _ _ h => h) (Or.inl ⟨by rfl, (fun u hu => by go_simp; try rfl)⟩) HB7.out (fun _ => HM1.out) ?_
        simp only [Act.put, List.setIfInBounds_toArray, List.set_cons_zero, List.set_cons_succ, List.getElem_toArray, List.getElem_cons_zero, List.getElem_cons_succ]
        refine wpAnyL_pure (i := 2) rfl (by kernel_rfl) (fun _ _ _ h => h) (Or.inl ⟨by rfl, (fun u hu => by go_simp; try rfl)⟩) HB7.out (fun _ => HM1.out) ?_
        simp only [Act.put, List.setIfInBounds_toArray, List.set_cons_zero, List.set_cons_succ, List.getElem_toArray, List.getElem_cons_zero, List.getElem_cons_succ]
        refine wpAnyL_pure (i := 3) rfl (by kernel_rfl) (fun _ _ _ h => h) (Or.inl ⟨by rfl, (fun u hu => by go_simp; try rfl)⟩) HB7.out (fun _ => HM1.out) ?_
        simp only [Act.put, List.setIfInBounds_toArray, List.set_cons_zero, List.set_cons_succ, List.getElem_toArray, List.getElem_cons_zero, List.getElem_cons_succ]
        refine wpAnyL_pure (i := 4) rfl (by kernel_rfl) (fun _ _ _ h => h) (Or.inl ⟨by rfl, (fun u hu => by go_simp; try rfl)⟩) HB7.out (fun _ => HM1.out) ?_
        simp only [Act.put, List.setIfInBounds_toArray, List.set_cons_zero, List.set_cons_succ, List.getElem_toArray, List.getElem_cons_zero, List.getElem_cons_succ]
        refine wpAnyL_pure (i := 5) rfl (by kernel_rfl) (fun _ _ _ h => h) (Or.inl ⟨by rfl, (fun u hu => by go_simp; try rfl)⟩) HB7.out (fun _ => HM1.out) ?_
        simp only [Act.put, List.setIfInBounds_toArray, List.set_cons_zero, List.set_cons_succ, List.getElem_toArray, List.getElem_cons_zero, List.getElem_cons_succ]
        refine wpAnyL_pure (i := 6) rfl (by kernel_rfl) (fun _ _ _ h => h) (Or.inl ⟨by rfl, (fun u hu => by go_simp; try rfl)⟩) HB7.out (fun _ => HM1.out) ?_
        simp only [Act.put, List.setIfInBounds_toArray, List.set_cons_zero, List.set_cons_succ, List.getElem_toArray, List.getElem_cons_zero, List.getElem_cons_succ]
        refine wpAnyL_pure (i := 7) rfl (by kernel_rfl) (fun _ _ _ h => h) (Or.inl ⟨by rfl, (fun u hu => by go_simp; try rfl)⟩) HB7.out (fun _ => HM1.out) ?_
        simp only [Act.put, List.setIfInBounds_toArray, List.set_cons_zero, List.set_cons_succ, List.getElem_toArray, List.getElem_cons_zero, List.getElem_cons_succ]
        refine wpAnyL_pure (i := 8) rfl (by kernel_rfl) (fun _ _ _ h => h) (Or.inl ⟨by rfl, (fun u hu => by go_simp; try rfl)⟩) HB7.out (fun _ => HM1.out) ?_
        simp only [Act.put, List.setIfInBounds_toArray, List.set_cons_zero, List.set_cons_succ, List.getElem_toArray, List.getElem_cons_zero, List.getElem_cons_succ]
        refine wpAnyL_pure (i := 9) rfl (by kernel_rfl) (fun _ _ _ h => h) (Or.inl ⟨by rfl, (fun u hu => by go_simp; try rfl)⟩) HB7.out (fun _ => HM1.out) ?_
        simp only [Act.put, List.setIfInBounds_toArray, List.set_cons_zero, List.set_cons_succ, List.getElem_toArray, List.getElem_cons_zero, List.getElem_cons_succ]
        refine wpAnyL_take (i := 10) (v := .slice A0 n0 c0) rfl (by kernel_rfl) (fun _ _ _ h => h) (Or.inl ⟨by rfl, (fun u hu => by have hrun : (Instr.lookup 51 (.map (some L.BE)) (.int .i64 (xN : Int)) false).run Tryz.prog u = .ok (.slice A0 n0 c0) u := (AMap.look (K := KNat) hu.2 mapEps zeroInts HKO.out).trans (by rw [← HVO.out]; rfl); go_simp; try rfl)⟩) HB7.out (fun _ => HM1.out) ?_
        simp only [Act.put, List.setIfInBounds_toArray, List.set_cons_zero, List.set_cons_succ, List.getElem_toArray, List.getElem_cons_zero, List.getElem_cons_succ]
        refine wpAnyL_pure (i := 11) rfl (by kernel_rfl) (fun _ _ _ h => h) (Or.inl ⟨by rfl, (fun u hu => by go_simp; try rfl)⟩) HB7.out (fun _ => HM1.out) ?_
        simp only [Act.put, List.setIfInBounds_toArray, List.set_cons_zero, List.set_cons_succ, List.getElem_toArray, List.getElem_cons_zero, List.getElem_cons_succ]
        refine wpAnyL_ready (rs := [12]) (by kernel_rfl) (by simp) ?_
        refine AllL.cons rfl (fun K hK => ?_) ?_
        ·
         go_simp
         refine hK.out _ _ ((((Below.refl _ w7).drew.alloc (by simp) _).cell (cell_lt HB7.out)).trans HB7.out) (fun _ => (HM1.out.alloc _)) ?_
         clear hK K
         refine wpAnyL_ready (rs := [13]) (by kernel_rfl) (by simp) ?_
         refine AllL.cons rfl (fun K hK => ?_) ?_
         ·
          have hrun : (Builtin.append_ #[22, 22] 22 #[.slice A0 n0 c0, .slice (some ⟨w7.heap.size, 0, none⟩) 1 1]).run Tryz.prog (w7.alloc (.cells #[.int .i64 (yN : Int)] 3)).drew = .ok (.slice A' (n0 + 1) c') u' := HRUN.out
          refine step_append_run _ (by rfl) _ _ _ _ (by rfl) _ _ (by rfl) (by rfl) _ _ hrun ?_
          simp only [Act.put, List.setIfInBounds_toArray, List.set_cons_zero, List.set_cons_succ, List.getElem_toArray, List.getElem_cons_zero, List.getElem_cons_succ]
          refine hK.out _ _ HBB.out (fun _ => HM2.out) ?_
          clear hK K
          refine wpAnyL_ready (rs := [14]) (by kernel_rfl) (by simp) ?_
          refine AllL.cons rfl (fun K hK => ?_) ?_
          ·
           refine step_map_put _ (by rfl) _ _ _ 51 (by rfl) 22 mapEps L.BE _ (by rfl) HM2.out (xN : Int) (by rfl) HKO.out (.slice A' (n0 + 1) c') (by rfl) HL1.out ?_
           intro w9 hm9 hg9
           obtain ⟨FB9, hst9, hsp9⟩ := HFIN.out w9 hm9 hg9
           have HS9 := Lib.hid hst9
           have HP9 := Lib.hid ((Stp.below (L := L) (FB := FB2) (Below.refl _ w7).drew).trans hsp9)
           have HB9 := Lib.hid (HCL.out w9 _ hst9.inn).2.2.2.2.2.2.1
           clear hm9 hg9 hst9 hsp9
           refine hK.out _ _ HB9.out (fun h => absurd (h 14 (by simp)) (by decide)) ?_
           clear hK K
           refine wpAnyL_done (by kernel_rfl) ?_ _
           have hpe : p.2.2 = [] := List.eq_nil_of_length_eq_zero HLM.out.symm
           have hnx : mid (i + 1) = { mid i with eps := (mid i).eps ++ [(xN, yN)] } := by
            rw [HMN.out i p HPX.out]
            unfold pathB
            rw [if_pos hpe, ← HXN.out, ← HYN.out]
           have HNXT := Lib.hid hnx
           have hbx9 := (HP9.out.only.block w5.heap.size hz7 fun h => by
            rcases h with e | e | e | e
            ·
             have := (HS5.out.inn.box); have := heap_lt this; omega
            ·
             obtain ⟨FE, FD, l1, l2, h1, h2, _⟩ := HS5.out.maps; have := h1.map.lt; omega
            ·
             obtain ⟨FE, FD, l1, l2, h1, h2, _⟩ := HS5.out.maps; have := h2.map.lt; omega
            ·
             have := (HS5.out.fb _ e).1; omega).trans HBX7.out
           have q2 : w9.cell? ⟨w5.heap.size, 2, none⟩ = some (.slice A3 0 c3) := by simp [World.cell?, hbx9]
           clear hpe hnx hbx9
           go_wp2_with fail
           go_loopg [14, 83] 0 (fun gk va vi wr => va = .int .i64 (xN : Int) ∧ vi = .int .i64 0 ∧ wr = w9)
           case atStart => exact ⟨rfl, rfl, rfl⟩
           case round =>
            obtain ⟨rfl, rfl, rfl⟩ := hrel
            go_wp2_with fail
            go_roundg (nP - (i + 1))
            case measure => rw [HGK.out]; omega
            case rel =>
             refine ⟨i + 1, FB9, by omega, rfl, by go_num, ?_, (HP5.out.trans (Stp.below HP57.out)).trans HP9.out⟩
             rw [HNXT.out]
             exact HS9.out
          exact AllL.nil
         exact AllL.nil
        exact AllL.nil
       ·
        have hne : ¬ m3 = 0 := by omega
        have hne1 : ((m3 : Int) == 0) = false := by simp; omega
        have hne2 : decide ((m3 : Int) = 0) = false := by simp; omega
        go_wp2_with fail
        clear hne hne1 hne2 q2
        obtain ⟨sy, hsy⟩ : ∃ sy : Nat → Nat × NfD, sy = symsB (buildN L.R L.cf L.N) yN p.2.2 (xN, mid i) := ⟨_, rfl⟩
        have HSY1 := Lib.hid (show ∀ j, j ≤ m3 → (sy j).1 < (sy j).2.nodes ∧ yN < (sy j).2.nodes ∧ MidOk (sy j).2 ∧ Ext (sy j).2 fin from fun j hj => by
         have h := HSY.out i p HPX.out j (by rw [← HLM.out]; exact hj)
         rw [← HXN.out, ← HYN.out, ← hsy] at h
         exact h.2.2)
        have HSY0 := Lib.hid (show sy 0 = (xN, mid i) by rw [hsy]; rfl)
        have HSYS := Lib.hid (show ∀ q s, p.2.2[q]? = some s → sy (q + 1) = symB (buildN L.R L.cf L.N) m3 yN (sy q) q s from fun q s hs => by
         rw [hsy, HLM.out]
         exact symsB_next hs)
        have HSYE := Lib.hid (show mid (i + 1) = (sy m3).2 by
         rw [HMN.out i p HPX.out, hsy]
         unfold pathB
         rw [if_neg (fun e => by have := HLM.out; rw [e] at this; simp at this; omega), ← HXN.out, ← HYN.out, ← HLM.out])
        clear hsy
        go_loopg [14, 83] m3 (fun gl va vi wy => ∃ (q : Nat) (FB3 : Nat → Prop), q ≤ m3 ∧ gl = m3 - q ∧ vi = .int .i64 q ∧ va = .int .i64 ((sy q).1 : Int) ∧ Bst L wy FB3 (sy q).2 ∧ Stp L FB2 w7 FB3 wy)
        case atStart => exact ⟨0, FB2, Nat.zero_le _, rfl, rfl, by rw [HSY0.out], by rw [HSY0.out]; exact HS7.out, .refl _ _ _⟩
        case round =>
         obtain ⟨q, FB3, hq, hgl, rfl, rfl, hst, hsp⟩ := hrel
         have HGL := Lib.hid hgl
         have HS8 := Lib.hid hst
         have HP8 := Lib.hid hsp
         obtain ⟨w8, rfl⟩ : ∃ w8 : World, w8 = wr := ⟨_, rfl⟩
         clear hgl hst hsp
         have hz8 : w7.heap.size ≤ w8.heap.size := HP8.out.only.size
         have hbx8 := (HP8.out.only.block w5.heap.size hz7 (HS5.out.off _ (Nat.le_refl _))).trans HBX7.out
         have HBX8 := Lib.hid hbx8
         clear hbx8
         obtain ⟨h3, h4, h5, h6⟩ := HSY1.out q hq
         have h7 := h6.nodes
         have h8 := HFI.out
         by_cases hlq : q < m3
         ·
          obtain ⟨bs, os, s, hA3, hbs, _, hs1, hs2, hs⟩ := sym_at (HPL.out.keep ((Kept.below HP57.out).trans (HP8.out.only.kept fun b hb => hb.2))) hlq
          obtain ⟨tm, xI⟩ := s
          have hsx := HSYS.out q _ hs
          have k7 := (HSY1.out (q + 1) hlq).2.2.2.nodes
          have HS := Lib.hid hs
          have HK7 := Lib.hid k7
          have HSX := Lib.hid hsx
          clear hs hsx k7 h6
          obtain ⟨sq, hsq⟩ : ∃ sq, sq = sy q := ⟨_, rfl⟩
          rw [← hsq] at HS8 h3 h4 h5 h7 HSX ⊢
          obtain ⟨xq, sq⟩ := sq
          simp only at HS8 h3 h4 h5 h7 HSX ⊢
          have HMQ := Lib.hid h5
          clear hsq h5
          have hqI : (q : Int) < (m3 : Int) := by omega
          have hq0 : (0 : Int) ≤ (q : Int) := by omega
          obtain ⟨w9, hw9⟩ : ∃ w9 : World, w9 = w8.alloc (.cells #[.bool tm, .int .i64 xI] 45) := ⟨_, rfl⟩
          have hb9 : Below w8.heap.size w8 w9 := by rw [hw9]; exact (Below.refl _ _).alloc (Nat.le_refl _) _
          have hz9 : w8.heap.size < w9.heap.size := by rw [hw9]; simp
          have HS9 := Lib.hid (HS8.out.below hb9)
          have HP9 := Lib.hid (HP8.out.trans (Stp.below hb9))
          have HSB9 := Lib.hid (show w9.heap[w8.heap.size]? = some (.cells #[.bool tm, .int .i64 xI] 45 (0, 0)) by rw [hw9]; exact heap_alloc_new _ _)
          have HBX9 := Lib.hid ((hb9.block _ (by omega)).trans HBX8.out)
          have HNB8 := Lib.hid (show ¬ BX L FB3 w8.heap.size from HS8.out.off _ (Nat.le_refl _))
          have ks0 : w9.cell? ⟨w8.heap.size, 0, none⟩ = some (.bool tm) := by simp [World.cell?, HSB9.out]
          have ks1 : w9.cell? ⟨w8.heap.size, 1, none⟩ = some (.int .i64 xI) := by simp [World.cell?, HSB9.out]
          have q2 : w9.cell? ⟨w5.heap.size, 2, none⟩ = some (.slice A3 m3 c3) := by simp [World.cell?, HBX9.out]
          have q2' : w8.cell? ⟨w5.heap.size, 2, none⟩ = some (.slice A3 m3 c3) := by simp [World.cell?, HBX8.out]
          have hlen : w8.heap.size ≤ w9.heap.size := by omega
          subst hA3
          rw [hw9] at ks0 ks1 q2
          by_cases hqm : q + 1 < m3
          ·
           have hqm1 : (q : Int) + 1 < (m3 : Int) := by omega
           go_wp2_with fail
           rw [← hw9]
           rw [← hw9] at ks0 ks1 q2
           clear hw9 hb9 hs1 hs2 q2'
           refine (apxNode L hL w9 FB3 sq HS9.out (by omega)).mono ?_
           rintro e w10 ⟨rfl, hs10, hp10⟩
           have HS10 := Lib.hid hs10
           have HP10 := Lib.hid (HP9.out.trans hp10)
           have HSB10 := Lib.hid ((hp10.only.block _ hz9 HNB8.out).trans HSB9.out)
           have hz10 : w8.heap.size < w10.heap.size := Nat.lt_of_lt_of_le hz9 hp10.only.size
           have ks0 : w10.cell? ⟨w8.heap.size, 0, none⟩ = some (.bool tm) := by simp [World.cell?, HSB10.out]
           have ks1 : w10.cell? ⟨w8.heap.size, 1, none⟩ = some (.int .i64 xI) := by simp [World.cell?, HSB10.out]
           have HNX1 := Lib.hid (show sy (q + 1) = (sq.nodes, putB (buildN L.R L.cf L.N) xq sq.nodes (tm, xI) { sq with nodes := sq.nodes + 1 }) by
            rw [HSX.out]
            unfold symB
            rw [if_pos hqm])
           have hN1 := HK7.out
           rw [HNX1.out] at hN1
           simp only at hN1
           have HN1 := Lib.hid hN1
           obtain ⟨yq, hyq⟩ : ∃ yq, yq = sq.nodes := ⟨_, rfl⟩
           obtain ⟨s1, hs1⟩ : ∃ s1 : NfD, s1 = { sq with nodes := sq.nodes + 1 } := ⟨_, rfl⟩
           have hx1 : xq < s1.nodes := by rw [hs1]; simp only; omega
           have hy1 : yq < s1.nodes := by rw [hs1, hyq]; simp
           have hmi1 : MidOk s1 := by rw [hs1]; exact HMQ.out.node
           have hsn : s1.nodes ≤ 1000 := by
            have h8' := (Ext.put (rec := buildN L.R L.cf L.N) (fun n x y st => Ext.build L.R L.cf L.N n x y st) xq sq.nodes (tm, xI) { sq with nodes := sq.nodes + 1 }).nodes
            rw [hs1]
            exact Nat.le_trans h8' (Nat.le_trans hN1 h8)
           have HMI := Lib.hid hmi1
           have HS1 := Lib.hid (show Bst L w10 FB3 s1 by rw [hs1]; exact HS10.out)
           rw [← hs1, ← hyq] at HNX1 HN1
           rw [← hyq]
           clear hs10 hp10 hs1 hyq hN1 hmi1 HS10
           have HREL := Lib.hid (show ∀ (w11 : World) (FB11 : Nat → Prop), Bst L w11 FB11 (putB (buildN L.R L.cf L.N) xq yq (tm, xI) s1) → Stp L FB3 w10 FB11 w11 → m3 - (q + 1) < gk ∧ ∃ (q' : Nat) (FB' : Nat → Prop), q' ≤ m3 ∧ m3 - (q + 1) = m3 - q' ∧ Value.int .i64 ((q : Int) + 1) = .int .i64 q' ∧ Value.int .i64 (yq : Int) = .int .i64 ((sy q').1 : Int) ∧ Bst L w11 FB' (sy q').2 ∧ Stp L FB2 w7 FB' w11 from fun w11 FB11 h1 h2 => ⟨by rw [HGL.out]; omega, q + 1, FB11, by omega, rfl, by go_num, by rw [HNX1.out], by rw [HNX1.out]; exact h1, HP10.out.trans h2⟩)
           cases tm with
           | true =>
            have hsb := HS1.out.below (Below.refl _ w10).drew
            have hep : s1.edges.length ≤ 1000000 := by have := HMI.out.few; omega
            obtain ⟨l2, n0, A0, c0, hm1, hl1, hvO, A', c', u', hrun, hm2, hbb, hou, hfin⟩ := hsb.pushD hL hep xq xI yq
            have HVO := Lib.hid hvO
            have HM1 := Lib.hid hm1
            have HM2 := Lib.hid hm2
            have HFIN := Lib.hid hfin
            have HRUN := Lib.hid hrun
            have HL1 := Lib.hid hl1
            have HKO := Lib.hid (ki_ok (x := xq) (by omega))
            obtain ⟨-, -, -, -, -, -, -, b8⟩ := HCL.out w10 _ HS1.out.inn
            have HBS := Lib.hid (show u'.cell? ⟨L.Bb, 8, none⟩ = some (.map (some L.BD)) ∧ u'.cell? ⟨w8.heap.size, 1, none⟩ = some (.int .i64 xI) from ⟨hbb, by
             have := (hou.block w8.heap.size hz10 fun h => HNB8.out (.inr (.inr (.inr h)))).trans HSB10.out
             simp [World.cell?, this]⟩)
            have ks2 : w10.cell? ⟨w8.heap.size, 1, none⟩ = some (.int .i64 xI) := by simp [World.cell?, HSB10.out]
            have HB0 := Lib.hid (show ∀ u : World, Below w10.heap.size w10 u → u.cell? ⟨L.Bb, 8, none⟩ = some (.map (some L.BD)) ∧ u.cell? ⟨w8.heap.size, 1, none⟩ = some (.int .i64 xI) from fun u hu => ⟨(hu.cell (cell_lt b8)).trans b8, (hu.cell (cell_lt ks2)).trans ks2⟩)
            have HSBX := Lib.hid HSB10.out
            clear hm1 hm2 hfin hrun hbb hl1 hsb b8 hvO hou hep ks2
            clear IH HK HB HMID HFI HRL HMR HB1 HST1 HBF HBT HB2 HPN HLP HPS HMB HSY HNC HST2 HNX HNS HSP24 HSP14 HSP04 HBC HBF4 HBT4 HPS4 HST4 HGK HS5 HP5 HPL HLM HPX HS6 HBX6 HB56 HS7 HBX7 HP57 HXN HYN HGL HS8 HP8 HBX8 HS HSX HK7 HMQ HS9 HP9 HBX9 HNX1 HN1 HZ1 HFE HM0 HMN HME HPM HSY1 HSY0 HSYS HSYE
            go_wp2_with fail
            refine wp_region_late (late := [17]) (S1 := fun u => u.cell? ⟨L.Bb, 8, none⟩ = some (.map (some L.BD)) ∧ u.cell? ⟨w8.heap.size, 1, none⟩ = some (.int .i64 xI)) (S := fun u => AMap KNat u L.BD l2) (by kernel_rfl) ?_
            clear ks0 ks1
            refine wpAnyL_pure (i := 0) rfl (by kernel_rfl) (fun _ _ _ h => h) (Or.inl ⟨by rfl, (fun u hu => by obtain ⟨k0, k1⟩ := hu; go_simp; try rfl)⟩) (HB0.out _ (Below.refl _ _).drew) (fun _ => HM1.out) ?_
            simp only [Act.put, List.setIfInBounds_toArray, List.set_cons_zero, List.set_cons_succ, List.getElem_toArray, List.getElem_cons_zero, List.getElem_cons_succ]
            refine wpAnyL_pure (i := 1) rfl (by kernel_rfl) (fun _ _ _ h => h) (Or.inl ⟨by rfl, (fun u hu => by obtain ⟨k0, k1⟩ := hu; go_simp; try rfl)⟩) (HB0.out _ (Below.refl _ _).drew) (fun _ => HM1.out) ?_
            simp only [Act.put, List.setIfInBounds_toArray, List.set_cons_zero, List.set_cons_succ, List.getElem_toArray, List.getElem_cons_zero, List.getElem_cons_succ]
            refine wpAnyL_pure (i := 2) rfl (by kernel_rfl) (fun _ _ _ h => h) (Or.inl ⟨by rfl, (fun u hu => by obtain ⟨k0, k1⟩ := hu; go_simp; try rfl)⟩) (HB0.out _ (Below.refl _ _).drew) (fun _ => HM1.out) ?_
            simp only [Act.put, List.setIfInBounds_toArray, List.set_cons_zero, List.set_cons_succ, List.getElem_toArray, List.getElem_cons_zero, List.getElem_cons_succ]
            refine wpAnyL_pure (i := 3) rfl (by kernel_rfl) (fun _ _ _ h => h) (Or.inl ⟨by rfl, (fun u hu => by obtain ⟨k0, k1⟩ := hu; go_simp; try rfl)⟩) (HB0.out _ (Below.refl _ _).drew) (fun _ => HM1.out) ?_
            simp only [Act.put, List.setIfInBounds_toArray, List.set_cons_zero, List.set_cons_succ, List.getElem_toArray, List.getElem_cons_zero, List.getElem_cons_succ]
            refine wpAnyL_pure (i := 4) rfl (by kernel_rfl) (fun _ _ _ h => h) (Or.inl ⟨by rfl, (fun u hu => by obtain ⟨k0, k1⟩ := hu; go_simp; try rfl)⟩) (HB0.out _ (Below.refl _ _).drew) (fun _ => HM1.out) ?_
            simp only [Act.put, List.setIfInBounds_toArray, List.set_cons_zero, List.set_cons_succ, List.getElem_toArray, List.getElem_cons_zero, List.getElem_cons_succ]
            refine wpAnyL_pure (i := 5) rfl (by kernel_rfl) (fun _ _ _ h => h) (Or.inl ⟨by rfl, (fun u hu => by obtain ⟨k0, k1⟩ := hu; go_simp; try rfl)⟩) (HB0.out _ (Below.refl _ _).drew) (fun _ => HM1.out) ?_
            simp only [Act.put, List.setIfInBounds_toArray, List.set_cons_zero, List.set_cons_succ, List.getElem_toArray, List.getElem_cons_zero, List.getElem_cons_succ]
            refine wpAnyL_pure (i := 6) rfl (by kernel_rfl) (fun _ _ _ h => h) (Or.inl ⟨by rfl, (fun u hu => by obtain ⟨k0, k1⟩ := hu; go_simp; try rfl)⟩) (HB0.out _ (Below.refl _ _).drew) (fun _ => HM1.out) ?_
            simp only [Act.put, List.setIfInBounds_toArray, List.set_cons_zero, List.set_cons_succ, List.getElem_toArray, List.getElem_cons_zero, List.getElem_cons_succ]
            refine wpAnyL_pure (i := 7) rfl (by kernel_rfl) (fun _ _ _ h => h) (Or.inl ⟨by rfl, (fun u hu => by obtain ⟨k0, k1⟩ := hu; go_simp; try rfl)⟩) (HB0.out _ (Below.refl _ _).drew) (fun _ => HM1.out) ?_
            simp only [Act.put, List.setIfInBounds_toArray, List.set_cons_zero, List.set_cons_succ, List.getElem_toArray, List.getElem_cons_zero, List.getElem_cons_succ]
            refine wpAnyL_pure (i := 8) rfl (by kernel_rfl) (fun _ _ _ h => h) (Or.inl ⟨by rfl, (fun u hu => by obtain ⟨k0, k1⟩ := hu; go_simp; try rfl)⟩) (HB0.out _ (Below.refl _ _).drew) (fun _ => HM1.out) ?_
            simp only [Act.put, List.setIfInBounds_toArray, List.set_cons_zero, List.set_cons_succ, List.getElem_toArray, List.getElem_cons_zero, List.getElem_cons_succ]
            refine wpAnyL_pure (i := 9) rfl (by kernel_rfl) (fun _ _ _ h => h) (Or.inl ⟨by rfl, (fun u hu => by obtain ⟨k0, k1⟩ := hu; go_simp; try rfl)⟩) (HB0.out _ (Below.refl _ _).drew) (fun _ => HM1.out) ?_
            simp only [Act.put, List.setIfInBounds_toArray, List.set_cons_zero, List.set_cons_succ, List.getElem_toArray, List.getElem_cons_zero, List.getElem_cons_succ]
            refine wpAnyL_take (i := 10) (v := .slice A0 n0 c0) rfl (by kernel_rfl) (fun _ _ _ h => h) (Or.inl ⟨by rfl, (fun u hu => by have hrun : (Instr.lookup 52 (.map (some L.BD)) (.int .i64 (xq : Int)) false).run Tryz.prog u = .ok (.slice A0 n0 c0) u := (AMap.look (K := KNat) hu.2 mapEdges zeroPairs HKO.out).trans (by rw [← HVO.out]; rfl); go_simp; try rfl)⟩) (HB0.out _ (Below.refl _ _).drew) (fun _ => HM1.out) ?_
            simp only [Act.put, List.setIfInBounds_toArray, List.set_cons_zero, List.set_cons_succ, List.getElem_toArray, List.getElem_cons_zero, List.getElem_cons_succ]
            refine wpAnyL_pure (i := 11) rfl (by kernel_rfl) (fun _ _ _ h => h) (Or.inl ⟨by rfl, (fun u hu => by obtain ⟨k0, k1⟩ := hu; go_simp; try rfl)⟩) (HB0.out _ (Below.refl _ _).drew) (fun _ => HM1.out) ?_
            simp only [Act.put, List.setIfInBounds_toArray, List.set_cons_zero, List.set_cons_succ, List.getElem_toArray, List.getElem_cons_zero, List.getElem_cons_succ]
            refine wpAnyL_pure (i := 12) rfl (by kernel_rfl) (fun _ _ _ h => h) (Or.inl ⟨by rfl, (fun u hu => by obtain ⟨k0, k1⟩ := hu; go_simp; try rfl)⟩) (HB0.out _ (Below.refl _ _).drew) (fun _ => HM1.out) ?_
            simp only [Act.put, List.setIfInBounds_toArray, List.set_cons_zero, List.set_cons_succ, List.getElem_toArray, List.getElem_cons_zero, List.getElem_cons_succ]
            refine wpAnyL_pure (i := 13) rfl (by kernel_rfl) (fun _ _ _ h => h) (Or.inl ⟨by rfl, (fun u hu => by obtain ⟨k0, k1⟩ := hu; go_simp; try rfl)⟩) (HB0.out _ (Below.refl _ _).drew) (fun _ => HM1.out) ?_
            simp only [Act.put, List.setIfInBounds_toArray, List.set_cons_zero, List.set_cons_succ, List.getElem_toArray, List.getElem_cons_zero, List.getElem_cons_succ]
            refine wpAnyL_pure (i := 14) rfl (by kernel_rfl) (fun _ _ _ h => h) (Or.inl ⟨by rfl, (fun u hu => by obtain ⟨k0, k1⟩ := hu; go_simp; try rfl)⟩) (HB0.out _ (Below.refl _ _).drew) (fun _ => HM1.out) ?_
            simp only [Act.put, List.setIfInBounds_toArray, List.set_cons_zero, List.set_cons_succ, List.getElem_toArray, List.getElem_cons_zero, List.getElem_cons_succ]
            refine wpAnyL_ready (rs := [15]) (by kernel_rfl) (by simp) ?_
            refine AllL.cons rfl (fun K hK => ?_) ?_
            ·
             go_simp
             refine hK.out _ _ (HB0.out _ ((Below.refl _ w10).drew.alloc (by simp) _)) (fun _ => (HM1.out.alloc _)) ?_
             clear hK K
             refine wpAnyL_ready (rs := [16]) (by kernel_rfl) (by simp) ?_
             refine AllL.cons rfl (fun K hK => ?_) ?_
             ·
              have hrun : (Builtin.append_ #[64, 64] 64 #[.slice A0 n0 c0, .slice (some ⟨w10.heap.size, 0, none⟩) 1 1]).run Tryz.prog (w10.alloc (.cells #[.int .i64 xI, .int .i64 (yq : Int)] 65)).drew = .ok (.slice A' (n0 + 1) c') u' := HRUN.out
              refine step_append_run _ (by rfl) _ _ _ _ (by rfl) _ _ (by rfl) (by rfl) _ _ hrun ?_
              simp only [Act.put, List.setIfInBounds_toArray, List.set_cons_zero, List.set_cons_succ, List.getElem_toArray, List.getElem_cons_zero, List.getElem_cons_succ]
              refine hK.out _ _ HBS.out (fun _ => HM2.out) ?_
              clear hK K
              refine wpAnyL_ready (rs := [17]) (by kernel_rfl) (by simp) ?_
              refine AllL.cons rfl (fun K hK => ?_) ?_
              ·
               refine step_map_put _ (by rfl) _ _ _ 52 (by rfl) 64 mapEdges L.BD _ (by rfl) HM2.out (xq : Int) (by rfl) HKO.out (.slice A' (n0 + 1) c') (by rfl) HL1.out ?_
               intro w11 hm11 hg11
               obtain ⟨FB11, hst11, hsp11⟩ := HFIN.out w11 hm11 hg11
               have HR11 := Lib.hid (HREL.out w11 FB11 hst11 ((Stp.below (L := L) (FB := FB3) (Below.refl _ w10).drew).trans hsp11))
               have HB11 := Lib.hid (show w11.cell? ⟨L.Bb, 8, none⟩ = some (.map (some L.BD)) ∧ w11.cell? ⟨w8.heap.size, 1, none⟩ = some (.int .i64 xI) from ⟨(HCL.out w11 _ hst11.inn).2.2.2.2.2.2.2, by
                have := (hsp11.only.block w8.heap.size hz10 HNB8.out).trans HSBX.out
                simp [World.cell?, this]⟩)
               clear hm11 hg11 hst11 hsp11
               refine hK.out _ _ HB11.out (fun h => absurd (h 17 (by simp)) (by decide)) ?_
               clear hK K
               refine wpAnyL_done (by kernel_rfl) ?_ _
               go_wp2_with fail
               go_roundg (m3 - (q + 1))
               case measure => exact HR11.out.1
               case rel => exact HR11.out.2
              exact AllL.nil
             exact AllL.nil
            exact AllL.nil
           | false =>
            obtain ⟨⟨hx2, hx3⟩, hxk⟩ := hL.net.low (m : Int) p (false, xI) HMR.out HPM.out (List.mem_of_getElem? HS.out) rfl
            simp only at hx2 hx3 hxk
            obtain ⟨x, rfl⟩ : ∃ x : Nat, xI = (x : Int) := ⟨xI.toNat, by omega⟩
            have HCALL := Lib.hid (IH.out x (by omega) (by have := HK.out; omega) w10 FB3 s1 xq yq HS1.out hx1 hy1 HMI.out (by have h9 : (buildN L.R L.cf L.N (x : Int) xq yq s1).nodes ≤ _ := HN1.out; omega))
            clear hxk
            clear IH HK HB HMID HFI HRL HMR HB1 HST1 HBF HBT HB2 HPN HLP HPS HMB HSY HNC HST2 HNX HNS HSP24 HSP14 HSP04 HBC HBF4 HBT4 HPS4 HST4 HGK HS5 HP5 HPL HLM HPX HS6 HBX6 HB56 HS7 HBX7 HP57 HXN HYN HGL HS8 HP8 HBX8 HS HSX HK7 HMQ HS9 HP9 HBX9 HNX1 HN1 HZ1 HFE HM0 HMN HME HPM HSY1 HSY0 HSYS HSYE
            go_wp2_with fail
            refine HCALL.out.mono ?_
            rintro e w11 ⟨rfl, FB11, hs11, hp11⟩
            have HR11 := Lib.hid (HREL.out w11 FB11 hs11 hp11)
            clear hs11 hp11 ks0 ks1 HREL HCALL
            go_wp2_with fail
            go_roundg (m3 - (q + 1))
            case measure => exact HR11.out.1
            case rel => exact HR11.out.2
          ·
           have hqm1 : ¬ (q : Int) + 1 < (m3 : Int) := by omega
           have hqm2 : decide ((q : Int) + 1 < (m3 : Int)) = false := by simp; omega
           have HNX1 := Lib.hid (show sy (q + 1) = (yN, putB (buildN L.R L.cf L.N) xq yN (tm, xI) sq) by
            rw [HSX.out]
            unfold symB
            rw [if_neg hqm])
           have hN1 := HK7.out
           rw [HNX1.out] at hN1
           simp only at hN1
           have HN1 := Lib.hid hN1
           have hx1 := h3
           have hy1 := h4
           have hsn : sq.nodes ≤ 1000 := by omega
           clear hN1 hqm
           have HREL := Lib.hid (show ∀ (w11 : World) (FB11 : Nat → Prop), Bst L w11 FB11 (putB (buildN L.R L.cf L.N) xq yN (tm, xI) sq) → Stp L FB3 w9 FB11 w11 → m3 - (q + 1) < gk ∧ ∃ (q' : Nat) (FB' : Nat → Prop), q' ≤ m3 ∧ m3 - (q + 1) = m3 - q' ∧ Value.int .i64 ((q : Int) + 1) = .int .i64 q' ∧ Value.int .i64 (yN : Int) = .int .i64 ((sy q').1 : Int) ∧ Bst L w11 FB' (sy q').2 ∧ Stp L FB2 w7 FB' w11 from fun w11 FB11 h1 h2 => ⟨by rw [HGL.out]; omega, q + 1, FB11, by omega, rfl, by go_num, by rw [HNX1.out], by rw [HNX1.out]; exact h1, HP9.out.trans h2⟩)
           cases tm with
           | true =>
            have hsb := HS9.out.below (Below.refl _ w9).drew
            have hep : sq.edges.length ≤ 1000000 := by have := HMQ.out.few; omega
            obtain ⟨l2, n0, A0, c0, hm1, hl1, hvO, A', c', u', hrun, hm2, hbb, hou, hfin⟩ := hsb.pushD hL hep xq xI yN
            have HVO := Lib.hid hvO
            have HM1 := Lib.hid hm1
            have HM2 := Lib.hid hm2
            have HFIN := Lib.hid hfin
            have HRUN := Lib.hid hrun
            have HL1 := Lib.hid hl1
            have HKO := Lib.hid (ki_ok (x := xq) (by omega))
            obtain ⟨-, -, -, -, -, -, -, b8⟩ := HCL.out w9 _ HS9.out.inn
            have HBS := Lib.hid (show u'.cell? ⟨L.Bb, 8, none⟩ = some (.map (some L.BD)) ∧ u'.cell? ⟨w8.heap.size, 1, none⟩ = some (.int .i64 xI) from ⟨hbb, by
             have := (hou.block w8.heap.size hz9 fun h => HNB8.out (.inr (.inr (.inr h)))).trans HSB9.out
             simp [World.cell?, this]⟩)
            have ks2 : w9.cell? ⟨w8.heap.size, 1, none⟩ = some (.int .i64 xI) := by simp [World.cell?, HSB9.out]
            have HB0 := Lib.hid (show ∀ u : World, Below w9.heap.size w9 u → u.cell? ⟨L.Bb, 8, none⟩ = some (.map (some L.BD)) ∧ u.cell? ⟨w8.heap.size, 1, none⟩ = some (.int .i64 xI) from fun u hu => ⟨(hu.cell (cell_lt b8)).trans b8, (hu.cell (cell_lt ks2)).trans ks2⟩)
            have HSBX := Lib.hid HSB9.out
            clear hm1 hm2 hfin hrun hbb hl1 hsb b8 hvO hou hep ks2
            clear IH HK HB HMID HFI HRL HMR HB1 HST1 HBF HBT HB2 HPN HLP HPS HMB HSY HNC HST2 HNX HNS HSP24 HSP14 HSP04 HBC HBF4 HBT4 HPS4 HST4 HGK HS5 HP5 HPL HLM HPX HS6 HBX6 HB56 HS7 HBX7 HP57 HXN HYN HGL HS8 HP8 HBX8 HS HSX HK7 HMQ HS9 HP9 HBX9 HNX1 HN1 HZ1 HFE HM0 HMN HME HPM HSY1 HSY0 HSYS HSYE
            go_wp2_with fail
            rw [← hw9]
            rw [← hw9] at ks0 ks1 q2
            clear hw9 hb9 hs1 hs2 q2' hqm1 hqm2
            refine wp_region_late (late := [17]) (S1 := fun u => u.cell? ⟨L.Bb, 8, none⟩ = some (.map (some L.BD)) ∧ u.cell? ⟨w8.heap.size, 1, none⟩ = some (.int .i64 xI)) (S := fun u => AMap KNat u L.BD l2) (by kernel_rfl) ?_
            clear ks0 ks1
            refine wpAnyL_pure (i := 0) rfl (by kernel_rfl) (fun _ _ _ h => h) (Or.inl ⟨by rfl, (fun u hu => by obtain ⟨k0, k1⟩ := hu; go_simp; try rfl)⟩) (HB0.out _ (Below.refl _ _).drew) (fun _ => HM1.out) ?_
            simp only [Act.put, List.setIfInBounds_toArray, List.set_cons_zero, List.set_cons_succ, List.getElem_toArray, List.getElem_cons_zero, List.getElem_cons_succ]
            refine wpAnyL_pure (i := 1) rfl (by kernel_rfl) (fun _ _ _ h => h) (Or.inl ⟨by rfl, (fun u hu => by obtain ⟨k0, k1⟩ := hu; go_simp; try rfl)⟩) (HB0.out _ (Below.refl _ _).drew) (fun _ => HM1.out) ?_
            simp only [Act.put, List.setIfInBounds_toArray, List.set_cons_zero, List.set_cons_succ, List.getElem_toArray, List.getElem_cons_zero, List.getElem_cons_succ]
            refine wpAnyL_pure (i := 2) rfl (by kernel_rfl) (fun _ _ _ h => h) (Or.inl ⟨by rfl, (fun u hu => by obtain ⟨k0, k1⟩ := hu; go_simp; try rfl)⟩) (HB0.out _ (Below.refl _ _).drew) (fun _ => HM1.out) ?_
            simp only [Act.put, List.setIfInBounds_toArray, List.set_cons_zero, List.set_cons_succ, List.getElem_toArray, List.getElem_cons_zero, List.getElem_cons_succ]
            refine wpAnyL_pure (i := 3) rfl (by kernel_rfl) (fun _ _ _ h => h) (Or.inl ⟨by rfl, (fun u hu => by obtain ⟨k0, k1⟩ := hu; go_simp; try rfl)⟩) (HB0.out _ (Below.refl _ _).drew) (fun _ => HM1.out) ?_
            simp only [Act.put, List.setIfInBounds_toArray, List.set_cons_zero, List.set_cons_succ, List.getElem_toArray, List.getElem_cons_zero, List.getElem_cons_succ]
            refine wpAnyL_pure (i := 4) rfl (by kernel_rfl) (fun _ _ _ h => h) (Or.inl ⟨by rfl, (fun u hu => by obtain ⟨k0, k1⟩ := hu; go_simp; try rfl)⟩) (HB0.out _ (Below.refl _ _).drew) (fun _ => HM1.out) ?_
            simp only [Act.put, List.setIfInBounds_toArray, List.set_cons_zero, List.set_cons_succ, List.getElem_toArray, List.getElem_cons_zero, List.getElem_cons_succ]
            refine wpAnyL_pure (i := 5) rfl (by kernel_rfl) (fun _ _ _ h => h) (Or.inl ⟨by rfl, (fun u hu => by obtain ⟨k0, k1⟩ := hu; go_simp; try rfl)⟩) (HB0.out _ (Below.refl _ _).drew) (fun _ => HM1.out) ?_
            simp only [Act.put, List.setIfInBounds_toArray, List.set_cons_zero, List.set_cons_succ, List.getElem_toArray, List.getElem_cons_zero, List.getElem_cons_succ]
            refine wpAnyL_pure (i := 6) rfl (by kernel_rfl) (fun _ _ _ h => h) (Or.inl ⟨by rfl, (fun u hu => by obtain ⟨k0, k1⟩ := hu; go_simp; try rfl)⟩) (HB0.out _ (Below.refl _ _).drew) (fun _ => HM1.out) ?_
            simp only [Act.put, List.setIfInBounds_toArray, List.set_cons_zero, List.set_cons_succ, List.getElem_toArray, List.getElem_cons_zero, List.getElem_cons_succ]
            refine wpAnyL_pure (i := 7) rfl (by kernel_rfl) (fun _ _ _ h => h) (Or.inl ⟨by rfl, (fun u hu => by obtain ⟨k0, k1⟩ := hu; go_simp; try rfl)⟩) (HB0.out _ (Below.refl _ _).drew) (fun _ => HM1.out) ?_
            simp only [Act.put, List.setIfInBounds_toArray, List.set_cons_zero, List.set_cons_succ, List.getElem_toArray, List.getElem_cons_zero, List.getElem_cons_succ]
            refine wpAnyL_pure (i := 8) rfl (by kernel_rfl) (fun _ _ _ h => h) (Or.inl ⟨by rfl, (fun u hu => by obtain ⟨k0, k1⟩ := hu; go_simp; try rfl)⟩) (HB0.out _ (Below.refl _ _).drew) (fun _ => HM1.out) ?_
            simp only [Act.put, List.setIfInBounds_toArray, List.set_cons_zero, List.set_cons_succ, List.getElem_toArray, List.getElem_cons_zero, List.getElem_cons_succ]
            refine wpAnyL_pure (i := 9) rfl (by kernel_rfl) (fun _ _ _ h => h) (Or.inl ⟨by rfl, (fun u hu => by obtain ⟨k0, k1⟩ := hu; go_simp; try rfl)⟩) (HB0.out _ (Below.refl _ _).drew) (fun _ => HM1.out) ?_
            simp only [Act.put, List.setIfInBounds_toArray, List.set_cons_zero, List.set_cons_succ, List.getElem_toArray, List.getElem_cons_zero, List.getElem_cons_succ]
            refine wpAnyL_take (i := 10) (v := .slice A0 n0 c0) rfl (by kernel_rfl) (fun _ _ _ h => h) (Or.inl ⟨by rfl, (fun u hu => by have hrun : (Instr.lookup 52 (.map (some L.BD)) (.int .i64 (xq : Int)) false).run Tryz.prog u = .ok (.slice A0 n0 c0) u := (AMap.look (K := KNat) hu.2 mapEdges zeroPairs HKO.out).trans (by rw [← HVO.out]; rfl); go_simp; try rfl)⟩) (HB0.out _ (Below.refl _ _).drew) (fun _ => HM1.out) ?_
            simp only [Act.put, List.setIfInBounds_toArray, List.set_cons_zero, List.set_cons_succ, List.getElem_toArray, List.getElem_cons_zero, List.getElem_cons_succ]
            refine wpAnyL_pure (i := 11) rfl (by kernel_rfl) (fun _ _ _ h => h) (Or.inl ⟨by rfl, (fun u hu => by obtain ⟨k0, k1⟩ := hu; go_simp; try rfl)⟩) (HB0.out _ (Below.refl _ _).drew) (fun _ => HM1.out) ?_
            simp only [Act.put, List.setIfInBounds_toArray, List.set_cons_zero, List.set_cons_succ, List.getElem_toArray, List.getElem_cons_zero, List.getElem_cons_succ]
            refine wpAnyL_pure (i := 12) rfl (by kernel_rfl) (fun _ _ _ h => h) (Or.inl ⟨by rfl, (fun u hu => by obtain ⟨k0, k1⟩ := hu; go_simp; try rfl)⟩) (HB0.out _ (Below.refl _ _).drew) (fun _ => HM1.out) ?_
            simp only [Act.put, List.setIfInBounds_toArray, List.set_cons_zero, List.set_cons_succ, List.getElem_toArray, List.getElem_cons_zero, List.getElem_cons_succ]
            refine wpAnyL_pure (i := 13) rfl (by kernel_rfl) (fun _ _ _ h => h) (Or.inl ⟨by rfl, (fun u hu => by obtain ⟨k0, k1⟩ := hu; go_simp; try rfl)⟩) (HB0.out _ (Below.refl _ _).drew) (fun _ => HM1.out) ?_
            simp only [Act.put, List.setIfInBounds_toArray, List.set_cons_zero, List.set_cons_succ, List.getElem_toArray, List.getElem_cons_zero, List.getElem_cons_succ]
            refine wpAnyL_pure (i := 14) rfl (by kernel_rfl) (fun _ _ _ h => h) (Or.inl ⟨by rfl, (fun u hu => by obtain ⟨k0, k1⟩ := hu; go_simp; try rfl)⟩) (HB0.out _ (Below.refl _ _).drew) (fun _ => HM1.out) ?_
            simp only [Act.put, List.setIfInBounds_toArray, List.set_cons_zero, List.set_cons_succ, List.getElem_toArray, List.getElem_cons_zero, List.getElem_cons_succ]
            refine wpAnyL_ready (rs := [15]) (by kernel_rfl) (by simp) ?_
            refine AllL.cons rfl (fun K hK => ?_) ?_
            ·
             go_simp
             refine hK.out _ _ (HB0.out _ ((Below.refl _ w9).drew.alloc (by simp) _)) (fun _ => (HM1.out.alloc _)) ?_
             clear hK K
             refine wpAnyL_ready (rs := [16]) (by kernel_rfl) (by simp) ?_
             refine AllL.cons rfl (fun K hK => ?_) ?_
             ·
              have hrun : (Builtin.append_ #[64, 64] 64 #[.slice A0 n0 c0, .slice (some ⟨w9.heap.size, 0, none⟩) 1 1]).run Tryz.prog (w9.alloc (.cells #[.int .i64 xI, .int .i64 (yN : Int)] 65)).drew = .ok (.slice A' (n0 + 1) c') u' := HRUN.out
              refine step_append_run _ (by rfl) _ _ _ _ (by rfl) _ _ (by rfl) (by rfl) _ _ hrun ?_
              simp only [Act.put, List.setIfInBounds_toArray, List.set_cons_zero, List.set_cons_succ, List.getElem_toArray, List.getElem_cons_zero, List.getElem_cons_succ]
              refine hK.out _ _ HBS.out (fun _ => HM2.out) ?_
              clear hK K
              refine wpAnyL_ready (rs := [17]) (by kernel_rfl) (by simp) ?_
              refine AllL.cons rfl (fun K hK => ?_) ?_
              ·
               refine step_map_put _ (by rfl) _ _ _ 52 (by rfl) 64 mapEdges L.BD _ (by rfl) HM2.out (xq : Int) (by rfl) HKO.out (.slice A' (n0 + 1) c') (by rfl) HL1.out ?_
               intro w11 hm11 hg11
               obtain ⟨FB11, hst11, hsp11⟩ := HFIN.out w11 hm11 hg11
               have HR11 := Lib.hid (HREL.out w11 FB11 hst11 ((Stp.below (L := L) (FB := FB3) (Below.refl _ w9).drew).trans hsp11))
               have HB11 := Lib.hid (show w11.cell? ⟨L.Bb, 8, none⟩ = some (.map (some L.BD)) ∧ w11.cell? ⟨w8.heap.size, 1, none⟩ = some (.int .i64 xI) from ⟨(HCL.out w11 _ hst11.inn).2.2.2.2.2.2.2, by
                have := (hsp11.only.block w8.heap.size hz9 HNB8.out).trans HSBX.out
                simp [World.cell?, this]⟩)
               clear hm11 hg11 hst11 hsp11
               refine hK.out _ _ HB11.out (fun h => absurd (h 17 (by simp)) (by decide)) ?_
               clear hK K
               refine wpAnyL_done (by kernel_rfl) ?_ _
               go_wp2_with fail
               go_roundg (m3 - (q + 1))
               case measure => exact HR11.out.1
               case rel => exact HR11.out.2
              exact AllL.nil
             exact AllL.nil
            exact AllL.nil
           | false =>
            obtain ⟨⟨hx2, hx3⟩, hxk⟩ := hL.net.low (m : Int) p (false, xI) HMR.out HPM.out (List.mem_of_getElem? HS.out) rfl
            simp only at hx2 hx3 hxk
            obtain ⟨x, rfl⟩ : ∃ x : Nat, xI = (x : Int) := ⟨xI.toNat, by omega⟩
            have HCALL := Lib.hid (IH.out x (by omega) (by have := HK.out; omega) w9 FB3 sq xq yN HS9.out hx1 hy1 HMQ.out (by have h9 : (buildN L.R L.cf L.N (x : Int) xq yN sq).nodes ≤ _ := HN1.out; omega))
            clear hxk
            clear IH HK HB HMID HFI HRL HMR HB1 HST1 HBF HBT HB2 HPN HLP HPS HMB HSY HNC HST2 HNX HNS HSP24 HSP14 HSP04 HBC HBF4 HBT4 HPS4 HST4 HGK HS5 HP5 HPL HLM HPX HS6 HBX6 HB56 HS7 HBX7 HP57 HXN HYN HGL HS8 HP8 HBX8 HS HSX HK7 HMQ HS9 HP9 HBX9 HNX1 HN1 HZ1 HFE HM0 HMN HME HPM HSY1 HSY0 HSYS HSYE
            go_wp2_with fail
            rw [← hw9]
            rw [← hw9] at ks0 ks1 q2
            clear hw9 hb9 hs1 hs2 q2' hqm1 hqm2
            refine HCALL.out.mono ?_
            rintro e w11 ⟨rfl, FB11, hs11, hp11⟩
            have HR11 := Lib.hid (HREL.out w11 FB11 hs11 hp11)
            clear hs11 hp11 ks0 ks1 HREL HCALL
            go_wp2_with fail
            go_roundg (m3 - (q + 1))
            case measure => exact HR11.out.1
            case rel => exact HR11.out.2
         ·
          obtain rfl : m3 = q := by omega
          go_wp2_with fail
          go_roundg (nP - (i + 1))
          case measure => rw [HGK.out]; omega
          case rel =>
           refine ⟨i + 1, FB3, by omega, rfl, by go_num, ?_, (HP5.out.trans (Stp.below HP57.out)).trans HP8.out⟩
           rw [HSYE.out]
           exact HS8.out
      ·
       obtain rfl : nP = i := by omega
       go_wp2_with fail
       refine bodyPost_ret (v := .tuple #[]) (by simp [results, Tryz.results15, go_sem]) rfl ?_
       rw [← HME.out]
       exact ⟨rfl, FB2, HS5.out, HSP04.out.trans HP5.out⟩
    exact AllL.nil
theorem apxBuildF (L : Bdr) (hL : L.Ok) (T : Nat) (hT : TermsOk L.R T) : ∀ k : Nat, BuildAt L k
 | 0 => fun m hm hk => by have := (hL.net.rk1 (m : Int) (by omega)).1; omega
 | k + 1 => apxBuildS L hL T hT k (apxBuildF L hL T hT k)
end Go.Proofs.YtocbkccchnbmaaaGreat
