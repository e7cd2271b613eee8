/- ApxSize -/
import Derived.Lib.MinMax
import Derived.Test.YtocbkccchnbmaaaGreatAw18
namespace Go.Proofs.YtocbkccchnbmaaaGreat
open Go.RowKit
def SizeR (L : Bdr) (f : Int → Nat) (m : Nat) (w : World) (nd : Int) (e : Ending) (w' : World) : Prop :=
 e = .returned (.int .i64 (f (m : Int) : Int)) ∧ L.In w' nd ∧ Memo w' L.BS L.N f ∧ Only w w' (fun b => b = L.BS)
theorem entersSize : ∀ (args : Array Value) (u : World), (callFunc 13 args).run Tryz.prog u = .ok (.enter 13 args) u := enters_of Tryz.func13 (by kernel_rfl) rfl
set_option linter.unusedSimpArgs false in
set_option maxRecDepth 1000000 in
set_option maxHeartbeats 20000000 in
theorem apxSizeF (L : Bdr) (hL : L.Ok) (f : Int → Nat) (hf : f = sizeN L.R L.cf L.N) (nd : Int) : ∀ (k : Nat) (m : Nat), m < L.N → L.rk m ≤ k → ∀ w : World, L.In w nd → Memo w L.BS L.N f →
    Calls Tryz.prog 13 #[.pointer (some ⟨L.Bb, 0, none⟩), .int .i64 (m : Int)] w (SizeR L f m w nd)
 | 0, m, hm, hk => by have := (hL.net.rk1 (m : Int) (by omega)).1; omega
 | k + 1, m, hm, hk => by
  intro w hi hmemo
  have ih := apxSizeF L hL f hf nd k
  have IH := Lib.hid ih
  have HK := Lib.hid hk
  clear ih hk
  have HI := Lib.hid hi
  have HM := Lib.hid hmemo
  have hmI : (m : Int) < (L.N : Int) := by omega
  have hm0 : (0 : Int) ≤ (m : Int) := by omega
  have HCL := Lib.hid (show ∀ u : World, L.In u nd → u.cell? ⟨L.Bb, 0, none⟩ = some (.int .i64 L.Tm) ∧ u.cell? ⟨L.Bb, 1, none⟩ = some (.int .i64 (L.N : Int)) ∧ u.cell? ⟨L.Bb, 2, none⟩ = some (.int .i64 L.st) ∧ u.cell? ⟨L.Bb, 3, none⟩ = some (.slice L.AR L.nR L.cR) ∧ u.cell? ⟨L.Bb, 4, none⟩ = some (.slice L.AC L.N L.cC) ∧ u.cell? ⟨L.Bb, 5, none⟩ = some (.slice (some ⟨L.BS, 0, none⟩) L.N L.cS) from fun u hu => by
   have h := hu.box
   exact ⟨by simp [World.cell?, h], by simp [World.cell?, h], by simp [World.cell?, h], by simp [World.cell?, h], by simp [World.cell?, h], by simp [World.cell?, h]⟩)
  have hcap : L.N ≤ L.cS := hL.cap
  have hN10 : L.N ≤ 10 := hL.n
  have he := entersSize
  have HF := Lib.hid hf
  clear hf
  obtain ⟨b0, b1, b2, b3, b4, b5⟩ := HCL.out w HI.out
  rcases hmemo.at_ hm with hc | hc
  ·
   clear hi hmemo
   obtain ⟨bc, oc, A2, m2, c2, cc, hAC, hbc, _, hc1, hc2, hcx, hcs⟩ := comp_at HI.out.of hm
   have HAC := Lib.hid hAC
   have HCX := Lib.hid hcx
   have HCS := Lib.hid hcs
   clear hcx hcs
   rw [hAC] at b4
   clear hAC
   go_enter Tryz.func13, Tryz.ntmps13
   go_wp2_with fail
   have HALL := Lib.hid (show ∀ u : World, Below w.heap.size w u → u.cell? ⟨L.Bb, 0, none⟩ = some (.int .i64 L.Tm) ∧ u.cell? ⟨L.Bb, 1, none⟩ = some (.int .i64 (L.N : Int)) ∧ u.cell? ⟨L.Bb, 2, none⟩ = some (.int .i64 L.st) ∧ u.cell? ⟨L.Bb, 3, none⟩ = some (.slice L.AR L.nR L.cR) ∧ u.cell? ⟨L.Bb, 4, none⟩ = some (.slice (some ⟨bc, oc, none⟩) L.N L.cC) ∧ u.cell? ⟨bc, oc + m * 2, none⟩ = some (.int .i64 cc.1) ∧ u.cell? ⟨bc, oc + m * 2 + 1, none⟩ = some (.slice A2 m2 c2) from fun u hu =>
    ⟨(hu.cell (cell_lt b0)).trans b0, (hu.cell (cell_lt b1)).trans b1, (hu.cell (cell_lt b2)).trans b2, (hu.cell (cell_lt b3)).trans b3, (hu.cell (cell_lt b4)).trans b4, (hu.cell (cell_lt hc1)).trans hc1, (hu.cell (cell_lt hc2)).trans hc2⟩)
   refine wp_region_late (late := []) (S1 := fun u => u.cell? ⟨L.Bb, 0, none⟩ = some (.int .i64 L.Tm) ∧ u.cell? ⟨L.Bb, 1, none⟩ = some (.int .i64 (L.N : Int)) ∧ u.cell? ⟨L.Bb, 2, none⟩ = some (.int .i64 L.st) ∧ u.cell? ⟨L.Bb, 3, none⟩ = some (.slice L.AR L.nR L.cR) ∧ u.cell? ⟨L.Bb, 4, none⟩ = some (.slice (some ⟨bc, oc, none⟩) L.N L.cC) ∧ u.cell? ⟨bc, oc + m * 2, none⟩ = some (.int .i64 cc.1) ∧ u.cell? ⟨bc, oc + m * 2 + 1, none⟩ = some (.slice A2 m2 c2)) (S := fun _ => True) (by kernel_rfl) ?_
   clear b0 b1 b2 b3 b4 b5 hc hc1 hc2
   refine wpAnyL_pure (i := 0) rfl (by kernel_rfl) (fun _ _ _ h => h) (Or.inl ⟨by rfl, (fun u hu => by obtain ⟨k0, k1, k2, k3, k4, k5, k6⟩ := hu; go_simp; try rfl)⟩) (HALL.out _ (Below.refl _ _).drew) (fun _ => trivial) ?_
   simp only [Act.put, List.setIfInBounds_toArray, List.set_cons_zero, List.set_cons_succ, List.getElem_toArray, List.getElem_cons_zero, List.getElem_cons_succ]
   refine wpAnyL_pure (i := 1) rfl (by kernel_rfl) (fun _ _ _ h => h) (Or.inl ⟨by rfl, (fun u hu => by obtain ⟨k0, k1, k2, k3, k4, k5, k6⟩ := hu; go_simp; try rfl)⟩) (HALL.out _ (Below.refl _ _).drew) (fun _ => trivial) ?_
   simp only [Act.put, List.setIfInBounds_toArray, List.set_cons_zero, List.set_cons_succ, List.getElem_toArray, List.getElem_cons_zero, List.getElem_cons_succ]
   refine wpAnyL_pure (i := 2) rfl (by kernel_rfl) (fun _ _ _ h => h) (Or.inl ⟨by rfl, (fun u hu => by obtain ⟨k0, k1, k2, k3, k4, k5, k6⟩ := hu; go_simp; try rfl)⟩) (HALL.out _ (Below.refl _ _).drew) (fun _ => trivial) ?_
   simp only [Act.put, List.setIfInBounds_toArray, List.set_cons_zero, List.set_cons_succ, List.getElem_toArray, List.getElem_cons_zero, List.getElem_cons_succ]
   refine wpAnyL_pure (i := 3) rfl (by kernel_rfl) (fun _ _ _ h => h) (Or.inl ⟨by rfl, (fun u hu => by obtain ⟨k0, k1, k2, k3, k4, k5, k6⟩ := hu; go_simp; try rfl)⟩) (HALL.out _ (Below.refl _ _).drew) (fun _ => trivial) ?_
   simp only [Act.put, List.setIfInBounds_toArray, List.set_cons_zero, List.set_cons_succ, List.getElem_toArray, List.getElem_cons_zero, List.getElem_cons_succ]
   refine wpAnyL_pure (i := 4) rfl (by kernel_rfl) (fun _ _ _ h => h) (Or.inl ⟨by rfl, (fun u hu => by obtain ⟨k0, k1, k2, k3, k4, k5, k6⟩ := hu; go_simp; try rfl)⟩) (HALL.out _ (Below.refl _ _).drew) (fun _ => trivial) ?_
   simp only [Act.put, List.setIfInBounds_toArray, List.set_cons_zero, List.set_cons_succ, List.getElem_toArray, List.getElem_cons_zero, List.getElem_cons_succ]
   refine wpAnyL_pure (i := 5) rfl (by kernel_rfl) (fun _ _ _ h => h) (Or.inl ⟨by rfl, (fun u hu => by obtain ⟨k0, k1, k2, k3, k4, k5, k6⟩ := hu; go_simp; try rfl)⟩) (HALL.out _ (Below.refl _ _).drew) (fun _ => trivial) ?_
   simp only [Act.put, List.setIfInBounds_toArray, List.set_cons_zero, List.set_cons_succ, List.getElem_toArray, List.getElem_cons_zero, List.getElem_cons_succ]
   refine wpAnyL_pure (i := 6) rfl (by kernel_rfl) (fun _ _ _ h => h) (Or.inl ⟨by rfl, (fun u hu => by obtain ⟨k0, k1, k2, k3, k4, k5, k6⟩ := hu; go_simp; try rfl)⟩) (HALL.out _ (Below.refl _ _).drew) (fun _ => trivial) ?_
   simp only [Act.put, List.setIfInBounds_toArray, List.set_cons_zero, List.set_cons_succ, List.getElem_toArray, List.getElem_cons_zero, List.getElem_cons_succ]
   refine wpAnyL_pure (i := 7) rfl (by kernel_rfl) (fun _ _ _ h => h) (Or.inl ⟨by rfl, (fun u hu => by obtain ⟨k0, k1, k2, k3, k4, k5, k6⟩ := hu; go_simp; try rfl)⟩) (HALL.out _ (Below.refl _ _).drew) (fun _ => trivial) ?_
   simp only [Act.put, List.setIfInBounds_toArray, List.set_cons_zero, List.set_cons_succ, List.getElem_toArray, List.getElem_cons_zero, List.getElem_cons_succ]
   refine wpAnyL_pure (i := 8) rfl (by kernel_rfl) (fun _ _ _ h => h) (Or.inl ⟨by rfl, (fun u hu => by obtain ⟨k0, k1, k2, k3, k4, k5, k6⟩ := hu; go_simp; try rfl)⟩) (HALL.out _ (Below.refl _ _).drew) (fun _ => trivial) ?_
   simp only [Act.put, List.setIfInBounds_toArray, List.set_cons_zero, List.set_cons_succ, List.getElem_toArray, List.getElem_cons_zero, List.getElem_cons_succ]
   refine wpAnyL_pure (i := 9) rfl (by kernel_rfl) (fun _ _ _ h => h) (Or.inl ⟨by rfl, (fun u hu => by obtain ⟨k0, k1, k2, k3, k4, k5, k6⟩ := hu; go_simp; try rfl)⟩) (HALL.out _ (Below.refl _ _).drew) (fun _ => trivial) ?_
   simp only [Act.put, List.setIfInBounds_toArray, List.set_cons_zero, List.set_cons_succ, List.getElem_toArray, List.getElem_cons_zero, List.getElem_cons_succ]
   refine wpAnyL_pure (i := 10) rfl (by kernel_rfl) (fun _ _ _ h => h) (Or.inl ⟨by rfl, (fun u hu => by obtain ⟨k0, k1, k2, k3, k4, k5, k6⟩ := hu; go_simp; try rfl)⟩) (HALL.out _ (Below.refl _ _).drew) (fun _ => trivial) ?_
   simp only [Act.put, List.setIfInBounds_toArray, List.set_cons_zero, List.set_cons_succ, List.getElem_toArray, List.getElem_cons_zero, List.getElem_cons_succ]
   refine wpAnyL_pure (i := 11) rfl (by kernel_rfl) (fun _ _ _ h => h) (Or.inl ⟨by rfl, (fun u hu => by obtain ⟨k0, k1, k2, k3, k4, k5, k6⟩ := hu; go_simp; try rfl)⟩) (HALL.out _ (Below.refl _ _).drew) (fun _ => trivial) ?_
   simp only [Act.put, List.setIfInBounds_toArray, List.set_cons_zero, List.set_cons_succ, List.getElem_toArray, List.getElem_cons_zero, List.getElem_cons_succ]
   refine wpAnyL_ready (rs := [12]) (by kernel_rfl) (by simp) ?_
   refine AllL.cons rfl (fun K hK => ?_) ?_
   ·
    have hb0 : Below w.heap.size w w.drew := (Below.refl _ _).drew
    go_simp
    refine (apxNet w.drew L.S L.AR L.nR L.cR L.Tm L.N L.st L.R (HI.out.rules.below hb0) hL.len hL.nR cc.1 (hL.kind cc (List.mem_of_getElem? HCX.out)) A2 m2 c2 _ cc.2 (HCS.out.below hb0) (by have := HCS.out.len; have := hL.few cc (List.mem_of_getElem? HCX.out); omega) (m : Int)).mono ?_
    rintro e w1 ⟨⟨AP, nP, cP, rfl, hps⟩, hb1⟩
    have HB1 := Lib.hid (hb0.trans hb1)
    clear hb0 hb1
    refine hK.out _ _ (HALL.out _ HB1.out) (fun _ => trivial) ?_
    clear hK K
    refine wpAnyL_pure (i := 13) rfl (by kernel_rfl) (fun _ _ _ h => h) (Or.inl ⟨by rfl, (fun u hu => by obtain ⟨k0, k1, k2, k3, k4, k5, k6⟩ := hu; go_simp; try rfl)⟩) (HALL.out _ HB1.out) (fun _ => trivial) ?_
    simp only [Act.put, List.setIfInBounds_toArray, List.set_cons_zero, List.set_cons_succ, List.getElem_toArray, List.getElem_cons_zero, List.getElem_cons_succ]
    refine wpAnyL_pure (i := 14) rfl (by kernel_rfl) (fun _ _ _ h => h) (Or.inl ⟨by rfl, (fun u hu => by obtain ⟨k0, k1, k2, k3, k4, k5, k6⟩ := hu; go_simp; try rfl)⟩) (HALL.out _ HB1.out) (fun _ => trivial) ?_
    simp only [Act.put, List.setIfInBounds_toArray, List.set_cons_zero, List.set_cons_succ, List.getElem_toArray, List.getElem_cons_zero, List.getElem_cons_succ]
    refine wpAnyL_pure (i := 15) rfl (by kernel_rfl) (fun _ _ _ h => h) (Or.inl ⟨by rfl, (fun u hu => by obtain ⟨k0, k1, k2, k3, k4, k5, k6⟩ := hu; go_simp; try rfl)⟩) (HALL.out _ HB1.out) (fun _ => trivial) ?_
    simp only [Act.put, List.setIfInBounds_toArray, List.set_cons_zero, List.set_cons_succ, List.getElem_toArray, List.getElem_cons_zero, List.getElem_cons_succ]
    refine wpAnyL_pure (i := 16) rfl (by kernel_rfl) (fun _ _ _ h => h) (Or.inl ⟨by rfl, (fun u hu => by obtain ⟨k0, k1, k2, k3, k4, k5, k6⟩ := hu; go_simp; try rfl)⟩) (HALL.out _ HB1.out) (fun _ => trivial) ?_
    simp only [Act.put, List.setIfInBounds_toArray, List.set_cons_zero, List.set_cons_succ, List.getElem_toArray, List.getElem_cons_zero, List.getElem_cons_succ]
    refine wpAnyL_pure (i := 17) rfl (by kernel_rfl) (fun _ _ _ h => h) (Or.inl ⟨by rfl, (fun u hu => by obtain ⟨k0, k1, k2, k3, k4, k5, k6⟩ := hu; go_simp; try rfl)⟩) (HALL.out _ HB1.out) (fun _ => trivial) ?_
    simp only [Act.put, List.setIfInBounds_toArray, List.set_cons_zero, List.set_cons_succ, List.getElem_toArray, List.getElem_cons_zero, List.getElem_cons_succ]
    refine wpAnyL_done (by kernel_rfl) ?_ _
    obtain ⟨ps, hps0⟩ : ∃ ps, ps = netP L.R cc (m : Int) := ⟨_, rfl⟩
    rw [← hps0] at hps
    have hcf : L.cf (m : Int) = cc := Bdr.cf_at HCX.out
    have hfm : f (m : Int) = ps.foldl (pathSz f) (netN cc) := by
     rw [hps0, ← hcf, HF.out]
     exact sizeN_eq hL.net (by omega)
    have hlow : ∀ p ∈ ps, ∀ s ∈ p.2.2, s.1 = false → (0 ≤ s.2 ∧ s.2 < L.N) ∧ L.rk s.2 ≤ k := fun p hp s hs h1 => by
     have hlw := hL.net.low (m : Int) p s (by omega) (by rw [hcf, ← hps0]; exact hp) hs h1
     have hkk := HK.out
     exact ⟨hlw.1, by omega⟩
    have hsh : ∀ p ∈ ps, p.2.2.length ≤ 4 := fun p hp => netP_short hL.len (by rw [hps0] at hp; exact hp)
    have hc20 : netN cc ≤ 20 := by
     have := netN_le cc
     have := hL.few cc (List.mem_of_getElem? HCX.out)
     omega
    have hnp := netP_few hL.len (c := cc) (x := (m : Int))
    rw [← hps0, hL.rl] at hnp
    have hnR := hL.nR
    have hlp := hps.len
    have hf4 : ∀ x, f x ≤ 4000 := fun x => by rw [HF.out]; exact sizeN_le hL x
    have HLOW := Lib.hid hlow
    have HSH := Lib.hid hsh
    have HF4 := Lib.hid hf4
    have HFM := Lib.hid hfm
    have HPS := Lib.hid hps.fit
    have HLP := Lib.hid hlp
    have HI1 := Lib.hid (HI.out.below HB1.out)
    have HM1 := Lib.hid (HM.out.below HB1.out)
    have hcp := hps.cap
    have hnp1 : nP ≤ 400 := by omega
    have hbs1 : L.BS < w.heap.size := by obtain ⟨_, _, h, _⟩ := HM.out; exact heap_lt h
    have HNB := Lib.hid (show ∀ b, (L.S b ∧ b < w.heap.size) ∨ w.heap.size ≤ b → ¬ b = L.BS from fun b hb e => by
     rcases hb with h | h
     ·
      exact (hL.apart b h.1).2.1 e
     ·
      omega)
    obtain ⟨c0, hc0⟩ : ∃ c0, c0 = netN cc := ⟨_, rfl⟩
    rw [← hc0] at HFM hc20 ⊢
    clear hps0 hcf hfm hlow hsh hnp hlp hf4 hps hc0 HALL HCX HCS HAC hbc
    go_wp2_with fail
    go_loopg [5, 44] nP (fun gk va vi wr => ∃ i : Nat, i ≤ nP ∧ gk = nP - i ∧ vi = .int .i64 i ∧ va = .int .i64 (((ps.take i).foldl (pathSz f) c0 : Nat) : Int) ∧ L.In wr nd ∧ Memo wr L.BS L.N f ∧ Only w1 wr (fun b => b = L.BS))
    case atStart => exact ⟨0, Nat.zero_le _, rfl, rfl, rfl, HI1.out, HM1.out, .refl _ _⟩
    case round =>
     obtain ⟨i, hi, hgk, rfl, rfl, hin, hme, hon⟩ := hrel
     have HGK := Lib.hid hgk
     have HI2 := Lib.hid hin
     have HM2 := Lib.hid hme
     have HO2 := Lib.hid hon
     obtain ⟨w2, rfl⟩ : ∃ w2 : World, w2 = wr := ⟨_, rfl⟩
     clear hgk hin hme hon
     have hal := pathSz_le (f := f) (l := ps.take i) (a := c0) fun p hp => HSH.out p (List.mem_of_mem_take hp)
     have hal2 : (ps.take i).length ≤ i := List.length_take_le _ _
     by_cases hlt : i < nP
     ·
      obtain ⟨bp, op, A3, m3, c3, p, rfl, hbp, _, p0, p1, p2, hpx, hpl⟩ := path_at (HPS.out.keep (HO2.out.kept fun b hb => HNB.out b hb.1)) hlt
      have hnx : (ps.take (i + 1)).foldl (pathSz f) c0 = p.2.2.foldl (symSz f) ((ps.take i).foldl (pathSz f) c0 + (m3 - 1)) := by
       rw [List.take_add_one, hpx, List.foldl_append, hpl.len]
       rfl
      have HNX := Lib.hid hnx
      have HPX := Lib.hid hpx
      have HPL := Lib.hid (hpl.fit)
      have HLM := Lib.hid hpl.len
      have hm4 : m3 ≤ 4 := by have := hpl.len; have := HSH.out p (List.mem_of_getElem? hpx); omega
      have hmc : m3 ≤ c3 := hpl.cap
      clear hnx hpx hpl
      obtain ⟨a, ha⟩ : ∃ a, a = (ps.take i).foldl (pathSz f) c0 := ⟨_, rfl⟩
      rw [← ha] at hal HNX ⊢
      have ha4 : a ≤ 4000 := by omega
      clear ha hal hal2
      have hiI : (i : Int) < (nP : Int) := by omega
      have hi0 : (0 : Int) ≤ (i : Int) := by omega
      obtain ⟨w3, hw3⟩ : ∃ w3 : World, w3 = w2.alloc (.cells #[.int .i64 p.1, .int .i64 p.2.1, .slice A3 m3 c3] 99) := ⟨_, rfl⟩
      have hz3 : w2.heap.size < w3.heap.size := by rw [hw3]; simp
      have hb3 : Below w2.heap.size w2 w3 := by rw [hw3]; exact (Below.refl _ _).alloc (Nat.le_refl _) _
      have HI3 := Lib.hid (HI2.out.below hb3)
      have HM3 := Lib.hid (HM2.out.below hb3)
      have HO3 := Lib.hid (HO2.out.trans (.of_below hb3 (Nat.le_refl _) _))
      have hbx3 : w3.heap[w2.heap.size]? = some (.cells #[.int .i64 p.1, .int .i64 p.2.1, .slice A3 m3 c3] 99 (0, 0)) := by rw [hw3]; exact heap_alloc_new _ _
      have HPL3 := Lib.hid (HPL.out.below hb3)
      have kb : w3.cell? ⟨w2.heap.size, 2, none⟩ = some (.slice A3 m3 c3) := by simp [World.cell?, hbx3]
      rw [hw3] at kb
      clear hb3 hbx3
      have hsum : (a : Int) + max 0 ((m3 : Int) - 1) = ((a + (m3 - 1) : Nat) : Int) := by omega
      go_wp2_with fail
      rw [← hw3]
      clear kb hw3 hsum p0 p1 p2
      go_loopg [5, 58] m3 (fun gl va vi wy => ∃ q : Nat, q ≤ m3 ∧ gl = m3 - q ∧ vi = .int .i64 q ∧ va = .int .i64 (((p.2.2.take q).foldl (symSz f) (a + (m3 - 1)) : Nat) : Int) ∧ L.In wy nd ∧ Memo wy L.BS L.N f ∧ Only w1 wy (fun b => b = L.BS) ∧ Only w3 wy (fun b => b = L.BS))
      case atStart => exact ⟨0, Nat.zero_le _, rfl, rfl, by first | rfl | (simp; omega), HI3.out, HM3.out, HO3.out, .refl _ _⟩
      case round =>
       obtain ⟨q, hq, hgl, rfl, rfl, hin, hme, hon, hon3⟩ := hrel
       have HGL := Lib.hid hgl
       have HI4 := Lib.hid hin
       have HM4 := Lib.hid hme
       have HO4 := Lib.hid hon
       have HP4 := Lib.hid hon3
       obtain ⟨w4, rfl⟩ : ∃ w4 : World, w4 = wr := ⟨_, rfl⟩
       clear hgl hin hme hon hon3
       have hal := symSz_le (f := f) (l := p.2.2.take q) (a := a + (m3 - 1))
       by_cases hlq : q < m3
       ·
        obtain ⟨bs, os, s, hA3, hbs, _, hs1, hs2, hs⟩ := sym_at (HPL3.out.keep (HP4.out.kept fun b hb => HNB.out b (by
         rcases hb with ⟨⟨h1, h2⟩, h3⟩
         exact h1))) hlq
        subst hA3
        obtain ⟨tm, xI⟩ := s
        have hnx : (p.2.2.take (q + 1)).foldl (symSz f) (a + (m3 - 1)) = symSz f ((p.2.2.take q).foldl (symSz f) (a + (m3 - 1))) (tm, xI) := by
         rw [List.take_add_one, hs, List.foldl_append]
         rfl
        have HNQ := Lib.hid hnx
        have HS := Lib.hid hs
        clear hs hnx
        obtain ⟨a2, ha2⟩ : ∃ a2, a2 = (p.2.2.take q).foldl (symSz f) (a + (m3 - 1)) := ⟨_, rfl⟩
        rw [← ha2] at hal HNQ ⊢
        have ha6 : a2 ≤ 6000 := by omega
        clear ha2 hal
        have hqI : (q : Int) < (m3 : Int) := by omega
        have hq0 : (0 : Int) ≤ (q : Int) := by omega
        obtain ⟨w5, hw5⟩ : ∃ w5 : World, w5 = w4.alloc (.cells #[.bool tm, .int .i64 xI] 45) := ⟨_, rfl⟩
        have hb5 : Below w4.heap.size w4 w5 := by rw [hw5]; exact (Below.refl _ _).alloc (Nat.le_refl _) _
        have HI5 := Lib.hid (HI4.out.below hb5)
        have HM5 := Lib.hid (HM4.out.below hb5)
        have HO5 := Lib.hid (HO4.out.trans (.of_below hb5 (Nat.le_refl _) _))
        have HP5 := Lib.hid (HP4.out.trans (.of_below hb5 (Nat.le_refl _) _))
        have hbx5 : w5.heap[w4.heap.size]? = some (.cells #[.bool tm, .int .i64 xI] 45 (0, 0)) := by rw [hw5]; exact heap_alloc_new _ _
        have ks0 : w5.cell? ⟨w4.heap.size, 0, none⟩ = some (.bool tm) := by simp [World.cell?, hbx5]
        have ks1 : w5.cell? ⟨w4.heap.size, 1, none⟩ = some (.int .i64 xI) := by simp [World.cell?, hbx5]
        rw [hw5] at ks0 ks1
        clear hb5 hbx5
        cases tm with
        | true =>
         go_wp2_with fail
         rw [← hw5]
         clear ks0 ks1 hw5 hs1 hs2
         go_roundg (m3 - (q + 1))
         case measure => rw [HGL.out]; omega
         case rel => exact ⟨q + 1, by omega, rfl, by go_num, by rw [HNQ.out]; rfl, HI5.out, HM5.out, HO5.out, HP5.out⟩
        | false =>
         obtain ⟨⟨hx0, hx1⟩, hxk⟩ := HLOW.out p (List.mem_of_getElem? HPX.out) (false, xI) (List.mem_of_getElem? HS.out) rfl
         simp only at hx0 hx1 hxk
         obtain ⟨x, rfl⟩ : ∃ x : Nat, xI = (x : Int) := ⟨xI.toNat, by omega⟩
         have hfx := HF4.out (x : Int)
         go_wp2_with fail
         rw [← hw5]
         clear ks0 ks1 hw5 hs1 hs2
         refine (IH.out x (by omega) hxk w5 HI5.out HM5.out).mono ?_
         rintro e w6 ⟨rfl, hi6, hm6, ho6⟩
         have HI6 := Lib.hid hi6
         have HM6 := Lib.hid hm6
         have HO6 := Lib.hid (HO5.out.trans ho6)
         have HP6 := Lib.hid (HP5.out.trans ho6)
         have HSS := Lib.hid (show symSz f a2 (false, (x : Int)) = min (a2 + f (x : Int)) 2000 from rfl)
         clear hi6 hm6 ho6 hxk
         obtain ⟨fx, hfx2⟩ : ∃ fx, fx = f (x : Int) := ⟨_, rfl⟩
         rw [← hfx2] at hfx HSS ⊢
         clear hfx2
         go_wp2_with fail
         go_roundg (m3 - (q + 1))
         case measure => rw [HGL.out]; omega
         case rel => exact ⟨q + 1, by omega, rfl, by go_num, by rw [HNQ.out, HSS.out]; congr 1; omega, HI6.out, HM6.out, HO6.out, HP6.out⟩
       ·
        obtain rfl : m3 = q := by omega
        go_wp2_with fail
        go_roundg (nP - (i + 1))
        case measure => rw [HGK.out]; omega
        case rel =>
         refine ⟨i + 1, by omega, rfl, by go_num, ?_, HI4.out, HM4.out, HO4.out⟩
         rw [HNX.out, List.take_of_length_le (by rw [← HLM.out]; exact Nat.le_refl _)]
     ·
      obtain rfl : nP = i := by omega
      obtain ⟨b0, b1, b2, b3, b4, b5⟩ := HCL.out w2 HI2.out
      obtain ⟨fz, ⟨v0, hv0⟩, hms⟩ := HM2.out.set hm
      have hfe : (ps.take nP).foldl (pathSz f) c0 = f (m : Int) := by rw [HFM.out, List.take_of_length_le (by rw [← HLP.out]; exact Nat.le_refl _)]
      rw [hfe] at hal ⊢
      have HFIN := Lib.hid (show SizeR L f m w nd (.returned (.int .i64 (f (m : Int) : Int))) (w2.setCell ⟨L.BS, m, none⟩ (.int .i64 (f (m : Int) : Int))) from
       ⟨rfl, HI2.out.only (.set _ _ _ _ (X := fun b => b = L.BS) rfl) fun b hb => ⟨fun e => hL.sep.1 (e.symm.trans hb), fun h => (hL.apart b h).2.1 hb⟩, hms, ((Only.of_below HB1.out (Nat.le_refl _) _).trans HO2.out).trans (.set _ _ _ _ rfl)⟩)
      clear hfe hms hal hal2
      go_wp2_with fail
      go_ret
      exact HFIN.out
   exact AllL.nil
  ·
   have h0 : (0 : Int) ≤ (f (m : Int) : Int) := by omega
   have HFIN := Lib.hid (show SizeR L f m w nd (.returned (.int .i64 (f (m : Int) : Int))) w from ⟨rfl, hi, hmemo, .refl _ _⟩)
   clear hi hmemo
   go_enter Tryz.func13, Tryz.ntmps13
   go_wp2_with fail
   go_ret
   exact HFIN.out
end Go.Proofs.YtocbkccchnbmaaaGreat
