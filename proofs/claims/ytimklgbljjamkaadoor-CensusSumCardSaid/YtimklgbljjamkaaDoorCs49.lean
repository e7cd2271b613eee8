/- MeanOf -/
import Derived.Test.YtimklgbljjamkaaDoorCs48
namespace Go.Proofs.YtimklgbljjamkaaDoor
open Go.RowKit Go.Maps
def MfD (R : List RuleD) (st n : Nat) (ws : List Int) (z : Nat) (w : World) (A : Option Addr) (m c : Nat) (x : Int) : Prop :=
 (¬ DerW R ws [(false, (st : Int))] 0 n ∧ m = 0 ∧ x = -1) ∨
 (DerW R ws [(false, (st : Int))] 0 n ∧ ∃ (S : Nat → Prop) (L : List KeyD), x = (ixK L ((false, (st : Int)), 0, n) : Int) ∧ Sl RNode w S A m c (L.map (nodeZ R ws L)) ∧ FoL R ws L ∧ ((false, (st : Int)), 0, n) ∈ L ∧ L.length ≤ 8192 ∧ ∀ b, S b → z ≤ b ∧ b < w.heap.size)
theorem MfD.only {R : List RuleD} {st n z : Nat} {ws : List Int} {w w' : World} {A : Option Addr} {m c : Nat} {x : Int} {X : Nat → Prop} (h : MfD R st n ws z w A m c x) (ho : Only w w' X) (hX : ∀ b, z ≤ b → b < w.heap.size → ¬ X b) : MfD R st n ws z w' A m c x := by
 rcases h with h | ⟨h1, S, L, h2, h3, h4, h5, h6, h7⟩
 ·
  exact .inl h
 ·
  exact .inr ⟨h1, S, L, h2, h3.keep (ho.kept fun b hb => hX b (h7 b hb).1 (h7 b hb).2), h4, h5, h6, fun b hb => ⟨(h7 b hb).1, Nat.lt_of_lt_of_le (h7 b hb).2 ho.size⟩⟩
theorem MfD.mono {R : List RuleD} {st n z z' : Nat} {ws : List Int} {w : World} {A : Option Addr} {m c : Nat} {x : Int} (h : MfD R st n ws z w A m c x) (hz : z' ≤ z) : MfD R st n ws z' w A m c x := by
 rcases h with h | ⟨h1, S, L, h2, h3, h4, h5, h6, h7⟩
 ·
  exact .inl h
 ·
  exact .inr ⟨h1, S, L, h2, h3, h4, h5, h6, fun b hb => ⟨Nat.le_trans hz (h7 b hb).1, (h7 b hb).2⟩⟩
theorem buildAt (w : World) (hTb : Tab w) (Sg S : Nat → Prop) (AR : Option Addr) (nR cR : Nat) (g : GramD) (hg : Sl RRule w Sg AR nR cR g.2.2.2) (hv : GValid g) (A : Option Addr) (n cw : Nat) (ws : List Int) (hws : Rd w S 1 A n (ws.map (Value.int .i64))) (hwb : ∀ c ∈ ws, 0 ≤ c ∧ c < 16) (hn : n ≤ 4)
    (lo hi gN : Nat) (gs : Nat → Nat) (E : Nat → Nat → Nat) (hG : Grid mV 93 w lo hi gN gs (nonsOf g) (n + 1) E) (hhi : hi ≤ w.heap.size) (hE : ∀ a i, E a i < 2 ^ (n + 1)) (hsn : SoundW g.2.2.2 ws (nonsOf g) E) (hcl : ClosedW g.2.2.2 ws E) :
    Calls Tryd.prog 50 #[.agg #[.int .i64 g.1, .int .i64 g.2.1, .int .i64 g.2.2.1, .slice AR nR cR], .slice A n cw, .slice (some ⟨gN, 0, none⟩) (nonsOf g) (nonsOf g), .int .i64 1099511627776] w fun e w' => (∃ (A' : Option Addr) (m c : Nat) (x : Int), e = .returned (.tuple #[.agg #[.slice A' m c, .int .i64 x], .bool true]) ∧ MfD g.2.2.2 g.2.2.1.toNat n ws w.heap.size w' A' m c x) ∧ Below w.heap.size w w' := by
 refine (coreBuild ⟨g, AR, nR, cR, Sg, A, n, cw, ws, S, lo, hi, gN, gs, E⟩ ⟨hv, hn, by simpa using hws.1, hwb, hE, hsn, hcl⟩ w ⟨hTb, hg, hws, hG, hhi⟩).mono ?_
 rintro e w' ⟨h, hb⟩
 refine ⟨?_, hb⟩
 rcases h with ⟨h1, rfl⟩ | ⟨h1, F, v, L, rfl, h2, h3, h4, h5, h6⟩
 ·
  exact ⟨none, 0, 0, -1, rfl, .inl ⟨h1, rfl, rfl⟩⟩
 ·
  obtain ⟨A', c, rfl, _⟩ := h2.form
  exact ⟨A', _, c, _, rfl, .inr ⟨h1, _, L, rfl, h2.fit.sl, h3, h4, h5, fun b hb => ⟨h6 b hb.1, hb.2⟩⟩⟩
set_option linter.unusedSimpArgs false in
set_option maxRecDepth 1000000 in
set_option maxHeartbeats 4000000 in
theorem meanOf (w : World) (hTb : Tab w) (Sg S : Nat → Prop) (AR : Option Addr) (nR cR : Nat) (g : GramD) (hg : Sl RRule w Sg AR nR cR g.2.2.2) (hv : GValid g) (A : Option Addr) (n cw : Nat) (ws : List Int) (hws : Rd w S 1 A n (ws.map (Value.int .i64))) (hwb : ∀ c ∈ ws, 0 ≤ c ∧ c < 16) (hn : n ≤ 4) :
    Calls Tryd.prog 30 #[.agg #[.int .i64 g.1, .int .i64 g.2.1, .int .i64 g.2.2.1, .slice AR nR cR], .slice A n cw] w fun e w' => (∃ (A' : Option Addr) (m c : Nat) (x : Int), e = .returned (.agg #[.slice A' m c, .int .i64 x]) ∧ MfD g.2.2.2 g.2.2.1.toNat n ws w.heap.size w' A' m c x) ∧ Below w.heap.size w w' := by
 obtain ⟨B0, hB0⟩ : ∃ B0, B0 = w.heap.size := ⟨_, rfl⟩
 obtain ⟨w1, hw1⟩ : ∃ w1 : World, w1 = (w.alloc (.cells #[.int .i64 g.1, .int .i64 g.2.1, .int .i64 g.2.2.1, .slice AR nR cR] 25)).alloc (.cells #[.slice none 0 0, .int .i64 0] 76) := ⟨_, rfl⟩
 have hz1 : w1.heap.size = B0 + 1 + 1 := by rw [hw1, hB0]; simp
 have hb1 : Below w.heap.size w w1 := by rw [hw1]; exact ((Below.refl _ _).alloc (Nat.le_refl _) _).alloc (by simp) _
 have hg1 : w1.heap[B0]? = some (.cells #[.int .i64 g.1, .int .i64 g.2.1, .int .i64 g.2.2.1, .slice AR nR cR] 25 (0, 0)) := by
  rw [hw1, Below.heap_alloc _ _ _ (by simp [hB0]), hB0]
  exact heap_alloc_new w _
 have hf1 : w1.heap[B0 + 1]? = some (.cells #[.slice none 0 0, .int .i64 0] 76 (0, 0)) := by
  rw [hw1]
  exact heap_new _ _ _ (by simp [hB0])
 have HALL := Lib.hid (show ∀ (u : World) (X : Nat → Prop), Only w1 u X → (∀ b, X b → B0 + 1 < b) → (u.cell? ⟨B0, 0, none⟩ = some (.int .i64 g.1) ∧ u.cell? ⟨B0, 1, none⟩ = some (.int .i64 g.2.1) ∧ u.cell? ⟨B0, 2, none⟩ = some (.int .i64 g.2.2.1) ∧ u.cell? ⟨B0, 3, none⟩ = some (.slice AR nR cR)) from fun u X hu hX => by
  have e := (hu.block _ (heap_lt hg1) (fun h => by have := hX _ h; omega)).trans hg1
  exact ⟨by simp [World.cell?, e], by simp [World.cell?, e], by simp [World.cell?, e], by simp [World.cell?, e]⟩)
 have HBL := Lib.hid (show ∀ u : World, Below w1.heap.size w1 u → (u.cell? ⟨B0, 0, none⟩ = some (.int .i64 g.1) ∧ u.cell? ⟨B0, 1, none⟩ = some (.int .i64 g.2.1) ∧ u.cell? ⟨B0, 2, none⟩ = some (.int .i64 g.2.2.1) ∧ u.cell? ⟨B0, 3, none⟩ = some (.slice AR nR cR)) from fun u hu => HALL.out u (fun _ => False) (.of_below hu (Nat.le_refl _) _) fun _ h => h.elim)
 have HB1 := Lib.hid hb1
 have HF1 := Lib.hid hf1
 have HZ1 := Lib.hid hz1
 have HW := Lib.hid (hws.below hb1)
 have HG := Lib.hid (hg.below hb1)
 have HV := Lib.hid hv
 have HTB := Lib.hid (hTb.below hb1 (by have := hTb.1; omega))
 have HWB := Lib.hid hwb
 have HB0 := Lib.hid hB0
 have HW1 := Lib.hid hw1
 clear hb1 hg1 hws hg hv hTb hf1 hz1 hB0 hw1 hwb
 go_enter Tryd.func30, Tryd.ntmps30
 go_wp2_with fail
 rw [← HW1.out, ← HB0.out]
 refine wp_region_late (late := []) (S1 := fun u => u.cell? ⟨B0, 0, none⟩ = some (.int .i64 g.1) ∧ u.cell? ⟨B0, 1, none⟩ = some (.int .i64 g.2.1) ∧ u.cell? ⟨B0, 2, none⟩ = some (.int .i64 g.2.2.1) ∧ u.cell? ⟨B0, 3, none⟩ = some (.slice AR nR cR)) (S := fun _ => True) (by kernel_rfl) ?_
 refine wpAnyL_pure (i := 0) rfl (by kernel_rfl) (fun _ _ _ h => h) (Or.inl ⟨by rfl, (fun u hu => by obtain ⟨k0, k1, k2, k3⟩ := hu; go_simp; try rfl)⟩) (HBL.out _ (Below.refl w1.heap.size w1).drew) (fun _ => trivial) ?_
 simp only [Act.put, List.setIfInBounds_toArray, List.set_cons_zero, List.set_cons_succ, List.getElem_toArray, List.getElem_cons_zero, List.getElem_cons_succ]
 refine wpAnyL_pure (i := 1) rfl (by kernel_rfl) (fun _ _ _ h => h) (Or.inl ⟨by rfl, (fun u hu => by obtain ⟨k0, k1, k2, k3⟩ := hu; go_simp; try rfl)⟩) (HBL.out _ (Below.refl w1.heap.size w1).drew) (fun _ => trivial) ?_
 simp only [Act.put, List.setIfInBounds_toArray, List.set_cons_zero, List.set_cons_succ, List.getElem_toArray, List.getElem_cons_zero, List.getElem_cons_succ]
 refine wpAnyL_pure (i := 2) rfl (by kernel_rfl) (fun _ _ _ h => h) (Or.inl ⟨by rfl, (fun u hu => by obtain ⟨k0, k1, k2, k3⟩ := hu; go_simp; try rfl)⟩) (HBL.out _ (Below.refl w1.heap.size w1).drew) (fun _ => trivial) ?_
 simp only [Act.put, List.setIfInBounds_toArray, List.set_cons_zero, List.set_cons_succ, List.getElem_toArray, List.getElem_cons_zero, List.getElem_cons_succ]
 refine wpAnyL_pure (i := 3) rfl (by kernel_rfl) (fun _ _ _ h => h) (Or.inl ⟨by rfl, (fun u hu => by obtain ⟨k0, k1, k2, k3⟩ := hu; go_simp; try rfl)⟩) (HBL.out _ (Below.refl w1.heap.size w1).drew) (fun _ => trivial) ?_
 simp only [Act.put, List.setIfInBounds_toArray, List.set_cons_zero, List.set_cons_succ, List.getElem_toArray, List.getElem_cons_zero, List.getElem_cons_succ]
 refine wpAnyL_ready (rs := [4, 9]) (by kernel_rfl) (by simp) ?_
 refine AllL.cons rfl (fun K hK => ?_) ?_
 ·
  go_simp
  refine (coreEnds w1.drew (HTB.out.below (Below.refl w1.heap.size w1).drew HTB.out.1) _ _ AR nR cR g (HG.out.below (Below.refl w1.heap.size w1).drew) HV.out A n cw ws (HW.out.below (Below.refl w1.heap.size w1).drew) (by omega)).mono ?_
  rintro e wE ⟨H0, E, rfl, hH0, hH1, hgr, hbd, hsn, hcl, hbE⟩
  have HBE := Lib.hid hbE
  have HGR := Lib.hid (And.intro hgr (And.intro hH1 (And.intro hbd (And.intro hsn hcl))))
  clear hbE hgr hbd hsn hcl hH1 hH0
  refine hK.out _ _ (HBL.out _ ((Below.refl w1.heap.size w1).drew.trans (HBE.out.mono (Below.refl w1.heap.size w1).drew.size))) (fun _ => trivial) ?_
  clear hK K
  refine wpAnyL_ready (rs := [5, 9]) (by kernel_rfl) (by simp) ?_
  refine AllL.cons rfl (fun K hK => ?_) ?_
  ·
   go_simp
   refine (buildAt wE (HTB.out.below ((Below.refl w1.heap.size w1).drew.trans (HBE.out.mono (Below.refl w1.heap.size w1).drew.size)) HTB.out.1) _ _ AR nR cR g (HG.out.below ((Below.refl w1.heap.size w1).drew.trans (HBE.out.mono (Below.refl w1.heap.size w1).drew.size))) HV.out A n cw ws (HW.out.below ((Below.refl w1.heap.size w1).drew.trans (HBE.out.mono (Below.refl w1.heap.size w1).drew.size))) HWB.out hn H0 (H0 + 1 + nonsOf g) H0 (fun i => H0 + 1 + i) E (HGR.out.1.below (Below.refl wE.heap.size wE) HGR.out.2.1) (Nat.le_trans HGR.out.2.1 (Below.refl wE.heap.size wE).size) HGR.out.2.2.1 HGR.out.2.2.2.1 HGR.out.2.2.2.2).mono ?_
   rintro e wB ⟨⟨A5, m5, c5, x5, rfl, hmf⟩, hbB⟩
   have HBB := Lib.hid hbB
   have HMF := Lib.hid hmf
   clear hbB hmf
   have HZB := Lib.hid (show w1.heap.size ≤ wE.heap.size from ((Below.refl w1.heap.size w1).drew.trans (HBE.out.mono (Below.refl w1.heap.size w1).drew.size)).size)
   refine hK.out _ _ (HBL.out _ (((Below.refl w1.heap.size w1).drew.trans (HBE.out.mono (Below.refl w1.heap.size w1).drew.size)).trans (HBB.out.mono ((Below.refl w1.heap.size w1).drew.trans (HBE.out.mono (Below.refl w1.heap.size w1).drew.size)).size))) (fun _ => trivial) ?_
   clear hK K
   refine wpAnyL_pure (i := 6) rfl (by kernel_rfl) (fun _ _ _ h => h) (Or.inl ⟨by rfl, (fun u hu => by obtain ⟨k0, k1, k2, k3⟩ := hu; go_simp; try rfl)⟩) (HBL.out _ (((Below.refl w1.heap.size w1).drew.trans (HBE.out.mono (Below.refl w1.heap.size w1).drew.size)).trans (HBB.out.mono ((Below.refl w1.heap.size w1).drew.trans (HBE.out.mono (Below.refl w1.heap.size w1).drew.size)).size))) (fun _ => trivial) ?_
   simp only [Act.put, List.setIfInBounds_toArray, List.set_cons_zero, List.set_cons_succ, List.getElem_toArray, List.getElem_cons_zero, List.getElem_cons_succ]
   refine wpAnyL_pure (i := 7) rfl (by kernel_rfl) (fun _ _ _ h => h) (Or.inl ⟨by rfl, (fun u hu => by obtain ⟨k0, k1, k2, k3⟩ := hu; go_simp; try rfl)⟩) (HBL.out _ (((Below.refl w1.heap.size w1).drew.trans (HBE.out.mono (Below.refl w1.heap.size w1).drew.size)).trans (HBB.out.mono ((Below.refl w1.heap.size w1).drew.trans (HBE.out.mono (Below.refl w1.heap.size w1).drew.size)).size))) (fun _ => trivial) ?_
   simp only [Act.put, List.setIfInBounds_toArray, List.set_cons_zero, List.set_cons_succ, List.getElem_toArray, List.getElem_cons_zero, List.getElem_cons_succ]
   refine wpAnyL_pure (i := 8) rfl (by kernel_rfl) (fun _ _ _ h => h) (Or.inl ⟨by rfl, (fun u hu => by obtain ⟨k0, k1, k2, k3⟩ := hu; go_simp; try rfl)⟩) (HBL.out _ (((Below.refl w1.heap.size w1).drew.trans (HBE.out.mono (Below.refl w1.heap.size w1).drew.size)).trans (HBB.out.mono ((Below.refl w1.heap.size w1).drew.trans (HBE.out.mono (Below.refl w1.heap.size w1).drew.size)).size))) (fun _ => trivial) ?_
   simp only [Act.put, List.setIfInBounds_toArray, List.set_cons_zero, List.set_cons_succ, List.getElem_toArray, List.getElem_cons_zero, List.getElem_cons_succ]
   refine wpAnyL_ready (rs := [9]) (by kernel_rfl) (by simp) ?_
   refine AllL.cons rfl (fun K hK => ?_) ?_
   ·
    go_simp
    obtain ⟨wA, hwA⟩ : ∃ wA : World, wA = wB.alloc (.cells #[.slice none 0 0, .int .i64 0] 76) := ⟨_, rfl⟩
    rw [← hwA]
    have HBA := Lib.hid (show Below wB.heap.size wB wA by rw [hwA]; exact (Below.refl _ _).alloc (Nat.le_refl _) _)
    have HA := Lib.hid (show wA.heap[wB.heap.size]? = some (.cells #[.slice none 0 0, .int .i64 0] 76 (0, 0)) by rw [hwA]; exact heap_alloc_new _ _)
    have HZA := Lib.hid (show w1.heap.size ≤ wB.heap.size from (((Below.refl w1.heap.size w1).drew.trans (HBE.out.mono (Below.refl w1.heap.size w1).drew.size)).trans (HBB.out.mono ((Below.refl w1.heap.size w1).drew.trans (HBE.out.mono (Below.refl w1.heap.size w1).drew.size)).size)).size)
    clear hwA
    refine hK.out _ _ (HBL.out _ ((((Below.refl w1.heap.size w1).drew.trans (HBE.out.mono (Below.refl w1.heap.size w1).drew.size)).trans (HBB.out.mono ((Below.refl w1.heap.size w1).drew.trans (HBE.out.mono (Below.refl w1.heap.size w1).drew.size)).size)).trans (HBA.out.mono (((Below.refl w1.heap.size w1).drew.trans (HBE.out.mono (Below.refl w1.heap.size w1).drew.size)).trans (HBB.out.mono ((Below.refl w1.heap.size w1).drew.trans (HBE.out.mono (Below.refl w1.heap.size w1).drew.size)).size)).size))) (fun _ => trivial) ?_
    clear hK K
    refine wpAnyL_ready (rs := [10]) (by kernel_rfl) (by simp) ?_
    refine AllL.cons rfl (fun K hK => ?_) ?_
    ·
     have hk := ((Below.refl wA.heap.size wA).block _ (heap_lt HA.out)).trans HA.out
     have d0 : wA.cell? ⟨wB.heap.size, 0, none⟩ = some (.slice none 0 0) := by simp [World.cell?, hk]
     have d1 : wA.cell? ⟨wB.heap.size, 1, none⟩ = some (.int .i64 0) := by simp [World.cell?, hk]
     have f0 : wA.frozen? ⟨wB.heap.size, 0, none⟩ = false := by simp [World.frozen?, hk]
     have f1 : wA.frozen? ⟨wB.heap.size, 1, none⟩ = false := by simp [World.frozen?, hk]
     have hts := two_set hk (.slice A5 m5 c5) (.int .i64 x5)
     have HTS := Lib.hid hts
     clear hts hk
     go_simp
     clear d0 d1 f0 f1
     refine hK.out _ _ (HALL.out _ _ (Only.trans (.of_below ((((Below.refl w1.heap.size w1).drew.trans (HBE.out.mono (Below.refl w1.heap.size w1).drew.size)).trans (HBB.out.mono ((Below.refl w1.heap.size w1).drew.trans (HBE.out.mono (Below.refl w1.heap.size w1).drew.size)).size)).trans (HBA.out.mono (((Below.refl w1.heap.size w1).drew.trans (HBE.out.mono (Below.refl w1.heap.size w1).drew.size)).trans (HBB.out.mono ((Below.refl w1.heap.size w1).drew.trans (HBE.out.mono (Below.refl w1.heap.size w1).drew.size)).size)).size)) (Nat.le_refl _) _) HTS.out.2) (fun b e => by have := HZ1.out; have := HZA.out; omega)) (fun _ => trivial) ?_
     clear hK K
     refine wpAnyL_pure (i := 11) rfl (by kernel_rfl) (fun _ _ _ h => h) (Or.inl ⟨by rfl, (fun u hu => by obtain ⟨k0, k1, k2, k3⟩ := hu; go_simp; try rfl)⟩) (HALL.out _ _ (Only.trans (.of_below ((((Below.refl w1.heap.size w1).drew.trans (HBE.out.mono (Below.refl w1.heap.size w1).drew.size)).trans (HBB.out.mono ((Below.refl w1.heap.size w1).drew.trans (HBE.out.mono (Below.refl w1.heap.size w1).drew.size)).size)).trans (HBA.out.mono (((Below.refl w1.heap.size w1).drew.trans (HBE.out.mono (Below.refl w1.heap.size w1).drew.size)).trans (HBB.out.mono ((Below.refl w1.heap.size w1).drew.trans (HBE.out.mono (Below.refl w1.heap.size w1).drew.size)).size)).size)) (Nat.le_refl _) _) HTS.out.2) (fun b e => by have := HZ1.out; have := HZA.out; omega)) (fun _ => trivial) ?_
     simp only [Act.put, List.setIfInBounds_toArray, List.set_cons_zero, List.set_cons_succ, List.getElem_toArray, List.getElem_cons_zero, List.getElem_cons_succ]
     refine wpAnyL_done (by kernel_rfl) ?_ _
     obtain ⟨K, hKe⟩ : ∃ K, K = wB.heap.size := ⟨_, rfl⟩
     rw [← hKe] at HTS ⊢
     obtain ⟨wS, hwS⟩ : ∃ wS : World, wS = (wA.setCell ⟨K, 0, none⟩ (.slice A5 m5 c5)).setCell ⟨K, 1, none⟩ (.int .i64 x5) := ⟨_, rfl⟩
     rw [← hwS] at HTS ⊢
     have HOS := Lib.hid (show Only w1 wS (fun b => b = K) from Only.trans (.of_below ((((Below.refl w1.heap.size w1).drew.trans (HBE.out.mono (Below.refl w1.heap.size w1).drew.size)).trans (HBB.out.mono ((Below.refl w1.heap.size w1).drew.trans (HBE.out.mono (Below.refl w1.heap.size w1).drew.size)).size)).trans (HBA.out.mono (((Below.refl w1.heap.size w1).drew.trans (HBE.out.mono (Below.refl w1.heap.size w1).drew.size)).trans (HBB.out.mono ((Below.refl w1.heap.size w1).drew.trans (HBE.out.mono (Below.refl w1.heap.size w1).drew.size)).size)).size)) (Nat.le_refl _) _) HTS.out.2)
     have hk5 := HTS.out.1
     have hk4 := (HOS.out.block (B0 + 1) (heap_lt HF1.out) (fun e => by have := HZ1.out; have := HZA.out; omega)).trans HF1.out
     have r0 : wS.cell? ⟨K, 0, none⟩ = some (.slice A5 m5 c5) := by simp [World.cell?, hk5]
     have r1 : wS.cell? ⟨K, 1, none⟩ = some (.int .i64 x5) := by simp [World.cell?, hk5]
     have d0 : wS.cell? ⟨B0 + 1, 0, none⟩ = some (.slice none 0 0) := by simp [World.cell?, hk4]
     have d1 : wS.cell? ⟨B0 + 1, 1, none⟩ = some (.int .i64 0) := by simp [World.cell?, hk4]
     have f0 : wS.frozen? ⟨B0 + 1, 0, none⟩ = false := by simp [World.frozen?, hk4]
     have f1 : wS.frozen? ⟨B0 + 1, 1, none⟩ = false := by simp [World.frozen?, hk4]
     have hkz : K = wB.heap.size := hKe
     have HKZ := Lib.hid hkz
     have HK4 := Lib.hid hk4
     have HMS := Lib.hid (show Only wB wS (fun b => b = K) from Only.trans (.of_below ((Below.refl wB.heap.size wB).trans (HBA.out.mono (Below.refl wB.heap.size wB).size)) (Nat.le_refl _) _) HTS.out.2)
     have HK := Lib.hid hKe
     clear hk5 hk4 hwS hkz hKe
     go_wp2_with fail
     obtain ⟨h6, ho6⟩ := two_set HK4.out (.slice A5 m5 c5) (.int .i64 x5)
     have q0 : ((wS.setCell ⟨B0 + 1, 0, none⟩ (.slice A5 m5 c5)).setCell ⟨B0 + 1, 1, none⟩ (.int .i64 x5)).cell? ⟨B0 + 1, 0, none⟩ = some (.slice A5 m5 c5) := by simp [World.cell?, h6]
     have q1 : ((wS.setCell ⟨B0 + 1, 0, none⟩ (.slice A5 m5 c5)).setCell ⟨B0 + 1, 1, none⟩ (.int .i64 x5)).cell? ⟨B0 + 1, 1, none⟩ = some (.int .i64 x5) := by simp [World.cell?, h6]
     have hl6 := cell_lt q0
     refine Go.bodyPost_ret (v := .agg #[.slice A5 m5 c5, .int .i64 x5]) ?_ ?_ ?_
     ·
      simp [results, Tryd.results30, go_sem, q0, q1, hl6]
     ·
      rfl
     ·
      have hz := HZ1.out
      have hzb := HZB.out
      have hb0 := HB0.out
      have hza := HZA.out
      have hkz := HKZ.out
      have hm := (HMF.out.only HMS.out fun b h1 h2 e => by omega).only ho6 fun b h1 _ e => by omega
      refine ⟨⟨A5, m5, c5, x5, rfl, hm.mono (by omega)⟩, ?_⟩
      have h1 : Only w ((wS.setCell ⟨B0 + 1, 0, none⟩ (.slice A5 m5 c5)).setCell ⟨B0 + 1, 1, none⟩ (.int .i64 x5)) (fun b => w.heap.size ≤ b) := (Only.trans (.of_below HB1.out (Nat.le_refl _) _) (HOS.out.more fun b _ e => by rw [e, HK.out]; omega)).trans (ho6.more fun b _ e => by omega)
      exact h1.below (fun b h => h) (Nat.le_refl _)
    exact AllL.nil
   exact AllL.nil
  refine AllL.cons rfl (fun K hK => ?_) ?_
  ·
   go_simp
   obtain ⟨wA, hwA⟩ : ∃ wA : World, wA = wE.alloc (.cells #[.slice none 0 0, .int .i64 0] 76) := ⟨_, rfl⟩
   rw [← hwA]
   have HBA := Lib.hid (show Below wE.heap.size wE wA by rw [hwA]; exact (Below.refl _ _).alloc (Nat.le_refl _) _)
   have HA := Lib.hid (show wA.heap[wE.heap.size]? = some (.cells #[.slice none 0 0, .int .i64 0] 76 (0, 0)) by rw [hwA]; exact heap_alloc_new _ _)
   have HZA := Lib.hid (show w1.heap.size ≤ wE.heap.size from ((Below.refl w1.heap.size w1).drew.trans (HBE.out.mono (Below.refl w1.heap.size w1).drew.size)).size)
   clear hwA
   refine hK.out _ _ (HBL.out _ (((Below.refl w1.heap.size w1).drew.trans (HBE.out.mono (Below.refl w1.heap.size w1).drew.size)).trans (HBA.out.mono ((Below.refl w1.heap.size w1).drew.trans (HBE.out.mono (Below.refl w1.heap.size w1).drew.size)).size))) (fun _ => trivial) ?_
   clear hK K
   refine wpAnyL_ready (rs := [5]) (by kernel_rfl) (by simp) ?_
   refine AllL.cons rfl (fun K hK => ?_) ?_
   ·
    go_simp
    refine (buildAt wA (HTB.out.below (((Below.refl w1.heap.size w1).drew.trans (HBE.out.mono (Below.refl w1.heap.size w1).drew.size)).trans (HBA.out.mono ((Below.refl w1.heap.size w1).drew.trans (HBE.out.mono (Below.refl w1.heap.size w1).drew.size)).size)) HTB.out.1) _ _ AR nR cR g (HG.out.below (((Below.refl w1.heap.size w1).drew.trans (HBE.out.mono (Below.refl w1.heap.size w1).drew.size)).trans (HBA.out.mono ((Below.refl w1.heap.size w1).drew.trans (HBE.out.mono (Below.refl w1.heap.size w1).drew.size)).size))) HV.out A n cw ws (HW.out.below (((Below.refl w1.heap.size w1).drew.trans (HBE.out.mono (Below.refl w1.heap.size w1).drew.size)).trans (HBA.out.mono ((Below.refl w1.heap.size w1).drew.trans (HBE.out.mono (Below.refl w1.heap.size w1).drew.size)).size))) HWB.out hn H0 (H0 + 1 + nonsOf g) H0 (fun i => H0 + 1 + i) E (HGR.out.1.below ((Below.refl wE.heap.size wE).trans (HBA.out.mono (Below.refl wE.heap.size wE).size)) HGR.out.2.1) (Nat.le_trans HGR.out.2.1 ((Below.refl wE.heap.size wE).trans (HBA.out.mono (Below.refl wE.heap.size wE).size)).size) HGR.out.2.2.1 HGR.out.2.2.2.1 HGR.out.2.2.2.2).mono ?_
    rintro e wB ⟨⟨A5, m5, c5, x5, rfl, hmf⟩, hbB⟩
    have HBB := Lib.hid hbB
    have HMF := Lib.hid hmf
    clear hbB hmf
    have HZB := Lib.hid (show w1.heap.size ≤ wA.heap.size from (((Below.refl w1.heap.size w1).drew.trans (HBE.out.mono (Below.refl w1.heap.size w1).drew.size)).trans (HBA.out.mono ((Below.refl w1.heap.size w1).drew.trans (HBE.out.mono (Below.refl w1.heap.size w1).drew.size)).size)).size)
    refine hK.out _ _ (HBL.out _ ((((Below.refl w1.heap.size w1).drew.trans (HBE.out.mono (Below.refl w1.heap.size w1).drew.size)).trans (HBA.out.mono ((Below.refl w1.heap.size w1).drew.trans (HBE.out.mono (Below.refl w1.heap.size w1).drew.size)).size)).trans (HBB.out.mono (((Below.refl w1.heap.size w1).drew.trans (HBE.out.mono (Below.refl w1.heap.size w1).drew.size)).trans (HBA.out.mono ((Below.refl w1.heap.size w1).drew.trans (HBE.out.mono (Below.refl w1.heap.size w1).drew.size)).size)).size))) (fun _ => trivial) ?_
    clear hK K
    refine wpAnyL_pure (i := 6) rfl (by kernel_rfl) (fun _ _ _ h => h) (Or.inl ⟨by rfl, (fun u hu => by obtain ⟨k0, k1, k2, k3⟩ := hu; go_simp; try rfl)⟩) (HBL.out _ ((((Below.refl w1.heap.size w1).drew.trans (HBE.out.mono (Below.refl w1.heap.size w1).drew.size)).trans (HBA.out.mono ((Below.refl w1.heap.size w1).drew.trans (HBE.out.mono (Below.refl w1.heap.size w1).drew.size)).size)).trans (HBB.out.mono (((Below.refl w1.heap.size w1).drew.trans (HBE.out.mono (Below.refl w1.heap.size w1).drew.size)).trans (HBA.out.mono ((Below.refl w1.heap.size w1).drew.trans (HBE.out.mono (Below.refl w1.heap.size w1).drew.size)).size)).size))) (fun _ => trivial) ?_
    simp only [Act.put, List.setIfInBounds_toArray, List.set_cons_zero, List.set_cons_succ, List.getElem_toArray, List.getElem_cons_zero, List.getElem_cons_succ]
    refine wpAnyL_pure (i := 7) rfl (by kernel_rfl) (fun _ _ _ h => h) (Or.inl ⟨by rfl, (fun u hu => by obtain ⟨k0, k1, k2, k3⟩ := hu; go_simp; try rfl)⟩) (HBL.out _ ((((Below.refl w1.heap.size w1).drew.trans (HBE.out.mono (Below.refl w1.heap.size w1).drew.size)).trans (HBA.out.mono ((Below.refl w1.heap.size w1).drew.trans (HBE.out.mono (Below.refl w1.heap.size w1).drew.size)).size)).trans (HBB.out.mono (((Below.refl w1.heap.size w1).drew.trans (HBE.out.mono (Below.refl w1.heap.size w1).drew.size)).trans (HBA.out.mono ((Below.refl w1.heap.size w1).drew.trans (HBE.out.mono (Below.refl w1.heap.size w1).drew.size)).size)).size))) (fun _ => trivial) ?_
    simp only [Act.put, List.setIfInBounds_toArray, List.set_cons_zero, List.set_cons_succ, List.getElem_toArray, List.getElem_cons_zero, List.getElem_cons_succ]
    refine wpAnyL_pure (i := 8) rfl (by kernel_rfl) (fun _ _ _ h => h) (Or.inl ⟨by rfl, (fun u hu => by obtain ⟨k0, k1, k2, k3⟩ := hu; go_simp; try rfl)⟩) (HBL.out _ ((((Below.refl w1.heap.size w1).drew.trans (HBE.out.mono (Below.refl w1.heap.size w1).drew.size)).trans (HBA.out.mono ((Below.refl w1.heap.size w1).drew.trans (HBE.out.mono (Below.refl w1.heap.size w1).drew.size)).size)).trans (HBB.out.mono (((Below.refl w1.heap.size w1).drew.trans (HBE.out.mono (Below.refl w1.heap.size w1).drew.size)).trans (HBA.out.mono ((Below.refl w1.heap.size w1).drew.trans (HBE.out.mono (Below.refl w1.heap.size w1).drew.size)).size)).size))) (fun _ => trivial) ?_
    simp only [Act.put, List.setIfInBounds_toArray, List.set_cons_zero, List.set_cons_succ, List.getElem_toArray, List.getElem_cons_zero, List.getElem_cons_succ]
    refine wpAnyL_ready (rs := [10]) (by kernel_rfl) (by simp) ?_
    refine AllL.cons rfl (fun K hK => ?_) ?_
    ·
     have hk := (((Below.refl wA.heap.size wA).trans (HBB.out.mono (Below.refl wA.heap.size wA).size)).block _ (heap_lt HA.out)).trans HA.out
     have d0 : wB.cell? ⟨wE.heap.size, 0, none⟩ = some (.slice none 0 0) := by simp [World.cell?, hk]
     have d1 : wB.cell? ⟨wE.heap.size, 1, none⟩ = some (.int .i64 0) := by simp [World.cell?, hk]
     have f0 : wB.frozen? ⟨wE.heap.size, 0, none⟩ = false := by simp [World.frozen?, hk]
     have f1 : wB.frozen? ⟨wE.heap.size, 1, none⟩ = false := by simp [World.frozen?, hk]
     have hts := two_set hk (.slice A5 m5 c5) (.int .i64 x5)
     have HTS := Lib.hid hts
     clear hts hk
     go_simp
     clear d0 d1 f0 f1
     refine hK.out _ _ (HALL.out _ _ (Only.trans (.of_below ((((Below.refl w1.heap.size w1).drew.trans (HBE.out.mono (Below.refl w1.heap.size w1).drew.size)).trans (HBA.out.mono ((Below.refl w1.heap.size w1).drew.trans (HBE.out.mono (Below.refl w1.heap.size w1).drew.size)).size)).trans (HBB.out.mono (((Below.refl w1.heap.size w1).drew.trans (HBE.out.mono (Below.refl w1.heap.size w1).drew.size)).trans (HBA.out.mono ((Below.refl w1.heap.size w1).drew.trans (HBE.out.mono (Below.refl w1.heap.size w1).drew.size)).size)).size)) (Nat.le_refl _) _) HTS.out.2) (fun b e => by have := HZ1.out; have := HZA.out; omega)) (fun _ => trivial) ?_
     clear hK K
     refine wpAnyL_pure (i := 11) rfl (by kernel_rfl) (fun _ _ _ h => h) (Or.inl ⟨by rfl, (fun u hu => by obtain ⟨k0, k1, k2, k3⟩ := hu; go_simp; try rfl)⟩) (HALL.out _ _ (Only.trans (.of_below ((((Below.refl w1.heap.size w1).drew.trans (HBE.out.mono (Below.refl w1.heap.size w1).drew.size)).trans (HBA.out.mono ((Below.refl w1.heap.size w1).drew.trans (HBE.out.mono (Below.refl w1.heap.size w1).drew.size)).size)).trans (HBB.out.mono (((Below.refl w1.heap.size w1).drew.trans (HBE.out.mono (Below.refl w1.heap.size w1).drew.size)).trans (HBA.out.mono ((Below.refl w1.heap.size w1).drew.trans (HBE.out.mono (Below.refl w1.heap.size w1).drew.size)).size)).size)) (Nat.le_refl _) _) HTS.out.2) (fun b e => by have := HZ1.out; have := HZA.out; omega)) (fun _ => trivial) ?_
     simp only [Act.put, List.setIfInBounds_toArray, List.set_cons_zero, List.set_cons_succ, List.getElem_toArray, List.getElem_cons_zero, List.getElem_cons_succ]
     refine wpAnyL_done (by kernel_rfl) ?_ _
     obtain ⟨K, hKe⟩ : ∃ K, K = wE.heap.size := ⟨_, rfl⟩
     rw [← hKe] at HTS ⊢
     obtain ⟨wS, hwS⟩ : ∃ wS : World, wS = (wB.setCell ⟨K, 0, none⟩ (.slice A5 m5 c5)).setCell ⟨K, 1, none⟩ (.int .i64 x5) := ⟨_, rfl⟩
     rw [← hwS] at HTS ⊢
     have HOS := Lib.hid (show Only w1 wS (fun b => b = K) from Only.trans (.of_below ((((Below.refl w1.heap.size w1).drew.trans (HBE.out.mono (Below.refl w1.heap.size w1).drew.size)).trans (HBA.out.mono ((Below.refl w1.heap.size w1).drew.trans (HBE.out.mono (Below.refl w1.heap.size w1).drew.size)).size)).trans (HBB.out.mono (((Below.refl w1.heap.size w1).drew.trans (HBE.out.mono (Below.refl w1.heap.size w1).drew.size)).trans (HBA.out.mono ((Below.refl w1.heap.size w1).drew.trans (HBE.out.mono (Below.refl w1.heap.size w1).drew.size)).size)).size)) (Nat.le_refl _) _) HTS.out.2)
     have hk5 := HTS.out.1
     have hk4 := (HOS.out.block (B0 + 1) (heap_lt HF1.out) (fun e => by have := HZ1.out; have := HZA.out; omega)).trans HF1.out
     have r0 : wS.cell? ⟨K, 0, none⟩ = some (.slice A5 m5 c5) := by simp [World.cell?, hk5]
     have r1 : wS.cell? ⟨K, 1, none⟩ = some (.int .i64 x5) := by simp [World.cell?, hk5]
     have d0 : wS.cell? ⟨B0 + 1, 0, none⟩ = some (.slice none 0 0) := by simp [World.cell?, hk4]
     have d1 : wS.cell? ⟨B0 + 1, 1, none⟩ = some (.int .i64 0) := by simp [World.cell?, hk4]
     have f0 : wS.frozen? ⟨B0 + 1, 0, none⟩ = false := by simp [World.frozen?, hk4]
     have f1 : wS.frozen? ⟨B0 + 1, 1, none⟩ = false := by simp [World.frozen?, hk4]
     have hkz : K < wA.heap.size := by rw [hKe]; exact Nat.lt_of_lt_of_le (heap_lt HA.out) (Below.refl wA.heap.size wA).size
     have HKZ := Lib.hid hkz
     have HK4 := Lib.hid hk4
     have HMS := Lib.hid (show Only wB wS (fun b => b = K) from Only.trans (.of_below (Below.refl wB.heap.size wB) (Nat.le_refl _) _) HTS.out.2)
     have HK := Lib.hid hKe
     clear hk5 hk4 hwS hkz hKe
     go_wp2_with fail
     obtain ⟨h6, ho6⟩ := two_set HK4.out (.slice A5 m5 c5) (.int .i64 x5)
     have q0 : ((wS.setCell ⟨B0 + 1, 0, none⟩ (.slice A5 m5 c5)).setCell ⟨B0 + 1, 1, none⟩ (.int .i64 x5)).cell? ⟨B0 + 1, 0, none⟩ = some (.slice A5 m5 c5) := by simp [World.cell?, h6]
     have q1 : ((wS.setCell ⟨B0 + 1, 0, none⟩ (.slice A5 m5 c5)).setCell ⟨B0 + 1, 1, none⟩ (.int .i64 x5)).cell? ⟨B0 + 1, 1, none⟩ = some (.int .i64 x5) := by simp [World.cell?, h6]
     have hl6 := cell_lt q0
     refine Go.bodyPost_ret (v := .agg #[.slice A5 m5 c5, .int .i64 x5]) ?_ ?_ ?_
     ·
      simp [results, Tryd.results30, go_sem, q0, q1, hl6]
     ·
      rfl
     ·
      have hz := HZ1.out
      have hzb := HZB.out
      have hb0 := HB0.out
      have hza := HZA.out
      have hkz := HKZ.out
      have hm := (HMF.out.only HMS.out fun b h1 h2 e => by omega).only ho6 fun b h1 _ e => by omega
      refine ⟨⟨A5, m5, c5, x5, rfl, hm.mono (by omega)⟩, ?_⟩
      have h1 : Only w ((wS.setCell ⟨B0 + 1, 0, none⟩ (.slice A5 m5 c5)).setCell ⟨B0 + 1, 1, none⟩ (.int .i64 x5)) (fun b => w.heap.size ≤ b) := (Only.trans (.of_below HB1.out (Nat.le_refl _) _) (HOS.out.more fun b _ e => by rw [e, HK.out]; omega)).trans (ho6.more fun b _ e => by omega)
      exact h1.below (fun b h => h) (Nat.le_refl _)
    exact AllL.nil
   exact AllL.nil
  exact AllL.nil
 refine AllL.cons rfl (fun K hK => ?_) ?_
 ·
  go_simp
  obtain ⟨wA, hwA⟩ : ∃ wA : World, wA = (w1.alloc (.cells #[.slice none 0 0, .int .i64 0] 76)).drew := ⟨_, rfl⟩
  rw [← hwA]
  have HBA := Lib.hid (show Below w1.drew.heap.size w1.drew wA by rw [hwA]; exact (Below.refl _ _).alloc (Nat.le_refl _) _)
  have HA := Lib.hid (show wA.heap[w1.heap.size]? = some (.cells #[.slice none 0 0, .int .i64 0] 76 (0, 0)) by rw [hwA]; exact heap_alloc_new _ _)
  have HZA := Lib.hid (show w1.heap.size ≤ w1.heap.size from (Below.refl w1.heap.size w1).drew.size)
  clear hwA
  refine hK.out _ _ (HBL.out _ ((Below.refl w1.heap.size w1).drew.trans (HBA.out.mono (Below.refl w1.heap.size w1).drew.size))) (fun _ => trivial) ?_
  clear hK K
  refine wpAnyL_ready (rs := [4]) (by kernel_rfl) (by simp) ?_
  refine AllL.cons rfl (fun K hK => ?_) ?_
  ·
   go_simp
   refine (coreEnds wA (HTB.out.below ((Below.refl w1.heap.size w1).drew.trans (HBA.out.mono (Below.refl w1.heap.size w1).drew.size)) HTB.out.1) _ _ AR nR cR g (HG.out.below ((Below.refl w1.heap.size w1).drew.trans (HBA.out.mono (Below.refl w1.heap.size w1).drew.size))) HV.out A n cw ws (HW.out.below ((Below.refl w1.heap.size w1).drew.trans (HBA.out.mono (Below.refl w1.heap.size w1).drew.size))) (by omega)).mono ?_
   rintro e wE ⟨H0, E, rfl, hH0, hH1, hgr, hbd, hsn, hcl, hbE⟩
   have HBE := Lib.hid hbE
   have HGR := Lib.hid (And.intro hgr (And.intro hH1 (And.intro hbd (And.intro hsn hcl))))
   clear hbE hgr hbd hsn hcl hH1 hH0
   refine hK.out _ _ (HBL.out _ (((Below.refl w1.heap.size w1).drew.trans (HBA.out.mono (Below.refl w1.heap.size w1).drew.size)).trans (HBE.out.mono ((Below.refl w1.heap.size w1).drew.trans (HBA.out.mono (Below.refl w1.heap.size w1).drew.size)).size))) (fun _ => trivial) ?_
   clear hK K
   refine wpAnyL_ready (rs := [5]) (by kernel_rfl) (by simp) ?_
   refine AllL.cons rfl (fun K hK => ?_) ?_
   ·
    go_simp
    refine (buildAt wE (HTB.out.below (((Below.refl w1.heap.size w1).drew.trans (HBA.out.mono (Below.refl w1.heap.size w1).drew.size)).trans (HBE.out.mono ((Below.refl w1.heap.size w1).drew.trans (HBA.out.mono (Below.refl w1.heap.size w1).drew.size)).size)) HTB.out.1) _ _ AR nR cR g (HG.out.below (((Below.refl w1.heap.size w1).drew.trans (HBA.out.mono (Below.refl w1.heap.size w1).drew.size)).trans (HBE.out.mono ((Below.refl w1.heap.size w1).drew.trans (HBA.out.mono (Below.refl w1.heap.size w1).drew.size)).size))) HV.out A n cw ws (HW.out.below (((Below.refl w1.heap.size w1).drew.trans (HBA.out.mono (Below.refl w1.heap.size w1).drew.size)).trans (HBE.out.mono ((Below.refl w1.heap.size w1).drew.trans (HBA.out.mono (Below.refl w1.heap.size w1).drew.size)).size))) HWB.out hn H0 (H0 + 1 + nonsOf g) H0 (fun i => H0 + 1 + i) E (HGR.out.1.below (Below.refl wE.heap.size wE) HGR.out.2.1) (Nat.le_trans HGR.out.2.1 (Below.refl wE.heap.size wE).size) HGR.out.2.2.1 HGR.out.2.2.2.1 HGR.out.2.2.2.2).mono ?_
    rintro e wB ⟨⟨A5, m5, c5, x5, rfl, hmf⟩, hbB⟩
    have HBB := Lib.hid hbB
    have HMF := Lib.hid hmf
    clear hbB hmf
    have HZB := Lib.hid (show w1.heap.size ≤ wE.heap.size from (((Below.refl w1.heap.size w1).drew.trans (HBA.out.mono (Below.refl w1.heap.size w1).drew.size)).trans (HBE.out.mono ((Below.refl w1.heap.size w1).drew.trans (HBA.out.mono (Below.refl w1.heap.size w1).drew.size)).size)).size)
    refine hK.out _ _ (HBL.out _ ((((Below.refl w1.heap.size w1).drew.trans (HBA.out.mono (Below.refl w1.heap.size w1).drew.size)).trans (HBE.out.mono ((Below.refl w1.heap.size w1).drew.trans (HBA.out.mono (Below.refl w1.heap.size w1).drew.size)).size)).trans (HBB.out.mono (((Below.refl w1.heap.size w1).drew.trans (HBA.out.mono (Below.refl w1.heap.size w1).drew.size)).trans (HBE.out.mono ((Below.refl w1.heap.size w1).drew.trans (HBA.out.mono (Below.refl w1.heap.size w1).drew.size)).size)).size))) (fun _ => trivial) ?_
    clear hK K
    refine wpAnyL_pure (i := 6) rfl (by kernel_rfl) (fun _ _ _ h => h) (Or.inl ⟨by rfl, (fun u hu => by obtain ⟨k0, k1, k2, k3⟩ := hu; go_simp; try rfl)⟩) (HBL.out _ ((((Below.refl w1.heap.size w1).drew.trans (HBA.out.mono (Below.refl w1.heap.size w1).drew.size)).trans (HBE.out.mono ((Below.refl w1.heap.size w1).drew.trans (HBA.out.mono (Below.refl w1.heap.size w1).drew.size)).size)).trans (HBB.out.mono (((Below.refl w1.heap.size w1).drew.trans (HBA.out.mono (Below.refl w1.heap.size w1).drew.size)).trans (HBE.out.mono ((Below.refl w1.heap.size w1).drew.trans (HBA.out.mono (Below.refl w1.heap.size w1).drew.size)).size)).size))) (fun _ => trivial) ?_
    simp only [Act.put, List.setIfInBounds_toArray, List.set_cons_zero, List.set_cons_succ, List.getElem_toArray, List.getElem_cons_zero, List.getElem_cons_succ]
    refine wpAnyL_pure (i := 7) rfl (by kernel_rfl) (fun _ _ _ h => h) (Or.inl ⟨by rfl, (fun u hu => by obtain ⟨k0, k1, k2, k3⟩ := hu; go_simp; try rfl)⟩) (HBL.out _ ((((Below.refl w1.heap.size w1).drew.trans (HBA.out.mono (Below.refl w1.heap.size w1).drew.size)).trans (HBE.out.mono ((Below.refl w1.heap.size w1).drew.trans (HBA.out.mono (Below.refl w1.heap.size w1).drew.size)).size)).trans (HBB.out.mono (((Below.refl w1.heap.size w1).drew.trans (HBA.out.mono (Below.refl w1.heap.size w1).drew.size)).trans (HBE.out.mono ((Below.refl w1.heap.size w1).drew.trans (HBA.out.mono (Below.refl w1.heap.size w1).drew.size)).size)).size))) (fun _ => trivial) ?_
    simp only [Act.put, List.setIfInBounds_toArray, List.set_cons_zero, List.set_cons_succ, List.getElem_toArray, List.getElem_cons_zero, List.getElem_cons_succ]
    refine wpAnyL_pure (i := 8) rfl (by kernel_rfl) (fun _ _ _ h => h) (Or.inl ⟨by rfl, (fun u hu => by obtain ⟨k0, k1, k2, k3⟩ := hu; go_simp; try rfl)⟩) (HBL.out _ ((((Below.refl w1.heap.size w1).drew.trans (HBA.out.mono (Below.refl w1.heap.size w1).drew.size)).trans (HBE.out.mono ((Below.refl w1.heap.size w1).drew.trans (HBA.out.mono (Below.refl w1.heap.size w1).drew.size)).size)).trans (HBB.out.mono (((Below.refl w1.heap.size w1).drew.trans (HBA.out.mono (Below.refl w1.heap.size w1).drew.size)).trans (HBE.out.mono ((Below.refl w1.heap.size w1).drew.trans (HBA.out.mono (Below.refl w1.heap.size w1).drew.size)).size)).size))) (fun _ => trivial) ?_
    simp only [Act.put, List.setIfInBounds_toArray, List.set_cons_zero, List.set_cons_succ, List.getElem_toArray, List.getElem_cons_zero, List.getElem_cons_succ]
    refine wpAnyL_ready (rs := [10]) (by kernel_rfl) (by simp) ?_
    refine AllL.cons rfl (fun K hK => ?_) ?_
    ·
     have hk := ((((Below.refl wA.heap.size wA).trans (HBE.out.mono (Below.refl wA.heap.size wA).size)).trans (HBB.out.mono ((Below.refl wA.heap.size wA).trans (HBE.out.mono (Below.refl wA.heap.size wA).size)).size)).block _ (heap_lt HA.out)).trans HA.out
     have d0 : wB.cell? ⟨w1.heap.size, 0, none⟩ = some (.slice none 0 0) := by simp [World.cell?, hk]
     have d1 : wB.cell? ⟨w1.heap.size, 1, none⟩ = some (.int .i64 0) := by simp [World.cell?, hk]
     have f0 : wB.frozen? ⟨w1.heap.size, 0, none⟩ = false := by simp [World.frozen?, hk]
     have f1 : wB.frozen? ⟨w1.heap.size, 1, none⟩ = false := by simp [World.frozen?, hk]
     have hts := two_set hk (.slice A5 m5 c5) (.int .i64 x5)
     have HTS := Lib.hid hts
     clear hts hk
     go_simp
     clear d0 d1 f0 f1
     refine hK.out _ _ (HALL.out _ _ (Only.trans (.of_below ((((Below.refl w1.heap.size w1).drew.trans (HBA.out.mono (Below.refl w1.heap.size w1).drew.size)).trans (HBE.out.mono ((Below.refl w1.heap.size w1).drew.trans (HBA.out.mono (Below.refl w1.heap.size w1).drew.size)).size)).trans (HBB.out.mono (((Below.refl w1.heap.size w1).drew.trans (HBA.out.mono (Below.refl w1.heap.size w1).drew.size)).trans (HBE.out.mono ((Below.refl w1.heap.size w1).drew.trans (HBA.out.mono (Below.refl w1.heap.size w1).drew.size)).size)).size)) (Nat.le_refl _) _) HTS.out.2) (fun b e => by have := HZ1.out; have := HZA.out; omega)) (fun _ => trivial) ?_
     clear hK K
     refine wpAnyL_pure (i := 11) rfl (by kernel_rfl) (fun _ _ _ h => h) (Or.inl ⟨by rfl, (fun u hu => by obtain ⟨k0, k1, k2, k3⟩ := hu; go_simp; try rfl)⟩) (HALL.out _ _ (Only.trans (.of_below ((((Below.refl w1.heap.size w1).drew.trans (HBA.out.mono (Below.refl w1.heap.size w1).drew.size)).trans (HBE.out.mono ((Below.refl w1.heap.size w1).drew.trans (HBA.out.mono (Below.refl w1.heap.size w1).drew.size)).size)).trans (HBB.out.mono (((Below.refl w1.heap.size w1).drew.trans (HBA.out.mono (Below.refl w1.heap.size w1).drew.size)).trans (HBE.out.mono ((Below.refl w1.heap.size w1).drew.trans (HBA.out.mono (Below.refl w1.heap.size w1).drew.size)).size)).size)) (Nat.le_refl _) _) HTS.out.2) (fun b e => by have := HZ1.out; have := HZA.out; omega)) (fun _ => trivial) ?_
     simp only [Act.put, List.setIfInBounds_toArray, List.set_cons_zero, List.set_cons_succ, List.getElem_toArray, List.getElem_cons_zero, List.getElem_cons_succ]
     refine wpAnyL_done (by kernel_rfl) ?_ _
     obtain ⟨K, hKe⟩ : ∃ K, K = w1.heap.size := ⟨_, rfl⟩
     rw [← hKe] at HTS ⊢
     obtain ⟨wS, hwS⟩ : ∃ wS : World, wS = (wB.setCell ⟨K, 0, none⟩ (.slice A5 m5 c5)).setCell ⟨K, 1, none⟩ (.int .i64 x5) := ⟨_, rfl⟩
     rw [← hwS] at HTS ⊢
     have HOS := Lib.hid (show Only w1 wS (fun b => b = K) from Only.trans (.of_below ((((Below.refl w1.heap.size w1).drew.trans (HBA.out.mono (Below.refl w1.heap.size w1).drew.size)).trans (HBE.out.mono ((Below.refl w1.heap.size w1).drew.trans (HBA.out.mono (Below.refl w1.heap.size w1).drew.size)).size)).trans (HBB.out.mono (((Below.refl w1.heap.size w1).drew.trans (HBA.out.mono (Below.refl w1.heap.size w1).drew.size)).trans (HBE.out.mono ((Below.refl w1.heap.size w1).drew.trans (HBA.out.mono (Below.refl w1.heap.size w1).drew.size)).size)).size)) (Nat.le_refl _) _) HTS.out.2)
     have hk5 := HTS.out.1
     have hk4 := (HOS.out.block (B0 + 1) (heap_lt HF1.out) (fun e => by have := HZ1.out; have := HZA.out; omega)).trans HF1.out
     have r0 : wS.cell? ⟨K, 0, none⟩ = some (.slice A5 m5 c5) := by simp [World.cell?, hk5]
     have r1 : wS.cell? ⟨K, 1, none⟩ = some (.int .i64 x5) := by simp [World.cell?, hk5]
     have d0 : wS.cell? ⟨B0 + 1, 0, none⟩ = some (.slice none 0 0) := by simp [World.cell?, hk4]
     have d1 : wS.cell? ⟨B0 + 1, 1, none⟩ = some (.int .i64 0) := by simp [World.cell?, hk4]
     have f0 : wS.frozen? ⟨B0 + 1, 0, none⟩ = false := by simp [World.frozen?, hk4]
     have f1 : wS.frozen? ⟨B0 + 1, 1, none⟩ = false := by simp [World.frozen?, hk4]
     have hkz : K < wE.heap.size := by rw [hKe]; exact Nat.lt_of_lt_of_le (heap_lt HA.out) ((Below.refl wA.heap.size wA).trans (HBE.out.mono (Below.refl wA.heap.size wA).size)).size
     have HKZ := Lib.hid hkz
     have HK4 := Lib.hid hk4
     have HMS := Lib.hid (show Only wB wS (fun b => b = K) from Only.trans (.of_below (Below.refl wB.heap.size wB) (Nat.le_refl _) _) HTS.out.2)
     have HK := Lib.hid hKe
     clear hk5 hk4 hwS hkz hKe
     go_wp2_with fail
     obtain ⟨h6, ho6⟩ := two_set HK4.out (.slice A5 m5 c5) (.int .i64 x5)
     have q0 : ((wS.setCell ⟨B0 + 1, 0, none⟩ (.slice A5 m5 c5)).setCell ⟨B0 + 1, 1, none⟩ (.int .i64 x5)).cell? ⟨B0 + 1, 0, none⟩ = some (.slice A5 m5 c5) := by simp [World.cell?, h6]
     have q1 : ((wS.setCell ⟨B0 + 1, 0, none⟩ (.slice A5 m5 c5)).setCell ⟨B0 + 1, 1, none⟩ (.int .i64 x5)).cell? ⟨B0 + 1, 1, none⟩ = some (.int .i64 x5) := by simp [World.cell?, h6]
     have hl6 := cell_lt q0
     refine Go.bodyPost_ret (v := .agg #[.slice A5 m5 c5, .int .i64 x5]) ?_ ?_ ?_
     ·
      simp [results, Tryd.results30, go_sem, q0, q1, hl6]
     ·
      rfl
     ·
      have hz := HZ1.out
      have hzb := HZB.out
      have hb0 := HB0.out
      have hza := HZA.out
      have hkz := HKZ.out
      have hm := (HMF.out.only HMS.out fun b h1 h2 e => by omega).only ho6 fun b h1 _ e => by omega
      refine ⟨⟨A5, m5, c5, x5, rfl, hm.mono (by omega)⟩, ?_⟩
      have h1 : Only w ((wS.setCell ⟨B0 + 1, 0, none⟩ (.slice A5 m5 c5)).setCell ⟨B0 + 1, 1, none⟩ (.int .i64 x5)) (fun b => w.heap.size ≤ b) := (Only.trans (.of_below HB1.out (Nat.le_refl _) _) (HOS.out.more fun b _ e => by rw [e, HK.out]; omega)).trans (ho6.more fun b _ e => by omega)
      exact h1.below (fun b h => h) (Nat.le_refl _)
    exact AllL.nil
   exact AllL.nil
  exact AllL.nil
 exact AllL.nil
end Go.Proofs.YtimklgbljjamkaaDoor
