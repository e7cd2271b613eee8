/- ForOf Repeat -/
import Derived.Laws.CopyOwn
import Derived.Test.YtjnbjdbndbbanaaGreatDoorTc46
namespace Go.Proofs.YtjnbjdbndbbanaaGreatDoor
open Go.RowKit Go.Maps
def ForD (R : List RuleD) (st n : Nat) (ws : List Int) (z : Nat) (w : World) (A : Option Addr) (m c : Nat) (x cd : Int) : Prop :=
 (cd = 0 ∧ MfD R st n ws z w A m c x) ∨
 (cd = 2 ∧ A = none ∧ m = 0 ∧ c = 0 ∧ x = 0 ∧ ∃ L : List KeyD, L.Nodup ∧ (∀ x ∈ L, DerK R ws x) ∧ 20000 < sumPk R ws L)
theorem ForD.only {R : List RuleD} {st n z : Nat} {ws : List Int} {w w' : World} {A : Option Addr} {m c : Nat} {x cd : Int} {X : Nat → Prop} (h : ForD R st n ws z w A m c x cd) (ho : Only w w' X) (hX : ∀ b, z ≤ b → b < w.heap.size → ¬ X b) : ForD R st n ws z w' A m c x cd := by
 rcases h with ⟨h1, h2⟩ | h
 · exact .inl ⟨h1, h2.only ho hX⟩
 exact .inr h
theorem ForD.mono {R : List RuleD} {st n z z' : Nat} {ws : List Int} {w : World} {A : Option Addr} {m c : Nat} {x cd : Int} (h : ForD R st n ws z w A m c x cd) (hz : z' ≤ z) : ForD R st n ws z' w A m c x cd := by
 rcases h with ⟨h1, h2⟩ | h
 · exact .inl ⟨h1, h2.mono hz⟩
 exact .inr h
def ForR (R : List RuleD) (st n : Nat) (ws : List Int) (z : Nat) (e : Ending) (w' : World) : Prop :=
 ∃ (A' : Option Addr) (m c : Nat) (x cd : Int), e = .returned (.tuple #[.agg #[.slice A' m c, .int .i64 x], .int .i64 cd]) ∧ ForD R st n ws z w' A' m c x cd
set_option linter.unusedSimpArgs false in
set_option maxRecDepth 1000000 in
set_option maxHeartbeats 4000000 in
theorem forMake (w : World) (hTb : Tab w) (Sg S : Nat → Prop) (AR : Option Addr) (nR cR : Nat) (g : GramD) (hg : Sl RRule w Sg AR nR cR g.2.2.2) (hv : GValid g) (A : Option Addr) (n cw : Nat) (ws : List Int) (hws : Rd w S 1 A n (ws.map (Value.int .i64))) (hwb : ∀ c ∈ ws, 0 ≤ c ∧ c < 16) (hn : n ≤ 12)
    (lo hi gN : Nat) (gs : Nat → Nat) (E : Nat → Nat → Nat) (hG : Grid mV 99 w lo hi gN gs (nonsOf g) (n + 1) E) (hhi : hi ≤ w.heap.size) (hE : ∀ a i, E a i < 2 ^ (n + 1)) (hsn : SoundW g.2.2.2 ws (nonsOf g) E) (hcl : ClosedW g.2.2.2 ws E) :
    Calls Tryz.prog 25 #[.agg #[.int .i64 g.1, .int .i64 g.2.1, .int .i64 g.2.2.1, .slice AR nR cR], .slice A n cw, .slice (some ⟨gN, 0, none⟩) (nonsOf g) (nonsOf g)] w fun e w' => ForR g.2.2.2 g.2.2.1.toNat n ws w.heap.size e w' ∧ Below w.heap.size w w' := by
 obtain ⟨B0, hB0⟩ := zE w.heap.size
 obtain ⟨w1, hw1⟩ : ∃ w1 : World, w1 = (w.alloc (.cells #[.int .i64 g.1, .int .i64 g.2.1, .int .i64 g.2.2.1, .slice AR nR cR] 25)).alloc (.cells #[.slice none 0 0, .int .i64 0] 38) := ⟨_, rfl⟩
 have hz1 : w1.heap.size = B0 + 1 + 1 := by rw [hw1, hB0]; simp
 have hb1 : Below w.heap.size w w1 := by rw [hw1]; exact ((Below.refl _ _).alloc (Nat.le_refl _) _).alloc (by simp) _
 have hg1 : w1.heap[B0]? = some (.cells #[.int .i64 g.1, .int .i64 g.2.1, .int .i64 g.2.2.1, .slice AR nR cR] 25 (0, 0)) := by
  rw [hw1, Below.heap_alloc _ _ _ (by simp [hB0]), hB0]
  exact heap_alloc_new w _
 have hf1 : w1.heap[B0 + 1]? = some (.cells #[.slice none 0 0, .int .i64 0] 38 (0, 0)) := by
  rw [hw1]
  exact heap_new _ _ _ (by simp [hB0])
 have k0 : w1.cell? ⟨B0, 0, none⟩ = some (.int .i64 g.1) := by simp [World.cell?, hg1]
 have k1 : w1.cell? ⟨B0, 1, none⟩ = some (.int .i64 g.2.1) := by simp [World.cell?, hg1]
 have k2 : w1.cell? ⟨B0, 2, none⟩ = some (.int .i64 g.2.2.1) := by simp [World.cell?, hg1]
 have k3 : w1.cell? ⟨B0, 3, none⟩ = some (.slice AR nR cR) := by simp [World.cell?, hg1]
 have HB1 := zh hb1
 have HF1 := zh hf1
 have HZ1 := zh hz1
 have HW := zh (hws.below hb1)
 have HG := zh (hg.below hb1)
 have HV := zh hv
 have HTB := zh (hTb.below hb1 (by have := hTb.1; omega))
 have HWB := zh hwb
 have HB0 := zh hB0
 have HW1 := zh hw1
 have HGR := zh (And.intro (hG.below hb1 hhi) (And.intro (Nat.le_trans hhi hb1.size) (And.intro hE (And.intro hsn hcl))))
 rw [hw1, hB0] at k0 k1 k2 k3
 clear hb1 hg1 hws hg hv hTb hf1 hz1 hB0 hw1 hwb hG hhi hE hsn hcl
 go_enter Tryz.func25, Tryz.ntmps25
 go_wp2_with fail
 rw [← HW1.out]
 clear k0 k1 k2 k3
 refine (buildM 20000 (by omega) w1 HTB.out _ _ AR nR cR g HG.out HV.out A n cw ws HW.out HWB.out hn lo hi gN gs E HGR.out.1 HGR.out.2.1 HGR.out.2.2.1 HGR.out.2.2.2.1 HGR.out.2.2.2.2).mono ?_
 rintro e wB ⟨h, hbB⟩
 rcases h with ⟨A5, m5, c5, x5, rfl, hmf⟩ | ⟨L, h1, h2, h3, rfl⟩
 ·
  obtain ⟨wC, hwC⟩ := zE (wB.alloc (.cells #[.slice A5 m5 c5, .int .i64 x5] 38))
  have hbC : Below wB.heap.size wB wC := by rw [hwC]; exact (Below.refl _ _).alloc (Nat.le_refl _) _
  have hzB := hbB.size
  have hk4 := ((hbB.trans (hbC.mono hzB)).block (B0 + 1) (heap_lt HF1.out)).trans HF1.out
  have hk5 : wC.heap[wB.heap.size]? = some (.cells #[.slice A5 m5 c5, .int .i64 x5] 38 (0, 0)) := by rw [hwC]; exact heap_alloc_new _ _
  have r0 : wC.cell? ⟨wB.heap.size, 0, none⟩ = some (.slice A5 m5 c5) := by simp [World.cell?, hk5]
  have r1 : wC.cell? ⟨wB.heap.size, 1, none⟩ = some (.int .i64 x5) := by simp [World.cell?, hk5]
  have d0 : wC.cell? ⟨B0 + 1, 0, none⟩ = some (.slice none 0 0) := by simp [World.cell?, hk4]
  have d1 : wC.cell? ⟨B0 + 1, 1, none⟩ = some (.int .i64 0) := by simp [World.cell?, hk4]
  have f0 : wC.frozen? ⟨B0 + 1, 0, none⟩ = false := by simp [World.frozen?, hk4]
  have f1 : wC.frozen? ⟨B0 + 1, 1, none⟩ = false := by simp [World.frozen?, hk4]
  have HBC := zh (HB1.out.trans ((hbB.trans (hbC.mono hzB)).mono HB1.out.size))
  have HMF := zh (hmf.below hbC)
  have HK4 := zh hk4
  have HZB := zh hzB
  rw [hwC] at r0 r1
  rw [hwC, HB0.out] at d0 d1 f0 f1
  have HWC := zh hwC
  clear hbB hmf hbC hk4 hk5 hwC hzB
  go_wp2_with fail
  rw [← HWC.out, ← HB0.out]
  obtain ⟨h6, ho6⟩ := two_set HK4.out (.slice A5 m5 c5) (.int .i64 x5)
  have q0 : ((wC.setCell ⟨B0 + 1, 0, none⟩ (.slice A5 m5 c5)).setCell ⟨B0 + 1, 1, none⟩ (.int .i64 x5)).cell? ⟨B0 + 1, 0, none⟩ = some (.slice A5 m5 c5) := by simp [World.cell?, h6]
  have q1 : ((wC.setCell ⟨B0 + 1, 0, none⟩ (.slice A5 m5 c5)).setCell ⟨B0 + 1, 1, none⟩ (.int .i64 x5)).cell? ⟨B0 + 1, 1, none⟩ = some (.int .i64 x5) := by simp [World.cell?, h6]
  have hl6 := cell_lt q0
  refine Go.bodyPost_ret (v := .tuple #[.agg #[.slice A5 m5 c5, .int .i64 x5], .int .i64 0]) ?_ ?_ ?_
  ·
   rw [results_cell_tmp rfl]
   simp [go_sem, q0, q1, hl6]
  · rfl
  have hz1 := HZ1.out
  have hb0 := HB0.out
  have hm := HMF.out.only ho6 fun b h1 _ e => by omega
  refine ⟨⟨A5, m5, c5, x5, 0, rfl, .inl ⟨rfl, hm.mono (by omega)⟩⟩, ?_⟩
  exact (HBC.out.trans (ho6.below (B := w.heap.size) (fun b e => by omega) HBC.out.size)).mono (by omega)
 obtain ⟨wC, hwC⟩ := zE (wB.alloc (.cells #[.slice none 0 0, .int .i64 0] 38))
 have hbC : Below wB.heap.size wB wC := by rw [hwC]; exact (Below.refl _ _).alloc (Nat.le_refl _) _
 have hzB := hbB.size
 have hk4 := ((hbB.trans (hbC.mono hzB)).block (B0 + 1) (heap_lt HF1.out)).trans HF1.out
 have d0 : wC.cell? ⟨B0 + 1, 0, none⟩ = some (.slice none 0 0) := by simp [World.cell?, hk4]
 have d1 : wC.cell? ⟨B0 + 1, 1, none⟩ = some (.int .i64 0) := by simp [World.cell?, hk4]
 have f0 : wC.frozen? ⟨B0 + 1, 0, none⟩ = false := by simp [World.frozen?, hk4]
 have f1 : wC.frozen? ⟨B0 + 1, 1, none⟩ = false := by simp [World.frozen?, hk4]
 have HBC := zh (HB1.out.trans ((hbB.trans (hbC.mono hzB)).mono HB1.out.size))
 have HK4 := zh hk4
 have HL := zh (And.intro h1 (And.intro h2 h3))
 rw [hwC, HB0.out] at d0 d1 f0 f1
 have HWC := zh hwC
 clear hbB hbC hk4 hwC hzB h1 h2 h3
 go_wp2_with fail
 rw [← HWC.out, ← HB0.out]
 obtain ⟨h6, ho6⟩ := two_set HK4.out (.slice none 0 0) (.int .i64 0)
 have q0 : ((wC.setCell ⟨B0 + 1, 0, none⟩ (.slice none 0 0)).setCell ⟨B0 + 1, 1, none⟩ (.int .i64 0)).cell? ⟨B0 + 1, 0, none⟩ = some (.slice none 0 0) := by simp [World.cell?, h6]
 have q1 : ((wC.setCell ⟨B0 + 1, 0, none⟩ (.slice none 0 0)).setCell ⟨B0 + 1, 1, none⟩ (.int .i64 0)).cell? ⟨B0 + 1, 1, none⟩ = some (.int .i64 0) := by simp [World.cell?, h6]
 have hl6 := cell_lt q0
 refine Go.bodyPost_ret (v := .tuple #[.agg #[.slice none 0 0, .int .i64 0], .int .i64 2]) ?_ ?_ ?_
 ·
  rw [results_cell_tmp rfl]
  simp [go_sem, q0, q1, hl6]
 · rfl
 have hb0 := HB0.out
 exact ⟨⟨none, 0, 0, 0, 2, rfl, .inr ⟨rfl, rfl, rfl, rfl, rfl, L, HL.out⟩⟩, (HBC.out.trans (ho6.below (B := w.heap.size) (fun b e => by omega) HBC.out.size)).mono (by omega)⟩
set_option linter.unusedSimpArgs false in
set_option maxRecDepth 1000000 in
set_option maxHeartbeats 4000000 in
theorem forOf (w : World) (hTb : Tab w) (Sg S : Nat → Prop) (AR : Option Addr) (nR cR : Nat) (g : GramD) (hg : Sl RRule w Sg AR nR cR g.2.2.2) (hv : GValid g) (A : Option Addr) (n cw : Nat) (ws : List Int) (hws : Rd w S 1 A n (ws.map (Value.int .i64))) (hT : ∀ x ∈ ws, 0 ≤ x ∧ x < g.1) (hn : n ≤ 12) :
    Calls Tryz.prog 10 #[.agg #[.int .i64 g.1, .int .i64 g.2.1, .int .i64 g.2.2.1, .slice AR nR cR], .slice A n cw] w fun e w' => ForR g.2.2.2 g.2.2.1.toNat n ws w.heap.size e w' ∧ Below w.heap.size w w' := by
 obtain ⟨B0, hB0⟩ := zE w.heap.size
 obtain ⟨w1, hw1⟩ : ∃ w1 : World, w1 = (w.alloc (.cells #[.int .i64 g.1, .int .i64 g.2.1, .int .i64 g.2.2.1, .slice AR nR cR] 25)).alloc (.cells #[.slice none 0 0, .int .i64 0] 38) := ⟨_, rfl⟩
 have hz1 : w1.heap.size = B0 + 1 + 1 := by rw [hw1, hB0]; simp
 have hb1 : Below w.heap.size w w1 := by rw [hw1]; exact ((Below.refl _ _).alloc (Nat.le_refl _) _).alloc (by simp) _
 have hg1 : w1.heap[B0]? = some (.cells #[.int .i64 g.1, .int .i64 g.2.1, .int .i64 g.2.2.1, .slice AR nR cR] 25 (0, 0)) := by
  rw [hw1, Below.heap_alloc _ _ _ (by simp [hB0]), hB0]
  exact heap_alloc_new w _
 have hf1 : w1.heap[B0 + 1]? = some (.cells #[.slice none 0 0, .int .i64 0] 38 (0, 0)) := by
  rw [hw1]
  exact heap_new _ _ _ (by simp [hB0])
 have HALL := zh (show ∀ (u : World) (X : Nat → Prop), Only w1 u X → (∀ b, X b → B0 < b) → (u.cell? ⟨B0, 0, none⟩ = some (.int .i64 g.1) ∧ u.cell? ⟨B0, 1, none⟩ = some (.int .i64 g.2.1) ∧ u.cell? ⟨B0, 2, none⟩ = some (.int .i64 g.2.2.1) ∧ u.cell? ⟨B0, 3, none⟩ = some (.slice AR nR cR)) from fun u X hu hX => by
  have e := (hu.block _ (heap_lt hg1) (fun h => by have := hX _ h; omega)).trans hg1
  exact ⟨by simp [World.cell?, e], by simp [World.cell?, e], by simp [World.cell?, e], by simp [World.cell?, e]⟩)
 have HBL := zh (show ∀ u : World, Below w1.heap.size w1 u → (u.cell? ⟨B0, 0, none⟩ = some (.int .i64 g.1) ∧ u.cell? ⟨B0, 1, none⟩ = some (.int .i64 g.2.1) ∧ u.cell? ⟨B0, 2, none⟩ = some (.int .i64 g.2.2.1) ∧ u.cell? ⟨B0, 3, none⟩ = some (.slice AR nR cR)) from fun u hu => HALL.out u (fun _ => False) (.of_below hu (Nat.le_refl _) _) fun _ h => h.elim)
 obtain ⟨k0, k1, k2, k3⟩ := HBL.out w1 (Below.refl _ _)
 have HB1 := zh hb1
 have HF1 := zh hf1
 have HZ1 := zh hz1
 have HW := zh (hws.below hb1)
 have HG := zh (hg.below hb1)
 have HV := zh hv
 have HTB := zh (hTb.below hb1 (by have := hTb.1; omega))
 have HT := zh hT
 have HWB := zh (show ∀ c ∈ ws, 0 ≤ c ∧ c < 16 from fun c hc => by have := hT c hc; have := hv.t2; omega)
 have HB0 := zh hB0
 have HW1 := zh hw1
 rw [hw1, hB0] at k0 k1 k2 k3
 clear hb1 hg1 hws hg hv hTb hf1 hz1 hB0 hw1 hT
 go_enter Tryz.func10, Tryz.ntmps10
 go_wp2_with fail
 rw [← HW1.out]
 clear k0 k1 k2 k3
 refine (meanAccepts w1 HTB.out _ _ AR nR cR g HG.out HV.out A n cw ws HW.out HT.out hn).mono ?_
 rintro e w2 ⟨rfl, hb2⟩
 have HB2 := zh hb2
 have HZ2 := zh hb2.size
 clear hb2
 go_wp2_with fail
 rw [← HB0.out]
 refine wp_region_late (late := []) (S1 := fun u => u.cell? ⟨B0, 0, none⟩ = some (.int .i64 g.1) ∧ u.cell? ⟨B0, 1, none⟩ = some (.int .i64 g.2.1) ∧ u.cell? ⟨B0, 2, none⟩ = some (.int .i64 g.2.2.1) ∧ u.cell? ⟨B0, 3, none⟩ = some (.slice AR nR cR)) (S := fun _ => True) (by kernel_rfl) ?_
 refine zP (i := 0) rfl (fun u hu => by obtain ⟨k0, k1, k2, k3⟩ := hu; go_simp; try rfl) (HBL.out _ (HB2.out.trans ((Below.refl w2.heap.size w2).drew.mono HZ2.out))) zt ?_
 simp only [Act.put, zA, zB, zC, zD, zF, zG]
 refine zP (i := 1) rfl (fun u hu => by obtain ⟨k0, k1, k2, k3⟩ := hu; go_simp; try rfl) (HBL.out _ (HB2.out.trans ((Below.refl w2.heap.size w2).drew.mono HZ2.out))) zt ?_
 simp only [Act.put, zA, zB, zC, zD, zF, zG]
 refine zP (i := 2) rfl (fun u hu => by obtain ⟨k0, k1, k2, k3⟩ := hu; go_simp; try rfl) (HBL.out _ (HB2.out.trans ((Below.refl w2.heap.size w2).drew.mono HZ2.out))) zt ?_
 simp only [Act.put, zA, zB, zC, zD, zF, zG]
 refine zP (i := 3) rfl (fun u hu => by obtain ⟨k0, k1, k2, k3⟩ := hu; go_simp; try rfl) (HBL.out _ (HB2.out.trans ((Below.refl w2.heap.size w2).drew.mono HZ2.out))) zt ?_
 simp only [Act.put, zA, zB, zC, zD, zF, zG]
 refine zR 4 rfl (fun K hK => ?_)
 go_simp
 refine (coreEnds w2.drew (HTB.out.below (HB2.out.trans ((Below.refl w2.heap.size w2).drew.mono HZ2.out)) HTB.out.1) _ _ AR nR cR g (HG.out.below (HB2.out.trans ((Below.refl w2.heap.size w2).drew.mono HZ2.out))) HV.out A n cw ws (HW.out.below (HB2.out.trans ((Below.refl w2.heap.size w2).drew.mono HZ2.out))) hn).mono ?_
 rintro e wE ⟨H0, E, rfl, hH0, hH1, hgr, hbd, hsn, hcl, hbE⟩
 have HBE := zh hbE
 have HGR := zh (And.intro hgr (And.intro hH1 (And.intro hbd (And.intro hsn hcl))))
 clear hbE hgr hbd hsn hcl hH1 hH0
 refine hK.out _ _ (HBL.out _ ((HB2.out.trans ((Below.refl w2.heap.size w2).drew.mono HZ2.out)).trans (HBE.out.mono (HB2.out.trans ((Below.refl w2.heap.size w2).drew.mono HZ2.out)).size))) zt ?_
 clear hK K
 refine zR 5 rfl (fun K hK => ?_)
 go_simp
 refine (forMake wE (HTB.out.below ((HB2.out.trans ((Below.refl w2.heap.size w2).drew.mono HZ2.out)).trans (HBE.out.mono (HB2.out.trans ((Below.refl w2.heap.size w2).drew.mono HZ2.out)).size)) HTB.out.1) _ _ AR nR cR g (HG.out.below ((HB2.out.trans ((Below.refl w2.heap.size w2).drew.mono HZ2.out)).trans (HBE.out.mono (HB2.out.trans ((Below.refl w2.heap.size w2).drew.mono HZ2.out)).size))) HV.out A n cw ws (HW.out.below ((HB2.out.trans ((Below.refl w2.heap.size w2).drew.mono HZ2.out)).trans (HBE.out.mono (HB2.out.trans ((Below.refl w2.heap.size w2).drew.mono HZ2.out)).size))) HWB.out hn H0 (H0 + 1 + nonsOf g) H0 (fun i => H0 + 1 + i) E HGR.out.1 HGR.out.2.1 HGR.out.2.2.1 HGR.out.2.2.2.1 HGR.out.2.2.2.2).mono ?_
 rintro e wB ⟨⟨A5, m5, c5, x5, cd5, rfl, hmf⟩, hbB⟩
 have HBB := zh hbB
 have HMF := zh hmf
 clear hbB hmf
 have HZB := zh (show w1.heap.size ≤ wE.heap.size from ((HB2.out.trans ((Below.refl w2.heap.size w2).drew.mono HZ2.out)).trans (HBE.out.mono (HB2.out.trans ((Below.refl w2.heap.size w2).drew.mono HZ2.out)).size)).size)
 refine hK.out _ _ (HBL.out _ (((HB2.out.trans ((Below.refl w2.heap.size w2).drew.mono HZ2.out)).trans (HBE.out.mono (HB2.out.trans ((Below.refl w2.heap.size w2).drew.mono HZ2.out)).size)).trans (HBB.out.mono ((HB2.out.trans ((Below.refl w2.heap.size w2).drew.mono HZ2.out)).trans (HBE.out.mono (HB2.out.trans ((Below.refl w2.heap.size w2).drew.mono HZ2.out)).size)).size))) zt ?_
 clear hK K
 refine zP (i := 6) rfl (fun u hu => by obtain ⟨k0, k1, k2, k3⟩ := hu; go_simp; try rfl) (HBL.out _ (((HB2.out.trans ((Below.refl w2.heap.size w2).drew.mono HZ2.out)).trans (HBE.out.mono (HB2.out.trans ((Below.refl w2.heap.size w2).drew.mono HZ2.out)).size)).trans (HBB.out.mono ((HB2.out.trans ((Below.refl w2.heap.size w2).drew.mono HZ2.out)).trans (HBE.out.mono (HB2.out.trans ((Below.refl w2.heap.size w2).drew.mono HZ2.out)).size)).size))) zt ?_
 simp only [Act.put, zA, zB, zC, zD, zF, zG]
 refine zP (i := 7) rfl (fun u hu => by obtain ⟨k0, k1, k2, k3⟩ := hu; go_simp; try rfl) (HBL.out _ (((HB2.out.trans ((Below.refl w2.heap.size w2).drew.mono HZ2.out)).trans (HBE.out.mono (HB2.out.trans ((Below.refl w2.heap.size w2).drew.mono HZ2.out)).size)).trans (HBB.out.mono ((HB2.out.trans ((Below.refl w2.heap.size w2).drew.mono HZ2.out)).trans (HBE.out.mono (HB2.out.trans ((Below.refl w2.heap.size w2).drew.mono HZ2.out)).size)).size))) zt ?_
 simp only [Act.put, zA, zB, zC, zD, zF, zG]
 refine zR 8 rfl (fun K hK => ?_)
 have hk := ((((HB2.out.trans ((Below.refl w2.heap.size w2).drew.mono HZ2.out)).trans (HBE.out.mono (HB2.out.trans ((Below.refl w2.heap.size w2).drew.mono HZ2.out)).size)).trans (HBB.out.mono ((HB2.out.trans ((Below.refl w2.heap.size w2).drew.mono HZ2.out)).trans (HBE.out.mono (HB2.out.trans ((Below.refl w2.heap.size w2).drew.mono HZ2.out)).size)).size)).block (B0 + 1) (heap_lt HF1.out)).trans HF1.out
 have d0 : wB.cell? ⟨B0 + 1, 0, none⟩ = some (.slice none 0 0) := by simp [World.cell?, hk]
 have d1 : wB.cell? ⟨B0 + 1, 1, none⟩ = some (.int .i64 0) := by simp [World.cell?, hk]
 have f0 : wB.frozen? ⟨B0 + 1, 0, none⟩ = false := by simp [World.frozen?, hk]
 have f1 : wB.frozen? ⟨B0 + 1, 1, none⟩ = false := by simp [World.frozen?, hk]
 have HTS := zh (two_set hk (.slice A5 m5 c5) (.int .i64 x5))
 clear hk
 go_simp
 clear d0 d1 f0 f1
 refine hK.out _ _ (HALL.out _ _ (Only.trans (.of_below (((HB2.out.trans ((Below.refl w2.heap.size w2).drew.mono HZ2.out)).trans (HBE.out.mono (HB2.out.trans ((Below.refl w2.heap.size w2).drew.mono HZ2.out)).size)).trans (HBB.out.mono ((HB2.out.trans ((Below.refl w2.heap.size w2).drew.mono HZ2.out)).trans (HBE.out.mono (HB2.out.trans ((Below.refl w2.heap.size w2).drew.mono HZ2.out)).size)).size)) (Nat.le_refl _) _) HTS.out.2) (fun b e => by omega)) zt ?_
 clear hK K
 refine zP (i := 9) rfl (fun u hu => by obtain ⟨k0, k1, k2, k3⟩ := hu; go_simp; try rfl) (HALL.out _ _ (Only.trans (.of_below (((HB2.out.trans ((Below.refl w2.heap.size w2).drew.mono HZ2.out)).trans (HBE.out.mono (HB2.out.trans ((Below.refl w2.heap.size w2).drew.mono HZ2.out)).size)).trans (HBB.out.mono ((HB2.out.trans ((Below.refl w2.heap.size w2).drew.mono HZ2.out)).trans (HBE.out.mono (HB2.out.trans ((Below.refl w2.heap.size w2).drew.mono HZ2.out)).size)).size)) (Nat.le_refl _) _) HTS.out.2) (fun b e => by omega)) zt ?_
 simp only [Act.put, zA, zB, zC, zD, zF, zG]
 refine wpAnyL_done (by kernel_rfl) ?_ _
 go_wp2_with fail
 obtain ⟨wS, hwS⟩ : ∃ wS : World, wS = (wB.setCell ⟨B0 + 1, 0, none⟩ (.slice A5 m5 c5)).setCell ⟨B0 + 1, 1, none⟩ (.int .i64 x5) := ⟨_, rfl⟩
 rw [← hwS] at HTS ⊢
 have q0 : wS.cell? ⟨B0 + 1, 0, none⟩ = some (.slice A5 m5 c5) := by simp [World.cell?, HTS.out.1]
 have q1 : wS.cell? ⟨B0 + 1, 1, none⟩ = some (.int .i64 x5) := by simp [World.cell?, HTS.out.1]
 have hl6 := cell_lt q0
 refine Go.bodyPost_ret (v := .tuple #[.agg #[.slice A5 m5 c5, .int .i64 x5], .int .i64 cd5]) ?_ ?_ ?_
 ·
  rw [results_cell_tmp rfl]
  simp [go_sem, q0, q1, hl6]
 · rfl
 have hz := HZ1.out
 have hzb := HZB.out
 have hb0 := HB0.out
 have hm := HMF.out.only HTS.out.2 fun b h1 h2 e => by omega
 refine ⟨⟨A5, m5, c5, x5, cd5, rfl, hm.mono (by omega)⟩, ?_⟩
 exact ((HB1.out.trans ((((HB2.out.trans ((Below.refl w2.heap.size w2).drew.mono HZ2.out)).trans (HBE.out.mono (HB2.out.trans ((Below.refl w2.heap.size w2).drew.mono HZ2.out)).size)).trans (HBB.out.mono ((HB2.out.trans ((Below.refl w2.heap.size w2).drew.mono HZ2.out)).trans (HBE.out.mono (HB2.out.trans ((Below.refl w2.heap.size w2).drew.mono HZ2.out)).size)).size)).mono HB1.out.size)).trans (HTS.out.2.below (B := w.heap.size) (fun b e => by omega) (HB1.out.trans ((((HB2.out.trans ((Below.refl w2.heap.size w2).drew.mono HZ2.out)).trans (HBE.out.mono (HB2.out.trans ((Below.refl w2.heap.size w2).drew.mono HZ2.out)).size)).trans (HBB.out.mono ((HB2.out.trans ((Below.refl w2.heap.size w2).drew.mono HZ2.out)).trans (HBE.out.mono (HB2.out.trans ((Below.refl w2.heap.size w2).drew.mono HZ2.out)).size)).size)).mono HB1.out.size)).size)).mono (by omega)
end Go.Proofs.YtjnbjdbndbbanaaGreatDoor
namespace Go.Proofs.YtjnbjdbndbbanaaGreatDoor
open Go.RowKit
set_option maxHeartbeats 1000000 in
theorem mul1 (w : World) (y : Int) (hy : 0 ≤ y ∧ y ≤ 16) : Calls Tryz.prog 75 #[.int .u64 1, .int .u64 y] w fun e w' => e = .returned (.tuple #[.int .u64 0, .int .u64 y]) ∧ w = w' := by
 have : y = 0 ∨ y = 1 ∨ y = 2 ∨ y = 3 ∨ y = 4 ∨ y = 5 ∨ y = 6 ∨ y = 7 ∨ y = 8 ∨ y = 9 ∨ y = 10 ∨ y = 11 ∨ y = 12 ∨ y = 13 ∨ y = 14 ∨ y = 15 ∨ y = 16 := by omega
 clear hy
 rcases this with rfl | rfl | rfl | rfl | rfl | rfl | rfl | rfl | rfl | rfl | rfl | rfl | rfl | rfl | rfl | rfl | rfl
 all_goals
  go_enter Tryz.func75, Tryz.ntmps75
  go_wp2_with go_in
  go_ret2
  exact ⟨rfl, rfl⟩
def repRow (v : Value) (k c : Nat) : List Value := List.replicate k v ++ List.replicate (c - k) (.int .i64 0)
theorem repRow_step (v : Value) (k c m : Nat) (hk : k + m ≤ c) : (repRow v k c).take k ++ List.replicate m v ++ (repRow v k c).drop (k + m) = repRow v (k + m) c := by
 unfold repRow
 rw [List.take_left' (by simp), List.drop_append, List.drop_of_length_le (by simp), List.length_replicate, List.nil_append, ← List.replicate_append_replicate (n := k)]
 congr 1
 rw [List.drop_replicate]
 congr 1
 omega
set_option maxRecDepth 100000 in
set_option maxHeartbeats 2000000 in
theorem repeatB (w : World) (b : Nat) (v : Int) (c : Nat) (hc : 1 ≤ c) (hc2 : c ≤ 16) (hcell : w.cell? ⟨b, 0, none⟩ = some (.int .i64 v)) :
    Calls Tryz.prog 49 #[.slice (some ⟨b, 0, none⟩) 1 1, .int .i64 c] w fun e w' => e = .returned (.slice (some ⟨w.heap.size, 0, none⟩) c c) ∧ w'.heap[w.heap.size]? = some (.cells ((List.replicate c v).map (Value.int .i64)).toArray 3 (0, 0)) ∧ Below w.heap.size w w' := by
 have hmk := tInts.make rfl c (by omega) (by omega) w
 have hmade : madeCells #[Value.int .i64 0] c = (repRow (.int .i64 v) 0 c).toArray := by
  apply Array.ext'
  rw [toList_madeCells_one]
  simp [repRow]
 rw [hmade] at hmk
 have hcp : ∀ ty, (Builtin.copy_ #[22, 22] ty #[.slice (some ⟨w.heap.size, 0, none⟩) c c, .slice (some ⟨b, 0, none⟩) 1 1]).run Tryz.prog (w.alloc (.cells (repRow (.int .i64 v) 0 c).toArray 3)) = .ok (goInt 1) ((w.alloc (.cells (repRow (.int .i64 v) 0 c).toArray 3)).setRow w.heap.size (repRow (.int .i64 v) 1 c).toArray) := by
  intro ty
  have h := run_copy_row Tryz.prog (w.alloc (.cells (repRow (.int .i64 v) 0 c).toArray 3)) 22 22 ty 3 w.heap.size 0 c c ⟨b, 0, none⟩ 1 1 (repRow (.int .i64 v) 0 c).toArray 3 [.int .i64 v] Tryz.underlying22 (by kernel_rfl) (heap_alloc_new w _) (by show 1 = min 1 c; omega)
   (fun j u hu => by
    cases j with
    | zero => obtain rfl : Value.int .i64 v = u := by simpa using hu
              rw [show (⟨b, 0, none⟩ : Addr).add 0 = ⟨b, 0, none⟩ from rfl, World.cell?_alloc_lt _ _ _ (cell_lt hcell)]
              exact hcell
    | succ j => simp at hu) (by simp [repRow]; omega) (by intro u hu; obtain rfl := List.mem_singleton.1 hu; rfl)
  rw [h]
  have := repRow_step (.int .i64 v) 0 c 1 (by omega)
  simp only [List.replicate_one] at this
  simp only [List.length_cons, List.length_nil, Nat.zero_add] at this ⊢
  rw [this]
  rfl
 have HCELL := Lib.hid hcell
 clear hcell hmade
 go_enter Tryz.func49, Tryz.ntmps49
 go_wp2_with (go_at_call 75; refine (mul1 _ _ ⟨by omega, by omega⟩).mono ?_; rintro e w' ⟨rfl, rfl⟩)
 have hst0 : ((w.alloc (.cells (repRow (.int .i64 v) 0 c).toArray 3)).setRow w.heap.size (repRow (.int .i64 v) 1 c).toArray).heap[w.heap.size]? = some (.cells (repRow (.int .i64 v) 1 c).toArray 3 (0, 0)) := setRow_heap _ _ _ _ _ _ (heap_alloc_new w _)
 have hb0 : Below w.heap.size w ((w.alloc (.cells (repRow (.int .i64 v) 0 c).toArray 3)).setRow w.heap.size (repRow (.int .i64 v) 1 c).toArray) := below_setRow ((Below.refl _ _).alloc (Nat.le_refl _) _) (Nat.le_refl _) _
 have HST0 := Lib.hid hst0
 have HB0 := Lib.hid hb0
 clear hst0 hb0 hcp hmk
 go_loopg [8] (c - 1) (fun gk i wr => ∃ k : Nat, 1 ≤ k ∧ k ≤ c ∧ gk = c - k ∧ i = .int .i64 k ∧ wr.heap[w.heap.size]? = some (.cells (repRow (.int .i64 v) k c).toArray 3 (0, 0)) ∧ Below w.heap.size w wr)
 case atStart => exact ⟨1, by omega, by omega, rfl, rfl, HST0.out, HB0.out⟩
 case round =>
  obtain ⟨k, hk1, hk, hgk, rfl, hh, hb⟩ := hrel
  have HGK := Lib.hid hgk
  clear hgk
  have HH := Lib.hid hh
  have HB := Lib.hid hb
  clear HST0 HB0 hb
  by_cases hlt : k < c
  ·
   obtain ⟨m, hm, hm1, hm2⟩ : ∃ m, m = min k (c - k) ∧ 1 ≤ m ∧ k + m ≤ c := ⟨_, rfl, by omega, by omega⟩
   have hcp : ∀ ty, (Builtin.copy_ #[22, 22] ty #[.slice (some ⟨w.heap.size, k, none⟩) (c - k) (c - k), .slice (some ⟨w.heap.size, 0, none⟩) k c]).run Tryz.prog wr.drew = .ok (.int .i64 m) (wr.drew.setRow w.heap.size (repRow (.int .i64 v) (k + m) c).toArray) := by
    intro ty
    have h := run_copy_row Tryz.prog wr.drew 22 22 ty 3 w.heap.size k (c - k) (c - k) ⟨w.heap.size, 0, none⟩ k c (repRow (.int .i64 v) k c).toArray 3 (List.replicate m (.int .i64 v)) Tryz.underlying22 (by kernel_rfl) hh (by simp; exact hm)
     (fun j u hu => by
      obtain ⟨hj, rfl⟩ := List.getElem?_eq_some_iff.1 hu
      rw [List.length_replicate] at hj
      have : wr.drew.cell? ((⟨w.heap.size, 0, none⟩ : Addr).add j) = (repRow (.int .i64 v) k c).toArray[j]? := by
       by_cases h0 : j = 0
       · subst h0; exact cell_of_row wr.drew _ 0 _ _ _ hh
       have := cell_of_row wr.drew w.heap.size j _ _ _ hh
       simpa [Addr.add, h0] using this
      rw [this]
      simp [repRow, List.getElem?_append, show j < k by omega]) (by simp [repRow]; omega) (by intro u hu; rw [List.eq_of_mem_replicate hu]; rfl)
    rw [h]
    have := repRow_step (.int .i64 v) k c m hm2
    simp only [List.length_replicate] at this ⊢
    rw [this]
    rfl
   have hcut : ∀ u, (Instr.slice 22 (.slice (some ⟨w.heap.size, 0, none⟩) c c) (some (.int .i64 (k : Int))) none none).run Tryz.prog u = .ok (.slice (some ⟨w.heap.size, k, none⟩) (c - k) (c - k)) u := fun u => by
    rw [tInts.ll _ c c (k : Int) (by omega) (by omega) u]
    simp [show ¬ c = k by omega, Addr.add, show ¬ k = 0 by omega]
   have hcut2 := fun u => tInts.hN (some ⟨w.heap.size, 0, none⟩) c c k hk u
   have hwr : IntKind.i64.wrap ((k : Int) + (m : Int)) = (k : Int) + (m : Int) := IntWalk.i64_in _ (by omega)
   clear hh hm
   go_wp2_with fail
   go_region
   go_wp2_with fail
   go_roundg (c - (k + m))
   case rel => exact ⟨k + m, by omega, hm2, rfl, by go_num, setRow_heap _ _ _ _ _ _ HH.out, below_setRow HB.out.drew (Nat.le_refl _) _⟩
   case measure => rw [HGK.out]; omega
  obtain rfl : k = c := by omega
  clear hh
  go_wp2_with fail
  go_ret
  refine ⟨rfl, ?_, HB.out⟩
  have h := HH.out
  rw [show repRow (.int .i64 v) k k = (List.replicate k v).map (Value.int .i64) by simp [repRow]] at h
  exact h
set_option maxRecDepth 100000 in
set_option maxHeartbeats 2000000 in
theorem repeat0 (w : World) (b : Nat) (v : Int) (hcell : w.cell? ⟨b, 0, none⟩ = some (.int .i64 v)) :
    Calls Tryz.prog 49 #[.slice (some ⟨b, 0, none⟩) 1 1, .int .i64 0] w fun e w' => e = .returned (.slice (some ⟨w.heap.size, 0, none⟩) 0 0) ∧ w'.heap[w.heap.size]? = some (.cells #[] 3 (0, 0)) ∧ Below w.heap.size w w' := by
 have hmk := tInts.make rfl 0 (by omega) (by omega) w
 rw [show ((0 : Nat) : Int) = 0 from rfl, show madeCells #[Value.int .i64 0] 0 = #[] by apply Array.ext'; rw [toList_madeCells_one]; rfl] at hmk
 have hcp : ∀ ty, (Builtin.copy_ #[22, 22] ty #[.slice (some ⟨w.heap.size, 0, none⟩) 0 0, .slice (some ⟨b, 0, none⟩) 1 1]).run Tryz.prog (w.alloc (.cells #[] 3)) = .ok (.int .i64 0) (w.alloc (.cells #[] 3)) := fun ty => run_copy_none _ _ _ ty 3 _ _ 0 0 1 1 Tryz.underlying22 (by kernel_rfl) (by decide)
 have HCELL := Lib.hid hcell
 clear hcell
 go_enter Tryz.func49, Tryz.ntmps49
 go_wp2_with (go_at_call 75; refine (mul1 _ _ ⟨by omega, by omega⟩).mono ?_; rintro e w' ⟨rfl, rfl⟩)
 go_loopg [8] 0 (fun gk i wr => gk = 0 ∧ i = .int .i64 0 ∧ wr = w.alloc (.cells #[] 3))
 case atStart => exact ⟨rfl, rfl, rfl⟩
 case round =>
  obtain ⟨_, rfl, rfl⟩ := hrel
  go_wp2_with fail
  go_ret
  exact ⟨rfl, heap_alloc_new _ _, (Below.refl _ _).alloc (Nat.le_refl _) _⟩
end Go.Proofs.YtjnbjdbndbbanaaGreatDoor
