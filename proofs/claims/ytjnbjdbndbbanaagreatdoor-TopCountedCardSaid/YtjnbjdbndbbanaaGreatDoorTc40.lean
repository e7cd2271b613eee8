/- LisTk -/
import Derived.Test.YtjnbjdbndbbanaaGreatDoorTc39
namespace Go.Proofs.YtjnbjdbndbbanaaGreatDoor
open Go.RowKit Go.Maps
theorem LM.cells {C : LC} {tag : Nat → Nat} {w : World} {vq : Value} {vs : List Value} {es : List ((Nat × Nat) × Value)} {D : LD} (h : LM C tag w vq vs es D) : w.cell? ⟨C.BL, 0, none⟩ = some (.slice C.A C.m C.c) ∧ w.cell? ⟨C.BL, 2, none⟩ = some (.int .i64 (C.most : Int)) ∧ w.cell? ⟨C.BL, 3, none⟩ = some (.slice (some ⟨C.BV, 0, none⟩) C.m C.m) ∧ w.cell? ⟨C.BL, 5, none⟩ = some (.map (some C.BW)) := by
 have hbl := h.blk
 exact ⟨by simp [World.cell?, hbl, LC.la], by simp [World.cell?, hbl, LC.la], by simp [World.cell?, hbl, LC.la], by simp [World.cell?, hbl, LC.la]⟩
theorem RW_any {w w' : World} {S S' : Nat → Prop} : ∀ {l : List CKey} {xs : List Value}, Cells RW w S xs l → Cells RW w' S' xs l
 | [], _, h => h
 | k :: l, _, h => by
  obtain ⟨cs, rest, e, h1, h2⟩ := h
  exact ⟨cs, rest, e, h1, RW_any h2⟩
theorem c7 {u : World} {B : Nat} {v0 v1 v2 v3 v4 v5 v6 : Value} {ty : TypeId} (h : u.heap[B]? = some (.cells #[v0, v1, v2, v3, v4, v5, v6] ty (0, 0))) : u.cell? ⟨B, 0, none⟩ = some v0 ∧ u.cell? ⟨B, 1, none⟩ = some v1 ∧ u.cell? ⟨B, 2, none⟩ = some v2 ∧ u.cell? ⟨B, 3, none⟩ = some v3 ∧ u.cell? ⟨B, 4, none⟩ = some v4 ∧ u.cell? ⟨B, 5, none⟩ = some v5 ∧ u.cell? ⟨B, 6, none⟩ = some v6 := by
 refine ⟨?_, ?_, ?_, ?_, ?_, ?_, ?_⟩
 all_goals simp [World.cell?, h]
set_option linter.unusedSimpArgs false in
set_option maxRecDepth 100000 in
set_option maxHeartbeats 8000000 in
theorem lisTake (C : LC) (hn : NsOk C.ns) (hmo : C.most ≤ 1000) (tag : Nat → Nat) (w : World) (vq : Value) (vs : List Value) (es : List ((Nat × Nat) × Value)) (D : LD) (h : LM C tag w vq vs es D) (hist : List (List CKey)) (k : CKey) (hI : LI C.ns C.most hist [k] D) (hphi : phi C.most D ≤ 10000000) (t : TreeD) (ht : MadeT C.ns D.ls k t) (hsz : sizeT t ≤ 5000) (B : Nat) (hB : RPt.ok w (fun b => tag b = 8) [.pointer (some ⟨B, 0, none⟩)] t) :
    Calls Tryz.prog 57 #[.pointer (some ⟨C.BL, 0, none⟩), .agg (qV k B).toArray] w fun e w' => e = .returned (.tuple #[]) ∧ ∃ (tag' : Nat → Nat) (vq' : Value) (vs' : List Value) (es' : List ((Nat × Nat) × Value)) (D' : LD) (hist' : List (List CKey)), LM C tag' w' vq' vs' es' D' ∧ LI C.ns C.most hist' [] D' ∧ phi C.most D' ≤ phi C.most D ∧ (∀ b, tag' b ≠ 0 → tag b ≠ 0 ∨ w.heap.size ≤ b) ∧ (∀ b, tag b = 9 → tag' b = 9) ∧ Only w w' (fun b => tag b ≠ 0 ∧ tag b ≠ 8 ∧ tag b ≠ 9) := by
 obtain ⟨a0, a1, r0, r1, r2, r3⟩ := k
 obtain ⟨nd, pk, ts, hnd, hpk, _, _⟩ := id ht
 simp only at hnd hpk
 have hml : C.m = C.ns.length := h.nd.len
 have hv : a0 < C.m := by rw [hml]; exact (List.getElem?_eq_some_iff.1 hnd).1
 have hm0 : C.m ≤ 1000000 := by rw [hml]; exact hn.sm.few
 obtain ⟨vl, hvl⟩ : ∃ vl, vs[a0]? = some vl := ⟨_, List.getElem?_eq_getElem (by rw [h.vl]; exact hv)⟩
 obtain ⟨l, hl⟩ : ∃ l, D.ls[a0]? = some l := ⟨_, List.getElem?_eq_getElem (by rw [← h.fl.len, h.vl]; exact hv)⟩
 obtain ⟨xs0, o1, _⟩ := h.fl.own a0 vl l hvl hl
 obtain ⟨Al, cl, rfl, hlc, _⟩ := o1.form
 have hlm := (hI.lz l (List.mem_of_getElem? hl)).1
 obtain ⟨ll, hll⟩ := zE l.length
 rw [← hll] at hvl hlc hlm
 have HLL := zh hll
 have HN := zh hn
 have HI := zh hI
 have HPHI := zh hphi
 have HT := zh ht
 have HSZ := zh hsz
 have HML := zh hml
 have HND := zh hnd
 have HPK := zh hpk
 have HVL := zh hvl
 have HL := zh hl
 obtain ⟨Bc, hBc⟩ := zE w.heap.size
 obtain ⟨w1, hw1⟩ := zE (w.alloc (.cells #[.int .i64 (a0 : Int), .int .i64 (a1 : Int), .int .i64 (r0 : Int), .int .i64 (r1 : Int), .int .i64 (r2 : Int), .int .i64 (r3 : Int), .pointer (some ⟨B, 0, none⟩)] 130))
 have hb1 : Below w.heap.size w w1 := by rw [hw1]; exact (Below.refl _ _).alloc (Nat.le_refl _) _
 have hz1 : w1.heap.size = Bc + 1 := by rw [hw1, hBc]; simp
 have hg1 : w1.heap[Bc]? = some (.cells #[.int .i64 (a0 : Int), .int .i64 (a1 : Int), .int .i64 (r0 : Int), .int .i64 (r1 : Int), .int .i64 (r2 : Int), .int .i64 (r3 : Int), .pointer (some ⟨B, 0, none⟩)] 130 (0, 0)) := by rw [hw1, hBc]; exact heap_alloc_new _ _
 have hm1 := h.below hb1
 have HM0 := zh h
 have HM1 := zh hm1
 have HB1 := zh hb1
 have HG1 := zh hg1
 have HZ1 := zh hz1
 have HW1 := zh hw1
 have HBC := zh hBc
 have HTL := zh (show ∀ b, tag b ≠ 0 → b < Bc from fun b hb => by have := h.lt b hb; omega)
 have HOK := zh (RPt.keep hB (Kept.below hb1))
 obtain ⟨kb0, kb2, kb3, kb5⟩ := hm1.cells
 have hbv := hm1.bv
 have kv : w1.cell? ⟨C.BV, a0, none⟩ = some (.slice Al ll cl) := by rw [cell_of_row _ _ _ _ _ _ hbv]; simpa using hvl
 obtain ⟨d0, d1, d2, d3, d4, d5, d6⟩ := c7 hg1
 have hvI : (a0 : Int) < (C.m : Int) := by omega
 have hv0 : (0 : Int) ≤ (a0 : Int) := by omega
 clear hb1 hg1 hz1 hm1 h hn hI hphi ht hsz hB hBc hml hnd hpk hvl hl o1 hbv hll
 unfold qV ckV
 simp only [List.cons_append, List.nil_append]
 by_cases hfull : ll = C.most
 ·
  have hq : (ll : Int) = (C.most : Int) := by omega
  clear hfull
  go_enter Tryz.func57, Tryz.ntmps57
  go_wp2_with fail
  rw [← hw1, ← HBC.out]
  clear hw1
  go_quiet (fail)
  obtain ⟨w2, hw2⟩ := zE (w1.drewN nq)
  have hb2 : Below w1.heap.size w1 w2 := by rw [hw2]; exact drewN_below _ _
  have HB2 := zh hb2
  replace kb2 := (hb2.cell (cell_lt kb2)).trans kb2
  rw [← hw2]
  clear hw2 d0 d1 d2 d3 d4 d5 d6 kb3 kv kb0 kb5 hb2
  go_wp2_with fail
  exact Go.bodyPost_ret (v := .tuple #[]) (by simp [results, Tryz.results57, go_sem]) rfl ⟨rfl, tag, vq, vs, es, D, hist, HM1.out.below HB2.out, HI.out.skip, Nat.le_refl _, fun _ h => .inl h, fun _ h => h, (Only.of_below HB1.out (Nat.le_refl _) _).trans (.of_below HB2.out (Nat.le_refl _) _)⟩
 have hq : ¬ (ll : Int) = (C.most : Int) := by omega
 have hllm : ll < C.most := by omega
 clear hfull
 go_enter Tryz.func57, Tryz.ntmps57
 go_wp2_with fail
 rw [← hw1, ← HBC.out]
 clear hw1
 go_quiet (fail)
 obtain ⟨w2, hw2⟩ := zE (w1.drewN nq)
 have hb2 : Below w1.heap.size w1 w2 := by rw [hw2]; exact drewN_below _ _
 have HW2 := zh (show ∀ b : Nat, w2.heap[b]? = w1.heap[b]? by rw [hw2]; exact fun _ => rfl)
 have HZ2 := zh (show w2.heap.size = w1.heap.size by rw [hw2]; rfl)
 have HB2 := zh hb2
 replace kb2 := (hb2.cell (cell_lt kb2)).trans kb2
 rw [← hw2]
 clear hw2 d0 d1 d2 d3 d4 d5 d6 kb0 kb5 hb2
 go_wp2_with fail
 clear kb2
 refine wp_region_late (late := [19]) (S1 := fun u => u.cell? ⟨C.BL, 3, none⟩ = some (.slice (some ⟨C.BV, 0, none⟩) C.m C.m) ∧ u.cell? ⟨Bc, 0, none⟩ = some (.int .i64 (a0 : Int)) ∧ u.cell? ⟨Bc, 6, none⟩ = some (.pointer (some ⟨B, 0, none⟩))) (S := fun u => u.cell? ⟨C.BV, a0, none⟩ = some (.slice Al ll cl)) (by kernel_rfl) ?_
 obtain ⟨w3, hw3⟩ := zE w2.drew
 have HB3 := zh (show Below w1.heap.size w1 w3 by rw [hw3]; exact HB2.out.drew)
 have HW3 := zh (show ∀ b : Nat, w3.heap[b]? = w1.heap[b]? by rw [hw3]; exact HW2.out)
 have HZ3 := zh (show w3.heap.size = w1.heap.size by rw [hw3]; exact HZ2.out)
 rw [← hw3]
 clear hw3
 have HE := zh (show ∀ u : World, (∀ b : Nat, b = Bc ∨ b = C.BL → u.heap[b]? = w1.heap[b]?) → (u.cell? ⟨C.BL, 3, none⟩ = some (.slice (some ⟨C.BV, 0, none⟩) C.m C.m) ∧ u.cell? ⟨Bc, 0, none⟩ = some (.int .i64 (a0 : Int)) ∧ u.cell? ⟨Bc, 6, none⟩ = some (.pointer (some ⟨B, 0, none⟩))) from fun u hu => by
  obtain ⟨d0, _, _, _, _, _, d6⟩ := c7 ((hu Bc (.inl rfl)).trans HG1.out)
  exact ⟨by rw [World.cell?_of_block (hu C.BL (.inr rfl))]; exact kb3, d0, d6⟩)
 have HKV := zh (show w3.cell? ⟨C.BV, a0, none⟩ = some (.slice Al ll cl) by rw [World.cell?_of_block (HW3.out C.BV)]; exact kv)
 obtain ⟨A', c', w4, hrun, hcf, hon4, hon5, tag1, hle1, hor1, hm5⟩ := (HM1.out.below HB3.out).list HVL.out HL.out (by have := HLL.out; omega) (RPt.keep HOK.out (Kept.below HB3.out)) 124
 rw [← HLL.out] at hrun hon5 hm5
 have HRUN := zh hrun
 have HCF := zh hcf
 have HON4 := zh hon4
 have HON5 := zh hon5
 have HLE1 := zh hle1
 have HOR1 := zh hor1
 have HM5 := zh hm5
 have HBL4 := zh (And.intro HM0.out.tL (And.intro (heap_lt HG1.out) (heap_lt HM1.out.blk)))
 have HKE := zh (show ∀ (u : World) (X : Nat → Prop), Only w3 u X → ¬ X Bc → ¬ X C.BL → ∀ b : Nat, b = Bc ∨ b = C.BL → u.heap[b]? = w1.heap[b]? from fun u X hu h1 h2 b e => by
  rcases e with e | e
  · subst e; exact (hu.block b (by rw [HZ3.out]; exact heap_lt HG1.out) h1).trans (HW3.out b)
  subst e; exact (hu.block _ (by rw [HZ3.out]; exact heap_lt HM1.out.blk) h2).trans (HW3.out _))
 have HT0 := zh (show tag Bc = 0 from Classical.byContradiction fun e => by have := HTL.out Bc e; omega)
 clear hrun hcf hon4 hon5 hle1 hor1 hm5 kb3 kv
 refine zP (i := 0) rfl (fun u hu => by obtain ⟨b3, d0, d6⟩ := hu; go_simp; try rfl) (HE.out _ (fun b _ => HW3.out b)) (fun _ => HKV.out) ?_
 simp only [Act.put, zA, zB, zC, zD, zF, zG]
 refine zP (i := 1) rfl (fun u hu => by obtain ⟨b3, d0, d6⟩ := hu; go_simp; try rfl) (HE.out _ (fun b _ => HW3.out b)) (fun _ => HKV.out) ?_
 simp only [Act.put, zA, zB, zC, zD, zF, zG]
 refine zP (i := 2) rfl (fun u hu => by obtain ⟨b3, d0, d6⟩ := hu; go_simp; try rfl) (HE.out _ (fun b _ => HW3.out b)) (fun _ => HKV.out) ?_
 simp only [Act.put, zA, zB, zC, zD, zF, zG]
 refine zP (i := 3) rfl (fun u hu => by obtain ⟨b3, d0, d6⟩ := hu; go_simp; try rfl) (HE.out _ (fun b _ => HW3.out b)) (fun _ => HKV.out) ?_
 simp only [Act.put, zA, zB, zC, zD, zF, zG]
 refine zP (i := 4) rfl (fun u hu => by obtain ⟨b3, d0, d6⟩ := hu; go_simp; try rfl) (HE.out _ (fun b _ => HW3.out b)) (fun _ => HKV.out) ?_
 simp only [Act.put, zA, zB, zC, zD, zF, zG]
 refine zP (i := 5) rfl (fun u hu => by obtain ⟨b3, d0, d6⟩ := hu; go_simp; try rfl) (HE.out _ (fun b _ => HW3.out b)) (fun _ => HKV.out) ?_
 simp only [Act.put, zA, zB, zC, zD, zF, zG]
 refine zP (i := 6) rfl (fun u hu => by obtain ⟨b3, d0, d6⟩ := hu; go_simp; try rfl) (HE.out _ (fun b _ => HW3.out b)) (fun _ => HKV.out) ?_
 simp only [Act.put, zA, zB, zC, zD, zF, zG]
 refine zP (i := 7) rfl (fun u hu => by obtain ⟨b3, d0, d6⟩ := hu; go_simp; try rfl) (HE.out _ (fun b _ => HW3.out b)) (fun _ => HKV.out) ?_
 simp only [Act.put, zA, zB, zC, zD, zF, zG]
 refine zP (i := 8) rfl (fun u hu => by obtain ⟨b3, d0, d6⟩ := hu; go_simp; try rfl) (HE.out _ (fun b _ => HW3.out b)) (fun _ => HKV.out) ?_
 simp only [Act.put, zA, zB, zC, zD, zF, zG]
 refine zP (i := 9) rfl (fun u hu => by obtain ⟨b3, d0, d6⟩ := hu; go_simp; try rfl) (HE.out _ (fun b _ => HW3.out b)) (fun _ => HKV.out) ?_
 simp only [Act.put, zA, zB, zC, zD, zF, zG]
 refine zP (i := 10) rfl (fun u hu => by obtain ⟨b3, d0, d6⟩ := hu; go_simp; try rfl) (HE.out _ (fun b _ => HW3.out b)) (fun _ => HKV.out) ?_
 simp only [Act.put, zA, zB, zC, zD, zF, zG]
 refine zP (i := 11) rfl (fun u hu => by obtain ⟨b3, d0, d6⟩ := hu; go_simp; try rfl) (HE.out _ (fun b _ => HW3.out b)) (fun _ => HKV.out) ?_
 simp only [Act.put, zA, zB, zC, zD, zF, zG]
 refine zP (i := 12) rfl (fun u hu => by obtain ⟨b3, d0, d6⟩ := hu; go_simp; try rfl) (HE.out _ (fun b _ => HW3.out b)) (fun _ => HKV.out) ?_
 simp only [Act.put, zA, zB, zC, zD, zF, zG]
 refine wpAnyL_take (i := 13) rfl (by kernel_rfl) (fun _ _ _ h => h) (Or.inl ⟨by rfl, (fun u hu => by have hu2 := hu.2; go_simp; try rfl)⟩) (HE.out _ (fun b _ => HW3.out b)) (fun _ => HKV.out) ?_
 simp only [Act.put, zA, zB, zC, zD, zF, zG]
 refine zP (i := 14) rfl (fun u hu => by obtain ⟨b3, d0, d6⟩ := hu; go_simp; try rfl) (HE.out _ (fun b _ => HW3.out b)) (fun _ => HKV.out) ?_
 simp only [Act.put, zA, zB, zC, zD, zF, zG]
 refine zP (i := 15) rfl (fun u hu => by obtain ⟨b3, d0, d6⟩ := hu; go_simp; try rfl) (HE.out _ (fun b _ => HW3.out b)) (fun _ => HKV.out) ?_
 simp only [Act.put, zA, zB, zC, zD, zF, zG]
 refine zR 16 rfl (fun K hK => ?_)
 go_simp
 refine hK.out _ _ (HE.out _ (HKE.out _ (fun _ => False) (Only.alloc _ _ _) id id)) (fun _ => ((World.cell?_alloc_lt _ _ _ (cell_lt HKV.out)).trans HKV.out)) ?_
 clear hK K
 refine zR 17 rfl (fun K hK => ?_)
 refine step_append_run _ (by rfl) _ _ _ _ (by rfl) _ _ (by rfl) (by rfl) _ _ HRUN.out ?_
 simp only [Act.put, zA, zB, zC, zD, zF, zG]
 refine hK.out _ _ (HE.out _ (HKE.out _ _ HON4.out (by rw [HT0.out]; decide) (by rw [HBL4.out.1]; decide))) (fun _ => HCF.out.1) ?_
 clear hK K
 refine zP (i := 18) rfl (fun u hu => by obtain ⟨b3, d0, d6⟩ := hu; go_simp; try rfl) (HE.out _ (HKE.out _ _ HON4.out (by rw [HT0.out]; decide) (by rw [HBL4.out.1]; decide))) (fun _ => HCF.out.1) ?_
 simp only [Act.put, zA, zB, zC, zD, zF, zG]
 refine zR 19 rfl (fun K hK => ?_)
 have hc := HCF.out.1
 have hf := HCF.out.2
 go_simp
 clear hc hf
 refine hK.out _ _ (HE.out _ (HKE.out _ _ HON5.out (by rw [HT0.out]; decide) (by rw [HBL4.out.1]; decide))) (fun h => absurd (h 19 (by simp)) (by decide)) ?_
 clear hK K
 refine wpAnyL_done (by kernel_rfl) ?_ _
 obtain ⟨w5, hw5⟩ := zE (w4.setCell ⟨C.BV, a0, none⟩ (.slice A' (ll + 1) c'))
 rw [← hw5] at HON5 HM5 ⊢
 clear hw5 HCF HRUN
 obtain ⟨hist1, hI1, hphi1⟩ := HI.out.add HN.out HT.out HL.out (by have := HLL.out; omega) HSZ.out
 have HI1 := zh hI1
 have HPH1 := zh hphi1
 obtain ⟨D1, hD1⟩ : ∃ D1 : LD, D1 = { D with ls := D.ls.set a0 (l ++ [t]) } := ⟨_, rfl⟩
 rw [show ({ D with ls := D.ls.set (a0, a1, r0, r1, r2, r3).1 (l ++ [t]) } : LD) = D1 from hD1.symm] at HI1 HPH1
 rw [← hD1] at HM5
 have HD1 := zh hD1
 obtain ⟨vs1, hvs1⟩ := zE (vs.set a0 (.slice A' (ll + 1) c'))
 rw [← hvs1] at HM5
 have HT1 := zh (show tag1 Bc = 0 from Classical.byContradiction fun e => by
  rcases HOR1.out Bc e with h | h
  · exact h HT0.out
  have := HZ3.out; have := HZ1.out; omega)
 have HG5 := zh ((HKE.out _ _ HON5.out (by rw [HT0.out]; decide) (by rw [HBL4.out.1]; decide) Bc (.inl rfl)).trans HG1.out)
 have HONW5 := zh (show Only w w5 (fun b => tag b ≠ 0 ∧ tag b ≠ 8 ∧ tag b ≠ 9) from ((Only.of_below HB1.out (Nat.le_refl _) _).trans (.of_below HB3.out (Nat.le_refl _) _)).trans (HON5.out.more fun b _ e => by omega))
 have HZ5 := zh (show w1.heap.size ≤ w5.heap.size by have := HON5.out.size; have := HZ3.out; omega)
 clear hI1 hphi1 hD1 hvs1
 obtain ⟨d0, _, _, _, _, _, _⟩ := c7 HG5.out
 obtain ⟨Bw, hBw⟩ := zE w5.heap.size
 obtain ⟨w6, hw6⟩ := zE (w5.alloc (.cells #[.int .i64 (a0 : Int), .int .i64 (ll : Int)] 169))
 have hb6 : Below w5.heap.size w5 w6 := by rw [hw6]; exact (Below.refl _ _).alloc (Nat.le_refl _) _
 have hg6 : w6.heap[Bw]? = some (.cells #[.int .i64 (a0 : Int), .int .i64 (ll : Int)] 169 (0, 0)) := by rw [hw6, hBw]; exact heap_alloc_new _ _
 have HG6 := zh hg6
 have HB6 := zh hb6
 have hm6 := HM5.out.below hb6
 have HM6 := zh hm6
 obtain ⟨_, _, _, kb5⟩ := hm6.cells
 have q0 : w6.cell? ⟨Bw, 0, none⟩ = some (.int .i64 (a0 : Int)) := by simp [World.cell?, hg6]
 have q1 : w6.cell? ⟨Bw, 1, none⟩ = some (.int .i64 (ll : Int)) := by simp [World.cell?, hg6]
 obtain ⟨v0, hv00⟩ : ∃ v0, v0 = (lk es (a0, ll)).getD (.slice none 0 0) := ⟨_, rfl⟩
 obtain ⟨l0, hl00⟩ : ∃ l0, l0 = (lk D1.wl (a0, ll)).getD [] := ⟨_, rfl⟩
 obtain ⟨_, _, _, _, _, _, _, _, ⟨xs6, o6, _⟩, _⟩ := hm6.wake (a0, ll) 169 hv00 hl00
 obtain ⟨Av, cv, hvf, hcv, _⟩ := o6.form
 obtain ⟨n0, hn0⟩ := zE l0.length
 rw [← hn0] at hvf hcv
 subst hvf
 have hlk : ∀ n, (Instr.lookup 118 (.map (some C.BW)) (.agg #[.int .i64 (a0 : Int), .int .i64 (ll : Int)]) false).run Tryz.prog (w6.drewN n) = .ok (.slice Av n0 cv) (w6.drewN n) := fun n => by
  have h1 := (hm6.wm.only (Only.drewN w6 n (fun _ => False)) id).look mapWaits (zeroWaits _) (a0, ll)
  rw [← hv00] at h1
  exact h1
 have HV00 := zh hv00
 have HL00 := zh hl00
 have HN0 := zh hn0
 have HW6 := zh hw6
 have HBW := zh hBw
 clear hb6 hg6 hm6 o6 hv00 hl00 hn0 hw6 hBw
 go_wp2_with fail
 rw [← HW6.out, ← HBW.out]
 clear d0
 go_quiet (fail)
 obtain ⟨w7, hw7⟩ := zE (w6.drewN nq)
 have HB7 := zh (show Below w6.heap.size w6 w7 by rw [hw7]; exact drewN_below _ _)
 have HW7 := zh (show ∀ b : Nat, w7.heap[b]? = w6.heap[b]? by rw [hw7]; exact fun _ => rfl)
 have HZ7 := zh (show w7.heap.size = w6.heap.size by rw [hw7]; rfl)
 rw [← hw7]
 clear hw7 hlk
 go_wp2_with fail
 refine wp_region_late (late := []) (S1 := fun u => u.cell? ⟨C.BL, 5, none⟩ = some (.map (some C.BW)) ∧ u.cell? ⟨Bw, 0, none⟩ = some (.int .i64 (a0 : Int)) ∧ u.cell? ⟨Bw, 1, none⟩ = some (.int .i64 (ll : Int))) (S := fun _ => True) (by kernel_rfl) ?_
 obtain ⟨w8, hw8⟩ := zE w7.drew
 have HB8 := zh (show Below w6.heap.size w6 w8 by rw [hw8]; exact HB7.out.drew)
 have HW8 := zh (show ∀ b : Nat, w8.heap[b]? = w6.heap[b]? by rw [hw8]; exact HW7.out)
 have HZ8 := zh (show w8.heap.size = w6.heap.size by rw [hw8]; exact HZ7.out)
 rw [← hw8]
 clear hw8
 have HE8 := zh (show ∀ u : World, (∀ b : Nat, b = Bw ∨ b = C.BL → u.heap[b]? = w6.heap[b]?) → (u.cell? ⟨C.BL, 5, none⟩ = some (.map (some C.BW)) ∧ u.cell? ⟨Bw, 0, none⟩ = some (.int .i64 (a0 : Int)) ∧ u.cell? ⟨Bw, 1, none⟩ = some (.int .i64 (ll : Int))) from fun u hu => by
  refine ⟨?_, ?_, ?_⟩
  · rw [World.cell?_of_block (hu C.BL (.inr rfl))]; exact kb5
  · rw [World.cell?_of_block (hu Bw (.inl rfl))]; exact q0
  rw [World.cell?_of_block (hu Bw (.inl rfl))]; exact q1)
 have HTW := zh (show tag1 Bw = 0 from Classical.byContradiction fun e => by have := HM5.out.lt Bw e; have := HBW.out; omega)
 obtain ⟨w9, hdel, hon9, tag2, es2, hle2, h92, hm9, ⟨xs9, o9, x9⟩, hrow9⟩ := (HM6.out.below HB8.out).wake (a0, ll) (0 : TypeId) HV00.out HL00.out
 unfold waitV at hdel
 simp only at hdel
 have HDEL := zh hdel
 have HE9 := zh (show ∀ b : Nat, b = Bw ∨ b = C.BL → w9.heap[b]? = w6.heap[b]? from fun b e => by
  refine (hon9.block b ?_ ?_).trans (HW8.out b)
  ·
   rw [HZ8.out]
   rcases e with e | e
   · subst e; exact heap_lt HG6.out
   subst e; exact heap_lt HM6.out.blk
  intro e2
  rcases e with e | e
  · subst e; rw [HTW.out] at e2; cases e2
  subst e; rw [HM6.out.tL] at e2; cases e2)
 have HON9 := zh hon9
 have HLE2 := zh hle2
 have H92 := zh h92
 have HM9 := zh hm9
 have HO9 := zh (And.intro o9 x9)
 have HROW9 := zh hrow9
 clear hdel hon9 hle2 h92 hm9 o9 x9 hrow9 kb5 q0 q1
 refine zP (i := 0) rfl (fun u hu => by obtain ⟨b5, q0, q1⟩ := hu; go_simp; try rfl) (HE8.out _ fun b _ => HW8.out b) zt ?_
 simp only [Act.put, zA, zB, zC, zD, zF, zG]
 refine zP (i := 1) rfl (fun u hu => by obtain ⟨b5, q0, q1⟩ := hu; go_simp; try rfl) (HE8.out _ fun b _ => HW8.out b) zt ?_
 simp only [Act.put, zA, zB, zC, zD, zF, zG]
 refine zP (i := 2) rfl (fun u hu => by obtain ⟨b5, q0, q1⟩ := hu; go_simp; try rfl) (HE8.out _ fun b _ => HW8.out b) zt ?_
 simp only [Act.put, zA, zB, zC, zD, zF, zG]
 refine zP (i := 3) rfl (fun u hu => by obtain ⟨b5, q0, q1⟩ := hu; go_simp; try rfl) (HE8.out _ fun b _ => HW8.out b) zt ?_
 simp only [Act.put, zA, zB, zC, zD, zF, zG]
 refine zP (i := 4) rfl (fun u hu => by obtain ⟨b5, q0, q1⟩ := hu; go_simp; try rfl) (HE8.out _ fun b _ => HW8.out b) zt ?_
 simp only [Act.put, zA, zB, zC, zD, zF, zG]
 refine zR 5 rfl (fun K hK => ?_)
 refine step_delete_run _ (by rfl) _ _ _ _ (by rfl) _ _ (by rfl) (by rfl) _ _ HDEL.out ?_
 simp only [Act.put, zA, zB, zC, zD, zF, zG]
 refine hK.out _ _ (HE8.out _ HE9.out) zt ?_
 clear hK K
 refine wpAnyL_done (by kernel_rfl) ?_ _
 obtain ⟨hI2, hphi2⟩ := HI1.out.wake (a0, ll) (by rw [← HM5.out.wk]; exact HM5.out.wm.nodup)
 rw [← HL00.out, List.append_nil] at hI2
 rw [← HL00.out, ← HN0.out] at hphi2
 obtain ⟨D2, hD2⟩ : ∃ D2 : LD, D2 = { D1 with wl := D1.wl.filter fun p => decide (p.1 ≠ (a0, ll)) } := ⟨_, rfl⟩
 rw [← hD2] at hI2 hphi2 HM9
 have HI2 := zh hI2
 have HPH2 := zh hphi2
 have HPHA := zh (show phi C.most D1 ≤ 10000000 by have := HPH1.out; have := HPHI.out; omega)
 have hn06 : n0 ≤ 10000000 := by have := HPHA.out; omega
 have HT2 := zh (show ∀ b, b = Bc ∨ rowOf (.slice Av n0 cv) = some b → tag2 b = 0 ∧ b < w9.heap.size from fun b e => by
  rcases e with e | e
  ·
   subst e
   refine ⟨Classical.byContradiction fun e => by have h1 := HLE2.out b e; rw [HT1.out] at h1; exact e h1, ?_⟩
   have := HON9.out.size; have := HZ8.out; have := HB6.out.size; have := heap_lt HG5.out; omega
  exact ⟨(HROW9.out b e).1, (HO9.out.1.row e).2⟩)
 have HZ9 := zh (show w5.heap.size ≤ w9.heap.size by have := HON9.out.size; have := HZ8.out; have := HB6.out.size; omega)
 have HG9 := zh (show w9.heap[Bc]? = some (.cells #[.int .i64 (a0 : Int), .int .i64 (a1 : Int), .int .i64 (r0 : Int), .int .i64 (r1 : Int), .int .i64 (r2 : Int), .int .i64 (r3 : Int), .pointer (some ⟨B, 0, none⟩)] 130 (0, 0)) from by
  refine (HON9.out.block Bc ?_ (by rw [HT1.out]; decide)).trans (((HW8.out Bc).trans (HB6.out.block Bc (heap_lt HG5.out))).trans HG5.out)
  have := HZ8.out; have := HB6.out.size; have := heap_lt HG5.out; omega)
 have HTA := zh (show ∀ b, tag2 b ≠ 0 → tag b ≠ 0 ∨ w.heap.size ≤ b from fun b hb => by
  have h1 := HLE2.out b hb
  rcases HOR1.out b (by rw [← h1]; exact hb) with h | h
  · exact .inl h
  exact .inr (by have := HZ3.out; have := HZ1.out; have := HBC.out; omega))
 have HT9 := zh (show ∀ b, tag b = 9 → tag2 b = 9 from fun b hb => H92.out b (by rw [HLE1.out b (by omega)]; exact hb))
 have HT8 := zh (show ∀ b, tag2 b ≠ 0 → tag2 b ≠ 8 → tag2 b ≠ 9 → (tag b ≠ 0 ∧ tag b ≠ 8 ∧ tag b ≠ 9) ∨ w.heap.size ≤ b from fun b h0 h8 h9 => by
  have h1 := HLE2.out b h0
  rcases HOR1.out b (by rw [← h1]; exact h0) with h | h
  ·
   have h2 := HLE1.out b h
   exact .inl ⟨h, by omega, by omega⟩
  exact .inr (by have := HZ3.out; have := HZ1.out; have := HBC.out; omega))
 have HONW9 := zh (show Only w w9 (fun b => tag b ≠ 0 ∧ tag b ≠ 8 ∧ tag b ≠ 9) from (HONW5.out.trans ((Only.of_below HB6.out (Nat.le_refl _) _).trans (.of_below HB8.out (Nat.le_refl _) _))).onto HON9.out fun b hb e => by
  have h1 : tag1 b = 7 := e
  rcases HOR1.out b (by omega) with h | h
  · have := HLE1.out b h; omega
  have := HZ3.out; have := HZ1.out; have := HBC.out; omega)
 clear hI2 hphi2 hD2
 go_wp2_with fail
 go_loopg [62] n0 (fun gk vi wr => ∃ (i : Nat) (tg : Nat → Nat) (vq' : Value) (es' : List ((Nat × Nat) × Value)) (D' : LD), i ≤ n0 ∧ gk = n0 - i ∧ vi = .int .i64 (i : Int) ∧ LM C tg wr vq' vs1 es' D' ∧ LI C.ns C.most hist1 (l0.drop i) D' ∧ phi C.most D' + n0 = phi C.most D1 + i ∧ (∀ b, b < w9.heap.size → tg b ≠ 0 → tag2 b ≠ 0) ∧ (∀ b, b < w9.heap.size → tag2 b ≠ 0 → tg b = tag2 b) ∧ Only w9 wr (fun b => tag2 b ≠ 0 ∧ tag2 b ≠ 8 ∧ tag2 b ≠ 9))
 case atStart => exact ⟨0, tag2, vq, es2, D2, Nat.zero_le _, rfl, rfl, HM9.out, HI2.out, by have := HPH2.out; omega, fun _ _ h => h, fun _ _ _ => rfl, Only.refl _ _⟩
 case round =>
  obtain ⟨i, tg, vq1, es1, D3, hi, hg, rfl, hm, hI, hph, hta, htb, hon⟩ := hrel
  obtain ⟨wa, rfl⟩ := zE wr
  have HG := zh hg
  have HM := zh hm
  have HI3 := zh hI
  have HPH3 := zh hph
  have HTG := zh (And.intro hta htb)
  have HON := zh hon
  clear hg hm hI hph hta htb hon
  by_cases hlt : i < n0
  ·
   have hltI : (i : Int) < (n0 : Int) := by omega
   have hi0 : (0 : Int) ≤ (i : Int) := by omega
   have o9 := HO9.out.1.sameB (w' := wa) fun g e => HON.out.block g (HT2.out g (.inr e)).2 (by rw [(HT2.out g (.inr e)).1]; decide)
   rw [HN0.out] at o9
   obtain ⟨gv, ⟨b0, b1, s0, s1, s2, s3⟩, hAv, hx, _, c0, c1, c2, c3, c4, c5, c6⟩ := rw_at o9 (RW_any (w' := wa) (S' := fun _ => True) HO9.out.2) (by rw [← HN0.out]; exact hlt)
   simp only at c0 c1 c2 c3 c4 c5
   have hdr : l0.drop i = (b0, b1, s0, s1, s2, s3) :: l0.drop (i + 1) := by
    obtain ⟨h1, h2⟩ := List.getElem?_eq_some_iff.1 hx
    rw [List.drop_eq_getElem_cons h1, h2]
   have HDR := zh hdr
   rw [hdr] at HI3
   obtain ⟨Bx, hBx⟩ := zE wa.heap.size
   obtain ⟨wb, hwb⟩ := zE (wa.alloc (.cells #[.int .i64 (b0 : Int), .int .i64 (b1 : Int), .int .i64 (s0 : Int), .int .i64 (s1 : Int), .int .i64 (s2 : Int), .int .i64 (s3 : Int), .pointer none] 130))
   have hbb : Below wa.heap.size wa wb := by rw [hwb]; exact (Below.refl _ _).alloc (Nat.le_refl _) _
   have HBB := zh hbb
   have HWB := zh hwb
   have HBX := zh hBx
   have hgx : wb.heap[Bx]? = some (.cells #[.int .i64 (b0 : Int), .int .i64 (b1 : Int), .int .i64 (s0 : Int), .int .i64 (s1 : Int), .int .i64 (s2 : Int), .int .i64 (s3 : Int), .pointer none] 130 (0, 0)) := by rw [hwb, hBx]; exact heap_alloc_new _ _
   have HGX := zh hgx
   subst hAv
   have lc := cell_lt c0
   clear o9 hx hdr hBx hwb hbb hgx
   go_upto_region 10 with fail
   rw [← HWB.out, ← HBX.out]
   clear c0 c1 c2 c3 c4 c5 c6 lc
   obtain ⟨x0, x1, x2, x3, x4, x5, x6⟩ := c7 HGX.out
   go_wp2_with fail
   clear x0 x1 x2 x3 x4 x5 x6
   obtain ⟨g1, g2, g3, g4⟩ := HI3.out.ask hmo (by have := HPH3.out; have := HPHA.out; omega)
   refine (lisTry C HN.out.sm tg wb vq1 vs1 es1 D3 (HM.out.below HBB.out) (b0, b1, s0, s1, s2, s3) ((HI3.out.cb _ (HI3.out.sub _ (by simp))).cin HN.out (by omega)) g1 g2 g3 g4).mono ?_
   rintro e wc ⟨rfl, tg2, vq2, es3, D4, hm4, ht4, hle4, hor4, hon4⟩
   have HM4 := zh hm4
   have HT4 := zh (ht4.keep HI3.out)
   have HS4 := zh ht4.ls
   have HLE4 := zh hle4
   have HOR4 := zh hor4
   have HON4' := zh hon4
   clear hm4 ht4 hle4 hor4 hon4 g1 g2 g3 g4
   go_wp2_with fail
   go_roundg (n0 - (i + 1))
   case measure => rw [HG.out]; omega
   case rel =>
    refine ⟨i + 1, tg2, vq2, es3, D4, by omega, rfl, by go_num, HM4.out, HT4.out.1, ?_, fun b hb h => ?_, fun b hb h => ?_, ?_⟩
    ·
     have h1 := HT4.out.2
     have h2 := HPH3.out
     have h3 := HS4.out
     unfold phi at h2 ⊢
     rw [h1, h3]
     omega
    ·
     rcases HOR4.out b h with h | h
     · exact HTG.out.1 b hb h
     have := HON.out.size; have := HBB.out.size; omega
    ·
     have h1 := HTG.out.2 b hb h
     rw [HLE4.out b (by rw [h1]; exact h), h1]
    refine (HON.out.trans (.of_below HBB.out (Nat.le_refl _) _)).onto HON4'.out fun b hb e => ?_
    have h0 := HTG.out.1 b hb e.1
    have h1 := HTG.out.2 b hb h0
    omega
  obtain rfl : i = n0 := by omega
  have hI4 := HI3.out
  rw [List.drop_of_length_le (by rw [← HN0.out]; exact Nat.le_refl _)] at hI4
  have HI4 := zh hI4
  have HP4 := zh (show phi C.most D3 = phi C.most D1 by have := HPH3.out; omega)
  have hva : a0 < C.m := by omega
  obtain ⟨bN, oN, nd', AP, nP, cP, hA, _, hnd', y1, y2, y3, y4, n4, hsp⟩ := node_at HM.out.nd hva
  obtain rfl : nd' = nd := Option.some.inj (hnd'.symm.trans HND.out)
  have hpn : a1 < nP := by rw [hsp.len]; exact (List.getElem?_eq_some_iff.1 HPK.out).1
  obtain ⟨bP, oP, pk', AK, nK, cK, rfl, hpk', p0, p1, hsk⟩ := pack_at hsp hpn
  obtain rfl : pk' = pk := Option.some.inj (hpk'.symm.trans HPK.out)
  obtain ⟨_, hok2⟩ := HN.out.ok nd' (List.mem_of_getElem? hnd')
  obtain ⟨_, hk4, _⟩ := hok2 pk' (List.mem_of_getElem? hpk')
  have HNK := zh (show nK = pk'.2.length from hsk.len)
  have hnPl : nP = nd'.2.2.2.length := hsp.len
  have hnP6 : nP ≤ 1000000 := by rw [hnPl]; exact HN.out.sm.pk nd' (List.mem_of_getElem? hnd')
  have hK4 : nK ≤ 4 := by have := HNK.out; omega
  have hcap := hsp.cap
  have hcapn := HM.out.nd.cap
  obtain ⟨kb0, _, _, _⟩ := HM.out.cells
  rw [hA] at kb0
  have hgc : wa.heap[Bc]? = _ := (HON.out.block Bc (HT2.out Bc (.inl rfl)).2 (by rw [(HT2.out Bc (.inl rfl)).1]; decide)).trans HG9.out
  have HGC := zh hgc
  obtain ⟨d0, d1, _, _, _, _, _⟩ := c7 hgc
  clear hI4 hA y1 y2 y3 y4 p0 hsp hsk hok2 hk4 hnd' hpk' hnPl hgc
  go_wp2_with fail
  go_quiet (fail)
  obtain ⟨wd, hwd⟩ := zE (wa.drewN nq)
  have HBD := zh (show Below wa.heap.size wa wd by rw [hwd]; exact drewN_below _ _)
  have HZD := zh (show wd.heap.size = wa.heap.size by rw [hwd]; rfl)
  rw [← hwd]
  clear hwd d0 d1 kb0 n4 p1
  go_wp2_with fail
  go_loopg [86] nK (fun gk vi wr => ∃ (j : Nat) (tg' : Nat → Nat) (vq' : Value) (es' : List ((Nat × Nat) × Value)) (D' : LD), j ≤ nK ∧ gk = nK - j ∧ vi = .int .i64 (j : Int) ∧ LM C tg' wr vq' vs1 es' D' ∧ LI C.ns C.most hist1 [] D' ∧ phi C.most D' ≤ phi C.most D1 + j ∧ (∀ b, b < wd.heap.size → tg' b ≠ 0 → tg b ≠ 0) ∧ (∀ b, b < wd.heap.size → tg b ≠ 0 → tg' b = tg b) ∧ Only wd wr (fun b => tg b ≠ 0 ∧ tg b ≠ 8 ∧ tg b ≠ 9))
  case atStart => exact ⟨0, tg, vq1, es1, D3, Nat.zero_le _, rfl, rfl, HM.out.below HBD.out, HI4.out, by have := HP4.out; omega, fun _ _ h => h, fun _ _ _ => rfl, Only.refl _ _⟩
  case round =>
   obtain ⟨j, tg', vq5, es5, D5, hj, hg5, rfl, hm, hI, hph, hta, htb, hon⟩ := hrel
   obtain ⟨wx, rfl⟩ := zE wr
   have HG5' := zh hg5
   have HM5' := zh hm
   have HI5 := zh hI
   have HPH5 := zh hph
   have HTG5 := zh (And.intro hta htb)
   have HON5' := zh hon
   have HTC := zh (show tg Bc = 0 from Classical.byContradiction fun e => by
    have h2 := HT2.out Bc (.inl rfl)
    exact HTG.out.1 Bc h2.2 e h2.1)
   have HGX5 := zh ((hon.block Bc (by rw [HZD.out]; exact heap_lt HGC.out) (by rw [HTC.out]; decide)).trans ((HBD.out.block Bc (heap_lt HGC.out)).trans HGC.out))
   clear hg5 hm hI hph hta htb hon
   by_cases hlj : j < nK
   ·
    have hljI : (j : Int) < (nK : Int) := by omega
    have hj0 : (0 : Int) ≤ (j : Int) := by omega
    have hj4 : j < 4 := by omega
    have hj4I : (j : Int) < 4 := by omega
    obtain ⟨r, hr⟩ := rkL_at (k := (a0, a1, r0, r1, r2, r3)) hj4
    obtain ⟨q0, q1, q2, q3, hbump, hset⟩ := bump_set (p := .pointer (some ⟨B, 0, none⟩)) hj4 hr
    have hcbk := HI.out.cb _ (HI.out.sub _ (by simp : (a0, a1, r0, r1, r2, r3) ∈ [(a0, a1, r0, r1, r2, r3)] ++ cands D ++ hist.flatten))
    have hr6 : r ≤ 1000 := by
     obtain ⟨_, _, _, _, h5⟩ := hcbk
     have := (h5 j r hr).1
     omega
    have hcb := hcbk.bump HT.out (fun l hl => (HI.out.lz l hl).1) HND.out HPK.out (i := j) (by rw [← HNK.out]; exact hlj) (by have := HNK.out; omega)
    rw [hbump] at hcb
    have HCB := zh hcb
    obtain ⟨Bn, hBn⟩ := zE wx.heap.size
    obtain ⟨wy, hwy⟩ := zE (wx.alloc (.cells #[.int .i64 (a0 : Int), .int .i64 (a1 : Int), .int .i64 (r0 : Int), .int .i64 (r1 : Int), .int .i64 (r2 : Int), .int .i64 (r3 : Int), .pointer (some ⟨B, 0, none⟩)] 130))
    have hby : Below wx.heap.size wx wy := by rw [hwy]; exact (Below.refl _ _).alloc (Nat.le_refl _) _
    have hgy : wy.heap[Bn]? = some (.cells #[.int .i64 (a0 : Int), .int .i64 (a1 : Int), .int .i64 (r0 : Int), .int .i64 (r1 : Int), .int .i64 (r2 : Int), .int .i64 (r3 : Int), .pointer (some ⟨B, 0, none⟩)] 130 (0, 0)) := by rw [hwy, hBn]; exact heap_alloc_new _ _
    have HBY := zh hby
    have HGY := zh hgy
    have HWY := zh hwy
    have HBN := zh hBn
    have ci := rk_cell hgy hr
    have fi : wy.frozen? ⟨Bn, 2 + j, none⟩ = false := by simp [World.frozen?, hgy]
    obtain ⟨d0, d1, d2, d3, d4, d5, d6⟩ := c7 HGX5.out
    obtain ⟨wz, hwz⟩ := zE (wy.setCell ⟨Bn, 2 + j, none⟩ (.int .i64 ((r : Int) + 1)))
    have hgz := blk_set hgy (2 + j) (.int .i64 ((r : Int) + 1))
    rw [hset, ← hwz] at hgz
    have hbz : Below wx.heap.size wy wz := by rw [hwz]; exact (Only.set wy Bn (2 + j) _ rfl : Only wy _ (fun b => b = Bn)).below (fun b e => by omega) hby.size
    have HBZ := zh (hby.trans hbz)
    have HGZ := zh hgz
    have HWZ := zh hwz
    have HR := zh hr
    have HBUMP := zh hbump
    clear hset hcbk hcb hBn hwy hby hgy hwz hgz hbz hr hbump
    go_upto_region 16 with fail
    rw [← HWY.out, ← HBN.out]
    clear d0 d1 d2 d3 d4 d5 d6
    go_upto_region 17 with fail
    rw [← HWZ.out]
    clear ci fi
    obtain ⟨d0, d1, d2, d3, d4, d5, d6⟩ := c7 HGZ.out
    go_wp2_with fail
    clear d0 d1 d2 d3 d4 d5 d6
    obtain ⟨g1, g2, g3, g4⟩ := HI5.out.ask hmo (by have := HPH5.out; have := HPHA.out; omega)
    refine (lisFirst C HN.out.sm tg' wz vq5 vs1 es5 D5 (HM5'.out.below HBZ.out) (a0, a1, q0, q1, q2, q3) (HCB.out.cin HN.out (by omega)) g1 g2 g3 g4 (some ⟨B, 0, none⟩)).mono ?_
    rintro e we ⟨rfl, tg6, vq6, es6, D6, hm6, ht6, hle6, hor6, hon6⟩
    have hI6 : LI C.ns C.most hist1 [] D6 ∧ phi C.most D6 ≤ phi C.most D5 + 1 := by
     rcases ht6 with ⟨_, rfl⟩ | ⟨hk, ht⟩
     · exact ⟨HI5.out, Nat.le_succ _⟩
     obtain ⟨h1, h2⟩ := ht.keep (HI5.out.know hk HCB.out)
     refine ⟨h1, ?_⟩
     have h3 := ht.ls
     unfold phi
     rw [h2, h3]
     show (cands D5).length + 1 + 5 * room C.most D5.ls ≤ _
     omega
    have HI6 := zh hI6
    have HM6' := zh hm6
    have HLE6 := zh hle6
    have HOR6 := zh hor6
    have HON6 := zh hon6
    clear hI6 hm6 ht6 hle6 hor6 hon6 g1 g2 g3 g4
    go_wp2_with fail
    go_roundg (nK - (j + 1))
    case measure => rw [HG5'.out]; omega
    case rel =>
     refine ⟨j + 1, tg6, vq6, es6, D6, by omega, rfl, by go_num, HM6'.out, HI6.out.1, by have := HI6.out.2; have := HPH5.out; omega, fun b hb h => ?_, fun b hb h => ?_, ?_⟩
     ·
      rcases HOR6.out b h with h | h
      · exact HTG5.out.1 b hb h
      have := HON5'.out.size; have := HBZ.out.size; omega
     ·
      have h1 := HTG5.out.2 b hb h
      rw [HLE6.out b (by rw [h1]; exact h), h1]
     refine (HON5'.out.trans (.of_below HBZ.out (Nat.le_refl _) _)).onto HON6.out fun b hb e => ?_
     have h0 := HTG5.out.1 b hb e.1
     have h1 := HTG5.out.2 b hb h0
     omega
   obtain rfl : j = nK := by omega
   go_wp2_with fail
   have hzw : w.heap.size ≤ w9.heap.size := HONW9.out.size
   have hzd : w9.heap.size ≤ wd.heap.size := by have := HON.out.size; have := HZD.out; omega
   refine Go.bodyPost_end (v := .tuple #[]) (by simp [results, Tryz.results57, go_sem]) rfl ⟨rfl, tg', vq5, vs1, es5, D5, hist1, HM5'.out, HI5.out, by have := HPH5.out; have := HPH1.out; omega, fun b hb => ?_, fun b hb => ?_, ?_⟩
   ·
    by_cases h1 : b < w9.heap.size
    · exact HTA.out b (HTG.out.1 b h1 (HTG5.out.1 b (by omega) hb))
    exact .inr (by omega)
   ·
    have h1 := HT9.out b hb
    have h2 : b < w9.heap.size := by have := HTL.out b (by omega); have := HBC.out; omega
    have h3 := HTG.out.2 b h2 (by omega)
    have h4 := HTG5.out.2 b (by omega) (by omega)
    omega
   refine (HONW9.out.onto (HON.out.trans (.of_below HBD.out (Nat.le_refl _) _)) fun b hb e => ?_).onto HON5'.out fun b hb e => ?_
   ·
    rcases HT8.out b e.1 e.2.1 e.2.2 with h | h
    · exact h
    omega
   have h0 := HTG.out.1 b (by omega) e.1
   have h1 := HTG.out.2 b (by omega) h0
   rcases HT8.out b h0 (by omega) (by omega) with h | h
   · exact h
   omega
end Go.Proofs.YtjnbjdbndbbanaaGreatDoor
