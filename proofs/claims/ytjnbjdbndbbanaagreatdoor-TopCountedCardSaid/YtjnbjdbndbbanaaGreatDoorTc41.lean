/- CPlain -/
import Derived.Test.YtjnbjdbndbbanaaGreatDoorTc33
namespace Go.Proofs.YtjnbjdbndbbanaaGreatDoor
open Go.RowKit Go.Maps
theorem tTreesC : SlType Tryz.prog 42 44 3 40 (.agg #[.int .i64 0, .int .i64 0, .slice none 0 0]) := ⟨by kernel_rfl, by kernel_rfl, by kernel_rfl, rfl, by decide⟩
theorem leafC (x : Int) (w : World) : Calls Tryz.prog 52 #[.int .i64 x] w fun e w' => e = .returned (.agg #[.int .i64 (-1), .int .i64 x, .slice none 0 0]) ∧ Below w.heap.size w w' := by
 go_enter Tryz.func52, Tryz.ntmps52
 go_wp2_with fail
 refine bodyPost_ret (v := .agg #[.int .i64 (-1), .int .i64 x, .slice none 0 0]) (by simp [results, Tryz.results52, go_sem]) rfl ?_
 exact ⟨rfl, (Below.refl _ _).alloc (Nat.le_refl _) _⟩
def CSh (t : TreeD) : Prop := ∀ x ∈ nodesT t, (x.rule = -1 ∧ x.kids = []) ∨ (0 ≤ x.rule ∧ x.term = 0)
theorem CSh.top {t : TreeD} (h : CSh t) : (t.rule = -1 ∧ t.kids = []) ∨ (0 ≤ t.rule ∧ t.term = 0) := h t (by rw [nodesT_eq]; simp)
theorem nodesTs_memC {t : TreeD} : ∀ {l : List TreeD} {x : TreeD}, t ∈ l → x ∈ nodesT t → x ∈ nodesTs l
 | a :: l, x, h, hx => by
  rw [nodesTs_cons, List.mem_append]
  rcases List.mem_cons.1 h with rfl | h
  · exact .inl hx
  exact .inr (nodesTs_memC h hx)
theorem CSh.kid {t x : TreeD} (h : CSh t) (hx : x ∈ t.kids) : CSh x := fun y hy => h y (by rw [nodesT_eq]; exact List.mem_cons_of_mem _ (nodesTs_memC hx hy))
theorem three_set {w : World} {K : Nat} {t : TypeId} {a0 a1 a2 : Value} (h : w.heap[K]? = some (.cells #[a0, a1, a2] t (0, 0))) (u0 u1 u2 : Value) :
    (((w.setCell ⟨K, 0, none⟩ u0).setCell ⟨K, 1, none⟩ u1).setCell ⟨K, 2, none⟩ u2).heap[K]? = some (.cells #[u0, u1, u2] t (0, 0)) ∧ Only w (((w.setCell ⟨K, 0, none⟩ u0).setCell ⟨K, 1, none⟩ u1).setCell ⟨K, 2, none⟩ u2) (fun b => b = K) := by
 have h1 := blk_set (blk_set (blk_set h 0 u0) 1 u1) 2 u2
 have hX : ∀ (v : World) (o : Nat) (u : Value), Only v (v.setCell ⟨K, o, none⟩ u) (fun b => b = K) := fun v o u => Only.set _ _ _ _ rfl
 exact ⟨by simpa using h1, ((hX _ _ _).trans (hX _ _ _)).trans (hX _ _ _)⟩
def PlainAt (m : Nat) : Prop := ∀ (t : TreeD), sizeT t ≤ m → CSh t → ∀ (w : World) (T : Nat → Prop) (B : Nat), RPt.ok w T [.pointer (some ⟨B, 0, none⟩)] t → sizeT t ≤ 100000 →
 Calls Tryz.prog 58 #[.pointer (some ⟨B, 0, none⟩)] w fun e w' => (∃ (A : Option Addr) (n c : Nat), e = .returned (.agg #[.int .i64 t.rule, .int .i64 t.term, .slice A n c]) ∧ Sl RTree w' (fun b => w.heap.size ≤ b) A n c t.kids) ∧ Below w.heap.size w w'
set_option linter.unusedSimpArgs false in
set_option maxRecDepth 100000 in
set_option maxHeartbeats 8000000 in
theorem plainS (m : Nat) (IH : ∀ m', m' < m → PlainAt m') : PlainAt m := by
 intro t htm hsh w T B hok hsz
 obtain ⟨_, A, n, c, e1, _, k0, k1, k2, k3, hsl⟩ := RPt.cells.1 hok
 injection e1 with e1 _
 injection e1 with e1
 injection e1 with e1
 injection e1 with e1 _ _
 subst e1
 obtain ⟨BR, hBR⟩ := zE w.heap.size
 obtain ⟨w1, hw1⟩ := zE (w.alloc (.cells #[.int .i64 0, .int .i64 0, .slice none 0 0] 44))
 have hb1 : Below w.heap.size w w1 := by rw [hw1]; exact (Below.refl _ _).alloc (Nat.le_refl _) _
 have hz1 : w1.heap.size = BR + 1 := by rw [hw1, hBR]; simp
 have hr1 : w1.heap[BR]? = some (.cells #[.int .i64 0, .int .i64 0, .slice none 0 0] 44 (0, 0)) := by rw [hw1, hBR]; exact heap_alloc_new _ _
 have lB := cell_lt k0
 have HB1 := zh hb1
 have HR1 := zh hr1
 have HZ1 := zh hz1
 have HBR := zh hBR
 have HW1 := zh hw1
 have HIH := zh IH
 have HTM := zh (And.intro htm hsz)
 have HSH := zh hsh
 have HSL := zh (hsl.below hb1)
 clear hok hsl hb1 hr1 hz1 IH htm hsh hBR
 rcases HSH.out.top with ⟨hr, hk⟩ | ⟨hr, htt⟩
 ·
  have HKN := zh hk
  rw [hr] at k0 ⊢
  have HRL := zh hr
  clear hk hr k2 k3
  go_enter Tryz.func58, Tryz.ntmps58
  go_wp2_with fail
  rw [← hw1]
  refine (leafC t.term w1).mono ?_
  rintro e w2 ⟨rfl, hb2⟩
  have hk4 := (hb2.block BR (heap_lt HR1.out)).trans HR1.out
  have d0 : w2.cell? ⟨BR, 0, none⟩ = some (.int .i64 0) := by simp [World.cell?, hk4]
  have d1 : w2.cell? ⟨BR, 1, none⟩ = some (.int .i64 0) := by simp [World.cell?, hk4]
  have d2 : w2.cell? ⟨BR, 2, none⟩ = some (.slice none 0 0) := by simp [World.cell?, hk4]
  have f0 : w2.frozen? ⟨BR, 0, none⟩ = false := by simp [World.frozen?, hk4]
  have f1 : w2.frozen? ⟨BR, 1, none⟩ = false := by simp [World.frozen?, hk4]
  have f2 : w2.frozen? ⟨BR, 2, none⟩ = false := by simp [World.frozen?, hk4]
  have HK4 := zh hk4
  have HB2 := zh (HB1.out.trans (hb2.mono HB1.out.size))
  rw [HBR.out] at d0 d1 d2 f0 f1 f2
  clear hk4 hb2 hw1
  go_wp2_with fail
  rw [← HBR.out]
  obtain ⟨h6, ho6⟩ := three_set HK4.out (.int .i64 (-1)) (.int .i64 t.term) (.slice none 0 0)
  obtain ⟨w3, hw3⟩ : ∃ w3 : World, w3 = ((w2.setCell ⟨BR, 0, none⟩ (.int .i64 (-1))).setCell ⟨BR, 1, none⟩ (.int .i64 t.term)).setCell ⟨BR, 2, none⟩ (.slice none 0 0) := ⟨_, rfl⟩
  rw [← hw3] at h6 ho6 ⊢
  have q0 : w3.cell? ⟨BR, 0, none⟩ = some (.int .i64 (-1)) := by simp [World.cell?, h6]
  have q1 : w3.cell? ⟨BR, 1, none⟩ = some (.int .i64 t.term) := by simp [World.cell?, h6]
  have q2 : w3.cell? ⟨BR, 2, none⟩ = some (.slice none 0 0) := by simp [World.cell?, h6]
  have hl6 := cell_lt q0
  refine Go.bodyPost_ret (v := .agg #[.int .i64 (-1), .int .i64 t.term, .slice none 0 0]) ?_ ?_ ?_
  · simp [results, Tryz.results58, go_sem, q0, q1, q2, hl6]
  · rfl
  refine ⟨⟨none, 0, 0, rfl, by rw [HKN.out]; exact Sl.nil _ _ _ _⟩, ?_⟩
  rw [HBR.out]
  exact HB2.out.trans (ho6.below (fun b e => by have := HBR.out; omega) HB2.out.size)
 have hr2 : ¬ t.rule < 0 := by omega
 obtain ⟨Bo, hBo⟩ := zE w1.heap.size
 obtain ⟨w2, hw2⟩ := zE (w1.alloc (.cells #[.int .i64 t.rule, .int .i64 0, .slice none 0 0] 44))
 have hb2 : Below w1.heap.size w1 w2 := by rw [hw2]; exact (Below.refl _ _).alloc (Nat.le_refl _) _
 have hz2 : w2.heap.size = Bo + 1 := by rw [hw2, hBo]; simp
 have hg2 : w2.heap[Bo]? = some (.cells #[.int .i64 t.rule, .int .i64 0, .slice none 0 0] 44 (0, 0)) := by rw [hw2, hBo]; exact heap_alloc_new _ _
 have hr4 := (hb2.block BR (heap_lt HR1.out)).trans HR1.out
 have HR2 := zh hr4
 have HG2 := zh hg2
 have HZ2 := zh hz2
 have HBo := zh hBo
 have HW2 := zh hw2
 have HB2 := zh (HB1.out.trans (hb2.mono HB1.out.size))
 have HSL2 := zh (HSL.out.below hb2)
 have HTT := zh htt
 have HNL := zh (show n = t.kids.length from HSL.out.len)
 have hn1 : n ≤ 100000 := by have := HNL.out; have := len_sizeTs t.kids; have := sizeT_eq t; have := HTM.out.2; omega
 have hcap := HSL.out.cap
 clear hw2 hb2 hz2 hg2 hr4 htt hBo k1 k2 hr
 go_enter Tryz.func58, Tryz.ntmps58
 go_wp2_with fail
 rw [← hw1, ← HW2.out, ← HBR.out, show BR + 1 = Bo by rw [HBo.out, HZ1.out]]
 clear hw1
 go_loopg [26] n (fun gk vi wr => ∃ (k : Nat) (F : Nat → Prop) (v : Value), k ≤ n ∧ gk = n - k ∧ vi = .int .i64 (k : Int) ∧ GL RTree 44 wr F v (t.kids.take k) ∧ wr.heap[Bo]? = some (.cells #[.int .i64 t.rule, .int .i64 0, v] 44 (0, 0)) ∧ (∀ b, F b → Bo < b) ∧ Only w2 wr (fun b => b = Bo))
 case atStart => exact ⟨0, fun _ => False, .slice none 0 0, Nat.zero_le _, rfl, rfl, GL.nil _ _, HG2.out, fun b h => h.elim, Only.refl _ _⟩
 case round =>
  obtain ⟨k, F, v, hk, hg, rfl, hgl, hbx, hF, hon⟩ := hrel
  obtain ⟨w3, rfl⟩ := zE wr
  have HG := zh hg
  have HGL := zh hgl
  have HBX := zh hbx
  have HF := zh hF
  have HON := zh hon
  have hz3 := hon.size
  clear hg hgl hF hon
  by_cases hlt : k < n
  ·
   have hkI : (k : Int) < (n : Int) := by omega
   have hTK : ∀ b, T b → b < w1.heap.size → ¬ b = Bo := fun b _ h e => by have := HBo.out; omega
   have hsl3 : Sl RPt w3 (fun b => T b ∧ b < w1.heap.size) A n c t.kids := ((HSL.out.fit).below (by rw [HW2.out]; exact (Below.refl _ _).alloc (Nat.le_refl _) _)).keep (HON.out.kept fun b hb => hTK b hb.1 hb.2)
   obtain ⟨bk, ok, Bk, kd, rfl, _, hkd, p0, hokk⟩ := pt_at hsl3 hlt
   have HKD := zh hkd
   have HOKK := zh hokk
   have lk := cell_lt p0
   have n2 : w3.cell? ⟨Bo, 2, none⟩ = some v := by simp [World.cell?, hbx]
   have HN2 := zh n2
   clear hsl3 hkd hokk hbx hTK
   go_wp2_with fail
   clear n2 p0
   refine wp_region_late (late := [7]) (S1 := fun _ => True) (S := fun u => u.cell? ⟨Bo, 2, none⟩ = some v) (by kernel_rfl) ?_
   refine zP (i := 0) rfl (fun u hu => by go_simp; try rfl) trivial (fun _ => HN2.out) ?_
   simp only [Act.put, zA, zB, zC, zD, zF, zG]
   refine wpAnyL_take (i := 1) rfl (by kernel_rfl) (fun _ _ _ h => h) (Or.inl ⟨by rfl, (fun u hu => by have hc := hu.2; go_simp; try rfl)⟩) trivial (fun _ => HN2.out) ?_
   simp only [Act.put, zA, zB, zC, zD, zF, zG]
   refine zP (i := 2) rfl (fun u hu => by go_simp; try rfl) trivial (fun _ => HN2.out) ?_
   simp only [Act.put, zA, zB, zC, zD, zF, zG]
   refine zR 3 rfl (fun K hK => ?_)
   go_simp
   refine (HIH.out (sizeT kd) (by have := sizeT_kid (t := t) (List.mem_of_getElem? HKD.out); have := HTM.out.1; omega) kd (Nat.le_refl _) (HSH.out.kid (List.mem_of_getElem? HKD.out)) w3.drew _ Bk (RPt.keep HOKK.out (Kept.drew _ _)) (by have := sizeT_kid (t := t) (List.mem_of_getElem? HKD.out); have := HTM.out.2; omega)).mono ?_
   rintro e w4 ⟨⟨A4, m4, c4, rfl, hs4⟩, hb4⟩
   have HB4 := zh (show Below w3.heap.size w3 w4 from (Below.refl w3.heap.size w3).drew.trans hb4)
   have HS4 := zh hs4
   have hbx := (HB4.out.block Bo (heap_lt HBX.out)).trans HBX.out
   obtain ⟨A5, c5, w5, hrun, hcf, hgl5, hbx5, hon5, _⟩ := (HGL.out.below HB4.out).field tTreesC rfl (x := kd) (ys := [.int .i64 kd.rule, .int .i64 kd.term, .slice A4 m4 c4]) (G := fun b => w3.heap.size ≤ b) (RTree.cells.2 ⟨A4, m4, c4, rfl, HS4.out⟩) (fun b hb e => by have := (HGL.out.lt e); omega) (by rw [List.length_take]; omega) (by omega) 42 (B := Bo) (i := 2) hbx rfl (fun h => by have := HF.out _ h; omega) (fun h => by have := heap_lt HBX.out; omega)
   rw [show (t.kids.take k).length = k by rw [List.length_take]; have := HNL.out; omega] at hrun hgl5 hbx5 hon5
   have HRUN := zh hrun
   have HCF := zh hcf
   have HGL5 := zh hgl5
   have HBX5 := zh hbx5
   have HON5 := zh hon5
   have HC4 := zh (show w4.cell? ⟨Bo, 2, none⟩ = some v by simp [World.cell?, hbx])
   clear hbx hrun hcf hgl5 hbx5 hon5 hb4 hs4
   refine hK.out _ _ trivial (fun _ => HC4.out) ?_
   clear hK K
   refine zR 4 rfl (fun K hK => ?_)
   go_simp
   refine hK.out _ _ trivial (fun _ => ((World.cell?_alloc_lt _ _ _ (cell_lt HC4.out)).trans HC4.out)) ?_
   clear hK K
   refine zR 5 rfl (fun K hK => ?_)
   refine step_append_run _ (by rfl) _ _ _ _ (by rfl) _ _ (by rfl) (by rfl) _ _ HRUN.out ?_
   simp only [Act.put, zA, zB, zC, zD, zF, zG]
   refine hK.out _ _ trivial (fun _ => HCF.out.1) ?_
   clear hK K
   refine zP (i := 6) rfl (fun u hu => by go_simp; try rfl) trivial (fun _ => HCF.out.1) ?_
   simp only [Act.put, zA, zB, zC, zD, zF, zG]
   refine zR 7 rfl (fun K hK => ?_)
   have hc := HCF.out.1
   have hf := HCF.out.2
   go_simp
   clear hc hf
   refine hK.out _ _ trivial (fun h => absurd (h 7 (by simp)) (by decide)) ?_
   clear hK K
   refine wpAnyL_done (by kernel_rfl) ?_ _
   go_wp2_with fail
   go_roundg (n - (k + 1))
   case measure => rw [HG.out]; omega
   case rel =>
    have hz4 := HB4.out.size
    refine ⟨k + 1, _, _, by omega, rfl, by go_num, by rw [List.take_add_one, HKD.out]; exact HGL5.out, HBX5.out, fun b hb => ?_, HON.out.onto (Only.trans (.of_below HB4.out (Nat.le_refl _) _) (HON5.out.more (Y := fun b => Bo ≤ b) fun b _ e => ?_)) fun b hb e => ?_⟩
    ·
     rcases hb with h | h | h
     · exact HF.out b h
     · have := heap_lt HBX.out; omega
     have := heap_lt HBX.out; omega
    ·
     rcases e with h | h
     · have := HF.out b h; omega
     omega
    have := HZ2.out; omega
  obtain rfl : k = n := by omega
  obtain ⟨AK, cK, hv, _⟩ := HGL.out.form
  have hlk : (t.kids.take k).length = k := by rw [List.length_take]; have := HNL.out; omega
  rw [hlk] at hv
  subst hv
  have hr3 := (HON.out.block BR (by have := HZ1.out; have := HBo.out; have := HZ2.out; omega) (fun e => by have := HBo.out; have := HZ1.out; omega)).trans HR2.out
  have p0 : w3.cell? ⟨Bo, 0, none⟩ = some (.int .i64 t.rule) := by simp [World.cell?, hbx]
  have p1 : w3.cell? ⟨Bo, 1, none⟩ = some (.int .i64 0) := by simp [World.cell?, hbx]
  have p2 : w3.cell? ⟨Bo, 2, none⟩ = some (.slice AK k cK) := by simp [World.cell?, hbx]
  have d0 : w3.cell? ⟨BR, 0, none⟩ = some (.int .i64 0) := by simp [World.cell?, hr3]
  have d1 : w3.cell? ⟨BR, 1, none⟩ = some (.int .i64 0) := by simp [World.cell?, hr3]
  have d2 : w3.cell? ⟨BR, 2, none⟩ = some (.slice none 0 0) := by simp [World.cell?, hr3]
  have f0 : w3.frozen? ⟨BR, 0, none⟩ = false := by simp [World.frozen?, hr3]
  have f1 : w3.frozen? ⟨BR, 1, none⟩ = false := by simp [World.frozen?, hr3]
  have f2 : w3.frozen? ⟨BR, 2, none⟩ = false := by simp [World.frozen?, hr3]
  have HR3 := zh hr3
  clear hbx hr3 hlk
  go_wp2_with fail
  obtain ⟨h6, ho6⟩ := three_set HR3.out (.int .i64 t.rule) (.int .i64 0) (.slice AK k cK)
  obtain ⟨w4, hw4⟩ : ∃ w4 : World, w4 = ((w3.setCell ⟨BR, 0, none⟩ (.int .i64 t.rule)).setCell ⟨BR, 1, none⟩ (.int .i64 0)).setCell ⟨BR, 2, none⟩ (.slice AK k cK) := ⟨_, rfl⟩
  rw [← hw4] at h6 ho6 ⊢
  have q0 : w4.cell? ⟨BR, 0, none⟩ = some (.int .i64 t.rule) := by simp [World.cell?, h6]
  have q1 : w4.cell? ⟨BR, 1, none⟩ = some (.int .i64 0) := by simp [World.cell?, h6]
  have q2 : w4.cell? ⟨BR, 2, none⟩ = some (.slice AK k cK) := by simp [World.cell?, h6]
  have hl6 := cell_lt q0
  have hBoe : Bo = BR + 1 := by rw [HBo.out, HZ1.out]
  refine Go.bodyPost_ret (v := .agg #[.int .i64 t.rule, .int .i64 0, .slice AK k cK]) ?_ ?_ ?_
  · simp [results, Tryz.results58, go_sem, q0, q1, q2, hl6]
  · rfl
  refine ⟨⟨AK, k, cK, by rw [HTT.out], ?_⟩, ?_⟩
  ·
   have hs := (HGL.out.only ho6 fun b hb _ e => by have := HF.out b hb; omega).sl
   rw [List.take_of_length_le (by rw [← HNL.out]; exact Nat.le_refl _)] at hs
   exact hs.more fun b hb => by have := HF.out b hb; have := HBR.out; omega
  have h1 : Only w w4 (fun b => BR ≤ b) := (Only.trans (.of_below HB2.out (Nat.le_refl _) _) (HON.out.more fun b _ e => by omega)).trans (ho6.more fun b _ e => by omega)
  have h2 := h1.below (B := BR) (fun b e => e) (by rw [HBR.out]; exact Nat.le_refl _)
  rw [HBR.out] at h2
  exact h2
theorem plainAll (m : Nat) : PlainAt m := by
 induction m using Nat.strongRecOn with
 | ind m ih => exact plainS m ih
end Go.Proofs.YtjnbjdbndbbanaaGreatDoor
