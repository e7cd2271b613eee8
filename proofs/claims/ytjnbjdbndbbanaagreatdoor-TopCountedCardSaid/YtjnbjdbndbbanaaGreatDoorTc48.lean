/- ForVal -/
import Derived.Test.YtjnbjdbndbbanaaGreatDoorTc35
import Derived.Test.YtjnbjdbndbbanaaGreatDoorTc47
namespace Go.Proofs.YtjnbjdbndbbanaaGreatDoor
open Go.RowKit Go.Maps
theorem der_cover {R : List RuleD} {ws : List Int} {L : List KeyD} (hL : FoL R ws L) {l : List SymD} {i j : Nat} (h : DerW R ws l i j) : ∀ p, i ≤ p → p < j → (∀ (a : List SymD) (s : SymD) (b : List SymD) (i' j' : Nat), l = a ++ s :: b → DerW R ws a i i' → DerW R ws [s] i' j' → DerW R ws b j' j → (s, i', j') ∈ L) → ∃ c : Int, ((true, c), p, p + 1) ∈ L := by
 induction h with
 | nil => intro p h1 h2; omega
 | @term c l i j h1 h2 ih =>
  intro p hp1 hp2 hL'
  by_cases e : p = i
  ·
   subst e
   exact ⟨c, hL' [] (true, c) l p (p + 1) rfl .nil (.term h1 .nil) h2⟩
  exact ih p (by omega) hp2 fun a s b i' j' e2 h3 h4 h5 => hL' ((true, c) :: a) s b i' j' (by rw [e2]; rfl) (.term h1 h3) h4 h5
 | @non A r l i k j h1 h2 h3 ih2 ih3 =>
  intro p hp1 hp2 hL'
  by_cases e : p < k
  ·
   have hn := hL' [] (false, A) l i k rfl .nil (.non h1 h2 .nil) h3
   exact ih2 p hp1 e fun a s b i' j' e2 h4 h5 h6 => hL.cl _ hn _ (fEdge_iff.2 ⟨rfl, (A, r), h1, rfl, a, b, e2, h4, h5, h6⟩)
  exact ih3 p (by omega) hp2 fun a s b i' j' e2 h4 h5 h6 => hL' ((false, A) :: a) s b i' j' (by rw [e2]; rfl) (.non h1 h2 h4) h5 h6
theorem FoX.cover {R : List RuleD} {ws : List Int} {s : SymD} {n : Nat} {L : List KeyD} (h : FoX R ws (s, 0, n) L) {p : Nat} (hp : p < n) : ∃ c : Int, ((true, c), p, p + 1) ∈ L := by
 have hd := h.der _ h.rt
 refine der_cover h.toFoL hd.1 p (Nat.zero_le _) hp fun a s' b i' j' e h1 h2 h3 => ?_
 have ha : a = [] ∧ s' = s ∧ b = [] := by
  cases a with
  | nil => injection e with e1 e2; exact ⟨rfl, e1.symm, e2.symm⟩
  | cons x a => injection e with e1 e2; cases a <;> cases e2
 obtain ⟨rfl, rfl, rfl⟩ := ha
 rw [← h1.nil_eq, h3.nil_eq]
 exact h.rt
theorem FoX.term {R : List RuleD} {ws : List Int} {root : KeyD} {L : List KeyD} (h : FoX R ws root L) {c : Int} {i j : Nat} (hx : ((true, c), i, j) ∈ L) : ws[i]? = some c := by
 have hd := (h.der _ hx).1
 cases hd with
 | term h1 _ => exact h1
theorem nodes_ok {R : List RuleD} {ws : List Int} (hn : ws.length ≤ 12) (hR : ∀ r ∈ R, r.2.length ≤ 4) (hl : R.length ≤ 32) {L : List KeyD} : ∀ d ∈ L.map (nodeZ R ws L), d.2.2.2.length ≤ 1000000 ∧ ∀ p ∈ d.2.2.2, p.2.length ≤ 1000000 := by
 intro d hd
 obtain ⟨y, hy, rfl⟩ := List.mem_map.1 hd
 refine ⟨?_, fun p hp => ?_⟩
 ·
  show ((packsP R ws y).map (pkZ L)).length ≤ 1000000
  rw [List.length_map]
  exact packs_few' hn hR hl y
 obtain ⟨q, hq, rfl⟩ := List.mem_map.1 hp
 show (q.2.map fun y => (ixK L y : Int)).length ≤ 1000000
 rw [List.length_map]
 obtain ⟨_, r, hr, _, h3⟩ := mem_packsP.1 hq
 rw [splP_kids h3]
 exact Nat.le_trans (hR r (List.mem_of_getElem? hr)) (by decide)
set_option linter.unusedSimpArgs false in
set_option maxRecDepth 100000 in
set_option maxHeartbeats 4000000 in
theorem forCheck (w : World) (hTb : Tab w) (Sg S : Nat → Prop) (AR : Option Addr) (nR cR : Nat) (g : GramD) (hg : Sl RRule w Sg AR nR cR g.2.2.2) (hv : GValid g) (A : Option Addr) (n cw : Nat) (ws : List Int) (hws : Rd w S 1 A n (ws.map (Value.int .i64))) (hT : ∀ x ∈ ws, 0 ≤ x ∧ x < g.1) (hn : n ≤ 12)
    (hfew : ∀ L : List KeyD, L.Nodup → (∀ x ∈ L, DerK g.2.2.2 ws x) → sumPk g.2.2.2 ws L ≤ 20000) (A1 : Option Addr) (m1 c1 z : Nat) (x1 : Int) (hf : MfD g.2.2.2 g.2.2.1.toNat n ws z w A1 m1 c1 x1) :
    Calls Tryz.prog 50 #[.agg #[.int .i64 g.1, .int .i64 g.2.1, .int .i64 g.2.2.1, .slice AR nR cR], .slice A n cw, .agg #[.slice A1 m1 c1, .int .i64 x1]] w fun e w' => e = .returned (.int .i64 0) ∧ Below w.heap.size w w' := by
 obtain ⟨w1, hw1⟩ : ∃ w1 : World, w1 = (w.alloc (.cells #[.int .i64 g.1, .int .i64 g.2.1, .int .i64 g.2.2.1, .slice AR nR cR] 25)).alloc (.cells #[.slice A1 m1 c1, .int .i64 x1] 38) := ⟨_, rfl⟩
 have hb1 : Below w.heap.size w w1 := by rw [hw1]; exact ((Below.refl _ _).alloc (Nat.le_refl _) _).alloc (by simp) _
 have HB1 := zh hb1
 have hz1 : w1.heap.size = w.heap.size + 1 + 1 := by rw [hw1]; simp
 have HF1 := zh (show w1.heap[w.heap.size + 1]? = some (.cells #[.slice A1 m1 c1, .int .i64 x1] 38 (0, 0)) by rw [hw1]; exact heap_new _ _ _ (by simp))
 have HW := zh (hws.below hb1)
 have HG := zh (hg.below hb1)
 have HV := zh hv
 have HTB := zh (hTb.below hb1 (by have := hTb.1; omega))
 have HT := zh hT
 have HF := zh hf
 have HFEW := zh hfew
 have HWL := zh (show ws.length = n by simpa using hws.1)
 have HW1 := zh hw1
 clear hb1 hws hg hv hTb hw1 hT hf hfew
 go_enter Tryz.func50, Tryz.ntmps50
 go_wp2_with fail
 rw [← HW1.out]
 refine (forOf w1 HTB.out _ _ AR nR cR g HG.out HV.out A n cw ws HW.out HT.out hn).mono ?_
 rintro e w2 ⟨⟨A2, m2, c2, x2, cd, rfl, hfd⟩, hb2⟩
 rcases hfd with ⟨rfl, hm2⟩ | ⟨_, _, _, _, _, L, h1, h2, h3⟩
 rotate_left
 · exact absurd (HFEW.out L h1 h2) (by omega)
 have hx : x2 = x1 := by
  rcases HF.out with ⟨h0, _, _, _, e1⟩ | ⟨h0, S1, L1, e1, _, hf1, _⟩
  ·
   rcases hm2 with ⟨_, _, _, _, e2⟩ | ⟨h0', _⟩
   · rw [e1, e2]
   exact absurd h0' h0
  rcases hm2 with ⟨h0', _⟩ | ⟨_, S2, L2, e2, _, hf2, _⟩
  · exact absurd h0 h0'
  rw [e1, e2, hf1.uniq hf2]
 subst hx
 obtain ⟨S3, S4, ns, hn1, hn2, hns, hnl⟩ : ∃ (S3 S4 : Nat → Prop) (ns : List NodeD), Sl RNode w S3 A1 m1 c1 ns ∧ Sl RNode w2 S4 A2 m2 c2 ns ∧ (∀ d ∈ ns, d.2.2.2.length ≤ 1000000 ∧ ∀ p ∈ d.2.2.2, p.2.length ≤ 1000000) ∧ ns.length ≤ 1000000 := by
  rcases HF.out with ⟨h0, rfl, rfl, rfl, e1⟩ | ⟨h0, S1, L1, e1, hs1, hf1, hl1, _⟩
  ·
   rcases hm2 with ⟨_, rfl, rfl, rfl, e2⟩ | ⟨h0', _⟩
   · exact ⟨fun _ => True, fun _ => True, [], Sl.nil _ _ _ _, Sl.nil _ _ _ _, by simp, by simp⟩
   exact absurd h0' h0
  rcases hm2 with ⟨h0', _⟩ | ⟨_, S2, L2, e2, hs2, hf2, _⟩
  · exact absurd h0 h0'
  have := hf1.uniq hf2
  subst this
  exact ⟨S1, S2, _, hs1, hs2, nodes_ok (by rw [HWL.out]; exact hn) (fun r hr => (HV.out.rules r hr).2.1) HV.out.rl, by rw [List.length_map]; omega⟩
 obtain ⟨w3, hw3⟩ := zE (w2.alloc (.cells #[.slice A2 m2 c2, .int .i64 x2] 38))
 have hb3 : Below w2.heap.size w2 w3 := by rw [hw3]; exact (Below.refl _ _).alloc (Nat.le_refl _) _
 have hz2 := hb2.size
 have hk1 := ((hb2.trans (hb3.mono hz2)).block (w.heap.size + 1) (by omega)).trans HF1.out
 have hk2 : w3.heap[w2.heap.size]? = some (.cells #[.slice A2 m2 c2, .int .i64 x2] 38 (0, 0)) := by rw [hw3]; exact heap_alloc_new _ _
 have r0 : w3.cell? ⟨w.heap.size + 1, 0, none⟩ = some (.slice A1 m1 c1) := by simp [World.cell?, hk1]
 have r1 : w3.cell? ⟨w.heap.size + 1, 1, none⟩ = some (.int .i64 x2) := by simp [World.cell?, hk1]
 have d0 : w3.cell? ⟨w2.heap.size, 0, none⟩ = some (.slice A2 m2 c2) := by simp [World.cell?, hk2]
 have d1 : w3.cell? ⟨w2.heap.size, 1, none⟩ = some (.int .i64 x2) := by simp [World.cell?, hk2]
 have HB13 := zh (HB1.out.trans ((hb2.trans (hb3.mono hz2)).mono HB1.out.size))
 have HN1 := zh (hn1.below HB13.out)
 have HN2 := zh (hn2.below hb3)
 have HNS := zh hns
 have HNL := zh hnl
 rw [hw3] at r0 r1 d0 d1
 have HW3 := zh hw3
 clear hm2 hn1 hn2 hns hnl hb2 hb3 hk1 hk2 hw3 hz2
 go_wp2_with fail
 rw [← HW3.out]
 refine (forSame w3 x2 _ _ A1 A2 m1 c1 m2 c2 _ HN1.out HN2.out HNL.out HNS.out).mono ?_
 rintro e w4 ⟨rfl, hb4⟩
 have HB4 := zh (HB13.out.trans (hb4.mono HB13.out.size))
 clear hb4
 go_wp2_with fail
 go_ret
 exact ⟨rfl, HB4.out⟩
def CovK (L : List KeyD) (k : Nat) (u : List Int) : Prop := ∀ (j i i' : Nat) (c : Int), j < k → L[j]? = some ((true, c), i, i') → u[i]? = some c
theorem CovK.skip {L : List KeyD} {k : Nat} {u : List Int} (h : CovK L k u) {x : KeyD} (hx : L[k]? = some x) (hf : x.1.1 = false) : CovK L (k + 1) u := by
 intro j i i' c hj hc
 by_cases e : j = k
 ·
  subst e
  rw [hx] at hc
  injection hc with hc
  rw [hc] at hf
  cases hf
 exact h j i i' c (by omega) hc
theorem CovK.put {R : List RuleD} {ws : List Int} {root : KeyD} {L : List KeyD} (hL : FoX R ws root L) {k : Nat} {u : List Int} (h : CovK L k u) {c : Int} {i i' : Nat} (hx : L[k]? = some ((true, c), i, i')) (hi : i < u.length) : CovK L (k + 1) (u.set i c) := by
 intro j i2 i2' c2 hj hc
 rw [List.getElem?_set]
 by_cases e : i = i2
 ·
  subst e
  rw [if_pos rfl, if_pos hi, ← hL.term (List.mem_of_getElem? hx), hL.term (List.mem_of_getElem? hc)]
 rw [if_neg e]
 by_cases e2 : j = k
 ·
  subst e2
  rw [hx] at hc
  injection hc with hc
  simp only [Prod.mk.injEq] at hc
  exact absurd hc.2.1 e
 exact h j i2 i2' c2 (by omega) hc
theorem CovK.all {R : List RuleD} {ws : List Int} {s : SymD} {n : Nat} {L : List KeyD} (hL : FoX R ws (s, 0, n) L) (hn : ws.length = n) {u : List Int} (h : CovK L L.length u) (hu : u.length = n) : u = ws := by
 apply List.ext_getElem?
 intro p
 by_cases hp : p < n
 ·
  obtain ⟨c, hc⟩ := hL.cover hp
  obtain ⟨j, hj⟩ := List.getElem?_of_mem hc
  rw [h j p (p + 1) c (List.getElem?_eq_some_iff.1 hj).1 hj, hL.term hc]
 rw [List.getElem?_eq_none (by omega), List.getElem?_eq_none (by omega)]
theorem repeatN (w : World) (b : Nat) (v : Int) (c : Nat) (hc2 : c ≤ 16) (hcell : w.cell? ⟨b, 0, none⟩ = some (.int .i64 v)) :
    Calls Tryz.prog 49 #[.slice (some ⟨b, 0, none⟩) 1 1, .int .i64 c] w fun e w' => e = .returned (.slice (some ⟨w.heap.size, 0, none⟩) c c) ∧ BlI w' w.heap.size (List.replicate c v) ∧ Below w.heap.size w w' := by
 rcases Nat.eq_zero_or_pos c with rfl | h0
 · exact (repeat0 w b v hcell).mono fun e w' h => h
 exact (repeatB w b v c h0 hc2 hcell).mono fun e w' h => h
theorem BlI.rd {wr : World} {B n : Nat} {u : List Int} (h : BlI wr B u) (hn : u.length = n) : Rd wr (fun _ => True) 1 (some ⟨B, 0, none⟩) n (u.map (Value.int .i64)) := by
 refine ⟨by simp [hn], fun h0 => ⟨B, 0, rfl, trivial, fun j v hv => ?_⟩⟩
 rw [Nat.zero_add, cell_of_row _ _ _ _ _ _ h]
 simpa using hv
set_option linter.unusedSimpArgs false in
set_option maxRecDepth 100000 in
set_option maxHeartbeats 8000000 in
theorem forValid (w : World) (hTb : Tab w) (Sg : Nat → Prop) (AR : Option Addr) (nR cR : Nat) (g : GramD) (hg : Sl RRule w Sg AR nR cR g.2.2.2) (hv : GValid g) (n : Nat) (ws : List Int) (hwl : ws.length = n) (hT : ∀ x ∈ ws, 0 ≤ x ∧ x < g.1) (hn : n ≤ 12)
    (hfew : ∀ L : List KeyD, L.Nodup → (∀ x ∈ L, DerK g.2.2.2 ws x) → sumPk g.2.2.2 ws L ≤ 20000) (A1 : Option Addr) (m1 c1 z : Nat) (x1 : Int) (hf : MfD g.2.2.2 g.2.2.1.toNat n ws z w A1 m1 c1 x1) :
    Calls Tryz.prog 27 #[.agg #[.int .i64 g.1, .int .i64 g.2.1, .int .i64 g.2.2.1, .slice AR nR cR], .agg #[.slice A1 m1 c1, .int .i64 x1]] w fun e w' => e = .returned (.int .i64 0) ∧ Below w.heap.size w w' := by
 obtain ⟨B0, hB0⟩ := zE w.heap.size
 obtain ⟨w1, hw1⟩ : ∃ w1 : World, w1 = (w.alloc (.cells #[.int .i64 g.1, .int .i64 g.2.1, .int .i64 g.2.2.1, .slice AR nR cR] 25)).alloc (.cells #[.slice A1 m1 c1, .int .i64 x1] 38) := ⟨_, rfl⟩
 have hb1 : Below w.heap.size w w1 := by rw [hw1]; exact ((Below.refl _ _).alloc (Nat.le_refl _) _).alloc (by simp) _
 have hz1 : w1.heap.size = B0 + 1 + 1 := by rw [hw1, hB0]; simp
 have hg1 : w1.heap[B0]? = some (.cells #[.int .i64 g.1, .int .i64 g.2.1, .int .i64 g.2.2.1, .slice AR nR cR] 25 (0, 0)) := by
  rw [hw1, Below.heap_alloc _ _ _ (by simp [hB0]), hB0]
  exact heap_alloc_new w _
 have hf1 : w1.heap[B0 + 1]? = some (.cells #[.slice A1 m1 c1, .int .i64 x1] 38 (0, 0)) := by
  rw [hw1]; exact heap_new _ _ _ (by simp [hB0])
 have HALL := zh (show ∀ (u : World) (X : Nat → Prop), Only w1 u X → (∀ b, X b → B0 + 1 < b) → (u.cell? ⟨B0, 0, none⟩ = some (.int .i64 g.1) ∧ u.cell? ⟨B0, 1, none⟩ = some (.int .i64 g.2.1) ∧ u.cell? ⟨B0, 2, none⟩ = some (.int .i64 g.2.2.1) ∧ u.cell? ⟨B0, 3, none⟩ = some (.slice AR nR cR)) ∧ u.cell? ⟨B0 + 1, 0, none⟩ = some (.slice A1 m1 c1) ∧ u.cell? ⟨B0 + 1, 1, none⟩ = some (.int .i64 x1) from fun u X hu hX => by
  have e := (hu.block _ (heap_lt hg1) (fun h => by have := hX _ h; omega)).trans hg1
  have e2 := (hu.block _ (heap_lt hf1) (fun h => by have := hX _ h; omega)).trans hf1
  exact ⟨⟨by simp [World.cell?, e], by simp [World.cell?, e], by simp [World.cell?, e], by simp [World.cell?, e]⟩, by simp [World.cell?, e2], by simp [World.cell?, e2]⟩)
 have HB1 := zh hb1
 have HZ1 := zh hz1
 have HG := zh (hg.below hb1)
 have HV := zh hv
 have HTB := zh (hTb.below hb1 (by have := hTb.1; omega))
 have HT := zh hT
 have HF := zh (hf.below hb1)
 have HFEW := zh hfew
 have HWL := zh hwl
 have HW1 := zh hw1
 have HB0 := zh hB0
 obtain ⟨⟨k0, k1, k2, k3⟩, k4, k5⟩ := HALL.out w1 (fun _ => False) (.of_below (Below.refl _ _) (Nat.le_refl _) _) (fun _ h => h.elim)
 rw [hw1, hB0] at k0 k1 k2 k3 k4 k5
 clear hb1 hg hv hTb hw1 hT hf hfew hg1 hf1 hwl hz1 hB0
 go_enter Tryz.func27, Tryz.ntmps27
 go_wp2_with fail
 rw [← HW1.out]
 clear k0 k1 k2 k3 k4 k5
 refine (gramCheck w1 _ AR nR cR g HG.out HV.out).mono ?_
 rintro e w2 ⟨rfl, hb2⟩
 have HB2 := zh hb2
 have hz2 := hb2.size
 obtain ⟨⟨k0, k1, k2, k3⟩, k4, k5⟩ := HALL.out w2 (fun _ => False) (.of_below hb2 (Nat.le_refl _) _) (fun _ h => h.elim)
 rw [HB0.out] at k0 k1 k2 k3 k4 k5
 clear hb2
 rcases HF.out with ⟨_, rfl, rfl, rfl, rfl⟩ | ⟨hder, S1, L, hx, hs1, hfx, hl8, hbl⟩
 ·
  clear HF
  go_wp2_with fail
  go_ret
  exact ⟨rfl, HB1.out.trans (HB2.out.mono HB1.out.size)⟩
 have hm1 : m1 = L.length := by rw [hs1.len, List.length_map]
 obtain ⟨ir, hir⟩ := zE (ixK L ((false, (g.2.2.1.toNat : Int)), 0, n))
 have hirl : ir < m1 := by rw [hir, hm1]; exact ixK_lt hfx.rt
 have hirA : L[ir]? = some ((false, (g.2.2.1.toNat : Int)), 0, n) := by rw [hir]; exact ixK_at hfx.rt
 rw [← hir] at hx
 subst hx
 have HS1 := zh hs1
 obtain ⟨bN, oN, nd, A', mp, cp', rfl, hSb, hnd, q0, q1, q2, q3, q4, q5⟩ := node_at (hs1.below HB2.out) hirl
 rw [List.getElem?_map, hirA] at hnd
 injection hnd with hnd
 subst hnd
 replace q3 : w2.cell? ⟨bN, oN + ir * 5 + 3, none⟩ = some (.int .i64 (n : Int)) := q3
 have hirI : (ir : Int) < (m1 : Int) := by omega
 have hir0 : (0 : Int) ≤ (ir : Int) := by omega
 have hm12 : m1 ≤ 8192 := by omega
 have HFX := zh hfx
 have HM1 := zh hm1
 have HIR := zh (And.intro hir hirA)
 have HBN := zh hbl
 have lN := cell_lt q3
 have hn0 : (0 : Int) ≤ (n : Int) := by omega
 have hn12 : (n : Int) ≤ 12 := by omega
 clear hs1 hfx hm1 hir hirA hbl q0 q1 q2 q4 q5 hder hSb
 go_wp2_with fail
 refine (repeatN (w2.alloc (.cells #[.int .i64 (-1)] 3)) w2.heap.size (-1) n (by omega) (by simp)).mono ?_
 rintro e w3 ⟨rfl, hbl3, hb3⟩
 simp only [World.size_alloc] at hbl3 hb3
 obtain ⟨Bw, hBw⟩ := zE (w2.heap.size + 1)
 have hb23 : Below w2.heap.size w2 w3 := ((Below.refl _ _).alloc (Nat.le_refl _) _).trans (hb3.mono (by simp))
 have hz3 := hb23.size
 have hlt3 := heap_lt hbl3
 simp only [World.size_alloc]
 rw [← hBw] at hbl3 hlt3 ⊢
 have HB13 := zh (HB2.out.trans (hb23.mono hz2))
 have HBL := zh hbl3
 have HBW := zh hBw
 obtain ⟨⟨k0, k1, k2, k3⟩, k4, k5⟩ := HALL.out w3 (fun _ => False) (.of_below HB13.out (Nat.le_refl _) _) (fun _ h => h.elim)
 rw [HB0.out] at k0 k1 k2 k3 k4 k5
 clear hbl3 hb3 hb23 hBw q3 lN hir0 hirI
 go_wp2_with fail
 clear k0 k1 k2 k3 k4 k5
 go_loopg [54] m1 (fun gk i wr => ∃ (k : Nat) (u : List Int), k ≤ m1 ∧ gk = m1 - k ∧ i = .int .i64 (k : Int) ∧ u.length = n ∧ CovK L k u ∧ BlI wr Bw u ∧ Only w3 wr (fun b => b = Bw))
 case atStart => exact ⟨0, List.replicate n (-1), Nat.zero_le _, rfl, rfl, by simp, (fun j i i' c hj => by omega), HBL.out, Only.refl _ _⟩
 case round =>
  obtain ⟨k, u, hk, hg, rfl, hul, hcov, hblk, hon⟩ := hrel
  obtain ⟨w4, rfl⟩ := zE wr
  have HG4 := zh hg
  have HUL := zh hul
  have HCOV := zh hcov
  have HBLK := zh hblk
  have HON := zh hon
  have hz4 := hon.size
  clear hg hul hcov hblk hon
  by_cases hlt : k < m1
  ·
   have hkeep : Only w1 w4 (fun b => b = Bw) := Only.trans (.of_below HB13.out (Nat.le_refl _) _) HON.out
   obtain ⟨b5, o5, nd, A5, m5, c5, e5, hS5, hnd, q0, q1, q2, q3, q4, _⟩ := node_at (HS1.out.keep (hkeep.kept fun b hb e => by have := (HBN.out b hb).2; have := HBW.out; omega)) hlt
   rw [List.getElem?_map] at hnd
   obtain ⟨x, hx, rfl⟩ := Option.map_eq_some_iff.1 hnd
   injection e5 with e5
   injection e5 with e51 e52
   subst e51
   subst e52
   obtain ⟨⟨tb, c⟩, i, i'⟩ := x
   replace q0 : w4.cell? ⟨bN, oN + k * 5, none⟩ = some (.bool tb) := q0
   replace q1 : w4.cell? ⟨bN, oN + k * 5 + 1, none⟩ = some (.int .i64 c) := q1
   replace q2 : w4.cell? ⟨bN, oN + k * 5 + 2, none⟩ = some (.int .i64 (i : Int)) := q2
   replace q3 : w4.cell? ⟨bN, oN + k * 5 + 3, none⟩ = some (.int .i64 (i' : Int)) := q3
   have hkI : (k : Int) < (m1 : Int) := by omega
   have hl4 := cell_lt q0
   obtain ⟨w5, hw5⟩ := zE (w4.alloc (.cells #[.bool tb, .int .i64 c, .int .i64 (i : Int), .int .i64 (i' : Int), .slice A5 m5 c5] 106))
   have hb45 : Below w4.heap.size w4 w5 := by rw [hw5]; exact (Below.refl _ _).alloc (Nat.le_refl _) _
   have HX := zh hx
   have HW5 := zh hw5
   have HBLK5 := zh (HBLK.out.below hb45)
   have HON5 := zh (HON.out.trans (.of_below hb45 (Nat.le_refl _) _))
   clear hkeep hnd hx hb45 hS5
   cases tb
   ·
    clear hw5
    go_wp2_with fail
    rw [← HW5.out]
    go_roundg (m1 - (k + 1))
    case measure => rw [HG4.out]; omega
    case rel => exact ⟨k + 1, u, by omega, rfl, by go_num, HUL.out, HCOV.out.skip HX.out rfl, HBLK5.out, HON5.out⟩
   have hwi := HFX.out.term (List.mem_of_getElem? HX.out)
   have hin : i < n := by have := (List.getElem?_eq_some_iff.1 hwi).1; have := HWL.out; omega
   have hinI : (i : Int) < (n : Int) := by omega
   have hi0 : (0 : Int) ≤ (i : Int) := by omega
   obtain ⟨z0, hz0⟩ : ∃ z0, u[i]? = some z0 := ⟨_, List.getElem?_eq_getElem (by have := HUL.out; omega)⟩
   obtain ⟨b0, b1⟩ := HBLK5.out.at_ hz0
   have hlb := cell_lt b0
   rw [hw5] at b0 b1 hlb
   clear hwi hz0 hw5
   go_wp2_with fail
   rw [← HW5.out]
   go_roundg (m1 - (k + 1))
   case measure => rw [HG4.out]; omega
   case rel => exact ⟨k + 1, u.set i c, by omega, rfl, by go_num, by rw [List.length_set]; exact HUL.out, HCOV.out.put HFX.out HX.out (by have := HUL.out; omega), HBLK5.out.set i c, HON5.out.trans (Only.set _ _ _ _ rfl)⟩
  obtain rfl : k = m1 := by omega
  have hu := HCOV.out
  rw [HM1.out] at hu
  have huw := hu.all HFX.out HWL.out HUL.out
  subst huw
  have HON1 := zh (show Only w1 w4 (fun b => b = Bw) from Only.trans (.of_below HB13.out (Nat.le_refl _) _) HON.out)
  obtain ⟨⟨k0, k1, k2, k3⟩, k4, k5⟩ := HALL.out w4 _ HON1.out (fun b e => by have := HBW.out; have := HZ1.out; omega)
  rw [HB0.out] at k0 k1 k2 k3 k4 k5
  have hB14 : Below w1.heap.size w1 w4 := HON1.out.below (fun b e => by have := HBW.out; omega) (Nat.le_refl _)
  have HB14 := zh hB14
  clear hu hB14
  go_wp2_with fail
  refine (forCheck w4 (HTB.out.below HB14.out HTB.out.1) _ (fun _ => True) AR nR cR g (HG.out.below HB14.out) HV.out (some ⟨Bw, 0, none⟩) n n u (HBLK.out.rd HUL.out) HT.out hn HFEW.out _ k c1 z ir (HF.out.below HB14.out)).mono ?_
  rintro e w6 ⟨rfl, hb6⟩
  have HB6 := zh (HB1.out.trans ((HB14.out.trans (hb6.mono HB14.out.size)).mono HB1.out.size))
  clear hb6 k0 k1 k2 k3 k4 k5
  go_wp2_with fail
  go_ret
  exact ⟨rfl, HB6.out⟩
set_option linter.unusedSimpArgs false in
set_option maxRecDepth 100000 in
set_option maxHeartbeats 4000000 in
theorem forCount (w : World) (hTb : Tab w) (Sg : Nat → Prop) (AR : Option Addr) (nR cR : Nat) (g : GramD) (hg : Sl RRule w Sg AR nR cR g.2.2.2) (hv : GValid g) (n : Nat) (ws : List Int) (hwl : ws.length = n) (hT : ∀ x ∈ ws, 0 ≤ x ∧ x < g.1) (hn : n ≤ 12)
    (hfew : ∀ L : List KeyD, L.Nodup → (∀ x ∈ L, DerK g.2.2.2 ws x) → sumPk g.2.2.2 ws L ≤ 20000) (A1 : Option Addr) (m1 c1 z : Nat) (x1 : Int) (hf : MfD g.2.2.2 g.2.2.1.toNat n ws z w A1 m1 c1 x1) :
    Calls Tryz.prog 11 #[.agg #[.int .i64 g.1, .int .i64 g.2.1, .int .i64 g.2.2.1, .slice AR nR cR], .agg #[.slice A1 m1 c1, .int .i64 x1]] w fun e w' => e = .returned (.tuple #[.int .i64 (kW g.2.2.2 g.2.2.1.toNat n ws), .int .i64 0]) ∧ Below w.heap.size w w' := by
 obtain ⟨w1, hw1⟩ : ∃ w1 : World, w1 = (w.alloc (.cells #[.int .i64 g.1, .int .i64 g.2.1, .int .i64 g.2.2.1, .slice AR nR cR] 25)).alloc (.cells #[.slice A1 m1 c1, .int .i64 x1] 38) := ⟨_, rfl⟩
 have hb1 : Below w.heap.size w w1 := by rw [hw1]; exact ((Below.refl _ _).alloc (Nat.le_refl _) _).alloc (by simp) _
 have hf1 : w1.heap[w.heap.size + 1]? = some (.cells #[.slice A1 m1 c1, .int .i64 x1] 38 (0, 0)) := by rw [hw1]; exact heap_new _ _ _ (by simp)
 have HF1 := zh hf1
 have HB1 := zh hb1
 have HG := zh (hg.below hb1)
 have HV := zh hv
 have HTB := zh (hTb.below hb1 (by have := hTb.1; omega))
 have HT := zh hT
 have HF := zh (hf.below hb1)
 have HFEW := zh hfew
 have HWL := zh hwl
 have HW1 := zh hw1
 clear hb1 hg hv hTb hw1 hT hf hfew hf1 hwl
 go_enter Tryz.func11, Tryz.ntmps11
 go_wp2_with fail
 rw [← HW1.out]
 refine (forValid w1 HTB.out _ AR nR cR g HG.out HV.out n ws HWL.out HT.out hn HFEW.out A1 m1 c1 _ x1 HF.out).mono ?_
 rintro e w2 ⟨rfl, hb2⟩
 have hk := (hb2.block _ (heap_lt HF1.out)).trans HF1.out
 have r0 : w2.cell? ⟨w.heap.size + 1, 0, none⟩ = some (.slice A1 m1 c1) := by simp [World.cell?, hk]
 have r1 : w2.cell? ⟨w.heap.size + 1, 1, none⟩ = some (.int .i64 x1) := by simp [World.cell?, hk]
 have HB2 := zh hb2
 clear hb2 hk
 go_wp2_with fail
 refine (countOf w2 g.2.2.2 g.2.2.1.toNat n _ ws A1 m1 c1 x1 (fun r hr => (HV.out.rules r hr).2.1) HV.out.rl hn HWL.out (HF.out.below HB2.out)).mono ?_
 rintro e w3 ⟨rfl, hb3⟩
 have HB3 := zh (HB1.out.trans ((HB2.out.trans (hb3.mono HB2.out.size)).mono HB1.out.size))
 clear hb3
 go_wp2_with fail
 go_ret2
 exact ⟨rfl, HB3.out⟩
end Go.Proofs.YtjnbjdbndbbanaaGreatDoor
