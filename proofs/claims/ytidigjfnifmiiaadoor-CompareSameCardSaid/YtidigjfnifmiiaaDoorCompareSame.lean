/- CompareSame: its walk. -/
import Derived.Test.YtidigjfnifmiiaaDoorCmpLeast
import Derived.Test.YtidigjfnifmiiaaDoorSamePlain
import Derived.Test.YtidigjfnifmiiaaDoorKPlain
import Derived.Test.YtidigjfnifmiiaaDoorBelow
import Derived.Test.YtidigjfnifmiiaaDoorSlEqInt
import Derived.Test.YtidigjfnifmiiaaDoorCloRule
namespace Go.Proofs.YtidigjfnifmiiaaDoor
open Go.RowKit

set_option linter.unusedSimpArgs false in
set_option maxRecDepth 1000000 in
set_option maxHeartbeats 8000000 in
theorem compareSame_walk (W : World) (hTb : Tab W) (A0 : Option Addr) (n0 c0 : Nat) (z0 : List Int) (le0 : n0 ≤ c0) (cap0 : c0 ≤ 17592186043904) (rd0 : Rd W (fun _ => True) 1 A0 n0 (z0.map (Value.int .i64))) (_rg0 : ∀ z ∈ z0, -9223372036854775808 ≤ z ∧ z ≤ 9223372036854775807)
    (x1 : Int) (_lo1 : -9223372036854775808 ≤ x1) (_hi1 : x1 ≤ 9223372036854775807) :
    Calls Tryd.prog 4 #[.slice A0 n0 c0, .int .i64 x1] W fun e W' => e = .returned (.bool true) ∧ Below W.heap.size W W' := by
  have HR0 := Lib.hid (rd0.slInts le0)
  have HTB := Lib.hid hTb
  have hW0 := hTb.1
  clear rd0 _rg0 _lo1 _hi1 hTb
  go_enter Tryd.func4, Tryd.ntmps4
  go_wp2_with fail
  refine (makeGrammar W _ _ _ _ z0 HR0.out (by omega)).mono ?_
  rintro e w1 ⟨g, AR, cR, hv, hsm, rfl, hg, hb1⟩
  have hs1 := hb1.size
  obtain ⟨nR, hnR⟩ : ∃ nR, nR = g.2.2.2.length := ⟨_, rfl⟩
  have hnR1 : 1 ≤ nR := by have := hsm.r1; omega
  have hnR8 : nR ≤ 8 := by have := hsm.r2; omega
  obtain ⟨T, hT⟩ : ∃ T : Nat, g.1 = (T : Int) := ⟨g.1.toNat, by have := hv.t1; omega⟩
  have hT3 : T ≤ 3 := by have := hsm.t; omega
  rw [← hnR] at hg ⊢
  obtain ⟨w2, hw2⟩ : ∃ w2 : World, w2 = w1.alloc (.cells #[.int .i64 g.1, .int .i64 g.2.1, .int .i64 g.2.2.1, .slice AR nR cR] 25) := ⟨_, rfl⟩
  have hz2 : w2.heap.size = w1.heap.size + 1 := by rw [hw2]; simp
  have HV := Lib.hid hv
  have HT := Lib.hid hT
  have HNR := Lib.hid hnR
  have HG2 := Lib.hid (show Sl RRule w2 (fun b => W.heap.size ≤ b) AR nR cR g.2.2.2 by rw [hw2]; exact hg.alloc _)
  have HB2 := Lib.hid (show Below W.heap.size W w2 by rw [hw2]; exact hb1.alloc hs1 _)
  have HBG := Lib.hid (show w2.heap[w1.heap.size]? = some (.cells #[.int .i64 g.1, .int .i64 g.2.1, .int .i64 g.2.2.1, .slice AR nR cR] 25 (0, 0)) by rw [hw2]; exact heap_alloc_new _ _)
  clear hv hsm hg hb1 HR0 hT hnR
  --@1
  go_wp2_with fail
  rw [← hw2]
  clear hw2
  refine (keepPlain w2).mono ?_
  rintro e w3 ⟨AP, rfl, hp, hb3⟩
  have hs3 := hb3.size
  have HP := Lib.hid hp
  have HB3 := Lib.hid (HB2.out.trans (hb3.mono (by omega)))
  have HB23 := Lib.hid hb3
  clear hp hb3
  --@2
  go_wp2_with fail
  refine (compareLeast w3 (HTB.out.below HB3.out hW0) _ (fun _ => True) AP 2 2 plainG HP.out plain_valid none 0 0 (2, 1, 0, []) (Sl.nil _ _ _ _) empty_valid 2 rfl rfl (by decide) 2 (by decide)).mono ?_
  rintro e w4 ⟨hcase, hb4⟩
  have hs4 := hb4.size
  have HB24 := Lib.hid (HB23.out.trans (hb4.mono hs3))
  have HB4 := Lib.hid (HB3.out.trans (hb4.mono (by omega)))
  clear hb4
  rcases hcase with ⟨hno, _⟩ | ⟨ws, A4, m4, c4, hws, rfl, hsl⟩
  · rw [show plainG.2.2.2 = plainR from rfl, show plainG.2.2.1 = 0 from rfl, plain_leastW] at hno
    cases hno
  rw [show plainG.2.2.2 = plainR from rfl, show plainG.2.2.1 = 0 from rfl, plain_leastW] at hws
  injection hws with hws
  subst hws
  obtain rfl : m4 = 1 := hsl.len
  rw [show plainG.2.2.2 = plainR from rfl, show plainG.2.2.1 = 0 from rfl, plain_yes]
  have HSL := Lib.hid hsl
  clear hsl
  have HALLG := Lib.hid (show ∀ u : World, Below w2.heap.size w2 u → u.cell? ⟨w1.heap.size, 0, none⟩ = some (.int .i64 g.1) ∧ u.cell? ⟨w1.heap.size, 1, none⟩ = some (.int .i64 g.2.1) ∧ u.cell? ⟨w1.heap.size, 2, none⟩ = some (.int .i64 g.2.2.1) ∧ u.cell? ⟨w1.heap.size, 3, none⟩ = some (.slice AR nR cR) from fun u hu => by
    have e := (hu.block _ (by omega)).trans HBG.out
    simp [World.cell?, e])
  --@3
  go_wp2_with fail
  refine (equalInt A4 (some ⟨w4.heap.size, 0, none⟩) 1 c4 1 1 _ (fun _ => True) [0] [0] (w4.alloc (.cells #[.int .i64 0] 3)) (HSL.out.alloc _).ints (Rd.new w4 (fun _ => True) 3 [.int .i64 0] w4.heap.size rfl trivial) (by decide) (by decide)).mono ?_
  rintro e w5 ⟨rfl, d, rfl⟩
  obtain ⟨w5, hw5⟩ : ∃ w5 : World, w5 = (w4.alloc (.cells #[.int .i64 0] 3)).drewN d := ⟨_, rfl⟩
  rw [← hw5]
  have hb45 : Below w4.heap.size w4 w5 := by rw [hw5]; exact belowN ((Below.refl _ _).alloc (Nat.le_refl _) _) d
  have HB25 := Lib.hid (HB24.out.trans (hb45.mono (by omega)))
  have HB5 := Lib.hid (HB4.out.trans (hb45.mono (by omega)))
  have hs5 := hb45.size
  have hbt : (([(0 : Int)] : List Int) == [0]) = true := by decide
  rw [hbt]
  clear hw5 hb45 hbt HSL
  obtain ⟨k0, k1, k2, k3⟩ := HALLG.out w5 HB25.out
  obtain ⟨q0, q1, q2, q3⟩ := HALLG.out (w5.alloc (.cells #[.int .i64 g.1, .int .i64 g.2.1, .int .i64 g.2.2.1, .slice AR nR cR] 25)) (HB25.out.alloc (by omega) _)
  --@4
  go_wp2_with fail
  obtain ⟨w6, hw6⟩ : ∃ w6 : World, w6 = w5.alloc (.cells #[.int .i64 g.1, .int .i64 g.2.1, .int .i64 g.2.2.1, .slice AR nR cR] 25) := ⟨_, rfl⟩
  rw [← hw6]
  have hz6a : w5.heap.size + 1 ≤ w6.heap.size := by rw [hw6]; simp
  have HB26 := Lib.hid (show Below w2.heap.size w2 w6 by rw [hw6]; exact HB25.out.alloc (by omega) _)
  have HBH6 := Lib.hid (show w6.heap[w5.heap.size]? = some (.cells #[.int .i64 g.1, .int .i64 g.2.1, .int .i64 g.2.2.1, .slice AR nR cR] 25 (0, 0)) by rw [hw6]; exact heap_alloc_new _ _)
  have HB6 := Lib.hid (show Below W.heap.size W w6 by rw [hw6]; exact HB5.out.alloc (by omega) _)
  clear hw6 k0 k1 k2 k3 q0 q1 q2 q3
  have HG6 := Lib.hid (HG2.out.fit.below HB26.out)
  obtain ⟨xs, hx1, hx2, hrd, hcells⟩ := HG6.out
  have HXC := Lib.hid hcells
  have hxl := hcells.len
  have hxl2 : xs.length = nR * 2 := by rw [hxl, ← HNR.out]; rfl
  refine (cloneRule AR nR cR _ xs w6 hrd (by omega)).mono ?_
  rintro e w7 ⟨v7, rfl, ho7, hb7⟩
  have hs7 := hb7.size
  have HB7 := Lib.hid hb7
  obtain ⟨g7, c7, cur7, hv7, hg7, hh7, hc7, hcs7, ht7⟩ : ∃ (g7 c7 : Nat) (cur7 : Array Value), v7 = .slice (some ⟨g7, 0, none⟩) nR c7 ∧ w6.heap.size ≤ g7 ∧ w7.heap[g7]? = some (.cells cur7 29 (0, 0)) ∧ nR ≤ c7 ∧ cur7.size = c7 * 2 ∧ cur7.toList.take (nR * 2) = xs := by
    rcases ho7 with h | ⟨A', _, h0, _⟩
    · rcases h.2 with ⟨_, h0⟩ | ⟨g', cap, cur, e, hb, hh, hnc, _, hcs, ht⟩
      · omega
      · exact ⟨g', cap, cur, e, hb, hh, hnc, hcs, ht⟩
    · omega
  subst hv7
  have hxk : ∀ k, ∃ q : RuleC, k < nR → xs[k * 2]? = some (encR q).1 ∧ xs[k * 2 + 1]? = some (encR q).2 ∧ ∃ r, g.2.2.2[k]? = some r ∧ q.1 = r.1 ∧ Sl RSym w7 (fun b => W.heap.size ≤ b ∧ b < w2.heap.size) q.2.1 q.2.2.1 q.2.2.2 r.2 := by
    intro k
    by_cases hk : k < nR
    · obtain ⟨r, hr⟩ : ∃ r, g.2.2.2[k]? = some r := ⟨_, List.getElem?_eq_getElem (by rw [← HNR.out]; exact hk)⟩
      have hok := HXC.out.get (k := k) (by rw [← HNR.out]; exact hk)
      rw [(List.getElem?_eq_some_iff.1 hr).2] at hok
      obtain ⟨A, m, c, e, hs⟩ := RRule.cells.1 hok
      have e' : (xs.drop (k * 2)).take 2 = [.int .i64 r.1, .slice A m c] := e
      have i1 : k * 2 < xs.length := by omega
      have i2 : k * 2 + 1 < xs.length := by omega
      rw [List.drop_eq_getElem_cons i1, List.drop_eq_getElem_cons i2] at e'
      simp only [List.take_succ_cons, List.take_zero, List.cons.injEq, and_true] at e'
      exact ⟨(r.1, A, m, c), fun _ => ⟨by rw [List.getElem?_eq_getElem i1, e'.1]; rfl, by rw [List.getElem?_eq_getElem i2, e'.2]; rfl, r, hr, rfl, (hs.fit.below HB7.out).more fun b hb => hb.1⟩⟩
    · exact ⟨(0, none, 0, 0), fun h => absurd h hk⟩
  obtain ⟨P, hP⟩ : ∃ P : Nat → RuleC, ∀ k, k < nR → xs[k * 2]? = some (encR (P k)).1 ∧ xs[k * 2 + 1]? = some (encR (P k)).2 ∧ ∃ r, g.2.2.2[k]? = some r ∧ (P k).1 = r.1 ∧ Sl RSym w7 (fun b => W.heap.size ≤ b ∧ b < w2.heap.size) (P k).2.1 (P k).2.2.1 (P k).2.2.2 r.2 := ⟨fun k => Classical.choose (hxk k), fun k => Classical.choose_spec (hxk k)⟩
  have hpairs : Pairs w7 g7 nR 29 (c7 * 2) (fun k => encR (P k)) := ⟨cur7, hh7, hcs7, fun k hk => by
    obtain ⟨h1, h2, _⟩ := hP k hk
    rw [← ht7, List.getElem?_take, if_pos (by omega), Array.getElem?_toList] at h1 h2
    exact ⟨h1, h2⟩⟩
  have hbh7 := (hb7.block _ (heap_lt HBH6.out)).trans HBH6.out
  have d0 : w7.cell? ⟨w5.heap.size, 3, none⟩ = some (.slice AR nR cR) := by simp [World.cell?, hbh7]
  have df : w7.frozen? ⟨w5.heap.size, 3, none⟩ = false := by simp [World.frozen?, hbh7]
  have ld := heap_lt hbh7
  have HPA := Lib.hid hpairs
  have HPK := Lib.hid hP
  have HBH7 := Lib.hid hbh7
  have hg7lt := heap_lt hh7
  have hne7 : g7 ≠ w5.heap.size := by omega
  clear hb7 ho7 hh7 hcs7 ht7 hxk hP hpairs hbh7 hrd hcells hx1 hx2 hxl
  --@5
  go_wp2_with fail
  obtain ⟨w8, hw8⟩ : ∃ w8 : World, w8 = w7.setCell ⟨w5.heap.size, 3, none⟩ (.slice (some ⟨g7, 0, none⟩) nR c7) := ⟨_, rfl⟩
  rw [← hw8]
  clear d0 df
  have hz8 : w8.heap.size = w7.heap.size := by rw [hw8]; simp [World.setCell]
  have hk8 : ∀ b, b ≠ w5.heap.size → w8.heap[b]? = w7.heap[b]? := fun b hb => by rw [hw8]; exact Below.heap_setCell _ _ _ _ hb
  have HBH8 := Lib.hid (show w8.heap[w5.heap.size]? = some (.cells #[.int .i64 g.1, .int .i64 g.2.1, .int .i64 g.2.2.1, .slice (some ⟨g7, 0, none⟩) nR c7] 25 (0, 0)) by
    rw [hw8]
    have := blk_set HBH7.out 3 (.slice (some ⟨g7, 0, none⟩) nR c7)
    simpa using this)
  have hpa8 : Pairs w8 g7 nR 29 (c7 * 2) (fun k => encR (P k)) := by
    obtain ⟨cur, h1, h2, h3⟩ := HPA.out
    exact ⟨cur, (hk8 _ hne7).trans h1, h2, h3⟩
  have HK8 := Lib.hid hk8
  have hg8 : w7.grownBy w8 (some w5.heap.size) := by rw [hw8]; exact setG _ _ _
  have HG78 := Lib.hid hg8
  clear hw8 hk8 hg8
  refine (reverseRule w8 g7 nR c7 (c7 * 2) P hpa8 hnR1 (by omega)).mono ?_
  rintro e w9 ⟨rfl, hpa9, hg9⟩
  have hs9 := hg9.size
  have HK9 := Lib.hid (show ∀ b, b < w7.heap.size → b ≠ w5.heap.size → b ≠ g7 → w9.heap[b]? = w7.heap[b]? from fun b h1 h2 h3 => (hg9.block b (by omega) (fun e => by injection e with e; exact h3 e)).trans (HK8.out b h2))
  have HBH9 := Lib.hid ((hg9.block w5.heap.size (by omega) (fun e => by injection e with e; exact hne7 e.symm)).trans HBH8.out)
  have HBG9 := Lib.hid ((HK9.out w1.heap.size (by omega) (by omega) (by omega)).trans ((HB7.out.block _ (by omega)).trans ((HB26.out.block _ (by omega)).trans HBG.out)))
  have hkw : Kept (fun b => W.heap.size ≤ b ∧ b < w6.heap.size ∧ b ≠ w5.heap.size) w7 w9 := fun p u hp hu => by
    rw [World.cell?_of_block (HK9.out p.block (cell_lt hu) hp.2.2 (by omega))]
    exact hu
  have hne65 : ∀ b, (W.heap.size ≤ b ∧ b < w2.heap.size) → W.heap.size ≤ b ∧ b < w6.heap.size ∧ b ≠ w5.heap.size := fun b hb => by omega
  have HG9 := Lib.hid (((((HG2.out.fit.below HB26.out).below HB7.out).more hne65).keep hkw))
  have HH9 := Lib.hid (show Sl RRule w9 (fun b => W.heap.size ≤ b) (some ⟨g7, 0, none⟩) nR c7 g.2.2.2.reverse from by
    refine pairs_sl hpa9 (by rw [List.length_reverse]; exact HNR.out.symm) hc7 (by omega) fun k r hk => ?_
    have hkn : k < nR := by have := (List.getElem?_eq_some_iff.1 hk).1; rw [List.length_reverse, ← HNR.out] at this; exact this
    obtain ⟨_, _, r', hr', e1, hs⟩ := HPK.out (nR - 1 - k) (by omega)
    rw [List.getElem?_reverse (by rw [← HNR.out]; exact hkn), ← HNR.out] at hk
    rw [hr'] at hk
    injection hk with hk
    subst hk
    exact ⟨e1, ((hs.more hne65).keep hkw).more fun b hb => hb.1⟩)
  have HB9 := Lib.hid (((HB6.out.trans (HB7.out.mono (by omega))).grown HG78.out (by omega) (fun k e => by injection e with e; omega)).grown hg9 (by omega) (fun k e => by injection e with e; omega))
  have hw9 : W.heap.size ≤ w9.heap.size := HB9.out.size
  have HALL := Lib.hid (show ∀ u : World, Below w9.heap.size w9 u → (u.cell? ⟨w1.heap.size, 0, none⟩ = some (.int .i64 g.1) ∧ u.cell? ⟨w1.heap.size, 1, none⟩ = some (.int .i64 g.2.1) ∧ u.cell? ⟨w1.heap.size, 2, none⟩ = some (.int .i64 g.2.2.1) ∧ u.cell? ⟨w1.heap.size, 3, none⟩ = some (.slice AR nR cR)) ∧ u.cell? ⟨w5.heap.size, 0, none⟩ = some (.int .i64 g.1) ∧ u.cell? ⟨w5.heap.size, 1, none⟩ = some (.int .i64 g.2.1) ∧ u.cell? ⟨w5.heap.size, 2, none⟩ = some (.int .i64 g.2.2.1) ∧ u.cell? ⟨w5.heap.size, 3, none⟩ = some (.slice (some ⟨g7, 0, none⟩) nR c7) from fun u hu => by
    have e := (hu.block _ (heap_lt HBG9.out)).trans HBG9.out
    have e2 := (hu.block _ (heap_lt HBH9.out)).trans HBH9.out
    simp [World.cell?, e, e2])
  have HK0 := Lib.hid (HALL.out w9.drew (Below.refl _ _).drew)
  clear hpa9 hg9 hkw
  --@6
  go_wp2_with fail
  refine wp_region_late (late := []) (S1 := fun u => (u.cell? ⟨w1.heap.size, 0, none⟩ = some (.int .i64 g.1) ∧ u.cell? ⟨w1.heap.size, 1, none⟩ = some (.int .i64 g.2.1) ∧ u.cell? ⟨w1.heap.size, 2, none⟩ = some (.int .i64 g.2.2.1) ∧ u.cell? ⟨w1.heap.size, 3, none⟩ = some (.slice AR nR cR)) ∧ u.cell? ⟨w5.heap.size, 0, none⟩ = some (.int .i64 g.1) ∧ u.cell? ⟨w5.heap.size, 1, none⟩ = some (.int .i64 g.2.1) ∧ u.cell? ⟨w5.heap.size, 2, none⟩ = some (.int .i64 g.2.2.1) ∧ u.cell? ⟨w5.heap.size, 3, none⟩ = some (.slice (some ⟨g7, 0, none⟩) nR c7)) (S := fun _ => True) (by kernel_rfl) ?_
  refine wpAnyL_pure (i := 0) rfl (by kernel_rfl) (fun _ _ _ h => h) (Or.inl ⟨by rfl, (fun u hu => by obtain ⟨⟨k0, k1, k2, k3⟩, k4, k5, k6, k7⟩ := hu; go_simp; try rfl)⟩) HK0.out (fun _ => trivial) ?_
  simp only [Act.put, List.setIfInBounds_toArray, List.set_cons_zero, List.set_cons_succ, List.getElem_toArray, List.getElem_cons_zero, List.getElem_cons_succ]
  refine wpAnyL_pure (i := 1) rfl (by kernel_rfl) (fun _ _ _ h => h) (Or.inl ⟨by rfl, (fun u hu => by obtain ⟨⟨k0, k1, k2, k3⟩, k4, k5, k6, k7⟩ := hu; go_simp; try rfl)⟩) HK0.out (fun _ => trivial) ?_
  simp only [Act.put, List.setIfInBounds_toArray, List.set_cons_zero, List.set_cons_succ, List.getElem_toArray, List.getElem_cons_zero, List.getElem_cons_succ]
  refine wpAnyL_pure (i := 2) rfl (by kernel_rfl) (fun _ _ _ h => h) (Or.inl ⟨by rfl, (fun u hu => by obtain ⟨⟨k0, k1, k2, k3⟩, k4, k5, k6, k7⟩ := hu; go_simp; try rfl)⟩) HK0.out (fun _ => trivial) ?_
  simp only [Act.put, List.setIfInBounds_toArray, List.set_cons_zero, List.set_cons_succ, List.getElem_toArray, List.getElem_cons_zero, List.getElem_cons_succ]
  refine wpAnyL_ready (rs := [3]) (by kernel_rfl) (by simp) ?_
  refine AllL.cons rfl (fun K hK => ?_) ?_
  · go_simp
    refine (keepBelow x1 4 w9.drew (by decide) (by decide)).mono ?_
    rintro e w10 ⟨rfl, hw10⟩
    subst hw10
    refine hK.out _ _ HK0.out (fun _ => trivial) ?_
    clear hK K
    refine wpAnyL_ready (rs := [4]) (by kernel_rfl) (by simp) ?_
    refine AllL.cons rfl (fun K hK => ?_) ?_
    · obtain ⟨nn, hnn⟩ : ∃ nn : Nat, x1 % 4 = (nn : Int) := ⟨(x1 % 4).toNat, by have := Int.emod_nonneg x1 (by decide : (4 : Int) ≠ 0); omega⟩
      have hnn3 : nn ≤ 3 := by have := Int.emod_lt_of_pos x1 (by decide : (0 : Int) < 4); omega
      rw [hnn]
      clear hnn
      go_simp
      refine (compareLeast w9.drew (HTB.out.below HB9.out.drew hW0) _ _ AR nR cR g HG9.out.drew HV.out (some ⟨g7, 0, none⟩) nR c7 (g.1, g.2.1, g.2.2.1, g.2.2.2.reverse) HH9.out.drew HV.out.turn T HT.out HT.out hT3 nn hnn3).mono ?_
      rintro e w10 ⟨hcase, hb10⟩
      have HB910 := Lib.hid (show Below w9.heap.size w9 w10 from (Below.refl _ _).drew.trans hb10)
      have HB10 := Lib.hid (HB9.out.trans (HB910.out.mono (by omega)))
      clear hb10
      rcases hcase with ⟨_, rfl⟩ | ⟨ws, _, _, _, hsome, _⟩
      case inr => rw [same_none (fun r => List.mem_reverse.symm)] at hsome; cases hsome
      refine hK.out _ _ (HALL.out _ HB910.out) (fun _ => trivial) ?_
      clear hK K
      refine wpAnyL_pure (i := 5) rfl (by kernel_rfl) (fun _ _ _ h => h) (Or.inl ⟨by rfl, (fun u hu => by obtain ⟨⟨k0, k1, k2, k3⟩, k4, k5, k6, k7⟩ := hu; go_simp; try rfl)⟩) (HALL.out _ HB910.out) (fun _ => trivial) ?_
      simp only [Act.put, List.setIfInBounds_toArray, List.set_cons_zero, List.set_cons_succ, List.getElem_toArray, List.getElem_cons_zero, List.getElem_cons_succ]
      refine wpAnyL_pure (i := 6) rfl (by kernel_rfl) (fun _ _ _ h => h) (Or.inl ⟨by rfl, (fun u hu => by obtain ⟨⟨k0, k1, k2, k3⟩, k4, k5, k6, k7⟩ := hu; go_simp; try rfl)⟩) (HALL.out _ HB910.out) (fun _ => trivial) ?_
      simp only [Act.put, List.setIfInBounds_toArray, List.set_cons_zero, List.set_cons_succ, List.getElem_toArray, List.getElem_cons_zero, List.getElem_cons_succ]
      refine wpAnyL_pure (i := 7) rfl (by kernel_rfl) (fun _ _ _ h => h) (Or.inl ⟨by rfl, (fun u hu => by obtain ⟨⟨k0, k1, k2, k3⟩, k4, k5, k6, k7⟩ := hu; go_simp; try rfl)⟩) (HALL.out _ HB910.out) (fun _ => trivial) ?_
      simp only [Act.put, List.setIfInBounds_toArray, List.set_cons_zero, List.set_cons_succ, List.getElem_toArray, List.getElem_cons_zero, List.getElem_cons_succ]
      refine wpAnyL_pure (i := 8) rfl (by kernel_rfl) (fun _ _ _ h => h) (Or.inl ⟨by rfl, (fun u hu => by obtain ⟨⟨k0, k1, k2, k3⟩, k4, k5, k6, k7⟩ := hu; go_simp; try rfl)⟩) (HALL.out _ HB910.out) (fun _ => trivial) ?_
      simp only [Act.put, List.setIfInBounds_toArray, List.set_cons_zero, List.set_cons_succ, List.getElem_toArray, List.getElem_cons_zero, List.getElem_cons_succ]
      refine wpAnyL_pure (i := 9) rfl (by kernel_rfl) (fun _ _ _ h => h) (Or.inl ⟨by rfl, (fun u hu => by obtain ⟨⟨k0, k1, k2, k3⟩, k4, k5, k6, k7⟩ := hu; go_simp; try rfl)⟩) (HALL.out _ HB910.out) (fun _ => trivial) ?_
      simp only [Act.put, List.setIfInBounds_toArray, List.set_cons_zero, List.set_cons_succ, List.getElem_toArray, List.getElem_cons_zero, List.getElem_cons_succ]
      refine wpAnyL_pure (i := 10) rfl (by kernel_rfl) (fun _ _ _ h => h) (Or.inl ⟨by rfl, (fun u hu => by obtain ⟨⟨k0, k1, k2, k3⟩, k4, k5, k6, k7⟩ := hu; go_simp; try rfl)⟩) (HALL.out _ HB910.out) (fun _ => trivial) ?_
      simp only [Act.put, List.setIfInBounds_toArray, List.set_cons_zero, List.set_cons_succ, List.getElem_toArray, List.getElem_cons_zero, List.getElem_cons_succ]
      refine wpAnyL_pure (i := 11) rfl (by kernel_rfl) (fun _ _ _ h => h) (Or.inl ⟨by rfl, (fun u hu => by obtain ⟨⟨k0, k1, k2, k3⟩, k4, k5, k6, k7⟩ := hu; go_simp; try rfl)⟩) (HALL.out _ HB910.out) (fun _ => trivial) ?_
      simp only [Act.put, List.setIfInBounds_toArray, List.set_cons_zero, List.set_cons_succ, List.getElem_toArray, List.getElem_cons_zero, List.getElem_cons_succ]
      refine wpAnyL_done (by kernel_rfl) ?_ _
      go_wp2_with fail
      go_ret
      exact ⟨rfl, HB10.out⟩
    exact AllL.nil
  exact AllL.nil
end Go.Proofs.YtidigjfnifmiiaaDoor
