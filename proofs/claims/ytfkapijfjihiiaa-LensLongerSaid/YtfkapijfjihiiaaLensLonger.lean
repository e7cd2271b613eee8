/- LensLonger: its walk. -/
import Derived.Test.YtfkapijfjihiiaaLensSet
import Derived.Test.YtfkapijfjihiiaaKPlain
import Derived.Test.YtfkapijfjihiiaaPlainG
import Derived.Test.YtfkapijfjihiiaaGreatest
import Derived.Test.YtfkapijfjihiiaaLongPlain
import Derived.Test.YtfkapijfjihiiaaCloRule
import Derived.Test.YtfkapijfjihiiaaSlEqBool
import Derived.Test.YtfkapijfjihiiaaBelow
namespace Go.Proofs.Ytfkapijfjihiiaa
open Go.RowKit

theorem setGL {g : Nat} (w2 : World) (i : Nat) (u : Value) : w2.grownBy (w2.setCell ⟨g, i, none⟩ u) (some g) := ⟨rfl, rfl, rfl, by simp [World.setCell], fun q _ hq => Below.heap_setCell w2 ⟨g, i, none⟩ _ q (fun e => hq (by rw [e]))⟩
theorem lenRow_atL {w : World} {S : Nat → Prop} {A : Option Addr} {R : List RuleD} {n a k : Nat} (h : Sl Rep.bool w S A (n + 1) (n + 1) (lenRow R n a)) (hk : k < n + 1) :
    ∃ b off, A = some ⟨b, off, none⟩ ∧ w.cell? ⟨b, off + k, none⟩ = some (.bool (lenD R a k)) := by
  obtain ⟨b, off, u, x, rfl, _, hx, hok, hc⟩ := h.at_ rfl hk
  rw [lenRow, List.getElem?_map, List.getElem?_range hk] at hx
  simp only [Option.map_some, Option.some.injEq] at hx
  obtain rfl : u = .bool x := by have h2 : [u] = [Value.bool x] := hok; simpa using h2
  subst hx
  exact ⟨b, off, rfl, hc⟩
/-- 'append(rules, r)': the row of the clone may have room -/
theorem longPush {w : World} {S : Nat → Prop} {base n b11 : Nat} {v : Value} {xs ys : List Value} {rules : List RuleD} {r : RuleD} (ho : Own w base 36 2 v n xs) (hn : n = rules.length) (hn1 : n ≤ 1000) (hbase : base ≤ w.heap.size)
    (hc : Cells RRule w S xs rules) (hy : Cells RRule w S ys [r]) (hS : ∀ b, S b → b < w.heap.size ∧ rowOf v ≠ some b) (hr : Rd w (fun _ => True) 2 (some ⟨b11, 0, none⟩) 1 ys) :
    ∃ A2 c2 w2, (Builtin.append_ #[23, 23] 23 #[v, .slice (some ⟨b11, 0, none⟩) 1 1]).run Try.prog w = .ok (.slice A2 (n + 1) c2) w2 ∧
      Sl RRule w2 (fun b => S b ∨ base ≤ b) A2 (n + 1) c2 (rules ++ [r]) ∧ w.grownBy w2 (rowOf v) ∧ Below base w w2 := by
  obtain ⟨v', w', hrun, ho', hg, hrow⟩ := run_append_Own tRules w 23 base v n xs ho _ _ 1 1 ys hr hy.one (by unfold maxLen; omega) (by omega) (by omega)
  obtain ⟨A2, c2, rfl, _, _⟩ := ho'.form
  have hb : Below base w w' := (Below.refl _ _).grown hg hbase (fun g e => (ho.row e).1)
  have hblk : ∀ b, S b → w'.heap[b]? = w.heap[b]? := fun b hb => hg.block b (hS b hb).1 (fun e => (hS b hb).2 e.symm)
  have hcc : Cells RRule w' (fun b => S b ∨ base ≤ b) (xs ++ ys) (rules ++ [r]) := ((hc.append hy).keep (w' := w') fun p u hp hu => by
    rw [World.cell?_of_block (hblk _ hp)]
    exact hu).more fun b hb => .inl hb
  exact ⟨A2, c2, w', hrun, ⟨xs ++ ys, by simp [hn], by omega, ho'.rd.more fun b hb => .inr hb, hcc⟩, hg, hb⟩
theorem long_valid {g : GramD} {N st : Nat} (hv : GValid g) (hs : GSmall g) (hN : g.2.1 = (N : Int)) (hst : st < N) : GValid (g.1, (N : Int) + 1, (N : Int), longR g.2.2.2 N (st : Int)) := by
  have hn := hs.n
  refine ⟨hv.t1, hv.t2, by show (1 : Int) ≤ (N : Int) + 1; omega, by show (N : Int) + 1 ≤ 10; omega, ⟨by show (0 : Int) ≤ (N : Int); omega, by show (N : Int) < (N : Int) + 1; omega⟩, ?_, ?_, ?_⟩
  · show (longR g.2.2.2 N (st : Int)).length ≤ 32
    have := hs.r2
    simp [longR]; omega
  · intro r hr
    rcases List.mem_append.1 hr with hr | hr
    · obtain ⟨h1, h2, h3⟩ := hv.rules r hr
      refine ⟨⟨h1.1, by show r.1 < (N : Int) + 1; omega⟩, h2, fun s hs => ?_⟩
      have := h3 s hs
      refine ⟨this.1, ?_⟩
      have h5 := this.2
      show s.2 < (if s.1 = true then g.1 else (N : Int) + 1)
      split at h5
      · rw [if_pos (by assumption)]; exact h5
      · rw [if_neg (by assumption)]; omega
    · obtain rfl := List.mem_singleton.1 hr
      refine ⟨⟨by show (0 : Int) ≤ (N : Int); omega, by show (N : Int) < (N : Int) + 1; omega⟩, by simp, fun s hs => ?_⟩
      simp only [List.mem_cons, List.not_mem_nil, or_false] at hs
      rcases hs with rfl | rfl
      · exact ⟨by simp, by have := hv.t1; show (0 : Int) < (if (true = true) then g.1 else (N : Int) + 1); rw [if_pos rfl]; omega⟩
      · exact ⟨by show (0 : Int) ≤ (st : Int); omega, by show (st : Int) < (if (false = true) then g.1 else (N : Int) + 1); rw [if_neg (by simp)]; omega⟩
  · show (g.2.2.2 ++ [((N : Int), [(true, 0), (false, (st : Int))])]).Nodup
    rw [List.nodup_append]
    refine ⟨hv.nd, by simp, fun a ha b hb e => ?_⟩
    obtain rfl := List.mem_singleton.1 hb
    subst e
    have := (hv.rules _ ha).1.2
    simp only at this
    omega
set_option linter.unusedSimpArgs false in
set_option maxRecDepth 100000 in
set_option maxHeartbeats 20000000 in
theorem lensLonger_walk (W : World) (A0 : Option Addr) (n0 c0 : Nat) (z0 : List Int) (le0 : n0 ≤ c0) (cap0 : c0 ≤ 17592186043904) (rd0 : Rd W (fun _ => True) 1 A0 n0 (z0.map (Value.int .i64))) (_rg0 : ∀ z ∈ z0, -9223372036854775808 ≤ z ∧ z ≤ 9223372036854775807)
    (x1 : Int) (_lo1 : -9223372036854775808 ≤ x1) (_hi1 : x1 ≤ 9223372036854775807) :
    Calls Try.prog 3 #[.slice A0 n0 c0, .int .i64 x1] W fun e W' => e = .returned (.bool true) ∧ Below W.heap.size W W' := by
  have HR0 := Lib.hid (rd0.slInts le0)
  clear rd0 _rg0 _lo1 _hi1
  go_enter Try.func3, Try.ntmps3
  --@1
  go_wp2_with fail
  refine (makeGrammar _ _ _ _ _ z0 HR0.out (by omega)).mono ?_
  rintro e w1 ⟨g, AR, cR, hv, hsm, rfl, hg, hb1⟩
  obtain ⟨N, hN⟩ : ∃ N, N = nonsOf g := ⟨_, rfl⟩
  obtain ⟨st, hst, hstN⟩ : ∃ st : Nat, g.2.2.1 = (st : Int) ∧ st < N := ⟨g.2.2.1.toNat, by have := hv.st; omega, by have := hv.st; rw [hN]; unfold nonsOf; omega⟩
  have hN0 : g.2.1 = (N : Int) := by have := hv.n1; rw [hN]; unfold nonsOf; omega
  have hN4 : N ≤ 4 := by have := hsm.n; omega
  obtain ⟨nR, hnR⟩ : ∃ nR, nR = g.2.2.2.length := ⟨_, rfl⟩
  rw [← hnR] at hg
  have hnR8 : nR ≤ 8 := by have := hsm.r2; omega
  have hz1 := hb1.size
  have HV := Lib.hid hv
  have HVH := Lib.hid (long_valid hv hsm hN0 hstN)
  have HSM := Lib.hid hsm
  have HG := Lib.hid hg
  have HB1 := Lib.hid hb1
  have HRN := Lib.hid (show RulesN N g.2.2.2 by rw [hN]; exact rulesN_of hv)
  have HN := Lib.hid hN
  have HN0 := Lib.hid hN0
  have HST := Lib.hid hst
  have HNR := Lib.hid hnR
  rw [← hnR, hN0, hst]
  obtain ⟨kq, hkq⟩ : ∃ k : Nat, x1 % 60 = (k : Int) := ⟨(x1 % 60).toNat, by omega⟩
  have hkq60 : kq ≤ 59 := by omega
  clear hv hsm hg hb1 hN hN0 hst hnR
  --@2
  go_wp2_with fail
  refine (keepBelow x1 60 _ (by omega) (by omega)).mono ?_
  rintro e w2 ⟨he, rfl⟩
  rw [hkq] at he
  subst he
  clear hkq
  --@3
  have hz1 := HB1.out.size
  have hall : ∀ u : World, Below (w1.heap.size + 1) (w1.alloc (.cells #[.int .i64 g.1, .int .i64 N, .int .i64 st, .slice AR nR cR] 25)) u → u.cell? ⟨w1.heap.size, 0, none⟩ = some (.int .i64 g.1) ∧ u.cell? ⟨w1.heap.size, 1, none⟩ = some (.int .i64 N) ∧ u.cell? ⟨w1.heap.size, 2, none⟩ = some (.int .i64 st) ∧ u.cell? ⟨w1.heap.size, 3, none⟩ = some (.slice AR nR cR) := by
    intro u hu
    refine ⟨(hu.cell (by simp)).trans ?_, (hu.cell (by simp)).trans ?_, (hu.cell (by simp)).trans ?_, (hu.cell (by simp)).trans ?_⟩ <;> simp
  have HALL := Lib.hid hall
  have HBA := Lib.hid (HB1.out.alloc HB1.out.size (.cells #[.int .i64 g.1, .int .i64 N, .int .i64 st, .slice AR nR cR] 25))
  have HGA := Lib.hid (HG.out.alloc (.cells #[.int .i64 g.1, .int .i64 N, .int .i64 st, .slice AR nR cR] 25))
  have HGF := Lib.hid (HG.out.fit.alloc (.cells #[.int .i64 g.1, .int .i64 N, .int .i64 st, .slice AR nR cR] 25))
  clear hall
  go_wp2_with fail
  refine (keepPlain _).mono ?_
  rintro e w3 ⟨AP, rfl, hp, hb3⟩
  simp only [World.size_alloc] at hb3
  have HP := Lib.hid hp
  have HB3 := Lib.hid hb3
  have hs3 := hb3.size
  simp only [World.size_alloc] at hs3
  clear hp hb3
  go_wp2_with fail
  refine (lensSet _ _ _ _ _ plainG HP.out plain_valid 1 (by omega)).mono ?_
  rintro e w4 ⟨A4, rfl, hx4, hb4⟩
  have hb24 := HB3.out.trans (hb4.mono (by omega))
  have HB4 := Lib.hid hb24
  have hs4 := hb24.size
  simp only [World.size_alloc] at hs4
  obtain ⟨b4, o4, rfl, hc4⟩ := lenRow_atL hx4 (show 1 < 1 + 1 by omega)
  have hl1 : lenD plainG.2.2.2 plainG.2.2.1.toNat 1 = true := by
    show lenD plainR 0 1 = true
    rw [plain_len]
    rfl
  rw [hl1] at hc4
  obtain ⟨k0, k1, k2, k3⟩ := HALL.out _ hb24
  have HG4 := Lib.hid (HGA.out.below (hb24.mono (by simp)))
  clear hb24 hb4 hx4 hl1 HB3 HP
  --@4
  go_wp2_with fail
  obtain ⟨w5, hw5⟩ : ∃ w5 : World, w5 = w4.alloc (.cells #[.int .i64 g.1, .int .i64 N, .int .i64 st, .slice AR nR cR] 25) := ⟨_, rfl⟩
  rw [← hw5]
  have hz5 : w5.heap.size = w4.heap.size + 1 := by rw [hw5]; simp
  have HBH5 := Lib.hid (show w5.heap[w4.heap.size]? = some (.cells #[.int .i64 g.1, .int .i64 N, .int .i64 st, .slice AR nR cR] 25 (0, 0)) by rw [hw5]; exact heap_alloc_new _ _)
  have hb5 := HB4.out.alloc (by omega) (.cells #[.int .i64 g.1, .int .i64 N, .int .i64 st, .slice AR nR cR] 25)
  rw [← hw5] at hb5
  have hg5 := HG4.out.alloc (.cells #[.int .i64 g.1, .int .i64 N, .int .i64 st, .slice AR nR cR] 25)
  rw [← hw5] at hg5
  have HG6 := Lib.hid hg5.drew
  have HB6 := Lib.hid hb5.drew
  have hbh6 : w5.drew.heap[w4.heap.size]? = some (.cells #[.int .i64 g.1, .int .i64 N, .int .i64 st, .slice AR nR cR] 25 (0, 0)) := HBH5.out
  have HBH6 := Lib.hid hbh6
  have hz6 : w5.drew.heap.size = w4.heap.size + 1 := hz5
  have hwr : IntKind.i64.wrap ((N : Int) + 1) = (N : Int) + 1 := IntWalk.i64_in _ (by omega)
  clear hw5 hc4 k0 k1 k2 k3 hb5 hg5 HG4 HB4 hbh6 HBH5 hz5
  refine wp_region_late (late := []) (S1 := fun u => u.cell? ⟨w1.heap.size, 0, none⟩ = some (.int .i64 g.1) ∧ u.cell? ⟨w1.heap.size, 1, none⟩ = some (.int .i64 N) ∧ u.cell? ⟨w1.heap.size, 2, none⟩ = some (.int .i64 st) ∧ u.cell? ⟨w1.heap.size, 3, none⟩ = some (.slice AR nR cR)) (S := fun _ => True) (by kernel_rfl) ?_
  obtain ⟨w6, hw6⟩ : ∃ w6 : World, w6 = w5.drew := ⟨_, rfl⟩
  rw [← hw6] at HG6 HB6 HBH6 hz6 ⊢
  clear hw6
  refine wpAnyL_pure (i := 0) rfl (by kernel_rfl) (fun _ _ _ h => h) (Or.inl ⟨by rfl, (fun u hu => by obtain ⟨k0, k1, k2, k3⟩ := hu; go_simp; try rfl)⟩) (HALL.out _ HB6.out) (fun _ => trivial) ?_
  simp only [Act.put, List.setIfInBounds_toArray, List.set_cons_zero, List.set_cons_succ, List.getElem_toArray, List.getElem_cons_zero, List.getElem_cons_succ]
  refine wpAnyL_pure (i := 1) rfl (by kernel_rfl) (fun _ _ _ h => h) (Or.inl ⟨by rfl, (fun u hu => by obtain ⟨k0, k1, k2, k3⟩ := hu; go_simp; try rfl)⟩) (HALL.out _ HB6.out) (fun _ => trivial) ?_
  simp only [Act.put, List.setIfInBounds_toArray, List.set_cons_zero, List.set_cons_succ, List.getElem_toArray, List.getElem_cons_zero, List.getElem_cons_succ]
  refine wpAnyL_pure (i := 2) rfl (by kernel_rfl) (fun _ _ _ h => h) (Or.inl ⟨by rfl, (fun u hu => by obtain ⟨k0, k1, k2, k3⟩ := hu; go_simp; try rfl)⟩) (HALL.out _ HB6.out) (fun _ => trivial) ?_
  simp only [Act.put, List.setIfInBounds_toArray, List.set_cons_zero, List.set_cons_succ, List.getElem_toArray, List.getElem_cons_zero, List.getElem_cons_succ]
  refine wpAnyL_pure (i := 3) rfl (by kernel_rfl) (fun _ _ _ h => h) (Or.inl ⟨by rfl, (fun u hu => by obtain ⟨k0, k1, k2, k3⟩ := hu; go_simp; try rfl)⟩) (HALL.out _ HB6.out) (fun _ => trivial) ?_
  simp only [Act.put, List.setIfInBounds_toArray, List.set_cons_zero, List.set_cons_succ, List.getElem_toArray, List.getElem_cons_zero, List.getElem_cons_succ]
  refine wpAnyL_pure (i := 4) rfl (by kernel_rfl) (fun _ _ _ h => h) (Or.inl ⟨by rfl, (fun u hu => by obtain ⟨k0, k1, k2, k3⟩ := hu; go_simp; try rfl)⟩) (HALL.out _ HB6.out) (fun _ => trivial) ?_
  simp only [Act.put, List.setIfInBounds_toArray, List.set_cons_zero, List.set_cons_succ, List.getElem_toArray, List.getElem_cons_zero, List.getElem_cons_succ]
  refine wpAnyL_pure (i := 5) rfl (by kernel_rfl) (fun _ _ _ h => h) (Or.inl ⟨by rfl, (fun u hu => by obtain ⟨k0, k1, k2, k3⟩ := hu; go_simp; try rfl)⟩) (HALL.out _ HB6.out) (fun _ => trivial) ?_
  simp only [Act.put, List.setIfInBounds_toArray, List.set_cons_zero, List.set_cons_succ, List.getElem_toArray, List.getElem_cons_zero, List.getElem_cons_succ]
  refine wpAnyL_ready (rs := [6]) (by kernel_rfl) (by simp) ?_
  refine AllL.cons rfl (fun K hK => ?_) ?_
  · have d0 : w6.cell? ⟨w4.heap.size, 1, none⟩ = some (.int .i64 N) := by simp [World.cell?, HBH6.out]
    have df : w6.frozen? ⟨w4.heap.size, 1, none⟩ = false := by simp [World.frozen?, HBH6.out]
    have ld := heap_lt HBH6.out
    go_simp
    try simp only [hwr]
    clear d0 df ld
    obtain ⟨w7, hw7⟩ : ∃ w7 : World, w7 = w6.setCell ⟨w4.heap.size, 1, none⟩ (.int .i64 ((N : Int) + 1)) := ⟨_, rfl⟩
    rw [← hw7]
    have hz7 : w7.heap.size = w4.heap.size + 1 := by rw [hw7]; simp [World.setCell]; exact hz6
    have hgb : w6.grownBy w7 (some w4.heap.size) := by rw [hw7]; exact setGL _ _ _
    have HBH7 := Lib.hid (show w7.heap[w4.heap.size]? = some (.cells #[.int .i64 g.1, .int .i64 ((N : Int) + 1), .int .i64 st, .slice AR nR cR] 25 (0, 0)) by rw [hw7]; have := blk_set HBH6.out 1 (.int .i64 ((N : Int) + 1)); simpa using this)
    have HB7 := Lib.hid (HB6.out.grown hgb (by omega) (fun k e => by injection e with e; omega))
    clear hw7 hgb HBH6
    refine hK.out _ _ (HALL.out _ HB7.out) (fun _ => trivial) ?_
    clear hK K
    refine wpAnyL_pure (i := 7) rfl (by kernel_rfl) (fun _ _ _ h => h) (Or.inl ⟨by rfl, (fun u hu => by obtain ⟨k0, k1, k2, k3⟩ := hu; go_simp; try rfl)⟩) (HALL.out _ HB7.out) (fun _ => trivial) ?_
    simp only [Act.put, List.setIfInBounds_toArray, List.set_cons_zero, List.set_cons_succ, List.getElem_toArray, List.getElem_cons_zero, List.getElem_cons_succ]
    refine wpAnyL_ready (rs := [8]) (by kernel_rfl) (by simp) ?_
    refine AllL.cons rfl (fun K hK => ?_) ?_
    · have d0 : w7.cell? ⟨w4.heap.size, 2, none⟩ = some (.int .i64 st) := by simp [World.cell?, HBH7.out]
      have df : w7.frozen? ⟨w4.heap.size, 2, none⟩ = false := by simp [World.frozen?, HBH7.out]
      have ld := heap_lt HBH7.out
      go_simp
      try simp only [hwr]
      clear d0 df ld
      obtain ⟨w8, hw8⟩ : ∃ w8 : World, w8 = w7.setCell ⟨w4.heap.size, 2, none⟩ (.int .i64 N) := ⟨_, rfl⟩
      rw [← hw8]
      have hz8 : w8.heap.size = w4.heap.size + 1 := by rw [hw8]; simp [World.setCell]; exact hz7
      have hgb : w7.grownBy w8 (some w4.heap.size) := by rw [hw8]; exact setGL _ _ _
      have HBH8 := Lib.hid (show w8.heap[w4.heap.size]? = some (.cells #[.int .i64 g.1, .int .i64 ((N : Int) + 1), .int .i64 N, .slice AR nR cR] 25 (0, 0)) by rw [hw8]; have := blk_set HBH7.out 2 (.int .i64 N); simpa using this)
      have HB8 := Lib.hid (HB7.out.grown hgb (by omega) (fun k e => by injection e with e; omega))
      clear hw8 hgb HBH7
      refine hK.out _ _ (HALL.out _ HB8.out) (fun _ => trivial) ?_
      clear hK K
      refine wpAnyL_done (by kernel_rfl) ?_ _
      go_wp2_with fail
      have hg8 := HGF.out.below (HB8.out.mono (by simp))
      refine wp_region_late (late := []) (S1 := fun u => u.cell? ⟨w1.heap.size, 0, none⟩ = some (.int .i64 g.1) ∧ u.cell? ⟨w1.heap.size, 1, none⟩ = some (.int .i64 N) ∧ u.cell? ⟨w1.heap.size, 2, none⟩ = some (.int .i64 st) ∧ u.cell? ⟨w1.heap.size, 3, none⟩ = some (.slice AR nR cR)) (S := fun _ => True) (by kernel_rfl) ?_
      obtain ⟨w9, hw9⟩ : ∃ w9 : World, w9 = w8.drew := ⟨_, rfl⟩
      have HBH9 := Lib.hid (show w9.heap[w4.heap.size]? = some (.cells #[.int .i64 g.1, .int .i64 ((N : Int) + 1), .int .i64 N, .slice AR nR cR] 25 (0, 0)) by rw [hw9]; exact HBH8.out)
      have hz9 : w9.heap.size = w4.heap.size + 1 := by rw [hw9]; exact hz8
      have HB9 := Lib.hid (show Below (w1.heap.size + 1) (w1.alloc (.cells #[.int .i64 g.1, .int .i64 N, .int .i64 st, .slice AR nR cR] 25)) w9 by rw [hw9]; exact HB8.out.drew)
      have hg9 := hg8.drew
      rw [← hw9] at hg9 ⊢
      obtain ⟨xs, hx1, hx2, hrd, hcells⟩ := hg9
      have HRD := Lib.hid hrd
      have HCE := Lib.hid hcells
      have HX1 := Lib.hid hx1
      have HALL9 := Lib.hid (show ∀ u : World, Below w9.heap.size w9 u → u.cell? ⟨w1.heap.size, 0, none⟩ = some (.int .i64 g.1) ∧ u.cell? ⟨w1.heap.size, 1, none⟩ = some (.int .i64 N) ∧ u.cell? ⟨w1.heap.size, 2, none⟩ = some (.int .i64 st) ∧ u.cell? ⟨w1.heap.size, 3, none⟩ = some (.slice AR nR cR) from fun u hu => HALL.out u (HB9.out.trans (hu.mono (by omega))))
      have HC0 := Lib.hid (Below.refl w9.heap.size w9)
      have hz9a : w9.heap.size ≤ w4.heap.size + 1 := by omega
      have hz9b : w4.heap.size + 1 ≤ w9.heap.size := by omega
      clear hz9 hw9 hg8 hx1 hx2 hrd hcells HBH8 HB8 HB6 hz8 hz6
      refine wpAnyL_pure (i := 0) rfl (by kernel_rfl) (fun _ _ _ h => h) (Or.inl ⟨by rfl, (fun u hu => by obtain ⟨k0, k1, k2, k3⟩ := hu; go_simp; try rfl)⟩) (HALL9.out _ HC0.out) (fun _ => trivial) ?_
      simp only [Act.put, List.setIfInBounds_toArray, List.set_cons_zero, List.set_cons_succ, List.getElem_toArray, List.getElem_cons_zero, List.getElem_cons_succ]
      refine wpAnyL_pure (i := 1) rfl (by kernel_rfl) (fun _ _ _ h => h) (Or.inl ⟨by rfl, (fun u hu => by obtain ⟨k0, k1, k2, k3⟩ := hu; go_simp; try rfl)⟩) (HALL9.out _ HC0.out) (fun _ => trivial) ?_
      simp only [Act.put, List.setIfInBounds_toArray, List.set_cons_zero, List.set_cons_succ, List.getElem_toArray, List.getElem_cons_zero, List.getElem_cons_succ]
      refine wpAnyL_pure (i := 3) rfl (by kernel_rfl) (fun _ _ _ h => h) (Or.inl ⟨by rfl, (fun u hu => by obtain ⟨k0, k1, k2, k3⟩ := hu; go_simp; try rfl)⟩) (HALL9.out _ HC0.out) (fun _ => trivial) ?_
      simp only [Act.put, List.setIfInBounds_toArray, List.set_cons_zero, List.set_cons_succ, List.getElem_toArray, List.getElem_cons_zero, List.getElem_cons_succ]
      refine wpAnyL_pure (i := 4) rfl (by kernel_rfl) (fun _ _ _ h => h) (Or.inl ⟨by rfl, (fun u hu => by obtain ⟨k0, k1, k2, k3⟩ := hu; go_simp; try rfl)⟩) (HALL9.out _ HC0.out) (fun _ => trivial) ?_
      simp only [Act.put, List.setIfInBounds_toArray, List.set_cons_zero, List.set_cons_succ, List.getElem_toArray, List.getElem_cons_zero, List.getElem_cons_succ]
      refine wpAnyL_pure (i := 5) rfl (by kernel_rfl) (fun _ _ _ h => h) (Or.inl ⟨by rfl, (fun u hu => by obtain ⟨k0, k1, k2, k3⟩ := hu; go_simp; try rfl)⟩) (HALL9.out _ HC0.out) (fun _ => trivial) ?_
      simp only [Act.put, List.setIfInBounds_toArray, List.set_cons_zero, List.set_cons_succ, List.getElem_toArray, List.getElem_cons_zero, List.getElem_cons_succ]
      refine wpAnyL_pure (i := 6) rfl (by kernel_rfl) (fun _ _ _ h => h) (Or.inl ⟨by rfl, (fun u hu => by obtain ⟨k0, k1, k2, k3⟩ := hu; go_simp; try rfl)⟩) (HALL9.out _ HC0.out) (fun _ => trivial) ?_
      simp only [Act.put, List.setIfInBounds_toArray, List.set_cons_zero, List.set_cons_succ, List.getElem_toArray, List.getElem_cons_zero, List.getElem_cons_succ]
      refine wpAnyL_pure (i := 7) rfl (by kernel_rfl) (fun _ _ _ h => h) (Or.inl ⟨by rfl, (fun u hu => by obtain ⟨k0, k1, k2, k3⟩ := hu; go_simp; try rfl)⟩) (HALL9.out _ HC0.out) (fun _ => trivial) ?_
      simp only [Act.put, List.setIfInBounds_toArray, List.set_cons_zero, List.set_cons_succ, List.getElem_toArray, List.getElem_cons_zero, List.getElem_cons_succ]
      refine wpAnyL_pure (i := 8) rfl (by kernel_rfl) (fun _ _ _ h => h) (Or.inl ⟨by rfl, (fun u hu => by obtain ⟨k0, k1, k2, k3⟩ := hu; go_simp; try rfl)⟩) (HALL9.out _ HC0.out) (fun _ => trivial) ?_
      simp only [Act.put, List.setIfInBounds_toArray, List.set_cons_zero, List.set_cons_succ, List.getElem_toArray, List.getElem_cons_zero, List.getElem_cons_succ]
      refine wpAnyL_ready (rs := [2, 9]) (by kernel_rfl) (by simp) ?_
      refine AllL.cons rfl (fun K hK => ?_) ?_
      · go_simp
        refine (cloneRule AR nR cR _ xs w9 (HRD.out.below HC0.out) (by omega)).mono ?_
        rintro e w10 ⟨v, rfl, ho, hb⟩
        have HC10 := Lib.hid (HC0.out.trans (hb.mono HC0.out.size))
        have hs10 := hb.size
        have hvr : ∀ b, rowOf v = some b → w9.heap.size ≤ b ∧ b < w10.heap.size := fun b hb => ho.row hb
        have ho := ho.mono (base' := w9.heap.size) HC0.out.size
        clear hb
        refine hK.out _ _ (HALL9.out _ HC10.out) (fun _ => trivial) ?_
        clear hK K
        refine wpAnyL_ready (rs := [9]) (by kernel_rfl) (by simp) ?_
        refine AllL.cons rfl (fun K hK => ?_) ?_
        · go_simp
          obtain ⟨w11, hw11⟩ : ∃ w11 : World, w11 = w10.alloc (.cells #[.bool true, .int .i64 0, .bool false, .int .i64 st] 38) := ⟨_, rfl⟩
          rw [← hw11]
          obtain ⟨b9, hb9⟩ : ∃ b, b = w10.heap.size := ⟨_, rfl⟩
          rw [← hb9]
          have hsy : Sl RSym w11 (fun b => b = b9) (some ⟨b9, 0, none⟩) 2 2 [(true, 0), (false, (st : Int))] := by rw [hw11, hb9]; exact ⟨[.bool true, .int .i64 0, .bool false, .int .i64 st], rfl, Nat.le_refl _, Rd.newS _ _ _ _ _ 2 2 rfl rfl rfl, ⟨[_, _], [_, _], rfl, RSym.cells.2 rfl, Cells.single (RSym.cells.2 rfl)⟩⟩
          have HC11 := Lib.hid (show Below w9.heap.size w9 w11 by rw [hw11]; exact HC10.out.alloc HC10.out.size _)
          have hl9 : b9 < w11.heap.size := by rw [hw11, hb9]; simp
          have hl9b : w9.heap.size ≤ b9 := by rw [hb9]; exact HC10.out.size
          have ho : Own w11 w9.heap.size 36 2 v nR xs := by rw [hw11]; exact ho.alloc _
          have hn9 : ∀ b, rowOf v = some b → b ≠ b9 := fun b hb => by have := hvr b hb; omega
          clear hw11 hb9
          refine hK.out _ _ (HALL9.out _ HC11.out) (fun _ => trivial) ?_
          clear hK K
          refine wpAnyL_pure (i := 10) rfl (by kernel_rfl) (fun _ _ _ h => h) (Or.inl ⟨by rfl, (fun u hu => by obtain ⟨k0, k1, k2, k3⟩ := hu; go_simp; try rfl)⟩) (HALL9.out _ HC11.out) (fun _ => trivial) ?_
          simp only [Act.put, List.setIfInBounds_toArray, List.set_cons_zero, List.set_cons_succ, List.getElem_toArray, List.getElem_cons_zero, List.getElem_cons_succ]
          refine wpAnyL_ready (rs := [11]) (by kernel_rfl) (by simp) ?_
          refine AllL.cons rfl (fun K hK => ?_) ?_
          · go_simp
            obtain ⟨w12, hw12⟩ : ∃ w12 : World, w12 = w11.alloc (.cells #[.int .i64 N, .slice (some ⟨b9, 0, none⟩) 2 2] 36) := ⟨_, rfl⟩
            rw [← hw12]
            obtain ⟨b11, hb11⟩ : ∃ b, b = w11.heap.size := ⟨_, rfl⟩
            rw [← hb11]
            have hru : Rd w12 (fun _ => True) 2 (some ⟨b11, 0, none⟩) 1 [.int .i64 N, .slice (some ⟨b9, 0, none⟩) 2 2] := by rw [hw12, hb11]; exact Rd.newS _ _ _ _ _ 1 2 rfl trivial rfl
            have hsy : Sl RSym w12 (fun b => b = b9) (some ⟨b9, 0, none⟩) 2 2 [(true, 0), (false, (st : Int))] := by rw [hw12]; exact hsy.alloc _
            have HC12 := Lib.hid (show Below w9.heap.size w9 w12 by rw [hw12]; exact HC11.out.alloc HC11.out.size _)
            have hl9 : b9 < w12.heap.size := by rw [hw12]; simp; omega
            have ho : Own w12 w9.heap.size 36 2 v nR xs := by rw [hw12]; exact ho.alloc _
            clear hw12 hb11
            refine hK.out _ _ (HALL9.out _ HC12.out) (fun _ => trivial) ?_
            clear hK K
            refine wpAnyL_ready (rs := [12]) (by kernel_rfl) (by simp) ?_
            refine AllL.cons rfl (fun K hK => ?_) ?_
            · obtain ⟨A2, c2, w13, hrun, hsl, hgr, hb⟩ := longPush (S := fun b => (W.heap.size ≤ b ∧ b < w1.heap.size) ∨ b = b9) (r := ((N : Int), [(true, 0), (false, (st : Int))])) ho HX1.out (by omega) HC12.out.size ((HCE.out.keep (.belowB HC12.out fun b hb => by omega)).more fun b hb => .inl hb) (Cells.single (RRule.cells.2 ⟨_, _, _, rfl, hsy.more fun b hb => .inr hb⟩)) (fun b hb => ⟨by have := HC12.out.size; omega, fun e => by have h1 := ho.row e; have h2 := hn9 b e; omega⟩) hru
              have HC13 := Lib.hid (HC12.out.trans hb)
              have HRUN := Lib.hid hrun
              have HSL := Lib.hid hsl
              clear hrun hsl hgr hb ho hsy hru hvr hn9 hl9
              refine step_append_run _ (by rfl) _ _ _ _ (by rfl) _ _ (by rfl) (by rfl) _ _ HRUN.out ?_
              simp only [Act.put, List.setIfInBounds_toArray, List.set_cons_zero, List.set_cons_succ, List.getElem_toArray, List.getElem_cons_zero, List.getElem_cons_succ]
              clear HRUN
              refine hK.out _ _ (HALL9.out _ HC13.out) (fun _ => trivial) ?_
              clear hK K
              refine wpAnyL_pure (i := 13) rfl (by kernel_rfl) (fun _ _ _ h => h) (Or.inl ⟨by rfl, (fun u hu => by obtain ⟨k0, k1, k2, k3⟩ := hu; go_simp; try rfl)⟩) (HALL9.out _ HC13.out) (fun _ => trivial) ?_
              simp only [Act.put, List.setIfInBounds_toArray, List.set_cons_zero, List.set_cons_succ, List.getElem_toArray, List.getElem_cons_zero, List.getElem_cons_succ]
              refine wpAnyL_ready (rs := [14]) (by kernel_rfl) (by simp) ?_
              refine AllL.cons rfl (fun K hK => ?_) ?_
              · have HBHc := Lib.hid ((HC13.out.block _ (by omega)).trans HBH9.out)
                have d0 : w13.cell? ⟨w4.heap.size, 3, none⟩ = some (.slice AR nR cR) := by simp [World.cell?, HBHc.out]
                have df : w13.frozen? ⟨w4.heap.size, 3, none⟩ = false := by simp [World.frozen?, HBHc.out]
                have ld := heap_lt HBHc.out
                go_simp
                clear d0 df ld
                obtain ⟨wz, hwz⟩ : ∃ wz : World, wz = w13.setCell ⟨w4.heap.size, 3, none⟩ (.slice A2 (nR + 1) c2) := ⟨_, rfl⟩
                rw [← hwz]
                have hszc := HC13.out.size
                have hgz : w13.grownBy wz (some w4.heap.size) := by rw [hwz]; exact setGL _ _ _
                have HBHZ := Lib.hid (show wz.heap[w4.heap.size]? = some (.cells #[.int .i64 g.1, .int .i64 ((N : Int) + 1), .int .i64 N, .slice A2 (nR + 1) c2] 25 (0, 0)) by rw [hwz]; have := blk_set HBHc.out 3 (.slice A2 (nR + 1) c2); simpa using this)
                have HBZ := Lib.hid ((HB9.out.trans (HC13.out.mono (by omega))).grown hgz (by omega) (fun k e => by injection e with e; omega))
                have HSZ := Lib.hid (show Sl RRule wz (fun b => b ≠ w4.heap.size) A2 (nR + 1) c2 (longR g.2.2.2 N st) from (HSL.out.more fun b hb => (by rcases hb with (hb | hb) | hb <;> omega : b ≠ w4.heap.size)).keep fun p u hp hu => by rw [World.cell?_of_block (hgz.block _ (cell_lt hu) (fun e => by injection e with e; exact hp e))]; exact hu)
                clear hwz hgz HBHc HSL
                refine hK.out _ _ (HALL.out _ HBZ.out) (fun _ => trivial) ?_
                clear hK K
                refine wpAnyL_done (by kernel_rfl) ?_ _
                have hszz := HBZ.out.size
                have hgz : Sl RRule wz (fun b => W.heap.size ≤ b ∧ b < w1.heap.size) AR nR cR g.2.2.2 := HGF.out.below (HBZ.out.mono (by simp))
                have HGZ := Lib.hid hgz
                simp only [World.size_alloc] at hszz
                obtain ⟨k0, k1, k2, k3⟩ := HALL.out _ HBZ.out
                clear hgz HALL9 HCE HRD HGF HGA
                go_wp2_with fail
                clear k0 k1 k2 k3
                have hset := lensSet wz _ AR nR cR g HGZ.out HV.out kq (by omega)
                rw [HN0.out, HST.out] at hset
                refine hset.mono ?_
                clear hset
                rintro e w20 ⟨A20, rfl, hx20, hb20⟩
                have HB20 := Lib.hid (HBZ.out.trans (hb20.mono (by omega)))
                have HX20 := Lib.hid hx20
                have hs20 := hb20.size
                have HG20 := Lib.hid (HGZ.out.fit.below hb20)
                have HBH20 := Lib.hid ((hb20.block _ (heap_lt HBHZ.out)).trans HBHZ.out)
                have HS20 := Lib.hid (HSZ.out.fit.below hb20)
                clear hb20 hx20 HGZ HBHZ HSZ HBZ
                have hH20 : w20.cell? ⟨w4.heap.size, 0, none⟩ = some (.int .i64 g.1) ∧ w20.cell? ⟨w4.heap.size, 1, none⟩ = some (.int .i64 ((N : Int) + 1)) ∧ w20.cell? ⟨w4.heap.size, 2, none⟩ = some (.int .i64 N) ∧ w20.cell? ⟨w4.heap.size, 3, none⟩ = some (.slice A2 (nR + 1) c2) := by simp [World.cell?, HBH20.out]
                obtain ⟨q0, q1, q2, q3⟩ := hH20
                go_wp2_with fail
                clear q0 q1 q2 q3
                have hset2 := lensSet w20 _ A2 (nR + 1) c2 (g.1, (N : Int) + 1, (N : Int), longR g.2.2.2 N st) HS20.out HVH.out (kq + 1) (by omega)
                have ekq : ((kq + 1 : Nat) : Int) = (kq : Int) + 1 := by omega
                rw [ekq] at hset2
                clear ekq
                refine hset2.mono ?_
                clear hset2
                rintro e w21 ⟨A21, rfl, hx21, hb21⟩
                have HB21 := Lib.hid (HB20.out.trans (hb21.mono (by omega)))
                have HX21 := Lib.hid hx21
                have hs21 := hb21.size
                have HG21 := Lib.hid (HG20.out.fit.below hb21)
                have HBH21 := Lib.hid ((hb21.block _ (heap_lt HBH20.out)).trans HBH20.out)
                have HS21 := Lib.hid (HS20.out.fit.below hb21)
                have HX20 := Lib.hid (HX20.out.below hb21)
                obtain ⟨k0, k1, k2, k3⟩ := HALL.out _ HB21.out
                clear hb21 hx21 HG20 HBH20 HS20 HB20
                go_wp2_with fail
                clear k0 k1 k2 k3
                have hgr := lensGreatest w21 _ AR nR cR g HG21.out HV.out N st HN.out HST.out
                rw [HN0.out, HST.out] at hgr
                refine hgr.mono ?_
                clear hgr
                rintro e w22 ⟨⟨va, rfl, hva, hva2⟩, hb22⟩
                have HVA := Lib.hid hva
                have HB22 := Lib.hid (HB21.out.trans (hb22.mono (by omega)))
                have hs22 := hb22.size
                have HBH22 := Lib.hid ((hb22.block _ (heap_lt HBH21.out)).trans HBH21.out)
                have HS22 := Lib.hid (HS21.out.fit.below hb22)
                have HX20 := Lib.hid (HX20.out.below hb22)
                have HX21 := Lib.hid (HX21.out.below hb22)
                clear hb22 hva HG21 HBH21 HS21 HB21
                have hH22 : w22.cell? ⟨w4.heap.size, 0, none⟩ = some (.int .i64 g.1) ∧ w22.cell? ⟨w4.heap.size, 1, none⟩ = some (.int .i64 ((N : Int) + 1)) ∧ w22.cell? ⟨w4.heap.size, 2, none⟩ = some (.int .i64 N) ∧ w22.cell? ⟨w4.heap.size, 3, none⟩ = some (.slice A2 (nR + 1) c2) := by simp [World.cell?, HBH22.out]
                obtain ⟨q0, q1, q2, q3⟩ := hH22
                go_wp2_with fail
                clear q0 q1 q2 q3
                refine (lensGreatest w22 _ A2 (nR + 1) c2 (g.1, (N : Int) + 1, (N : Int), longR g.2.2.2 N st) HS22.out HVH.out (N + 1) N (by show N + 1 = ((N : Int) + 1).toNat; omega) rfl).mono ?_
                rintro e w23 ⟨⟨vb, rfl, hvb, hvb2⟩, hb23⟩
                have hab := long_great HRN.out hstN HVA.out hvb
                have HBE := Lib.hid (show Below W.heap.size W w23 from HBA.out.trans ((HB22.out.trans (hb23.mono (by omega))).mono (by omega)))
                have HX20 := Lib.hid (HX20.out.below hb23)
                have HX21 := Lib.hid (HX21.out.below hb23)
                have hva3 : -9223372036854775808 ≤ va := by rcases HVA.out with ⟨h, _⟩ | ⟨h, _⟩ | ⟨h, _⟩ <;> omega
                clear hb23 hvb HVA HBH22 HS22 HB22
                obtain ⟨b5, o5, rfl, hc5⟩ := lenRow_atL HX21.out (show 0 < kq + 1 + 1 by omega)
                rw [show lenD (longR g.2.2.2 N (st : Int)) ((N : Int).toNat) 0 = false from long_len0 HRN.out hstN, Nat.add_zero] at hc5
                obtain ⟨A5, hcut, hr5⟩ := tBools.cutl (c := kq + 1 + 1) HX21.out.bools 1 (by omega) (by omega) (Nat.le_refl _)
                have HR5 := Lib.hid hr5
                have HR20 := Lib.hid HX20.out.bools
                clear hr5 HX20 HX21
                have hlen2 : ((kq : Int) + 1 + 1 == (kq : Int) + 2) = true := by simp; omega
                have hse : ((List.map Value.bool (lenRow (longR g.2.2.2 N (st : Int)) (kq + 1) (N : Int).toNat)).drop ((1 : Int).toNat * 1)) = (lenRow g.2.2.2 kq g.2.2.1.toNat).map Value.bool := by
                  rw [← List.map_drop]
                  congr 1
                  show ((List.range (kq + 1 + 1)).map (lenD (longR g.2.2.2 N (st : Int)) (N : Int).toNat)).drop 1 = (List.range (kq + 1)).map (lenD g.2.2.2 g.2.2.1.toNat)
                  refine List.ext_getElem (by simp) fun j h1 h2 => ?_
                  simp only [List.getElem_drop, List.getElem_map, List.getElem_range]
                  rw [Nat.add_comm 1 j]
                  have := long_lenD HRN.out hstN j
                  rw [HST.out]
                  simpa using this
                rw [hse] at HR5
                clear hse
                by_cases hpos : 0 ≤ va
                · rw [if_pos hpos] at hab
                  subst hab
                  have hpd : decide (0 ≤ va) = true := by simpa using hpos
                  have hwv : IntKind.i64.wrap (va + 1) = va + 1 := IntWalk.i64_in _ (by omega)
                  go_wp2_with fail
                  refine (equalBool A20 A5 (kq + 1) (kq + 1) (kq + 1) (kq + 1) _ _ _ _ w23 HR20.out (show Rd w23 _ 1 A5 (kq + 1) _ from HR5.out) (by omega) (by omega)).mono ?_
                  rintro e w24 ⟨rfl, d24, rfl⟩
                  rw [HST.out, beq_self_eq_true]
                  have HBF := Lib.hid (Below.drewN' HBE.out d24)
                  clear HBE
                  go_wp2_with fail
                  go_ret
                  exact ⟨rfl, HBF.out⟩
                · rw [if_neg hpos] at hab
                  subst hab
                  have hpd : decide (0 ≤ va) = false := by simpa using hpos
                  go_wp2_with fail
                  refine (equalBool A20 A5 (kq + 1) (kq + 1) (kq + 1) (kq + 1) _ _ _ _ w23 HR20.out (show Rd w23 _ 1 A5 (kq + 1) _ from HR5.out) (by omega) (by omega)).mono ?_
                  rintro e w24 ⟨rfl, d24, rfl⟩
                  rw [HST.out, beq_self_eq_true]
                  have HBF := Lib.hid (Below.drewN' HBE.out d24)
                  clear HBE
                  go_wp2_with fail
                  go_ret
                  exact ⟨rfl, HBF.out⟩
              exact AllL.nil
            exact AllL.nil
          exact AllL.nil
        exact AllL.nil
      refine AllL.cons rfl (fun K hK => ?_) ?_
      · go_simp
        obtain ⟨w15, hw15⟩ : ∃ w15 : World, w15 = w9.alloc (.cells #[.bool true, .int .i64 0, .bool false, .int .i64 st] 38) := ⟨_, rfl⟩
        rw [← hw15]
        obtain ⟨b9, hb9⟩ : ∃ b, b = w9.heap.size := ⟨_, rfl⟩
        rw [← hb9]
        have hsy : Sl RSym w15 (fun b => b = b9) (some ⟨b9, 0, none⟩) 2 2 [(true, 0), (false, (st : Int))] := by rw [hw15, hb9]; exact ⟨[.bool true, .int .i64 0, .bool false, .int .i64 st], rfl, Nat.le_refl _, Rd.newS _ _ _ _ _ 2 2 rfl rfl rfl, ⟨[_, _], [_, _], rfl, RSym.cells.2 rfl, Cells.single (RSym.cells.2 rfl)⟩⟩
        have HC15 := Lib.hid (show Below w9.heap.size w9 w15 by rw [hw15]; exact HC0.out.alloc HC0.out.size _)
        have hl9 : b9 < w15.heap.size := by rw [hw15, hb9]; simp
        have hl9b : w9.heap.size ≤ b9 := by rw [hb9]; exact HC0.out.size
        clear hw15 hb9
        refine hK.out _ _ (HALL9.out _ HC15.out) (fun _ => trivial) ?_
        clear hK K
        refine wpAnyL_pure (i := 10) rfl (by kernel_rfl) (fun _ _ _ h => h) (Or.inl ⟨by rfl, (fun u hu => by obtain ⟨k0, k1, k2, k3⟩ := hu; go_simp; try rfl)⟩) (HALL9.out _ HC15.out) (fun _ => trivial) ?_
        simp only [Act.put, List.setIfInBounds_toArray, List.set_cons_zero, List.set_cons_succ, List.getElem_toArray, List.getElem_cons_zero, List.getElem_cons_succ]
        refine wpAnyL_ready (rs := [2, 11]) (by kernel_rfl) (by simp) ?_
        refine AllL.cons rfl (fun K hK => ?_) ?_
        · go_simp
          refine (cloneRule AR nR cR _ xs w15 (HRD.out.below HC15.out) (by omega)).mono ?_
          rintro e w16 ⟨v, rfl, ho, hb⟩
          have HC16 := Lib.hid (HC15.out.trans (hb.mono HC15.out.size))
          have hs16 := hb.size
          have hvr : ∀ b, rowOf v = some b → w15.heap.size ≤ b ∧ b < w16.heap.size := fun b hb => ho.row hb
          have ho := ho.mono (base' := w9.heap.size) HC15.out.size
          have hsy := hsy.below (hb.mono (by omega))
          have hn9 : ∀ b, rowOf v = some b → b ≠ b9 := fun b hb => by have := hvr b hb; omega
          have hl9 : b9 < w16.heap.size := by omega
          clear hb
          refine hK.out _ _ (HALL9.out _ HC16.out) (fun _ => trivial) ?_
          clear hK K
          refine wpAnyL_ready (rs := [11]) (by kernel_rfl) (by simp) ?_
          refine AllL.cons rfl (fun K hK => ?_) ?_
          · go_simp
            obtain ⟨w17, hw17⟩ : ∃ w17 : World, w17 = w16.alloc (.cells #[.int .i64 N, .slice (some ⟨b9, 0, none⟩) 2 2] 36) := ⟨_, rfl⟩
            rw [← hw17]
            obtain ⟨b11, hb11⟩ : ∃ b, b = w16.heap.size := ⟨_, rfl⟩
            rw [← hb11]
            have hru : Rd w17 (fun _ => True) 2 (some ⟨b11, 0, none⟩) 1 [.int .i64 N, .slice (some ⟨b9, 0, none⟩) 2 2] := by rw [hw17, hb11]; exact Rd.newS _ _ _ _ _ 1 2 rfl trivial rfl
            have hsy : Sl RSym w17 (fun b => b = b9) (some ⟨b9, 0, none⟩) 2 2 [(true, 0), (false, (st : Int))] := by rw [hw17]; exact hsy.alloc _
            have HC17 := Lib.hid (show Below w9.heap.size w9 w17 by rw [hw17]; exact HC16.out.alloc HC16.out.size _)
            have hl9 : b9 < w17.heap.size := by rw [hw17]; simp; omega
            have ho : Own w17 w9.heap.size 36 2 v nR xs := by rw [hw17]; exact ho.alloc _
            clear hw17 hb11
            refine hK.out _ _ (HALL9.out _ HC17.out) (fun _ => trivial) ?_
            clear hK K
            refine wpAnyL_ready (rs := [12]) (by kernel_rfl) (by simp) ?_
            refine AllL.cons rfl (fun K hK => ?_) ?_
            · obtain ⟨A2, c2, w18, hrun, hsl, hgr, hb⟩ := longPush (S := fun b => (W.heap.size ≤ b ∧ b < w1.heap.size) ∨ b = b9) (r := ((N : Int), [(true, 0), (false, (st : Int))])) ho HX1.out (by omega) HC17.out.size ((HCE.out.keep (.belowB HC17.out fun b hb => by omega)).more fun b hb => .inl hb) (Cells.single (RRule.cells.2 ⟨_, _, _, rfl, hsy.more fun b hb => .inr hb⟩)) (fun b hb => ⟨by have := HC17.out.size; omega, fun e => by have h1 := ho.row e; have h2 := hn9 b e; omega⟩) hru
              have HC18 := Lib.hid (HC17.out.trans hb)
              have HRUN := Lib.hid hrun
              have HSL := Lib.hid hsl
              clear hrun hsl hgr hb ho hsy hru hvr hn9 hl9
              refine step_append_run _ (by rfl) _ _ _ _ (by rfl) _ _ (by rfl) (by rfl) _ _ HRUN.out ?_
              simp only [Act.put, List.setIfInBounds_toArray, List.set_cons_zero, List.set_cons_succ, List.getElem_toArray, List.getElem_cons_zero, List.getElem_cons_succ]
              clear HRUN
              refine hK.out _ _ (HALL9.out _ HC18.out) (fun _ => trivial) ?_
              clear hK K
              refine wpAnyL_pure (i := 13) rfl (by kernel_rfl) (fun _ _ _ h => h) (Or.inl ⟨by rfl, (fun u hu => by obtain ⟨k0, k1, k2, k3⟩ := hu; go_simp; try rfl)⟩) (HALL9.out _ HC18.out) (fun _ => trivial) ?_
              simp only [Act.put, List.setIfInBounds_toArray, List.set_cons_zero, List.set_cons_succ, List.getElem_toArray, List.getElem_cons_zero, List.getElem_cons_succ]
              refine wpAnyL_ready (rs := [14]) (by kernel_rfl) (by simp) ?_
              refine AllL.cons rfl (fun K hK => ?_) ?_
              · have HBHc := Lib.hid ((HC18.out.block _ (by omega)).trans HBH9.out)
                have d0 : w18.cell? ⟨w4.heap.size, 3, none⟩ = some (.slice AR nR cR) := by simp [World.cell?, HBHc.out]
                have df : w18.frozen? ⟨w4.heap.size, 3, none⟩ = false := by simp [World.frozen?, HBHc.out]
                have ld := heap_lt HBHc.out
                go_simp
                clear d0 df ld
                obtain ⟨wz, hwz⟩ : ∃ wz : World, wz = w18.setCell ⟨w4.heap.size, 3, none⟩ (.slice A2 (nR + 1) c2) := ⟨_, rfl⟩
                rw [← hwz]
                have hszc := HC18.out.size
                have hgz : w18.grownBy wz (some w4.heap.size) := by rw [hwz]; exact setGL _ _ _
                have HBHZ := Lib.hid (show wz.heap[w4.heap.size]? = some (.cells #[.int .i64 g.1, .int .i64 ((N : Int) + 1), .int .i64 N, .slice A2 (nR + 1) c2] 25 (0, 0)) by rw [hwz]; have := blk_set HBHc.out 3 (.slice A2 (nR + 1) c2); simpa using this)
                have HBZ := Lib.hid ((HB9.out.trans (HC18.out.mono (by omega))).grown hgz (by omega) (fun k e => by injection e with e; omega))
                have HSZ := Lib.hid (show Sl RRule wz (fun b => b ≠ w4.heap.size) A2 (nR + 1) c2 (longR g.2.2.2 N st) from (HSL.out.more fun b hb => (by rcases hb with (hb | hb) | hb <;> omega : b ≠ w4.heap.size)).keep fun p u hp hu => by rw [World.cell?_of_block (hgz.block _ (cell_lt hu) (fun e => by injection e with e; exact hp e))]; exact hu)
                clear hwz hgz HBHc HSL
                refine hK.out _ _ (HALL.out _ HBZ.out) (fun _ => trivial) ?_
                clear hK K
                refine wpAnyL_done (by kernel_rfl) ?_ _
                have hszz := HBZ.out.size
                have hgz : Sl RRule wz (fun b => W.heap.size ≤ b ∧ b < w1.heap.size) AR nR cR g.2.2.2 := HGF.out.below (HBZ.out.mono (by simp))
                have HGZ := Lib.hid hgz
                simp only [World.size_alloc] at hszz
                obtain ⟨k0, k1, k2, k3⟩ := HALL.out _ HBZ.out
                clear hgz HALL9 HCE HRD HGF HGA
                go_wp2_with fail
                clear k0 k1 k2 k3
                have hset := lensSet wz _ AR nR cR g HGZ.out HV.out kq (by omega)
                rw [HN0.out, HST.out] at hset
                refine hset.mono ?_
                clear hset
                rintro e w20 ⟨A20, rfl, hx20, hb20⟩
                have HB20 := Lib.hid (HBZ.out.trans (hb20.mono (by omega)))
                have HX20 := Lib.hid hx20
                have hs20 := hb20.size
                have HG20 := Lib.hid (HGZ.out.fit.below hb20)
                have HBH20 := Lib.hid ((hb20.block _ (heap_lt HBHZ.out)).trans HBHZ.out)
                have HS20 := Lib.hid (HSZ.out.fit.below hb20)
                clear hb20 hx20 HGZ HBHZ HSZ HBZ
                have hH20 : w20.cell? ⟨w4.heap.size, 0, none⟩ = some (.int .i64 g.1) ∧ w20.cell? ⟨w4.heap.size, 1, none⟩ = some (.int .i64 ((N : Int) + 1)) ∧ w20.cell? ⟨w4.heap.size, 2, none⟩ = some (.int .i64 N) ∧ w20.cell? ⟨w4.heap.size, 3, none⟩ = some (.slice A2 (nR + 1) c2) := by simp [World.cell?, HBH20.out]
                obtain ⟨q0, q1, q2, q3⟩ := hH20
                go_wp2_with fail
                clear q0 q1 q2 q3
                have hset2 := lensSet w20 _ A2 (nR + 1) c2 (g.1, (N : Int) + 1, (N : Int), longR g.2.2.2 N st) HS20.out HVH.out (kq + 1) (by omega)
                have ekq : ((kq + 1 : Nat) : Int) = (kq : Int) + 1 := by omega
                rw [ekq] at hset2
                clear ekq
                refine hset2.mono ?_
                clear hset2
                rintro e w21 ⟨A21, rfl, hx21, hb21⟩
                have HB21 := Lib.hid (HB20.out.trans (hb21.mono (by omega)))
                have HX21 := Lib.hid hx21
                have hs21 := hb21.size
                have HG21 := Lib.hid (HG20.out.fit.below hb21)
                have HBH21 := Lib.hid ((hb21.block _ (heap_lt HBH20.out)).trans HBH20.out)
                have HS21 := Lib.hid (HS20.out.fit.below hb21)
                have HX20 := Lib.hid (HX20.out.below hb21)
                obtain ⟨k0, k1, k2, k3⟩ := HALL.out _ HB21.out
                clear hb21 hx21 HG20 HBH20 HS20 HB20
                go_wp2_with fail
                clear k0 k1 k2 k3
                have hgr := lensGreatest w21 _ AR nR cR g HG21.out HV.out N st HN.out HST.out
                rw [HN0.out, HST.out] at hgr
                refine hgr.mono ?_
                clear hgr
                rintro e w22 ⟨⟨va, rfl, hva, hva2⟩, hb22⟩
                have HVA := Lib.hid hva
                have HB22 := Lib.hid (HB21.out.trans (hb22.mono (by omega)))
                have hs22 := hb22.size
                have HBH22 := Lib.hid ((hb22.block _ (heap_lt HBH21.out)).trans HBH21.out)
                have HS22 := Lib.hid (HS21.out.fit.below hb22)
                have HX20 := Lib.hid (HX20.out.below hb22)
                have HX21 := Lib.hid (HX21.out.below hb22)
                clear hb22 hva HG21 HBH21 HS21 HB21
                have hH22 : w22.cell? ⟨w4.heap.size, 0, none⟩ = some (.int .i64 g.1) ∧ w22.cell? ⟨w4.heap.size, 1, none⟩ = some (.int .i64 ((N : Int) + 1)) ∧ w22.cell? ⟨w4.heap.size, 2, none⟩ = some (.int .i64 N) ∧ w22.cell? ⟨w4.heap.size, 3, none⟩ = some (.slice A2 (nR + 1) c2) := by simp [World.cell?, HBH22.out]
                obtain ⟨q0, q1, q2, q3⟩ := hH22
                go_wp2_with fail
                clear q0 q1 q2 q3
                refine (lensGreatest w22 _ A2 (nR + 1) c2 (g.1, (N : Int) + 1, (N : Int), longR g.2.2.2 N st) HS22.out HVH.out (N + 1) N (by show N + 1 = ((N : Int) + 1).toNat; omega) rfl).mono ?_
                rintro e w23 ⟨⟨vb, rfl, hvb, hvb2⟩, hb23⟩
                have hab := long_great HRN.out hstN HVA.out hvb
                have HBE := Lib.hid (show Below W.heap.size W w23 from HBA.out.trans ((HB22.out.trans (hb23.mono (by omega))).mono (by omega)))
                have HX20 := Lib.hid (HX20.out.below hb23)
                have HX21 := Lib.hid (HX21.out.below hb23)
                have hva3 : -9223372036854775808 ≤ va := by rcases HVA.out with ⟨h, _⟩ | ⟨h, _⟩ | ⟨h, _⟩ <;> omega
                clear hb23 hvb HVA HBH22 HS22 HB22
                obtain ⟨b5, o5, rfl, hc5⟩ := lenRow_atL HX21.out (show 0 < kq + 1 + 1 by omega)
                rw [show lenD (longR g.2.2.2 N (st : Int)) ((N : Int).toNat) 0 = false from long_len0 HRN.out hstN, Nat.add_zero] at hc5
                obtain ⟨A5, hcut, hr5⟩ := tBools.cutl (c := kq + 1 + 1) HX21.out.bools 1 (by omega) (by omega) (Nat.le_refl _)
                have HR5 := Lib.hid hr5
                have HR20 := Lib.hid HX20.out.bools
                clear hr5 HX20 HX21
                have hlen2 : ((kq : Int) + 1 + 1 == (kq : Int) + 2) = true := by simp; omega
                have hse : ((List.map Value.bool (lenRow (longR g.2.2.2 N (st : Int)) (kq + 1) (N : Int).toNat)).drop ((1 : Int).toNat * 1)) = (lenRow g.2.2.2 kq g.2.2.1.toNat).map Value.bool := by
                  rw [← List.map_drop]
                  congr 1
                  show ((List.range (kq + 1 + 1)).map (lenD (longR g.2.2.2 N (st : Int)) (N : Int).toNat)).drop 1 = (List.range (kq + 1)).map (lenD g.2.2.2 g.2.2.1.toNat)
                  refine List.ext_getElem (by simp) fun j h1 h2 => ?_
                  simp only [List.getElem_drop, List.getElem_map, List.getElem_range]
                  rw [Nat.add_comm 1 j]
                  have := long_lenD HRN.out hstN j
                  rw [HST.out]
                  simpa using this
                rw [hse] at HR5
                clear hse
                by_cases hpos : 0 ≤ va
                · rw [if_pos hpos] at hab
                  subst hab
                  have hpd : decide (0 ≤ va) = true := by simpa using hpos
                  have hwv : IntKind.i64.wrap (va + 1) = va + 1 := IntWalk.i64_in _ (by omega)
                  go_wp2_with fail
                  refine (equalBool A20 A5 (kq + 1) (kq + 1) (kq + 1) (kq + 1) _ _ _ _ w23 HR20.out (show Rd w23 _ 1 A5 (kq + 1) _ from HR5.out) (by omega) (by omega)).mono ?_
                  rintro e w24 ⟨rfl, d24, rfl⟩
                  rw [HST.out, beq_self_eq_true]
                  have HBF := Lib.hid (Below.drewN' HBE.out d24)
                  clear HBE
                  go_wp2_with fail
                  go_ret
                  exact ⟨rfl, HBF.out⟩
                · rw [if_neg hpos] at hab
                  subst hab
                  have hpd : decide (0 ≤ va) = false := by simpa using hpos
                  go_wp2_with fail
                  refine (equalBool A20 A5 (kq + 1) (kq + 1) (kq + 1) (kq + 1) _ _ _ _ w23 HR20.out (show Rd w23 _ 1 A5 (kq + 1) _ from HR5.out) (by omega) (by omega)).mono ?_
                  rintro e w24 ⟨rfl, d24, rfl⟩
                  rw [HST.out, beq_self_eq_true]
                  have HBF := Lib.hid (Below.drewN' HBE.out d24)
                  clear HBE
                  go_wp2_with fail
                  go_ret
                  exact ⟨rfl, HBF.out⟩
              exact AllL.nil
            exact AllL.nil
          exact AllL.nil
        refine AllL.cons rfl (fun K hK => ?_) ?_
        · go_simp
          obtain ⟨w20, hw20⟩ : ∃ w20 : World, w20 = w15.alloc (.cells #[.int .i64 N, .slice (some ⟨b9, 0, none⟩) 2 2] 36) := ⟨_, rfl⟩
          rw [← hw20]
          obtain ⟨b11, hb11⟩ : ∃ b, b = w15.heap.size := ⟨_, rfl⟩
          rw [← hb11]
          have hru : Rd w20 (fun _ => True) 2 (some ⟨b11, 0, none⟩) 1 [.int .i64 N, .slice (some ⟨b9, 0, none⟩) 2 2] := by rw [hw20, hb11]; exact Rd.newS _ _ _ _ _ 1 2 rfl trivial rfl
          have hsy : Sl RSym w20 (fun b => b = b9) (some ⟨b9, 0, none⟩) 2 2 [(true, 0), (false, (st : Int))] := by rw [hw20]; exact hsy.alloc _
          have HC20 := Lib.hid (show Below w9.heap.size w9 w20 by rw [hw20]; exact HC15.out.alloc HC15.out.size _)
          have hl9 : b9 < w20.heap.size := by rw [hw20]; simp; omega
          clear hw20 hb11
          refine hK.out _ _ (HALL9.out _ HC20.out) (fun _ => trivial) ?_
          clear hK K
          refine wpAnyL_ready (rs := [2]) (by kernel_rfl) (by simp) ?_
          refine AllL.cons rfl (fun K hK => ?_) ?_
          · go_simp
            refine (cloneRule AR nR cR _ xs w20 (HRD.out.below HC20.out) (by omega)).mono ?_
            rintro e w21 ⟨v, rfl, ho, hb⟩
            have HC21 := Lib.hid (HC20.out.trans (hb.mono HC20.out.size))
            have hs21 := hb.size
            have hvr : ∀ b, rowOf v = some b → w20.heap.size ≤ b ∧ b < w21.heap.size := fun b hb => ho.row hb
            have ho := ho.mono (base' := w9.heap.size) HC20.out.size
            have hsy := hsy.below (hb.mono (by omega))
            have hn9 : ∀ b, rowOf v = some b → b ≠ b9 := fun b hb => by have := hvr b hb; omega
            have hl9 : b9 < w21.heap.size := by omega
            have hru := hru.below (hb.mono (by omega))
            clear hb
            refine hK.out _ _ (HALL9.out _ HC21.out) (fun _ => trivial) ?_
            clear hK K
            refine wpAnyL_ready (rs := [12]) (by kernel_rfl) (by simp) ?_
            refine AllL.cons rfl (fun K hK => ?_) ?_
            · obtain ⟨A2, c2, w22, hrun, hsl, hgr, hb⟩ := longPush (S := fun b => (W.heap.size ≤ b ∧ b < w1.heap.size) ∨ b = b9) (r := ((N : Int), [(true, 0), (false, (st : Int))])) ho HX1.out (by omega) HC21.out.size ((HCE.out.keep (.belowB HC21.out fun b hb => by omega)).more fun b hb => .inl hb) (Cells.single (RRule.cells.2 ⟨_, _, _, rfl, hsy.more fun b hb => .inr hb⟩)) (fun b hb => ⟨by have := HC21.out.size; omega, fun e => by have h1 := ho.row e; have h2 := hn9 b e; omega⟩) hru
              have HC22 := Lib.hid (HC21.out.trans hb)
              have HRUN := Lib.hid hrun
              have HSL := Lib.hid hsl
              clear hrun hsl hgr hb ho hsy hru hvr hn9 hl9
              refine step_append_run _ (by rfl) _ _ _ _ (by rfl) _ _ (by rfl) (by rfl) _ _ HRUN.out ?_
              simp only [Act.put, List.setIfInBounds_toArray, List.set_cons_zero, List.set_cons_succ, List.getElem_toArray, List.getElem_cons_zero, List.getElem_cons_succ]
              clear HRUN
              refine hK.out _ _ (HALL9.out _ HC22.out) (fun _ => trivial) ?_
              clear hK K
              refine wpAnyL_pure (i := 13) rfl (by kernel_rfl) (fun _ _ _ h => h) (Or.inl ⟨by rfl, (fun u hu => by obtain ⟨k0, k1, k2, k3⟩ := hu; go_simp; try rfl)⟩) (HALL9.out _ HC22.out) (fun _ => trivial) ?_
              simp only [Act.put, List.setIfInBounds_toArray, List.set_cons_zero, List.set_cons_succ, List.getElem_toArray, List.getElem_cons_zero, List.getElem_cons_succ]
              refine wpAnyL_ready (rs := [14]) (by kernel_rfl) (by simp) ?_
              refine AllL.cons rfl (fun K hK => ?_) ?_
              · have HBHc := Lib.hid ((HC22.out.block _ (by omega)).trans HBH9.out)
                have d0 : w22.cell? ⟨w4.heap.size, 3, none⟩ = some (.slice AR nR cR) := by simp [World.cell?, HBHc.out]
                have df : w22.frozen? ⟨w4.heap.size, 3, none⟩ = false := by simp [World.frozen?, HBHc.out]
                have ld := heap_lt HBHc.out
                go_simp
                clear d0 df ld
                obtain ⟨wz, hwz⟩ : ∃ wz : World, wz = w22.setCell ⟨w4.heap.size, 3, none⟩ (.slice A2 (nR + 1) c2) := ⟨_, rfl⟩
                rw [← hwz]
                have hszc := HC22.out.size
                have hgz : w22.grownBy wz (some w4.heap.size) := by rw [hwz]; exact setGL _ _ _
                have HBHZ := Lib.hid (show wz.heap[w4.heap.size]? = some (.cells #[.int .i64 g.1, .int .i64 ((N : Int) + 1), .int .i64 N, .slice A2 (nR + 1) c2] 25 (0, 0)) by rw [hwz]; have := blk_set HBHc.out 3 (.slice A2 (nR + 1) c2); simpa using this)
                have HBZ := Lib.hid ((HB9.out.trans (HC22.out.mono (by omega))).grown hgz (by omega) (fun k e => by injection e with e; omega))
                have HSZ := Lib.hid (show Sl RRule wz (fun b => b ≠ w4.heap.size) A2 (nR + 1) c2 (longR g.2.2.2 N st) from (HSL.out.more fun b hb => (by rcases hb with (hb | hb) | hb <;> omega : b ≠ w4.heap.size)).keep fun p u hp hu => by rw [World.cell?_of_block (hgz.block _ (cell_lt hu) (fun e => by injection e with e; exact hp e))]; exact hu)
                clear hwz hgz HBHc HSL
                refine hK.out _ _ (HALL.out _ HBZ.out) (fun _ => trivial) ?_
                clear hK K
                refine wpAnyL_done (by kernel_rfl) ?_ _
                have hszz := HBZ.out.size
                have hgz : Sl RRule wz (fun b => W.heap.size ≤ b ∧ b < w1.heap.size) AR nR cR g.2.2.2 := HGF.out.below (HBZ.out.mono (by simp))
                have HGZ := Lib.hid hgz
                simp only [World.size_alloc] at hszz
                obtain ⟨k0, k1, k2, k3⟩ := HALL.out _ HBZ.out
                clear hgz HALL9 HCE HRD HGF HGA
                go_wp2_with fail
                clear k0 k1 k2 k3
                have hset := lensSet wz _ AR nR cR g HGZ.out HV.out kq (by omega)
                rw [HN0.out, HST.out] at hset
                refine hset.mono ?_
                clear hset
                rintro e w20 ⟨A20, rfl, hx20, hb20⟩
                have HB20 := Lib.hid (HBZ.out.trans (hb20.mono (by omega)))
                have HX20 := Lib.hid hx20
                have hs20 := hb20.size
                have HG20 := Lib.hid (HGZ.out.fit.below hb20)
                have HBH20 := Lib.hid ((hb20.block _ (heap_lt HBHZ.out)).trans HBHZ.out)
                have HS20 := Lib.hid (HSZ.out.fit.below hb20)
                clear hb20 hx20 HGZ HBHZ HSZ HBZ
                have hH20 : w20.cell? ⟨w4.heap.size, 0, none⟩ = some (.int .i64 g.1) ∧ w20.cell? ⟨w4.heap.size, 1, none⟩ = some (.int .i64 ((N : Int) + 1)) ∧ w20.cell? ⟨w4.heap.size, 2, none⟩ = some (.int .i64 N) ∧ w20.cell? ⟨w4.heap.size, 3, none⟩ = some (.slice A2 (nR + 1) c2) := by simp [World.cell?, HBH20.out]
                obtain ⟨q0, q1, q2, q3⟩ := hH20
                go_wp2_with fail
                clear q0 q1 q2 q3
                have hset2 := lensSet w20 _ A2 (nR + 1) c2 (g.1, (N : Int) + 1, (N : Int), longR g.2.2.2 N st) HS20.out HVH.out (kq + 1) (by omega)
                have ekq : ((kq + 1 : Nat) : Int) = (kq : Int) + 1 := by omega
                rw [ekq] at hset2
                clear ekq
                refine hset2.mono ?_
                clear hset2
                rintro e w21 ⟨A21, rfl, hx21, hb21⟩
                have HB21 := Lib.hid (HB20.out.trans (hb21.mono (by omega)))
                have HX21 := Lib.hid hx21
                have hs21 := hb21.size
                have HG21 := Lib.hid (HG20.out.fit.below hb21)
                have HBH21 := Lib.hid ((hb21.block _ (heap_lt HBH20.out)).trans HBH20.out)
                have HS21 := Lib.hid (HS20.out.fit.below hb21)
                have HX20 := Lib.hid (HX20.out.below hb21)
                obtain ⟨k0, k1, k2, k3⟩ := HALL.out _ HB21.out
                clear hb21 hx21 HG20 HBH20 HS20 HB20
                go_wp2_with fail
                clear k0 k1 k2 k3
                have hgr := lensGreatest w21 _ AR nR cR g HG21.out HV.out N st HN.out HST.out
                rw [HN0.out, HST.out] at hgr
                refine hgr.mono ?_
                clear hgr
                rintro e w22 ⟨⟨va, rfl, hva, hva2⟩, hb22⟩
                have HVA := Lib.hid hva
                have HB22 := Lib.hid (HB21.out.trans (hb22.mono (by omega)))
                have hs22 := hb22.size
                have HBH22 := Lib.hid ((hb22.block _ (heap_lt HBH21.out)).trans HBH21.out)
                have HS22 := Lib.hid (HS21.out.fit.below hb22)
                have HX20 := Lib.hid (HX20.out.below hb22)
                have HX21 := Lib.hid (HX21.out.below hb22)
                clear hb22 hva HG21 HBH21 HS21 HB21
                have hH22 : w22.cell? ⟨w4.heap.size, 0, none⟩ = some (.int .i64 g.1) ∧ w22.cell? ⟨w4.heap.size, 1, none⟩ = some (.int .i64 ((N : Int) + 1)) ∧ w22.cell? ⟨w4.heap.size, 2, none⟩ = some (.int .i64 N) ∧ w22.cell? ⟨w4.heap.size, 3, none⟩ = some (.slice A2 (nR + 1) c2) := by simp [World.cell?, HBH22.out]
                obtain ⟨q0, q1, q2, q3⟩ := hH22
                go_wp2_with fail
                clear q0 q1 q2 q3
                refine (lensGreatest w22 _ A2 (nR + 1) c2 (g.1, (N : Int) + 1, (N : Int), longR g.2.2.2 N st) HS22.out HVH.out (N + 1) N (by show N + 1 = ((N : Int) + 1).toNat; omega) rfl).mono ?_
                rintro e w23 ⟨⟨vb, rfl, hvb, hvb2⟩, hb23⟩
                have hab := long_great HRN.out hstN HVA.out hvb
                have HBE := Lib.hid (show Below W.heap.size W w23 from HBA.out.trans ((HB22.out.trans (hb23.mono (by omega))).mono (by omega)))
                have HX20 := Lib.hid (HX20.out.below hb23)
                have HX21 := Lib.hid (HX21.out.below hb23)
                have hva3 : -9223372036854775808 ≤ va := by rcases HVA.out with ⟨h, _⟩ | ⟨h, _⟩ | ⟨h, _⟩ <;> omega
                clear hb23 hvb HVA HBH22 HS22 HB22
                obtain ⟨b5, o5, rfl, hc5⟩ := lenRow_atL HX21.out (show 0 < kq + 1 + 1 by omega)
                rw [show lenD (longR g.2.2.2 N (st : Int)) ((N : Int).toNat) 0 = false from long_len0 HRN.out hstN, Nat.add_zero] at hc5
                obtain ⟨A5, hcut, hr5⟩ := tBools.cutl (c := kq + 1 + 1) HX21.out.bools 1 (by omega) (by omega) (Nat.le_refl _)
                have HR5 := Lib.hid hr5
                have HR20 := Lib.hid HX20.out.bools
                clear hr5 HX20 HX21
                have hlen2 : ((kq : Int) + 1 + 1 == (kq : Int) + 2) = true := by simp; omega
                have hse : ((List.map Value.bool (lenRow (longR g.2.2.2 N (st : Int)) (kq + 1) (N : Int).toNat)).drop ((1 : Int).toNat * 1)) = (lenRow g.2.2.2 kq g.2.2.1.toNat).map Value.bool := by
                  rw [← List.map_drop]
                  congr 1
                  show ((List.range (kq + 1 + 1)).map (lenD (longR g.2.2.2 N (st : Int)) (N : Int).toNat)).drop 1 = (List.range (kq + 1)).map (lenD g.2.2.2 g.2.2.1.toNat)
                  refine List.ext_getElem (by simp) fun j h1 h2 => ?_
                  simp only [List.getElem_drop, List.getElem_map, List.getElem_range]
                  rw [Nat.add_comm 1 j]
                  have := long_lenD HRN.out hstN j
                  rw [HST.out]
                  simpa using this
                rw [hse] at HR5
                clear hse
                by_cases hpos : 0 ≤ va
                · rw [if_pos hpos] at hab
                  subst hab
                  have hpd : decide (0 ≤ va) = true := by simpa using hpos
                  have hwv : IntKind.i64.wrap (va + 1) = va + 1 := IntWalk.i64_in _ (by omega)
                  go_wp2_with fail
                  refine (equalBool A20 A5 (kq + 1) (kq + 1) (kq + 1) (kq + 1) _ _ _ _ w23 HR20.out (show Rd w23 _ 1 A5 (kq + 1) _ from HR5.out) (by omega) (by omega)).mono ?_
                  rintro e w24 ⟨rfl, d24, rfl⟩
                  rw [HST.out, beq_self_eq_true]
                  have HBF := Lib.hid (Below.drewN' HBE.out d24)
                  clear HBE
                  go_wp2_with fail
                  go_ret
                  exact ⟨rfl, HBF.out⟩
                · rw [if_neg hpos] at hab
                  subst hab
                  have hpd : decide (0 ≤ va) = false := by simpa using hpos
                  go_wp2_with fail
                  refine (equalBool A20 A5 (kq + 1) (kq + 1) (kq + 1) (kq + 1) _ _ _ _ w23 HR20.out (show Rd w23 _ 1 A5 (kq + 1) _ from HR5.out) (by omega) (by omega)).mono ?_
                  rintro e w24 ⟨rfl, d24, rfl⟩
                  rw [HST.out, beq_self_eq_true]
                  have HBF := Lib.hid (Below.drewN' HBE.out d24)
                  clear HBE
                  go_wp2_with fail
                  go_ret
                  exact ⟨rfl, HBF.out⟩
              exact AllL.nil
            exact AllL.nil
          exact AllL.nil
        exact AllL.nil
      exact AllL.nil
    exact AllL.nil
  exact AllL.nil
end Go.Proofs.Ytfkapijfjihiiaa
