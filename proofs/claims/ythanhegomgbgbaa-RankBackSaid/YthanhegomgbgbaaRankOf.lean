/- rank.Of: a tree of the start symbol has its length and its number. -/
import Derived.Test.YthanhegomgbgbaaRankO
namespace Go.Proofs.Ythanhegomgbgbaa
open Go.RowKit

theorem neSym (a c : Bool) (b d : Int) (w : World) : (binOp .neq 55 (.agg #[.bool a, .int .i64 b]) (.agg #[.bool c, .int .i64 d])).run Try.prog w = .ok (.bool (!(a == c && b == d))) w := by
  have h := eqSym a c b d w
  rw [run_eql_struct] at h
  rw [run_neq_struct]
  cases hr : (Op.equalIn 10000 55 (.agg #[.bool a, .int .i64 b]) (.agg #[.bool c, .int .i64 d])).run Try.prog w with
  | ok b w' =>
    rw [hr] at h
    simp only [Result.andThen, Result.ok.injEq, Value.bool.injEq] at h ⊢
    obtain ⟨rfl, rfl⟩ := h
    exact ⟨rfl, rfl⟩
  | halt h' w' =>
    rw [hr] at h
    cases h
set_option linter.unusedSimpArgs false in
set_option maxRecDepth 100000 in
set_option maxHeartbeats 8000000 in
theorem rankOf (w : World) (S S' : Nat → Prop) (AR : Option Addr) (nR cR : Nat) (g : GramD) (hg : Sl RRule w S AR nR cR g.2.2.2) (hv : GValid g) (n : Nat) (hn : n ≤ 24) (st : Nat) (hst : g.2.2.1 = (st : Int)) (KN : Int) (hK : KN = treesN g.2.2.2 st n) (hK0 : 0 < KN) (hK1 : KN < 1000000000)
    (t : TreeD) (i : Nat) (hu : Unr g.2.2.2 (false, (st : Int)) n i t) (A : Option Addr) (m c : Nat) (hs : Sl RTree w S' A m c t.kids) (hsz : sizeT t ≤ 5000) :
    Calls Try.prog 37 #[.agg #[.int .i64 g.1, .int .i64 g.2.1, .int .i64 g.2.2.1, .slice AR nR cR], .agg #[.int .i64 t.rule, .int .i64 t.term, .slice A m c]] w fun e w' => e = .returned (.tuple #[.int .i64 (n : Int), .int .i64 (i : Int), .int .i64 0]) ∧ Below w.heap.size w w' := by
  have hstN : st < nonsOf g := by have := hv.st; unfold nonsOf; omega
  obtain ⟨hrt, _, _⟩ := rated_of hv hstN hK hK1 hK0
  obtain ⟨w1, hw1⟩ : ∃ w1 : World, w1 = (w.alloc (.cells #[.int .i64 g.1, .int .i64 g.2.1, .int .i64 g.2.2.1, .slice AR nR cR] 25)).alloc (.cells #[.int .i64 t.rule, .int .i64 t.term, .slice A m c] 34) := ⟨_, rfl⟩
  have hz1 : w1.heap.size = w.heap.size + 2 := by rw [hw1]; simp
  have hb1 : Below w.heap.size w w1 := by rw [hw1]; exact ((Below.refl _ _).alloc (Nat.le_refl _) _).alloc (by simp) _
  have HB1 := Lib.hid hb1
  have b1 : w1.heap[w.heap.size]? = some (.cells #[.int .i64 g.1, .int .i64 g.2.1, .int .i64 g.2.2.1, .slice AR nR cR] 25 (0, 0)) := by rw [hw1]; exact (Below.heap_alloc _ _ _ (by simp)).trans (heap_alloc_new w _)
  have b2 : w1.heap[w.heap.size + 1]? = some (.cells #[.int .i64 t.rule, .int .i64 t.term, .slice A m c] 34 (0, 0)) := by rw [hw1]; exact heap_new _ _ _ (by simp)
  have hall : ∀ u : World, Below w1.heap.size w1 u → (u.cell? ⟨w.heap.size, 0, none⟩ = some (.int .i64 g.1) ∧ u.cell? ⟨w.heap.size, 1, none⟩ = some (.int .i64 g.2.1) ∧ u.cell? ⟨w.heap.size, 2, none⟩ = some (.int .i64 g.2.2.1) ∧ u.cell? ⟨w.heap.size, 3, none⟩ = some (.slice AR nR cR)) ∧
      (u.cell? ⟨w.heap.size + 1, 0, none⟩ = some (.int .i64 t.rule) ∧ u.cell? ⟨w.heap.size + 1, 1, none⟩ = some (.int .i64 t.term) ∧ u.cell? ⟨w.heap.size + 1, 2, none⟩ = some (.slice A m c)) := by
    intro u hu
    have e1 := (hu.block _ (by omega)).trans b1
    have e2 := (hu.block _ (by omega)).trans b2
    simp [World.cell?, e1, e2]
  have HALL := Lib.hid hall
  have HG := Lib.hid (hg.fit.below hb1)
  have HS := Lib.hid (hs.fit.below hb1)
  have HV := Lib.hid hv
  have HU := Lib.hid hu
  have HTV := Lib.hid hu.tv
  have HL := Lib.hid hu.tv.leaves
  have HST := Lib.hid hst
  have HKE := Lib.hid hK
  have HRT := Lib.hid hrt
  have hsz6 : sizeT t ≤ 1000000 := by omega
  have HSO := Lib.hid (show SymOk g.1 g.2.1 (false, (st : Int)) by
    have := hv.st
    unfold SymOk
    simp only [Bool.false_eq_true, if_false]
    omega)
  clear hg hv hs hu hst hK hrt hb1 b1 b2 hall
  go_enter Try.func37, Try.ntmps37
  go_wp2_with fail
  rw [← hw1]
  clear hw1
  refine (treeCheck w1 _ _ AR nR cR g HG.out HV.out t (false, (st : Int)) A m c HS.out HTV.out HSO.out hsz).mono ?_
  rintro e w2 ⟨rfl, hb2⟩
  have HB2 := Lib.hid hb2
  have HK2 := Lib.hid (HALL.out w2.drew hb2.drew)
  clear hb2
  --@1
  go_wp2_with fail
  refine wp_region_late (late := []) (S1 := fun u => (u.cell? ⟨w.heap.size, 0, none⟩ = some (.int .i64 g.1) ∧ u.cell? ⟨w.heap.size, 1, none⟩ = some (.int .i64 g.2.1) ∧ u.cell? ⟨w.heap.size, 2, none⟩ = some (.int .i64 g.2.2.1) ∧ u.cell? ⟨w.heap.size, 3, none⟩ = some (.slice AR nR cR)) ∧ (u.cell? ⟨w.heap.size + 1, 0, none⟩ = some (.int .i64 t.rule) ∧ u.cell? ⟨w.heap.size + 1, 1, none⟩ = some (.int .i64 t.term) ∧ u.cell? ⟨w.heap.size + 1, 2, none⟩ = some (.slice A m c))) (S := fun _ => True) (by kernel_rfl) ?_
  refine wpAnyL_pure (i := 0) rfl (by kernel_rfl) (fun _ _ _ h => h) (Or.inl ⟨by rfl, (fun u hu => by obtain ⟨⟨k0, k1, k2, k3⟩, k4, k5, k6⟩ := hu; go_simp; try rfl)⟩) HK2.out (fun _ => trivial) ?_
  simp only [Act.put, List.setIfInBounds_toArray, List.set_cons_zero, List.set_cons_succ, List.getElem_toArray, List.getElem_cons_zero, List.getElem_cons_succ]
  refine wpAnyL_pure (i := 1) rfl (by kernel_rfl) (fun _ _ _ h => h) (Or.inl ⟨by rfl, (fun u hu => by obtain ⟨⟨k0, k1, k2, k3⟩, k4, k5, k6⟩ := hu; go_simp; try rfl)⟩) HK2.out (fun _ => trivial) ?_
  simp only [Act.put, List.setIfInBounds_toArray, List.set_cons_zero, List.set_cons_succ, List.getElem_toArray, List.getElem_cons_zero, List.getElem_cons_succ]
  refine wpAnyL_pure (i := 3) rfl (by kernel_rfl) (fun _ _ _ h => h) (Or.inl ⟨by rfl, (fun u hu => by obtain ⟨⟨k0, k1, k2, k3⟩, k4, k5, k6⟩ := hu; go_simp; try rfl)⟩) HK2.out (fun _ => trivial) ?_
  simp only [Act.put, List.setIfInBounds_toArray, List.set_cons_zero, List.set_cons_succ, List.getElem_toArray, List.getElem_cons_zero, List.getElem_cons_succ]
  refine wpAnyL_pure (i := 4) rfl (by kernel_rfl) (fun _ _ _ h => h) (Or.inl ⟨by rfl, (fun u hu => by obtain ⟨⟨k0, k1, k2, k3⟩, k4, k5, k6⟩ := hu; go_simp; try rfl)⟩) HK2.out (fun _ => trivial) ?_
  simp only [Act.put, List.setIfInBounds_toArray, List.set_cons_zero, List.set_cons_succ, List.getElem_toArray, List.getElem_cons_zero, List.getElem_cons_succ]
  refine wpAnyL_ready (rs := [2]) (by kernel_rfl) (by simp) ?_
  refine AllL.cons rfl (fun K hK => ?_) ?_
  · go_simp
    refine (gramRoot _ _ AR nR cR g (HG.out.below HB2.out).drew (false, (st : Int)) t HTV.out A m c).mono ?_
    rintro e w3 ⟨rfl, hb3⟩
    have HB3 := Lib.hid (HB2.out.drew.trans (hb3.mono HB2.out.size))
    clear hb3
    refine hK.out _ _ (HALL.out _ HB3.out) (fun _ => trivial) ?_
    clear hK K
    refine wpAnyL_ready (rs := [5]) (by kernel_rfl) (by simp) ?_
    refine AllL.cons rfl (fun K hK => ?_) ?_
    · go_simp
      refine (gramN _ _).mono ?_
      rintro e w4 ⟨rfl, hb4⟩
      have HB4 := Lib.hid (HB3.out.trans (hb4.mono HB3.out.size))
      have HNE := Lib.hid (show ∀ u : World, (binOp .neq 55 (.agg #[.bool false, .int .i64 (st : Int)]) (.agg #[.bool false, .int .i64 g.2.2.1])).run Try.prog u = .ok (.bool false) u from fun u => by rw [neSym, HST.out]; simp)
      clear hb4
      refine hK.out _ _ (HALL.out _ HB4.out) (fun _ => trivial) ?_
      clear hK K
      refine wpAnyL_pure (i := 6) (v := .bool false) rfl (by kernel_rfl) (fun _ _ _ h => h) (Or.inl ⟨by rfl, (fun u hu => by have hx := HNE.out u; have hst := HST.out; go_simp; try (first | rfl | exact hst.symm | simp [hst]))⟩) (HALL.out _ HB4.out) (fun _ => trivial) ?_
      simp only [Act.put, List.setIfInBounds_toArray, List.set_cons_zero, List.set_cons_succ, List.getElem_toArray, List.getElem_cons_zero, List.getElem_cons_succ]
      refine wpAnyL_done (by kernel_rfl) ?_ _
      have HK4 := Lib.hid (HALL.out w4.drew HB4.out.drew)
      --@2
      go_wp2_with fail
      refine wp_region_late (late := []) (S1 := fun u => (u.cell? ⟨w.heap.size, 0, none⟩ = some (.int .i64 g.1) ∧ u.cell? ⟨w.heap.size, 1, none⟩ = some (.int .i64 g.2.1) ∧ u.cell? ⟨w.heap.size, 2, none⟩ = some (.int .i64 g.2.2.1) ∧ u.cell? ⟨w.heap.size, 3, none⟩ = some (.slice AR nR cR)) ∧ (u.cell? ⟨w.heap.size + 1, 0, none⟩ = some (.int .i64 t.rule) ∧ u.cell? ⟨w.heap.size + 1, 1, none⟩ = some (.int .i64 t.term) ∧ u.cell? ⟨w.heap.size + 1, 2, none⟩ = some (.slice A m c))) (S := fun _ => True) (by kernel_rfl) ?_
      refine wpAnyL_pure (i := 0) rfl (by kernel_rfl) (fun _ _ _ h => h) (Or.inl ⟨by rfl, (fun u hu => by obtain ⟨⟨k0, k1, k2, k3⟩, k4, k5, k6⟩ := hu; go_simp; try rfl)⟩) HK4.out (fun _ => trivial) ?_
      simp only [Act.put, List.setIfInBounds_toArray, List.set_cons_zero, List.set_cons_succ, List.getElem_toArray, List.getElem_cons_zero, List.getElem_cons_succ]
      refine wpAnyL_pure (i := 1) rfl (by kernel_rfl) (fun _ _ _ h => h) (Or.inl ⟨by rfl, (fun u hu => by obtain ⟨⟨k0, k1, k2, k3⟩, k4, k5, k6⟩ := hu; go_simp; try rfl)⟩) HK4.out (fun _ => trivial) ?_
      simp only [Act.put, List.setIfInBounds_toArray, List.set_cons_zero, List.set_cons_succ, List.getElem_toArray, List.getElem_cons_zero, List.getElem_cons_succ]
      refine wpAnyL_ready (rs := [2]) (by kernel_rfl) (by simp) ?_
      refine AllL.cons rfl (fun K hK => ?_) ?_
      · go_simp
        refine (treeWord _ _ t A m c (HS.out.below HB4.out).drew HL.out hsz6).mono ?_
        rintro e w5 ⟨A5, c5, rfl, _, _, hb5⟩
        have HB5 := Lib.hid (HB4.out.drew.trans (hb5.mono HB4.out.size))
        rw [HU.out.word]
        clear hb5
        refine hK.out _ _ (HALL.out _ HB5.out) (fun _ => trivial) ?_
        clear hK K
        refine wpAnyL_pure (i := 3) rfl (by kernel_rfl) (fun _ _ _ h => h) (Or.inl ⟨by rfl, (fun u hu => by obtain ⟨⟨k0, k1, k2, k3⟩, k4, k5, k6⟩ := hu; go_simp; try rfl)⟩) (HALL.out _ HB5.out) (fun _ => trivial) ?_
        simp only [Act.put, List.setIfInBounds_toArray, List.set_cons_zero, List.set_cons_succ, List.getElem_toArray, List.getElem_cons_zero, List.getElem_cons_succ]
        refine wpAnyL_ready (rs := [4]) (by kernel_rfl) (by simp) ?_
        refine AllL.cons rfl (fun K hK => ?_) ?_
        · go_simp
          refine (rankCnt _ _ AR nR cR g (HG.out.below HB5.out) HV.out n hn st HST.out).mono ?_
          rintro e w6 ⟨hcase, hb6⟩
          rw [← HKE.out] at hcase
          obtain ⟨L, rfl, hcok, hlo⟩ : ∃ L : Lay, e = .returned (.tuple #[.pointer (some ⟨L.Bc, 0, none⟩), .int .i64 KN, .int .i64 0]) ∧ Cok w6 L g n ∧ w5.heap.size ≤ L.lo := by
            rcases hcase with ⟨h, _⟩ | ⟨h, _⟩ | ⟨L, _, h1, h2, h3⟩
            · exfalso; omega
            · exfalso; omega
            · exact ⟨L, h1, h2, h3⟩
          have HB6 := Lib.hid (HB5.out.trans (hb6.mono HB5.out.size))
          have HCOK := Lib.hid hcok
          have hz5 := HB5.out.size
          clear hb6 hcase hcok
          refine hK.out _ _ (HALL.out _ HB6.out) (fun _ => trivial) ?_
          clear hK K
          refine wpAnyL_pure (i := 5) rfl (by kernel_rfl) (fun _ _ _ h => h) (Or.inl ⟨by rfl, (fun u hu => by obtain ⟨⟨k0, k1, k2, k3⟩, k4, k5, k6⟩ := hu; go_simp; try rfl)⟩) (HALL.out _ HB6.out) (fun _ => trivial) ?_
          simp only [Act.put, List.setIfInBounds_toArray, List.set_cons_zero, List.set_cons_succ, List.getElem_toArray, List.getElem_cons_zero, List.getElem_cons_succ]
          refine wpAnyL_pure (i := 6) rfl (by kernel_rfl) (fun _ _ _ h => h) (Or.inl ⟨by rfl, (fun u hu => by obtain ⟨⟨k0, k1, k2, k3⟩, k4, k5, k6⟩ := hu; go_simp; try rfl)⟩) (HALL.out _ HB6.out) (fun _ => trivial) ?_
          simp only [Act.put, List.setIfInBounds_toArray, List.set_cons_zero, List.set_cons_succ, List.getElem_toArray, List.getElem_cons_zero, List.getElem_cons_succ]
          refine wpAnyL_pure (i := 7) rfl (by kernel_rfl) (fun _ _ _ h => h) (Or.inl ⟨by rfl, (fun u hu => by obtain ⟨⟨k0, k1, k2, k3⟩, k4, k5, k6⟩ := hu; go_simp; try rfl)⟩) (HALL.out _ HB6.out) (fun _ => trivial) ?_
          simp only [Act.put, List.setIfInBounds_toArray, List.set_cons_zero, List.set_cons_succ, List.getElem_toArray, List.getElem_cons_zero, List.getElem_cons_succ]
          refine wpAnyL_pure (i := 8) rfl (by kernel_rfl) (fun _ _ _ h => h) (Or.inl ⟨by rfl, (fun u hu => by obtain ⟨⟨k0, k1, k2, k3⟩, k4, k5, k6⟩ := hu; go_simp; try rfl)⟩) (HALL.out _ HB6.out) (fun _ => trivial) ?_
          simp only [Act.put, List.setIfInBounds_toArray, List.set_cons_zero, List.set_cons_succ, List.getElem_toArray, List.getElem_cons_zero, List.getElem_cons_succ]
          refine wpAnyL_pure (i := 9) rfl (by kernel_rfl) (fun _ _ _ h => h) (Or.inl ⟨by rfl, (fun u hu => by obtain ⟨⟨k0, k1, k2, k3⟩, k4, k5, k6⟩ := hu; go_simp; try rfl)⟩) (HALL.out _ HB6.out) (fun _ => trivial) ?_
          simp only [Act.put, List.setIfInBounds_toArray, List.set_cons_zero, List.set_cons_succ, List.getElem_toArray, List.getElem_cons_zero, List.getElem_cons_succ]
          refine wpAnyL_pure (i := 10) rfl (by kernel_rfl) (fun _ _ _ h => h) (Or.inl ⟨by rfl, (fun u hu => by obtain ⟨⟨k0, k1, k2, k3⟩, k4, k5, k6⟩ := hu; go_simp; try rfl)⟩) (HALL.out _ HB6.out) (fun _ => trivial) ?_
          simp only [Act.put, List.setIfInBounds_toArray, List.set_cons_zero, List.set_cons_succ, List.getElem_toArray, List.getElem_cons_zero, List.getElem_cons_succ]
          refine wpAnyL_pure (i := 11) rfl (by kernel_rfl) (fun _ _ _ h => h) (Or.inl ⟨by rfl, (fun u hu => by obtain ⟨⟨k0, k1, k2, k3⟩, k4, k5, k6⟩ := hu; go_simp; try rfl)⟩) (HALL.out _ HB6.out) (fun _ => trivial) ?_
          simp only [Act.put, List.setIfInBounds_toArray, List.set_cons_zero, List.set_cons_succ, List.getElem_toArray, List.getElem_cons_zero, List.getElem_cons_succ]
          refine wpAnyL_done (by kernel_rfl) ?_ _
          obtain ⟨⟨k0, k1, k2, k3⟩, k4, k5, k6⟩ := HALL.out _ HB6.out
          obtain ⟨o1, o2, o3⟩ := HCOK.out.ord
          have o0 := HCOK.out.ord2
          have l0 := cell_lt k4
          have hz6 := HB6.out.size
          have hnb : Below w6.heap.size w6 (w6.alloc (.cells #[.int .i64 g.1, .int .i64 g.2.1, .int .i64 g.2.2.1, .slice AR nR cR, .pointer (some ⟨L.Bc, 0, none⟩)] 110)) := (Below.refl _ _).alloc (Nat.le_refl _) _
          have HNB := Lib.hid hnb
          have HNU := Lib.hid (show NumSt (w6.alloc (.cells #[.int .i64 g.1, .int .i64 g.2.1, .int .i64 g.2.2.1, .slice AR nR cR, .pointer (some ⟨L.Bc, 0, none⟩)] 110)) L g n w6.heap.size AR nR cR from
            ⟨HCOK.out.below hnb, heap_alloc_new w6 _, ((HG.out.below HB6.out).alloc _).more (fun b hb => by have := hb.2; omega), by omega⟩)
          have HSX := Lib.hid (((HS.out.below HB6.out).alloc (.cells #[.int .i64 g.1, .int .i64 g.2.1, .int .i64 g.2.2.1, .slice AR nR cR, .pointer (some ⟨L.Bc, 0, none⟩)] 110)).more (S' := fun b => b < w.heap.size) (fun b hb => hb.2))
          clear hnb
          --@3
          go_wp2_with fail
          refine (treeNum (by omega) HV.out (sizeT t) _ t (false, (st : Int)) n i _ A m c HNU.out (fun b hb => by omega) HSX.out (Nat.le_refl _) hsz6 HU.out HRT.out).mono ?_
          rintro e w7 ⟨rfl, _, hA7⟩
          have HB7 := Lib.hid (HB1.out.trans (((HB6.out.alloc HB6.out.size _).trans (hA7.below (by simp; omega) (by omega))).mono (by omega)))
          clear hA7 k0 k1 k2 k3 k4 k5 k6
          --@4
          go_wp2_with fail
          go_ret3
          exact ⟨rfl, HB7.out⟩
        exact AllL.nil
      exact AllL.nil
    exact AllL.nil
  exact AllL.nil
end Go.Proofs.Ythanhegomgbgbaa
