/- teach.Differ, Teacher.Equal, mini.Min. -/
import Derived.Test.YtgaahpddlohjoaaMiniSame
import Derived.Test.YtgaahpddlohjoaaTeach
import Derived.Test.YtgaahpddlohjoaaCanon
namespace Go.Proofs.Ytgaahpddlohjoaa
open Go.RowKit

theorem plain_dat {d : DfaD} (hv : Valid d) (s : Int) : dat (plainD d) s = if 0 ≤ dat d s then 0 else -1 := by
  have hge := dat_ge hv s
  unfold dat at hge ⊢
  by_cases hs : s < 0
  · rw [if_pos hs, if_pos hs]; rfl
  · rw [if_neg hs] at hge ⊢
    rw [if_neg hs]
    show ((d.2.1.map (fun x => if 0 < x then 0 else x))[s.toNat]?).getD 0 = _
    rw [List.getElem?_map]
    cases h : d.2.1[s.toNat]? with
    | none => simp
    | some x =>
      rw [h] at hge
      simp only [Option.getD_some] at hge
      simp only [Option.map_some, Option.getD_some]
      split <;> split <;> omega
theorem plain_dval {d : DfaD} (hv : Valid d) (l : List Int) : dval (plainD d) (plainD d).1 l = if daccept d l = true then 0 else -1 := by
  have h : dval (plainD d) (plainD d).1 l = dat (plainD d) (drun d l) := rfl
  rw [h, plain_dat hv]
  simp [daccept]
theorem plain_agree {x y : DfaD} (hx : Valid x) (hy : Valid y) (l : List Int) : dval (plainD x) (plainD x).1 l = dval (plainD y) (plainD y).1 l ↔ daccept x l = daccept y l := by
  rw [plain_dval hx, plain_dval hy]
  cases daccept x l <;> cases daccept y l <;> simp
/-- what teach.Differ tells -/
def DiffR (x y : DfaD) (base : Nat) (l : List Int) (dif : Bool) (A : Option Addr) (c : Nat) (w' : World) : Prop :=
  (dif = false ∧ l = [] ∧ ∀ v, WOk x v → daccept x v = daccept y v) ∨
  (dif = true ∧ Sl Rep.int w' (fun b => base ≤ b) A l.length c l ∧ WOk x l ∧ l.length ≤ (x.2.2.length + 1) * (y.2.2.length + 1) ∧ daccept x l ≠ daccept y l ∧ ∀ v, WOk x v → SLt v l → daccept x v = daccept y v)
def DiffRet (x y : DfaD) (base : Nat) (e : Ending) (w' : World) : Prop := ∃ (Ao : Option Addr) (co : Nat) (l : List Int) (dif : Bool), e = .returned (.tuple #[.slice Ao l.length co, .bool dif]) ∧ DiffR x y base l dif Ao co w'
def EqualRet (x y : DfaD) (base : Nat) (e : Ending) (w' : World) : Prop := ∃ (Ao : Option Addr) (co : Nat) (l : List Int) (dif : Bool), e = .returned (.tuple #[.bool (!dif), .slice Ao l.length co, .int .i64 0]) ∧ DiffR x y base l dif Ao co w'
set_option linter.unusedSimpArgs false in
set_option maxRecDepth 1000000 in
set_option maxHeartbeats 4000000 in
theorem teachDiffer (w : World) (S S' : Nat → Prop) (A : Option Addr) (nA cA : Nat) (N : Option Addr) (n cN : Nat) (a : DfaD) (hA : Sl Rep.int w S A nA cA a.2.1) (hN : Sl RI w S N n cN a.2.2) (hv : Valid a)
    (A' : Option Addr) (nA' cA' : Nat) (N' : Option Addr) (n' cN' : Nat) (b : DfaD) (hA' : Sl Rep.int w S' A' nA' cA' b.2.1) (hN' : Sl RI w S' N' n' cN' b.2.2) (hv' : Valid b) (hcc : cols a = cols b) :
    Calls Try.prog 23 #[.agg #[.int .i64 a.1, .slice A nA cA, .slice N n cN], .agg #[.int .i64 b.1, .slice A' nA' cA', .slice N' n' cN']] w fun e w' => DiffRet a b w.heap.size e w' ∧ Below w.heap.size w w' := by
  obtain ⟨w1, hw1⟩ : ∃ w1 : World, w1 = (w.alloc (.cells #[.int .i64 a.1, .slice A nA cA, .slice N n cN] 25)).alloc (.cells #[.int .i64 b.1, .slice A' nA' cA', .slice N' n' cN'] 25) := ⟨_, rfl⟩
  have hb1 : Below w.heap.size w w1 := by rw [hw1]; exact ((Below.refl _ _).alloc (Nat.le_refl _) _).alloc (by simp) _
  have hz1 : w1.heap.size = w.heap.size + 2 := by rw [hw1]; simp
  have hg1 : w1.heap[w.heap.size]? = some (.cells #[.int .i64 a.1, .slice A nA cA, .slice N n cN] 25 (0, 0)) := by rw [hw1, Below.heap_alloc _ _ _ (by simp)]; exact heap_alloc_new w _
  have hg2 : w1.heap[w.heap.size + 1]? = some (.cells #[.int .i64 b.1, .slice A' nA' cA', .slice N' n' cN'] 25 (0, 0)) := by rw [hw1]; exact heap_new _ _ _ (by simp)
  have HBOX := Lib.hid (show ∀ u : World, Below w1.heap.size w1 u → (u.cell? ⟨w.heap.size, 0, none⟩ = some (.int .i64 a.1) ∧ u.cell? ⟨w.heap.size, 1, none⟩ = some (.slice A nA cA) ∧ u.cell? ⟨w.heap.size, 2, none⟩ = some (.slice N n cN)) ∧ (u.cell? ⟨w.heap.size + 1, 0, none⟩ = some (.int .i64 b.1) ∧ u.cell? ⟨w.heap.size + 1, 1, none⟩ = some (.slice A' nA' cA') ∧ u.cell? ⟨w.heap.size + 1, 2, none⟩ = some (.slice N' n' cN')) from fun u hu => by
    have e := (hu.block _ (by omega)).trans hg1
    have e' := (hu.block _ (by omega)).trans hg2
    exact ⟨by simp [World.cell?, e], by simp [World.cell?, e']⟩)
  have HKEEP := Lib.hid (show ∀ u : World, Below w1.heap.size w1 u → Below w.heap.size w u from fun u hu => hb1.trans (hu.mono (by omega)))
  have HSA := Lib.hid (show ∀ u : World, Below w1.heap.size w1 u → Sl Rep.int u (fun b => S b ∧ b < w.heap.size) A nA cA a.2.1 from fun u hu => hA.fit.below (hb1.trans (hu.mono (by omega))))
  have HSN := Lib.hid (show ∀ u : World, Below w1.heap.size w1 u → Sl RI u (fun b => S b ∧ b < w.heap.size) N n cN a.2.2 from fun u hu => hN.fit.below (hb1.trans (hu.mono (by omega))))
  have HSA' := Lib.hid (show ∀ u : World, Below w1.heap.size w1 u → Sl Rep.int u (fun b => S' b ∧ b < w.heap.size) A' nA' cA' b.2.1 from fun u hu => hA'.fit.below (hb1.trans (hu.mono (by omega))))
  have HSN' := Lib.hid (show ∀ u : World, Below w1.heap.size w1 u → Sl RI u (fun b => S' b ∧ b < w.heap.size) N' n' cN' b.2.2 from fun u hu => hN'.fit.below (hb1.trans (hu.mono (by omega))))
  have HV := Lib.hid hv
  have HV' := Lib.hid hv'
  have HCC := Lib.hid hcc
  have HW1 := Lib.hid hw1
  have hz1' : w1.heap.size ≤ w.heap.size + 2 ∧ w.heap.size + 2 ≤ w1.heap.size := by omega
  clear hA hN hA' hN' hv hv' hcc hw1 hz1 hb1 hg1 hg2
  obtain ⟨⟨k0, k1, k2⟩, k3, k4, k5⟩ := HBOX.out w1 (Below.refl _ _)
  go_enter Try.func23, Try.ntmps23
  go_upto_block 1 with fail
  rw [← HW1.out]
  go_wp2_with fail
  refine (dfaCheck _ _ _ _ _ _ _ _ a (HSA.out _ (Below.refl _ _)) (HSN.out _ (Below.refl _ _)) HV.out).mono ?_
  rintro e w2 ⟨rfl, hb2⟩
  have HB2 := Lib.hid hb2
  clear k0 k1 k2 k3 k4 k5
  obtain ⟨⟨k0, k1, k2⟩, k3, k4, k5⟩ := HBOX.out w2 hb2
  clear hb2
  go_wp2_with fail
  refine (dfaCheck _ _ _ _ _ _ _ _ b (HSA'.out _ HB2.out) (HSN'.out _ HB2.out) HV'.out).mono ?_
  rintro e w3 ⟨rfl, hb3⟩
  have HB3 := Lib.hid (HB2.out.trans (hb3.mono HB2.out.size))
  clear k0 k1 k2 k3 k4 k5 hb3
  have HK0 := Lib.hid (HBOX.out w3.drew HB3.out.drew)
  go_wp2_with fail
  obtain ⟨w4, hw4⟩ : ∃ w4, w4 = w3.drew := ⟨_, rfl⟩
  have HB4 := Lib.hid (show Below w1.heap.size w1 w4 by rw [hw4]; exact HB3.out.drew)
  refine wp_region_late (late := []) (S1 := fun u => (u.cell? ⟨w.heap.size, 0, none⟩ = some (.int .i64 a.1) ∧ u.cell? ⟨w.heap.size, 1, none⟩ = some (.slice A nA cA) ∧ u.cell? ⟨w.heap.size, 2, none⟩ = some (.slice N n cN)) ∧ (u.cell? ⟨w.heap.size + 1, 0, none⟩ = some (.int .i64 b.1) ∧ u.cell? ⟨w.heap.size + 1, 1, none⟩ = some (.slice A' nA' cA') ∧ u.cell? ⟨w.heap.size + 1, 2, none⟩ = some (.slice N' n' cN'))) (S := fun _ => True) (by kernel_rfl) ?_
  rw [← hw4] at HK0 ⊢
  clear hw4
  refine wpAnyL_pure (i := 0) rfl (by kernel_rfl) (fun _ _ _ h => h) (Or.inl ⟨by rfl, (fun u hu => by obtain ⟨⟨k0, k1, k2⟩, k3, k4, k5⟩ := hu; go_simp; try rfl)⟩) HK0.out (fun _ => trivial) ?_
  simp only [Act.put, List.setIfInBounds_toArray, List.set_cons_zero, List.set_cons_succ, List.getElem_toArray, List.getElem_cons_zero, List.getElem_cons_succ]
  refine wpAnyL_pure (i := 2) rfl (by kernel_rfl) (fun _ _ _ h => h) (Or.inl ⟨by rfl, (fun u hu => by obtain ⟨⟨k0, k1, k2⟩, k3, k4, k5⟩ := hu; go_simp; try rfl)⟩) HK0.out (fun _ => trivial) ?_
  simp only [Act.put, List.setIfInBounds_toArray, List.set_cons_zero, List.set_cons_succ, List.getElem_toArray, List.getElem_cons_zero, List.getElem_cons_succ]
  refine wpAnyL_ready (rs := [1]) (by kernel_rfl) (by simp) ?_
  refine AllL.cons rfl (fun K hK => ?_) ?_
  · go_simp
    refine (teachPlain w4 _ _ _ _ _ _ _ a (HSA.out _ HB4.out) (HSN.out _ HB4.out) HV.out).mono ?_
    rintro e w5 ⟨Bp, vAp, vNp, xsp, hBp, rfl, hDp, hbp⟩
    obtain ⟨Ap, cp, rfl, _, _⟩ := hDp.ownA.form
    obtain ⟨Np, dp, rfl, _, _⟩ := hDp.ownN.form
    obtain ⟨sp, tp⟩ := hDp.sl
    have HSp := Lib.hid sp
    have HTp := Lib.hid tp
    have HB5 := Lib.hid (HB4.out.trans (hbp.mono HB4.out.size))
    have HXp := Lib.hid hbp
    have HK5 := Lib.hid (HBOX.out _ HB5.out)
    clear sp tp hDp hbp
    refine hK.out _ _ HK5.out (fun _ => trivial) ?_
    clear hK K
    refine wpAnyL_ready (rs := [3]) (by kernel_rfl) (by simp) ?_
    refine AllL.cons rfl (fun K hK => ?_) ?_
    · go_simp
      refine (teachPlain w5 _ _ _ _ _ _ _ b (HSA'.out _ HB5.out) (HSN'.out _ HB5.out) HV'.out).mono ?_
      rintro e w6 ⟨Bq, vAq, vNq, xsq, hBq, rfl, hDq, hbq⟩
      obtain ⟨Aq, cq, rfl, _, _⟩ := hDq.ownA.form
      obtain ⟨Nq, dq, rfl, _, _⟩ := hDq.ownN.form
      obtain ⟨sq, tq⟩ := hDq.sl
      have HSq := Lib.hid sq
      have HTq := Lib.hid tq
      have HB6 := Lib.hid (HB5.out.trans (hbq.mono HB5.out.size))
      have HXq := Lib.hid hbq
      have HK6 := Lib.hid (HBOX.out _ HB6.out)
      clear sq tq hDq hbq
      refine hK.out _ _ HK6.out (fun _ => trivial) ?_
      clear hK K
      refine wpAnyL_ready (rs := [4]) (by kernel_rfl) (by simp) ?_
      refine AllL.cons rfl (fun K hK => ?_) ?_
      · go_simp
        refine (miniSame w6 _ _ _ _ _ _ _ _ (plainD a) (HSp.out.below HXq.out) (HTp.out.below HXq.out) (plain_valid HV.out) _ _ _ _ _ _ (plainD b) HSq.out HTq.out (plain_valid HV'.out) HCC.out).mono ?_
        rintro e w7 ⟨hr, hb7⟩
        have HB7 := Lib.hid (HB6.out.trans (hb7.mono HB6.out.size))
        have HK7 := Lib.hid (HBOX.out _ HB7.out)
        clear hb7
        obtain ⟨sm, Ao, co, l, rfl, hsm⟩ : ∃ sm Ao co, ∃ l : List Int, e = .returned (.tuple #[.bool sm, .slice Ao l.length co, .int .i64 0]) ∧ ((sm = true ∧ Ao = none ∧ co = 0 ∧ l = [] ∧ ∀ v, WOk (plainD a) v → dval (plainD a) (plainD a).1 v = dval (plainD b) (plainD b).1 v) ∨ (sm = false ∧ Sl Rep.int w7 (fun b => w6.heap.size ≤ b) Ao l.length co l ∧ WOk (plainD a) l ∧ l.length ≤ (a.2.2.length + 1) * (b.2.2.length + 1) ∧ dval (plainD a) (plainD a).1 l ≠ dval (plainD b) (plainD b).1 l ∧ ∀ v, WOk (plainD a) v → SLt v l → dval (plainD a) (plainD a).1 v = dval (plainD b) (plainD b).1 v)) := by
          rcases hr with ⟨rfl, h⟩ | ⟨Ao, co, l, rfl, h⟩
          · exact ⟨true, none, 0, [], rfl, .inl ⟨rfl, rfl, rfl, rfl, h⟩⟩
          · exact ⟨false, Ao, co, l, rfl, .inr ⟨rfl, h⟩⟩
        have HSM := Lib.hid hsm
        clear hr hsm
        refine hK.out _ _ HK7.out (fun _ => trivial) ?_
        clear hK K
        refine wpAnyL_pure (i := 5) rfl (by kernel_rfl) (fun _ _ _ h => h) (Or.inl ⟨by rfl, (fun u hu => by obtain ⟨⟨k0, k1, k2⟩, k3, k4, k5⟩ := hu; go_simp; try rfl)⟩) HK7.out (fun _ => trivial) ?_
        simp only [Act.put, List.setIfInBounds_toArray, List.set_cons_zero, List.set_cons_succ, List.getElem_toArray, List.getElem_cons_zero, List.getElem_cons_succ]
        refine wpAnyL_pure (i := 6) rfl (by kernel_rfl) (fun _ _ _ h => h) (Or.inl ⟨by rfl, (fun u hu => by obtain ⟨⟨k0, k1, k2⟩, k3, k4, k5⟩ := hu; go_simp; try rfl)⟩) HK7.out (fun _ => trivial) ?_
        simp only [Act.put, List.setIfInBounds_toArray, List.set_cons_zero, List.set_cons_succ, List.getElem_toArray, List.getElem_cons_zero, List.getElem_cons_succ]
        refine wpAnyL_pure (i := 7) rfl (by kernel_rfl) (fun _ _ _ h => h) (Or.inl ⟨by rfl, (fun u hu => by obtain ⟨⟨k0, k1, k2⟩, k3, k4, k5⟩ := hu; go_simp; try rfl)⟩) HK7.out (fun _ => trivial) ?_
        simp only [Act.put, List.setIfInBounds_toArray, List.set_cons_zero, List.set_cons_succ, List.getElem_toArray, List.getElem_cons_zero, List.getElem_cons_succ]
        refine wpAnyL_pure (i := 8) rfl (by kernel_rfl) (fun _ _ _ h => h) (Or.inl ⟨by rfl, (fun u hu => by obtain ⟨⟨k0, k1, k2⟩, k3, k4, k5⟩ := hu; go_simp; try rfl)⟩) HK7.out (fun _ => trivial) ?_
        simp only [Act.put, List.setIfInBounds_toArray, List.set_cons_zero, List.set_cons_succ, List.getElem_toArray, List.getElem_cons_zero, List.getElem_cons_succ]
        refine wpAnyL_pure (i := 9) rfl (by kernel_rfl) (fun _ _ _ h => h) (Or.inl ⟨by rfl, (fun u hu => by obtain ⟨⟨k0, k1, k2⟩, k3, k4, k5⟩ := hu; go_simp; try rfl)⟩) HK7.out (fun _ => trivial) ?_
        simp only [Act.put, List.setIfInBounds_toArray, List.set_cons_zero, List.set_cons_succ, List.getElem_toArray, List.getElem_cons_zero, List.getElem_cons_succ]
        refine wpAnyL_pure (i := 10) rfl (by kernel_rfl) (fun _ _ _ h => h) (Or.inl ⟨by rfl, (fun u hu => by obtain ⟨⟨k0, k1, k2⟩, k3, k4, k5⟩ := hu; go_simp; try rfl)⟩) HK7.out (fun _ => trivial) ?_
        simp only [Act.put, List.setIfInBounds_toArray, List.set_cons_zero, List.set_cons_succ, List.getElem_toArray, List.getElem_cons_zero, List.getElem_cons_succ]
        refine wpAnyL_pure (i := 11) rfl (by kernel_rfl) (fun _ _ _ h => h) (Or.inl ⟨by rfl, (fun u hu => by obtain ⟨⟨k0, k1, k2⟩, k3, k4, k5⟩ := hu; go_simp; try rfl)⟩) HK7.out (fun _ => trivial) ?_
        simp only [Act.put, List.setIfInBounds_toArray, List.set_cons_zero, List.set_cons_succ, List.getElem_toArray, List.getElem_cons_zero, List.getElem_cons_succ]
        refine wpAnyL_done (by kernel_rfl) ?_ _
        clear HK0 HK5 HK6 HK7
        have HBE := Lib.hid (HKEEP.out _ HB7.out)
        have hz6 : w.heap.size ≤ w6.heap.size := (HKEEP.out _ HB6.out).size
        rcases HSM.out with ⟨rfl, rfl, rfl, rfl, h⟩ | ⟨rfl, h⟩
        · have HH := Lib.hid h
          clear h
          go_wp2_with fail
          go_ret2
          exact ⟨⟨none, 0, [], false, rfl, .inl ⟨rfl, rfl, fun v hv => (plain_agree HV.out HV'.out v).1 (HH.out v hv)⟩⟩, HBE.out⟩
        · have HH := Lib.hid h
          clear h
          go_wp2_with fail
          go_ret2
          refine ⟨⟨Ao, co, l, true, rfl, .inr ⟨rfl, ?_⟩⟩, HBE.out⟩
          obtain ⟨h1, h2, h3, h4, h5⟩ := HH.out
          exact ⟨h1.more fun b hb => by omega, h2, h3, fun e => h4 ((plain_agree HV.out HV'.out l).2 e), fun v hv hs => (plain_agree HV.out HV'.out v).1 (h5 v hv hs)⟩
      exact AllL.nil
    exact AllL.nil
  exact AllL.nil

end Go.Proofs.Ytgaahpddlohjoaa
