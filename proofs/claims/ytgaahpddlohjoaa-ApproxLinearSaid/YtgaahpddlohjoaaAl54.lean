/- Teach TDiff ApproxLinear -/
import Derived.BigQuiet
import Derived.Deep.QuietTactic
import Derived.Test.YtgaahpddlohjoaaAl24
import Derived.Test.YtgaahpddlohjoaaAl37
import Derived.Test.YtgaahpddlohjoaaAl45
import Derived.Test.YtgaahpddlohjoaaAl49
import Derived.Test.YtgaahpddlohjoaaAl50
import Derived.Test.YtgaahpddlohjoaaAl52
import Derived.Test.YtgaahpddlohjoaaAl53
namespace Go.Proofs.Ytgaahpddlohjoaa
open Go.RowKit
theorem tplain_valid {d : DfaD} (hv : Valid d) : Valid (plainD d) := by
 refine ⟨hv.n1, hv.n2, ?_, hv.c1, hv.c2, hv.rows, hv.st, ?_⟩
 ·
  show (d.2.1.map _).length = d.2.2.length
  rw [List.length_map, hv.na]
 ·
  intro x hx
  obtain ⟨y, hy, rfl⟩ := List.mem_map.1 hx
  have := hv.acc y hy
  split <;> omega
end Go.Proofs.Ytgaahpddlohjoaa
namespace Go.Proofs.Ytgaahpddlohjoaa
open Go.RowKit
theorem plain_dat {d : DfaD} (hv : Valid d) (s : Int) : dat (plainD d) s = if 0 ≤ dat d s then 0 else -1 := by
 have hge := dat_ge hv s
 unfold dat at hge ⊢
 by_cases hs : s < 0
 ·
  rw [if_pos hs, if_pos hs]; rfl
 ·
  rw [if_neg hs] at hge ⊢
  rw [if_neg hs]
  show ((d.2.1.map (fun x => if 0 < x then 0 else x))[s.toNat]?).getD 0 = _
  rw [List.getElem?_map]
  cases h : d.2.1[s.toNat]? with
  | none => simp
  | some x =>
   rw [h] at hge
   simp only [Option.getD_some] at hge
   simp only [Option.map_some, Option.getD_some]
   split <;> split <;> omega
theorem plain_dval {d : DfaD} (hv : Valid d) (l : List Int) : dval (plainD d) (plainD d).1 l = if daccept d l = true then 0 else -1 := by
 have h : dval (plainD d) (plainD d).1 l = dat (plainD d) (drun d l) := rfl
 rw [h, plain_dat hv]
 simp [daccept]
theorem plain_agree {x y : DfaD} (hx : Valid x) (hy : Valid y) (l : List Int) : dval (plainD x) (plainD x).1 l = dval (plainD y) (plainD y).1 l ↔ daccept x l = daccept y l := by
 rw [plain_dval hx, plain_dval hy]
 cases daccept x l <;> cases daccept y l <;> simp
def DiffR (x y : DfaD) (base : Nat) (l : List Int) (dif : Bool) (A : Option Addr) (c : Nat) (w' : World) : Prop :=
 (dif = false ∧ l = [] ∧ ∀ v, WOk x v → daccept x v = daccept y v) ∨
 (dif = true ∧ Sl Rep.int w' (fun b => base ≤ b) A l.length c l ∧ WOk x l ∧ l.length ≤ (x.2.2.length + 1) * (y.2.2.length + 1) ∧ daccept x l ≠ daccept y l ∧ ∀ v, WOk x v → SLt v l → daccept x v = daccept y v)
def DiffRet (x y : DfaD) (base : Nat) (e : Ending) (w' : World) : Prop := ∃ (Ao : Option Addr) (co : Nat) (l : List Int) (dif : Bool), e = .returned (.tuple #[.slice Ao l.length co, .bool dif]) ∧ DiffR x y base l dif Ao co w'
set_option linter.unusedSimpArgs false in
set_option maxRecDepth 1000000 in
set_option maxHeartbeats 4000000 in
theorem teachDiffer (w : World) (S S' : Nat → Prop) (A : Option Addr) (nA cA : Nat) (N : Option Addr) (n cN : Nat) (a : DfaD) (hA : Sl Rep.int w S A nA cA a.2.1) (hN : Sl RI w S N n cN a.2.2) (hv : Valid a)
    (A' : Option Addr) (nA' cA' : Nat) (N' : Option Addr) (n' cN' : Nat) (b : DfaD) (hA' : Sl Rep.int w S' A' nA' cA' b.2.1) (hN' : Sl RI w S' N' n' cN' b.2.2) (hv' : Valid b) (hcc : cols a = cols b) :
    Calls Try.prog 23 #[.agg #[.int .i64 a.1, .slice A nA cA, .slice N n cN], .agg #[.int .i64 b.1, .slice A' nA' cA', .slice N' n' cN']] w fun e w' => DiffRet a b w.heap.size e w' ∧ Below w.heap.size w w' := by
 obtain ⟨w1, hw1⟩ : ∃ w1 : World, w1 = (w.alloc (.cells #[.int .i64 a.1, .slice A nA cA, .slice N n cN] 25)).alloc (.cells #[.int .i64 b.1, .slice A' nA' cA', .slice N' n' cN'] 25) := ⟨_, rfl⟩
 have hb1 : Below w.heap.size w w1 := by rw [hw1]; exact ((Below.refl _ _).alloc (Nat.le_refl _) _).alloc (by simp) _
 have hz1 : w1.heap.size = w.heap.size + 2 := by rw [hw1]; simp
 have hg1 : w1.heap[w.heap.size]? = some (.cells #[.int .i64 a.1, .slice A nA cA, .slice N n cN] 25 (0, 0)) := by rw [hw1, Below.heap_alloc _ _ _ (by simp)]; exact heap_alloc_new w _
 have hg2 : w1.heap[w.heap.size + 1]? = some (.cells #[.int .i64 b.1, .slice A' nA' cA', .slice N' n' cN'] 25 (0, 0)) := by rw [hw1]; exact heap_new _ _ _ (by simp)
 have HBOX := Lib.hid (show ∀ u : World, Below w1.heap.size w1 u → (u.cell? ⟨w.heap.size, 0, none⟩ = some (.int .i64 a.1) ∧ u.cell? ⟨w.heap.size, 1, none⟩ = some (.slice A nA cA) ∧ u.cell? ⟨w.heap.size, 2, none⟩ = some (.slice N n cN)) ∧ (u.cell? ⟨w.heap.size + 1, 0, none⟩ = some (.int .i64 b.1) ∧ u.cell? ⟨w.heap.size + 1, 1, none⟩ = some (.slice A' nA' cA') ∧ u.cell? ⟨w.heap.size + 1, 2, none⟩ = some (.slice N' n' cN')) from fun u hu => by
  have e := (hu.block _ (by omega)).trans hg1
  have e' := (hu.block _ (by omega)).trans hg2
  exact ⟨by simp [World.cell?, e], by simp [World.cell?, e']⟩)
 have HKEEP := Lib.hid (show ∀ u : World, Below w1.heap.size w1 u → Below w.heap.size w u from fun u hu => hb1.trans (hu.mono (by omega)))
 have HSA := Lib.hid (show ∀ u : World, Below w1.heap.size w1 u → Sl Rep.int u (fun b => S b ∧ b < w.heap.size) A nA cA a.2.1 from fun u hu => hA.fit.below (hb1.trans (hu.mono (by omega))))
 have HSN := Lib.hid (show ∀ u : World, Below w1.heap.size w1 u → Sl RI u (fun b => S b ∧ b < w.heap.size) N n cN a.2.2 from fun u hu => hN.fit.below (hb1.trans (hu.mono (by omega))))
 have HSA' := Lib.hid (show ∀ u : World, Below w1.heap.size w1 u → Sl Rep.int u (fun b => S' b ∧ b < w.heap.size) A' nA' cA' b.2.1 from fun u hu => hA'.fit.below (hb1.trans (hu.mono (by omega))))
 have HSN' := Lib.hid (show ∀ u : World, Below w1.heap.size w1 u → Sl RI u (fun b => S' b ∧ b < w.heap.size) N' n' cN' b.2.2 from fun u hu => hN'.fit.below (hb1.trans (hu.mono (by omega))))
 have HV := Lib.hid hv
 have HV' := Lib.hid hv'
 have HCC := Lib.hid hcc
 have HW1 := Lib.hid hw1
 have hz1' : w1.heap.size ≤ w.heap.size + 2 ∧ w.heap.size + 2 ≤ w1.heap.size := by omega
 clear hA hN hA' hN' hv hv' hcc hw1 hz1 hb1 hg1 hg2
 obtain ⟨⟨k0, k1, k2⟩, k3, k4, k5⟩ := HBOX.out w1 (Below.refl _ _)
 go_enter Try.func23, Try.ntmps23
 go_upto_block 1 with fail
 rw [← HW1.out]
 go_wp2_with fail
 refine (dfaCheck _ _ _ _ _ _ _ _ a (HSA.out _ (Below.refl _ _)) (HSN.out _ (Below.refl _ _)) HV.out).mono ?_
 rintro e w2 ⟨rfl, hb2⟩
 have HB2 := Lib.hid hb2
 clear k0 k1 k2 k3 k4 k5
 obtain ⟨⟨k0, k1, k2⟩, k3, k4, k5⟩ := HBOX.out w2 hb2
 clear hb2
 go_wp2_with fail
 refine (dfaCheck _ _ _ _ _ _ _ _ b (HSA'.out _ HB2.out) (HSN'.out _ HB2.out) HV'.out).mono ?_
 rintro e w3 ⟨rfl, hb3⟩
 have HB3 := Lib.hid (HB2.out.trans (hb3.mono HB2.out.size))
 clear k0 k1 k2 k3 k4 k5 hb3
 have HK0 := Lib.hid (HBOX.out w3.drew HB3.out.drew)
 go_wp2_with fail
 obtain ⟨w4, hw4⟩ : ∃ w4, w4 = w3.drew := ⟨_, rfl⟩
 have HB4 := Lib.hid (show Below w1.heap.size w1 w4 by rw [hw4]; exact HB3.out.drew)
 refine wp_region_late (late := []) (S1 := fun u => (u.cell? ⟨w.heap.size, 0, none⟩ = some (.int .i64 a.1) ∧ u.cell? ⟨w.heap.size, 1, none⟩ = some (.slice A nA cA) ∧ u.cell? ⟨w.heap.size, 2, none⟩ = some (.slice N n cN)) ∧ (u.cell? ⟨w.heap.size + 1, 0, none⟩ = some (.int .i64 b.1) ∧ u.cell? ⟨w.heap.size + 1, 1, none⟩ = some (.slice A' nA' cA') ∧ u.cell? ⟨w.heap.size + 1, 2, none⟩ = some (.slice N' n' cN'))) (S := fun _ => True) (by kernel_rfl) ?_
 rw [← hw4] at HK0 ⊢
 clear hw4
 refine wpAnyL_pure (i := 0) rfl (by kernel_rfl) (fun _ _ _ h => h) (Or.inl ⟨by rfl, (fun u hu => by obtain ⟨⟨k0, k1, k2⟩, k3, k4, k5⟩ := hu; go_simp; try rfl)⟩) HK0.out (fun _ => trivial) ?_
 simp only [Act.put, List.setIfInBounds_toArray, List.set_cons_zero, List.set_cons_succ, List.getElem_toArray, List.getElem_cons_zero, List.getElem_cons_succ]
 refine wpAnyL_pure (i := 2) rfl (by kernel_rfl) (fun _ _ _ h => h) (Or.inl ⟨by rfl, (fun u hu => by obtain ⟨⟨k0, k1, k2⟩, k3, k4, k5⟩ := hu; go_simp; try rfl)⟩) HK0.out (fun _ => trivial) ?_
 simp only [Act.put, List.setIfInBounds_toArray, List.set_cons_zero, List.set_cons_succ, List.getElem_toArray, List.getElem_cons_zero, List.getElem_cons_succ]
 refine wpAnyL_ready (rs := [1]) (by kernel_rfl) (by simp) ?_
 refine AllL.cons rfl (fun K hK => ?_) ?_
 ·
  go_simp
  refine (teachPlain w4 _ _ _ _ _ _ _ a (HSA.out _ HB4.out) (HSN.out _ HB4.out) HV.out).mono ?_
  rintro e w5 ⟨Bp, vAp, vNp, xsp, hBp, rfl, hDp, hbp⟩
  obtain ⟨Ap, cp, rfl, _, _⟩ := hDp.ownA.form
  obtain ⟨Np, dp, rfl, _, _⟩ := hDp.ownN.form
  obtain ⟨sp, tp⟩ := hDp.sl
  have HSp := Lib.hid sp
  have HTp := Lib.hid tp
  have HB5 := Lib.hid (HB4.out.trans (hbp.mono HB4.out.size))
  have HXp := Lib.hid hbp
  have HK5 := Lib.hid (HBOX.out _ HB5.out)
  clear sp tp hDp hbp
  refine hK.out _ _ HK5.out (fun _ => trivial) ?_
  clear hK K
  refine wpAnyL_ready (rs := [3]) (by kernel_rfl) (by simp) ?_
  refine AllL.cons rfl (fun K hK => ?_) ?_
  ·
   go_simp
   refine (teachPlain w5 _ _ _ _ _ _ _ b (HSA'.out _ HB5.out) (HSN'.out _ HB5.out) HV'.out).mono ?_
   rintro e w6 ⟨Bq, vAq, vNq, xsq, hBq, rfl, hDq, hbq⟩
   obtain ⟨Aq, cq, rfl, _, _⟩ := hDq.ownA.form
   obtain ⟨Nq, dq, rfl, _, _⟩ := hDq.ownN.form
   obtain ⟨sq, tq⟩ := hDq.sl
   have HSq := Lib.hid sq
   have HTq := Lib.hid tq
   have HB6 := Lib.hid (HB5.out.trans (hbq.mono HB5.out.size))
   have HXq := Lib.hid hbq
   have HK6 := Lib.hid (HBOX.out _ HB6.out)
   clear sq tq hDq hbq
   refine hK.out _ _ HK6.out (fun _ => trivial) ?_
   clear hK K
   refine wpAnyL_ready (rs := [4]) (by kernel_rfl) (by simp) ?_
   refine AllL.cons rfl (fun K hK => ?_) ?_
   ·
    go_simp
    refine (miniSame w6 _ _ _ _ _ _ _ _ (plainD a) (HSp.out.below HXq.out) (HTp.out.below HXq.out) (tplain_valid HV.out) _ _ _ _ _ _ (plainD b) HSq.out HTq.out (tplain_valid HV'.out) HCC.out).mono ?_
    rintro e w7 ⟨hr, hb7⟩
    have HB7 := Lib.hid (HB6.out.trans (hb7.mono HB6.out.size))
    have HK7 := Lib.hid (HBOX.out _ HB7.out)
    clear hb7
    obtain ⟨sm, Ao, co, l, rfl, hsm⟩ : ∃ sm Ao co, ∃ l : List Int, e = .returned (.tuple #[.bool sm, .slice Ao l.length co, .int .i64 0]) ∧ ((sm = true ∧ Ao = none ∧ co = 0 ∧ l = [] ∧ ∀ v, WOk (plainD a) v → dval (plainD a) (plainD a).1 v = dval (plainD b) (plainD b).1 v) ∨ (sm = false ∧ Sl Rep.int w7 (fun b => w6.heap.size ≤ b) Ao l.length co l ∧ WOk (plainD a) l ∧ l.length ≤ (a.2.2.length + 1) * (b.2.2.length + 1) ∧ dval (plainD a) (plainD a).1 l ≠ dval (plainD b) (plainD b).1 l ∧ ∀ v, WOk (plainD a) v → SLt v l → dval (plainD a) (plainD a).1 v = dval (plainD b) (plainD b).1 v)) := by
     rcases hr with ⟨rfl, h⟩ | ⟨Ao, co, l, rfl, h⟩
     ·
      exact ⟨true, none, 0, [], rfl, .inl ⟨rfl, rfl, rfl, rfl, h⟩⟩
     ·
      exact ⟨false, Ao, co, l, rfl, .inr ⟨rfl, h⟩⟩
    have HSM := Lib.hid hsm
    clear hr hsm
    refine hK.out _ _ HK7.out (fun _ => trivial) ?_
    clear hK K
    refine wpAnyL_pure (i := 5) rfl (by kernel_rfl) (fun _ _ _ h => h) (Or.inl ⟨by rfl, (fun u hu => by obtain ⟨⟨k0, k1, k2⟩, k3, k4, k5⟩ := hu; go_simp; try rfl)⟩) HK7.out (fun _ => trivial) ?_
    simp only [Act.put, List.setIfInBounds_toArray, List.set_cons_zero, List.set_cons_succ, List.getElem_toArray, List.getElem_cons_zero, List.getElem_cons_succ]
    refine wpAnyL_pure (i := 6) rfl (by kernel_rfl) (fun _ _ _ h => h) (Or.inl ⟨by rfl, (fun u hu => by obtain ⟨⟨k0, k1, k2⟩, k3, k4, k5⟩ := hu; go_simp; try rfl)⟩) HK7.out (fun _ => trivial) ?_
    simp only [Act.put, List.setIfInBounds_toArray, List.set_cons_zero, List.set_cons_succ, List.getElem_toArray, List.getElem_cons_zero, List.getElem_cons_succ]
    refine wpAnyL_pure (i := 7) rfl (by kernel_rfl) (fun _ _ _ h => h) (Or.inl ⟨by rfl, (fun u hu => by obtain ⟨⟨k0, k1, k2⟩, k3, k4, k5⟩ := hu; go_simp; try rfl)⟩) HK7.out (fun _ => trivial) ?_
    simp only [Act.put, List.setIfInBounds_toArray, List.set_cons_zero, List.set_cons_succ, List.getElem_toArray, List.getElem_cons_zero, List.getElem_cons_succ]
    refine wpAnyL_pure (i := 8) rfl (by kernel_rfl) (fun _ _ _ h => h) (Or.inl ⟨by rfl, (fun u hu => by obtain ⟨⟨k0, k1, k2⟩, k3, k4, k5⟩ := hu; go_simp; try rfl)⟩) HK7.out (fun _ => trivial) ?_
    simp only [Act.put, List.setIfInBounds_toArray, List.set_cons_zero, List.set_cons_succ, List.getElem_toArray, List.getElem_cons_zero, List.getElem_cons_succ]
    refine wpAnyL_pure (i := 9) rfl (by kernel_rfl) (fun _ _ _ h => h) (Or.inl ⟨by rfl, (fun u hu => by obtain ⟨⟨k0, k1, k2⟩, k3, k4, k5⟩ := hu; go_simp; try rfl)⟩) HK7.out (fun _ => trivial) ?_
    simp only [Act.put, List.setIfInBounds_toArray, List.set_cons_zero, List.set_cons_succ, List.getElem_toArray, List.getElem_cons_zero, List.getElem_cons_succ]
    refine wpAnyL_pure (i := 10) rfl (by kernel_rfl) (fun _ _ _ h => h) (Or.inl ⟨by rfl, (fun u hu => by obtain ⟨⟨k0, k1, k2⟩, k3, k4, k5⟩ := hu; go_simp; try rfl)⟩) HK7.out (fun _ => trivial) ?_
    simp only [Act.put, List.setIfInBounds_toArray, List.set_cons_zero, List.set_cons_succ, List.getElem_toArray, List.getElem_cons_zero, List.getElem_cons_succ]
    refine wpAnyL_pure (i := 11) rfl (by kernel_rfl) (fun _ _ _ h => h) (Or.inl ⟨by rfl, (fun u hu => by obtain ⟨⟨k0, k1, k2⟩, k3, k4, k5⟩ := hu; go_simp; try rfl)⟩) HK7.out (fun _ => trivial) ?_
    simp only [Act.put, List.setIfInBounds_toArray, List.set_cons_zero, List.set_cons_succ, List.getElem_toArray, List.getElem_cons_zero, List.getElem_cons_succ]
    refine wpAnyL_done (by kernel_rfl) ?_ _
    clear HK0 HK5 HK6 HK7
    have HBE := Lib.hid (HKEEP.out _ HB7.out)
    have hz6 : w.heap.size ≤ w6.heap.size := (HKEEP.out _ HB6.out).size
    rcases HSM.out with ⟨rfl, rfl, rfl, rfl, h⟩ | ⟨rfl, h⟩
    ·
     have HH := Lib.hid h
     clear h
     go_wp2_with fail
     go_ret2
     exact ⟨⟨none, 0, [], false, rfl, .inl ⟨rfl, rfl, fun v hv => (plain_agree HV.out HV'.out v).1 (HH.out v hv)⟩⟩, HBE.out⟩
    ·
     have HH := Lib.hid h
     clear h
     go_wp2_with fail
     go_ret2
     refine ⟨⟨Ao, co, l, true, rfl, .inr ⟨rfl, ?_⟩⟩, HBE.out⟩
     obtain ⟨h1, h2, h3, h4, h5⟩ := HH.out
     exact ⟨h1.more fun b hb => by omega, h2, h3, fun e => h4 ((plain_agree HV.out HV'.out l).2 e), fun v hv hs => (plain_agree HV.out HV'.out v).1 (h5 v hv hs)⟩
   exact AllL.nil
  exact AllL.nil
 exact AllL.nil
end Go.Proofs.Ytgaahpddlohjoaa
namespace Go.Proofs.Ytgaahpddlohjoaa
open Go.RowKit Go.Maps
theorem dfaOf_size (l : List Int) : (dfaOf l).2.2.length ≤ 6 ∧ cols (dfaOf l) ≤ 3 := by
 obtain ⟨n1, n2, _⟩ := dfaN_range l
 obtain ⟨c1, c2, _⟩ := dfaC_range l
 refine ⟨by simp [dfaOf]; omega, ?_⟩
 have : (dfaOf l).2.2[0]? = some (dfaRow l 0) := by
  show ((List.range (dfaN l)).map (dfaRow l))[0]? = _
  rw [List.getElem?_map, List.getElem?_range (by omega)]; rfl
 unfold cols
 rw [this]
 simp [dfaRow]
 omega
set_option linter.unusedSimpArgs false in
set_option maxRecDepth 100000 in
set_option maxHeartbeats 20000000 in
theorem approxLinear_walk (W : World) (A0 : Option Addr) (n0 c0 : Nat) (z0 : List Int) (le0 : n0 ≤ c0) (cap0 : c0 ≤ 17592186043904) (rd0 : Rd W (fun _ => True) 1 A0 n0 (z0.map (Value.int .i64))) (_rg0 : ∀ z ∈ z0, -9223372036854775808 ≤ z ∧ z ≤ 9223372036854775807) :
    Calls Try.prog 7 #[.slice A0 n0 c0] W fun e W' => e = .returned (.bool true) ∧ Below W.heap.size W W' := by
 have HR0 := Lib.hid (rd0.slInts le0)
 have HV := Lib.hid (dfaOf_valid z0)
 have HSZ := Lib.hid (dfaOf_size z0)
 clear rd0 _rg0
 go_enter Try.func7, Try.ntmps7
 go_wp2_with fail
 refine (makeDfa _ _ _ _ _ z0 HR0.out (by omega)).mono ?_
 rintro e w1 ⟨Bd, vA, vN, xs, hBd, rfl, hD, hb1⟩
 obtain ⟨d, hd⟩ : ∃ d, d = dfaOf z0 := ⟨_, rfl⟩
 rw [← hd] at hD HV HSZ ⊢
 clear hd
 obtain ⟨A, cA, rfl, _, _⟩ := hD.ownA.form
 obtain ⟨N, cN, rfl, _, _⟩ := hD.ownN.form
 obtain ⟨hsA, hsN⟩ := hD.sl
 obtain ⟨nA, hnA⟩ : ∃ k, k = d.2.1.length := ⟨_, rfl⟩
 obtain ⟨n, hn⟩ : ∃ k, k = d.2.2.length := ⟨_, rfl⟩
 rw [← hnA] at hsA ⊢
 rw [← hn] at hsN ⊢
 have HSA := Lib.hid hsA.fit
 have HSN := Lib.hid hsN.fit
 have HNN := Lib.hid hn
 obtain ⟨w2, hw2⟩ : ∃ w2 : World, w2 = w1.alloc (.cells #[.int .i64 d.1, .slice A nA cA, .slice N n cN] 25) := ⟨_, rfl⟩
 have hb12 : Below w1.heap.size w1 w2 := by rw [hw2]; exact (Below.refl _ _).alloc (Nat.le_refl _) _
 have HB12 := Lib.hid hb12
 have HB2 := Lib.hid (hb1.trans (hb12.mono hb1.size))
 have HBD2 := Lib.hid (show w2.heap[w1.heap.size]? = some (.cells #[.int .i64 d.1, .slice A nA cA, .slice N n cN] 25 (0, 0)) by rw [hw2]; exact heap_alloc_new _ _)
 have HCD := Lib.hid (show ∀ u : World, u.heap[w1.heap.size]? = some (.cells #[.int .i64 d.1, .slice A nA cA, .slice N n cN] 25 (0, 0)) → u.cell? ⟨w1.heap.size, 0, none⟩ = some (.int .i64 d.1) ∧ u.cell? ⟨w1.heap.size, 1, none⟩ = some (.slice A nA cA) ∧ u.cell? ⟨w1.heap.size, 2, none⟩ = some (.slice N n cN) from fun u h => ⟨by simp [World.cell?, h], by simp [World.cell?, h], by simp [World.cell?, h]⟩)
 clear hb1 hD hsA hsN hnA hn hb12
 go_wp2_with fail
 rw [← hw2]
 clear hw2
 refine (keepPlain w2).mono ?_
 rintro e w3 ⟨AP, rfl, hp, hb3⟩
 have HP := Lib.hid hp
 have HB23 := Lib.hid hb3
 clear hp hb3
 go_wp2_with fail
 refine (apxOf w3 _ AP 2 2 plainG HP.out plain_valid).mono ?_
 rintro e w4 ⟨hr, hb4⟩
 obtain ⟨A4, n4, c4, N4, c4', rfl⟩ := apx_plain hr
 obtain ⟨w5, hw5⟩ : ∃ w5 : World, w5 = w4.alloc (.cells #[.int .i64 0, .slice A4 n4 c4, .slice N4 2 c4'] 25) := ⟨_, rfl⟩
 have hb45 : Below w4.heap.size w4 w5 := by rw [hw5]; exact (Below.refl _ _).alloc (Nat.le_refl _) _
 have HB25 := Lib.hid (HB23.out.trans ((hb4.mono HB23.out.size).trans (hb45.mono (Nat.le_trans HB23.out.size hb4.size))))
 have HBD5 := Lib.hid ((HB25.out.block _ (heap_lt HBD2.out)).trans HBD2.out)
 have HB15 := Lib.hid (HB12.out.trans (HB25.out.mono HB12.out.size))
 have HB5 := Lib.hid (HB2.out.trans (HB25.out.mono HB2.out.size))
 obtain ⟨g0, g1, g2⟩ := HCD.out w5 HBD5.out
 rw [hw5] at g0 g1 g2
 clear hr hb4 hb45
 go_wp2_with fail
 rw [← hw5]
 clear hw5 g0 g1 g2
 refine (fromDfa w5 _ A nA cA N n cN d (HSA.out.below HB15.out) (HSN.out.below HB15.out) HV.out (by have := HSZ.out.1; omega) (by have := HSZ.out.2; omega) (by
  have h1 := HSZ.out.1
  have h2 := HSZ.out.2
  have h3 : d.2.2.length * (cols d + 1) ≤ 6 * 4 := Nat.mul_le_mul h1 (by omega)
  omega)).mono ?_
 rintro e w6 ⟨⟨AR, cR, rfl, hsl⟩, hb6⟩
 rw [← HNN.out]
 obtain ⟨C, hC⟩ : ∃ C, C = cols d := ⟨_, rfl⟩
 have HCE := Lib.hid hC
 obtain ⟨ll, hl⟩ : ∃ ll, ll = (linR d).length := ⟨_, rfl⟩
 have HLN := Lib.hid hl
 rw [← hl] at hsl ⊢
 rw [← hC]
 have HSL := Lib.hid hsl
 have HGV := Lib.hid (lin_valid HV.out (by have := HSZ.out.1; omega) (by have := HSZ.out.2; omega) (by
  have h1 := HSZ.out.1
  have h2 := HSZ.out.2
  have h3 : d.2.2.length * (cols d + 1) ≤ 6 * 4 := Nat.mul_le_mul h1 (by omega)
  omega))
 rw [← hC, ← HNN.out] at HGV
 obtain ⟨s0, hs0⟩ : ∃ s0 : Nat, d.1 = (s0 : Int) := ⟨d.1.toNat, by have := HV.out.st; omega⟩
 have HS0 := Lib.hid hs0
 obtain ⟨w7, hw7⟩ : ∃ w7 : World, w7 = w6.alloc (.cells #[.int .i64 (C : Int), .int .i64 (n : Int), .int .i64 d.1, .slice AR ll cR] 52) := ⟨_, rfl⟩
 have hb67 : Below w6.heap.size w6 w7 := by rw [hw7]; exact (Below.refl _ _).alloc (Nat.le_refl _) _
 have HBG7 := Lib.hid (show w7.heap[w6.heap.size]? = some (.cells #[.int .i64 (C : Int), .int .i64 (n : Int), .int .i64 d.1, .slice AR ll cR] 52 (0, 0)) by rw [hw7]; exact heap_alloc_new _ _)
 have HB57 := Lib.hid (hb6.trans (hb67.mono hb6.size))
 have HSL7 := Lib.hid (HSL.out.below hb67)
 have HBD7 := Lib.hid ((HB57.out.block _ (heap_lt HBD5.out)).trans HBD5.out)
 have HB7 := Lib.hid (HB5.out.trans (HB57.out.mono HB5.out.size))
 have g0 : w7.cell? ⟨w6.heap.size, 0, none⟩ = some (.int .i64 (C : Int)) := by simp [World.cell?, HBG7.out]
 have g1 : w7.cell? ⟨w6.heap.size, 1, none⟩ = some (.int .i64 (n : Int)) := by simp [World.cell?, HBG7.out]
 have g2 : w7.cell? ⟨w6.heap.size, 2, none⟩ = some (.int .i64 d.1) := by simp [World.cell?, HBG7.out]
 have g3 : w7.cell? ⟨w6.heap.size, 3, none⟩ = some (.slice AR ll cR) := by simp [World.cell?, HBG7.out]
 rw [hw7] at g0 g1 g2 g3
 clear hsl hb6 hC hl hb67 hs0
 go_wp2_with fail
 rw [← hw7]
 clear hw7 g0 g1 g2 g3
 refine (apxOf w7 _ AR ll cR ((C : Int), (n : Int), d.1, linR d) HSL7.out HGV.out).mono ?_
 rintro e w8 ⟨⟨cf, hcf, hr⟩, hb8⟩
 simp only [Int.toNat_natCast, HS0.out] at hcf hr
 have HCF := Lib.hid hcf
 have HB78 := Lib.hid hb8
 have HB8 := Lib.hid (HB7.out.trans (hb8.mono HB7.out.size))
 clear hcf hb8
 rcases hr with ⟨rfl, _⟩ | ⟨accs, rows, ex, Ax, nx, cx, NN, m, c', rfl, hx, hex, hA, hN⟩
 ·
  --@6
  go_wp2_with fail
  go_ret
  exact ⟨rfl, HB8.out.alloc HB8.out.size _⟩
 ·
  have hs0n : s0 < n := by have h1 := HV.out.st; have h2 := HS0.out; have h3 := HNN.out; omega
  obtain rfl : ex = true := hex.2 (lin_exact HCF.out hs0n)
  have HX := Lib.hid hx
  have HA := Lib.hid hA
  have HN := Lib.hid hN
  clear hx hex hA hN
  obtain ⟨w9, hw9⟩ : ∃ w9 : World, w9 = w8.alloc (.cells #[.int .i64 0, .slice Ax nx cx, .slice NN m c'] 25) := ⟨_, rfl⟩
  have hb89 : Below w8.heap.size w8 w9 := by rw [hw9]; exact (Below.refl _ _).alloc (Nat.le_refl _) _
  have HBX9 := Lib.hid (show w9.heap[w8.heap.size]? = some (.cells #[.int .i64 0, .slice Ax nx cx, .slice NN m c'] 25 (0, 0)) by rw [hw9]; exact heap_alloc_new _ _)
  have HB89 := Lib.hid hb89
  have HB79 := Lib.hid (HB78.out.trans (hb89.mono HB78.out.size))
  have HBD9 := Lib.hid ((HB79.out.block _ (heap_lt HBD7.out)).trans HBD7.out)
  have HB19 := Lib.hid (HB15.out.trans ((HB57.out.mono HB15.out.size).trans (HB79.out.mono (Nat.le_trans HB15.out.size HB57.out.size))))
  have HB9 := Lib.hid (HB8.out.trans (hb89.mono HB8.out.size))
  obtain ⟨g0, g1, g2⟩ := HCD.out w9 HBD9.out
  have x0 : w9.cell? ⟨w8.heap.size, 0, none⟩ = some (.int .i64 0) := by simp [World.cell?, HBX9.out]
  have x1 : w9.cell? ⟨w8.heap.size, 1, none⟩ = some (.slice Ax nx cx) := by simp [World.cell?, HBX9.out]
  have x2 : w9.cell? ⟨w8.heap.size, 2, none⟩ = some (.slice NN m c') := by simp [World.cell?, HBX9.out]
  rw [hw9] at g0 g1 g2 x0 x1 x2
  clear hb89
  go_wp2_with fail
  rw [← hw9]
  clear hw9 g0 g1 g2 x0 x1 x2
  have hv := HX.out.valid
  have hdf := teachDiffer w9 _ _ Ax nx cx NN m c' (canonD (ExD accs rows)) ((HA.out.below HB89.out).more (S' := fun _ => True) fun _ _ => trivial) ((HN.out.below HB89.out).more (S' := fun _ => True) fun _ _ => trivial) (canon_valid hv.1) A nA cA N n cN d ((HSA.out.below HB19.out).more (S' := fun _ => True) fun _ _ => trivial) ((HSN.out.below HB19.out).more (S' := fun _ => True) fun _ _ => trivial) HV.out (by rw [canon_cols hv.1, hv.2]; exact HCE.out)
  rw [canon_start hv.1] at hdf
  refine hdf.mono ?_
  clear hdf
  rintro e w10 ⟨⟨Ao, co, l, dif, rfl, hd⟩, hb10⟩
  have hdif : dif = false := by
   rcases hd with ⟨h, _⟩ | ⟨_, _, h1, _, h2, _⟩
   ·
    exact h
   ·
    refine absurd (lin_back HV.out HNN.out.symm HS0.out HCF.out (by rw [← HCE.out]; exact HX.out) ?_) h2
    unfold WOk at h1
    rw [canon_cols hv.1, hv.2, HCE.out] at h1
    exact h1
  subst hdif
  have HB10 := Lib.hid (HB9.out.trans (hb10.mono HB9.out.size))
  clear hd hb10 hv
  go_wp2_with fail
  go_ret
  exact ⟨rfl, HB10.out⟩
end Go.Proofs.Ytgaahpddlohjoaa
