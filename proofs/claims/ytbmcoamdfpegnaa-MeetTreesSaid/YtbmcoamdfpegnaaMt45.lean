/- MkIntoT -/
import Derived.Test.YtbmcoamdfpegnaaMt08
import Derived.Test.YtbmcoamdfpegnaaMt43
import Derived.Test.YtbmcoamdfpegnaaMt44
namespace Go.Proofs.Ytbmcoamdfpegnaa
open Go.RowKit Go.Maps
theorem dto_rowV {d : DfaD} (hv : Valid d) {q : Nat} {row : List Int} (hr : d.2.2[q]? = some row) {c : Int} (h0 : 0 ≤ c) (h1 : c < (cols d : Int)) : c.toNat < row.length ∧ row[c.toNat]? = some (dto d (q : Int) c) := by
 have h2 := hv.rows row (List.mem_of_getElem? hr)
 have h3 : c.toNat < row.length := by rw [h2.1]; omega
 have h4 : dto d (q : Int) c = row[c.toNat] := by
  unfold dto
  rw [if_neg (by omega), Int.toNat_natCast, hr, Option.getD_some, List.getElem?_eq_getElem h3]
  rfl
 exact ⟨h3, by rw [h4, List.getElem?_eq_getElem h3]⟩
theorem dto_less (d : DfaD) {s : Int} (h : s < 0) (c : Int) : dto d s c = -1 := by unfold dto; rw [if_pos h]
def IntoTR (g : GramD) (d : DfaD) (t : TreeD) (base : Nat) (e : Ending) (w' : World) : Prop :=
 ∃ (M : Mkr) (W L : List TriD), PrIn M W L ∧ (∀ t ∈ W, M.Tri t) ∧ M.d = d ∧ M.R = g.2.2.2 ∧ M.st = g.2.2.1.toNat ∧
  ((4000 < (allPR M W L).length ∧ e = .returned (.tuple #[.agg #[.int .i64 0, .int .i64 0, .slice none 0 0], .int .i64 2])) ∨
   ((allPR M W L).length ≤ 4000 ∧ ((daccept d (wordT t) = false ∧ e = .returned (.tuple #[.agg #[.int .i64 0, .int .i64 0, .slice none 0 0], .int .i64 10])) ∨
    (daccept d (wordT t) = true ∧ ∃ (X : TreeD) (A : Option Addr) (m c : Nat), IntoD M W L t X ∧ e = .returned (.tuple #[.agg #[.int .i64 X.rule, .int .i64 X.term, .slice A m c], .int .i64 0]) ∧ Sl RTree w' (fun b => base ≤ b) A m c X.kids))))
set_option linter.unusedSimpArgs false in
set_option maxRecDepth 100000 in
set_option maxHeartbeats 8000000 in
theorem mkInto (w : World) (S S' : Nat → Prop) (g : GramD) (d : DfaD) (h : MeetIn g d) (AR : Option Addr) (nR cR : Nat) (hg : Sl RRule w S AR nR cR g.2.2.2) (A : Option Addr) (nA cA : Nat) (hA : Sl Rep.int w S A nA cA d.2.1) (NN : Option Addr) (n cN : Nat) (hN : Sl RI w S NN n cN d.2.2) (t : TreeD) (At : Option Addr) (mt ct : Nat) (hs : Sl RTree w S' At mt ct t.kids) (ht : TV g.2.2.2 (false, g.2.2.1) t) (hsz : sizeT t ≤ 5000) :
    Calls Try.prog 15 #[.agg #[.int .i64 g.1, .int .i64 g.2.1, .int .i64 g.2.2.1, .slice AR nR cR], .agg #[.int .i64 d.1, .slice A nA cA, .slice NN n cN], .agg #[.int .i64 t.rule, .int .i64 t.term, .slice At mt ct]] w fun e w' => IntoTR g d t w.heap.size e w' ∧ Below w.heap.size w w' := by
 obtain ⟨gT, gN, gs, R⟩ := g
 obtain ⟨T, rfl⟩ : ∃ T : Nat, gT = (T : Int) := ⟨gT.toNat, by have := h.gv.t1; simp only at this; omega⟩
 obtain ⟨N, rfl⟩ : ∃ N : Nat, gN = (N : Int) := ⟨gN.toNat, by have := h.gv.n1; simp only at this; omega⟩
 obtain ⟨st, rfl⟩ : ∃ st : Nat, gs = (st : Int) := ⟨gs.toNat, by have := h.gv.st; simp only at this; omega⟩
 obtain ⟨d1, dA, dN⟩ := d
 obtain ⟨ds, rfl⟩ : ∃ ds : Nat, d1 = (ds : Int) := ⟨d1.toNat, by have := h.dv.st; simp only at this; omega⟩
 simp only at hg hA hN ht ⊢
 obtain ⟨tr, htr⟩ : ∃ tr, tr = t.rule := ⟨_, rfl⟩
 obtain ⟨tt, htt⟩ : ∃ tt, tt = t.term := ⟨_, rfl⟩
 rw [← htr, ← htt]
 obtain ⟨w1, hw1⟩ : ∃ w1 : World, w1 = (((w.alloc (.cells #[.int .i64 (T : Int), .int .i64 (N : Int), .int .i64 (st : Int), .slice AR nR cR] 25)).alloc (.cells #[.int .i64 (ds : Int), .slice A nA cA, .slice NN n cN] 28)).alloc (.cells #[.int .i64 tr, .int .i64 tt, .slice At mt ct] 55)).alloc (.cells #[.int .i64 0, .int .i64 0, .slice none 0 0] 55) := ⟨_, rfl⟩
 have hz1 : w1.heap.size = w.heap.size + 4 := by rw [hw1]; simp
 have hb1 : Below w.heap.size w w1 := by rw [hw1]; exact ((((Below.refl _ _).alloc (Nat.le_refl _) _).alloc (by simp) _).alloc (by simp; omega) _).alloc (by simp; omega) _
 have b1 : w1.heap[w.heap.size]? = some (.cells #[.int .i64 (T : Int), .int .i64 (N : Int), .int .i64 (st : Int), .slice AR nR cR] 25 (0, 0)) := by rw [hw1]; exact (Below.heap_alloc _ _ _ (by simp <;> omega)).trans ((Below.heap_alloc _ _ _ (by simp <;> omega)).trans ((Below.heap_alloc _ _ _ (by simp)).trans (heap_alloc_new w _)))
 have b2 : w1.heap[w.heap.size + 1]? = some (.cells #[.int .i64 (ds : Int), .slice A nA cA, .slice NN n cN] 28 (0, 0)) := by rw [hw1]; exact (Below.heap_alloc _ _ _ (by simp <;> omega)).trans ((Below.heap_alloc _ _ _ (by simp)).trans (heap_new _ _ _ (by simp)))
 have b3 : w1.heap[w.heap.size + 2]? = some (.cells #[.int .i64 tr, .int .i64 tt, .slice At mt ct] 55 (0, 0)) := by rw [hw1]; exact (Below.heap_alloc _ _ _ (by simp)).trans (heap_new _ _ _ (by simp))
 have b4 : w1.heap[w.heap.size + 3]? = some (.cells #[.int .i64 0, .int .i64 0, .slice none 0 0] 55 (0, 0)) := by rw [hw1]; exact heap_new _ _ _ (by simp)
 have HALL := Lib.hid (show ∀ u : World, Below w1.heap.size w1 u → (u.cell? ⟨w.heap.size, 0, none⟩ = some (.int .i64 (T : Int)) ∧ u.cell? ⟨w.heap.size, 1, none⟩ = some (.int .i64 (N : Int)) ∧ u.cell? ⟨w.heap.size, 2, none⟩ = some (.int .i64 (st : Int)) ∧ u.cell? ⟨w.heap.size, 3, none⟩ = some (.slice AR nR cR)) ∧
     (u.cell? ⟨w.heap.size + 1, 0, none⟩ = some (.int .i64 (ds : Int)) ∧ u.cell? ⟨w.heap.size + 1, 1, none⟩ = some (.slice A nA cA) ∧ u.cell? ⟨w.heap.size + 1, 2, none⟩ = some (.slice NN n cN)) ∧
     (u.cell? ⟨w.heap.size + 2, 0, none⟩ = some (.int .i64 tr) ∧ u.cell? ⟨w.heap.size + 2, 1, none⟩ = some (.int .i64 tt) ∧ u.cell? ⟨w.heap.size + 2, 2, none⟩ = some (.slice At mt ct)) from fun u hu => by
  have e1 := (hu.block _ (by omega)).trans b1
  have e2 := (hu.block _ (by omega)).trans b2
  have e3 := (hu.block _ (by omega)).trans b3
  simp [World.cell?, e1, e2, e3])
 have HB1 := Lib.hid hb1
 have HW1 := Lib.hid hw1
 have HZ1 := Lib.hid hz1
 have HRES := Lib.hid b4
 have HH := Lib.hid h
 have HG1 := Lib.hid (hg.fit.below hb1)
 have HA1 := Lib.hid (hA.fit.below hb1)
 have HN1 := Lib.hid (hN.fit.below hb1)
 have HS1 := Lib.hid (hs.fit.below hb1)
 have HTV := Lib.hid ht
 have hso : SymOk (T : Int) (N : Int) (false, (st : Int)) := by
  have := h.gv.st
  unfold SymOk
  simp only [Bool.false_eq_true, if_false]
  exact this
 have HCK := Lib.hid (show ∀ u : World, Below w1.heap.size w1 u → Calls Try.prog 37 #[.agg #[.int .i64 (T : Int), .int .i64 (N : Int), .int .i64 (st : Int), .slice AR nR cR], .agg #[.int .i64 tr, .int .i64 tt, .slice At mt ct]] u fun e w' => e = .returned (.int .i64 0) ∧ Below u.heap.size u w' from fun u hu => by
  have h1 := treeCheck u _ _ AR nR cR ((T : Int), (N : Int), (st : Int), R) (HG1.out.below hu) h.gv t (false, (st : Int)) At mt ct (HS1.out.below hu) ht hso hsz
  rw [← htr, ← htt] at h1
  exact h1)
 have HRT := Lib.hid (show ∀ u : World, Below w1.heap.size w1 u → Calls Try.prog 38 #[.agg #[.int .i64 (T : Int), .int .i64 (N : Int), .int .i64 (st : Int), .slice AR nR cR], .agg #[.int .i64 tr, .int .i64 tt, .slice At mt ct]] u fun e w' => e = .returned (.agg #[.bool false, .int .i64 (st : Int)]) ∧ Below u.heap.size u w' from fun u hu => by
  have h1 := gramRoot u _ AR nR cR ((T : Int), (N : Int), (st : Int), R) (HG1.out.below hu) (false, (st : Int)) t ht At mt ct
  rw [← htr, ← htt] at h1
  exact h1)
 have HWD := Lib.hid (show ∀ u : World, Below w1.heap.size w1 u → Calls Try.prog 17 #[.agg #[.int .i64 tr, .int .i64 tt, .slice At mt ct]] u fun e w' => ∃ A' c', e = .returned (.slice A' (wordT t).length c') ∧ Rd w' (fun b => u.heap.size ≤ b) 1 A' (wordT t).length ((wordT t).map (Value.int .i64)) ∧ (wordT t).length ≤ c' ∧ Below u.heap.size u w' from fun u hu => by
  have h1 := treeWord u _ t At mt ct (HS1.out.below hu) ht.leaves (by omega)
  rw [← htr, ← htt] at h1
  exact h1)
 have HTT := Lib.hid (And.intro htr htt)
 have HSZ := Lib.hid hsz
 clear b1 b2 b3 b4 hw1 hb1 hg hA hN hs ht htr htt hso hz1 h hsz
 go_enter Try.func15, Try.ntmps15
 go_wp2_with fail
 rw [← HW1.out]
 refine (mkCheck w1 _ ((T : Int), (N : Int), (st : Int), R) ((ds : Int), dA, dN) HH.out AR nR cR HG1.out A nA cA HA1.out NN n cN HN1.out).mono ?_
 rintro e w2 ⟨rfl, hb2⟩
 have HB2 := Lib.hid hb2
 obtain ⟨⟨k0, k1, k2, k3⟩, ⟨k4, k5, k6⟩, k7, k8, k9⟩ := HALL.out w2 hb2
 clear hb2
 go_wp2_with fail
 clear k0 k1 k2 k3 k4 k5 k6 k7 k8 k9
 refine (HCK.out w2 HB2.out).mono ?_
 rintro e w3 ⟨rfl, hb3⟩
 have HB3 := Lib.hid (HB2.out.trans (hb3.mono HB2.out.size))
 clear hb3
 go_wp2_with fail
 have hse : (!(false == false && (st : Int) == (st : Int))) = false := by simp
 have HNE := Lib.hid (fun u => (neqSymM false false (st : Int) (st : Int) u).trans (by rw [hse]))
 clear hse
 refine wp_region_late (late := []) (S1 := fun u => (u.cell? ⟨w.heap.size, 0, none⟩ = some (.int .i64 (T : Int)) ∧ u.cell? ⟨w.heap.size, 1, none⟩ = some (.int .i64 (N : Int)) ∧ u.cell? ⟨w.heap.size, 2, none⟩ = some (.int .i64 (st : Int)) ∧ u.cell? ⟨w.heap.size, 3, none⟩ = some (.slice AR nR cR)) ∧
     (u.cell? ⟨w.heap.size + 1, 0, none⟩ = some (.int .i64 (ds : Int)) ∧ u.cell? ⟨w.heap.size + 1, 1, none⟩ = some (.slice A nA cA) ∧ u.cell? ⟨w.heap.size + 1, 2, none⟩ = some (.slice NN n cN)) ∧
     (u.cell? ⟨w.heap.size + 2, 0, none⟩ = some (.int .i64 tr) ∧ u.cell? ⟨w.heap.size + 2, 1, none⟩ = some (.int .i64 tt) ∧ u.cell? ⟨w.heap.size + 2, 2, none⟩ = some (.slice At mt ct))) (S := fun _ => True) (by kernel_rfl) ?_
 refine wpAnyL_pure (i := 0) rfl (by kernel_rfl) (fun _ _ _ h => h) (Or.inl ⟨by rfl, (fun u hu => by obtain ⟨⟨k0, k1, k2, k3⟩, ⟨k4, k5, k6⟩, k7, k8, k9⟩ := hu; go_simp; try rfl)⟩) (HALL.out _ HB3.out.drew) (fun _ => trivial) ?_
 simp only [Act.put, List.setIfInBounds_toArray, List.set_cons_zero, List.set_cons_succ, List.getElem_toArray, List.getElem_cons_zero, List.getElem_cons_succ]
 refine wpAnyL_pure (i := 1) rfl (by kernel_rfl) (fun _ _ _ h => h) (Or.inl ⟨by rfl, (fun u hu => by obtain ⟨⟨k0, k1, k2, k3⟩, ⟨k4, k5, k6⟩, k7, k8, k9⟩ := hu; go_simp; try rfl)⟩) (HALL.out _ HB3.out.drew) (fun _ => trivial) ?_
 simp only [Act.put, List.setIfInBounds_toArray, List.set_cons_zero, List.set_cons_succ, List.getElem_toArray, List.getElem_cons_zero, List.getElem_cons_succ]
 refine wpAnyL_pure (i := 3) rfl (by kernel_rfl) (fun _ _ _ h => h) (Or.inl ⟨by rfl, (fun u hu => by obtain ⟨⟨k0, k1, k2, k3⟩, ⟨k4, k5, k6⟩, k7, k8, k9⟩ := hu; go_simp; try rfl)⟩) (HALL.out _ HB3.out.drew) (fun _ => trivial) ?_
 simp only [Act.put, List.setIfInBounds_toArray, List.set_cons_zero, List.set_cons_succ, List.getElem_toArray, List.getElem_cons_zero, List.getElem_cons_succ]
 refine wpAnyL_pure (i := 4) rfl (by kernel_rfl) (fun _ _ _ h => h) (Or.inl ⟨by rfl, (fun u hu => by obtain ⟨⟨k0, k1, k2, k3⟩, ⟨k4, k5, k6⟩, k7, k8, k9⟩ := hu; go_simp; try rfl)⟩) (HALL.out _ HB3.out.drew) (fun _ => trivial) ?_
 simp only [Act.put, List.setIfInBounds_toArray, List.set_cons_zero, List.set_cons_succ, List.getElem_toArray, List.getElem_cons_zero, List.getElem_cons_succ]
 refine wpAnyL_ready (rs := [2]) (by kernel_rfl) (by simp) ?_
 refine AllL.cons rfl (fun K hK => ?_) ?_
 ·
  go_simp
  refine (HRT.out w3.drew HB3.out.drew).mono ?_
  rintro e w4 ⟨rfl, hb4⟩
  have HB4 := Lib.hid (HB3.out.trans (((Below.refl w3.heap.size w3).drew.trans hb4).mono HB3.out.size))
  clear hb4
  refine hK.out _ _ (HALL.out _ HB4.out) (fun _ => trivial) ?_
  clear hK K
  refine wpAnyL_ready (rs := [5]) (by kernel_rfl) (by simp) ?_
  refine AllL.cons rfl (fun K hK => ?_) ?_
  ·
   go_simp
   refine (gramNM (st : Int) w4).mono ?_
   rintro e w5 ⟨rfl, hb5⟩
   have HB5 := Lib.hid (HB4.out.trans (hb5.mono HB4.out.size))
   clear hb5
   refine hK.out _ _ (HALL.out _ HB5.out) (fun _ => trivial) ?_
   clear hK K
   refine wpAnyL_pure (i := 6) (v := .bool false) rfl (by kernel_rfl) (fun _ _ _ h => h) (Or.inl ⟨by rfl, (fun u hu => by have heq := HNE.out u; go_simp; try rfl)⟩) (HALL.out _ HB5.out) (fun _ => trivial) ?_
   simp only [Act.put, List.setIfInBounds_toArray, List.set_cons_zero, List.set_cons_succ, List.getElem_toArray, List.getElem_cons_zero, List.getElem_cons_succ]
   refine wpAnyL_done (by kernel_rfl) ?_ _
   obtain ⟨⟨k0, k1, k2, k3⟩, ⟨k4, k5, k6⟩, k7, k8, k9⟩ := HALL.out w5 HB5.out
   go_wp2_with fail
   clear k0 k1 k2 k3 k4 k5 k6 k7 k8 k9
   refine (mkStart w5 _ ((T : Int), (N : Int), (st : Int), R) ((ds : Int), dA, dN) HH.out AR nR cR (HG1.out.below HB5.out) A nA cA (HA1.out.below HB5.out) NN n cN (HN1.out.below HB5.out)).mono ?_
   rintro e w6 ⟨⟨M, V, hM, e1, e2, e3, e4, e5, rfl, hin, hw, hc, hbm⟩, hb6⟩
   simp only at e2 e3 e4 e5
   rw [Int.toNat_natCast] at e3 e4 e5
   have HIN := Lib.hid hin
   have HM := Lib.hid hM
   have HE := Lib.hid (And.intro e1 (And.intro e2 (And.intro e3 (And.intro e4 e5))))
   have HWC := Lib.hid (And.intro hw hc)
   have HB6 := Lib.hid (HB5.out.trans (hb6.mono HB5.out.size))
   clear hM e1 e2 e3 e4 e5 hin hw hc hbm hb6
   go_wp2_with fail
   refine (mkProduct M HM.out w6 V HIN.out).mono ?_
   rintro e w7 ⟨⟨L, hp, hL, hT, hof⟩, hb7⟩
   have HPR := Lib.hid (show PrIn M V L from ⟨HM.out, HWC.out.1, HWC.out.2, hp, hL, hT⟩)
   have hb17 := HB6.out.trans (hb7.mono HB6.out.size)
   have HB7 := Lib.hid hb17
   have hz7 : w.heap.size + 4 ≤ w7.heap.size := by have := hb17.size; have := HZ1.out; omega
   have hz76 := hb7.size
   have hz61 := HB6.out.size
   clear hb7
   clear hp hL hT hb17
   rcases hof with ⟨h4, FR, FF, FN, vR, vN, vF, Bq, rfl, hgr, hgn, hgf, hkm, hfb, hbq⟩ | ⟨hlong, rfl⟩
   ·
    obtain ⟨AP, cP, rfl, _⟩ := hgr.form
    obtain ⟨AN, cNn, rfl, _⟩ := hgn.form
    obtain ⟨AF, cF, rfl, _⟩ := hgf.form
    obtain ⟨nP, hnP⟩ : ∃ nP, nP = ((allPR M V L).map fun x => x.1).length := ⟨_, rfl⟩
    obtain ⟨nN, hnN⟩ : ∃ nN, nN = (((-1, -1, -1) : Int × Int × Int) :: L.map triZ).length := ⟨_, rfl⟩
    obtain ⟨nF, hnF⟩ : ∃ nF, nF = ((allPR M V L).map fun x => x.2.1).length := ⟨_, rfl⟩
    obtain ⟨nn, hnn⟩ : ∃ nn, nn = L.length + 1 := ⟨_, rfl⟩
    obtain ⟨MT, hMT⟩ : ∃ MT, MT = M.T := ⟨_, rfl⟩
    rw [← hnP, ← hnN, ← hnF, ← hnn, ← hMT]
    have HFEW := Lib.hid h4
    obtain ⟨w8, hw8⟩ : ∃ w8 : World, w8 = (w7.alloc (.cells #[.int .i64 (MT : Int), .int .i64 (nn : Int), .int .i64 0, .slice AP nP cP, .slice AN nN cNn, .slice AF nF cF] 34)).alloc (.cells #[.map (some Bq)] 69) := ⟨_, rfl⟩
    have hb78 : Below w7.heap.size w7 w8 := by rw [hw8]; exact ((Below.refl _ _).alloc (Nat.le_refl _) _).alloc (by simp) _
    have hz8 : w8.heap.size = w7.heap.size + 2 := by rw [hw8]; simp
    have HB8 := Lib.hid (HB7.out.trans (hb78.mono HB7.out.size))
    have HKM := Lib.hid (hkm.below hb78)
    have HMX := Lib.hid (show w8.cell? ⟨w7.heap.size + 1, 0, none⟩ = some (.map (some Bq)) by rw [hw8]; exact cell_of_one (heap_new _ _ _ (by simp)))
    have HW8 := Lib.hid hw8
    have HZ8 := Lib.hid hz8
    have HBQ := Lib.hid (show w6.heap.size ≤ Bq ∧ Bq < w7.heap.size from ⟨hbq, hkm.lt⟩)
    obtain ⟨⟨k0, k1, k2, k3⟩, ⟨k4, k5, k6⟩, k7, k8, k9⟩ := HALL.out w8 HB8.out
    rw [hw8] at k0 k1 k2 k3 k4 k5 k6 k7 k8 k9
    clear h4 hgr hgn hgf hkm hfb hbq hnP hnN hnF hnn hMT hw8 hb78 hz8
    go_wp2_with fail
    rw [← HW8.out]
    clear k0 k1 k2 k3 k4 k5 k6 k7 k8 k9
    refine (HWD.out w8 HB8.out).mono ?_
    rintro e w9 ⟨AW, cW, rfl, hwr, hcw, hb9⟩
    have HB9 := Lib.hid (HB8.out.trans (hb9.mono HB8.out.size))
    have HB89 := Lib.hid hb9
    obtain ⟨D, hD⟩ : ∃ D : DfaD, D = ((ds : Int), dA, dN) := ⟨_, rfl⟩
    have hdv : Valid D := by rw [hD]; exact HH.out.dv
    have HDV := Lib.hid hdv
    have HDD := Lib.hid hD
    have hwrg : ∀ c ∈ wordT t, 0 ≤ c ∧ c < (cols D : Int) := by
     obtain ⟨e1, e2, _, _, e5⟩ := HE.out
     have h1 := word_rng HM.out (t := t) (by rw [e2, e5]; exact HTV.out)
     rw [e1, ← hD] at h1
     exact h1
    have HWR := Lib.hid hwrg
    have hnl : n = D.2.2.length := by rw [hD]; exact HN1.out.len
    have hnA : nA = n := by rw [HA1.out.len, hnl, ← hdv.na, hD]
    have hwl : (wordT t).length ≤ 5000 := by
     have h1 : (wordT t).length ≤ sizeT t := by
      unfold wordT wordOf sizeT
      rw [List.length_map]
      exact List.length_filter_le _ _
     have := HSZ.out
     omega
    obtain ⟨lw, hlw⟩ : ∃ lw, lw = (wordT t).length := ⟨_, rfl⟩
    rw [← hlw] at hwr hcw hwl ⊢
    have HWRD := Lib.hid hwr
    have HLW := Lib.hid hlw
    have HNL := Lib.hid (And.intro hnl hnA)
    have hds : (ds : Int) < (n : Int) := by have h1 := hdv.st.2; rw [hD] at h1; rw [hnl, hD]; exact h1
    clear hD hdv hwrg hnl hnA hwr hcw hlw hb9
    go_wp2_with fail
    go_loopg [13, 58] lw (fun gk v13 v58 wr => ∃ (i : Nat) (x : Int), i ≤ lw ∧ gk = lw - i ∧ v58 = .int .i64 i ∧ v13 = .int .i64 x ∧ x = ((wordT t).take i).foldl (dto D) (ds : Int) ∧ (-1 ≤ x ∧ x < (n : Int)) ∧ Below w9.heap.size w9 wr)
    case atStart => exact ⟨0, (ds : Int), Nat.zero_le _, rfl, rfl, rfl, rfl, ⟨by omega, hds⟩, .refl _ _⟩
    case round =>
     obtain ⟨i, x, hi, hgk, rfl, rfl, hx, ⟨hx0, hx1⟩, hb90⟩ := hrel
     obtain ⟨wa, rfl⟩ : ∃ wa : World, wa = wr := ⟨_, rfl⟩
     have HGK := Lib.hid hgk
     have HX := Lib.hid hx
     have hb1a := HB9.out.trans (hb90.mono HB9.out.size)
     have HB9A := Lib.hid hb90
     have HB1A := Lib.hid hb1a
     clear hgk hx hb90
     obtain ⟨⟨k0, k1, k2, k3⟩, ⟨k4, k5, k6⟩, k7, k8, k9⟩ := HALL.out wa hb1a
     by_cases hil : i < lw
     ·
      obtain ⟨bW, oW, cc, rfl, _, hcw, hcc0⟩ := HWRD.out.int_at hil
      have hcc := (HB9A.out.cell (cell_lt hcc0)).trans hcc0
      have hcr := HWR.out cc (List.mem_of_getElem? hcw)
      have hiI : (i : Int) < (lw : Int) := by omega
      have hi0 : (0 : Int) ≤ (i : Int) := by omega
      have hfold : ((wordT t).take (i + 1)).foldl (dto D) (ds : Int) = dto D x cc := by rw [List.take_add_one, hcw, List.foldl_append, ← HX.out]; rfl
      have hrg := dto_range HDV.out (s := x) (c := cc) ⟨hx0, by rw [← HNL.out.1]; exact hx1⟩ hcr
      rw [← HNL.out.1] at hrg
      have HFO := Lib.hid hfold
      have HRG := Lib.hid hrg
      by_cases hxn : 0 ≤ x
      ·
       obtain ⟨xn, rfl⟩ : ∃ xn : Nat, x = (xn : Int) := ⟨x.toNat, by omega⟩
       obtain ⟨bN, oN, AR2, mr, cr2, row, hNN, hSb, _, hcr0, hrw, hsr⟩ := row_at (HN1.out.below hb1a) (k := xn) (by omega)
       subst hNN
       obtain ⟨g1, g2⟩ := dto_rowV HDV.out (q := xn) (row := row) (by rw [HDD.out]; exact hrw) hcr.1 hcr.2
       obtain ⟨cn, hcn⟩ : ∃ cn : Nat, cc = (cn : Int) := ⟨cc.toNat, by omega⟩
       subst hcn
       rw [Int.toNat_natCast] at g1 g2
       have hmr := hsr.len
       obtain ⟨bR, oR, y, rfl, _, hy, hcy⟩ := hsr.ints.int_at (k := cn) (by omega)
       rw [g2] at hy
       obtain ⟨dx, hdx⟩ : ∃ dx, dx = dto D (xn : Int) (cn : Int) := ⟨_, rfl⟩
       rw [← hdx] at hy HFO HRG
       obtain rfl : dx = y := Option.some.inj hy
       have hcI : (cn : Int) < (mr : Int) := by omega
       have hc0 : (0 : Int) ≤ (cn : Int) := by omega
       clear hcc0 hcw hfold hrg hcr hSb hrw hsr g1 g2 hmr hy hdx hb1a
       go_wp2_with fail
       go_roundg (lw - (i + 1))
       case measure => rw [HGK.out]; omega
       case rel => exact ⟨i + 1, _, by omega, rfl, by go_num, rfl, HFO.out.symm, HRG.out, HB9A.out⟩
      ·
       have hxm : x = -1 := by omega
       subst hxm
       have h3 := dto_less D (s := -1) (by omega) cc
       rw [h3] at HFO HRG
       clear hcc0 hcw hfold hrg hcr h3 hb1a
       go_wp2_with fail
       go_roundg (lw - (i + 1))
       case measure => rw [HGK.out]; omega
       case rel => exact ⟨i + 1, -1, by omega, rfl, by go_num, rfl, HFO.out.symm, HRG.out, HB9A.out⟩
     ·
      obtain rfl : i = lw := by omega
      have hxd : drun D (wordT t) = x := by
       rw [HX.out, HLW.out, List.take_length, HDD.out]
       rfl
      have HXD := Lib.hid hxd
      clear hxd
      clear k0 k1 k2 k3
      obtain ⟨r0, r1, r2, f0, f1, f2⟩ := tree_cells' ((hb1a.block _ (heap_lt HRES.out)).trans HRES.out)
      have hlr : w.heap.size + 1 + 1 + 1 < wa.heap.size := cell_lt r0
      rw [show w.heap.size + 3 = w.heap.size + 1 + 1 + 1 from rfl] at r0 r1 r2 f0 f1 f2
      have HD := Lib.hid (And.intro r0 (And.intro r1 (And.intro r2 hlr)))
      have hset : ∀ (u : World) (q : Nat) (v : Value), Below w.heap.size u (u.setCell ⟨w.heap.size + 1 + 1 + 1, q, none⟩ v) := fun u q v => (Below.refl _ _).setCell (by show w.heap.size ≤ w.heap.size + 1 + 1 + 1; omega) _
      have HSET := Lib.hid hset
      clear hset hb1a
      by_cases hxn : x < 0
      ·
       have hdat : daccept D (wordT t) = false := by
        unfold daccept dat
        rw [HXD.out, if_pos hxn]
        rfl
       clear k4 k5 k6 k7 k8 k9
       go_wp2_with fail
       obtain ⟨r0, r1, r2, hlr⟩ := HD.out
       refine Go.bodyPost_ret (v := .tuple #[.agg #[.int .i64 0, .int .i64 0, .slice none 0 0], .int .i64 10]) ?_ rfl ?_
       ·
        rw [results_cell_tmp rfl]
        simp [go_sem, r0, r1, r2, hlr]
       ·
        obtain ⟨e1, e2, _, _, e5⟩ := HE.out
        refine ⟨⟨M, V, L, HPR.out, HIN.out.rng, e1, e2, by rw [e5]; rfl, .inr ⟨HFEW.out, .inl ⟨by rw [← HDD.out]; exact hdat, rfl⟩⟩⟩, ?_⟩
        exact HB1.out.trans ((HB1A.out.mono (by have := HZ1.out; omega)).trans (((HSET.out _ 0 _).trans (HSET.out _ 1 _)).trans (HSET.out _ 2 _)))
      ·
       obtain ⟨xn, rfl⟩ : ∃ xn : Nat, x = (xn : Int) := ⟨x.toNat, by omega⟩
       obtain ⟨bA, oA, va, rfl, _, hva, hca⟩ := (HA1.out.below HB1A.out).ints.int_at (k := xn) (by have := HNL.out.2; omega)
       have hdat : dat D (xn : Int) = va := by
        unfold dat
        rw [if_neg (by omega), Int.toNat_natCast, HDD.out]
        simp only
        rw [hva]
        rfl
       have hxA : (xn : Int) < (nA : Int) := by have := HNL.out.2; omega
       have hx00 : (0 : Int) ≤ (xn : Int) := by omega
       have HDAT := Lib.hid hdat
       clear hva hdat
       by_cases hvn : va < 0
       ·
        have hdac : daccept D (wordT t) = false := by
         unfold daccept
         rw [HXD.out, HDAT.out]
         simpa using hvn
        go_wp2_with fail
        obtain ⟨r0, r1, r2, hlr⟩ := HD.out
        refine Go.bodyPost_ret (v := .tuple #[.agg #[.int .i64 0, .int .i64 0, .slice none 0 0], .int .i64 10]) ?_ rfl ?_
        ·
         rw [results_cell_tmp rfl]
         simp [go_sem, r0, r1, r2, hlr]
        ·
         obtain ⟨e1, e2, _, _, e5⟩ := HE.out
         refine ⟨⟨M, V, L, HPR.out, HIN.out.rng, e1, e2, by rw [e5]; rfl, .inr ⟨HFEW.out, .inl ⟨by rw [← HDD.out]; exact hdac, rfl⟩⟩⟩, ?_⟩
         exact HB1.out.trans ((HB1A.out.mono (by have := HZ1.out; omega)).trans (((HSET.out _ 0 _).trans (HSET.out _ 1 _)).trans (HSET.out _ 2 _)))
       ·
        have hdac : daccept D (wordT t) = true := by
         unfold daccept
         rw [HXD.out, HDAT.out]
         simpa using hvn
        have HDAC := Lib.hid hdac
        clear hdac
        obtain ⟨wb, hwb⟩ : ∃ wb : World, wb = wa.alloc (.cells #[.int .i64 (ds : Int)] 3) := ⟨_, rfl⟩
        obtain ⟨wc, hwc⟩ : ∃ wc : World, wc = wb.alloc (.cells #[.func (.func 40) #[] #[.pointer (some ⟨w.heap.size + 1, 0, none⟩), .pointer (some ⟨wa.heap.size, 0, none⟩), .pointer (some ⟨wa.heap.size + 1, 0, none⟩), .pointer (some ⟨w.heap.size, 0, none⟩), .pointer (some ⟨w7.heap.size + 1, 0, none⟩)]] 89) := ⟨_, rfl⟩
        have hzb : wb.heap.size = wa.heap.size + 1 := by rw [hwb]; simp
        have hzc : wc.heap.size = wa.heap.size + 2 := by rw [hwc, World.size_alloc, hzb]
        have hbac : Below wa.heap.size wa wc := by rw [hwc, hwb]; exact ((Below.refl _ _).alloc (Nat.le_refl _) _).alloc (by simp) _
        have hb1c := HB1A.out.trans (hbac.mono HB1A.out.size)
        have hb8c : Below w8.heap.size w8 wc := HB89.out.trans ((HB9A.out.trans (hbac.mono HB9A.out.size)).mono HB89.out.size)
        have hza : w7.heap.size + 2 ≤ wa.heap.size := by have := HZ8.out; have := HB89.out.size; have := HB9A.out.size; omega
        obtain ⟨⟨c0, c1, c2, c3⟩, ⟨c4, c5, c6⟩, c7, c8, c9⟩ := HALL.out wc hb1c
        have hstc : wc.heap[wa.heap.size]? = some (.cells #[.int .i64 (ds : Int)] 3 (0, 0)) := by rw [hwc, Below.heap_alloc _ _ _ (by omega), hwb]; exact heap_alloc_new _ _
        have hfnc : wc.cell? ⟨wa.heap.size + 1, 0, none⟩ = some (.func (.func 40) #[] #[.pointer (some ⟨w.heap.size + 1, 0, none⟩), .pointer (some ⟨wa.heap.size, 0, none⟩), .pointer (some ⟨wa.heap.size + 1, 0, none⟩), .pointer (some ⟨w.heap.size, 0, none⟩), .pointer (some ⟨w7.heap.size + 1, 0, none⟩)]) := by rw [hwc]; exact cell_of_one (heap_new _ _ _ hzb)
        have HIB := Lib.hid (show IBx M V L ⟨w.heap.size + 1, wa.heap.size, wa.heap.size + 1, w.heap.size, w7.heap.size + 1, Bq, AR, nR, cR, NN, n, cN, fun b => b < w.heap.size⟩ wc ds from by
         obtain ⟨e1, e2, _, _, _⟩ := HE.out
         have hbq := HBQ.out
         refine ⟨c6, ?_, hfnc, c3, ?_, (hb8c.cell (cell_lt HMX.out)).trans HMX.out, HKM.out.below hb8c, hstc, ⟨?_, ?_, ?_, ?_, ?_⟩, fun b hb => ?_⟩
         ·
          rw [e1]; exact (HN1.out.below hb1c).more fun b hb => hb.2
         ·
          rw [e2]; exact (HG1.out.below hb1c).more fun b hb => hb.2
         ·
          show wa.heap.size ≠ w.heap.size + 1; omega
         ·
          show wa.heap.size ≠ wa.heap.size + 1; omega
         ·
          show wa.heap.size ≠ w.heap.size; omega
         ·
          show wa.heap.size ≠ w7.heap.size + 1; omega
         ·
          show wa.heap.size ≠ Bq; omega
         ·
          show b ≠ wa.heap.size ∧ b < wc.heap.size
          have hb : b < w.heap.size := hb
          omega)
        obtain ⟨X, hX⟩ : ∃ X, IntoD M V L t X := by
         obtain ⟨e1, e2, _, _, e5⟩ := HE.out
         refine into_ex HPR.out (by rw [e2, e5]; exact HTV.out) (z := xn) ?_ ?_
         ·
          have h1 := HXD.out
          unfold drun at h1
          rw [HDD.out] at h1
          rw [e1]
          exact h1
         ·
          rw [e1, ← HDD.out, HDAT.out]
          omega
        have HXI := Lib.hid hX
        obtain ⟨xt, jx, z, hXe, him, hfz, hroot, hlk, hin2⟩ := hX
        have hdsq : M.d.1.toNat = ds := by rw [HE.out.1]; exact Int.toNat_natCast ds
        have hzx : z = xn := by
         have h1 := HXD.out
         unfold drun at h1
         rw [HDD.out] at h1
         rw [HE.out.1] at hfz
         have : (xn : Int) = (z : Int) := by rw [← h1, ← hfz]
         omega
        subst hzx
        rw [hdsq] at him hlk hin2
        have hMst : M.st = st := HE.out.2.2.2.2
        rw [hMst] at hlk hin2
        have HXE := Lib.hid hXe
        have HLK := Lib.hid hlk
        have HIN2 := Lib.hid hin2
        have HCALL := Lib.hid (show Calls Try.prog 40 #[.agg #[.int .i64 tr, .int .i64 tt, .slice At mt ct], .pointer (some ⟨w.heap.size + 1, 0, none⟩), .pointer (some ⟨wa.heap.size, 0, none⟩), .pointer (some ⟨wa.heap.size + 1, 0, none⟩), .pointer (some ⟨w.heap.size, 0, none⟩), .pointer (some ⟨w7.heap.size + 1, 0, none⟩)] wc (IntoR ⟨w.heap.size + 1, wa.heap.size, wa.heap.size + 1, w.heap.size, w7.heap.size + 1, Bq, AR, nR, cR, NN, n, cN, fun b => b < w.heap.size⟩ xt z wc) from by
         obtain ⟨e1, e2, _, _, e5⟩ := HE.out
         have h1 := mkInto1 HPR.out (sizeT t) t (false, (st : Int)) ds z xt ⟨w.heap.size + 1, wa.heap.size, wa.heap.size + 1, w.heap.size, w7.heap.size + 1, Bq, AR, nR, cR, NN, n, cN, fun b => b < w.heap.size⟩ wc (fun b => b < w.heap.size) At mt ct (Nat.le_refl _) (by rw [e2]; exact HTV.out) (fun e => by cases e) (by rw [e1]; have := HNL.out.1; rw [HDD.out] at this; simp only at this ⊢; omega) him HIB.out ((HS1.out.below hb1c).more fun b hb => hb.2) (fun b hb => by show b ≠ wa.heap.size; have hb : b < w.heap.size := hb; omega)
         rw [← HTT.out.1, ← HTT.out.2] at h1
         exact h1)
        have HB1C := Lib.hid hb1c
        have HBAC := Lib.hid hbac
        have HMC := Lib.hid (And.intro ((hb8c.cell (cell_lt HMX.out)).trans HMX.out) (HKM.out.below hb8c))
        have HZC := Lib.hid hzc
        have HZA := Lib.hid hza
        have he := entersInto
        have HWC2 := Lib.hid (show wc = (wa.alloc (.cells #[.int .i64 (ds : Int)] 3)).alloc (.cells #[.func (.func 40) #[] #[.pointer (some ⟨w.heap.size + 1, 0, none⟩), .pointer (some ⟨wa.heap.size, 0, none⟩), .pointer (some ⟨wa.heap.size + 1, 0, none⟩), .pointer (some ⟨w.heap.size, 0, none⟩), .pointer (some ⟨w7.heap.size + 1, 0, none⟩)]] 89) by rw [hwc, hwb])
        rw [HWC2.out] at c7 c8 c9
        clear hwb hwc hzb hzc hbac hb1c hb8c hza c0 c1 c2 c3 c4 c5 c6 hstc hfnc hXe him hfz hroot hlk hin2 r0 r1 r2 f0 f1 f2 hlr
        go_wp2_with fail
        rw [← HWC2.out]
        clear c7 c8 c9 k4 k5 k6 k7 k8 k9
        refine HCALL.out.mono ?_
        rintro e wd ⟨⟨A5, m5, c5, rfl, hx5⟩, hst5, ho5⟩
        have ho5 : Only wc wd (fun b => b = wa.heap.size) := ho5
        have hcd : ∀ (q : Addr) (v : Value), wc.cell? q = some v → q.block ≠ wa.heap.size → wd.cell? q = some v := fun q v hv hne => by
         rw [World.cell?_of_block (ho5.block q.block (cell_lt hv) hne)]
         exact hv
        obtain ⟨⟨_, _, k2, _⟩, ⟨k4, _, _⟩, _⟩ := HALL.out wc HB1C.out
        have hzc := HZC.out
        have hza := HZA.out
        have hzd := ho5.size
        obtain ⟨we, hwe⟩ : ∃ we : World, we = wd.alloc (.cells #[.int .i64 xt.rule, .int .i64 xt.term, .slice A5 m5 c5] 55) := ⟨_, rfl⟩
        have hbde : Below wd.heap.size wd we := by rw [hwe]; exact (Below.refl _ _).alloc (Nat.le_refl _) _
        have hze : we.heap.size = wd.heap.size + 1 := by rw [hwe]; simp
        have hxe : we.heap[wd.heap.size]? = some (.cells #[.int .i64 xt.rule, .int .i64 xt.term, .slice A5 m5 c5] 55 (0, 0)) := by rw [hwe]; exact heap_alloc_new _ _
        have HKF := Lib.hid (show ∀ u : World, Below we.heap.size we u → (u.cell? ⟨w7.heap.size + 1, 0, none⟩ = some (.map (some Bq)) ∧ AMap KS u Bq (kmOf (allPR M V L))) ∧ u.cell? ⟨w.heap.size + 1, 0, none⟩ = some (.int .i64 (ds : Int)) ∧ u.cell? ⟨w.heap.size, 2, none⟩ = some (.int .i64 (st : Int)) ∧ u.cell? ⟨wd.heap.size, 0, none⟩ = some (.int .i64 xt.rule) ∧ u.cell? ⟨wd.heap.size, 1, none⟩ = some (.int .i64 xt.term) ∧ u.cell? ⟨wd.heap.size, 2, none⟩ = some (.slice A5 m5 c5) from fun u hu => by
         have h3 := hbde.trans (hu.mono hbde.size)
         have e := (hu.block _ (heap_lt hxe)).trans hxe
         have g1 := hcd ⟨w7.heap.size + 1, 0, none⟩ _ HMC.out.1 (by show w7.heap.size + 1 ≠ wa.heap.size; omega)
         have g2 := HMC.out.2.only (X := fun b => b = wa.heap.size) ho5 (by have := HBQ.out; omega)
         have g3 := hcd ⟨w.heap.size + 1, 0, none⟩ _ k4 (by show w.heap.size + 1 ≠ wa.heap.size; omega)
         have g4 := hcd ⟨w.heap.size, 2, none⟩ _ k2 (by show w.heap.size ≠ wa.heap.size; omega)
         refine ⟨⟨(h3.cell (cell_lt g1)).trans g1, g2.below h3⟩, (h3.cell (cell_lt g3)).trans g3, (h3.cell (cell_lt g4)).trans g4, by simp [World.cell?, e], by simp [World.cell?, e], by simp [World.cell?, e]⟩)
        have HXS := Lib.hid (show Sl RTree we (fun b => wc.heap.size ≤ b) A5 m5 c5 xt.kids from hx5.below hbde)
        have hresc := (HB1C.out.block _ (heap_lt HRES.out)).trans HRES.out
        have HRESE := Lib.hid ((hbde.block _ (by omega)).trans ((ho5.block (w.heap.size + 3) (heap_lt hresc) (by omega)).trans hresc))
        have HBCE := Lib.hid (show Below wa.heap.size wa we from HBAC.out.trans ((ho5.below (B := wa.heap.size) (fun b e => by omega) (by omega)).trans (hbde.mono (by omega))))
        have HZE := Lib.hid (And.intro hze hzd)
        have HWE := Lib.hid hwe
        have hkey : KS.ok (strOf (keyD (ds, st, z) 255 [])) := by
         show (strOf (keyD (ds, st, z) 255 [])).size ≤ maxLen
         rw [strOf_size]
         have h2 : (keyD (ds, st, z) 255 []).length = 4 := by unfold keyD; simp
         rw [h2]
         unfold maxLen
         omega
        have HKY := Lib.hid hkey
        have hts : ds < 12 ∧ st < 256 ∧ z < 256 := by
         have h1 := HPR.out.hT _ HIN2.out
         unfold Mkr.Tri at h1
         simp only at h1
         have h2 := HPR.out.hM.n12
         have h3 := HPR.out.hM.g.n2
         simp only at h3
         omega
        have HTB := Lib.hid hts
        clear hcd k2 k4 hzc hza hzd hwe hbde hze hxe hresc hkey hts hx5 hst5 ho5
        go_wp2_with fail
        rw [← HWE.out]
        refine wp_region_late (late := [12]) (S1 := fun _ => True) (S := fun u => (u.cell? ⟨w7.heap.size + 1, 0, none⟩ = some (.map (some Bq)) ∧ AMap KS u Bq (kmOf (allPR M V L))) ∧ u.cell? ⟨w.heap.size + 1, 0, none⟩ = some (.int .i64 (ds : Int)) ∧ u.cell? ⟨w.heap.size, 2, none⟩ = some (.int .i64 (st : Int)) ∧ u.cell? ⟨wd.heap.size, 0, none⟩ = some (.int .i64 xt.rule) ∧ u.cell? ⟨wd.heap.size, 1, none⟩ = some (.int .i64 xt.term) ∧ u.cell? ⟨wd.heap.size, 2, none⟩ = some (.slice A5 m5 c5)) (by kernel_rfl) ?_
        have HQ0 := Lib.hid (show Below we.heap.size we we.drew from (Below.refl _ _).drew)
        refine wpAnyL_take (i := 0) rfl (by kernel_rfl) (fun _ _ _ h => h) (Or.inl ⟨by rfl, (fun u hu => by obtain ⟨_, ⟨g0, g1⟩, g2, g3, g4, g5, g6⟩ := hu; go_simp; try rfl)⟩) trivial (fun _ => (HKF.out _ HQ0.out)) ?_
        simp only [Act.put, List.setIfInBounds_toArray, List.set_cons_zero, List.set_cons_succ, List.getElem_toArray, List.getElem_cons_zero, List.getElem_cons_succ]
        refine wpAnyL_pure (i := 1) rfl (by kernel_rfl) (fun _ _ _ h => h) (Or.inl ⟨by rfl, (fun u hu => by go_simp; try rfl)⟩) trivial (fun _ => (HKF.out _ HQ0.out)) ?_
        simp only [Act.put, List.setIfInBounds_toArray, List.set_cons_zero, List.set_cons_succ, List.getElem_toArray, List.getElem_cons_zero, List.getElem_cons_succ]
        refine wpAnyL_take (i := 2) rfl (by kernel_rfl) (fun _ _ _ h => h) (Or.inl ⟨by rfl, (fun u hu => by obtain ⟨_, ⟨g0, g1⟩, g2, g3, g4, g5, g6⟩ := hu; go_simp; try rfl)⟩) trivial (fun _ => (HKF.out _ HQ0.out)) ?_
        simp only [Act.put, List.setIfInBounds_toArray, List.set_cons_zero, List.set_cons_succ, List.getElem_toArray, List.getElem_cons_zero, List.getElem_cons_succ]
        refine wpAnyL_pure (i := 3) rfl (by kernel_rfl) (fun _ _ _ h => h) (Or.inl ⟨by rfl, (fun u hu => by go_simp; try rfl)⟩) trivial (fun _ => (HKF.out _ HQ0.out)) ?_
        simp only [Act.put, List.setIfInBounds_toArray, List.set_cons_zero, List.set_cons_succ, List.getElem_toArray, List.getElem_cons_zero, List.getElem_cons_succ]
        refine wpAnyL_take (i := 4) rfl (by kernel_rfl) (fun _ _ _ h => h) (Or.inl ⟨by rfl, (fun u hu => by obtain ⟨_, ⟨g0, g1⟩, g2, g3, g4, g5, g6⟩ := hu; go_simp; try rfl)⟩) trivial (fun _ => (HKF.out _ HQ0.out)) ?_
        simp only [Act.put, List.setIfInBounds_toArray, List.set_cons_zero, List.set_cons_succ, List.getElem_toArray, List.getElem_cons_zero, List.getElem_cons_succ]
        refine wpAnyL_pure (i := 5) rfl (by kernel_rfl) (fun _ _ _ h => h) (Or.inl ⟨by rfl, (fun u hu => by go_simp; try rfl)⟩) trivial (fun _ => (HKF.out _ HQ0.out)) ?_
        simp only [Act.put, List.setIfInBounds_toArray, List.set_cons_zero, List.set_cons_succ, List.getElem_toArray, List.getElem_cons_zero, List.getElem_cons_succ]
        refine wpAnyL_pure (i := 6) rfl (by kernel_rfl) (fun _ _ _ h => h) (Or.inl ⟨by rfl, (fun u hu => by go_simp; try rfl)⟩) trivial (fun _ => (HKF.out _ HQ0.out)) ?_
        simp only [Act.put, List.setIfInBounds_toArray, List.set_cons_zero, List.set_cons_succ, List.getElem_toArray, List.getElem_cons_zero, List.getElem_cons_succ]
        refine wpAnyL_take (i := 9) rfl (by kernel_rfl) (fun _ _ _ h => h) (Or.inl ⟨by rfl, (fun u hu => by obtain ⟨_, ⟨g0, g1⟩, g2, g3, g4, g5, g6⟩ := hu; go_simp; try rfl)⟩) trivial (fun _ => (HKF.out _ HQ0.out)) ?_
        simp only [Act.put, List.setIfInBounds_toArray, List.set_cons_zero, List.set_cons_succ, List.getElem_toArray, List.getElem_cons_zero, List.getElem_cons_succ]
        refine wpAnyL_ready (rs := [7, 10]) (by kernel_rfl) (by simp) ?_
        refine AllL.cons rfl (fun K hK => ?_) ?_
        ·
         go_simp
         refine (mkKey (we.drew) (ds, st, z) (by have := HTB.out; simp only; omega) (by have := HTB.out; simp only; omega) (by have := HTB.out; simp only; omega) 255 (by omega) (fun _ => False) none 0 0 [] (Sl.nil _ _ _ _) (fun x hx => by cases hx) (by omega)).mono ?_
         rintro e w1k ⟨rfl, hb1⟩
         have HQ1 := Lib.hid (HQ0.out.trans (hb1.mono HQ0.out.size))
         clear hb1
         refine hK.out _ _ trivial (fun _ => (HKF.out _ HQ1.out)) ?_
         clear hK K
         refine wpAnyL_take (i := 8) rfl (by kernel_rfl) (fun _ _ _ h => h) (Or.inl ⟨by rfl, (fun u hu => by obtain ⟨_, ⟨g0, g1⟩, g2, g3, g4, g5, g6⟩ := hu; have hrun : (Instr.lookup 69 (.map (some Bq)) (.string (strOf (keyD (ds, st, z) 255 []))) false).run Try.prog u = .ok (.int .i64 (jx : Int)) u := (AMap.look (K := KS) g1 mapStrI zeroIM HKY.out).trans (by rw [HLK.out]; rfl); clear g1; go_simp; try rfl)⟩) trivial (fun _ => (HKF.out _ HQ1.out)) ?_
         simp only [Act.put, List.setIfInBounds_toArray, List.set_cons_zero, List.set_cons_succ, List.getElem_toArray, List.getElem_cons_zero, List.getElem_cons_succ]
         refine wpAnyL_ready (rs := [10]) (by kernel_rfl) (by simp) ?_
         refine AllL.cons rfl (fun K hK => ?_) ?_
         ·
          go_simp
          obtain ⟨w2k, hw2⟩ : ∃ u : World, u = (w1k).alloc (.cells #[.int .i64 xt.rule, .int .i64 xt.term, .slice A5 m5 c5] 55) := ⟨_, rfl⟩
          have hbn : Below (w1k).heap.size (w1k) w2k := by rw [hw2]; exact (Below.refl _ _).alloc (Nat.le_refl _) _
          have hsx := (HXS.out.below (HQ1.out)).below hbn
          have hwl : wc.heap.size ≤ (w1k).heap.size := by have := HQ1.out.size; have := HZE.out; omega
          have hrd : Rd w2k (fun b => wc.heap.size ≤ b) 1 (some ⟨w1k.heap.size, 0, none⟩) 3 [.int .i64 xt.rule, .int .i64 xt.term, .slice A5 m5 c5] := by rw [hw2]; exact Rd.new w1k (fun b => wc.heap.size ≤ b) 55 [.int .i64 xt.rule, .int .i64 xt.term, .slice A5 m5 c5] w1k.heap.size rfl hwl
          have HL2 := Lib.hid (show Sl RTree w2k (fun b => wc.heap.size ≤ b) (some ⟨w1k.heap.size, 0, none⟩) 1 1 [xt] from ⟨[.int .i64 xt.rule, .int .i64 xt.term, .slice A5 m5 c5], rfl, Nat.le_refl _, ⟨rfl, fun _ => hrd.2 (by omega)⟩, Cells.single (RTree.cells.2 ⟨A5, m5, c5, rfl, hsx⟩)⟩)
          have HQ2 := Lib.hid (HQ1.out.trans (hbn.mono HQ1.out.size))
          have HWN2 := Lib.hid hw2
          clear hbn hsx hwl hrd hw2
          first | rw [← HWN2.out] | rw [show _ = w2k from HWN2.out.symm]
          refine hK.out _ _ trivial (fun _ => (HKF.out _ HQ2.out)) ?_
          clear hK K
          refine wpAnyL_pure (i := 11) rfl (by kernel_rfl) (fun _ _ _ h => h) (Or.inl ⟨by rfl, (fun u hu => by go_simp; try rfl)⟩) trivial (fun _ => (HKF.out _ HQ2.out)) ?_
          simp only [Act.put, List.setIfInBounds_toArray, List.set_cons_zero, List.set_cons_succ, List.getElem_toArray, List.getElem_cons_zero, List.getElem_cons_succ]
          refine wpAnyL_ready (rs := [12]) (by kernel_rfl) (by simp) ?_
          refine AllL.cons rfl (fun K hK => ?_) ?_
          ·
           obtain ⟨d0, d1, d2, f0, f1, f2⟩ := tree_cells' ((HQ2.out.block _ (heap_lt HRESE.out)).trans HRESE.out)
           have hlr : w.heap.size + 1 + 1 + 1 < w2k.heap.size := cell_lt d0
           rw [show w.heap.size + 3 = w.heap.size + 1 + 1 + 1 from rfl] at d0 d1 d2 f0 f1 f2
           have HD9 := Lib.hid (And.intro d0 (And.intro d1 (And.intro d2 hlr)))
           go_simp
           clear d0 d1 d2 f0 f1 f2 hlr
           refine hK.out _ _ trivial (fun h => absurd (h 12 (by simp)) (by decide)) ?_
           clear hK K
           refine wpAnyL_pure (i := 13) rfl (by kernel_rfl) (fun _ _ _ h => h) (Or.inl ⟨by rfl, (fun u hu => by go_simp; try rfl)⟩) trivial (fun h => absurd (h 12 (by simp)) (by decide)) ?_
           simp only [Act.put, List.setIfInBounds_toArray, List.set_cons_zero, List.set_cons_succ, List.getElem_toArray, List.getElem_cons_zero, List.getElem_cons_succ]
           refine wpAnyL_done (by kernel_rfl) ?_ _
           go_wp2_with fail
           have hnw : ¬ (wc.heap.size ≤ w.heap.size + 1 + 1 + 1) := by have := HZC.out; have := HZA.out; omega
           have hk1 : ∀ (u : World) (i : Nat) (v : Value), Kept (fun b => wc.heap.size ≤ b) u (u.setCell ⟨w.heap.size + 1 + 1 + 1, i, none⟩ v) := fun u i v => Kept.setCell (fun b => wc.heap.size ≤ b) u ⟨w.heap.size + 1 + 1 + 1, i, none⟩ v hnw
           have hfin := (HL2.out.keep (((hk1 _ 0 (.int .i64 (jx : Int))).trans (hk1 _ 1 (.int .i64 0))).trans (hk1 _ 2 (.slice (some ⟨w1k.heap.size, 0, none⟩) 1 1)))).more (S' := fun b => w.heap.size ≤ b) (fun b hb => by have := HZC.out; have := HZA.out; omega)
           obtain ⟨d0, d1, d2, hlr⟩ := HD9.out
           obtain ⟨e1, e2, _, _, e5⟩ := HE.out
           refine Go.bodyPost_ret (v := .tuple #[.agg #[.int .i64 (jx : Int), .int .i64 0, .slice (some ⟨w1k.heap.size, 0, none⟩) 1 1], .int .i64 0]) ?_ rfl ?_
           ·
            rw [results_cell_tmp rfl]
            simp [go_sem, d0, d1, d2, hlr]
           ·
            refine ⟨⟨M, V, L, HPR.out, HIN.out.rng, e1, e2, by rw [e5]; rfl, .inr ⟨HFEW.out, .inr ⟨by rw [← HDD.out]; exact HDAC.out, X, some ⟨w1k.heap.size, 0, none⟩, 1, 1, HXI.out, by rw [HXE.out]; rfl, by rw [HXE.out]; exact hfin⟩⟩⟩, ?_⟩
            have h1 : Below w.heap.size w w2k := HB1.out.trans ((HB1A.out.mono (by have := HZ1.out; omega)).trans ((HBCE.out.mono (by have := HZA.out; omega)).trans (HQ2.out.mono (by have := HBCE.out.size; have := HZA.out; omega))))
            exact h1.trans (((HSET.out _ 0 _).trans (HSET.out _ 1 _)).trans (HSET.out _ 2 _))
          exact AllL.nil
         exact AllL.nil
        refine AllL.cons rfl (fun K hK => ?_) ?_
        ·
         go_simp
         obtain ⟨w4k, hw4⟩ : ∃ u : World, u = (we.alloc (.cells #[.int .i64 xt.rule, .int .i64 xt.term, .slice A5 m5 c5] 55)).drew := ⟨_, rfl⟩
         have hbn : Below (we.drew).heap.size (we.drew) w4k := by rw [hw4]; exact (fun (h : Below we.heap.size we ((we.alloc (.cells #[.int .i64 xt.rule, .int .i64 xt.term, .slice A5 m5 c5] 55)).drew)) => ⟨h.os, h.tape, h.output, h.size, h.block⟩) ((Below.refl _ _).alloc (Nat.le_refl _) _).drew
         have hsx := (HXS.out.below (HQ0.out)).below hbn
         have hwl : wc.heap.size ≤ (we.drew).heap.size := by have := HQ0.out.size; have := HZE.out; omega
         have hrd : Rd w4k (fun b => wc.heap.size ≤ b) 1 (some ⟨we.heap.size, 0, none⟩) 3 [.int .i64 xt.rule, .int .i64 xt.term, .slice A5 m5 c5] := by rw [hw4]; exact Rd.new we (fun b => wc.heap.size ≤ b) 55 [.int .i64 xt.rule, .int .i64 xt.term, .slice A5 m5 c5] we.heap.size rfl hwl
         have HL4 := Lib.hid (show Sl RTree w4k (fun b => wc.heap.size ≤ b) (some ⟨we.heap.size, 0, none⟩) 1 1 [xt] from ⟨[.int .i64 xt.rule, .int .i64 xt.term, .slice A5 m5 c5], rfl, Nat.le_refl _, ⟨rfl, fun _ => hrd.2 (by omega)⟩, Cells.single (RTree.cells.2 ⟨A5, m5, c5, rfl, hsx⟩)⟩)
         have HQ4 := Lib.hid (HQ0.out.trans (hbn.mono HQ0.out.size))
         have HWN4 := Lib.hid hw4
         clear hbn hsx hwl hrd hw4
         first | rw [← HWN4.out] | rw [show _ = w4k from HWN4.out.symm]
         refine hK.out _ _ trivial (fun _ => (HKF.out _ HQ4.out)) ?_
         clear hK K
         refine wpAnyL_ready (rs := [7]) (by kernel_rfl) (by simp) ?_
         refine AllL.cons rfl (fun K hK => ?_) ?_
         ·
          go_simp
          refine (mkKey (w4k) (ds, st, z) (by have := HTB.out; simp only; omega) (by have := HTB.out; simp only; omega) (by have := HTB.out; simp only; omega) 255 (by omega) (fun _ => False) none 0 0 [] (Sl.nil _ _ _ _) (fun x hx => by cases hx) (by omega)).mono ?_
          rintro e w5k ⟨rfl, hb5⟩
          have HQ5 := Lib.hid (HQ4.out.trans (hb5.mono HQ4.out.size))
          have HL5 := Lib.hid (HL4.out.below hb5)
          clear hb5
          refine hK.out _ _ trivial (fun _ => (HKF.out _ HQ5.out)) ?_
          clear hK K
          refine wpAnyL_take (i := 8) rfl (by kernel_rfl) (fun _ _ _ h => h) (Or.inl ⟨by rfl, (fun u hu => by obtain ⟨_, ⟨g0, g1⟩, g2, g3, g4, g5, g6⟩ := hu; have hrun : (Instr.lookup 69 (.map (some Bq)) (.string (strOf (keyD (ds, st, z) 255 []))) false).run Try.prog u = .ok (.int .i64 (jx : Int)) u := (AMap.look (K := KS) g1 mapStrI zeroIM HKY.out).trans (by rw [HLK.out]; rfl); clear g1; go_simp; try rfl)⟩) trivial (fun _ => (HKF.out _ HQ5.out)) ?_
          simp only [Act.put, List.setIfInBounds_toArray, List.set_cons_zero, List.set_cons_succ, List.getElem_toArray, List.getElem_cons_zero, List.getElem_cons_succ]
          refine wpAnyL_pure (i := 11) rfl (by kernel_rfl) (fun _ _ _ h => h) (Or.inl ⟨by rfl, (fun u hu => by go_simp; try rfl)⟩) trivial (fun _ => (HKF.out _ HQ5.out)) ?_
          simp only [Act.put, List.setIfInBounds_toArray, List.set_cons_zero, List.set_cons_succ, List.getElem_toArray, List.getElem_cons_zero, List.getElem_cons_succ]
          refine wpAnyL_ready (rs := [12]) (by kernel_rfl) (by simp) ?_
          refine AllL.cons rfl (fun K hK => ?_) ?_
          ·
           obtain ⟨d0, d1, d2, f0, f1, f2⟩ := tree_cells' ((HQ5.out.block _ (heap_lt HRESE.out)).trans HRESE.out)
           have hlr : w.heap.size + 1 + 1 + 1 < w5k.heap.size := cell_lt d0
           rw [show w.heap.size + 3 = w.heap.size + 1 + 1 + 1 from rfl] at d0 d1 d2 f0 f1 f2
           have HD9 := Lib.hid (And.intro d0 (And.intro d1 (And.intro d2 hlr)))
           go_simp
           clear d0 d1 d2 f0 f1 f2 hlr
           refine hK.out _ _ trivial (fun h => absurd (h 12 (by simp)) (by decide)) ?_
           clear hK K
           refine wpAnyL_pure (i := 13) rfl (by kernel_rfl) (fun _ _ _ h => h) (Or.inl ⟨by rfl, (fun u hu => by go_simp; try rfl)⟩) trivial (fun h => absurd (h 12 (by simp)) (by decide)) ?_
           simp only [Act.put, List.setIfInBounds_toArray, List.set_cons_zero, List.set_cons_succ, List.getElem_toArray, List.getElem_cons_zero, List.getElem_cons_succ]
           refine wpAnyL_done (by kernel_rfl) ?_ _
           go_wp2_with fail
           have hnw : ¬ (wc.heap.size ≤ w.heap.size + 1 + 1 + 1) := by have := HZC.out; have := HZA.out; omega
           have hk1 : ∀ (u : World) (i : Nat) (v : Value), Kept (fun b => wc.heap.size ≤ b) u (u.setCell ⟨w.heap.size + 1 + 1 + 1, i, none⟩ v) := fun u i v => Kept.setCell (fun b => wc.heap.size ≤ b) u ⟨w.heap.size + 1 + 1 + 1, i, none⟩ v hnw
           have hfin := (HL5.out.keep (((hk1 _ 0 (.int .i64 (jx : Int))).trans (hk1 _ 1 (.int .i64 0))).trans (hk1 _ 2 (.slice (some ⟨we.heap.size, 0, none⟩) 1 1)))).more (S' := fun b => w.heap.size ≤ b) (fun b hb => by have := HZC.out; have := HZA.out; omega)
           obtain ⟨d0, d1, d2, hlr⟩ := HD9.out
           obtain ⟨e1, e2, _, _, e5⟩ := HE.out
           refine Go.bodyPost_ret (v := .tuple #[.agg #[.int .i64 (jx : Int), .int .i64 0, .slice (some ⟨we.heap.size, 0, none⟩) 1 1], .int .i64 0]) ?_ rfl ?_
           ·
            rw [results_cell_tmp rfl]
            simp [go_sem, d0, d1, d2, hlr]
           ·
            refine ⟨⟨M, V, L, HPR.out, HIN.out.rng, e1, e2, by rw [e5]; rfl, .inr ⟨HFEW.out, .inr ⟨by rw [← HDD.out]; exact HDAC.out, X, some ⟨we.heap.size, 0, none⟩, 1, 1, HXI.out, by rw [HXE.out]; rfl, by rw [HXE.out]; exact hfin⟩⟩⟩, ?_⟩
            have h1 : Below w.heap.size w w5k := HB1.out.trans ((HB1A.out.mono (by have := HZ1.out; omega)).trans ((HBCE.out.mono (by have := HZA.out; omega)).trans (HQ5.out.mono (by have := HBCE.out.size; have := HZA.out; omega))))
            exact h1.trans (((HSET.out _ 0 _).trans (HSET.out _ 1 _)).trans (HSET.out _ 2 _))
          exact AllL.nil
         exact AllL.nil
        exact AllL.nil
   ·
    obtain ⟨w8, hw8⟩ : ∃ w8 : World, w8 = (w7.alloc (.cells #[.int .i64 0, .int .i64 0, .int .i64 0, .slice none 0 0, .slice none 0 0, .slice none 0 0] 34)).alloc (.cells #[.map none] 69) := ⟨_, rfl⟩
    have hb78 : Below w7.heap.size w7 w8 := by rw [hw8]; exact ((Below.refl _ _).alloc (Nat.le_refl _) _).alloc (by simp) _
    have HB8 := Lib.hid (HB7.out.trans (hb78.mono HB7.out.size))
    obtain ⟨r0, r1, r2, f0, f1, f2⟩ := tree_cells' ((HB8.out.block _ (heap_lt HRES.out)).trans HRES.out)
    have hlr : w.heap.size + 1 + 1 + 1 < w8.heap.size := cell_lt r0
    rw [show w.heap.size + 3 = w.heap.size + 1 + 1 + 1 from rfl] at r0 r1 r2 f0 f1 f2
    rw [hw8] at r0 r1 r2 f0 f1 f2 hlr
    have HW8 := Lib.hid hw8
    have HD := Lib.hid (And.intro r0 (And.intro r1 (And.intro r2 hlr)))
    clear hb78 hw8
    go_wp2_with fail
    obtain ⟨r0, r1, r2, hlr⟩ := HD.out
    refine Go.bodyPost_ret (v := .tuple #[.agg #[.int .i64 0, .int .i64 0, .slice none 0 0], .int .i64 2]) ?_ rfl ?_
    ·
     rw [results_cell_tmp rfl]
     simp [go_sem, r0, r1, r2, hlr]
    ·
     obtain ⟨e1, e2, _, _, e5⟩ := HE.out
     refine ⟨⟨M, V, L, HPR.out, HIN.out.rng, e1, e2, by rw [e5]; rfl, .inl ⟨hlong, rfl⟩⟩, ?_⟩
     rw [← HW8.out]
     have hset : ∀ (u : World) (q : Nat) (v : Value), Below w.heap.size u (u.setCell ⟨w.heap.size + 1 + 1 + 1, q, none⟩ v) := fun u q v => (Below.refl _ _).setCell (by show w.heap.size ≤ w.heap.size + 1 + 1 + 1; omega) _
     exact HB1.out.trans ((HB8.out.mono (by have := HZ1.out; omega)).trans (((hset _ 0 _).trans (hset _ 1 _)).trans (hset _ 2 _)))
  exact AllL.nil
 exact AllL.nil
end Go.Proofs.Ytbmcoamdfpegnaa
