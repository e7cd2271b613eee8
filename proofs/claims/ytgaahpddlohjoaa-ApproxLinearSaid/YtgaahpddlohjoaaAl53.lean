/- TeachPlain -/
import Derived.Deep.CutBlock
import Derived.Deep.CutRange
import Derived.Deep.LoopGhost
import Derived.Deep.RegionHeld3
import Derived.Test.YtgaahpddlohjoaaAl07
import Derived.Test.YtgaahpddlohjoaaAl24
import Derived.Test.YtgaahpddlohjoaaAl31
import Derived.Test.YtgaahpddlohjoaaAl33
namespace Go.Proofs.Ytgaahpddlohjoaa
open Go.RowKit
def plainD (d : DfaD) : DfaD := (d.1, d.2.1.map (fun x => if 0 < x then 0 else x), d.2.2)
def PlSt (w : World) (Bx : Nat) (start : Int) (cs : Array Value) (acc : List Int) (rows : List (List Int)) (s : Nat) (wr : World) : Prop :=
 ∃ vA vN xs, DfaB wr (Bx + 1 + 1 + 1) (Bx + 1 + 1) start ((acc.take s).map (fun x => if 0 < x then 0 else x)) (rows.take s) vA vN xs ∧ wr.heap[Bx]? = some (.cells cs 25 (0, 0)) ∧
  wr.heap[Bx + 1]? = some (.cells #[.int .i64 0, .slice none 0 0, .slice none 0 0] 25 (0, 0)) ∧ Below w.heap.size w wr
theorem PlSt.next {w wr wk : World} {Bx s H K : Nat} {start x y : Int} (hy : y = if 0 < x then 0 else x) {cs : Array Value} {acc row : List Int} {rows : List (List Int)} {vA vN v u u' : Value} {xs : List Value}
    (ht : Two wk (Bx + 1 + 1 + 1) (Bx + 1 + 1) start ((acc.take s).map (fun x => if 0 < x then 0 else x)) (rows.take s) vA vN xs row y (some v) (some H) (some u) (some K) (some u')) (hb : Below (Bx + 1 + 1 + 1) wr.drew wk)
    (hbx : wr.heap[Bx]? = some (.cells cs 25 (0, 0))) (hbr : wr.heap[Bx + 1]? = some (.cells #[.int .i64 0, .slice none 0 0, .slice none 0 0] 25 (0, 0))) (hB : Below w.heap.size w wr) (hw : w.heap.size ≤ Bx)
    (hx : acc[s]? = some x) (hr : rows[s]? = some row) : PlSt w Bx start cs acc rows (s + 1) ((wk.setCell ⟨Bx + 1 + 1, 2, none⟩ u).setCell ⟨Bx + 1 + 1, 1, none⟩ u') := by
 have hr' : rows.take (s + 1) = rows.take s ++ [row] := by
  obtain ⟨hk, rfl⟩ := List.getElem?_eq_some_iff.1 hr
  exact List.take_succ_eq_append_getElem hk
 refine ⟨u', u, xs ++ [v], ?_, ?_, ?_, ?_⟩
 ·
  rw [int_step hx, hr', List.map_append]
  show DfaB _ _ _ _ (_ ++ [if 0 < x then 0 else x]) _ _ _ _
  rw [← hy]
  exact ht.done
 ·
  rw [Below.heap_setCell _ _ _ _ (by simp; omega), Below.heap_setCell _ _ _ _ (by simp; omega), hb.block _ (by omega)]
  exact hbx
 ·
  rw [Below.heap_setCell _ _ _ _ (by simp), Below.heap_setCell _ _ _ _ (by simp), hb.block _ (by omega)]
  exact hbr
 ·
  exact ((hB.drew.trans (hb.mono (by omega))).setCell (by simp; omega) _).setCell (by simp; omega) _
set_option linter.unusedSimpArgs false in
set_option maxRecDepth 100000 in
set_option maxHeartbeats 2000000 in
theorem teachPlain (w : World) (S : Nat → Prop) (A : Option Addr) (nA cA : Nat) (N : Option Addr) (n cN : Nat) (d : DfaD) (hA : Sl Rep.int w S A nA cA d.2.1) (hN : Sl RI w S N n cN d.2.2) (hv : Valid d) :
    Calls Try.prog 43 #[.agg #[.int .i64 d.1, .slice A nA cA, .slice N n cN]] w fun e w' => ∃ Bd vA vN xs, w.heap.size ≤ Bd ∧ e = .returned (.agg #[.int .i64 d.1, vA, vN]) ∧ DfaB w' (Bd + 1) Bd d.1 (plainD d).2.1 d.2.2 vA vN xs ∧ Below w.heap.size w w' := by
 have e1 := hA.len
 have e2 := hN.len
 rw [hv.na, ← e2] at e1
 subst e1
 have hn2 : nA ≤ 200 := by have := hv.n2; omega
 have HA := Lib.hid hA
 have HN := Lib.hid hN
 have HV := Lib.hid hv
 have HE := Lib.hid e2
 clear hA hN hv e2
 obtain ⟨start, acc, rows⟩ := d
 dsimp only at *
 go_enter Try.func43, Try.ntmps43
 go_wp2_with fail
 have hst0 : PlSt w w.heap.size start #[.int .i64 start, .slice A nA cA, .slice N nA cN] acc rows 0 (((w.alloc (.cells #[.int .i64 start, .slice A nA cA, .slice N nA cN] 25)).alloc (.cells #[.int .i64 0, .slice none 0 0, .slice none 0 0] 25)).alloc (.cells #[.int .i64 start, .slice none 0 0, .slice none 0 0] 25)) := by
  have h := DfaB.start_ ((w.alloc (.cells #[.int .i64 start, .slice A nA cA, .slice N nA cN] 25)).alloc (.cells #[.int .i64 0, .slice none 0 0, .slice none 0 0] 25)) start
  simp only [World.size_alloc] at h
  refine ⟨_, _, _, h, ?_, ?_, (((Below.refl _ _).alloc (Nat.le_refl _) _).alloc (by simp) _).alloc (by simp; omega) _⟩
  ·
   rw [Below.heap_alloc _ _ _ (by simp; omega), Below.heap_alloc _ _ _ (by simp)]
   exact heap_alloc_new _ _
  ·
   rw [Below.heap_alloc _ _ _ (by simp)]
   exact heap_new _ _ _ (by simp)
 have HST0 := Lib.hid hst0
 clear hst0
 go_loopg [12] nA (fun k i wr => ∃ s : Nat, s ≤ nA ∧ k = nA - s ∧ i = .int .i64 s ∧ PlSt w w.heap.size start #[.int .i64 start, .slice A nA cA, .slice N nA cN] acc rows s wr)
 case atStart => exact ⟨0, Nat.zero_le _, rfl, rfl, HST0.out⟩
 case round =>
  obtain ⟨s, hs, hgk, rfl, vA, vN, xs, hd, hbx, hbr, hb⟩ := hrel
  clear HST0
  have HGK := Lib.hid hgk
  have HD := Lib.hid hd
  have HBX := Lib.hid hbx
  have HBR := Lib.hid hbr
  have HB := Lib.hid hb
  clear hgk hbx hbr hb hd
  by_cases hlt : s < nA
  ·
   obtain ⟨bA, oA, x, rfl, _, hx, hcx0⟩ := HA.out.ints.int_at hlt
   obtain ⟨bN, oN, AR, m, cR, row, rfl, _, _, hcR0, hr, hsr⟩ := row_at HN.out hlt
   have hcx : wr.cell? ⟨bA, oA + s, none⟩ = some (.int .i64 x) := Kept.below (S := fun _ => True) HB.out _ _ trivial hcx0
   have hcR : wr.cell? ⟨bN, oN + s, none⟩ = some (.slice AR m cR) := Kept.below (S := fun _ => True) HB.out _ _ trivial hcR0
   have hcB : wr.cell? ⟨w.heap.size, 1, none⟩ = some (.slice (some ⟨bA, oA, none⟩) nA cA) := by simp [World.cell?, HBX.out]
   have hbAlt : bA < w.heap.size := cell_lt hcx0
   have HLA := Lib.hid hbAlt
   have hm := hsr.len
   have hm6 : m ≤ 16 := by
    have := HV.out.c2
    have := (HV.out.rows row (List.mem_of_getElem? hr)).1
    omega
   have HM := Lib.hid hm
   clear hm hbAlt
   have HX := Lib.hid hx
   have HR := Lib.hid hr
   have HSR := Lib.hid (hsr.fit.below HB.out)
   clear hx hcx0 hcR0 hr hsr
   obtain ⟨y, hy⟩ : ∃ y : Int, y = if 0 < x then 0 else x := ⟨_, rfl⟩
   have HY := Lib.hid hy
   clear hy
   go_upto_block 1 with fail
   go_cut [12] from 12 to 35 (fun i wx => i = .int .i64 s ∧ PlSt w w.heap.size start #[.int .i64 start, .slice (some ⟨bA, oA, none⟩) nA cA, .slice (some ⟨bN, oN, none⟩) nA cN] acc rows (s + 1) wx)
   case first =>
    go_wp2_with fail
    have hall : ∀ u : World, Below (w.heap.size + 1 + 1 + 1) wr.drew u → (u.cell? ⟨w.heap.size, 1, none⟩ = some (.slice (some ⟨bA, oA, none⟩) nA cA) ∧ u.cell? ⟨bA, oA + s, none⟩ = some (.int .i64 x)) ∧ (u.cell? ⟨w.heap.size + 1 + 1, 1, none⟩ = some vA ∧ u.cell? ⟨w.heap.size + 1 + 1, 2, none⟩ = some vN) := by
     intro u hu
     have hbA : bA < w.heap.size := HLA.out
     exact ⟨⟨(hu.cell (by simp; omega)).trans hcB, (hu.cell (by simp; omega)).trans hcx⟩, (hu.cell (by simp)).trans HD.out.cellA, (hu.cell (by simp)).trans HD.out.cellN⟩
    have HALL := Lib.hid hall
    have HT := Lib.hid (HD.out.drew.two row y)
    have HB0 := Lib.hid (Below.refl (w.heap.size + 1 + 1 + 1) wr.drew)
    have HK := Lib.hid (hall _ HB0.out)
    clear hall
    refine wp_region_late (late := [17, 19]) (S1 := fun u => u.cell? ⟨w.heap.size, 1, none⟩ = some (.slice (some ⟨bA, oA, none⟩) nA cA) ∧ u.cell? ⟨bA, oA + s, none⟩ = some (.int .i64 x)) (S := fun u => u.cell? ⟨w.heap.size + 1 + 1, 1, none⟩ = some vA ∧ u.cell? ⟨w.heap.size + 1 + 1, 2, none⟩ = some vN) (by kernel_rfl) ?_
    refine wpAnyL_pure (i := 0) rfl (by kernel_rfl) (fun _ _ _ h => h) (Or.inl ⟨by rfl, (fun u hu => by have hu1 := hu.1; have hu2 := hu.2; go_simp; try rfl)⟩) HK.out.1 (fun _ => HK.out.2) ?_
    simp only [Act.put, List.setIfInBounds_toArray, List.set_cons_zero, List.set_cons_succ, List.getElem_toArray, List.getElem_cons_zero, List.getElem_cons_succ]
    refine wpAnyL_take (i := 1) rfl (by kernel_rfl) (fun _ _ _ h => h) (Or.inl ⟨by rfl, (fun u hu => by have hu1 := hu.1.1; have hu2 := hu.1.2; have hu3 := hu.2.1; have hu4 := hu.2.2; go_simp; try rfl)⟩) HK.out.1 (fun _ => HK.out.2) ?_
    simp only [Act.put, List.setIfInBounds_toArray, List.set_cons_zero, List.set_cons_succ, List.getElem_toArray, List.getElem_cons_zero, List.getElem_cons_succ]
    refine wpAnyL_pure (i := 2) rfl (by kernel_rfl) (fun _ _ _ h => h) (Or.inl ⟨by rfl, (fun u hu => by have hu1 := hu.1; have hu2 := hu.2; go_simp; try rfl)⟩) HK.out.1 (fun _ => HK.out.2) ?_
    simp only [Act.put, List.setIfInBounds_toArray, List.set_cons_zero, List.set_cons_succ, List.getElem_toArray, List.getElem_cons_zero, List.getElem_cons_succ]
    refine wpAnyL_pure (i := 6) rfl (by kernel_rfl) (fun _ _ _ h => h) (Or.inl ⟨by rfl, (fun u hu => by have hu1 := hu.1; have hu2 := hu.2; go_simp; try rfl)⟩) HK.out.1 (fun _ => HK.out.2) ?_
    simp only [Act.put, List.setIfInBounds_toArray, List.set_cons_zero, List.set_cons_succ, List.getElem_toArray, List.getElem_cons_zero, List.getElem_cons_succ]
    refine wpAnyL_take (i := 7) rfl (by kernel_rfl) (fun _ _ _ h => h) (Or.inl ⟨by rfl, (fun u hu => by have hu1 := hu.1.1; have hu2 := hu.1.2; have hu3 := hu.2.1; have hu4 := hu.2.2; go_simp; try rfl)⟩) HK.out.1 (fun _ => HK.out.2) ?_
    simp only [Act.put, List.setIfInBounds_toArray, List.set_cons_zero, List.set_cons_succ, List.getElem_toArray, List.getElem_cons_zero, List.getElem_cons_succ]
    refine wpAnyL_pure (i := 8) rfl (by kernel_rfl) (fun _ _ _ h => h) (Or.inl ⟨by rfl, (fun u hu => by have hu1 := hu.1; have hu2 := hu.2; go_simp; try rfl)⟩) HK.out.1 (fun _ => HK.out.2) ?_
    simp only [Act.put, List.setIfInBounds_toArray, List.set_cons_zero, List.set_cons_succ, List.getElem_toArray, List.getElem_cons_zero, List.getElem_cons_succ]
    refine wpAnyL_pure (i := 9) rfl (by kernel_rfl) (fun _ _ _ h => h) (Or.inl ⟨by rfl, (fun u hu => by have hu1 := hu.1; have hu2 := hu.2; go_simp; try rfl)⟩) HK.out.1 (fun _ => HK.out.2) ?_
    simp only [Act.put, List.setIfInBounds_toArray, List.set_cons_zero, List.set_cons_succ, List.getElem_toArray, List.getElem_cons_zero, List.getElem_cons_succ]
    refine wpAnyL_pure (i := 10) rfl (by kernel_rfl) (fun _ _ _ h => h) (Or.inl ⟨by rfl, (fun u hu => by have hu1 := hu.1; have hu2 := hu.2; go_simp; try rfl)⟩) HK.out.1 (fun _ => HK.out.2) ?_
    simp only [Act.put, List.setIfInBounds_toArray, List.set_cons_zero, List.set_cons_succ, List.getElem_toArray, List.getElem_cons_zero, List.getElem_cons_succ]
    refine wpAnyL_pure (i := 11) rfl (by kernel_rfl) (fun _ _ _ h => h) (Or.inl ⟨by rfl, (fun u hu => by have hu1 := hu.1; have hu2 := hu.2; go_simp; try rfl)⟩) HK.out.1 (fun _ => HK.out.2) ?_
    simp only [Act.put, List.setIfInBounds_toArray, List.set_cons_zero, List.set_cons_succ, List.getElem_toArray, List.getElem_cons_zero, List.getElem_cons_succ]
    refine wpAnyL_pure (i := 12) rfl (by kernel_rfl) (fun _ _ _ h => h) (Or.inl ⟨by rfl, (fun u hu => by have hu1 := hu.1; have hu2 := hu.2; go_simp; try rfl)⟩) HK.out.1 (fun _ => HK.out.2) ?_
    simp only [Act.put, List.setIfInBounds_toArray, List.set_cons_zero, List.set_cons_succ, List.getElem_toArray, List.getElem_cons_zero, List.getElem_cons_succ]
    refine wpAnyL_pure (i := 13) (v := .int .i64 y) rfl (by kernel_rfl) (fun _ _ _ h => h) (Or.inl ⟨by rfl, (fun u hu => by go_simp; rw [HY.out])⟩) HK.out.1 (fun _ => HK.out.2) ?_
    simp only [Act.put, List.setIfInBounds_toArray, List.set_cons_zero, List.set_cons_succ, List.getElem_toArray, List.getElem_cons_zero, List.getElem_cons_succ]
    refine wpAnyL_ready (rs := [3, 14]) (by kernel_rfl) (by simp) ?_
    refine AllL.cons rfl (fun K hK => ?_) ?_
    ·
     go_simp
     refine (cloneInt _ _ _ _ _ _ (HSR.out.drew.keep (.belowB HB0.out (fun b hb => by have := hb.2; omega))).ints (by omega)).mono ?_
     rintro e w1 ⟨v1, rfl, hv, hb⟩
     obtain ⟨Av, cv, rfl, _, _⟩ := hv.form
     have HT1 := Lib.hid (HT.out.setV (by rw [← HM.out]; exact hv) hb)
     have HB1 := Lib.hid (HB0.out.trans (hb.mono HT.out.le))
     clear hv hb
     have hs1 := HALL.out _ HB1.out
     have HK1 := Lib.hid hs1
     clear hs1
     refine hK.out _ _ HK1.out.1 (fun _ => HK1.out.2) ?_
     clear hK K
     refine wpAnyL_ready (rs := [4, 14]) (by kernel_rfl) (by simp) ?_
     refine AllL.cons rfl (fun K hK => ?_) ?_
     ·
      go_simp
      have HT2 := Lib.hid (HT1.out.allocN _ (by first | exact World.size_alloc _ _ | rfl) 22)
      have HB2 := Lib.hid (HB1.out.alloc HT1.out.le (.cells #[.slice Av m cv] 22))
      have hs2 := HALL.out _ HB2.out
      have HK2 := Lib.hid hs2
      clear hs2
      refine hK.out _ _ HK2.out.1 (fun _ => HK2.out.2) ?_
      clear hK K
      refine wpAnyL_ready (rs := [5, 14]) (by kernel_rfl) (by simp) ?_
      refine AllL.cons rfl (fun K hK => ?_) ?_
      ·
       obtain ⟨u3, w3, hrun, ⟨A3, c3, rfl⟩, hT, hb⟩ := HT2.out.appN (by simp; omega)
       have HT3 := Lib.hid hT
       have HB3 := Lib.hid (HB2.out.trans hb)
       have HR3 := Lib.hid hrun
       clear hT hb hrun
       refine step_append_run _ (by rfl) _ _ _ _ (by rfl) _ _ (by rfl) (by rfl) _ _ HR3.out ?_
       simp only [Act.put, List.setIfInBounds_toArray, List.set_cons_zero, List.set_cons_succ, List.getElem_toArray, List.getElem_cons_zero, List.getElem_cons_succ]
       have hs3 := HALL.out _ HB3.out
       have HK3 := Lib.hid hs3
       clear hs3
       refine hK.out _ _ HK3.out.1 (fun _ => HK3.out.2) ?_
       clear hK K
       refine wpAnyL_pure (i := 16) rfl (by kernel_rfl) (fun _ _ _ h => h) (Or.inl ⟨by rfl, (fun u hu => by have hu1 := hu.1; have hu2 := hu.2; go_simp; try rfl)⟩) HK3.out.1 (fun _ => HK3.out.2) ?_
       simp only [Act.put, List.setIfInBounds_toArray, List.set_cons_zero, List.set_cons_succ, List.getElem_toArray, List.getElem_cons_zero, List.getElem_cons_succ]
       refine wpAnyL_ready (rs := [14]) (by kernel_rfl) (by simp) ?_
       refine AllL.cons rfl (fun K hK => ?_) ?_
       ·
        go_simp
        have HT4 := Lib.hid (HT3.out.allocA _ (by first | exact World.size_alloc _ _ | rfl) 3)
        have HB4 := Lib.hid (HB3.out.alloc HT3.out.le (.cells #[.int .i64 y] 3))
        have hs4 := HALL.out _ HB4.out
        have HK4 := Lib.hid hs4
        clear hs4
        refine hK.out _ _ HK4.out.1 (fun _ => HK4.out.2) ?_
        clear hK K
        refine wpAnyL_ready (rs := [15]) (by kernel_rfl) (by simp) ?_
        refine AllL.cons rfl (fun K hK => ?_) ?_
        ·
         obtain ⟨u5, w5, hrun, ⟨A5, c5, rfl⟩, hT, hb⟩ := HT4.out.appA (by simp; omega)
         have HT5 := Lib.hid hT
         have HB5 := Lib.hid (HB4.out.trans hb)
         have HR5 := Lib.hid hrun
         clear hT hb hrun
         refine step_append_run _ (by rfl) _ _ _ _ (by rfl) _ _ (by rfl) (by rfl) _ _ HR5.out ?_
         simp only [Act.put, List.setIfInBounds_toArray, List.set_cons_zero, List.set_cons_succ, List.getElem_toArray, List.getElem_cons_zero, List.getElem_cons_succ]
         have hs5 := HALL.out _ HB5.out
         have HK5 := Lib.hid hs5
         clear hs5
         refine hK.out _ _ HK5.out.1 (fun _ => HK5.out.2) ?_
         clear hK K
         refine wpAnyL_ready (rs := [17]) (by kernel_rfl) (by simp) ?_
         refine AllL.cons rfl (fun K hK => ?_) ?_
         ·
          have hc := HT5.out.cellN
          have hf := HT5.out.fr 2
          go_simp
          clear hc hf
          refine hK.out _ _ (And.intro (setOther _ (p := ⟨w.heap.size + 1 + 1, 2, none⟩) HK5.out.1.1 (by simp; omega)) (setOther _ (p := ⟨w.heap.size + 1 + 1, 2, none⟩) HK5.out.1.2 (by have := HLA.out; simp; omega))) (fun h => absurd (h 17 (by simp)) (by decide)) ?_
          clear hK K
          refine wpAnyL_pure (i := 18) rfl (by kernel_rfl) (fun _ _ _ h => h) (Or.inl ⟨by rfl, (fun u hu => by have hu1 := hu.1; have hu2 := hu.2; go_simp; try rfl)⟩) (And.intro (setOther _ (p := ⟨w.heap.size + 1 + 1, 2, none⟩) HK5.out.1.1 (by simp; omega)) (setOther _ (p := ⟨w.heap.size + 1 + 1, 2, none⟩) HK5.out.1.2 (by have := HLA.out; simp; omega))) (fun h => absurd (h 17 (by simp)) (by decide)) ?_
          simp only [Act.put, List.setIfInBounds_toArray, List.set_cons_zero, List.set_cons_succ, List.getElem_toArray, List.getElem_cons_zero, List.getElem_cons_succ]
          refine wpAnyL_ready (rs := [19]) (by kernel_rfl) (by simp) ?_
          refine AllL.cons rfl (fun K hK => ?_) ?_
          ·
           have hc := fun u => setOther0 (u := u) (HT5.out.cellA) (HT5.out.fr 1)
           have hc1 := fun u => (hc u).1
           have hc2 := fun u => (hc u).2
           clear hc
           go_simp
           clear hc1 hc2
           refine hK.out _ _ (And.intro (setOther _ (p := ⟨w.heap.size + 1 + 1, 1, none⟩) (setOther _ (p := ⟨w.heap.size + 1 + 1, 2, none⟩) HK5.out.1.1 (by simp; omega)) (by simp; omega)) (setOther _ (p := ⟨w.heap.size + 1 + 1, 1, none⟩) (setOther _ (p := ⟨w.heap.size + 1 + 1, 2, none⟩) HK5.out.1.2 (by have := HLA.out; simp; omega)) (by have := HLA.out; simp; omega))) (fun h => absurd (h 17 (by simp)) (by decide)) ?_
           clear hK K
           refine wpAnyL_done (by kernel_rfl) ?_ _
           go_wp2_with fail
           go_meet
           exact ⟨rfl, PlSt.next HY.out (by have h := HT5.out; simp only [List.length_map, List.length_take] at h; exact h) HB5.out HBX.out HBR.out HB.out (Nat.le_refl _) HX.out HR.out⟩
          exact AllL.nil
         exact AllL.nil
        exact AllL.nil
       exact AllL.nil
      refine AllL.cons rfl (fun K hK => ?_) ?_
      ·
       go_simp
       have HT8 := Lib.hid (HT2.out.allocA _ (by first | exact World.size_alloc _ _ | rfl) 3)
       have HB8 := Lib.hid (HB2.out.alloc HT2.out.le (.cells #[.int .i64 y] 3))
       have hs8 := HALL.out _ HB8.out
       have HK8 := Lib.hid hs8
       clear hs8
       refine hK.out _ _ HK8.out.1 (fun _ => HK8.out.2) ?_
       clear hK K
       refine wpAnyL_ready (rs := [5]) (by kernel_rfl) (by simp) ?_
       refine AllL.cons rfl (fun K hK => ?_) ?_
       ·
        obtain ⟨u9, w9, hrun, ⟨A9, c9, rfl⟩, hT, hb⟩ := HT8.out.appN (by simp; omega)
        have HT9 := Lib.hid hT
        have HB9 := Lib.hid (HB8.out.trans hb)
        have HR9 := Lib.hid hrun
        clear hT hb hrun
        refine step_append_run _ (by rfl) _ _ _ _ (by rfl) _ _ (by rfl) (by rfl) _ _ HR9.out ?_
        simp only [Act.put, List.setIfInBounds_toArray, List.set_cons_zero, List.set_cons_succ, List.getElem_toArray, List.getElem_cons_zero, List.getElem_cons_succ]
        have hs9 := HALL.out _ HB9.out
        have HK9 := Lib.hid hs9
        clear hs9
        refine hK.out _ _ HK9.out.1 (fun _ => HK9.out.2) ?_
        clear hK K
        refine wpAnyL_pure (i := 16) rfl (by kernel_rfl) (fun _ _ _ h => h) (Or.inl ⟨by rfl, (fun u hu => by have hu1 := hu.1; have hu2 := hu.2; go_simp; try rfl)⟩) HK9.out.1 (fun _ => HK9.out.2) ?_
        simp only [Act.put, List.setIfInBounds_toArray, List.set_cons_zero, List.set_cons_succ, List.getElem_toArray, List.getElem_cons_zero, List.getElem_cons_succ]
        refine wpAnyL_ready (rs := [15]) (by kernel_rfl) (by simp) ?_
        refine AllL.cons rfl (fun K hK => ?_) ?_
        ·
         obtain ⟨u10, w10, hrun, ⟨A10, c10, rfl⟩, hT, hb⟩ := HT9.out.appA (by simp; omega)
         have HT10 := Lib.hid hT
         have HB10 := Lib.hid (HB9.out.trans hb)
         have HR10 := Lib.hid hrun
         clear hT hb hrun
         refine step_append_run _ (by rfl) _ _ _ _ (by rfl) _ _ (by rfl) (by rfl) _ _ HR10.out ?_
         simp only [Act.put, List.setIfInBounds_toArray, List.set_cons_zero, List.set_cons_succ, List.getElem_toArray, List.getElem_cons_zero, List.getElem_cons_succ]
         have hs10 := HALL.out _ HB10.out
         have HK10 := Lib.hid hs10
         clear hs10
         refine hK.out _ _ HK10.out.1 (fun _ => HK10.out.2) ?_
         clear hK K
         refine wpAnyL_ready (rs := [17]) (by kernel_rfl) (by simp) ?_
         refine AllL.cons rfl (fun K hK => ?_) ?_
         ·
          have hc := HT10.out.cellN
          have hf := HT10.out.fr 2
          go_simp
          clear hc hf
          refine hK.out _ _ (And.intro (setOther _ (p := ⟨w.heap.size + 1 + 1, 2, none⟩) HK10.out.1.1 (by simp; omega)) (setOther _ (p := ⟨w.heap.size + 1 + 1, 2, none⟩) HK10.out.1.2 (by have := HLA.out; simp; omega))) (fun h => absurd (h 17 (by simp)) (by decide)) ?_
          clear hK K
          refine wpAnyL_pure (i := 18) rfl (by kernel_rfl) (fun _ _ _ h => h) (Or.inl ⟨by rfl, (fun u hu => by have hu1 := hu.1; have hu2 := hu.2; go_simp; try rfl)⟩) (And.intro (setOther _ (p := ⟨w.heap.size + 1 + 1, 2, none⟩) HK10.out.1.1 (by simp; omega)) (setOther _ (p := ⟨w.heap.size + 1 + 1, 2, none⟩) HK10.out.1.2 (by have := HLA.out; simp; omega))) (fun h => absurd (h 17 (by simp)) (by decide)) ?_
          simp only [Act.put, List.setIfInBounds_toArray, List.set_cons_zero, List.set_cons_succ, List.getElem_toArray, List.getElem_cons_zero, List.getElem_cons_succ]
          refine wpAnyL_ready (rs := [19]) (by kernel_rfl) (by simp) ?_
          refine AllL.cons rfl (fun K hK => ?_) ?_
          ·
           have hc := fun u => setOther0 (u := u) (HT10.out.cellA) (HT10.out.fr 1)
           have hc1 := fun u => (hc u).1
           have hc2 := fun u => (hc u).2
           clear hc
           go_simp
           clear hc1 hc2
           refine hK.out _ _ (And.intro (setOther _ (p := ⟨w.heap.size + 1 + 1, 1, none⟩) (setOther _ (p := ⟨w.heap.size + 1 + 1, 2, none⟩) HK10.out.1.1 (by simp; omega)) (by simp; omega)) (setOther _ (p := ⟨w.heap.size + 1 + 1, 1, none⟩) (setOther _ (p := ⟨w.heap.size + 1 + 1, 2, none⟩) HK10.out.1.2 (by have := HLA.out; simp; omega)) (by have := HLA.out; simp; omega))) (fun h => absurd (h 17 (by simp)) (by decide)) ?_
           clear hK K
           refine wpAnyL_done (by kernel_rfl) ?_ _
           go_wp2_with fail
           go_meet
           exact ⟨rfl, PlSt.next HY.out (by have h := HT10.out; simp only [List.length_map, List.length_take] at h; exact h) HB10.out HBX.out HBR.out HB.out (Nat.le_refl _) HX.out HR.out⟩
          exact AllL.nil
         exact AllL.nil
        exact AllL.nil
       exact AllL.nil
      exact AllL.nil
     refine AllL.cons rfl (fun K hK => ?_) ?_
     ·
      go_simp
      have HT13 := Lib.hid (HT1.out.allocA _ (by first | exact World.size_alloc _ _ | rfl) 3)
      have HB13 := Lib.hid (HB1.out.alloc HT1.out.le (.cells #[.int .i64 y] 3))
      have hs13 := HALL.out _ HB13.out
      have HK13 := Lib.hid hs13
      clear hs13
      refine hK.out _ _ HK13.out.1 (fun _ => HK13.out.2) ?_
      clear hK K
      refine wpAnyL_ready (rs := [4]) (by kernel_rfl) (by simp) ?_
      refine AllL.cons rfl (fun K hK => ?_) ?_
      ·
       go_simp
       have HT14 := Lib.hid (HT13.out.allocN _ (by first | exact World.size_alloc _ _ | rfl) 22)
       have HB14 := Lib.hid (HB13.out.alloc HT13.out.le (.cells #[.slice Av m cv] 22))
       have hs14 := HALL.out _ HB14.out
       have HK14 := Lib.hid hs14
       clear hs14
       refine hK.out _ _ HK14.out.1 (fun _ => HK14.out.2) ?_
       clear hK K
       refine wpAnyL_ready (rs := [5]) (by kernel_rfl) (by simp) ?_
       refine AllL.cons rfl (fun K hK => ?_) ?_
       ·
        obtain ⟨u15, w15, hrun, ⟨A15, c15, rfl⟩, hT, hb⟩ := HT14.out.appN (by simp; omega)
        have HT15 := Lib.hid hT
        have HB15 := Lib.hid (HB14.out.trans hb)
        have HR15 := Lib.hid hrun
        clear hT hb hrun
        refine step_append_run _ (by rfl) _ _ _ _ (by rfl) _ _ (by rfl) (by rfl) _ _ HR15.out ?_
        simp only [Act.put, List.setIfInBounds_toArray, List.set_cons_zero, List.set_cons_succ, List.getElem_toArray, List.getElem_cons_zero, List.getElem_cons_succ]
        have hs15 := HALL.out _ HB15.out
        have HK15 := Lib.hid hs15
        clear hs15
        refine hK.out _ _ HK15.out.1 (fun _ => HK15.out.2) ?_
        clear hK K
        refine wpAnyL_pure (i := 16) rfl (by kernel_rfl) (fun _ _ _ h => h) (Or.inl ⟨by rfl, (fun u hu => by have hu1 := hu.1; have hu2 := hu.2; go_simp; try rfl)⟩) HK15.out.1 (fun _ => HK15.out.2) ?_
        simp only [Act.put, List.setIfInBounds_toArray, List.set_cons_zero, List.set_cons_succ, List.getElem_toArray, List.getElem_cons_zero, List.getElem_cons_succ]
        refine wpAnyL_ready (rs := [15]) (by kernel_rfl) (by simp) ?_
        refine AllL.cons rfl (fun K hK => ?_) ?_
        ·
         obtain ⟨u16, w16, hrun, ⟨A16, c16, rfl⟩, hT, hb⟩ := HT15.out.appA (by simp; omega)
         have HT16 := Lib.hid hT
         have HB16 := Lib.hid (HB15.out.trans hb)
         have HR16 := Lib.hid hrun
         clear hT hb hrun
         refine step_append_run _ (by rfl) _ _ _ _ (by rfl) _ _ (by rfl) (by rfl) _ _ HR16.out ?_
         simp only [Act.put, List.setIfInBounds_toArray, List.set_cons_zero, List.set_cons_succ, List.getElem_toArray, List.getElem_cons_zero, List.getElem_cons_succ]
         have hs16 := HALL.out _ HB16.out
         have HK16 := Lib.hid hs16
         clear hs16
         refine hK.out _ _ HK16.out.1 (fun _ => HK16.out.2) ?_
         clear hK K
         refine wpAnyL_ready (rs := [17]) (by kernel_rfl) (by simp) ?_
         refine AllL.cons rfl (fun K hK => ?_) ?_
         ·
          have hc := HT16.out.cellN
          have hf := HT16.out.fr 2
          go_simp
          clear hc hf
          refine hK.out _ _ (And.intro (setOther _ (p := ⟨w.heap.size + 1 + 1, 2, none⟩) HK16.out.1.1 (by simp; omega)) (setOther _ (p := ⟨w.heap.size + 1 + 1, 2, none⟩) HK16.out.1.2 (by have := HLA.out; simp; omega))) (fun h => absurd (h 17 (by simp)) (by decide)) ?_
          clear hK K
          refine wpAnyL_pure (i := 18) rfl (by kernel_rfl) (fun _ _ _ h => h) (Or.inl ⟨by rfl, (fun u hu => by have hu1 := hu.1; have hu2 := hu.2; go_simp; try rfl)⟩) (And.intro (setOther _ (p := ⟨w.heap.size + 1 + 1, 2, none⟩) HK16.out.1.1 (by simp; omega)) (setOther _ (p := ⟨w.heap.size + 1 + 1, 2, none⟩) HK16.out.1.2 (by have := HLA.out; simp; omega))) (fun h => absurd (h 17 (by simp)) (by decide)) ?_
          simp only [Act.put, List.setIfInBounds_toArray, List.set_cons_zero, List.set_cons_succ, List.getElem_toArray, List.getElem_cons_zero, List.getElem_cons_succ]
          refine wpAnyL_ready (rs := [19]) (by kernel_rfl) (by simp) ?_
          refine AllL.cons rfl (fun K hK => ?_) ?_
          ·
           have hc := fun u => setOther0 (u := u) (HT16.out.cellA) (HT16.out.fr 1)
           have hc1 := fun u => (hc u).1
           have hc2 := fun u => (hc u).2
           clear hc
           go_simp
           clear hc1 hc2
           refine hK.out _ _ (And.intro (setOther _ (p := ⟨w.heap.size + 1 + 1, 1, none⟩) (setOther _ (p := ⟨w.heap.size + 1 + 1, 2, none⟩) HK16.out.1.1 (by simp; omega)) (by simp; omega)) (setOther _ (p := ⟨w.heap.size + 1 + 1, 1, none⟩) (setOther _ (p := ⟨w.heap.size + 1 + 1, 2, none⟩) HK16.out.1.2 (by have := HLA.out; simp; omega)) (by have := HLA.out; simp; omega))) (fun h => absurd (h 17 (by simp)) (by decide)) ?_
           clear hK K
           refine wpAnyL_done (by kernel_rfl) ?_ _
           go_wp2_with fail
           go_meet
           exact ⟨rfl, PlSt.next HY.out (by have h := HT16.out; simp only [List.length_map, List.length_take] at h; exact h) HB16.out HBX.out HBR.out HB.out (Nat.le_refl _) HX.out HR.out⟩
          exact AllL.nil
         exact AllL.nil
        exact AllL.nil
       exact AllL.nil
      exact AllL.nil
     exact AllL.nil
    refine AllL.cons rfl (fun K hK => ?_) ?_
    ·
     go_simp
     have HT19 := Lib.hid (HT.out.allocA _ (by first | exact World.size_alloc _ _ | rfl) 3)
     have HB19 := Lib.hid (HB0.out.alloc HT.out.le (.cells #[.int .i64 y] 3))
     have hs19 := HALL.out _ HB19.out
     have HK19 := Lib.hid hs19
     clear hs19
     refine hK.out _ _ HK19.out.1 (fun _ => HK19.out.2) ?_
     clear hK K
     refine wpAnyL_ready (rs := [3]) (by kernel_rfl) (by simp) ?_
     refine AllL.cons rfl (fun K hK => ?_) ?_
     ·
      go_simp
      refine (cloneInt _ _ _ _ _ _ (HSR.out.drew.keep (.belowB HB19.out (fun b hb => by have := hb.2; omega))).ints (by omega)).mono ?_
      rintro e w20 ⟨v20, rfl, hv, hb⟩
      obtain ⟨Av, cv, rfl, _, _⟩ := hv.form
      have HT20 := Lib.hid (HT19.out.setV (by rw [← HM.out]; exact hv) hb)
      have HB20 := Lib.hid (HB19.out.trans (hb.mono HT19.out.le))
      clear hv hb
      have hs20 := HALL.out _ HB20.out
      have HK20 := Lib.hid hs20
      clear hs20
      refine hK.out _ _ HK20.out.1 (fun _ => HK20.out.2) ?_
      clear hK K
      refine wpAnyL_ready (rs := [4]) (by kernel_rfl) (by simp) ?_
      refine AllL.cons rfl (fun K hK => ?_) ?_
      ·
       go_simp
       have HT21 := Lib.hid (HT20.out.allocN _ (by first | exact World.size_alloc _ _ | rfl) 22)
       have HB21 := Lib.hid (HB20.out.alloc HT20.out.le (.cells #[.slice Av m cv] 22))
       have hs21 := HALL.out _ HB21.out
       have HK21 := Lib.hid hs21
       clear hs21
       refine hK.out _ _ HK21.out.1 (fun _ => HK21.out.2) ?_
       clear hK K
       refine wpAnyL_ready (rs := [5]) (by kernel_rfl) (by simp) ?_
       refine AllL.cons rfl (fun K hK => ?_) ?_
       ·
        obtain ⟨u22, w22, hrun, ⟨A22, c22, rfl⟩, hT, hb⟩ := HT21.out.appN (by simp; omega)
        have HT22 := Lib.hid hT
        have HB22 := Lib.hid (HB21.out.trans hb)
        have HR22 := Lib.hid hrun
        clear hT hb hrun
        refine step_append_run _ (by rfl) _ _ _ _ (by rfl) _ _ (by rfl) (by rfl) _ _ HR22.out ?_
        simp only [Act.put, List.setIfInBounds_toArray, List.set_cons_zero, List.set_cons_succ, List.getElem_toArray, List.getElem_cons_zero, List.getElem_cons_succ]
        have hs22 := HALL.out _ HB22.out
        have HK22 := Lib.hid hs22
        clear hs22
        refine hK.out _ _ HK22.out.1 (fun _ => HK22.out.2) ?_
        clear hK K
        refine wpAnyL_pure (i := 16) rfl (by kernel_rfl) (fun _ _ _ h => h) (Or.inl ⟨by rfl, (fun u hu => by have hu1 := hu.1; have hu2 := hu.2; go_simp; try rfl)⟩) HK22.out.1 (fun _ => HK22.out.2) ?_
        simp only [Act.put, List.setIfInBounds_toArray, List.set_cons_zero, List.set_cons_succ, List.getElem_toArray, List.getElem_cons_zero, List.getElem_cons_succ]
        refine wpAnyL_ready (rs := [15]) (by kernel_rfl) (by simp) ?_
        refine AllL.cons rfl (fun K hK => ?_) ?_
        ·
         obtain ⟨u23, w23, hrun, ⟨A23, c23, rfl⟩, hT, hb⟩ := HT22.out.appA (by simp; omega)
         have HT23 := Lib.hid hT
         have HB23 := Lib.hid (HB22.out.trans hb)
         have HR23 := Lib.hid hrun
         clear hT hb hrun
         refine step_append_run _ (by rfl) _ _ _ _ (by rfl) _ _ (by rfl) (by rfl) _ _ HR23.out ?_
         simp only [Act.put, List.setIfInBounds_toArray, List.set_cons_zero, List.set_cons_succ, List.getElem_toArray, List.getElem_cons_zero, List.getElem_cons_succ]
         have hs23 := HALL.out _ HB23.out
         have HK23 := Lib.hid hs23
         clear hs23
         refine hK.out _ _ HK23.out.1 (fun _ => HK23.out.2) ?_
         clear hK K
         refine wpAnyL_ready (rs := [17]) (by kernel_rfl) (by simp) ?_
         refine AllL.cons rfl (fun K hK => ?_) ?_
         ·
          have hc := HT23.out.cellN
          have hf := HT23.out.fr 2
          go_simp
          clear hc hf
          refine hK.out _ _ (And.intro (setOther _ (p := ⟨w.heap.size + 1 + 1, 2, none⟩) HK23.out.1.1 (by simp; omega)) (setOther _ (p := ⟨w.heap.size + 1 + 1, 2, none⟩) HK23.out.1.2 (by have := HLA.out; simp; omega))) (fun h => absurd (h 17 (by simp)) (by decide)) ?_
          clear hK K
          refine wpAnyL_pure (i := 18) rfl (by kernel_rfl) (fun _ _ _ h => h) (Or.inl ⟨by rfl, (fun u hu => by have hu1 := hu.1; have hu2 := hu.2; go_simp; try rfl)⟩) (And.intro (setOther _ (p := ⟨w.heap.size + 1 + 1, 2, none⟩) HK23.out.1.1 (by simp; omega)) (setOther _ (p := ⟨w.heap.size + 1 + 1, 2, none⟩) HK23.out.1.2 (by have := HLA.out; simp; omega))) (fun h => absurd (h 17 (by simp)) (by decide)) ?_
          simp only [Act.put, List.setIfInBounds_toArray, List.set_cons_zero, List.set_cons_succ, List.getElem_toArray, List.getElem_cons_zero, List.getElem_cons_succ]
          refine wpAnyL_ready (rs := [19]) (by kernel_rfl) (by simp) ?_
          refine AllL.cons rfl (fun K hK => ?_) ?_
          ·
           have hc := fun u => setOther0 (u := u) (HT23.out.cellA) (HT23.out.fr 1)
           have hc1 := fun u => (hc u).1
           have hc2 := fun u => (hc u).2
           clear hc
           go_simp
           clear hc1 hc2
           refine hK.out _ _ (And.intro (setOther _ (p := ⟨w.heap.size + 1 + 1, 1, none⟩) (setOther _ (p := ⟨w.heap.size + 1 + 1, 2, none⟩) HK23.out.1.1 (by simp; omega)) (by simp; omega)) (setOther _ (p := ⟨w.heap.size + 1 + 1, 1, none⟩) (setOther _ (p := ⟨w.heap.size + 1 + 1, 2, none⟩) HK23.out.1.2 (by have := HLA.out; simp; omega)) (by have := HLA.out; simp; omega))) (fun h => absurd (h 17 (by simp)) (by decide)) ?_
           clear hK K
           refine wpAnyL_done (by kernel_rfl) ?_ _
           go_wp2_with fail
           go_meet
           exact ⟨rfl, PlSt.next HY.out (by have h := HT23.out; simp only [List.length_map, List.length_take] at h; exact h) HB23.out HBX.out HBR.out HB.out (Nat.le_refl _) HX.out HR.out⟩
          exact AllL.nil
         exact AllL.nil
        exact AllL.nil
       exact AllL.nil
      exact AllL.nil
     exact AllL.nil
    exact AllL.nil
   case rest =>
    obtain ⟨rfl, hst⟩ := hcut
    have HST := Lib.hid hst
    clear hst
    go_wp2_with fail
    go_roundg (nA - (s + 1))
    case measure => rw [HGK.out]; omega
    case rel => exact ⟨s + 1, by omega, rfl, by go_num, HST.out⟩
  ·
   obtain rfl : s = nA := by omega
   have hd := HD.out
   have hla : acc.length = s := by have := HA.out.len; omega
   rw [List.take_of_length_le (by omega), List.take_of_length_le (by have := HE.out; omega)] at hd
   have HD2 := Lib.hid hd
   have hc0 := hd.cellS
   have hc1 := hd.cellA
   have hc2 := hd.cellN
   obtain ⟨hr0, hr1, hr2⟩ : wr.cell? ⟨w.heap.size + 1, 0, none⟩ = some (.int .i64 0) ∧ wr.cell? ⟨w.heap.size + 1, 1, none⟩ = some (.slice none 0 0) ∧ wr.cell? ⟨w.heap.size + 1, 2, none⟩ = some (.slice none 0 0) := by simp [World.cell?, HBR.out]
   have hf0 : wr.frozen? ⟨w.heap.size + 1, 0, none⟩ = false := by simp [World.frozen?, HBR.out]
   have hf1 : wr.frozen? ⟨w.heap.size + 1, 1, none⟩ = false := by simp [World.frozen?, HBR.out]
   have hf2 : wr.frozen? ⟨w.heap.size + 1, 2, none⟩ = false := by simp [World.frozen?, HBR.out]
   obtain ⟨A1, c1, rfl, _, _⟩ := hd.ownA.form
   obtain ⟨A3, c3, rfl, _, _⟩ := hd.ownN.form
   simp only [List.length_map] at hc1 hc2
   rw [hla] at hc1
   rw [← HE.out] at hc2
   clear hd hla
   go_wp2_with fail
   refine bodyPost_ret (v := .agg #[.int .i64 start, .slice A1 s c1, .slice A3 s c3]) (by simp [results, Try.results43, go_sem, hr0, hr1, hr2]) rfl ?_
   have h := HD2.out
   have hla : acc.length = s := by have := HA.out.len; omega
   simp only [List.length_map] at h
   rw [hla, ← HE.out] at h
   have hset : ∀ (u : World) (i : Nat) (v : Value), u.grownBy (u.setCell ⟨w.heap.size + 1, i, none⟩ v) (some (w.heap.size + 1)) := fun u i v => set_grown u i v
   have hne : ∀ g, some (w.heap.size + 1) = some g → g ≠ w.heap.size + 1 + 1 ∧ g < w.heap.size + 1 + 1 + 1 := fun g e => by injection e with e; omega
   exact ⟨w.heap.size + 1 + 1, _, _, xs, by omega, rfl, ((h.grown (hset _ _ _) hne).grown (hset _ _ _) hne).grown (hset _ _ _) hne, ((HB.out.setCell (by simp) _).setCell (by simp) _).setCell (by simp) _⟩
end Go.Proofs.Ytgaahpddlohjoaa
