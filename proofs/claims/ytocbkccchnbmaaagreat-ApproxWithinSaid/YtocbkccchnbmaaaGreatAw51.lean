/- Other -/
import Derived.Deep.CutBlock
import Derived.Deep.CutRange
import Derived.Deep.LoopGhost
import Derived.Deep.RegionHeld3
import Derived.Test.YtocbkccchnbmaaaGreatAw07
import Derived.Test.YtocbkccchnbmaaaGreatAw24
import Derived.Test.YtocbkccchnbmaaaGreatAw30
import Derived.Test.YtocbkccchnbmaaaGreatAw31
import Derived.Test.YtocbkccchnbmaaaGreatAw33
namespace Go.Proofs.YtocbkccchnbmaaaGreat
open Go.RowKit
def oRow (n : Nat) (r : List Int) : List Int := r.map fun t => if t < 0 then (n : Int) else t
def oAcc (a : Int) : Int := if 0 ≤ a then -1 else 0
def otherD (d : DfaD) : DfaD := (d.1, d.2.1.map oAcc ++ [0], d.2.2.map (oRow d.2.2.length) ++ [List.replicate (cols d) (d.2.2.length : Int)])
theorem oRow_len (n : Nat) (r : List Int) : (oRow n r).length = r.length := by simp [oRow]
def mixRow (n : Nat) (r : List Int) (j : Nat) : List Int := oRow n (r.take j) ++ r.drop j
theorem mixRow_zero (n : Nat) (r : List Int) : mixRow n r 0 = r := by simp [mixRow, oRow]
theorem mixRow_all (n : Nat) (r : List Int) (j : Nat) (h : r.length ≤ j) : mixRow n r j = oRow n r := by simp [mixRow, List.take_of_length_le h, List.drop_of_length_le h]
theorem mixRow_step {n : Nat} {r : List Int} {j : Nat} {x : Int} (h : r[j]? = some x) : mixRow n r (j + 1) = (mixRow n r j).set j (if x < 0 then (n : Int) else x) := by
 obtain ⟨hj, rfl⟩ := List.getElem?_eq_some_iff.1 h
 have hl : (oRow n (r.take j)).length = j := by simp [oRow]; omega
 unfold mixRow
 rw [List.set_append, if_neg (by omega), hl, Nat.sub_self, List.drop_eq_getElem_cons hj, List.set_cons_zero, List.take_succ_eq_append_getElem hj]
 unfold oRow
 rw [List.map_append, List.append_assoc]
 rfl
theorem mixRow_at {n : Nat} {r : List Int} {j : Nat} (h : j < r.length) : (mixRow n r j)[j]? = r[j]? := by
 have hl : (oRow n (r.take j)).length = j := by simp [oRow]; omega
 unfold mixRow
 rw [List.getElem?_append_right (by omega), hl, Nat.sub_self, List.getElem?_drop, Nat.add_zero]
def OtSt (w : World) (Bd : Nat) (start : Int) (cs : Array Value) (acc : List Int) (rows : List (List Int)) (n : Nat) (s : Nat) (wr : World) : Prop :=
 ∃ vA vN xs, DfaB wr (Bd + 1) Bd start ((acc.take s).map oAcc) ((rows.take s).map (oRow n)) vA vN xs ∧ wr.heap[w.heap.size]? = some (.cells cs 29 (0, 0)) ∧
  wr.heap[w.heap.size + 1]? = some (.cells #[.int .i64 0, .slice none 0 0, .slice none 0 0] 29 (0, 0)) ∧ Below w.heap.size w wr
theorem OtSt.next {w wr wk : World} {Bd n s H K : Nat} {start x y : Int} (hy : (0 ≤ x ∧ y = -1) ∨ (¬ 0 ≤ x ∧ y = 0)) {cs : Array Value} {acc row : List Int} {rows : List (List Int)} {vA vN v u u' : Value} {xs : List Value}
    (ht : Two wk (Bd + 1) Bd start ((acc.take s).map oAcc) ((rows.take s).map (oRow n)) vA vN xs (oRow n row) y (some v) (some H) (some u) (some K) (some u')) (hb : Below (Bd + 1) wr.drew wk)
    (hbx : wr.heap[w.heap.size]? = some (.cells cs 29 (0, 0))) (hbr : wr.heap[w.heap.size + 1]? = some (.cells #[.int .i64 0, .slice none 0 0, .slice none 0 0] 29 (0, 0))) (hB : Below w.heap.size w wr) (hw : w.heap.size + 2 ≤ Bd)
    (hx : acc[s]? = some x) (hr : rows[s]? = some row) : OtSt w Bd start cs acc rows n (s + 1) ((wk.setCell ⟨Bd, 2, none⟩ u).setCell ⟨Bd, 1, none⟩ u') := by
 have hr' : rows.take (s + 1) = rows.take s ++ [row] := by
  obtain ⟨hk, rfl⟩ := List.getElem?_eq_some_iff.1 hr
  exact List.take_succ_eq_append_getElem hk
 have hy' : oAcc x = y := by unfold oAcc; rcases hy with ⟨h1, rfl⟩ | ⟨h1, rfl⟩ <;> simp [h1]
 refine ⟨u', u, xs ++ [v], ?_, ?_, ?_, ?_⟩
 ·
  rw [int_step hx, hr', List.map_append, List.map_append, List.map_singleton, List.map_singleton, hy']
  exact ht.done
 ·
  rw [Below.heap_setCell _ _ _ _ (by simp; omega), Below.heap_setCell _ _ _ _ (by simp; omega), hb.block _ (by omega)]
  exact hbx
 ·
  rw [Below.heap_setCell _ _ _ _ (by simp; omega), Below.heap_setCell _ _ _ _ (by simp; omega), hb.block _ (by omega)]
  exact hbr
 ·
  exact ((hB.drew.trans (hb.mono (by omega))).setCell (by simp; omega) _).setCell (by simp; omega) _
def OtEnd (w : World) (Bd : Nat) (d : DfaD) (wr : World) : Prop :=
 ∃ vA vN xs, DfaB wr (Bd + 1) Bd d.1 (otherD d).2.1 (otherD d).2.2 vA vN xs ∧
  wr.heap[w.heap.size + 1]? = some (.cells #[.int .i64 0, .slice none 0 0, .slice none 0 0] 29 (0, 0)) ∧ Below w.heap.size w wr
theorem OtSt.last {w wr wk : World} {Bd H K : Nat} {d : DfaD} {vA vN v u u' : Value} {xs : List Value}
    (ht : Two wk (Bd + 1) Bd d.1 (d.2.1.map oAcc) (d.2.2.map (oRow d.2.2.length)) vA vN xs (List.replicate (cols d) (d.2.2.length : Int)) 0 (some v) (some H) (some u) (some K) (some u')) (hb : Below (Bd + 1) wr.drew wk)
    (hbr : wr.heap[w.heap.size + 1]? = some (.cells #[.int .i64 0, .slice none 0 0, .slice none 0 0] 29 (0, 0))) (hB : Below w.heap.size w wr) (hw : w.heap.size + 2 ≤ Bd) :
    OtEnd w Bd d ((wk.setCell ⟨Bd, 2, none⟩ u).setCell ⟨Bd, 1, none⟩ u') := by
 refine ⟨u', u, xs ++ [v], ht.done, ?_, ?_⟩
 ·
  rw [Below.heap_setCell _ _ _ _ (by simp; omega), Below.heap_setCell _ _ _ _ (by simp; omega), hb.block _ (by omega)]
  exact hbr
 ·
  exact ((hB.drew.trans (hb.mono (by omega))).setCell (by simp; omega) _).setCell (by simp; omega) _
theorem cell_new (w : World) (v : Value) (t : TypeId) (H : Nat) (hH : w.heap.size = H) : (w.alloc (.cells #[v] t)).cell? ⟨H, 0, none⟩ = some v := by subst hH; simp
set_option linter.unusedSimpArgs false in
set_option maxRecDepth 100000 in
set_option maxHeartbeats 4000000 in
theorem compareOther (w : World) (S : Nat → Prop) (A : Option Addr) (nA cA : Nat) (N : Option Addr) (n cN : Nat) (d : DfaD) (hA : Sl Rep.int w S A nA cA d.2.1) (hN : Sl RI w S N n cN d.2.2) (hv : Valid d) :
    Calls Tryz.prog 24 #[.agg #[.int .i64 d.1, .slice A nA cA, .slice N n cN]] w fun e w' => ∃ Bd vA vN xs, w.heap.size ≤ Bd ∧ e = .returned (.agg #[.int .i64 d.1, vA, vN]) ∧ DfaB w' (Bd + 1) Bd d.1 (otherD d).2.1 (otherD d).2.2 vA vN xs ∧ Below w.heap.size w w' := by
 have e1 := hA.len
 have e2 := hN.len
 rw [hv.na, ← e2] at e1
 subst e1
 have hn2 : nA ≤ 200 := by have := hv.n2; omega
 have hn1 : 1 ≤ nA := by have := hv.n1; omega
 have hC1 := hv.c1
 have hC2 := hv.c2
 have HA := Lib.hid hA
 have HN := Lib.hid hN
 have HV := Lib.hid hv
 have HE := Lib.hid e2
 clear hA hN hv e2
 go_enter Tryz.func24, Tryz.ntmps24
 go_wp2_with fail
 refine (dfaCheck _ S _ _ _ _ _ _ d ((HA.out.alloc _).alloc _) ((HN.out.alloc _).alloc _) HV.out).mono ?_
 rintro e w1 ⟨rfl, hb1⟩
 have hz1 : w.heap.size + 2 ≤ w1.heap.size := by have := hb1.size; simp at this; omega
 have hbx1 : w1.heap[w.heap.size]? = some (.cells #[.int .i64 d.1, .slice A nA cA, .slice N nA cN] 29 (0, 0)) := by
  rw [hb1.block _ (by simp; omega), Below.heap_alloc _ _ _ (by simp)]
  exact heap_alloc_new w _
 have hbr1 : w1.heap[w.heap.size + 1]? = some (.cells #[.int .i64 0, .slice none 0 0, .slice none 0 0] 29 (0, 0)) := by
  rw [hb1.block _ (by simp)]
  exact heap_new _ _ _ (by simp)
 have hB1 : Below w.heap.size w w1 := (((Below.refl _ _).alloc (Nat.le_refl _) _).alloc (by simp) _).trans (hb1.mono (by simp; omega))
 have hc0 : w1.cell? ⟨w.heap.size, 0, none⟩ = some (.int .i64 d.1) := by simp [World.cell?, hbx1]
 have hc2 : w1.cell? ⟨w.heap.size, 2, none⟩ = some (.slice N nA cN) := by simp [World.cell?, hbx1]
 have hl1 : w.heap.size < w1.heap.size := by omega
 have HBX1 := Lib.hid hbx1
 have HBR1 := Lib.hid hbr1
 have HB1 := Lib.hid hB1
 clear hb1 hbx1 hbr1 hB1
 go_wp2_with fail
 have hst0 : OtSt w w1.heap.size d.1 #[.int .i64 d.1, .slice A nA cA, .slice N nA cN] d.2.1 d.2.2 nA 0 (w1.alloc (.cells #[.int .i64 d.1, .slice none 0 0, .slice none 0 0] 29)) :=
  ⟨_, _, _, DfaB.start_ w1 _, (Below.heap_alloc _ _ _ (by omega)).trans HBX1.out, (Below.heap_alloc _ _ _ (by omega)).trans HBR1.out, HB1.out.alloc HB1.out.size _⟩
 have HST0 := Lib.hid hst0
 obtain ⟨Bd, hBd⟩ : ∃ Bd, Bd = w1.heap.size := ⟨_, rfl⟩
 rw [← hBd] at HST0 hz1 ⊢
 have hBB := hz1
 clear hst0 hBd hl1 hc0 hc2 HBX1 HBR1 HB1 hz1
 go_loopg [24] nA (fun k i wr => ∃ s : Nat, s ≤ nA ∧ k = nA - s ∧ i = .int .i64 s ∧ OtSt w Bd d.1 #[.int .i64 d.1, .slice A nA cA, .slice N nA cN] d.2.1 d.2.2 nA s wr)
 case atStart => exact ⟨0, Nat.zero_le _, rfl, rfl, HST0.out⟩
 case round =>
  obtain ⟨s, hs, hgk, rfl, vA, vN, xs, hd, hbx, hbr, hb⟩ := hrel
  clear HST0
  have HGK := Lib.hid hgk
  have HD := Lib.hid hd
  have HBX := Lib.hid hbx
  have HBR := Lib.hid hbr
  have HB := Lib.hid hb
  have HLE := Lib.hid hd.le
  clear hgk hbx hbr hb hd
  by_cases hlt : s < nA
  ·
   obtain ⟨bA, oA, x, rfl, _, hx, hcx0⟩ := HA.out.ints.int_at hlt
   obtain ⟨bN, oN, AR, m, cR, row, rfl, _, _, hcR0, hr, hsr⟩ := row_at HN.out hlt
   have hbA : bA < w.heap.size := cell_lt hcx0
   have hcR : wr.cell? ⟨bN, oN + s, none⟩ = some (.slice AR m cR) := Kept.below (S := fun _ => True) HB.out _ _ trivial hcR0
   have hm := hsr.len
   obtain ⟨hm1, hm2⟩ : 1 ≤ m ∧ m ≤ 16 := by
    have := (HV.out.rows row (List.mem_of_getElem? hr)).1
    omega
   have HM := Lib.hid hm
   have HX := Lib.hid hx
   have HR := Lib.hid hr
   have HSR := Lib.hid (hsr.fit.below HB.out)
   have HCX0 := Lib.hid hcx0
   clear hx hcx0 hcR0 hr hsr hm
   go_upto_block 1 with fail
   go_cut [24] from 24 to 63 (fun i wx => i = .int .i64 s ∧ OtSt w Bd d.1 #[.int .i64 d.1, .slice (some ⟨bA, oA, none⟩) nA cA, .slice (some ⟨bN, oN, none⟩) nA cN] d.2.1 d.2.2 nA (s + 1) wx)
   case first =>
    obtain ⟨wo, rfl⟩ : ∃ wo : World, wo = wr := ⟨_, rfl⟩
    go_wp2_with fail
    refine (cloneInt _ _ _ _ _ _ HSR.out.ints (by omega)).mono ?_
    rintro e wcl ⟨v7, rfl, hv7, hb2⟩
    obtain ⟨A7, c7, rfl, hc7, _⟩ := hv7.form
    obtain ⟨g, rfl, hg, ho7⟩ := hv7.addr (by omega)
    have HO7 := Lib.hid ho7
    have HBcl := Lib.hid hb2
    clear hv7 ho7 hb2 hcR
    go_wp2_with fail
    go_loopg [33] m (fun k i wr => ∃ j : Nat, j ≤ m ∧ k = m - j ∧ i = .int .i64 j ∧ wr.ownsRow wo.heap.size 3 1 (.slice (some ⟨g, 0, none⟩) m c7) m ((mixRow nA row j).map (Value.int .i64)) ∧ wcl.grownBy wr (some g))
    case atStart => exact ⟨0, Nat.zero_le _, rfl, rfl, by rw [mixRow_zero]; exact HO7.out, World.grownBy.refl _ _⟩
    case round =>
     obtain ⟨j, hj, hgj, rfl, hoj, hgw⟩ := hrel
     have HGJ := Lib.hid hgj
     have HOJ := Lib.hid hoj
     have HGW := Lib.hid hgw
     clear hgj hgw
     by_cases hjl : j < m
     ·
      obtain ⟨t, ht⟩ : ∃ t, row[j]? = some t := ⟨_, List.getElem?_eq_getElem (by rw [← HM.out]; exact hjl)⟩
      have hct : wr.cell? ⟨g, j, none⟩ = some (.int .i64 t) := by
       have := hoj.cells (g := g) rfl j (.int .i64 t) (by rw [List.getElem?_map, mixRow_at (by rw [← HM.out]; exact hjl), ht]; rfl)
       by_cases h0 : j = 0
       ·
        subst h0; exact this
       ·
        simpa [Addr.add, h0] using this
      have hfr : wr.frozen? ⟨g, j, none⟩ = false := by
       rcases hoj.2 with ⟨e, _⟩ | ⟨g', cap, cur, e, _, hh, _⟩
       ·
        cases e
       ·
        injection e with e _ _
        injection e with e
        injection e with e _ _
        subst e
        simp [World.frozen?, hh]
      have HT := Lib.hid ht
      clear hoj ht
      by_cases ht0 : t < 0
      ·
       have hst := (HOJ.out.stored j (.int .i64 (nA : Int))).1
       have hstep : mixRow nA row (j + 1) = (mixRow nA row j).set j (nA : Int) := by rw [mixRow_step HT.out, if_pos ht0]
       have hst' : (wr.setCell ⟨g, j, none⟩ (.int .i64 (nA : Int))).ownsRow wo.heap.size 3 1 (.slice (some ⟨g, 0, none⟩) m c7) m ((mixRow nA row (j + 1)).map (Value.int .i64)) := by
        rw [hstep, List.map_set]; exact hst
       have HST := Lib.hid hst'
       clear hst hst' hstep
       go_wp2_with fail
       go_roundg (m - (j + 1))
       case measure => rw [HGJ.out]; omega
       case rel => exact ⟨j + 1, by omega, rfl, by go_num, HST.out, HGW.out.trans (set_grown (Bd := g) wr j _)⟩
      ·
       have hstep : mixRow nA row (j + 1) = mixRow nA row j := by
        rw [mixRow_step HT.out, if_neg ht0]
        obtain ⟨hjx, hje⟩ := List.getElem?_eq_some_iff.1 (show (mixRow nA row j)[j]? = some t by rw [mixRow_at (by rw [← HM.out]; exact hjl)]; exact HT.out)
        rw [← hje]
        exact List.set_getElem_self hjx
       have hst' := HOJ.out
       rw [← hstep] at hst'
       have HST := Lib.hid hst'
       clear hst' hstep
       go_wp2_with fail
       go_roundg (m - (j + 1))
       case measure => rw [HGJ.out]; omega
       case rel => exact ⟨j + 1, by omega, rfl, by go_num, HST.out, HGW.out⟩
     ·
      obtain rfl : j = m := by omega
      rw [mixRow_all _ _ _ (by rw [← HM.out]; omega)] at hoj
      have hbw : Below wo.heap.size wo wr := HBcl.out.grown HGW.out HBcl.out.size (fun k e => by injection e with e; omega)
      have hle := HLE.out
      have HOw := Lib.hid (Own.mono (base' := Bd + 1) (Or.inl hoj) hle)
      have HDw := Lib.hid (HD.out.below hbw)
      have HBw := Lib.hid (HB.out.trans (hbw.mono HB.out.size))
      have HBXw := Lib.hid ((hbw.block w.heap.size (by omega)).trans HBX.out)
      have HBRw := Lib.hid ((hbw.block (w.heap.size + 1) (by omega)).trans HBR.out)
      have hgd : ∀ {u : Value}, (∀ q, rowOf u = some q → q < wo.heap.size) → Dis (.slice (some ⟨g, 0, none⟩) j c7) u := fun hu q e e' => by
       have := (Own.row (Or.inl hoj) e).1
       have := hu q e'
       omega
      have HDA := Lib.hid (hgd (u := vA) fun q e => (HD.out.ownA.row e).2)
      have HDN := Lib.hid (hgd (u := vN) fun q e => (HD.out.ownN.row e).2)
      have hcx : wr.cell? ⟨bA, oA + s, none⟩ = some (.int .i64 x) := Kept.below (S := fun _ => True) HBw.out _ _ trivial HCX0.out
      have hcB : wr.cell? ⟨w.heap.size, 1, none⟩ = some (.slice (some ⟨bA, oA, none⟩) nA cA) := by simp [World.cell?, HBXw.out]
      clear hoj hbw hgd HGW HGJ HOJ HD HBX HBR HBcl HO7
      by_cases hx0 : 0 ≤ x
      ·
       go_wp2_with fail
       have HT := Lib.hid (HDw.out.drew.twoV (oRow nA row) ((-1)) (by rw [oRow_len, ← HM.out]; exact HOw.out) HDA.out HDN.out)
       have HB0 := Lib.hid (Below.refl (Bd + 1) wr.drew)
       have hall : ∀ u : World, Below (Bd + 1) wr.drew u → True ∧ (u.cell? ⟨Bd, 1, none⟩ = some vA ∧ u.cell? ⟨Bd, 2, none⟩ = some vN) := fun u hu => ⟨trivial, (hu.cell (by simp)).trans HDw.out.cellA, (hu.cell (by simp)).trans HDw.out.cellN⟩
       have HALL := Lib.hid hall
       have HK := Lib.hid (hall _ HB0.out)
       clear hall
       refine wp_region_late (late := [11, 13]) (S1 := fun _ => True) (S := fun u => u.cell? ⟨Bd, 1, none⟩ = some vA ∧ u.cell? ⟨Bd, 2, none⟩ = some vN) (by kernel_rfl) ?_
       refine wpAnyL_pure (i := 0) rfl (by kernel_rfl) (fun _ _ _ h => h) (Or.inl ⟨by rfl, (fun u hu => by go_simp; try rfl)⟩) HK.out.1 (fun _ => HK.out.2) ?_
       simp only [Act.put, List.setIfInBounds_toArray, List.set_cons_zero, List.set_cons_succ, List.getElem_toArray, List.getElem_cons_zero, List.getElem_cons_succ]
       refine wpAnyL_take (i := 1) rfl (by kernel_rfl) (fun _ _ _ h => h) (Or.inl ⟨by rfl, (fun u hu => by have hu3 := hu.2.1; have hu4 := hu.2.2; go_simp; try rfl)⟩) HK.out.1 (fun _ => HK.out.2) ?_
       simp only [Act.put, List.setIfInBounds_toArray, List.set_cons_zero, List.set_cons_succ, List.getElem_toArray, List.getElem_cons_zero, List.getElem_cons_succ]
       refine wpAnyL_pure (i := 2) rfl (by kernel_rfl) (fun _ _ _ h => h) (Or.inl ⟨by rfl, (fun u hu => by go_simp; try rfl)⟩) HK.out.1 (fun _ => HK.out.2) ?_
       simp only [Act.put, List.setIfInBounds_toArray, List.set_cons_zero, List.set_cons_succ, List.getElem_toArray, List.getElem_cons_zero, List.getElem_cons_succ]
       refine wpAnyL_pure (i := 5) rfl (by kernel_rfl) (fun _ _ _ h => h) (Or.inl ⟨by rfl, (fun u hu => by go_simp; try rfl)⟩) HK.out.1 (fun _ => HK.out.2) ?_
       simp only [Act.put, List.setIfInBounds_toArray, List.set_cons_zero, List.set_cons_succ, List.getElem_toArray, List.getElem_cons_zero, List.getElem_cons_succ]
       refine wpAnyL_take (i := 6) rfl (by kernel_rfl) (fun _ _ _ h => h) (Or.inl ⟨by rfl, (fun u hu => by have hu3 := hu.2.1; have hu4 := hu.2.2; go_simp; try rfl)⟩) HK.out.1 (fun _ => HK.out.2) ?_
       simp only [Act.put, List.setIfInBounds_toArray, List.set_cons_zero, List.set_cons_succ, List.getElem_toArray, List.getElem_cons_zero, List.getElem_cons_succ]
       refine wpAnyL_pure (i := 7) rfl (by kernel_rfl) (fun _ _ _ h => h) (Or.inl ⟨by rfl, (fun u hu => by go_simp; try rfl)⟩) HK.out.1 (fun _ => HK.out.2) ?_
       simp only [Act.put, List.setIfInBounds_toArray, List.set_cons_zero, List.set_cons_succ, List.getElem_toArray, List.getElem_cons_zero, List.getElem_cons_succ]
       refine wpAnyL_ready (rs := [3, 8]) (by kernel_rfl) (by simp) ?_
       refine AllL.cons rfl (fun K hK => ?_) ?_
       ·
        go_simp
        have HT1 := Lib.hid (HT.out.allocN _ (by first | exact World.size_alloc _ _ | rfl) 22)
        have HB1 := Lib.hid (HB0.out.alloc HT.out.le (.cells #[.slice (some ⟨g, 0, none⟩) j c7] 22))
        have hs1 := HALL.out _ HB1.out
        have HK1 := Lib.hid hs1
        clear hs1
        refine hK.out _ _ HK1.out.1 (fun _ => HK1.out.2) ?_
        clear hK K
        refine wpAnyL_ready (rs := [4, 8]) (by kernel_rfl) (by simp) ?_
        refine AllL.cons rfl (fun K hK => ?_) ?_
        ·
         obtain ⟨u2, w2, hrun, ⟨A2, c2, rfl⟩, hT, hb⟩ := HT1.out.appN (by simp; omega)
         have HT2 := Lib.hid hT
         have HB2 := Lib.hid (HB1.out.trans hb)
         have HR2 := Lib.hid hrun
         clear hT hb hrun
         refine step_append_run _ (by rfl) _ _ _ _ (by rfl) _ _ (by rfl) (by rfl) _ _ HR2.out ?_
         simp only [Act.put, List.setIfInBounds_toArray, List.set_cons_zero, List.set_cons_succ, List.getElem_toArray, List.getElem_cons_zero, List.getElem_cons_succ]
         have hs2 := HALL.out _ HB2.out
         have HK2 := Lib.hid hs2
         clear hs2
         refine hK.out _ _ HK2.out.1 (fun _ => HK2.out.2) ?_
         clear hK K
         refine wpAnyL_pure (i := 10) rfl (by kernel_rfl) (fun _ _ _ h => h) (Or.inl ⟨by rfl, (fun u hu => by go_simp; try rfl)⟩) HK2.out.1 (fun _ => HK2.out.2) ?_
         simp only [Act.put, List.setIfInBounds_toArray, List.set_cons_zero, List.set_cons_succ, List.getElem_toArray, List.getElem_cons_zero, List.getElem_cons_succ]
         refine wpAnyL_ready (rs := [8]) (by kernel_rfl) (by simp) ?_
         refine AllL.cons rfl (fun K hK => ?_) ?_
         ·
          go_simp
          have HT3 := Lib.hid (HT2.out.allocA _ (by first | exact World.size_alloc _ _ | rfl) 3)
          have HB3 := Lib.hid (HB2.out.alloc HT2.out.le (.cells #[.int .i64 (-1)] 3))
          have hs3 := HALL.out _ HB3.out
          have HK3 := Lib.hid hs3
          clear hs3
          refine hK.out _ _ HK3.out.1 (fun _ => HK3.out.2) ?_
          clear hK K
          refine wpAnyL_ready (rs := [9]) (by kernel_rfl) (by simp) ?_
          refine AllL.cons rfl (fun K hK => ?_) ?_
          ·
           obtain ⟨u4, w4, hrun, ⟨A4, c4, rfl⟩, hT, hb⟩ := HT3.out.appA (by simp; omega)
           have HT4 := Lib.hid hT
           have HB4 := Lib.hid (HB3.out.trans hb)
           have HR4 := Lib.hid hrun
           clear hT hb hrun
           refine step_append_run _ (by rfl) _ _ _ _ (by rfl) _ _ (by rfl) (by rfl) _ _ HR4.out ?_
           simp only [Act.put, List.setIfInBounds_toArray, List.set_cons_zero, List.set_cons_succ, List.getElem_toArray, List.getElem_cons_zero, List.getElem_cons_succ]
           have hs4 := HALL.out _ HB4.out
           have HK4 := Lib.hid hs4
           clear hs4
           refine hK.out _ _ HK4.out.1 (fun _ => HK4.out.2) ?_
           clear hK K
           refine wpAnyL_ready (rs := [11]) (by kernel_rfl) (by simp) ?_
           refine AllL.cons rfl (fun K hK => ?_) ?_
           ·
            have hc := HT4.out.cellN
            have hf := HT4.out.fr 2
            go_simp
            clear hc hf
            refine hK.out _ _ trivial (fun h => absurd (h 11 (by simp)) (by decide)) ?_
            clear hK K
            refine wpAnyL_pure (i := 12) rfl (by kernel_rfl) (fun _ _ _ h => h) (Or.inl ⟨by rfl, (fun u hu => by go_simp; try rfl)⟩) trivial (fun h => absurd (h 11 (by simp)) (by decide)) ?_
            simp only [Act.put, List.setIfInBounds_toArray, List.set_cons_zero, List.set_cons_succ, List.getElem_toArray, List.getElem_cons_zero, List.getElem_cons_succ]
            refine wpAnyL_ready (rs := [13]) (by kernel_rfl) (by simp) ?_
            refine AllL.cons rfl (fun K hK => ?_) ?_
            ·
             have hc := fun u => setOther0 (u := u) (HT4.out.cellA) (HT4.out.fr 1)
             have hc1 := fun u => (hc u).1
             have hc2 := fun u => (hc u).2
             clear hc
             go_simp
             clear hc1 hc2
             refine hK.out _ _ trivial (fun h => absurd (h 11 (by simp)) (by decide)) ?_
             clear hK K
             refine wpAnyL_done (by kernel_rfl) ?_ _
             go_wp2_with fail
             go_meet
             exact ⟨rfl, OtSt.next (.inl ⟨by omega, rfl⟩) (by have h := HT4.out; simp only [List.length_map, List.length_take] at h; exact h) HB4.out HBXw.out HBRw.out HBw.out hBB HX.out HR.out⟩
            exact AllL.nil
           exact AllL.nil
          exact AllL.nil
         exact AllL.nil
        refine AllL.cons rfl (fun K hK => ?_) ?_
        ·
         go_simp
         have HT7 := Lib.hid (HT1.out.allocA _ (by first | exact World.size_alloc _ _ | rfl) 3)
         have HB7 := Lib.hid (HB1.out.alloc HT1.out.le (.cells #[.int .i64 (-1)] 3))
         have hs7 := HALL.out _ HB7.out
         have HK7 := Lib.hid hs7
         clear hs7
         refine hK.out _ _ HK7.out.1 (fun _ => HK7.out.2) ?_
         clear hK K
         refine wpAnyL_ready (rs := [4]) (by kernel_rfl) (by simp) ?_
         refine AllL.cons rfl (fun K hK => ?_) ?_
         ·
          obtain ⟨u8, w8, hrun, ⟨A8, c8, rfl⟩, hT, hb⟩ := HT7.out.appN (by simp; omega)
          have HT8 := Lib.hid hT
          have HB8 := Lib.hid (HB7.out.trans hb)
          have HR8 := Lib.hid hrun
          clear hT hb hrun
          refine step_append_run _ (by rfl) _ _ _ _ (by rfl) _ _ (by rfl) (by rfl) _ _ HR8.out ?_
          simp only [Act.put, List.setIfInBounds_toArray, List.set_cons_zero, List.set_cons_succ, List.getElem_toArray, List.getElem_cons_zero, List.getElem_cons_succ]
          have hs8 := HALL.out _ HB8.out
          have HK8 := Lib.hid hs8
          clear hs8
          refine hK.out _ _ HK8.out.1 (fun _ => HK8.out.2) ?_
          clear hK K
          refine wpAnyL_pure (i := 10) rfl (by kernel_rfl) (fun _ _ _ h => h) (Or.inl ⟨by rfl, (fun u hu => by go_simp; try rfl)⟩) HK8.out.1 (fun _ => HK8.out.2) ?_
          simp only [Act.put, List.setIfInBounds_toArray, List.set_cons_zero, List.set_cons_succ, List.getElem_toArray, List.getElem_cons_zero, List.getElem_cons_succ]
          refine wpAnyL_ready (rs := [9]) (by kernel_rfl) (by simp) ?_
          refine AllL.cons rfl (fun K hK => ?_) ?_
          ·
           obtain ⟨u9, w9, hrun, ⟨A9, c9, rfl⟩, hT, hb⟩ := HT8.out.appA (by simp; omega)
           have HT9 := Lib.hid hT
           have HB9 := Lib.hid (HB8.out.trans hb)
           have HR9 := Lib.hid hrun
           clear hT hb hrun
           refine step_append_run _ (by rfl) _ _ _ _ (by rfl) _ _ (by rfl) (by rfl) _ _ HR9.out ?_
           simp only [Act.put, List.setIfInBounds_toArray, List.set_cons_zero, List.set_cons_succ, List.getElem_toArray, List.getElem_cons_zero, List.getElem_cons_succ]
           have hs9 := HALL.out _ HB9.out
           have HK9 := Lib.hid hs9
           clear hs9
           refine hK.out _ _ HK9.out.1 (fun _ => HK9.out.2) ?_
           clear hK K
           refine wpAnyL_ready (rs := [11]) (by kernel_rfl) (by simp) ?_
           refine AllL.cons rfl (fun K hK => ?_) ?_
           ·
            have hc := HT9.out.cellN
            have hf := HT9.out.fr 2
            go_simp
            clear hc hf
            refine hK.out _ _ trivial (fun h => absurd (h 11 (by simp)) (by decide)) ?_
            clear hK K
            refine wpAnyL_pure (i := 12) rfl (by kernel_rfl) (fun _ _ _ h => h) (Or.inl ⟨by rfl, (fun u hu => by go_simp; try rfl)⟩) trivial (fun h => absurd (h 11 (by simp)) (by decide)) ?_
            simp only [Act.put, List.setIfInBounds_toArray, List.set_cons_zero, List.set_cons_succ, List.getElem_toArray, List.getElem_cons_zero, List.getElem_cons_succ]
            refine wpAnyL_ready (rs := [13]) (by kernel_rfl) (by simp) ?_
            refine AllL.cons rfl (fun K hK => ?_) ?_
            ·
             have hc := fun u => setOther0 (u := u) (HT9.out.cellA) (HT9.out.fr 1)
             have hc1 := fun u => (hc u).1
             have hc2 := fun u => (hc u).2
             clear hc
             go_simp
             clear hc1 hc2
             refine hK.out _ _ trivial (fun h => absurd (h 11 (by simp)) (by decide)) ?_
             clear hK K
             refine wpAnyL_done (by kernel_rfl) ?_ _
             go_wp2_with fail
             go_meet
             exact ⟨rfl, OtSt.next (.inl ⟨by omega, rfl⟩) (by have h := HT9.out; simp only [List.length_map, List.length_take] at h; exact h) HB9.out HBXw.out HBRw.out HBw.out hBB HX.out HR.out⟩
            exact AllL.nil
           exact AllL.nil
          exact AllL.nil
         exact AllL.nil
        exact AllL.nil
       refine AllL.cons rfl (fun K hK => ?_) ?_
       ·
        go_simp
        have HT12 := Lib.hid (HT.out.allocA _ (by first | exact World.size_alloc _ _ | rfl) 3)
        have HB12 := Lib.hid (HB0.out.alloc HT.out.le (.cells #[.int .i64 (-1)] 3))
        have hs12 := HALL.out _ HB12.out
        have HK12 := Lib.hid hs12
        clear hs12
        refine hK.out _ _ HK12.out.1 (fun _ => HK12.out.2) ?_
        clear hK K
        refine wpAnyL_ready (rs := [3]) (by kernel_rfl) (by simp) ?_
        refine AllL.cons rfl (fun K hK => ?_) ?_
        ·
         go_simp
         have HT13 := Lib.hid (HT12.out.allocN _ (by first | exact World.size_alloc _ _ | rfl) 22)
         have HB13 := Lib.hid (HB12.out.alloc HT12.out.le (.cells #[.slice (some ⟨g, 0, none⟩) j c7] 22))
         have hs13 := HALL.out _ HB13.out
         have HK13 := Lib.hid hs13
         clear hs13
         refine hK.out _ _ HK13.out.1 (fun _ => HK13.out.2) ?_
         clear hK K
         refine wpAnyL_ready (rs := [4]) (by kernel_rfl) (by simp) ?_
         refine AllL.cons rfl (fun K hK => ?_) ?_
         ·
          obtain ⟨u14, w14, hrun, ⟨A14, c14, rfl⟩, hT, hb⟩ := HT13.out.appN (by simp; omega)
          have HT14 := Lib.hid hT
          have HB14 := Lib.hid (HB13.out.trans hb)
          have HR14 := Lib.hid hrun
          clear hT hb hrun
          refine step_append_run _ (by rfl) _ _ _ _ (by rfl) _ _ (by rfl) (by rfl) _ _ HR14.out ?_
          simp only [Act.put, List.setIfInBounds_toArray, List.set_cons_zero, List.set_cons_succ, List.getElem_toArray, List.getElem_cons_zero, List.getElem_cons_succ]
          have hs14 := HALL.out _ HB14.out
          have HK14 := Lib.hid hs14
          clear hs14
          refine hK.out _ _ HK14.out.1 (fun _ => HK14.out.2) ?_
          clear hK K
          refine wpAnyL_pure (i := 10) rfl (by kernel_rfl) (fun _ _ _ h => h) (Or.inl ⟨by rfl, (fun u hu => by go_simp; try rfl)⟩) HK14.out.1 (fun _ => HK14.out.2) ?_
          simp only [Act.put, List.setIfInBounds_toArray, List.set_cons_zero, List.set_cons_succ, List.getElem_toArray, List.getElem_cons_zero, List.getElem_cons_succ]
          refine wpAnyL_ready (rs := [9]) (by kernel_rfl) (by simp) ?_
          refine AllL.cons rfl (fun K hK => ?_) ?_
          ·
           obtain ⟨u15, w15, hrun, ⟨A15, c15, rfl⟩, hT, hb⟩ := HT14.out.appA (by simp; omega)
           have HT15 := Lib.hid hT
           have HB15 := Lib.hid (HB14.out.trans hb)
           have HR15 := Lib.hid hrun
           clear hT hb hrun
           refine step_append_run _ (by rfl) _ _ _ _ (by rfl) _ _ (by rfl) (by rfl) _ _ HR15.out ?_
           simp only [Act.put, List.setIfInBounds_toArray, List.set_cons_zero, List.set_cons_succ, List.getElem_toArray, List.getElem_cons_zero, List.getElem_cons_succ]
           have hs15 := HALL.out _ HB15.out
           have HK15 := Lib.hid hs15
           clear hs15
           refine hK.out _ _ HK15.out.1 (fun _ => HK15.out.2) ?_
           clear hK K
           refine wpAnyL_ready (rs := [11]) (by kernel_rfl) (by simp) ?_
           refine AllL.cons rfl (fun K hK => ?_) ?_
           ·
            have hc := HT15.out.cellN
            have hf := HT15.out.fr 2
            go_simp
            clear hc hf
            refine hK.out _ _ trivial (fun h => absurd (h 11 (by simp)) (by decide)) ?_
            clear hK K
            refine wpAnyL_pure (i := 12) rfl (by kernel_rfl) (fun _ _ _ h => h) (Or.inl ⟨by rfl, (fun u hu => by go_simp; try rfl)⟩) trivial (fun h => absurd (h 11 (by simp)) (by decide)) ?_
            simp only [Act.put, List.setIfInBounds_toArray, List.set_cons_zero, List.set_cons_succ, List.getElem_toArray, List.getElem_cons_zero, List.getElem_cons_succ]
            refine wpAnyL_ready (rs := [13]) (by kernel_rfl) (by simp) ?_
            refine AllL.cons rfl (fun K hK => ?_) ?_
            ·
             have hc := fun u => setOther0 (u := u) (HT15.out.cellA) (HT15.out.fr 1)
             have hc1 := fun u => (hc u).1
             have hc2 := fun u => (hc u).2
             clear hc
             go_simp
             clear hc1 hc2
             refine hK.out _ _ trivial (fun h => absurd (h 11 (by simp)) (by decide)) ?_
             clear hK K
             refine wpAnyL_done (by kernel_rfl) ?_ _
             go_wp2_with fail
             go_meet
             exact ⟨rfl, OtSt.next (.inl ⟨by omega, rfl⟩) (by have h := HT15.out; simp only [List.length_map, List.length_take] at h; exact h) HB15.out HBXw.out HBRw.out HBw.out hBB HX.out HR.out⟩
            exact AllL.nil
           exact AllL.nil
          exact AllL.nil
         exact AllL.nil
        exact AllL.nil
       exact AllL.nil
      ·
       go_wp2_with fail
       have HT := Lib.hid (HDw.out.drew.twoV (oRow nA row) (0) (by rw [oRow_len, ← HM.out]; exact HOw.out) HDA.out HDN.out)
       have HB0 := Lib.hid (Below.refl (Bd + 1) wr.drew)
       have hall : ∀ u : World, Below (Bd + 1) wr.drew u → True ∧ (u.cell? ⟨Bd, 1, none⟩ = some vA ∧ u.cell? ⟨Bd, 2, none⟩ = some vN) := fun u hu => ⟨trivial, (hu.cell (by simp)).trans HDw.out.cellA, (hu.cell (by simp)).trans HDw.out.cellN⟩
       have HALL := Lib.hid hall
       have HK := Lib.hid (hall _ HB0.out)
       clear hall
       refine wp_region_late (late := [11, 13]) (S1 := fun _ => True) (S := fun u => u.cell? ⟨Bd, 1, none⟩ = some vA ∧ u.cell? ⟨Bd, 2, none⟩ = some vN) (by kernel_rfl) ?_
       refine wpAnyL_pure (i := 0) rfl (by kernel_rfl) (fun _ _ _ h => h) (Or.inl ⟨by rfl, (fun u hu => by go_simp; try rfl)⟩) HK.out.1 (fun _ => HK.out.2) ?_
       simp only [Act.put, List.setIfInBounds_toArray, List.set_cons_zero, List.set_cons_succ, List.getElem_toArray, List.getElem_cons_zero, List.getElem_cons_succ]
       refine wpAnyL_take (i := 1) rfl (by kernel_rfl) (fun _ _ _ h => h) (Or.inl ⟨by rfl, (fun u hu => by have hu3 := hu.2.1; have hu4 := hu.2.2; go_simp; try rfl)⟩) HK.out.1 (fun _ => HK.out.2) ?_
       simp only [Act.put, List.setIfInBounds_toArray, List.set_cons_zero, List.set_cons_succ, List.getElem_toArray, List.getElem_cons_zero, List.getElem_cons_succ]
       refine wpAnyL_pure (i := 2) rfl (by kernel_rfl) (fun _ _ _ h => h) (Or.inl ⟨by rfl, (fun u hu => by go_simp; try rfl)⟩) HK.out.1 (fun _ => HK.out.2) ?_
       simp only [Act.put, List.setIfInBounds_toArray, List.set_cons_zero, List.set_cons_succ, List.getElem_toArray, List.getElem_cons_zero, List.getElem_cons_succ]
       refine wpAnyL_pure (i := 5) rfl (by kernel_rfl) (fun _ _ _ h => h) (Or.inl ⟨by rfl, (fun u hu => by go_simp; try rfl)⟩) HK.out.1 (fun _ => HK.out.2) ?_
       simp only [Act.put, List.setIfInBounds_toArray, List.set_cons_zero, List.set_cons_succ, List.getElem_toArray, List.getElem_cons_zero, List.getElem_cons_succ]
       refine wpAnyL_take (i := 6) rfl (by kernel_rfl) (fun _ _ _ h => h) (Or.inl ⟨by rfl, (fun u hu => by have hu3 := hu.2.1; have hu4 := hu.2.2; go_simp; try rfl)⟩) HK.out.1 (fun _ => HK.out.2) ?_
       simp only [Act.put, List.setIfInBounds_toArray, List.set_cons_zero, List.set_cons_succ, List.getElem_toArray, List.getElem_cons_zero, List.getElem_cons_succ]
       refine wpAnyL_pure (i := 7) rfl (by kernel_rfl) (fun _ _ _ h => h) (Or.inl ⟨by rfl, (fun u hu => by go_simp; try rfl)⟩) HK.out.1 (fun _ => HK.out.2) ?_
       simp only [Act.put, List.setIfInBounds_toArray, List.set_cons_zero, List.set_cons_succ, List.getElem_toArray, List.getElem_cons_zero, List.getElem_cons_succ]
       refine wpAnyL_ready (rs := [3, 8]) (by kernel_rfl) (by simp) ?_
       refine AllL.cons rfl (fun K hK => ?_) ?_
       ·
        go_simp
        have HT1 := Lib.hid (HT.out.allocN _ (by first | exact World.size_alloc _ _ | rfl) 22)
        have HB1 := Lib.hid (HB0.out.alloc HT.out.le (.cells #[.slice (some ⟨g, 0, none⟩) j c7] 22))
        have hs1 := HALL.out _ HB1.out
        have HK1 := Lib.hid hs1
        clear hs1
        refine hK.out _ _ HK1.out.1 (fun _ => HK1.out.2) ?_
        clear hK K
        refine wpAnyL_ready (rs := [4, 8]) (by kernel_rfl) (by simp) ?_
        refine AllL.cons rfl (fun K hK => ?_) ?_
        ·
         obtain ⟨u2, w2, hrun, ⟨A2, c2, rfl⟩, hT, hb⟩ := HT1.out.appN (by simp; omega)
         have HT2 := Lib.hid hT
         have HB2 := Lib.hid (HB1.out.trans hb)
         have HR2 := Lib.hid hrun
         clear hT hb hrun
         refine step_append_run _ (by rfl) _ _ _ _ (by rfl) _ _ (by rfl) (by rfl) _ _ HR2.out ?_
         simp only [Act.put, List.setIfInBounds_toArray, List.set_cons_zero, List.set_cons_succ, List.getElem_toArray, List.getElem_cons_zero, List.getElem_cons_succ]
         have hs2 := HALL.out _ HB2.out
         have HK2 := Lib.hid hs2
         clear hs2
         refine hK.out _ _ HK2.out.1 (fun _ => HK2.out.2) ?_
         clear hK K
         refine wpAnyL_pure (i := 10) rfl (by kernel_rfl) (fun _ _ _ h => h) (Or.inl ⟨by rfl, (fun u hu => by go_simp; try rfl)⟩) HK2.out.1 (fun _ => HK2.out.2) ?_
         simp only [Act.put, List.setIfInBounds_toArray, List.set_cons_zero, List.set_cons_succ, List.getElem_toArray, List.getElem_cons_zero, List.getElem_cons_succ]
         refine wpAnyL_ready (rs := [8]) (by kernel_rfl) (by simp) ?_
         refine AllL.cons rfl (fun K hK => ?_) ?_
         ·
          go_simp
          have HT3 := Lib.hid (HT2.out.allocA _ (by first | exact World.size_alloc _ _ | rfl) 3)
          have HB3 := Lib.hid (HB2.out.alloc HT2.out.le (.cells #[.int .i64 0] 3))
          have hs3 := HALL.out _ HB3.out
          have HK3 := Lib.hid hs3
          clear hs3
          refine hK.out _ _ HK3.out.1 (fun _ => HK3.out.2) ?_
          clear hK K
          refine wpAnyL_ready (rs := [9]) (by kernel_rfl) (by simp) ?_
          refine AllL.cons rfl (fun K hK => ?_) ?_
          ·
           obtain ⟨u4, w4, hrun, ⟨A4, c4, rfl⟩, hT, hb⟩ := HT3.out.appA (by simp; omega)
           have HT4 := Lib.hid hT
           have HB4 := Lib.hid (HB3.out.trans hb)
           have HR4 := Lib.hid hrun
           clear hT hb hrun
           refine step_append_run _ (by rfl) _ _ _ _ (by rfl) _ _ (by rfl) (by rfl) _ _ HR4.out ?_
           simp only [Act.put, List.setIfInBounds_toArray, List.set_cons_zero, List.set_cons_succ, List.getElem_toArray, List.getElem_cons_zero, List.getElem_cons_succ]
           have hs4 := HALL.out _ HB4.out
           have HK4 := Lib.hid hs4
           clear hs4
           refine hK.out _ _ HK4.out.1 (fun _ => HK4.out.2) ?_
           clear hK K
           refine wpAnyL_ready (rs := [11]) (by kernel_rfl) (by simp) ?_
           refine AllL.cons rfl (fun K hK => ?_) ?_
           ·
            have hc := HT4.out.cellN
            have hf := HT4.out.fr 2
            go_simp
            clear hc hf
            refine hK.out _ _ trivial (fun h => absurd (h 11 (by simp)) (by decide)) ?_
            clear hK K
            refine wpAnyL_pure (i := 12) rfl (by kernel_rfl) (fun _ _ _ h => h) (Or.inl ⟨by rfl, (fun u hu => by go_simp; try rfl)⟩) trivial (fun h => absurd (h 11 (by simp)) (by decide)) ?_
            simp only [Act.put, List.setIfInBounds_toArray, List.set_cons_zero, List.set_cons_succ, List.getElem_toArray, List.getElem_cons_zero, List.getElem_cons_succ]
            refine wpAnyL_ready (rs := [13]) (by kernel_rfl) (by simp) ?_
            refine AllL.cons rfl (fun K hK => ?_) ?_
            ·
             have hc := fun u => setOther0 (u := u) (HT4.out.cellA) (HT4.out.fr 1)
             have hc1 := fun u => (hc u).1
             have hc2 := fun u => (hc u).2
             clear hc
             go_simp
             clear hc1 hc2
             refine hK.out _ _ trivial (fun h => absurd (h 11 (by simp)) (by decide)) ?_
             clear hK K
             refine wpAnyL_done (by kernel_rfl) ?_ _
             go_wp2_with fail
             go_meet
             exact ⟨rfl, OtSt.next (.inr ⟨by omega, rfl⟩) (by have h := HT4.out; simp only [List.length_map, List.length_take] at h; exact h) HB4.out HBXw.out HBRw.out HBw.out hBB HX.out HR.out⟩
            exact AllL.nil
           exact AllL.nil
          exact AllL.nil
         exact AllL.nil
        refine AllL.cons rfl (fun K hK => ?_) ?_
        ·
         go_simp
         have HT7 := Lib.hid (HT1.out.allocA _ (by first | exact World.size_alloc _ _ | rfl) 3)
         have HB7 := Lib.hid (HB1.out.alloc HT1.out.le (.cells #[.int .i64 0] 3))
         have hs7 := HALL.out _ HB7.out
         have HK7 := Lib.hid hs7
         clear hs7
         refine hK.out _ _ HK7.out.1 (fun _ => HK7.out.2) ?_
         clear hK K
         refine wpAnyL_ready (rs := [4]) (by kernel_rfl) (by simp) ?_
         refine AllL.cons rfl (fun K hK => ?_) ?_
         ·
          obtain ⟨u8, w8, hrun, ⟨A8, c8, rfl⟩, hT, hb⟩ := HT7.out.appN (by simp; omega)
          have HT8 := Lib.hid hT
          have HB8 := Lib.hid (HB7.out.trans hb)
          have HR8 := Lib.hid hrun
          clear hT hb hrun
          refine step_append_run _ (by rfl) _ _ _ _ (by rfl) _ _ (by rfl) (by rfl) _ _ HR8.out ?_
          simp only [Act.put, List.setIfInBounds_toArray, List.set_cons_zero, List.set_cons_succ, List.getElem_toArray, List.getElem_cons_zero, List.getElem_cons_succ]
          have hs8 := HALL.out _ HB8.out
          have HK8 := Lib.hid hs8
          clear hs8
          refine hK.out _ _ HK8.out.1 (fun _ => HK8.out.2) ?_
          clear hK K
          refine wpAnyL_pure (i := 10) rfl (by kernel_rfl) (fun _ _ _ h => h) (Or.inl ⟨by rfl, (fun u hu => by go_simp; try rfl)⟩) HK8.out.1 (fun _ => HK8.out.2) ?_
          simp only [Act.put, List.setIfInBounds_toArray, List.set_cons_zero, List.set_cons_succ, List.getElem_toArray, List.getElem_cons_zero, List.getElem_cons_succ]
          refine wpAnyL_ready (rs := [9]) (by kernel_rfl) (by simp) ?_
          refine AllL.cons rfl (fun K hK => ?_) ?_
          ·
           obtain ⟨u9, w9, hrun, ⟨A9, c9, rfl⟩, hT, hb⟩ := HT8.out.appA (by simp; omega)
           have HT9 := Lib.hid hT
           have HB9 := Lib.hid (HB8.out.trans hb)
           have HR9 := Lib.hid hrun
           clear hT hb hrun
           refine step_append_run _ (by rfl) _ _ _ _ (by rfl) _ _ (by rfl) (by rfl) _ _ HR9.out ?_
           simp only [Act.put, List.setIfInBounds_toArray, List.set_cons_zero, List.set_cons_succ, List.getElem_toArray, List.getElem_cons_zero, List.getElem_cons_succ]
           have hs9 := HALL.out _ HB9.out
           have HK9 := Lib.hid hs9
           clear hs9
           refine hK.out _ _ HK9.out.1 (fun _ => HK9.out.2) ?_
           clear hK K
           refine wpAnyL_ready (rs := [11]) (by kernel_rfl) (by simp) ?_
           refine AllL.cons rfl (fun K hK => ?_) ?_
           ·
            have hc := HT9.out.cellN
            have hf := HT9.out.fr 2
            go_simp
            clear hc hf
            refine hK.out _ _ trivial (fun h => absurd (h 11 (by simp)) (by decide)) ?_
            clear hK K
            refine wpAnyL_pure (i := 12) rfl (by kernel_rfl) (fun _ _ _ h => h) (Or.inl ⟨by rfl, (fun u hu => by go_simp; try rfl)⟩) trivial (fun h => absurd (h 11 (by simp)) (by decide)) ?_
            simp only [Act.put, List.setIfInBounds_toArray, List.set_cons_zero, List.set_cons_succ, List.getElem_toArray, List.getElem_cons_zero, List.getElem_cons_succ]
            refine wpAnyL_ready (rs := [13]) (by kernel_rfl) (by simp) ?_
            refine AllL.cons rfl (fun K hK => ?_) ?_
            ·
             have hc := fun u => setOther0 (u := u) (HT9.out.cellA) (HT9.out.fr 1)
             have hc1 := fun u => (hc u).1
             have hc2 := fun u => (hc u).2
             clear hc
             go_simp
             clear hc1 hc2
             refine hK.out _ _ trivial (fun h => absurd (h 11 (by simp)) (by decide)) ?_
             clear hK K
             refine wpAnyL_done (by kernel_rfl) ?_ _
             go_wp2_with fail
             go_meet
             exact ⟨rfl, OtSt.next (.inr ⟨by omega, rfl⟩) (by have h := HT9.out; simp only [List.length_map, List.length_take] at h; exact h) HB9.out HBXw.out HBRw.out HBw.out hBB HX.out HR.out⟩
            exact AllL.nil
           exact AllL.nil
          exact AllL.nil
         exact AllL.nil
        exact AllL.nil
       refine AllL.cons rfl (fun K hK => ?_) ?_
       ·
        go_simp
        have HT12 := Lib.hid (HT.out.allocA _ (by first | exact World.size_alloc _ _ | rfl) 3)
        have HB12 := Lib.hid (HB0.out.alloc HT.out.le (.cells #[.int .i64 0] 3))
        have hs12 := HALL.out _ HB12.out
        have HK12 := Lib.hid hs12
        clear hs12
        refine hK.out _ _ HK12.out.1 (fun _ => HK12.out.2) ?_
        clear hK K
        refine wpAnyL_ready (rs := [3]) (by kernel_rfl) (by simp) ?_
        refine AllL.cons rfl (fun K hK => ?_) ?_
        ·
         go_simp
         have HT13 := Lib.hid (HT12.out.allocN _ (by first | exact World.size_alloc _ _ | rfl) 22)
         have HB13 := Lib.hid (HB12.out.alloc HT12.out.le (.cells #[.slice (some ⟨g, 0, none⟩) j c7] 22))
         have hs13 := HALL.out _ HB13.out
         have HK13 := Lib.hid hs13
         clear hs13
         refine hK.out _ _ HK13.out.1 (fun _ => HK13.out.2) ?_
         clear hK K
         refine wpAnyL_ready (rs := [4]) (by kernel_rfl) (by simp) ?_
         refine AllL.cons rfl (fun K hK => ?_) ?_
         ·
          obtain ⟨u14, w14, hrun, ⟨A14, c14, rfl⟩, hT, hb⟩ := HT13.out.appN (by simp; omega)
          have HT14 := Lib.hid hT
          have HB14 := Lib.hid (HB13.out.trans hb)
          have HR14 := Lib.hid hrun
          clear hT hb hrun
          refine step_append_run _ (by rfl) _ _ _ _ (by rfl) _ _ (by rfl) (by rfl) _ _ HR14.out ?_
          simp only [Act.put, List.setIfInBounds_toArray, List.set_cons_zero, List.set_cons_succ, List.getElem_toArray, List.getElem_cons_zero, List.getElem_cons_succ]
          have hs14 := HALL.out _ HB14.out
          have HK14 := Lib.hid hs14
          clear hs14
          refine hK.out _ _ HK14.out.1 (fun _ => HK14.out.2) ?_
          clear hK K
          refine wpAnyL_pure (i := 10) rfl (by kernel_rfl) (fun _ _ _ h => h) (Or.inl ⟨by rfl, (fun u hu => by go_simp; try rfl)⟩) HK14.out.1 (fun _ => HK14.out.2) ?_
          simp only [Act.put, List.setIfInBounds_toArray, List.set_cons_zero, List.set_cons_succ, List.getElem_toArray, List.getElem_cons_zero, List.getElem_cons_succ]
          refine wpAnyL_ready (rs := [9]) (by kernel_rfl) (by simp) ?_
          refine AllL.cons rfl (fun K hK => ?_) ?_
          ·
           obtain ⟨u15, w15, hrun, ⟨A15, c15, rfl⟩, hT, hb⟩ := HT14.out.appA (by simp; omega)
           have HT15 := Lib.hid hT
           have HB15 := Lib.hid (HB14.out.trans hb)
           have HR15 := Lib.hid hrun
           clear hT hb hrun
           refine step_append_run _ (by rfl) _ _ _ _ (by rfl) _ _ (by rfl) (by rfl) _ _ HR15.out ?_
           simp only [Act.put, List.setIfInBounds_toArray, List.set_cons_zero, List.set_cons_succ, List.getElem_toArray, List.getElem_cons_zero, List.getElem_cons_succ]
           have hs15 := HALL.out _ HB15.out
           have HK15 := Lib.hid hs15
           clear hs15
           refine hK.out _ _ HK15.out.1 (fun _ => HK15.out.2) ?_
           clear hK K
           refine wpAnyL_ready (rs := [11]) (by kernel_rfl) (by simp) ?_
           refine AllL.cons rfl (fun K hK => ?_) ?_
           ·
            have hc := HT15.out.cellN
            have hf := HT15.out.fr 2
            go_simp
            clear hc hf
            refine hK.out _ _ trivial (fun h => absurd (h 11 (by simp)) (by decide)) ?_
            clear hK K
            refine wpAnyL_pure (i := 12) rfl (by kernel_rfl) (fun _ _ _ h => h) (Or.inl ⟨by rfl, (fun u hu => by go_simp; try rfl)⟩) trivial (fun h => absurd (h 11 (by simp)) (by decide)) ?_
            simp only [Act.put, List.setIfInBounds_toArray, List.set_cons_zero, List.set_cons_succ, List.getElem_toArray, List.getElem_cons_zero, List.getElem_cons_succ]
            refine wpAnyL_ready (rs := [13]) (by kernel_rfl) (by simp) ?_
            refine AllL.cons rfl (fun K hK => ?_) ?_
            ·
             have hc := fun u => setOther0 (u := u) (HT15.out.cellA) (HT15.out.fr 1)
             have hc1 := fun u => (hc u).1
             have hc2 := fun u => (hc u).2
             clear hc
             go_simp
             clear hc1 hc2
             refine hK.out _ _ trivial (fun h => absurd (h 11 (by simp)) (by decide)) ?_
             clear hK K
             refine wpAnyL_done (by kernel_rfl) ?_ _
             go_wp2_with fail
             go_meet
             exact ⟨rfl, OtSt.next (.inr ⟨by omega, rfl⟩) (by have h := HT15.out; simp only [List.length_map, List.length_take] at h; exact h) HB15.out HBXw.out HBRw.out HBw.out hBB HX.out HR.out⟩
            exact AllL.nil
           exact AllL.nil
          exact AllL.nil
         exact AllL.nil
        exact AllL.nil
       exact AllL.nil
   case rest =>
    obtain ⟨rfl, hst⟩ := hcut
    have HST := Lib.hid hst
    clear hst
    go_wp2_with fail
    go_roundg (nA - (s + 1))
    case measure => rw [HGK.out]; omega
    case rel => exact ⟨s + 1, by omega, rfl, by go_num, HST.out⟩
  ·
   obtain rfl : s = nA := by omega
   have hd := HD.out
   have hla : d.2.1.length = s := by have := HA.out.len; omega
   rw [List.take_of_length_le (by omega), List.take_of_length_le (by have := HE.out; omega)] at hd
   obtain ⟨bN, oN, AR, m, cR, row, rfl, _, _, hcR0, hr, hsr⟩ := row_at HN.out (k := 0) (by omega)
   have hbN : bN < w.heap.size := cell_lt hcR0
   have hmc : m = cols d := by
    have := (HV.out.rows row (List.mem_of_getElem? hr)).1
    have := hsr.len
    omega
   subst hmc
   rw [Nat.add_zero] at hcR0
   have hcR : wr.cell? ⟨bN, oN, none⟩ = some (.slice AR (cols d) cR) := Kept.below (S := fun _ => True) HB.out _ _ trivial hcR0
   have hcB : wr.cell? ⟨w.heap.size, 2, none⟩ = some (.slice (some ⟨bN, oN, none⟩) s cN) := by simp [World.cell?, HBX.out]
   have hse := HE.out
   subst hse
   have hpos : 0 < d.2.2.length := by omega
   have hla2 : d.2.1.length ≤ 200 := by omega
   have HDw := Lib.hid hd
   have HLN := Lib.hid hbN
   clear hr hsr hcR0 hd hla HD HE
   go_upto_region 20 with fail
   go_cut [24] from 64 to 81 (fun i wx => i = .int .i64 (d.2.2.length : Int) ∧ OtEnd w Bd d wx)
   case first =>
    have hall : ∀ u : World, Below (Bd + 1) wr.drew u → (u.cell? ⟨w.heap.size, 2, none⟩ = some (.slice (some ⟨bN, oN, none⟩) d.2.2.length cN) ∧ u.cell? ⟨bN, oN, none⟩ = some (.slice AR (cols d) cR)) ∧ (u.cell? ⟨Bd, 1, none⟩ = some vA ∧ u.cell? ⟨Bd, 2, none⟩ = some vN) := by
     intro u hu
     exact ⟨⟨(hu.cell (by simp; omega)).trans hcB, (hu.cell (by simp; omega)).trans hcR⟩, (hu.cell (by simp)).trans HDw.out.cellA, (hu.cell (by simp)).trans HDw.out.cellN⟩
    have HALL := Lib.hid hall
    have HT := Lib.hid (HDw.out.drew.two (List.replicate (cols d) (d.2.2.length : Int)) 0)
    have HB0 := Lib.hid (Below.refl (Bd + 1) wr.drew)
    have HK := Lib.hid (hall _ HB0.out)
    clear hall
    refine wp_region_late (late := [17, 19]) (S1 := fun u => u.cell? ⟨w.heap.size, 2, none⟩ = some (.slice (some ⟨bN, oN, none⟩) d.2.2.length cN) ∧ u.cell? ⟨bN, oN, none⟩ = some (.slice AR (cols d) cR)) (S := fun u => u.cell? ⟨Bd, 1, none⟩ = some vA ∧ u.cell? ⟨Bd, 2, none⟩ = some vN) (by kernel_rfl) ?_
    refine wpAnyL_pure (i := 0) rfl (by kernel_rfl) (fun _ _ _ h => h) (Or.inl ⟨by rfl, (fun u hu => by have hu1 := hu.1; have hu2 := hu.2; go_simp; try rfl)⟩) HK.out.1 (fun _ => HK.out.2) ?_
    simp only [Act.put, List.setIfInBounds_toArray, List.set_cons_zero, List.set_cons_succ, List.getElem_toArray, List.getElem_cons_zero, List.getElem_cons_succ]
    refine wpAnyL_take (i := 1) rfl (by kernel_rfl) (fun _ _ _ h => h) (Or.inl ⟨by rfl, (fun u hu => by have hu1 := hu.1.1; have hu2 := hu.1.2; have hu3 := hu.2.1; have hu4 := hu.2.2; go_simp; try rfl)⟩) HK.out.1 (fun _ => HK.out.2) ?_
    simp only [Act.put, List.setIfInBounds_toArray, List.set_cons_zero, List.set_cons_succ, List.getElem_toArray, List.getElem_cons_zero, List.getElem_cons_succ]
    refine wpAnyL_pure (i := 2) rfl (by kernel_rfl) (fun _ _ _ h => h) (Or.inl ⟨by rfl, (fun u hu => by have hu1 := hu.1; have hu2 := hu.2; go_simp; try rfl)⟩) HK.out.1 (fun _ => HK.out.2) ?_
    simp only [Act.put, List.setIfInBounds_toArray, List.set_cons_zero, List.set_cons_succ, List.getElem_toArray, List.getElem_cons_zero, List.getElem_cons_succ]
    refine wpAnyL_pure (i := 4) rfl (by kernel_rfl) (fun _ _ _ h => h) (Or.inl ⟨by rfl, (fun u hu => by have hu1 := hu.1; have hu2 := hu.2; go_simp; try rfl)⟩) HK.out.1 (fun _ => HK.out.2) ?_
    simp only [Act.put, List.setIfInBounds_toArray, List.set_cons_zero, List.set_cons_succ, List.getElem_toArray, List.getElem_cons_zero, List.getElem_cons_succ]
    refine wpAnyL_pure (i := 5) rfl (by kernel_rfl) (fun _ _ _ h => h) (Or.inl ⟨by rfl, (fun u hu => by have hu1 := hu.1; have hu2 := hu.2; go_simp; try rfl)⟩) HK.out.1 (fun _ => HK.out.2) ?_
    simp only [Act.put, List.setIfInBounds_toArray, List.set_cons_zero, List.set_cons_succ, List.getElem_toArray, List.getElem_cons_zero, List.getElem_cons_succ]
    refine wpAnyL_pure (i := 6) rfl (by kernel_rfl) (fun _ _ _ h => h) (Or.inl ⟨by rfl, (fun u hu => by have hu1 := hu.1; have hu2 := hu.2; go_simp; try rfl)⟩) HK.out.1 (fun _ => HK.out.2) ?_
    simp only [Act.put, List.setIfInBounds_toArray, List.set_cons_zero, List.set_cons_succ, List.getElem_toArray, List.getElem_cons_zero, List.getElem_cons_succ]
    refine wpAnyL_pure (i := 7) rfl (by kernel_rfl) (fun _ _ _ h => h) (Or.inl ⟨by rfl, (fun u hu => by have hu1 := hu.1; have hu2 := hu.2; go_simp; try rfl)⟩) HK.out.1 (fun _ => HK.out.2) ?_
    simp only [Act.put, List.setIfInBounds_toArray, List.set_cons_zero, List.set_cons_succ, List.getElem_toArray, List.getElem_cons_zero, List.getElem_cons_succ]
    refine wpAnyL_pure (i := 8) rfl (by kernel_rfl) (fun _ _ _ h => h) (Or.inl ⟨by rfl, (fun u hu => by have hu1 := hu.1; have hu2 := hu.2; go_simp; try rfl)⟩) HK.out.1 (fun _ => HK.out.2) ?_
    simp only [Act.put, List.setIfInBounds_toArray, List.set_cons_zero, List.set_cons_succ, List.getElem_toArray, List.getElem_cons_zero, List.getElem_cons_succ]
    refine wpAnyL_pure (i := 12) rfl (by kernel_rfl) (fun _ _ _ h => h) (Or.inl ⟨by rfl, (fun u hu => by have hu1 := hu.1; have hu2 := hu.2; go_simp; try rfl)⟩) HK.out.1 (fun _ => HK.out.2) ?_
    simp only [Act.put, List.setIfInBounds_toArray, List.set_cons_zero, List.set_cons_succ, List.getElem_toArray, List.getElem_cons_zero, List.getElem_cons_succ]
    refine wpAnyL_take (i := 13) rfl (by kernel_rfl) (fun _ _ _ h => h) (Or.inl ⟨by rfl, (fun u hu => by have hu1 := hu.1.1; have hu2 := hu.1.2; have hu3 := hu.2.1; have hu4 := hu.2.2; go_simp; try rfl)⟩) HK.out.1 (fun _ => HK.out.2) ?_
    simp only [Act.put, List.setIfInBounds_toArray, List.set_cons_zero, List.set_cons_succ, List.getElem_toArray, List.getElem_cons_zero, List.getElem_cons_succ]
    refine wpAnyL_ready (rs := [3, 14]) (by kernel_rfl) (by simp) ?_
    refine AllL.cons rfl (fun K hK => ?_) ?_
    ·
     go_simp
     have HT1 := Lib.hid (HT.out.below ((Below.refl _ _).alloc (Nat.le_refl _) (.cells #[.int .i64 (d.2.2.length : Int)] 3)))
     have HB1 := Lib.hid (HB0.out.alloc HT.out.le (.cells #[.int .i64 (d.2.2.length : Int)] 3))
     have hNew1 := cell_new wr.drew (.int .i64 (d.2.2.length : Int)) 3 _ (by first | exact World.size_alloc _ _ | rfl)
     have hs1 := HALL.out _ HB1.out
     have HK1 := Lib.hid hs1
     clear hs1
     refine hK.out _ _ HK1.out.1 (fun _ => HK1.out.2) ?_
     clear hK K
     refine wpAnyL_ready (rs := [9, 14]) (by kernel_rfl) (by simp) ?_
     refine AllL.cons rfl (fun K hK => ?_) ?_
     ·
      go_simp
      refine (repeatInt _ _ (d.2.2.length : Int) (cols d) hC1 hC2 hNew1).mono ?_
      rintro e w2 ⟨v2, rfl, hv, hb⟩
      obtain ⟨Av, cv, rfl, _, _⟩ := hv.form
      have HT2 := Lib.hid (HT1.out.setV (by simpa using hv) hb)
      have HB2 := Lib.hid (HB1.out.trans (hb.mono HT1.out.le))
      clear hv hb
      have hs2 := HALL.out _ HB2.out
      have HK2 := Lib.hid hs2
      clear hs2
      refine hK.out _ _ HK2.out.1 (fun _ => HK2.out.2) ?_
      clear hK K
      refine wpAnyL_ready (rs := [10, 14]) (by kernel_rfl) (by simp) ?_
      refine AllL.cons rfl (fun K hK => ?_) ?_
      ·
       go_simp
       have HT3 := Lib.hid (HT2.out.allocN _ (by first | exact World.size_alloc _ _ | rfl) 22)
       have HB3 := Lib.hid (HB2.out.alloc HT2.out.le (.cells #[.slice Av (cols d) cv] 22))
       have hs3 := HALL.out _ HB3.out
       have HK3 := Lib.hid hs3
       clear hs3
       refine hK.out _ _ HK3.out.1 (fun _ => HK3.out.2) ?_
       clear hK K
       refine wpAnyL_ready (rs := [11, 14]) (by kernel_rfl) (by simp) ?_
       refine AllL.cons rfl (fun K hK => ?_) ?_
       ·
        obtain ⟨u4, w4, hrun, ⟨A4, c4, rfl⟩, hT, hb⟩ := HT3.out.appN (by simp; omega)
        have HT4 := Lib.hid hT
        have HB4 := Lib.hid (HB3.out.trans hb)
        have HR4 := Lib.hid hrun
        clear hT hb hrun
        refine step_append_run _ (by rfl) _ _ _ _ (by rfl) _ _ (by rfl) (by rfl) _ _ HR4.out ?_
        simp only [Act.put, List.setIfInBounds_toArray, List.set_cons_zero, List.set_cons_succ, List.getElem_toArray, List.getElem_cons_zero, List.getElem_cons_succ]
        have hs4 := HALL.out _ HB4.out
        have HK4 := Lib.hid hs4
        clear hs4
        refine hK.out _ _ HK4.out.1 (fun _ => HK4.out.2) ?_
        clear hK K
        refine wpAnyL_pure (i := 16) rfl (by kernel_rfl) (fun _ _ _ h => h) (Or.inl ⟨by rfl, (fun u hu => by have hu1 := hu.1; have hu2 := hu.2; go_simp; try rfl)⟩) HK4.out.1 (fun _ => HK4.out.2) ?_
        simp only [Act.put, List.setIfInBounds_toArray, List.set_cons_zero, List.set_cons_succ, List.getElem_toArray, List.getElem_cons_zero, List.getElem_cons_succ]
        refine wpAnyL_ready (rs := [14]) (by kernel_rfl) (by simp) ?_
        refine AllL.cons rfl (fun K hK => ?_) ?_
        ·
         go_simp
         have HT5 := Lib.hid (HT4.out.allocA _ (by first | exact World.size_alloc _ _ | rfl) 3)
         have HB5 := Lib.hid (HB4.out.alloc HT4.out.le (.cells #[.int .i64 0] 3))
         have hs5 := HALL.out _ HB5.out
         have HK5 := Lib.hid hs5
         clear hs5
         refine hK.out _ _ HK5.out.1 (fun _ => HK5.out.2) ?_
         clear hK K
         refine wpAnyL_ready (rs := [15]) (by kernel_rfl) (by simp) ?_
         refine AllL.cons rfl (fun K hK => ?_) ?_
         ·
          obtain ⟨u6, w6, hrun, ⟨A6, c6, rfl⟩, hT, hb⟩ := HT5.out.appA (by simp; omega)
          have HT6 := Lib.hid hT
          have HB6 := Lib.hid (HB5.out.trans hb)
          have HR6 := Lib.hid hrun
          clear hT hb hrun
          refine step_append_run _ (by rfl) _ _ _ _ (by rfl) _ _ (by rfl) (by rfl) _ _ HR6.out ?_
          simp only [Act.put, List.setIfInBounds_toArray, List.set_cons_zero, List.set_cons_succ, List.getElem_toArray, List.getElem_cons_zero, List.getElem_cons_succ]
          have hs6 := HALL.out _ HB6.out
          have HK6 := Lib.hid hs6
          clear hs6
          refine hK.out _ _ HK6.out.1 (fun _ => HK6.out.2) ?_
          clear hK K
          refine wpAnyL_ready (rs := [17]) (by kernel_rfl) (by simp) ?_
          refine AllL.cons rfl (fun K hK => ?_) ?_
          ·
           have hc := HT6.out.cellN
           have hf := HT6.out.fr 2
           go_simp
           clear hc hf
           refine hK.out _ _ (And.intro (setOther _ (p := ⟨Bd, 2, none⟩) HK6.out.1.1 (by simp; omega)) (setOther _ (p := ⟨Bd, 2, none⟩) HK6.out.1.2 (by have := HLN.out; simp; omega))) (fun h => absurd (h 17 (by simp)) (by decide)) ?_
           clear hK K
           refine wpAnyL_pure (i := 18) rfl (by kernel_rfl) (fun _ _ _ h => h) (Or.inl ⟨by rfl, (fun u hu => by have hu1 := hu.1; have hu2 := hu.2; go_simp; try rfl)⟩) (And.intro (setOther _ (p := ⟨Bd, 2, none⟩) HK6.out.1.1 (by simp; omega)) (setOther _ (p := ⟨Bd, 2, none⟩) HK6.out.1.2 (by have := HLN.out; simp; omega))) (fun h => absurd (h 17 (by simp)) (by decide)) ?_
           simp only [Act.put, List.setIfInBounds_toArray, List.set_cons_zero, List.set_cons_succ, List.getElem_toArray, List.getElem_cons_zero, List.getElem_cons_succ]
           refine wpAnyL_ready (rs := [19]) (by kernel_rfl) (by simp) ?_
           refine AllL.cons rfl (fun K hK => ?_) ?_
           ·
            have hc := fun u => setOther0 (u := u) (HT6.out.cellA) (HT6.out.fr 1)
            have hc1 := fun u => (hc u).1
            have hc2 := fun u => (hc u).2
            clear hc
            go_simp
            clear hc1 hc2
            refine hK.out _ _ (And.intro (setOther _ (p := ⟨Bd, 1, none⟩) (setOther _ (p := ⟨Bd, 2, none⟩) HK6.out.1.1 (by simp; omega)) (by simp; omega)) (setOther _ (p := ⟨Bd, 1, none⟩) (setOther _ (p := ⟨Bd, 2, none⟩) HK6.out.1.2 (by have := HLN.out; simp; omega)) (by have := HLN.out; simp; omega))) (fun h => absurd (h 17 (by simp)) (by decide)) ?_
            clear hK K
            refine wpAnyL_done (by kernel_rfl) ?_ _
            go_wp2_with fail
            go_meet
            exact ⟨rfl, OtSt.last (by have h := HT6.out; simp only [List.length_map] at h; exact h) HB6.out HBR.out HB.out hBB⟩
           exact AllL.nil
          exact AllL.nil
         exact AllL.nil
        exact AllL.nil
       refine AllL.cons rfl (fun K hK => ?_) ?_
       ·
        go_simp
        have HT9 := Lib.hid (HT3.out.allocA _ (by first | exact World.size_alloc _ _ | rfl) 3)
        have HB9 := Lib.hid (HB3.out.alloc HT3.out.le (.cells #[.int .i64 0] 3))
        have hs9 := HALL.out _ HB9.out
        have HK9 := Lib.hid hs9
        clear hs9
        refine hK.out _ _ HK9.out.1 (fun _ => HK9.out.2) ?_
        clear hK K
        refine wpAnyL_ready (rs := [11]) (by kernel_rfl) (by simp) ?_
        refine AllL.cons rfl (fun K hK => ?_) ?_
        ·
         obtain ⟨u10, w10, hrun, ⟨A10, c10, rfl⟩, hT, hb⟩ := HT9.out.appN (by simp; omega)
         have HT10 := Lib.hid hT
         have HB10 := Lib.hid (HB9.out.trans hb)
         have HR10 := Lib.hid hrun
         clear hT hb hrun
         refine step_append_run _ (by rfl) _ _ _ _ (by rfl) _ _ (by rfl) (by rfl) _ _ HR10.out ?_
         simp only [Act.put, List.setIfInBounds_toArray, List.set_cons_zero, List.set_cons_succ, List.getElem_toArray, List.getElem_cons_zero, List.getElem_cons_succ]
         have hs10 := HALL.out _ HB10.out
         have HK10 := Lib.hid hs10
         clear hs10
         refine hK.out _ _ HK10.out.1 (fun _ => HK10.out.2) ?_
         clear hK K
         refine wpAnyL_pure (i := 16) rfl (by kernel_rfl) (fun _ _ _ h => h) (Or.inl ⟨by rfl, (fun u hu => by have hu1 := hu.1; have hu2 := hu.2; go_simp; try rfl)⟩) HK10.out.1 (fun _ => HK10.out.2) ?_
         simp only [Act.put, List.setIfInBounds_toArray, List.set_cons_zero, List.set_cons_succ, List.getElem_toArray, List.getElem_cons_zero, List.getElem_cons_succ]
         refine wpAnyL_ready (rs := [15]) (by kernel_rfl) (by simp) ?_
         refine AllL.cons rfl (fun K hK => ?_) ?_
         ·
          obtain ⟨u11, w11, hrun, ⟨A11, c11, rfl⟩, hT, hb⟩ := HT10.out.appA (by simp; omega)
          have HT11 := Lib.hid hT
          have HB11 := Lib.hid (HB10.out.trans hb)
          have HR11 := Lib.hid hrun
          clear hT hb hrun
          refine step_append_run _ (by rfl) _ _ _ _ (by rfl) _ _ (by rfl) (by rfl) _ _ HR11.out ?_
          simp only [Act.put, List.setIfInBounds_toArray, List.set_cons_zero, List.set_cons_succ, List.getElem_toArray, List.getElem_cons_zero, List.getElem_cons_succ]
          have hs11 := HALL.out _ HB11.out
          have HK11 := Lib.hid hs11
          clear hs11
          refine hK.out _ _ HK11.out.1 (fun _ => HK11.out.2) ?_
          clear hK K
          refine wpAnyL_ready (rs := [17]) (by kernel_rfl) (by simp) ?_
          refine AllL.cons rfl (fun K hK => ?_) ?_
          ·
           have hc := HT11.out.cellN
           have hf := HT11.out.fr 2
           go_simp
           clear hc hf
           refine hK.out _ _ (And.intro (setOther _ (p := ⟨Bd, 2, none⟩) HK11.out.1.1 (by simp; omega)) (setOther _ (p := ⟨Bd, 2, none⟩) HK11.out.1.2 (by have := HLN.out; simp; omega))) (fun h => absurd (h 17 (by simp)) (by decide)) ?_
           clear hK K
           refine wpAnyL_pure (i := 18) rfl (by kernel_rfl) (fun _ _ _ h => h) (Or.inl ⟨by rfl, (fun u hu => by have hu1 := hu.1; have hu2 := hu.2; go_simp; try rfl)⟩) (And.intro (setOther _ (p := ⟨Bd, 2, none⟩) HK11.out.1.1 (by simp; omega)) (setOther _ (p := ⟨Bd, 2, none⟩) HK11.out.1.2 (by have := HLN.out; simp; omega))) (fun h => absurd (h 17 (by simp)) (by decide)) ?_
           simp only [Act.put, List.setIfInBounds_toArray, List.set_cons_zero, List.set_cons_succ, List.getElem_toArray, List.getElem_cons_zero, List.getElem_cons_succ]
           refine wpAnyL_ready (rs := [19]) (by kernel_rfl) (by simp) ?_
           refine AllL.cons rfl (fun K hK => ?_) ?_
           ·
            have hc := fun u => setOther0 (u := u) (HT11.out.cellA) (HT11.out.fr 1)
            have hc1 := fun u => (hc u).1
            have hc2 := fun u => (hc u).2
            clear hc
            go_simp
            clear hc1 hc2
            refine hK.out _ _ (And.intro (setOther _ (p := ⟨Bd, 1, none⟩) (setOther _ (p := ⟨Bd, 2, none⟩) HK11.out.1.1 (by simp; omega)) (by simp; omega)) (setOther _ (p := ⟨Bd, 1, none⟩) (setOther _ (p := ⟨Bd, 2, none⟩) HK11.out.1.2 (by have := HLN.out; simp; omega)) (by have := HLN.out; simp; omega))) (fun h => absurd (h 17 (by simp)) (by decide)) ?_
            clear hK K
            refine wpAnyL_done (by kernel_rfl) ?_ _
            go_wp2_with fail
            go_meet
            exact ⟨rfl, OtSt.last (by have h := HT11.out; simp only [List.length_map] at h; exact h) HB11.out HBR.out HB.out hBB⟩
           exact AllL.nil
          exact AllL.nil
         exact AllL.nil
        exact AllL.nil
       exact AllL.nil
      refine AllL.cons rfl (fun K hK => ?_) ?_
      ·
       go_simp
       have HT14 := Lib.hid (HT2.out.allocA _ (by first | exact World.size_alloc _ _ | rfl) 3)
       have HB14 := Lib.hid (HB2.out.alloc HT2.out.le (.cells #[.int .i64 0] 3))
       have hs14 := HALL.out _ HB14.out
       have HK14 := Lib.hid hs14
       clear hs14
       refine hK.out _ _ HK14.out.1 (fun _ => HK14.out.2) ?_
       clear hK K
       refine wpAnyL_ready (rs := [10]) (by kernel_rfl) (by simp) ?_
       refine AllL.cons rfl (fun K hK => ?_) ?_
       ·
        go_simp
        have HT15 := Lib.hid (HT14.out.allocN _ (by first | exact World.size_alloc _ _ | rfl) 22)
        have HB15 := Lib.hid (HB14.out.alloc HT14.out.le (.cells #[.slice Av (cols d) cv] 22))
        have hs15 := HALL.out _ HB15.out
        have HK15 := Lib.hid hs15
        clear hs15
        refine hK.out _ _ HK15.out.1 (fun _ => HK15.out.2) ?_
        clear hK K
        refine wpAnyL_ready (rs := [11]) (by kernel_rfl) (by simp) ?_
        refine AllL.cons rfl (fun K hK => ?_) ?_
        ·
         obtain ⟨u16, w16, hrun, ⟨A16, c16, rfl⟩, hT, hb⟩ := HT15.out.appN (by simp; omega)
         have HT16 := Lib.hid hT
         have HB16 := Lib.hid (HB15.out.trans hb)
         have HR16 := Lib.hid hrun
         clear hT hb hrun
         refine step_append_run _ (by rfl) _ _ _ _ (by rfl) _ _ (by rfl) (by rfl) _ _ HR16.out ?_
         simp only [Act.put, List.setIfInBounds_toArray, List.set_cons_zero, List.set_cons_succ, List.getElem_toArray, List.getElem_cons_zero, List.getElem_cons_succ]
         have hs16 := HALL.out _ HB16.out
         have HK16 := Lib.hid hs16
         clear hs16
         refine hK.out _ _ HK16.out.1 (fun _ => HK16.out.2) ?_
         clear hK K
         refine wpAnyL_pure (i := 16) rfl (by kernel_rfl) (fun _ _ _ h => h) (Or.inl ⟨by rfl, (fun u hu => by have hu1 := hu.1; have hu2 := hu.2; go_simp; try rfl)⟩) HK16.out.1 (fun _ => HK16.out.2) ?_
         simp only [Act.put, List.setIfInBounds_toArray, List.set_cons_zero, List.set_cons_succ, List.getElem_toArray, List.getElem_cons_zero, List.getElem_cons_succ]
         refine wpAnyL_ready (rs := [15]) (by kernel_rfl) (by simp) ?_
         refine AllL.cons rfl (fun K hK => ?_) ?_
         ·
          obtain ⟨u17, w17, hrun, ⟨A17, c17, rfl⟩, hT, hb⟩ := HT16.out.appA (by simp; omega)
          have HT17 := Lib.hid hT
          have HB17 := Lib.hid (HB16.out.trans hb)
          have HR17 := Lib.hid hrun
          clear hT hb hrun
          refine step_append_run _ (by rfl) _ _ _ _ (by rfl) _ _ (by rfl) (by rfl) _ _ HR17.out ?_
          simp only [Act.put, List.setIfInBounds_toArray, List.set_cons_zero, List.set_cons_succ, List.getElem_toArray, List.getElem_cons_zero, List.getElem_cons_succ]
          have hs17 := HALL.out _ HB17.out
          have HK17 := Lib.hid hs17
          clear hs17
          refine hK.out _ _ HK17.out.1 (fun _ => HK17.out.2) ?_
          clear hK K
          refine wpAnyL_ready (rs := [17]) (by kernel_rfl) (by simp) ?_
          refine AllL.cons rfl (fun K hK => ?_) ?_
          ·
           have hc := HT17.out.cellN
           have hf := HT17.out.fr 2
           go_simp
           clear hc hf
           refine hK.out _ _ (And.intro (setOther _ (p := ⟨Bd, 2, none⟩) HK17.out.1.1 (by simp; omega)) (setOther _ (p := ⟨Bd, 2, none⟩) HK17.out.1.2 (by have := HLN.out; simp; omega))) (fun h => absurd (h 17 (by simp)) (by decide)) ?_
           clear hK K
           refine wpAnyL_pure (i := 18) rfl (by kernel_rfl) (fun _ _ _ h => h) (Or.inl ⟨by rfl, (fun u hu => by have hu1 := hu.1; have hu2 := hu.2; go_simp; try rfl)⟩) (And.intro (setOther _ (p := ⟨Bd, 2, none⟩) HK17.out.1.1 (by simp; omega)) (setOther _ (p := ⟨Bd, 2, none⟩) HK17.out.1.2 (by have := HLN.out; simp; omega))) (fun h => absurd (h 17 (by simp)) (by decide)) ?_
           simp only [Act.put, List.setIfInBounds_toArray, List.set_cons_zero, List.set_cons_succ, List.getElem_toArray, List.getElem_cons_zero, List.getElem_cons_succ]
           refine wpAnyL_ready (rs := [19]) (by kernel_rfl) (by simp) ?_
           refine AllL.cons rfl (fun K hK => ?_) ?_
           ·
            have hc := fun u => setOther0 (u := u) (HT17.out.cellA) (HT17.out.fr 1)
            have hc1 := fun u => (hc u).1
            have hc2 := fun u => (hc u).2
            clear hc
            go_simp
            clear hc1 hc2
            refine hK.out _ _ (And.intro (setOther _ (p := ⟨Bd, 1, none⟩) (setOther _ (p := ⟨Bd, 2, none⟩) HK17.out.1.1 (by simp; omega)) (by simp; omega)) (setOther _ (p := ⟨Bd, 1, none⟩) (setOther _ (p := ⟨Bd, 2, none⟩) HK17.out.1.2 (by have := HLN.out; simp; omega)) (by have := HLN.out; simp; omega))) (fun h => absurd (h 17 (by simp)) (by decide)) ?_
            clear hK K
            refine wpAnyL_done (by kernel_rfl) ?_ _
            go_wp2_with fail
            go_meet
            exact ⟨rfl, OtSt.last (by have h := HT17.out; simp only [List.length_map] at h; exact h) HB17.out HBR.out HB.out hBB⟩
           exact AllL.nil
          exact AllL.nil
         exact AllL.nil
        exact AllL.nil
       exact AllL.nil
      exact AllL.nil
     refine AllL.cons rfl (fun K hK => ?_) ?_
     ·
      go_simp
      have HT20 := Lib.hid (HT1.out.allocA _ (by first | exact World.size_alloc _ _ | rfl) 3)
      have HB20 := Lib.hid (HB1.out.alloc HT1.out.le (.cells #[.int .i64 0] 3))
      have hs20 := HALL.out _ HB20.out
      have HK20 := Lib.hid hs20
      clear hs20
      refine hK.out _ _ HK20.out.1 (fun _ => HK20.out.2) ?_
      clear hK K
      refine wpAnyL_ready (rs := [9]) (by kernel_rfl) (by simp) ?_
      refine AllL.cons rfl (fun K hK => ?_) ?_
      ·
       go_simp
       refine (repeatInt _ _ (d.2.2.length : Int) (cols d) hC1 hC2 (Kept.alloc (fun _ => True) _ _ _ _ trivial hNew1)).mono ?_
       rintro e w21 ⟨v21, rfl, hv, hb⟩
       obtain ⟨Av, cv, rfl, _, _⟩ := hv.form
       have HT21 := Lib.hid (HT20.out.setV (by simpa using hv) hb)
       have HB21 := Lib.hid (HB20.out.trans (hb.mono HT20.out.le))
       clear hv hb
       have hs21 := HALL.out _ HB21.out
       have HK21 := Lib.hid hs21
       clear hs21
       refine hK.out _ _ HK21.out.1 (fun _ => HK21.out.2) ?_
       clear hK K
       refine wpAnyL_ready (rs := [10]) (by kernel_rfl) (by simp) ?_
       refine AllL.cons rfl (fun K hK => ?_) ?_
       ·
        go_simp
        have HT22 := Lib.hid (HT21.out.allocN _ (by first | exact World.size_alloc _ _ | rfl) 22)
        have HB22 := Lib.hid (HB21.out.alloc HT21.out.le (.cells #[.slice Av (cols d) cv] 22))
        have hs22 := HALL.out _ HB22.out
        have HK22 := Lib.hid hs22
        clear hs22
        refine hK.out _ _ HK22.out.1 (fun _ => HK22.out.2) ?_
        clear hK K
        refine wpAnyL_ready (rs := [11]) (by kernel_rfl) (by simp) ?_
        refine AllL.cons rfl (fun K hK => ?_) ?_
        ·
         obtain ⟨u23, w23, hrun, ⟨A23, c23, rfl⟩, hT, hb⟩ := HT22.out.appN (by simp; omega)
         have HT23 := Lib.hid hT
         have HB23 := Lib.hid (HB22.out.trans hb)
         have HR23 := Lib.hid hrun
         clear hT hb hrun
         refine step_append_run _ (by rfl) _ _ _ _ (by rfl) _ _ (by rfl) (by rfl) _ _ HR23.out ?_
         simp only [Act.put, List.setIfInBounds_toArray, List.set_cons_zero, List.set_cons_succ, List.getElem_toArray, List.getElem_cons_zero, List.getElem_cons_succ]
         have hs23 := HALL.out _ HB23.out
         have HK23 := Lib.hid hs23
         clear hs23
         refine hK.out _ _ HK23.out.1 (fun _ => HK23.out.2) ?_
         clear hK K
         refine wpAnyL_pure (i := 16) rfl (by kernel_rfl) (fun _ _ _ h => h) (Or.inl ⟨by rfl, (fun u hu => by have hu1 := hu.1; have hu2 := hu.2; go_simp; try rfl)⟩) HK23.out.1 (fun _ => HK23.out.2) ?_
         simp only [Act.put, List.setIfInBounds_toArray, List.set_cons_zero, List.set_cons_succ, List.getElem_toArray, List.getElem_cons_zero, List.getElem_cons_succ]
         refine wpAnyL_ready (rs := [15]) (by kernel_rfl) (by simp) ?_
         refine AllL.cons rfl (fun K hK => ?_) ?_
         ·
          obtain ⟨u24, w24, hrun, ⟨A24, c24, rfl⟩, hT, hb⟩ := HT23.out.appA (by simp; omega)
          have HT24 := Lib.hid hT
          have HB24 := Lib.hid (HB23.out.trans hb)
          have HR24 := Lib.hid hrun
          clear hT hb hrun
          refine step_append_run _ (by rfl) _ _ _ _ (by rfl) _ _ (by rfl) (by rfl) _ _ HR24.out ?_
          simp only [Act.put, List.setIfInBounds_toArray, List.set_cons_zero, List.set_cons_succ, List.getElem_toArray, List.getElem_cons_zero, List.getElem_cons_succ]
          have hs24 := HALL.out _ HB24.out
          have HK24 := Lib.hid hs24
          clear hs24
          refine hK.out _ _ HK24.out.1 (fun _ => HK24.out.2) ?_
          clear hK K
          refine wpAnyL_ready (rs := [17]) (by kernel_rfl) (by simp) ?_
          refine AllL.cons rfl (fun K hK => ?_) ?_
          ·
           have hc := HT24.out.cellN
           have hf := HT24.out.fr 2
           go_simp
           clear hc hf
           refine hK.out _ _ (And.intro (setOther _ (p := ⟨Bd, 2, none⟩) HK24.out.1.1 (by simp; omega)) (setOther _ (p := ⟨Bd, 2, none⟩) HK24.out.1.2 (by have := HLN.out; simp; omega))) (fun h => absurd (h 17 (by simp)) (by decide)) ?_
           clear hK K
           refine wpAnyL_pure (i := 18) rfl (by kernel_rfl) (fun _ _ _ h => h) (Or.inl ⟨by rfl, (fun u hu => by have hu1 := hu.1; have hu2 := hu.2; go_simp; try rfl)⟩) (And.intro (setOther _ (p := ⟨Bd, 2, none⟩) HK24.out.1.1 (by simp; omega)) (setOther _ (p := ⟨Bd, 2, none⟩) HK24.out.1.2 (by have := HLN.out; simp; omega))) (fun h => absurd (h 17 (by simp)) (by decide)) ?_
           simp only [Act.put, List.setIfInBounds_toArray, List.set_cons_zero, List.set_cons_succ, List.getElem_toArray, List.getElem_cons_zero, List.getElem_cons_succ]
           refine wpAnyL_ready (rs := [19]) (by kernel_rfl) (by simp) ?_
           refine AllL.cons rfl (fun K hK => ?_) ?_
           ·
            have hc := fun u => setOther0 (u := u) (HT24.out.cellA) (HT24.out.fr 1)
            have hc1 := fun u => (hc u).1
            have hc2 := fun u => (hc u).2
            clear hc
            go_simp
            clear hc1 hc2
            refine hK.out _ _ (And.intro (setOther _ (p := ⟨Bd, 1, none⟩) (setOther _ (p := ⟨Bd, 2, none⟩) HK24.out.1.1 (by simp; omega)) (by simp; omega)) (setOther _ (p := ⟨Bd, 1, none⟩) (setOther _ (p := ⟨Bd, 2, none⟩) HK24.out.1.2 (by have := HLN.out; simp; omega)) (by have := HLN.out; simp; omega))) (fun h => absurd (h 17 (by simp)) (by decide)) ?_
            clear hK K
            refine wpAnyL_done (by kernel_rfl) ?_ _
            go_wp2_with fail
            go_meet
            exact ⟨rfl, OtSt.last (by have h := HT24.out; simp only [List.length_map] at h; exact h) HB24.out HBR.out HB.out hBB⟩
           exact AllL.nil
          exact AllL.nil
         exact AllL.nil
        exact AllL.nil
       exact AllL.nil
      exact AllL.nil
     exact AllL.nil
    refine AllL.cons rfl (fun K hK => ?_) ?_
    ·
     go_simp
     have HT27 := Lib.hid (HT.out.allocA _ (by first | exact World.size_alloc _ _ | rfl) 3)
     have HB27 := Lib.hid (HB0.out.alloc HT.out.le (.cells #[.int .i64 0] 3))
     have hs27 := HALL.out _ HB27.out
     have HK27 := Lib.hid hs27
     clear hs27
     refine hK.out _ _ HK27.out.1 (fun _ => HK27.out.2) ?_
     clear hK K
     refine wpAnyL_ready (rs := [3]) (by kernel_rfl) (by simp) ?_
     refine AllL.cons rfl (fun K hK => ?_) ?_
     ·
      go_simp
      have HT28 := Lib.hid (HT27.out.below ((Below.refl _ _).alloc (Nat.le_refl _) (.cells #[.int .i64 (d.2.2.length : Int)] 3)))
      have HB28 := Lib.hid (HB27.out.alloc HT27.out.le (.cells #[.int .i64 (d.2.2.length : Int)] 3))
      have hNew28 := cell_new (wr.drew.alloc (.cells #[.int .i64 0] 3)) (.int .i64 (d.2.2.length : Int)) 3 _ (by first | exact World.size_alloc _ _ | rfl)
      have hs28 := HALL.out _ HB28.out
      have HK28 := Lib.hid hs28
      clear hs28
      refine hK.out _ _ HK28.out.1 (fun _ => HK28.out.2) ?_
      clear hK K
      refine wpAnyL_ready (rs := [9]) (by kernel_rfl) (by simp) ?_
      refine AllL.cons rfl (fun K hK => ?_) ?_
      ·
       go_simp
       refine (repeatInt _ _ (d.2.2.length : Int) (cols d) hC1 hC2 hNew28).mono ?_
       rintro e w29 ⟨v29, rfl, hv, hb⟩
       obtain ⟨Av, cv, rfl, _, _⟩ := hv.form
       have HT29 := Lib.hid (HT28.out.setV (by simpa using hv) hb)
       have HB29 := Lib.hid (HB28.out.trans (hb.mono HT28.out.le))
       clear hv hb
       have hs29 := HALL.out _ HB29.out
       have HK29 := Lib.hid hs29
       clear hs29
       refine hK.out _ _ HK29.out.1 (fun _ => HK29.out.2) ?_
       clear hK K
       refine wpAnyL_ready (rs := [10]) (by kernel_rfl) (by simp) ?_
       refine AllL.cons rfl (fun K hK => ?_) ?_
       ·
        go_simp
        have HT30 := Lib.hid (HT29.out.allocN _ (by first | exact World.size_alloc _ _ | rfl) 22)
        have HB30 := Lib.hid (HB29.out.alloc HT29.out.le (.cells #[.slice Av (cols d) cv] 22))
        have hs30 := HALL.out _ HB30.out
        have HK30 := Lib.hid hs30
        clear hs30
        refine hK.out _ _ HK30.out.1 (fun _ => HK30.out.2) ?_
        clear hK K
        refine wpAnyL_ready (rs := [11]) (by kernel_rfl) (by simp) ?_
        refine AllL.cons rfl (fun K hK => ?_) ?_
        ·
         obtain ⟨u31, w31, hrun, ⟨A31, c31, rfl⟩, hT, hb⟩ := HT30.out.appN (by simp; omega)
         have HT31 := Lib.hid hT
         have HB31 := Lib.hid (HB30.out.trans hb)
         have HR31 := Lib.hid hrun
         clear hT hb hrun
         refine step_append_run _ (by rfl) _ _ _ _ (by rfl) _ _ (by rfl) (by rfl) _ _ HR31.out ?_
         simp only [Act.put, List.setIfInBounds_toArray, List.set_cons_zero, List.set_cons_succ, List.getElem_toArray, List.getElem_cons_zero, List.getElem_cons_succ]
         have hs31 := HALL.out _ HB31.out
         have HK31 := Lib.hid hs31
         clear hs31
         refine hK.out _ _ HK31.out.1 (fun _ => HK31.out.2) ?_
         clear hK K
         refine wpAnyL_pure (i := 16) rfl (by kernel_rfl) (fun _ _ _ h => h) (Or.inl ⟨by rfl, (fun u hu => by have hu1 := hu.1; have hu2 := hu.2; go_simp; try rfl)⟩) HK31.out.1 (fun _ => HK31.out.2) ?_
         simp only [Act.put, List.setIfInBounds_toArray, List.set_cons_zero, List.set_cons_succ, List.getElem_toArray, List.getElem_cons_zero, List.getElem_cons_succ]
         refine wpAnyL_ready (rs := [15]) (by kernel_rfl) (by simp) ?_
         refine AllL.cons rfl (fun K hK => ?_) ?_
         ·
          obtain ⟨u32, w32, hrun, ⟨A32, c32, rfl⟩, hT, hb⟩ := HT31.out.appA (by simp; omega)
          have HT32 := Lib.hid hT
          have HB32 := Lib.hid (HB31.out.trans hb)
          have HR32 := Lib.hid hrun
          clear hT hb hrun
          refine step_append_run _ (by rfl) _ _ _ _ (by rfl) _ _ (by rfl) (by rfl) _ _ HR32.out ?_
          simp only [Act.put, List.setIfInBounds_toArray, List.set_cons_zero, List.set_cons_succ, List.getElem_toArray, List.getElem_cons_zero, List.getElem_cons_succ]
          have hs32 := HALL.out _ HB32.out
          have HK32 := Lib.hid hs32
          clear hs32
          refine hK.out _ _ HK32.out.1 (fun _ => HK32.out.2) ?_
          clear hK K
          refine wpAnyL_ready (rs := [17]) (by kernel_rfl) (by simp) ?_
          refine AllL.cons rfl (fun K hK => ?_) ?_
          ·
           have hc := HT32.out.cellN
           have hf := HT32.out.fr 2
           go_simp
           clear hc hf
           refine hK.out _ _ (And.intro (setOther _ (p := ⟨Bd, 2, none⟩) HK32.out.1.1 (by simp; omega)) (setOther _ (p := ⟨Bd, 2, none⟩) HK32.out.1.2 (by have := HLN.out; simp; omega))) (fun h => absurd (h 17 (by simp)) (by decide)) ?_
           clear hK K
           refine wpAnyL_pure (i := 18) rfl (by kernel_rfl) (fun _ _ _ h => h) (Or.inl ⟨by rfl, (fun u hu => by have hu1 := hu.1; have hu2 := hu.2; go_simp; try rfl)⟩) (And.intro (setOther _ (p := ⟨Bd, 2, none⟩) HK32.out.1.1 (by simp; omega)) (setOther _ (p := ⟨Bd, 2, none⟩) HK32.out.1.2 (by have := HLN.out; simp; omega))) (fun h => absurd (h 17 (by simp)) (by decide)) ?_
           simp only [Act.put, List.setIfInBounds_toArray, List.set_cons_zero, List.set_cons_succ, List.getElem_toArray, List.getElem_cons_zero, List.getElem_cons_succ]
           refine wpAnyL_ready (rs := [19]) (by kernel_rfl) (by simp) ?_
           refine AllL.cons rfl (fun K hK => ?_) ?_
           ·
            have hc := fun u => setOther0 (u := u) (HT32.out.cellA) (HT32.out.fr 1)
            have hc1 := fun u => (hc u).1
            have hc2 := fun u => (hc u).2
            clear hc
            go_simp
            clear hc1 hc2
            refine hK.out _ _ (And.intro (setOther _ (p := ⟨Bd, 1, none⟩) (setOther _ (p := ⟨Bd, 2, none⟩) HK32.out.1.1 (by simp; omega)) (by simp; omega)) (setOther _ (p := ⟨Bd, 1, none⟩) (setOther _ (p := ⟨Bd, 2, none⟩) HK32.out.1.2 (by have := HLN.out; simp; omega)) (by have := HLN.out; simp; omega))) (fun h => absurd (h 17 (by simp)) (by decide)) ?_
            clear hK K
            refine wpAnyL_done (by kernel_rfl) ?_ _
            go_wp2_with fail
            go_meet
            exact ⟨rfl, OtSt.last (by have h := HT32.out; simp only [List.length_map] at h; exact h) HB32.out HBR.out HB.out hBB⟩
           exact AllL.nil
          exact AllL.nil
         exact AllL.nil
        exact AllL.nil
       exact AllL.nil
      exact AllL.nil
     exact AllL.nil
    exact AllL.nil
   case rest =>
    obtain ⟨rfl, vA', vN', xs', hd', hbr', hb'⟩ := hcut
    have HD3 := Lib.hid hd'
    have HBR3 := Lib.hid hbr'
    have HB3 := Lib.hid hb'
    have hc0 := hd'.cellS
    have hc1 := hd'.cellA
    have hc2 := hd'.cellN
    obtain ⟨hr0, hr1, hr2⟩ : wc.cell? ⟨w.heap.size + 1, 0, none⟩ = some (.int .i64 0) ∧ wc.cell? ⟨w.heap.size + 1, 1, none⟩ = some (.slice none 0 0) ∧ wc.cell? ⟨w.heap.size + 1, 2, none⟩ = some (.slice none 0 0) := by simp [World.cell?, hbr']
    have hf0 : wc.frozen? ⟨w.heap.size + 1, 0, none⟩ = false := by simp [World.frozen?, hbr']
    have hf1 : wc.frozen? ⟨w.heap.size + 1, 1, none⟩ = false := by simp [World.frozen?, hbr']
    have hf2 : wc.frozen? ⟨w.heap.size + 1, 2, none⟩ = false := by simp [World.frozen?, hbr']
    obtain ⟨A1, c1, rfl, _, _⟩ := hd'.ownA.form
    obtain ⟨A3, c3, rfl, _, _⟩ := hd'.ownN.form
    generalize (otherD d).2.1.length = L1 at *
    generalize (otherD d).2.2.length = L2 at *
    clear hd' hbr' hb' hcB hcR
    go_wp2_with fail
    refine bodyPost_ret (v := .agg #[.int .i64 d.1, .slice A1 L1 c1, .slice A3 L2 c3]) (by simp [results, Tryz.results24, go_sem, hr0, hr1, hr2]) rfl ?_
    have h := HD3.out
    have hset : ∀ (u : World) (i : Nat) (v : Value), u.grownBy (u.setCell ⟨w.heap.size + 1, i, none⟩ v) (some (w.heap.size + 1)) := fun u i v => set_grown u i v
    have hne : ∀ g, some (w.heap.size + 1) = some g → g ≠ Bd ∧ g < Bd + 1 := fun g e => by injection e with e; omega
    exact ⟨Bd, _, _, xs', by omega, rfl, ((h.grown (hset _ _ _) hne).grown (hset _ _ _) hne).grown (hset _ _ _) hne, ((HB3.out.setCell (by simp) _).setCell (by simp) _).setCell (by simp) _⟩
end Go.Proofs.YtocbkccchnbmaaaGreat
