/- tree.put, tree.Put. -/
import Derived.Test.YtfmmpmphlognlaaTreeAt
namespace Go.Proofs.Ytfmmpmphlognlaa
open Go.RowKit

theorem set_take {α : Type} {l : List α} {j k : Nat} {x z : α} (h : l[j]? = some x) : (l.set k z).take (j + 1) = (l.set k z).take j ++ [if j = k then z else x] := by
  have hj : j < (l.set k z).length := by rw [List.length_set]; exact (List.getElem?_eq_some_iff.1 h).1
  rw [List.take_succ_eq_append_getElem hj]
  congr 2
  rw [List.getElem_set]
  by_cases e : k = j
  · rw [if_pos e, if_pos e.symm]
  · rw [if_neg e, if_neg (fun h => e h.symm)]
    exact (List.getElem?_eq_some_iff.1 h).2
set_option linter.unusedSimpArgs false in
set_option maxRecDepth 100000 in
set_option maxHeartbeats 8000000 in
theorem treePutIn : ∀ (p : List Int) (t x s : TreeD) (w : World) (S S' S2 : Nat → Prop) (A : Option Addr) (m c : Nat) (Ap : Option Addr) (np cp : Nat) (A2 : Option Addr) (m2 c2 : Nat), sizeT t ≤ 100000 → sizeT s ≤ 100000 → Sl RTree w S A m c t.kids → Rd w S' 1 Ap np (p.map (Value.int .i64)) → np ≤ cp → np ≤ 1000000 → Sl RTree w S2 A2 m2 c2 s.kids → subAt t p = some x →
    Calls Try.prog 149 #[.agg #[.int .i64 t.rule, .int .i64 t.term, .slice A m c], .slice Ap np cp, .agg #[.int .i64 s.rule, .int .i64 s.term, .slice A2 m2 c2]] w fun e w' => CopyMade (putT t p s) w.heap.size e w' ∧ Below w.heap.size w w' := by
  intro p
  induction p with
  | nil =>
    intro t x s w S S' S2 A m c Ap np cp A2 m2 c2 hst hss hs hp hpc hnp hs2 hx
    obtain rfl : np = 0 := by have := hp.1; simpa using this.symm
    rw [putT]
    obtain ⟨w1, hw1⟩ : ∃ w1 : World, w1 = ((w.alloc (.cells #[.int .i64 t.rule, .int .i64 t.term, .slice A m c] 31)).alloc (.cells #[.int .i64 s.rule, .int .i64 s.term, .slice A2 m2 c2] 31)).alloc (.cells #[.int .i64 0, .int .i64 0, .slice none 0 0] 31) := ⟨_, rfl⟩
    have hz1 : w1.heap.size = w.heap.size + 3 := by rw [hw1]; simp
    have hb1 : Below w.heap.size w w1 := by rw [hw1]; exact (((Below.refl _ _).alloc (Nat.le_refl _) _).alloc (by simp) _).alloc (by simp; omega) _
    have b3 : w1.heap[w.heap.size + 2]? = some (.cells #[.int .i64 0, .int .i64 0, .slice none 0 0] 31 (0, 0)) := by rw [hw1]; exact heap_new _ _ _ (by simp)
    have HB1 := Lib.hid hb1
    have HRES := Lib.hid b3
    have HS2 := Lib.hid (hs2.below hb1)
    clear hb1 b3 hs2 hs hp hx
    go_enter Try.func149, Try.ntmps149
    --@1
    go_wp2_with fail
    rw [← hw1]
    clear hw1
    refine (treeClone s w1 S2 A2 m2 c2 (by omega) HS2.out).mono ?_
    rintro e w2 ⟨⟨A3, m3, c3, rfl, hz⟩, hb2⟩
    have HZ := Lib.hid hz
    have hz2 := hb2.size
    obtain ⟨d0, d1, d2, f0, f1, f2⟩ := tree_cells' ((hb2.block _ (by omega)).trans HRES.out)
    have HB2 := Lib.hid (HB1.out.trans (hb2.mono (by omega)))
    have ld : w.heap.size + 2 < w2.heap.size := by omega
    clear hz hb2
    go_wp2_with fail
    refine bodyPost_ret (v := .agg #[.int .i64 s.rule, .int .i64 s.term, .slice A3 m3 c3]) (by simp [results, Try.results149, go_sem, d0, d1, d2, ld]) rfl ?_
    have hset : ∀ (u : World) (q : Nat) (v : Value), Below w.heap.size u (u.setCell ⟨w.heap.size + 2, q, none⟩ v) := fun u q v => (Below.refl _ _).setCell (by show w.heap.size ≤ w.heap.size + 2; omega) _
    refine ⟨⟨A3, m3, c3, rfl, ?_⟩, HB2.out.trans (((hset _ _ _).trans (hset _ _ _)).trans (hset _ _ _))⟩
    exact ((HZ.out.more (S' := fun b => w.heap.size + 3 ≤ b) (fun b hb => by omega)).keep (((Kept.setCell _ _ _ _ (by simp)).trans (.setCell _ _ _ _ (by simp))).trans (.setCell _ _ _ _ (by simp)))).more (fun b hb => by omega)
  | cons i p ih =>
    intro t x s w S S' S2 A m c Ap np cp A2 m2 c2 hst hss hs hp hpc hnp hs2 hx
    obtain ⟨k, y, rfl, hky, hxy⟩ := subAt_cons hx
    have hpl : np = p.length + 1 := by have := hp.1; simpa using this.symm
    have hm := hs.len
    have hm6 : m ≤ 100000 := by
      have h2 := len_size t.kids
      rw [sizeT_eq] at hst
      omega
    obtain ⟨zz, hzz⟩ : ∃ zz, zz = putT y p s := ⟨_, rfl⟩
    have hput : putT t ((k : Int) :: p) s = .node t.rule t.term (t.kids.set k zz) := by rw [putT, Int.toNat_natCast, hky, hzz]
    rw [hput]
    have hszk : ∀ z ∈ t.kids, sizeT z ≤ 100000 := fun z hz => by have := sizeT_kid hz; omega
    have IH := Lib.hid ih
    have HSZ := Lib.hid hszk
    have HKY := Lib.hid hky
    have HXY := Lib.hid hxy
    have HZZ := Lib.hid hzz
    have HM := Lib.hid hm
    have HPL := Lib.hid hpl
    have hlK : (t.kids.set k zz).length = m := by rw [List.length_set, hm]
    have HLK := Lib.hid hlK
    obtain ⟨tr, htr⟩ : ∃ tr, tr = t.rule := ⟨_, rfl⟩
    obtain ⟨tt, htt⟩ : ∃ tt, tt = t.term := ⟨_, rfl⟩
    rw [← htr, ← htt]
    obtain ⟨w1, hw1⟩ : ∃ w1 : World, w1 = (((w.alloc (.cells #[.int .i64 tr, .int .i64 tt, .slice A m c] 31)).alloc (.cells #[.int .i64 s.rule, .int .i64 s.term, .slice A2 m2 c2] 31)).alloc (.cells #[.int .i64 0, .int .i64 0, .slice none 0 0] 31)).alloc (.cells #[.int .i64 tr, .int .i64 tt, .slice none 0 0] 31) := ⟨_, rfl⟩
    have hz1 : w1.heap.size = w.heap.size + 4 := by rw [hw1]; simp
    have hb1 : Below w.heap.size w w1 := by rw [hw1]; exact ((((Below.refl _ _).alloc (Nat.le_refl _) _).alloc (by simp) _).alloc (by simp; omega) _).alloc (by simp; omega) _
    have b2 : w1.heap[w.heap.size + 1]? = some (.cells #[.int .i64 s.rule, .int .i64 s.term, .slice A2 m2 c2] 31 (0, 0)) := by rw [hw1]; exact (Below.heap_alloc _ _ _ (by simp)).trans ((Below.heap_alloc _ _ _ (by simp)).trans (heap_new _ _ _ (by simp)))
    have b3 : w1.heap[w.heap.size + 2]? = some (.cells #[.int .i64 0, .int .i64 0, .slice none 0 0] 31 (0, 0)) := by rw [hw1]; exact (Below.heap_alloc _ _ _ (by simp)).trans (heap_new _ _ _ (by simp))
    have b4 : w1.heap[w.heap.size + 3]? = some (.cells #[.int .i64 tr, .int .i64 tt, .slice none 0 0] 31 (0, 0)) := by rw [hw1]; exact heap_new _ _ _ (by simp)
    have HB1 := Lib.hid hb1
    have HSB := Lib.hid b2
    have HRES := Lib.hid b3
    have HOUT := Lib.hid b4
    have HS := Lib.hid ((hs.fit.more (S' := fun b => b < w.heap.size) (fun b hb => hb.2)).below hb1)
    have HS2 := Lib.hid ((hs2.fit.more (S' := fun b => b < w.heap.size) (fun b hb => hb.2)).below hb1)
    have HP := Lib.hid (((hp.fit (by decide)).more (S' := fun b => b < w.heap.size) (fun b hb => hb.2)).below hb1)
    have hpne : ((np : Int) == 0) = false := by simp; omega
    clear hb1 b2 b3 b4 hs hp hs2 hx ih hky hxy hzz hput hpl hlK hszk hm htr htt
    go_enter Try.func149, Try.ntmps149
    --@2
    go_wp2_with fail
    rw [← hw1]
    clear hw1 hpne
    go_loopg [23] m (fun gk i wr => ∃ (j : Nat) (vK : Value), j ≤ m ∧ gk = m - j ∧ i = .int .i64 j ∧ wr.heap[w.heap.size + 3]? = some (.cells #[.int .i64 tr, .int .i64 tt, vK] 31 (0, 0)) ∧ OwnL RTree wr (fun _ => False) (w.heap.size + 4) 31 vK ((t.kids.set k zz).take j) ∧ w1.heap.size ≤ wr.heap.size ∧ Below (w.heap.size + 3) w1 wr)
    case atStart => exact ⟨0, .slice none 0 0, Nat.zero_le _, rfl, rfl, HOUT.out, OwnL.nil _ _ _ _ _, Nat.le_refl _, Below.refl _ _⟩
    case round =>
      obtain ⟨j, vK, hj, hgk, rfl, hbo, hown, hzr, hb⟩ := hrel
      have HGK := Lib.hid hgk
      have HBO := Lib.hid hbo
      have HOW := Lib.hid hown
      have HB := Lib.hid hb
      have htl : ((t.kids.set k zz).take j).length = j := by rw [List.length_take, HLK.out]; omega
      have HTL := Lib.hid htl
      obtain ⟨AK, cK, rfl, hcK⟩ := hown.formK htl
      obtain ⟨w2, rfl⟩ : ∃ w2 : World, w2 = wr := ⟨_, rfl⟩
      clear hgk hbo hown hb htl
      by_cases hlt : j < m
      · obtain ⟨b, off, A3, m3, c3, x', rfl, hSb, hbl, hx0, hx1, hx2, hx', hxs⟩ := tree_at (HS.out.keep (.belowB HB.out (fun b hb => by omega))) hlt
        obtain ⟨bp, op, ip, rfl, _, hip, hcp⟩ := (HP.out.keep (.belowB HB.out (fun b hb => by omega))).int_at (k := 0) (by have := HPL.out; omega)
        obtain rfl : ip = (k : Int) := by simpa using hip.symm
        rw [Nat.add_zero] at hcp
        have lbp := cell_lt hcp
        have hsize := HSZ.out x' (List.mem_of_getElem? hx')
        have hjI : (j : Int) < (m : Int) := by omega
        have hj0 : (0 : Int) ≤ (j : Int) := by omega
        have hnp1 : (0 : Int) < (np : Int) := by have := HPL.out; omega
        obtain ⟨w3, hw3⟩ : ∃ w3 : World, w3 = w2.alloc (.cells #[.int .i64 x'.rule, .int .i64 x'.term, .slice A3 m3 c3] 31) := ⟨_, rfl⟩
        have hz3 : w3.heap.size = w2.heap.size + 1 := by rw [hw3]; simp
        have hb3 : Below w2.heap.size w2 w3 := by rw [hw3]; exact (Below.refl _ _).alloc (Nat.le_refl _) _
        have hbx : w3.heap[w2.heap.size]? = some (.cells #[.int .i64 x'.rule, .int .i64 x'.term, .slice A3 m3 c3] 31 (0, 0)) := by rw [hw3]; exact heap_alloc_new w2 _
        have hsb3 := (hb3.block _ (by omega)).trans ((HB.out.block _ (by omega)).trans HSB.out)
        have hall : ∀ u : World, Below w3.heap.size w3 u → (u.cell? ⟨w.heap.size + 3, 2, none⟩ = some (.slice AK j cK)) ∧ u.cell? ⟨w2.heap.size, 0, none⟩ = some (.int .i64 x'.rule) ∧ u.cell? ⟨w2.heap.size, 1, none⟩ = some (.int .i64 x'.term) ∧ u.cell? ⟨w2.heap.size, 2, none⟩ = some (.slice A3 m3 c3) := fun u hu => by
          have e1 := ((hb3.trans (hu.mono (by omega))).block _ (by omega)).trans HBO.out
          have e2 := (hu.block _ (by omega)).trans hbx
          obtain ⟨d0, d1, d2, _, _, _⟩ := tree_cells' e2
          exact ⟨(tree_cells' e1).2.2.1, d0, d1, d2⟩
        have HALL := Lib.hid hall
        have HK0 := Lib.hid (hall w3.drew (Below.refl _ _).drew)
        have HX := Lib.hid hx'
        have HXS := Lib.hid (hxs.below hb3)
        have HSIZE := Lib.hid hsize
        have HB3 := Lib.hid hb3
        have HBX := Lib.hid hbx
        have HS3 := Lib.hid ((HS2.out.keep (.belowB HB.out (fun b hb => by omega))).below hb3)
        have HP3 := Lib.hid ((HP.out.keep (.belowB HB.out (fun b hb => by omega))).below hb3)
        obtain ⟨s0, s1, s2, _, _, _⟩ := tree_cells' hsb3
        have HSB3 := Lib.hid hsb3
        clear hall hb3 hbx hx' hxs hsize hip hsb3
        by_cases hjk : j = k
        · have hjb : ((j : Int) == (k : Int)) = true := by simp; omega
          have hyx : y = x' := by have h1 := HKY.out; have h2 := HX.out; rw [hjk, h1] at h2; injection h2
          obtain ⟨A5, hcut, hp5⟩ := tInts.cutl (c := cp) HP3.out 1 (by omega) (by omega) hpc
          rw [show (1 : Int).toNat = 1 from rfl, Nat.one_mul, List.map_cons, List.drop_succ_cons, List.drop_zero] at hp5
          rw [show (1 : Int).toNat = 1 from rfl] at hcut
          have HCUT := Lib.hid hcut
          have HP5 := Lib.hid hp5
          have HYX := Lib.hid hyx
          have HJK := Lib.hid hjk
          have HSS := Lib.hid (show ∀ u : World, Below w3.heap.size w3 u → u.cell? ⟨w.heap.size + 1, 0, none⟩ = some (.int .i64 s.rule) ∧ u.cell? ⟨w.heap.size + 1, 1, none⟩ = some (.int .i64 s.term) ∧ u.cell? ⟨w.heap.size + 1, 2, none⟩ = some (.slice A2 m2 c2) from fun u hu => by
            obtain ⟨a0, a1, a2, _, _, _⟩ := tree_cells' ((hu.block _ (by omega)).trans HSB3.out)
            exact ⟨a0, a1, a2⟩)
          clear hcut hp5 hyx hjk
          --@3
          go_wp2_with fail
          rw [← hw3]
          clear hw3 hx0 hx1 hx2 hcp s0 s1 s2
          refine wp_region_late (late := [10]) (S1 := fun _ => True) (S := fun u => ((u.cell? ⟨w.heap.size + 3, 2, none⟩ = some (.slice AK j cK)) ∧ u.cell? ⟨w2.heap.size, 0, none⟩ = some (.int .i64 x'.rule) ∧ u.cell? ⟨w2.heap.size, 1, none⟩ = some (.int .i64 x'.term) ∧ u.cell? ⟨w2.heap.size, 2, none⟩ = some (.slice A3 m3 c3)) ∧
            (u.cell? ⟨w.heap.size + 1, 0, none⟩ = some (.int .i64 s.rule) ∧ u.cell? ⟨w.heap.size + 1, 1, none⟩ = some (.int .i64 s.term) ∧ u.cell? ⟨w.heap.size + 1, 2, none⟩ = some (.slice A2 m2 c2))) (by kernel_rfl) ?_
          refine wpAnyL_pure (i := 0) rfl (by kernel_rfl) (fun _ _ _ h => h) (Or.inl ⟨by rfl, (fun u hu => by go_simp; try rfl)⟩) trivial (fun _ => (And.intro HK0.out (HSS.out w3.drew (Below.refl _ _).drew))) ?_
          simp only [Act.put, List.setIfInBounds_toArray, List.set_cons_zero, List.set_cons_succ, List.getElem_toArray, List.getElem_cons_zero, List.getElem_cons_succ]
          refine wpAnyL_take (i := 1) rfl (by kernel_rfl) (fun _ _ _ h => h) (Or.inl ⟨by rfl, (fun u hu => by obtain ⟨_, ⟨k0, k1, k2, k3⟩, k4, k5, k6⟩ := hu; go_simp; try rfl)⟩) trivial (fun _ => (And.intro HK0.out (HSS.out w3.drew (Below.refl _ _).drew))) ?_
          simp only [Act.put, List.setIfInBounds_toArray, List.set_cons_zero, List.set_cons_succ, List.getElem_toArray, List.getElem_cons_zero, List.getElem_cons_succ]
          refine wpAnyL_take (i := 2) rfl (by kernel_rfl) (fun _ _ _ h => h) (Or.inl ⟨by rfl, (fun u hu => by obtain ⟨_, ⟨k0, k1, k2, k3⟩, k4, k5, k6⟩ := hu; go_simp; try rfl)⟩) trivial (fun _ => (And.intro HK0.out (HSS.out w3.drew (Below.refl _ _).drew))) ?_
          simp only [Act.put, List.setIfInBounds_toArray, List.set_cons_zero, List.set_cons_succ, List.getElem_toArray, List.getElem_cons_zero, List.getElem_cons_succ]
          refine wpAnyL_pure (i := 3) rfl (by kernel_rfl) (fun _ _ _ h => h) (Or.inl ⟨by rfl, (fun u hu => by go_simp; try rfl)⟩) trivial (fun _ => (And.intro HK0.out (HSS.out w3.drew (Below.refl _ _).drew))) ?_
          simp only [Act.put, List.setIfInBounds_toArray, List.set_cons_zero, List.set_cons_succ, List.getElem_toArray, List.getElem_cons_zero, List.getElem_cons_succ]
          refine wpAnyL_pure (i := 4) (v := .slice A5 (np - 1) (cp - 1)) rfl (by kernel_rfl) (fun _ _ _ h => h) (Or.inl ⟨by rfl, (fun u hu => by have hx := HCUT.out u; go_simp)⟩) trivial (fun _ => (And.intro HK0.out (HSS.out w3.drew (Below.refl _ _).drew))) ?_
          simp only [Act.put, List.setIfInBounds_toArray, List.set_cons_zero, List.set_cons_succ, List.getElem_toArray, List.getElem_cons_zero, List.getElem_cons_succ]
          refine wpAnyL_take (i := 5) rfl (by kernel_rfl) (fun _ _ _ h => h) (Or.inl ⟨by rfl, (fun u hu => by obtain ⟨_, ⟨k0, k1, k2, k3⟩, k4, k5, k6⟩ := hu; go_simp; try rfl)⟩) trivial (fun _ => (And.intro HK0.out (HSS.out w3.drew (Below.refl _ _).drew))) ?_
          simp only [Act.put, List.setIfInBounds_toArray, List.set_cons_zero, List.set_cons_succ, List.getElem_toArray, List.getElem_cons_zero, List.getElem_cons_succ]
          refine wpAnyL_ready (rs := [6]) (by kernel_rfl) (by simp) ?_
          refine AllL.cons rfl (fun K hK => ?_) ?_
          · go_simp
            have hyx := HYX.out
            subst hyx
            refine (IH.out y x s _ _ _ _ A3 m3 c3 A5 (np - 1) (cp - 1) A2 m2 c2 HSIZE.out hss HXS.out.drew HP5.out.drew (by omega) (by omega) HS3.out.drew HXY.out).mono ?_
            rw [← HZZ.out]
            rintro e w4 ⟨⟨A4, m4, c4, rfl, hz⟩, hb4⟩
            have HZ := Lib.hid (show Sl RTree w4 (fun b => w3.heap.size ≤ b) A4 m4 c4 zz.kids from hz)
            have HB4 := Lib.hid ((Below.refl w3.heap.size w3).drew.trans hb4)
            clear hz hb4
            refine hK.out _ _ trivial (fun _ => (And.intro (HALL.out _ HB4.out) (HSS.out _ HB4.out))) ?_
            clear hK K
            refine wpAnyL_ready (rs := [7]) (by kernel_rfl) (by simp) ?_
            refine AllL.cons rfl (fun K hK => ?_) ?_
            · go_simp
              refine hK.out _ _ trivial (fun _ => (And.intro (HALL.out _ (HB4.out.alloc HB4.out.size _)) (HSS.out _ (HB4.out.alloc HB4.out.size _)))) ?_
              clear hK K
              refine wpAnyL_ready (rs := [8]) (by kernel_rfl) (by simp) ?_
              refine AllL.cons rfl (fun K hK => ?_) ?_
              · have hz4 := HB4.out.size
                obtain ⟨v8, w8, hrun, ho8, hg8, hb8⟩ := run_append_lit (R := RTree) tTreesB rfl w4 27 (w.heap.size + 4) (fun _ => False) _ _ (HOW.out.below (HB3.out.trans (HB4.out.mono (by omega)))) 1 [zz] [.int .i64 zz.rule, .int .i64 zz.term, .slice A4 m4 c4] (Cells.single (RTree.cells.2 ⟨A4, m4, c4, rfl, HZ.out.more fun b hb => ⟨Or.inr (by omega), fun e => by have h1 := HOW.out.row e; omega⟩⟩)) rfl (by rw [HTL.out]; unfold maxLen; omega) (by rw [HTL.out]; omega) (by omega)
                obtain ⟨A8, c8, rfl, _⟩ := ho8.formK (a := j + 1) (by rw [List.length_append, HTL.out]; rfl)
                have HRUN := Lib.hid hrun
                have HO8 := Lib.hid ho8
                have hbo8 := (hb8.block _ (show w.heap.size + 3 < w.heap.size + 4 by omega)).trans ((HB4.out.block _ (by omega)).trans ((HB3.out.block _ (by omega)).trans HBO.out))
                have hbx8 := (hg8.block w2.heap.size (by simp; omega) (fun e => by have := HOW.out.row e.symm; omega)).trans ((Below.heap_alloc _ _ _ (by omega)).trans ((HB4.out.block _ (by omega)).trans HBX.out))
                obtain ⟨e0, e1, e2, _, _, _⟩ := tree_cells' hbx8
                have HK8 := Lib.hid (And.intro (tree_cells' hbo8).2.2.1 (And.intro e0 (And.intro e1 e2)))
                have hc8 := (tree_cells' hbo8).2.2.1
                have hf8 := (tree_cells' hbo8).2.2.2.2.2
                have HS8 := Lib.hid (show w8.cell? ⟨w.heap.size + 1, 0, none⟩ = some (.int .i64 s.rule) ∧ w8.cell? ⟨w.heap.size + 1, 1, none⟩ = some (.int .i64 s.term) ∧ w8.cell? ⟨w.heap.size + 1, 2, none⟩ = some (.slice A2 m2 c2) from by
  obtain ⟨a0, a1, a2, _, _, _⟩ := tree_cells' ((hb8.block _ (by omega)).trans ((HB4.out.block _ (by omega)).trans HSB3.out))
  exact ⟨a0, a1, a2⟩)
                have HBO8 := Lib.hid hbo8
                have HB18 := Lib.hid ((HB.out.trans ((HB3.out.trans (HB4.out.mono (by omega))).mono (by omega))).trans (hb8.mono (by omega)))
                have hz8 : w4.heap.size ≤ w8.heap.size := by have := hg8.size; simp at this; omega
                clear hrun ho8 hg8 hb8 hbo8 hbx8 e0 e1 e2
                refine step_append_run _ (by rfl) _ _ _ _ (by rfl) _ _ (by rfl) (by rfl) _ _ HRUN.out ?_
                simp only [Act.put, List.setIfInBounds_toArray, List.set_cons_zero, List.set_cons_succ, List.getElem_toArray, List.getElem_cons_zero, List.getElem_cons_succ]
                refine hK.out _ _ trivial (fun _ => (And.intro HK8.out HS8.out)) ?_
                clear hK K
                refine wpAnyL_pure (i := 9) rfl (by kernel_rfl) (fun _ _ _ h => h) (Or.inl ⟨by rfl, (fun u hu => by go_simp; try rfl)⟩) trivial (fun _ => (And.intro HK8.out HS8.out)) ?_
                simp only [Act.put, List.setIfInBounds_toArray, List.set_cons_zero, List.set_cons_succ, List.getElem_toArray, List.getElem_cons_zero, List.getElem_cons_succ]
                refine wpAnyL_ready (rs := [10]) (by kernel_rfl) (by simp) ?_
                refine AllL.cons rfl (fun K hK => ?_) ?_
                · have l8 := cell_lt hc8
                  go_simp
                  clear hc8 hf8
                  refine hK.out _ _ trivial (fun h => absurd (h 10 (by simp)) (by decide)) ?_
                  clear hK K
                  refine wpAnyL_done (by kernel_rfl) ?_ _
                  have hbs : Below (w.heap.size + 3) w8 (w8.setCell ⟨w.heap.size + 3, 2, none⟩ (.slice A8 (j + 1) c8)) := (Below.refl _ _).setCell (by show w.heap.size + 3 ≤ w.heap.size + 3; omega) _
                  have HBS := Lib.hid (HB18.out.trans hbs)
                  have HBOS := Lib.hid (tree_set2 HBO8.out (.slice A8 (j + 1) c8))
                  have HOS := Lib.hid (HO8.out.keepG (set_grown (Bd := w.heap.size + 3) w8 2 (.slice A8 (j + 1) c8)) (fun g e => by injection e with e; omega))
                  have hzs : (w8.setCell ⟨w.heap.size + 3, 2, none⟩ (.slice A8 (j + 1) c8)).heap.size = w8.heap.size := by simp [World.setCell]
                  clear hbs
                  go_wp2_with fail
                  go_roundg (m - (j + 1))
                  case measure => rw [HGK.out]; omega
                  case rel => exact ⟨j + 1, _, by omega, rfl, by go_num, HBOS.out, by rw [set_take HX.out, if_pos HJK.out]; exact HOS.out, by simp [World.setCell]; omega, HBS.out⟩
                exact AllL.nil
              exact AllL.nil
            exact AllL.nil
          exact AllL.nil
        · have hjb : ((j : Int) == (k : Int)) = false := by simp; omega
          --@4
          go_wp2_with fail
          rw [← hw3]
          clear hw3 hx0 hx1 hx2 hcp s0 s1 s2
          refine wp_region_late (late := [7]) (S1 := fun _ => True) (S := fun u => (u.cell? ⟨w.heap.size + 3, 2, none⟩ = some (.slice AK j cK)) ∧ u.cell? ⟨w2.heap.size, 0, none⟩ = some (.int .i64 x'.rule) ∧ u.cell? ⟨w2.heap.size, 1, none⟩ = some (.int .i64 x'.term) ∧ u.cell? ⟨w2.heap.size, 2, none⟩ = some (.slice A3 m3 c3)) (by kernel_rfl) ?_
          refine wpAnyL_pure (i := 0) rfl (by kernel_rfl) (fun _ _ _ h => h) (Or.inl ⟨by rfl, (fun u hu => by obtain ⟨_, k0, k1, k2, k3⟩ := hu; go_simp; try rfl)⟩) trivial (fun _ => HK0.out) ?_
          simp only [Act.put, List.setIfInBounds_toArray, List.set_cons_zero, List.set_cons_succ, List.getElem_toArray, List.getElem_cons_zero, List.getElem_cons_succ]
          refine wpAnyL_take (i := 1) rfl (by kernel_rfl) (fun _ _ _ h => h) (Or.inl ⟨by rfl, (fun u hu => by obtain ⟨_, k0, k1, k2, k3⟩ := hu; go_simp; try rfl)⟩) trivial (fun _ => HK0.out) ?_
          simp only [Act.put, List.setIfInBounds_toArray, List.set_cons_zero, List.set_cons_succ, List.getElem_toArray, List.getElem_cons_zero, List.getElem_cons_succ]
          refine wpAnyL_take (i := 2) rfl (by kernel_rfl) (fun _ _ _ h => h) (Or.inl ⟨by rfl, (fun u hu => by obtain ⟨_, k0, k1, k2, k3⟩ := hu; go_simp; try rfl)⟩) trivial (fun _ => HK0.out) ?_
          simp only [Act.put, List.setIfInBounds_toArray, List.set_cons_zero, List.set_cons_succ, List.getElem_toArray, List.getElem_cons_zero, List.getElem_cons_succ]
          refine wpAnyL_ready (rs := [3]) (by kernel_rfl) (by simp) ?_
          refine AllL.cons rfl (fun K hK => ?_) ?_
          · go_simp
            refine (treeClone x' _ _ A3 m3 c3 (by have := HSIZE.out; omega) HXS.out.drew).mono ?_
            rintro e w4 ⟨⟨A4, m4, c4, rfl, hz⟩, hb4⟩
            have HZ := Lib.hid (show Sl RTree w4 (fun b => w3.heap.size ≤ b) A4 m4 c4 x'.kids from hz)
            have HB4 := Lib.hid ((Below.refl w3.heap.size w3).drew.trans hb4)
            clear hz hb4
            refine hK.out _ _ trivial (fun _ => (HALL.out _ HB4.out)) ?_
            clear hK K
            refine wpAnyL_ready (rs := [4]) (by kernel_rfl) (by simp) ?_
            refine AllL.cons rfl (fun K hK => ?_) ?_
            · go_simp
              refine hK.out _ _ trivial (fun _ => (HALL.out _ (HB4.out.alloc HB4.out.size _))) ?_
              clear hK K
              refine wpAnyL_ready (rs := [5]) (by kernel_rfl) (by simp) ?_
              refine AllL.cons rfl (fun K hK => ?_) ?_
              · have hz4 := HB4.out.size
                obtain ⟨v8, w8, hrun, ho8, hg8, hb8⟩ := run_append_lit (R := RTree) tTreesB rfl w4 27 (w.heap.size + 4) (fun _ => False) _ _ (HOW.out.below (HB3.out.trans (HB4.out.mono (by omega)))) 1 [x'] [.int .i64 x'.rule, .int .i64 x'.term, .slice A4 m4 c4] (Cells.single (RTree.cells.2 ⟨A4, m4, c4, rfl, HZ.out.more fun b hb => ⟨Or.inr (by omega), fun e => by have h1 := HOW.out.row e; omega⟩⟩)) rfl (by rw [HTL.out]; unfold maxLen; omega) (by rw [HTL.out]; omega) (by omega)
                obtain ⟨A8, c8, rfl, _⟩ := ho8.formK (a := j + 1) (by rw [List.length_append, HTL.out]; rfl)
                have HRUN := Lib.hid hrun
                have HO8 := Lib.hid ho8
                have hbo8 := (hb8.block _ (show w.heap.size + 3 < w.heap.size + 4 by omega)).trans ((HB4.out.block _ (by omega)).trans ((HB3.out.block _ (by omega)).trans HBO.out))
                have hbx8 := (hg8.block w2.heap.size (by simp; omega) (fun e => by have := HOW.out.row e.symm; omega)).trans ((Below.heap_alloc _ _ _ (by omega)).trans ((HB4.out.block _ (by omega)).trans HBX.out))
                obtain ⟨e0, e1, e2, _, _, _⟩ := tree_cells' hbx8
                have HK8 := Lib.hid (And.intro (tree_cells' hbo8).2.2.1 (And.intro e0 (And.intro e1 e2)))
                have hc8 := (tree_cells' hbo8).2.2.1
                have hf8 := (tree_cells' hbo8).2.2.2.2.2
                have HBO8 := Lib.hid hbo8
                have HB18 := Lib.hid ((HB.out.trans ((HB3.out.trans (HB4.out.mono (by omega))).mono (by omega))).trans (hb8.mono (by omega)))
                have hz8 : w4.heap.size ≤ w8.heap.size := by have := hg8.size; simp at this; omega
                clear hrun ho8 hg8 hb8 hbo8 hbx8 e0 e1 e2
                refine step_append_run _ (by rfl) _ _ _ _ (by rfl) _ _ (by rfl) (by rfl) _ _ HRUN.out ?_
                simp only [Act.put, List.setIfInBounds_toArray, List.set_cons_zero, List.set_cons_succ, List.getElem_toArray, List.getElem_cons_zero, List.getElem_cons_succ]
                refine hK.out _ _ trivial (fun _ => HK8.out) ?_
                clear hK K
                refine wpAnyL_pure (i := 6) rfl (by kernel_rfl) (fun _ _ _ h => h) (Or.inl ⟨by rfl, (fun u hu => by obtain ⟨_, k0, k1, k2, k3⟩ := hu; go_simp; try rfl)⟩) trivial (fun _ => HK8.out) ?_
                simp only [Act.put, List.setIfInBounds_toArray, List.set_cons_zero, List.set_cons_succ, List.getElem_toArray, List.getElem_cons_zero, List.getElem_cons_succ]
                refine wpAnyL_ready (rs := [7]) (by kernel_rfl) (by simp) ?_
                refine AllL.cons rfl (fun K hK => ?_) ?_
                · have l8 := cell_lt hc8
                  go_simp
                  clear hc8 hf8
                  refine hK.out _ _ trivial (fun h => absurd (h 7 (by simp)) (by decide)) ?_
                  clear hK K
                  refine wpAnyL_done (by kernel_rfl) ?_ _
                  have hbs : Below (w.heap.size + 3) w8 (w8.setCell ⟨w.heap.size + 3, 2, none⟩ (.slice A8 (j + 1) c8)) := (Below.refl _ _).setCell (by show w.heap.size + 3 ≤ w.heap.size + 3; omega) _
                  have HBS := Lib.hid (HB18.out.trans hbs)
                  have HBOS := Lib.hid (tree_set2 HBO8.out (.slice A8 (j + 1) c8))
                  have HOS := Lib.hid (HO8.out.keepG (set_grown (Bd := w.heap.size + 3) w8 2 (.slice A8 (j + 1) c8)) (fun g e => by injection e with e; omega))
                  have hzs : (w8.setCell ⟨w.heap.size + 3, 2, none⟩ (.slice A8 (j + 1) c8)).heap.size = w8.heap.size := by simp [World.setCell]
                  clear hbs
                  go_wp2_with fail
                  go_roundg (m - (j + 1))
                  case measure => rw [HGK.out]; omega
                  case rel => exact ⟨j + 1, _, by omega, rfl, by go_num, HBOS.out, by rw [set_take HX.out, if_neg hjk]; exact HOS.out, by simp [World.setCell]; omega, HBS.out⟩
                exact AllL.nil
              exact AllL.nil
            exact AllL.nil
          exact AllL.nil
      · obtain rfl : m = j := by omega
        obtain ⟨d0, d1, d2, f0, f1, f2⟩ := tree_cells' ((HB.out.block _ (by omega)).trans HRES.out)
        obtain ⟨q0, q1, q2, g0, g1, g2⟩ := tree_cells' HBO.out
        have ld : w.heap.size + 2 < w2.heap.size := by omega
        have ld2 := cell_lt q0
        --@5
        go_wp2_with fail
        refine bodyPost_ret (v := .agg #[.int .i64 tr, .int .i64 tt, .slice AK m cK]) (by simp [results, Try.results149, go_sem, d0, d1, d2, ld]) rfl ?_
        have hset : ∀ (u : World) (q : Nat) (v : Value), Below w.heap.size u (u.setCell ⟨w.heap.size + 2, q, none⟩ v) := fun u q v => (Below.refl _ _).setCell (by show w.heap.size ≤ w.heap.size + 2; omega) _
        have hbb := ((hset w2 0 (.int .i64 tr)).trans (hset _ 1 (.int .i64 tt))).trans (hset _ 2 (.slice AK m cK))
        have hkt : (t.kids.set k zz).take m = t.kids.set k zz := List.take_of_length_le (by have := HLK.out; omega)
        have hsl := HOW.out.sl
        rw [hkt] at hsl
        refine ⟨⟨AK, m, cK, rfl, ?_⟩, HB1.out.trans ((HB.out.mono (by omega)).trans hbb)⟩
        exact ((hsl.more (S' := fun b => w.heap.size + 4 ≤ b) (fun b hb => by rcases hb with h | h; exact h.elim; omega)).keep (((Kept.setCell _ _ _ _ (by simp)).trans (.setCell _ _ _ _ (by simp))).trans (.setCell _ _ _ _ (by simp)))).more (fun b hb => by omega)
end Go.Proofs.Ytfmmpmphlognlaa
