/- gram.CopyTree, tree.Clone, tree.At. -/
import Derived.Test.YtfmmpmphlognlaaTreeW
import Derived.Test.YtfmmpmphlognlaaShrinkPlain
import Derived.Test.YtfmmpmphlognlaaTreeB
import Derived.Test.YtfmmpmphlognlaaMakeGram
import Derived.Test.YtfmmpmphlognlaaLate
namespace Go.Proofs.Ytfmmpmphlognlaa
open Go.RowKit

/-- a tree returned, in new memory -/
def CopyMade (t : TreeD) (base : Nat) (e : Ending) (w' : World) : Prop := ∃ (A : Option Addr) (m c : Nat), e = .returned (.agg #[.int .i64 t.rule, .int .i64 t.term, .slice A m c]) ∧ Sl RTree w' (fun b => base ≤ b) A m c t.kids
theorem tree_set2 {w : World} {B : Nat} {a b c : Value} {T : TypeId} (h : w.heap[B]? = some (.cells #[a, b, c] T (0, 0))) (v : Value) : (w.setCell ⟨B, 2, none⟩ v).heap[B]? = some (.cells #[a, b, v] T (0, 0)) := by
  have := blk_set h 2 v
  simpa using this
set_option linter.unusedSimpArgs false in
set_option maxRecDepth 100000 in
set_option maxHeartbeats 4000000 in
theorem copyTree : ∀ (sz : Nat) (t : TreeD) (w : World) (S : Nat → Prop) (A : Option Addr) (m c : Nat), sizeT t ≤ sz → sizeT t ≤ 1000000 → Sl RTree w S A m c t.kids →
    Calls Try.prog 97 #[.agg #[.int .i64 t.rule, .int .i64 t.term, .slice A m c]] w fun e w' => CopyMade t w.heap.size e w' ∧ Below w.heap.size w w'
  | 0, t, w, S, A, m, c, hsz, _, _ => by rw [sizeT_eq] at hsz; omega
  | sz + 1, t, w, S, A, m, c, hsz, hsm, hs => by
    have IH := Lib.hid (copyTree sz)
    have HS := Lib.hid hs.fit
    have HLEN := Lib.hid hs.len
    have hm6 : m ≤ 1000000 := by
      have h1 := hs.len
      have h2 := len_size t.kids
      rw [sizeT_eq] at hsm
      omega
    have HSZ := Lib.hid (show ∀ x ∈ t.kids, sizeT x ≤ sz ∧ sizeT x ≤ 1000000 from fun x hx => by have := sizeT_kid hx; omega)
    obtain ⟨tr, htr⟩ : ∃ tr, tr = t.rule := ⟨_, rfl⟩
    obtain ⟨tt, htt⟩ : ∃ tt, tt = t.term := ⟨_, rfl⟩
    rw [← htr, ← htt]
    have HTR := Lib.hid htr
    have HTT := Lib.hid htt
    clear hs hsz hsm htr htt
    obtain ⟨w1, hw1⟩ : ∃ w1 : World, w1 = ((w.alloc (.cells #[.int .i64 tr, .int .i64 tt, .slice A m c] 31)).alloc (.cells #[.int .i64 0, .int .i64 0, .slice none 0 0] 31)).alloc (.cells #[.int .i64 tr, .int .i64 tt, .slice none 0 0] 31) := ⟨_, rfl⟩
    have hz1 : w1.heap.size = w.heap.size + 3 := by rw [hw1]; simp
    have hb1 : Below w.heap.size w w1 := by rw [hw1]; exact (((Below.refl _ _).alloc (Nat.le_refl _) _).alloc (by simp) _).alloc (by simp; omega) _
    have b1 : w1.heap[w.heap.size]? = some (.cells #[.int .i64 tr, .int .i64 tt, .slice A m c] 31 (0, 0)) := by rw [hw1]; exact (Below.heap_alloc _ _ _ (by simp; omega)).trans ((Below.heap_alloc _ _ _ (by simp)).trans (heap_alloc_new w _))
    have b2 : w1.heap[w.heap.size + 1]? = some (.cells #[.int .i64 0, .int .i64 0, .slice none 0 0] 31 (0, 0)) := by rw [hw1]; exact (Below.heap_alloc _ _ _ (by simp)).trans (heap_new _ _ _ (by simp))
    have b3 : w1.heap[w.heap.size + 2]? = some (.cells #[.int .i64 tr, .int .i64 tt, .slice none 0 0] 31 (0, 0)) := by rw [hw1]; exact heap_new _ _ _ (by simp)
    have HB1 := Lib.hid hb1
    have HRES := Lib.hid b2
    have HOUT := Lib.hid b3
    clear hb1 b1 b2 b3
    go_enter Try.func97, Try.ntmps97
    --@1
    go_wp2_with fail
    rw [← hw1]
    clear hw1
    go_loopg [14] m (fun gk i wr => ∃ (j : Nat) (vK : Value), j ≤ m ∧ gk = m - j ∧ i = .int .i64 j ∧ wr.heap[w.heap.size + 2]? = some (.cells #[.int .i64 tr, .int .i64 tt, vK] 31 (0, 0)) ∧ OwnL RTree wr (fun _ => False) (w.heap.size + 3) 31 vK (t.kids.take j) ∧ w1.heap.size ≤ wr.heap.size ∧ Below (w.heap.size + 2) w1 wr)
    case atStart => exact ⟨0, .slice none 0 0, Nat.zero_le _, rfl, rfl, HOUT.out, OwnL.nil _ _ _ _ _, Nat.le_refl _, Below.refl _ _⟩
    case round =>
      obtain ⟨j, vK, hj, hgk, rfl, hbo, hown, hzr, hb⟩ := hrel
      have HGK := Lib.hid hgk
      have HBO := Lib.hid hbo
      have HOW := Lib.hid hown
      have HB := Lib.hid hb
      have htl : (t.kids.take j).length = j := by rw [List.length_take]; have := HLEN.out; omega
      have HTL := Lib.hid htl
      obtain ⟨AK, cK, rfl, hcK⟩ := hown.formK htl
      obtain ⟨w2, rfl⟩ : ∃ w2 : World, w2 = wr := ⟨_, rfl⟩
      clear hgk hbo hown hb htl
      by_cases hlt : j < m
      · obtain ⟨b, off, A3, m3, c3, x, rfl, hSb, hbl, hx0, hx1, hx2, hx, hxs⟩ := tree_at ((HS.out.below HB1.out).keep (.belowB HB.out (fun b hb => by have := hb.2; omega))) hlt
        have hsize := HSZ.out x (List.mem_of_getElem? hx)
        have hjI : (j : Int) < (m : Int) := by omega
        have hj0 : (0 : Int) ≤ (j : Int) := by omega
        obtain ⟨w3, hw3⟩ : ∃ w3 : World, w3 = w2.alloc (.cells #[.int .i64 x.rule, .int .i64 x.term, .slice A3 m3 c3] 31) := ⟨_, rfl⟩
        have hz3 : w3.heap.size = w2.heap.size + 1 := by rw [hw3]; simp
        have hb3 : Below w2.heap.size w2 w3 := by rw [hw3]; exact (Below.refl _ _).alloc (Nat.le_refl _) _
        have hbx : w3.heap[w2.heap.size]? = some (.cells #[.int .i64 x.rule, .int .i64 x.term, .slice A3 m3 c3] 31 (0, 0)) := by rw [hw3]; exact heap_alloc_new w2 _
        have hall : ∀ u : World, Below w3.heap.size w3 u → (u.cell? ⟨w.heap.size + 2, 2, none⟩ = some (.slice AK j cK)) ∧ u.cell? ⟨w2.heap.size, 0, none⟩ = some (.int .i64 x.rule) ∧ u.cell? ⟨w2.heap.size, 1, none⟩ = some (.int .i64 x.term) ∧ u.cell? ⟨w2.heap.size, 2, none⟩ = some (.slice A3 m3 c3) := fun u hu => by
          have e1 := ((hb3.trans (hu.mono (by omega))).block _ (by omega)).trans HBO.out
          have e2 := (hu.block _ (by omega)).trans hbx
          obtain ⟨d0, d1, d2, _, _, _⟩ := tree_cells' e2
          exact ⟨(tree_cells' e1).2.2.1, d0, d1, d2⟩
        have HALL := Lib.hid hall
        have HK0 := Lib.hid (hall w3.drew (Below.refl _ _).drew)
        have HX := Lib.hid hx
        have HXS := Lib.hid (hxs.below hb3)
        have HSIZE := Lib.hid hsize
        have HB3 := Lib.hid hb3
        have HBX := Lib.hid hbx
        clear hall hb3 hbx hx hxs hsize
        --@2
        go_wp2_with fail
        rw [← hw3]
        clear hw3 hx0 hx1 hx2
        refine wp_region_late (late := [7]) (S1 := fun _ => True) (S := fun u => (u.cell? ⟨w.heap.size + 2, 2, none⟩ = some (.slice AK j cK)) ∧ u.cell? ⟨w2.heap.size, 0, none⟩ = some (.int .i64 x.rule) ∧ u.cell? ⟨w2.heap.size, 1, none⟩ = some (.int .i64 x.term) ∧ u.cell? ⟨w2.heap.size, 2, none⟩ = some (.slice A3 m3 c3)) (by kernel_rfl) ?_
        refine wpAnyL_pure (i := 0) rfl (by kernel_rfl) (fun _ _ _ h => h) (Or.inl ⟨by rfl, (fun u hu => by obtain ⟨_, k0, k1, k2, k3⟩ := hu; go_simp; try rfl)⟩) trivial (fun _ => HK0.out) ?_
        simp only [Act.put, List.setIfInBounds_toArray, List.set_cons_zero, List.set_cons_succ, List.getElem_toArray, List.getElem_cons_zero, List.getElem_cons_succ]
        refine wpAnyL_take (i := 1) rfl (by kernel_rfl) (fun _ _ _ h => h) (Or.inl ⟨by rfl, (fun u hu => by obtain ⟨_, k0, k1, k2, k3⟩ := hu; go_simp; try rfl)⟩) trivial (fun _ => HK0.out) ?_
        simp only [Act.put, List.setIfInBounds_toArray, List.set_cons_zero, List.set_cons_succ, List.getElem_toArray, List.getElem_cons_zero, List.getElem_cons_succ]
        refine wpAnyL_take (i := 2) rfl (by kernel_rfl) (fun _ _ _ h => h) (Or.inl ⟨by rfl, (fun u hu => by obtain ⟨_, k0, k1, k2, k3⟩ := hu; go_simp; try rfl)⟩) trivial (fun _ => HK0.out) ?_
        simp only [Act.put, List.setIfInBounds_toArray, List.set_cons_zero, List.set_cons_succ, List.getElem_toArray, List.getElem_cons_zero, List.getElem_cons_succ]
        refine wpAnyL_ready (rs := [3]) (by kernel_rfl) (by simp) ?_
        refine AllL.cons rfl (fun K hK => ?_) ?_
        · go_simp
          refine (IH.out x _ _ A3 m3 c3 HSIZE.out.1 HSIZE.out.2 HXS.out.drew).mono ?_
          rintro e w4 ⟨⟨A4, m4, c4, rfl, hz⟩, hb4⟩
          have HZ := Lib.hid (show Sl RTree w4 (fun b => w3.heap.size ≤ b) A4 m4 c4 x.kids from hz)
          have HB4 := Lib.hid ((Below.refl w3.heap.size w3).drew.trans hb4)
          clear hz hb4
          refine hK.out _ _ trivial (fun _ => (HALL.out _ HB4.out)) ?_
          clear hK K
          refine wpAnyL_ready (rs := [4]) (by kernel_rfl) (by simp) ?_
          refine AllL.cons rfl (fun K hK => ?_) ?_
          · go_simp
            refine hK.out _ _ trivial (fun _ => (HALL.out _ (HB4.out.alloc HB4.out.size _))) ?_
            clear hK K
            refine wpAnyL_ready (rs := [5]) (by kernel_rfl) (by simp) ?_
            refine AllL.cons rfl (fun K hK => ?_) ?_
            · have hz4 := HB4.out.size
              obtain ⟨v8, w8, hrun, ho8, hg8, hb8⟩ := run_append_lit (R := RTree) tTreesB rfl w4 27 (w.heap.size + 3) (fun _ => False) _ _ (HOW.out.below (HB3.out.trans (HB4.out.mono (by omega)))) 1 [x] [.int .i64 x.rule, .int .i64 x.term, .slice A4 m4 c4] (Cells.single (RTree.cells.2 ⟨A4, m4, c4, rfl, HZ.out.more fun b hb => ⟨Or.inr (by omega), fun e => by have h1 := HOW.out.row e; omega⟩⟩)) rfl (by rw [HTL.out]; unfold maxLen; omega) (by rw [HTL.out]; omega) (by omega)
              obtain ⟨A8, c8, rfl, _⟩ := ho8.formK (a := j + 1) (by rw [List.length_append, HTL.out]; rfl)
              have HRUN := Lib.hid hrun
              have HO8 := Lib.hid ho8
              have hbo8 := (hb8.block _ (show w.heap.size + 2 < w.heap.size + 3 by omega)).trans ((HB4.out.block _ (by omega)).trans ((HB3.out.block _ (by omega)).trans HBO.out))
              have hbx8 := (hg8.block w2.heap.size (by simp; omega) (fun e => by have := HOW.out.row e.symm; omega)).trans ((Below.heap_alloc _ _ _ (by omega)).trans ((HB4.out.block _ (by omega)).trans HBX.out))
              obtain ⟨e0, e1, e2, _, _, _⟩ := tree_cells' hbx8
              have HK8 := Lib.hid (And.intro (tree_cells' hbo8).2.2.1 (And.intro e0 (And.intro e1 e2)))
              have hc8 := (tree_cells' hbo8).2.2.1
              have hf8 := (tree_cells' hbo8).2.2.2.2.2
              have HBO8 := Lib.hid hbo8
              have HB18 := Lib.hid ((HB.out.trans ((HB3.out.trans (HB4.out.mono (by omega))).mono (by omega))).trans (hb8.mono (by omega)))
              have hz8 : w4.heap.size ≤ w8.heap.size := by have := hg8.size; simp at this; omega
              clear hrun ho8 hg8 hb8 hbo8 hbx8 e0 e1 e2
              refine step_append_run _ (by rfl) _ _ _ _ (by rfl) _ _ (by rfl) (by rfl) _ _ HRUN.out ?_
              simp only [Act.put, List.setIfInBounds_toArray, List.set_cons_zero, List.set_cons_succ, List.getElem_toArray, List.getElem_cons_zero, List.getElem_cons_succ]
              refine hK.out _ _ trivial (fun _ => HK8.out) ?_
              clear hK K
              refine wpAnyL_pure (i := 6) rfl (by kernel_rfl) (fun _ _ _ h => h) (Or.inl ⟨by rfl, (fun u hu => by obtain ⟨_, k0, k1, k2, k3⟩ := hu; go_simp; try rfl)⟩) trivial (fun _ => HK8.out) ?_
              simp only [Act.put, List.setIfInBounds_toArray, List.set_cons_zero, List.set_cons_succ, List.getElem_toArray, List.getElem_cons_zero, List.getElem_cons_succ]
              refine wpAnyL_ready (rs := [7]) (by kernel_rfl) (by simp) ?_
              refine AllL.cons rfl (fun K hK => ?_) ?_
              · have l8 := cell_lt hc8
                go_simp
                clear hc8 hf8
                refine hK.out _ _ trivial (fun h => absurd (h 7 (by simp)) (by decide)) ?_
                clear hK K
                refine wpAnyL_done (by kernel_rfl) ?_ _
                have hbs : Below (w.heap.size + 2) w8 (w8.setCell ⟨w.heap.size + 2, 2, none⟩ (.slice A8 (j + 1) c8)) := (Below.refl _ _).setCell (by show w.heap.size + 2 ≤ w.heap.size + 2; omega) _
                have HBS := Lib.hid (HB18.out.trans hbs)
                have HBOS := Lib.hid (tree_set2 HBO8.out (.slice A8 (j + 1) c8))
                have HOS := Lib.hid (HO8.out.keepG (set_grown (Bd := w.heap.size + 2) w8 2 (.slice A8 (j + 1) c8)) (fun g e => by injection e with e; omega))
                have hzs : (w8.setCell ⟨w.heap.size + 2, 2, none⟩ (.slice A8 (j + 1) c8)).heap.size = w8.heap.size := by simp [World.setCell]
                clear hbs
                go_wp2_with fail
                go_roundg (m - (j + 1))
                case measure => rw [HGK.out]; omega
                case rel => exact ⟨j + 1, _, by omega, rfl, by go_num, HBOS.out, by rw [List.take_succ_eq_append_getElem (List.getElem?_eq_some_iff.1 HX.out).1, (List.getElem?_eq_some_iff.1 HX.out).2]; exact HOS.out, by simp [World.setCell]; omega, HBS.out⟩
              exact AllL.nil
            exact AllL.nil
          exact AllL.nil
        exact AllL.nil
      · obtain rfl : m = j := by omega
        obtain ⟨d0, d1, d2, f0, f1, f2⟩ := tree_cells' ((HB.out.block _ (by omega)).trans HRES.out)
        obtain ⟨q0, q1, q2, g0, g1, g2⟩ := tree_cells' HBO.out
        have ld : w.heap.size + 1 < w2.heap.size := by omega
        have ld2 := cell_lt q0
        --@3
        go_wp2_with fail
        refine bodyPost_ret (v := .agg #[.int .i64 tr, .int .i64 tt, .slice AK m cK]) (by simp [results, Try.results97, go_sem, d0, d1, d2, ld]) rfl ?_
        have hset : ∀ (u : World) (q : Nat) (v : Value), Below w.heap.size u (u.setCell ⟨w.heap.size + 1, q, none⟩ v) := fun u q v => (Below.refl _ _).setCell (by show w.heap.size ≤ w.heap.size + 1; omega) _
        have hbb := ((hset w2 0 (.int .i64 tr)).trans (hset _ 1 (.int .i64 tt))).trans (hset _ 2 (.slice AK m cK))
        have hkt : t.kids.take m = t.kids := List.take_of_length_le (by have := HLEN.out; omega)
        have hsl := HOW.out.sl
        rw [hkt] at hsl
        refine ⟨⟨AK, m, cK, by rw [← HTR.out, ← HTT.out], ?_⟩, HB1.out.trans ((HB.out.mono (by omega)).trans hbb)⟩
        exact ((hsl.more (S' := fun b => w.heap.size + 3 ≤ b) (fun b hb => by rcases hb with h | h; exact h.elim; omega)).keep (((Kept.setCell _ _ _ _ (by simp)).trans (.setCell _ _ _ _ (by simp))).trans (.setCell _ _ _ _ (by simp)))).more (fun b hb => by omega)
end Go.Proofs.Ytfmmpmphlognlaa
