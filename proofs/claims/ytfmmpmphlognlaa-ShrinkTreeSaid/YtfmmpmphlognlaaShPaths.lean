/- shrink.paths: the paths of all nodes. -/
import Derived.Test.YtfmmpmphlognlaaTreePut2
namespace Go.Proofs.Ytfmmpmphlognlaa
open Go.RowKit

abbrev RIL : Rep (List Int) := Rep.slice Rep.int
theorem tIntssP : SlType Try.prog 66 22 1 24 (.slice none 0 0) := ⟨by kernel_rfl, by kernel_rfl, by kernel_rfl, rfl, by decide⟩
/-- a list of paths, some of them in blocks of S, all others in new memory -/
def PathsMade (l : List (List Int)) (S : Nat → Prop) (base : Nat) (e : Ending) (w' : World) : Prop := ∃ (A : Option Addr) (c : Nat), e = .returned (.slice A l.length c) ∧ Sl RIL w' (fun b => S b ∨ base ≤ b) A l.length c l
theorem pathsTs_len (l : List TreeD) (p : List Int) (i : Nat) : (pathsTs l p i).length = sizeTs l := by
  induction l generalizing i with
  | nil => rw [pathsTs_nil, sizeTs_nil]; rfl
  | cons x l ih => rw [pathsTs_cons, List.length_append, ih, paths_len _ x _ (Nat.le_refl _), sizeTs_cons]
set_option linter.unusedSimpArgs false in
set_option maxRecDepth 100000 in
set_option maxHeartbeats 8000000 in
theorem shrinkPaths : ∀ (sz : Nat) (t : TreeD) (w : World) (S Sp : Nat → Prop) (A : Option Addr) (m c : Nat) (Ap : Option Addr) (np cp : Nat) (p : List Int), sizeT t ≤ sz → sizeT t ≤ 100000 → Sl RTree w S A m c t.kids → Rd w Sp 1 Ap np (p.map (Value.int .i64)) → np ≤ cp → np + sizeT t ≤ 100000 →
    Calls Try.prog 92 #[.agg #[.int .i64 t.rule, .int .i64 t.term, .slice A m c], .slice Ap np cp] w fun e w' => PathsMade (pathsT t p) (fun b => Sp b ∧ b < w.heap.size) w.heap.size e w' ∧ Below w.heap.size w w'
  | 0, t, w, S, Sp, A, m, c, Ap, np, cp, p, hsz, _, _, _, _, _ => by rw [sizeT_eq] at hsz; omega
  | sz + 1, t, w, S, Sp, A, m, c, Ap, np, cp, p, hsz, hsm, hs, hp, hpc, hnp => by
    have hm := hs.len
    have hlen := len_size t.kids
    have hst := sizeT_eq t
    have hpl : p.length = np := by have := hp.1; simpa using this
    obtain ⟨w1, hw1⟩ : ∃ w1 : World, w1 = (w.alloc (.cells #[.int .i64 t.rule, .int .i64 t.term, .slice A m c] 31)).alloc (.cells #[.slice Ap np cp] 22) := ⟨_, rfl⟩
    have hz1 : w1.heap.size = w.heap.size + 2 := by rw [hw1]; simp
    have hb1 : Below w.heap.size w w1 := by rw [hw1]; exact ((Below.refl _ _).alloc (Nat.le_refl _) _).alloc (by simp) _
    have hpf := (hp.fit (by decide)).below hb1
    have hrow : (w1).ownsRow (w.heap.size + 1) 22 1 (.slice (some ⟨w.heap.size + 1, 0, none⟩) 1 1) 1 [.slice Ap np cp] := by
      have := World.ownsRow_lit (e := 22) (size := 1) (base := w.heap.size + 1) (w.alloc (.cells #[.int .i64 t.rule, .int .i64 t.term, .slice A m c] 31)) #[.slice Ap np cp] 1 (by simp) (by unfold maxLen; omega) (by simp)
      rw [hw1]
      simpa using this
    have hoff : ∀ b, Sp b ∧ b < w.heap.size → Off (fun b => Sp b ∧ b < w.heap.size) (w.heap.size + 1) (.slice (some ⟨w.heap.size + 1, 0, none⟩) 1 1) b := fun b hb => ⟨Or.inl hb, fun e => by
      have e' : w.heap.size + 1 = b := by simpa [rowOf] using e
      omega⟩
    have hown1 : OwnL RIL w1 (fun b => Sp b ∧ b < w.heap.size) (w.heap.size + 1) 22 (.slice (some ⟨w.heap.size + 1, 0, none⟩) 1 1) [p] :=
      ⟨[.slice Ap np cp], .inl hrow, Cells.single ⟨Ap, np, cp, rfl, (hpf.slInts hpc).more hoff⟩⟩
    have IH := Lib.hid (shrinkPaths sz)
    have HB1 := Lib.hid hb1
    have HS := Lib.hid ((hs.fit.more (S' := fun b => b < w.heap.size) (fun b hb => hb.2)).below hb1)
    have HP := Lib.hid hpf
    have HOWN1 := Lib.hid hown1
    have HPL := Lib.hid hpl
    have HM := Lib.hid hm
    have HSZ := Lib.hid (show ∀ (j : Nat) (x : TreeD), t.kids[j]? = some x → sizeT x ≤ sz ∧ sizeT x ≤ 100000 ∧ np + 1 + sizeT x ≤ 100000 ∧ (pathsTs (t.kids.take j) p 0).length + 1 + sizeT x ≤ 100000 from fun j x hx => by
      have h1 := sizeT_kid (List.mem_of_getElem? hx)
      have h2 := sizeTs_take t.kids (j + 1)
      rw [sizeTs_step hx] at h2
      rw [pathsTs_len]
      omega)
    have hm6 : m ≤ 100000 := by omega
    have hn6 : np ≤ 100000 := by omega
    clear hs hp hb1 hpf hown1 hrow hoff hpl hm hlen hst hsz hsm hnp
    go_enter Try.func92, Try.ntmps92
    --@1
    go_wp2_with fail
    rw [← hw1]
    clear hw1
    go_loopg [5, 13] m (fun gk v i wr => ∃ (j : Nat), j ≤ m ∧ gk = m - j ∧ i = .int .i64 j ∧ OwnL RIL wr (fun b => Sp b ∧ b < w.heap.size) (w.heap.size + 1) 22 v (p :: pathsTs (t.kids.take j) p 0) ∧ w1.heap.size ≤ wr.heap.size ∧ Below (w.heap.size + 1) w1 wr)
    case atStart => exact ⟨0, Nat.zero_le _, rfl, rfl, by rw [List.take_zero, pathsTs_nil]; exact HOWN1.out, Nat.le_refl _, Below.refl _ _⟩
    case round =>
      obtain ⟨j, hj, hgk, rfl, hown, hzr, hb⟩ := hrel
      have HGK := Lib.hid hgk
      have HOW := Lib.hid hown
      have HB := Lib.hid hb
      obtain ⟨ln, hln⟩ : ∃ ln, ln = (p :: pathsTs (t.kids.take j) p 0).length := ⟨_, rfl⟩
      obtain ⟨AK, cK, rfl, hcK⟩ := hown.formK hln.symm
      have HLN := Lib.hid hln
      obtain ⟨w2, rfl⟩ : ∃ w2 : World, w2 = wr := ⟨_, rfl⟩
      clear hgk hown hb hln
      by_cases hlt : j < m
      · obtain ⟨b, off, A3, m3, c3, x, rfl, hSb, hbl, hx0, hx1, hx2, hx, hxs⟩ := tree_at (HS.out.keep (.belowB HB.out (fun b hb => by omega))) hlt
        have hsize := HSZ.out j x hx
        have hjI : (j : Int) < (m : Int) := by omega
        have hj0 : (0 : Int) ≤ (j : Int) := by omega
        obtain ⟨w3, hw3⟩ : ∃ w3 : World, w3 = w2.alloc (.cells #[.int .i64 x.rule, .int .i64 x.term, .slice A3 m3 c3] 31) := ⟨_, rfl⟩
        have hz3 : w3.heap.size = w2.heap.size + 1 := by rw [hw3]; simp
        have hb3 : Below w2.heap.size w2 w3 := by rw [hw3]; exact (Below.refl _ _).alloc (Nat.le_refl _) _
        have hbx : w3.heap[w2.heap.size]? = some (.cells #[.int .i64 x.rule, .int .i64 x.term, .slice A3 m3 c3] 31 (0, 0)) := by rw [hw3]; exact heap_alloc_new w2 _
        have hall : ∀ u : World, Below w3.heap.size w3 u → u.cell? ⟨w2.heap.size, 0, none⟩ = some (.int .i64 x.rule) ∧ u.cell? ⟨w2.heap.size, 1, none⟩ = some (.int .i64 x.term) ∧ u.cell? ⟨w2.heap.size, 2, none⟩ = some (.slice A3 m3 c3) := fun u hu => by
          obtain ⟨d0, d1, d2, _, _, _⟩ := tree_cells' ((hu.block _ (by omega)).trans hbx)
          exact ⟨d0, d1, d2⟩
        have hz3a : w2.heap.size + 1 ≤ w3.heap.size := by omega
        have hz3b : w3.heap.size ≤ w2.heap.size + 1 := by omega
        clear hz3
        have HALL := Lib.hid hall
        have HBX := Lib.hid hbx
        have HK0 := Lib.hid (hall w3.drew (Below.refl _ _).drew)
        have HX := Lib.hid hx
        have HXS := Lib.hid (hxs.below hb3)
        have HSIZE := Lib.hid hsize
        have HB3 := Lib.hid hb3
        have HP3 := Lib.hid ((HP.out.keep (.belowB HB.out (fun b hb => by have := hb.2; omega))).below hb3)
        have HOW3 := Lib.hid (HOW.out.below hb3)
        clear hall hb3 hbx hx hxs hsize
        --@2
        go_wp2_with fail
        rw [← hw3]
        clear hw3 hx0 hx1 hx2
        refine wp_region_late (late := []) (S1 := fun u => u.cell? ⟨w2.heap.size, 0, none⟩ = some (.int .i64 x.rule) ∧ u.cell? ⟨w2.heap.size, 1, none⟩ = some (.int .i64 x.term) ∧ u.cell? ⟨w2.heap.size, 2, none⟩ = some (.slice A3 m3 c3)) (S := fun _ => True) (by kernel_rfl) ?_
        refine wpAnyL_pure (i := 0) rfl (by kernel_rfl) (fun _ _ _ h => h) (Or.inl ⟨by rfl, (fun u hu => by obtain ⟨k0, k1, k2⟩ := hu; go_simp; try rfl)⟩) HK0.out (fun _ => trivial) ?_
        simp only [Act.put, List.setIfInBounds_toArray, List.set_cons_zero, List.set_cons_succ, List.getElem_toArray, List.getElem_cons_zero, List.getElem_cons_succ]
        refine wpAnyL_pure (i := 1) rfl (by kernel_rfl) (fun _ _ _ h => h) (Or.inl ⟨by rfl, (fun u hu => by obtain ⟨k0, k1, k2⟩ := hu; go_simp; try rfl)⟩) HK0.out (fun _ => trivial) ?_
        simp only [Act.put, List.setIfInBounds_toArray, List.set_cons_zero, List.set_cons_succ, List.getElem_toArray, List.getElem_cons_zero, List.getElem_cons_succ]
        refine wpAnyL_pure (i := 2) rfl (by kernel_rfl) (fun _ _ _ h => h) (Or.inl ⟨by rfl, (fun u hu => by obtain ⟨k0, k1, k2⟩ := hu; go_simp; try rfl)⟩) HK0.out (fun _ => trivial) ?_
        simp only [Act.put, List.setIfInBounds_toArray, List.set_cons_zero, List.set_cons_succ, List.getElem_toArray, List.getElem_cons_zero, List.getElem_cons_succ]
        refine wpAnyL_pure (i := 4) rfl (by kernel_rfl) (fun _ _ _ h => h) (Or.inl ⟨by rfl, (fun u hu => by obtain ⟨k0, k1, k2⟩ := hu; go_simp; try rfl)⟩) HK0.out (fun _ => trivial) ?_
        simp only [Act.put, List.setIfInBounds_toArray, List.set_cons_zero, List.set_cons_succ, List.getElem_toArray, List.getElem_cons_zero, List.getElem_cons_succ]
        refine wpAnyL_ready (rs := [3, 5]) (by kernel_rfl) (by simp) ?_
        refine AllL.cons rfl (fun K hK => ?_) ?_
        · go_simp
          refine (cloneInt _ _ _ _ _ _ HP3.out.drew (by omega)).mono ?_
          rintro e w4 ⟨v4, rfl, ho4, hb4⟩
          obtain ⟨A4, c4, rfl, _, _⟩ := ho4.form
          have HB4 := Lib.hid ((Below.refl w3.heap.size w3).drew.trans hb4)
          have HO4 := Lib.hid (ho4.mono (show w3.heap.size ≤ w3.drew.heap.size from Nat.le_refl _))
          clear ho4 hb4
          refine hK.out _ _ (HALL.out _ HB4.out) (fun _ => trivial) ?_
          clear hK K
          refine wpAnyL_ready (rs := [5]) (by kernel_rfl) (by simp) ?_
          refine AllL.cons rfl (fun K hK => ?_) ?_
          · go_simp
            refine hK.out _ _ (HALL.out _ (HB4.out.alloc HB4.out.size _)) (fun _ => trivial) ?_
            clear hK K
            refine wpAnyL_ready (rs := [6]) (by kernel_rfl) (by simp) ?_
            refine AllL.cons rfl (fun K hK => ?_) ?_
            · have hsz5 : w3.heap.size ≤ (w4.alloc (.cells #[.int .i64 (j : Int)] 3)).heap.size := (HB4.out.alloc HB4.out.size (.cells #[.int .i64 (j : Int)] 3)).size
              obtain ⟨v6, w6, hrun, ho6, hg6, hb6⟩ := run_append_OwnL tInts rfl (w4.alloc (.cells #[.int .i64 (j : Int)] 3)) 22 w3.heap.size (fun _ => False) _ p (((HO4.out.alloc (.cells #[.int .i64 (j : Int)] 3))).ints (fun _ => False)) (fun _ => True) _ 1 1 [(j : Int)] [.int .i64 (j : Int)] (Rd.new w4 (fun _ => True) 3 [.int .i64 (j : Int)] w4.heap.size rfl trivial) (Cells.single rfl) rfl (by rw [HPL.out]; unfold maxLen; omega) (by rw [HPL.out]; omega) hsz5
              obtain ⟨A6, c6, rfl, hc6⟩ := ho6.formK (a := np + 1) (by rw [List.length_append, HPL.out]; rfl)
              have HRUN := Lib.hid hrun
              have HO6 := Lib.hid ho6
              have HB6 := Lib.hid ((HB4.out.alloc HB4.out.size (.cells #[.int .i64 (j : Int)] 3)).trans hb6)
              have HC6 := Lib.hid hc6
              clear hrun ho6 hg6 hb6 hsz5
              refine step_append_run _ (by rfl) _ _ _ _ (by rfl) _ _ (by rfl) (by rfl) _ _ HRUN.out ?_
              simp only [Act.put, List.setIfInBounds_toArray, List.set_cons_zero, List.set_cons_succ, List.getElem_toArray, List.getElem_cons_zero, List.getElem_cons_succ]
              refine hK.out _ _ (HALL.out _ HB6.out) (fun _ => trivial) ?_
              clear hK K
              refine wpAnyL_ready (rs := [7]) (by kernel_rfl) (by simp) ?_
              refine AllL.cons rfl (fun K hK => ?_) ?_
              · go_simp
                have hz6 := HB6.out.size
                refine (IH.out x w6 _ (fun b => w3.heap.size ≤ b) A3 m3 c3 A6 (np + 1) c6 (p ++ [(j : Int)]) HSIZE.out.1 HSIZE.out.2.1 (HXS.out.below HB6.out) (HO6.out.sl.ints.more (fun b hb => by rcases hb with h | h; exact h.elim; exact h)) HC6.out HSIZE.out.2.2.1).mono ?_
                rintro e w7 ⟨⟨A7, c7, rfl, hs7⟩, hb7⟩
                obtain ⟨l7, hl7⟩ : ∃ l7, l7 = pathsT x (p ++ [(j : Int)]) := ⟨_, rfl⟩
                have hll7 : l7.length = sizeT x := by rw [hl7, paths_len _ x _ (Nat.le_refl _)]
                rw [← hl7] at hs7 ⊢
                have HB7 := Lib.hid (HB6.out.trans (hb7.mono (by omega)))
                have HS7 := Lib.hid (hs7.more (S' := fun b => w3.heap.size ≤ b) (fun b hb => by rcases hb with h | h; exact h.1; omega))
                have HL7 := Lib.hid hl7
                have HLL7 := Lib.hid hll7
                obtain ⟨n7, hn7⟩ : ∃ n7, n7 = l7.length := ⟨_, rfl⟩
                rw [← hn7] at HS7 ⊢
                have HN7 := Lib.hid hn7
                clear hs7 hb7 hl7 hll7 hn7
                refine hK.out _ _ (HALL.out _ HB7.out) (fun _ => trivial) ?_
                clear hK K
                refine wpAnyL_ready (rs := [8]) (by kernel_rfl) (by simp) ?_
                refine AllL.cons rfl (fun K hK => ?_) ?_
                · have hz7 := HB7.out.size
                  obtain ⟨xs7, hx7, hc7, hr7, hcells⟩ := HS7.out
                  obtain ⟨v8, w8, hrun, ho8, hg8, hb8⟩ := run_append_OwnL tIntssP rfl w7 66 (w.heap.size + 1) (fun b => Sp b ∧ b < w.heap.size) _ (p :: pathsTs (t.kids.take j) p 0) (HOW3.out.below HB7.out) _ _ n7 c7 l7 xs7 hr7 (hcells.more (fun b hb => ⟨Or.inr (by omega), fun e => by have h1 := HOW.out.row e; omega⟩)) HN7.out (by have := HLN.out; have := HSIZE.out.2.2.2; have := HN7.out; have := HLL7.out; simp only [List.length_cons] at *; unfold maxLen; omega) (by have := HSIZE.out.2.2.2; have := HN7.out; have := HLL7.out; simp only [List.length_cons] at *; omega) (by omega)
                  have hbx8 := (hg8.block w2.heap.size (by omega) (fun e => by have := HOW.out.row e.symm; omega)).trans ((HB7.out.block _ (by omega)).trans HBX.out)
                  obtain ⟨e0, e1, e2, _, _, _⟩ := tree_cells' hbx8
                  have HK8 := Lib.hid (And.intro e0 (And.intro e1 e2))
                  have HRUN8 := Lib.hid hrun
                  have HO8 := Lib.hid ho8
                  have HB8 := Lib.hid ((HB.out.trans ((HB3.out.trans (HB7.out.mono (by omega))).mono (by omega))).trans hb8)
                  have hz8 : w7.heap.size ≤ w8.heap.size := hg8.size
                  clear hrun ho8 hg8 hb8 hbx8 e0 e1 e2 hx7 hc7 hr7 hcells
                  refine step_append_run _ (by rfl) _ _ _ _ (by rfl) _ _ (by rfl) (by rfl) _ _ HRUN8.out ?_
                  simp only [Act.put, List.setIfInBounds_toArray, List.set_cons_zero, List.set_cons_succ, List.getElem_toArray, List.getElem_cons_zero, List.getElem_cons_succ]
                  refine hK.out _ _ HK8.out (fun _ => trivial) ?_
                  clear hK K
                  refine wpAnyL_pure (i := 9) rfl (by kernel_rfl) (fun _ _ _ h => h) (Or.inl ⟨by rfl, (fun u hu => by obtain ⟨k0, k1, k2⟩ := hu; go_simp; try rfl)⟩) HK8.out (fun _ => trivial) ?_
                  simp only [Act.put, List.setIfInBounds_toArray, List.set_cons_zero, List.set_cons_succ, List.getElem_toArray, List.getElem_cons_zero, List.getElem_cons_succ]
                  refine wpAnyL_done (by kernel_rfl) ?_ _
                  go_wp2_with fail
                  go_roundg (m - (j + 1))
                  case measure => rw [HGK.out]; omega
                  case rel =>
                    have ho := HO8.out
                    rw [HL7.out, List.cons_append, ← pathsTs_step HX.out] at ho
                    exact ⟨j + 1, by omega, rfl, by go_num, ho, by omega, HB8.out⟩
                exact AllL.nil
              exact AllL.nil
            exact AllL.nil
          exact AllL.nil
        refine AllL.cons rfl (fun K hK => ?_) ?_
        · go_simp
          refine hK.out _ _ (HALL.out _ ((Below.refl w3.heap.size w3).drew.alloc (Nat.le_refl _) _)) (fun _ => trivial) ?_
          clear hK K
          refine wpAnyL_ready (rs := [3]) (by kernel_rfl) (by simp) ?_
          refine AllL.cons rfl (fun K hK => ?_) ?_
          · go_simp
            refine (cloneInt _ _ _ _ _ _ (HP3.out.drew.alloc (.cells #[.int .i64 (j : Int)] 3)) (by omega)).mono ?_
            rintro e w4 ⟨v4, rfl, ho4, hb4⟩
            obtain ⟨A4, c4, rfl, _, _⟩ := ho4.form
            have HB4 := Lib.hid (((Below.refl w3.heap.size w3).drew.alloc (Nat.le_refl _) (.cells #[.int .i64 (j : Int)] 3)).trans (hb4.mono (by show w3.heap.size ≤ (w3.drew.alloc (.cells #[.int .i64 (j : Int)] 3)).heap.size; simp)))
            have HJ := Lib.hid ((Rd.new w3.drew (fun _ => True) 3 [.int .i64 (j : Int)] w3.heap.size rfl trivial).below hb4)
            have HO4 := Lib.hid (ho4.mono (show w3.heap.size ≤ (w3.drew.alloc (.cells #[.int .i64 (j : Int)] 3)).heap.size by simp))
            clear ho4 hb4
            refine hK.out _ _ (HALL.out _ HB4.out) (fun _ => trivial) ?_
            clear hK K
            refine wpAnyL_ready (rs := [6]) (by kernel_rfl) (by simp) ?_
            refine AllL.cons rfl (fun K hK => ?_) ?_
            · have hsz5 : w3.heap.size ≤ w4.heap.size := HB4.out.size
              obtain ⟨v6, w6, hrun, ho6, hg6, hb6⟩ := run_append_OwnL tInts rfl w4 22 w3.heap.size (fun _ => False) _ p ((HO4.out).ints (fun _ => False)) (fun _ => True) _ 1 1 [(j : Int)] [.int .i64 (j : Int)] HJ.out (Cells.single rfl) rfl (by rw [HPL.out]; unfold maxLen; omega) (by rw [HPL.out]; omega) hsz5
              obtain ⟨A6, c6, rfl, hc6⟩ := ho6.formK (a := np + 1) (by rw [List.length_append, HPL.out]; rfl)
              have HRUN := Lib.hid hrun
              have HO6 := Lib.hid ho6
              have HB6 := Lib.hid (HB4.out.trans hb6)
              have HC6 := Lib.hid hc6
              clear hrun ho6 hg6 hb6 hsz5
              refine step_append_run _ (by rfl) _ _ _ _ (by rfl) _ _ (by rfl) (by rfl) _ _ HRUN.out ?_
              simp only [Act.put, List.setIfInBounds_toArray, List.set_cons_zero, List.set_cons_succ, List.getElem_toArray, List.getElem_cons_zero, List.getElem_cons_succ]
              refine hK.out _ _ (HALL.out _ HB6.out) (fun _ => trivial) ?_
              clear hK K
              refine wpAnyL_ready (rs := [7]) (by kernel_rfl) (by simp) ?_
              refine AllL.cons rfl (fun K hK => ?_) ?_
              · go_simp
                have hz6 := HB6.out.size
                refine (IH.out x w6 _ (fun b => w3.heap.size ≤ b) A3 m3 c3 A6 (np + 1) c6 (p ++ [(j : Int)]) HSIZE.out.1 HSIZE.out.2.1 (HXS.out.below HB6.out) (HO6.out.sl.ints.more (fun b hb => by rcases hb with h | h; exact h.elim; exact h)) HC6.out HSIZE.out.2.2.1).mono ?_
                rintro e w7 ⟨⟨A7, c7, rfl, hs7⟩, hb7⟩
                obtain ⟨l7, hl7⟩ : ∃ l7, l7 = pathsT x (p ++ [(j : Int)]) := ⟨_, rfl⟩
                have hll7 : l7.length = sizeT x := by rw [hl7, paths_len _ x _ (Nat.le_refl _)]
                rw [← hl7] at hs7 ⊢
                have HB7 := Lib.hid (HB6.out.trans (hb7.mono (by omega)))
                have HS7 := Lib.hid (hs7.more (S' := fun b => w3.heap.size ≤ b) (fun b hb => by rcases hb with h | h; exact h.1; omega))
                have HL7 := Lib.hid hl7
                have HLL7 := Lib.hid hll7
                obtain ⟨n7, hn7⟩ : ∃ n7, n7 = l7.length := ⟨_, rfl⟩
                rw [← hn7] at HS7 ⊢
                have HN7 := Lib.hid hn7
                clear hs7 hb7 hl7 hll7 hn7
                refine hK.out _ _ (HALL.out _ HB7.out) (fun _ => trivial) ?_
                clear hK K
                refine wpAnyL_ready (rs := [8]) (by kernel_rfl) (by simp) ?_
                refine AllL.cons rfl (fun K hK => ?_) ?_
                · have hz7 := HB7.out.size
                  obtain ⟨xs7, hx7, hc7, hr7, hcells⟩ := HS7.out
                  obtain ⟨v8, w8, hrun, ho8, hg8, hb8⟩ := run_append_OwnL tIntssP rfl w7 66 (w.heap.size + 1) (fun b => Sp b ∧ b < w.heap.size) _ (p :: pathsTs (t.kids.take j) p 0) (HOW3.out.below HB7.out) _ _ n7 c7 l7 xs7 hr7 (hcells.more (fun b hb => ⟨Or.inr (by omega), fun e => by have h1 := HOW.out.row e; omega⟩)) HN7.out (by have := HLN.out; have := HSIZE.out.2.2.2; have := HN7.out; have := HLL7.out; simp only [List.length_cons] at *; unfold maxLen; omega) (by have := HSIZE.out.2.2.2; have := HN7.out; have := HLL7.out; simp only [List.length_cons] at *; omega) (by omega)
                  have hbx8 := (hg8.block w2.heap.size (by omega) (fun e => by have := HOW.out.row e.symm; omega)).trans ((HB7.out.block _ (by omega)).trans HBX.out)
                  obtain ⟨e0, e1, e2, _, _, _⟩ := tree_cells' hbx8
                  have HK8 := Lib.hid (And.intro e0 (And.intro e1 e2))
                  have HRUN8 := Lib.hid hrun
                  have HO8 := Lib.hid ho8
                  have HB8 := Lib.hid ((HB.out.trans ((HB3.out.trans (HB7.out.mono (by omega))).mono (by omega))).trans hb8)
                  have hz8 : w7.heap.size ≤ w8.heap.size := hg8.size
                  clear hrun ho8 hg8 hb8 hbx8 e0 e1 e2 hx7 hc7 hr7 hcells
                  refine step_append_run _ (by rfl) _ _ _ _ (by rfl) _ _ (by rfl) (by rfl) _ _ HRUN8.out ?_
                  simp only [Act.put, List.setIfInBounds_toArray, List.set_cons_zero, List.set_cons_succ, List.getElem_toArray, List.getElem_cons_zero, List.getElem_cons_succ]
                  refine hK.out _ _ HK8.out (fun _ => trivial) ?_
                  clear hK K
                  refine wpAnyL_pure (i := 9) rfl (by kernel_rfl) (fun _ _ _ h => h) (Or.inl ⟨by rfl, (fun u hu => by obtain ⟨k0, k1, k2⟩ := hu; go_simp; try rfl)⟩) HK8.out (fun _ => trivial) ?_
                  simp only [Act.put, List.setIfInBounds_toArray, List.set_cons_zero, List.set_cons_succ, List.getElem_toArray, List.getElem_cons_zero, List.getElem_cons_succ]
                  refine wpAnyL_done (by kernel_rfl) ?_ _
                  go_wp2_with fail
                  go_roundg (m - (j + 1))
                  case measure => rw [HGK.out]; omega
                  case rel =>
                    have ho := HO8.out
                    rw [HL7.out, List.cons_append, ← pathsTs_step HX.out] at ho
                    exact ⟨j + 1, by omega, rfl, by go_num, ho, by omega, HB8.out⟩
                exact AllL.nil
              exact AllL.nil
            exact AllL.nil
          exact AllL.nil
        exact AllL.nil
      · obtain rfl : m = j := by omega
        have hkt : t.kids.take m = t.kids := List.take_of_length_le (by have := HM.out; omega)
        have hsl := HOW.out
        rw [hkt, ← pathsT_eq] at hsl
        have hln := HLN.out
        rw [hkt, ← pathsT_eq] at hln
        have HSL := Lib.hid hsl
        have HLL := Lib.hid hln
        clear hkt hsl hln
        --@3
        go_wp2_with fail
        go_ret
        refine ⟨⟨AK, cK, by rw [← HLL.out]; rfl, ?_⟩, HB1.out.trans (HB.out.mono (by omega))⟩
        rw [← HLL.out]
        exact HSL.out.sl.more (fun b hb => by rcases hb with h | h; exact Or.inl h; right; omega)
end Go.Proofs.Ytfmmpmphlognlaa
