/- MkBack -/
import Derived.Laws.EntriesVeiled
import Derived.Test.YtbmcoamdfpegnaaMt39
import Derived.Test.YtbmcoamdfpegnaaMt40
namespace Go.Proofs.Ytbmcoamdfpegnaa
open Go.RowKit
theorem tree_set2M {w : World} {B : Nat} {a b c : Value} {T : TypeId} (h : w.heap[B]? = some (.cells #[a, b, c] T (0, 0))) (v : Value) : (w.setCell ⟨B, 2, none⟩ v).heap[B]? = some (.cells #[a, b, v] T (0, 0)) := by
 have := blk_set h 2 v
 simpa using this
theorem entersBack : ∀ (args : Array Value) (u : World), (callFunc 47 args).run Try.prog u = .ok (.enter 47 args) u := enters_of Try.func47 (by kernel_rfl) rfl
def BackR (X : TreeD) (base : Nat) (e : Ending) (w' : World) : Prop := ∃ (A : Option Addr) (m c : Nat), e = .returned (.agg #[.int .i64 X.rule, .int .i64 X.term, .slice A m c]) ∧ Sl RTree w' (fun b => base ≤ b) A m c X.kids
def BackBx (w : World) (Bp Bf : Nat) (AF : Option Addr) (nF cF : Nat) : Prop :=
 w.cell? ⟨Bp, 5, none⟩ = some (.slice AF nF cF) ∧ w.cell? ⟨Bf, 0, none⟩ = some (.func (.func 47) #[] #[.pointer (some ⟨Bp, 0, none⟩), .pointer (some ⟨Bf, 0, none⟩)])
theorem BackBx.below {w w' : World} {Bp Bf : Nat} {AF : Option Addr} {nF cF : Nat} (h : BackBx w Bp Bf AF nF cF) (hb : Below w.heap.size w w') : BackBx w' Bp Bf AF nF cF :=
 ⟨(hb.cell (cell_lt h.1)).trans h.1, (hb.cell (cell_lt h.2)).trans h.2⟩
def BackAt (F : List Int) (P : List RuleD) (sz : Nat) : Prop :=
 ∀ (t : TreeD) (s : SymD) (w : World) (S S' : Nat → Prop) (Bp Bf : Nat) (AF : Option Addr) (nF cF : Nat) (A : Option Addr) (m c : Nat), sizeT t ≤ sz → TV P s t → BackBx w Bp Bf AF nF cF → Sl Rep.int w S AF nF cF F → P.length ≤ F.length → Sl RTree w S' A m c t.kids →
  Calls Try.prog 47 #[.agg #[.int .i64 t.rule, .int .i64 t.term, .slice A m c], .pointer (some ⟨Bp, 0, none⟩), .pointer (some ⟨Bf, 0, none⟩)] w fun e w' => BackR (backT F t) w.heap.size e w' ∧ Below w.heap.size w w'
set_option linter.unusedSimpArgs false in
set_option maxRecDepth 100000 in
set_option maxHeartbeats 8000000 in
theorem mkBackS (F : List Int) (P : List RuleD) (hr4 : ∀ r ∈ P, r.2.length ≤ 4) (sz : Nat) (IH : BackAt F P sz) : BackAt F P (sz + 1) := by
 intro t s w S S' Bp Bf AF nF cF A m c hsz ht hbx hF hlF hs
 obtain ⟨w1, hw1⟩ : ∃ w1 : World, w1 = (w.alloc (.cells #[.int .i64 t.rule, .int .i64 t.term, .slice A m c] 55)).alloc (.cells #[.int .i64 0, .int .i64 0, .slice none 0 0] 55) := ⟨_, rfl⟩
 have hz1 : w1.heap.size = w.heap.size + 2 := by rw [hw1]; simp
 have hb1 : Below w.heap.size w w1 := by rw [hw1]; exact ((Below.refl _ _).alloc (Nat.le_refl _) _).alloc (by simp) _
 have b1 : w1.heap[w.heap.size]? = some (.cells #[.int .i64 t.rule, .int .i64 t.term, .slice A m c] 55 (0, 0)) := by rw [hw1]; exact (Below.heap_alloc _ _ _ (by simp)).trans (heap_alloc_new w _)
 have b2 : w1.heap[w.heap.size + 1]? = some (.cells #[.int .i64 0, .int .i64 0, .slice none 0 0] 55 (0, 0)) := by rw [hw1]; exact heap_new _ _ _ (by simp)
 have HB1 := Lib.hid hb1
 have HRES := Lib.hid b2
 have HTB := Lib.hid b1
 have HBX := Lib.hid (hbx.below hb1)
 have HF1 := Lib.hid (hF.fit.below hb1)
 have HTS := Lib.hid (hs.fit.below hb1)
 have HBLT := Lib.hid (show Bp < w.heap.size ∧ Bf < w.heap.size from ⟨cell_lt hbx.1, cell_lt hbx.2⟩)
 have hset : ∀ (u : World) (q : Nat) (v : Value), Below w.heap.size u (u.setCell ⟨w.heap.size + 1, q, none⟩ v) := fun u q v => (Below.refl _ _).setCell (by show w.heap.size ≤ w.heap.size + 1; omega) _
 have HSET := Lib.hid hset
 clear hbx hF b1 b2 hset
 rcases ht.inv with ⟨y, rfl, rfl⟩ | ⟨k, r, ts, rfl, rfl, h1, h2⟩
 ·
  rw [backT_leaf]
  have hm := hs.len
  simp only [TreeD.rule, TreeD.term, TreeD.kids, List.length_nil] at hm ⊢
  subst hm
  clear hs ht hb1 hsz IH hlF
  go_enter Try.func47, Try.ntmps47
  go_wp2_with (go_at_call 41; simp only [TreeD.rule, TreeD.term] at hw1; rw [← hw1]; refine (gramLeafM y w1).mono ?_; rintro e w2 ⟨rfl, hb2⟩; have HB2 := Lib.hid hb2; obtain ⟨d0, d1, d2, f0, f1, f2⟩ := tree_cells' ((hb2.block _ (heap_lt HRES.out)).trans HRES.out); have ld := cell_lt d0; clear hb2)
  refine bodyPost_ret (v := .agg #[.int .i64 (-1), .int .i64 y, .slice none 0 0]) (by simp [results, Try.results47, go_sem, d0, d1, d2, ld]) rfl ?_
  refine ⟨⟨none, 0, 0, rfl, Sl.nil _ _ _ _⟩, HB1.out.trans ((HB2.out.mono (by omega)).trans (((HSET.out _ 0 _).trans (HSET.out _ 1 _)).trans (HSET.out _ 2 _)))⟩
 ·
  rw [backT_node]
  have hkF : k < nF := by
   have := (List.getElem?_eq_some_iff.1 h1).1
   have := HF1.out.len
   omega
  have hm := hs.len
  have hlen := h2.len
  have h4 := hr4 r (List.mem_of_getElem? h1)
  simp only [TreeD.rule, TreeD.term, TreeD.kids] at hm hs HTS HTB hw1 ⊢
  have hm4 : m ≤ 4 := by omega
  obtain ⟨bF, oF, f, rfl, _, hf, hcf⟩ := HF1.out.ints.int_at hkF
  have hgf : F.getD k 0 = f := by rw [List.getD_eq_getElem?_getD, hf]; rfl
  rw [hgf]
  have HLEN := Lib.hid hm
  obtain ⟨X, hX⟩ : ∃ X, X = ts.map (backT F) := ⟨_, rfl⟩
  have hXl : X.length = m := by rw [hX, List.length_map, HLEN.out]
  have HX := Lib.hid hX
  have HXL := Lib.hid hXl
  rw [← hX]
  clear hX hXl
  have HV := Lib.hid h2
  have HIH := Lib.hid IH
  have HSZ := Lib.hid (show ∀ x ∈ ts, sizeT x ≤ sz from fun x hx => by have := sizeT_kid (t := .node (k : Int) 0 ts) (x := x) hx; omega)
  have HLF := Lib.hid hlF
  obtain ⟨w2, hw2⟩ : ∃ w2 : World, w2 = w1.alloc (.cells #[.int .i64 f, .int .i64 0, .slice none 0 0] 55) := ⟨_, rfl⟩
  have hb12 : Below w1.heap.size w1 w2 := by rw [hw2]; exact (Below.refl _ _).alloc (Nat.le_refl _) _
  have hz2 : w2.heap.size = w.heap.size + 3 := by rw [hw2]; simp [hz1]
  have HOUT := Lib.hid (show w2.heap[w.heap.size + 2]? = some (.cells #[.int .i64 f, .int .i64 0, .slice none 0 0] 55 (0, 0)) by rw [hw2, ← hz1]; exact heap_alloc_new _ _)
  have HRES2 := Lib.hid ((hb12.block _ (heap_lt HRES.out)).trans HRES.out)
  have HBX2 := Lib.hid (HBX.out.below hb12)
  have HF2 := Lib.hid (HF1.out.below hb12)
  have HTS2 := Lib.hid (HTS.out.below hb12)
  have HB2 := Lib.hid (HB1.out.trans (hb12.mono (by omega)))
  have hcp := HBX.out.1
  have hcf1 := hcf
  obtain ⟨q0, q1, q2, _, _, _⟩ := tree_cells' HTB.out
  have hkI : (k : Int) < (nF : Int) := by omega
  have hk0 : (0 : Int) ≤ (k : Int) := by omega
  have hkn : ¬ ((k : Int) < 0) := by omega
  have hlF1 := cell_lt hcf
  have hlP1 := cell_lt hcp
  have HW2 := Lib.hid hw2
  rw [hw1] at hcp hcf1 q0 q1 q2 HW2
  have q2' : w2.cell? ⟨w.heap.size, 2, none⟩ = some (.slice A m c) := (hb12.cell (by show w.heap.size < _; omega)).trans (by rw [hw1]; exact q2)
  clear ht hs h1 h2 h4 hlen hm IH hlF hf hgf hcf hb12 hw2 hsz
  go_enter Try.func47, Try.ntmps47
  rw [HW2.out] at q2'
  go_wp2_with fail
  rw [← HW2.out]
  clear hcp hcf1 q0 q1 q2 q2' hw1
  have hm0 : m ≤ 4 := hm4
  go_loopg [24] m (fun gk v24 wr => ∃ (j : Nat) (vK : Value), j ≤ m ∧ gk = m - j ∧ v24 = .int .i64 j ∧ wr.heap[w.heap.size + 2]? = some (.cells #[.int .i64 f, .int .i64 0, vK] 55 (0, 0)) ∧ OwnL RTree wr (fun _ => False) (w.heap.size + 3) 55 vK (X.take j) ∧ w2.heap.size ≤ wr.heap.size ∧ Below (w.heap.size + 2) w2 wr)
  case atStart => exact ⟨0, .slice none 0 0, Nat.zero_le _, rfl, rfl, HOUT.out, OwnL.nil _ _ _ _ _, Nat.le_refl _, Below.refl _ _⟩
  case round =>
   obtain ⟨j, vK, hj, hgk, rfl, hbo, hown, hzr, hb⟩ := hrel
   have HGK := Lib.hid hgk
   have HBO := Lib.hid hbo
   have HOW := Lib.hid hown
   have HB := Lib.hid hb
   have htl : (X.take j).length = j := by rw [List.length_take]; have := HXL.out; omega
   have HTL := Lib.hid htl
   obtain ⟨AK, cK, rfl, hcK⟩ := hown.formK htl
   obtain ⟨wr3, rfl⟩ : ∃ wr3 : World, wr3 = wr := ⟨_, rfl⟩
   clear hgk hbo hown hb htl
   by_cases hlt : j < m
   ·
    obtain ⟨b, off, A3, m3, c3, x, rfl, hSb, hbl, hx0, hx1, hx2, hx, hxs⟩ := tree_at (HTS2.out.keep (.belowB HB.out (fun b hb => by have := hb.2; omega))) hlt
    obtain ⟨s, hsj, hxv⟩ := HV.out.get hx
    have hsize := HSZ.out x (List.mem_of_getElem? hx)
    have hjI : (j : Int) < (m : Int) := by omega
    have hj0 : (0 : Int) ≤ (j : Int) := by omega
    obtain ⟨w3, hw3⟩ : ∃ w3 : World, w3 = wr3.alloc (.cells #[.int .i64 x.rule, .int .i64 x.term, .slice A3 m3 c3] 55) := ⟨_, rfl⟩
    have hz3 : w3.heap.size = wr3.heap.size + 1 := by rw [hw3]; simp
    have hb3 : Below wr3.heap.size wr3 w3 := by rw [hw3]; exact (Below.refl _ _).alloc (Nat.le_refl _) _
    have hbx : w3.heap[wr3.heap.size]? = some (.cells #[.int .i64 x.rule, .int .i64 x.term, .slice A3 m3 c3] 55 (0, 0)) := by rw [hw3]; exact heap_alloc_new wr3 _
    have hbb3 : Below (w.heap.size + 2) w2 w3 := HB.out.trans (hb3.mono (by omega))
    have hbf3 : BackBx w3 Bp Bf (some ⟨bF, oF, none⟩) nF cF := by
     have h1 := HBLT.out
     exact ⟨(hbb3.cell (p := ⟨Bp, 5, none⟩) (by show Bp < _; omega)).trans HBX2.out.1, (hbb3.cell (p := ⟨Bf, 0, none⟩) (by show Bf < _; omega)).trans HBX2.out.2⟩
    have hall : ∀ u : World, Below w3.heap.size w3 u → (u.cell? ⟨w.heap.size + 2, 2, none⟩ = some (.slice AK j cK)) ∧ u.cell? ⟨Bf, 0, none⟩ = some (.func (.func 47) #[] #[.pointer (some ⟨Bp, 0, none⟩), .pointer (some ⟨Bf, 0, none⟩)]) ∧ u.cell? ⟨wr3.heap.size, 0, none⟩ = some (.int .i64 x.rule) ∧ u.cell? ⟨wr3.heap.size, 1, none⟩ = some (.int .i64 x.term) ∧ u.cell? ⟨wr3.heap.size, 2, none⟩ = some (.slice A3 m3 c3) := fun u hu => by
     have e1 := ((hb3.trans (hu.mono (by omega))).block _ (by omega)).trans HBO.out
     have e2 := (hu.block _ (by omega)).trans hbx
     obtain ⟨d0, d1, d2, _, _, _⟩ := tree_cells' e2
     exact ⟨(tree_cells' e1).2.2.1, (hbf3.below hu).2, d0, d1, d2⟩
    have HALL := Lib.hid hall
    have HK0 := Lib.hid (hall w3.drew (Below.refl _ _).drew)
    have HBF3 := Lib.hid hbf3
    have HF3 := Lib.hid (HF2.out.keep (.belowB hbb3 (fun b hb => by have := hb.2; omega)))
    have HX3 := Lib.hid (show X[j]? = some (backT F x) by rw [HX.out, List.getElem?_map, hx]; rfl)
    have HXS := Lib.hid (hxs.below hb3)
    have HXV := Lib.hid hxv
    have HSIZE := Lib.hid hsize
    have HB3 := Lib.hid hb3
    have HBK := Lib.hid hbx
    obtain ⟨Y, hY⟩ : ∃ Y, Y = backT F x := ⟨_, rfl⟩
    rw [← hY] at HX3
    have HY := Lib.hid hY
    have he := entersBack
    clear hall hb3 hbx hx hxs hsize hbb3 hbf3 hY hxv hsj
    go_wp2_with fail
    rw [← hw3]
    clear hw3 hx0 hx1 hx2
    refine wp_region_late (late := [8]) (S1 := fun _ => True) (S := fun u => (u.cell? ⟨w.heap.size + 2, 2, none⟩ = some (.slice AK j cK)) ∧ u.cell? ⟨Bf, 0, none⟩ = some (.func (.func 47) #[] #[.pointer (some ⟨Bp, 0, none⟩), .pointer (some ⟨Bf, 0, none⟩)]) ∧ u.cell? ⟨wr3.heap.size, 0, none⟩ = some (.int .i64 x.rule) ∧ u.cell? ⟨wr3.heap.size, 1, none⟩ = some (.int .i64 x.term) ∧ u.cell? ⟨wr3.heap.size, 2, none⟩ = some (.slice A3 m3 c3)) (by kernel_rfl) ?_
    refine wpAnyL_pure (i := 0) rfl (by kernel_rfl) (fun _ _ _ h => h) (Or.inl ⟨by rfl, (fun u hu => by obtain ⟨_, k0, k1, k2, k3, k4⟩ := hu; go_simp; try rfl)⟩) trivial (fun _ => HK0.out) ?_
    simp only [Act.put, List.setIfInBounds_toArray, List.set_cons_zero, List.set_cons_succ, List.getElem_toArray, List.getElem_cons_zero, List.getElem_cons_succ]
    refine wpAnyL_take (i := 1) rfl (by kernel_rfl) (fun _ _ _ h => h) (Or.inl ⟨by rfl, (fun u hu => by obtain ⟨_, k0, k1, k2, k3, k4⟩ := hu; go_simp; try rfl)⟩) trivial (fun _ => HK0.out) ?_
    simp only [Act.put, List.setIfInBounds_toArray, List.set_cons_zero, List.set_cons_succ, List.getElem_toArray, List.getElem_cons_zero, List.getElem_cons_succ]
    refine wpAnyL_take (i := 2) rfl (by kernel_rfl) (fun _ _ _ h => h) (Or.inl ⟨by rfl, (fun u hu => by obtain ⟨_, k0, k1, k2, k3, k4⟩ := hu; go_simp; try rfl)⟩) trivial (fun _ => HK0.out) ?_
    simp only [Act.put, List.setIfInBounds_toArray, List.set_cons_zero, List.set_cons_succ, List.getElem_toArray, List.getElem_cons_zero, List.getElem_cons_succ]
    refine wpAnyL_take (i := 3) rfl (by kernel_rfl) (fun _ _ _ h => h) (Or.inl ⟨by rfl, (fun u hu => by obtain ⟨_, k0, k1, k2, k3, k4⟩ := hu; go_simp; try rfl)⟩) trivial (fun _ => HK0.out) ?_
    simp only [Act.put, List.setIfInBounds_toArray, List.set_cons_zero, List.set_cons_succ, List.getElem_toArray, List.getElem_cons_zero, List.getElem_cons_succ]
    refine wpAnyL_ready (rs := [4]) (by kernel_rfl) (by simp) ?_
    refine AllL.cons rfl (fun K hK => ?_) ?_
    ·
     go_simp
     refine (HIH.out x s w3.drew _ _ Bp Bf _ nF cF A3 m3 c3 HSIZE.out HXV.out (HBF3.out.below (Below.refl _ _).drew) HF3.out.drew HLF.out HXS.out.drew).mono ?_
     rintro e w4 ⟨⟨A4, m4, c4, rfl, hz⟩, hb4⟩
     rw [← HY.out] at hz ⊢
     have HZ := Lib.hid (show Sl RTree w4 (fun b => w3.heap.size ≤ b) A4 m4 c4 Y.kids from hz)
     have HB4 := Lib.hid ((Below.refl w3.heap.size w3).drew.trans hb4)
     clear hz hb4
     refine hK.out _ _ trivial (fun _ => (HALL.out _ HB4.out)) ?_
     clear hK K
     refine wpAnyL_ready (rs := [5]) (by kernel_rfl) (by simp) ?_
     refine AllL.cons rfl (fun K hK => ?_) ?_
     ·
      go_simp
      refine hK.out _ _ trivial (fun _ => (HALL.out _ (HB4.out.alloc HB4.out.size _))) ?_
      clear hK K
      refine wpAnyL_ready (rs := [6]) (by kernel_rfl) (by simp) ?_
      refine AllL.cons rfl (fun K hK => ?_) ?_
      ·
       have hz4 := HB4.out.size
       obtain ⟨v8, w8, hrun, ho8, hg8, hb8⟩ := run_append_lit (R := RTree) tTreesB rfl w4 53 (w.heap.size + 3) (fun _ => False) _ _ (HOW.out.below (HB3.out.trans (HB4.out.mono (by omega)))) 1 [Y] [.int .i64 Y.rule, .int .i64 Y.term, .slice A4 m4 c4] (Cells.single (RTree.cells.2 ⟨A4, m4, c4, rfl, HZ.out.more fun b hb => ⟨Or.inr (by omega), fun e => by have h1 := HOW.out.row e; omega⟩⟩)) rfl (by rw [HTL.out]; unfold maxLen; omega) (by rw [HTL.out]; omega) (by omega)
       obtain ⟨A8, c8, rfl, _⟩ := ho8.formK (a := j + 1) (by rw [List.length_append, HTL.out]; rfl)
       have HRUN := Lib.hid hrun
       have HO8 := Lib.hid ho8
       have hbo8 := (hb8.block _ (show w.heap.size + 2 < w.heap.size + 3 by omega)).trans ((HB4.out.block _ (by omega)).trans ((HB3.out.block _ (by omega)).trans HBO.out))
       have hbx8 := (hg8.block wr3.heap.size (by simp; omega) (fun e => by have := HOW.out.row e.symm; omega)).trans ((Below.heap_alloc _ _ _ (by omega)).trans ((HB4.out.block _ (by omega)).trans HBK.out))
       have hfn8 : w8.cell? ⟨Bf, 0, none⟩ = some (.func (.func 47) #[] #[.pointer (some ⟨Bp, 0, none⟩), .pointer (some ⟨Bf, 0, none⟩)]) := (hb8.cell (p := ⟨Bf, 0, none⟩) (by have := HBLT.out; show Bf < _; omega)).trans (HALL.out _ HB4.out).2.1
       obtain ⟨e0, e1, e2, _, _, _⟩ := tree_cells' hbx8
       have HK8 := Lib.hid (And.intro (tree_cells' hbo8).2.2.1 (And.intro hfn8 (And.intro e0 (And.intro e1 e2))))
       have hc8 := (tree_cells' hbo8).2.2.1
       have hf8 := (tree_cells' hbo8).2.2.2.2.2
       have HBO8 := Lib.hid hbo8
       have HB18 := Lib.hid ((HB.out.trans ((HB3.out.trans (HB4.out.mono (by omega))).mono (by omega))).trans (hb8.mono (by omega)))
       have hz8 : w4.heap.size ≤ w8.heap.size := by have := hg8.size; simp at this; omega
       clear hrun ho8 hg8 hb8 hbo8 hbx8 hfn8 e0 e1 e2
       refine step_append_run _ (by rfl) _ _ _ _ (by rfl) _ _ (by rfl) (by rfl) _ _ HRUN.out ?_
       simp only [Act.put, List.setIfInBounds_toArray, List.set_cons_zero, List.set_cons_succ, List.getElem_toArray, List.getElem_cons_zero, List.getElem_cons_succ]
       refine hK.out _ _ trivial (fun _ => HK8.out) ?_
       clear hK K
       refine wpAnyL_pure (i := 7) rfl (by kernel_rfl) (fun _ _ _ h => h) (Or.inl ⟨by rfl, (fun u hu => by obtain ⟨_, k0, k1, k2, k3, k4⟩ := hu; go_simp; try rfl)⟩) trivial (fun _ => HK8.out) ?_
       simp only [Act.put, List.setIfInBounds_toArray, List.set_cons_zero, List.set_cons_succ, List.getElem_toArray, List.getElem_cons_zero, List.getElem_cons_succ]
       refine wpAnyL_ready (rs := [8]) (by kernel_rfl) (by simp) ?_
       refine AllL.cons rfl (fun K hK => ?_) ?_
       ·
        have l8 := cell_lt hc8
        go_simp
        clear hc8 hf8
        refine hK.out _ _ trivial (fun h => absurd (h 8 (by simp)) (by decide)) ?_
        clear hK K
        refine wpAnyL_done (by kernel_rfl) ?_ _
        have hbs : Below (w.heap.size + 2) w8 (w8.setCell ⟨w.heap.size + 2, 2, none⟩ (.slice A8 (j + 1) c8)) := (Below.refl _ _).setCell (by show w.heap.size + 2 ≤ w.heap.size + 2; omega) _
        have HBS := Lib.hid (HB18.out.trans hbs)
        have HBOS := Lib.hid (tree_set2M HBO8.out (.slice A8 (j + 1) c8))
        have HOS := Lib.hid (HO8.out.keepG (set_grown (Bd := w.heap.size + 2) w8 2 (.slice A8 (j + 1) c8)) (fun g e => by injection e with e; omega))
        have hzs : (w8.setCell ⟨w.heap.size + 2, 2, none⟩ (.slice A8 (j + 1) c8)).heap.size = w8.heap.size := by simp [World.setCell]
        clear hbs
        go_wp2_with fail
        go_roundg (m - (j + 1))
        case measure => rw [HGK.out]; omega
        case rel => exact ⟨j + 1, _, by omega, rfl, by go_num, HBOS.out, by rw [List.take_succ_eq_append_getElem (List.getElem?_eq_some_iff.1 HX3.out).1, (List.getElem?_eq_some_iff.1 HX3.out).2]; exact HOS.out, by simp [World.setCell]; omega, HBS.out⟩
       exact AllL.nil
      exact AllL.nil
     exact AllL.nil
    exact AllL.nil
   ·
    obtain rfl : m = j := by omega
    obtain ⟨d0, d1, d2, f0, f1, f2⟩ := tree_cells' ((HB.out.block _ (by omega)).trans HRES2.out)
    obtain ⟨q0, q1, q2, g0, g1, g2⟩ := tree_cells' HBO.out
    have ld : w.heap.size + 1 < wr3.heap.size := by omega
    have ld2 := cell_lt q0
    go_wp2_with fail
    refine bodyPost_ret (v := .agg #[.int .i64 f, .int .i64 0, .slice AK m cK]) (by simp [results, Try.results47, go_sem, d0, d1, d2, ld]) rfl ?_
    have hbb := ((HSET.out wr3 0 (.int .i64 f)).trans (HSET.out _ 1 (.int .i64 0))).trans (HSET.out _ 2 (.slice AK m cK))
    have hkt : X.take m = X := List.take_of_length_le (by have := HXL.out; omega)
    have hsl := HOW.out.sl
    rw [hkt] at hsl
    refine ⟨⟨AK, m, cK, rfl, ?_⟩, HB2.out.trans ((HB.out.mono (by omega)).trans hbb)⟩
    exact ((hsl.more (S' := fun b => w.heap.size + 3 ≤ b) (fun b hb => by rcases hb with h | h; exact h.elim; omega)).keep (((Kept.setCell _ _ _ _ (by simp)).trans (.setCell _ _ _ _ (by simp))).trans (.setCell _ _ _ _ (by simp)))).more (fun b hb => by omega)
theorem mkBack1 (F : List Int) (P : List RuleD) (hr4 : ∀ r ∈ P, r.2.length ≤ 4) : ∀ sz, BackAt F P sz
 | 0 => fun t _ _ _ _ _ _ _ _ _ _ _ _ hsz _ _ _ _ _ => by rw [sizeT_eq] at hsz; omega
 | sz + 1 => mkBackS F P hr4 sz (mkBack1 F P hr4 sz)
def BackTR (X : TreeD) (base : Nat) (e : Ending) (w' : World) : Prop := ∃ (A : Option Addr) (m c : Nat), e = .returned (.tuple #[.agg #[.int .i64 X.rule, .int .i64 X.term, .slice A m c], .int .i64 0]) ∧ Sl RTree w' (fun b => base ≤ b) A m c X.kids
set_option linter.unusedSimpArgs false in
set_option maxRecDepth 100000 in
set_option maxHeartbeats 8000000 in
theorem mkBack (w : World) (T N : Nat) (P : List RuleD) (F : List Int) (hli : LstIn T N P) (hN : 1 ≤ N) (hlF : F.length = P.length) (S S' S2 : Nat → Prop) (AP : Option Addr) (nP cP : Nat) (AN AF : Option Addr) (nN cN nF cF : Nat) (A : Option Addr) (m c : Nat) (X x : TreeD) (hX : X.kids = [x]) (ht : TV P (false, 0) X) (hg : Sl RRule w S AP nP cP P) (hF : Sl Rep.int w S2 AF nF cF F) (hs : Sl RTree w S' A m c X.kids) :
    Calls Try.prog 18 #[.agg #[.int .i64 (T : Int), .int .i64 (N : Int), .int .i64 0, .slice AP nP cP, .slice AN nN cN, .slice AF nF cF], .agg #[.int .i64 X.rule, .int .i64 X.term, .slice A m c]] w fun e w' => BackTR (backT F x) w.heap.size e w' ∧ Below w.heap.size w w' := by
 obtain ⟨w1, hw1⟩ : ∃ w1 : World, w1 = ((w.alloc (.cells #[.int .i64 (T : Int), .int .i64 (N : Int), .int .i64 0, .slice AP nP cP, .slice AN nN cN, .slice AF nF cF] 34)).alloc (.cells #[.int .i64 X.rule, .int .i64 X.term, .slice A m c] 55)).alloc (.cells #[.int .i64 0, .int .i64 0, .slice none 0 0] 55) := ⟨_, rfl⟩
 have hz1 : w1.heap.size = w.heap.size + 3 := by rw [hw1]; simp
 have hb1 : Below w.heap.size w w1 := by rw [hw1]; exact (((Below.refl _ _).alloc (Nat.le_refl _) _).alloc (by simp) _).alloc (by simp; omega) _
 have b1 : w1.heap[w.heap.size]? = some (.cells #[.int .i64 (T : Int), .int .i64 (N : Int), .int .i64 0, .slice AP nP cP, .slice AN nN cN, .slice AF nF cF] 34 (0, 0)) := by rw [hw1]; exact (Below.heap_alloc _ _ _ (by simp; omega)).trans ((Below.heap_alloc _ _ _ (by simp)).trans (heap_alloc_new w _))
 have b2 : w1.heap[w.heap.size + 1]? = some (.cells #[.int .i64 X.rule, .int .i64 X.term, .slice A m c] 55 (0, 0)) := by rw [hw1]; exact (Below.heap_alloc _ _ _ (by simp)).trans (heap_new _ _ _ (by simp))
 have b3 : w1.heap[w.heap.size + 2]? = some (.cells #[.int .i64 0, .int .i64 0, .slice none 0 0] 55 (0, 0)) := by rw [hw1]; exact heap_new _ _ _ (by simp)
 obtain ⟨Xr, hXr⟩ : ∃ Xr, Xr = X.rule := ⟨_, rfl⟩
 obtain ⟨Xt, hXt⟩ : ∃ Xt, Xt = X.term := ⟨_, rfl⟩
 have hm1 : m = 1 := by rw [hs.len, hX]; rfl
 subst hm1
 have hnP : nP = P.length := hg.len
 have hnF : nF = nP := by rw [hF.len, hlF, hnP]
 subst hnF
 rw [← hXr, ← hXt] at b2 hw1 ⊢
 have HALL := Lib.hid (show ∀ u : World, Below w1.heap.size w1 u → (u.cell? ⟨w.heap.size, 0, none⟩ = some (.int .i64 (T : Int)) ∧ u.cell? ⟨w.heap.size, 1, none⟩ = some (.int .i64 (N : Int)) ∧ u.cell? ⟨w.heap.size, 2, none⟩ = some (.int .i64 0) ∧ u.cell? ⟨w.heap.size, 3, none⟩ = some (.slice AP nF cP) ∧ u.cell? ⟨w.heap.size, 4, none⟩ = some (.slice AN nN cN) ∧ u.cell? ⟨w.heap.size, 5, none⟩ = some (.slice AF nF cF)) ∧
     u.cell? ⟨w.heap.size + 1, 0, none⟩ = some (.int .i64 Xr) ∧ u.cell? ⟨w.heap.size + 1, 1, none⟩ = some (.int .i64 Xt) ∧ u.cell? ⟨w.heap.size + 1, 2, none⟩ = some (.slice A 1 c) from fun u hu => by
  have e1 := (hu.block _ (by omega)).trans b1
  have e2 := (hu.block _ (by omega)).trans b2
  simp [World.cell?, e1, e2])
 have HB1 := Lib.hid hb1
 have HW1 := Lib.hid hw1
 have HZ1 := Lib.hid hz1
 have HRES := Lib.hid b3
 have HK0 := Lib.hid (HALL.out w1.drew (Below.refl _ _).drew)
 have HG1 := Lib.hid (hg.below hb1)
 have HF1 := Lib.hid (hF.fit.below hb1)
 have HTS := Lib.hid (hs.below hb1)
 have HT := Lib.hid ht
 have HX := Lib.hid hX
 have HLI := Lib.hid hli
 have HLF := Lib.hid hlF
 have HVAL := Lib.hid (show ∀ (u : World), Below w1.heap.size w1 u → Calls Try.prog 46 #[.agg #[.int .i64 (T : Int), .int .i64 (N : Int), .int .i64 0, .slice AP nF cP, .slice AN nN cN, .slice AF nF cF], .agg #[.int .i64 Xr, .int .i64 Xt, .slice A 1 c], .agg #[.bool false, .int .i64 0]] u fun e w' => e = .returned (.bool true) ∧ Below u.heap.size u w' from fun u hu => by
  have h := mkValid T N P hli (sizeT X) X (false, 0) u S S' AP nF cP AN AF nN cN nF cF A 1 c (Nat.le_refl _) ht (by unfold SymOk; simp only [Bool.false_eq_true, if_false]; omega) (hg.below (hb1.trans (hu.mono (by omega)))) (hs.below (hb1.trans (hu.mono (by omega))))
  rw [← hXr, ← hXt] at h
  exact h)
 clear b1 b2 b3 hw1 hz1 hb1 hg hF hs ht hX hli hlF hXr hXt hnP
 go_enter Try.func18, Try.ntmps18
 go_wp2_with fail
 rw [← HW1.out]
 refine wp_region_late (late := []) (S1 := fun u => (u.cell? ⟨w.heap.size, 0, none⟩ = some (.int .i64 (T : Int)) ∧ u.cell? ⟨w.heap.size, 1, none⟩ = some (.int .i64 (N : Int)) ∧ u.cell? ⟨w.heap.size, 2, none⟩ = some (.int .i64 0) ∧ u.cell? ⟨w.heap.size, 3, none⟩ = some (.slice AP nF cP) ∧ u.cell? ⟨w.heap.size, 4, none⟩ = some (.slice AN nN cN) ∧ u.cell? ⟨w.heap.size, 5, none⟩ = some (.slice AF nF cF)) ∧
     u.cell? ⟨w.heap.size + 1, 0, none⟩ = some (.int .i64 Xr) ∧ u.cell? ⟨w.heap.size + 1, 1, none⟩ = some (.int .i64 Xt) ∧ u.cell? ⟨w.heap.size + 1, 2, none⟩ = some (.slice A 1 c)) (S := fun _ => True) (by kernel_rfl) ?_
 refine wpAnyL_pure (i := 0) rfl (by kernel_rfl) (fun _ _ _ h => h) (Or.inl ⟨by rfl, (fun u hu => by obtain ⟨⟨k0, k1, k2, k3, k4, k5⟩, k6, k7, k8⟩ := hu; go_simp; try first | rfl | (simp; done))⟩) HK0.out (fun _ => trivial) ?_
 simp only [Act.put, List.setIfInBounds_toArray, List.set_cons_zero, List.set_cons_succ, List.getElem_toArray, List.getElem_cons_zero, List.getElem_cons_succ]
 refine wpAnyL_pure (i := 1) rfl (by kernel_rfl) (fun _ _ _ h => h) (Or.inl ⟨by rfl, (fun u hu => by obtain ⟨⟨k0, k1, k2, k3, k4, k5⟩, k6, k7, k8⟩ := hu; go_simp; try first | rfl | (simp; done))⟩) HK0.out (fun _ => trivial) ?_
 simp only [Act.put, List.setIfInBounds_toArray, List.set_cons_zero, List.set_cons_succ, List.getElem_toArray, List.getElem_cons_zero, List.getElem_cons_succ]
 refine wpAnyL_pure (i := 2) rfl (by kernel_rfl) (fun _ _ _ h => h) (Or.inl ⟨by rfl, (fun u hu => by obtain ⟨⟨k0, k1, k2, k3, k4, k5⟩, k6, k7, k8⟩ := hu; go_simp; try first | rfl | (simp; done))⟩) HK0.out (fun _ => trivial) ?_
 simp only [Act.put, List.setIfInBounds_toArray, List.set_cons_zero, List.set_cons_succ, List.getElem_toArray, List.getElem_cons_zero, List.getElem_cons_succ]
 refine wpAnyL_pure (i := 3) rfl (by kernel_rfl) (fun _ _ _ h => h) (Or.inl ⟨by rfl, (fun u hu => by obtain ⟨⟨k0, k1, k2, k3, k4, k5⟩, k6, k7, k8⟩ := hu; go_simp; try first | rfl | (simp; done))⟩) HK0.out (fun _ => trivial) ?_
 simp only [Act.put, List.setIfInBounds_toArray, List.set_cons_zero, List.set_cons_succ, List.getElem_toArray, List.getElem_cons_zero, List.getElem_cons_succ]
 refine wpAnyL_pure (i := 4) rfl (by kernel_rfl) (fun _ _ _ h => h) (Or.inl ⟨by rfl, (fun u hu => by obtain ⟨⟨k0, k1, k2, k3, k4, k5⟩, k6, k7, k8⟩ := hu; go_simp; try first | rfl | (simp; done))⟩) HK0.out (fun _ => trivial) ?_
 simp only [Act.put, List.setIfInBounds_toArray, List.set_cons_zero, List.set_cons_succ, List.getElem_toArray, List.getElem_cons_zero, List.getElem_cons_succ]
 refine wpAnyL_pure (i := 5) rfl (by kernel_rfl) (fun _ _ _ h => h) (Or.inl ⟨by rfl, (fun u hu => by obtain ⟨⟨k0, k1, k2, k3, k4, k5⟩, k6, k7, k8⟩ := hu; go_simp; try first | rfl | (simp; done))⟩) HK0.out (fun _ => trivial) ?_
 simp only [Act.put, List.setIfInBounds_toArray, List.set_cons_zero, List.set_cons_succ, List.getElem_toArray, List.getElem_cons_zero, List.getElem_cons_succ]
 refine wpAnyL_pure (i := 6) rfl (by kernel_rfl) (fun _ _ _ h => h) (Or.inl ⟨by rfl, (fun u hu => by obtain ⟨⟨k0, k1, k2, k3, k4, k5⟩, k6, k7, k8⟩ := hu; go_simp; try first | rfl | (simp; done))⟩) HK0.out (fun _ => trivial) ?_
 simp only [Act.put, List.setIfInBounds_toArray, List.set_cons_zero, List.set_cons_succ, List.getElem_toArray, List.getElem_cons_zero, List.getElem_cons_succ]
 refine wpAnyL_pure (i := 7) (v := .bool false) rfl (by kernel_rfl) (fun _ _ _ h => h) (Or.inl ⟨by rfl, (fun u hu => by obtain ⟨⟨k0, k1, k2, k3, k4, k5⟩, k6, k7, k8⟩ := hu; go_simp; try first | rfl | (simp; done))⟩) HK0.out (fun _ => trivial) ?_
 simp only [Act.put, List.setIfInBounds_toArray, List.set_cons_zero, List.set_cons_succ, List.getElem_toArray, List.getElem_cons_zero, List.getElem_cons_succ]
 refine wpAnyL_pure (i := 8) (v := .bool false) rfl (by kernel_rfl) (fun _ _ _ h => h) (Or.inl ⟨by rfl, (fun u hu => by obtain ⟨⟨k0, k1, k2, k3, k4, k5⟩, k6, k7, k8⟩ := hu; go_simp; try first | rfl | (simp; done))⟩) HK0.out (fun _ => trivial) ?_
 simp only [Act.put, List.setIfInBounds_toArray, List.set_cons_zero, List.set_cons_succ, List.getElem_toArray, List.getElem_cons_zero, List.getElem_cons_succ]
 refine wpAnyL_pure (i := 9) rfl (by kernel_rfl) (fun _ _ _ h => h) (Or.inl ⟨by rfl, (fun u hu => by obtain ⟨⟨k0, k1, k2, k3, k4, k5⟩, k6, k7, k8⟩ := hu; go_simp; try first | rfl | (simp; done))⟩) HK0.out (fun _ => trivial) ?_
 simp only [Act.put, List.setIfInBounds_toArray, List.set_cons_zero, List.set_cons_succ, List.getElem_toArray, List.getElem_cons_zero, List.getElem_cons_succ]
 refine wpAnyL_pure (i := 10) rfl (by kernel_rfl) (fun _ _ _ h => h) (Or.inl ⟨by rfl, (fun u hu => by obtain ⟨⟨k0, k1, k2, k3, k4, k5⟩, k6, k7, k8⟩ := hu; go_simp; try first | rfl | (simp; done))⟩) HK0.out (fun _ => trivial) ?_
 simp only [Act.put, List.setIfInBounds_toArray, List.set_cons_zero, List.set_cons_succ, List.getElem_toArray, List.getElem_cons_zero, List.getElem_cons_succ]
 refine wpAnyL_pure (i := 11) rfl (by kernel_rfl) (fun _ _ _ h => h) (Or.inl ⟨by rfl, (fun u hu => by obtain ⟨⟨k0, k1, k2, k3, k4, k5⟩, k6, k7, k8⟩ := hu; go_simp; try first | rfl | (simp; done))⟩) HK0.out (fun _ => trivial) ?_
 simp only [Act.put, List.setIfInBounds_toArray, List.set_cons_zero, List.set_cons_succ, List.getElem_toArray, List.getElem_cons_zero, List.getElem_cons_succ]
 refine wpAnyL_pure (i := 12) rfl (by kernel_rfl) (fun _ _ _ h => h) (Or.inl ⟨by rfl, (fun u hu => by obtain ⟨⟨k0, k1, k2, k3, k4, k5⟩, k6, k7, k8⟩ := hu; go_simp; try first | rfl | (simp; done))⟩) HK0.out (fun _ => trivial) ?_
 simp only [Act.put, List.setIfInBounds_toArray, List.set_cons_zero, List.set_cons_succ, List.getElem_toArray, List.getElem_cons_zero, List.getElem_cons_succ]
 refine wpAnyL_pure (i := 13) rfl (by kernel_rfl) (fun _ _ _ h => h) (Or.inl ⟨by rfl, (fun u hu => by obtain ⟨⟨k0, k1, k2, k3, k4, k5⟩, k6, k7, k8⟩ := hu; go_simp; try first | rfl | (simp; done))⟩) HK0.out (fun _ => trivial) ?_
 simp only [Act.put, List.setIfInBounds_toArray, List.set_cons_zero, List.set_cons_succ, List.getElem_toArray, List.getElem_cons_zero, List.getElem_cons_succ]
 refine wpAnyL_ready (rs := [14]) (by kernel_rfl) (by simp) ?_
 refine AllL.cons rfl (fun K hK => ?_) ?_
 ·
  go_simp
  refine (gramNM 0 w1.drew).mono ?_
  rintro e w2 ⟨rfl, hb2⟩
  have HB2 := Lib.hid ((Below.refl w1.heap.size w1).drew.trans hb2)
  clear hb2
  refine hK.out _ _ (HALL.out _ HB2.out) (fun _ => trivial) ?_
  clear hK K
  refine wpAnyL_ready (rs := [15]) (by kernel_rfl) (by simp) ?_
  refine AllL.cons rfl (fun K hK => ?_) ?_
  ·
   go_simp
   refine (HVAL.out w2 HB2.out).mono ?_
   rintro e w3 ⟨rfl, hb3⟩
   have HB3 := Lib.hid (HB2.out.trans (hb3.mono HB2.out.size))
   clear hb3
   refine hK.out _ _ (HALL.out _ HB3.out) (fun _ => trivial) ?_
   clear hK K
   refine wpAnyL_pure (i := 16) (v := .bool false) rfl (by kernel_rfl) (fun _ _ _ h => h) (Or.inl ⟨by rfl, (fun u hu => by obtain ⟨⟨k0, k1, k2, k3, k4, k5⟩, k6, k7, k8⟩ := hu; go_simp; try first | rfl | (simp; done))⟩) (HALL.out _ HB3.out) (fun _ => trivial) ?_
   simp only [Act.put, List.setIfInBounds_toArray, List.set_cons_zero, List.set_cons_succ, List.getElem_toArray, List.getElem_cons_zero, List.getElem_cons_succ]
   refine wpAnyL_pure (i := 17) (v := .bool false) rfl (by kernel_rfl) (fun _ _ _ h => h) (Or.inl ⟨by rfl, (fun u hu => by obtain ⟨⟨k0, k1, k2, k3, k4, k5⟩, k6, k7, k8⟩ := hu; go_simp; try first | rfl | (simp; done))⟩) (HALL.out _ HB3.out) (fun _ => trivial) ?_
   simp only [Act.put, List.setIfInBounds_toArray, List.set_cons_zero, List.set_cons_succ, List.getElem_toArray, List.getElem_cons_zero, List.getElem_cons_succ]
   refine wpAnyL_pure (i := 18) (v := .bool false) rfl (by kernel_rfl) (fun _ _ _ h => h) (Or.inl ⟨by rfl, (fun u hu => by obtain ⟨⟨k0, k1, k2, k3, k4, k5⟩, k6, k7, k8⟩ := hu; go_simp; try first | rfl | (simp; done))⟩) (HALL.out _ HB3.out) (fun _ => trivial) ?_
   simp only [Act.put, List.setIfInBounds_toArray, List.set_cons_zero, List.set_cons_succ, List.getElem_toArray, List.getElem_cons_zero, List.getElem_cons_succ]
   refine wpAnyL_pure (i := 19) rfl (by kernel_rfl) (fun _ _ _ h => h) (Or.inl ⟨by rfl, (fun u hu => by obtain ⟨⟨k0, k1, k2, k3, k4, k5⟩, k6, k7, k8⟩ := hu; go_simp; try first | rfl | (simp; done))⟩) (HALL.out _ HB3.out) (fun _ => trivial) ?_
   simp only [Act.put, List.setIfInBounds_toArray, List.set_cons_zero, List.set_cons_succ, List.getElem_toArray, List.getElem_cons_zero, List.getElem_cons_succ]
   refine wpAnyL_pure (i := 20) rfl (by kernel_rfl) (fun _ _ _ h => h) (Or.inl ⟨by rfl, (fun u hu => by obtain ⟨⟨k0, k1, k2, k3, k4, k5⟩, k6, k7, k8⟩ := hu; go_simp; try first | rfl | (simp; done))⟩) (HALL.out _ HB3.out) (fun _ => trivial) ?_
   simp only [Act.put, List.setIfInBounds_toArray, List.set_cons_zero, List.set_cons_succ, List.getElem_toArray, List.getElem_cons_zero, List.getElem_cons_succ]
   refine wpAnyL_pure (i := 21) rfl (by kernel_rfl) (fun _ _ _ h => h) (Or.inl ⟨by rfl, (fun u hu => by obtain ⟨⟨k0, k1, k2, k3, k4, k5⟩, k6, k7, k8⟩ := hu; go_simp; try first | rfl | (simp; done))⟩) (HALL.out _ HB3.out) (fun _ => trivial) ?_
   simp only [Act.put, List.setIfInBounds_toArray, List.set_cons_zero, List.set_cons_succ, List.getElem_toArray, List.getElem_cons_zero, List.getElem_cons_succ]
   refine wpAnyL_pure (i := 22) (v := .bool false) rfl (by kernel_rfl) (fun _ _ _ h => h) (Or.inl ⟨by rfl, (fun u hu => by obtain ⟨⟨k0, k1, k2, k3, k4, k5⟩, k6, k7, k8⟩ := hu; go_simp; try first | rfl | (simp; done))⟩) (HALL.out _ HB3.out) (fun _ => trivial) ?_
   simp only [Act.put, List.setIfInBounds_toArray, List.set_cons_zero, List.set_cons_succ, List.getElem_toArray, List.getElem_cons_zero, List.getElem_cons_succ]
   refine wpAnyL_pure (i := 23) (v := .bool false) rfl (by kernel_rfl) (fun _ _ _ h => h) (Or.inl ⟨by rfl, (fun u hu => by obtain ⟨⟨k0, k1, k2, k3, k4, k5⟩, k6, k7, k8⟩ := hu; go_simp; try first | rfl | (simp; done))⟩) (HALL.out _ HB3.out) (fun _ => trivial) ?_
   simp only [Act.put, List.setIfInBounds_toArray, List.set_cons_zero, List.set_cons_succ, List.getElem_toArray, List.getElem_cons_zero, List.getElem_cons_succ]
   refine wpAnyL_done (by kernel_rfl) ?_ _
   have he := entersBack
   go_wp2_with fail
   obtain ⟨w4, hw4⟩ : ∃ w4 : World, w4 = w3.alloc (.cells #[.func (.func 47) #[] #[.pointer (some ⟨w.heap.size, 0, none⟩), .pointer (some ⟨w3.heap.size, 0, none⟩)]] 89) := ⟨_, rfl⟩
   have hb34 : Below w3.heap.size w3 w4 := by rw [hw4]; exact (Below.refl _ _).alloc (Nat.le_refl _) _
   have hb14 := HB3.out.trans (hb34.mono HB3.out.size)
   have hfx : w4.cell? ⟨w3.heap.size, 0, none⟩ = some (.func (.func 47) #[] #[.pointer (some ⟨w.heap.size, 0, none⟩), .pointer (some ⟨w3.heap.size, 0, none⟩)]) := by rw [hw4]; exact cell_of_one (heap_alloc_new _ _)
   obtain ⟨⟨_, _, _, _, _, p5⟩, _, _, p8⟩ := HALL.out w4 hb14
   have hts := HTS.out.below hb14
   rw [HX.out] at hts
   obtain ⟨b, off, A5, m5, c5, x', rfl, _, hbt, hx0, hx1, hx2, hx, hxs⟩ := tree_at hts (k := 0) (by omega)
   have hx : some x = some x' := hx
   obtain rfl : x = x' := Option.some.inj hx
   obtain ⟨s, hxv⟩ := HT.out.kid (x := x) (by rw [HX.out]; exact List.mem_singleton.2 rfl)
   have HK4 := Lib.hid (show ∀ u : World, Below w4.heap.size w4 u → u.cell? ⟨w3.heap.size, 0, none⟩ = some (.func (.func 47) #[] #[.pointer (some ⟨w.heap.size, 0, none⟩), .pointer (some ⟨w3.heap.size, 0, none⟩)]) ∧ u.cell? ⟨w.heap.size + 1, 2, none⟩ = some (.slice (some ⟨b, off, none⟩) 1 c) ∧ u.cell? ⟨b, off + 0 * 3, none⟩ = some (.int .i64 x.rule) ∧ u.cell? ⟨b, off + 0 * 3 + 1, none⟩ = some (.int .i64 x.term) ∧ u.cell? ⟨b, off + 0 * 3 + 2, none⟩ = some (.slice A5 m5 c5) from fun u hu =>
    ⟨(hu.cell (cell_lt hfx)).trans hfx, (hu.cell (cell_lt p8)).trans p8, (hu.cell (cell_lt hx0)).trans hx0, (hu.cell (cell_lt hx1)).trans hx1, (hu.cell (cell_lt hx2)).trans hx2⟩)
   have HK40 := Lib.hid (HK4.out w4.drew (Below.refl _ _).drew)
   simp only [Nat.zero_mul, Nat.add_zero] at HK4 HK40
   have HBX4 := Lib.hid (show BackBx w4.drew w.heap.size w3.heap.size AF nF cF from ⟨p5, hfx⟩)
   have HF4 := Lib.hid (HF1.out.below hb14)
   have HXS := Lib.hid hxs
   have HXV := Lib.hid hxv
   have HB14 := Lib.hid hb14
   have HB34 := Lib.hid hb34
   have HW4 := Lib.hid hw4
   clear hb34 hb14 hfx p5 p8 hts hbt hx0 hx1 hx2 hx hxs hxv hw4
   refine wp_region_late (late := [6]) (S1 := fun _ => True) (S := fun u => u.cell? ⟨w3.heap.size, 0, none⟩ = some (.func (.func 47) #[] #[.pointer (some ⟨w.heap.size, 0, none⟩), .pointer (some ⟨w3.heap.size, 0, none⟩)]) ∧ u.cell? ⟨w.heap.size + 1, 2, none⟩ = some (.slice (some ⟨b, off, none⟩) 1 c) ∧ u.cell? ⟨b, off, none⟩ = some (.int .i64 x.rule) ∧ u.cell? ⟨b, off + 1, none⟩ = some (.int .i64 x.term) ∧ u.cell? ⟨b, off + 2, none⟩ = some (.slice A5 m5 c5)) (by kernel_rfl) ?_
   rw [← HW4.out]
   refine wpAnyL_take (i := 0) rfl (by kernel_rfl) (fun _ _ _ h => h) (Or.inl ⟨by rfl, (fun u hu => by obtain ⟨_, g0, g1, g2, g3, g4⟩ := hu; go_simp; try rfl)⟩) trivial (fun _ => HK40.out) ?_
   simp only [Act.put, List.setIfInBounds_toArray, List.set_cons_zero, List.set_cons_succ, List.getElem_toArray, List.getElem_cons_zero, List.getElem_cons_succ]
   refine wpAnyL_pure (i := 1) rfl (by kernel_rfl) (fun _ _ _ h => h) (Or.inl ⟨by rfl, (fun u hu => by go_simp; try rfl)⟩) trivial (fun _ => HK40.out) ?_
   simp only [Act.put, List.setIfInBounds_toArray, List.set_cons_zero, List.set_cons_succ, List.getElem_toArray, List.getElem_cons_zero, List.getElem_cons_succ]
   refine wpAnyL_take (i := 2) rfl (by kernel_rfl) (fun _ _ _ h => h) (Or.inl ⟨by rfl, (fun u hu => by obtain ⟨_, g0, g1, g2, g3, g4⟩ := hu; go_simp; try rfl)⟩) trivial (fun _ => HK40.out) ?_
   simp only [Act.put, List.setIfInBounds_toArray, List.set_cons_zero, List.set_cons_succ, List.getElem_toArray, List.getElem_cons_zero, List.getElem_cons_succ]
   refine wpAnyL_pure (i := 3) rfl (by kernel_rfl) (fun _ _ _ h => h) (Or.inl ⟨by rfl, (fun u hu => by go_simp; try rfl)⟩) trivial (fun _ => HK40.out) ?_
   simp only [Act.put, List.setIfInBounds_toArray, List.set_cons_zero, List.set_cons_succ, List.getElem_toArray, List.getElem_cons_zero, List.getElem_cons_succ]
   refine wpAnyL_take (i := 4) rfl (by kernel_rfl) (fun _ _ _ h => h) (Or.inl ⟨by rfl, (fun u hu => by obtain ⟨_, g0, g1, g2, g3, g4⟩ := hu; go_simp; try rfl)⟩) trivial (fun _ => HK40.out) ?_
   simp only [Act.put, List.setIfInBounds_toArray, List.set_cons_zero, List.set_cons_succ, List.getElem_toArray, List.getElem_cons_zero, List.getElem_cons_succ]
   refine wpAnyL_ready (rs := [5]) (by kernel_rfl) (by simp) ?_
   refine AllL.cons rfl (fun K hK => ?_) ?_
   ·
    go_simp
    refine (mkBack1 F P HLI.out.r4 (sizeT x) x s w4.drew _ _ w.heap.size w3.heap.size AF nF cF A5 m5 c5 (Nat.le_refl _) HXV.out HBX4.out HF4.out.drew (by rw [HLF.out]; exact Nat.le_refl _) HXS.out.drew).mono ?_
    rintro e w5 ⟨⟨A6, m6, c6, rfl, hz⟩, hb5⟩
    obtain ⟨Y, hY⟩ : ∃ Y, Y = backT F x := ⟨_, rfl⟩
    rw [← hY] at hz ⊢
    have HY := Lib.hid hY
    have hb45 := (Below.refl w4.heap.size w4).drew.trans hb5
    have hb15 := HB14.out.trans (hb45.mono HB14.out.size)
    have HZ := Lib.hid (show Sl RTree w5 (fun b => w4.heap.size ≤ b) A6 m6 c6 Y.kids from hz)
    have HB45 := Lib.hid hb45
    have HB15 := Lib.hid hb15
    obtain ⟨d0, d1, d2, f0, f1, f2⟩ := tree_cells' ((hb15.block _ (heap_lt HRES.out)).trans HRES.out)
    have HD := Lib.hid (And.intro d0 (And.intro d1 (And.intro d2 (And.intro f0 (And.intro f1 f2)))))
    clear hz hb5 hb45 hb15 hY d0 d1 d2 f0 f1 f2
    refine hK.out _ _ trivial (fun _ => (HK4.out _ HB45.out)) ?_
    clear hK K
    refine wpAnyL_ready (rs := [6]) (by kernel_rfl) (by simp) ?_
    refine AllL.cons rfl (fun K hK => ?_) ?_
    ·
     obtain ⟨d0, d1, d2, f0, f1, f2⟩ := HD.out
     have ld := cell_lt d0
     go_simp
     clear d0 d1 d2 f0 f1 f2
     refine hK.out _ _ trivial (fun h => absurd (h 6 (by simp)) (by decide)) ?_
     clear hK K
     refine wpAnyL_pure (i := 7) rfl (by kernel_rfl) (fun _ _ _ h => h) (Or.inl ⟨by rfl, (fun u hu => by go_simp; try rfl)⟩) trivial (fun h => absurd (h 6 (by simp)) (by decide)) ?_
     simp only [Act.put, List.setIfInBounds_toArray, List.set_cons_zero, List.set_cons_succ, List.getElem_toArray, List.getElem_cons_zero, List.getElem_cons_succ]
     refine wpAnyL_done (by kernel_rfl) ?_ _
     have hbb : Below w.heap.size w5 _ := (((Below.refl w.heap.size w5).setCell (p := ⟨w.heap.size + 2, 0, none⟩) (by show w.heap.size ≤ w.heap.size + 2; omega) (.int .i64 Y.rule)).setCell (p := ⟨w.heap.size + 2, 1, none⟩) (by show w.heap.size ≤ w.heap.size + 2; omega) (.int .i64 Y.term)).setCell (p := ⟨w.heap.size + 2, 2, none⟩) (by show w.heap.size ≤ w.heap.size + 2; omega) (.slice A6 m6 c6)
     have HBB := Lib.hid (HB1.out.trans ((HB15.out.mono (by have := HZ1.out; omega)).trans hbb))
     have hnw : ¬ (w4.heap.size ≤ w.heap.size + 2) := by have := HZ1.out; have := HB14.out.size; omega
     have HOUT := Lib.hid ((HZ.out.keep (((Kept.setCell (fun b => w4.heap.size ≤ b) w5 ⟨w.heap.size + 2, 0, none⟩ (.int .i64 Y.rule) hnw).trans (Kept.setCell (fun b => w4.heap.size ≤ b) _ ⟨w.heap.size + 2, 1, none⟩ (.int .i64 Y.term) hnw)).trans (Kept.setCell (fun b => w4.heap.size ≤ b) _ ⟨w.heap.size + 2, 2, none⟩ (.slice A6 m6 c6) hnw))).more (S' := fun b => w.heap.size ≤ b) (fun b hb => by have := HZ1.out; have := HB14.out.size; omega))
     clear hbb
     go_wp2_with fail
     refine Go.bodyPost_ret (v := .tuple #[.agg #[.int .i64 Y.rule, .int .i64 Y.term, .slice A6 m6 c6], .int .i64 0]) ?_ rfl ⟨⟨A6, m6, c6, by rw [HY.out], by rw [← HY.out]; exact HOUT.out⟩, HBB.out⟩
     rw [results_cell_tmp rfl]
     obtain ⟨d0, d1, d2, _, _, _⟩ := HD.out
     have ld := cell_lt d0
     simp only at ld
     simp [go_sem, d0, d1, d2, ld]
    exact AllL.nil
   exact AllL.nil
  exact AllL.nil
 exact AllL.nil
end Go.Proofs.Ytbmcoamdfpegnaa
