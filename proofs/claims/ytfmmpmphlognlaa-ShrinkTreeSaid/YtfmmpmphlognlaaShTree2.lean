/- shrink.Tree as a whole. -/
import Derived.Test.YtfmmpmphlognlaaSmaller
import Derived.Test.YtfmmpmphlognlaaShTree
namespace Go.Proofs.Ytfmmpmphlognlaa
open Go.RowKit

theorem idxA_cases {α : Type} (q : α → Bool) (l : List α) : (idxA q l = -1 ∧ ∀ x ∈ l, q x = false) ∨ ∃ (k : Nat) (x : α), idxA q l = (k : Int) ∧ l[k]? = some x ∧ q x = true := by
  unfold idxA
  cases h : l.findIdx? q with
  | none => exact Or.inl ⟨rfl, fun x hx => by simpa using List.findIdx?_eq_none_iff.1 h x hx⟩
  | some k =>
    obtain ⟨hk, h1, _⟩ := List.findIdx?_eq_some_iff_getElem.1 h
    exact Or.inr ⟨k, l[k], rfl, List.getElem?_eq_getElem hk, by simpa using h1⟩
theorem smaller_len {R : List RuleD} {t : TreeD} (h : sizeT t ≤ 100) : (smallerT R t).length ≤ 10000 := by
  unfold smallerT
  refine Nat.le_trans (flatMap_len (B := 100) _ fun p hp => ?_) (by rw [paths_len _ t [] (Nat.le_refl _)]; omega)
  unfold smallP
  split
  · split
    · simp
    · rename_i y hy _
      refine Nat.le_trans (flatMap_len (B := 1) _ fun _ _ => smallAt_len) ?_
      have h1 := paths_small hp hy
      have h2 := paths_len _ y [] (Nat.le_refl _)
      rw [List.length_tail, h2]
      omega
  · simp
/-- the boxes of shrink.Tree -/
structure ShBox (B : Nat) (g : GramD) (AR : Option Addr) (nR cR : Nat) (F : FuncId) (caps : Array Value) (u : World) : Prop where
  g : u.heap[B]? = some (.cells #[.int .i64 g.1, .int .i64 g.2.1, .int .i64 g.2.2.1, .slice AR nR cR] 25 (0, 0))
  f : u.heap[B + 2]? = some (.cells #[.func (.func F) #[] caps] 37 (0, 0))
  r : u.heap[B + 3]? = some (.cells #[.int .i64 0, .int .i64 0, .slice none 0 0] 31 (0, 0))
theorem ShBox.same {B : Nat} {g : GramD} {AR : Option Addr} {nR cR : Nat} {F : FuncId} {caps : Array Value} {u u' : World} (h : ShBox B g AR nR cR F caps u) (hu : ∀ b, b < u.heap.size → b ≠ B + 1 → u'.heap[b]? = u.heap[b]?) : ShBox B g AR nR cR F caps u' :=
  ⟨(hu _ (heap_lt h.g) (by omega)).trans h.g, (hu _ (heap_lt h.f) (by omega)).trans h.f, (hu _ (heap_lt h.r) (by omega)).trans h.r⟩
theorem ShBox.below {B : Nat} {g : GramD} {AR : Option Addr} {nR cR : Nat} {F : FuncId} {caps : Array Value} {u u' : World} (h : ShBox B g AR nR cR F caps u) (hu : Below u.heap.size u u') : ShBox B g AR nR cR F caps u' := h.same fun b hb _ => hu.block b hb
theorem ShBox.cells {B : Nat} {g : GramD} {AR : Option Addr} {nR cR : Nat} {F : FuncId} {caps : Array Value} {u : World} (h : ShBox B g AR nR cR F caps u) :
    (u.cell? ⟨B, 0, none⟩ = some (.int .i64 g.1) ∧ u.cell? ⟨B, 1, none⟩ = some (.int .i64 g.2.1) ∧ u.cell? ⟨B, 2, none⟩ = some (.int .i64 g.2.2.1) ∧ u.cell? ⟨B, 3, none⟩ = some (.slice AR nR cR)) ∧ u.cell? ⟨B + 2, 0, none⟩ = some (.func (.func F) #[] caps) := by
  have h1 := h.g
  exact ⟨by simp [World.cell?, h1], cell_of_one h.f⟩
/-- the tree in its box -/
def TreeBox (B : Nat) (x : TreeD) (A : Option Addr) (m c : Nat) (u : World) : Prop := u.heap[B + 1]? = some (.cells #[.int .i64 x.rule, .int .i64 x.term, .slice A m c] 31 (0, 0))
set_option linter.unusedSimpArgs false in
set_option maxRecDepth 1000000 in
set_option maxHeartbeats 8000000 in
theorem shrinkTree (w : World) (S S' : Nat → Prop) (AR : Option Addr) (nR cR : Nat) (g : GramD) (hg : Sl RRule w S AR nR cR g.2.2.2) (hv : GValid g) (t : TreeD) (s : SymD) (A : Option Addr) (m c : Nat) (hs : Sl RTree w S' A m c t.kids) (ht : TV g.2.2.2 s t) (hso : SymOk g.1 g.2.1 s) (hsz : sizeT t ≤ 60)
    (F : FuncId) (caps : Array Value) (q : TreeD → Bool) (he : ∀ (args : Array Value) (u : World), (callFunc F args).run Try.prog u = .ok (.enter F args) u) (hF : TellsT Try.prog w (fun x => TV g.2.2.2 s x ∧ sizeT x ≤ 60) q F caps) :
    Calls Try.prog 20 #[.agg #[.int .i64 g.1, .int .i64 g.2.1, .int .i64 g.2.2.1, .slice AR nR cR], .agg #[.int .i64 t.rule, .int .i64 t.term, .slice A m c], .func (.func F) #[] caps] w fun e w' =>
      ((q t = false ∧ e = .returned (.tuple #[.agg #[.int .i64 0, .int .i64 0, .slice none 0 0], .int .i64 7])) ∨ (q t = true ∧ TreeShrunk g.2.2.2 s q t w.heap.size e w')) ∧ Below w.heap.size w w' := by
  obtain ⟨w1, hw1⟩ : ∃ w1 : World, w1 = (((w.alloc (.cells #[.int .i64 g.1, .int .i64 g.2.1, .int .i64 g.2.2.1, .slice AR nR cR] 25)).alloc (.cells #[.int .i64 t.rule, .int .i64 t.term, .slice A m c] 31)).alloc (.cells #[.func (.func F) #[] caps] 37)).alloc (.cells #[.int .i64 0, .int .i64 0, .slice none 0 0] 31) := ⟨_, rfl⟩
  have hz1 : w1.heap.size = w.heap.size + 4 := by rw [hw1]; simp
  have hb1 : Below w.heap.size w w1 := by rw [hw1]; exact ((((Below.refl _ _).alloc (Nat.le_refl _) _).alloc (by simp) _).alloc (by simp; omega) _).alloc (by simp; omega) _
  have b1 : w1.heap[w.heap.size]? = some (.cells #[.int .i64 g.1, .int .i64 g.2.1, .int .i64 g.2.2.1, .slice AR nR cR] 25 (0, 0)) := by rw [hw1]; exact (Below.heap_alloc _ _ _ (by simp <;> omega)).trans ((Below.heap_alloc _ _ _ (by simp <;> omega)).trans ((Below.heap_alloc _ _ _ (by simp <;> omega)).trans (heap_alloc_new w _)))
  have b2 : w1.heap[w.heap.size + 1]? = some (.cells #[.int .i64 t.rule, .int .i64 t.term, .slice A m c] 31 (0, 0)) := by rw [hw1]; exact (Below.heap_alloc _ _ _ (by simp <;> omega)).trans ((Below.heap_alloc _ _ _ (by simp <;> omega)).trans (heap_new _ _ _ (by simp <;> omega)))
  have b3 : w1.heap[w.heap.size + 2]? = some (.cells #[.func (.func F) #[] caps] 37 (0, 0)) := by rw [hw1]; exact (Below.heap_alloc _ _ _ (by simp <;> omega)).trans (heap_new _ _ _ (by simp <;> omega))
  have b4 : w1.heap[w.heap.size + 3]? = some (.cells #[.int .i64 0, .int .i64 0, .slice none 0 0] 31 (0, 0)) := by rw [hw1]; exact heap_new _ _ _ (by simp <;> omega)
  have HBX := Lib.hid (show ShBox w.heap.size g AR nR cR F caps w1 from ⟨b1, b3, b4⟩)
  have HTB := Lib.hid (show TreeBox w.heap.size t A m c w1 from b2)
  have HG0 := Lib.hid (hg.fit.more (S' := fun b => b < w.heap.size) (fun b hb => hb.2))
  have HG := Lib.hid ((hg.fit.more (S' := fun b => b < w.heap.size) (fun b hb => hb.2)).below hb1)
  have HS := Lib.hid ((hs.fit.more (S' := fun b => b < w.heap.size) (fun b hb => hb.2)).below hb1)
  have HB1 := Lib.hid hb1
  have HV := Lib.hid hv
  have HTV := Lib.hid ht
  have HLV := Lib.hid ht.leaves
  have HSO := Lib.hid hso
  have HF := Lib.hid (show ∀ u : World, Below w.heap.size w u → TellsT Try.prog u (fun x => TV g.2.2.2 s x ∧ sizeT x ≤ 60) q F caps from fun u hu v hv => hF v (hu.trans (hv.mono hu.size)))
  clear hg hv hs ht hso hF hb1 b1 b2 b3 b4
  have hcell : ∀ u : World, Below w1.heap.size w1 u → (u.cell? ⟨w.heap.size, 0, none⟩ = some (.int .i64 g.1) ∧ u.cell? ⟨w.heap.size, 1, none⟩ = some (.int .i64 g.2.1) ∧ u.cell? ⟨w.heap.size, 2, none⟩ = some (.int .i64 g.2.2.1) ∧ u.cell? ⟨w.heap.size, 3, none⟩ = some (.slice AR nR cR)) ∧ u.cell? ⟨w.heap.size + 2, 0, none⟩ = some (.func (.func F) #[] caps) ∧
      u.cell? ⟨w.heap.size + 1, 0, none⟩ = some (.int .i64 t.rule) ∧ u.cell? ⟨w.heap.size + 1, 1, none⟩ = some (.int .i64 t.term) ∧ u.cell? ⟨w.heap.size + 1, 2, none⟩ = some (.slice A m c) := fun u hu => by
    obtain ⟨d0, d1, d2, _, _, _⟩ := tree_cells' ((hu.block _ (by omega)).trans HTB.out)
    have h := (HBX.out.below hu).cells
    exact ⟨h.1, h.2, d0, d1, d2⟩
  have HALL := Lib.hid hcell
  obtain ⟨⟨k0, k1, k2, k3⟩, k4, k5, k6, k7⟩ := hcell w1 (Below.refl _ _)
  rw [hw1] at k0 k1 k2 k3 k4 k5 k6 k7
  clear hcell
  go_enter Try.func20, Try.ntmps20
  --@1
  go_wp2_with fail
  rw [← hw1]
  clear hw1 k0 k1 k2 k3 k4 k5 k6 k7
  refine (treeCheck w1 _ _ AR nR cR g HG.out HV.out t s A m c HS.out HTV.out HSO.out (by omega)).mono ?_
  rintro e w2 ⟨rfl, hb2⟩
  have HB2 := Lib.hid hb2
  obtain ⟨⟨k0, k1, k2, k3⟩, k4, k5, k6, k7⟩ := HALL.out w2 hb2
  have hz2 := hb2.size
  clear hb2
  --@2
  go_wp2_with fail
  clear k0 k1 k2 k3 k4 k5 k6 k7
  refine (treeSize w2 _ t A m c (HS.out.below HB2.out) HLV.out (by omega)).mono ?_
  rintro e w3 ⟨rfl, hb3⟩
  have HB3 := Lib.hid (HB2.out.trans (hb3.mono hz2))
  have hz3 := hb3.size
  have hgt : decide ((60 : Int) < (sizeT t : Int)) = false := by simp; omega
  have HK3 := Lib.hid (HALL.out w3.drew HB3.out.drew)
  clear hb3
  --@3
  go_wp2_with fail
  refine wp_region_late (late := []) (S1 := fun u => (u.cell? ⟨w.heap.size, 0, none⟩ = some (.int .i64 g.1) ∧ u.cell? ⟨w.heap.size, 1, none⟩ = some (.int .i64 g.2.1) ∧ u.cell? ⟨w.heap.size, 2, none⟩ = some (.int .i64 g.2.2.1) ∧ u.cell? ⟨w.heap.size, 3, none⟩ = some (.slice AR nR cR)) ∧ u.cell? ⟨w.heap.size + 2, 0, none⟩ = some (.func (.func F) #[] caps) ∧
      u.cell? ⟨w.heap.size + 1, 0, none⟩ = some (.int .i64 t.rule) ∧ u.cell? ⟨w.heap.size + 1, 1, none⟩ = some (.int .i64 t.term) ∧ u.cell? ⟨w.heap.size + 1, 2, none⟩ = some (.slice A m c)) (S := fun _ => True) (by kernel_rfl) ?_
  refine wpAnyL_pure (i := 0) rfl (by kernel_rfl) (fun _ _ _ h => h) (Or.inl ⟨by rfl, (fun u hu => by obtain ⟨⟨k0, k1, k2, k3⟩, k4, k5, k6, k7⟩ := hu; go_simp; try rfl)⟩) HK3.out (fun _ => trivial) ?_
  simp only [Act.put, List.setIfInBounds_toArray, List.set_cons_zero, List.set_cons_succ, List.getElem_toArray, List.getElem_cons_zero, List.getElem_cons_succ]
  refine wpAnyL_pure (i := 1) rfl (by kernel_rfl) (fun _ _ _ h => h) (Or.inl ⟨by rfl, (fun u hu => by obtain ⟨⟨k0, k1, k2, k3⟩, k4, k5, k6, k7⟩ := hu; go_simp; try rfl)⟩) HK3.out (fun _ => trivial) ?_
  simp only [Act.put, List.setIfInBounds_toArray, List.set_cons_zero, List.set_cons_succ, List.getElem_toArray, List.getElem_cons_zero, List.getElem_cons_succ]
  refine wpAnyL_ready (rs := [2]) (by kernel_rfl) (by simp) ?_
  refine AllL.cons rfl (fun K hK => ?_) ?_
  · go_simp
    refine (treeClone t _ _ A m c (by omega) (HS.out.below HB3.out).drew).mono ?_
    rintro e w4 ⟨⟨A4, m4, c4, rfl, hz⟩, hb4⟩
    have HZ4 := Lib.hid hz
    have HB4 := Lib.hid (HB3.out.drew.trans (hb4.mono (by show w1.heap.size ≤ w3.heap.size; omega)))
    clear hz hb4
    refine hK.out _ _ (HALL.out _ HB4.out) (fun _ => trivial) ?_
    clear hK K
    refine wpAnyL_ready (rs := [3]) (by kernel_rfl) (by simp) ?_
    refine AllL.cons rfl (fun K hK => ?_) ?_
    · go_simp
      have hz4 := HB4.out.size
      have hwb := HB1.out.trans (HB4.out.mono (by omega))
      refine (HF.out w4 hwb w4 (Below.refl _ _) t A4 m4 c4 _ HZ4.out ⟨HTV.out, hsz⟩).mono ?_
      rintro e w5 ⟨rfl, hb5⟩
      have HB5 := Lib.hid (HB4.out.trans (hb5.mono (by omega)))
      clear hb5 hwb
      refine hK.out _ _ (HALL.out _ HB5.out) (fun _ => trivial) ?_
      clear hK K
      refine wpAnyL_pure (i := 4) rfl (by kernel_rfl) (fun _ _ _ h => h) (Or.inl ⟨by rfl, (fun u hu => by obtain ⟨⟨k0, k1, k2, k3⟩, k4, k5, k6, k7⟩ := hu; go_simp; try rfl)⟩) (HALL.out _ HB5.out) (fun _ => trivial) ?_
      simp only [Act.put, List.setIfInBounds_toArray, List.set_cons_zero, List.set_cons_succ, List.getElem_toArray, List.getElem_cons_zero, List.getElem_cons_succ]
      refine wpAnyL_done (by kernel_rfl) ?_ _
      clear hgt
      have hz5 := HB5.out.size
      cases hq : q t with
      | false =>
        have HQ := Lib.hid hq
        clear hq
        obtain ⟨d0, d1, d2, f0, f1, f2⟩ := tree_cells' ((HB5.out.block _ (by omega)).trans HBX.out.r)
        have ld : w.heap.size + 3 < w5.heap.size := by omega
        --@4
        go_wp2_with fail
        refine bodyPost_ret (v := .tuple #[.agg #[.int .i64 0, .int .i64 0, .slice none 0 0], .int .i64 7]) (by simp [results, Try.results20, go_sem, d0, d1, d2, ld]) rfl ?_
        have hset : ∀ (u : World) (q : Nat) (v : Value), Below w.heap.size u (u.setCell ⟨w.heap.size + 3, q, none⟩ v) := fun u q v => (Below.refl _ _).setCell (by show w.heap.size ≤ w.heap.size + 3; omega) _
        exact ⟨Or.inl ⟨HQ.out, rfl⟩, HB1.out.trans ((HB5.out.mono (by omega)).trans (((hset _ _ _).trans (hset _ _ _)).trans (hset _ _ _)))⟩
      | true =>
        have HQ := Lib.hid hq
        clear hq
        obtain ⟨⟨k0, k1, k2, k3⟩, k4, k5, k6, k7⟩ := HALL.out w5 HB5.out
        --@5
        go_wp2_with fail
        refine (treeClone t w5 _ A m c (by omega) (HS.out.below HB5.out)).mono ?_
        rintro e w6 ⟨⟨A6, m6, c6, rfl, hz⟩, hb6⟩
        have HZ := Lib.hid hz
        have hz6 := hb6.size
        have HB6 := Lib.hid (HB5.out.trans (hb6.mono (by omega)))
        clear k0 k1 k2 k3 k4 k5 k6 k7 hz hb6
        obtain ⟨d0, d1, d2, f0, f1, f2⟩ := tree_cells' ((HB6.out.block _ (by omega)).trans HTB.out)
        have ld := cell_lt d0
        have HSET := Lib.hid (show ∀ (u : World) (q : Nat) (v : Value), Below w.heap.size u (u.setCell ⟨w.heap.size + 1, q, none⟩ v) from fun u q v => (Below.refl _ _).setCell (by show w.heap.size ≤ w.heap.size + 1; omega) _)
        have HSZ := Lib.hid (fun (u : World) (p : Addr) (v : Value) => (by simp [World.setCell] : (u.setCell p v).heap.size = u.heap.size))
        have HST := Lib.hid (show ∀ (u : World) (q : Nat) (v : Value), ∀ b, b < u.heap.size → b ≠ w.heap.size + 1 → (u.setCell ⟨w.heap.size + 1, q, none⟩ v).heap[b]? = u.heap[b]? from fun u q v b _ hb => Below.heap_setCell _ _ _ _ hb)
        --@6
        go_wp2_with fail
        obtain ⟨w7, hw7⟩ : ∃ w7 : World, w7 = ((w6.setCell ⟨w.heap.size + 1, 0, none⟩ (.int .i64 t.rule)).setCell ⟨w.heap.size + 1, 1, none⟩ (.int .i64 t.term)).setCell ⟨w.heap.size + 1, 2, none⟩ (.slice A6 m6 c6) := ⟨_, rfl⟩
        rw [← hw7]
        have hinv : ShBox w.heap.size g AR nR cR F caps w7 ∧ TreeBox w.heap.size t A6 m6 c6 w7 ∧ Sl RTree w7 (fun b => w.heap.size + 4 ≤ b) A6 m6 c6 t.kids ∧ w.heap.size + 4 ≤ w7.heap.size ∧ Below w.heap.size w w7 := by
          rw [hw7]
          refine ⟨?_, tree_set3 ((HB6.out.block _ (by omega)).trans HTB.out) _ _ _, ?_, by rw [HSZ.out, HSZ.out, HSZ.out]; omega, HB1.out.trans ((HB6.out.mono (by omega)).trans (((HSET.out _ _ _).trans (HSET.out _ _ _)).trans (HSET.out _ _ _)))⟩
          · exact (((HBX.out.below HB6.out).same (HST.out _ _ _)).same (HST.out _ _ _)).same (HST.out _ _ _)
          · exact ((HZ.out.more (S' := fun b => w.heap.size + 4 ≤ b) (fun b hb => by omega)).keep (((Kept.setCell _ _ _ _ (by simp)).trans (.setCell _ _ _ _ (by simp))).trans (.setCell _ _ _ _ (by simp))))
        have HINV := Lib.hid hinv
        clear hinv hw7 d0 d1 d2 f0 f1 f2 ld
        go_loopg [] (sizeT t) (fun gk wr => ∃ (x : TreeD) (Ax : Option Addr) (mx cx : Nat), gk = sizeT x ∧ sizeT x ≤ sizeT t ∧ TV g.2.2.2 s x ∧ q x = true ∧ ShBox w.heap.size g AR nR cR F caps wr ∧ TreeBox w.heap.size x Ax mx cx wr ∧ Sl RTree wr (fun b => w.heap.size + 4 ≤ b) Ax mx cx x.kids ∧ w.heap.size + 4 ≤ wr.heap.size ∧ Below w.heap.size w wr)
        case atStart => exact ⟨t, A6, m6, c6, rfl, Nat.le_refl _, HTV.out, HQ.out, HINV.out⟩
        case round =>
          obtain ⟨x, Ax, mx, cx, hgk, hxt, hxv, hxq, hbx, htb, hsx, hzr, hb⟩ := hrel
          have HGK := Lib.hid hgk
          have HXV := Lib.hid hxv
          have HXQ := Lib.hid hxq
          have HBR := Lib.hid hbx
          have HTR := Lib.hid htb
          have HSX := Lib.hid hsx
          have HB := Lib.hid hb
          obtain ⟨w8, rfl⟩ : ∃ w8 : World, w8 = wr := ⟨_, rfl⟩
          obtain ⟨⟨k0, k1, k2, k3⟩, k4⟩ := hbx.cells
          obtain ⟨d0, d1, d2, f0, f1, f2⟩ := tree_cells' htb
          have ld := cell_lt d0
          clear hgk hxv hxq hbx htb hsx hb
          --@7
          go_wp2_with fail
          clear k0 k1 k2 k3 k4 d0 d1 d2 f0 f1 f2
          refine (shrinkSmaller w8 _ _ AR nR cR g (HG0.out.keep (.belowB HB.out (fun b hb => hb))) x s Ax mx cx HSX.out HXV.out (by omega)).mono ?_
          rintro e w9 ⟨⟨A9, n9, c9, rfl, hs9⟩, hb9⟩
          have hn9 : n9 ≤ 10000 := by rw [hs9.len]; exact smaller_len (by omega)
          have HS9 := Lib.hid hs9
          have hz9 := hb9.size
          have HB9 := Lib.hid hb9
          have HBX9 := Lib.hid (HBR.out.below hb9)
          clear hs9 hb9
          --@8
          go_wp2_with fail
          refine (indexFnT w9 _ _ (fun x => TV g.2.2.2 s x ∧ sizeT x ≤ 60) q A9 n9 c9 _ _ entersSh (shTreeFn w9 (w.heap.size + 2) F caps he _ q (HF.out w9 (HB.out.trans (HB9.out.mono HB.out.size))) HBX9.out.f (fun x hx => by have := hx.2; omega)) HS9.out (fun z hz => ⟨(smaller_ok HXV.out hz).1, by have := (smaller_ok HXV.out hz).2; omega⟩) (by omega)).mono ?_
          rintro e w10 ⟨rfl, hb10⟩
          have hz10 := hb10.size
          have HBA := Lib.hid (HB9.out.trans (hb10.mono hz9))
          have HS10 := Lib.hid (HS9.out.below hb10)
          have HBXA := Lib.hid (HBX9.out.below hb10)
          have HTRA := Lib.hid ((HBA.out.block _ (heap_lt HTR.out)).trans HTR.out)
          have HWA := Lib.hid (HB.out.trans (HBA.out.mono HB.out.size))
          obtain ⟨d0, d1, d2, f0, f1, f2⟩ := tree_cells' HTRA.out
          have ld := cell_lt d0
          clear hb10
          rcases idxA_cases q (smallerT g.2.2.2 x) with ⟨hix, hno⟩ | ⟨k, z, hix, hkz, hqz⟩
          · rw [hix]
            have HNO := Lib.hid hno
            clear hix hno
            obtain ⟨r0, r1, r2, e0, e1, e2⟩ := tree_cells' HBXA.out.r
            have ld3 : w.heap.size + 3 < w10.heap.size := by omega
            --@9
            go_wp2_with fail
            refine bodyPost_ret (v := .tuple #[.agg #[.int .i64 x.rule, .int .i64 x.term, .slice Ax mx cx], .int .i64 0]) (by simp [results, Try.results20, go_sem, r0, r1, r2, ld3]) rfl ?_
            have hset : ∀ (u : World) (q : Nat) (v : Value), Below w.heap.size u (u.setCell ⟨w.heap.size + 3, q, none⟩ v) := fun u q v => (Below.refl _ _).setCell (by show w.heap.size ≤ w.heap.size + 3; omega) _
            refine ⟨Or.inr ⟨HQ.out, x, Ax, mx, cx, rfl, ?_, HXV.out, HXQ.out, hxt, HNO.out⟩, HWA.out.trans (((hset _ _ _).trans (hset _ _ _)).trans (hset _ _ _))⟩
            exact ((HSX.out.below HBA.out).keep (((Kept.setCell _ _ _ _ (by simp)).trans (.setCell _ _ _ _ (by simp))).trans (.setCell _ _ _ _ (by simp)))).more (fun b hb => by omega)
          · rw [hix]
            have hk9 : k < n9 := by have := (List.getElem?_eq_some_iff.1 hkz).1; have := HS10.out.len; omega
            obtain ⟨bk, ok, Az, mz, cz, z', rfl, hSb, hbl, y0, y1, y2, hz', hzs⟩ := tree_at HS10.out hk9
            rw [hkz] at hz'
            injection hz' with hz'
            subst hz'
            obtain ⟨hzv, hzlt⟩ := smaller_ok HXV.out (List.mem_of_getElem? hkz)
            have HZV := Lib.hid hzv
            have HQZ := Lib.hid hqz
            have HZS := Lib.hid hzs
            have hkI : (k : Int) < (n9 : Int) := by omega
            have hk0 : (0 : Int) ≤ (k : Int) := by omega
            have hne : bk ≠ w.heap.size + 1 := by omega
            clear hix hkz hqz hzs hzv
            --@10
            go_wp2_with fail
            go_roundg (sizeT z)
            case measure => rw [HGK.out]; exact hzlt
            case rel =>
              refine ⟨z, Az, mz, cz, rfl, by omega, HZV.out, HQZ.out, (((HBXA.out).same (HST.out _ _ _)).same (HST.out _ _ _)).same (HST.out _ _ _), tree_set3 HTRA.out _ _ _, ?_, by rw [HSZ.out, HSZ.out, HSZ.out]; omega, HWA.out.trans (((HSET.out _ _ _).trans (HSET.out _ _ _)).trans (HSET.out _ _ _))⟩
              exact (HZS.out.more (S' := fun b => w.heap.size + 4 ≤ b) (fun b hb => by omega)).keep (((Kept.setCell _ _ _ _ (by simp)).trans (.setCell _ _ _ _ (by simp))).trans (.setCell _ _ _ _ (by simp)))
    exact AllL.nil
  exact AllL.nil
end Go.Proofs.Ytfmmpmphlognlaa
