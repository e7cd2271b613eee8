/- tree.valid, tree.Check: a tree of the grammar is let by. -/
import Derived.Test.YtfmmpmphlognlaaTreeC
namespace Go.Proofs.Ytfmmpmphlognlaa
open Go.RowKit

theorem tellsValid1 (w : World) (Bg : Nat) (S : Nat → Prop) (AR : Option Addr) (nR cR : Nat) (g : GramD) (hB : w.heap[Bg]? = some (.cells #[.int .i64 g.1, .int .i64 g.2.1, .int .i64 g.2.2.1, .slice AR nR cR] 25 (0, 0))) (hg : Sl RRule w S AR nR cR g.2.2.2) :
    TellsTS Try.prog w g.2.2.2 106 #[.pointer (some ⟨Bg, 0, none⟩)] := fun w' hb x s A m c ht => validFn1 w' Bg S AR nR cR g ((hb.block _ (heap_lt hB)).trans hB) (hg.below hb) x s A m c ht
theorem entersValid1 : ∀ (args : Array Value) (u : World), (callFunc 106 args).run Try.prog u = .ok (.enter 106 args) u := enters_of Try.func106 (by kernel_rfl) rfl
set_option linter.unusedSimpArgs false in
set_option maxRecDepth 100000 in
set_option maxHeartbeats 2000000 in
theorem validFn (w : World) (Bg : Nat) (S : Nat → Prop) (AR : Option Addr) (nR cR : Nat) (g : GramD) (hB : w.heap[Bg]? = some (.cells #[.int .i64 g.1, .int .i64 g.2.1, .int .i64 g.2.2.1, .slice AR nR cR] 25 (0, 0))) (hg : Sl RRule w S AR nR cR g.2.2.2) (h32 : ∀ r ∈ g.2.2.2, r.2.length ≤ 1000)
    (x : TreeD) (s : SymD) (S' : Nat → Prop) (A : Option Addr) (m c : Nat) (hs : Sl RTree w S' A m c x.kids) (ht : TV g.2.2.2 s x) (hso : SymOk g.1 g.2.1 s) :
    Calls Try.prog 104 #[.agg #[.int .i64 x.rule, .int .i64 x.term, .slice A m c], .pointer (some ⟨Bg, 0, none⟩)] w fun e w' => e = .returned (.bool true) ∧ Below w.heap.size w w' := by
  have hl := heap_lt hB
  rcases ht.inv with ⟨y, rfl, rfl⟩ | ⟨k, r, ts, rfl, rfl, h1, h2⟩
  · have hm := hs.len
    simp only [TreeD.rule, TreeD.term, TreeD.kids, List.length_nil] at hm ⊢
    subst hm
    obtain ⟨s1, s2⟩ := hso
    simp only [if_true] at s2
    have c0 : w.cell? ⟨Bg, 0, none⟩ = some (.int .i64 g.1) := by simp [World.cell?, hB]
    have d1 : decide ((0 : Int) ≤ y) = true := by simpa using s1
    have d2 : decide (y < g.1) = true := by simpa using s2
    clear hs ht hB hg h32
    go_enter Try.func104, Try.ntmps104
    go_wp2_with fail
    go_ret
    exact ⟨rfl, (Below.refl _ _).alloc (Nat.le_refl _) _⟩
  · have hk : k < nR := by
      have := (List.getElem?_eq_some_iff.1 h1).1
      have := hg.len
      omega
    have hm := hs.len
    have hr4 := h32 r (List.mem_of_getElem? h1)
    have hlen := h2.len
    simp only [TreeD.rule, TreeD.term, TreeD.kids] at hm hs ⊢
    have hm1 : m ≤ 1000 := by omega
    obtain ⟨w1, hw1⟩ : ∃ w1 : World, w1 = w.alloc (.cells #[.int .i64 (k : Int), .int .i64 0, .slice A m c] 31) := ⟨_, rfl⟩
    have hz1 : w1.heap.size = w.heap.size + 1 := by rw [hw1]; simp
    have hb1 : Below w.heap.size w w1 := by rw [hw1]; exact (Below.refl _ _).alloc (Nat.le_refl _) _
    have HB1 := Lib.hid hb1
    have hg1 := hg.below hb1
    obtain ⟨b, off, A2, m2, c2, r', rfl, _, hbl, hc1, hc2, hr, hrs⟩ := rule_at hg1 hk
    rw [h1] at hr
    injection hr with hr
    subst hr
    have b1 : w1.heap[Bg]? = some (.cells #[.int .i64 g.1, .int .i64 g.2.1, .int .i64 g.2.2.1, .slice (some ⟨b, off, none⟩) nR cR] 25 (0, 0)) := (hb1.block _ hl).trans hB
    have b2 : w1.heap[w.heap.size]? = some (.cells #[.int .i64 (k : Int), .int .i64 0, .slice A m c] 31 (0, 0)) := by rw [hw1]; exact heap_alloc_new w _
    have hall : ∀ u : World, Below w1.heap.size w1 u → (u.cell? ⟨Bg, 0, none⟩ = some (.int .i64 g.1) ∧ u.cell? ⟨Bg, 1, none⟩ = some (.int .i64 g.2.1) ∧ u.cell? ⟨Bg, 2, none⟩ = some (.int .i64 g.2.2.1) ∧ u.cell? ⟨Bg, 3, none⟩ = some (.slice (some ⟨b, off, none⟩) nR cR)) ∧
        (u.cell? ⟨w.heap.size, 0, none⟩ = some (.int .i64 (k : Int)) ∧ u.cell? ⟨w.heap.size, 1, none⟩ = some (.int .i64 0) ∧ u.cell? ⟨w.heap.size, 2, none⟩ = some (.slice A m c)) ∧ u.cell? ⟨b, off + k * 2 + 1, none⟩ = some (.slice A2 m2 c2) := by
      intro u hu
      have e1 := (hu.block _ (by omega)).trans b1
      have e2 := (hu.block _ (by omega)).trans b2
      refine ⟨by simp [World.cell?, e1], by simp [World.cell?, e2], (hu.cell (p := ⟨b, off + k * 2 + 1, none⟩) hbl).trans hc2⟩
    have HALL := Lib.hid hall
    have HK0 := Lib.hid (hall w1.drew (Below.refl _ _).drew)
    have HG1 := Lib.hid hg1
    have HBL1 := Lib.hid b1
    have HTS := Lib.hid (hs.below hb1)
    have HRS := Lib.hid hrs
    have HV := Lib.hid h2
    have hkI : (k : Int) < (nR : Int) := by omega
    have hk0 : (0 : Int) ≤ (k : Int) := by omega
    have hcell3 : w.cell? ⟨Bg, 3, none⟩ = some (.slice (some ⟨b, off, none⟩) nR cR) := by simp [World.cell?, hB]
    clear hB hg ht hall b1 b2 hs h1 h2 hr4 hlen hso h32 hb1 hg1 hc1 hc2 hrs hm
    go_enter Try.func104, Try.ntmps104
    go_wp2_with fail
    rw [← hw1]
    clear hw1 hcell3
    refine wp_region_late (late := []) (S1 := fun u => (u.cell? ⟨Bg, 0, none⟩ = some (.int .i64 g.1) ∧ u.cell? ⟨Bg, 1, none⟩ = some (.int .i64 g.2.1) ∧ u.cell? ⟨Bg, 2, none⟩ = some (.int .i64 g.2.2.1) ∧ u.cell? ⟨Bg, 3, none⟩ = some (.slice (some ⟨b, off, none⟩) nR cR)) ∧
        (u.cell? ⟨w.heap.size, 0, none⟩ = some (.int .i64 (k : Int)) ∧ u.cell? ⟨w.heap.size, 1, none⟩ = some (.int .i64 0) ∧ u.cell? ⟨w.heap.size, 2, none⟩ = some (.slice A m c)) ∧ u.cell? ⟨b, off + k * 2 + 1, none⟩ = some (.slice A2 m2 c2)) (S := fun _ => True) (by kernel_rfl) ?_
    refine wpAnyL_pure (i := 0) rfl (by kernel_rfl) (fun _ _ _ h => h) (Or.inl ⟨by rfl, (fun u hu => by obtain ⟨⟨k0, k1, k2, k3⟩, ⟨k4, k5, k6⟩, k7⟩ := hu; go_simp; try rfl)⟩) HK0.out (fun _ => trivial) ?_
    simp only [Act.put, List.setIfInBounds_toArray, List.set_cons_zero, List.set_cons_succ, List.getElem_toArray, List.getElem_cons_zero, List.getElem_cons_succ]
    refine wpAnyL_pure (i := 1) rfl (by kernel_rfl) (fun _ _ _ h => h) (Or.inl ⟨by rfl, (fun u hu => by obtain ⟨⟨k0, k1, k2, k3⟩, ⟨k4, k5, k6⟩, k7⟩ := hu; go_simp; try rfl)⟩) HK0.out (fun _ => trivial) ?_
    simp only [Act.put, List.setIfInBounds_toArray, List.set_cons_zero, List.set_cons_succ, List.getElem_toArray, List.getElem_cons_zero, List.getElem_cons_succ]
    refine wpAnyL_pure (i := 2) rfl (by kernel_rfl) (fun _ _ _ h => h) (Or.inl ⟨by rfl, (fun u hu => by obtain ⟨⟨k0, k1, k2, k3⟩, ⟨k4, k5, k6⟩, k7⟩ := hu; go_simp; try rfl)⟩) HK0.out (fun _ => trivial) ?_
    simp only [Act.put, List.setIfInBounds_toArray, List.set_cons_zero, List.set_cons_succ, List.getElem_toArray, List.getElem_cons_zero, List.getElem_cons_succ]
    refine wpAnyL_pure (i := 3) rfl (by kernel_rfl) (fun _ _ _ h => h) (Or.inl ⟨by rfl, (fun u hu => by obtain ⟨⟨k0, k1, k2, k3⟩, ⟨k4, k5, k6⟩, k7⟩ := hu; go_simp; try rfl)⟩) HK0.out (fun _ => trivial) ?_
    simp only [Act.put, List.setIfInBounds_toArray, List.set_cons_zero, List.set_cons_succ, List.getElem_toArray, List.getElem_cons_zero, List.getElem_cons_succ]
    refine wpAnyL_pure (i := 4) rfl (by kernel_rfl) (fun _ _ _ h => h) (Or.inl ⟨by rfl, (fun u hu => by obtain ⟨⟨k0, k1, k2, k3⟩, ⟨k4, k5, k6⟩, k7⟩ := hu; go_simp; try rfl)⟩) HK0.out (fun _ => trivial) ?_
    simp only [Act.put, List.setIfInBounds_toArray, List.set_cons_zero, List.set_cons_succ, List.getElem_toArray, List.getElem_cons_zero, List.getElem_cons_succ]
    refine wpAnyL_pure (i := 5) rfl (by kernel_rfl) (fun _ _ _ h => h) (Or.inl ⟨by rfl, (fun u hu => by obtain ⟨⟨k0, k1, k2, k3⟩, ⟨k4, k5, k6⟩, k7⟩ := hu; go_simp; try rfl)⟩) HK0.out (fun _ => trivial) ?_
    simp only [Act.put, List.setIfInBounds_toArray, List.set_cons_zero, List.set_cons_succ, List.getElem_toArray, List.getElem_cons_zero, List.getElem_cons_succ]
    refine wpAnyL_pure (i := 6) rfl (by kernel_rfl) (fun _ _ _ h => h) (Or.inl ⟨by rfl, (fun u hu => by obtain ⟨⟨k0, k1, k2, k3⟩, ⟨k4, k5, k6⟩, k7⟩ := hu; go_simp; try rfl)⟩) HK0.out (fun _ => trivial) ?_
    simp only [Act.put, List.setIfInBounds_toArray, List.set_cons_zero, List.set_cons_succ, List.getElem_toArray, List.getElem_cons_zero, List.getElem_cons_succ]
    refine wpAnyL_pure (i := 7) rfl (by kernel_rfl) (fun _ _ _ h => h) (Or.inl ⟨by rfl, (fun u hu => by obtain ⟨⟨k0, k1, k2, k3⟩, ⟨k4, k5, k6⟩, k7⟩ := hu; go_simp; try rfl)⟩) HK0.out (fun _ => trivial) ?_
    simp only [Act.put, List.setIfInBounds_toArray, List.set_cons_zero, List.set_cons_succ, List.getElem_toArray, List.getElem_cons_zero, List.getElem_cons_succ]
    refine wpAnyL_pure (i := 8) rfl (by kernel_rfl) (fun _ _ _ h => h) (Or.inl ⟨by rfl, (fun u hu => by obtain ⟨⟨k0, k1, k2, k3⟩, ⟨k4, k5, k6⟩, k7⟩ := hu; go_simp; try rfl)⟩) HK0.out (fun _ => trivial) ?_
    simp only [Act.put, List.setIfInBounds_toArray, List.set_cons_zero, List.set_cons_succ, List.getElem_toArray, List.getElem_cons_zero, List.getElem_cons_succ]
    refine wpAnyL_pure (i := 9) rfl (by kernel_rfl) (fun _ _ _ h => h) (Or.inl ⟨by rfl, (fun u hu => by obtain ⟨⟨k0, k1, k2, k3⟩, ⟨k4, k5, k6⟩, k7⟩ := hu; go_simp; try rfl)⟩) HK0.out (fun _ => trivial) ?_
    simp only [Act.put, List.setIfInBounds_toArray, List.set_cons_zero, List.set_cons_succ, List.getElem_toArray, List.getElem_cons_zero, List.getElem_cons_succ]
    refine wpAnyL_ready (rs := [10]) (by kernel_rfl) (by simp) ?_
    refine AllL.cons rfl (fun K hK => ?_) ?_
    · go_simp
      refine (equalTS w1.drew g.2.2.2 _ _ entersValid1 (tellsValid1 w1.drew Bg S _ nR cR g HBL1.out HG1.out.drew) (fun _ => True) _ _ _ ts (HTS.out.drew.more (fun _ _ => trivial)) _ _ _ r.2 (HRS.out.drew.more (fun _ _ => trivial)) HV.out (by omega)).mono ?_
      rintro e w2 ⟨rfl, hb2⟩
      have HB2 := Lib.hid ((Below.refl w1.heap.size w1).drew.trans hb2)
      clear hb2
      refine hK.out _ _ (HALL.out _ HB2.out) (fun _ => trivial) ?_
      clear hK K
      refine wpAnyL_pure (i := 11) rfl (by kernel_rfl) (fun _ _ _ h => h) (Or.inl ⟨by rfl, (fun u hu => by obtain ⟨⟨k0, k1, k2, k3⟩, ⟨k4, k5, k6⟩, k7⟩ := hu; go_simp; try rfl)⟩) (HALL.out _ HB2.out) (fun _ => trivial) ?_
      simp only [Act.put, List.setIfInBounds_toArray, List.set_cons_zero, List.set_cons_succ, List.getElem_toArray, List.getElem_cons_zero, List.getElem_cons_succ]
      refine wpAnyL_done (by kernel_rfl) ?_ _
      go_wp2_with fail
      go_ret
      exact ⟨rfl, HB1.out.trans (HB2.out.mono (by omega))⟩
    exact AllL.nil
theorem entersValid : ∀ (args : Array Value) (u : World), (callFunc 104 args).run Try.prog u = .ok (.enter 104 args) u := enters_of Try.func104 (by kernel_rfl) rfl
theorem visitsValid (B Bg : Nat) (AR : Option Addr) (nR cR : Nat) (g : GramD) (h32 : ∀ r ∈ g.2.2.2, r.2.length ≤ 1000) :
    Visits Try.prog B (fun _ _ => False) (fun w _ => w.heap[Bg]? = some (.cells #[.int .i64 g.1, .int .i64 g.2.1, .int .i64 g.2.2.1, .slice AR nR cR] 25 (0, 0)) ∧ Sl RRule w (fun _ => True) AR nR cR g.2.2.2) (fun x => ∃ s, TV g.2.2.2 s x ∧ SymOk g.1 g.2.1 s) 104 #[.pointer (some ⟨Bg, 0, none⟩)] where
  keepI := fun h hb => ⟨(hb.block _ (heap_lt h.1)).trans h.1, h.2.below hb⟩
  keepD := fun _ _ _ h => h
  own := fun _ h => h.elim
  leaf := fun _ ⟨_, h, _⟩ => h.leafy
  call := fun w _ x A m c _ _ hi hs ⟨s, ht, hso⟩ => (validFn w Bg _ AR nR cR g hi.1 hi.2 h32 x s _ A m c hs ht hso).mono fun _ _ ⟨h1, h2⟩ =>
    ⟨h1, ⟨(h2.block _ (heap_lt hi.1)).trans hi.1, hi.2.below h2⟩, Fr.of h2 fun _ h => h⟩
set_option maxRecDepth 100000 in
set_option maxHeartbeats 1000000 in
theorem treeValid (w : World) (S S' : Nat → Prop) (AR : Option Addr) (nR cR : Nat) (g : GramD) (hg : Sl RRule w S AR nR cR g.2.2.2) (hv : GValid g) (t : TreeD) (s : SymD) (A : Option Addr) (m c : Nat) (hs : Sl RTree w S' A m c t.kids) (ht : TV g.2.2.2 s t) (hso : SymOk g.1 g.2.1 s) (hsz : sizeT t ≤ 1000000) :
    Calls Try.prog 62 #[.agg #[.int .i64 g.1, .int .i64 g.2.1, .int .i64 g.2.2.1, .slice AR nR cR], .agg #[.int .i64 t.rule, .int .i64 t.term, .slice A m c]] w fun e w' => e = .returned (.bool true) ∧ Below w.heap.size w w' := by
  have HG := Lib.hid (hg.more (S' := fun _ => True) (fun _ _ => trivial))
  have HS := Lib.hid (hs.fit.more (S' := fun b => b < w.heap.size) (fun b hb => hb.2))
  have HSZ := Lib.hid hsz
  have HN := Lib.hid (TV.nodes (G := SymOk g.1 g.2.1) (fun r hr => (hv.rules r hr).2.2) _ (Nat.le_refl _) ht hso)
  have HV := Lib.hid (visitsValid w.heap.size w.heap.size AR nR cR g (fun r hr => by have := (hv.rules r hr).2.1; omega))
  have HE := Lib.hid entersValid
  clear hg hv hs ht hso hsz
  go_enter Try.func62, Try.ntmps62
  go_wp2_with fail
  refine (treeWalk HE.out HV.out (sizeT t) t _ [] A m c (Nat.le_refl _) (by have := HSZ.out; simpa using this) (by simp; omega) ⟨(Below.heap_alloc _ _ _ (by simp)).trans (heap_alloc_new w _), (HG.out.alloc _).alloc _⟩ ((HS.out.alloc _).alloc _) HN.out).mono ?_
  rintro e w1 ⟨rfl, _, hf⟩
  have hb : Below w.heap.size w w1 := (((Below.refl _ _).alloc (Nat.le_refl _) _).alloc (by simp) _).trans (hf.below (by simp; omega) (fun _ h => h.elim))
  have HB := Lib.hid hb
  clear hf hb
  go_wp2_with fail
  go_ret
  exact ⟨rfl, HB.out⟩
set_option maxRecDepth 100000 in
set_option maxHeartbeats 1000000 in
theorem treeCheck (w : World) (S S' : Nat → Prop) (AR : Option Addr) (nR cR : Nat) (g : GramD) (hg : Sl RRule w S AR nR cR g.2.2.2) (hv : GValid g) (t : TreeD) (s : SymD) (A : Option Addr) (m c : Nat) (hs : Sl RTree w S' A m c t.kids) (ht : TV g.2.2.2 s t) (hso : SymOk g.1 g.2.1 s) (hsz : sizeT t ≤ 5000) :
    Calls Try.prog 21 #[.agg #[.int .i64 g.1, .int .i64 g.2.1, .int .i64 g.2.2.1, .slice AR nR cR], .agg #[.int .i64 t.rule, .int .i64 t.term, .slice A m c]] w fun e w' => e = .returned (.int .i64 0) ∧ Below w.heap.size w w' := by
  obtain ⟨w1, hw1⟩ : ∃ w1 : World, w1 = (w.alloc (.cells #[.int .i64 g.1, .int .i64 g.2.1, .int .i64 g.2.2.1, .slice AR nR cR] 25)).alloc (.cells #[.int .i64 t.rule, .int .i64 t.term, .slice A m c] 31) := ⟨_, rfl⟩
  have hz1 : w1.heap.size = w.heap.size + 2 := by rw [hw1]; simp
  have hb1 : Below w.heap.size w w1 := by rw [hw1]; exact ((Below.refl _ _).alloc (Nat.le_refl _) _).alloc (by simp) _
  have HB1 := Lib.hid hb1
  have b1 : w1.heap[w.heap.size]? = some (.cells #[.int .i64 g.1, .int .i64 g.2.1, .int .i64 g.2.2.1, .slice AR nR cR] 25 (0, 0)) := by rw [hw1]; exact (Below.heap_alloc _ _ _ (by simp)).trans (heap_alloc_new w _)
  have b2 : w1.heap[w.heap.size + 1]? = some (.cells #[.int .i64 t.rule, .int .i64 t.term, .slice A m c] 31 (0, 0)) := by rw [hw1]; exact heap_new _ _ _ (by simp)
  have hall : ∀ u : World, Below w1.heap.size w1 u → (u.cell? ⟨w.heap.size, 0, none⟩ = some (.int .i64 g.1) ∧ u.cell? ⟨w.heap.size, 1, none⟩ = some (.int .i64 g.2.1) ∧ u.cell? ⟨w.heap.size, 2, none⟩ = some (.int .i64 g.2.2.1) ∧ u.cell? ⟨w.heap.size, 3, none⟩ = some (.slice AR nR cR)) ∧
      (u.cell? ⟨w.heap.size + 1, 0, none⟩ = some (.int .i64 t.rule) ∧ u.cell? ⟨w.heap.size + 1, 1, none⟩ = some (.int .i64 t.term) ∧ u.cell? ⟨w.heap.size + 1, 2, none⟩ = some (.slice A m c)) := by
    intro u hu
    have e1 := (hu.block _ (by omega)).trans b1
    have e2 := (hu.block _ (by omega)).trans b2
    simp [World.cell?, e1, e2]
  have HALL := Lib.hid hall
  have HG := Lib.hid (hg.below hb1)
  have HS := Lib.hid (hs.below hb1)
  have HV := Lib.hid hv
  have HT := Lib.hid ht
  have HSO := Lib.hid hso
  have HL := Lib.hid ht.leaves
  have hsz6 : sizeT t ≤ 1000000 := by omega
  have hszd : decide ((5000 : Int) < (sizeT t : Int)) = false := by simp; omega
  clear hg hv hs ht hso hb1 b1 b2 hall
  go_enter Try.func21, Try.ntmps21
  go_wp2_with fail
  rw [← hw1]
  clear hw1
  refine (gramCheck w1 S AR nR cR g HG.out HV.out).mono ?_
  rintro e w2 ⟨rfl, hb2⟩
  obtain ⟨_, k4, k5, k6⟩ := HALL.out _ hb2
  have HB2 := Lib.hid hb2
  clear hb2
  go_wp2_with fail
  clear k4 k5 k6
  refine (treeSize w2 S' t A m c (HS.out.below HB2.out) HL.out hsz6).mono ?_
  rintro e w3 ⟨rfl, hb3⟩
  have hb13 := HB2.out.trans (hb3.mono HB2.out.size)
  have HB3 := Lib.hid hb13
  obtain ⟨⟨k0, k1, k2, k3⟩, k4, k5, k6⟩ := HALL.out _ hb13
  clear hb3 hb13
  go_wp2_with fail
  clear k0 k1 k2 k3 k4 k5 k6
  refine (treeValid w3 S S' AR nR cR g (HG.out.below HB3.out) HV.out t s A m c (HS.out.below HB3.out) HT.out HSO.out hsz6).mono ?_
  rintro e w4 ⟨rfl, hb4⟩
  have HB4 := Lib.hid (HB1.out.trans ((HB3.out.trans (hb4.mono HB3.out.size)).mono (by omega)))
  clear hb4
  go_wp2_with fail
  go_ret
  exact ⟨rfl, HB4.out⟩
end Go.Proofs.Ytfmmpmphlognlaa
