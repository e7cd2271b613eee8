/- IntoS TreeV -/
import Derived.Test.YtbmcoamdfpegnaaMt36
import Derived.Test.YtbmcoamdfpegnaaMt37
import Derived.Test.YtbmcoamdfpegnaaMt42
namespace Go.Proofs.Ytbmcoamdfpegnaa
open Go.RowKit Go.Maps
theorem TLt.asymm {a b : TriD} (h : TLt a b) (h' : TLt b a) : False := by unfold TLt at h h'; omega
theorem sorted_same : ∀ {l m : List TriD}, l.Pairwise TLt → m.Pairwise TLt → (∀ t, t ∈ l ↔ t ∈ m) → l = m
 | [], [], _, _, _ => rfl
 | [], b :: m, _, _, h => by have := (h b).2 List.mem_cons_self; cases this
 | a :: l, [], _, _, h => by have := (h a).1 List.mem_cons_self; cases this
 | a :: l, b :: m, h1, h2, h => by
  obtain ⟨h3, h4⟩ := List.pairwise_cons.1 h1
  obtain ⟨h5, h6⟩ := List.pairwise_cons.1 h2
  have e : a = b := by
   rcases List.mem_cons.1 ((h a).1 List.mem_cons_self) with e | e
   ·
    exact e
   ·
    rcases List.mem_cons.1 ((h b).2 List.mem_cons_self) with e2 | e2
    ·
     exact e2.symm
    ·
     exact (TLt.asymm (h3 b e2) (h5 a e)).elim
  subst e
  rw [sorted_same h4 h6 fun t => ?_]
  constructor
  ·
   intro ht
   rcases List.mem_cons.1 ((h t).1 (List.mem_cons_of_mem _ ht)) with e | e
   ·
    subst e; exact (TLt.asymm (h3 t ht) (h3 t ht)).elim
   ·
    exact e
  ·
   intro ht
   rcases List.mem_cons.1 ((h t).2 (List.mem_cons_of_mem _ ht)) with e | e
   ·
    subst e; exact (TLt.asymm (h5 t ht) (h5 t ht)).elim
   ·
    exact e
theorem inW_same {M M' : Mkr} {W W' : List TriD} (hM : M.Ok) (hM' : M'.Ok) (e1 : M.d = M'.d) (e2 : M.R = M'.R) (hw : ∀ t ∈ W, Wd M.d M.R t) (hc : ClosedT M.d M.R (inW W)) (ht : ∀ t ∈ W, M.Tri t) (hw' : ∀ t ∈ W', Wd M'.d M'.R t) (hc' : ClosedT M'.d M'.R (inW W')) (ht' : ∀ t ∈ W', M'.Tri t) : inW W = inW W' := by
 have key : ∀ {M M' : Mkr} {W W' : List TriD}, M'.Ok → M.n = M'.n → M.d = M'.d → M.R = M'.R → (∀ t ∈ W, Wd M.d M.R t) → (∀ t ∈ W, M.Tri t) → ClosedT M'.d M'.R (inW W') → ∀ t, t ∈ W → t ∈ W' := by
  intro M M' W W' hM' hn e1 e2 hw ht hc' t hin
  have h1 := hw t hin
  rw [e1, e2] at h1
  have h2 := ht t hin
  unfold Mkr.Tri at h2
  have hterm : ∀ r ∈ M'.R, TermsL M'.d r.2 := fun r hr s hs e => by
   obtain ⟨_, _, h3⟩ := hM'.rule hr
   exact (h3 s hs).1 e
  have h3 : inW W' t = true := closed_told (q := t.1) (a := t.2.1) (p := t.2.2) hM'.val hc' hterm (by rw [← hM'.n, ← hn]; exact h2.1) h1
  exact of_decide_eq_true h3
 have hn : M.n = M'.n := by rw [hM.n, hM'.n, e1]
 funext t
 unfold inW
 rw [decide_eq_decide]
 exact ⟨key hM' hn e1 e2 hw ht hc' t, key hM hn.symm e1.symm e2.symm hw' ht' hc t⟩
theorem pr_same {M M' : Mkr} {W W' L L' : List TriD} (h : PrIn M W L) (h' : PrIn M' W' L') (ht : ∀ t ∈ W, M.Tri t) (ht' : ∀ t ∈ W', M'.Tri t) (e1 : M.d = M'.d) (e2 : M.R = M'.R) (e3 : M.st = M'.st) : L = L' ∧ allPR M W L = allPR M' W' L' := by
 have hW := inW_same h.hM h'.hM e1 e2 h.hw h.hc ht h'.hw h'.hc ht'
 have hL : L = L' := sorted_same h.hp h'.hp fun t => by rw [h.hL, h'.hL, e1, e2, e3, hW]
 refine ⟨hL, ?_⟩
 have hn : M.n = M'.n := by rw [h.hM.n, h'.hM.n, e1]
 subst hL
 unfold allPR startPR restPR tripPR instPR
 rw [e1, e2, e3, hW, hn]
theorem Img.same {M M' : Mkr} {W W' L L' : List TriD} (e1 : M.d = M'.d) (e2 : M.R = M'.R) (hL : L = L') (hP : allPR M W L = allPR M' W' L') : ∀ (m : Nat) {q z : Nat} {t x : TreeD}, sizeT t ≤ m → Img M W L q t x z → Img M' W' L' q t x z
 | 0, q, z, t, x, hm, _ => by rw [sizeT_eq] at hm; omega
 | m + 1, q, z, t, x, hm, h => by
  rcases h.inv with ⟨c, rfl, rfl, hd⟩ | ⟨k, j, i, r, ts, xs, qs, rfl, rfl, h1, h2, h3, h4, h5⟩
  ·
   exact .leaf (by rw [← e1]; exact hd)
  ·
   have hk : ∀ x ∈ ts, sizeT x ≤ m := fun x hx => by have := sizeT_kid (t := .node (k : Int) 0 ts) (x := x) hx; omega
   have key : ∀ (ts xs : List TreeD) (qs : List Nat) (q : Nat), (∀ x ∈ ts, sizeT x ≤ m) → ImgL M W L q ts xs qs z → ImgL M' W' L' q ts xs qs z := by
    intro ts
    induction ts with
    | nil => intro xs qs q _ h; obtain ⟨rfl, rfl, rfl⟩ := h.inv_nil; exact .nil
    | cons t ts ih =>
     intro xs qs q hk h
     obtain ⟨x, xs', p, qs', rfl, rfl, h1, h2⟩ := h.inv
     exact .cons (Img.same e1 e2 hL hP m (hk t List.mem_cons_self) h1) (ih xs' qs' p (fun y hy => hk y (List.mem_cons_of_mem _ hy)) h2)
   have h5' := key ts xs qs q hk h5
   subst hL
   rw [hP] at h3 h4
   exact .node (by rw [← e2]; exact h1) h2 h3 h4 h5'
theorem IntoD.same {M M' : Mkr} {W W' L L' : List TriD} {t X : TreeD} (e1 : M.d = M'.d) (e2 : M.R = M'.R) (e3 : M.st = M'.st) (hL : L = L') (hP : allPR M W L = allPR M' W' L') (h : IntoD M W L t X) : IntoD M' W' L' t X := by
 obtain ⟨x, j, z, rfl, hx, hf, h1, h2, hin⟩ := h
 have hx' := Img.same e1 e2 hL hP (sizeT t) (Nat.le_refl _) hx
 subst hL
 rw [e1] at hx' hf h1 h2 hin
 rw [e3] at h1 h2 hin
 rw [hP] at h1 h2
 exact ⟨x, j, z, rfl, hx', hf, h1, h2, hin⟩
theorem word_rng {M : Mkr} (hM : M.Ok) {t : TreeD} (ht : TV M.R (false, (M.st : Int)) t) : ∀ c ∈ wordT t, 0 ≤ c ∧ c < (cols M.d : Int) := by
 intro c hc
 unfold wordT wordOf at hc
 obtain ⟨x, hx, rfl⟩ := List.mem_map.1 hc
 obtain ⟨h1, h2⟩ := List.mem_filter.1 hx
 obtain ⟨s, hs, hg⟩ := TV.nodes (R := M.R) (G := fun s => s.1 = true → 0 ≤ s.2 ∧ s.2 < (cols M.d : Int)) (fun r hr s hs e => by
  obtain ⟨_, _, h3⟩ := hM.rule hr
  exact (h3 s hs).1 e) (sizeT t) (Nat.le_refl _) ht (fun e => by cases e) x h1
 have h2 : x.rule = -1 := of_decide_eq_true h2
 rcases hs.inv with ⟨c', rfl, rfl⟩ | ⟨k, r, ts, rfl, rfl, _⟩
 ·
  exact hg rfl
 ·
  have h2 : (k : Int) = -1 := h2
  omega
end Go.Proofs.Ytbmcoamdfpegnaa
namespace Go.Proofs.Ytbmcoamdfpegnaa
open Go.RowKit
theorem tellsValid1 (w : World) (Bg : Nat) (S : Nat → Prop) (AR : Option Addr) (nR cR : Nat) (g : GramD) (hB : w.heap[Bg]? = some (.cells #[.int .i64 g.1, .int .i64 g.2.1, .int .i64 g.2.2.1, .slice AR nR cR] 25 (0, 0))) (hg : Sl RRule w S AR nR cR g.2.2.2) :
    TellsTS Try.prog w g.2.2.2 89 #[.pointer (some ⟨Bg, 0, none⟩)] := fun w' hb x s A m c ht => validFn1 w' Bg S AR nR cR g ((hb.block _ (heap_lt hB)).trans hB) (hg.below hb) x s A m c ht
theorem entersValid1 : ∀ (args : Array Value) (u : World), (callFunc 89 args).run Try.prog u = .ok (.enter 89 args) u := enters_of Try.func89 (by kernel_rfl) rfl
set_option linter.unusedSimpArgs false in
set_option maxRecDepth 100000 in
set_option maxHeartbeats 2000000 in
theorem validFn (w : World) (Bg : Nat) (S : Nat → Prop) (AR : Option Addr) (nR cR : Nat) (g : GramD) (hB : w.heap[Bg]? = some (.cells #[.int .i64 g.1, .int .i64 g.2.1, .int .i64 g.2.2.1, .slice AR nR cR] 25 (0, 0))) (hg : Sl RRule w S AR nR cR g.2.2.2) (h32 : ∀ r ∈ g.2.2.2, r.2.length ≤ 1000)
    (x : TreeD) (s : SymD) (S' : Nat → Prop) (A : Option Addr) (m c : Nat) (hs : Sl RTree w S' A m c x.kids) (ht : TV g.2.2.2 s x) (hso : SymOk g.1 g.2.1 s) :
    Calls Try.prog 87 #[.agg #[.int .i64 x.rule, .int .i64 x.term, .slice A m c], .pointer (some ⟨Bg, 0, none⟩)] w fun e w' => e = .returned (.bool true) ∧ Below w.heap.size w w' := by
 have hl := heap_lt hB
 rcases ht.inv with ⟨y, rfl, rfl⟩ | ⟨k, r, ts, rfl, rfl, h1, h2⟩
 ·
  have hm := hs.len
  simp only [TreeD.rule, TreeD.term, TreeD.kids, List.length_nil] at hm ⊢
  subst hm
  obtain ⟨s1, s2⟩ := hso
  simp only [if_true] at s2
  have c0 : w.cell? ⟨Bg, 0, none⟩ = some (.int .i64 g.1) := by simp [World.cell?, hB]
  have d1 : decide ((0 : Int) ≤ y) = true := by simpa using s1
  have d2 : decide (y < g.1) = true := by simpa using s2
  clear hs ht hB hg h32
  go_enter Try.func87, Try.ntmps87
  go_wp2_with fail
  go_ret
  exact ⟨rfl, (Below.refl _ _).alloc (Nat.le_refl _) _⟩
 ·
  have hk : k < nR := by
   have := (List.getElem?_eq_some_iff.1 h1).1
   have := hg.len
   omega
  have hm := hs.len
  have hr4 := h32 r (List.mem_of_getElem? h1)
  have hlen := h2.len
  simp only [TreeD.rule, TreeD.term, TreeD.kids] at hm hs ⊢
  have hm1 : m ≤ 1000 := by omega
  obtain ⟨w1, hw1⟩ : ∃ w1 : World, w1 = w.alloc (.cells #[.int .i64 (k : Int), .int .i64 0, .slice A m c] 55) := ⟨_, rfl⟩
  have hz1 : w1.heap.size = w.heap.size + 1 := by rw [hw1]; simp
  have hb1 : Below w.heap.size w w1 := by rw [hw1]; exact (Below.refl _ _).alloc (Nat.le_refl _) _
  have HB1 := Lib.hid hb1
  have hg1 := hg.below hb1
  obtain ⟨b, off, A2, m2, c2, r', rfl, _, hbl, hc1, hc2, hr, hrs⟩ := rule_at hg1 hk
  rw [h1] at hr
  injection hr with hr
  subst hr
  have b1 : w1.heap[Bg]? = some (.cells #[.int .i64 g.1, .int .i64 g.2.1, .int .i64 g.2.2.1, .slice (some ⟨b, off, none⟩) nR cR] 25 (0, 0)) := (hb1.block _ hl).trans hB
  have b2 : w1.heap[w.heap.size]? = some (.cells #[.int .i64 (k : Int), .int .i64 0, .slice A m c] 55 (0, 0)) := by rw [hw1]; exact heap_alloc_new w _
  have hall : ∀ u : World, Below w1.heap.size w1 u → (u.cell? ⟨Bg, 0, none⟩ = some (.int .i64 g.1) ∧ u.cell? ⟨Bg, 1, none⟩ = some (.int .i64 g.2.1) ∧ u.cell? ⟨Bg, 2, none⟩ = some (.int .i64 g.2.2.1) ∧ u.cell? ⟨Bg, 3, none⟩ = some (.slice (some ⟨b, off, none⟩) nR cR)) ∧
      (u.cell? ⟨w.heap.size, 0, none⟩ = some (.int .i64 (k : Int)) ∧ u.cell? ⟨w.heap.size, 1, none⟩ = some (.int .i64 0) ∧ u.cell? ⟨w.heap.size, 2, none⟩ = some (.slice A m c)) ∧ u.cell? ⟨b, off + k * 2 + 1, none⟩ = some (.slice A2 m2 c2) := by
   intro u hu
   have e1 := (hu.block _ (by omega)).trans b1
   have e2 := (hu.block _ (by omega)).trans b2
   refine ⟨by simp [World.cell?, e1], by simp [World.cell?, e2], (hu.cell (p := ⟨b, off + k * 2 + 1, none⟩) hbl).trans hc2⟩
  have HALL := Lib.hid hall
  have HK0 := Lib.hid (hall w1.drew (Below.refl _ _).drew)
  have HG1 := Lib.hid hg1
  have HBL1 := Lib.hid b1
  have HTS := Lib.hid (hs.below hb1)
  have HRS := Lib.hid hrs
  have HV := Lib.hid h2
  have hkI : (k : Int) < (nR : Int) := by omega
  have hk0 : (0 : Int) ≤ (k : Int) := by omega
  have hcell3 : w.cell? ⟨Bg, 3, none⟩ = some (.slice (some ⟨b, off, none⟩) nR cR) := by simp [World.cell?, hB]
  clear hB hg ht hall b1 b2 hs h1 h2 hr4 hlen hso h32 hb1 hg1 hc1 hc2 hrs hm
  go_enter Try.func87, Try.ntmps87
  go_wp2_with fail
  rw [← hw1]
  clear hw1 hcell3
  refine wp_region_late (late := []) (S1 := fun u => (u.cell? ⟨Bg, 0, none⟩ = some (.int .i64 g.1) ∧ u.cell? ⟨Bg, 1, none⟩ = some (.int .i64 g.2.1) ∧ u.cell? ⟨Bg, 2, none⟩ = some (.int .i64 g.2.2.1) ∧ u.cell? ⟨Bg, 3, none⟩ = some (.slice (some ⟨b, off, none⟩) nR cR)) ∧
      (u.cell? ⟨w.heap.size, 0, none⟩ = some (.int .i64 (k : Int)) ∧ u.cell? ⟨w.heap.size, 1, none⟩ = some (.int .i64 0) ∧ u.cell? ⟨w.heap.size, 2, none⟩ = some (.slice A m c)) ∧ u.cell? ⟨b, off + k * 2 + 1, none⟩ = some (.slice A2 m2 c2)) (S := fun _ => True) (by kernel_rfl) ?_
  refine wpAnyL_pure (i := 0) rfl (by kernel_rfl) (fun _ _ _ h => h) (Or.inl ⟨by rfl, (fun u hu => by obtain ⟨⟨k0, k1, k2, k3⟩, ⟨k4, k5, k6⟩, k7⟩ := hu; go_simp; try rfl)⟩) HK0.out (fun _ => trivial) ?_
  simp only [Act.put, List.setIfInBounds_toArray, List.set_cons_zero, List.set_cons_succ, List.getElem_toArray, List.getElem_cons_zero, List.getElem_cons_succ]
  refine wpAnyL_pure (i := 1) rfl (by kernel_rfl) (fun _ _ _ h => h) (Or.inl ⟨by rfl, (fun u hu => by obtain ⟨⟨k0, k1, k2, k3⟩, ⟨k4, k5, k6⟩, k7⟩ := hu; go_simp; try rfl)⟩) HK0.out (fun _ => trivial) ?_
  simp only [Act.put, List.setIfInBounds_toArray, List.set_cons_zero, List.set_cons_succ, List.getElem_toArray, List.getElem_cons_zero, List.getElem_cons_succ]
  refine wpAnyL_pure (i := 2) rfl (by kernel_rfl) (fun _ _ _ h => h) (Or.inl ⟨by rfl, (fun u hu => by obtain ⟨⟨k0, k1, k2, k3⟩, ⟨k4, k5, k6⟩, k7⟩ := hu; go_simp; try rfl)⟩) HK0.out (fun _ => trivial) ?_
  simp only [Act.put, List.setIfInBounds_toArray, List.set_cons_zero, List.set_cons_succ, List.getElem_toArray, List.getElem_cons_zero, List.getElem_cons_succ]
  refine wpAnyL_pure (i := 3) rfl (by kernel_rfl) (fun _ _ _ h => h) (Or.inl ⟨by rfl, (fun u hu => by obtain ⟨⟨k0, k1, k2, k3⟩, ⟨k4, k5, k6⟩, k7⟩ := hu; go_simp; try rfl)⟩) HK0.out (fun _ => trivial) ?_
  simp only [Act.put, List.setIfInBounds_toArray, List.set_cons_zero, List.set_cons_succ, List.getElem_toArray, List.getElem_cons_zero, List.getElem_cons_succ]
  refine wpAnyL_pure (i := 4) rfl (by kernel_rfl) (fun _ _ _ h => h) (Or.inl ⟨by rfl, (fun u hu => by obtain ⟨⟨k0, k1, k2, k3⟩, ⟨k4, k5, k6⟩, k7⟩ := hu; go_simp; try rfl)⟩) HK0.out (fun _ => trivial) ?_
  simp only [Act.put, List.setIfInBounds_toArray, List.set_cons_zero, List.set_cons_succ, List.getElem_toArray, List.getElem_cons_zero, List.getElem_cons_succ]
  refine wpAnyL_pure (i := 5) rfl (by kernel_rfl) (fun _ _ _ h => h) (Or.inl ⟨by rfl, (fun u hu => by obtain ⟨⟨k0, k1, k2, k3⟩, ⟨k4, k5, k6⟩, k7⟩ := hu; go_simp; try rfl)⟩) HK0.out (fun _ => trivial) ?_
  simp only [Act.put, List.setIfInBounds_toArray, List.set_cons_zero, List.set_cons_succ, List.getElem_toArray, List.getElem_cons_zero, List.getElem_cons_succ]
  refine wpAnyL_pure (i := 6) rfl (by kernel_rfl) (fun _ _ _ h => h) (Or.inl ⟨by rfl, (fun u hu => by obtain ⟨⟨k0, k1, k2, k3⟩, ⟨k4, k5, k6⟩, k7⟩ := hu; go_simp; try rfl)⟩) HK0.out (fun _ => trivial) ?_
  simp only [Act.put, List.setIfInBounds_toArray, List.set_cons_zero, List.set_cons_succ, List.getElem_toArray, List.getElem_cons_zero, List.getElem_cons_succ]
  refine wpAnyL_pure (i := 7) rfl (by kernel_rfl) (fun _ _ _ h => h) (Or.inl ⟨by rfl, (fun u hu => by obtain ⟨⟨k0, k1, k2, k3⟩, ⟨k4, k5, k6⟩, k7⟩ := hu; go_simp; try rfl)⟩) HK0.out (fun _ => trivial) ?_
  simp only [Act.put, List.setIfInBounds_toArray, List.set_cons_zero, List.set_cons_succ, List.getElem_toArray, List.getElem_cons_zero, List.getElem_cons_succ]
  refine wpAnyL_pure (i := 8) rfl (by kernel_rfl) (fun _ _ _ h => h) (Or.inl ⟨by rfl, (fun u hu => by obtain ⟨⟨k0, k1, k2, k3⟩, ⟨k4, k5, k6⟩, k7⟩ := hu; go_simp; try rfl)⟩) HK0.out (fun _ => trivial) ?_
  simp only [Act.put, List.setIfInBounds_toArray, List.set_cons_zero, List.set_cons_succ, List.getElem_toArray, List.getElem_cons_zero, List.getElem_cons_succ]
  refine wpAnyL_pure (i := 9) rfl (by kernel_rfl) (fun _ _ _ h => h) (Or.inl ⟨by rfl, (fun u hu => by obtain ⟨⟨k0, k1, k2, k3⟩, ⟨k4, k5, k6⟩, k7⟩ := hu; go_simp; try rfl)⟩) HK0.out (fun _ => trivial) ?_
  simp only [Act.put, List.setIfInBounds_toArray, List.set_cons_zero, List.set_cons_succ, List.getElem_toArray, List.getElem_cons_zero, List.getElem_cons_succ]
  refine wpAnyL_ready (rs := [10]) (by kernel_rfl) (by simp) ?_
  refine AllL.cons rfl (fun K hK => ?_) ?_
  ·
   go_simp
   refine (equalTS w1.drew g.2.2.2 _ _ entersValid1 (tellsValid1 w1.drew Bg S _ nR cR g HBL1.out HG1.out.drew) (fun _ => True) _ _ _ ts (HTS.out.drew.more (fun _ _ => trivial)) _ _ _ r.2 (HRS.out.drew.more (fun _ _ => trivial)) HV.out (by omega)).mono ?_
   rintro e w2 ⟨rfl, hb2⟩
   have HB2 := Lib.hid ((Below.refl w1.heap.size w1).drew.trans hb2)
   clear hb2
   refine hK.out _ _ (HALL.out _ HB2.out) (fun _ => trivial) ?_
   clear hK K
   refine wpAnyL_pure (i := 11) rfl (by kernel_rfl) (fun _ _ _ h => h) (Or.inl ⟨by rfl, (fun u hu => by obtain ⟨⟨k0, k1, k2, k3⟩, ⟨k4, k5, k6⟩, k7⟩ := hu; go_simp; try rfl)⟩) (HALL.out _ HB2.out) (fun _ => trivial) ?_
   simp only [Act.put, List.setIfInBounds_toArray, List.set_cons_zero, List.set_cons_succ, List.getElem_toArray, List.getElem_cons_zero, List.getElem_cons_succ]
   refine wpAnyL_done (by kernel_rfl) ?_ _
   go_wp2_with fail
   go_ret
   exact ⟨rfl, HB1.out.trans (HB2.out.mono (by omega))⟩
  exact AllL.nil
theorem entersValid : ∀ (args : Array Value) (u : World), (callFunc 87 args).run Try.prog u = .ok (.enter 87 args) u := enters_of Try.func87 (by kernel_rfl) rfl
theorem visitsValid (B Bg : Nat) (AR : Option Addr) (nR cR : Nat) (g : GramD) (h32 : ∀ r ∈ g.2.2.2, r.2.length ≤ 1000) :
    Visits Try.prog B (fun _ _ => False) (fun w _ => w.heap[Bg]? = some (.cells #[.int .i64 g.1, .int .i64 g.2.1, .int .i64 g.2.2.1, .slice AR nR cR] 25 (0, 0)) ∧ Sl RRule w (fun _ => True) AR nR cR g.2.2.2) (fun x => ∃ s, TV g.2.2.2 s x ∧ SymOk g.1 g.2.1 s) 87 #[.pointer (some ⟨Bg, 0, none⟩)] where
 keepI := fun h hb => ⟨(hb.block _ (heap_lt h.1)).trans h.1, h.2.below hb⟩
 keepD := fun _ _ _ h => h
 own := fun _ h => h.elim
 leaf := fun _ ⟨_, h, _⟩ => h.leafy
 call := fun w _ x A m c _ _ hi hs ⟨s, ht, hso⟩ => (validFn w Bg _ AR nR cR g hi.1 hi.2 h32 x s _ A m c hs ht hso).mono fun _ _ ⟨h1, h2⟩ =>
  ⟨h1, ⟨(h2.block _ (heap_lt hi.1)).trans hi.1, hi.2.below h2⟩, Fr.of h2 fun _ h => h⟩
set_option maxRecDepth 100000 in
set_option maxHeartbeats 1000000 in
theorem treeValid (w : World) (S S' : Nat → Prop) (AR : Option Addr) (nR cR : Nat) (g : GramD) (hg : Sl RRule w S AR nR cR g.2.2.2) (hv : GValid g) (t : TreeD) (s : SymD) (A : Option Addr) (m c : Nat) (hs : Sl RTree w S' A m c t.kids) (ht : TV g.2.2.2 s t) (hso : SymOk g.1 g.2.1 s) (hsz : sizeT t ≤ 1000000) :
    Calls Try.prog 63 #[.agg #[.int .i64 g.1, .int .i64 g.2.1, .int .i64 g.2.2.1, .slice AR nR cR], .agg #[.int .i64 t.rule, .int .i64 t.term, .slice A m c]] w fun e w' => e = .returned (.bool true) ∧ Below w.heap.size w w' := by
 have HG := Lib.hid (hg.more (S' := fun _ => True) (fun _ _ => trivial))
 have HS := Lib.hid (hs.fit.more (S' := fun b => b < w.heap.size) (fun b hb => hb.2))
 have HSZ := Lib.hid hsz
 have HN := Lib.hid (TV.nodes (G := SymOk g.1 g.2.1) (fun r hr => (hv.rules r hr).2.2) _ (Nat.le_refl _) ht hso)
 have HV := Lib.hid (visitsValid w.heap.size w.heap.size AR nR cR g (fun r hr => by have := (hv.rules r hr).2.1; omega))
 have HE := Lib.hid entersValid
 clear hg hv hs ht hso hsz
 go_enter Try.func63, Try.ntmps63
 go_wp2_with fail
 refine (treeWalk HE.out HV.out (sizeT t) t _ [] A m c (Nat.le_refl _) (by have := HSZ.out; simpa using this) (by simp; omega) ⟨(Below.heap_alloc _ _ _ (by simp)).trans (heap_alloc_new w _), (HG.out.alloc _).alloc _⟩ ((HS.out.alloc _).alloc _) HN.out).mono ?_
 rintro e w1 ⟨rfl, _, hf⟩
 have hb : Below w.heap.size w w1 := (((Below.refl _ _).alloc (Nat.le_refl _) _).alloc (by simp) _).trans (hf.below (by simp; omega) (fun _ h => h.elim))
 have HB := Lib.hid hb
 clear hf hb
 go_wp2_with fail
 go_ret
 exact ⟨rfl, HB.out⟩
set_option maxRecDepth 100000 in
set_option maxHeartbeats 1000000 in
theorem treeCheck (w : World) (S S' : Nat → Prop) (AR : Option Addr) (nR cR : Nat) (g : GramD) (hg : Sl RRule w S AR nR cR g.2.2.2) (hv : GValid g) (t : TreeD) (s : SymD) (A : Option Addr) (m c : Nat) (hs : Sl RTree w S' A m c t.kids) (ht : TV g.2.2.2 s t) (hso : SymOk g.1 g.2.1 s) (hsz : sizeT t ≤ 5000) :
    Calls Try.prog 37 #[.agg #[.int .i64 g.1, .int .i64 g.2.1, .int .i64 g.2.2.1, .slice AR nR cR], .agg #[.int .i64 t.rule, .int .i64 t.term, .slice A m c]] w fun e w' => e = .returned (.int .i64 0) ∧ Below w.heap.size w w' := by
 obtain ⟨w1, hw1⟩ : ∃ w1 : World, w1 = (w.alloc (.cells #[.int .i64 g.1, .int .i64 g.2.1, .int .i64 g.2.2.1, .slice AR nR cR] 25)).alloc (.cells #[.int .i64 t.rule, .int .i64 t.term, .slice A m c] 55) := ⟨_, rfl⟩
 have hz1 : w1.heap.size = w.heap.size + 2 := by rw [hw1]; simp
 have hb1 : Below w.heap.size w w1 := by rw [hw1]; exact ((Below.refl _ _).alloc (Nat.le_refl _) _).alloc (by simp) _
 have HB1 := Lib.hid hb1
 have b1 : w1.heap[w.heap.size]? = some (.cells #[.int .i64 g.1, .int .i64 g.2.1, .int .i64 g.2.2.1, .slice AR nR cR] 25 (0, 0)) := by rw [hw1]; exact (Below.heap_alloc _ _ _ (by simp)).trans (heap_alloc_new w _)
 have b2 : w1.heap[w.heap.size + 1]? = some (.cells #[.int .i64 t.rule, .int .i64 t.term, .slice A m c] 55 (0, 0)) := by rw [hw1]; exact heap_new _ _ _ (by simp)
 have hall : ∀ u : World, Below w1.heap.size w1 u → (u.cell? ⟨w.heap.size, 0, none⟩ = some (.int .i64 g.1) ∧ u.cell? ⟨w.heap.size, 1, none⟩ = some (.int .i64 g.2.1) ∧ u.cell? ⟨w.heap.size, 2, none⟩ = some (.int .i64 g.2.2.1) ∧ u.cell? ⟨w.heap.size, 3, none⟩ = some (.slice AR nR cR)) ∧
     (u.cell? ⟨w.heap.size + 1, 0, none⟩ = some (.int .i64 t.rule) ∧ u.cell? ⟨w.heap.size + 1, 1, none⟩ = some (.int .i64 t.term) ∧ u.cell? ⟨w.heap.size + 1, 2, none⟩ = some (.slice A m c)) := by
  intro u hu
  have e1 := (hu.block _ (by omega)).trans b1
  have e2 := (hu.block _ (by omega)).trans b2
  simp [World.cell?, e1, e2]
 have HALL := Lib.hid hall
 have HG := Lib.hid (hg.below hb1)
 have HS := Lib.hid (hs.below hb1)
 have HV := Lib.hid hv
 have HT := Lib.hid ht
 have HSO := Lib.hid hso
 have HL := Lib.hid ht.leaves
 have hsz6 : sizeT t ≤ 1000000 := by omega
 have hszd : decide ((5000 : Int) < (sizeT t : Int)) = false := by simp; omega
 clear hg hv hs ht hso hb1 b1 b2 hall
 go_enter Try.func37, Try.ntmps37
 go_wp2_with fail
 rw [← hw1]
 clear hw1
 refine (gramCheck w1 S AR nR cR g HG.out HV.out).mono ?_
 rintro e w2 ⟨rfl, hb2⟩
 obtain ⟨_, k4, k5, k6⟩ := HALL.out _ hb2
 have HB2 := Lib.hid hb2
 clear hb2
 go_wp2_with fail
 clear k4 k5 k6
 refine (treeSize w2 S' t A m c (HS.out.below HB2.out) HL.out hsz6).mono ?_
 rintro e w3 ⟨rfl, hb3⟩
 have hb13 := HB2.out.trans (hb3.mono HB2.out.size)
 have HB3 := Lib.hid hb13
 obtain ⟨⟨k0, k1, k2, k3⟩, k4, k5, k6⟩ := HALL.out _ hb13
 clear hb3 hb13
 go_wp2_with fail
 clear k0 k1 k2 k3 k4 k5 k6
 refine (treeValid w3 S S' AR nR cR g (HG.out.below HB3.out) HV.out t s A m c (HS.out.below HB3.out) HT.out HSO.out hsz6).mono ?_
 rintro e w4 ⟨rfl, hb4⟩
 have HB4 := Lib.hid (HB1.out.trans ((HB3.out.trans (hb4.mono HB3.out.size)).mono (by omega)))
 clear hb4
 go_wp2_with fail
 go_ret
 exact ⟨rfl, HB4.out⟩
end Go.Proofs.Ytbmcoamdfpegnaa
