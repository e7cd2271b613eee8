/- TreeC -/
import Derived.Test.YtbmcoamdfpegnaaMt33
import Derived.Test.YtbmcoamdfpegnaaMt36
namespace Go.Proofs.Ytbmcoamdfpegnaa
open Go.RowKit
set_option linter.unusedSimpArgs false in
set_option maxRecDepth 100000 in
set_option maxHeartbeats 1000000 in
theorem gramRoot (w : World) (S : Nat → Prop) (AR : Option Addr) (nR cR : Nat) (g : GramD) (hg : Sl RRule w S AR nR cR g.2.2.2) (s : SymD) (t : TreeD) (ht : TV g.2.2.2 s t) (A : Option Addr) (m c : Nat) :
    Calls Try.prog 38 #[.agg #[.int .i64 g.1, .int .i64 g.2.1, .int .i64 g.2.2.1, .slice AR nR cR], .agg #[.int .i64 t.rule, .int .i64 t.term, .slice A m c]] w fun e w' => e = .returned (.agg #[.bool s.1, .int .i64 s.2]) ∧ Below w.heap.size w w' := by
 rcases ht.inv with ⟨x, rfl, rfl⟩ | ⟨k, r, ts, rfl, rfl, h1, _⟩
 ·
  clear hg ht
  simp only [TreeD.rule, TreeD.term]
  go_enter Try.func38, Try.ntmps38
  go_wp2_with fail
  refine bodyPost_ret (v := .agg #[.bool true, .int .i64 x]) (by simp [results, Try.results38, go_sem]) rfl ⟨rfl, ?_⟩
  exact (((Below.refl _ _).alloc (Nat.le_refl _) _).alloc (by simp) _).alloc (by simp; omega) _
 ·
  have hk : k < nR := by
   have := (List.getElem?_eq_some_iff.1 h1).1
   have := hg.len
   omega
  obtain ⟨b, off, A2, m2, c2, r', rfl, _, hbl, hc1, hc2, hr, _⟩ := rule_at hg hk
  rw [h1] at hr
  injection hr with hr
  subst hr
  have hcx : ∀ o1 o2 o3 : Obj, (((w.alloc o1).alloc o2).alloc o3).cell? ⟨b, off + k * 2, none⟩ = some (.int .i64 r.1) := fun o1 o2 o3 =>
   Kept.alloc (fun _ => True) _ _ _ _ trivial (Kept.alloc (fun _ => True) _ _ _ _ trivial (Kept.alloc (fun _ => True) _ _ _ _ trivial hc1))
  clear hg ht h1 hc2 hc1
  simp only [TreeD.rule, TreeD.term]
  have hkI : (k : Int) < (nR : Int) := by omega
  have hk0 : (0 : Int) ≤ (k : Int) := by omega
  go_enter Try.func38, Try.ntmps38
  go_wp2_with fail
  refine bodyPost_ret (v := .agg #[.bool false, .int .i64 r.1]) (by simp [results, Try.results38, go_sem]) rfl ⟨rfl, ?_⟩
  exact (((Below.refl _ _).alloc (Nat.le_refl _) _).alloc (by simp) _).alloc (by simp; omega) _
def TellsTS (P : Program) (w0 : World) (R : List RuleD) (F : FuncId) (caps : Array Value) : Prop :=
 ∀ (w : World), Below w0.heap.size w0 w → ∀ (x : TreeD) (s : SymD) (A : Option Addr) (m c : Nat), TV R s x →
  Calls P F (#[.agg #[.int .i64 x.rule, .int .i64 x.term, .slice A m c], .agg #[.bool s.1, .int .i64 s.2]] ++ caps) w fun e w' => e = .returned (.bool true) ∧ Below w.heap.size w w'
set_option maxRecDepth 100000 in
set_option maxHeartbeats 1000000 in
theorem equalTS (w : World) (R : List RuleD) (F : FuncId) (caps : Array Value) (he : ∀ (args : Array Value) (u : World), (callFunc F args).run Try.prog u = .ok (.enter F args) u) (hF : TellsTS Try.prog w R F caps)
    (S : Nat → Prop) (A : Option Addr) (n c : Nat) (ts : List TreeD) (hts : Sl RTree w S A n c ts) (A' : Option Addr) (n' c' : Nat) (l : List SymD) (hl : Sl RSym w S A' n' c' l) (hv : TVL R l ts) (hn : n ≤ 1000000) :
    Calls Try.prog 88 #[.slice A n c, .slice A' n' c', .func (.func F) #[] caps] w fun e w' => e = .returned (.bool true) ∧ Below w.heap.size w w' := by
 have hnn : n' = n := by rw [hl.len, hts.len, hv.len]
 subst hnn
 have HF := Lib.hid hF
 have HT := Lib.hid hts
 have HL := Lib.hid hl
 have HV := Lib.hid hv
 clear hF hts hl hv
 go_enter Try.func88, Try.ntmps88
 go_wp2_with fail
 go_loopg [17] n' (fun gk i wr => ∃ k : Nat, k ≤ n' ∧ gk = n' - k ∧ i = .int .i64 k ∧ Below w.heap.size w wr)
 case atStart => exact ⟨0, Nat.zero_le _, rfl, rfl, Below.refl _ _⟩
 case round =>
  obtain ⟨k, hk, hgk, rfl, hb⟩ := hrel
  have HGK := Lib.hid hgk
  have HB := Lib.hid hb
  clear hgk hb
  by_cases hlt : k < n'
  ·
   obtain ⟨b, off, A3, m3, c3, x, rfl, _, _, hx0, hx1, hx2, hx, _⟩ := tree_at (HT.out.below HB.out) hlt
   obtain ⟨b', off', s, rfl, _, _, hs0, hs1, hs⟩ := sym_at (HL.out.below HB.out) hlt
   obtain ⟨s', hs', htv⟩ := HV.out.get hx
   rw [hs] at hs'
   injection hs' with hs'
   subst hs'
   have HTV := Lib.hid htv
   have hkI : (k : Int) < (n' : Int) := by omega
   have hk0 : (0 : Int) ≤ (k : Int) := by omega
   have hbl := cell_lt hx0
   have hbl' := cell_lt hs0
   clear hx hs htv
   go_wp2_with fail
   refine (HF.out _ ((HB.out.alloc HB.out.size _).alloc (by simp; exact Nat.le_succ_of_le HB.out.size) _) x s A3 m3 c3 HTV.out).mono ?_
   rintro e w1 ⟨rfl, hb1⟩
   have HB1 := Lib.hid (((HB.out.alloc HB.out.size (.cells #[.int .i64 x.rule, .int .i64 x.term, .slice A3 m3 c3] 55)).alloc (by simp; exact Nat.le_succ_of_le HB.out.size) (.cells #[.bool s.1, .int .i64 s.2] 42)).trans (hb1.mono (by have := HB.out.size; simp; omega)))
   clear hb1 hx0 hx1 hx2 hs0 hs1
   go_wp2_with fail
   go_roundg (n' - (k + 1))
   case measure => rw [HGK.out]; omega
   case rel => exact ⟨k + 1, by omega, rfl, by go_num, HB1.out⟩
  ·
   go_wp2_with fail
   go_ret
   exact ⟨rfl, HB.out⟩
set_option linter.unusedSimpArgs false in
set_option maxRecDepth 100000 in
set_option maxHeartbeats 2000000 in
theorem validFn1 (w : World) (Bg : Nat) (S : Nat → Prop) (AR : Option Addr) (nR cR : Nat) (g : GramD) (hB : w.heap[Bg]? = some (.cells #[.int .i64 g.1, .int .i64 g.2.1, .int .i64 g.2.2.1, .slice AR nR cR] 25 (0, 0))) (hg : Sl RRule w S AR nR cR g.2.2.2)
    (x : TreeD) (s : SymD) (A : Option Addr) (m c : Nat) (ht : TV g.2.2.2 s x) :
    Calls Try.prog 89 #[.agg #[.int .i64 x.rule, .int .i64 x.term, .slice A m c], .agg #[.bool s.1, .int .i64 s.2], .pointer (some ⟨Bg, 0, none⟩)] w fun e w' => e = .returned (.bool true) ∧ Below w.heap.size w w' := by
 have hr : (-1 : Int) ≤ x.rule ∧ x.rule < (nR : Int) := by
  rcases ht.inv with ⟨y, _, rfl⟩ | ⟨k, r, ts, _, rfl, h1, _⟩
  ·
   simp only [TreeD.rule]; omega
  ·
   have := (List.getElem?_eq_some_iff.1 h1).1
   have := hg.len
   simp only [TreeD.rule]
   omega
 obtain ⟨hr1, hr2⟩ := hr
 have d1 : decide ((-1 : Int) ≤ x.rule) = true := by simpa using hr1
 have d2 : decide (x.rule < (nR : Int)) = true := by simpa using hr2
 have hl := heap_lt hB
 obtain ⟨w1, hw1⟩ : ∃ w1 : World, w1 = (w.alloc (.cells #[.int .i64 x.rule, .int .i64 x.term, .slice A m c] 55)).alloc (.cells #[.bool s.1, .int .i64 s.2] 42) := ⟨_, rfl⟩
 have hz1 : w1.heap.size = w.heap.size + 2 := by rw [hw1]; simp
 have HB1 := Lib.hid (show Below w.heap.size w w1 by rw [hw1]; exact ((Below.refl _ _).alloc (Nat.le_refl _) _).alloc (by simp) _)
 have b1 : w1.heap[Bg]? = some (.cells #[.int .i64 g.1, .int .i64 g.2.1, .int .i64 g.2.2.1, .slice AR nR cR] 25 (0, 0)) := (HB1.out.block _ hl).trans hB
 have b2 : w1.heap[w.heap.size]? = some (.cells #[.int .i64 x.rule, .int .i64 x.term, .slice A m c] 55 (0, 0)) := by rw [hw1]; exact (Below.heap_alloc _ _ _ (by simp)).trans (heap_alloc_new w _)
 have b3 : w1.heap[w.heap.size + 1]? = some (.cells #[.bool s.1, .int .i64 s.2] 42 (0, 0)) := by rw [hw1]; exact heap_new _ _ _ (by simp)
 have hall : ∀ u : World, Below w1.heap.size w1 u → (u.cell? ⟨Bg, 0, none⟩ = some (.int .i64 g.1) ∧ u.cell? ⟨Bg, 1, none⟩ = some (.int .i64 g.2.1) ∧ u.cell? ⟨Bg, 2, none⟩ = some (.int .i64 g.2.2.1) ∧ u.cell? ⟨Bg, 3, none⟩ = some (.slice AR nR cR)) ∧
     (u.cell? ⟨w.heap.size, 0, none⟩ = some (.int .i64 x.rule) ∧ u.cell? ⟨w.heap.size, 1, none⟩ = some (.int .i64 x.term) ∧ u.cell? ⟨w.heap.size, 2, none⟩ = some (.slice A m c)) ∧ (u.cell? ⟨w.heap.size + 1, 0, none⟩ = some (.bool s.1) ∧ u.cell? ⟨w.heap.size + 1, 1, none⟩ = some (.int .i64 s.2)) := by
  intro u hu
  have e1 := (hu.block _ (by omega)).trans b1
  have e2 := (hu.block _ (by omega)).trans b2
  have e3 := (hu.block _ (by omega)).trans b3
  simp [World.cell?, e1, e2, e3]
 have HALL := Lib.hid hall
 have HK0 := Lib.hid (hall w1.drew (Below.refl _ _).drew)
 have HG := Lib.hid hg
 have HTV := Lib.hid ht
 have hse : (s.1 == s.1 && s.2 == s.2) = true := by simp
 have HEQ := Lib.hid (fun u => (eqSym s.1 s.1 s.2 s.2 u).trans (by rw [hse]))
 clear hB hg ht hall b1 b2 b3 hse
 go_enter Try.func89, Try.ntmps89
 go_wp2_with fail
 rw [← hw1]
 clear hw1
 refine wp_region_late (late := []) (S1 := fun u => (u.cell? ⟨Bg, 0, none⟩ = some (.int .i64 g.1) ∧ u.cell? ⟨Bg, 1, none⟩ = some (.int .i64 g.2.1) ∧ u.cell? ⟨Bg, 2, none⟩ = some (.int .i64 g.2.2.1) ∧ u.cell? ⟨Bg, 3, none⟩ = some (.slice AR nR cR)) ∧
     (u.cell? ⟨w.heap.size, 0, none⟩ = some (.int .i64 x.rule) ∧ u.cell? ⟨w.heap.size, 1, none⟩ = some (.int .i64 x.term) ∧ u.cell? ⟨w.heap.size, 2, none⟩ = some (.slice A m c)) ∧ (u.cell? ⟨w.heap.size + 1, 0, none⟩ = some (.bool s.1) ∧ u.cell? ⟨w.heap.size + 1, 1, none⟩ = some (.int .i64 s.2))) (S := fun _ => True) (by kernel_rfl) ?_
 refine wpAnyL_pure (i := 0) rfl (by kernel_rfl) (fun _ _ _ h => h) (Or.inl ⟨by rfl, (fun u hu => by obtain ⟨⟨k0, k1, k2, k3⟩, ⟨k4, k5, k6⟩, k7, k8⟩ := hu; go_simp; try rfl)⟩) HK0.out (fun _ => trivial) ?_
 simp only [Act.put, List.setIfInBounds_toArray, List.set_cons_zero, List.set_cons_succ, List.getElem_toArray, List.getElem_cons_zero, List.getElem_cons_succ]
 refine wpAnyL_pure (i := 1) rfl (by kernel_rfl) (fun _ _ _ h => h) (Or.inl ⟨by rfl, (fun u hu => by obtain ⟨⟨k0, k1, k2, k3⟩, ⟨k4, k5, k6⟩, k7, k8⟩ := hu; go_simp; try rfl)⟩) HK0.out (fun _ => trivial) ?_
 simp only [Act.put, List.setIfInBounds_toArray, List.set_cons_zero, List.set_cons_succ, List.getElem_toArray, List.getElem_cons_zero, List.getElem_cons_succ]
 refine wpAnyL_pure (i := 2) rfl (by kernel_rfl) (fun _ _ _ h => h) (Or.inl ⟨by rfl, (fun u hu => by obtain ⟨⟨k0, k1, k2, k3⟩, ⟨k4, k5, k6⟩, k7, k8⟩ := hu; go_simp; try rfl)⟩) HK0.out (fun _ => trivial) ?_
 simp only [Act.put, List.setIfInBounds_toArray, List.set_cons_zero, List.set_cons_succ, List.getElem_toArray, List.getElem_cons_zero, List.getElem_cons_succ]
 refine wpAnyL_pure (i := 3) rfl (by kernel_rfl) (fun _ _ _ h => h) (Or.inl ⟨by rfl, (fun u hu => by obtain ⟨⟨k0, k1, k2, k3⟩, ⟨k4, k5, k6⟩, k7, k8⟩ := hu; go_simp; try rfl)⟩) HK0.out (fun _ => trivial) ?_
 simp only [Act.put, List.setIfInBounds_toArray, List.set_cons_zero, List.set_cons_succ, List.getElem_toArray, List.getElem_cons_zero, List.getElem_cons_succ]
 refine wpAnyL_pure (i := 4) rfl (by kernel_rfl) (fun _ _ _ h => h) (Or.inl ⟨by rfl, (fun u hu => by obtain ⟨⟨k0, k1, k2, k3⟩, ⟨k4, k5, k6⟩, k7, k8⟩ := hu; go_simp; try rfl)⟩) HK0.out (fun _ => trivial) ?_
 simp only [Act.put, List.setIfInBounds_toArray, List.set_cons_zero, List.set_cons_succ, List.getElem_toArray, List.getElem_cons_zero, List.getElem_cons_succ]
 refine wpAnyL_pure (i := 5) rfl (by kernel_rfl) (fun _ _ _ h => h) (Or.inl ⟨by rfl, (fun u hu => by obtain ⟨⟨k0, k1, k2, k3⟩, ⟨k4, k5, k6⟩, k7, k8⟩ := hu; go_simp; try rfl)⟩) HK0.out (fun _ => trivial) ?_
 simp only [Act.put, List.setIfInBounds_toArray, List.set_cons_zero, List.set_cons_succ, List.getElem_toArray, List.getElem_cons_zero, List.getElem_cons_succ]
 refine wpAnyL_pure (i := 6) rfl (by kernel_rfl) (fun _ _ _ h => h) (Or.inl ⟨by rfl, (fun u hu => by obtain ⟨⟨k0, k1, k2, k3⟩, ⟨k4, k5, k6⟩, k7, k8⟩ := hu; go_simp; try rfl)⟩) HK0.out (fun _ => trivial) ?_
 simp only [Act.put, List.setIfInBounds_toArray, List.set_cons_zero, List.set_cons_succ, List.getElem_toArray, List.getElem_cons_zero, List.getElem_cons_succ]
 refine wpAnyL_pure (i := 7) rfl (by kernel_rfl) (fun _ _ _ h => h) (Or.inl ⟨by rfl, (fun u hu => by obtain ⟨⟨k0, k1, k2, k3⟩, ⟨k4, k5, k6⟩, k7, k8⟩ := hu; go_simp; try rfl)⟩) HK0.out (fun _ => trivial) ?_
 simp only [Act.put, List.setIfInBounds_toArray, List.set_cons_zero, List.set_cons_succ, List.getElem_toArray, List.getElem_cons_zero, List.getElem_cons_succ]
 refine wpAnyL_pure (i := 8) rfl (by kernel_rfl) (fun _ _ _ h => h) (Or.inl ⟨by rfl, (fun u hu => by obtain ⟨⟨k0, k1, k2, k3⟩, ⟨k4, k5, k6⟩, k7, k8⟩ := hu; go_simp; try rfl)⟩) HK0.out (fun _ => trivial) ?_
 simp only [Act.put, List.setIfInBounds_toArray, List.set_cons_zero, List.set_cons_succ, List.getElem_toArray, List.getElem_cons_zero, List.getElem_cons_succ]
 refine wpAnyL_pure (i := 9) rfl (by kernel_rfl) (fun _ _ _ h => h) (Or.inl ⟨by rfl, (fun u hu => by obtain ⟨⟨k0, k1, k2, k3⟩, ⟨k4, k5, k6⟩, k7, k8⟩ := hu; go_simp; try rfl)⟩) HK0.out (fun _ => trivial) ?_
 simp only [Act.put, List.setIfInBounds_toArray, List.set_cons_zero, List.set_cons_succ, List.getElem_toArray, List.getElem_cons_zero, List.getElem_cons_succ]
 refine wpAnyL_pure (i := 10) rfl (by kernel_rfl) (fun _ _ _ h => h) (Or.inl ⟨by rfl, (fun u hu => by obtain ⟨⟨k0, k1, k2, k3⟩, ⟨k4, k5, k6⟩, k7, k8⟩ := hu; go_simp; try rfl)⟩) HK0.out (fun _ => trivial) ?_
 simp only [Act.put, List.setIfInBounds_toArray, List.set_cons_zero, List.set_cons_succ, List.getElem_toArray, List.getElem_cons_zero, List.getElem_cons_succ]
 refine wpAnyL_pure (i := 11) rfl (by kernel_rfl) (fun _ _ _ h => h) (Or.inl ⟨by rfl, (fun u hu => by obtain ⟨⟨k0, k1, k2, k3⟩, ⟨k4, k5, k6⟩, k7, k8⟩ := hu; go_simp; try rfl)⟩) HK0.out (fun _ => trivial) ?_
 simp only [Act.put, List.setIfInBounds_toArray, List.set_cons_zero, List.set_cons_succ, List.getElem_toArray, List.getElem_cons_zero, List.getElem_cons_succ]
 refine wpAnyL_pure (i := 12) rfl (by kernel_rfl) (fun _ _ _ h => h) (Or.inl ⟨by rfl, (fun u hu => by obtain ⟨⟨k0, k1, k2, k3⟩, ⟨k4, k5, k6⟩, k7, k8⟩ := hu; go_simp; try rfl)⟩) HK0.out (fun _ => trivial) ?_
 simp only [Act.put, List.setIfInBounds_toArray, List.set_cons_zero, List.set_cons_succ, List.getElem_toArray, List.getElem_cons_zero, List.getElem_cons_succ]
 refine wpAnyL_pure (i := 13) rfl (by kernel_rfl) (fun _ _ _ h => h) (Or.inl ⟨by rfl, (fun u hu => by obtain ⟨⟨k0, k1, k2, k3⟩, ⟨k4, k5, k6⟩, k7, k8⟩ := hu; go_simp; try rfl)⟩) HK0.out (fun _ => trivial) ?_
 simp only [Act.put, List.setIfInBounds_toArray, List.set_cons_zero, List.set_cons_succ, List.getElem_toArray, List.getElem_cons_zero, List.getElem_cons_succ]
 refine wpAnyL_pure (i := 15) rfl (by kernel_rfl) (fun _ _ _ h => h) (Or.inl ⟨by rfl, (fun u hu => by obtain ⟨⟨k0, k1, k2, k3⟩, ⟨k4, k5, k6⟩, k7, k8⟩ := hu; go_simp; try rfl)⟩) HK0.out (fun _ => trivial) ?_
 simp only [Act.put, List.setIfInBounds_toArray, List.set_cons_zero, List.set_cons_succ, List.getElem_toArray, List.getElem_cons_zero, List.getElem_cons_succ]
 refine wpAnyL_ready (rs := [14]) (by kernel_rfl) (by simp) ?_
 refine AllL.cons rfl (fun K hK => ?_) ?_
 ·
  go_simp
  refine (gramRoot _ S AR nR cR g (HG.out.below HB1.out).drew s x HTV.out A m c).mono ?_
  rintro e w2 ⟨rfl, hb2⟩
  have HB2 := Lib.hid ((Below.refl w1.heap.size w1).drew.trans hb2)
  clear hb2
  refine hK.out _ _ (HALL.out _ HB2.out) (fun _ => trivial) ?_
  clear hK K
  refine wpAnyL_pure (i := 16) rfl (by kernel_rfl) (fun _ _ _ h => h) (Or.inl ⟨by rfl, (fun u hu => by have heq := HEQ.out u; go_simp; try rfl)⟩) (HALL.out _ HB2.out) (fun _ => trivial) ?_
  simp only [Act.put, List.setIfInBounds_toArray, List.set_cons_zero, List.set_cons_succ, List.getElem_toArray, List.getElem_cons_zero, List.getElem_cons_succ]
  refine wpAnyL_pure (i := 17) rfl (by kernel_rfl) (fun _ _ _ h => h) (Or.inl ⟨by rfl, (fun u hu => by obtain ⟨⟨k0, k1, k2, k3⟩, ⟨k4, k5, k6⟩, k7, k8⟩ := hu; go_simp; try rfl)⟩) (HALL.out _ HB2.out) (fun _ => trivial) ?_
  simp only [Act.put, List.setIfInBounds_toArray, List.set_cons_zero, List.set_cons_succ, List.getElem_toArray, List.getElem_cons_zero, List.getElem_cons_succ]
  refine wpAnyL_pure (i := 18) rfl (by kernel_rfl) (fun _ _ _ h => h) (Or.inl ⟨by rfl, (fun u hu => by obtain ⟨⟨k0, k1, k2, k3⟩, ⟨k4, k5, k6⟩, k7, k8⟩ := hu; go_simp; try rfl)⟩) (HALL.out _ HB2.out) (fun _ => trivial) ?_
  simp only [Act.put, List.setIfInBounds_toArray, List.set_cons_zero, List.set_cons_succ, List.getElem_toArray, List.getElem_cons_zero, List.getElem_cons_succ]
  refine wpAnyL_done (by kernel_rfl) ?_ _
  go_wp2_with fail
  go_ret
  exact ⟨rfl, HB1.out.trans (HB2.out.mono (by omega))⟩
 exact AllL.nil
end Go.Proofs.Ytbmcoamdfpegnaa
