/- draw.Tree. -/
import Derived.Test.YthanhegomgbgbaaRankC
import Derived.Test.YthanhegomgbgbaaNum
import Derived.Test.YthanhegomgbgbaaDetPlain
namespace Go.Proofs.Ythanhegomgbgbaa
open Go.RowKit

/-- what draw.Tree returns where there are KN trees and the coins tell 'told' -/
def DrawOk (R : List RuleD) (st n base : Nat) (KN : Int) (told : Option (Nat × Nat)) (e : Ending) (w' : World) : Prop :=
  ((0 < KN → KN < 1000000000 → told = none) ∧ ∃ er : Int, er ≠ 0 ∧ e = .returned (.tuple #[.agg #[.int .i64 0, .int .i64 0, .slice none 0 0], .int .i64 0, .int .i64 er])) ∨
    ∃ (x u : Nat) (t : TreeD) (A : Option Addr) (m c : Nat), (0 < KN ∧ KN < 1000000000 ∧ (x : Int) < KN) ∧ told = some (x, u) ∧ e = .returned (.tuple #[.agg #[.int .i64 t.rule, .int .i64 t.term, .slice A m c], .int .i64 (u : Int), .int .i64 0]) ∧ Sl RTree w' (fun b => base ≤ b) A m c t.kids ∧ Unr R (false, (st : Int)) n x t
theorem zero_cells {w : World} {B : Nat} {T : TypeId} (h : w.heap[B]? = some (.cells #[.int .i64 0, .int .i64 0, .slice none 0 0] T (0, 0))) : ∀ i, (w.frozen? ⟨B, i, none⟩ = false) := fun i => by simp [World.frozen?, h]
set_option linter.unusedSimpArgs false in
set_option maxRecDepth 100000 in
set_option maxHeartbeats 8000000 in
theorem drawTree (w : World) (S S' : Nat → Prop) (AR : Option Addr) (nR cR : Nat) (g : GramD) (hg : Sl RRule w S AR nR cR g.2.2.2) (hv : GValid g) (n : Nat) (hn : n ≤ 24) (st : Nat) (hst : g.2.2.1 = (st : Int)) (KN : Int) (hK : KN = treesN g.2.2.2 st n)
    (A : Option Addr) (len c kb : Nat) (l : List Bool) (hr : Rd w S' 1 A len (l.map Value.bool)) (hl : len ≤ c) (hc : len ≤ 281474976710656) (hk1 : KN.toNat ≤ 2 ^ kb) (hk2 : ∀ j < kb, 2 ^ j < KN.toNat) (hk3 : kb ≤ 30) :
    Calls Try.prog 38 #[.agg #[.int .i64 g.1, .int .i64 g.2.1, .int .i64 g.2.2.1, .slice AR nR cR], .int .i64 n, .slice A len c] w fun e w' =>
      DrawOk g.2.2.2 st n w.heap.size KN (number KN.toNat kb l) e w' ∧ Below w.heap.size w w' := by
  have hstN : st < nonsOf g := by have := hv.st; unfold nonsOf; omega
  obtain ⟨NN, hNN⟩ : ∃ NN, NN = KN.toNat := ⟨_, rfl⟩
  rw [← hNN] at hk1 hk2 ⊢
  obtain ⟨told, htold⟩ : ∃ told, told = number NN kb l := ⟨_, rfl⟩
  rw [← htold]
  have HNN := Lib.hid hNN
  have HTO := Lib.hid htold
  clear hNN htold
  obtain ⟨w1, hw1⟩ : ∃ w1 : World, w1 = (w.alloc (.cells #[.int .i64 g.1, .int .i64 g.2.1, .int .i64 g.2.2.1, .slice AR nR cR] 25)).alloc (.cells #[.int .i64 0, .int .i64 0, .slice none 0 0] 34) := ⟨_, rfl⟩
  have hz1 : w1.heap.size = w.heap.size + 2 := by rw [hw1]; simp
  have hb1 : Below w.heap.size w w1 := by rw [hw1]; exact ((Below.refl _ _).alloc (Nat.le_refl _) _).alloc (by simp) _
  have HB1 := Lib.hid hb1
  have b1 : w1.heap[w.heap.size]? = some (.cells #[.int .i64 g.1, .int .i64 g.2.1, .int .i64 g.2.2.1, .slice AR nR cR] 25 (0, 0)) := by rw [hw1]; exact (Below.heap_alloc _ _ _ (by simp)).trans (heap_alloc_new w _)
  have b2 : w1.heap[w.heap.size + 1]? = some (.cells #[.int .i64 0, .int .i64 0, .slice none 0 0] 34 (0, 0)) := by rw [hw1]; exact heap_new _ _ _ (by simp)
  have hall : ∀ u : World, Below w1.heap.size w1 u → (u.cell? ⟨w.heap.size, 0, none⟩ = some (.int .i64 g.1) ∧ u.cell? ⟨w.heap.size, 1, none⟩ = some (.int .i64 g.2.1) ∧ u.cell? ⟨w.heap.size, 2, none⟩ = some (.int .i64 g.2.2.1) ∧ u.cell? ⟨w.heap.size, 3, none⟩ = some (.slice AR nR cR)) ∧
      u.heap[w.heap.size + 1]? = some (.cells #[.int .i64 0, .int .i64 0, .slice none 0 0] 34 (0, 0)) := by
    intro u hu
    have e1 := (hu.block _ (by omega)).trans b1
    exact ⟨by simp [World.cell?, e1], (hu.block _ (by omega)).trans b2⟩
  have HALL := Lib.hid hall
  have HG := Lib.hid (hg.fit.below hb1)
  have HR := Lib.hid (hr.below hb1)
  have HV := Lib.hid hv
  have HST := Lib.hid hst
  have HKE := Lib.hid hK
  have HK1 := Lib.hid hk1
  have HK2 := Lib.hid hk2
  have hrange := treesN_range (rulesN_of hv) (a := st) (k := n) hstN
  rw [← hK] at hrange
  clear hg hv hr hst hK hb1 b1 b2 hall hk1 hk2
  go_enter Try.func38, Try.ntmps38
  go_wp2_with fail
  rw [← hw1]
  clear hw1
  refine (rankCount w1 _ AR nR cR g HG.out HV.out n hn st HST.out).mono ?_
  rintro e w2 ⟨rfl, hb2⟩
  have HB2 := Lib.hid hb2
  obtain ⟨⟨k0, k1, k2, k3⟩, hblk⟩ := HALL.out _ hb2
  obtain ⟨d0, d1, d2, f0, f1, f2⟩ := tree_cells hblk
  have l0 := cell_lt d0
  have HB02 := Lib.hid (HB1.out.trans (hb2.mono (by omega)))
  have hset : ∀ (u : World) (q : Nat) (v : Value), Below w.heap.size u (u.setCell ⟨w.heap.size + 1, q, none⟩ v) := fun u q v => (Below.refl _ _).setCell (by show w.heap.size ≤ w.heap.size + 1; omega) _
  have HSET := Lib.hid hset
  unfold rcK rcE
  rw [← HKE.out]
  clear hb2 hblk hset
  by_cases hm : KN = -1
  · have HBAD := Lib.hid (show 0 < KN → KN < 1000000000 → told = none from fun h _ => by exfalso; omega)
    rw [if_pos (Or.inl hm), if_pos hm]
    clear hm hrange k0 k1 k2 k3
    --@1
    go_wp2_with fail
    refine bodyPost_ret (v := .tuple #[.agg #[.int .i64 0, .int .i64 0, .slice none 0 0], .int .i64 0, .int .i64 9]) (by simp [results, Try.results38, go_sem, d0, d1, d2]) rfl ?_
    exact ⟨Or.inl ⟨HBAD.out, 9, by decide, rfl⟩, HB02.out.trans (((HSET.out _ _ _).trans (HSET.out _ _ _)).trans (HSET.out _ _ _))⟩
  by_cases hL : 1000000000 ≤ KN
  · have HBAD := Lib.hid (show 0 < KN → KN < 1000000000 → told = none from fun _ h => by exfalso; omega)
    rw [if_pos (Or.inr hL), if_neg hm, if_pos hL]
    clear hm hrange hL k0 k1 k2 k3
    go_wp2_with fail
    refine bodyPost_ret (v := .tuple #[.agg #[.int .i64 0, .int .i64 0, .slice none 0 0], .int .i64 0, .int .i64 2]) (by simp [results, Try.results38, go_sem, d0, d1, d2]) rfl ?_
    exact ⟨Or.inl ⟨HBAD.out, 2, by decide, rfl⟩, HB02.out.trans (((HSET.out _ _ _).trans (HSET.out _ _ _)).trans (HSET.out _ _ _))⟩
  rw [if_neg (by omega), if_neg hm, if_neg hL]
  have hK0 : 0 ≤ KN := by omega
  have hK9 : KN < 1000000000 := by omega
  clear hm hrange hL
  by_cases h2 : KN = 0
  · have HBAD := Lib.hid (show 0 < KN → KN < 1000000000 → told = none from fun h _ => by exfalso; omega)
    have hd : (KN == 0) = true := by simpa using h2
    clear h2 k0 k1 k2 k3
    go_wp2_with fail
    refine bodyPost_ret (v := .tuple #[.agg #[.int .i64 0, .int .i64 0, .slice none 0 0], .int .i64 0, .int .i64 10]) (by simp [results, Try.results38, go_sem, d0, d1, d2]) rfl ?_
    exact ⟨Or.inl ⟨HBAD.out, 10, by decide, rfl⟩, HB02.out.trans (((HSET.out _ _ _).trans (HSET.out _ _ _)).trans (HSET.out _ _ _))⟩
  have hd : (KN == 0) = false := by simpa using h2
  have hKp : 0 < KN := by omega
  have hKt : KN = (NN : Int) := by have := HNN.out; omega
  have HKT := Lib.hid hKt
  have hNp : 1 ≤ NN := by omega
  have hN9 : NN ≤ 1000000000 := by omega
  have HR2 := Lib.hid (HR.out.below HB2.out)
  clear h2 hKt
  cases told with
  | none =>
    clear k0 k1 k2 k3
    go_wp2_with fail
    refine (number_no KN NN kb len c S' A l _ HKT.out hNp hN9 hl hc HK1.out HK2.out hk3 HR2.out HTO.out.symm).mono ?_
    rintro e _ ⟨rfl, rfl⟩
    go_wp2_with fail
    refine bodyPost_ret (v := .tuple #[.agg #[.int .i64 0, .int .i64 0, .slice none 0 0], .int .i64 0, .int .i64 5]) (by simp [results, Try.results38, go_sem, d0, d1, d2]) rfl ?_
    exact ⟨Or.inl ⟨fun _ _ => rfl, 5, by decide, rfl⟩, HB02.out.trans (((HSET.out _ _ _).trans (HSET.out _ _ _)).trans (HSET.out _ _ _))⟩
  | some xu =>
    obtain ⟨x, u⟩ := xu
    have hx := (number_hit hNp HTO.out.symm).2.1
    go_wp2_with fail
    refine (number_yes KN NN kb len c x u S' A l _ HKT.out hNp hN9 hl hc HK1.out HK2.out hk3 HR2.out HTO.out.symm).mono ?_
    rintro e _ ⟨rfl, rfl⟩
    have hxK : (x : Int) < KN := by have := HKT.out; omega
    --@5
    go_wp2_with fail
    refine (rankTree w2 _ AR nR cR g (HG.out.below HB2.out) HV.out n hn st HST.out KN HKE.out hK0 hK9 (x : Int) (by omega) (by omega)).mono ?_
    rintro e w3 ⟨h3, hb3⟩
    rcases h3 with ⟨h3, _⟩ | ⟨_, t, A3, m3, c3, rfl, hsl3, hu3⟩
    · exact absurd ⟨by omega, hxK⟩ h3
    rw [Int.toNat_natCast] at hu3
    have hz2 := HB2.out.size
    have hz3 := hb3.size
    have hblk3 := (HALL.out _ (HB2.out.trans (hb3.mono hz2))).2
    have hbx := (Below.heap_alloc w3 (.cells #[.int .i64 t.rule, .int .i64 t.term, .slice A3 m3 c3] 34) (w.heap.size + 1) (heap_lt hblk3)).trans hblk3
    obtain ⟨q0, q1, q2, g0, g1, g2⟩ := tree_cells hbx
    have hbb := HB02.out.trans ((hb3.alloc (by omega) (.cells #[.int .i64 t.rule, .int .i64 t.term, .slice A3 m3 c3] 34)).mono (by omega))
    have HBB := Lib.hid hbb
    have HSL := Lib.hid (hsl3.alloc (.cells #[.int .i64 t.rule, .int .i64 t.term, .slice A3 m3 c3] 34))
    have HU := Lib.hid hu3
    have l3 : w.heap.size + 1 < (w3.alloc (.cells #[.int .i64 t.rule, .int .i64 t.term, .slice A3 m3 c3] 34)).heap.size := heap_lt hbx
    clear hb3 hblk3 hbx hbb hsl3 hu3 k0 k1 k2 k3 d0 d1 d2 f0 f1 f2
    --@6
    go_wp2_with fail
    refine bodyPost_ret (v := .tuple #[.agg #[.int .i64 t.rule, .int .i64 t.term, .slice A3 m3 c3], .int .i64 (u : Int), .int .i64 0]) (by simp [results, Try.results38, go_sem, q0, q1, q2]) rfl ?_
    refine ⟨Or.inr ⟨x, u, t, A3, m3, c3, ⟨hKp, hK9, hxK⟩, rfl, rfl, ?_, HU.out⟩, HBB.out.trans (((HSET.out _ _ _).trans (HSET.out _ _ _)).trans (HSET.out _ _ _))⟩
    exact ((HSL.out.more (S' := fun b => w.heap.size + 2 ≤ b) (fun b hb => by omega)).keep (((Kept.setCell _ _ _ _ (by simp)).trans (.setCell _ _ _ _ (by simp))).trans (.setCell _ _ _ _ (by simp)))).more (fun b hb => by omega)
end Go.Proofs.Ythanhegomgbgbaa
