/- rank: the number of a tree. -/
import Derived.Test.YthanhegomgbgbaaRankRate
import Derived.Test.YthanhegomgbgbaaTreeV
namespace Go.Proofs.Ythanhegomgbgbaa
open Go.RowKit

section
variable {L : Lay} {g : GramD} {n : Nat}
/-- Counter.List of what stands behind a symbol, whether or not this has a word of the length -/
theorem listOr (hn : n ≤ 1000) (hR : RulesN (nonsOf g) g.2.2.2) (hrl : g.2.2.2.length ≤ 1000) (x : Nat × Nat) (hx : x.1 < nonsOf g) (hxn : x.2 ≤ n) (hm : ¬ Many g.2.2.2 x) (s : SymD) (l2 : List SymD) (rest p : Nat) (hsx : Suffix g.2.2.2 x (s :: l2) rest) (hp : p ≤ rest) (hrn : rest ≤ n)
    (u : World) (hc : Cok u L g n) (S' : Nat → Prop) (hS' : ∀ b, S' b → b < L.l3) (A : Option Addr) (m c : Nat) (hl : Sl RSym u S' A m c l2) :
    Calls Try.prog 95 #[.pointer (some ⟨L.Bc, 0, none⟩), .slice A m c, .int .i64 ((rest - p : Nat) : Int)] u fun e w' => (∃ rv : Int, e = .returned (.int .i64 rv) ∧ (Der g.2.2.2 [s] p → rv = (lN g.2.2.2 l2 (rest - p) : Nat))) ∧ Cok w' L g n ∧ Aside L.l3 L.hi u w' := by
  by_cases hd : Der g.2.2.2 [s] p
  · refine (ctrList hn hR x hx hm (fun y hy => ctrOf hn hR hrl y.1 y.2 (hy.lt hR) (Nat.le_trans hy.le hxn)) l2 u hc _ (fun b hb => Or.inl (hS' b hb)) _ _ _ hl (rest - p) (hsx.next hp hd) (by omega)).mono ?_
    rintro e w' ⟨rfl, h1, h2⟩
    exact ⟨⟨_, rfl, fun _ => rfl⟩, h1, h2⟩
  · refine (ctrListAny hn hR (fun y h1 h2 => ctrOf hn hR hrl y.1 y.2 h1 h2) l2 u hc _ (fun b hb => Or.inl (hS' b hb)) _ _ _ hl (rest - p) (hsx.ok hR).tail (by omega)).mono ?_
    rintro e w' ⟨⟨v, rfl⟩, h1, h2⟩
    exact ⟨⟨v, rfl, fun h => absurd h hd⟩, h1, h2⟩
/-- Counter.Of of a symbol, whether or not it has a word of the length -/
theorem ofOr (hn : n ≤ 1000) (hR : RulesN (nonsOf g) g.2.2.2) (hrl : g.2.2.2.length ≤ 1000) (x : Nat × Nat) (hm : ¬ Many g.2.2.2 x) (s : SymD) (l2 : List SymD) (rest p : Nat) (hsx : Suffix g.2.2.2 x (s :: l2) rest) (hp : p ≤ rest) (hrn : rest ≤ n)
    (u : World) (hu : Cok u L g n) :
    Calls Try.prog 63 #[.pointer (some ⟨L.Bc, 0, none⟩), .agg #[.bool s.1, .int .i64 s.2], .int .i64 (p : Int)] u fun e w' => (∃ fv : Int, e = .returned (.int .i64 fv) ∧ (Der g.2.2.2 [s] p → Der g.2.2.2 l2 (rest - p) → fv = (oN g.2.2.2 s p : Nat)) ∧ (¬ Der g.2.2.2 [s] p → fv = 0)) ∧ Cok w' L g n ∧ Aside L.l3 L.hi u w' := by
  have ho1 := (hsx.ok hR).head
  obtain ⟨t, y⟩ := s
  cases t with
  | true =>
    refine (ctrOfTerm u hu y p (by omega)).mono ?_
    rintro e w' ⟨rfl, hb⟩
    refine ⟨⟨_, rfl, fun h _ => ?_, fun h => ?_⟩, hu.below hb, .of hb⟩
    · rw [Der.term_iff] at h
      subst h
      simp [oN, ofC, hasT]
    · rw [Der.term_iff] at h
      rw [if_neg h]
  | false =>
    have hy := (ho1 (false, y) (by simp) rfl)
    obtain ⟨a, rfl⟩ : ∃ a : Nat, y = (a : Int) := ⟨y.toNat, by have := hy.1; dsimp only at this; omega⟩
    refine (ctrOf hn hR hrl a p (by simpa using hy.2) (by omega) u hu).mono ?_
    rintro e w' ⟨rfl, h2, h3⟩
    refine ⟨⟨_, rfl, fun h h' => ?_, fun h => ?_⟩, h2, h3⟩
    · have he := hsx.edge hp h h'
      have hlen : lenD g.2.2.2 a p = true := lenD_iff.2 h
      rw [oN_non hlen]
      unfold treesN
      dsimp only
      rw [if_pos hlen, if_neg fun hx => hm (Many.back he hx)]
    · unfold treesN
      dsimp only
      rw [if_neg fun hx => h (lenD_iff.1 hx)]
end
theorem UnrL.nil_num {R : List RuleD} {n i : Nat} {ts : List TreeD} (h : UnrL R [] n i ts) : i = 0 := by
  cases h
  rfl
set_option linter.unusedSimpArgs false in
set_option maxRecDepth 1000000 in
set_option maxHeartbeats 40000000 in
theorem treeNum {L : Lay} {g : GramD} {n Bn nR cR : Nat} {AR : Option Addr} (hn : n ≤ 1000) (hv : GValid g) : ∀ (sz : Nat) (w : World) (t : TreeD) (s : SymD) (k i : Nat) (S' : Nat → Prop) (A : Option Addr) (m c : Nat),
    NumSt w L g n Bn AR nR cR → (∀ b, S' b → b < L.l3) → Sl RTree w S' A m c t.kids → sizeT t ≤ sz → sizeT t ≤ 1000000 → Unr g.2.2.2 s k i t → Rated g n s k →
    Calls Try.prog 83 #[.pointer (some ⟨Bn, 0, none⟩), .agg #[.int .i64 t.rule, .int .i64 t.term, .slice A m c]] w fun e w' => e = .returned (.tuple #[.int .i64 (k : Int), .int .i64 (i : Int)]) ∧ NumSt w' L g n Bn AR nR cR ∧ Aside L.l3 L.hi w w'
  | 0, w, t, s, k, i, S', A, m, c, _, _, _, hsz, _, _, _ => by rw [sizeT_eq] at hsz; omega
  | sz + 1, w, t, s, n', i, S', A, m, c, hst, hS', hs, hsz, hs6, hu, hra => by
    rcases hu.inv with ⟨x, rfl, rfl, rfl, rfl⟩ | ⟨a, k, r, ts, j, rfl, hrk, hr1, hj, hul, hi, rfl⟩
    · have HNU := Lib.hid (hst.below ((Below.refl _ _).alloc (Nat.le_refl _) (.cells #[.int .i64 (-1), .int .i64 x, .slice A m c] 34)))
      clear hst hS' hs hsz hs6 hu hra
      simp only [TreeD.rule, TreeD.term]
      go_enter Try.func83, Try.ntmps83
      go_wp2_with fail
      go_ret2
      exact ⟨rfl, HNU.out, .of ((Below.refl _ _).alloc (Nat.le_refl _) _)⟩
    · obtain ⟨haN, hkn, hmany, hc⟩ := hra a rfl
      have hRN := rulesN_of hv
      have hrl : g.2.2.2.length ≤ 32 := hv.rl
      have IH := Lib.hid (treeNum (L := L) (g := g) (n := n) (Bn := Bn) (nR := nR) (cR := cR) (AR := AR) hn hv sz)
      obtain ⟨o1, o2, o3⟩ := hst.cok.ord
      have o4 := hst.hB
      have o5 := hst.lt
      have hword := hu.word
      have hleaves := hu.tv.leaves
      have hmem := List.mem_of_getElem? hrk
      have hr4 : r.2.length ≤ 4 := (hv.rules r hmem).2.1
      have hlen := hul.tv.len
      have hm := hs.len
      simp only [TreeD.kids] at hm hs
      have hk : k < nR := by
        have := (List.getElem?_eq_some_iff.1 hrk).1
        have := hst.rules.len
        omega
      have hsum := cN_sum hRN (acc_few hRN (x := (a, n')) haN hmany) hc
      have hp1 := preR_mono (R := g.2.2.2) (a := a) (n := n') (show k + 1 ≤ g.2.2.2.length from (List.getElem?_eq_some_iff.1 hrk).1)
      rw [preR_succ hrk, if_pos hr1] at hp1
      have hiB : i < 1000000000 := by have : MC = 1000000000 := rfl; omega
      have hlnB : lN g.2.2.2 r.2 n' < MC := by omega
      have hnR : nR ≤ 32 := by have := hst.rules.len; omega
      have hcR := hst.rules.cap
      have HNU := Lib.hid (hst.below ((Below.refl _ _).alloc (Nat.le_refl _) (.cells #[.int .i64 (k : Int), .int .i64 0, .slice A m c] 34)))
      have HS := Lib.hid hs
      have HS' := Lib.hid hS'
      have HRN := Lib.hid hRN
      have HM := Lib.hid hmany
      have HC := Lib.hid hc
      have HRK := Lib.hid hrk
      have HR1 := Lib.hid hr1
      have HUL := Lib.hid hul
      have HI := Lib.hid hi
      have HWD := Lib.hid hword
      have HLV := Lib.hid hleaves
      have HSX := Lib.hid (Suffix.start (x := (a, n')) hmem hr1)
      have HRL := Lib.hid (show g.2.2.2.length ≤ 1000 by omega)
      have HLB := Lib.hid hlnB
      have HPI := Lib.hid (show ∀ kk, kk ≤ k → preR g.2.2.2 a n' kk ≤ i from fun kk h => by have := preR_mono (R := g.2.2.2) (a := a) (n := n') h; omega)
      have HMM := Lib.hid (show m = r.2.length by omega)
      have HMT := Lib.hid hm
      have hm4 : m ≤ 4 := by omega
      have HSZ := Lib.hid (show ∀ x ∈ ts, sizeT x ≤ sz ∧ sizeT x ≤ 1000000 from fun x hx => by have := sizeT_kid (t := .node (k : Int) 0 ts) (x := x) hx; omega)
      have hszT := hs6
      clear hst hS' hs hsz hs6 hu hra hRN hmany hc hrk hr1 hul hi hword hleaves hmem hsum hp1 hlnB hm hlen hj hv
      go_enter Try.func83, Try.ntmps83
      go_wp2_with fail
      refine (treeWord _ S' (.node (k : Int) 0 ts) A m c (HS.out.alloc _) HLV.out hszT).mono ?_
      rintro e w1 ⟨Aw, cw, rfl, _, _, hb1⟩
      rw [HWD.out]
      have hz1 : w.heap.size + 1 ≤ w1.heap.size := by have := hb1.size; simpa using this
      have hbt : w1.heap[w.heap.size]? = some (.cells #[.int .i64 (k : Int), .int .i64 0, .slice A m c] 34 (0, 0)) := (hb1.block _ (by simp)).trans (heap_alloc_new w _)
      have HNU1 := Lib.hid (HNU.out.below hb1)
      have hA1 : Aside L.l3 L.hi w w1 := (Aside.of ((Below.refl _ _).alloc (Nat.le_refl _) _)).trans (.of hb1)
      have HA1 := Lib.hid hA1
      have HS1 := Lib.hid (HS.out.keep (.aside hA1 (fun b hb => Or.inl (HS'.out b hb))))
      obtain ⟨b, off, AQ, mQ, cQ, r', rfl, hSb, hbl, hc1, hc2, hrr, hrs⟩ := rule_at HNU1.out.rules hk
      obtain rfl : r = r' := by have := HRK.out; rw [this] at hrr; injection hrr
      rw [HR1.out] at hc1
      have hmQ : mQ = m := by rw [hrs.len, HMM.out]
      subst hmQ
      have hall : ∀ u : World, Aside L.l3 L.hi w1 u → u.heap[w.heap.size]? = some (.cells #[.int .i64 (k : Int), .int .i64 0, .slice A mQ c] 34 (0, 0)) ∧
          u.cell? ⟨b, off + k * 2, none⟩ = some (.int .i64 (a : Int)) ∧ u.cell? ⟨b, off + k * 2 + 1, none⟩ = some (.slice AQ mQ cQ) ∧ Sl RSym u (fun b => b < L.l3) AQ mQ cQ r.2 ∧ Sl RTree u S' A mQ c ts := fun u hu =>
        ⟨(hu.block _ (by omega) (Or.inr (by omega))).trans hbt, (hu.cell hbl (Or.inl hSb)).trans hc1, (hu.cell hbl (Or.inl hSb)).trans hc2, hrs.keep (.aside hu fun b hb => Or.inl hb), HS1.out.keep (.aside hu fun b hb => Or.inl (HS'.out b hb))⟩
      have HALL := Lib.hid hall
      have hK0 : ∀ u : World, NumSt u L g n Bn (some ⟨b, off, none⟩) nR cR → Aside L.l3 L.hi w1 u → u.cell? ⟨Bn, 3, none⟩ = some (.slice (some ⟨b, off, none⟩) nR cR) ∧ u.cell? ⟨Bn, 4, none⟩ = some (.pointer (some ⟨L.Bc, 0, none⟩)) ∧ u.cell? ⟨w.heap.size, 0, none⟩ = some (.int .i64 (k : Int)) ∧ u.cell? ⟨w.heap.size, 2, none⟩ = some (.slice A mQ c) ∧
          u.cell? ⟨b, off + k * 2, none⟩ = some (.int .i64 (a : Int)) ∧ u.cell? ⟨b, off + k * 2 + 1, none⟩ = some (.slice AQ mQ cQ) := fun u hu1 hu2 => by
        obtain ⟨d0, d1, d2, _, _, _⟩ := tree_cells (hall u hu2).1
        exact ⟨hu1.rul, hu1.ptr, d0, d2, (hall u hu2).2.1, (hall u hu2).2.2.1⟩
      have HKK := Lib.hid hK0
      have HK0 := Lib.hid (hK0 w1.drew HNU1.out.drew (Aside.refl _ _ _).drew)
      have hkI : (k : Int) < (nR : Int) := by omega
      have hkI0 : (0 : Int) ≤ (k : Int) := by omega
      have HCUT := Lib.hid (fun u => tRules.hN (some ⟨b, off, none⟩) nR cR k (by omega) u)
      clear hb1 hbt hA1 hc1 hc2 hrr hrs hall hK0 HNU HS HS1
      --@1
      go_wp2_with fail
      refine wp_region_late (late := []) (S1 := fun u => u.cell? ⟨Bn, 3, none⟩ = some (.slice (some ⟨b, off, none⟩) nR cR) ∧ u.cell? ⟨Bn, 4, none⟩ = some (.pointer (some ⟨L.Bc, 0, none⟩)) ∧ u.cell? ⟨w.heap.size, 0, none⟩ = some (.int .i64 (k : Int)) ∧ u.cell? ⟨w.heap.size, 2, none⟩ = some (.slice A mQ c) ∧
          u.cell? ⟨b, off + k * 2, none⟩ = some (.int .i64 (a : Int)) ∧ u.cell? ⟨b, off + k * 2 + 1, none⟩ = some (.slice AQ mQ cQ)) (S := fun _ => True) (by kernel_rfl) ?_
      refine wpAnyL_pure (i := 0) rfl (by kernel_rfl) (fun _ _ _ h => h) (Or.inl ⟨by rfl, (fun u hu => by obtain ⟨k0, k1, k2, k3, k4, k5⟩ := hu; go_simp; try rfl)⟩) HK0.out (fun _ => trivial) ?_
      simp only [Act.put, List.setIfInBounds_toArray, List.set_cons_zero, List.set_cons_succ, List.getElem_toArray, List.getElem_cons_zero, List.getElem_cons_succ]
      refine wpAnyL_pure (i := 1) rfl (by kernel_rfl) (fun _ _ _ h => h) (Or.inl ⟨by rfl, (fun u hu => by obtain ⟨k0, k1, k2, k3, k4, k5⟩ := hu; go_simp; try rfl)⟩) HK0.out (fun _ => trivial) ?_
      simp only [Act.put, List.setIfInBounds_toArray, List.set_cons_zero, List.set_cons_succ, List.getElem_toArray, List.getElem_cons_zero, List.getElem_cons_succ]
      refine wpAnyL_pure (i := 2) rfl (by kernel_rfl) (fun _ _ _ h => h) (Or.inl ⟨by rfl, (fun u hu => by obtain ⟨k0, k1, k2, k3, k4, k5⟩ := hu; go_simp; try rfl)⟩) HK0.out (fun _ => trivial) ?_
      simp only [Act.put, List.setIfInBounds_toArray, List.set_cons_zero, List.set_cons_succ, List.getElem_toArray, List.getElem_cons_zero, List.getElem_cons_succ]
      refine wpAnyL_pure (i := 3) rfl (by kernel_rfl) (fun _ _ _ h => h) (Or.inl ⟨by rfl, (fun u hu => by obtain ⟨k0, k1, k2, k3, k4, k5⟩ := hu; go_simp; try rfl)⟩) HK0.out (fun _ => trivial) ?_
      simp only [Act.put, List.setIfInBounds_toArray, List.set_cons_zero, List.set_cons_succ, List.getElem_toArray, List.getElem_cons_zero, List.getElem_cons_succ]
      refine wpAnyL_pure (i := 4) rfl (by kernel_rfl) (fun _ _ _ h => h) (Or.inl ⟨by rfl, (fun u hu => by obtain ⟨k0, k1, k2, k3, k4, k5⟩ := hu; go_simp; try rfl)⟩) HK0.out (fun _ => trivial) ?_
      simp only [Act.put, List.setIfInBounds_toArray, List.set_cons_zero, List.set_cons_succ, List.getElem_toArray, List.getElem_cons_zero, List.getElem_cons_succ]
      refine wpAnyL_pure (i := 5) rfl (by kernel_rfl) (fun _ _ _ h => h) (Or.inl ⟨by rfl, (fun u hu => by obtain ⟨k0, k1, k2, k3, k4, k5⟩ := hu; go_simp; try rfl)⟩) HK0.out (fun _ => trivial) ?_
      simp only [Act.put, List.setIfInBounds_toArray, List.set_cons_zero, List.set_cons_succ, List.getElem_toArray, List.getElem_cons_zero, List.getElem_cons_succ]
      refine wpAnyL_pure (i := 6) rfl (by kernel_rfl) (fun _ _ _ h => h) (Or.inl ⟨by rfl, (fun u hu => by obtain ⟨k0, k1, k2, k3, k4, k5⟩ := hu; go_simp; try rfl)⟩) HK0.out (fun _ => trivial) ?_
      simp only [Act.put, List.setIfInBounds_toArray, List.set_cons_zero, List.set_cons_succ, List.getElem_toArray, List.getElem_cons_zero, List.getElem_cons_succ]
      refine wpAnyL_pure (i := 7) rfl (by kernel_rfl) (fun _ _ _ h => h) (Or.inl ⟨by rfl, (fun u hu => by obtain ⟨k0, k1, k2, k3, k4, k5⟩ := hu; go_simp; try rfl)⟩) HK0.out (fun _ => trivial) ?_
      simp only [Act.put, List.setIfInBounds_toArray, List.set_cons_zero, List.set_cons_succ, List.getElem_toArray, List.getElem_cons_zero, List.getElem_cons_succ]
      refine wpAnyL_pure (i := 8) rfl (by kernel_rfl) (fun _ _ _ h => h) (Or.inl ⟨by rfl, (fun u hu => by obtain ⟨k0, k1, k2, k3, k4, k5⟩ := hu; go_simp; try rfl)⟩) HK0.out (fun _ => trivial) ?_
      simp only [Act.put, List.setIfInBounds_toArray, List.set_cons_zero, List.set_cons_succ, List.getElem_toArray, List.getElem_cons_zero, List.getElem_cons_succ]
      refine wpAnyL_pure (i := 9) rfl (by kernel_rfl) (fun _ _ _ h => h) (Or.inl ⟨by rfl, (fun u hu => by obtain ⟨k0, k1, k2, k3, k4, k5⟩ := hu; go_simp; try rfl)⟩) HK0.out (fun _ => trivial) ?_
      simp only [Act.put, List.setIfInBounds_toArray, List.set_cons_zero, List.set_cons_succ, List.getElem_toArray, List.getElem_cons_zero, List.getElem_cons_succ]
      refine wpAnyL_pure (i := 10) rfl (by kernel_rfl) (fun _ _ _ h => h) (Or.inl ⟨by rfl, (fun u hu => by obtain ⟨k0, k1, k2, k3, k4, k5⟩ := hu; go_simp; try rfl)⟩) HK0.out (fun _ => trivial) ?_
      simp only [Act.put, List.setIfInBounds_toArray, List.set_cons_zero, List.set_cons_succ, List.getElem_toArray, List.getElem_cons_zero, List.getElem_cons_succ]
      refine wpAnyL_done (by kernel_rfl) ?_ _
      have HK1 := Lib.hid (HKK.out w1.drew.drew HNU1.out.drew.drew (Aside.refl _ _ _).drew.drew)
      --@2
      go_wp2_with fail
      refine wp_region_late (late := []) (S1 := fun u => u.cell? ⟨Bn, 3, none⟩ = some (.slice (some ⟨b, off, none⟩) nR cR) ∧ u.cell? ⟨Bn, 4, none⟩ = some (.pointer (some ⟨L.Bc, 0, none⟩)) ∧ u.cell? ⟨w.heap.size, 0, none⟩ = some (.int .i64 (k : Int)) ∧ u.cell? ⟨w.heap.size, 2, none⟩ = some (.slice A mQ c) ∧
                u.cell? ⟨b, off + k * 2, none⟩ = some (.int .i64 (a : Int)) ∧ u.cell? ⟨b, off + k * 2 + 1, none⟩ = some (.slice AQ mQ cQ)) (S := fun _ => True) (by kernel_rfl) ?_
      refine wpAnyL_pure (i := 0) rfl (by kernel_rfl) (fun _ _ _ h => h) (Or.inl ⟨by rfl, (fun u hu => by obtain ⟨k0, k1, k2, k3, k4, k5⟩ := hu; go_simp; try rfl)⟩) HK1.out (fun _ => trivial) ?_
      simp only [Act.put, List.setIfInBounds_toArray, List.set_cons_zero, List.set_cons_succ, List.getElem_toArray, List.getElem_cons_zero, List.getElem_cons_succ]
      refine wpAnyL_pure (i := 1) rfl (by kernel_rfl) (fun _ _ _ h => h) (Or.inl ⟨by rfl, (fun u hu => by obtain ⟨k0, k1, k2, k3, k4, k5⟩ := hu; go_simp; try rfl)⟩) HK1.out (fun _ => trivial) ?_
      simp only [Act.put, List.setIfInBounds_toArray, List.set_cons_zero, List.set_cons_succ, List.getElem_toArray, List.getElem_cons_zero, List.getElem_cons_succ]
      refine wpAnyL_pure (i := 2) rfl (by kernel_rfl) (fun _ _ _ h => h) (Or.inl ⟨by rfl, (fun u hu => by obtain ⟨k0, k1, k2, k3, k4, k5⟩ := hu; go_simp; try rfl)⟩) HK1.out (fun _ => trivial) ?_
      simp only [Act.put, List.setIfInBounds_toArray, List.set_cons_zero, List.set_cons_succ, List.getElem_toArray, List.getElem_cons_zero, List.getElem_cons_succ]
      refine wpAnyL_pure (i := 3) rfl (by kernel_rfl) (fun _ _ _ h => h) (Or.inl ⟨by rfl, (fun u hu => by obtain ⟨k0, k1, k2, k3, k4, k5⟩ := hu; go_simp; try rfl)⟩) HK1.out (fun _ => trivial) ?_
      simp only [Act.put, List.setIfInBounds_toArray, List.set_cons_zero, List.set_cons_succ, List.getElem_toArray, List.getElem_cons_zero, List.getElem_cons_succ]
      refine wpAnyL_pure (i := 4) rfl (by kernel_rfl) (fun _ _ _ h => h) (Or.inl ⟨by rfl, (fun u hu => by obtain ⟨k0, k1, k2, k3, k4, k5⟩ := hu; go_simp; try rfl)⟩) HK1.out (fun _ => trivial) ?_
      simp only [Act.put, List.setIfInBounds_toArray, List.set_cons_zero, List.set_cons_succ, List.getElem_toArray, List.getElem_cons_zero, List.getElem_cons_succ]
      refine wpAnyL_pure (i := 5) rfl (by kernel_rfl) (fun _ _ _ h => h) (Or.inl ⟨by rfl, (fun u hu => by obtain ⟨k0, k1, k2, k3, k4, k5⟩ := hu; go_simp; try rfl)⟩) HK1.out (fun _ => trivial) ?_
      simp only [Act.put, List.setIfInBounds_toArray, List.set_cons_zero, List.set_cons_succ, List.getElem_toArray, List.getElem_cons_zero, List.getElem_cons_succ]
      refine wpAnyL_pure (i := 6) rfl (by kernel_rfl) (fun _ _ _ h => h) (Or.inl ⟨by rfl, (fun u hu => by obtain ⟨k0, k1, k2, k3, k4, k5⟩ := hu; go_simp; try rfl)⟩) HK1.out (fun _ => trivial) ?_
      simp only [Act.put, List.setIfInBounds_toArray, List.set_cons_zero, List.set_cons_succ, List.getElem_toArray, List.getElem_cons_zero, List.getElem_cons_succ]
      refine wpAnyL_pure (i := 7) (v := .slice (some ⟨b, off, none⟩) k cR) rfl (by kernel_rfl) (fun _ _ _ h => h) (Or.inl ⟨by rfl, (fun u hu => by have hx := HCUT.out u; go_simp)⟩) HK1.out (fun _ => trivial) ?_
      simp only [Act.put, List.setIfInBounds_toArray, List.set_cons_zero, List.set_cons_succ, List.getElem_toArray, List.getElem_cons_zero, List.getElem_cons_succ]
      refine wpAnyL_pure (i := 8) rfl (by kernel_rfl) (fun _ _ _ h => h) (Or.inl ⟨by rfl, (fun u hu => by obtain ⟨k0, k1, k2, k3, k4, k5⟩ := hu; go_simp; try rfl)⟩) HK1.out (fun _ => trivial) ?_
      simp only [Act.put, List.setIfInBounds_toArray, List.set_cons_zero, List.set_cons_succ, List.getElem_toArray, List.getElem_cons_zero, List.getElem_cons_succ]
      refine wpAnyL_pure (i := 9) rfl (by kernel_rfl) (fun _ _ _ h => h) (Or.inl ⟨by rfl, (fun u hu => by obtain ⟨k0, k1, k2, k3, k4, k5⟩ := hu; go_simp; try rfl)⟩) HK1.out (fun _ => trivial) ?_
      simp only [Act.put, List.setIfInBounds_toArray, List.set_cons_zero, List.set_cons_succ, List.getElem_toArray, List.getElem_cons_zero, List.getElem_cons_succ]
      refine wpAnyL_done (by kernel_rfl) ?_ _
      have HN2 := Lib.hid (show NumSt w1.drew.drew L g n Bn (some ⟨b, off, none⟩) nR cR from HNU1.out.drew.drew)
      have HA2 := Lib.hid (show Aside L.l3 L.hi w1 w1.drew.drew from (Aside.refl _ _ _).drew.drew)
      obtain ⟨w2, hw2⟩ : ∃ w2 : World, w2 = w1.drew.drew := ⟨_, rfl⟩
      rw [← hw2] at HN2 HA2 ⊢
      clear hw2 HK0 HK1 HCUT
      --@3
      go_wp2_with fail
      go_loopg [8, 44] k (fun gk vi vk wr => ∃ kk : Nat, kk ≤ k ∧ gk = k - kk ∧ vk = .int .i64 kk ∧ vi = .int .i64 (preR g.2.2.2 a n' kk : Nat) ∧ NumSt wr L g n Bn (some ⟨b, off, none⟩) nR cR ∧ Aside L.l3 L.hi w1 wr)
      case atStart => exact ⟨0, Nat.zero_le _, rfl, rfl, by rw [preR_zero]; rfl, HN2.out, HA2.out⟩
      case round =>
        obtain ⟨kk, hkk, hgk, rfl, rfl, hnu, hA⟩ := hrel
        have HGK := Lib.hid hgk
        have HNU := Lib.hid hnu
        have HA := Lib.hid hA
        have hzr : w1.heap.size ≤ wr.heap.size := hA.size
        obtain ⟨w3, rfl⟩ : ∃ w3 : World, w3 = wr := ⟨_, rfl⟩
        clear hgk hnu hA
        by_cases hlt : kk < k
        · obtain ⟨b2, off2, A3, m3, c3, r1, hb2, hSb2, hbl2, hq1, hq2, hr1, hrs1⟩ := rule_at HNU.out.rules (show kk < nR by omega)
          injection hb2 with hb2
          injection hb2 with e1 e2
          subst e1
          subst e2
          have hkk1 : (kk : Int) < (k : Int) := by omega
          have hkk2 : (0 : Int) ≤ (kk : Int) := by omega
          have hps := preR_succ (a := a) (n := n') hr1
          have HR2 := Lib.hid hr1
          have HRS := Lib.hid hrs1
          have hB3 : Below w3.heap.size w3 (w3.alloc (.cells #[.int .i64 r1.1, .slice A3 m3 c3] 53)) := (Below.refl _ _).alloc (Nat.le_refl _) _
          have HNUx := Lib.hid (HNU.out.below hB3)
          have HAx := Lib.hid (HA.out.trans (.of hB3))
          have hbt := (HALL.out w3 HA.out).1
          have hd0 : w3.cell? ⟨w.heap.size, 0, none⟩ = some (.int .i64 (k : Int)) := (tree_cells hbt).1
          have hwl : w.heap.size < w3.heap.size := heap_lt hbt
          have hle := HPI.out (kk + 1) (by omega)
          clear hr1 hrs1 hbt
          obtain ⟨left, hleft⟩ : ∃ left, left = r1.1 := ⟨_, rfl⟩
          rw [← hleft] at hq1 hps hB3
          by_cases hla : left = (a : Int)
          · rw [if_pos hla] at hps
            have hlb : (left == (a : Int)) = true := by simpa using hla
            have HLA := Lib.hid (show r1.1 = (a : Int) by rw [← hleft]; exact hla)
            obtain ⟨lv, hlv⟩ : ∃ lv, lv = lN g.2.2.2 r1.2 n' := ⟨_, rfl⟩
            rw [← hlv] at hps
            have HLV1 := Lib.hid hlv
            have hadd : IntKind.i64.wrap (((preR g.2.2.2 a n' kk : Nat) : Int) + (lv : Int)) = ((preR g.2.2.2 a n' (kk + 1) : Nat) : Int) := by rw [IntWalk.i64_in _ (by omega)]; omega
            have HADD := Lib.hid hadd
            have HKX := Lib.hid (show (w3.alloc (.cells #[.int .i64 left, .slice A3 m3 c3] 53)).drew.cell? ⟨Bn, 4, none⟩ = some (.pointer (some ⟨L.Bc, 0, none⟩)) ∧ (w3.alloc (.cells #[.int .i64 left, .slice A3 m3 c3] 53)).drew.cell? ⟨w3.heap.size, 1, none⟩ = some (.slice A3 m3 c3) by
              rw [hleft]
              exact ⟨HNUx.out.drew.ptr, by simp⟩)
            clear hadd hps hlv hla hB3
            rw [hleft] at hq1 hlb HKX
            --@4
            go_wp2_with fail
            refine wp_region_late (late := []) (S1 := fun u => u.cell? ⟨Bn, 4, none⟩ = some (.pointer (some ⟨L.Bc, 0, none⟩)) ∧ u.cell? ⟨w3.heap.size, 1, none⟩ = some (.slice A3 m3 c3)) (S := fun _ => True) (by kernel_rfl) ?_
            refine wpAnyL_pure (i := 0) rfl (by kernel_rfl) (fun _ _ _ h => h) (Or.inl ⟨by rfl, (fun u hu => by obtain ⟨k0, k1⟩ := hu; go_simp; try rfl)⟩) HKX.out (fun _ => trivial) ?_
            simp only [Act.put, List.setIfInBounds_toArray, List.set_cons_zero, List.set_cons_succ, List.getElem_toArray, List.getElem_cons_zero, List.getElem_cons_succ]
            refine wpAnyL_pure (i := 1) rfl (by kernel_rfl) (fun _ _ _ h => h) (Or.inl ⟨by rfl, (fun u hu => by obtain ⟨k0, k1⟩ := hu; go_simp; try rfl)⟩) HKX.out (fun _ => trivial) ?_
            simp only [Act.put, List.setIfInBounds_toArray, List.set_cons_zero, List.set_cons_succ, List.getElem_toArray, List.getElem_cons_zero, List.getElem_cons_succ]
            refine wpAnyL_pure (i := 2) rfl (by kernel_rfl) (fun _ _ _ h => h) (Or.inl ⟨by rfl, (fun u hu => by obtain ⟨k0, k1⟩ := hu; go_simp; try rfl)⟩) HKX.out (fun _ => trivial) ?_
            simp only [Act.put, List.setIfInBounds_toArray, List.set_cons_zero, List.set_cons_succ, List.getElem_toArray, List.getElem_cons_zero, List.getElem_cons_succ]
            refine wpAnyL_pure (i := 3) rfl (by kernel_rfl) (fun _ _ _ h => h) (Or.inl ⟨by rfl, (fun u hu => by obtain ⟨k0, k1⟩ := hu; go_simp; try rfl)⟩) HKX.out (fun _ => trivial) ?_
            simp only [Act.put, List.setIfInBounds_toArray, List.set_cons_zero, List.set_cons_succ, List.getElem_toArray, List.getElem_cons_zero, List.getElem_cons_succ]
            refine wpAnyL_pure (i := 4) rfl (by kernel_rfl) (fun _ _ _ h => h) (Or.inl ⟨by rfl, (fun u hu => by obtain ⟨k0, k1⟩ := hu; go_simp; try rfl)⟩) HKX.out (fun _ => trivial) ?_
            simp only [Act.put, List.setIfInBounds_toArray, List.set_cons_zero, List.set_cons_succ, List.getElem_toArray, List.getElem_cons_zero, List.getElem_cons_succ]
            refine wpAnyL_pure (i := 5) rfl (by kernel_rfl) (fun _ _ _ h => h) (Or.inl ⟨by rfl, (fun u hu => by obtain ⟨k0, k1⟩ := hu; go_simp; try rfl)⟩) HKX.out (fun _ => trivial) ?_
            simp only [Act.put, List.setIfInBounds_toArray, List.set_cons_zero, List.set_cons_succ, List.getElem_toArray, List.getElem_cons_zero, List.getElem_cons_succ]
            refine wpAnyL_pure (i := 6) rfl (by kernel_rfl) (fun _ _ _ h => h) (Or.inl ⟨by rfl, (fun u hu => by obtain ⟨k0, k1⟩ := hu; go_simp; try rfl)⟩) HKX.out (fun _ => trivial) ?_
            simp only [Act.put, List.setIfInBounds_toArray, List.set_cons_zero, List.set_cons_succ, List.getElem_toArray, List.getElem_cons_zero, List.getElem_cons_succ]
            refine wpAnyL_pure (i := 7) rfl (by kernel_rfl) (fun _ _ _ h => h) (Or.inl ⟨by rfl, (fun u hu => by obtain ⟨k0, k1⟩ := hu; go_simp; try rfl)⟩) HKX.out (fun _ => trivial) ?_
            simp only [Act.put, List.setIfInBounds_toArray, List.set_cons_zero, List.set_cons_succ, List.getElem_toArray, List.getElem_cons_zero, List.getElem_cons_succ]
            refine wpAnyL_ready (rs := [8]) (by kernel_rfl) (by simp) ?_
            refine AllL.cons rfl (fun K hK => ?_) ?_
            · go_simp
              refine (ctrList hn HRN.out (a, n') haN HM.out (fun y hy => ctrOf hn HRN.out HRL.out y.1 y.2 (hy.lt HRN.out) (Nat.le_trans hy.le hkn)) r1.2 _ HNUx.out.drew.cok _ (fun b hb => Or.inl hb) _ _ _ ((HRS.out.below ((Below.refl _ _).alloc (Nat.le_refl _) _)).drew) n' (Suffix.start (x := (a, n')) (List.mem_of_getElem? HR2.out) HLA.out) hkn).mono ?_
              rintro e w4 ⟨rfl, hc4, hA4⟩
              rw [show listC (lenD g.2.2.2) (cN g.2.2.2) r1.2 n' = lv from HLV1.out.symm]
              have HNU4 := Lib.hid (HNUx.out.drew.aside hc4 hA4)
              have HA4 := Lib.hid (HAx.out.drew.trans hA4)
              have HC4 := Lib.hid (show w4.cell? ⟨w3.heap.size, 1, none⟩ = some (.slice A3 m3 c3) from (hA4.cell (p := ⟨w3.heap.size, 1, none⟩) (by show w3.heap.size < (w3.alloc _).heap.size; simp) (Or.inr (by have := HNU.out.lt; show L.hi ≤ w3.heap.size; omega))).trans (by simp))
              clear hc4 hA4
              refine hK.out _ _ (And.intro HNU4.out.ptr HC4.out) (fun _ => trivial) ?_
              clear hK K
              refine wpAnyL_pure (i := 9) (v := .int .i64 ((preR g.2.2.2 a n' (kk + 1) : Nat) : Int)) rfl (by kernel_rfl) (fun _ _ _ h => h) (Or.inl ⟨by rfl, (fun u hu => by have hadd := HADD.out; go_simp; try rfl)⟩) (And.intro HNU4.out.ptr HC4.out) (fun _ => trivial) ?_
              simp only [Act.put, List.setIfInBounds_toArray, List.set_cons_zero, List.set_cons_succ, List.getElem_toArray, List.getElem_cons_zero, List.getElem_cons_succ]
              refine wpAnyL_pure (i := 10) rfl (by kernel_rfl) (fun _ _ _ h => h) (Or.inl ⟨by rfl, (fun u hu => by obtain ⟨k0, k1⟩ := hu; go_simp; try rfl)⟩) (And.intro HNU4.out.ptr HC4.out) (fun _ => trivial) ?_
              simp only [Act.put, List.setIfInBounds_toArray, List.set_cons_zero, List.set_cons_succ, List.getElem_toArray, List.getElem_cons_zero, List.getElem_cons_succ]
              refine wpAnyL_done (by kernel_rfl) ?_ _
              go_wp2_with fail
              go_roundg (k - (kk + 1))
              case measure => rw [HGK.out]; omega
              case rel => exact ⟨kk + 1, by omega, rfl, by go_num, rfl, HNU4.out, HA4.out⟩
            exact AllL.nil
          · rw [if_neg hla, Nat.add_zero] at hps
            have hlb : (left == (a : Int)) = false := by simpa using hla
            have HPS := Lib.hid hps
            clear hps hla hB3
            rw [hleft] at hq1 hlb
            --@5
            go_wp2_with fail
            go_roundg (k - (kk + 1))
            case measure => rw [HGK.out]; omega
            case rel => exact ⟨kk + 1, by omega, rfl, by go_num, by rw [HPS.out]; rfl, HNUx.out, HAx.out⟩
        · obtain rfl : k = kk := by omega
          have HKZ := Lib.hid (HKK.out w3.drew HNU.out.drew HA.out.drew)
          --@6
          go_wp2_with fail
          refine wp_region_late (late := []) (S1 := fun u => u.cell? ⟨Bn, 3, none⟩ = some (.slice (some ⟨b, off, none⟩) nR cR) ∧ u.cell? ⟨Bn, 4, none⟩ = some (.pointer (some ⟨L.Bc, 0, none⟩)) ∧ u.cell? ⟨w.heap.size, 0, none⟩ = some (.int .i64 (k : Int)) ∧ u.cell? ⟨w.heap.size, 2, none⟩ = some (.slice A mQ c) ∧
                u.cell? ⟨b, off + k * 2, none⟩ = some (.int .i64 (a : Int)) ∧ u.cell? ⟨b, off + k * 2 + 1, none⟩ = some (.slice AQ mQ cQ)) (S := fun _ => True) (by kernel_rfl) ?_
          refine wpAnyL_pure (i := 0) rfl (by kernel_rfl) (fun _ _ _ h => h) (Or.inl ⟨by rfl, (fun u hu => by obtain ⟨k0, k1, k2, k3, k4, k5⟩ := hu; go_simp; try rfl)⟩) HKZ.out (fun _ => trivial) ?_
          simp only [Act.put, List.setIfInBounds_toArray, List.set_cons_zero, List.set_cons_succ, List.getElem_toArray, List.getElem_cons_zero, List.getElem_cons_succ]
          refine wpAnyL_pure (i := 1) rfl (by kernel_rfl) (fun _ _ _ h => h) (Or.inl ⟨by rfl, (fun u hu => by obtain ⟨k0, k1, k2, k3, k4, k5⟩ := hu; go_simp; try rfl)⟩) HKZ.out (fun _ => trivial) ?_
          simp only [Act.put, List.setIfInBounds_toArray, List.set_cons_zero, List.set_cons_succ, List.getElem_toArray, List.getElem_cons_zero, List.getElem_cons_succ]
          refine wpAnyL_pure (i := 2) rfl (by kernel_rfl) (fun _ _ _ h => h) (Or.inl ⟨by rfl, (fun u hu => by obtain ⟨k0, k1, k2, k3, k4, k5⟩ := hu; go_simp; try rfl)⟩) HKZ.out (fun _ => trivial) ?_
          simp only [Act.put, List.setIfInBounds_toArray, List.set_cons_zero, List.set_cons_succ, List.getElem_toArray, List.getElem_cons_zero, List.getElem_cons_succ]
          refine wpAnyL_pure (i := 3) rfl (by kernel_rfl) (fun _ _ _ h => h) (Or.inl ⟨by rfl, (fun u hu => by obtain ⟨k0, k1, k2, k3, k4, k5⟩ := hu; go_simp; try rfl)⟩) HKZ.out (fun _ => trivial) ?_
          simp only [Act.put, List.setIfInBounds_toArray, List.set_cons_zero, List.set_cons_succ, List.getElem_toArray, List.getElem_cons_zero, List.getElem_cons_succ]
          refine wpAnyL_pure (i := 4) rfl (by kernel_rfl) (fun _ _ _ h => h) (Or.inl ⟨by rfl, (fun u hu => by obtain ⟨k0, k1, k2, k3, k4, k5⟩ := hu; go_simp; try rfl)⟩) HKZ.out (fun _ => trivial) ?_
          simp only [Act.put, List.setIfInBounds_toArray, List.set_cons_zero, List.set_cons_succ, List.getElem_toArray, List.getElem_cons_zero, List.getElem_cons_succ]
          refine wpAnyL_pure (i := 5) rfl (by kernel_rfl) (fun _ _ _ h => h) (Or.inl ⟨by rfl, (fun u hu => by obtain ⟨k0, k1, k2, k3, k4, k5⟩ := hu; go_simp; try rfl)⟩) HKZ.out (fun _ => trivial) ?_
          simp only [Act.put, List.setIfInBounds_toArray, List.set_cons_zero, List.set_cons_succ, List.getElem_toArray, List.getElem_cons_zero, List.getElem_cons_succ]
          refine wpAnyL_pure (i := 6) rfl (by kernel_rfl) (fun _ _ _ h => h) (Or.inl ⟨by rfl, (fun u hu => by obtain ⟨k0, k1, k2, k3, k4, k5⟩ := hu; go_simp; try rfl)⟩) HKZ.out (fun _ => trivial) ?_
          simp only [Act.put, List.setIfInBounds_toArray, List.set_cons_zero, List.set_cons_succ, List.getElem_toArray, List.getElem_cons_zero, List.getElem_cons_succ]
          refine wpAnyL_pure (i := 7) rfl (by kernel_rfl) (fun _ _ _ h => h) (Or.inl ⟨by rfl, (fun u hu => by obtain ⟨k0, k1, k2, k3, k4, k5⟩ := hu; go_simp; try rfl)⟩) HKZ.out (fun _ => trivial) ?_
          simp only [Act.put, List.setIfInBounds_toArray, List.set_cons_zero, List.set_cons_succ, List.getElem_toArray, List.getElem_cons_zero, List.getElem_cons_succ]
          refine wpAnyL_pure (i := 8) rfl (by kernel_rfl) (fun _ _ _ h => h) (Or.inl ⟨by rfl, (fun u hu => by obtain ⟨k0, k1, k2, k3, k4, k5⟩ := hu; go_simp; try rfl)⟩) HKZ.out (fun _ => trivial) ?_
          simp only [Act.put, List.setIfInBounds_toArray, List.set_cons_zero, List.set_cons_succ, List.getElem_toArray, List.getElem_cons_zero, List.getElem_cons_succ]
          refine wpAnyL_pure (i := 9) rfl (by kernel_rfl) (fun _ _ _ h => h) (Or.inl ⟨by rfl, (fun u hu => by obtain ⟨k0, k1, k2, k3, k4, k5⟩ := hu; go_simp; try rfl)⟩) HKZ.out (fun _ => trivial) ?_
          simp only [Act.put, List.setIfInBounds_toArray, List.set_cons_zero, List.set_cons_succ, List.getElem_toArray, List.getElem_cons_zero, List.getElem_cons_succ]
          refine wpAnyL_pure (i := 10) rfl (by kernel_rfl) (fun _ _ _ h => h) (Or.inl ⟨by rfl, (fun u hu => by obtain ⟨k0, k1, k2, k3, k4, k5⟩ := hu; go_simp; try rfl)⟩) HKZ.out (fun _ => trivial) ?_
          simp only [Act.put, List.setIfInBounds_toArray, List.set_cons_zero, List.set_cons_succ, List.getElem_toArray, List.getElem_cons_zero, List.getElem_cons_succ]
          refine wpAnyL_done (by kernel_rfl) ?_ _
          have hd2 := HKZ.out.2.2.2.1
          have hwl : w.heap.size < w3.drew.heap.size := cell_lt hd2
          have HA4 := Lib.hid (show Aside L.l3 L.hi w1 w3.drew from HA.out.drew)
          have HNU4 := Lib.hid (show NumSt w3.drew L g n Bn (some ⟨b, off, none⟩) nR cR from HNU.out.drew)
          have HS4 := Lib.hid (HALL.out w3.drew HA4.out).2.2.2.2
          have HQ4 := Lib.hid (HALL.out w3.drew HA4.out).2.2.2.1
          obtain ⟨w4, hw4⟩ : ∃ w4 : World, w4 = w3.drew := ⟨_, rfl⟩
          rw [← hw4] at hd2 hwl HA4 HNU4 HS4 HQ4 ⊢
          clear hw4 HKZ HA HNU HGK
          obtain ⟨pv, hpv⟩ : ∃ pv, pv = preR g.2.2.2 a n' k := ⟨_, rfl⟩
          rw [← hpv]
          have HIE := Lib.hid (show i = pv + j by rw [hpv]; exact HI.out)
          clear hpv
          have hpvi : pv ≤ i := by have := HIE.out; omega
          --@7
          go_wp2_with fail
          go_loopg [8, 11, 84] mQ (fun gk vi vr vq wr => ∃ (q rest ii jj : Nat), q ≤ mQ ∧ gk = mQ - q ∧ vi = .int .i64 (ii : Int) ∧ vr = .int .i64 (rest : Int) ∧ vq = .int .i64 (q : Int) ∧ ii + jj = i ∧ rest ≤ n' ∧ UnrL g.2.2.2 (r.2.drop q) rest jj (ts.drop q) ∧ Suffix g.2.2.2 (a, n') (r.2.drop q) rest ∧ lN g.2.2.2 (r.2.drop q) rest < MC ∧ NumSt wr L g n Bn (some ⟨b, off, none⟩) nR cR ∧ Aside L.l3 L.hi w1 wr)
          case atStart => exact ⟨0, n', pv, j, Nat.zero_le _, rfl, rfl, rfl, rfl, by have := HIE.out; omega, Nat.le_refl _, HUL.out, HSX.out, HLB.out, HNU4.out, HA4.out⟩
          case round =>
            obtain ⟨q, rest, ii, jj, hq, hgk, rfl, rfl, rfl, hii, hrest, hul, hsx, hlb, hnu, hA⟩ := hrel
            have HGK := Lib.hid hgk
            have HII := Lib.hid hii
            have HNU := Lib.hid hnu
            have HA := Lib.hid hA
            obtain ⟨w5, rfl⟩ : ∃ w5 : World, w5 = wr := ⟨_, rfl⟩
            clear hgk hii hnu hA hd2
            by_cases hlt : q < mQ
            · obtain ⟨s, hs, hdrop⟩ := drop_step (l := r.2) (j := q) (by have := HMM.out; omega)
              obtain ⟨x, hx, hdropt⟩ := drop_step (l := ts) (j := q) (by have := HMT.out; omega)
              obtain ⟨l2, hl2⟩ : ∃ l2, l2 = r.2.drop (q + 1) := ⟨_, rfl⟩
              obtain ⟨ts2, ht2⟩ : ∃ ts2, ts2 = ts.drop (q + 1) := ⟨_, rfl⟩
              rw [hdrop, ← hl2] at hul hsx hlb
              rw [hdropt, ← ht2] at hul
              obtain ⟨k1, q1, p1, t', ts', hk1, hq1, hp1, hux, hul2, hjj, e⟩ := hul.inv
              injection e with e1 e2
              subst e1
              subst e2
              have hmem := List.mem_of_getElem? hx
              have hok := hsx.ok HRN.out
              have hsum := lN_sum HRN.out hok hlb
              have hdx : Der g.2.2.2 [s] k1 := by have := hux.tv.der; rw [hux.word] at this; exact this
              have hdl : Der g.2.2.2 l2 (rest - k1) := by have := hul2.tv.der; rw [hul2.word] at this; exact this
              have hnx := hsx.next hk1 hdx
              have hwle : sumTo (wOf g.2.2.2 s l2 rest) k1 + wOf g.2.2.2 s l2 rest k1 ≤ lN g.2.2.2 (s :: l2) rest := by rw [hsum]; exact sumTo_at (by omega)
              have hwE : wOf g.2.2.2 s l2 rest k1 = oN g.2.2.2 s k1 * lN g.2.2.2 l2 (rest - k1) := rfl
              have hol : oN g.2.2.2 s k1 ≤ wOf g.2.2.2 s l2 rest k1 := by rw [hwE]; exact Nat.le_mul_of_pos_right _ (by omega)
              have hll : lN g.2.2.2 l2 (rest - k1) ≤ wOf g.2.2.2 s l2 rest k1 := by rw [hwE]; exact Nat.le_mul_of_pos_left _ (by omega)
              have hrated : Rated g n s k1 := fun y hy => by
                subst hy
                have he := hsx.edge hk1 hdx hdl
                rw [oN_non (lenD_iff.2 hdx)] at hol
                exact ⟨he.lt HRN.out, by omega, fun h => HM.out (h.back he), by omega⟩
              have hsizes := HSZ.out x hmem
              obtain ⟨bt, offt, Ax, mx, cx, x', hA0, hSx, hblx, hx0, hx1, hx2, hx', hxs⟩ := tree_at (HALL.out w5 HA.out).2.2.2.2 hlt
              subst hA0
              obtain rfl : x = x' := by rw [hx] at hx'; injection hx'
              obtain ⟨bq, offq, s', hAQ, hSq, hblq, hs0, hs1, hs'⟩ := sym_at (HALL.out w5 HA.out).2.2.2.1 hlt
              subst hAQ
              obtain rfl : s = s' := by rw [hs] at hs'; injection hs'
              have hq1I : (q : Int) < (mQ : Int) := by omega
              have hq0I : (0 : Int) ≤ (q : Int) := by omega
              have hB5 : Below w5.heap.size w5 (w5.alloc (.cells #[.int .i64 x.rule, .int .i64 x.term, .slice Ax mx cx] 34)) := (Below.refl _ _).alloc (Nat.le_refl _) _
              have HNUx := Lib.hid (HNU.out.below hB5)
              have HAx := Lib.hid (HA.out.trans (.of hB5))
              have HXS := Lib.hid (hxs.below hB5)
              have HUX := Lib.hid hux
              have HUL2 := Lib.hid hul2
              have HSX5 := Lib.hid hsx
              have HNX := Lib.hid hnx
              have HRT := Lib.hid hrated
              have HJJ := Lib.hid hjj
              have HDX := Lib.hid hdx
              have HDL := Lib.hid hdl
              have HDR := Lib.hid hdrop
              have HDT := Lib.hid hdropt
              have HL2E := Lib.hid hl2
              have HT2E := Lib.hid ht2
              have HOK := Lib.hid hok
              have HSZX := Lib.hid hsizes
              have HLL := Lib.hid (show lN g.2.2.2 l2 (rest - k1) < MC by omega)
              have hjjB : jj ≤ i := by have := HII.out; omega
              clear hul hsx hlb hs hx hdrop hl2 ht2 hux hul2 hmem hok hsum hdx hdl hnx hwle hwE hol hll hrated hsizes hs' hx' hxs hdropt hjj
              --@8
              go_wp2_with fail
              refine (IH.out _ x s k1 q1 S' Ax mx cx HNUx.out HS'.out HXS.out HSZX.out.1 HSZX.out.2 HUX.out HRT.out).mono ?_
              rintro e w6 ⟨rfl, hnu6, hA6⟩
              have HNU6 := Lib.hid hnu6
              have HA6 := Lib.hid (HAx.out.trans hA6)
              clear hnu6 hA6 hx0 hx1 hx2 hs0 hs1
              --@9
              go_wp2_with fail
              go_loopg [8, 96] k1 (fun gk vi vp wr => ∃ p : Nat, p ≤ k1 ∧ gk = k1 - p ∧ vp = .int .i64 (p : Int) ∧ vi = .int .i64 ((ii + sumTo (wOf g.2.2.2 s l2 rest) p : Nat) : Int) ∧ NumSt wr L g n Bn (some ⟨b, off, none⟩) nR cR ∧ Aside L.l3 L.hi w1 wr)
              case atStart => exact ⟨0, Nat.zero_le _, rfl, rfl, by rw [sumTo_zero, Nat.add_zero], HNU6.out, HA6.out⟩
              case round =>
                obtain ⟨p, hp, hgk, rfl, rfl, hnu, hA⟩ := hrel
                have HGP := Lib.hid hgk
                have HNU7 := Lib.hid hnu
                have HA7 := Lib.hid hA
                obtain ⟨w7, rfl⟩ : ∃ w7 : World, w7 = wr := ⟨_, rfl⟩
                clear hgk hnu hA
                have hsq := (HALL.out w7 HA7.out).2.2.2.1
                obtain ⟨A2, hcut, hl'⟩ := hsq.cutl tSyms rfl (q + 1) (by omega)
                rw [show (((q + 1 : Nat)) : Int) = (q : Int) + 1 from by omega] at hcut
                rw [← HL2E.out] at hl'
                have HCUT := Lib.hid hcut
                have HL7 := Lib.hid hl'
                have HQ1 := Lib.hid (show IntKind.i64.wrap ((q : Int) + 1) = (q : Int) + 1 from IntWalk.i64_in _ (by omega))
                have hpk : p ≤ rest := by omega
                have HNK := Lib.hid (show IntKind.i64.wrap ((rest : Int) - (p : Int)) = ((rest - p : Nat) : Int) by rw [IntWalk.i64_in _ (by omega)]; omega)
                clear hsq hcut hl'
                by_cases hlp : p < k1
                · have hst := sumTo_succ (wOf g.2.2.2 s l2 rest) p
                  have hmo : sumTo (wOf g.2.2.2 s l2 rest) (p + 1) ≤ sumTo (wOf g.2.2.2 s l2 rest) k1 := sumTo_mono (by omega)
                  have hjk : sumTo (wOf g.2.2.2 s l2 rest) k1 ≤ jj := by have := HJJ.out; omega
                  have HKY := Lib.hid HNU7.out.drew.ptr
                  obtain ⟨cu, hcu⟩ : ∃ cu, cu = ii + sumTo (wOf g.2.2.2 s l2 rest) p := ⟨_, rfl⟩
                  obtain ⟨cu1, hcu1⟩ : ∃ cu1, cu1 = ii + sumTo (wOf g.2.2.2 s l2 rest) (p + 1) := ⟨_, rfl⟩
                  rw [← hcu]
                  have hcw : cu1 = cu + wOf g.2.2.2 s l2 rest p := by omega
                  have hcB : cu1 ≤ i := by have := HII.out; omega
                  have HCW := Lib.hid hcw
                  have HCU1 := Lib.hid hcu1
                  have hcB0 : cu ≤ i := by omega
                  clear hst hmo hjk hcu hcu1 hcw
                  clear IH HKK HS' HC HRK HR1 HUL HI HWD HSX HLB HPI HSZ HXS HUX HRT HJJ HDT HSZX HNUx HAx HNU HUL2 HNX HLL HII
                  --@10
                  go_wp2_with fail
                  refine wp_region_late (late := []) (S1 := fun u => u.cell? ⟨Bn, 4, none⟩ = some (.pointer (some ⟨L.Bc, 0, none⟩))) (S := fun _ => True) (by kernel_rfl) ?_
                  refine wpAnyL_pure (i := 0) rfl (by kernel_rfl) (fun _ _ _ h => h) (Or.inl ⟨by rfl, (fun u hu => by have k0 := hu; go_simp; try rfl)⟩) HKY.out (fun _ => trivial) ?_
                  simp only [Act.put, List.setIfInBounds_toArray, List.set_cons_zero, List.set_cons_succ, List.getElem_toArray, List.getElem_cons_zero, List.getElem_cons_succ]
                  refine wpAnyL_pure (i := 1) rfl (by kernel_rfl) (fun _ _ _ h => h) (Or.inl ⟨by rfl, (fun u hu => by have k0 := hu; go_simp; try rfl)⟩) HKY.out (fun _ => trivial) ?_
                  simp only [Act.put, List.setIfInBounds_toArray, List.set_cons_zero, List.set_cons_succ, List.getElem_toArray, List.getElem_cons_zero, List.getElem_cons_succ]
                  refine wpAnyL_pure (i := 2) rfl (by kernel_rfl) (fun _ _ _ h => h) (Or.inl ⟨by rfl, (fun u hu => by have k0 := hu; go_simp; try rfl)⟩) HKY.out (fun _ => trivial) ?_
                  simp only [Act.put, List.setIfInBounds_toArray, List.set_cons_zero, List.set_cons_succ, List.getElem_toArray, List.getElem_cons_zero, List.getElem_cons_succ]
                  refine wpAnyL_pure (i := 3) rfl (by kernel_rfl) (fun _ _ _ h => h) (Or.inl ⟨by rfl, (fun u hu => by have k0 := hu; go_simp; try rfl)⟩) HKY.out (fun _ => trivial) ?_
                  simp only [Act.put, List.setIfInBounds_toArray, List.set_cons_zero, List.set_cons_succ, List.getElem_toArray, List.getElem_cons_zero, List.getElem_cons_succ]
                  refine wpAnyL_pure (i := 4) rfl (by kernel_rfl) (fun _ _ _ h => h) (Or.inl ⟨by rfl, (fun u hu => by have k0 := hu; go_simp; try rfl)⟩) HKY.out (fun _ => trivial) ?_
                  simp only [Act.put, List.setIfInBounds_toArray, List.set_cons_zero, List.set_cons_succ, List.getElem_toArray, List.getElem_cons_zero, List.getElem_cons_succ]
                  refine wpAnyL_pure (i := 5) rfl (by kernel_rfl) (fun _ _ _ h => h) (Or.inl ⟨by rfl, (fun u hu => by have k0 := hu; go_simp; try rfl)⟩) HKY.out (fun _ => trivial) ?_
                  simp only [Act.put, List.setIfInBounds_toArray, List.set_cons_zero, List.set_cons_succ, List.getElem_toArray, List.getElem_cons_zero, List.getElem_cons_succ]
                  refine wpAnyL_pure (i := 6) (v := .int .i64 ((q : Int) + 1)) rfl (by kernel_rfl) (fun _ _ _ h => h) (Or.inl ⟨by rfl, (fun u hu => by have hq1 := HQ1.out; go_simp; try rfl)⟩) HKY.out (fun _ => trivial) ?_
                  simp only [Act.put, List.setIfInBounds_toArray, List.set_cons_zero, List.set_cons_succ, List.getElem_toArray, List.getElem_cons_zero, List.getElem_cons_succ]
                  refine wpAnyL_pure (i := 7) (v := .slice A2 (mQ - (q + 1)) (cQ - (q + 1))) rfl (by kernel_rfl) (fun _ _ _ h => h) (Or.inl ⟨by rfl, (fun u hu => by have hx := HCUT.out u; go_simp)⟩) HKY.out (fun _ => trivial) ?_
                  simp only [Act.put, List.setIfInBounds_toArray, List.set_cons_zero, List.set_cons_succ, List.getElem_toArray, List.getElem_cons_zero, List.getElem_cons_succ]
                  refine wpAnyL_pure (i := 8) rfl (by kernel_rfl) (fun _ _ _ h => h) (Or.inl ⟨by rfl, (fun u hu => by have k0 := hu; go_simp; try rfl)⟩) HKY.out (fun _ => trivial) ?_
                  simp only [Act.put, List.setIfInBounds_toArray, List.set_cons_zero, List.set_cons_succ, List.getElem_toArray, List.getElem_cons_zero, List.getElem_cons_succ]
                  refine wpAnyL_pure (i := 9) rfl (by kernel_rfl) (fun _ _ _ h => h) (Or.inl ⟨by rfl, (fun u hu => by have k0 := hu; go_simp; try rfl)⟩) HKY.out (fun _ => trivial) ?_
                  simp only [Act.put, List.setIfInBounds_toArray, List.set_cons_zero, List.set_cons_succ, List.getElem_toArray, List.getElem_cons_zero, List.getElem_cons_succ]
                  refine wpAnyL_pure (i := 10) (v := .int .i64 ((rest - p : Nat) : Int)) rfl (by kernel_rfl) (fun _ _ _ h => h) (Or.inl ⟨by rfl, (fun u hu => by have hnk := HNK.out; go_simp; try rfl)⟩) HKY.out (fun _ => trivial) ?_
                  simp only [Act.put, List.setIfInBounds_toArray, List.set_cons_zero, List.set_cons_succ, List.getElem_toArray, List.getElem_cons_zero, List.getElem_cons_succ]
                  refine wpAnyL_ready (rs := [11]) (by kernel_rfl) (by simp) ?_
                  refine AllL.cons rfl (fun K hK => ?_) ?_
                  · go_simp
                    refine (listOr hn HRN.out HRL.out (a, n') haN hkn HM.out s l2 rest p HSX5.out hpk (by omega) _ HNU7.out.drew.cok _ (fun _ h => h) _ _ _ HL7.out.drew).mono ?_
                    rintro e w8 ⟨⟨rv, rfl, hrv⟩, hc8, hA8⟩
                    have HNU8 := Lib.hid (HNU7.out.drew.aside hc8 hA8)
                    have HA8 := Lib.hid (HA7.out.drew.trans hA8)
                    have HRV := Lib.hid hrv
                    clear hc8 hA8 hrv
                    refine hK.out _ _ HNU8.out.ptr (fun _ => trivial) ?_
                    clear hK K
                    refine wpAnyL_pure (i := 12) rfl (by kernel_rfl) (fun _ _ _ h => h) (Or.inl ⟨by rfl, (fun u hu => by have k0 := hu; go_simp; try rfl)⟩) HNU8.out.ptr (fun _ => trivial) ?_
                    simp only [Act.put, List.setIfInBounds_toArray, List.set_cons_zero, List.set_cons_succ, List.getElem_toArray, List.getElem_cons_zero, List.getElem_cons_succ]
                    refine wpAnyL_done (by kernel_rfl) ?_ _
                    by_cases hpos : 0 < rv
                    · have hposd : decide (0 < rv) = true := by simpa using hpos
                      have HKV := Lib.hid (show ∀ u : World, NumSt u L g n Bn (some ⟨b, off, none⟩) nR cR → Aside L.l3 L.hi w1 u → u.cell? ⟨Bn, 4, none⟩ = some (.pointer (some ⟨L.Bc, 0, none⟩)) ∧ u.cell? ⟨bq, offq + q * 2, none⟩ = some (.bool s.1) ∧ u.cell? ⟨bq, offq + q * 2 + 1, none⟩ = some (.int .i64 s.2) from fun u hu1 hu2 => by
                        obtain ⟨bz, oz, sz', hz1, _, _, hz2, hz3, hz4⟩ := sym_at (HALL.out u hu2).2.2.2.1 hlt
                        injection hz1 with hz1
                        injection hz1 with e1 e2
                        subst e1
                        subst e2
                        have e3 : r.2[q]? = some s := by
                          have := HDR.out
                          have h0 := List.head?_drop (l := r.2) (i := q)
                          rw [this] at h0
                          simpa using h0.symm
                        rw [e3] at hz4
                        injection hz4 with hz4
                        subst hz4
                        exact ⟨hu1.ptr, hz2, hz3⟩)
                      have HPOS := Lib.hid hpos
                      clear hpos
                      --@13
                      go_wp2_with fail
                      refine wp_region_late (late := []) (S1 := fun u => u.cell? ⟨Bn, 4, none⟩ = some (.pointer (some ⟨L.Bc, 0, none⟩)) ∧ u.cell? ⟨bq, offq + q * 2, none⟩ = some (.bool s.1) ∧ u.cell? ⟨bq, offq + q * 2 + 1, none⟩ = some (.int .i64 s.2)) (S := fun _ => True) (by kernel_rfl) ?_
                      refine wpAnyL_pure (i := 0) rfl (by kernel_rfl) (fun _ _ _ h => h) (Or.inl ⟨by rfl, (fun u hu => by obtain ⟨k0, k1, k2⟩ := hu; go_simp; try rfl)⟩) (HKV.out w8.drew HNU8.out.drew HA8.out.drew) (fun _ => trivial) ?_
                      simp only [Act.put, List.setIfInBounds_toArray, List.set_cons_zero, List.set_cons_succ, List.getElem_toArray, List.getElem_cons_zero, List.getElem_cons_succ]
                      refine wpAnyL_pure (i := 1) rfl (by kernel_rfl) (fun _ _ _ h => h) (Or.inl ⟨by rfl, (fun u hu => by obtain ⟨k0, k1, k2⟩ := hu; go_simp; try rfl)⟩) (HKV.out w8.drew HNU8.out.drew HA8.out.drew) (fun _ => trivial) ?_
                      simp only [Act.put, List.setIfInBounds_toArray, List.set_cons_zero, List.set_cons_succ, List.getElem_toArray, List.getElem_cons_zero, List.getElem_cons_succ]
                      refine wpAnyL_pure (i := 2) rfl (by kernel_rfl) (fun _ _ _ h => h) (Or.inl ⟨by rfl, (fun u hu => by obtain ⟨k0, k1, k2⟩ := hu; go_simp; try rfl)⟩) (HKV.out w8.drew HNU8.out.drew HA8.out.drew) (fun _ => trivial) ?_
                      simp only [Act.put, List.setIfInBounds_toArray, List.set_cons_zero, List.set_cons_succ, List.getElem_toArray, List.getElem_cons_zero, List.getElem_cons_succ]
                      refine wpAnyL_pure (i := 3) rfl (by kernel_rfl) (fun _ _ _ h => h) (Or.inl ⟨by rfl, (fun u hu => by obtain ⟨k0, k1, k2⟩ := hu; go_simp; try rfl)⟩) (HKV.out w8.drew HNU8.out.drew HA8.out.drew) (fun _ => trivial) ?_
                      simp only [Act.put, List.setIfInBounds_toArray, List.set_cons_zero, List.set_cons_succ, List.getElem_toArray, List.getElem_cons_zero, List.getElem_cons_succ]
                      refine wpAnyL_pure (i := 4) rfl (by kernel_rfl) (fun _ _ _ h => h) (Or.inl ⟨by rfl, (fun u hu => by obtain ⟨k0, k1, k2⟩ := hu; go_simp; try rfl)⟩) (HKV.out w8.drew HNU8.out.drew HA8.out.drew) (fun _ => trivial) ?_
                      simp only [Act.put, List.setIfInBounds_toArray, List.set_cons_zero, List.set_cons_succ, List.getElem_toArray, List.getElem_cons_zero, List.getElem_cons_succ]
                      refine wpAnyL_pure (i := 5) rfl (by kernel_rfl) (fun _ _ _ h => h) (Or.inl ⟨by rfl, (fun u hu => by obtain ⟨k0, k1, k2⟩ := hu; go_simp; try rfl)⟩) (HKV.out w8.drew HNU8.out.drew HA8.out.drew) (fun _ => trivial) ?_
                      simp only [Act.put, List.setIfInBounds_toArray, List.set_cons_zero, List.set_cons_succ, List.getElem_toArray, List.getElem_cons_zero, List.getElem_cons_succ]
                      refine wpAnyL_pure (i := 6) rfl (by kernel_rfl) (fun _ _ _ h => h) (Or.inl ⟨by rfl, (fun u hu => by obtain ⟨k0, k1, k2⟩ := hu; go_simp; try rfl)⟩) (HKV.out w8.drew HNU8.out.drew HA8.out.drew) (fun _ => trivial) ?_
                      simp only [Act.put, List.setIfInBounds_toArray, List.set_cons_zero, List.set_cons_succ, List.getElem_toArray, List.getElem_cons_zero, List.getElem_cons_succ]
                      refine wpAnyL_pure (i := 7) rfl (by kernel_rfl) (fun _ _ _ h => h) (Or.inl ⟨by rfl, (fun u hu => by obtain ⟨k0, k1, k2⟩ := hu; go_simp; try rfl)⟩) (HKV.out w8.drew HNU8.out.drew HA8.out.drew) (fun _ => trivial) ?_
                      simp only [Act.put, List.setIfInBounds_toArray, List.set_cons_zero, List.set_cons_succ, List.getElem_toArray, List.getElem_cons_zero, List.getElem_cons_succ]
                      refine wpAnyL_pure (i := 8) rfl (by kernel_rfl) (fun _ _ _ h => h) (Or.inl ⟨by rfl, (fun u hu => by obtain ⟨k0, k1, k2⟩ := hu; go_simp; try rfl)⟩) (HKV.out w8.drew HNU8.out.drew HA8.out.drew) (fun _ => trivial) ?_
                      simp only [Act.put, List.setIfInBounds_toArray, List.set_cons_zero, List.set_cons_succ, List.getElem_toArray, List.getElem_cons_zero, List.getElem_cons_succ]
                      refine wpAnyL_pure (i := 9) rfl (by kernel_rfl) (fun _ _ _ h => h) (Or.inl ⟨by rfl, (fun u hu => by obtain ⟨k0, k1, k2⟩ := hu; go_simp; try rfl)⟩) (HKV.out w8.drew HNU8.out.drew HA8.out.drew) (fun _ => trivial) ?_
                      simp only [Act.put, List.setIfInBounds_toArray, List.set_cons_zero, List.set_cons_succ, List.getElem_toArray, List.getElem_cons_zero, List.getElem_cons_succ]
                      refine wpAnyL_pure (i := 11) rfl (by kernel_rfl) (fun _ _ _ h => h) (Or.inl ⟨by rfl, (fun u hu => by obtain ⟨k0, k1, k2⟩ := hu; go_simp; try rfl)⟩) (HKV.out w8.drew HNU8.out.drew HA8.out.drew) (fun _ => trivial) ?_
                      simp only [Act.put, List.setIfInBounds_toArray, List.set_cons_zero, List.set_cons_succ, List.getElem_toArray, List.getElem_cons_zero, List.getElem_cons_succ]
                      refine wpAnyL_ready (rs := [10]) (by kernel_rfl) (by simp) ?_
                      refine AllL.cons rfl (fun K hK => ?_) ?_
                      · go_simp
                        refine (ofOr hn HRN.out HRL.out (a, n') HM.out s l2 rest p HSX5.out hpk (by omega) _ HNU8.out.drew.cok).mono ?_
                        rintro e w9 ⟨⟨fv, rfl, hfv⟩, hc9, hA9⟩
                        have HNU9 := Lib.hid (HNU8.out.drew.aside hc9 hA9)
                        have HA9 := Lib.hid (HA8.out.drew.trans hA9)
                        have hmulv : fv * rv = ((wOf g.2.2.2 s l2 rest p : Nat) : Int) := by
                          unfold wOf
                          by_cases hd : Der g.2.2.2 [s] p
                          · have h1 := HRV.out hd
                            have h2 : Der g.2.2.2 l2 (rest - p) := lN_der HRN.out HOK.out.tail (by have := HPOS.out; omega)
                            rw [hfv.1 hd h2, h1, Int.natCast_mul]
                          · rw [hfv.2 hd, oN_zero HOK.out.head hd, Nat.zero_mul, Int.zero_mul]; rfl
                        obtain ⟨wv, hwv⟩ : ∃ wv, wv = wOf g.2.2.2 s l2 rest p := ⟨_, rfl⟩
                        rw [← hwv] at hmulv
                        have hcw := HCW.out
                        rw [← hwv] at hcw
                        have HMU := Lib.hid (show IntKind.i64.wrap (fv * rv) = (wv : Int) by rw [hmulv]; exact IntWalk.i64_in _ (by omega))
                        have HAD := Lib.hid (show IntKind.i64.wrap ((cu : Int) + (wv : Int)) = (cu1 : Int) by rw [IntWalk.i64_in _ (by omega)]; omega)
                        clear hc9 hA9 hfv hmulv hwv hcw
                        refine hK.out _ _ (HKV.out w9 HNU9.out HA9.out) (fun _ => trivial) ?_
                        clear hK K
                        refine wpAnyL_pure (i := 12) (v := .int .i64 (wv : Int)) rfl (by kernel_rfl) (fun _ _ _ h => h) (Or.inl ⟨by rfl, (fun u hu => by have hm := HMU.out; go_simp; try rfl)⟩) (HKV.out w9 HNU9.out HA9.out) (fun _ => trivial) ?_
                        simp only [Act.put, List.setIfInBounds_toArray, List.set_cons_zero, List.set_cons_succ, List.getElem_toArray, List.getElem_cons_zero, List.getElem_cons_succ]
                        refine wpAnyL_pure (i := 13) (v := .int .i64 (cu1 : Int)) rfl (by kernel_rfl) (fun _ _ _ h => h) (Or.inl ⟨by rfl, (fun u hu => by have ha := HAD.out; go_simp; try rfl)⟩) (HKV.out w9 HNU9.out HA9.out) (fun _ => trivial) ?_
                        simp only [Act.put, List.setIfInBounds_toArray, List.set_cons_zero, List.set_cons_succ, List.getElem_toArray, List.getElem_cons_zero, List.getElem_cons_succ]
                        refine wpAnyL_pure (i := 14) rfl (by kernel_rfl) (fun _ _ _ h => h) (Or.inl ⟨by rfl, (fun u hu => by obtain ⟨k0, k1, k2⟩ := hu; go_simp; try rfl)⟩) (HKV.out w9 HNU9.out HA9.out) (fun _ => trivial) ?_
                        simp only [Act.put, List.setIfInBounds_toArray, List.set_cons_zero, List.set_cons_succ, List.getElem_toArray, List.getElem_cons_zero, List.getElem_cons_succ]
                        refine wpAnyL_done (by kernel_rfl) ?_ _
                        go_wp2_with fail
                        go_roundg (k1 - (p + 1))
                        case measure => rw [HGP.out]; omega
                        case rel => exact ⟨p + 1, by omega, rfl, by go_num, by rw [HCU1.out], HNU9.out, HA9.out⟩
                      exact AllL.nil
                    · have hposd : decide (0 < rv) = false := by simpa using hpos
                      have hw0 : wOf g.2.2.2 s l2 rest p = 0 := by
                        unfold wOf
                        by_cases hd : Der g.2.2.2 [s] p
                        · have h0 : lN g.2.2.2 l2 (rest - p) = 0 := by have := HRV.out hd; omega
                          rw [h0, Nat.mul_zero]
                        · rw [oN_zero HOK.out.head hd, Nat.zero_mul]
                      have HE := Lib.hid (show cu1 = cu by have := HCW.out; omega)
                      clear hw0 hpos
                      --@14
                      go_wp2_with fail
                      go_roundg (k1 - (p + 1))
                      case measure => rw [HGP.out]; omega
                      case rel => exact ⟨p + 1, by omega, rfl, by go_num, by rw [← HCU1.out, HE.out], HNU8.out, HA8.out⟩
                  exact AllL.nil
                · obtain rfl : k1 = p := by omega
                  have HKY := Lib.hid HNU7.out.drew.ptr
                  obtain ⟨lv, hlv⟩ : ∃ lv, lv = lN g.2.2.2 l2 (rest - k1) := ⟨_, rfl⟩
                  obtain ⟨cu, hcu⟩ : ∃ cu, cu = ii + sumTo (wOf g.2.2.2 s l2 rest) k1 := ⟨_, rfl⟩
                  rw [← hcu]
                  have hjj := HJJ.out
                  rw [← hlv] at hjj
                  obtain ⟨pq, hpq⟩ : ∃ pq, pq = q1 * lv := ⟨_, rfl⟩
                  rw [← hpq] at hjj
                  obtain ⟨cz, hczd⟩ : ∃ cz, cz = cu + pq := ⟨_, rfl⟩
                  have hcz : cz + p1 = i := by have := HII.out; omega
                  have hmul : IntKind.i64.wrap ((q1 : Int) * (lv : Int)) = (pq : Int) := by
                    rw [← Int.natCast_mul, ← hpq, IntWalk.i64_in _ (by omega)]
                  have hadd : IntKind.i64.wrap ((cu : Int) + (pq : Int)) = (cz : Int) := by
                    rw [IntWalk.i64_in _ (by omega)]; omega
                  have HMUL := Lib.hid hmul
                  have HADD := Lib.hid hadd
                  have HCZ := Lib.hid hcz
                  have HLV := Lib.hid hlv
                  have hsubk : (rest : Int) - (k1 : Int) = ((rest - k1 : Nat) : Int) := by omega
                  clear hmul hadd hcz hlv hcu hjj hpq hczd
                  clear IH HKK HALL HS' HC HRK HR1 HUL HI HWD HSX HLB HPI HSZ HMM HMT HXS HUX HRT HJJ HDL HDR HDT HOK HSZX HNUx HAx HNU HA
                  --@11
                  go_wp2_with fail
                  clear hsubk
                  refine wp_region_late (late := []) (S1 := fun u => u.cell? ⟨Bn, 4, none⟩ = some (.pointer (some ⟨L.Bc, 0, none⟩))) (S := fun _ => True) (by kernel_rfl) ?_
                  refine wpAnyL_pure (i := 0) rfl (by kernel_rfl) (fun _ _ _ h => h) (Or.inl ⟨by rfl, (fun u hu => by have k0 := hu; go_simp; try rfl)⟩) HKY.out (fun _ => trivial) ?_
                  simp only [Act.put, List.setIfInBounds_toArray, List.set_cons_zero, List.set_cons_succ, List.getElem_toArray, List.getElem_cons_zero, List.getElem_cons_succ]
                  refine wpAnyL_pure (i := 1) rfl (by kernel_rfl) (fun _ _ _ h => h) (Or.inl ⟨by rfl, (fun u hu => by have k0 := hu; go_simp; try rfl)⟩) HKY.out (fun _ => trivial) ?_
                  simp only [Act.put, List.setIfInBounds_toArray, List.set_cons_zero, List.set_cons_succ, List.getElem_toArray, List.getElem_cons_zero, List.getElem_cons_succ]
                  refine wpAnyL_pure (i := 2) rfl (by kernel_rfl) (fun _ _ _ h => h) (Or.inl ⟨by rfl, (fun u hu => by have k0 := hu; go_simp; try rfl)⟩) HKY.out (fun _ => trivial) ?_
                  simp only [Act.put, List.setIfInBounds_toArray, List.set_cons_zero, List.set_cons_succ, List.getElem_toArray, List.getElem_cons_zero, List.getElem_cons_succ]
                  refine wpAnyL_pure (i := 3) rfl (by kernel_rfl) (fun _ _ _ h => h) (Or.inl ⟨by rfl, (fun u hu => by have k0 := hu; go_simp; try rfl)⟩) HKY.out (fun _ => trivial) ?_
                  simp only [Act.put, List.setIfInBounds_toArray, List.set_cons_zero, List.set_cons_succ, List.getElem_toArray, List.getElem_cons_zero, List.getElem_cons_succ]
                  refine wpAnyL_pure (i := 4) rfl (by kernel_rfl) (fun _ _ _ h => h) (Or.inl ⟨by rfl, (fun u hu => by have k0 := hu; go_simp; try rfl)⟩) HKY.out (fun _ => trivial) ?_
                  simp only [Act.put, List.setIfInBounds_toArray, List.set_cons_zero, List.set_cons_succ, List.getElem_toArray, List.getElem_cons_zero, List.getElem_cons_succ]
                  refine wpAnyL_pure (i := 5) rfl (by kernel_rfl) (fun _ _ _ h => h) (Or.inl ⟨by rfl, (fun u hu => by have k0 := hu; go_simp; try rfl)⟩) HKY.out (fun _ => trivial) ?_
                  simp only [Act.put, List.setIfInBounds_toArray, List.set_cons_zero, List.set_cons_succ, List.getElem_toArray, List.getElem_cons_zero, List.getElem_cons_succ]
                  refine wpAnyL_pure (i := 6) rfl (by kernel_rfl) (fun _ _ _ h => h) (Or.inl ⟨by rfl, (fun u hu => by have k0 := hu; go_simp; try rfl)⟩) HKY.out (fun _ => trivial) ?_
                  simp only [Act.put, List.setIfInBounds_toArray, List.set_cons_zero, List.set_cons_succ, List.getElem_toArray, List.getElem_cons_zero, List.getElem_cons_succ]
                  refine wpAnyL_pure (i := 7) rfl (by kernel_rfl) (fun _ _ _ h => h) (Or.inl ⟨by rfl, (fun u hu => by have k0 := hu; go_simp; try rfl)⟩) HKY.out (fun _ => trivial) ?_
                  simp only [Act.put, List.setIfInBounds_toArray, List.set_cons_zero, List.set_cons_succ, List.getElem_toArray, List.getElem_cons_zero, List.getElem_cons_succ]
                  refine wpAnyL_pure (i := 8) (v := .int .i64 ((q : Int) + 1)) rfl (by kernel_rfl) (fun _ _ _ h => h) (Or.inl ⟨by rfl, (fun u hu => by have hq1 := HQ1.out; go_simp; try rfl)⟩) HKY.out (fun _ => trivial) ?_
                  simp only [Act.put, List.setIfInBounds_toArray, List.set_cons_zero, List.set_cons_succ, List.getElem_toArray, List.getElem_cons_zero, List.getElem_cons_succ]
                  refine wpAnyL_pure (i := 9) (v := .slice A2 (mQ - (q + 1)) (cQ - (q + 1))) rfl (by kernel_rfl) (fun _ _ _ h => h) (Or.inl ⟨by rfl, (fun u hu => by have hx := HCUT.out u; go_simp)⟩) HKY.out (fun _ => trivial) ?_
                  simp only [Act.put, List.setIfInBounds_toArray, List.set_cons_zero, List.set_cons_succ, List.getElem_toArray, List.getElem_cons_zero, List.getElem_cons_succ]
                  refine wpAnyL_pure (i := 10) rfl (by kernel_rfl) (fun _ _ _ h => h) (Or.inl ⟨by rfl, (fun u hu => by have k0 := hu; go_simp; try rfl)⟩) HKY.out (fun _ => trivial) ?_
                  simp only [Act.put, List.setIfInBounds_toArray, List.set_cons_zero, List.set_cons_succ, List.getElem_toArray, List.getElem_cons_zero, List.getElem_cons_succ]
                  refine wpAnyL_ready (rs := [11]) (by kernel_rfl) (by simp) ?_
                  refine AllL.cons rfl (fun K hK => ?_) ?_
                  · go_simp
                    refine (listOr hn HRN.out HRL.out (a, n') haN hkn HM.out s l2 rest k1 HSX5.out hpk (by omega) _ HNU7.out.drew.cok _ (fun _ h => h) _ _ _ HL7.out.drew).mono ?_
                    rintro e w8 ⟨⟨rv, rfl, hrv⟩, hc8, hA8⟩
                    have hrv' := hrv HDX.out
                    rw [← HLV.out] at hrv'
                    subst hrv'
                    have HNU8 := Lib.hid (HNU7.out.drew.aside hc8 hA8)
                    have HA8 := Lib.hid (HA7.out.drew.trans hA8)
                    clear hc8 hA8 hrv
                    refine hK.out _ _ HNU8.out.ptr (fun _ => trivial) ?_
                    clear hK K
                    refine wpAnyL_pure (i := 12) (v := .int .i64 (pq : Int)) rfl (by kernel_rfl) (fun _ _ _ h => h) (Or.inl ⟨by rfl, (fun u hu => by have hm := HMUL.out; go_simp; try rfl)⟩) HNU8.out.ptr (fun _ => trivial) ?_
                    simp only [Act.put, List.setIfInBounds_toArray, List.set_cons_zero, List.set_cons_succ, List.getElem_toArray, List.getElem_cons_zero, List.getElem_cons_succ]
                    refine wpAnyL_pure (i := 13) (v := .int .i64 (cz : Int)) rfl (by kernel_rfl) (fun _ _ _ h => h) (Or.inl ⟨by rfl, (fun u hu => by have ha := HADD.out; go_simp; try rfl)⟩) HNU8.out.ptr (fun _ => trivial) ?_
                    simp only [Act.put, List.setIfInBounds_toArray, List.set_cons_zero, List.set_cons_succ, List.getElem_toArray, List.getElem_cons_zero, List.getElem_cons_succ]
                    refine wpAnyL_pure (i := 14) rfl (by kernel_rfl) (fun _ _ _ h => h) (Or.inl ⟨by rfl, (fun u hu => by have k0 := hu; go_simp; try rfl)⟩) HNU8.out.ptr (fun _ => trivial) ?_
                    simp only [Act.put, List.setIfInBounds_toArray, List.set_cons_zero, List.set_cons_succ, List.getElem_toArray, List.getElem_cons_zero, List.getElem_cons_succ]
                    refine wpAnyL_done (by kernel_rfl) ?_ _
                    go_wp2_with fail
                    go_roundg (mQ - (q + 1))
                    case measure => rw [HGK.out]; omega
                    case rel => exact ⟨q + 1, rest - k1, cz, p1, by omega, rfl, rfl, rfl, by go_num, HCZ.out, by omega, by rw [← HL2E.out, ← HT2E.out]; exact HUL2.out, by rw [← HL2E.out]; exact HNX.out, by rw [← HL2E.out]; exact HLL.out, HNU8.out, HA8.out⟩
                  exact AllL.nil
            · obtain rfl : mQ = q := by omega
              have hnil : r.2.drop mQ = [] := List.drop_of_length_le (by have := HMM.out; omega)
              rw [hnil] at hul
              have hz : jj = 0 := hul.nil_num
              have HZ := Lib.hid hz
              clear hul hsx hlb hnil hz
              --@12
              go_wp2_with fail
              go_ret2
              refine ⟨?_, HNU.out, HA1.out.trans HA.out⟩
              have h1 := HII.out
              have h2 := HZ.out
              rw [show i = ii by omega]
              rfl
end Go.Proofs.Ythanhegomgbgbaa
