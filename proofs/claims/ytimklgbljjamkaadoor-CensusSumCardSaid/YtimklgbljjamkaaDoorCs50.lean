/- MeanCnt CloInt DfaCheck -/
import Derived.LoopTactic
import Derived.Outline
import Derived.Test.YtimklgbljjamkaaDoorCs02
import Derived.Test.YtimklgbljjamkaaDoorCs05
import Derived.Test.YtimklgbljjamkaaDoorCs38
import Derived.Test.YtimklgbljjamkaaDoorCs47
import Derived.Test.YtimklgbljjamkaaDoorCs49
import Derived.WalkSpells
namespace Go.Proofs.YtimklgbljjamkaaDoor
open Go.RowKit Go.Maps
theorem filter_few (p : Nat → Bool) (lo c : Nat) (h : ∀ k, p k = true → lo ≤ k ∧ k < lo + c) : ∀ j : Nat, ((List.range j).filter p).length ≤ j - lo ∧ ((List.range j).filter p).length ≤ c
 | 0 => by simp
 | j + 1 => by
  obtain ⟨h1, h2⟩ := filter_few p lo c h j
  rw [List.range_succ, List.filter_append, List.length_append]
  by_cases hp : p j = true
  ·
   obtain ⟨h3, h4⟩ := h j hp
   rw [List.filter_cons, if_pos hp]
   simp only [List.filter_nil, List.length_cons, List.length_nil]
   omega
  ·
   rw [List.filter_cons, if_neg hp]
   simp only [List.filter_nil, List.length_nil]
   omega
theorem der_past {R : List RuleD} {w : List Int} {l : List SymD} {i j : Nat} (h : DerW R w l i j) : w.length ≤ i → j = i := by
 induction h with
 | nil => exact fun _ => rfl
 | term h1 _ _ =>
  intro h
  have := (List.getElem?_eq_some_iff.1 h1).1
  omega
 | non _ _ _ ih1 ih2 =>
  intro h
  have e := ih1 h
  rw [ih2 (by omega), e]
open Classical in
theorem splP_few {R : List RuleD} {ws : List Int} (hn : ws.length ≤ 4) : ∀ (l : List SymD) (i j : Nat), (splP R ws l i j).length ≤ 5 ^ l.length
 | [], i, j => by
  rw [splP_nil]
  split <;> simp
 | s :: l, i, j => by
  rw [splP_cons, List.length_flatMap]
  have h1 : ∀ (m : List Nat) (f : Nat → Nat) (c : Nat), (∀ x, f x ≤ c) → (m.map f).sum ≤ m.length * c := by
   intro m f c hf
   induction m with
   | nil => simp
   | cons x m ih =>
    rw [List.map_cons, List.sum_cons, List.length_cons, Nat.succ_mul]
    have := hf x
    omega
  refine Nat.le_trans (h1 _ _ (5 ^ l.length) fun k => ?_) ?_
  ·
   rw [List.length_map]
   exact splP_few hn l k j
  ·
   rw [List.length_cons, Nat.pow_succ, Nat.mul_comm]
   refine Nat.mul_le_mul_left _ ?_
   by_cases hi : i ≤ ws.length
   ·
    refine (filter_few _ 0 5 (fun k hk => ?_) (j + 1)).2
    have h := (of_decide_eq_true hk).1.le.2 hi
    omega
   ·
    refine Nat.le_trans (filter_few _ i 1 (fun k hk => ?_) (j + 1)).2 (by decide)
    have h := der_past (of_decide_eq_true hk).1 (by omega)
    omega
theorem packs_few' {R : List RuleD} {ws : List Int} (hn : ws.length ≤ 4) (hR : ∀ r ∈ R, r.2.length ≤ 4) (hl : R.length ≤ 32) (x : KeyD) : (packsP R ws x).length ≤ 20000 := by
 unfold packsP
 split
 ·
  simp
 ·
  rw [List.length_flatMap]
  have h1 : ∀ (m : List (RuleD × Nat)) (f : RuleD × Nat → Nat) (c : Nat), (∀ x ∈ m, f x ≤ c) → (m.map f).sum ≤ m.length * c := by
   intro m f c
   induction m with
   | nil => simp
   | cons x m ih =>
    intro hf
    rw [List.map_cons, List.sum_cons, List.length_cons, Nat.succ_mul]
    have := hf x (by simp)
    have := ih fun y hy => hf y (by simp [hy])
    omega
  refine Nat.le_trans (h1 _ _ 625 fun p hp => ?_) ?_
  ·
   split
   ·
    rw [List.length_map]
    have h2 : p.1 ∈ R := by
     obtain ⟨_, _, h3⟩ := List.mem_zipIdx hp
     rw [h3]; exact List.getElem_mem _
    refine Nat.le_trans (splP_few hn _ _ _) ?_
    exact Nat.le_trans (Nat.pow_le_pow_right (by decide) (hR _ h2)) (by decide)
   ·
    simp
  ·
   rw [List.length_zipIdx]
   omega
open Classical in
set_option linter.unusedSimpArgs false in
set_option maxRecDepth 100000 in
set_option maxHeartbeats 4000000 in
theorem countOf (w : World) (R : List RuleD) (st n z : Nat) (ws : List Int) (A : Option Addr) (m c : Nat) (x : Int) (hR : ∀ r ∈ R, r.2.length ≤ 4) (hl : R.length ≤ 32) (hn : n ≤ 4) (hw : ws.length = n) (h : MfD R st n ws z w A m c x) :
    Calls Tryd.prog 29 #[.agg #[.slice A m c, .int .i64 x]] w fun e w' => e = .returned (.int .i64 (kW R st n ws)) ∧ Below w.heap.size w w' := by
 rcases h with ⟨h1, h2, h3⟩ | ⟨h1, S, L, h2, h3, h4, h5, h6, h7⟩
 ·
  subst h2 h3
  have HK := Lib.hid (show kW R st n ws = 0 by unfold kW; rw [if_neg h1])
  clear h1 hR hl hw
  go_enter Tryd.func29, Tryd.ntmps29
  go_wp2_with fail
  go_ret
  exact ⟨by rw [HK.out]; rfl, (Below.refl _ _).alloc (Nat.le_refl _) _⟩
 ·
  subst h2
  have hm : m = L.length := by rw [h3.len, List.length_map]
  have e : kW R st n ws = cntK (L.map (nodeZ R ws L)) (ixK L ((false, (st : Int)), 0, n) : Int) := by
   rw [h4.cnt h5]
   unfold kW keyN
   rw [if_pos h1, Nat.zero_add]
  rw [e]
  refine coreCount w S A m c _ _ h3 (by omega) h4.ok ?_ ?_
  ·
   intro nd hnd
   obtain ⟨y, hy, rfl⟩ := List.mem_map.1 hnd
   refine ⟨?_, ?_, ?_⟩
   ·
    show ((packsP R ws y).map (pkZ L)).length ≤ 1000000
    rw [List.length_map]
    exact Nat.le_trans (packs_few' (by omega) hR hl y) (by decide)
   ·
    intro h
    show (packsP R ws y).map (pkZ L) = []
    unfold packsP
    rw [if_pos (show y.1.1 = true from h)]
    rfl
   ·
    intro p hp
    obtain ⟨q, hq, rfl⟩ := List.mem_map.1 hp
    show (q.2.map fun y => (ixK L y : Int)).length ≤ 1000000
    rw [List.length_map]
    obtain ⟨_, r, hr, _, h3⟩ := mem_packsP.1 hq
    rw [splP_kids h3]
    exact Nat.le_trans (hR r (List.mem_of_getElem? hr)) (by decide)
  ·
   have := ixK_lt h5
   omega
set_option linter.unusedSimpArgs false in
set_option maxRecDepth 1000000 in
set_option maxHeartbeats 4000000 in
theorem meanCount (w : World) (hTb : Tab w) (Sg S : Nat → Prop) (AR : Option Addr) (nR cR : Nat) (g : GramD) (hg : Sl RRule w Sg AR nR cR g.2.2.2) (hv : GValid g) (A : Option Addr) (n cw : Nat) (ws : List Int) (hws : Rd w S 1 A n (ws.map (Value.int .i64))) (hT : ∀ x ∈ ws, 0 ≤ x ∧ x < g.1) (hn : n ≤ 4) :
    Calls Tryd.prog 10 #[.agg #[.int .i64 g.1, .int .i64 g.2.1, .int .i64 g.2.2.1, .slice AR nR cR], .slice A n cw] w fun e w' => e = .returned (.tuple #[.int .i64 (kW g.2.2.2 g.2.2.1.toNat n ws), .int .i64 0]) ∧ Below w.heap.size w w' := by
 obtain ⟨w1, hw1⟩ : ∃ w1 : World, w1 = w.alloc (.cells #[.int .i64 g.1, .int .i64 g.2.1, .int .i64 g.2.2.1, .slice AR nR cR] 25) := ⟨_, rfl⟩
 have hb1 : Below w.heap.size w w1 := by rw [hw1]; exact (Below.refl _ _).alloc (Nat.le_refl _) _
 have hg1 : w1.heap[w.heap.size]? = some (.cells #[.int .i64 g.1, .int .i64 g.2.1, .int .i64 g.2.2.1, .slice AR nR cR] 25 (0, 0)) := by rw [hw1]; exact heap_alloc_new w _
 have hall : ∀ u : World, Below w1.heap.size w1 u → u.cell? ⟨w.heap.size, 0, none⟩ = some (.int .i64 g.1) ∧ u.cell? ⟨w.heap.size, 1, none⟩ = some (.int .i64 g.2.1) ∧ u.cell? ⟨w.heap.size, 2, none⟩ = some (.int .i64 g.2.2.1) ∧ u.cell? ⟨w.heap.size, 3, none⟩ = some (.slice AR nR cR) := fun u hu => by
  have e := (hu.block _ (heap_lt hg1)).trans hg1
  simp [World.cell?, e]
 have hwl : ws.length = n := by simpa using hws.1
 have HALL := Lib.hid hall
 have HB1 := Lib.hid hb1
 have HW := Lib.hid (hws.below hb1)
 have HG := Lib.hid (hg.below hb1)
 have HV := Lib.hid hv
 have HT := Lib.hid hT
 have HTB := Lib.hid hTb
 have HWL := Lib.hid hwl
 have HWB := Lib.hid (show ∀ c ∈ ws, 0 ≤ c ∧ c < 16 from fun c hc => by have := hT c hc; have := hv.t2; omega)
 obtain ⟨k0, k1, k2, k3⟩ := hall w1 (Below.refl _ _)
 rw [hw1] at k0 k1 k2 k3
 clear hb1 hg1 hws hT hg hv hall hTb hwl
 go_enter Tryd.func10, Tryd.ntmps10
 go_wp2_with fail
 rw [← hw1]
 clear hw1 k0 k1 k2 k3
 refine (meanCheck w1 _ _ AR nR cR g HG.out HV.out A n cw ws HW.out HT.out (by omega)).mono ?_
 rintro e w2 ⟨rfl, hb2⟩
 have HB2 := Lib.hid hb2
 obtain ⟨k0, k1, k2, k3⟩ := HALL.out w2 hb2
 clear hb2
 go_wp2_with fail
 clear k0 k1 k2 k3
 refine (meanOf w2 (HTB.out.below (HB1.out.trans (HB2.out.mono HB1.out.size)) HTB.out.1) _ _ AR nR cR g (HG.out.below HB2.out) HV.out A n cw ws (HW.out.below HB2.out) HWB.out hn).mono ?_
 rintro e w3 ⟨⟨A3, m3, c3, x3, rfl, hmf⟩, hb3⟩
 have HB3 := Lib.hid hb3
 have HMF := Lib.hid hmf
 clear hb3 hmf
 go_wp2_with fail
 refine (countOf w3 g.2.2.2 g.2.2.1.toNat n _ ws A3 m3 c3 x3 (fun r hr => (HV.out.rules r hr).2.1) HV.out.rl hn HWL.out HMF.out).mono ?_
 rintro e w4 ⟨rfl, hb4⟩
 have HB4 := Lib.hid (HB1.out.trans ((HB2.out.trans ((HB3.out.trans (hb4.mono HB3.out.size)).mono HB2.out.size)).mono HB1.out.size))
 clear hb4
 go_wp2_with fail
 go_ret2
 exact ⟨rfl, HB4.out⟩
end Go.Proofs.YtimklgbljjamkaaDoor
namespace Go.Proofs.YtimklgbljjamkaaDoor
open Go.RowKit
set_option maxHeartbeats 1000000 in
theorem cloneInt (A : Option Addr) (n c : Nat) (S : Nat → Prop) (xs : List Value) (w : World) (hr : Rd w S 1 A n xs) (hb : n * 8 ≤ 281474976710656) :
    Calls Tryd.prog 27 #[.slice A n c] w fun e w' => ∃ v, e = .returned v ∧ Own w' w.heap.size 3 1 v n xs ∧ Below w.heap.size w w' := by
 have HRD := Lib.hid hr
 clear hr
 cases A with
 | none =>
  have hq := fun W => Lib.run_eql_slice_nil (P := Tryd.prog) W 22
  go_enter Tryd.func27, Tryd.ntmps27
  go_wp2_with fail
  go_ret
  have hn : n = 0 := by
   rcases Nat.eq_zero_or_pos n with h0 | h0
   ·
    exact h0
   ·
    obtain ⟨b, off, h, _⟩ := HRD.out.2 h0
    cases h
  subst hn
  have hx : xs = [] := List.eq_nil_of_length_eq_zero (by simpa using HRD.out.1)
  subst hx
  exact ⟨_, rfl, Own.nil _ _ _ _ _, Below.refl _ _⟩
 | some a =>
  have hq := fun W => Lib.run_eql_slice_nil (P := Tryd.prog) W 22 3 (some a) n c 0 0 (by kernel_rfl)
  obtain ⟨v2, w2, hrun, ho, hg, _⟩ := run_append_fresh tInts (w.alloc (.cells #[] 3)) 22 w.heap.size (some ⟨w.heap.size, 0, none⟩) _ (some a) n c xs (HRD.out.alloc _) (by unfold maxLen; omega) (by omega) (by simp)
  have HRUN := Lib.hid hrun
  have HO := Lib.hid ho
  have HG := Lib.hid hg
  clear hrun ho hg
  go_enter Tryd.func27, Tryd.ntmps27
  go_wp2_with (at_builtin; refine Lib.wpList_append_run _ rfl _ _ _ _ rfl _ _ rfl rfl _ _ HRUN.out ?_)
  go_ret
  exact ⟨_, rfl, HO.out, ((Below.refl _ _).alloc (Nat.le_refl _) _).grown HG.out (by simp) (by simp)⟩
end Go.Proofs.YtimklgbljjamkaaDoor
namespace Go.Proofs.YtimklgbljjamkaaDoor
open Go.RowKit
theorem row_at {w : World} {S : Nat → Prop} {N : Option Addr} {n c k : Nat} {rows : List (List Int)} (h : Sl RI w S N n c rows) (hk : k < n) :
    ∃ b off A' m c' r, N = some ⟨b, off, none⟩ ∧ S b ∧ b < w.heap.size ∧ w.cell? ⟨b, off + k, none⟩ = some (.slice A' m c') ∧ rows[k]? = some r ∧ Sl Rep.int w S A' m c' r := by
 obtain ⟨b, off, u, a, e, hS, hx, hok, hc⟩ := h.at_ rfl hk
 obtain ⟨A', m, c', e2, hs⟩ := hok
 injection e2 with e2 _
 subst e2
 exact ⟨b, off, A', m, c', a, e, hS, cell_lt hc, hc, hx, hs⟩
end Go.Proofs.YtimklgbljjamkaaDoor
