/- MfD -/
import Derived.Test.YtjnbjdbndbbanaaGreatDoorTc45
namespace Go.Proofs.YtjnbjdbndbbanaaGreatDoor
open Go.RowKit Go.Maps
def MfD (R : List RuleD) (st n : Nat) (ws : List Int) (z : Nat) (w : World) (A : Option Addr) (m c : Nat) (x : Int) : Prop :=
 (¬ DerW R ws [(false, (st : Int))] 0 n ∧ A = none ∧ m = 0 ∧ c = 0 ∧ x = -1) ∨
 (DerW R ws [(false, (st : Int))] 0 n ∧ ∃ (S : Nat → Prop) (L : List KeyD), x = (ixK L ((false, (st : Int)), 0, n) : Int) ∧ Sl RNode w S A m c (L.map (nodeZ R ws L)) ∧ FoX R ws ((false, (st : Int)), 0, n) L ∧ L.length ≤ 8192 ∧ ∀ b, S b → z ≤ b ∧ b < w.heap.size)
theorem MfD.only {R : List RuleD} {st n z : Nat} {ws : List Int} {w w' : World} {A : Option Addr} {m c : Nat} {x : Int} {X : Nat → Prop} (h : MfD R st n ws z w A m c x) (ho : Only w w' X) (hX : ∀ b, z ≤ b → b < w.heap.size → ¬ X b) : MfD R st n ws z w' A m c x := by
 rcases h with h | ⟨h1, S, L, h2, h3, h4, h5, h6⟩
 · exact .inl h
 exact .inr ⟨h1, S, L, h2, h3.keep (ho.kept fun b hb => hX b (h6 b hb).1 (h6 b hb).2), h4, h5, fun b hb => ⟨(h6 b hb).1, Nat.lt_of_lt_of_le (h6 b hb).2 ho.size⟩⟩
theorem MfD.below {R : List RuleD} {st n z : Nat} {ws : List Int} {w w' : World} {A : Option Addr} {m c : Nat} {x : Int} (h : MfD R st n ws z w A m c x) (hb : Below w.heap.size w w') : MfD R st n ws z w' A m c x := h.only (X := fun _ => False) (.of_below hb (Nat.le_refl _) _) fun _ _ _ => id
theorem MfD.mono {R : List RuleD} {st n z z' : Nat} {ws : List Int} {w : World} {A : Option Addr} {m c : Nat} {x : Int} (h : MfD R st n ws z w A m c x) (hz : z' ≤ z) : MfD R st n ws z' w A m c x := by
 rcases h with h | ⟨h1, S, L, h2, h3, h4, h5, h6⟩
 · exact .inl h
 exact .inr ⟨h1, S, L, h2, h3, h4, h5, fun b hb => ⟨Nat.le_trans hz (h6 b hb).1, (h6 b hb).2⟩⟩
theorem buildM (most : Nat) (hmo : most ≤ 1099511627776) (w : World) (hTb : Tab w) (Sg S : Nat → Prop) (AR : Option Addr) (nR cR : Nat) (g : GramD) (hg : Sl RRule w Sg AR nR cR g.2.2.2) (hv : GValid g) (A : Option Addr) (n cw : Nat) (ws : List Int) (hws : Rd w S 1 A n (ws.map (Value.int .i64))) (hwb : ∀ c ∈ ws, 0 ≤ c ∧ c < 16) (hn : n ≤ 12)
    (lo hi gN : Nat) (gs : Nat → Nat) (E : Nat → Nat → Nat) (hG : Grid mV 99 w lo hi gN gs (nonsOf g) (n + 1) E) (hhi : hi ≤ w.heap.size) (hE : ∀ a i, E a i < 2 ^ (n + 1)) (hsn : SoundW g.2.2.2 ws (nonsOf g) E) (hcl : ClosedW g.2.2.2 ws E) :
    Calls Tryz.prog 47 #[.agg #[.int .i64 g.1, .int .i64 g.2.1, .int .i64 g.2.2.1, .slice AR nR cR], .slice A n cw, .slice (some ⟨gN, 0, none⟩) (nonsOf g) (nonsOf g), .int .i64 (most : Int)] w fun e w' => ((∃ (A' : Option Addr) (m c : Nat) (x : Int), e = .returned (.tuple #[.agg #[.slice A' m c, .int .i64 x], .bool true]) ∧ MfD g.2.2.2 g.2.2.1.toNat n ws w.heap.size w' A' m c x) ∨
     (∃ L : List KeyD, L.Nodup ∧ (∀ x ∈ L, DerK g.2.2.2 ws x) ∧ most < sumPk g.2.2.2 ws L ∧ e = .returned (.tuple #[.agg #[.slice none 0 0, .int .i64 0], .bool false]))) ∧ Below w.heap.size w w' := by
 refine (coreBuild ⟨g, AR, nR, cR, Sg, A, n, cw, ws, S, lo, hi, gN, gs, E, most⟩ ⟨hv, hn, hmo, by simpa using hws.1, hwb, hE, hsn, hcl⟩ w ⟨hTb, hg, hws, hG, hhi⟩).mono ?_
 rintro e w' ⟨h, hb⟩
 refine ⟨?_, hb⟩
 rcases h with ⟨h1, rfl⟩ | ⟨h1, F, v, L, rfl, h2, h3, h5, h6⟩ | ⟨L, h1, h2, h3, rfl⟩
 · exact .inl ⟨none, 0, 0, -1, rfl, .inl ⟨h1, rfl, rfl, rfl, rfl⟩⟩
 ·
  obtain ⟨A', c, rfl, _⟩ := h2.form
  exact .inl ⟨A', _, c, _, rfl, .inr ⟨h1, _, L, rfl, h2.fit.sl, h3, h5, fun b hb => ⟨h6 b hb.1, hb.2⟩⟩⟩
 exact .inr ⟨L, h1, h2, h3, rfl⟩
theorem filter_few (p : Nat → Bool) (lo c : Nat) (h : ∀ k, p k = true → lo ≤ k ∧ k < lo + c) : ∀ j : Nat, ((List.range j).filter p).length ≤ j - lo ∧ ((List.range j).filter p).length ≤ c
 | 0 => by simp
 | j + 1 => by
  obtain ⟨h1, h2⟩ := filter_few p lo c h j
  rw [List.range_succ, List.filter_append, List.length_append]
  by_cases hp : p j = true
  ·
   obtain ⟨h3, h4⟩ := h j hp
   rw [List.filter_cons, if_pos hp]
   simp only [List.filter_nil, List.length_cons, List.length_nil]
   omega
  rw [List.filter_cons, if_neg hp]
  simp only [List.filter_nil, List.length_nil]
  omega
theorem der_past {R : List RuleD} {w : List Int} {l : List SymD} {i j : Nat} (h : DerW R w l i j) : w.length ≤ i → j = i := by
 induction h with
 | nil => exact fun _ => rfl
 | term h1 _ _ =>
  intro h
  have := (List.getElem?_eq_some_iff.1 h1).1
  omega
 | non _ _ _ ih1 ih2 =>
  intro h
  have e := ih1 h
  rw [ih2 (by omega), e]
open Classical in
theorem splP_few {R : List RuleD} {ws : List Int} (hn : ws.length ≤ 12) : ∀ (l : List SymD) (i j : Nat), (splP R ws l i j).length ≤ 13 ^ l.length
 | [], i, j => by
  rw [splP_nil]
  split <;> simp
 | s :: l, i, j => by
  rw [splP_cons, List.length_flatMap]
  have h1 : ∀ (m : List Nat) (f : Nat → Nat) (c : Nat), (∀ x, f x ≤ c) → (m.map f).sum ≤ m.length * c := by
   intro m f c hf
   induction m with
   | nil => simp
   | cons x m ih =>
    rw [List.map_cons, List.sum_cons, List.length_cons, Nat.succ_mul]
    have := hf x
    omega
  refine Nat.le_trans (h1 _ _ (13 ^ l.length) fun k => ?_) ?_
  ·
   rw [List.length_map]
   exact splP_few hn l k j
  rw [List.length_cons, Nat.pow_succ, Nat.mul_comm]
  refine Nat.mul_le_mul_left _ ?_
  by_cases hi : i ≤ ws.length
  ·
   refine (filter_few _ 0 13 (fun k hk => ?_) (j + 1)).2
   have h := (of_decide_eq_true hk).1.le.2 hi
   omega
  refine Nat.le_trans (filter_few _ i 1 (fun k hk => ?_) (j + 1)).2 (by decide)
  have h := der_past (of_decide_eq_true hk).1 (by omega)
  omega
theorem packs_few' {R : List RuleD} {ws : List Int} (hn : ws.length ≤ 12) (hR : ∀ r ∈ R, r.2.length ≤ 4) (hl : R.length ≤ 32) (x : KeyD) : (packsP R ws x).length ≤ 1000000 := by
 unfold packsP
 split
 · simp
 rw [List.length_flatMap]
 have h1 : ∀ (m : List (RuleD × Nat)) (f : RuleD × Nat → Nat) (c : Nat), (∀ x ∈ m, f x ≤ c) → (m.map f).sum ≤ m.length * c := by
  intro m f c
  induction m with
  | nil => simp
  | cons x m ih =>
   intro hf
   rw [List.map_cons, List.sum_cons, List.length_cons, Nat.succ_mul]
   have := hf x (by simp)
   have := ih fun y hy => hf y (by simp [hy])
   omega
 refine Nat.le_trans (h1 _ _ 28561 fun p hp => ?_) ?_
 ·
  split
  ·
   rw [List.length_map]
   have h2 : p.1 ∈ R := by
    obtain ⟨_, _, h3⟩ := List.mem_zipIdx hp
    rw [h3]; exact List.getElem_mem _
   refine Nat.le_trans (splP_few hn _ _ _) ?_
   exact Nat.le_trans (Nat.pow_le_pow_right (by decide) (hR _ h2)) (by decide)
  simp
 rw [List.length_zipIdx]
 omega
open Classical in
set_option linter.unusedSimpArgs false in
set_option maxRecDepth 100000 in
set_option maxHeartbeats 4000000 in
theorem countOf (w : World) (R : List RuleD) (st n z : Nat) (ws : List Int) (A : Option Addr) (m c : Nat) (x : Int) (hR : ∀ r ∈ R, r.2.length ≤ 4) (hl : R.length ≤ 32) (hn : n ≤ 12) (hw : ws.length = n) (h : MfD R st n ws z w A m c x) :
    Calls Tryz.prog 28 #[.agg #[.slice A m c, .int .i64 x]] w fun e w' => e = .returned (.int .i64 (kW R st n ws)) ∧ Below w.heap.size w w' := by
 rcases h with ⟨h1, _, h2, _, h3⟩ | ⟨h1, S, L, h2, h3, h4, h6, h7⟩
 ·
  subst h2 h3
  have HK := zh (show kW R st n ws = 0 by unfold kW; rw [if_neg h1])
  clear h1 hR hl hw
  go_enter Tryz.func28, Tryz.ntmps28
  go_wp2_with fail
  go_ret
  exact ⟨by rw [HK.out]; rfl, (Below.refl _ _).alloc (Nat.le_refl _) _⟩
 subst h2
 have hm : m = L.length := by rw [h3.len, List.length_map]
 have e : kW R st n ws = cntK (L.map (nodeZ R ws L)) (ixK L ((false, (st : Int)), 0, n) : Int) := by
  rw [h4.toFoL.cnt h4.rt]
  unfold kW keyN
  rw [if_pos h1, Nat.zero_add]
 rw [e]
 refine coreCount w S A m c _ _ h3 (by omega) h4.toFoL.ok ?_ ?_
 ·
  intro nd hnd
  obtain ⟨y, hy, rfl⟩ := List.mem_map.1 hnd
  refine ⟨?_, ?_, ?_⟩
  ·
   show ((packsP R ws y).map (pkZ L)).length ≤ 1000000
   rw [List.length_map]
   exact packs_few' (by omega) hR hl y
  ·
   intro h
   show (packsP R ws y).map (pkZ L) = []
   unfold packsP
   rw [if_pos (show y.1.1 = true from h)]
   rfl
  intro p hp
  obtain ⟨q, hq, rfl⟩ := List.mem_map.1 hp
  show (q.2.map fun y => (ixK L y : Int)).length ≤ 1000000
  rw [List.length_map]
  obtain ⟨_, r, hr, _, h3⟩ := mem_packsP.1 hq
  rw [splP_kids h3]
  exact Nat.le_trans (hR r (List.mem_of_getElem? hr)) (by decide)
 have := ixK_lt h4.rt
 omega
end Go.Proofs.YtjnbjdbndbbanaaGreatDoor
