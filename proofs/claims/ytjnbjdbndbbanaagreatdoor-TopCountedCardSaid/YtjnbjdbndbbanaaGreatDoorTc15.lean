/- FoP4 CsP ListAny TreeD RankPlain -/
import Derived.Test.YtjnbjdbndbbanaaGreatDoorTc12
import Derived.Test.YtjnbjdbndbbanaaGreatDoorTc14
namespace Go.Proofs.YtjnbjdbndbbanaaGreatDoor
theorem DerW.shift {R : List RuleD} {u : List Int} (p q : List Int) {l : List SymD} {i j : Nat} (h : DerW R u l i j) : DerW R (p ++ u ++ q) l (p.length + i) (p.length + j) := by
 induction h with
 | nil => exact .nil
 | @term c l i j h1 _ ih =>
  refine .term ?_ ih
  have hl := (List.getElem?_eq_some_iff.1 h1).1
  rw [List.append_assoc, List.getElem?_append_right (by omega), show p.length + i - p.length = i by omega, List.getElem?_append_left hl]
  exact h1
 | non h1 _ _ ih1 ih2 => exact .non h1 ih1 ih2
def LetT (T : Nat) (u : List Int) : Prop := ∀ x ∈ u, 0 ≤ x ∧ x < (T : Int)
theorem LetT.append {T : Nat} {u v : List Int} (h : LetT T u) (h' : LetT T v) : LetT T (u ++ v) := fun x hx => by
 rcases List.mem_append.1 hx with e | e
 · exact h x e
 exact h' x e
abbrev keyN (a i n : Nat) : KeyD := ((false, (a : Int)), i, i + n)
section
variable {R : List RuleD} {T : Nat}
theorem Der.word (hT : TermsR R T) {l : List SymD} {k : Nat} (h : Der R l k) : (∀ s ∈ l, s.1 = true → 0 ≤ s.2 ∧ s.2 < (T : Int)) → ∃ u : List Int, u.length = k ∧ LetT T u ∧ DerW R u l 0 k := by
 induction h with
 | nil => exact fun _ => ⟨[], rfl, (fun x hx => by cases hx), .nil⟩
 | @term x l k h ih =>
  intro hl
  obtain ⟨u, h1, h2, h3⟩ := ih fun s hs => hl s (by simp [hs])
  refine ⟨x :: u, by simp [h1], fun y hy => ?_, ?_⟩
  ·
   rcases List.mem_cons.1 hy with rfl | hy
   · exact hl (true, y) (by simp) rfl
   exact h2 y hy
  have h4 := h3.shift [x] []
  rw [List.append_nil] at h4
  refine .term rfl ?_
  have e1 : [x].length + 0 = 0 + 1 := rfl
  have e2 : [x].length + k = k + 1 := by simp; omega
  rw [e1, e2] at h4
  exact h4
 | @non A r l i j hr _ _ ih1 ih2 =>
  intro hl
  obtain ⟨u, h1, h2, h3⟩ := ih1 fun s hs => hT _ hr s hs
  obtain ⟨v, h4, h5, h6⟩ := ih2 fun s hs => hl s (by simp [hs])
  refine ⟨u ++ v, by simp [h1, h4], h2.append h5, ?_⟩
  have h7 := h3.shift [] v
  have h8 := h6.shift u []
  rw [List.append_nil, h1, Nat.add_zero] at h8
  rw [List.nil_append] at h7
  simp only [List.length_nil, Nat.zero_add] at h7
  exact .non hr h7 h8
theorem edge_word (hT : TermsR R T) {x y : Nat × Nat} (h : Edge R x y) {v : List Int} (hv : v.length = y.2) (_hl : LetT T v) (hd : DerW R v [(false, (y.1 : Int))] 0 y.2) :
    ∃ pu qu : List Int, LetT T pu ∧ LetT T qu ∧ pu.length + y.2 + qu.length = x.2 ∧ DerW R (pu ++ v ++ qu) [(false, (x.1 : Int))] 0 x.2 ∧ ∀ P Q : List Int, FEdge R (P ++ (pu ++ v ++ qu) ++ Q) (keyN x.1 P.length x.2) (keyN y.1 (P.length + pu.length) y.2) := by
 obtain ⟨r, hr, hr1, a, b, hab, p, q, hpq, ha, hb, _⟩ := h
 obtain ⟨pu, h1, h2, h3⟩ := ha.word hT fun s hs => hT r hr s (by rw [hab]; simp [hs])
 obtain ⟨qu, h4, h5, h6⟩ := hb.word hT fun s hs => hT r hr s (by rw [hab]; simp [hs])
 have k1 : DerW R (pu ++ v ++ qu) a 0 p := by
  have h := h3.shift [] (v ++ qu)
  rw [List.nil_append, ← List.append_assoc] at h
  simpa using h
 have k2 : DerW R (pu ++ v ++ qu) [(false, (y.1 : Int))] p (p + y.2) := by
  have h := hd.shift pu qu
  rw [h1, Nat.add_zero] at h
  exact h
 have k3 : DerW R (pu ++ v ++ qu) b (p + y.2) x.2 := by
  have h := h6.shift (pu ++ v) []
  rw [List.append_nil, List.length_append, h1, hv, Nat.add_zero, hpq] at h
  exact h
 have k4 : (((x.1 : Int)), r.2) ∈ R := by rw [← hr1]; exact hr
 refine ⟨pu, qu, h2, h5, by omega, ?_, fun P Q => ?_⟩
 ·
  have k5 : DerW R (pu ++ v ++ qu) r.2 0 x.2 := by
   rw [hab]
   exact DerW.append (k2.cons k3) k1
  exact .non k4 k5 .nil
 refine fEdge_iff.2 ⟨rfl, r, hr, hr1, a, b, hab, ?_, ?_, ?_⟩
 ·
  have h := k1.shift P Q
  rw [Nat.add_zero] at h
  rw [h1]
  exact h
 ·
  have h := k2.shift P Q
  rw [← Nat.add_assoc] at h
  rw [h1]
  exact h
 have h := k3.shift P Q
 rw [← Nat.add_assoc] at h
 rw [h1]
 exact h
theorem reach_word (hT : TermsR R T) {x y : Nat × Nat} (h : Reach (Edge R) x y) {v : List Int} (hv : v.length = y.2) (hl : LetT T v) (hd : DerW R v [(false, (y.1 : Int))] 0 y.2) :
    ∃ pu qu : List Int, LetT T pu ∧ LetT T qu ∧ pu.length + y.2 + qu.length = x.2 ∧ DerW R (pu ++ v ++ qu) [(false, (x.1 : Int))] 0 x.2 ∧ ∀ P Q : List Int, Reach (FEdge R (P ++ (pu ++ v ++ qu) ++ Q)) (keyN x.1 P.length x.2) (keyN y.1 (P.length + pu.length) y.2) := by
 induction h with
 | one h =>
  obtain ⟨pu, qu, h1, h2, h3, h4, h5⟩ := edge_word hT h hv hl hd
  exact ⟨pu, qu, h1, h2, h3, h4, fun P Q => .one (h5 P Q)⟩
 | @step a b c h _ ih =>
  obtain ⟨pu, qu, h1, h2, h3, h4, h5⟩ := ih hv hd
  obtain ⟨pa, qa, g1, g2, g3, g4, g5⟩ := edge_word hT h (v := pu ++ v ++ qu) (by simp [hv]; omega) ((h1.append hl).append h2) h4
  have e : ∀ P Q : List Int, P ++ (pa ++ pu ++ v ++ (qu ++ qa)) ++ Q = P ++ (pa ++ (pu ++ v ++ qu) ++ qa) ++ Q := fun P Q => by simp
  refine ⟨pa ++ pu, qu ++ qa, g1.append h1, h2.append g2, by simp; omega, ?_, fun P Q => ?_⟩
  ·
   have := e [] []
   simp only [List.nil_append, List.append_nil] at this
   rw [this]
   exact g4
  rw [e]
  refine .step (g5 P Q) ?_
  have h6 := h5 (P ++ pa) (qa ++ Q)
  rw [show P ++ pa ++ (pu ++ v ++ qu) ++ (qa ++ Q) = P ++ (pa ++ (pu ++ v ++ qu) ++ qa) ++ Q by simp] at h6
  rw [List.length_append] at h6
  rw [List.length_append, ← Nat.add_assoc]
  exact h6
theorem reach_der {x y : Nat × Nat} (h : Reach (Edge R) x y) : Der R [(false, (y.1 : Int))] y.2 := by
 induction h with
 | one h => obtain ⟨_, _, _, _, _, _, _, _, _, _, _, h⟩ := h; exact h
 | step _ _ ih => exact ih
end
theorem acc_irr {α : Type} {E : α → α → Prop} {x : α} (h : Acc (fun y x => E x y) x) : ¬ Reach E x x := by
 induction h with
 | intro x _ ih =>
  intro hr
  cases hr with
  | one h => exact ih x h (.one h)
  | step h1 h2 => exact ih _ h1 (h2.trans (.one h1))
theorem acc_reach {α : Type} {E : α → α → Prop} {x y : α} (h : Acc (fun y x => E x y) x) (hr : Reach E x y) : Acc (fun y x => E x y) y := by
 induction hr with
 | one h1 => exact h.inv h1
 | step h1 _ ih => exact ih (h.inv h1)
section
variable {R : List RuleD} {T N : Nat}
theorem many_cyc (hT : TermsR R T) {a n : Nat} (hm : Many R (a, n)) : ∃ u ∈ wordsP T n, DerW R u [(false, (a : Int))] 0 n ∧ ¬ Acc (fun y x => FEdge R u x y) (keyN a 0 n) := by
 obtain ⟨y, h1, h2⟩ := hm
 obtain ⟨v, hv, hl, hd⟩ := (reach_der h2).word hT (fun s hs => by rw [List.mem_singleton.1 hs]; exact fun h => by cases h)
 obtain ⟨pu, qu, g1, g2, g3, g4, g5⟩ := reach_word hT h2 hv hl hd
 have e1 : pu = [] := List.eq_nil_of_length_eq_zero (by omega)
 have e2 : qu = [] := List.eq_nil_of_length_eq_zero (by omega)
 subst e1 e2
 simp only [List.nil_append, List.append_nil, List.length_nil, Nat.add_zero] at g5
 rcases h1 with rfl | h1
 ·
  refine ⟨v, mem_wordsP.2 ⟨hv, hl⟩, hd, fun hA => acc_irr hA ?_⟩
  have h3 := g5 [] []
  simp only [List.nil_append, List.append_nil, List.length_nil] at h3
  exact h3
 obtain ⟨pu, qu, k1, k2, k3, k4, k5⟩ := reach_word hT h1 hv hl hd
 refine ⟨pu ++ v ++ qu, mem_wordsP.2 ⟨by simp [hv]; omega, (k1.append hl).append k2⟩, k4, fun hA => ?_⟩
 have h3 := k5 [] []
 simp only [List.nil_append, List.append_nil, List.length_nil, Nat.zero_add] at h3
 exact acc_irr (acc_reach hA h3) (g5 pu qu)
theorem acc_key (hR : RulesN N R) {x : Nat × Nat} (h : Acc (fun y x => Edge R x y) x) : ∀ (ws : List Int) (i : Nat), Acc (fun y x => FEdge R ws x y) (keyN x.1 i x.2) := by
 induction h with
 | intro x _ ih =>
  intro ws i
  refine Acc.intro _ fun y hy => ?_
  obtain ⟨⟨b, c⟩, p, q⟩ := y
  cases b with
  | true => exact Acc.intro _ fun z hz => by have := (fEdge_iff.1 hz).1; cases this
  | false =>
   obtain ⟨_, r, hr, hr1, a, m, ham, h1, h2, h3⟩ := fEdge_iff.1 hy
   simp only at h1 h2 h3 ham
   have hc := (hR r hr).2 (false, c) (by rw [ham]; simp) rfl
   have e : c = ((c.toNat : Nat) : Int) := (Int.toNat_of_nonneg hc.1).symm
   have l1 := h1.le.1
   have l2 := h2.le.1
   have l3 := h3.le.1
   have he : Edge R x (c.toNat, q - p) := ⟨r, hr, hr1, a, m, by rw [ham, ← e], p - i, i + x.2 - q, by dsimp only; omega, h1.der, h3.der, by rw [← e]; exact h2.der⟩
   have h4 := ih _ he ws p
   simp only [keyN] at h4
   rw [← e, show p + (q - p) = q by omega] at h4
   exact h4
open Classical in
noncomputable def kW (R : List RuleD) (a n : Nat) (u : List Int) : Int :=
 if DerW R u [(false, (a : Int))] 0 n then (if Acc (fun y x => FEdge R u x y) (keyN a 0 n) then (fC R u (keyN a 0 n) : Int) else -1) else 0
open Classical in
theorem sum_law (hR : RulesN N R) (hT : TermsR R T) {a n : Nat} (ha : a < N) :
    (if ∃ u ∈ wordsP T n, kW R a n u = -1 then (-1 : Int) else ((cp (((wordsP T n).map fun u => (kW R a n u).toNat).sum) : Nat) : Int)) = treesN R a n := by
 unfold treesN
 by_cases hd : Der R [(false, (a : Int))] n
 ·
  rw [if_pos (lenD_iff.2 hd)]
  by_cases hm : Many R (a, n)
  ·
   rw [if_pos hm, if_pos]
   obtain ⟨u, hu, h1, h2⟩ := many_cyc hT hm
   refine ⟨u, hu, ?_⟩
   unfold kW
   rw [if_pos h1, if_neg h2]
  have hacc := acc_few hR (x := (a, n)) ha hm
  have hA := fun u => acc_key hR hacc u 0
  simp only at hA
  rw [if_neg hm, if_neg]
  ·
   obtain ⟨D1, h1⟩ := tN_conv hR hacc
   have h2 : ∃ D, ∀ d, D ≤ d → ∀ u ∈ wordsP T n, cp (tW R d (false, (a : Int)) u) = (kW R a n u).toNat := by
    refine fin_max fun u hu => ?_
    obtain ⟨hl, _⟩ := mem_wordsP.1 hu
    have es : slW u 0 n = u := by unfold slW; rw [List.drop_zero, List.take_of_length_le (by omega)]
    by_cases hw : DerW R u [(false, (a : Int))] 0 n
    ·
     obtain ⟨D, hD⟩ := tW_conv (hA u) (by simpa using hw) (by simp; omega)
     refine ⟨D, fun d h => ?_⟩
     have h3 := hD d h
     simp only [keyN, Nat.zero_add] at h3
     rw [es] at h3
     rw [h3]
     unfold kW
     rw [if_pos hw, if_pos (hA u)]
     simp [keyN]
    refine ⟨0, fun d _ => ?_⟩
    have h3 : tW R d (false, (a : Int)) u = 0 := by
     apply Classical.byContradiction
     intro h
     rw [← es] at h
     exact hw (tW_der d _ 0 n (by omega) (by omega) h)
    rw [h3]
    unfold kW
    rw [if_neg hw]
    rfl
   obtain ⟨D2, h2⟩ := h2
   have h3 := h1 (D1 + D2) (by omega)
   simp only at h3
   rw [← h3, ← words_t hT (D1 + D2) (s := (false, (a : Int))) (fun h => by cases h) n]
   congr 1
   refine cp_sum fun u hu => ?_
   rw [← h2 (D1 + D2) (by omega) u hu, cp_cp]
  rintro ⟨u, hu, h⟩
  unfold kW at h
  split at h
  ·
   rw [if_pos (hA u)] at h
   omega
  cases h
 rw [if_neg (fun h => hd (lenD_iff.1 h))]
 have h0 : ∀ u ∈ wordsP T n, kW R a n u = 0 := fun u _ => by
  unfold kW
  rw [if_neg]
  intro h
  exact hd (by simpa using h.der)
 rw [if_neg]
 ·
  rw [sum_zero fun u hu => by rw [h0 u hu]; rfl]
  rfl
 rintro ⟨u, hu, h⟩
 rw [h0 u hu] at h
 cases h
end
end Go.Proofs.YtjnbjdbndbbanaaGreatDoor
namespace Go.Proofs.YtjnbjdbndbbanaaGreatDoor
open Go.RowKit Go.Maps
theorem trees_at {w : World} {S : Nat → Prop} {A : Option Addr} {N c n k : Nat} {R : List RuleD} (h : Sl RI w S A N c (treesTab R N n)) (hk : k < N) :
    ∃ (b off : Nat) (A1 : Option Addr) (c1 : Nat), A = some ⟨b, off, none⟩ ∧ w.cell? ⟨b, off + k, none⟩ = some (.slice A1 (n + 1) c1) ∧ Sl Rep.int w S A1 (n + 1) c1 (treesRow R n k) := by
 obtain ⟨b, off, u, row, rfl, hSb, hrow, ⟨A1, n1, c1, hu, hsl1⟩, hcell⟩ := h.at_ rfl hk
 obtain rfl : u = .slice A1 n1 c1 := by simpa using hu
 have hrow' : row = treesRow R n k := by
  rw [treesTab, List.getElem?_map, List.getElem?_range hk] at hrow
  simpa using hrow.symm
 have hn1 : n1 = n + 1 := by rw [hsl1.len, hrow']; simp [treesRow]
 subst hn1
 subst hrow'
 exact ⟨b, off, A1, c1, rfl, hcell, hsl1⟩
theorem terms_of {g : GramD} (hv : GValid g) {T : Nat} (hT : g.1 = (T : Int)) : TermsR g.2.2.2 T := fun r hr s hs hf => by
 obtain ⟨_, _, h4⟩ := hv.rules r hr
 obtain ⟨k1, k2⟩ := h4 s hs
 rw [hf] at k2
 rw [← hT]
 exact ⟨k1, k2⟩
open Classical in
theorem kW_rng (R : List RuleD) (a n : Nat) (u : List Int) : kW R a n u = -1 ∨ (0 ≤ kW R a n u ∧ kW R a n u ≤ 1000000000) := by
 unfold kW
 split
 ·
  split
  ·
   next h =>
   refine .inr ⟨by omega, ?_⟩
   rw [fC_eq h, nodeC_eq (show (keyN a 0 n).1.1 = false from rfl)]
   have := Nat.min_le_right (((packsP R u (keyN a 0 n)).map fun p => prodN (fC R u) p.2).sum) 1000000000
   unfold cp MC
   omega
  exact .inl rfl
 exact .inr ⟨by omega, by omega⟩
noncomputable def sumK (R : List RuleD) (a n : Nat) (l : List (List Int)) : Nat := cp ((l.map fun u => (kW R a n u).toNat).sum)
open Classical in
noncomputable def manyK (R : List RuleD) (a n : Nat) (l : List (List Int)) : Bool := decide (∃ u ∈ l, kW R a n u = -1)
theorem sum_all {g : GramD} (hv : GValid g) {T st n : Nat} (hT : g.1 = (T : Int)) (hs : st < nonsOf g) {l : List (List Int)} (hl : l = wordsP T n) :
    (manyK g.2.2.2 st n l = true → treesN g.2.2.2 st n = -1) ∧ (manyK g.2.2.2 st n l = false → treesN g.2.2.2 st n = (sumK g.2.2.2 st n l : Int)) := by
 subst hl
 have h := sum_law (rulesN_of hv) (terms_of hv hT) (n := n) hs
 unfold manyK sumK
 constructor
 ·
  intro hm
  rw [if_pos (of_decide_eq_true hm)] at h
  exact h.symm
 intro hm
 rw [if_neg (of_decide_eq_false hm)] at h
 exact h.symm
end Go.Proofs.YtjnbjdbndbbanaaGreatDoor
namespace Go.Proofs.YtjnbjdbndbbanaaGreatDoor
open Go.RowKit
set_option linter.unusedSimpArgs false in
set_option maxRecDepth 1000000 in
set_option maxHeartbeats 4000000 in
theorem ctrListAny {L : Lay} {g : GramD} {n : Nat} (hn : n ≤ 1000) (hR : RulesN (nonsOf g) g.2.2.2) (hof : ∀ y : Nat × Nat, y.1 < nonsOf g → y.2 ≤ n → OfSpec L g n y) :
    ∀ (l : List SymD) (w : World) (_ : Cok w L g n) (S' : Nat → Prop) (_ : ∀ b, S' b → b < L.l3 ∨ L.hi ≤ b) (A : Option Addr) (m c : Nat) (_ : Sl RSym w S' A m c l) (k : Nat) (_ : NonOk (nonsOf g) l) (_ : k ≤ n),
    Calls Tryz.prog 45 #[.pointer (some ⟨L.Bc, 0, none⟩), .slice A m c, .int .i64 k] w fun e w' => (∃ v : Int, e = .returned (.int .i64 v)) ∧ Cok w' L g n ∧ Aside L.l3 L.hi w w'
 | [], w, h, S', hS', A, m, c, hl, k, ho, hk => by
  have hm' := hl.len
  simp only [List.length_nil] at hm'
  subst hm'
  have HC := zh h
  clear ho h hl hof
  by_cases hk0 : k = 0
  ·
   have hz : ((k : Int) == 0) = true := by simp; omega
   have HK := zh hk0
   clear hk0
   go_enter Tryz.func45, Tryz.ntmps45
   go_wp2_with fail
   go_ret
   exact ⟨⟨_, rfl⟩, HC.out, Aside.refl _ _ _⟩
  have hz : ((k : Int) == 0) = false := by simp; omega
  have HK := zh hk0
  clear hk0
  go_enter Tryz.func45, Tryz.ntmps45
  go_wp2_with fail
  go_ret
  exact ⟨⟨_, rfl⟩, HC.out, Aside.refl _ _ _⟩
 | s :: l, w, h, S', hS', A, m, c, hl, k, ho, hk => by
  have hm' := hl.len
  rw [List.length_cons] at hm'
  obtain ⟨b, off, s', rfl, hSb, hbl, hc1, hc2, hs0⟩ := sym_at hl (k := 0) (by omega)
  obtain rfl : s = s' := by simpa using hs0
  rw [Nat.zero_mul, Nat.add_zero] at hc1 hc2
  obtain ⟨A', hcut, hl'⟩ := hl.cutl tSyms rfl 1 (by omega)
  rw [List.drop_succ_cons, List.drop_zero] at hl'
  simp only [Int.cast_ofNat_Int] at hcut
  have hme : ((m : Int) == 0) = false := by simp; omega
  have hm1 : 0 < m := by omega
  have hcells : ∀ u, Aside L.l3 L.hi w u → u.cell? ⟨b, off, none⟩ = some (.bool s.1) ∧ u.cell? ⟨b, off + 1, none⟩ = some (.int .i64 s.2) := fun u hu =>
   ⟨(hu.cell hbl (hS' _ hSb)).trans hc1, (hu.cell hbl (hS' _ hSb)).trans hc2⟩
  have HCE := zh hcells
  have HC := zh h
  have HS' := zh hS'
  have HL := zh hl'
  have HO1 := zh ho.head
  have HO2 := zh ho.tail
  have HOF := zh hof
  have HRN := zh hR
  have ih := ctrListAny (L := L) hn hR hof l
  have HIH := zh ih
  clear h hl hl' ho hs0 hc1 hc2 ih hm' hcells hof hR hS' hSb hbl
  go_enter Tryz.func45, Tryz.ntmps45
  go_wp2_with fail
  go_loopg [7, 16] (k + 1) (fun gk t q wr => ∃ j : Nat, j ≤ k + 1 ∧ gk = k + 1 - j ∧ q = .int .i64 j ∧ (∃ v : Int, t = .int .i64 v) ∧ Cok wr L g n ∧ Aside L.l3 L.hi w wr)
  case atStart => exact ⟨0, Nat.zero_le _, rfl, rfl, ⟨_, rfl⟩, HC.out, Aside.refl _ _ _⟩
  case round =>
   obtain ⟨j, hj, hgj, rfl, ⟨sv, rfl⟩, hcok, hb⟩ := hrel
   have HGJ := zh hgj
   have HC1 := zh hcok
   have HB1 := zh hb
   obtain ⟨hc1, hc2⟩ := HCE.out _ hb
   clear hgj hb
   obtain ⟨K1, hctr, _⟩ := hcok
   have HT1 := zh hctr
   clear hctr
   by_cases hjl : j < k + 1
   ·
    go_wp2_with fail
    refine (ctrHas _ HT1.out s HO1.out j (by omega)).mono ?_
    rintro e w1 ⟨rfl, hb1⟩
    have HC2 := zh (HC1.out.below hb1)
    have HT2 := zh (HT1.out.below hb1)
    have HB2 := zh (HB1.out.trans (.of hb1))
    clear hb1
    cases hh : hasT (lenD g.2.2.2) s j with
    | false =>
     have HH := zh hh
     clear hh
     go_wp2_with fail
     go_roundg (k + 1 - (j + 1))
     case measure => rw [HGJ.out]; omega
     case rel => exact ⟨j + 1, by omega, rfl, by go_num, ⟨_, rfl⟩, HC2.out, HB2.out⟩
    | true =>
     have HH := zh hh
     clear hh
     have hki : ((k : Int) - (j : Int)) = ((k - j : Nat) : Int) := by omega
     have HKI := zh hki
     clear hki
     go_wp2_with fail
     rw [HKI.out]
     refine (ctrCan hn l _ HT2.out _ _ _ _ (HL.out.keep (.aside HB2.out HS'.out)) HO2.out (k - j) (by omega)).mono ?_
     rintro e w2 ⟨rfl, hb2⟩
     have HC3 := zh (HC2.out.below hb2)
     have HB3 := zh (HB2.out.trans (.of hb2))
     clear hb2
     cases hh : canT (lenD g.2.2.2) l (k - j) with
     | false =>
      have HH2 := zh hh
      clear hh
      go_wp2_with fail
      go_roundg (k + 1 - (j + 1))
      case measure => rw [HGJ.out]; omega
      case rel => exact ⟨j + 1, by omega, rfl, by go_num, ⟨_, rfl⟩, HC3.out, HB3.out⟩
     | true =>
      have HH2 := zh hh
      clear hh hc1 hc2
      have hofs : ∀ u : World, Cok u L g n → Calls Tryz.prog 22 #[.pointer (some ⟨L.Bc, 0, none⟩), .agg #[.bool s.1, .int .i64 s.2], .int .i64 j] u fun e w' => (∃ ov : Int, e = .returned (.int .i64 ov)) ∧ Cok w' L g n ∧ Aside L.l3 L.hi u w' := by
       intro u hu
       have ho1 := HO1.out
       obtain ⟨t, y⟩ := s
       cases t with
       | true =>
        refine (ctrOfTerm u hu y j (by omega)).mono ?_
        rintro e w' ⟨rfl, hb⟩
        exact ⟨⟨_, rfl⟩, hu.below hb, .of hb⟩
       | false =>
        have hy := (ho1 (false, y) (by simp) rfl)
        obtain ⟨a, rfl⟩ : ∃ a : Nat, y = (a : Int) := ⟨y.toNat, by have := hy.1; dsimp only at this; omega⟩
        refine (HOF.out (a, j) (by simpa using hy.2) (by dsimp only; omega) u hu).mono ?_
        rintro e w' ⟨rfl, h2, h3⟩
        exact ⟨⟨_, rfl⟩, h2, h3⟩
      have HOFS := zh hofs
      have HK0 := zh (HCE.out _ HB3.out.drew)
      have HKW := zh (show IntKind.i64.wrap ((k : Int) - (j : Int)) = ((k - j : Nat) : Int) by rw [IntWalk.i64_in _ (by omega)]; omega)
      clear hofs
      go_wp2_with fail
      refine wp_region_late (late := []) (S1 := fun u => u.cell? ⟨b, off, none⟩ = some (.bool s.1) ∧ u.cell? ⟨b, off + 1, none⟩ = some (.int .i64 s.2)) (S := fun _ => True) (by kernel_rfl) ?_
      refine zP (i := 0) rfl (fun u hu => by obtain ⟨k0, k1⟩ := hu; go_simp; try rfl) HK0.out zt ?_
      simp only [Act.put, zA, zB, zC, zD, zF, zG]
      refine zP (i := 1) rfl (fun u hu => by obtain ⟨k0, k1⟩ := hu; go_simp; try rfl) HK0.out zt ?_
      simp only [Act.put, zA, zB, zC, zD, zF, zG]
      refine zP (i := 2) rfl (fun u hu => by obtain ⟨k0, k1⟩ := hu; go_simp; try rfl) HK0.out zt ?_
      simp only [Act.put, zA, zB, zC, zD, zF, zG]
      refine zP (i := 3) rfl (fun u hu => by obtain ⟨k0, k1⟩ := hu; go_simp; try rfl) HK0.out zt ?_
      simp only [Act.put, zA, zB, zC, zD, zF, zG]
      refine zP (i := 4) rfl (fun u hu => by obtain ⟨k0, k1⟩ := hu; go_simp; try rfl) HK0.out zt ?_
      simp only [Act.put, zA, zB, zC, zD, zF, zG]
      refine zP (i := 5) rfl (fun u hu => by obtain ⟨k0, k1⟩ := hu; go_simp; try rfl) HK0.out zt ?_
      simp only [Act.put, zA, zB, zC, zD, zF, zG]
      refine zP (i := 7) rfl (fun u hu => by obtain ⟨k0, k1⟩ := hu; go_simp; try rfl) HK0.out zt ?_
      simp only [Act.put, zA, zB, zC, zD, zF, zG]
      refine zP (i := 8) rfl (fun u hu => by obtain ⟨k0, k1⟩ := hu; go_simp; try rfl) HK0.out zt ?_
      simp only [Act.put, zA, zB, zC, zD, zF, zG]
      refine zP (i := 9) rfl (fun u hu => by obtain ⟨k0, k1⟩ := hu; go_simp; try rfl) HK0.out zt ?_
      simp only [Act.put, zA, zB, zC, zD, zF, zG]
      refine zP (i := 10) rfl (fun u hu => by obtain ⟨k0, k1⟩ := hu; go_simp; try rfl) HK0.out zt ?_
      simp only [Act.put, zA, zB, zC, zD, zF, zG]
      refine zP (i := 11) rfl (fun u hu => by obtain ⟨k0, k1⟩ := hu; go_simp; try rfl) HK0.out zt ?_
      simp only [Act.put, zA, zB, zC, zD, zF, zG]
      refine zP (i := 12) (v := .int .i64 ((k - j : Nat) : Int)) rfl (fun u hu => by have := HKW.out; go_simp; try rfl) HK0.out zt ?_
      simp only [Act.put, zA, zB, zC, zD, zF, zG]
      refine zR 6 rfl (fun K hK => ?_)
      go_simp
      refine (HOFS.out _ HC3.out.drew).mono ?_
      rintro e w6 ⟨⟨ov, rfl⟩, hc6, hb6⟩
      have HC6 := zh hc6
      have HB6 := zh (HB3.out.drew.trans hb6)
      have HK1 := zh (HCE.out _ HB6.out)
      clear hc6 hb6
      refine hK.out _ _ HK1.out zt ?_
      clear hK K
      refine zR 13 rfl (fun K hK => ?_)
      go_simp
      refine (HIH.out _ HC6.out _ HS'.out _ _ _ (HL.out.keep (.aside HB6.out HS'.out)) (k - j) HO2.out (by omega)).mono ?_
      rintro e w7 ⟨⟨lv, rfl⟩, hc7, hb7⟩
      obtain ⟨pv, HMUL⟩ : ∃ pv : Int, Hid (IntKind.i64.wrap (ov * lv) = pv) := ⟨_, zh rfl⟩
      obtain ⟨av, HADD⟩ : ∃ av : Int, Hid (IntKind.i64.wrap (sv + pv) = av) := ⟨_, zh rfl⟩
      obtain ⟨nv, HNV⟩ : ∃ nv : Int, Hid (nv = if av < 1000000000 then av else 1000000000) := ⟨_, zh rfl⟩
      have HC7 := zh hc7
      have HB7 := zh (HB6.out.trans hb7)
      have HK2 := zh (HCE.out _ HB7.out)
      clear hc7 hb7
      refine hK.out _ _ HK2.out zt ?_
      clear hK K
      refine zP (i := 14) (v := .int .i64 pv) rfl (fun u hu => by go_simp; rw [HMUL.out]) HK2.out zt ?_
      simp only [Act.put, zA, zB, zC, zD, zF, zG]
      refine zP (i := 15) (v := .int .i64 av) rfl (fun u hu => by go_simp; rw [HADD.out]) HK2.out zt ?_
      simp only [Act.put, zA, zB, zC, zD, zF, zG]
      refine zP (i := 16) (v := .int .i64 nv) rfl (fun u hu => by clear hu; have hN := HNV.out; split at hN <;> rename_i hc <;> rw [hN] <;> clear hN <;> go_simp <;> omega) HK2.out zt ?_
      simp only [Act.put, zA, zB, zC, zD, zF, zG]
      refine zP (i := 17) rfl (fun u hu => by obtain ⟨k0, k1⟩ := hu; go_simp; try rfl) HK2.out zt ?_
      simp only [Act.put, zA, zB, zC, zD, zF, zG]
      refine wpAnyL_done (by kernel_rfl) ?_ _
      go_wp2_with fail
      go_roundg (k + 1 - (j + 1))
      case measure => rw [HGJ.out]; omega
      case rel => exact ⟨j + 1, by omega, rfl, by go_num, ⟨_, rfl⟩, HC7.out, HB7.out⟩
   obtain rfl : j = k + 1 := by omega
   go_wp2_with fail
   go_ret
   exact ⟨⟨_, rfl⟩, HC1.out, HB1.out⟩
end Go.Proofs.YtjnbjdbndbbanaaGreatDoor
namespace Go.Proofs.YtjnbjdbndbbanaaGreatDoor
open Go.RowKit
inductive TreeD where
 | node (rule term : Int) (kids : List TreeD) : TreeD
def TreeD.rule : TreeD → Int
 | .node r _ _ => r
def TreeD.term : TreeD → Int
 | .node _ t _ => t
def TreeD.kids : TreeD → List TreeD
 | .node _ _ k => k
mutual
def treeOk (w : World) (S : Nat → Prop) : List Value → TreeD → Prop
 | cs, .node r t ks => ∃ A n c xs, cs = [.int .i64 r, .int .i64 t, .slice A n c] ∧ n = ks.length ∧ n ≤ c ∧ Rd w S 3 A n xs ∧ treesOk w S xs ks
def treesOk (w : World) (S : Nat → Prop) : List Value → List TreeD → Prop
 | xs, [] => xs = []
 | xs, t :: ts => ∃ cs rest, xs = cs ++ rest ∧ treeOk w S cs t ∧ treesOk w S rest ts
end
section
variable {w w' : World} {S S' : Nat → Prop}
theorem treeOk.len {cs : List Value} : ∀ {t : TreeD}, treeOk w S cs t → cs.length = 3
 | .node r t ks, h => by
  unfold treeOk at h
  obtain ⟨A, n, c, xs, rfl, _⟩ := h
  rfl
theorem treeOk.one {cs : List Value} : ∀ {t : TreeD}, treeOk w S cs t → ∀ u ∈ cs, u.oneCell' = true
 | .node r t ks, h => by
  unfold treeOk at h
  obtain ⟨A, n, c, xs, rfl, _⟩ := h
  intro u hu
  simp only [List.mem_cons, List.not_mem_nil, or_false] at hu
  rcases hu with rfl | rfl | rfl <;> rfl
mutual
theorem treeOk.keep (hk : Kept S w w') : ∀ {t : TreeD} {cs : List Value}, treeOk w S cs t → treeOk w' S cs t
 | .node r t ks, cs, h => by
  unfold treeOk at h ⊢
  obtain ⟨A, n, c, xs, rfl, h1, h2, h3, h4⟩ := h
  exact ⟨A, n, c, xs, rfl, h1, h2, h3.keep hk, treesOk.keep hk h4⟩
theorem treesOk.keep (hk : Kept S w w') : ∀ {ts : List TreeD} {xs : List Value}, treesOk w S xs ts → treesOk w' S xs ts
 | [], xs, h => by
  unfold treesOk at h ⊢
  exact h
 | t :: ts, xs, h => by
  unfold treesOk at h ⊢
  obtain ⟨cs, rest, rfl, h1, h2⟩ := h
  exact ⟨cs, rest, rfl, treeOk.keep hk h1, treesOk.keep hk h2⟩
end
mutual
theorem treeOk.more (hS : ∀ b, S b → S' b) : ∀ {t : TreeD} {cs : List Value}, treeOk w S cs t → treeOk w S' cs t
 | .node r t ks, cs, h => by
  unfold treeOk at h ⊢
  obtain ⟨A, n, c, xs, rfl, h1, h2, h3, h4⟩ := h
  exact ⟨A, n, c, xs, rfl, h1, h2, h3.more hS, treesOk.more hS h4⟩
theorem treesOk.more (hS : ∀ b, S b → S' b) : ∀ {ts : List TreeD} {xs : List Value}, treesOk w S xs ts → treesOk w S' xs ts
 | [], xs, h => by
  unfold treesOk at h ⊢
  exact h
 | t :: ts, xs, h => by
  unfold treesOk at h ⊢
  obtain ⟨cs, rest, rfl, h1, h2⟩ := h
  exact ⟨cs, rest, rfl, treeOk.more hS h1, treesOk.more hS h2⟩
end
mutual
theorem treeOk.fit : ∀ {t : TreeD} {cs : List Value}, treeOk w S cs t → treeOk w (fun b => S b ∧ b < w.heap.size) cs t
 | .node r t ks, cs, h => by
  unfold treeOk at h ⊢
  obtain ⟨A, n, c, xs, rfl, h1, h2, h3, h4⟩ := h
  exact ⟨A, n, c, xs, rfl, h1, h2, h3.fit (by decide), treesOk.fit h4⟩
theorem treesOk.fit : ∀ {ts : List TreeD} {xs : List Value}, treesOk w S xs ts → treesOk w (fun b => S b ∧ b < w.heap.size) xs ts
 | [], xs, h => by
  unfold treesOk at h ⊢
  exact h
 | t :: ts, xs, h => by
  unfold treesOk at h ⊢
  obtain ⟨cs, rest, rfl, h1, h2⟩ := h
  exact ⟨cs, rest, rfl, treeOk.fit h1, treesOk.fit h2⟩
end
end
def RTree : Rep TreeD where
 size := 3
 ok := treeOk
 pos := by decide
 len := treeOk.len
 keep := fun h hk => treeOk.keep hk h
 more := fun h hS => treeOk.more hS h
 fit := treeOk.fit
 one := treeOk.one
section
variable {w : World} {S : Nat → Prop}
theorem treesOk.cells : ∀ {ts : List TreeD} {xs : List Value}, treesOk w S xs ts ↔ Cells RTree w S xs ts
 | [], xs => by unfold treesOk Cells; exact Iff.rfl
 | t :: ts, xs => by
  unfold treesOk Cells
  constructor
  · rintro ⟨cs, rest, e, h1, h2⟩; exact ⟨cs, rest, e, h1, treesOk.cells.1 h2⟩
  rintro ⟨cs, rest, e, h1, h2⟩; exact ⟨cs, rest, e, h1, treesOk.cells.2 h2⟩
theorem RTree.cells {t : TreeD} {cs : List Value} : RTree.ok w S cs t ↔ ∃ A n c, cs = [.int .i64 t.rule, .int .i64 t.term, .slice A n c] ∧ Sl RTree w S A n c t.kids := by
 obtain ⟨r, x, ks⟩ := t
 show treeOk w S cs (.node r x ks) ↔ _
 unfold treeOk
 constructor
 ·
  rintro ⟨A, n, c, xs, rfl, h1, h2, h3, h4⟩
  exact ⟨A, n, c, rfl, xs, h1, h2, h3, treesOk.cells.1 h4⟩
 rintro ⟨A, n, c, rfl, xs, h1, h2, h3, h4⟩
 exact ⟨A, n, c, xs, rfl, h1, h2, h3, treesOk.cells.2 h4⟩
theorem tree_at {A : Option Addr} {n c k : Nat} {l : List TreeD} (h : Sl RTree w S A n c l) (hk : k < n) :
    ∃ b off A' m c' t, A = some ⟨b, off, none⟩ ∧ S b ∧ b < w.heap.size ∧ w.cell? ⟨b, off + k * 3, none⟩ = some (.int .i64 t.rule) ∧ w.cell? ⟨b, off + k * 3 + 1, none⟩ = some (.int .i64 t.term) ∧ w.cell? ⟨b, off + k * 3 + 2, none⟩ = some (.slice A' m c') ∧ l[k]? = some t ∧ Sl RTree w S A' m c' t.kids := by
 obtain ⟨xs, e1, e2, h3, h4⟩ := h
 subst e1
 have hg := h4.get hk
 have hl := h4.len
 rw [show RTree.size = 3 from rfl] at hg hl h3
 obtain ⟨b, off, e, hS, hc⟩ := h3.2 (by omega)
 have i1 : k * 3 < xs.length := by omega
 have i2 : k * 3 + 1 < xs.length := by omega
 have i3 : k * 3 + 2 < xs.length := by omega
 rw [List.drop_eq_getElem_cons i1, List.drop_eq_getElem_cons i2, List.drop_eq_getElem_cons i3] at hg
 obtain ⟨A', m, c', e2', hs⟩ := RTree.cells.1 hg
 simp only [List.take_succ_cons, List.take_zero, List.cons.injEq, and_true] at e2'
 obtain ⟨e3, e4, e5⟩ := e2'
 have c1 := hc _ _ (List.getElem?_eq_getElem i1)
 have c2 := hc _ _ (List.getElem?_eq_getElem i2)
 have c3 := hc _ _ (List.getElem?_eq_getElem i3)
 rw [e3] at c1
 rw [e4] at c2
 rw [e5] at c3
 exact ⟨b, off, A', m, c', l[k], e, hS, cell_lt c1, c1, by rw [Nat.add_assoc]; exact c2, by rw [Nat.add_assoc]; exact c3, List.getElem?_eq_getElem hk, hs⟩
end
end Go.Proofs.YtjnbjdbndbbanaaGreatDoor
namespace Go.Proofs.YtjnbjdbndbbanaaGreatDoor
def sumTo (f : Nat → Nat) (n : Nat) : Nat := ((List.range n).map f).sum
theorem sumTo_zero (f : Nat → Nat) : sumTo f 0 = 0 := rfl
theorem sumTo_succ (f : Nat → Nat) (n : Nat) : sumTo f (n + 1) = sumTo f n + f n := by simp [sumTo, List.range_succ]
theorem sumTo_mono {f : Nat → Nat} {m n : Nat} (h : m ≤ n) : sumTo f m ≤ sumTo f n := by
 induction n with
 | zero => obtain rfl : m = 0 := by omega
           exact Nat.le_refl _
 | succ n ih =>
  rw [sumTo_succ]
  rcases Nat.lt_or_ge n m with h1 | h1
  ·
   obtain rfl : m = n + 1 := by omega
   rw [sumTo_succ]; exact Nat.le_refl _
  have := ih h1
  omega
theorem sumTo_at {f : Nat → Nat} {m n : Nat} (h : m < n) : sumTo f m + f m ≤ sumTo f n := by
 rw [← sumTo_succ]
 exact sumTo_mono h
theorem sum_filter_all {α : Type} {p : α → Bool} {f : α → Nat} : ∀ {l : List α}, (∀ x ∈ l, p x = false → f x = 0) → ((l.filter p).map f).sum = (l.map f).sum
 | [], _ => rfl
 | x :: l, h => by
  have ih := sum_filter_all (p := p) (f := f) (l := l) fun y hy => h y (by simp [hy])
  by_cases hp : p x = true
  · rw [List.filter_cons_of_pos hp, List.map_cons, List.map_cons, List.sum_cons, List.sum_cons, ih]
  rw [List.filter_cons_of_neg hp, List.map_cons, List.sum_cons, ih, h x (by simp) (by simpa using hp), Nat.zero_add]
section
variable {R : List RuleD} {N : Nat}
noncomputable def lN (R : List RuleD) (l : List SymD) (n : Nat) : Nat := listC (lenD R) (cN R) l n
noncomputable def oN (R : List RuleD) (s : SymD) (n : Nat) : Nat := ofC (lenD R) (cN R) s n
noncomputable def wOf (R : List RuleD) (s : SymD) (l : List SymD) (n k : Nat) : Nat := oN R s k * lN R l (n - k)
noncomputable def preR (R : List RuleD) (a n k : Nat) : Nat := (((R.take k).filter (fun r => decide (r.1 = (a : Int)))).map (fun r => lN R r.2 n)).sum
theorem lN_nil (R : List RuleD) (n : Nat) : lN R [] n = if n = 0 then 1 else 0 := rfl
theorem lN_zero (hR : RulesN N R) {l : List SymD} {k : Nat} (ho : NonOk N l) (hd : ¬ Der R l k) : lN R l k = 0 := by
 unfold lN
 cases l with
 | nil =>
  have : k ≠ 0 := fun e => hd (by subst e; exact .nil)
  simp [listC, this]
 | cons s l =>
  rw [listC_cons]
  have : (List.range (k + 1)).filter (fun i => hasT (lenD R) s i && canT (lenD R) l (k - i)) = [] := by
   rw [List.filter_eq_nil_iff]
   intro i hi hc
   rw [List.mem_range] at hi
   rw [Bool.and_eq_true] at hc
   exact hd (Der.cons_iff.2 ⟨i, by omega, (hasD_iff ho.head).1 hc.1, (canD_iff ho.tail hR).1 hc.2⟩)
  rw [this]
  rfl
theorem oN_zero {s : SymD} {k : Nat} (ho : NonOk N [s]) (hd : ¬ Der R [s] k) : oN R s k = 0 := by
 unfold oN ofC
 rw [if_neg fun h => hd ((hasD_iff ho).1 h)]
theorem lN_der (hR : RulesN N R) {l : List SymD} {k : Nat} (ho : NonOk N l) (h : 0 < lN R l k) : Der R l k := by
 apply Classical.byContradiction
 intro hd
 rw [lN_zero hR ho hd] at h
 omega
theorem oN_der {s : SymD} {k : Nat} (ho : NonOk N [s]) (h : 0 < oN R s k) : Der R [s] k := by
 apply Classical.byContradiction
 intro hd
 rw [oN_zero ho hd] at h
 omega
theorem lN_sum (hR : RulesN N R) {s : SymD} {l : List SymD} {k : Nat} (ho : NonOk N (s :: l)) (h : lN R (s :: l) k < MC) : lN R (s :: l) k = sumTo (wOf R s l k) (k + 1) := by
 have e : lN R (s :: l) k = min ((((List.range (k + 1)).filter (fun i => hasT (lenD R) s i && canT (lenD R) l (k - i))).map (wOf R s l k)).sum) MC := listC_cons _ _ _ _ _
 have e2 := sum_filter_all (p := fun i => hasT (lenD R) s i && canT (lenD R) l (k - i)) (f := wOf R s l k) (l := List.range (k + 1)) (fun i _ hf => by
  unfold wOf
  rw [Bool.and_eq_false_iff] at hf
  rcases hf with hf | hf
  · rw [oN_zero ho.head (fun hd => by rw [(hasD_iff ho.head).2 hd] at hf; cases hf), Nat.zero_mul]
  rw [lN_zero hR ho.tail (fun hd => by rw [(canD_iff ho.tail hR).2 hd] at hf; cases hf), Nat.mul_zero])
 rw [e2] at e
 unfold sumTo
 rw [e] at h ⊢
 omega
theorem preR_succ {a n k : Nat} {r : RuleD} (h : R[k]? = some r) : preR R a n (k + 1) = preR R a n k + (if r.1 = (a : Int) then lN R r.2 n else 0) := by
 obtain ⟨hk, rfl⟩ := List.getElem?_eq_some_iff.1 h
 unfold preR
 rw [List.take_succ_eq_append_getElem hk, List.filter_append, List.map_append, List.sum_append]
 by_cases e : R[k].1 = (a : Int)
 ·
  rw [if_pos e, List.filter_cons_of_pos (by simpa using e)]
  simp
 rw [if_neg e, List.filter_cons_of_neg (by simpa using e)]
 simp
theorem preR_mono {a n : Nat} {j k : Nat} (h : j ≤ k) : preR R a n j ≤ preR R a n k := by
 induction k with
 | zero => obtain rfl : j = 0 := by omega
           exact Nat.le_refl _
 | succ k ih =>
  rcases Nat.lt_or_ge k j with h1 | h1
  ·
   obtain rfl : j = k + 1 := by omega
   exact Nat.le_refl _
  refine Nat.le_trans (ih h1) ?_
  by_cases hk : k < R.length
  ·
   rw [preR_succ (List.getElem?_eq_getElem hk)]
   omega
  unfold preR
  rw [List.take_of_length_le (show R.length ≤ k by omega), List.take_of_length_le (show R.length ≤ k + 1 by omega)]
  exact Nat.le_refl _
theorem preR_zero (R : List RuleD) (a n : Nat) : preR R a n 0 = 0 := by simp [preR]
theorem cN_sum (hR : RulesN N R) {a k : Nat} (h : Acc (fun y x => Edge R x y) (a, k)) (hlt : cN R a k < MC) : cN R a k = preR R a k R.length := by
 have e := cN_eq hR h
 rw [ruleC_eq] at e
 have e2 : (((R.filter (fun r => decide (r.1 = (a : Int)))).map (fun r => listC (lenD R) (cN R) r.2 k)).sum) = preR R a k R.length := by
  unfold preR lN
  rw [List.take_length]
 rw [e2] at e
 rw [e] at hlt ⊢
 omega
theorem oN_non {a k : Nat} (h : lenD R a k = true) : oN R (false, (a : Int)) k = cN R a k := by
 unfold oN ofC
 have e : hasT (lenD R) (false, (a : Int)) k = true := by simpa [hasT] using h
 rw [if_pos e]
 simp
end
mutual
inductive Unr (R : List RuleD) : SymD → Nat → Nat → TreeD → Prop
 | leaf {c : Int} : Unr R (true, c) 1 0 (.node (-1) c [])
 | node {a n k i : Nat} {r : RuleD} {ts : List TreeD} : R[k]? = some r → r.1 = (a : Int) → i < lN R r.2 n → UnrL R r.2 n i ts → Unr R (false, (a : Int)) n (preR R a n k + i) (.node (k : Int) 0 ts)
inductive UnrL (R : List RuleD) : List SymD → Nat → Nat → List TreeD → Prop
 | nil : UnrL R [] 0 0 []
 | cons {s : SymD} {l : List SymD} {n k q i : Nat} {t : TreeD} {ts : List TreeD} : k ≤ n → q < oN R s k → i < lN R l (n - k) → Unr R s k q t → UnrL R l (n - k) i ts → UnrL R (s :: l) n (sumTo (wOf R s l n) k + q * lN R l (n - k) + i) (t :: ts)
end
end Go.Proofs.YtjnbjdbndbbanaaGreatDoor
