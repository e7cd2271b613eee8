/- FoP4 -/
import Derived.Test.YtimklgbljjamkaaDoorCs27
namespace Go.Proofs.YtimklgbljjamkaaDoor
theorem DerW.shift {R : List RuleD} {u : List Int} (p q : List Int) {l : List SymD} {i j : Nat} (h : DerW R u l i j) : DerW R (p ++ u ++ q) l (p.length + i) (p.length + j) := by
 induction h with
 | nil => exact .nil
 | @term c l i j h1 _ ih =>
  refine .term ?_ ih
  have hl := (List.getElem?_eq_some_iff.1 h1).1
  rw [List.append_assoc, List.getElem?_append_right (by omega), show p.length + i - p.length = i by omega, List.getElem?_append_left hl]
  exact h1
 | non h1 _ _ ih1 ih2 => exact .non h1 ih1 ih2
def LetT (T : Nat) (u : List Int) : Prop := ∀ x ∈ u, 0 ≤ x ∧ x < (T : Int)
theorem LetT.append {T : Nat} {u v : List Int} (h : LetT T u) (h' : LetT T v) : LetT T (u ++ v) := fun x hx => by
 rcases List.mem_append.1 hx with e | e
 ·
  exact h x e
 ·
  exact h' x e
abbrev keyN (a i n : Nat) : KeyD := ((false, (a : Int)), i, i + n)
section
variable {R : List RuleD} {T : Nat}
theorem Der.word (hT : TermsR R T) {l : List SymD} {k : Nat} (h : Der R l k) : (∀ s ∈ l, s.1 = true → 0 ≤ s.2 ∧ s.2 < (T : Int)) → ∃ u : List Int, u.length = k ∧ LetT T u ∧ DerW R u l 0 k := by
 induction h with
 | nil => exact fun _ => ⟨[], rfl, (fun x hx => by cases hx), .nil⟩
 | @term x l k h ih =>
  intro hl
  obtain ⟨u, h1, h2, h3⟩ := ih fun s hs => hl s (by simp [hs])
  refine ⟨x :: u, by simp [h1], fun y hy => ?_, ?_⟩
  ·
   rcases List.mem_cons.1 hy with rfl | hy
   ·
    exact hl (true, y) (by simp) rfl
   ·
    exact h2 y hy
  ·
   have h4 := h3.shift [x] []
   rw [List.append_nil] at h4
   refine .term rfl ?_
   have e1 : [x].length + 0 = 0 + 1 := rfl
   have e2 : [x].length + k = k + 1 := by simp; omega
   rw [e1, e2] at h4
   exact h4
 | @non A r l i j hr _ _ ih1 ih2 =>
  intro hl
  obtain ⟨u, h1, h2, h3⟩ := ih1 fun s hs => hT _ hr s hs
  obtain ⟨v, h4, h5, h6⟩ := ih2 fun s hs => hl s (by simp [hs])
  refine ⟨u ++ v, by simp [h1, h4], h2.append h5, ?_⟩
  have h7 := h3.shift [] v
  have h8 := h6.shift u []
  rw [List.append_nil, h1, Nat.add_zero] at h8
  rw [List.nil_append] at h7
  simp only [List.length_nil, Nat.zero_add] at h7
  exact .non hr h7 h8
theorem edge_word (hT : TermsR R T) {x y : Nat × Nat} (h : Edge R x y) {v : List Int} (hv : v.length = y.2) (_hl : LetT T v) (hd : DerW R v [(false, (y.1 : Int))] 0 y.2) :
    ∃ pu qu : List Int, LetT T pu ∧ LetT T qu ∧ pu.length + y.2 + qu.length = x.2 ∧ DerW R (pu ++ v ++ qu) [(false, (x.1 : Int))] 0 x.2 ∧ ∀ P Q : List Int, FEdge R (P ++ (pu ++ v ++ qu) ++ Q) (keyN x.1 P.length x.2) (keyN y.1 (P.length + pu.length) y.2) := by
 obtain ⟨r, hr, hr1, a, b, hab, p, q, hpq, ha, hb, _⟩ := h
 obtain ⟨pu, h1, h2, h3⟩ := ha.word hT fun s hs => hT r hr s (by rw [hab]; simp [hs])
 obtain ⟨qu, h4, h5, h6⟩ := hb.word hT fun s hs => hT r hr s (by rw [hab]; simp [hs])
 have k1 : DerW R (pu ++ v ++ qu) a 0 p := by
  have h := h3.shift [] (v ++ qu)
  rw [List.nil_append, ← List.append_assoc] at h
  simpa using h
 have k2 : DerW R (pu ++ v ++ qu) [(false, (y.1 : Int))] p (p + y.2) := by
  have h := hd.shift pu qu
  rw [h1, Nat.add_zero] at h
  exact h
 have k3 : DerW R (pu ++ v ++ qu) b (p + y.2) x.2 := by
  have h := h6.shift (pu ++ v) []
  rw [List.append_nil, List.length_append, h1, hv, Nat.add_zero, hpq] at h
  exact h
 have k4 : (((x.1 : Int)), r.2) ∈ R := by rw [← hr1]; exact hr
 refine ⟨pu, qu, h2, h5, by omega, ?_, fun P Q => ?_⟩
 ·
  have k5 : DerW R (pu ++ v ++ qu) r.2 0 x.2 := by
   rw [hab]
   exact DerW.append (k2.cons k3) k1
  exact .non k4 k5 .nil
 ·
  refine fEdge_iff.2 ⟨rfl, r, hr, hr1, a, b, hab, ?_, ?_, ?_⟩
  ·
   have h := k1.shift P Q
   rw [Nat.add_zero] at h
   rw [h1]
   exact h
  ·
   have h := k2.shift P Q
   rw [← Nat.add_assoc] at h
   rw [h1]
   exact h
  ·
   have h := k3.shift P Q
   rw [← Nat.add_assoc] at h
   rw [h1]
   exact h
theorem reach_word (hT : TermsR R T) {x y : Nat × Nat} (h : Reach (Edge R) x y) {v : List Int} (hv : v.length = y.2) (hl : LetT T v) (hd : DerW R v [(false, (y.1 : Int))] 0 y.2) :
    ∃ pu qu : List Int, LetT T pu ∧ LetT T qu ∧ pu.length + y.2 + qu.length = x.2 ∧ DerW R (pu ++ v ++ qu) [(false, (x.1 : Int))] 0 x.2 ∧ ∀ P Q : List Int, Reach (FEdge R (P ++ (pu ++ v ++ qu) ++ Q)) (keyN x.1 P.length x.2) (keyN y.1 (P.length + pu.length) y.2) := by
 induction h with
 | one h =>
  obtain ⟨pu, qu, h1, h2, h3, h4, h5⟩ := edge_word hT h hv hl hd
  exact ⟨pu, qu, h1, h2, h3, h4, fun P Q => .one (h5 P Q)⟩
 | @step a b c h _ ih =>
  obtain ⟨pu, qu, h1, h2, h3, h4, h5⟩ := ih hv hd
  obtain ⟨pa, qa, g1, g2, g3, g4, g5⟩ := edge_word hT h (v := pu ++ v ++ qu) (by simp [hv]; omega) ((h1.append hl).append h2) h4
  have e : ∀ P Q : List Int, P ++ (pa ++ pu ++ v ++ (qu ++ qa)) ++ Q = P ++ (pa ++ (pu ++ v ++ qu) ++ qa) ++ Q := fun P Q => by simp
  refine ⟨pa ++ pu, qu ++ qa, g1.append h1, h2.append g2, by simp; omega, ?_, fun P Q => ?_⟩
  ·
   have := e [] []
   simp only [List.nil_append, List.append_nil] at this
   rw [this]
   exact g4
  ·
   rw [e]
   refine .step (g5 P Q) ?_
   have h6 := h5 (P ++ pa) (qa ++ Q)
   rw [show P ++ pa ++ (pu ++ v ++ qu) ++ (qa ++ Q) = P ++ (pa ++ (pu ++ v ++ qu) ++ qa) ++ Q by simp] at h6
   rw [List.length_append] at h6
   rw [List.length_append, ← Nat.add_assoc]
   exact h6
theorem reach_der {x y : Nat × Nat} (h : Reach (Edge R) x y) : Der R [(false, (y.1 : Int))] y.2 := by
 induction h with
 | one h => obtain ⟨_, _, _, _, _, _, _, _, _, _, _, h⟩ := h; exact h
 | step _ _ ih => exact ih
end
theorem acc_irr {α : Type} {E : α → α → Prop} {x : α} (h : Acc (fun y x => E x y) x) : ¬ Reach E x x := by
 induction h with
 | intro x _ ih =>
  intro hr
  cases hr with
  | one h => exact ih x h (.one h)
  | step h1 h2 => exact ih _ h1 (h2.trans (.one h1))
theorem acc_reach {α : Type} {E : α → α → Prop} {x y : α} (h : Acc (fun y x => E x y) x) (hr : Reach E x y) : Acc (fun y x => E x y) y := by
 induction hr with
 | one h1 => exact h.inv h1
 | step h1 _ ih => exact ih (h.inv h1)
section
variable {R : List RuleD} {T N : Nat}
theorem many_cyc (hT : TermsR R T) {a n : Nat} (hm : Many R (a, n)) : ∃ u ∈ wordsP T n, DerW R u [(false, (a : Int))] 0 n ∧ ¬ Acc (fun y x => FEdge R u x y) (keyN a 0 n) := by
 obtain ⟨y, h1, h2⟩ := hm
 obtain ⟨v, hv, hl, hd⟩ := (reach_der h2).word hT (fun s hs => by rw [List.mem_singleton.1 hs]; exact fun h => by cases h)
 obtain ⟨pu, qu, g1, g2, g3, g4, g5⟩ := reach_word hT h2 hv hl hd
 have e1 : pu = [] := List.eq_nil_of_length_eq_zero (by omega)
 have e2 : qu = [] := List.eq_nil_of_length_eq_zero (by omega)
 subst e1 e2
 simp only [List.nil_append, List.append_nil, List.length_nil, Nat.add_zero] at g5
 rcases h1 with rfl | h1
 ·
  refine ⟨v, mem_wordsP.2 ⟨hv, hl⟩, hd, fun hA => acc_irr hA ?_⟩
  have h3 := g5 [] []
  simp only [List.nil_append, List.append_nil, List.length_nil] at h3
  exact h3
 ·
  obtain ⟨pu, qu, k1, k2, k3, k4, k5⟩ := reach_word hT h1 hv hl hd
  refine ⟨pu ++ v ++ qu, mem_wordsP.2 ⟨by simp [hv]; omega, (k1.append hl).append k2⟩, k4, fun hA => ?_⟩
  have h3 := k5 [] []
  simp only [List.nil_append, List.append_nil, List.length_nil, Nat.zero_add] at h3
  exact acc_irr (acc_reach hA h3) (g5 pu qu)
theorem acc_key (hR : RulesN N R) {x : Nat × Nat} (h : Acc (fun y x => Edge R x y) x) : ∀ (ws : List Int) (i : Nat), Acc (fun y x => FEdge R ws x y) (keyN x.1 i x.2) := by
 induction h with
 | intro x _ ih =>
  intro ws i
  refine Acc.intro _ fun y hy => ?_
  obtain ⟨⟨b, c⟩, p, q⟩ := y
  cases b with
  | true => exact Acc.intro _ fun z hz => by have := (fEdge_iff.1 hz).1; cases this
  | false =>
   obtain ⟨_, r, hr, hr1, a, m, ham, h1, h2, h3⟩ := fEdge_iff.1 hy
   simp only at h1 h2 h3 ham
   have hc := (hR r hr).2 (false, c) (by rw [ham]; simp) rfl
   have e : c = ((c.toNat : Nat) : Int) := (Int.toNat_of_nonneg hc.1).symm
   have l1 := h1.le.1
   have l2 := h2.le.1
   have l3 := h3.le.1
   have he : Edge R x (c.toNat, q - p) := ⟨r, hr, hr1, a, m, by rw [ham, ← e], p - i, i + x.2 - q, by dsimp only; omega, h1.der, h3.der, by rw [← e]; exact h2.der⟩
   have h4 := ih _ he ws p
   simp only [keyN] at h4
   rw [← e, show p + (q - p) = q by omega] at h4
   exact h4
open Classical in
noncomputable def kW (R : List RuleD) (a n : Nat) (u : List Int) : Int :=
 if DerW R u [(false, (a : Int))] 0 n then (if Acc (fun y x => FEdge R u x y) (keyN a 0 n) then (fC R u (keyN a 0 n) : Int) else -1) else 0
open Classical in
theorem sum_law (hR : RulesN N R) (hT : TermsR R T) {a n : Nat} (ha : a < N) :
    (if ∃ u ∈ wordsP T n, kW R a n u = -1 then (-1 : Int) else ((cp (((wordsP T n).map fun u => (kW R a n u).toNat).sum) : Nat) : Int)) = treesN R a n := by
 unfold treesN
 by_cases hd : Der R [(false, (a : Int))] n
 ·
  rw [if_pos (lenD_iff.2 hd)]
  by_cases hm : Many R (a, n)
  ·
   rw [if_pos hm, if_pos]
   obtain ⟨u, hu, h1, h2⟩ := many_cyc hT hm
   refine ⟨u, hu, ?_⟩
   unfold kW
   rw [if_pos h1, if_neg h2]
  ·
   have hacc := acc_few hR (x := (a, n)) ha hm
   have hA := fun u => acc_key hR hacc u 0
   simp only at hA
   rw [if_neg hm, if_neg]
   ·
    obtain ⟨D1, h1⟩ := tN_conv hR hacc
    have h2 : ∃ D, ∀ d, D ≤ d → ∀ u ∈ wordsP T n, cp (tW R d (false, (a : Int)) u) = (kW R a n u).toNat := by
     refine fin_max fun u hu => ?_
     obtain ⟨hl, _⟩ := mem_wordsP.1 hu
     have es : slW u 0 n = u := by unfold slW; rw [List.drop_zero, List.take_of_length_le (by omega)]
     by_cases hw : DerW R u [(false, (a : Int))] 0 n
     ·
      obtain ⟨D, hD⟩ := tW_conv (hA u) (by simpa using hw) (by simp; omega)
      refine ⟨D, fun d h => ?_⟩
      have h3 := hD d h
      simp only [keyN, Nat.zero_add] at h3
      rw [es] at h3
      rw [h3]
      unfold kW
      rw [if_pos hw, if_pos (hA u)]
      simp [keyN]
     ·
      refine ⟨0, fun d _ => ?_⟩
      have h3 : tW R d (false, (a : Int)) u = 0 := by
       apply Classical.byContradiction
       intro h
       rw [← es] at h
       exact hw (tW_der d _ 0 n (by omega) (by omega) h)
      rw [h3]
      unfold kW
      rw [if_neg hw]
      rfl
    obtain ⟨D2, h2⟩ := h2
    have h3 := h1 (D1 + D2) (by omega)
    simp only at h3
    rw [← h3, ← words_t hT (D1 + D2) (s := (false, (a : Int))) (fun h => by cases h) n]
    congr 1
    refine cp_sum fun u hu => ?_
    rw [← h2 (D1 + D2) (by omega) u hu, cp_cp]
   ·
    rintro ⟨u, hu, h⟩
    unfold kW at h
    split at h
    ·
     rw [if_pos (hA u)] at h
     omega
    ·
     cases h
 ·
  rw [if_neg (fun h => hd (lenD_iff.1 h))]
  have h0 : ∀ u ∈ wordsP T n, kW R a n u = 0 := fun u _ => by
   unfold kW
   rw [if_neg]
   intro h
   exact hd (by simpa using h.der)
  rw [if_neg]
  ·
   rw [sum_zero fun u hu => by rw [h0 u hu]; rfl]
   rfl
  ·
   rintro ⟨u, hu, h⟩
   rw [h0 u hu] at h
   cases h
end
end Go.Proofs.YtimklgbljjamkaaDoor
