/- Plain law of CensusMore: with fewer rules there are not more trees. -/
import Derived.Test.YtmfahplimnakcaaCensusPlain3
namespace Go.Proofs.Ytmfahplimnakcaa

theorem filter_sub {α : Type} {p q : α → Bool} (h : ∀ x, p x = true → q x = true) (l : List α) : (l.filter p).Sublist (l.filter q) := by
  have e : l.filter p = (l.filter q).filter p := by
    rw [List.filter_filter]
    congr 1
    funext x
    cases hp : p x
    · rfl
    · simp [h x hp]
  rw [e]
  exact List.filter_sublist
section
variable {R R' : List RuleD} {N : Nat}
theorem listC_mono (hR : RulesN N R) (hR' : RulesN N R') (hs : ∀ r ∈ R, r ∈ R') {x : Nat × Nat} {c c' : Nat → Nat → Nat} (hc : ∀ b j, Edge R x (b, j) → c b j ≤ c' b j) : ∀ {l : List SymD} {k : Nat}, Suffix R x l k → listC (lenD R) c l k ≤ listC (lenD R') c' l k
  | [], _, _ => Nat.le_refl _
  | (t, y) :: l, k, hf => by
    have hpq : ∀ i, (hasT (lenD R) (t, y) i && canT (lenD R) l (k - i)) = true → (hasT (lenD R') (t, y) i && canT (lenD R') l (k - i)) = true := by
      intro i hi
      rw [Bool.and_eq_true] at hi ⊢
      exact ⟨(hasD_iff (hf.ok hR).head).2 (((hasD_iff (hf.ok hR).head).1 hi.1).mono hs), (canD_iff (hf.ok hR).tail hR').2 (((canD_iff (hf.ok hR).tail hR).1 hi.2).mono hs)⟩
    rw [listC_cons, listC_cons]
    have h1 : (((List.range (k + 1)).filter (fun i => hasT (lenD R) (t, y) i && canT (lenD R) l (k - i))).map (fun i => ofC (lenD R) c (t, y) i * listC (lenD R) c l (k - i))).sum
        ≤ (((List.range (k + 1)).filter (fun i => hasT (lenD R) (t, y) i && canT (lenD R) l (k - i))).map (fun i => ofC (lenD R') c' (t, y) i * listC (lenD R') c' l (k - i))).sum := by
      refine sum_le fun i hi => ?_
      rw [List.mem_filter, List.mem_range] at hi
      have hq := hpq i hi.2
      obtain ⟨hi1, hi2⟩ := hi
      rw [Bool.and_eq_true] at hi2 hq
      have hd := (hasD_iff (hf.ok hR).head).1 hi2.1
      have hl := (canD_iff (hf.ok hR).tail hR).1 hi2.2
      refine Nat.mul_le_mul ?_ (listC_mono hR hR' hs hc (hf.next (by omega) hd))
      unfold ofC
      rw [if_pos hi2.1, if_pos hq.1]
      cases t with
      | true => exact Nat.le_refl _
      | false => exact hc _ _ (hf.edge' hR (by omega) hd hl)
    have h2 := sum_sub (f := fun i => ofC (lenD R') c' (t, y) i * listC (lenD R') c' l (k - i)) (filter_sub hpq (List.range (k + 1)))
    show min _ 1000000000 ≤ min _ 1000000000
    omega
theorem cN_mono (hR : RulesN N R) (hR' : RulesN N R') (hs : R.Sublist R') {x : Nat × Nat} (h : Acc (fun y x => Edge R' x y) x) : cN R x.1 x.2 ≤ cN R' x.1 x.2 := by
  have hm : ∀ r ∈ R, r ∈ R' := fun r hr => hs.subset hr
  induction h with
  | intro x hx ih =>
    have ha' : Acc (fun y x => Edge R' x y) x := Acc.intro x hx
    have ha : Acc (fun y x => Edge R x y) x := Subrelation.accessible (r := fun y x => Edge R' x y) (fun h => Edge.mono hm h) ha'
    rw [cN_eq hR ha, cN_eq hR' ha', ruleC_eq, ruleC_eq]
    have h1 : ((R.filter (fun r => decide (r.1 = (x.1 : Int)))).map (fun r => listC (lenD R) (cN R) r.2 x.2)).sum ≤ ((R.filter (fun r => decide (r.1 = (x.1 : Int)))).map (fun r => listC (lenD R') (cN R') r.2 x.2)).sum := by
      refine sum_le fun r hr => ?_
      rw [List.mem_filter, decide_eq_true_eq] at hr
      exact listC_mono hR hR' hm (x := x) (fun b j he => ih (b, j) (Edge.mono hm he)) (Suffix.start hr.1 hr.2)
    have h2 := sum_sub (f := fun r : RuleD => listC (lenD R') (cN R') r.2 x.2) (hs.filter (fun r => decide (r.1 = (x.1 : Int))))
    show min _ 1000000000 ≤ min _ 1000000000
    omega
/-- fewer rules, not more trees -/
theorem treesN_mono (hR : RulesN N R) (hR' : RulesN N R') (hs : R.Sublist R') {a k : Nat} (ha : a < N) : treesN R' a k = -1 ∨ treesN R a k ≠ -1 ∧ treesN R a k ≤ treesN R' a k := by
  have hm : ∀ r ∈ R, r ∈ R' := fun r hr => hs.subset hr
  unfold treesN
  by_cases h' : lenD R' a k = true
  · rw [if_pos h']
    by_cases hM : Many R' (a, k)
    · rw [if_pos hM]; exact Or.inl rfl
    · right
      rw [if_neg hM]
      by_cases h : lenD R a k = true
      · rw [if_pos h, if_neg fun hx => hM (hx.mono hm)]
        have := cN_mono hR hR' hs (acc_few hR' (x := (a, k)) ha hM)
        dsimp only at this
        omega
      · rw [if_neg h]; omega
  · have h : ¬ lenD R a k = true := fun hx => h' (lenD_iff.2 ((lenD_iff.1 hx).mono hm))
    rw [if_neg h', if_neg h]
    right
    omega
end
end Go.Proofs.Ytmfahplimnakcaa
