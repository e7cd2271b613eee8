/- The plain grammar of the laws: its numbers of trees. -/
import Derived.Test.YtfkapijfjihiiaaCensusPlain3
import Derived.Test.YtfkapijfjihiiaaMakeGram
namespace Go.Proofs.Ytfkapijfjihiiaa

/-- the words a, b a, b b a and so on -/
def plainR : List RuleD := [(0, [(true, 0)]), (0, [(true, 1), (false, 0)])]
abbrev plainG : GramD := (2, 1, 0, plainR)
theorem plain_valid : GValid plainG := by
  refine ⟨by decide, by decide, by decide, by decide, ⟨by decide, by decide⟩, by decide, ?_, by decide⟩
  intro r hr
  simp only [plainR, List.mem_cons, List.not_mem_nil, or_false] at hr
  rcases hr with rfl | rfl <;> simp [SymOk]
theorem plain_rules : RulesN 1 plainR := by
  intro r hr
  simp only [plainR, List.mem_cons, List.not_mem_nil, or_false] at hr
  rcases hr with rfl | rfl <;> simp [NonOk]
theorem plain_der1 {k : Nat} (h : Der plainR [(false, 0)] k) : 1 ≤ k := by
  obtain ⟨r, hr, h1⟩ := Der.non_iff.1 h
  simp only [plainR, List.mem_cons, List.not_mem_nil, or_false, Prod.mk.injEq] at hr
  rcases hr with ⟨_, rfl⟩ | ⟨_, rfl⟩
  · have := Der.term_iff.1 h1; omega
  · obtain ⟨i, hi, h2, _⟩ := Der.cons_iff.1 h1
    have := Der.term_iff.1 h2
    omega
theorem plain_der2 : ∀ k : Nat, Der plainR [(false, 0)] (k + 1)
  | 0 => Der.non_iff.2 ⟨[(true, 0)], by simp [plainR], Der.term_iff.2 rfl⟩
  | k + 1 => Der.non_iff.2 ⟨[(true, 1), (false, 0)], by simp [plainR], Der.cons_iff.2 ⟨1, by omega, Der.term_iff.2 rfl, plain_der2 k⟩⟩
theorem plain_len (k : Nat) : lenD plainR 0 k = decide (1 ≤ k) := by
  rw [Bool.eq_iff_iff, lenD_iff, decide_eq_true_eq]
  constructor
  · exact plain_der1
  · intro h
    obtain ⟨j, rfl⟩ : ∃ j, k = j + 1 := ⟨k - 1, by omega⟩
    exact plain_der2 j
theorem plain_edge {x y : Nat × Nat} (h : Edge plainR x y) : y.2 < x.2 := by
  obtain ⟨r, hr, _, a, b, h2, p, q, h3, h4, _⟩ := h
  simp only [plainR, List.mem_cons, List.not_mem_nil, or_false] at hr
  rcases hr with rfl | rfl
  · cases a with
    | nil => simp at h2
    | cons s a => simp at h2
  · cases a with
    | nil => simp at h2
    | cons s a =>
      cases a with
      | nil =>
        simp only [List.cons_append, List.nil_append, List.cons.injEq] at h2
        rw [← h2.1] at h4
        have := Der.term_iff.1 h4
        omega
      | cons s' a => simp at h2
theorem plain_reach {x y : Nat × Nat} (h : Reach (Edge plainR) x y) : y.2 < x.2 := by
  induction h with
  | one h => exact plain_edge h
  | step h _ ih => have := plain_edge h; omega
theorem plain_few (x : Nat × Nat) : ¬ Many plainR x := by
  rintro ⟨y, _, h⟩
  have := plain_reach h
  omega
theorem plain_ruleC1 (S : Nat → Nat → Bool) (c : Nat → Nat → Nat) (hS : ∀ k, S 0 k = decide (1 ≤ k)) : ruleC S c plainR 0 1 = 1 := by
  simp [ruleC, plainR, listC, List.range_succ, hasT, canT, ofC, hS]
  decide
theorem plain_ruleC2 (S : Nat → Nat → Bool) (c : Nat → Nat → Nat) (hS : ∀ k, S 0 k = decide (1 ≤ k)) (hc : c 0 1 = 1) : ruleC S c plainR 0 2 = 1 := by
  simp [ruleC, plainR, listC, List.range_succ, hasT, canT, ofC, hS, hc]
  decide
theorem plain_ruleC3 (S : Nat → Nat → Bool) (c : Nat → Nat → Nat) (hS : ∀ k, S 0 k = decide (1 ≤ k)) (hc : c 0 2 = 1) : ruleC S c plainR 0 3 = 1 := by
  simp [ruleC, plainR, listC, List.range_succ, hasT, canT, ofC, hS, hc]
  decide
theorem plain_c1 : cN plainR 0 1 = 1 := by
  rw [cN_eq plain_rules (acc_few plain_rules (x := (0, 1)) (by decide) (plain_few _)), plain_ruleC1 _ _ plain_len]
theorem plain_c2 : cN plainR 0 2 = 1 := by
  rw [cN_eq plain_rules (acc_few plain_rules (x := (0, 2)) (by decide) (plain_few _)), plain_ruleC2 _ _ plain_len plain_c1]
theorem plain_c3 : cN plainR 0 3 = 1 := by
  rw [cN_eq plain_rules (acc_few plain_rules (x := (0, 3)) (by decide) (plain_few _)), plain_ruleC3 _ _ plain_len plain_c2]
theorem plain_t0 : treesN plainR 0 0 = 0 := by simp [treesN, plain_len]
theorem plain_t1 : treesN plainR 0 1 = 1 := by simp [treesN, plain_len, plain_few, plain_c1]
theorem plain_t2 : treesN plainR 0 2 = 1 := by simp [treesN, plain_len, plain_few, plain_c2]
theorem plain_t3 : treesN plainR 0 3 = 1 := by simp [treesN, plain_len, plain_few, plain_c3]
theorem treesN_range {R : List RuleD} {N : Nat} (hR : RulesN N R) {a k : Nat} (ha : a < N) : treesN R a k = -1 ∨ 0 ≤ treesN R a k ∧ treesN R a k ≤ 1000000000 := by
  unfold treesN
  split
  · split
    · exact Or.inl rfl
    · rename_i h
      have : cN R a k ≤ 1000000000 := cN_le hR (acc_few hR (x := (a, k)) ha h)
      omega
  · omega
/-- what census.Total makes of a row -/
def totalD : List Int → Int → Int
  | [], s => s
  | x :: l, s => if x = -1 then -1 else totalD l (min (s + x) 1000000000)
end Go.Proofs.Ytfkapijfjihiiaa
