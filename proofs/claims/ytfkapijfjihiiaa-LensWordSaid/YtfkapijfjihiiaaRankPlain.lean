/- Plain laws of chapter 56: the tree of a number. -/
import Derived.Test.YtfkapijfjihiiaaCensusPlain3
import Derived.Test.YtfkapijfjihiiaaTreeD
namespace Go.Proofs.Ytfkapijfjihiiaa

def sumTo (f : Nat → Nat) (n : Nat) : Nat := ((List.range n).map f).sum
theorem sumTo_zero (f : Nat → Nat) : sumTo f 0 = 0 := rfl
theorem sumTo_succ (f : Nat → Nat) (n : Nat) : sumTo f (n + 1) = sumTo f n + f n := by simp [sumTo, List.range_succ]
theorem sumTo_mono {f : Nat → Nat} {m n : Nat} (h : m ≤ n) : sumTo f m ≤ sumTo f n := by
  induction n with
  | zero => obtain rfl : m = 0 := by omega
            exact Nat.le_refl _
  | succ n ih =>
    rw [sumTo_succ]
    rcases Nat.lt_or_ge n m with h1 | h1
    · obtain rfl : m = n + 1 := by omega
      rw [sumTo_succ]; exact Nat.le_refl _
    · have := ih h1
      omega
theorem sumTo_at {f : Nat → Nat} {m n : Nat} (h : m < n) : sumTo f m + f m ≤ sumTo f n := by
  rw [← sumTo_succ]
  exact sumTo_mono h
theorem sum_filter_all {α : Type} {p : α → Bool} {f : α → Nat} : ∀ {l : List α}, (∀ x ∈ l, p x = false → f x = 0) → ((l.filter p).map f).sum = (l.map f).sum
  | [], _ => rfl
  | x :: l, h => by
    have ih := sum_filter_all (p := p) (f := f) (l := l) fun y hy => h y (by simp [hy])
    by_cases hp : p x = true
    · rw [List.filter_cons_of_pos hp, List.map_cons, List.map_cons, List.sum_cons, List.sum_cons, ih]
    · rw [List.filter_cons_of_neg hp, List.map_cons, List.sum_cons, ih, h x (by simp) (by simpa using hp), Nat.zero_add]
section
variable {R : List RuleD} {N : Nat}
/-- lists of trees of a length -/
noncomputable def lN (R : List RuleD) (l : List SymD) (n : Nat) : Nat := listC (lenD R) (cN R) l n
/-- trees of a symbol with a length -/
noncomputable def oN (R : List RuleD) (s : SymD) (n : Nat) : Nat := ofC (lenD R) (cN R) s n
/-- lists of trees whose first one has k terminals -/
noncomputable def wOf (R : List RuleD) (s : SymD) (l : List SymD) (n k : Nat) : Nat := oN R s k * lN R l (n - k)
/-- trees of a nonterminal with one of the first k rules -/
noncomputable def preR (R : List RuleD) (a n k : Nat) : Nat := (((R.take k).filter (fun r => decide (r.1 = (a : Int)))).map (fun r => lN R r.2 n)).sum
theorem lN_le (R : List RuleD) (l : List SymD) (n : Nat) : lN R l n ≤ MC := listC_le _ _ _ _
theorem lN_nil (R : List RuleD) (n : Nat) : lN R [] n = if n = 0 then 1 else 0 := rfl
theorem lN_zero (hR : RulesN N R) {l : List SymD} {k : Nat} (ho : NonOk N l) (hd : ¬ Der R l k) : lN R l k = 0 := by
  unfold lN
  cases l with
  | nil =>
    have : k ≠ 0 := fun e => hd (by subst e; exact .nil)
    simp [listC, this]
  | cons s l =>
    rw [listC_cons]
    have : (List.range (k + 1)).filter (fun i => hasT (lenD R) s i && canT (lenD R) l (k - i)) = [] := by
      rw [List.filter_eq_nil_iff]
      intro i hi hc
      rw [List.mem_range] at hi
      rw [Bool.and_eq_true] at hc
      exact hd (Der.cons_iff.2 ⟨i, by omega, (hasD_iff ho.head).1 hc.1, (canD_iff ho.tail hR).1 hc.2⟩)
    rw [this]
    rfl
theorem oN_zero {s : SymD} {k : Nat} (ho : NonOk N [s]) (hd : ¬ Der R [s] k) : oN R s k = 0 := by
  unfold oN ofC
  rw [if_neg fun h => hd ((hasD_iff ho).1 h)]
theorem lN_der (hR : RulesN N R) {l : List SymD} {k : Nat} (ho : NonOk N l) (h : 0 < lN R l k) : Der R l k := by
  apply Classical.byContradiction
  intro hd
  rw [lN_zero hR ho hd] at h
  omega
theorem oN_der {s : SymD} {k : Nat} (ho : NonOk N [s]) (h : 0 < oN R s k) : Der R [s] k := by
  apply Classical.byContradiction
  intro hd
  rw [oN_zero ho hd] at h
  omega
/-- where the numbers are below the limit they are sums -/
theorem lN_sum (hR : RulesN N R) {s : SymD} {l : List SymD} {k : Nat} (ho : NonOk N (s :: l)) (h : lN R (s :: l) k < MC) : lN R (s :: l) k = sumTo (wOf R s l k) (k + 1) := by
  have e : lN R (s :: l) k = min ((((List.range (k + 1)).filter (fun i => hasT (lenD R) s i && canT (lenD R) l (k - i))).map (wOf R s l k)).sum) MC := listC_cons _ _ _ _ _
  have e2 := sum_filter_all (p := fun i => hasT (lenD R) s i && canT (lenD R) l (k - i)) (f := wOf R s l k) (l := List.range (k + 1)) (fun i _ hf => by
    unfold wOf
    rw [Bool.and_eq_false_iff] at hf
    rcases hf with hf | hf
    · rw [oN_zero ho.head (fun hd => by rw [(hasD_iff ho.head).2 hd] at hf; cases hf), Nat.zero_mul]
    · rw [lN_zero hR ho.tail (fun hd => by rw [(canD_iff ho.tail hR).2 hd] at hf; cases hf), Nat.mul_zero])
  rw [e2] at e
  unfold sumTo
  rw [e] at h ⊢
  omega
theorem preR_succ {a n k : Nat} {r : RuleD} (h : R[k]? = some r) : preR R a n (k + 1) = preR R a n k + (if r.1 = (a : Int) then lN R r.2 n else 0) := by
  obtain ⟨hk, rfl⟩ := List.getElem?_eq_some_iff.1 h
  unfold preR
  rw [List.take_succ_eq_append_getElem hk, List.filter_append, List.map_append, List.sum_append]
  by_cases e : R[k].1 = (a : Int)
  · rw [if_pos e, List.filter_cons_of_pos (by simpa using e)]
    simp
  · rw [if_neg e, List.filter_cons_of_neg (by simpa using e)]
    simp
theorem preR_mono {a n : Nat} {j k : Nat} (h : j ≤ k) : preR R a n j ≤ preR R a n k := by
  induction k with
  | zero => obtain rfl : j = 0 := by omega
            exact Nat.le_refl _
  | succ k ih =>
    rcases Nat.lt_or_ge k j with h1 | h1
    · obtain rfl : j = k + 1 := by omega
      exact Nat.le_refl _
    · refine Nat.le_trans (ih h1) ?_
      by_cases hk : k < R.length
      · rw [preR_succ (List.getElem?_eq_getElem hk)]
        omega
      · unfold preR
        rw [List.take_of_length_le (show R.length ≤ k by omega), List.take_of_length_le (show R.length ≤ k + 1 by omega)]
        exact Nat.le_refl _
theorem preR_zero (R : List RuleD) (a n : Nat) : preR R a n 0 = 0 := by simp [preR]
theorem cN_sum (hR : RulesN N R) {a k : Nat} (h : Acc (fun y x => Edge R x y) (a, k)) (hlt : cN R a k < MC) : cN R a k = preR R a k R.length := by
  have e := cN_eq hR h
  rw [ruleC_eq] at e
  have e2 : (((R.filter (fun r => decide (r.1 = (a : Int)))).map (fun r => listC (lenD R) (cN R) r.2 k)).sum) = preR R a k R.length := by
    unfold preR lN
    rw [List.take_length]
  rw [e2] at e
  rw [e] at hlt ⊢
  omega
theorem oN_non {a k : Nat} (h : lenD R a k = true) : oN R (false, (a : Int)) k = cN R a k := by
  unfold oN ofC
  have e : hasT (lenD R) (false, (a : Int)) k = true := by simpa [hasT] using h
  rw [if_pos e]
  simp
end
mutual
/-- the tree of a symbol with a length that has a number -/
inductive Unr (R : List RuleD) : SymD → Nat → Nat → TreeD → Prop
  | leaf {c : Int} : Unr R (true, c) 1 0 (.node (-1) c [])
  | node {a n k i : Nat} {r : RuleD} {ts : List TreeD} : R[k]? = some r → r.1 = (a : Int) → i < lN R r.2 n → UnrL R r.2 n i ts → Unr R (false, (a : Int)) n (preR R a n k + i) (.node (k : Int) 0 ts)
/-- the trees of symbols with a length together that have a number -/
inductive UnrL (R : List RuleD) : List SymD → Nat → Nat → List TreeD → Prop
  | nil : UnrL R [] 0 0 []
  | cons {s : SymD} {l : List SymD} {n k q i : Nat} {t : TreeD} {ts : List TreeD} : k ≤ n → q < oN R s k → i < lN R l (n - k) → Unr R s k q t → UnrL R l (n - k) i ts → UnrL R (s :: l) n (sumTo (wOf R s l n) k + q * lN R l (n - k) + i) (t :: ts)
end
/-- a smaller number, no greater rule at the root -/
theorem Unr.first {R : List RuleD} {a n i j : Nat} {t t' : TreeD} (h : Unr R (false, (a : Int)) n i t) (h' : Unr R (false, (a : Int)) n j t') (hij : i ≤ j) : t.rule ≤ t'.rule := by
  obtain ⟨s, hs⟩ : ∃ s : SymD, s = (false, (a : Int)) := ⟨_, rfl⟩
  rw [← hs] at h h'
  cases h with
  | leaf => cases hs
  | @node a1 _ k i1 r ts hk ha hi _ =>
    injection hs with _ e1
    have e1' : a1 = a := by omega
    subst e1'
    obtain ⟨s', hs'⟩ : ∃ s' : SymD, s' = (false, (a1 : Int)) := ⟨_, rfl⟩
    rw [← hs'] at h'
    cases h' with
    | leaf => cases hs'
    | @node a2 _ k' j1 r' ts' hk' ha' hj _ =>
      injection hs' with _ e2
      have e2' : a2 = a1 := by omega
      subst e2'
      show (k : Int) ≤ (k' : Int)
      rcases Nat.lt_or_ge k' k with hlt | hge
      · exfalso
        have h1 := preR_mono (R := R) (a := a2) (n := n) (show k' + 1 ≤ k from hlt)
        rw [preR_succ hk', if_pos ha'] at h1
        omega
      · omega
end Go.Proofs.Ytfkapijfjihiiaa
