/- TreeD RankPlain -/
import Derived.Test.YtbmcoamdfpegnaaMn04
import Derived.Test.YtbmcoamdfpegnaaMn10
namespace Go.Proofs.Ytbmcoamdfpegnaa
open Go.RowKit
inductive TreeD where
 | node (rule term : Int) (kids : List TreeD) : TreeD
def TreeD.rule : TreeD → Int
 | .node r _ _ => r
def TreeD.term : TreeD → Int
 | .node _ t _ => t
def TreeD.kids : TreeD → List TreeD
 | .node _ _ k => k
mutual
def treeOk (w : World) (S : Nat → Prop) : List Value → TreeD → Prop
 | cs, .node r t ks => ∃ A n c xs, cs = [.int .i64 r, .int .i64 t, .slice A n c] ∧ n = ks.length ∧ n ≤ c ∧ Rd w S 3 A n xs ∧ treesOk w S xs ks
def treesOk (w : World) (S : Nat → Prop) : List Value → List TreeD → Prop
 | xs, [] => xs = []
 | xs, t :: ts => ∃ cs rest, xs = cs ++ rest ∧ treeOk w S cs t ∧ treesOk w S rest ts
end
section
variable {w w' : World} {S S' : Nat → Prop}
theorem treeOk.len {cs : List Value} : ∀ {t : TreeD}, treeOk w S cs t → cs.length = 3
 | .node r t ks, h => by
  unfold treeOk at h
  obtain ⟨A, n, c, xs, rfl, _⟩ := h
  rfl
theorem treeOk.one {cs : List Value} : ∀ {t : TreeD}, treeOk w S cs t → ∀ u ∈ cs, u.oneCell' = true
 | .node r t ks, h => by
  unfold treeOk at h
  obtain ⟨A, n, c, xs, rfl, _⟩ := h
  intro u hu
  simp only [List.mem_cons, List.not_mem_nil, or_false] at hu
  rcases hu with rfl | rfl | rfl <;> rfl
mutual
theorem treeOk.keep (hk : Kept S w w') : ∀ {t : TreeD} {cs : List Value}, treeOk w S cs t → treeOk w' S cs t
 | .node r t ks, cs, h => by
  unfold treeOk at h ⊢
  obtain ⟨A, n, c, xs, rfl, h1, h2, h3, h4⟩ := h
  exact ⟨A, n, c, xs, rfl, h1, h2, h3.keep hk, treesOk.keep hk h4⟩
theorem treesOk.keep (hk : Kept S w w') : ∀ {ts : List TreeD} {xs : List Value}, treesOk w S xs ts → treesOk w' S xs ts
 | [], xs, h => by
  unfold treesOk at h ⊢
  exact h
 | t :: ts, xs, h => by
  unfold treesOk at h ⊢
  obtain ⟨cs, rest, rfl, h1, h2⟩ := h
  exact ⟨cs, rest, rfl, treeOk.keep hk h1, treesOk.keep hk h2⟩
end
mutual
theorem treeOk.more (hS : ∀ b, S b → S' b) : ∀ {t : TreeD} {cs : List Value}, treeOk w S cs t → treeOk w S' cs t
 | .node r t ks, cs, h => by
  unfold treeOk at h ⊢
  obtain ⟨A, n, c, xs, rfl, h1, h2, h3, h4⟩ := h
  exact ⟨A, n, c, xs, rfl, h1, h2, h3.more hS, treesOk.more hS h4⟩
theorem treesOk.more (hS : ∀ b, S b → S' b) : ∀ {ts : List TreeD} {xs : List Value}, treesOk w S xs ts → treesOk w S' xs ts
 | [], xs, h => by
  unfold treesOk at h ⊢
  exact h
 | t :: ts, xs, h => by
  unfold treesOk at h ⊢
  obtain ⟨cs, rest, rfl, h1, h2⟩ := h
  exact ⟨cs, rest, rfl, treeOk.more hS h1, treesOk.more hS h2⟩
end
mutual
theorem treeOk.fit : ∀ {t : TreeD} {cs : List Value}, treeOk w S cs t → treeOk w (fun b => S b ∧ b < w.heap.size) cs t
 | .node r t ks, cs, h => by
  unfold treeOk at h ⊢
  obtain ⟨A, n, c, xs, rfl, h1, h2, h3, h4⟩ := h
  exact ⟨A, n, c, xs, rfl, h1, h2, h3.fit (by decide), treesOk.fit h4⟩
theorem treesOk.fit : ∀ {ts : List TreeD} {xs : List Value}, treesOk w S xs ts → treesOk w (fun b => S b ∧ b < w.heap.size) xs ts
 | [], xs, h => by
  unfold treesOk at h ⊢
  exact h
 | t :: ts, xs, h => by
  unfold treesOk at h ⊢
  obtain ⟨cs, rest, rfl, h1, h2⟩ := h
  exact ⟨cs, rest, rfl, treeOk.fit h1, treesOk.fit h2⟩
end
end
def RTree : Rep TreeD where
 size := 3
 ok := treeOk
 pos := by decide
 len := treeOk.len
 keep := fun h hk => treeOk.keep hk h
 more := fun h hS => treeOk.more hS h
 fit := treeOk.fit
 one := treeOk.one
section
variable {w : World} {S : Nat → Prop}
theorem treesOk.cells : ∀ {ts : List TreeD} {xs : List Value}, treesOk w S xs ts ↔ Cells RTree w S xs ts
 | [], xs => by unfold treesOk Cells; exact Iff.rfl
 | t :: ts, xs => by
  unfold treesOk Cells
  constructor
  ·
   rintro ⟨cs, rest, e, h1, h2⟩; exact ⟨cs, rest, e, h1, treesOk.cells.1 h2⟩
  ·
   rintro ⟨cs, rest, e, h1, h2⟩; exact ⟨cs, rest, e, h1, treesOk.cells.2 h2⟩
theorem RTree.cells {t : TreeD} {cs : List Value} : RTree.ok w S cs t ↔ ∃ A n c, cs = [.int .i64 t.rule, .int .i64 t.term, .slice A n c] ∧ Sl RTree w S A n c t.kids := by
 obtain ⟨r, x, ks⟩ := t
 show treeOk w S cs (.node r x ks) ↔ _
 unfold treeOk
 constructor
 ·
  rintro ⟨A, n, c, xs, rfl, h1, h2, h3, h4⟩
  exact ⟨A, n, c, rfl, xs, h1, h2, h3, treesOk.cells.1 h4⟩
 ·
  rintro ⟨A, n, c, rfl, xs, h1, h2, h3, h4⟩
  exact ⟨A, n, c, xs, rfl, h1, h2, h3, treesOk.cells.2 h4⟩
end
end Go.Proofs.Ytbmcoamdfpegnaa
namespace Go.Proofs.Ytbmcoamdfpegnaa
def sumTo (f : Nat → Nat) (n : Nat) : Nat := ((List.range n).map f).sum
theorem sumTo_succ (f : Nat → Nat) (n : Nat) : sumTo f (n + 1) = sumTo f n + f n := by simp [sumTo, List.range_succ]
theorem sumTo_mono {f : Nat → Nat} {m n : Nat} (h : m ≤ n) : sumTo f m ≤ sumTo f n := by
 induction n with
 | zero => obtain rfl : m = 0 := by omega
           exact Nat.le_refl _
 | succ n ih =>
  rw [sumTo_succ]
  rcases Nat.lt_or_ge n m with h1 | h1
  ·
   obtain rfl : m = n + 1 := by omega
   rw [sumTo_succ]; exact Nat.le_refl _
  ·
   have := ih h1
   omega
theorem sumTo_at {f : Nat → Nat} {m n : Nat} (h : m < n) : sumTo f m + f m ≤ sumTo f n := by
 rw [← sumTo_succ]
 exact sumTo_mono h
theorem sum_filter_all {α : Type} {p : α → Bool} {f : α → Nat} : ∀ {l : List α}, (∀ x ∈ l, p x = false → f x = 0) → ((l.filter p).map f).sum = (l.map f).sum
 | [], _ => rfl
 | x :: l, h => by
  have ih := sum_filter_all (p := p) (f := f) (l := l) fun y hy => h y (by simp [hy])
  by_cases hp : p x = true
  ·
   rw [List.filter_cons_of_pos hp, List.map_cons, List.map_cons, List.sum_cons, List.sum_cons, ih]
  ·
   rw [List.filter_cons_of_neg hp, List.map_cons, List.sum_cons, ih, h x (by simp) (by simpa using hp), Nat.zero_add]
section
variable {R : List RuleD} {N : Nat}
noncomputable def lN (R : List RuleD) (l : List SymD) (n : Nat) : Nat := listC (lenD R) (cN R) l n
noncomputable def oN (R : List RuleD) (s : SymD) (n : Nat) : Nat := ofC (lenD R) (cN R) s n
noncomputable def wOf (R : List RuleD) (s : SymD) (l : List SymD) (n k : Nat) : Nat := oN R s k * lN R l (n - k)
noncomputable def preR (R : List RuleD) (a n k : Nat) : Nat := (((R.take k).filter (fun r => decide (r.1 = (a : Int)))).map (fun r => lN R r.2 n)).sum
theorem lN_nil (R : List RuleD) (n : Nat) : lN R [] n = if n = 0 then 1 else 0 := rfl
theorem lN_zero (hR : RulesN N R) {l : List SymD} {k : Nat} (ho : NonOk N l) (hd : ¬ Der R l k) : lN R l k = 0 := by
 unfold lN
 cases l with
 | nil =>
  have : k ≠ 0 := fun e => hd (by subst e; exact .nil)
  simp [listC, this]
 | cons s l =>
  rw [listC_cons]
  have : (List.range (k + 1)).filter (fun i => hasT (lenD R) s i && canT (lenD R) l (k - i)) = [] := by
   rw [List.filter_eq_nil_iff]
   intro i hi hc
   rw [List.mem_range] at hi
   rw [Bool.and_eq_true] at hc
   exact hd (Der.cons_iff.2 ⟨i, by omega, (hasD_iff ho.head).1 hc.1, (canD_iff ho.tail hR).1 hc.2⟩)
  rw [this]
  rfl
theorem oN_zero {s : SymD} {k : Nat} (ho : NonOk N [s]) (hd : ¬ Der R [s] k) : oN R s k = 0 := by
 unfold oN ofC
 rw [if_neg fun h => hd ((hasD_iff ho).1 h)]
theorem lN_sum (hR : RulesN N R) {s : SymD} {l : List SymD} {k : Nat} (ho : NonOk N (s :: l)) (h : lN R (s :: l) k < MC) : lN R (s :: l) k = sumTo (wOf R s l k) (k + 1) := by
 have e : lN R (s :: l) k = min ((((List.range (k + 1)).filter (fun i => hasT (lenD R) s i && canT (lenD R) l (k - i))).map (wOf R s l k)).sum) MC := listC_cons _ _ _ _ _
 have e2 := sum_filter_all (p := fun i => hasT (lenD R) s i && canT (lenD R) l (k - i)) (f := wOf R s l k) (l := List.range (k + 1)) (fun i _ hf => by
  unfold wOf
  rw [Bool.and_eq_false_iff] at hf
  rcases hf with hf | hf
  ·
   rw [oN_zero ho.head (fun hd => by rw [(hasD_iff ho.head).2 hd] at hf; cases hf), Nat.zero_mul]
  ·
   rw [lN_zero hR ho.tail (fun hd => by rw [(canD_iff ho.tail hR).2 hd] at hf; cases hf), Nat.mul_zero])
 rw [e2] at e
 unfold sumTo
 rw [e] at h ⊢
 omega
theorem preR_succ {a n k : Nat} {r : RuleD} (h : R[k]? = some r) : preR R a n (k + 1) = preR R a n k + (if r.1 = (a : Int) then lN R r.2 n else 0) := by
 obtain ⟨hk, rfl⟩ := List.getElem?_eq_some_iff.1 h
 unfold preR
 rw [List.take_succ_eq_append_getElem hk, List.filter_append, List.map_append, List.sum_append]
 by_cases e : R[k].1 = (a : Int)
 ·
  rw [if_pos e, List.filter_cons_of_pos (by simpa using e)]
  simp
 ·
  rw [if_neg e, List.filter_cons_of_neg (by simpa using e)]
  simp
theorem preR_mono {a n : Nat} {j k : Nat} (h : j ≤ k) : preR R a n j ≤ preR R a n k := by
 induction k with
 | zero => obtain rfl : j = 0 := by omega
           exact Nat.le_refl _
 | succ k ih =>
  rcases Nat.lt_or_ge k j with h1 | h1
  ·
   obtain rfl : j = k + 1 := by omega
   exact Nat.le_refl _
  ·
   refine Nat.le_trans (ih h1) ?_
   by_cases hk : k < R.length
   ·
    rw [preR_succ (List.getElem?_eq_getElem hk)]
    omega
   ·
    unfold preR
    rw [List.take_of_length_le (show R.length ≤ k by omega), List.take_of_length_le (show R.length ≤ k + 1 by omega)]
    exact Nat.le_refl _
theorem cN_sum (hR : RulesN N R) {a k : Nat} (h : Acc (fun y x => Edge R x y) (a, k)) (hlt : cN R a k < MC) : cN R a k = preR R a k R.length := by
 have e := cN_eq hR h
 rw [ruleC_eq] at e
 have e2 : (((R.filter (fun r => decide (r.1 = (a : Int)))).map (fun r => listC (lenD R) (cN R) r.2 k)).sum) = preR R a k R.length := by
  unfold preR lN
  rw [List.take_length]
 rw [e2] at e
 rw [e] at hlt ⊢
 omega
theorem oN_non {a k : Nat} (h : lenD R a k = true) : oN R (false, (a : Int)) k = cN R a k := by
 unfold oN ofC
 have e : hasT (lenD R) (false, (a : Int)) k = true := by simpa [hasT] using h
 rw [if_pos e]
 simp
end
mutual
inductive Unr (R : List RuleD) : SymD → Nat → Nat → TreeD → Prop
 | leaf {c : Int} : Unr R (true, c) 1 0 (.node (-1) c [])
 | node {a n k i : Nat} {r : RuleD} {ts : List TreeD} : R[k]? = some r → r.1 = (a : Int) → i < lN R r.2 n → UnrL R r.2 n i ts → Unr R (false, (a : Int)) n (preR R a n k + i) (.node (k : Int) 0 ts)
inductive UnrL (R : List RuleD) : List SymD → Nat → Nat → List TreeD → Prop
 | nil : UnrL R [] 0 0 []
 | cons {s : SymD} {l : List SymD} {n k q i : Nat} {t : TreeD} {ts : List TreeD} : k ≤ n → q < oN R s k → i < lN R l (n - k) → Unr R s k q t → UnrL R l (n - k) i ts → UnrL R (s :: l) n (sumTo (wOf R s l n) k + q * lN R l (n - k) + i) (t :: ts)
end
theorem Unr.first {R : List RuleD} {a n i j : Nat} {t t' : TreeD} (h : Unr R (false, (a : Int)) n i t) (h' : Unr R (false, (a : Int)) n j t') (hij : i ≤ j) : t.rule ≤ t'.rule := by
 obtain ⟨s, hs⟩ : ∃ s : SymD, s = (false, (a : Int)) := ⟨_, rfl⟩
 rw [← hs] at h h'
 cases h with
 | leaf => cases hs
 | @node a1 _ k i1 r ts hk ha hi _ =>
  injection hs with _ e1
  have e1' : a1 = a := by omega
  subst e1'
  obtain ⟨s', hs'⟩ : ∃ s' : SymD, s' = (false, (a1 : Int)) := ⟨_, rfl⟩
  rw [← hs'] at h'
  cases h' with
  | leaf => cases hs'
  | @node a2 _ k' j1 r' ts' hk' ha' hj _ =>
   injection hs' with _ e2
   have e2' : a2 = a1 := by omega
   subst e2'
   show (k : Int) ≤ (k' : Int)
   rcases Nat.lt_or_ge k' k with hlt | hge
   ·
    exfalso
    have h1 := preR_mono (R := R) (a := a2) (n := n) (show k' + 1 ≤ k from hlt)
    rw [preR_succ hk', if_pos ha'] at h1
    omega
   ·
    omega
end Go.Proofs.Ytbmcoamdfpegnaa
