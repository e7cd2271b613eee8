/- Plain: paths into trees, subtrees, smaller trees. -/
import Derived.Test.YtfmmpmphlognlaaTreePlain
namespace Go.Proofs.Ytfmmpmphlognlaa

mutual
/-- the paths of all nodes in preorder -/
def pathsT : TreeD → List Int → List (List Int)
  | .node _ _ ks, p => p :: pathsTs ks p 0
def pathsTs : List TreeD → List Int → Nat → List (List Int)
  | [], _, _ => []
  | t :: ts, p, i => pathsT t (p ++ [(i : Int)]) ++ pathsTs ts p (i + 1)
end
theorem pathsT_eq (t : TreeD) (p : List Int) : pathsT t p = p :: pathsTs t.kids p 0 := by
  cases t
  rw [pathsT]
  rfl
theorem pathsTs_nil (p : List Int) (i : Nat) : pathsTs [] p i = [] := by rw [pathsTs]
theorem pathsTs_cons (t : TreeD) (ts : List TreeD) (p : List Int) (i : Nat) : pathsTs (t :: ts) p i = pathsT t (p ++ [(i : Int)]) ++ pathsTs ts p (i + 1) := by rw [pathsTs]
theorem pathsTs_append : ∀ (l m : List TreeD) (p : List Int) (i : Nat), pathsTs (l ++ m) p i = pathsTs l p i ++ pathsTs m p (i + l.length)
  | [], m, p, i => by rw [pathsTs_nil]; rfl
  | t :: l, m, p, i => by
    rw [List.cons_append, pathsTs_cons, pathsTs_cons, pathsTs_append l m, List.append_assoc, List.length_cons]
    congr 3
    omega
theorem pathsTs_step {l : List TreeD} {p : List Int} {k : Nat} {x : TreeD} (h : l[k]? = some x) : pathsTs (l.take (k + 1)) p 0 = pathsTs (l.take k) p 0 ++ pathsT x (p ++ [(k : Int)]) := by
  obtain ⟨hk, rfl⟩ := List.getElem?_eq_some_iff.1 h
  rw [List.take_succ_eq_append_getElem hk, pathsTs_append, pathsTs_cons, pathsTs_nil, List.append_nil, List.length_take, Nat.min_eq_left (by omega), Nat.zero_add]
theorem sizeTs_step {l : List TreeD} {k : Nat} {x : TreeD} (h : l[k]? = some x) : sizeTs (l.take (k + 1)) = sizeTs (l.take k) + sizeT x := by
  unfold sizeTs sizeT
  rw [nodesTs_step h, List.length_append]
theorem paths_len : ∀ (m : Nat) (t : TreeD) (p : List Int), sizeT t ≤ m → (pathsT t p).length = sizeT t
  | 0, t, p, h => by rw [sizeT_eq] at h; omega
  | m + 1, t, p, h => by
    have hl : ∀ (l : List TreeD) (i : Nat), sizeTs l ≤ m → (pathsTs l p i).length = sizeTs l := by
      intro l
      induction l with
      | nil => intro i _; rw [pathsTs_nil, sizeTs_nil]; rfl
      | cons x l ih =>
        intro i hs
        rw [sizeTs_cons] at hs
        rw [pathsTs_cons, List.length_append, sizeTs_cons, paths_len m x _ (by omega), ih _ (by omega)]
    rw [pathsT_eq, List.length_cons, hl _ _ (by rw [sizeT_eq] at h; omega), sizeT_eq]
    omega
/-- the subtree at a path -/
def subAt : TreeD → List Int → Option TreeD
  | t, [] => some t
  | t, i :: p => if i < 0 then none else match t.kids[i.toNat]? with
    | some k => subAt k p
    | none => none
/-- a subtree replaced -/
def putT : TreeD → List Int → TreeD → TreeD
  | _, [], s => s
  | t, i :: p, s => .node t.rule t.term (match t.kids[i.toNat]? with
    | some k => t.kids.set i.toNat (putT k p s)
    | none => t.kids)
theorem subAt_append : ∀ (p q : List Int) (t x : TreeD), subAt t p = some x → subAt t (p ++ q) = subAt x q
  | [], q, t, x, h => by
    rw [subAt] at h
    injection h with h
    rw [List.nil_append, h]
  | i :: p, q, t, x, h => by
    rw [subAt] at h
    rw [List.cons_append, subAt]
    split at h
    · cases h
    · rename_i h1
      rw [if_neg h1]
      split at h
      · rename_i k hk
        exact subAt_append p q k x h
      · cases h
/-- every path leads to a node -/
theorem paths_sub : ∀ (m : Nat) (t0 t : TreeD) (p : List Int), sizeT t ≤ m → subAt t0 p = some t → ∀ q ∈ pathsT t p, ∃ x, subAt t0 q = some x ∧ p.length ≤ q.length ∧ q.length + sizeT x ≤ p.length + sizeT t
  | 0, t0, t, p, h, _ => by rw [sizeT_eq] at h; omega
  | m + 1, t0, t, p, h, hp => by
    have hl : ∀ (l : List TreeD) (i : Nat), sizeTs l ≤ m → (∀ j x, l[j]? = some x → t.kids[i + j]? = some x) → ∀ q ∈ pathsTs l p i, ∃ x, subAt t0 q = some x ∧ p.length ≤ q.length ∧ q.length + sizeT x ≤ p.length + 1 + sizeTs l := by
      intro l
      induction l with
      | nil => intro i _ _ q hq; rw [pathsTs_nil] at hq; cases hq
      | cons x l ih =>
        intro i hs hk q hq
        rw [sizeTs_cons] at hs ⊢
        rw [pathsTs_cons, List.mem_append] at hq
        rcases hq with hq | hq
        · have hx : subAt t0 (p ++ [(i : Int)]) = some x := by
            rw [subAt_append p _ t0 t hp, subAt, if_neg (by omega)]
            have := hk 0 x rfl
            rw [Nat.add_zero] at this
            rw [Int.toNat_natCast, this]
            rfl
          obtain ⟨y, h1, h2, h3⟩ := paths_sub m t0 x _ (by omega) hx q hq
          rw [List.length_append, List.length_singleton] at h2 h3
          exact ⟨y, h1, by omega, by omega⟩
        · obtain ⟨y, h1, h2, h3⟩ := ih (i + 1) (by omega) (fun j x hj => by
            have := hk (j + 1) x (by simpa using hj)
            rw [show i + 1 + j = i + (j + 1) by omega]
            exact this) q hq
          exact ⟨y, h1, h2, by omega⟩
    intro q hq
    rw [pathsT_eq, List.mem_cons] at hq
    rcases hq with rfl | hq
    · exact ⟨t, hp, Nat.le_refl _, Nat.le_refl _⟩
    · obtain ⟨y, h1, h2, h3⟩ := hl t.kids 0 (by rw [sizeT_eq] at h; omega) (fun j x hj => by rw [Nat.zero_add]; exact hj) q hq
      exact ⟨y, h1, h2, by rw [sizeT_eq t]; omega⟩
/-- paths below the root lead to smaller trees -/
theorem paths_tail {t : TreeD} {q : List Int} (h : q ∈ (pathsT t []).tail) : ∃ x, subAt t q = some x ∧ q.length ≤ sizeT t ∧ sizeT x < sizeT t := by
  have hl : ∀ (l : List TreeD) (i : Nat), (∀ j x, l[j]? = some x → t.kids[i + j]? = some x) → ∀ q ∈ pathsTs l [] i, ∃ x, subAt t q = some x ∧ q.length ≤ sizeT t ∧ sizeT x < sizeT t := by
    intro l
    induction l with
    | nil => intro i _ q hq; rw [pathsTs_nil] at hq; cases hq
    | cons x l ih =>
      intro i hk q hq
      rw [pathsTs_cons, List.mem_append] at hq
      have h0 := hk 0 x rfl
      rw [Nat.add_zero] at h0
      rcases hq with hq | hq
      · have hx : subAt t ([] ++ [(i : Int)]) = some x := by
          rw [List.nil_append, subAt, if_neg (by omega), Int.toNat_natCast, h0]
          rfl
        obtain ⟨y, h1, h2, h3⟩ := paths_sub _ t x _ (Nat.le_refl _) hx q hq
        have hlt := sizeT_kid (List.mem_of_getElem? h0)
        have hy : 1 ≤ sizeT y := by rw [sizeT_eq]; omega
        rw [List.nil_append, List.length_singleton] at h2 h3
        exact ⟨y, h1, by omega, by omega⟩
      · exact ih (i + 1) (fun j x hj => by
          have := hk (j + 1) x (by simpa using hj)
          rw [show i + 1 + j = i + (j + 1) by omega]
          exact this) q hq
  rw [pathsT_eq, List.tail_cons] at h
  exact hl t.kids 0 (fun j x hj => by rw [Nat.zero_add]; exact hj) q h
/-- the symbol at the root, of a tree of the grammar -/
def rootT (R : List RuleD) (t : TreeD) : SymD := if t.rule < 0 then (true, t.term) else match R[t.rule.toNat]? with
  | some r => (false, r.1)
  | none => (true, t.term)
section
variable {R : List RuleD}
theorem TV.root {s : SymD} {t : TreeD} (h : TV R s t) : rootT R t = s := by
  rcases h.inv with ⟨c, rfl, rfl⟩ | ⟨k, r, ts, rfl, rfl, h1, _⟩
  · rfl
  · show (if (k : Int) < 0 then ((true, (0 : Int)) : SymD) else match R[((k : Int)).toNat]? with
      | some r => (false, r.1)
      | none => (true, (0 : Int))) = (false, r.1)
    rw [if_neg (by omega), Int.toNat_natCast, h1]
theorem TV.sub : ∀ (p : List Int) {s : SymD} {t x : TreeD}, TV R s t → subAt t p = some x → ∃ s', TV R s' x
  | [], s, t, x, h, e => by
    rw [subAt] at e
    injection e with e
    subst e
    exact ⟨s, h⟩
  | i :: p, s, t, x, h, e => by
    rw [subAt] at e
    split at e
    · cases e
    · split at e
      · rename_i k hk
        obtain ⟨s', h'⟩ := h.kid (List.mem_of_getElem? hk)
        exact TV.sub p h' e
      · cases e
theorem TVL.set : ∀ {l : List SymD} {ts : List TreeD} {k : Nat} {s : SymD} {t : TreeD}, TVL R l ts → l[k]? = some s → TV R s t → TVL R l (ts.set k t)
  | [], ts, k, s, t, h, hk, _ => by simp at hk
  | y :: l, ts, 0, s, t, h, hk, ht => by
    obtain ⟨t', ts', rfl, h1, h2⟩ := h.inv
    simp only [List.getElem?_cons_zero, Option.some.injEq] at hk
    subst hk
    exact .cons ht h2
  | y :: l, ts, k + 1, s, t, h, hk, ht => by
    obtain ⟨t', ts', rfl, h1, h2⟩ := h.inv
    exact .cons h1 (TVL.set h2 (by simpa using hk) ht)
theorem sizeTs_set : ∀ {l : List TreeD} {k : Nat} {x y : TreeD}, l[k]? = some x → sizeTs (l.set k y) + sizeT x = sizeTs l + sizeT y
  | [], k, x, y, h => by simp at h
  | z :: l, 0, x, y, h => by
    simp only [List.getElem?_cons_zero, Option.some.injEq] at h
    subst h
    rw [List.set_cons_zero, sizeTs_cons, sizeTs_cons]
    omega
  | z :: l, k + 1, x, y, h => by
    have := sizeTs_set (l := l) (y := y) (by simpa using h)
    rw [List.set_cons_succ, sizeTs_cons, sizeTs_cons]
    omega
/-- a subtree replaced by one of the same symbol -/
theorem TV.put : ∀ (p : List Int) {s s' : SymD} {t x y : TreeD}, TV R s t → subAt t p = some x → TV R s' x → TV R s' y → TV R s (putT t p y) ∧ sizeT (putT t p y) + sizeT x = sizeT t + sizeT y
  | [], s, s', t, x, y, h, e, hx, hy => by
    rw [subAt] at e
    injection e with e
    subst e
    rw [putT]
    have h1 := h.root
    rw [hx.root] at h1
    subst h1
    exact ⟨hy, by omega⟩
  | i :: p, s, s', t, x, y, h, e, hx, hy => by
    rw [subAt] at e
    split at e
    · cases e
    · rename_i hi
      split at e
      · rename_i k hk
        rw [putT, hk]
        rcases h.inv with ⟨c, rfl, rfl⟩ | ⟨j, r, ts, rfl, rfl, h1, h2⟩
        · simp [TreeD.kids] at hk
        · simp only [TreeD.kids, TreeD.rule, TreeD.term] at hk ⊢
          obtain ⟨sk, hsk, htk⟩ := h2.get hk
          obtain ⟨a1, a2⟩ := TV.put p htk e hx hy
          refine ⟨.node h1 (h2.set hsk a1), ?_⟩
          rw [sizeT_eq, sizeT_eq (.node (j : Int) 0 ts)]
          simp only [TreeD.kids]
          have := sizeTs_set (y := putT k p y) hk
          omega
      · cases e
/-- what one pair of paths gives -/
def smallAt (R : List RuleD) (t : TreeD) (p : List Int) (x : TreeD) (q : List Int) : List TreeD := match subAt x q with
  | some y => if 0 ≤ y.rule ∧ rootT R y = rootT R x then [putT t p y] else []
  | none => []
def smallP (R : List RuleD) (t : TreeD) (p : List Int) : List TreeD := match subAt t p with
  | some x => if x.rule < 0 then [] else (pathsT x []).tail.flatMap (smallAt R t p x)
  | none => []
/-- the smaller trees -/
def smallerT (R : List RuleD) (t : TreeD) : List TreeD := (pathsT t []).flatMap (smallP R t)
theorem smaller_ok {s : SymD} {t z : TreeD} (h : TV R s t) (hz : z ∈ smallerT R t) : TV R s z ∧ sizeT z < sizeT t := by
  unfold smallerT at hz
  obtain ⟨p, hp, hz⟩ := List.mem_flatMap.1 hz
  obtain ⟨x, hx, _, hsx⟩ := paths_sub _ t t [] (Nat.le_refl _) rfl p hp
  unfold smallP at hz
  rw [hx] at hz
  simp only at hz
  split at hz
  · cases hz
  · obtain ⟨q, hq, hz⟩ := List.mem_flatMap.1 hz
    obtain ⟨y, hy, _, hsy⟩ := paths_tail hq
    unfold smallAt at hz
    rw [hy] at hz
    simp only at hz
    split at hz
    · rename_i hc
      rw [List.mem_singleton] at hz
      subst hz
      obtain ⟨s1, h1⟩ := TV.sub p h hx
      obtain ⟨s2, h2⟩ := TV.sub q h1 hy
      have e : s2 = s1 := by rw [← h1.root, ← h2.root]; exact hc.2
      subst e
      obtain ⟨a1, a2⟩ := TV.put p h hx h1 h2
      exact ⟨a1, by omega⟩
    · cases hz
theorem smallAt_len {t x : TreeD} {p q : List Int} : (smallAt R t p x q).length ≤ 1 := by
  unfold smallAt
  split
  · split <;> simp
  · simp
theorem flatMap_len {α β : Type} {f : α → List β} {B : Nat} : ∀ (l : List α), (∀ x ∈ l, (f x).length ≤ B) → (l.flatMap f).length ≤ l.length * B
  | [], _ => by simp
  | x :: l, h => by
    rw [List.flatMap_cons, List.length_append, List.length_cons, Nat.add_mul, Nat.one_mul]
    have h1 := h x (by simp)
    have h2 := flatMap_len l (fun y hy => h y (by simp [hy]))
    omega
end
theorem take_flatMap {α β : Type} {f : α → List β} {l : List α} {k : Nat} {x : α} (h : l[k]? = some x) : (l.take (k + 1)).flatMap f = (l.take k).flatMap f ++ f x := by
  obtain ⟨hk, rfl⟩ := List.getElem?_eq_some_iff.1 h
  rw [List.take_succ_eq_append_getElem hk, List.flatMap_append]
  simp
end Go.Proofs.Ytfmmpmphlognlaa
