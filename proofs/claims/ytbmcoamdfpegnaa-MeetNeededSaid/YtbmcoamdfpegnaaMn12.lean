/- TreePlain -/
import Derived.Test.YtbmcoamdfpegnaaMn11
namespace Go.Proofs.Ytbmcoamdfpegnaa
mutual
def nodesT : TreeD → List TreeD
 | .node r x ks => .node r x ks :: nodesTs ks
def nodesTs : List TreeD → List TreeD
 | [] => []
 | t :: ts => nodesT t ++ nodesTs ts
end
theorem nodesT_eq (t : TreeD) : nodesT t = t :: nodesTs t.kids := by
 cases t
 rw [nodesT]
 rfl
theorem nodesTs_nil : nodesTs [] = [] := by rw [nodesTs]
theorem nodesTs_cons (t : TreeD) (ts : List TreeD) : nodesTs (t :: ts) = nodesT t ++ nodesTs ts := by rw [nodesTs]
def sizeT (t : TreeD) : Nat := (nodesT t).length
def sizeTs (l : List TreeD) : Nat := (nodesTs l).length
theorem sizeT_eq (t : TreeD) : sizeT t = 1 + sizeTs t.kids := by
 unfold sizeT sizeTs
 rw [nodesT_eq, List.length_cons]
 omega
theorem sizeTs_cons (t : TreeD) (l : List TreeD) : sizeTs (t :: l) = sizeT t + sizeTs l := by unfold sizeTs sizeT; rw [nodesTs_cons, List.length_append]
theorem sizeT_mem : ∀ {l : List TreeD} {x : TreeD}, x ∈ l → sizeT x ≤ sizeTs l
 | y :: l, x, h => by
  rw [sizeTs_cons]
  rcases List.mem_cons.1 h with rfl | h
  ·
   omega
  ·
   have := sizeT_mem h; omega
theorem sizeT_kid {t x : TreeD} (h : x ∈ t.kids) : sizeT x < sizeT t := by
 rw [sizeT_eq t]
 have := sizeT_mem h
 omega
def wordOf (l : List TreeD) : List Int := (l.filter fun x => decide (x.rule = -1)).map TreeD.term
theorem wordOf_append (l m : List TreeD) : wordOf (l ++ m) = wordOf l ++ wordOf m := by unfold wordOf; rw [List.filter_append, List.map_append]
def rulesT (t : TreeD) : List Int := (nodesT t).map TreeD.rule
def rulesTs (l : List TreeD) : List Int := (nodesTs l).map TreeD.rule
def wordT (t : TreeD) : List Int := wordOf (nodesT t)
def wordTs (l : List TreeD) : List Int := wordOf (nodesTs l)
theorem wordTs_nil : wordTs [] = [] := by unfold wordTs; rw [nodesTs_nil]; rfl
theorem wordTs_cons (t : TreeD) (l : List TreeD) : wordTs (t :: l) = wordT t ++ wordTs l := by unfold wordTs wordT; rw [nodesTs_cons, wordOf_append]
theorem rulesTs_nil : rulesTs [] = [] := by unfold rulesTs; rw [nodesTs_nil]; rfl
theorem rulesTs_cons (t : TreeD) (l : List TreeD) : rulesTs (t :: l) = rulesT t ++ rulesTs l := by unfold rulesTs rulesT; rw [nodesTs_cons, List.map_append]
theorem rulesT_eq (t : TreeD) : rulesT t = t.rule :: rulesTs t.kids := by unfold rulesT rulesTs; rw [nodesT_eq, List.map_cons]
theorem wordT_leaf (c : Int) : wordT (.node (-1) c []) = [c] := by unfold wordT; rw [nodesT, nodesTs]; rfl
theorem wordT_node (k : Nat) (x : Int) (ts : List TreeD) : wordT (.node (k : Int) x ts) = wordTs ts := by
 unfold wordT wordTs
 rw [nodesT]
 unfold wordOf
 rw [List.filter_cons_of_neg]
 intro h
 have h2 : (k : Int) = -1 := of_decide_eq_true h
 omega
mutual
inductive TV (R : List RuleD) : SymD → TreeD → Prop
 | leaf {c : Int} : TV R (true, c) (.node (-1) c [])
 | node {k : Nat} {r : RuleD} {ts : List TreeD} : R[k]? = some r → TVL R r.2 ts → TV R (false, r.1) (.node (k : Int) 0 ts)
inductive TVL (R : List RuleD) : List SymD → List TreeD → Prop
 | nil : TVL R [] []
 | cons {s : SymD} {l : List SymD} {t : TreeD} {ts : List TreeD} : TV R s t → TVL R l ts → TVL R (s :: l) (t :: ts)
end
section
variable {R : List RuleD} {N : Nat}
theorem TV.inv {s : SymD} {t : TreeD} (h : TV R s t) : (∃ c, s = (true, c) ∧ t = .node (-1) c []) ∨ ∃ (k : Nat) (r : RuleD) (ts : List TreeD), s = (false, r.1) ∧ t = .node (k : Int) 0 ts ∧ R[k]? = some r ∧ TVL R r.2 ts := by
 cases h with
 | leaf => exact Or.inl ⟨_, rfl, rfl⟩
 | node h1 h2 => exact Or.inr ⟨_, _, _, rfl, rfl, h1, h2⟩
theorem TVL.inv {s : SymD} {l : List SymD} {ts : List TreeD} (h : TVL R (s :: l) ts) : ∃ t ts', ts = t :: ts' ∧ TV R s t ∧ TVL R l ts' := by
 cases h with
 | cons h1 h2 => exact ⟨_, _, rfl, h1, h2⟩
theorem TVL.inv_nil {ts : List TreeD} (h : TVL R [] ts) : ts = [] := by
 cases h
 rfl
theorem TVL.len : ∀ {l : List SymD} {ts : List TreeD}, TVL R l ts → ts.length = l.length
 | [], ts, h => by rw [h.inv_nil]; rfl
 | s :: l, ts, h => by
  obtain ⟨t, ts', rfl, _, h2⟩ := h.inv
  rw [List.length_cons, List.length_cons, TVL.len h2]
theorem TVL.get : ∀ {l : List SymD} {ts : List TreeD} {k : Nat} {t : TreeD}, TVL R l ts → ts[k]? = some t → ∃ s, l[k]? = some s ∧ TV R s t
 | [], ts, k, t, h, hk => by rw [h.inv_nil] at hk; simp at hk
 | s :: l, ts, k, t, h, hk => by
  obtain ⟨t', ts', rfl, h1, h2⟩ := h.inv
  cases k with
  | zero => exact ⟨s, rfl, by simp only [List.getElem?_cons_zero, Option.some.injEq] at hk; rw [← hk]; exact h1⟩
  | succ k => exact TVL.get (k := k) h2 (by simpa using hk)
mutual
theorem Unr.word {s : SymD} {n i : Nat} {t : TreeD} : Unr R s n i t → (wordT t).length = n
 | .leaf => by rw [wordT_leaf]; rfl
 | .node _ _ _ h4 => by rw [wordT_node]; exact UnrL.word h4
theorem UnrL.word {l : List SymD} {n i : Nat} {ts : List TreeD} : UnrL R l n i ts → (wordTs ts).length = n
 | .nil => by rw [wordTs_nil]; rfl
 | .cons h1 _ _ h4 h5 => by rw [wordTs_cons, List.length_append, Unr.word h4, UnrL.word h5]; omega
end
theorem Unr.inv {s : SymD} {n i : Nat} {t : TreeD} (h : Unr R s n i t) : (∃ c, s = (true, c) ∧ n = 1 ∧ i = 0 ∧ t = .node (-1) c []) ∨
    ∃ (a k : Nat) (r : RuleD) (ts : List TreeD) (j : Nat), s = (false, (a : Int)) ∧ R[k]? = some r ∧ r.1 = (a : Int) ∧ j < lN R r.2 n ∧ UnrL R r.2 n j ts ∧ i = preR R a n k + j ∧ t = .node (k : Int) 0 ts := by
 cases h with
 | leaf => exact Or.inl ⟨_, rfl, rfl, rfl, rfl⟩
 | node h1 h2 h3 h4 => exact Or.inr ⟨_, _, _, _, _, rfl, h1, h2, h3, h4, rfl, rfl⟩
theorem UnrL.inv {s : SymD} {l : List SymD} {n i : Nat} {ts : List TreeD} (h : UnrL R (s :: l) n i ts) :
    ∃ (k q j : Nat) (t : TreeD) (ts' : List TreeD), k ≤ n ∧ q < oN R s k ∧ j < lN R l (n - k) ∧ Unr R s k q t ∧ UnrL R l (n - k) j ts' ∧ i = sumTo (wOf R s l n) k + q * lN R l (n - k) + j ∧ ts = t :: ts' := by
 cases h with
 | cons h1 h2 h3 h4 h5 => exact ⟨_, _, _, _, _, h1, h2, h3, h4, h5, rfl, rfl⟩
theorem Unr.same : ∀ (m : Nat) {s : SymD} {n i j : Nat} {t : TreeD}, sizeT t ≤ m → Unr R s n i t → Unr R s n j t → i = j
 | 0, s, n, i, j, t, hm, _, _ => by rw [sizeT_eq] at hm; omega
 | m + 1, s, n, i, j, t, hm, h, h' => by
  have hl : ∀ {l : List SymD} {ts : List TreeD} {n i j : Nat}, sizeTs ts ≤ m → UnrL R l n i ts → UnrL R l n j ts → i = j := by
   intro l
   induction l with
   | nil =>
    intro ts n i j _ h1 h2
    cases h1
    cases h2
    rfl
   | cons s l ih =>
    intro ts n i j hs h1 h2
    obtain ⟨k, q, p, t, ts', _, _, _, e4, e5, rfl, rfl⟩ := h1.inv
    obtain ⟨k', q', p', t', ts'', _, _, _, f4, f5, rfl, e⟩ := h2.inv
    injection e with e1 e2
    subst e1
    subst e2
    rw [sizeTs_cons] at hs
    have hk : k = k' := by rw [← e4.word, ← f4.word]
    subst hk
    have h1 := Unr.same m (by omega) e4 f4
    have h2 := ih (by omega) e5 f5
    rw [h1, h2]
  rcases h.inv with ⟨c, rfl, rfl, rfl, rfl⟩ | ⟨a, k, r, ts, p, rfl, h1, h2, h3, h4, rfl, rfl⟩
  ·
   rcases h'.inv with ⟨_, _, _, rfl, _⟩ | ⟨_, _, _, _, _, e, _⟩
   ·
    rfl
   ·
    cases e
  ·
   rcases h'.inv with ⟨_, e, _⟩ | ⟨a', k', r', ts', p', e, g1, g2, g3, g4, rfl, e'⟩
   ·
    cases e
   ·
    injection e with _ e
    obtain rfl : a = a' := by omega
    injection e' with e1 _ e3
    obtain rfl : k = k' := by omega
    subst e3
    rw [h1] at g1
    injection g1 with g1
    subst g1
    rw [sizeT_eq] at hm
    rw [hl (by simp only [TreeD.kids] at hm; omega) h4 g4]
mutual
theorem TV.der {s : SymD} {t : TreeD} : TV R s t → Der R [s] (wordT t).length
 | .leaf => by rw [wordT_leaf]; exact .term .nil
 | .node h1 h2 => by rw [wordT_node]; exact Der.non_iff.2 ⟨_, List.mem_of_getElem? h1, TVL.der h2⟩
theorem TVL.der {l : List SymD} {ts : List TreeD} : TVL R l ts → Der R l (wordTs ts).length
 | .nil => by rw [wordTs_nil]; exact .nil
 | .cons h1 h2 => by
  rw [wordTs_cons, List.length_append]
  exact Der.append (TV.der h1) (TVL.der h2)
end
theorem TV.num (hR : RulesN N R) : ∀ (m : Nat) {a n : Nat} {t : TreeD}, sizeT t ≤ m → TV R (false, (a : Int)) t → (wordT t).length = n → a < N → ¬ Many R (a, n) → cN R a n < MC → ∃ i, i < cN R a n ∧ Unr R (false, (a : Int)) n i t
 | 0, a, n, t, hm, _, _, _, _, _ => by rw [sizeT_eq] at hm; omega
 | m + 1, a, n, t, hm, h, hn, ha, hmany, hc => by
  have hacc := acc_few hR (x := (a, n)) ha hmany
  have hpos1 : ∀ b j, Edge R (a, n) (b, j) → 1 ≤ cN R b j := fun b j he => cN_pos hR (x := (b, j)) (acc_few hR (x := (b, j)) (he.lt hR) (fun h => hmany (h.back he))) (by obtain ⟨_, _, _, _, _, _, _, _, _, _, _, h⟩ := he; exact h)
  have hl : ∀ {l : List SymD} {ts : List TreeD} {k : Nat}, sizeTs ts ≤ m → TVL R l ts → (wordTs ts).length = k → Suffix R (a, n) l k → lN R l k < MC → ∃ i, i < lN R l k ∧ UnrL R l k i ts := by
   intro l
   induction l with
   | nil =>
    intro ts k _ h1 h2 _ _
    rw [h1.inv_nil, wordTs_nil] at h2
    obtain rfl : k = 0 := by simpa using h2.symm
    rw [h1.inv_nil]
    exact ⟨0, by rw [lN_nil]; decide, .nil⟩
   | cons s l ih =>
    intro ts k hs h1 h2 hsx hlt
    obtain ⟨t, ts', rfl, e1, e2⟩ := h1.inv
    rw [wordTs_cons, List.length_append] at h2
    rw [sizeTs_cons] at hs
    have hd1 := e1.der
    have hd2 := e2.der
    obtain ⟨p, hp⟩ : ∃ p, p = (wordT t).length := ⟨_, rfl⟩
    rw [← hp] at h2 hd1
    have hpk : p ≤ k := by omega
    have hq : (wordTs ts').length = k - p := by omega
    rw [hq] at hd2
    have hok := hsx.ok hR
    have hnx := hsx.next hpk hd1
    have hlpos : 1 ≤ lN R l (k - p) := listC_pos hR hpos1 hnx hd2
    have hopos : 1 ≤ oN R s p := by
     obtain ⟨b, y⟩ := s
     cases b with
     | true =>
      rw [Der.term_iff] at hd1
      subst hd1
      simp [oN, ofC, hasT]
     | false =>
      have hy := hok (false, y) (by simp) rfl
      obtain ⟨b, rfl⟩ : ∃ b : Nat, y = (b : Int) := ⟨y.toNat, by have := hy.1; dsimp only at this; omega⟩
      rw [oN_non (lenD_iff.2 hd1)]
      exact hpos1 b p (hsx.edge hpk hd1 hd2)
    have hsum := lN_sum hR hok hlt
    have hw : sumTo (wOf R s l k) p + wOf R s l k p ≤ lN R (s :: l) k := by rw [hsum]; exact sumTo_at (by omega)
    have hw1 : oN R s p ≤ wOf R s l k p := Nat.le_mul_of_pos_right _ hlpos
    have hw2 : lN R l (k - p) ≤ wOf R s l k p := Nat.le_mul_of_pos_left _ hopos
    obtain ⟨j, hj, hu2⟩ := ih (by omega) e2 hq hnx (by omega)
    have hu1 : ∃ q, q < oN R s p ∧ Unr R s p q t := by
     obtain ⟨b, y⟩ := s
     cases b with
     | true =>
      rw [Der.term_iff] at hd1
      subst hd1
      rcases e1.inv with ⟨c, e, rfl⟩ | ⟨_, _, _, e, _⟩
      ·
       injection e with _ e
       subst e
       exact ⟨0, by omega, .leaf⟩
      ·
       injection e with e _
       cases e
     | false =>
      have hy := hok (false, y) (by simp) rfl
      obtain ⟨b, rfl⟩ : ∃ b : Nat, y = (b : Int) := ⟨y.toNat, by have := hy.1; dsimp only at this; omega⟩
      have he := hsx.edge hpk hd1 hd2
      rw [oN_non (lenD_iff.2 hd1)] at hw1 ⊢
      exact TV.num hR m (by omega) e1 hp.symm (he.lt hR) (fun h => hmany (h.back he)) (by omega)
    obtain ⟨q, hq1, hq2⟩ := hu1
    refine ⟨_, ?_, .cons hpk hq1 hj hq2 hu2⟩
    have h5 : (q + 1) * lN R l (k - p) ≤ wOf R s l k p := Nat.mul_le_mul_right _ hq1
    rw [Nat.add_mul, Nat.one_mul] at h5
    omega
  rcases h.inv with ⟨c, e, _⟩ | ⟨k, r, ts, e, rfl, h1, h2⟩
  ·
   cases e
  ·
   injection e with _ e
   rw [wordT_node] at hn
   rw [sizeT_eq] at hm
   simp only [TreeD.kids] at hm
   have hsum := cN_sum hR hacc hc
   have hp1 := preR_mono (R := R) (a := a) (n := n) (show k + 1 ≤ R.length from (List.getElem?_eq_some_iff.1 h1).1)
   rw [preR_succ h1, if_pos e.symm] at hp1
   obtain ⟨j, hj, hu⟩ := hl (by omega) h2 hn (Suffix.start (x := (a, n)) (List.mem_of_getElem? h1) e.symm) (by omega)
   exact ⟨_, by omega, .node h1 e.symm hj hu⟩
theorem TV.same : ∀ (m : Nat) {s : SymD} {t t' : TreeD} {x y : List Int}, sizeT t ≤ m → TV R s t → TV R s t' → rulesT t ++ x = rulesT t' ++ y → t = t' ∧ x = y
 | 0, s, t, t', x, y, hm, _, _, _ => by rw [sizeT_eq] at hm; omega
 | m + 1, s, t, t', x, y, hm, h, h', he => by
  have hl : ∀ {l : List SymD} {ts ts' : List TreeD} {x y : List Int}, sizeTs ts ≤ m → TVL R l ts → TVL R l ts' → rulesTs ts ++ x = rulesTs ts' ++ y → ts = ts' ∧ x = y := by
   intro l
   induction l with
   | nil =>
    intro ts ts' x y _ h1 h2 h3
    rw [h1.inv_nil, h2.inv_nil, rulesTs_nil] at h3
    rw [h1.inv_nil, h2.inv_nil]
    exact ⟨rfl, by simpa using h3⟩
   | cons s l ih =>
    intro ts ts' x y hs h1 h2 h3
    obtain ⟨t, u, rfl, a1, a2⟩ := h1.inv
    obtain ⟨t', u', rfl, b1, b2⟩ := h2.inv
    rw [sizeTs_cons] at hs
    rw [rulesTs_cons, rulesTs_cons, List.append_assoc, List.append_assoc] at h3
    obtain ⟨rfl, h4⟩ := TV.same m (by omega) a1 b1 h3
    obtain ⟨rfl, h5⟩ := ih (by omega) a2 b2 h4
    exact ⟨rfl, h5⟩
  rw [rulesT_eq, rulesT_eq, List.cons_append, List.cons_append] at he
  injection he with e1 e2
  rcases h.inv with ⟨c, rfl, rfl⟩ | ⟨k, r, ts, rfl, rfl, h1, h2⟩
  ·
   rcases h'.inv with ⟨c', e, rfl⟩ | ⟨_, _, _, e, _⟩
   ·
    injection e with _ e
    subst e
    refine ⟨rfl, ?_⟩
    simpa [TreeD.kids, rulesTs_nil] using e2
   ·
    injection e with e _
    cases e
  ·
   rcases h'.inv with ⟨c', e, _⟩ | ⟨k', r', ts', e, rfl, g1, g2⟩
   ·
    injection e with e _
    cases e
   ·
    have e1' : (k : Int) = (k' : Int) := e1
    obtain rfl : k = k' := by omega
    rw [h1] at g1
    injection g1 with g1
    subst g1
    rw [sizeT_eq] at hm
    simp only [TreeD.kids] at hm e2
    obtain ⟨rfl, h3⟩ := hl (by omega) h2 g2 e2
    exact ⟨rfl, h3⟩
end
end Go.Proofs.Ytbmcoamdfpegnaa
