/- CensusPlain3 TreeD RankPlain TreePlain -/
import Derived.Test.YtocbkccchnbmaaaGreatAw04
import Derived.Test.YtocbkccchnbmaaaGreatAw05
namespace Go.Proofs.YtocbkccchnbmaaaGreat
abbrev MC : Nat := 1000000000
def ofC (S : Nat → Nat → Bool) (c : Nat → Nat → Nat) (s : SymD) (i : Nat) : Nat := if hasT S s i then (if s.1 then 1 else c s.2.toNat i) else 0
def listC (S : Nat → Nat → Bool) (c : Nat → Nat → Nat) : List SymD → Nat → Nat
 | [], k => if k = 0 then 1 else 0
 | s :: l, k => (List.range (k + 1)).foldl (fun sum i => if hasT S s i && canT S l (k - i) then min (sum + ofC S c s i * listC S c l (k - i)) MC else sum) 0
def ruleC (S : Nat → Nat → Bool) (c : Nat → Nat → Nat) (R : List RuleD) (a : Nat) (k : Nat) : Nat := R.foldl (fun sum r => if r.1 = (a : Int) then min (sum + listC S c r.2 k) MC else sum) 0
section
variable {R : List RuleD} {N : Nat}
open Classical in
noncomputable def cAcc (R : List RuleD) (x : Nat × Nat) (h : Acc (fun y x => Edge R x y) x) : Nat :=
 Acc.rec (motive := fun _ _ => Nat) (fun x _ ih => ruleC (lenD R) (fun b j => if h : Edge R x (b, j) then ih (b, j) h else 0) R x.1 x.2) h
open Classical in
noncomputable def cN (R : List RuleD) (a k : Nat) : Nat := if h : Acc (fun y x => Edge R x y) (a, k) then cAcc R (a, k) h else 0
end
end Go.Proofs.YtocbkccchnbmaaaGreat
namespace Go.Proofs.YtocbkccchnbmaaaGreat
open Go.RowKit
inductive TreeD where
 | node (rule term : Int) (kids : List TreeD) : TreeD
def TreeD.rule : TreeD → Int
 | .node r _ _ => r
def TreeD.term : TreeD → Int
 | .node _ t _ => t
def TreeD.kids : TreeD → List TreeD
 | .node _ _ k => k
section
variable {w w' : World} {S S' : Nat → Prop}
end
section
variable {w : World} {S : Nat → Prop}
end
end Go.Proofs.YtocbkccchnbmaaaGreat
namespace Go.Proofs.YtocbkccchnbmaaaGreat
section
variable {R : List RuleD} {N : Nat}
noncomputable def oN (R : List RuleD) (s : SymD) (n : Nat) : Nat := ofC (lenD R) (cN R) s n
end
end Go.Proofs.YtocbkccchnbmaaaGreat
namespace Go.Proofs.YtocbkccchnbmaaaGreat
mutual
def nodesT : TreeD → List TreeD
 | .node r x ks => .node r x ks :: nodesTs ks
def nodesTs : List TreeD → List TreeD
 | [] => []
 | t :: ts => nodesT t ++ nodesTs ts
end
theorem nodesT_eq (t : TreeD) : nodesT t = t :: nodesTs t.kids := by
 cases t
 rw [nodesT]
 rfl
theorem nodesTs_nil : nodesTs [] = [] := by rw [nodesTs]
theorem nodesTs_cons (t : TreeD) (ts : List TreeD) : nodesTs (t :: ts) = nodesT t ++ nodesTs ts := by rw [nodesTs]
theorem nodesTs_append : ∀ (l m : List TreeD), nodesTs (l ++ m) = nodesTs l ++ nodesTs m
 | [], m => by rw [nodesTs_nil]; rfl
 | t :: l, m => by rw [List.cons_append, nodesTs_cons, nodesTs_cons, nodesTs_append l m, List.append_assoc]
def sizeT (t : TreeD) : Nat := (nodesT t).length
def sizeTs (l : List TreeD) : Nat := (nodesTs l).length
theorem sizeT_eq (t : TreeD) : sizeT t = 1 + sizeTs t.kids := by
 unfold sizeT sizeTs
 rw [nodesT_eq, List.length_cons]
 omega
theorem sizeTs_cons (t : TreeD) (l : List TreeD) : sizeTs (t :: l) = sizeT t + sizeTs l := by unfold sizeTs sizeT; rw [nodesTs_cons, List.length_append]
theorem sizeT_mem : ∀ {l : List TreeD} {x : TreeD}, x ∈ l → sizeT x ≤ sizeTs l
 | y :: l, x, h => by
  rw [sizeTs_cons]
  rcases List.mem_cons.1 h with rfl | h
  ·
   omega
  ·
   have := sizeT_mem h; omega
def wordOf (l : List TreeD) : List Int := (l.filter fun x => decide (x.rule = -1)).map TreeD.term
theorem wordOf_append (l m : List TreeD) : wordOf (l ++ m) = wordOf l ++ wordOf m := by unfold wordOf; rw [List.filter_append, List.map_append]
def wordT (t : TreeD) : List Int := wordOf (nodesT t)
def wordTs (l : List TreeD) : List Int := wordOf (nodesTs l)
theorem wordTs_nil : wordTs [] = [] := by unfold wordTs; rw [nodesTs_nil]; rfl
theorem wordTs_cons (t : TreeD) (l : List TreeD) : wordTs (t :: l) = wordT t ++ wordTs l := by unfold wordTs wordT; rw [nodesTs_cons, wordOf_append]
theorem wordT_leaf (c : Int) : wordT (.node (-1) c []) = [c] := by unfold wordT; rw [nodesT, nodesTs]; rfl
theorem wordT_node (k : Nat) (x : Int) (ts : List TreeD) : wordT (.node (k : Int) x ts) = wordTs ts := by
 unfold wordT wordTs
 rw [nodesT]
 unfold wordOf
 rw [List.filter_cons_of_neg]
 intro h
 have h2 : (k : Int) = -1 := of_decide_eq_true h
 omega
mutual
inductive TV (R : List RuleD) : SymD → TreeD → Prop
 | leaf {c : Int} : TV R (true, c) (.node (-1) c [])
 | node {k : Nat} {r : RuleD} {ts : List TreeD} : R[k]? = some r → TVL R r.2 ts → TV R (false, r.1) (.node (k : Int) 0 ts)
inductive TVL (R : List RuleD) : List SymD → List TreeD → Prop
 | nil : TVL R [] []
 | cons {s : SymD} {l : List SymD} {t : TreeD} {ts : List TreeD} : TV R s t → TVL R l ts → TVL R (s :: l) (t :: ts)
end
section
variable {R : List RuleD} {N : Nat}
theorem TV.inv {s : SymD} {t : TreeD} (h : TV R s t) : (∃ c, s = (true, c) ∧ t = .node (-1) c []) ∨ ∃ (k : Nat) (r : RuleD) (ts : List TreeD), s = (false, r.1) ∧ t = .node (k : Int) 0 ts ∧ R[k]? = some r ∧ TVL R r.2 ts := by
 cases h with
 | leaf => exact Or.inl ⟨_, rfl, rfl⟩
 | node h1 h2 => exact Or.inr ⟨_, _, _, rfl, rfl, h1, h2⟩
theorem TVL.inv {s : SymD} {l : List SymD} {ts : List TreeD} (h : TVL R (s :: l) ts) : ∃ t ts', ts = t :: ts' ∧ TV R s t ∧ TVL R l ts' := by
 cases h with
 | cons h1 h2 => exact ⟨_, _, rfl, h1, h2⟩
theorem TVL.inv_nil {ts : List TreeD} (h : TVL R [] ts) : ts = [] := by
 cases h
 rfl
theorem TVL.len : ∀ {l : List SymD} {ts : List TreeD}, TVL R l ts → ts.length = l.length
 | [], ts, h => by rw [h.inv_nil]; rfl
 | s :: l, ts, h => by
  obtain ⟨t, ts', rfl, _, h2⟩ := h.inv
  rw [List.length_cons, List.length_cons, TVL.len h2]
theorem TVL.get : ∀ {l : List SymD} {ts : List TreeD} {k : Nat} {t : TreeD}, TVL R l ts → ts[k]? = some t → ∃ s, l[k]? = some s ∧ TV R s t
 | [], ts, k, t, h, hk => by rw [h.inv_nil] at hk; simp at hk
 | s :: l, ts, k, t, h, hk => by
  obtain ⟨t', ts', rfl, h1, h2⟩ := h.inv
  cases k with
  | zero => exact ⟨s, rfl, by simp only [List.getElem?_cons_zero, Option.some.injEq] at hk; rw [← hk]; exact h1⟩
  | succ k => exact TVL.get (k := k) h2 (by simpa using hk)
end
end Go.Proofs.YtocbkccchnbmaaaGreat
