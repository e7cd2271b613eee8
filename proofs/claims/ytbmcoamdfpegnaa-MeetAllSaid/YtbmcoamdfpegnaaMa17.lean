/- CensusPlain2 CensusPlain3 GBase -/
import Derived.Test.YtbmcoamdfpegnaaMa04
import Derived.Test.YtbmcoamdfpegnaaMa06
import Derived.Test.YtbmcoamdfpegnaaMa12
import Derived.Test.YtbmcoamdfpegnaaMa16
namespace Go.Proofs.Ytbmcoamdfpegnaa
def Edge (R : List RuleD) (x y : Nat × Nat) : Prop :=
 ∃ r ∈ R, r.1 = (x.1 : Int) ∧ ∃ a b, r.2 = a ++ (false, (y.1 : Int)) :: b ∧ ∃ p q, p + y.2 + q = x.2 ∧ Der R a p ∧ Der R b q ∧ Der R [(false, (y.1 : Int))] y.2
def war (e : Nat → Nat → Bool) : Nat → Nat → Nat → Bool
 | 0 => e
 | k + 1 => fun i j => war e k i j || (war e k i k && war e k k j)
theorem war_trans {e : Nat → Nat → Bool} : ∀ {k m i j : Nat}, m < k → war e k i m = true → war e k m j = true → war e k i j = true
 | 0, _, _, _, h, _, _ => by omega
 | k + 1, m, i, j, hm, h1, h2 => by
  simp only [war, Bool.or_eq_true, Bool.and_eq_true] at h1 h2 ⊢
  rcases Nat.lt_succ_iff_lt_or_eq.1 hm with hm | rfl
  ·
   rcases h1 with h1 | ⟨h1, h1'⟩ <;> rcases h2 with h2 | ⟨h2, h2'⟩
   ·
    exact .inl (war_trans hm h1 h2)
   ·
    exact .inr ⟨war_trans hm h1 h2, h2'⟩
   ·
    exact .inr ⟨h1, war_trans hm h1' h2⟩
   ·
    exact .inr ⟨h1, h2'⟩
  ·
   have h1' : war e m i m = true := by rcases h1 with h1 | ⟨h1, _⟩ <;> exact h1
   have h2' : war e m m j = true := by rcases h2 with h2 | ⟨_, h2⟩ <;> exact h2
   exact .inr ⟨h1', h2'⟩
theorem pigeon : ∀ {n : Nat} {l : List Nat}, l.Nodup → (∀ x ∈ l, x < n) → l.length ≤ n
 | 0, [], _, _ => Nat.le_refl _
 | 0, x :: _, _, h => absurd (h x (by simp)) (by omega)
 | n + 1, l, hd, h => by
  have h1 : (l.erase n).length ≤ n := pigeon (hd.erase n) fun x hx => by
   have h2 := h x (List.mem_of_mem_erase hx)
   have h3 : x ≠ n := fun e => by subst e; exact (List.Nodup.not_mem_erase hd) hx
   omega
  have := List.length_erase (a := n) (l := l)
  split at this <;> omega
end Go.Proofs.Ytbmcoamdfpegnaa
namespace Go.Proofs.Ytbmcoamdfpegnaa
abbrev MC : Nat := 1000000000
def ofC (S : Nat → Nat → Bool) (c : Nat → Nat → Nat) (s : SymD) (i : Nat) : Nat := if hasT S s i then (if s.1 then 1 else c s.2.toNat i) else 0
def listC (S : Nat → Nat → Bool) (c : Nat → Nat → Nat) : List SymD → Nat → Nat
 | [], k => if k = 0 then 1 else 0
 | s :: l, k => (List.range (k + 1)).foldl (fun sum i => if hasT S s i && canT S l (k - i) then min (sum + ofC S c s i * listC S c l (k - i)) MC else sum) 0
def ruleC (S : Nat → Nat → Bool) (c : Nat → Nat → Nat) (R : List RuleD) (a : Nat) (k : Nat) : Nat := R.foldl (fun sum r => if r.1 = (a : Int) then min (sum + listC S c r.2 k) MC else sum) 0
section
variable {R : List RuleD} {N : Nat}
open Classical in
noncomputable def cAcc (R : List RuleD) (x : Nat × Nat) (h : Acc (fun y x => Edge R x y) x) : Nat :=
 Acc.rec (motive := fun _ _ => Nat) (fun x _ ih => ruleC (lenD R) (fun b j => if h : Edge R x (b, j) then ih (b, j) h else 0) R x.1 x.2) h
open Classical in
noncomputable def cN (R : List RuleD) (a k : Nat) : Nat := if h : Acc (fun y x => Edge R x y) (a, k) then cAcc R (a, k) h else 0
end
end Go.Proofs.Ytbmcoamdfpegnaa
namespace Go.Proofs.Ytbmcoamdfpegnaa
def nonsOf (g : GramD) : Nat := g.2.1.toNat
theorem rulesN_of {g : GramD} (hv : GValid g) : RulesN (nonsOf g) g.2.2.2 := fun r hr => by
 obtain ⟨⟨h1, h2⟩, h3, h4⟩ := hv.rules r hr
 refine ⟨⟨h1, by unfold nonsOf; omega⟩, fun s hs hf => ?_⟩
 obtain ⟨k1, k2⟩ := h4 s hs
 rw [hf] at k2
 simp only [Bool.false_eq_true, if_false] at k2
 exact ⟨k1, by unfold nonsOf; omega⟩
end Go.Proofs.Ytbmcoamdfpegnaa
