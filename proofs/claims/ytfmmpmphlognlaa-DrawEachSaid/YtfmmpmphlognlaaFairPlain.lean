/- Of all lists of so many coins each number is told by equally many: the plain law. -/
import Derived.Test.YtfmmpmphlognlaaNumPlain
import Derived.Test.YtfmmpmphlognlaaCoins
import Derived.Test.YtfmmpmphlognlaaMinMax
namespace Go.Proofs.Ytfmmpmphlognlaa

def hitB (n k i : Nat) (l : List Bool) : Bool := match number n k l with
  | some (x, _) => x == i
  | none => false
def told (n k : Nat) (L : List (List Bool)) : List Int := (List.range n).map fun i => ((L.countP (hitB n k i) : Nat) : Int)
theorem told_len (n k : Nat) (L : List (List Bool)) : (told n k L).length = n := by simp [told]
theorem told_nil (n k : Nat) : told n k [] = List.replicate n 0 := by
  simp [told, List.map_const']
theorem told_none {n k : Nat} {L : List (List Bool)} {l : List Bool} (h : number n k l = none) : told n k (L ++ [l]) = told n k L := by
  unfold told
  refine List.map_congr_left fun i _ => ?_
  rw [List.countP_append]
  simp [hitB, h]
theorem told_at {n k x : Nat} (L : List (List Bool)) (hx : x < n) : (told n k L)[x]? = some ((L.countP (hitB n k x) : Nat) : Int) := by
  simp [told, List.getElem?_range hx]
theorem told_some {n k x u : Nat} {L : List (List Bool)} {l : List Bool} (h : number n k l = some (x, u)) :
    told n k (L ++ [l]) = (told n k L).set x (((L.countP (hitB n k x) : Nat) : Int) + 1) := by
  apply List.ext_getElem?
  intro i
  rw [List.getElem?_set]
  by_cases hi : i < n
  · rw [told_at _ hi, List.countP_append]
    by_cases he : x = i
    · subst he
      simp [hitB, h, told_len, hi]
    · rw [if_neg he, told_at _ hi]
      simp [hitB, h, he]
  · rw [List.getElem?_eq_none (by rw [told_len]; omega), List.getElem?_eq_none (by rw [told_len]; omega)]
    split
    · rw [if_neg (by rw [told_len]; omega)]
    · rfl
def bitsOf (n : Nat) : Nat := if n ≤ 1 then 0 else if n ≤ 2 then 1 else if n ≤ 4 then 2 else if n ≤ 8 then 3 else 4
theorem bitsOf_ok (n : Nat) (h : 1 ≤ n) (h9 : n ≤ 16) : n ≤ 2 ^ bitsOf n ∧ (∀ j < bitsOf n, 2 ^ j < n) ∧ bitsOf n ≤ 30 := by
  have : ∀ n < 17, 1 ≤ n → n ≤ 2 ^ bitsOf n ∧ (∀ j < bitsOf n, 2 ^ j < n) ∧ bitsOf n ≤ 30 := by decide
  exact this n (by omega) h
def fairAll : Bool := (List.range 9).all fun n => (List.range 9).all fun k => lmin (told (n + 1) (bitsOf (n + 1)) (allCoins k)) == lmax (told (n + 1) (bitsOf (n + 1)) (allCoins k))
theorem fairAll_ok : fairAll = true := by decide +kernel
theorem fair {n k : Nat} (h1 : 1 ≤ n) (h9 : n ≤ 9) (hk : k ≤ 8) : lmin (told n (bitsOf n) (allCoins k)) = lmax (told n (bitsOf n) (allCoins k)) := by
  have h := fairAll_ok
  unfold fairAll at h
  rw [List.all_eq_true] at h
  have h2 := h (n - 1) (List.mem_range.2 (by omega))
  rw [List.all_eq_true] at h2
  have h3 := h2 k (List.mem_range.2 (by omega))
  rw [show n - 1 + 1 = n by omega] at h3
  exact of_decide_eq_true (by simpa using h3)
end Go.Proofs.Ytfmmpmphlognlaa
