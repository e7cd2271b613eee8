/- Plain laws of chapter 61: lists of symbols from the left. -/
import Derived.Test.YtfkapijfjihiiaaCensusPlain3
namespace Go.Proofs.Ytfkapijfjihiiaa

theorem canT_nil {S : Nat → Nat → Bool} {k : Nat} : canT S [] k = true ↔ k = 0 := by simp [canT]
theorem canT_snoc {S : Nat → Nat → Bool} {s : SymD} : ∀ {l : List SymD} {k : Nat}, canT S (l ++ [s]) k = true ↔ ∃ i, i ≤ k ∧ canT S l i = true ∧ hasT S s (k - i) = true
  | [], k => by
    rw [List.nil_append, canT_cons]
    constructor
    · rintro ⟨i, hi, h1, h2⟩
      rw [canT_nil] at h2
      exact ⟨0, by omega, by simp [canT_nil], by rw [show k - 0 = i by omega]; exact h1⟩
    · rintro ⟨i, hi, h1, h2⟩
      rw [canT_nil] at h1
      subst h1
      exact ⟨k, by omega, by simpa using h2, by simp [canT_nil]⟩
  | x :: l, k => by
    rw [List.cons_append, canT_cons]
    constructor
    · rintro ⟨i, hi, h1, h2⟩
      obtain ⟨j, hj, h3, h4⟩ := canT_snoc.1 h2
      exact ⟨i + j, by omega, canT_cons.2 ⟨i, by omega, h1, by rw [Nat.add_sub_cancel_left]; exact h3⟩, by rw [Nat.sub_add_eq]; exact h4⟩
    · rintro ⟨i, hi, h1, h2⟩
      obtain ⟨j, hj, h3, h4⟩ := canT_cons.1 h1
      exact ⟨j, by omega, h3, canT_snoc.2 ⟨i - j, by omega, h4, by rw [show k - j - (i - j) = k - i by omega]; exact h2⟩⟩
/-- the first symbols of a list -/
def preT (S : Nat → Nat → Bool) (l : List SymD) (i k : Nat) : Bool := canT S (l.take i) k
theorem preT_zero (S : Nat → Nat → Bool) (l : List SymD) (k : Nat) : preT S l 0 k = (k == 0) := by simp [preT, canT]
theorem preT_all (S : Nat → Nat → Bool) (l : List SymD) (k : Nat) : preT S l l.length k = canT S l k := by simp [preT]
theorem preT_succ {S : Nat → Nat → Bool} {l : List SymD} {i : Nat} {s : SymD} (h : l[i]? = some s) {k : Nat} : preT S l (i + 1) k = true ↔ ∃ j, j ≤ k ∧ preT S l i j = true ∧ hasT S s (k - j) = true := by
  obtain ⟨hi, rfl⟩ := List.getElem?_eq_some_iff.1 h
  unfold preT
  rw [List.take_succ_eq_append_getElem hi]
  exact canT_snoc
end Go.Proofs.Ytfkapijfjihiiaa
