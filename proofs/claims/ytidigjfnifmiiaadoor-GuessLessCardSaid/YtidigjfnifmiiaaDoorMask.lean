/- Plain: words of 32 bits as sets of places. -/
import Derived.Test.YtidigjfnifmiiaaDoorCensusPlain
namespace Go.Proofs.YtidigjfnifmiiaaDoor

theorem low_split : ∀ (x : Nat), x ≠ 0 → ∃ p m, x = 2 ^ p * (2 * m + 1)
  | x, h => by
    by_cases ho : x % 2 = 1
    · exact ⟨0, x / 2, by omega⟩
    · have hlt : x / 2 < x := by omega
      obtain ⟨p, m, e⟩ := low_split (x / 2) (by omega)
      refine ⟨p + 1, m, ?_⟩
      rw [Nat.pow_succ, Nat.mul_comm (2 ^ p) 2, Nat.mul_assoc, ← e]
      omega
termination_by x => x
theorem odd_bit (m i : Nat) : (2 * m + 1).testBit i = if i = 0 then true else m.testBit (i - 1) := by
  cases i with
  | zero => simp [Nat.testBit_zero]
  | succ i =>
    rw [Nat.testBit_succ, if_neg (by omega), Nat.add_sub_cancel]
    congr 1
    omega
theorem even_bit (m i : Nat) : (2 * m).testBit i = if i = 0 then false else m.testBit (i - 1) := by
  cases i with
  | zero => simp [Nat.testBit_zero]
  | succ i =>
    rw [Nat.testBit_succ, if_neg (by omega), Nat.add_sub_cancel]
    congr 1
    omega
theorem low_bit (p m i : Nat) : (2 ^ p * (2 * m + 1)).testBit i = if i < p then false else if i = p then true else m.testBit (i - p - 1) := by
  rw [Nat.testBit_two_pow_mul, odd_bit]
  by_cases h1 : i < p
  · rw [if_pos h1, decide_eq_false (by omega)]; rfl
  · rw [if_neg h1, decide_eq_true (by omega)]
    by_cases h2 : i = p
    · rw [if_pos (by omega), if_pos h2]; rfl
    · rw [if_neg (by omega), if_neg h2]; rfl
theorem pred_bit (p m i : Nat) : (2 ^ p * (2 * m + 1) - 1).testBit i = if i < p then true else if i = p then false else m.testBit (i - p - 1) := by
  have hp : 0 < 2 ^ p := Nat.two_pow_pos p
  have e : 2 ^ p * (2 * m + 1) - 1 = 2 ^ p * (2 * m) + (2 ^ p - 1) := by
    rw [Nat.mul_add, Nat.mul_one]
    omega
  rw [e, Nat.testBit_two_pow_mul_add _ (by omega)]
  by_cases h1 : i < p
  · rw [if_pos h1, if_pos h1, Nat.testBit_two_pow_sub_one, decide_eq_true h1]
  · rw [if_neg h1, if_neg h1, even_bit]
    by_cases h2 : i = p
    · rw [if_pos (by omega), if_pos h2]
    · rw [if_neg (by omega), if_neg h2]
/-- the lowest place of a set -/
theorem low_of {x : Nat} (h : x ≠ 0) : ∃ p, x.testBit p = true ∧ (∀ i, (x &&& (x - 1)).testBit i = (x.testBit i && !decide (i = p))) ∧ x &&& (x - 1) < x ∧ ∀ n, x < 2 ^ n → p < n ∧ x &&& (2 ^ n - x) = 2 ^ p := by
  obtain ⟨p, m, rfl⟩ := low_split x h
  have hp : 0 < 2 ^ p := Nat.two_pow_pos p
  refine ⟨p, by rw [low_bit, if_neg (by omega), if_pos rfl], fun i => ?_, Nat.lt_of_le_of_lt Nat.and_le_right (by omega), fun n hn => ?_⟩
  · rw [Nat.testBit_and, low_bit, pred_bit]
    by_cases h1 : i < p
    · rw [if_pos h1]; rfl
    · rw [if_neg h1, if_neg h1]
      by_cases h2 : i = p
      · rw [if_pos h2, if_pos h2, decide_eq_true h2]; rfl
      · rw [if_neg h2, if_neg h2, decide_eq_false h2]; simp
  · have hpn : p < n := by
      rcases Nat.lt_or_ge p n with hlt | hge
      · exact hlt
      · have h1 := Nat.pow_le_pow_right (by omega : 0 < 2) hge
        have h2 : 2 ^ p ≤ 2 ^ p * (2 * m + 1) := Nat.le_mul_of_pos_right _ (by omega)
        omega
    refine ⟨hpn, Nat.eq_of_testBit_eq fun i => ?_⟩
    have e : 2 ^ n - 2 ^ p * (2 * m + 1) = 2 ^ n - ((2 ^ p * (2 * m + 1) - 1) + 1) := by omega
    rw [Nat.testBit_and, e, Nat.testBit_two_pow_sub_succ (by omega), low_bit, pred_bit, Nat.testBit_two_pow]
    by_cases h1 : i < p
    · rw [if_pos h1, decide_eq_false (by omega : ¬ p = i)]; simp
    · rw [if_neg h1, if_neg h1]
      by_cases h2 : i = p
      · subst h2
        rw [if_pos rfl, if_pos rfl]
        simp [hpn]
      · rw [if_neg h2, if_neg h2, decide_eq_false (by omega : ¬ p = i)]
        cases m.testBit (i - p - 1) <;> simp
theorem mask_lt {x n : Nat} (h : ∀ i, x.testBit i = true → i < n) : x < 2 ^ n := Nat.lt_pow_two_of_testBit x fun i hi => by
  cases hb : x.testBit i with
  | false => rfl
  | true => have := h i hb; omega
theorem bit_lt {x n i : Nat} (h : x < 2 ^ n) (hb : x.testBit i = true) : i < n := by
  rcases Nat.lt_or_ge i n with hlt | hge
  · exact hlt
  · rw [Nat.testBit_lt_two_pow (Nat.lt_of_lt_of_le h (Nat.pow_le_pow_right (by omega) hge))] at hb; cases hb
/-- a set that brings something new makes the union greater -/
theorem or_grows {x y : Nat} (h : ∃ i, x.testBit i = true ∧ y.testBit i = false) : y < y ||| x := by
  obtain ⟨i, h1, h2⟩ := h
  rcases Nat.lt_or_ge y (y ||| x) with hlt | hge
  · exact hlt
  · exfalso
    have e : y ||| x = y := Nat.le_antisymm hge Nat.left_le_or
    have : (y ||| x).testBit i = true := by rw [Nat.testBit_or, h1, Bool.or_true]
    rw [e, h2] at this
    cases this
end Go.Proofs.YtidigjfnifmiiaaDoor
