/- Plain facts on groups of coins. -/
import Derived.Test.YtfmmpmphlognlaaWords
namespace Go.Proofs.Ytfmmpmphlognlaa

def bitVal (l : List Bool) : Nat := l.foldl (fun x c => 2 * x + c.toNat) 0
theorem bitVal_snoc (l : List Bool) (c : Bool) : bitVal (l ++ [c]) = 2 * bitVal l + c.toNat := by simp [bitVal]
theorem bitVal_lt (l : List Bool) : bitVal l < 2 ^ l.length := by
  suffices h : ∀ r : List Bool, bitVal r.reverse < 2 ^ r.length by simpa using h l.reverse
  intro r
  induction r with
  | nil => simp [bitVal]
  | cons c r ih =>
    rw [List.reverse_cons, bitVal_snoc, List.length_cons, Nat.pow_succ]
    cases c <;> simp <;> omega
def numGo (n k : Nat) : Nat → List Bool → Nat → Option (Nat × Nat)
  | 0, _, _ => none
  | f + 1, l, u => if l.length < k then none else if bitVal (l.take k) < n then some (bitVal (l.take k), u + k) else numGo n k f (l.drop k) (u + k)
def number (n k : Nat) (l : List Bool) : Option (Nat × Nat) := numGo n k (l.length + 1) l 0
def numVal : Option (Nat × Nat) → Value
  | some (x, u) => .tuple #[.int .i64 x, .int .i64 u, .int .i64 0]
  | none => .tuple #[.int .i64 0, .int .i64 0, .int .i64 5]
/-- one coin more -/
theorem bit_step {l : List Bool} {u m k : Nat} (hm : m < k) (hl : u + k ≤ l.length) : ∃ b, l[u + m]? = some b ∧ bitVal ((l.drop u).take (m + 1)) = 2 * bitVal ((l.drop u).take m) + b.toNat := by
  have h : u + m < l.length := by omega
  refine ⟨l[u + m], List.getElem?_eq_getElem h, ?_⟩
  rw [List.take_succ_eq_append_getElem (by simp; omega), bitVal_snoc]
  simp
theorem bit_le {l : List Bool} {u m k : Nat} (hm : m ≤ k) (hk : k ≤ 30) : bitVal ((l.drop u).take m) ≤ 1073741824 := by
  have h1 := bitVal_lt ((l.drop u).take m)
  have h2 : ((l.drop u).take m).length ≤ 30 := Nat.le_trans (List.length_take_le _ _) (by omega)
  have h3 : (2 : Nat) ^ ((l.drop u).take m).length ≤ 2 ^ 30 := Nat.pow_le_pow_right (by omega) h2
  omega
/-- what the outer loop knows: it looks behind the first u coins, and the rest decides -/
def NumAt (n k : Nat) (l : List Bool) (u : Nat) : Prop := ∃ f, l.length - u < f ∧ numGo n k f (l.drop u) u = number n k l
theorem NumAt.start (n k : Nat) (l : List Bool) : NumAt n k l 0 := ⟨l.length + 1, by omega, rfl⟩
theorem NumAt.out {n k : Nat} {l : List Bool} {u : Nat} (h : NumAt n k l u) (hu : l.length < u + k) (hul : u ≤ l.length) : number n k l = none := by
  obtain ⟨f, hf, e⟩ := h
  rw [← e]
  cases f with
  | zero => omega
  | succ f => rw [numGo, if_pos (by simp; omega)]
theorem NumAt.hit {n k : Nat} {l : List Bool} {u : Nat} (h : NumAt n k l u) (hu : u + k ≤ l.length) (hx : bitVal ((l.drop u).take k) < n) : number n k l = some (bitVal ((l.drop u).take k), u + k) := by
  obtain ⟨f, hf, e⟩ := h
  rw [← e]
  cases f with
  | zero => omega
  | succ f => rw [numGo, if_neg (by simp; omega), if_pos hx]
theorem NumAt.next {n k : Nat} {l : List Bool} {u : Nat} (h : NumAt n k l u) (hu : u + k ≤ l.length) (hk : 1 ≤ k) (hx : n ≤ bitVal ((l.drop u).take k)) : NumAt n k l (u + k) := by
  obtain ⟨f, hf, e⟩ := h
  cases f with
  | zero => omega
  | succ f =>
    refine ⟨f, by omega, ?_⟩
    rw [← e, numGo, if_neg (by simp; omega), if_neg (by omega), List.drop_drop]


/-- what a hit says: so many coins are used, those behind don't matter, one fewer is not enough -/
theorem numGo_hit {n k : Nat} (hn : 1 ≤ n) : ∀ (f : Nat) (l : List Bool) (u0 x u : Nat), numGo n k f l u0 = some (x, u) →
    ∃ j, k ≤ j ∧ j ≤ l.length ∧ u = u0 + j ∧ x < n ∧ (∀ (l' : List Bool) (f' : Nat), l'.length < f' → j ≤ l'.length → l'.take j = l.take j → numGo n k f' l' u0 = some (x, u)) ∧
      (0 < j → ∀ f', numGo n k f' (l.take (j - 1)) u0 = none) := by
  intro f
  induction f with
  | zero => intro l u0 x u h; simp [numGo] at h
  | succ f ih =>
    intro l u0 x u h
    rw [numGo] at h
    by_cases h1 : l.length < k
    · rw [if_pos h1] at h; cases h
    rw [if_neg h1] at h
    by_cases h2 : bitVal (l.take k) < n
    · rw [if_pos h2] at h
      injection h with h
      injection h with h3 h4
      subst h3
      subst h4
      refine ⟨k, Nat.le_refl _, by omega, rfl, h2, ?_, ?_⟩
      · intro l' f' hf hj ht
        cases f' with
        | zero => omega
        | succ f' => rw [numGo, if_neg (by omega), ht, if_pos h2]
      · intro hk f'
        cases f' with
        | zero => rfl
        | succ f' => rw [numGo, if_pos (by rw [List.length_take]; omega)]
    · rw [if_neg h2] at h
      have hk : 1 ≤ k := by
        rcases Nat.eq_zero_or_pos k with h0 | h0
        · subst h0; simp [bitVal] at h2; omega
        · exact h0
      obtain ⟨j, hkj, hj, rfl, hx, hA, hB⟩ := ih _ _ _ _ h
      rw [List.length_drop] at hj
      refine ⟨k + j, by omega, by omega, by omega, hx, ?_, ?_⟩
      · intro l' f' hf hjl ht
        have e1 : l'.take k = l.take k := by
          have := congrArg (List.take k) ht
          simpa [List.take_take, Nat.min_eq_left (Nat.le_add_right k j)] using this
        have e2 : (l'.drop k).take j = (l.drop k).take j := by
          have := congrArg (List.drop k) ht
          simpa [List.drop_take, Nat.add_sub_cancel_left] using this
        cases f' with
        | zero => omega
        | succ f' =>
          rw [numGo, if_neg (by omega), e1, if_neg h2]
          exact hA _ f' (by rw [List.length_drop]; omega) (by rw [List.length_drop]; omega) e2
      · intro _ f'
        cases f' with
        | zero => rfl
        | succ f' =>
          have e1 : (l.take (k + j - 1)).take k = l.take k := by rw [List.take_take, Nat.min_eq_left (by omega)]
          have e2 : (l.take (k + j - 1)).drop k = (l.drop k).take (j - 1) := by rw [List.drop_take, show k + j - 1 - k = j - 1 by omega]
          rw [numGo, if_neg (by rw [List.length_take]; omega), e1, if_neg h2, e2]
          exact hB (by omega) f'
theorem number_hit {n k : Nat} (hn : 1 ≤ n) {l : List Bool} {x u : Nat} (h : number n k l = some (x, u)) : u ≤ l.length ∧ x < n ∧ (∀ m : List Bool, number n k (l.take u ++ m) = some (x, u)) ∧ (0 < u → number n k (l.take (u - 1)) = none) := by
  obtain ⟨j, hkj, hj, rfl, hx, hA, hB⟩ := numGo_hit hn _ _ _ _ _ h
  rw [Nat.zero_add] at *
  refine ⟨hj, hx, fun m => hA _ _ (by omega) (by rw [List.length_append, List.length_take]; omega) ?_, fun h0 => hB h0 _⟩
  rw [List.take_append_of_le_length (by rw [List.length_take]; omega), List.take_take, Nat.min_self]
theorem lt_one_pow : ∀ j < 1, 2 ^ j < 2 := by
  intro j hj
  have : j = 0 := by omega
  subst this
  decide
theorem bits_exist (n : Nat) (h2 : n ≤ 1000000000) : ∃ k, n ≤ 2 ^ k ∧ (∀ j < k, 2 ^ j < n) ∧ k ≤ 30 := by
  have h : ∀ m, (∀ j < m, 2 ^ j < n) ∨ ∃ k, n ≤ 2 ^ k ∧ (∀ j < k, 2 ^ j < n) ∧ k ≤ m := by
    intro m
    induction m with
    | zero => exact .inl (by simp)
    | succ m ih =>
      rcases ih with ih | ⟨k, h1, h2, h3⟩
      · by_cases hm : 2 ^ m < n
        · left
          intro j hj
          rcases Nat.lt_succ_iff_lt_or_eq.1 hj with h | rfl
          · exact ih j h
          · exact hm
        · exact .inr ⟨m, by omega, ih, by omega⟩
      · exact .inr ⟨k, h1, h2, by omega⟩
  rcases h 31 with h | ⟨k, h1, h2, h3⟩
  · have := h 30 (by omega)
    omega
  · refine ⟨k, h1, h2, ?_⟩
    rcases Nat.lt_or_ge k 31 with h | h
    · omega
    · have := h2 30 (by omega)
      omega
end Go.Proofs.Ytfmmpmphlognlaa
