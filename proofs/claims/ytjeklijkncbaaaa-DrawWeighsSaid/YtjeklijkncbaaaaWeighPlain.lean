/- Of all lists of coins each index is told by as many as its weight says: the plain law. -/
import Derived.Test.YtjeklijkncbaaaaFairPlain
import Derived.Test.YtjeklijkncbaaaaPick
namespace Go.Proofs.Ytjeklijkncbaaaa

theorem sum_pick (p : Nat → Bool) (x0 : Nat) : ∀ N, ((List.range N).map fun x => if p x then (if x0 = x then 1 else 0) else 0).sum = if x0 < N ∧ p x0 = true then 1 else 0 := by
  intro N
  induction N with
  | zero => simp
  | succ N ih =>
    rw [List.range_succ, List.map_append, List.sum_append, ih]
    simp only [List.map_cons, List.map_nil, List.sum_cons, List.sum_nil]
    by_cases h1 : x0 = N
    · subst h1
      by_cases hp : p x0 = true <;> simp [hp]
    · by_cases h2 : x0 < N
      · have : x0 < N + 1 := by omega
        by_cases hp : p x0 = true <;> simp [hp, h1, h2, this]
      · have : ¬ x0 < N + 1 := by omega
        simp [h1, h2, this]
theorem sum_add (f g : Nat → Nat) (l : List Nat) : (l.map fun x => f x + g x).sum = (l.map f).sum + (l.map g).sum := by
  induction l with
  | nil => rfl
  | cons a l ih => simp only [List.map_cons, List.sum_cons, ih]; omega
theorem sum_zero (l : List Nat) : (l.map fun _ => 0).sum = 0 := by
  induction l with
  | nil => rfl
  | cons a l ih => simpa using ih
def hitP (n k : Nat) (p : Nat → Bool) (l : List Bool) : Bool := match number n k l with
  | some (x, _) => p x
  | none => false
theorem count_split (n k : Nat) (hn : 1 ≤ n) (p : Nat → Bool) (L : List (List Bool)) : L.countP (hitP n k p) = ((List.range n).map fun x => if p x then L.countP (hitB n k x) else 0).sum := by
  induction L with
  | nil => simp [sum_zero]
  | cons l L ih =>
    rw [List.countP_cons, ih]
    have e : (fun x => if p x then (l :: L).countP (hitB n k x) else 0) = fun x => (if p x then L.countP (hitB n k x) else 0) + (if p x then (if hitB n k x l then 1 else 0) else 0) := by
      funext x
      rw [List.countP_cons]
      by_cases hp : p x = true <;> simp [hp]
    rw [e, sum_add]
    congr 1
    cases h : number n k l with
    | none => simp [hitP, hitB, h, sum_zero]
    | some r =>
      obtain ⟨x0, u⟩ := r
      have hx := (number_hit hn h).2.1
      have := sum_pick p x0 n
      simp only [hitP, hitB, h, beq_iff_eq]
      rw [this]
      simp [hx]
theorem pick_count : ∀ (ws : List Nat) (i a : Nat), ws[i]? = some a → (List.range ws.sum).countP (fun x => pickOf ws x == i) = a
  | [], i, a, h => by simp at h
  | w :: ws, i, a, h => by
    rw [List.sum_cons, List.range_add, List.countP_append, List.countP_map]
    cases i with
    | zero =>
      simp only [List.getElem?_cons_zero, Option.some.injEq] at h
      subst h
      rw [List.countP_eq_length.2, List.length_range, List.countP_eq_zero.2]
      · rfl
      · intro x _
        simp [pickOf]
      · intro x hx
        have := List.mem_range.1 hx
        simp [pickOf, this]
    | succ i =>
      simp only [List.getElem?_cons_succ] at h
      have ih := pick_count ws i a h
      rw [List.countP_eq_zero.2, Nat.zero_add, ← ih]
      · refine List.countP_congr fun x _ => ?_
        have : ¬ w + x < w := by omega
        simp [pickOf, this]
      · intro x hx
        have := List.mem_range.1 hx
        simp [pickOf, this]
theorem sum_const (p : Nat → Bool) (c : Nat) (l : List Nat) : (l.map fun x => if p x then c else 0).sum = l.countP p * c := by
  induction l with
  | nil => simp
  | cons a l ih =>
    rw [List.map_cons, List.sum_cons, ih, List.countP_cons]
    by_cases hp : p a = true <;> simp [hp, Nat.add_mul]; omega
def evenAll : Bool := (List.range 12).all fun n => (List.range 9).all fun k => (List.range (n + 1)).all fun x => (allCoins k).countP (hitB (n + 1) (bitsOf (n + 1)) x) == (allCoins k).countP (hitB (n + 1) (bitsOf (n + 1)) 0)
theorem evenAll_ok : evenAll = true := by decide +kernel
theorem even_at {n k x : Nat} (h1 : 1 ≤ n) (h9 : n ≤ 12) (hk : k ≤ 8) (hx : x < n) : (allCoins k).countP (hitB n (bitsOf n) x) = (allCoins k).countP (hitB n (bitsOf n) 0) := by
  have h := evenAll_ok
  unfold evenAll at h
  rw [List.all_eq_true] at h
  have h2 := h (n - 1) (List.mem_range.2 (by omega))
  rw [List.all_eq_true] at h2
  have h3 := h2 k (List.mem_range.2 (by omega))
  rw [List.all_eq_true] at h3
  have h4 := h3 x (List.mem_range.2 (by omega))
  rw [show n - 1 + 1 = n by omega] at h4
  exact of_decide_eq_true (by simpa using h4)
theorem count_even {n k : Nat} (h1 : 1 ≤ n) (h9 : n ≤ 12) (hk : k ≤ 8) (p : Nat → Bool) :
    (allCoins k).countP (hitP n (bitsOf n) p) = (List.range n).countP p * (allCoins k).countP (hitB n (bitsOf n) 0) := by
  rw [count_split n _ h1, ← sum_const]
  congr 1
  refine List.map_congr_left fun x hx => ?_
  rw [even_at h1 h9 hk (List.mem_range.1 hx)]
theorem weighs (ws : List Nat) (k i a : Nat) (h1 : 1 ≤ ws.sum) (h9 : ws.sum ≤ 12) (hk : k ≤ 8) (hi : ws[i]? = some a) :
    (allCoins k).countP (hitP ws.sum (bitsOf ws.sum) fun x => pickOf ws x == i) * ws.sum = (allCoins k).countP (hitP ws.sum (bitsOf ws.sum) fun _ => true) * a := by
  have ht : (List.range ws.sum).countP (fun _ => true) = ws.sum := by
    rw [List.countP_eq_length.2 (fun _ _ => rfl), List.length_range]
  rw [count_even h1 h9 hk, count_even h1 h9 hk, pick_count ws i a hi, ht]
  generalize (allCoins k).countP (hitB ws.sum (bitsOf ws.sum) 0) = q
  rw [Nat.mul_right_comm, Nat.mul_comm a, Nat.mul_right_comm]
/-- the numbers that the law counts -/
def toldP (ws : List Nat) (k : Nat) (L : List (List Bool)) : List Int := (List.range ws.length).map fun i => ((L.countP (hitP ws.sum k fun x => pickOf ws x == i) : Nat) : Int)
def allP (ws : List Nat) (k : Nat) (L : List (List Bool)) : Nat := L.countP (hitP ws.sum k fun _ => true)
theorem toldP_len (ws : List Nat) (k : Nat) (L : List (List Bool)) : (toldP ws k L).length = ws.length := by simp [toldP]
theorem toldP_nil (ws : List Nat) (k : Nat) : toldP ws k [] = List.replicate ws.length 0 := by simp [toldP, List.map_const']
theorem toldP_at {ws : List Nat} {k i : Nat} (L : List (List Bool)) (hi : i < ws.length) : (toldP ws k L)[i]? = some ((L.countP (hitP ws.sum k fun x => pickOf ws x == i) : Nat) : Int) := by
  simp [toldP, List.getElem?_range hi]
theorem toldP_none {ws : List Nat} {k : Nat} {L : List (List Bool)} {l : List Bool} (h : number ws.sum k l = none) : toldP ws k (L ++ [l]) = toldP ws k L ∧ allP ws k (L ++ [l]) = allP ws k L := by
  constructor
  · unfold toldP
    refine List.map_congr_left fun i _ => ?_
    rw [List.countP_append]
    simp [hitP, h]
  · unfold allP
    rw [List.countP_append]
    simp [hitP, h]
theorem toldP_some {ws : List Nat} {k x u : Nat} {L : List (List Bool)} {l : List Bool} (h : number ws.sum k l = some (x, u)) :
    toldP ws k (L ++ [l]) = (toldP ws k L).set (pickOf ws x) (((L.countP (hitP ws.sum k fun y => pickOf ws y == pickOf ws x) : Nat) : Int) + 1) ∧ allP ws k (L ++ [l]) = allP ws k L + 1 := by
  constructor
  · apply List.ext_getElem?
    intro i
    rw [List.getElem?_set]
    by_cases hi : i < ws.length
    · rw [toldP_at _ hi, List.countP_append]
      by_cases he : pickOf ws x = i
      · subst he
        simp [hitP, h, toldP_len, hi]
      · rw [if_neg he, toldP_at _ hi]
        simp [hitP, h, he]
    · rw [List.getElem?_eq_none (by rw [toldP_len]; omega), List.getElem?_eq_none (by rw [toldP_len]; omega)]
      split
      · rw [if_neg (by rw [toldP_len]; omega)]
      · rfl
  · unfold allP
    rw [List.countP_append]
    simp [hitP, h]
/-- the weights that the law takes of the list -/
def wsOf (l : List Int) : List Nat := (l.take 4).map fun x => (x % 4).toNat
theorem wsOf_snoc_lt (l : List Int) (x : Int) (h : l.length < 4) : wsOf (l ++ [x]) = wsOf l ++ [(x % 4).toNat] := by
  unfold wsOf
  rw [List.take_of_length_le (by simp; omega), List.take_of_length_le (by omega)]
  simp
theorem wsOf_snoc_ge (l : List Int) (x : Int) (h : 4 ≤ l.length) : wsOf (l ++ [x]) = wsOf l := by
  unfold wsOf
  rw [List.take_append_of_le_length h]
theorem wsOf_len (l : List Int) : (wsOf l).length = min 4 l.length := by simp [wsOf]
theorem wsOf_le (l : List Int) : ∀ a ∈ wsOf l, a ≤ 3 := by
  intro a ha
  obtain ⟨x, _, rfl⟩ := List.mem_map.1 ha
  have := Int.emod_lt_of_pos x (by omega : (0 : Int) < 4)
  omega
theorem wsOf_sum (l : List Int) : (wsOf l).sum ≤ 12 := by
  have h := sum_le_all 3 (wsOf_le l)
  have h2 := wsOf_len l
  omega
end Go.Proofs.Ytjeklijkncbaaaa
