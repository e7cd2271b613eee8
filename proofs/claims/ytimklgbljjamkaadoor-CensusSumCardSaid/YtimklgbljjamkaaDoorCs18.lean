/- CntF -/
import Derived.Test.YtimklgbljjamkaaDoorCs13
namespace Go.Proofs.YtimklgbljjamkaaDoor
def cntF (N n : Nat) (S : Nat → Nat → Bool) : Nat := ((List.range (N * (n + 1))).filter (fun x => !S (nodeOf n x).1 (nodeOf n x).2)).length
theorem filter_len_le {α : Type} {p q : α → Bool} : ∀ {l : List α}, (∀ x ∈ l, p x = true → q x = true) → (l.filter p).length ≤ (l.filter q).length
 | [], _ => Nat.le_refl _
 | x :: l, h => by
  have ih := filter_len_le (l := l) fun y hy => h y (by simp [hy])
  by_cases hp : p x = true
  ·
   rw [List.filter_cons_of_pos hp, List.filter_cons_of_pos (h x (by simp) hp), List.length_cons, List.length_cons]; omega
  ·
   rw [List.filter_cons_of_neg hp]
   by_cases hq : q x = true
   ·
    rw [List.filter_cons_of_pos hq, List.length_cons]; omega
   ·
    rw [List.filter_cons_of_neg hq]; exact ih
theorem filter_len_lt {α : Type} {p q : α → Bool} : ∀ {l : List α} {y : α}, (∀ x ∈ l, p x = true → q x = true) → y ∈ l → p y = false → q y = true → (l.filter p).length < (l.filter q).length
 | x :: l, y, h, hy, hp, hq => by
  have ih := filter_len_le (p := p) (q := q) (l := l) fun z hz => h z (by simp [hz])
  rcases List.mem_cons.1 hy with rfl | hy
  ·
   rw [List.filter_cons_of_neg (by simp [hp]), List.filter_cons_of_pos hq, List.length_cons]; omega
  ·
   have ih2 := filter_len_lt (l := l) (fun z hz => h z (by simp [hz])) hy hp hq
   by_cases hpx : p x = true
   ·
    rw [List.filter_cons_of_pos hpx, List.filter_cons_of_pos (h x (by simp) hpx), List.length_cons, List.length_cons]; omega
   ·
    rw [List.filter_cons_of_neg hpx]
    by_cases hqx : q x = true
    ·
     rw [List.filter_cons_of_pos hqx, List.length_cons]; omega
    ·
     rw [List.filter_cons_of_neg hqx]; exact ih2
theorem cntF_set {N n : Nat} {S : Nat → Nat → Bool} {a k : Nat} (ha : a < N) (hk : k ≤ n) (h : S a k = false) : cntF N n (fun b j => if b = a ∧ j = k then true else S b j) < cntF N n S := by
 unfold cntF
 refine filter_len_lt (y := numOf n (a, k)) (fun x _ hx => ?_) (List.mem_range.2 (numOf_lt ha hk)) ?_ ?_
 ·
  by_cases e : (nodeOf n x).1 = a ∧ (nodeOf n x).2 = k
  ·
   simp [e] at hx
  ·
   simpa [e] using hx
 ·
  rw [nodeOf_num (x := (a, k)) hk]; simp
 ·
  rw [nodeOf_num (x := (a, k)) hk]; simp [h]
theorem sound_set {R : List RuleD} {N n : Nat} {S : Nat → Nat → Bool} (hS : Sound R N n S) (hR : RulesN N R) {r : RuleD} (hr : r ∈ R) {k : Nat} (hk : k ≤ n) (hc : canT S r.2 k = true) {a : Nat} (ha : r.1 = (a : Int)) : Sound R N n (fun b j => if b = a ∧ j = k then true else S b j) := by
 intro b j hb hj h
 by_cases e : b = a ∧ j = k
 ·
  obtain ⟨rfl, rfl⟩ := e
  have := canT_sound hS (hR r hr).2 hk hc
  rw [← ha]
  exact Der.non_iff.2 ⟨r.2, hr, this⟩
 ·
  dsimp only at h
  rw [if_neg e] at h
  exact hS b j hb hj h
def ClosedUpto (R : List RuleD) (n : Nat) (S : Nat → Nat → Bool) (i : Nat) : Prop := ∀ j r, j < i → R[j]? = some r → ∀ k, k ≤ n → canT S r.2 k = true → S r.1.toNat k = true
end Go.Proofs.YtimklgbljjamkaaDoor
