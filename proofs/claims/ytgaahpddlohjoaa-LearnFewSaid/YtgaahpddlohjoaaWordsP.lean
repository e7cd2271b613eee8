/- All words of a length, in order. -/
import Derived.Test.YtgaahpddlohjoaaMiniPlain
namespace Go.Proofs.Ytgaahpddlohjoaa

def kidsP (T : Nat) (w : List Int) : List (List Int) := (List.range T).map fun t : Nat => w ++ [(t : Int)]
def wordsP (T : Nat) : Nat → List (List Int)
  | 0 => [[]]
  | n + 1 => (wordsP T n).flatMap (kidsP T)
theorem kidsP_succ (T : Nat) (w : List Int) : kidsP (T + 1) w = kidsP T w ++ [w ++ [(T : Int)]] := by simp [kidsP, List.range_succ]
theorem kidsP_len (T : Nat) (w : List Int) : (kidsP T w).length = T := by simp [kidsP]
theorem kidsP_mem {T : Nat} {w v : List Int} : v ∈ kidsP T w ↔ ∃ t : Nat, t < T ∧ v = w ++ [(t : Int)] := by
  unfold kidsP
  rw [List.mem_map]
  constructor
  · rintro ⟨t, h, rfl⟩; exact ⟨t, List.mem_range.1 h, rfl⟩
  · rintro ⟨t, h, rfl⟩; exact ⟨t, List.mem_range.2 h, rfl⟩
theorem wordsP_mem (T : Nat) : ∀ (n : Nat) (v : List Int), v ∈ wordsP T n ↔ v.length = n ∧ ∀ x ∈ v, 0 ≤ x ∧ x < (T : Int)
  | 0, v => by
    simp only [wordsP, List.mem_singleton]
    constructor
    · rintro rfl; exact ⟨rfl, by simp⟩
    · rintro ⟨h, _⟩; exact List.eq_nil_of_length_eq_zero h
  | n + 1, v => by
    rw [wordsP, List.mem_flatMap]
    constructor
    · rintro ⟨w, hw, hv⟩
      obtain ⟨h1, h2⟩ := (wordsP_mem T n w).1 hw
      obtain ⟨t, ht, rfl⟩ := kidsP_mem.1 hv
      refine ⟨by simp [h1], fun x hx => ?_⟩
      rcases List.mem_append.1 hx with hx | hx
      · exact h2 x hx
      · obtain rfl := List.mem_singleton.1 hx
        omega
    · rintro ⟨h1, h2⟩
      have hne : v ≠ [] := fun e => by subst e; simp at h1
      obtain ⟨w, x, rfl⟩ : ∃ w x, v = w ++ [x] := ⟨_, _, (List.dropLast_concat_getLast hne).symm⟩
      have hx := h2 x (by simp)
      refine ⟨w, (wordsP_mem T n w).2 ⟨by simpa using h1, fun y hy => h2 y (List.mem_append_left _ hy)⟩, kidsP_mem.2 ⟨x.toNat, by omega, by rw [Int.toNat_of_nonneg hx.1]⟩⟩
theorem kidsP_sorted (w : List Int) : ∀ T : Nat, (kidsP T w).Pairwise lexLt
  | 0 => by simp [kidsP]
  | T + 1 => by
    rw [kidsP_succ, List.pairwise_append]
    refine ⟨kidsP_sorted w T, by simp, fun a ha b hb => ?_⟩
    obtain ⟨t, ht, rfl⟩ := kidsP_mem.1 ha
    obtain rfl := List.mem_singleton.1 hb
    exact lexLt_last w (by omega)
theorem wordsP_sorted (T : Nat) : ∀ n : Nat, (wordsP T n).Pairwise lexLt
  | 0 => by simp [wordsP]
  | n + 1 => by
    rw [wordsP, List.pairwise_flatMap]
    refine ⟨fun w _ => kidsP_sorted w T, (wordsP_sorted T n).imp fun {a b} hab x hx y hy => ?_⟩
    obtain ⟨t, _, rfl⟩ := kidsP_mem.1 hx
    obtain ⟨s, _, rfl⟩ := kidsP_mem.1 hy
    exact lexLt_snoc _ _ hab
theorem wordsP_len (T : Nat) : ∀ n : Nat, (wordsP T n).length = T ^ n
  | 0 => rfl
  | n + 1 => by
    rw [wordsP, List.length_flatMap]
    have : (wordsP T n).map (fun w => (kidsP T w).length) = List.replicate (T ^ n) T := by
      rw [List.eq_replicate_iff]
      refine ⟨by rw [List.length_map, wordsP_len T n], fun b hb => ?_⟩
      obtain ⟨w, _, rfl⟩ := List.mem_map.1 hb
      exact kidsP_len T w
    rw [this, List.sum_replicate_nat, Nat.pow_succ]
/-- the words up to the one that is sought are smaller -/
theorem wordsP_before {T n : Nat} {w v : List Int} {k : Nat} (hw : w ∈ wordsP T n) (hk : (wordsP T n)[k]? = some v) (hno : ∀ (j : Nat), j ≤ k → (wordsP T n)[j]? ≠ some w) : SLt v w := by
  obtain ⟨m, hm⟩ := List.getElem?_of_mem hw
  have h1 : k < m := by
    rcases Nat.lt_or_ge k m with h | h
    · exact h
    · exact absurd hm (hno m h)
  obtain ⟨hk', rfl⟩ := List.getElem?_eq_some_iff.1 hk
  obtain ⟨hm', rfl⟩ := List.getElem?_eq_some_iff.1 hm
  have h2 := (List.pairwise_iff_getElem.1 (wordsP_sorted T n)) k m hk' hm' h1
  have l1 := ((wordsP_mem T n _).1 (List.getElem_mem hk')).1
  have l2 := ((wordsP_mem T n _).1 (List.getElem_mem hm')).1
  exact .inr ⟨by rw [l1, l2], h2⟩
end Go.Proofs.Ytgaahpddlohjoaa
