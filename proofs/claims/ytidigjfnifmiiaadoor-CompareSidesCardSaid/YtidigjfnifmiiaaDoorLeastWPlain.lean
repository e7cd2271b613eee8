/- Plain: the least word of just one of two grammars. -/
import Derived.Test.YtidigjfnifmiiaaDoorWordPlain
namespace Go.Proofs.YtidigjfnifmiiaaDoor

/-- the words with one more terminal -/
def kidsW (T : Nat) (w : List Int) : List (List Int) := (List.range T).map fun t : Nat => w ++ [(t : Int)]
theorem kidsW_take (k : Nat) (w : List Int) : ((List.range (k + 1)).map fun t : Nat => w ++ [(t : Int)]) = ((List.range k).map fun t : Nat => w ++ [(t : Int)]) ++ [w ++ [(k : Int)]] := by
  rw [List.range_succ, List.map_append]
  rfl
/-- the words in their order, as far as a count goes -/
def bfs (T n : Nat) (p : List Int → Bool) : Nat → List (List Int) → Option (List Int)
  | 0, _ => none
  | _ + 1, [] => none
  | f + 1, w :: q => if p w = true then some w else bfs T n p f (q ++ (if w.length < n then kidsW T w else []))
/-- how many words there are with so many terminals more -/
def cntB (T : Nat) : Nat → Nat
  | 0 => 1
  | k + 1 => 1 + T * cntB T k
def meaB (T n : Nat) (q : List (List Int)) : Nat := (q.map fun w => cntB T (n - w.length)).sum
theorem meaB_append (T n : Nat) (a b : List (List Int)) : meaB T n (a ++ b) = meaB T n a + meaB T n b := by simp [meaB]
theorem sum_rep (x : Nat) : ∀ T : Nat, (List.replicate T x).sum = T * x
  | 0 => by simp
  | T + 1 => by rw [List.replicate_succ, List.sum_cons, sum_rep x T, Nat.add_mul]; omega
theorem meaB_kids {T n : Nat} {w : List Int} : meaB T n (kidsW T w) = T * cntB T (n - w.length - 1) := by
  unfold meaB kidsW
  rw [List.map_map]
  have : (List.range T).map ((fun v : List Int => cntB T (n - v.length)) ∘ fun t : Nat => w ++ [(t : Int)]) = List.replicate T (cntB T (n - w.length - 1)) := by
    apply List.ext_getElem (by simp)
    intro i h1 h2
    simp [Nat.sub_sub]
  rw [this, sum_rep]
theorem meaB_step {T n : Nat} {w : List Int} {q : List (List Int)} (hw : w.length ≤ n) : meaB T n (q ++ (if w.length < n then kidsW T w else [])) + 1 = meaB T n (w :: q) := by
  rw [meaB_append]
  have e : meaB T n (w :: q) = cntB T (n - w.length) + meaB T n q := by simp [meaB]
  rw [e]
  split
  · rw [meaB_kids]
    obtain ⟨k, hk⟩ : ∃ k, n - w.length = k + 1 := ⟨n - w.length - 1, by omega⟩
    rw [hk, Nat.add_sub_cancel, cntB]
    omega
  · have hk : n - w.length = 0 := by omega
    rw [hk, cntB]
    simp [meaB]
    omega
theorem meaB_len (T n : Nat) : ∀ q : List (List Int), q.length ≤ meaB T n q
  | [] => by simp
  | w :: q => by
    have h1 := meaB_len T n q
    have e : meaB T n (w :: q) = cntB T (n - w.length) + meaB T n q := by simp [meaB]
    have h2 : ∀ k, 1 ≤ cntB T k := fun k => by cases k <;> simp [cntB]
    have := h2 (n - w.length)
    rw [List.length_cons, e]
    omega
theorem meaB_start {T n : Nat} (hT : T ≤ 3) (hn : n ≤ 3) : meaB T n [[]] ≤ 40 := by
  have h : ∀ T, T < 4 → ∀ n, n < 4 → cntB T n ≤ 40 := by decide +kernel
  have := h T (by omega) n (by omega)
  simpa [meaB] using this
theorem bfs_none {T n : Nat} {p : List Int → Bool} (h : ∀ w, p w = false) : ∀ (f : Nat) (q : List (List Int)), bfs T n p f q = none
  | 0, _ => rfl
  | _ + 1, [] => rfl
  | f + 1, w :: q => by rw [bfs, h w, if_neg (by simp)]; exact bfs_none h f _
theorem bfs_congr {T n : Nat} {p p' : List Int → Bool} (h : ∀ w, p w = p' w) (f : Nat) (q : List (List Int)) : bfs T n p f q = bfs T n p' f q := by
  have : p = p' := funext h
  rw [this]
/-- the words of the queue: over T terminals, not too long -/
def WordOk (T : Int) (n : Nat) (w : List Int) : Prop := w.length ≤ n ∧ ∀ x ∈ w, 0 ≤ x ∧ x < T
theorem WordOk.kid {T n t : Nat} {w : List Int} (h : WordOk T n w) (hn : w.length < n) (ht : t < T) : WordOk T n (w ++ [(t : Int)]) := by
  refine ⟨by rw [List.length_append]; exact hn, fun x hx => ?_⟩
  rw [List.mem_append] at hx
  rcases hx with hx | hx
  · exact h.2 x hx
  · obtain rfl := List.mem_singleton.1 hx; omega
theorem bfs_mem {T n : Nat} {p : List Int → Bool} : ∀ (f : Nat) (q : List (List Int)) (w : List Int), (∀ v ∈ q, WordOk T n v) → bfs T n p f q = some w → WordOk T n w ∧ p w = true
  | 0, _, _, _, h => by cases h
  | _ + 1, [], _, _, h => by cases h
  | f + 1, v :: q, w, hq, h => by
    rw [bfs] at h
    split at h
    · rename_i hp
      injection h with h
      subst h
      exact ⟨hq v (by simp), hp⟩
    · refine bfs_mem f _ w (fun x hx => ?_) h
      rw [List.mem_append] at hx
      rcases hx with hx | hx
      · exact hq x (by simp [hx])
      · split at hx
        · rename_i hl
          obtain ⟨t, ht, rfl⟩ := List.mem_map.1 hx
          exact (hq v (by simp)).kid hl (List.mem_range.1 ht)
        · cases hx
/-- the counts and the powers of the loop ahead -/
def cntP (T : Nat) : Nat → Nat × Nat
  | 0 => (0, 1)
  | k + 1 => ((cntP T k).1 + (cntP T k).2, (cntP T k).2 * T)
theorem cntP_le {T k : Nat} (hT : T ≤ 3) (hk : k ≤ 4) : (cntP T k).1 ≤ 40 ∧ (cntP T k).2 ≤ 81 := by
  have : ∀ T, T < 4 → ∀ k, k < 5 → (cntP T k).1 ≤ 40 ∧ (cntP T k).2 ≤ 81 := by decide +kernel
  exact this T (by omega) k (by omega)
noncomputable def leastW (T n : Nat) (R : List RuleD) (st : Int) (R' : List RuleD) (st' : Int) : Option (List Int) := bfs T n (fun w => accD R st w != accD R' st' w) (meaB T n [[]] + 1) [[]]
theorem leastW_swap (T n : Nat) (R : List RuleD) (st : Int) (R' : List RuleD) (st' : Int) : leastW T n R st R' st' = leastW T n R' st' R st := by
  unfold leastW
  exact bfs_congr (fun w => by rw [bne_comm]) _ _
end Go.Proofs.YtidigjfnifmiiaaDoor
