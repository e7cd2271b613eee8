/- guess.Of: plain laws of the search. -/
import Derived.Test.YtidigjfnifmiiaaDoorGuRules
namespace Go.Proofs.YtidigjfnifmiiaaDoor
open Go.RowKit

def tryP {α : Type} (f : Nat → Option α) : Nat → Nat → Option α
  | 0, _ => none
  | n + 1, i => match f i with
    | some x => some x
    | none => tryP f n (i + 1)
def walkP (ag : List RuleD → Bool) (l : List RuleD) : Nat → Nat → List RuleD → Option (List RuleD)
  | 0, _, ch => if ag ch then some ch else none
  | left + 1, from_, ch => tryP (fun i => walkP ag l left (i + 1) (ch ++ [l.getD i (0, [])])) (l.length - from_) from_
def guessP (ag : List RuleD → Bool) (l : List RuleD) : Option (List RuleD) := tryP (fun n => walkP ag l n 0 []) 4 0
theorem tryP_some {α : Type} {f : Nat → Option α} : ∀ {n i : Nat} {x : α}, tryP f n i = some x → ∃ j, i ≤ j ∧ j < i + n ∧ f j = some x ∧ ∀ k, i ≤ k → k < j → f k = none
  | 0, _, _, h => by cases h
  | n + 1, i, x, h => by
    rw [tryP] at h
    cases hf : f i with
    | some y =>
      rw [hf] at h
      injection h with h
      subst h
      exact ⟨i, Nat.le_refl _, by omega, hf, fun k h1 h2 => by omega⟩
    | none =>
      rw [hf] at h
      obtain ⟨j, h1, h2, h3, h4⟩ := tryP_some h
      refine ⟨j, by omega, by omega, h3, fun k h5 h6 => ?_⟩
      rcases Nat.lt_or_ge i k with h7 | h7
      · exact h4 k h7 h6
      · obtain rfl : k = i := by omega
        exact hf
theorem tryP_none {α : Type} {f : Nat → Option α} : ∀ {n i : Nat}, tryP f n i = none → ∀ j, i ≤ j → j < i + n → f j = none
  | 0, _, _, j, h1, h2 => by omega
  | n + 1, i, h, j, h1, h2 => by
    rw [tryP] at h
    cases hf : f i with
    | some y => rw [hf] at h; cases h
    | none =>
      rw [hf] at h
      rcases Nat.lt_or_ge i j with h3 | h3
      · exact tryP_none h j h3 (by omega)
      · obtain rfl : j = i := by omega
        exact hf
theorem walkP_ok {ag : List RuleD → Bool} {l : List RuleD} : ∀ {left from_ : Nat} {ch rs : List RuleD}, walkP ag l left from_ ch = some rs → ag rs = true ∧ ∃ t, rs = ch ++ t ∧ t.length = left ∧ t.Sublist (l.drop from_)
  | 0, _, ch, rs, h => by
    rw [walkP] at h
    split at h
    · rename_i ha
      injection h with h
      subst h
      exact ⟨ha, [], by simp, rfl, List.nil_sublist _⟩
    · cases h
  | left + 1, from_, ch, rs, h => by
    rw [walkP] at h
    obtain ⟨j, h1, h2, h3, _⟩ := tryP_some h
    obtain ⟨h4, t, rfl, h5, h6⟩ := walkP_ok h3
    have hj : j < l.length := by omega
    refine ⟨h4, l.getD j (0, []) :: t, by simp, by simp [h5], ?_⟩
    have e : l.getD j (0, []) = l[j] := by simp [List.getD_eq_getElem?_getD, List.getElem?_eq_getElem hj]
    rw [e]
    have h7 : (l[j] :: t).Sublist (l.drop j) := by
      rw [List.drop_eq_getElem_cons hj]
      exact h6.cons_cons _
    have h8 : l.drop j = (l.drop from_).drop (j - from_) := by rw [List.drop_drop]; congr 1; omega
    rw [h8] at h7
    exact h7.trans (List.drop_sublist _ _)
theorem walkP_mono {ag ag' : List RuleD → Bool} (hag : ∀ x, ag x = true → ag' x = true) {l : List RuleD} : ∀ {left from_ : Nat} {ch rs : List RuleD}, walkP ag l left from_ ch = some rs → ∃ rs', walkP ag' l left from_ ch = some rs'
  | 0, _, ch, rs, h => by
    rw [walkP] at h ⊢
    split at h
    · rename_i ha
      exact ⟨ch, if_pos (hag _ ha)⟩
    · cases h
  | left + 1, from_, ch, rs, h => by
    rw [walkP] at h ⊢
    obtain ⟨j, h1, h2, h3, _⟩ := tryP_some h
    obtain ⟨rs', h4⟩ := walkP_mono hag h3
    cases h5 : tryP (fun i => walkP ag' l left (i + 1) (ch ++ [l.getD i (0, [])])) (l.length - from_) from_ with
    | some x => exact ⟨x, rfl⟩
    | none =>
      have := tryP_none h5 j h1 (by omega)
      rw [h4] at this
      cases this
theorem guessP_ok {ag : List RuleD → Bool} {l rs : List RuleD} (h : guessP ag l = some rs) : ag rs = true ∧ rs.length ≤ 3 ∧ rs.Sublist l := by
  obtain ⟨n, _, h2, h3, _⟩ := tryP_some h
  obtain ⟨h4, t, rfl, h5, h6⟩ := walkP_ok h3
  exact ⟨h4, by omega, h6⟩
theorem guessP_less {ag ag' : List RuleD → Bool} (hag : ∀ x, ag x = true → ag' x = true) {l rs : List RuleD} (h : guessP ag l = some rs) : ∃ rs', guessP ag' l = some rs' ∧ rs'.length ≤ rs.length := by
  obtain ⟨n, _, h2, h3, _⟩ := tryP_some h
  obtain ⟨x, h4⟩ := walkP_mono hag h3
  obtain ⟨_, t, rfl, h5, _⟩ := walkP_ok h3
  cases h6 : guessP ag' l with
  | none =>
    have := tryP_none h6 n (Nat.zero_le _) h2
    rw [h4] at this
    cases this
  | some rs' =>
    obtain ⟨m, _, h7, h8, h9⟩ := tryP_some h6
    obtain ⟨_, t', rfl, h10, _⟩ := walkP_ok h8
    refine ⟨_, rfl, ?_⟩
    rcases Nat.lt_or_ge n m with hnm | hnm
    · have := h9 n (Nat.zero_le _) hnm
      rw [h4] at this
      cases this
    · omega
end Go.Proofs.YtidigjfnifmiiaaDoor
