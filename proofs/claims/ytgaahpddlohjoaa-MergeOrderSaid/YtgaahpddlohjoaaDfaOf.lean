/- The automaton that a list tells: small. -/
import Derived.Test.YtgaahpddlohjoaaDfaV
namespace Go.Proofs.Ytgaahpddlohjoaa
open Go.RowKit

theorem dfaOf_small (l : List Int) : ∀ x ∈ (dfaOf l).2.1, x < 2147483648 := by
  intro x hx
  obtain ⟨j, _, rfl⟩ := List.mem_map.1 (show x ∈ (List.range (dfaN l)).map (dfaAcc l) from hx)
  have := nv_range l (3 + j * (dfaC l + 1)) 3 (by omega)
  unfold dfaAcc
  omega
theorem dfaOf_len (l : List Int) : (dfaOf l).2.2.length ≤ 6 := by
  have := (dfaN_range l).2.1
  simp [dfaOf]; omega
theorem dfaOf_cols (l : List Int) : cols (dfaOf l) ≤ 3 := by
  have h1 := (dfaN_range l).1
  have h2 := (dfaC_range l).2.1
  have : (dfaOf l).2.2[0]? = some (dfaRow l 0) := by
    show ((List.range (dfaN l)).map (dfaRow l))[0]? = _
    rw [List.getElem?_map, List.getElem?_range (by omega)]
    rfl
  unfold cols
  rw [this]
  simp [dfaRow]; omega
end Go.Proofs.Ytgaahpddlohjoaa
