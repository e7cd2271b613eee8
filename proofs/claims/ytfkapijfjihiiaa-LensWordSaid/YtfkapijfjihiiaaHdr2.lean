/- The rows of a table that are being made. -/
import Derived.Test.YtfkapijfjihiiaaGrid
namespace Go.Proofs.Ytfkapijfjihiiaa
open Go.RowKit

/-- the rows of a table that are made so far: R rows of C cells -/
def hdr2 (H0 R C a : Nat) : Array Value := rowCells (fun x : Option Nat => match x with | some q => Value.slice (some ⟨q, 0, none⟩) C C | none => .slice none 0 0) R (fun i => if i < a then some (H0 + 1 + i) else none)
theorem hdr2_at (H0 R C a i : Nat) (hi : i < R) : (hdr2 H0 R C a)[i]? = some (if i < a then .slice (some ⟨H0 + 1 + i, 0, none⟩) C C else .slice none 0 0) := by
  unfold hdr2
  rw [rowCells_at _ _ _ i hi]
  by_cases h : i < a <;> simp [h]
theorem hdr2_set (H0 R C a : Nat) : (hdr2 H0 R C a).setIfInBounds a (.slice (some ⟨H0 + 1 + a, 0, none⟩) C C) = hdr2 H0 R C (a + 1) := by
  unfold hdr2
  have := rowCells_set (fun x : Option Nat => match x with | some q => Value.slice (some ⟨q, 0, none⟩) C C | none => .slice none 0 0) R (fun i => if i < a then some (H0 + 1 + i) else none) a (some (H0 + 1 + a))
  refine this.trans ?_
  apply rowCells_congr
  intro j _
  simp only [upd]
  by_cases h1 : j = a
  · subst h1; simp
  · by_cases h2 : j < a
    · simp [h1, h2, show j < a + 1 by omega]
    · simp [h1, h2, show ¬ j < a + 1 by omega]
theorem made_hdr2 (H0 R C : Nat) : madeCells #[Value.slice none 0 0] R = hdr2 H0 R C 0 := by
  apply Array.ext'
  rw [toList_madeCells_one]
  apply List.ext_getElem?
  intro i
  by_cases hi : i < R <;> simp [hdr2, rowCells, hi]
end Go.Proofs.Ytfkapijfjihiiaa
