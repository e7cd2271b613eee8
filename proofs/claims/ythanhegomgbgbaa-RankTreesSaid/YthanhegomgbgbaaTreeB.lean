/- Cells of a tree in a block; the type of slices of trees. -/
import Derived.Test.YthanhegomgbgbaaTreeD
import Derived.Test.YthanhegomgbgbaaBelow
namespace Go.Proofs.Ythanhegomgbgbaa
open Go.RowKit

theorem tTreesB : SlType Try.prog 32 34 3 40 (.agg #[.int .i64 0, .int .i64 0, .slice none 0 0]) := ⟨by kernel_rfl, by kernel_rfl, by kernel_rfl, rfl, by decide⟩
/-- the cells of a tree in a block -/
theorem tree_cells' {w : World} {B : Nat} {a b c : Value} {T : TypeId} (h : w.heap[B]? = some (.cells #[a, b, c] T (0, 0))) :
    w.cell? ⟨B, 0, none⟩ = some a ∧ w.cell? ⟨B, 1, none⟩ = some b ∧ w.cell? ⟨B, 2, none⟩ = some c ∧ w.frozen? ⟨B, 0, none⟩ = false ∧ w.frozen? ⟨B, 1, none⟩ = false ∧ w.frozen? ⟨B, 2, none⟩ = false := by
  simp [World.cell?, World.frozen?, h]
end Go.Proofs.Ythanhegomgbgbaa
