/- Cells of a tree in a block; the type of slices of trees. -/
import Derived.Test.YtfkapijfjihiiaaTreeD
import Derived.Test.YtfkapijfjihiiaaBelow
namespace Go.Proofs.Ytfkapijfjihiiaa
open Go.RowKit

theorem tTreesB : SlType Try.prog 44 46 3 40 (.agg #[.int .i64 0, .int .i64 0, .slice none 0 0]) := ⟨by kernel_rfl, by kernel_rfl, by kernel_rfl, rfl, by decide⟩
/-- the cells of a tree in a block -/
theorem tree_cells' {w : World} {B : Nat} {a b c : Value} {T : TypeId} (h : w.heap[B]? = some (.cells #[a, b, c] T (0, 0))) :
    w.cell? ⟨B, 0, none⟩ = some a ∧ w.cell? ⟨B, 1, none⟩ = some b ∧ w.cell? ⟨B, 2, none⟩ = some c ∧ w.frozen? ⟨B, 0, none⟩ = false ∧ w.frozen? ⟨B, 1, none⟩ = false ∧ w.frozen? ⟨B, 2, none⟩ = false := by
  simp [World.cell?, World.frozen?, h]
theorem OwnL.formK {α : Type} {R : Rep α} {w : World} {S : Nat → Prop} {base : Nat} {E : TypeId} {v : Value} {l : List α} (h : OwnL R w S base E v l) {a : Nat} (ha : l.length = a) : ∃ A c, v = .slice A a c ∧ a ≤ c := by
  obtain ⟨A, c, e, h1, _⟩ := h.form
  subst ha
  exact ⟨A, c, e, h1⟩
end Go.Proofs.Ytfkapijfjihiiaa
