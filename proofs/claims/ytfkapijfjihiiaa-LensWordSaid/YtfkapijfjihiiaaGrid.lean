/- Tables of the call's own: rows of equal length, each in a block of its own. -/
import Derived.Test.YtfkapijfjihiiaaRep2
import Derived.Test.YtfkapijfjihiiaaDfaB
import Derived.Test.YtfkapijfjihiiaaStream
namespace Go.Proofs.Ytfkapijfjihiiaa
open Go.RowKit

/-- the cells of a row -/
def rowCells {α : Type} (enc : α → Value) (C : Nat) (f : Nat → α) : Array Value := ((List.range C).map (fun k => enc (f k))).toArray
theorem rowCells_at {α : Type} (enc : α → Value) (C : Nat) (f : Nat → α) (k : Nat) (hk : k < C) : (rowCells enc C f)[k]? = some (enc (f k)) := by simp [rowCells, hk]
/-- f with another value at k -/
def upd {α : Type} (f : Nat → α) (k : Nat) (x : α) : Nat → α := fun i => if i = k then x else f i
theorem rowCells_set {α : Type} (enc : α → Value) (C : Nat) (f : Nat → α) (k : Nat) (x : α) : (rowCells enc C f).setIfInBounds k (enc x) = rowCells enc C (upd f k x) := by
  apply Array.ext'
  apply List.ext_getElem?
  intro i
  simp only [rowCells, List.setIfInBounds_toArray, List.getElem?_set, List.length_map, List.length_range, List.getElem?_map, upd]
  by_cases hik : k = i
  · subst hik
    by_cases hk : k < C <;> simp [hk]
  · rw [if_neg hik]
    by_cases hi : i < C
    · simp [List.getElem?_range hi, Ne.symm hik]
    · simp [List.getElem?_eq_none (show (List.range C).length ≤ i by simp; omega)]
theorem rowCells_congr {α : Type} (enc : α → Value) (C : Nat) {f g : Nat → α} (h : ∀ k, k < C → f k = g k) : rowCells enc C f = rowCells enc C g := by
  unfold rowCells
  congr 1
  apply List.map_congr_left
  intro k hk
  rw [h k (List.mem_range.1 hk)]
/-- a table: its header at gN, its rows at gs; all of it in blocks from lo to hi -/
structure Grid {α : Type} (enc : α → Value) (E : TypeId) (w : World) (lo hi gN : Nat) (gs : Nat → Nat) (R C : Nat) (T : Nat → Nat → α) : Prop where
  hdr : ∀ a, a < R → w.cell? ⟨gN, a, none⟩ = some (.slice (some ⟨gs a, 0, none⟩) C C)
  row : ∀ a, a < R → w.heap[gs a]? = some (.cells (rowCells enc C (T a)) E (0, 0))
  rng : ∀ a, a < R → lo ≤ gs a ∧ gs a < hi ∧ gs a ≠ gN
  nrg : lo ≤ gN ∧ gN < hi
  inj : ∀ a b, a < R → b < R → gs a = gs b → a = b
section
variable {α : Type} {enc : α → Value} {E : TypeId} {w w' : World} {lo hi gN R C : Nat} {gs : Nat → Nat} {T T' : Nat → Nat → α}
theorem Grid.cell (h : Grid enc E w lo hi gN gs R C T) {a k : Nat} (ha : a < R) (hk : k < C) : w.cell? ⟨gs a, k, none⟩ = some (enc (T a k)) := by
  rw [cell_of_row w _ k _ _ _ (h.row a ha)]
  exact rowCells_at enc C (T a) k hk
theorem Grid.fr (h : Grid enc E w lo hi gN gs R C T) {a : Nat} (ha : a < R) (k : Nat) : w.frozen? ⟨gs a, k, none⟩ = false := by simp [World.frozen?, h.row a ha]
/-- what leaves its blocks alone keeps it -/
theorem Grid.keep (h : Grid enc E w lo hi gN gs R C T) (hk : ∀ q, lo ≤ q → q < hi → w'.heap[q]? = w.heap[q]?) : Grid enc E w' lo hi gN gs R C T := by
  refine ⟨fun a ha => ?_, fun a ha => ?_, h.rng, h.nrg, h.inj⟩
  · rw [World.cell?_of_block (hk gN h.nrg.1 h.nrg.2)]; exact h.hdr a ha
  · obtain ⟨h1, h2, _⟩ := h.rng a ha
    rw [hk _ h1 h2]; exact h.row a ha
theorem Grid.below (h : Grid enc E w lo hi gN gs R C T) (hb : Below w.heap.size w w') (hh : hi ≤ w.heap.size) : Grid enc E w' lo hi gN gs R C T := h.keep fun q _ h2 => hb.block q (by omega)
theorem Grid.congr (h : Grid enc E w lo hi gN gs R C T) (hT : ∀ a k, a < R → k < C → T a k = T' a k) : Grid enc E w lo hi gN gs R C T' :=
  ⟨h.hdr, fun a ha => by rw [h.row a ha, rowCells_congr enc C (hT a · ha)], h.rng, h.nrg, h.inj⟩
/-- a store into a cell of it -/
theorem Grid.set (h : Grid enc E w lo hi gN gs R C T) {a : Nat} (k : Nat) (ha : a < R) (x : α) : Grid enc E (w.setCell ⟨gs a, k, none⟩ (enc x)) lo hi gN gs R C (fun b j => if b = a ∧ j = k then x else T b j) := by
  obtain ⟨h1, h2, h3⟩ := h.rng a ha
  refine ⟨fun b hb => ?_, fun b hb => ?_, h.rng, h.nrg, h.inj⟩
  · rw [World.cell?_setCell_other _ _ _ _ (fun e => h3 (by injection e))]; exact h.hdr b hb
  · by_cases e : b = a
    · subst e
      have hs := blk_set (h.row b hb) k (enc x)
      rw [hs, rowCells_set]
      congr 2
      apply rowCells_congr
      intro j _
      simp [upd]
    · rw [Below.heap_setCell _ _ _ _ (fun e' => e (h.inj b a hb ha e')), h.row b hb]
      congr 2
      apply rowCells_congr
      intro j _
      simp [e]
end
theorem made_row (Z : Nat) : madeCells #[Value.bool false] Z = rowCells Value.bool Z (fun _ => false) := by
  apply Array.ext'
  rw [toList_madeCells_one]
  apply List.ext_getElem?
  intro i
  by_cases hi : i < Z <;> simp [rowCells, hi]
end Go.Proofs.Ytfkapijfjihiiaa
