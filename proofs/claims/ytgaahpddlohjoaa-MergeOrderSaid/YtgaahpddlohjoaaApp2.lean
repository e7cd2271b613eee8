/- A row with room for all that is still to come (slices.Grow, slices.Concat). -/
import Derived.Test.YtgaahpddlohjoaaApp
namespace Go.Proofs.Ytgaahpddlohjoaa
open Go.RowKit

/-- v holds xs and has room for 'tot' elements in all, in a block of the call's own; or nothing is to come and v is nil -/
def Room (w : World) (base : Nat) (e : TypeId) (size : Nat) (v : Value) (n : Nat) (xs : List Value) (tot : Nat) : Prop :=
  (tot = 0 ∧ v = .slice none 0 0 ∧ n = 0 ∧ xs = []) ∨ ∃ g cap, v = .slice (some ⟨g, 0, none⟩) n cap ∧ w.ownsRow base e size (.slice (some ⟨g, 0, none⟩) n cap) n xs ∧ tot ≤ cap
section
variable {w w' : World} {base : Nat} {e : TypeId} {size n tot : Nat} {v : Value} {xs : List Value}
theorem Room.own (h : Room w base e size v n xs tot) : Own w base e size v n xs := by
  rcases h with ⟨_, rfl, rfl, rfl⟩ | ⟨g, cap, rfl, ho, _⟩
  · exact Own.nil _ _ _ _ _
  · exact .inl ho
theorem Room.drew (h : Room w base e size v n xs tot) : Room w.drew base e size v n xs tot := h
end
section
variable {P : Program} {T E s bytes : Nat} {z : Value}
theorem run_append_Room (hT : SlType P T E s bytes z) (w : World) (ty base : Nat) (v : Value) (n tot : Nat) (xs : List Value) (hv : Room w base E s v n xs tot)
    (S : Nat → Prop) (A : Option Addr) (m c : Nat) (news : List Value) (hr : Rd w S s A m news) (h1 : ∀ u ∈ news, u.oneCell' = true) (hroom : n + m ≤ tot) :
    ∃ v' w', (Builtin.append_ #[T, T] ty #[v, .slice A m c]).run P w = .ok v' w' ∧ Room w' base E s v' (n + m) (xs ++ news) tot ∧ w.grownBy w' (rowOf v) := by
  rcases hv with ⟨rfl, rfl, rfl, rfl⟩ | ⟨g, cap, rfl, ho, hcap⟩
  · obtain rfl : m = 0 := by omega
    have hn : news = [] := List.eq_nil_of_length_eq_zero (by simpa using hr.1)
    subst hn
    obtain ⟨i, hi, hz0, hz1, hz2⟩ := info_parts hT.info
    refine ⟨.slice none 0 0, w, ?_, .inl ⟨rfl, rfl, rfl, rfl⟩, World.grownBy.refl w _⟩
    cases A <;> simp [Builtin.append_, run_underlying hT.under, Go.sizeOf, typeInfo, hi, Builtin.lenOf, Builtin.firstCells, loadCells, loadCellsFrom]
  · obtain ⟨w', hrun, ho', hg⟩ := run_append_roomy hT w ty base g n cap xs ho S A m c news hr h1 (by omega)
    refine ⟨_, w', hrun, .inr ⟨g, cap, rfl, ho', hcap⟩, ?_⟩
    cases cap with
    | zero =>
      obtain ⟨rfl, rfl⟩ : n = 0 ∧ m = 0 := by omega
      have hn : news = [] := List.eq_nil_of_length_eq_zero (by simpa using hr.1)
      subst hn
      obtain ⟨i, hi, hz0, hz1, hz2⟩ := info_parts hT.info
      have : (Builtin.append_ #[T, T] ty #[.slice (some ⟨g, 0, none⟩) 0 0, .slice A 0 c]).run P w = .ok (.slice (some ⟨g, 0, none⟩) 0 0) w := by
        cases A <;> simp [Builtin.append_, run_underlying hT.under, Go.sizeOf, typeInfo, hi, Builtin.lenOf, Builtin.firstCells, storeCells, loadCells, loadCellsFrom]
      rw [this] at hrun
      injection hrun with _ h2
      subst h2
      exact World.grownBy.refl _ _
    | succ k => exact hg
/-- slices.Grow(nil, n): what the append of n zeros comes to, cut to nothing -/
theorem run_grow_zeros (hT : SlType P T E s bytes z) (w : World) (ty tn base n : Nat) (htn : P.underlying tn = some (.int .i64)) (hn : 0 < n) (hb : n * bytes ≤ 281474976710656) (h63 : n ≤ maxLen) (hbase : base ≤ w.heap.size) :
    ∃ cap w', (Builtin.append_ #[T, tn] ty #[.slice none 0 0, .int .i64 n]).run P w = .ok (.slice (some ⟨w.heap.size, 0, none⟩) n cap) w' ∧ n ≤ cap ∧ cap ≤ maxLen ∧
      w'.ownsRow base E s (.slice (some ⟨w.heap.size, 0, none⟩) 0 cap) 0 [] ∧ w.grownBy w' none := by
  obtain ⟨i, hi, hz0, hz1, hz2⟩ := info_parts hT.info
  subst hz1
  subst hz2
  have hge := grownCap_ge w n 0 E
  have hcm := grownCap_le_maxLen w n 0 E h63
  have hrun := Lib.run_append_grow_zeros (P := P) w T tn ty E i z .i64 .i64 hT.under htn hi hz0 none 0 0 [] (by exact run_firstCells_none w.drew i.size 0 0 0) n hn hT.pos (by omega) (by unfold maxLen at h63; omega) hb
    (by rw [Nat.zero_add, nextslicecap_zero hn]; exact hb)
  simp only [Nat.zero_add] at hrun
  refine ⟨grownCap w n 0 E, _, hrun, hge, hcm, ⟨by simp, .inr ⟨w.heap.size, _, _, rfl, hbase, heap_alloc_new w.drew _, Nat.zero_le _, hcm, ?_, by simp⟩⟩, grownBy_none_alloc w _ _⟩
  simp only [Array.size_append, List.size_toArray, List.length_nil, Nat.zero_add, size_zeroCells, hT.zero, ← Nat.add_mul]
  congr 1
  omega
end
/-- a part of a list of slices -/
structure Part where
  A : Option Addr
  n : Nat
  c : Nat
  xs : List Value
def Part.val (p : Part) : Value := .slice p.A p.n p.c
def Part.Ok (w : World) (S : Nat → Prop) (s : Nat) (p : Part) : Prop := Rd w S s p.A p.n p.xs ∧ p.n ≤ p.c ∧ ∀ u ∈ p.xs, u.oneCell' = true
def partsLen (l : List Part) : Nat := (l.map (·.n)).sum
def partsAll (l : List Part) : List Value := l.flatMap (·.xs)
theorem partsLen_snoc (l : List Part) (p : Part) : partsLen (l ++ [p]) = partsLen l + p.n := by simp [partsLen]
theorem partsAll_snoc (l : List Part) (p : Part) : partsAll (l ++ [p]) = partsAll l ++ p.xs := by simp [partsAll]
theorem partsLen_take (l : List Part) (k : Nat) : partsLen (l.take k) ≤ partsLen l := by
  have h := List.take_append_drop k l
  have : partsLen l = partsLen (l.take k) + partsLen (l.drop k) := by
    unfold partsLen
    rw [← List.sum_append, ← List.map_append, h]
  omega
theorem parts_step {l : List Part} {k : Nat} {p : Part} (h : l[k]? = some p) : l.take (k + 1) = l.take k ++ [p] := by
  obtain ⟨hk, rfl⟩ := List.getElem?_eq_some_iff.1 h
  exact List.take_succ_eq_append_getElem hk
end Go.Proofs.Ytgaahpddlohjoaa
