/- parlkeep5.ends: an automaton of two states. -/
import Derived.Test.YtgaahpddlohjoaaDfaCheck
namespace Go.Proofs.Ytgaahpddlohjoaa
open Go.RowKit

/-- the automaton of parlkeep5.ends -/
def endsD : DfaD := (0, [-1, 0], [[1, 0], [1, 0]])
theorem ends_valid : Valid endsD := by
  refine ⟨by decide, by decide, by decide, by decide, by decide, ?_, by decide, ?_⟩
  · intro r hr
    have : r = [1, 0] := by simpa [endsD] using hr
    subst this
    exact ⟨by decide, by intro x hx; have : x = 1 ∨ x = 0 := by simpa using hx
                         show -1 ≤ x ∧ x < (2 : Int); omega⟩
  · intro x hx
    have : x = -1 ∨ x = 0 := by simpa [endsD] using hx
    omega
set_option maxHeartbeats 1000000 in
theorem keepEnds (w : World) : Calls Try.prog 13 #[] w fun e w' => ∃ A n c N m k, e = .returned (.agg #[.int .i64 0, .slice A n c, .slice N m k]) ∧ Sl Rep.int w' (fun b => w.heap.size ≤ b) A n c endsD.2.1 ∧ Sl RI w' (fun b => w.heap.size ≤ b) N m k endsD.2.2 ∧ Below w.heap.size w w' := by
  go_enter Try.func13, Try.ntmps13
  go_wp2_with fail
  have hs : ∀ (u : World) (a b : Int) (H : Nat), u.heap.size = H → w.heap.size ≤ H → Sl Rep.int (u.alloc (.cells #[.int .i64 a, .int .i64 b] 3)) (fun q => w.heap.size ≤ q) (some ⟨H, 0, none⟩) 2 2 [a, b] := fun u a b H e1 e2 =>
    Rd.slInts (Rd.new u (fun q => w.heap.size ≤ q) 3 [.int .i64 a, .int .i64 b] H e1 e2) (Nat.le_refl _)
  refine bodyPost_ret (v := .agg #[.int .i64 0, .slice (some ⟨w.heap.size + 1, 0, none⟩) 2 2, .slice (some ⟨w.heap.size + 1 + 1 + 1 + 1, 0, none⟩) 2 2]) (by simp [results, Try.results13, go_sem]) rfl ⟨_, _, _, _, _, _, rfl, ?_, ?_, ?_⟩
  · exact (((hs _ (-1) 0 (w.heap.size + 1) (by simp) (by omega)).alloc _).alloc _).alloc _
  · exact ⟨_, rfl, Nat.le_refl _, Rd.new _ _ _ [_, _] _ (by simp) (by omega),
      ⟨[_], [_], rfl, ⟨_, _, _, rfl, ((hs _ 1 0 (w.heap.size + 1 + 1) (by simp) (by omega)).alloc _).alloc _⟩, [_], [], rfl, ⟨_, _, _, rfl, (hs _ 1 0 (w.heap.size + 1 + 1 + 1) (by simp) (by omega)).alloc _⟩, rfl⟩⟩
  · exact (((((Below.refl _ _).alloc (Nat.le_refl _) _).alloc (by simp) _).alloc (by simp; omega) _).alloc (by simp; omega) _).alloc (by simp; omega) _
end Go.Proofs.Ytgaahpddlohjoaa
