/- What 'below' computes: the remainder, never negative. -/
import Derived.Test.YtgaahpddlohjoaaWords
import Derived.WalkKit
import Derived.ProofKit
namespace Go.Proofs.Ytgaahpddlohjoaa
open Go.RowKit

theorem tmod_neg (x n : Int) (hn : 1 ≤ n) (h : x.tmod n < 0) : x.tmod n + n = x % n ∧ -n < x.tmod n := by
  have e := @Int.tmod_eq_emod x n
  have h1 := Int.emod_nonneg x (by omega : n ≠ 0)
  have h2 := Int.lt_tmod_of_pos x (by omega : 0 < n)
  split at e <;> omega
theorem tmod_pos (x n : Int) (hn : 1 ≤ n) (h : 0 ≤ x.tmod n) : x.tmod n = x % n := by
  have e := @Int.tmod_eq_emod x n
  have h1 := Int.emod_lt_of_pos x (by omega : 0 < n)
  split at e <;> omega

theorem makeBelow (x n : Int) (w : World) (hn : 1 ≤ n) (hn2 : n ≤ 1000000000000) :
    Calls Try.prog 74 #[.int .i64 x, .int .i64 n] w fun e w' => e = .returned (.int .i64 (x % n)) ∧ w = w' := by
  go_enter Try.func74, Try.ntmps74
  go_wp2
  · rename_i h
    go_ret
    obtain ⟨e1, e2⟩ := tmod_neg x n hn h
    exact ⟨ret_int (by rw [IntWalk.wrap64_in _ ⟨by omega, by omega⟩, e1]), rfl⟩
  · rename_i h
    go_ret
    exact ⟨ret_int (tmod_pos x n hn h), rfl⟩
theorem keepBelow (x n : Int) (w : World) (hn : 1 ≤ n) (hn2 : n ≤ 1000000000000) :
    Calls Try.prog 38 #[.int .i64 x, .int .i64 n] w fun e w' => e = .returned (.int .i64 (x % n)) ∧ w = w' := by
  go_enter Try.func38, Try.ntmps38
  go_wp2_with (go_at_call 74; refine (makeBelow _ _ _ hn hn2).mono ?_; rintro e w' ⟨rfl, rfl⟩)
  go_ret
  exact ⟨rfl, rfl⟩
end Go.Proofs.Ytgaahpddlohjoaa
