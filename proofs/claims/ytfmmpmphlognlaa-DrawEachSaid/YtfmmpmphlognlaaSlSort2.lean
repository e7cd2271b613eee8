/- slices.Sort of at most three ints. -/
import Derived.Test.YtfmmpmphlognlaaSlSort
namespace Go.Proofs.Ytfmmpmphlognlaa
open Go.RowKit

set_option maxRecDepth 100000 in
set_option maxHeartbeats 2000000 in
theorem bitsLen (x : Nat) (hx : x ≤ 3) (w : World) : Calls Try.prog 71 #[.int .u64 x] w fun e w' => (∃ y, e = .returned (.int .i64 y)) ∧ w = w' := by
  obtain rfl | rfl | rfl | rfl : x = 0 ∨ x = 1 ∨ x = 2 ∨ x = 3 := by omega
  all_goals
    go_enter Try.func71, Try.ntmps71
    go_wp2
    go_ret
    exact ⟨⟨_, rfl⟩, rfl⟩
/-- what a sort leaves -/
def SortMade (w : World) (base : Nat) (v : Value) (n : Nat) (zs : List Int) (w' : World) : Prop := ∃ ys : List Int, ys.Perm zs ∧ Srt ys n ∧ Own w' base 3 1 v n (ys.map (Value.int .i64)) ∧ w.grownBy w' (rowOf v)
set_option linter.unusedSimpArgs false in
set_option maxRecDepth 100000 in
set_option maxHeartbeats 2000000 in
theorem insAny (w : World) (base n : Nat) (v : Value) (zs : List Int) (hown : Own w base 3 1 v n (zs.map (Value.int .i64))) (hn : n ≤ 3) :
    Calls Try.prog 114 #[v, .int .i64 0, .int .i64 n] w fun e w' => e = .returned (.tuple #[]) ∧ SortMade w base v n zs w' := by
  rcases Nat.eq_zero_or_pos n with h0 | h0
  · subst h0
    obtain ⟨A, c, rfl, _, _⟩ := hown.form
    have HOWN := Lib.hid hown
    clear hown
    go_enter Try.func114, Try.ntmps114
    go_wp2_with fail
    refine wp_loop_rounds 1 ?_
    rw [rounds_succ]
    go_wp2_with fail
    go_end0
    exact ⟨rfl, zs, List.Perm.refl _, fun p q _ _ _ h => by omega, HOWN.out, World.grownBy.refl w _⟩
  · obtain ⟨A, c, rfl, hc, _⟩ := hown.form
    obtain ⟨g, rfl, hbg, hrow⟩ := hown.addr h0
    refine (insSort w base g n c zs hrow (by omega) h0).mono ?_
    rintro e w' ⟨he, ys, h1, h2, h3, h4⟩
    obtain ⟨c', rfl⟩ : ∃ c', c = c' + 1 := ⟨c - 1, by omega⟩
    exact ⟨he, ys, h1, h2, .inl h3, h4⟩
set_option linter.unusedSimpArgs false in
set_option maxRecDepth 100000 in
set_option maxHeartbeats 2000000 in
theorem pdqAny (w : World) (base n : Nat) (v : Value) (lim : Int) (zs : List Int) (hown : Own w base 3 1 v n (zs.map (Value.int .i64))) (hn : n ≤ 3) :
    Calls Try.prog 70 #[v, .int .i64 0, .int .i64 n, .int .i64 lim] w fun e w' => e = .returned (.tuple #[]) ∧ SortMade w base v n zs w' := by
  have HOWN := Lib.hid hown
  clear hown
  have hn12 : (n : Int) ≤ 12 := by omega
  go_enter Try.func70, Try.ntmps70
  --@1
  go_wp2_with fail
  refine wp_loop_rounds 1 ?_
  rw [rounds_succ]
  --@2
  go_wp2_with fail
  refine (insAny w base n v zs HOWN.out hn).mono ?_
  rintro e w1 ⟨rfl, hm⟩
  have HM := Lib.hid hm
  clear hm
  --@3
  go_wp2_with fail
  refine bodyPost_ret (v := .tuple #[]) (results_none (by rfl) _ _ _) rfl ?_
  exact ⟨rfl, HM.out⟩
set_option linter.unusedSimpArgs false in
set_option maxRecDepth 100000 in
set_option maxHeartbeats 2000000 in
/-- slices.Sort -/
theorem sortInt (w : World) (base n : Nat) (v : Value) (zs : List Int) (hown : Own w base 3 1 v n (zs.map (Value.int .i64))) (hn : n ≤ 3) :
    Calls Try.prog 30 #[v] w fun e w' => e = .returned (.tuple #[]) ∧ SortMade w base v n zs w' := by
  obtain ⟨A, c, rfl, hc, _⟩ := hown.form
  have HOWN := Lib.hid hown
  clear hown
  go_enter Try.func30, Try.ntmps30
  --@11
  go_wp2_with fail
  refine (bitsLen n hn w).mono ?_
  rintro e _ ⟨⟨y, rfl⟩, rfl⟩
  --@12
  go_wp2_with fail
  refine (pdqAny w base n _ y zs HOWN.out hn).mono ?_
  rintro e w1 ⟨rfl, hm⟩
  have HM := Lib.hid hm
  clear hm
  go_wp2_with fail
  go_end0
  exact ⟨rfl, HM.out⟩
end Go.Proofs.Ytfmmpmphlognlaa
