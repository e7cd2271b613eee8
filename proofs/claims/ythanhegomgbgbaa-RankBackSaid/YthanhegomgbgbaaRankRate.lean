/- What the number of trees of a nonterminal says. -/
import Derived.Test.YthanhegomgbgbaaRankC
namespace Go.Proofs.Ythanhegomgbgbaa
open Go.RowKit

/-- what is known of a symbol and a length whose trees are numbered -/
def Rated (g : GramD) (n : Nat) (s : SymD) (k : Nat) : Prop := ∀ a : Nat, s = (false, (a : Int)) → a < nonsOf g ∧ k ≤ n ∧ ¬ Many g.2.2.2 (a, k) ∧ cN g.2.2.2 a k < MC
/-- what the numbers of a nonterminal with K trees say -/
theorem rated_of {g : GramD} (hv : GValid g) {st n : Nat} (hst : st < nonsOf g) {K : Int} (hK : K = treesN g.2.2.2 st n) (hK1 : K < 1000000000) (hK0 : 0 < K) : Rated g n (false, (st : Int)) n ∧ K = (cN g.2.2.2 st n : Int) ∧ ¬ Many g.2.2.2 (st, n) := by
  have hRN := rulesN_of hv
  have hlen : lenD g.2.2.2 st n = true := by
    apply Classical.byContradiction
    intro hx
    unfold treesN at hK
    rw [if_neg hx] at hK
    omega
  have hmany : ¬ Many g.2.2.2 (st, n) := by
    intro hx
    unfold treesN at hK
    rw [if_pos hlen, if_pos hx] at hK
    omega
  have hcn : K = (cN g.2.2.2 st n : Int) := by
    unfold treesN at hK
    rw [if_pos hlen, if_neg hmany] at hK
    exact hK
  refine ⟨fun a ha => ?_, hcn, hmany⟩
  injection ha with _ ha
  obtain rfl : st = a := by omega
  exact ⟨hst, Nat.le_refl _, hmany, by have : MC = 1000000000 := rfl; omega⟩
end Go.Proofs.Ythanhegomgbgbaa
