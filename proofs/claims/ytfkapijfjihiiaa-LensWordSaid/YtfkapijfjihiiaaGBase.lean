/- The number of nonterminals, as a natural number. -/
import Derived.Test.YtfkapijfjihiiaaGrid
import Derived.Test.YtfkapijfjihiiaaGramCheck
import Derived.Test.YtfkapijfjihiiaaCensusPlain3
import Derived.Test.YtfkapijfjihiiaaLate
namespace Go.Proofs.Ytfkapijfjihiiaa

/-- the number of nonterminals -/
def nonsOf (g : GramD) : Nat := g.2.1.toNat
theorem rulesN_of {g : GramD} (hv : GValid g) : RulesN (nonsOf g) g.2.2.2 := fun r hr => by
  obtain ⟨⟨h1, h2⟩, h3, h4⟩ := hv.rules r hr
  refine ⟨⟨h1, by unfold nonsOf; omega⟩, fun s hs hf => ?_⟩
  obtain ⟨k1, k2⟩ := h4 s hs
  rw [hf] at k2
  simp only [Bool.false_eq_true, if_false] at k2
  exact ⟨k1, by unfold nonsOf; omega⟩
end Go.Proofs.Ytfkapijfjihiiaa
