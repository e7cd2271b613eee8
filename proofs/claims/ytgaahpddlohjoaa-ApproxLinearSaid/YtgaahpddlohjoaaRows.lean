/-
  No cell of these rows narrows 'for every input' (looked for: loops, veiled, ifaces, maps, wideKeys, modest, calm, conditions, laid).
  DERIVED. THE GIVEN ROWS OF THIS SEAT. 8 by the template 'for every input the law returns true; each argument reads behind the call as it read before'; 0 by the template 'total and deterministic' (their statements: YtgaahpddlohjoaaTotals.lean).
  GIVEN WITH THE SEED: the statements are not yours to turn. If you find one false, say at which input.
  Laid BY PROGRAM, IN A SANDBOX (cutbox-rows.mjs): the forced cells as the released guide's own fill.sh prints them over the translation ce9dd9597c8da452… (all of the seat's roots in one cut). By AI agents, Wed Nov 11 2026. No macro, syntax, notation, axiom, sorry.
-/
import Derived.Test.YtgaahpddlohjoaaChecked
import GoSem.Claim
import GoSem.ClaimJoined
import GoSem.ClaimMapViews
import Derived.JoinedTies
import Derived.KernelRfl
namespace Go.Proofs.Ytgaahpddlohjoaa
/- THE CELL 'sum', in the pinned program and in every row, IS THE sha256 OF THE DUMP (.gsa) THAT YtgaahpddlohjoaaProg.lean LOADS. Nothing in Lean hashes anything: it is a label: what it is worth is what the hold of that sum in a sandbox is worth. -/
noncomputable def Try.pinned : Pinned := { name := "ytgaahpddlohjoaa", sum := "ce9dd9597c8da45204ee4b7afd1698962b19d007b3ecf6e2f07a3a1aff2f28cc", checked := Try.checked }
namespace Rows
def none {H : Type} : Left H := { results := [], args := [] }

/-- 'parlkeep5.TeachDiffers': WHATEVER THE INPUT: true; the input reads as it did. -/
def teachDiffersSpec : ChangeSpec := { name := "teachDiffers", fn := fun _ => fun
  | [d1, d2] => { results := [.lit (.bool true)], args := [d1, d2] }
  | _ => none }
def teachDiffersRow : OpenClaim := { program := "ytgaahpddlohjoaa", sum := "ce9dd9597c8da45204ee4b7afd1698962b19d007b3ecf6e2f07a3a1aff2f28cc", func := "parlance/parlkeep5.TeachDiffers", spec := "teachDiffers", unfollowed := true, recurses := true, plainKeys := false, apart := false }
def TeachDiffersSaid : Prop := teachDiffersRow.holds Try.pinned (OpenSpec.ofChange teachDiffersSpec)

/-- ITS FALSE NEIGHBOUR: 'it returns false'. Refute it at one input. -/
def teachDiffersWrong : ChangeSpec := { name := "teachDiffers", fn := fun _ => fun
  | [d1, d2] => { results := [.lit (.bool false)], args := [d1, d2] }
  | _ => none }
def TeachDiffersWrongFalsely : Prop := teachDiffersRow.holds Try.pinned (OpenSpec.ofChange teachDiffersWrong)

/-- 'parlkeep5.LearnOnce': WHATEVER THE INPUT: true; the input reads as it did. -/
def learnOnceSpec : ChangeSpec := { name := "learnOnce", fn := fun _ => fun
  | [d] => { results := [.lit (.bool true)], args := [d] }
  | _ => none }
def learnOnceRow : OpenClaim := { program := "ytgaahpddlohjoaa", sum := "ce9dd9597c8da45204ee4b7afd1698962b19d007b3ecf6e2f07a3a1aff2f28cc", func := "parlance/parlkeep5.LearnOnce", spec := "learnOnce", unfollowed := true, recurses := true, plainKeys := false, apart := false }
def LearnOnceSaid : Prop := learnOnceRow.holds Try.pinned (OpenSpec.ofChange learnOnceSpec)

/-- ITS FALSE NEIGHBOUR: 'it returns false'. Refute it at one input. -/
def learnOnceWrong : ChangeSpec := { name := "learnOnce", fn := fun _ => fun
  | [d] => { results := [.lit (.bool false)], args := [d] }
  | _ => none }
def LearnOnceWrongFalsely : Prop := learnOnceRow.holds Try.pinned (OpenSpec.ofChange learnOnceWrong)

/-- 'parlkeep5.LearnFew': WHATEVER THE INPUT: true; the input reads as it did. -/
def learnFewSpec : ChangeSpec := { name := "learnFew", fn := fun _ => fun
  | [d] => { results := [.lit (.bool true)], args := [d] }
  | _ => none }
def learnFewRow : OpenClaim := { program := "ytgaahpddlohjoaa", sum := "ce9dd9597c8da45204ee4b7afd1698962b19d007b3ecf6e2f07a3a1aff2f28cc", func := "parlance/parlkeep5.LearnFew", spec := "learnFew", unfollowed := true, recurses := true, plainKeys := false, apart := false }
def LearnFewSaid : Prop := learnFewRow.holds Try.pinned (OpenSpec.ofChange learnFewSpec)

/-- ITS FALSE NEIGHBOUR: 'it returns false'. Refute it at one input. -/
def learnFewWrong : ChangeSpec := { name := "learnFew", fn := fun _ => fun
  | [d] => { results := [.lit (.bool false)], args := [d] }
  | _ => none }
def LearnFewWrongFalsely : Prop := learnFewRow.holds Try.pinned (OpenSpec.ofChange learnFewWrong)

/-- 'parlkeep5.ApproxHolds': WHATEVER THE INPUT: true; the input reads as it did. -/
def approxHoldsSpec : ChangeSpec := { name := "approxHolds", fn := fun _ => fun
  | [d1, d2] => { results := [.lit (.bool true)], args := [d1, d2] }
  | _ => none }
def approxHoldsRow : OpenClaim := { program := "ytgaahpddlohjoaa", sum := "ce9dd9597c8da45204ee4b7afd1698962b19d007b3ecf6e2f07a3a1aff2f28cc", func := "parlance/parlkeep5.ApproxHolds", spec := "approxHolds", unfollowed := true, recurses := true, plainKeys := false, apart := false }
def ApproxHoldsSaid : Prop := approxHoldsRow.holds Try.pinned (OpenSpec.ofChange approxHoldsSpec)

/-- ITS FALSE NEIGHBOUR: 'it returns false'. Refute it at one input. -/
def approxHoldsWrong : ChangeSpec := { name := "approxHolds", fn := fun _ => fun
  | [d1, d2] => { results := [.lit (.bool false)], args := [d1, d2] }
  | _ => none }
def ApproxHoldsWrongFalsely : Prop := approxHoldsRow.holds Try.pinned (OpenSpec.ofChange approxHoldsWrong)

/-- 'parlkeep5.ApproxLinear': WHATEVER THE INPUT: true; the input reads as it did. -/
def approxLinearSpec : ChangeSpec := { name := "approxLinear", fn := fun _ => fun
  | [d] => { results := [.lit (.bool true)], args := [d] }
  | _ => none }
def approxLinearRow : OpenClaim := { program := "ytgaahpddlohjoaa", sum := "ce9dd9597c8da45204ee4b7afd1698962b19d007b3ecf6e2f07a3a1aff2f28cc", func := "parlance/parlkeep5.ApproxLinear", spec := "approxLinear", unfollowed := true, recurses := true, plainKeys := false, apart := false }
def ApproxLinearSaid : Prop := approxLinearRow.holds Try.pinned (OpenSpec.ofChange approxLinearSpec)

/-- ITS FALSE NEIGHBOUR: 'it returns false'. Refute it at one input. -/
def approxLinearWrong : ChangeSpec := { name := "approxLinear", fn := fun _ => fun
  | [d] => { results := [.lit (.bool false)], args := [d] }
  | _ => none }
def ApproxLinearWrongFalsely : Prop := approxLinearRow.holds Try.pinned (OpenSpec.ofChange approxLinearWrong)

/-- 'parlkeep5.MergeAgrees': WHATEVER THE INPUT: true; the input reads as it did. -/
def mergeAgreesSpec : ChangeSpec := { name := "mergeAgrees", fn := fun _ => fun
  | [d1, d2] => { results := [.lit (.bool true)], args := [d1, d2] }
  | _ => none }
def mergeAgreesRow : OpenClaim := { program := "ytgaahpddlohjoaa", sum := "ce9dd9597c8da45204ee4b7afd1698962b19d007b3ecf6e2f07a3a1aff2f28cc", func := "parlance/parlkeep5.MergeAgrees", spec := "mergeAgrees", unfollowed := true, recurses := true, plainKeys := false, apart := false }
def MergeAgreesSaid : Prop := mergeAgreesRow.holds Try.pinned (OpenSpec.ofChange mergeAgreesSpec)

/-- ITS FALSE NEIGHBOUR: 'it returns false'. Refute it at one input. -/
def mergeAgreesWrong : ChangeSpec := { name := "mergeAgrees", fn := fun _ => fun
  | [d1, d2] => { results := [.lit (.bool false)], args := [d1, d2] }
  | _ => none }
def MergeAgreesWrongFalsely : Prop := mergeAgreesRow.holds Try.pinned (OpenSpec.ofChange mergeAgreesWrong)

/-- 'parlkeep5.MergeOrder': WHATEVER THE INPUT: true; the input reads as it did. -/
def mergeOrderSpec : ChangeSpec := { name := "mergeOrder", fn := fun _ => fun
  | [d1, d2, d3] => { results := [.lit (.bool true)], args := [d1, d2, d3] }
  | _ => none }
def mergeOrderRow : OpenClaim := { program := "ytgaahpddlohjoaa", sum := "ce9dd9597c8da45204ee4b7afd1698962b19d007b3ecf6e2f07a3a1aff2f28cc", func := "parlance/parlkeep5.MergeOrder", spec := "mergeOrder", unfollowed := true, recurses := true, plainKeys := false, apart := false }
def MergeOrderSaid : Prop := mergeOrderRow.holds Try.pinned (OpenSpec.ofChange mergeOrderSpec)

/-- ITS FALSE NEIGHBOUR: 'it returns false'. Refute it at one input. -/
def mergeOrderWrong : ChangeSpec := { name := "mergeOrder", fn := fun _ => fun
  | [d1, d2, d3] => { results := [.lit (.bool false)], args := [d1, d2, d3] }
  | _ => none }
def MergeOrderWrongFalsely : Prop := mergeOrderRow.holds Try.pinned (OpenSpec.ofChange mergeOrderWrong)

/-- 'parlkeep5.MergeSmall': WHATEVER THE INPUT: true; the input reads as it did. -/
def mergeSmallSpec : ChangeSpec := { name := "mergeSmall", fn := fun _ => fun
  | [d1, d2] => { results := [.lit (.bool true)], args := [d1, d2] }
  | _ => none }
def mergeSmallRow : OpenClaim := { program := "ytgaahpddlohjoaa", sum := "ce9dd9597c8da45204ee4b7afd1698962b19d007b3ecf6e2f07a3a1aff2f28cc", func := "parlance/parlkeep5.MergeSmall", spec := "mergeSmall", unfollowed := true, recurses := true, plainKeys := false, apart := false }
def MergeSmallSaid : Prop := mergeSmallRow.holds Try.pinned (OpenSpec.ofChange mergeSmallSpec)

/-- ITS FALSE NEIGHBOUR: 'it returns false'. Refute it at one input. -/
def mergeSmallWrong : ChangeSpec := { name := "mergeSmall", fn := fun _ => fun
  | [d1, d2] => { results := [.lit (.bool false)], args := [d1, d2] }
  | _ => none }
def MergeSmallWrongFalsely : Prop := mergeSmallRow.holds Try.pinned (OpenSpec.ofChange mergeSmallWrong)

/- THE SECOND FORM. 'bulk': how many values and letters a reading holds, each counted each time it is reached (what is shared counts as often as it is met; a slice's spare places count too). A statement '..UptoSaid' is the law's where the arguments, and the package variables that the reading takes, are together of bulk at most 1048576: NARROWER than '..Said'. Prove '..Said' where nothing that the law and all that it calls make is longer than what came in: it says more and counts as full. Else prove '..UptoSaid'. A law counts once. -/
mutual
def uptoBulk {H : Type} : DataW H → Nat
  | .lit (.string bytes) => bytes.length + 1
  | .lit _ => 1
  | .nil => 1
  | .ptr d => uptoBulk d + 1
  | .slice elems spare => uptoBulkAll elems + uptoBulkAll spare + 1
  | .agg parts => uptoBulkAll parts + 1
  | .iface _ d => uptoBulk d + 1
  | .map entries => uptoBulkEntries entries + 1
  | .held _ => 1
def uptoBulkAll {H : Type} : List (DataW H) → Nat
  | [] => 0
  | d :: r => uptoBulk d + uptoBulkAll r
def uptoBulkEntries {H : Type} : List (Lit × DataW H) → Nat
  | [] => 0
  | x :: r => uptoBulkEntry x + uptoBulkEntries r
def uptoBulkEntry {H : Type} : Lit × DataW H → Nat
  | (.string bytes, d) => bytes.length + uptoBulk d + 1
  | (_, d) => uptoBulk d + 1
 end
def uptoSmall : (H : Type) → List (DataW H) → Bool := fun _ ds => decide (uptoBulkAll ds ≤ 1048576)
def OpenSpec.upto (s : _root_.Go.ChangeSpec) : _root_.Go.OpenSpec := { _root_.Go.OpenSpec.ofChange s with cond := some uptoSmall }

/-- 'parlkeep5.TeachDiffers', WHERE WHAT IT READS IS OF BULK AT MOST 1048576: true; the input reads as it did. -/
def teachDiffersUptoRow : OpenClaim := { program := "ytgaahpddlohjoaa", sum := "ce9dd9597c8da45204ee4b7afd1698962b19d007b3ecf6e2f07a3a1aff2f28cc", func := "parlance/parlkeep5.TeachDiffers", spec := "teachDiffers", unfollowed := true, recurses := true, plainKeys := false, apart := false, narrowed := true }
def TeachDiffersUptoSaid : Prop := teachDiffersUptoRow.holds Try.pinned (OpenSpec.upto teachDiffersSpec)

/-- 'parlkeep5.LearnOnce', WHERE WHAT IT READS IS OF BULK AT MOST 1048576: true; the input reads as it did. -/
def learnOnceUptoRow : OpenClaim := { program := "ytgaahpddlohjoaa", sum := "ce9dd9597c8da45204ee4b7afd1698962b19d007b3ecf6e2f07a3a1aff2f28cc", func := "parlance/parlkeep5.LearnOnce", spec := "learnOnce", unfollowed := true, recurses := true, plainKeys := false, apart := false, narrowed := true }
def LearnOnceUptoSaid : Prop := learnOnceUptoRow.holds Try.pinned (OpenSpec.upto learnOnceSpec)

/-- 'parlkeep5.LearnFew', WHERE WHAT IT READS IS OF BULK AT MOST 1048576: true; the input reads as it did. -/
def learnFewUptoRow : OpenClaim := { program := "ytgaahpddlohjoaa", sum := "ce9dd9597c8da45204ee4b7afd1698962b19d007b3ecf6e2f07a3a1aff2f28cc", func := "parlance/parlkeep5.LearnFew", spec := "learnFew", unfollowed := true, recurses := true, plainKeys := false, apart := false, narrowed := true }
def LearnFewUptoSaid : Prop := learnFewUptoRow.holds Try.pinned (OpenSpec.upto learnFewSpec)

/-- 'parlkeep5.ApproxHolds', WHERE WHAT IT READS IS OF BULK AT MOST 1048576: true; the input reads as it did. -/
def approxHoldsUptoRow : OpenClaim := { program := "ytgaahpddlohjoaa", sum := "ce9dd9597c8da45204ee4b7afd1698962b19d007b3ecf6e2f07a3a1aff2f28cc", func := "parlance/parlkeep5.ApproxHolds", spec := "approxHolds", unfollowed := true, recurses := true, plainKeys := false, apart := false, narrowed := true }
def ApproxHoldsUptoSaid : Prop := approxHoldsUptoRow.holds Try.pinned (OpenSpec.upto approxHoldsSpec)

/-- 'parlkeep5.ApproxLinear', WHERE WHAT IT READS IS OF BULK AT MOST 1048576: true; the input reads as it did. -/
def approxLinearUptoRow : OpenClaim := { program := "ytgaahpddlohjoaa", sum := "ce9dd9597c8da45204ee4b7afd1698962b19d007b3ecf6e2f07a3a1aff2f28cc", func := "parlance/parlkeep5.ApproxLinear", spec := "approxLinear", unfollowed := true, recurses := true, plainKeys := false, apart := false, narrowed := true }
def ApproxLinearUptoSaid : Prop := approxLinearUptoRow.holds Try.pinned (OpenSpec.upto approxLinearSpec)

/-- 'parlkeep5.MergeAgrees', WHERE WHAT IT READS IS OF BULK AT MOST 1048576: true; the input reads as it did. -/
def mergeAgreesUptoRow : OpenClaim := { program := "ytgaahpddlohjoaa", sum := "ce9dd9597c8da45204ee4b7afd1698962b19d007b3ecf6e2f07a3a1aff2f28cc", func := "parlance/parlkeep5.MergeAgrees", spec := "mergeAgrees", unfollowed := true, recurses := true, plainKeys := false, apart := false, narrowed := true }
def MergeAgreesUptoSaid : Prop := mergeAgreesUptoRow.holds Try.pinned (OpenSpec.upto mergeAgreesSpec)

/-- 'parlkeep5.MergeOrder', WHERE WHAT IT READS IS OF BULK AT MOST 1048576: true; the input reads as it did. -/
def mergeOrderUptoRow : OpenClaim := { program := "ytgaahpddlohjoaa", sum := "ce9dd9597c8da45204ee4b7afd1698962b19d007b3ecf6e2f07a3a1aff2f28cc", func := "parlance/parlkeep5.MergeOrder", spec := "mergeOrder", unfollowed := true, recurses := true, plainKeys := false, apart := false, narrowed := true }
def MergeOrderUptoSaid : Prop := mergeOrderUptoRow.holds Try.pinned (OpenSpec.upto mergeOrderSpec)

/-- 'parlkeep5.MergeSmall', WHERE WHAT IT READS IS OF BULK AT MOST 1048576: true; the input reads as it did. -/
def mergeSmallUptoRow : OpenClaim := { program := "ytgaahpddlohjoaa", sum := "ce9dd9597c8da45204ee4b7afd1698962b19d007b3ecf6e2f07a3a1aff2f28cc", func := "parlance/parlkeep5.MergeSmall", spec := "mergeSmall", unfollowed := true, recurses := true, plainKeys := false, apart := false, narrowed := true }
def MergeSmallUptoSaid : Prop := mergeSmallUptoRow.holds Try.pinned (OpenSpec.upto mergeSmallSpec)

end Rows
end Go.Proofs.Ytgaahpddlohjoaa
