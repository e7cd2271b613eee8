/- The tree whose smaller trees ShrinkTree counts. -/
import Derived.Test.YtfmmpmphlognlaaShrinkPlain
import Derived.Test.YtfmmpmphlognlaaPlainG
namespace Go.Proofs.Ytfmmpmphlognlaa

def xP : TreeD := .node 1 0 [.node (-1) 1 [], .node 0 0 [.node (-1) 0 []]]
theorem xP_tv : TV plainR (false, 0) xP :=
  .node (k := 1) (r := (0, [(true, 1), (false, 0)])) rfl (.cons .leaf (.cons (.node (k := 0) (r := (0, [(true, 0)])) rfl (.cons .leaf .nil)) .nil))
theorem xP_size : sizeT xP ≤ 60 := by decide +kernel
theorem xP_len : (smallerT plainR xP).length = 1 := by decide +kernel
end Go.Proofs.Ytfmmpmphlognlaa
