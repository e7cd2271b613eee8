/- The listed table in the world that a call begins in; the door's own heap holds it. -/
import Derived.Test.YtidigjfnifmiiaaDoorRow
import Derived.Test.YtidigjfnifmiiaaDoorTz
import Derived.LaidMore
import Derived.LaidLaws
import Derived.LaidHandle
import Derived.MakeChecks
import Derived.FnData
namespace Go.Proofs.YtidigjfnifmiiaaDoor
open Go.ChangeShapes Go.WideShapes Go.ChangeAt Go.RowKit

theorem gTab : Tryd.prog.globalNamed "math/bits.deBruijn32tab" = some 0 := by kernel_rfl
theorem tTab : (Tryd.prog.globals[0]?).map (·.type) = some 104 := by kernel_rfl
theorem cellsU8 : Tryd.prog.cellsOf 5 = 1 := by kernel_rfl
/-- the table, as the rows list it -/
abbrev tabLaid : List (String × DataW Unit) := [("math/bits.deBruijn32tab", Rows.laid_math_bits_deBruijn32tab)]

set_option maxRecDepth 100000 in
theorem tab_of_laid {W : World} (h : laidMetH Tryd.prog tabLaid W) : Tab W := by
  rw [MakeChecks.laidMetH_plain _ _ _ (by kernel_rfl)] at h
  obtain ⟨ps, ⟨g0, t0, cs0, f0, p0, q0, hg0, ht0, hv0, hd0, _, _⟩, _, _⟩ := h
  obtain rfl := Option.some.inj (gTab.symm.trans hg0)
  obtain rfl := Option.some.inj (tTab.symm.trans ht0)
  obtain ⟨xs, m1, rfl, hx1, _, hn, hel⟩ := DataW.trod_array Tryd.underlying104 hd0
  simp only [Prod.mk.injEq] at hx1
  have hx2 := hx1.1
  have hlist : xs.map (·.1) = tzTab.map fun n : Nat => DataW.lit (.int .u8 (n : Int)) := by
    have e : Rows.laid_math_bits_deBruijn32tab (H := Unit) = .agg (tzTab.map fun n : Nat => DataW.lit (.int .u8 (n : Int))) := rfl
    rw [e] at hx2
    injection hx2 with hx2
    exact hx2.symm
  have hcell : ∀ j, j < 32 → W.cell? ⟨0, j, none⟩ = some (.int .u8 ((tzTab.getD j 0 : Nat) : Int)) := fun j hj => by
    have hlen : j < xs.length := by omega
    have e1 := hel j hj
    rw [List.getElem?_eq_getElem hlen] at e1
    obtain ⟨k, ec, ex, _⟩ := DataW.trod_int Tryd.underlying5 e1
    have hk : (xs.map (·.1))[j]? = some (.lit (.int .u8 k)) := by
      rw [List.getElem?_map, List.getElem?_eq_getElem hlen, Option.map_some, ex]
    rw [hlist, List.getElem?_map, List.getElem?_eq_getElem (show j < tzTab.length from hj), Option.map_some] at hk
    simp only [Option.some.injEq, DataW.lit.injEq, Lit.int.injEq, true_and] at hk
    rw [cellsU8, Nat.mul_one] at ec
    have hcj : cs0.toList[j]? = some (.int .u8 k) := by
      have := congrArg (fun l => l[0]?) ec
      simpa [List.getElem?_take, List.getElem?_drop] using this
    rw [World.var?_cell gTab hv0 j, ← Array.getElem?_toList, hcj, ← hk, List.getD_eq_getElem?_getD, List.getElem?_eq_getElem (show j < tzTab.length from hj)]
    rfl
  exact ⟨by
    have h0 := hcell 0 (by decide)
    exact cell_lt h0, hcell⟩

theorem door_met (os : Os) (args : Array Value) : laidMetH Tryd.prog tabLaid ((World.doorLaid Tryd.prog 100 os).forCall (fun _ _ => 0) ⟨#[], args, []⟩).memory :=
  laidMetH_of_parts3 (fuel := 8) (laidMet_of_run' 8 (by kernel_rfl) (by kernel_rfl)) (by kernel_rfl) (by kernel_rfl)
end Go.Proofs.YtidigjfnifmiiaaDoor
