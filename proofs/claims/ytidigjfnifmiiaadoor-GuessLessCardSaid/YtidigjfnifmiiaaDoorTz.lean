/- bits.TrailingZeros32: the lowest place of a set. -/
import Derived.Test.YtidigjfnifmiiaaDoorMask
import Derived.Test.YtidigjfnifmiiaaDoorWords
import Derived.WalkKit
import Derived.ProofKit
import Derived.Laws.BitsAll
namespace Go.Proofs.YtidigjfnifmiiaaDoor
open Go.RowKit

/-- the table that bits.TrailingZeros32 looks into -/
def tzTab : List Nat := [0, 1, 28, 2, 29, 14, 24, 3, 30, 22, 20, 15, 25, 17, 4, 8, 31, 27, 13, 23, 21, 19, 16, 7, 26, 12, 18, 6, 11, 5, 10, 9]
/-- the table lies in memory -/
def Tab (w : World) : Prop := 0 < w.heap.size ∧ ∀ j, j < 32 → w.cell? ⟨0, j, none⟩ = some (.int .u8 ((tzTab.getD j 0 : Nat) : Int))
theorem Tab.below {w w' : World} {B : Nat} (h : Tab w) (hb : Below B w w') (hB : 0 < B) : Tab w' :=
  ⟨Nat.lt_of_lt_of_le h.1 hb.size, fun j hj => (hb.cell (p := ⟨0, j, none⟩) hB).trans (h.2 j hj)⟩
theorem tz_index : ∀ p, p < 32 → (2 ^ p * 125613361 % 4294967296) / 134217728 < 32 ∧ tzTab.getD ((2 ^ p * 125613361 % 4294967296) / 134217728) 0 = p := by decide +kernel
set_option linter.unusedSimpArgs false in
set_option maxRecDepth 100000 in
set_option maxHeartbeats 2000000 in
theorem trailingZeros (w : World) (hT : Tab w) (x p : Nat) (hx0 : x ≠ 0) (hx : x < 4294967296) (hp : p < 32) (hlow : x &&& (4294967296 - x) = 2 ^ p) :
    Calls Tryd.prog 67 #[.int .u32 x] w fun e w' => e = .returned (.int .i64 (p : Int)) ∧ w = w' := by
  obtain ⟨h1, h2⟩ := tz_index p hp
  obtain ⟨j, hj⟩ : ∃ j, j = (2 ^ p * 125613361 % 4294967296) / 134217728 := ⟨_, rfl⟩
  rw [← hj] at h1 h2
  have hc := hT.2 j h1
  rw [h2] at hc
  have hne : ((x : Int) == 0) = false := by simp; omega
  have hE : bits .and .u32 (x : Int) (-(x : Int) % 4294967296) * 125613361 % 4294967296 / 134217728 = (j : Int) := by
    have e1 : -(x : Int) % 4294967296 = ((4294967296 - x : Nat) : Int) := by omega
    rw [e1, u32_and_nat _ _ hx (by omega), hlow, hj]
    generalize 2 ^ p = Q
    omega
  have hj0 : (0 : Int) ≤ (j : Int) := by omega
  have hj32 : (j : Int) < 32 := by omega
  clear hT h2 hlow hj hx hx0
  go_enter Tryd.func67, Tryd.ntmps67
  go_wp2_with fail
  go_ret
  exact ⟨rfl, rfl⟩
end Go.Proofs.YtidigjfnifmiiaaDoor
