/- Numbers as bytes in dfa.Parts. -/
import Derived.Test.YtgaahpddlohjoaaRep
import Derived.Test.YtgaahpddlohjoaaDfaB
import Derived.Test.YtgaahpddlohjoaaPartsPlain
namespace Go.Proofs.Ytgaahpddlohjoaa
open Go.RowKit

theorem tBytes : SlType Try.prog 115 5 1 1 (.int .u8 0) := ⟨by kernel_rfl, by kernel_rfl, by kernel_rfl, rfl, by decide⟩
/-- the four bytes of a number -/
def word4 (x : Int) : List Int := [x % 256, x / 256 % 256, x / 65536 % 256, x / 16777216 % 256]
theorem word4_inj {x y : Int} (hx : -1 ≤ x ∧ x < 2147483648) (hy : -1 ≤ y ∧ y < 2147483648) (h : word4 x = word4 y) : x = y := by
  simp only [word4, List.cons.injEq, and_true] at h
  omega
set_option linter.unusedSimpArgs false in
set_option maxRecDepth 100000 in
set_option maxHeartbeats 2000000 in
theorem partsWord (w : World) (base : Nat) (v : Value) (bs : List Int) (hv : Own w base 5 1 v bs.length (bs.map (Value.int .u8))) (hb : base ≤ w.heap.size) (hl : bs.length ≤ 1000000) (x : Int) :
    Calls Try.prog 116 #[v, .int .i64 x] w fun e w' => ∃ A c, e = .returned (.slice A (bs.length + 4) c) ∧ Own w' base 5 1 (.slice A (bs.length + 4) c) (bs.length + 4) ((bs ++ word4 x).map (Value.int .u8)) ∧ Below base w w' := by
  obtain ⟨A, c, rfl, hc, _⟩ := hv.form
  obtain ⟨v2, w2, hrun, ho2, hg, hrow⟩ := run_append_Own tBytes (w.alloc (.cells #[.int .u8 (x % 256), .int .u8 (x / 256 % 256), .int .u8 (x / 65536 % 256), .int .u8 (x / 16777216 % 256)] 5)) 115 base (.slice A bs.length c) bs.length (bs.map (Value.int .u8)) (hv.alloc _) (fun _ => True) (some ⟨w.heap.size, 0, none⟩) 4 4
    [.int .u8 (x % 256), .int .u8 (x / 256 % 256), .int .u8 (x / 65536 % 256), .int .u8 (x / 16777216 % 256)] (Rd.new w _ _ _ _ rfl trivial) (by intro u hu; simp at hu; rcases hu with rfl | rfl | rfl | rfl <;> rfl) (by unfold maxLen; omega) (by omega) (by simp; omega)
  obtain ⟨A2, c2, rfl, _, _⟩ := ho2.form
  have hb2 : Below base w w2 := ((Below.refl _ _).alloc hb _).trans (Below.own (Below.refl _ _) (hv.alloc _) hg (Nat.le_refl _) (by simp; omega))
  have HRUN := Lib.hid hrun
  have HO2 := Lib.hid (show Own w2 base 5 1 (.slice A2 (bs.length + 4) c2) (bs.length + 4) ((bs ++ word4 x).map (Value.int .u8)) by simpa [word4] using ho2)
  have HB2 := Lib.hid hb2
  clear hv hrun ho2 hg hrow hb2
  go_enter Try.func116, Try.ntmps116
  go_wp2_with (at_builtin; refine Lib.wpList_append_run _ rfl _ _ _ _ rfl _ _ rfl rfl _ _ HRUN.out ?_)
  go_ret
  exact ⟨A2, c2, rfl, HO2.out, HB2.out⟩
end Go.Proofs.Ytgaahpddlohjoaa
