/- CloInt -/
import Derived.LoopTactic
import Derived.Outline
import Derived.Test.YtgaahpddlohjoaaAl02
import Derived.WalkSpells
namespace Go.Proofs.Ytgaahpddlohjoaa
open Go.RowKit
set_option maxHeartbeats 1000000 in
theorem cloneInt (A : Option Addr) (n c : Nat) (S : Nat → Prop) (xs : List Value) (w : World) (hr : Rd w S 1 A n xs) (hb : n * 8 ≤ 281474976710656) :
    Calls Try.prog 46 #[.slice A n c] w fun e w' => ∃ v, e = .returned v ∧ Own w' w.heap.size 3 1 v n xs ∧ Below w.heap.size w w' := by
 have HRD := Lib.hid hr
 clear hr
 cases A with
 | none =>
  have hq := fun W => Lib.run_eql_slice_nil (P := Try.prog) W 22
  go_enter Try.func46, Try.ntmps46
  go_wp2_with fail
  go_ret
  have hn : n = 0 := by
   rcases Nat.eq_zero_or_pos n with h0 | h0
   ·
    exact h0
   ·
    obtain ⟨b, off, h, _⟩ := HRD.out.2 h0
    cases h
  subst hn
  have hx : xs = [] := List.eq_nil_of_length_eq_zero (by simpa using HRD.out.1)
  subst hx
  exact ⟨_, rfl, Own.nil _ _ _ _ _, Below.refl _ _⟩
 | some a =>
  have hq := fun W => Lib.run_eql_slice_nil (P := Try.prog) W 22 3 (some a) n c 0 0 (by kernel_rfl)
  obtain ⟨v2, w2, hrun, ho, hg, _⟩ := run_append_fresh tInts (w.alloc (.cells #[] 3)) 22 w.heap.size (some ⟨w.heap.size, 0, none⟩) _ (some a) n c xs (HRD.out.alloc _) (by unfold maxLen; omega) (by omega) (by simp)
  have HRUN := Lib.hid hrun
  have HO := Lib.hid ho
  have HG := Lib.hid hg
  clear hrun ho hg
  go_enter Try.func46, Try.ntmps46
  go_wp2_with (at_builtin; refine Lib.wpList_append_run _ rfl _ _ _ _ rfl _ _ rfl rfl _ _ HRUN.out ?_)
  go_ret
  exact ⟨_, rfl, HO.out, ((Below.refl _ _).alloc (Nat.le_refl _) _).grown HG.out (by simp) (by simp)⟩
end Go.Proofs.Ytgaahpddlohjoaa
