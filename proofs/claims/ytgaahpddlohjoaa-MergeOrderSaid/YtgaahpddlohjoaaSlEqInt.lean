/- slices.Equal of ints. -/
import Derived.Test.YtgaahpddlohjoaaMinMax
import Derived.Deep.QuietTactic
import Derived.BigQuiet
namespace Go.Proofs.Ytgaahpddlohjoaa
open Go.RowKit

theorem Below.drewN' {B : Nat} {a w : World} (h : Below B a w) (n : Nat) : Below B a (w.drewN n) := ⟨h.os, h.tape, h.output, h.size, h.block⟩
theorem drewN_below {B : Nat} (w : World) (n : Nat) : Below B w (w.drewN n) := ⟨rfl, rfl, rfl, Nat.le_refl _, fun _ _ => rfl⟩
set_option maxHeartbeats 1000000 in
theorem equalInt (A1 A2 : Option Addr) (n1 c1 n2 c2 : Nat) (S1 S2 : Nat → Prop) (l1 l2 : List Int) (w : World) (hr1 : Rd w S1 1 A1 n1 (l1.map (Value.int .i64))) (hr2 : Rd w S2 1 A2 n2 (l2.map (Value.int .i64))) (hn : n1 ≤ 1000000000000) (hn2 : n2 ≤ 1000000000000) :
    Calls Try.prog 19 #[.slice A1 n1 c1, .slice A2 n2 c2] w fun e w' => e = .returned (.bool (l1 == l2)) ∧ ∃ d, w' = w.drewN d := by
  have hl1 : l1.length = n1 := by simpa using hr1.1
  have hl2 : l2.length = n2 := by simpa using hr2.1
  have HL1 := Lib.hid hl1
  have HL2 := Lib.hid hl2
  have HR1 := Lib.hid hr1
  have HR2 := Lib.hid hr2
  clear hl1 hl2 hr1 hr2
  by_cases hne : n1 = n2
  · subst hne
    go_enter Try.func19, Try.ntmps19
    go_wp2_with fail
    go_loopw [13] (fun i wr => ∃ k d : Nat, k ≤ n1 ∧ i = .int .i64 k ∧ wr = w.drewN d ∧ l1.take k = l2.take k) (fun i _ => n1 - (intOf i).toNat)
    case atStart => exact ⟨0, 0, Nat.zero_le _, rfl, rfl, rfl⟩
    case round =>
      obtain ⟨k, d, hk, rfl, rfl, heq⟩ := hrel
      have HE := Lib.hid heq
      clear heq
      by_cases hlt : k < n1
      · obtain ⟨b1, off1, x1, rfl, _, hx1, hcell1⟩ := HR1.out.int_at hlt
        obtain ⟨b2, off2, x2, rfl, _, hx2, hcell2⟩ := HR2.out.int_at hlt
        have HX1 := Lib.hid hx1
        have HX2 := Lib.hid hx2
        have hb1 : (k : Int) < (n1 : Int) := by omega
        clear hx1 hx2
        by_cases hxe : x1 = x2
        · subst hxe
          go_wp2_with fail
          go_quiet (fail)
          go_wp2_with fail
          go_roundw
          case rel => exact ⟨k + 1, _, by omega, by go_num, rfl, by rw [int_step HX1.out, int_step HX2.out, HE.out]⟩
          case measure => simp [intOf]; omega
        · have hxb : (x1 != x2) = true := by simpa using hxe
          go_wp2_with fail
          go_quiet (fail)
          go_wp2_with fail
          go_ret
          have he : (l1 == l2) = false := by
            simp only [beq_eq_false_iff_ne]
            rintro rfl
            have h := HX1.out.symm.trans HX2.out
            injection h with h
            exact hxe h
          exact ⟨ret_bool he.symm, _, World.drewN_drewN _ _ _⟩
      · obtain rfl : k = n1 := by omega
        go_wp2_with fail
        go_ret
        have he := HE.out
        rw [List.take_of_length_le (by rw [HL1.out]; omega), List.take_of_length_le (by rw [HL2.out]; omega)] at he
        subst he
        exact ⟨ret_bool (by simp), d, rfl⟩
  · have hnb : ((n1 : Int) != (n2 : Int)) = true := by simp; omega
    go_enter Try.func19, Try.ntmps19
    go_wp2_with fail
    go_ret
    have he : (l1 == l2) = false := by
      simp only [beq_eq_false_iff_ne]
      rintro rfl
      exact hne (HL1.out.symm.trans HL2.out)
    exact ⟨ret_bool he.symm, 0, rfl⟩
end Go.Proofs.Ytgaahpddlohjoaa
