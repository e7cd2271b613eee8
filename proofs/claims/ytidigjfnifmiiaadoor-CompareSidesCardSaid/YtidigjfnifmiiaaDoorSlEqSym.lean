/- slices.Equal of symbols. -/
import Derived.Test.YtidigjfnifmiiaaDoorGramHas
import Derived.Deep.QuietTactic
import Derived.BigQuiet
namespace Go.Proofs.YtidigjfnifmiiaaDoor
open Go.RowKit

theorem neqSym (a c : Bool) (b d : Int) (w : World) : (binOp .neq 31 (.agg #[.bool a, .int .i64 b]) (.agg #[.bool c, .int .i64 d])).run Tryd.prog w = .ok (.bool (!(a == c && b == d))) w := by
  have h1 : Tryd.prog.underlying 31 = some (.struct (Tryd.prog.fieldsOf 31)) := by kernel_rfl
  have h2 : Tryd.prog.stoodInHeld 31 = false := by kernel_rfl
  rw [run_neq_struct, run_equalIn_agg w 9999 _ _ _ h1 h2, eqFields2 (t0 := 4) (t1 := 3) (by kernel_rfl) (by kernel_rfl) (by kernel_rfl) (fun _ => by kernel_rfl) (fun _ => by kernel_rfl) 9998 a c b d w]
  rfl
set_option maxHeartbeats 1000000 in
theorem equalSym (A1 A2 : Option Addr) (n1 c1 n2 c2 : Nat) (S1 S2 : Nat → Prop) (l1 l2 : List SymD) (w : World) (hr1 : Sl RSym w S1 A1 n1 c1 l1) (hr2 : Sl RSym w S2 A2 n2 c2 l2) (hn : n1 ≤ 1000000000000) (hn2 : n2 ≤ 1000000000000) :
    Calls Tryd.prog 23 #[.slice A1 n1 c1, .slice A2 n2 c2] w fun e w' => e = .returned (.bool (decide (l1 = l2))) ∧ ∃ d, w' = w.drewN d := by
  have HL1 := Lib.hid hr1.len
  have HL2 := Lib.hid hr2.len
  have HR1 := Lib.hid hr1
  have HR2 := Lib.hid hr2
  clear hr1 hr2
  by_cases hne : n1 = n2
  · subst hne
    go_enter Tryd.func23, Tryd.ntmps23
    go_wp2_with fail
    go_loopw [13] (fun i wr => ∃ k d : Nat, k ≤ n1 ∧ i = .int .i64 k ∧ wr = w.drewN d ∧ l1.take k = l2.take k) (fun i _ => n1 - (intOf i).toNat)
    case atStart => exact ⟨0, 0, Nat.zero_le _, rfl, rfl, rfl⟩
    case round =>
      obtain ⟨k, d, hk, rfl, rfl, heq⟩ := hrel
      have HE := Lib.hid heq
      clear heq
      by_cases hlt : k < n1
      · obtain ⟨b1, o1, s1, rfl, _, _, hs1, hs2, hs⟩ := sym_at HR1.out hlt
        obtain ⟨b2, o2, s2, rfl, _, _, ht1, ht2, ht⟩ := sym_at HR2.out hlt
        have hstep := take_eq_step hs ht
        have HSTEP := Lib.hid hstep
        have HS := Lib.hid hs
        have HT := Lib.hid ht
        have hb1 : (k : Int) < (n1 : Int) := by omega
        have hb0 : (0 : Int) ≤ (k : Int) := by omega
        clear hs ht hstep
        obtain ⟨s11, s12⟩ := s1
        obtain ⟨s21, s22⟩ := s2
        dsimp only at *
        by_cases hxe : (s11 == s21 && s12 == s22) = true
        · have heq := neqSym s11 s21 s12 s22
          rw [hxe] at heq
          have HXE := Lib.hid hxe
          clear hxe
          go_wp2_with fail
          go_quiet (fail)
          go_wp2_with fail
          go_roundw
          case rel => exact ⟨k + 1, _, by omega, by go_num, rfl, HSTEP.out.2 ⟨HE.out, by have := HXE.out; simp only [Bool.and_eq_true, beq_iff_eq] at this; exact Prod.ext this.1 this.2⟩⟩
          case measure => simp [intOf]; omega
        · have hxe' : (s11 == s21 && s12 == s22) = false := by simpa using hxe
          have heq := neqSym s11 s21 s12 s22
          rw [hxe'] at heq
          have HXE := Lib.hid hxe
          clear hxe hxe'
          go_wp2_with fail
          go_quiet (fail)
          go_wp2_with fail
          go_ret
          have he : decide (l1 = l2) = false := by
            simp only [decide_eq_false_iff_not]
            rintro rfl
            have h := HS.out.symm.trans HT.out
            injection h with h
            injection h with h1 h2
            exact HXE.out (by simp [h1, h2])
          exact ⟨ret_bool he.symm, _, World.drewN_drewN _ _ _⟩
      · obtain rfl : k = n1 := by omega
        go_wp2_with fail
        go_ret
        have he := HE.out
        rw [List.take_of_length_le (by rw [← HL1.out]; omega), List.take_of_length_le (by rw [← HL2.out]; omega)] at he
        subst he
        exact ⟨ret_bool (by simp), d, rfl⟩
  · have hnb : ((n1 : Int) != (n2 : Int)) = true := by simp; omega
    go_enter Tryd.func23, Tryd.ntmps23
    go_wp2_with fail
    go_ret
    have he : decide (l1 = l2) = false := by
      simp only [decide_eq_false_iff_not]
      rintro rfl
      exact hne (HL1.out.trans HL2.out.symm)
    exact ⟨ret_bool he.symm, 0, rfl⟩
end Go.Proofs.YtidigjfnifmiiaaDoor
