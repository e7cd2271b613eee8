/- What parlmake.Word computes: a word over so many terminals. -/
import Derived.Test.YtgaahpddlohjoaaBelow
import Derived.Test.YtgaahpddlohjoaaMinMax
namespace Go.Proofs.Ytgaahpddlohjoaa
open Go.RowKit

def wordOf (t : Int) (most : Nat) (l : List Int) : List Int := (l.take most).map fun x => x % t
theorem wordOf_snoc_lt {t : Int} {most : Nat} (l : List Int) (x : Int) (h : l.length < most) : wordOf t most (l ++ [x]) = wordOf t most l ++ [x % t] := by
  unfold wordOf
  rw [List.take_of_length_le (by simp; omega), List.take_of_length_le (by omega)]
  simp
theorem wordOf_len (t : Int) (most : Nat) (l : List Int) : (wordOf t most l).length = min most l.length := by simp [wordOf]
set_option maxHeartbeats 1000000 in
theorem makeWord (t most : Nat) (A : Option Addr) (n c : Nat) (S : Nat → Prop) (l : List Int) (w : World) (hr : Rd w S 1 A n (l.map (Value.int .i64))) (hn : n ≤ 1000000000000000) (ht : 1 ≤ t) (ht2 : t ≤ 1000000) (hm : most ≤ 1000000) :
    Calls Try.prog 73 #[.int .i64 t, .int .i64 most, .slice A n c] w fun e w' => ∃ A' n' c', e = .returned (.slice A' n' c') ∧ Sl Rep.int w' (fun b => w.heap.size ≤ b) A' n' c' (wordOf t most l) ∧ Below w.heap.size w w' := by
  have hl : l.length = n := by simpa using hr.1
  have HL := Lib.hid hl
  have HR := Lib.hid hr
  clear hl hr
  go_enter Try.func73, Try.ntmps73
  go_wp2_with fail
  go_loopw [7, 12] (fun v i wr => ∃ j : Nat, j ≤ n ∧ j ≤ most ∧ i = .int .i64 j ∧ OwnL Rep.int wr (fun _ => False) w.heap.size 3 v (wordOf t most (l.take j)) ∧ Below w.heap.size w wr) (fun _ i _ => n - (intOf i).toNat)
  case atStart => exact ⟨0, Nat.zero_le _, Nat.zero_le _, rfl, by simpa [wordOf] using OwnL.nil _ _ _ _ _, Below.refl _ _⟩
  case round =>
    obtain ⟨j, hj, hjm, rfl, ho, hb⟩ := hrel
    obtain ⟨Aw, cw, rfl, hcw, _⟩ := ho.form
    have hlen : (wordOf t most (l.take j)).length = j := by rw [wordOf_len, List.length_take, HL.out]; omega
    rw [hlen] at hcw ho ⊢
    have HO := Lib.hid ho
    have HB := Lib.hid hb
    have HLEN := Lib.hid hlen
    clear ho hb hlen
    by_cases hlt : j < n
    · obtain ⟨b, off, x, rfl, _, hx, hcell0⟩ := HR.out.int_at hlt
      have hcell : wr.cell? ⟨b, off + j, none⟩ = some (.int .i64 x) := Kept.below (S := fun _ => True) HB.out _ _ trivial hcell0
      have HX := Lib.hid hx
      clear hx hcell0
      by_cases hjt : j < most
      · obtain ⟨v2, w2, hrun, ho2, _, hb2⟩ := run_append_lit (R := Rep.int) tInts rfl wr 22 w.heap.size (fun _ => False) _ (wordOf t most (l.take j)) HO.out 1 [x % t] [.int .i64 (x % t)] (Cells.single rfl) rfl (by rw [HLEN.out]; unfold maxLen; omega) (by rw [HLEN.out]; omega) HB.out.size
        rw [← wordOf_snoc_lt _ _ (by rw [List.length_take, HL.out]; omega), ← int_step HX.out] at ho2
        have HRUN := Lib.hid hrun
        have HO2 := Lib.hid ho2
        have HB2 := Lib.hid hb2
        have hje : ((j : Int) == (most : Int)) = false := by simp; omega
        clear hrun ho2 hb2
        go_wp2_with (first
          | (go_at_call 74; refine (makeBelow _ _ _ (by omega) (by omega)).mono ?_; rintro e w' ⟨rfl, rfl⟩)
          | (at_builtin; refine Lib.wpList_append_run (o := ⟨some 25, _, _, _, _, _⟩) _ rfl _ _ _ _ rfl _ _ rfl rfl _ _ HRUN.out ?_))
        go_roundw
        case rel => exact ⟨j + 1, by omega, by omega, by go_num, HO2.out, HB.out.trans HB2.out⟩
        case measure => simp [intOf]; omega
      · obtain rfl : j = most := by omega
        have he : wordOf t j (l.take j) = wordOf t j l := by unfold wordOf; rw [List.take_take, Nat.min_self]
        have hO := HO.out
        rw [he] at hO
        have HO3 := Lib.hid hO
        clear hO he
        go_wp2_with fail
        go_ret
        exact ⟨Aw, j, cw, rfl, HO3.out.sl.more (by simp), HB.out⟩
    · obtain rfl : j = n := by omega
      have hO := HO.out
      rw [List.take_of_length_le (by rw [HL.out]; omega)] at hO
      have HO3 := Lib.hid hO
      clear hO
      go_wp2_with fail
      go_ret
      exact ⟨Aw, j, cw, rfl, HO3.out.sl.more (by simp), HB.out⟩
end Go.Proofs.Ytgaahpddlohjoaa
