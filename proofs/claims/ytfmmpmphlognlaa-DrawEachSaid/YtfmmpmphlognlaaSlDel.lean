/- slices.Delete(s, i, i+1) of a row of ints of the call's own. -/
import Derived.Test.YtfmmpmphlognlaaMinMax
import Derived.StillTailTactics
import Derived.Lib.SliceRun
namespace Go.Proofs.Ytfmmpmphlognlaa
open Go.RowKit

/-- the head of a row -/
theorem ownsRow_take {w : World} {base g n cap k : Nat} {e : TypeId} {xs : List Value} (h : w.ownsRow base e 1 (.slice (some ⟨g, 0, none⟩) n cap) n xs) (hk : k ≤ n) : w.ownsRow base e 1 (.slice (some ⟨g, 0, none⟩) k cap) k (xs.take k) := by
  have hl := h.1
  rcases h.2 with ⟨h', _⟩ | ⟨g', cap', cur, h', hb, hg, hnc, hcm, hcs, ht⟩
  · simp at h'
  · simp only [Value.slice.injEq, Option.some.injEq, Addr.mk.injEq, and_true, true_and] at h'
    obtain ⟨rfl, rfl⟩ := h'
    refine ⟨by rw [List.length_take]; omega, .inr ⟨g, cap, cur, rfl, hb, hg, by omega, hcm, hcs, ?_⟩⟩
    rw [← ht, List.take_take, Nat.mul_one, Nat.mul_one, Nat.min_eq_left hk]
theorem del_parts (l : List Int) (i : Nat) : l.eraseIdx i = l.take i ++ l.drop (i + 1) := List.eraseIdx_eq_take_drop_succ l i
set_option maxRecDepth 100000 in
set_option maxHeartbeats 2000000 in
theorem deleteInt (w : World) (base g n cap i : Nat) (l : List Int) (ho : w.ownsRow base 3 1 (.slice (some ⟨g, 0, none⟩) n cap) n (l.map (Value.int .i64))) (hi : i < n) (hn : n ≤ 1000000) :
    Calls Try.prog 68 #[.slice (some ⟨g, 0, none⟩) n cap, .int .i64 i, .int .i64 ((i : Int) + 1)] w fun e w' => e = .returned (.slice (some ⟨g, 0, none⟩) (n - 1) cap) ∧
      w'.ownsRow base 3 1 (.slice (some ⟨g, 0, none⟩) (n - 1) cap) (n - 1) ((l.eraseIdx i).map (Value.int .i64)) ∧ w.grownBy w' (some g) := by
  have hl : l.length = n := by simpa using ho.1
  have hcap : n ≤ cap := by
    rcases ho.2 with ⟨h', _⟩ | ⟨g', cap', cur, h', _, _, hnc, _⟩
    · simp at h'
    · simp only [Value.slice.injEq, Option.some.injEq, Addr.mk.injEq, and_true, true_and] at h'
      omega
  obtain ⟨A', hcut, hrd⟩ := tInts.cutl (c := cap) (Rd.of_own ho) ((i : Int) + 1) (by omega) (by omega) hcap
  have e1 : ((i : Int) + 1).toNat = i + 1 := by omega
  rw [e1] at hcut hrd
  have hcuth := tInts.hN (some ⟨g, 0, none⟩) n cap i (by omega)
  obtain ⟨w1, hrun, ho1, hg1⟩ := run_append_roomy tInts w.drew 22 base g i cap _ (ownsRow_take ho (by omega)).drew _ A' (n - (i + 1)) (cap - (i + 1)) _ hrd.drew (by
    intro u hu
    rw [Nat.mul_one, ← List.map_drop] at hu
    exact one_ints _ u hu) (by omega)
  have e2 : i + (n - (i + 1)) = n - 1 := by omega
  have e3 : (l.map (Value.int .i64)).take i ++ (l.map (Value.int .i64)).drop ((i + 1) * 1) = (l.eraseIdx i).map (Value.int .i64) := by
    rw [del_parts, List.map_append, List.map_take, List.map_drop, Nat.mul_one]
  rw [e2] at hrun ho1
  rw [e3] at ho1
  have HRUN := Lib.hid hrun
  have HO1 := Lib.hid ho1
  have HG1 := Lib.hid hg1
  have hne : ((i : Int) == (i : Int) + 1) = false := by simp; omega
  have hcut2 := fun u => tInts.lh (some ⟨g, 0, none⟩) (n - 1) cap ((n - 1 : Nat) : Int) (n : Int) (by omega) (by omega) (by omega) u
  have e4 : (if cap = ((n - 1 : Nat) : Int).toNat then (some ⟨g, 0, none⟩ : Option Addr) else (some ⟨g, 0, none⟩ : Option Addr).map (·.add (((n - 1 : Nat) : Int).toNat * 1))) = some ⟨g, n - 1, none⟩ := by
    rw [Int.toNat_natCast, if_neg (by omega), Nat.mul_one]
    by_cases h0 : n - 1 = 0 <;> simp [Addr.add, h0]
  have e5 : (n : Int).toNat - ((n - 1 : Nat) : Int).toNat = 1 := by omega
  rw [e4, e5, Int.toNat_natCast] at hcut2
  have hin : ∃ u, w1.cell? ⟨g, n - 1, none⟩ = some u := by
    rcases ho1.2 with ⟨h', _⟩ | ⟨g', cap', cur, h', _, hh, hnc, _, hcs, _⟩
    · simp at h'
    · simp only [Value.slice.injEq, Option.some.injEq, Addr.mk.injEq, and_true, true_and] at h'
      obtain ⟨rfl, rfl⟩ := h'
      rw [cell_of_row w1 g (n - 1) cur _ _ hh]
      exact ⟨cur[n - 1]'(by omega), Array.getElem?_eq_getElem _⟩
  have hfz := ho1.frozenAt (n - 1)
  have hclr := Lib.run_clear_slice (P := Try.prog) w1 22 3 0 (.int .i64 0) (by kernel_rfl) (fun _ => by kernel_rfl) rfl rfl g (n - 1) 1 (cap - (n - 1)) (by omega) (by
    intro j hj
    obtain rfl : j = 0 := by omega
    obtain ⟨u, hu⟩ := hin
    rw [Nat.add_zero, hu]; rfl) (by
    intro j hj
    obtain rfl : j = 0 := by omega
    exact hfz)
  have hst := ho1.stored (n - 1) (.int .i64 0)
  clear hrun ho1 hg1 hrd e1 e2 e3 ho hl e4 e5 hin hfz
  go_enter Try.func68, Try.ntmps68
  go_wp2_with fail
  have hwrap : IntKind.i64.wrap ((i : Int) + 1) = (i : Int) + 1 := IntWalk.i64_in _ (by omega)
  go_still_tail 6, (by kernel_rfl)
  clear hwrap
  change wpList _ _ _ _ _ w.drew
  go_wp2_with (at_builtin; refine Lib.wpList_append_run (o := ⟨some 26, _, _, _, _, _⟩) _ rfl _ _ _ _ rfl _ _ rfl rfl _ _ HRUN.out ?_)
  go_ret
  have hw : w1.setCells g (n - 1) [.int .i64 0] = w1.setCell ⟨g, n - 1, none⟩ (.int .i64 0) := by simp [World.setCells]
  have hl1 : ((l.eraseIdx i).map (Value.int .i64)).length = n - 1 := by simpa using HO1.out.1
  have hset : ((l.eraseIdx i).map (Value.int .i64)).set (n - 1) (.int .i64 0) = (l.eraseIdx i).map (Value.int .i64) := List.set_eq_of_length_le (by omega)
  rw [hset] at hst
  rw [hw]
  refine ⟨rfl, hst.1, ?_⟩
  exact ⟨hst.2.os.trans HG1.out.os, hst.2.tape.trans HG1.out.tape, hst.2.output.trans HG1.out.output, Nat.le_trans HG1.out.size hst.2.size, fun k hk hne' => (hst.2.block k (Nat.lt_of_lt_of_le hk HG1.out.size) hne').trans (HG1.out.block k hk hne')⟩
end Go.Proofs.Ytfmmpmphlognlaa
