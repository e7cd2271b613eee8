/- CloInt Repeat -/
import Derived.Deep.LoopGhost
import Derived.Laws.CopyOwn
import Derived.Laws.CopyRow
import Derived.LoopTactic
import Derived.Outline
import Derived.Test.YtbmcoamdfpegnaaMa02
import Derived.Test.YtbmcoamdfpegnaaMa06
import Derived.WalkSpells
namespace Go.Proofs.Ytbmcoamdfpegnaa
open Go.RowKit
set_option maxHeartbeats 1000000 in
theorem cloneInt (A : Option Addr) (n c : Nat) (S : Nat → Prop) (xs : List Value) (w : World) (hr : Rd w S 1 A n xs) (hb : n * 8 ≤ 281474976710656) :
    Calls Try.prog 34 #[.slice A n c] w fun e w' => ∃ v, e = .returned v ∧ Own w' w.heap.size 3 1 v n xs ∧ Below w.heap.size w w' := by
 have HRD := Lib.hid hr
 clear hr
 cases A with
 | none =>
  have hq := fun W => Lib.run_eql_slice_nil (P := Try.prog) W 22
  go_enter Try.func34, Try.ntmps34
  go_wp2_with fail
  go_ret
  have hn : n = 0 := by
   rcases Nat.eq_zero_or_pos n with h0 | h0
   ·
    exact h0
   ·
    obtain ⟨b, off, h, _⟩ := HRD.out.2 h0
    cases h
  subst hn
  have hx : xs = [] := List.eq_nil_of_length_eq_zero (by simpa using HRD.out.1)
  subst hx
  exact ⟨_, rfl, Own.nil _ _ _ _ _, Below.refl _ _⟩
 | some a =>
  have hq := fun W => Lib.run_eql_slice_nil (P := Try.prog) W 22 3 (some a) n c 0 0 (by kernel_rfl)
  obtain ⟨v2, w2, hrun, ho, hg, _⟩ := run_append_fresh tInts (w.alloc (.cells #[] 3)) 22 w.heap.size (some ⟨w.heap.size, 0, none⟩) _ (some a) n c xs (HRD.out.alloc _) (by unfold maxLen; omega) (by omega) (by simp)
  have HRUN := Lib.hid hrun
  have HO := Lib.hid ho
  have HG := Lib.hid hg
  clear hrun ho hg
  go_enter Try.func34, Try.ntmps34
  go_wp2_with (at_builtin; refine Lib.wpList_append_run _ rfl _ _ _ _ rfl _ _ rfl rfl _ _ HRUN.out ?_)
  go_ret
  exact ⟨_, rfl, HO.out, ((Below.refl _ _).alloc (Nat.le_refl _) _).grown HG.out (by simp) (by simp)⟩
end Go.Proofs.Ytbmcoamdfpegnaa
namespace Go.Proofs.Ytbmcoamdfpegnaa
open Go.RowKit
set_option maxHeartbeats 1000000 in
theorem mul1 (w : World) (y : Int) (hy : 0 ≤ y ∧ y ≤ 16) : Calls Try.prog 85 #[.int .u64 1, .int .u64 y] w fun e w' => e = .returned (.tuple #[.int .u64 0, .int .u64 y]) ∧ w = w' := by
 have : y = 0 ∨ y = 1 ∨ y = 2 ∨ y = 3 ∨ y = 4 ∨ y = 5 ∨ y = 6 ∨ y = 7 ∨ y = 8 ∨ y = 9 ∨ y = 10 ∨ y = 11 ∨ y = 12 ∨ y = 13 ∨ y = 14 ∨ y = 15 ∨ y = 16 := by omega
 clear hy
 rcases this with rfl | rfl | rfl | rfl | rfl | rfl | rfl | rfl | rfl | rfl | rfl | rfl | rfl | rfl | rfl | rfl | rfl
 all_goals
  go_enter Try.func85, Try.ntmps85
  go_wp2_with go_in
  go_ret2
  exact ⟨rfl, rfl⟩
def repRow (v : Value) (k c : Nat) : List Value := List.replicate k v ++ List.replicate (c - k) (.int .i64 0)
theorem repRow_step (v : Value) (k c m : Nat) (hk : k + m ≤ c) : (repRow v k c).take k ++ List.replicate m v ++ (repRow v k c).drop (k + m) = repRow v (k + m) c := by
 unfold repRow
 rw [List.take_left' (by simp), List.drop_append, List.drop_of_length_le (by simp), List.length_replicate, List.nil_append, ← List.replicate_append_replicate (n := k)]
 congr 1
 rw [List.drop_replicate]
 congr 1
 omega
set_option maxRecDepth 100000 in
set_option maxHeartbeats 2000000 in
theorem repeatInt (w : World) (b : Nat) (v : Int) (c : Nat) (hc : 1 ≤ c) (hc2 : c ≤ 16) (hcell : w.cell? ⟨b, 0, none⟩ = some (.int .i64 v)) :
    Calls Try.prog 61 #[.slice (some ⟨b, 0, none⟩) 1 1, .int .i64 c] w fun e w' => ∃ u, e = .returned u ∧ Own w' w.heap.size 3 1 u c ((List.replicate c v).map (Value.int .i64)) ∧ Below w.heap.size w w' := by
 have hmk := tInts.make rfl c (by omega) (by omega) w
 have hmade : madeCells #[Value.int .i64 0] c = (repRow (.int .i64 v) 0 c).toArray := by
  apply Array.ext'
  rw [toList_madeCells_one]
  simp [repRow]
 rw [hmade] at hmk
 have hcp : ∀ ty, (Builtin.copy_ #[22, 22] ty #[.slice (some ⟨w.heap.size, 0, none⟩) c c, .slice (some ⟨b, 0, none⟩) 1 1]).run Try.prog (w.alloc (.cells (repRow (.int .i64 v) 0 c).toArray 3)) = .ok (goInt 1) ((w.alloc (.cells (repRow (.int .i64 v) 0 c).toArray 3)).setRow w.heap.size (repRow (.int .i64 v) 1 c).toArray) := by
  intro ty
  have h := run_copy_row Try.prog (w.alloc (.cells (repRow (.int .i64 v) 0 c).toArray 3)) 22 22 ty 3 w.heap.size 0 c c ⟨b, 0, none⟩ 1 1 (repRow (.int .i64 v) 0 c).toArray 3 [.int .i64 v] Try.underlying22 (by kernel_rfl) (heap_alloc_new w _) (by show 1 = min 1 c; omega)
   (fun j u hu => by
    cases j with
    | zero => obtain rfl : Value.int .i64 v = u := by simpa using hu
              rw [show (⟨b, 0, none⟩ : Addr).add 0 = ⟨b, 0, none⟩ from rfl, World.cell?_alloc_lt _ _ _ (cell_lt hcell)]
              exact hcell
    | succ j => simp at hu) (by simp [repRow]; omega) (by intro u hu; obtain rfl := List.mem_singleton.1 hu; rfl)
  rw [h]
  have := repRow_step (.int .i64 v) 0 c 1 (by omega)
  simp only [List.replicate_one] at this
  simp only [List.length_cons, List.length_nil, Nat.zero_add] at this ⊢
  rw [this]
  rfl
 have HCELL := Lib.hid hcell
 clear hcell hmade
 go_enter Try.func61, Try.ntmps61
 go_wp2_with (go_at_call 85; refine (mul1 _ _ ⟨by omega, by omega⟩).mono ?_; rintro e w' ⟨rfl, rfl⟩)
 have hst0 : ((w.alloc (.cells (repRow (.int .i64 v) 0 c).toArray 3)).setRow w.heap.size (repRow (.int .i64 v) 1 c).toArray).heap[w.heap.size]? = some (.cells (repRow (.int .i64 v) 1 c).toArray 3 (0, 0)) := setRow_heap _ _ _ _ _ _ (heap_alloc_new w _)
 have hb0 : Below w.heap.size w ((w.alloc (.cells (repRow (.int .i64 v) 0 c).toArray 3)).setRow w.heap.size (repRow (.int .i64 v) 1 c).toArray) := below_setRow ((Below.refl _ _).alloc (Nat.le_refl _) _) (Nat.le_refl _) _
 have HST0 := Lib.hid hst0
 have HB0 := Lib.hid hb0
 clear hst0 hb0 hcp hmk
 go_loopg [8] (c - 1) (fun gk i wr => ∃ k : Nat, 1 ≤ k ∧ k ≤ c ∧ gk = c - k ∧ i = .int .i64 k ∧ wr.heap[w.heap.size]? = some (.cells (repRow (.int .i64 v) k c).toArray 3 (0, 0)) ∧ Below w.heap.size w wr)
 case atStart => exact ⟨1, by omega, by omega, rfl, rfl, HST0.out, HB0.out⟩
 case round =>
  obtain ⟨k, hk1, hk, hgk, rfl, hh, hb⟩ := hrel
  have HGK := Lib.hid hgk
  clear hgk
  have HH := Lib.hid hh
  have HB := Lib.hid hb
  clear HST0 HB0 hb
  by_cases hlt : k < c
  ·
   obtain ⟨m, hm, hm1, hm2⟩ : ∃ m, m = min k (c - k) ∧ 1 ≤ m ∧ k + m ≤ c := ⟨_, rfl, by omega, by omega⟩
   have hcp : ∀ ty, (Builtin.copy_ #[22, 22] ty #[.slice (some ⟨w.heap.size, k, none⟩) (c - k) (c - k), .slice (some ⟨w.heap.size, 0, none⟩) k c]).run Try.prog wr.drew = .ok (.int .i64 m) (wr.drew.setRow w.heap.size (repRow (.int .i64 v) (k + m) c).toArray) := by
    intro ty
    have h := run_copy_row Try.prog wr.drew 22 22 ty 3 w.heap.size k (c - k) (c - k) ⟨w.heap.size, 0, none⟩ k c (repRow (.int .i64 v) k c).toArray 3 (List.replicate m (.int .i64 v)) Try.underlying22 (by kernel_rfl) hh (by simp; exact hm)
     (fun j u hu => by
      obtain ⟨hj, rfl⟩ := List.getElem?_eq_some_iff.1 hu
      rw [List.length_replicate] at hj
      have : wr.drew.cell? ((⟨w.heap.size, 0, none⟩ : Addr).add j) = (repRow (.int .i64 v) k c).toArray[j]? := by
       by_cases h0 : j = 0
       ·
        subst h0; exact cell_of_row wr.drew _ 0 _ _ _ hh
       ·
        have := cell_of_row wr.drew w.heap.size j _ _ _ hh
        simpa [Addr.add, h0] using this
      rw [this]
      simp [repRow, List.getElem?_append, show j < k by omega]) (by simp [repRow]; omega) (by intro u hu; rw [List.eq_of_mem_replicate hu]; rfl)
    rw [h]
    have := repRow_step (.int .i64 v) k c m hm2
    simp only [List.length_replicate] at this ⊢
    rw [this]
    rfl
   have hcut : ∀ u, (Instr.slice 22 (.slice (some ⟨w.heap.size, 0, none⟩) c c) (some (.int .i64 (k : Int))) none none).run Try.prog u = .ok (.slice (some ⟨w.heap.size, k, none⟩) (c - k) (c - k)) u := fun u => by
    rw [tInts.ll _ c c (k : Int) (by omega) (by omega) u]
    simp [show ¬ c = k by omega, Addr.add, show ¬ k = 0 by omega]
   have hcut2 := fun u => tInts.hN (some ⟨w.heap.size, 0, none⟩) c c k hk u
   have hwr : IntKind.i64.wrap ((k : Int) + (m : Int)) = (k : Int) + (m : Int) := IntWalk.i64_in _ (by omega)
   clear hh hm
   go_wp2_with fail
   go_region
   go_wp2_with fail
   go_roundg (c - (k + m))
   case rel => exact ⟨k + m, by omega, hm2, rfl, by go_num, setRow_heap _ _ _ _ _ _ HH.out, below_setRow HB.out.drew (Nat.le_refl _) _⟩
   case measure => rw [HGK.out]; omega
  ·
   obtain rfl : k = c := by omega
   clear hh
   go_wp2_with fail
   go_ret
   refine ⟨_, rfl, .inl ⟨by simp, .inr ⟨w.heap.size, k, _, rfl, Nat.le_refl _, HH.out, Nat.le_refl _, by unfold maxLen; omega, by simp [repRow], ?_⟩⟩, HB.out⟩
   simp [repRow]
end Go.Proofs.Ytbmcoamdfpegnaa
