/- The condition of words that the laws of chapter 58 use: parlkeep5.fails and its closure. -/
import Derived.Test.YtjeklijkncbaaaaShrinkW
import Derived.Test.YtjeklijkncbaaaaBelow
import Derived.Deep.RegionWith
import Derived.Shelf.Abstract
namespace Go.Proofs.Ytjeklijkncbaaaa
open Go.RowKit

/-- the sum of (x + 1) * (i + a) -/
def sumF (a : Int) : List Int → Int → Int
  | [], _ => 0
  | x :: l, i => (x + 1) * (i + a) + sumF a l (i + 1)
theorem sumF_snoc (a x : Int) : ∀ (l : List Int) (i : Int), sumF a (l ++ [x]) i = sumF a l i + (x + 1) * (i + l.length + a)
  | [], i => by simp [sumF]
  | y :: l, i => by
    rw [List.cons_append, sumF, sumF, sumF_snoc a x l (i + 1), List.length_cons]
    have : (i + 1 + (l.length : Int)) = i + ((l.length + 1 : Nat) : Int) := by omega
    rw [this]; omega
def failsP (a b : Int) (l : List Int) : Bool := (sumF a l 0 % 3 == b) || decide (4 + a < (l.length : Int))
/-- the words that the laws draw -/
def Good (l : List Int) : Prop := l.length ≤ 60 ∧ ∀ x ∈ l, 0 ≤ x ∧ x ≤ 7
theorem Good.erase {l : List Int} (i : Nat) (h : Good l) : Good (l.eraseIdx i) :=
  ⟨Nat.le_trans (List.eraseIdx_sublist l i).length_le h.1, fun x hx => h.2 x ((List.eraseIdx_sublist l i).subset hx)⟩
theorem prod_le {x y : Int} {X Y : Int} (h0 : 0 ≤ x) (h1 : x ≤ X) (h2 : 0 ≤ y) (h3 : y ≤ Y) : 0 ≤ x * y ∧ x * y ≤ X * Y :=
  ⟨Int.mul_nonneg h0 h2, Int.mul_le_mul h1 h3 h2 (by omega)⟩
theorem sumF_le (a : Int) (ha : 0 ≤ a) (ha2 : a ≤ 4) : ∀ (l : List Int) (i : Int), (∀ x ∈ l, 0 ≤ x ∧ x ≤ 7) → 0 ≤ i → i + l.length ≤ 60 → 0 ≤ sumF a l i ∧ sumF a l i ≤ 512 * (l.length : Int)
  | [], i, _, _, _ => by simp [sumF]
  | x :: l, i, h, h0, h1 => by
    have hx := h x (by simp)
    rw [List.length_cons] at h1
    have ih := sumF_le a ha ha2 l (i + 1) (fun y hy => h y (by simp [hy])) (by omega) (by omega)
    have hp := prod_le (x := x + 1) (y := i + a) (X := 8) (Y := 64) (by omega) (by omega) (by omega) (by omega)
    rw [sumF, List.length_cons]
    omega

set_option maxHeartbeats 1000000 in
theorem failsBody (w : World) (ba bb : Nat) (a b : Int) (A : Option Addr) (n c : Nat) (S : Nat → Prop) (l : List Int) (ha : 0 ≤ a) (ha2 : a ≤ 4)
    (hca : w.cell? ⟨ba, 0, none⟩ = some (.int .i64 a)) (hcb : w.cell? ⟨bb, 0, none⟩ = some (.int .i64 b)) (hr : Rd w S 1 A n (l.map (Value.int .i64))) (hG : Good l) :
    Calls Try.prog 33 #[.slice A n c, .pointer (some ⟨ba, 0, none⟩), .pointer (some ⟨bb, 0, none⟩)] w fun e w' => e = .returned (.bool (failsP a b l)) ∧ w = w' := by
  have hl : l.length = n := by simpa using hr.1
  have hn : n ≤ 60 := by have := hG.1; omega
  have HG := Lib.hid hG
  have HR := Lib.hid hr
  have HL := Lib.hid hl
  clear hG hr hl
  go_enter Try.func33, Try.ntmps33
  go_wp2_with fail
  go_loop [5, 10] (fun t i => ∃ k : Nat, k ≤ n ∧ i = .int .i64 k ∧ t = .int .i64 (sumF a (l.take k) 0)) (fun _ i => n - (intOf i).toNat)
  case atStart => exact ⟨0, Nat.zero_le _, rfl, rfl⟩
  case round =>
    obtain ⟨k, hk, rfl, rfl⟩ := hrel
    have hq := sumF_le a ha ha2 (l.take k) 0 (fun x hx => HG.out.2 x (List.mem_of_mem_take hx)) (by omega) (by rw [List.length_take, HL.out]; omega)
    have hq2 : sumF a (l.take k) 0 ≤ 30720 := by rw [List.length_take, HL.out] at hq; omega
    have hq1 := hq.1
    clear hq
    by_cases hlt : k < n
    · obtain ⟨b', off, x, rfl, _, hx, hcell⟩ := HR.out.int_at hlt
      have hx7 := HG.out.2 x (List.mem_of_getElem? hx)
      have hst : sumF a (l.take (k + 1)) 0 = sumF a (l.take k) 0 + (x + 1) * ((k : Int) + a) := by
        rw [int_step hx, sumF_snoc, List.length_take, HL.out, Nat.min_eq_left (by omega), Int.zero_add]
      have hp := prod_le (x := x + 1) (y := (k : Int) + a) (X := 8) (Y := 64) (by omega) (by omega) (by omega) (by omega)
      obtain ⟨hx0, hx7⟩ := hx7
      generalize hP : (x + 1) * ((k : Int) + a) = P at hst hp
      have hw : wrap64 ((x + 1) * ((k : Int) + a)) = P := by rw [hP, IntWalk.wrap64_in _ ⟨by omega, by omega⟩]
      obtain ⟨hp1, hp2⟩ := hp
      have HST := Lib.hid hst
      clear hst hP hx
      generalize sumF a (l.take k) 0 = q at *
      go_wp2_with fail
      go_round
      case rel => exact ⟨k + 1, by omega, by go_num, by rw [HST.out]⟩
      case measure => simp [intOf]; omega
    · obtain rfl : k = n := by omega
      rw [List.take_of_length_le (by rw [HL.out]; omega)] at hq1 hq2 ⊢
      have hfp : failsP a b l = ((sumF a l 0 % 3 == b) || decide (4 + a < (k : Int))) := by rw [failsP, HL.out]
      have HFP := Lib.hid hfp
      clear hfp
      generalize sumF a l 0 = q at *
      cases h1 : (q % 3 == b) with
      | true =>
        go_wp2_with fail
        go_ret
        exact ⟨ret_bool (by rw [HFP.out, h1]; rfl), rfl⟩
      | false =>
        cases h2 : decide (4 + a < (k : Int)) with
        | true =>
          go_wp2_with fail
          go_ret
          exact ⟨ret_bool (by rw [HFP.out, h1, h2]; rfl), rfl⟩
        | false =>
          go_wp2_with fail
          go_ret
          exact ⟨ret_bool (by rw [HFP.out, h1, h2]; rfl), rfl⟩
set_option maxHeartbeats 1000000 in
theorem failsMake (w : World) (a b : Int) :
    Calls Try.prog 21 #[.int .i64 a, .int .i64 b] w fun e w' => e = .returned (.func (.func 33) #[] #[.pointer (some ⟨w.heap.size, 0, none⟩), .pointer (some ⟨w.heap.size + 1, 0, none⟩)]) ∧
      w'.cell? ⟨w.heap.size, 0, none⟩ = some (.int .i64 (a % 5)) ∧ w'.cell? ⟨w.heap.size + 1, 0, none⟩ = some (.int .i64 (b % 3)) ∧ Below w.heap.size w w' := by
  go_enter Try.func21, Try.ntmps21
  go_wp2_with fail
  go_region_with (go_at_call 9; refine (keepBelow _ _ _ (by omega) (by omega)).mono ?_; rintro e w' ⟨rfl, rfl⟩)
  all_goals
    go_wp2_with fail
    go_ret
    refine ⟨rfl, ?_, ?_, (((Below.refl _ _).alloc (Nat.le_refl _) _).alloc (by simp) _).drew⟩
    · simp
    · simp
theorem tellsFails (w0 : World) (ba bb : Nat) (a b : Int) (ha : 0 ≤ a) (ha2 : a ≤ 4) (hca : w0.cell? ⟨ba, 0, none⟩ = some (.int .i64 a)) (hcb : w0.cell? ⟨bb, 0, none⟩ = some (.int .i64 b)) :
    Tells Try.prog w0 Good (failsP a b) 33 #[.pointer (some ⟨ba, 0, none⟩), .pointer (some ⟨bb, 0, none⟩)] := by
  intro w hb A n c S l hr hG
  have h := failsBody w ba bb a b A n c S l ha ha2 ((hb.cell (p := ⟨ba, 0, none⟩) (cell_lt hca)).trans hca) ((hb.cell (p := ⟨bb, 0, none⟩) (cell_lt hcb)).trans hcb) hr hG
  exact h.mono fun e w' ⟨h1, h2⟩ => ⟨h1, by subst h2; exact Below.refl _ _⟩
theorem entersFails : ∀ (args : Array Value) (u : World), (callFunc 33 args).run Try.prog u = .ok (.enter 33 args) u := enters_of Try.func33 (by kernel_rfl) rfl
end Go.Proofs.Ytjeklijkncbaaaa
