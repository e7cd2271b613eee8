/- cmp.Compare of ints, slices.Compare, slices.IndexFunc and ContainsFunc of ints. -/
import Derived.Test.YtgaahpddlohjoaaMinMax
import Derived.Shelf.Abstract
namespace Go.Proofs.Ytgaahpddlohjoaa
open Go.RowKit

def cmpI (x y : Int) : Int := if x < y then -1 else if y < x then 1 else 0
set_option maxHeartbeats 1000000 in
theorem cmpIntC (x y : Int) (w : World) : Calls Try.prog 125 #[.int .i64 x, .int .i64 y] w fun e w' => e = .returned (.int .i64 (cmpI x y)) ∧ w = w' := by
  by_cases h1 : x < y
  · go_enter Try.func125, Try.ntmps125
    go_wp2
    go_ret
    exact ⟨ret_int (by simp [cmpI, h1]), rfl⟩
  · by_cases h2 : y < x
    · go_enter Try.func125, Try.ntmps125
      go_wp2
      go_ret
      exact ⟨ret_int (by simp [cmpI, h1, h2]), rfl⟩
    · go_enter Try.func125, Try.ntmps125
      go_wp2
      go_ret
      exact ⟨ret_int (by unfold cmpI; rw [if_neg (by omega), if_neg (by omega)]), rfl⟩
/-- how two lists compare -/
def cmpL : List Int → List Int → Int
  | [], [] => 0
  | [], _ :: _ => -1
  | _ :: _, [] => 1
  | x :: l, y :: m => if cmpI x y = 0 then cmpL l m else cmpI x y
theorem cmpI_zero {x y : Int} (h : cmpI x y = 0) : x = y := by
  unfold cmpI at h
  split at h
  · omega
  · split at h
    · omega
    · omega
theorem cmpL_drop {l m : List Int} {k : Nat} {x y : Int} (h1 : l[k]? = some x) (h2 : m[k]? = some y) (hc : cmpI x y = 0) : cmpL (l.drop k) (m.drop k) = cmpL (l.drop (k + 1)) (m.drop (k + 1)) := by
  obtain ⟨a1, rfl⟩ := List.getElem?_eq_some_iff.1 h1
  obtain ⟨a2, rfl⟩ := List.getElem?_eq_some_iff.1 h2
  rw [List.drop_eq_getElem_cons a1, List.drop_eq_getElem_cons a2, cmpL, if_pos hc]
theorem cmpL_stop {l m : List Int} {k : Nat} {x y : Int} (h1 : l[k]? = some x) (h2 : m[k]? = some y) (hc : cmpI x y ≠ 0) : cmpL (l.drop k) (m.drop k) = cmpI x y := by
  obtain ⟨a1, rfl⟩ := List.getElem?_eq_some_iff.1 h1
  obtain ⟨a2, rfl⟩ := List.getElem?_eq_some_iff.1 h2
  rw [List.drop_eq_getElem_cons a1, List.drop_eq_getElem_cons a2, cmpL, if_neg hc]
set_option maxHeartbeats 1000000 in
theorem compareInt (A1 A2 : Option Addr) (n1 c1 n2 c2 : Nat) (S1 S2 : Nat → Prop) (l1 l2 : List Int) (w : World) (hr1 : Rd w S1 1 A1 n1 (l1.map (Value.int .i64))) (hr2 : Rd w S2 1 A2 n2 (l2.map (Value.int .i64))) (hn : n1 ≤ 1000000000000) :
    Calls Try.prog 138 #[.slice A1 n1 c1, .slice A2 n2 c2] w fun e w' => e = .returned (.int .i64 (cmpL l1 l2)) ∧ w = w' := by
  have hl1 : l1.length = n1 := by simpa using hr1.1
  have hl2 : l2.length = n2 := by simpa using hr2.1
  have HL1 := Lib.hid hl1
  have HL2 := Lib.hid hl2
  have HR1 := Lib.hid hr1
  have HR2 := Lib.hid hr2
  clear hl1 hl2 hr1 hr2
  go_enter Try.func138, Try.ntmps138
  go_wp2_with fail
  go_loop [11] (fun i => ∃ k : Nat, k ≤ n1 ∧ k ≤ n2 ∧ i = .int .i64 k ∧ cmpL l1 l2 = cmpL (l1.drop k) (l2.drop k)) (fun i => n1 - (intOf i).toNat)
  case atStart => exact ⟨0, Nat.zero_le _, Nat.zero_le _, rfl, rfl⟩
  case round =>
    obtain ⟨k, hk1, hk2, rfl, heq⟩ := hrel
    have HE := Lib.hid heq
    clear heq
    by_cases hlt : k < n1
    · obtain ⟨b1, o1, x, rfl, _, hx, hcell1⟩ := HR1.out.int_at hlt
      have HX := Lib.hid hx
      clear hx
      by_cases hlt2 : k < n2
      · obtain ⟨b2, o2, y, rfl, _, hy, hcell2⟩ := HR2.out.int_at hlt2
        have HY := Lib.hid hy
        clear hy
        by_cases hc : cmpI x y = 0
        · have HC := Lib.hid hc
          clear hc
          go_wp2_with (go_at_call 125; refine (cmpIntC _ _ _).mono ?_; rintro e w' ⟨rfl, rfl⟩; rw [HC.out])
          go_round
          case rel => exact ⟨k + 1, by omega, by omega, by go_num, by rw [HE.out, cmpL_drop HX.out HY.out HC.out]⟩
          case measure => simp [intOf]; omega
        · have hcb : (cmpI x y != 0) = true := by simpa using hc
          have HF := Lib.hid (cmpL_stop HX.out HY.out hc)
          go_wp2_with (go_at_call 125; refine (cmpIntC _ _ _).mono ?_; rintro e w' ⟨rfl, rfl⟩)
          go_ret
          exact ⟨ret_int (by rw [HE.out, HF.out]), rfl⟩
      · have hf : cmpL (l1.drop k) (l2.drop k) = 1 := by
          obtain ⟨a1, rfl⟩ := List.getElem?_eq_some_iff.1 HX.out
          rw [List.drop_eq_getElem_cons a1, List.drop_of_length_le (l := l2) (by rw [HL2.out]; omega), cmpL]
        have HF := Lib.hid hf
        clear hf
        go_wp2_with fail
        go_ret
        exact ⟨ret_int (by rw [HE.out, HF.out]), rfl⟩
    · obtain rfl : k = n1 := by omega
      have hd : l1.drop k = [] := List.drop_of_length_le (by rw [HL1.out]; omega)
      by_cases hlt2 : k < n2
      · have hf : cmpL (l1.drop k) (l2.drop k) = -1 := by rw [hd, List.drop_eq_getElem_cons (by rw [HL2.out]; omega), cmpL]
        have HF := Lib.hid hf
        clear hf hd
        go_wp2_with fail
        go_ret
        exact ⟨ret_int (by rw [HE.out, HF.out]), rfl⟩
      · have hf : cmpL (l1.drop k) (l2.drop k) = 0 := by rw [hd, List.drop_of_length_le (l := l2) (by rw [HL2.out]; omega), cmpL]
        have HF := Lib.hid hf
        clear hf hd
        go_wp2_with fail
        go_ret
        exact ⟨ret_int (by rw [HE.out, HF.out]), rfl⟩
end Go.Proofs.Ytgaahpddlohjoaa
