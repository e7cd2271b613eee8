/- slices.Index, slices.Contains of ints. -/
import Derived.Test.YtjeklijkncbaaaaMinMax
namespace Go.Proofs.Ytjeklijkncbaaaa
open Go.RowKit

def idxInt (l : List Int) (x : Int) : Int := if l.contains x then (l.idxOf x : Nat) else -1
theorem idx_hit {l : List Int} {k : Nat} {x : Int} (h : l[k]? = some x) (hn : (l.take k).contains x = false) : idxInt l x = k := by
  obtain ⟨hk, rfl⟩ := List.getElem?_eq_some_iff.1 h
  unfold idxInt
  rw [if_pos (by simp)]
  have e : l = l.take k ++ l[k] :: l.drop (k + 1) := by rw [← List.drop_eq_getElem_cons hk, List.take_append_drop]
  have hni : l[k] ∉ l.take k := by simpa using hn
  have : l.idxOf l[k] = k := by
    conv => lhs; arg 2; rw [e]
    rw [List.idxOf_append, if_neg hni, List.idxOf_cons_self, List.length_take]; omega
  rw [this]
theorem contains_snoc (l : List Int) (x y : Int) : (l ++ [y]).contains x = (l.contains x || x == y) := by
  simp
  rfl
set_option maxHeartbeats 1000000 in
theorem indexInt (A : Option Addr) (n c : Nat) (S : Nat → Prop) (l : List Int) (x : Int) (w : World) (hr : Rd w S 1 A n (l.map (Value.int .i64))) (hn : n ≤ 1000000000000) :
    Calls Try.prog 32 #[.slice A n c, .int .i64 x] w fun e w' => e = .returned (.int .i64 (idxInt l x)) ∧ w = w' := by
  have hl : l.length = n := by simpa using hr.1
  have HL := Lib.hid hl
  have HR := Lib.hid hr
  clear hl hr
  go_enter Try.func32, Try.ntmps32
  go_wp2_with fail
  go_loop [8] (fun i => ∃ k : Nat, k ≤ n ∧ i = .int .i64 k ∧ (l.take k).contains x = false) (fun i => n - (intOf i).toNat)
  case atStart => exact ⟨0, Nat.zero_le _, rfl, rfl⟩
  case round =>
    obtain ⟨k, hk, rfl, hno⟩ := hrel
    have HNO := Lib.hid hno
    clear hno
    by_cases hlt : k < n
    · obtain ⟨b, off, y, rfl, _, hy, hcell⟩ := HR.out.int_at hlt
      have HY := Lib.hid hy
      clear hy
      by_cases hxy : x = y
      · subst hxy
        have HH := Lib.hid (idx_hit HY.out HNO.out)
        go_wp2_with fail
        go_ret
        exact ⟨ret_int HH.out.symm, rfl⟩
      · have hxb : (x == y) = false := by simpa using hxy
        go_wp2_with fail
        go_round
        case rel => exact ⟨k + 1, by omega, by go_num, by rw [int_step HY.out, contains_snoc, HNO.out, hxb]; rfl⟩
        case measure => simp [intOf]; omega
    · obtain rfl : k = n := by omega
      go_wp2_with fail
      go_ret
      have h := HNO.out
      rw [List.take_of_length_le (by rw [HL.out]; omega)] at h
      exact ⟨ret_int (by simp [idxInt]; intro h2; simp [h2] at h), rfl⟩
set_option maxHeartbeats 1000000 in
theorem containsInt (A : Option Addr) (n c : Nat) (S : Nat → Prop) (l : List Int) (x : Int) (w : World) (hr : Rd w S 1 A n (l.map (Value.int .i64))) (hn : n ≤ 1000000000000) :
    Calls Try.prog 19 #[.slice A n c, .int .i64 x] w fun e w' => e = .returned (.bool (l.contains x)) ∧ w = w' := by
  have HR := Lib.hid hr
  clear hr
  cases hx : l.contains x with
  | true =>
    have h : idxInt l x = (l.idxOf x : Nat) := by unfold idxInt; rw [if_pos hx]
    have HH := Lib.hid h
    clear h hx
    go_enter Try.func19, Try.ntmps19
    go_wp2_with (go_at_call 32; refine (indexInt _ _ _ _ _ _ _ HR.out hn).mono ?_; rintro e w' ⟨rfl, rfl⟩; rw [HH.out])
    go_ret
    exact ⟨ret_bool (by simp), rfl⟩
  | false =>
    have h : idxInt l x = -1 := by unfold idxInt; rw [hx]; rfl
    have HH := Lib.hid h
    clear h hx
    go_enter Try.func19, Try.ntmps19
    go_wp2_with (go_at_call 32; refine (indexInt _ _ _ _ _ _ _ HR.out hn).mono ?_; rintro e w' ⟨rfl, rfl⟩; rw [HH.out])
    go_ret
    exact ⟨ret_bool (by simp), rfl⟩
end Go.Proofs.Ytjeklijkncbaaaa
