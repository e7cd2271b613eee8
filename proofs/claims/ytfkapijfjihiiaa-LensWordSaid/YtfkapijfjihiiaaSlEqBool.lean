/- slices.Equal, Index, Contains of bools. -/
import Derived.Test.YtfkapijfjihiiaaMinMax
import Derived.Test.YtfkapijfjihiiaaSlEqInt
import Derived.Deep.QuietTactic
import Derived.BigQuiet
namespace Go.Proofs.Ytfkapijfjihiiaa
open Go.RowKit

theorem bool_step {l : List Bool} {k : Nat} {x : Bool} (h : l[k]? = some x) : l.take (k + 1) = l.take k ++ [x] := by
  rw [List.take_add_one, h]; rfl
theorem Rd.bool_at {w : World} {S : Nat → Prop} {A : Option Addr} {n k : Nat} {l : List Bool} (h : Rd w S 1 A n (l.map Value.bool)) (hk : k < n) :
    ∃ (b off : Nat) (x : Bool), A = some ⟨b, off, none⟩ ∧ S b ∧ l[k]? = some x ∧ w.cell? ⟨b, off + k, none⟩ = some (.bool x) := by
  obtain ⟨b, off, u, e, hb, hx, hc⟩ := h.at_ hk
  rw [List.getElem?_map] at hx
  obtain ⟨x, h1, h2⟩ := Option.map_eq_some_iff.1 hx
  exact ⟨b, off, x, e, hb, h1, by rw [hc, h2]⟩
set_option maxHeartbeats 1000000 in
theorem equalBool (A1 A2 : Option Addr) (n1 c1 n2 c2 : Nat) (S1 S2 : Nat → Prop) (l1 l2 : List Bool) (w : World) (hr1 : Rd w S1 1 A1 n1 (l1.map (Value.bool))) (hr2 : Rd w S2 1 A2 n2 (l2.map (Value.bool))) (hn : n1 ≤ 1000000000000) (hn2 : n2 ≤ 1000000000000) :
    Calls Try.prog 15 #[.slice A1 n1 c1, .slice A2 n2 c2] w fun e w' => e = .returned (.bool (l1 == l2)) ∧ ∃ d, w' = w.drewN d := by
  have hl1 : l1.length = n1 := by simpa using hr1.1
  have hl2 : l2.length = n2 := by simpa using hr2.1
  have HL1 := Lib.hid hl1
  have HL2 := Lib.hid hl2
  have HR1 := Lib.hid hr1
  have HR2 := Lib.hid hr2
  clear hl1 hl2 hr1 hr2
  by_cases hne : n1 = n2
  · subst hne
    go_enter Try.func15, Try.ntmps15
    go_wp2_with fail
    go_loopw [13] (fun i wr => ∃ k d : Nat, k ≤ n1 ∧ i = .int .i64 k ∧ wr = w.drewN d ∧ l1.take k = l2.take k) (fun i _ => n1 - (intOf i).toNat)
    case atStart => exact ⟨0, 0, Nat.zero_le _, rfl, rfl, rfl⟩
    case round =>
      obtain ⟨k, d, hk, rfl, rfl, heq⟩ := hrel
      have HE := Lib.hid heq
      clear heq
      by_cases hlt : k < n1
      · obtain ⟨b1, off1, x1, rfl, _, hx1, hcell1⟩ := HR1.out.bool_at hlt
        obtain ⟨b2, off2, x2, rfl, _, hx2, hcell2⟩ := HR2.out.bool_at hlt
        have HX1 := Lib.hid hx1
        have HX2 := Lib.hid hx2
        have hb1 : (k : Int) < (n1 : Int) := by omega
        clear hx1 hx2
        by_cases hxe : x1 = x2
        · subst hxe
          go_wp2_with fail
          go_quiet (fail)
          go_wp2_with fail
          go_roundw
          case rel => exact ⟨k + 1, _, by omega, by go_num, rfl, by rw [bool_step HX1.out, bool_step HX2.out, HE.out]⟩
          case measure => simp [intOf]; omega
        · have hxb : (x1 == x2) = false := by simpa using hxe
          go_wp2_with fail
          go_quiet (fail)
          go_wp2_with fail
          go_ret
          have he : (l1 == l2) = false := by
            simp only [beq_eq_false_iff_ne]
            rintro rfl
            have h := HX1.out.symm.trans HX2.out
            injection h with h
            exact hxe h
          exact ⟨ret_bool he.symm, _, World.drewN_drewN _ _ _⟩
      · obtain rfl : k = n1 := by omega
        go_wp2_with fail
        go_ret
        have he := HE.out
        rw [List.take_of_length_le (by rw [HL1.out]; omega), List.take_of_length_le (by rw [HL2.out]; omega)] at he
        subst he
        exact ⟨ret_bool (by simp), d, rfl⟩
  · have hnb : ((n1 : Int) != (n2 : Int)) = true := by simp; omega
    go_enter Try.func15, Try.ntmps15
    go_wp2_with fail
    go_ret
    have he : (l1 == l2) = false := by
      simp only [beq_eq_false_iff_ne]
      rintro rfl
      exact hne (HL1.out.symm.trans HL2.out)
    exact ⟨ret_bool he.symm, 0, rfl⟩
def idxBool (l : List Bool) (x : Bool) : Int := if l.contains x then (l.idxOf x : Nat) else -1
theorem idxB_hit {l : List Bool} {k : Nat} {x : Bool} (h : l[k]? = some x) (hn : (l.take k).contains x = false) : idxBool l x = k := by
  obtain ⟨hk, rfl⟩ := List.getElem?_eq_some_iff.1 h
  unfold idxBool
  rw [if_pos (by simp)]
  have e : l = l.take k ++ l[k] :: l.drop (k + 1) := by rw [← List.drop_eq_getElem_cons hk, List.take_append_drop]
  have hni : l[k] ∉ l.take k := by simpa using hn
  have : l.idxOf l[k] = k := by
    conv => lhs; arg 2; rw [e]
    rw [List.idxOf_append, if_neg hni, List.idxOf_cons_self, List.length_take]; omega
  rw [this]
theorem containsB_snoc (l : List Bool) (x y : Bool) : (l ++ [y]).contains x = (l.contains x || x == y) := by
  simp
  rfl
set_option maxHeartbeats 1000000 in
theorem indexBool (A : Option Addr) (n c : Nat) (S : Nat → Prop) (l : List Bool) (x : Bool) (w : World) (hr : Rd w S 1 A n (l.map (Value.bool))) (hn : n ≤ 1000000000000) :
    Calls Try.prog 41 #[.slice A n c, .bool x] w fun e w' => e = .returned (.int .i64 (idxBool l x)) ∧ w = w' := by
  have hl : l.length = n := by simpa using hr.1
  have HL := Lib.hid hl
  have HR := Lib.hid hr
  clear hl hr
  go_enter Try.func41, Try.ntmps41
  go_wp2_with fail
  go_loop [8] (fun i => ∃ k : Nat, k ≤ n ∧ i = .int .i64 k ∧ (l.take k).contains x = false) (fun i => n - (intOf i).toNat)
  case atStart => exact ⟨0, Nat.zero_le _, rfl, rfl⟩
  case round =>
    obtain ⟨k, hk, rfl, hno⟩ := hrel
    have HNO := Lib.hid hno
    clear hno
    by_cases hlt : k < n
    · obtain ⟨b, off, y, rfl, _, hy, hcell⟩ := HR.out.bool_at hlt
      have HY := Lib.hid hy
      clear hy
      by_cases hxy : x = y
      · subst hxy
        have HH := Lib.hid (idxB_hit HY.out HNO.out)
        go_wp2_with fail
        go_ret
        exact ⟨ret_int HH.out.symm, rfl⟩
      · have hxb : (x == y) = false := by simpa using hxy
        go_wp2_with fail
        go_round
        case rel => exact ⟨k + 1, by omega, by go_num, by rw [bool_step HY.out, containsB_snoc, HNO.out, hxb]; rfl⟩
        case measure => simp [intOf]; omega
    · obtain rfl : k = n := by omega
      go_wp2_with fail
      go_ret
      have h := HNO.out
      rw [List.take_of_length_le (by rw [HL.out]; omega)] at h
      exact ⟨ret_int (by simp [idxBool]; intro h2; simp [h2] at h), rfl⟩
set_option maxHeartbeats 1000000 in
theorem containsBool (A : Option Addr) (n c : Nat) (S : Nat → Prop) (l : List Bool) (x : Bool) (w : World) (hr : Rd w S 1 A n (l.map (Value.bool))) (hn : n ≤ 1000000000000) :
    Calls Try.prog 16 #[.slice A n c, .bool x] w fun e w' => e = .returned (.bool (l.contains x)) ∧ w = w' := by
  have HR := Lib.hid hr
  clear hr
  cases hx : l.contains x with
  | true =>
    have h : idxBool l x = (l.idxOf x : Nat) := by unfold idxBool; rw [if_pos hx]
    have HH := Lib.hid h
    clear h hx
    go_enter Try.func16, Try.ntmps16
    go_wp2_with (go_at_call 41; refine (indexBool _ _ _ _ _ _ _ HR.out hn).mono ?_; rintro e w' ⟨rfl, rfl⟩; rw [HH.out])
    go_ret
    exact ⟨ret_bool (by simp), rfl⟩
  | false =>
    have h : idxBool l x = -1 := by unfold idxBool; rw [hx]; rfl
    have HH := Lib.hid h
    clear h hx
    go_enter Try.func16, Try.ntmps16
    go_wp2_with (go_at_call 41; refine (indexBool _ _ _ _ _ _ _ HR.out hn).mono ?_; rintro e w' ⟨rfl, rfl⟩; rw [HH.out])
    go_ret
    exact ⟨ret_bool (by simp), rfl⟩
end Go.Proofs.Ytfkapijfjihiiaa
