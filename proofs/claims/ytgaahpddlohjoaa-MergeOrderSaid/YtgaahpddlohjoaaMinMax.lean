/- slices.Min, slices.Max of ints. -/
import Derived.Test.YtgaahpddlohjoaaRep
import Derived.LoopTactic
import Derived.Outline
import Derived.WalkLawsBesides
namespace Go.Proofs.Ytgaahpddlohjoaa
open Go.RowKit

def lmin : List Int → Int
  | [] => 0
  | a :: r => r.foldl min a
def lmax : List Int → Int
  | [] => 0
  | a :: r => r.foldl max a
theorem lmin_snoc (l : List Int) (x : Int) (h : 1 ≤ l.length) : lmin (l ++ [x]) = min (lmin l) x := by
  cases l with
  | nil => simp at h
  | cons a r => simp [lmin]
theorem lmax_snoc (l : List Int) (x : Int) (h : 1 ≤ l.length) : lmax (l ++ [x]) = max (lmax l) x := by
  cases l with
  | nil => simp at h
  | cons a r => simp [lmax]
theorem int_step {l : List Int} {k : Nat} {x : Int} (h : l[k]? = some x) : l.take (k + 1) = l.take k ++ [x] := by
  obtain ⟨hk, rfl⟩ := List.getElem?_eq_some_iff.1 h
  exact List.take_succ_eq_append_getElem hk
theorem Rd.int_at {w : World} {S : Nat → Prop} {A : Option Addr} {n k : Nat} {l : List Int} (h : Rd w S 1 A n (l.map (Value.int .i64))) (hk : k < n) :
    ∃ b off x, A = some ⟨b, off, none⟩ ∧ S b ∧ l[k]? = some x ∧ w.cell? ⟨b, off + k, none⟩ = some (.int .i64 x) := by
  obtain ⟨b, off, u, e, hb, hx, hc⟩ := h.at_ hk
  rw [List.getElem?_map] at hx
  obtain ⟨x, h1, rfl⟩ := Option.map_eq_some_iff.1 hx
  exact ⟨b, off, x, e, hb, h1, hc⟩

set_option maxHeartbeats 1000000 in
theorem minInt (A : Option Addr) (n c : Nat) (S : Nat → Prop) (l : List Int) (w : World) (hr : Rd w S 1 A n (l.map (Value.int .i64))) (h0 : 0 < n) (hn : n ≤ 1000000000000) :
    Calls Try.prog 76 #[.slice A n c] w fun e w' => e = .returned (.int .i64 (lmin l)) ∧ w = w' := by
  obtain ⟨b, off, x, rfl, _, hx, hcell⟩ := hr.int_at h0
  have hl : l.length = n := by simpa using hr.1
  have h1 : lmin (l.take 1) = x := by rw [int_step hx]; rfl
  have HR := Lib.hid hr
  have HL := Lib.hid hl
  have H1 := Lib.hid h1
  rw [Nat.add_zero] at hcell
  clear hr hl hx h1
  go_enter Try.func76, Try.ntmps76
  go_wp2_with fail
  go_loop [3, 4] (fun t i => ∃ k : Nat, 1 ≤ k ∧ k ≤ n ∧ i = .int .i64 k ∧ t = .int .i64 (lmin (l.take k))) (fun _ i => n - (intOf i).toNat)
  case atStart => exact ⟨1, by omega, by omega, by go_num, by rw [H1.out]⟩
  case round =>
    obtain ⟨k, hk1, hk, rfl, rfl⟩ := hrel
    clear hcell
    by_cases hlt : k < n
    · obtain ⟨b', off', y, e, _, hy, hcell⟩ := HR.out.int_at hlt
      injection e with e
      injection e with e1 e2
      subst e1
      subst e2
      have hs : lmin (l.take (k + 1)) = min (lmin (l.take k)) y := by rw [int_step hy, lmin_snoc _ _ (by rw [List.length_take, HL.out]; omega)]
      have HS := Lib.hid hs
      clear hs hy
      generalize lmin (l.take k) = q at *
      go_wp2_with fail
      go_round
      case rel => exact ⟨k + 1, by omega, by omega, by go_num, by rw [HS.out]; congr 1; split <;> omega⟩
      case measure => simp [intOf]; omega
    · obtain rfl : k = n := by omega
      go_wp2_with fail
      go_ret
      exact ⟨ret_int (by rw [List.take_of_length_le (by rw [HL.out]; omega)]), rfl⟩
set_option maxHeartbeats 1000000 in
theorem maxInt (A : Option Addr) (n c : Nat) (S : Nat → Prop) (l : List Int) (w : World) (hr : Rd w S 1 A n (l.map (Value.int .i64))) (h0 : 0 < n) (hn : n ≤ 1000000000000) :
    Calls Try.prog 77 #[.slice A n c] w fun e w' => e = .returned (.int .i64 (lmax l)) ∧ w = w' := by
  obtain ⟨b, off, x, rfl, _, hx, hcell⟩ := hr.int_at h0
  have hl : l.length = n := by simpa using hr.1
  have h1 : lmax (l.take 1) = x := by rw [int_step hx]; rfl
  have HR := Lib.hid hr
  have HL := Lib.hid hl
  have H1 := Lib.hid h1
  rw [Nat.add_zero] at hcell
  clear hr hl hx h1
  go_enter Try.func77, Try.ntmps77
  go_wp2_with fail
  go_loop [3, 4] (fun t i => ∃ k : Nat, 1 ≤ k ∧ k ≤ n ∧ i = .int .i64 k ∧ t = .int .i64 (lmax (l.take k))) (fun _ i => n - (intOf i).toNat)
  case atStart => exact ⟨1, by omega, by omega, by go_num, by rw [H1.out]⟩
  case round =>
    obtain ⟨k, hk1, hk, rfl, rfl⟩ := hrel
    clear hcell
    by_cases hlt : k < n
    · obtain ⟨b', off', y, e, _, hy, hcell⟩ := HR.out.int_at hlt
      injection e with e
      injection e with e1 e2
      subst e1
      subst e2
      have hs : lmax (l.take (k + 1)) = max (lmax (l.take k)) y := by rw [int_step hy, lmax_snoc _ _ (by rw [List.length_take, HL.out]; omega)]
      have HS := Lib.hid hs
      clear hs hy
      generalize lmax (l.take k) = q at *
      go_wp2_with fail
      go_round
      case rel => exact ⟨k + 1, by omega, by omega, by go_num, by rw [HS.out]; congr 1; split <;> omega⟩
      case measure => simp [intOf]; omega
    · obtain rfl : k = n := by omega
      go_wp2_with fail
      go_ret
      exact ⟨ret_int (by rw [List.take_of_length_le (by rw [HL.out]; omega)]), rfl⟩
end Go.Proofs.Ytgaahpddlohjoaa
