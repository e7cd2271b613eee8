/- What draw.Number computes: the first group of k coins whose number is below n. -/
import Derived.Test.YtfmmpmphlognlaaBelow
import Derived.Test.YtfmmpmphlognlaaNumPlain
import Derived.LoopTactic
import Derived.Outline
namespace Go.Proofs.Ytfmmpmphlognlaa
open Go.RowKit

theorem pow_wrap {j : Nat} (h : j ≤ 30) : wrap64 ((2 : Int) ^ j) = ((2 ^ j : Nat) : Int) ∧ 2 ^ j ≤ 1073741824 := by
  have h1 : (2 : Nat) ^ j ≤ 2 ^ 30 := Nat.pow_le_pow_right (by omega) h
  have e : ((2 : Int) ^ j) = ((2 ^ j : Nat) : Int) := by simp
  rw [e]
  generalize (2 : Nat) ^ j = m at *
  exact ⟨IntWalk.wrap64_in _ ⟨by omega, by omega⟩, by omega⟩
theorem shl_lt {j n : Nat} (h : j ≤ 30) (hp : 2 ^ j < n) : decide (wrap64 ((2 : Int) ^ j) < (n : Int)) = true := by
  rw [(pow_wrap h).1]; generalize (2 : Nat) ^ j = m at *; simp; omega
theorem shl_ge {j n : Nat} (h : j ≤ 30) (hp : n ≤ 2 ^ j) : decide (wrap64 ((2 : Int) ^ j) < (n : Int)) = false := by
  rw [(pow_wrap h).1]; generalize (2 : Nat) ^ j = m at *; simp; omega
set_option maxHeartbeats 1000000 in
theorem number_any (n len c k : Nat) (S : Nat → Prop) (A : Option Addr) (l : List Bool) (w : World) (h1 : 1 ≤ n) (h2 : n ≤ 1000000000) (hl : len ≤ c) (hc : len ≤ 281474976710656)
    (hk1 : n ≤ 2 ^ k) (hk2 : ∀ j < k, 2 ^ j < n) (hk3 : k ≤ 30) (hr : Rd w S 1 A len (l.map Value.bool)) :
    Calls Try.prog 67 #[.int .i64 n, .slice A len c] w fun e w' => e = .returned (numVal (number n k l)) ∧ w = w' := by
  have e1 : decide ((n : Int) < 1) = false := by simp; omega
  have e2 : decide (1000000000 < (n : Int)) = false := by simp; omega
  have hlen : len = l.length := by have := hr.1; simpa using this.symm
  have HL := Lib.hid hlen
  clear hlen
  have HK := Lib.hid hk2
  have HK1 := Lib.hid hk1
  have HR := Lib.hid hr
  clear hk1 hk2 hr
  go_enter Try.func67, Try.ntmps67
  go_wp2
  go_loop [7] (fun t => ∃ j : Nat, j ≤ k ∧ t = .int .i64 j) (fun t => k - (intOf t).toNat)
  case atStart => exact ⟨0, Nat.zero_le _, rfl⟩
  case round =>
    obtain ⟨j, hj, rfl⟩ := hrel
    by_cases hlt : j < k
    · have hw := shl_lt (by omega) (HK.out j hlt)
      go_wp2
      go_round
      case rel => exact ⟨j + 1, by omega, by go_num⟩
      case measure => simp [intOf]; omega
    · obtain rfl : k = j := by omega
      have hw := shl_ge hk3 HK1.out
      go_wp2
      go_loop [8] (fun t => ∃ u : Nat, u ≤ len ∧ t = .int .i64 (u + k) ∧ NumAt n k l u) (fun t => len + k - (intOf t).toNat)
      case atStart => exact ⟨0, Nat.zero_le _, by go_num, NumAt.start _ _ _⟩
      case round =>
        obtain ⟨u, hu, rfl, hat⟩ := hrel
        have HAT := Lib.hid hat
        clear hat
        by_cases hlu : u + k ≤ len
        · obtain ⟨A', hcut, hrd⟩ := tBools.cut HR.out (u : Int) ((u : Int) + k) (by omega) (by omega) (by omega) hl
          have q1 : ((u : Int) + k).toNat - (u : Int).toNat = k := by omega
          rw [q1] at hcut hrd
          have HRD := Lib.hid hrd
          clear hrd q1
          go_wp2
          go_loop [9, 39] (fun x i => ∃ m : Nat, m ≤ k ∧ i = .int .i64 m ∧ x = .int .i64 (bitVal ((l.drop u).take m))) (fun _ i => k - (intOf i).toNat)
          case atStart => exact ⟨0, Nat.zero_le _, rfl, rfl⟩
          case round =>
            obtain ⟨m, hm, rfl, rfl⟩ := hrel
            have hb := bit_le (l := l) (u := u) hm hk3
            by_cases hmk : m < k
            · obtain ⟨b, off, v, rfl, _, hx, hcell⟩ := HRD.out.at_ hmk
              obtain ⟨b0, hb0, hstep⟩ := bit_step (l := l) (u := u) hmk (by rw [← HL.out]; omega)
              obtain rfl : v = .bool b0 := by
                simp only [Int.toNat_natCast, Nat.mul_one, List.getElem?_take, hmk, if_true, List.getElem?_drop, List.getElem?_map, hb0, Option.map_some] at hx
                exact (Option.some.inj hx).symm
              have HS := Lib.hid hstep
              clear hstep hb0 hx
              generalize bitVal ((l.drop u).take m) = x at *
              cases b0
              all_goals
                go_wp2
                go_round
                case rel => exact ⟨m + 1, by omega, by go_num, by rw [HS.out]; simp; first | omega | done⟩
                case measure => simp [intOf]; omega
            · obtain rfl : k = m := by omega
              by_cases hx : bitVal ((l.drop u).take k) < n
              · have hfin := HAT.out.hit (by rw [← HL.out]; omega) hx
                have HF := Lib.hid hfin
                clear hfin
                generalize bitVal ((l.drop u).take k) = x at *
                go_wp2
                go_ret3
                exact ⟨by rw [HF.out]; simp [numVal], rfl⟩
              · have hk0 : 1 ≤ k := by
                  rcases Nat.eq_zero_or_pos k with h0 | h0
                  · subst h0; simp [bitVal] at hx; omega
                  · exact h0
                have hfin := HAT.out.next (by rw [← HL.out]; omega) hk0 (by omega)
                have HF := Lib.hid hfin
                clear hfin
                generalize bitVal ((l.drop u).take k) = x at *
                go_wp2
                go_round
                case rel => exact ⟨u + k, by omega, by go_num, HF.out⟩
                case measure => simp [intOf]; omega
        · go_wp2
          go_ret3
          exact ⟨by rw [HAT.out.out (by rw [← HL.out]; omega) (by rw [← HL.out]; omega)]; rfl, rfl⟩

/-- the same, the number an Int, the answer told -/
theorem number_yes (n : Int) (N k len c x u : Nat) (S : Nat → Prop) (A : Option Addr) (l : List Bool) (w : World) (hN : n = N) (h1 : 1 ≤ N) (h2 : N ≤ 1000000000) (hl : len ≤ c) (hc : len ≤ 281474976710656)
    (hk1 : N ≤ 2 ^ k) (hk2 : ∀ j < k, 2 ^ j < N) (hk3 : k ≤ 30) (hr : Rd w S 1 A len (l.map Value.bool)) (he : number N k l = some (x, u)) :
    Calls Try.prog 67 #[.int .i64 n, .slice A len c] w fun e w' => e = .returned (.tuple #[.int .i64 x, .int .i64 u, .int .i64 0]) ∧ w = w' := by
  subst hN
  have h := number_any N len c k S A l w h1 h2 hl hc hk1 hk2 hk3 hr
  rw [he] at h
  exact h
theorem number_no (n : Int) (N k len c : Nat) (S : Nat → Prop) (A : Option Addr) (l : List Bool) (w : World) (hN : n = N) (h1 : 1 ≤ N) (h2 : N ≤ 1000000000) (hl : len ≤ c) (hc : len ≤ 281474976710656)
    (hk1 : N ≤ 2 ^ k) (hk2 : ∀ j < k, 2 ^ j < N) (hk3 : k ≤ 30) (hr : Rd w S 1 A len (l.map Value.bool)) (he : number N k l = none) :
    Calls Try.prog 67 #[.int .i64 n, .slice A len c] w fun e w' => e = .returned (.tuple #[.int .i64 0, .int .i64 0, .int .i64 5]) ∧ w = w' := by
  subst hN
  have h := number_any N len c k S A l w h1 h2 hl hc hk1 hk2 hk3 hr
  rw [he] at h
  exact h
end Go.Proofs.Ytfmmpmphlognlaa
