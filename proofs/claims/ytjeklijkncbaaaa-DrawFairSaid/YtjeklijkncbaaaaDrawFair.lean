/- DrawFair: of all lists of so many coins each number is told by equally many. -/
import Derived.Test.YtjeklijkncbaaaaNum
import Derived.Test.YtjeklijkncbaaaaFairPlain
namespace Go.Proofs.Ytjeklijkncbaaaa
open Go.RowKit

set_option maxHeartbeats 2000000 in
theorem drawFair_at (n k : Int) (N K : Nat) (w : World) (hN : 1 + n % 9 = N) (hK : k % 9 = K) :
    Calls Try.prog 4 #[.int .i64 n, .int .i64 k] w fun e w' => e = .returned (.bool true) ∧ Below w.heap.size w w' := by
  have hN1 : 1 ≤ N := by have := Int.emod_nonneg n (by omega : (9 : Int) ≠ 0); omega
  have hN2 : N ≤ 9 := by have := Int.emod_lt_of_pos n (by omega : (0 : Int) < 9); omega
  have hK2 : K ≤ 8 := by have := Int.emod_lt_of_pos k (by omega : (0 : Int) < 9); omega
  obtain ⟨hk1, hk2, hk3⟩ := bitsOf_ok N hN1 (by omega)
  have HN := Lib.hid hN
  have HK := Lib.hid hK
  have HK1 := Lib.hid hk1
  have HK2 := Lib.hid hk2
  clear hN hK hk1 hk2
  have hmk := tInts.make rfl N (by omega) (by omega)
  go_enter Try.func4, Try.ntmps4
  go_wp2_with (go_at_call 9; refine (keepBelow _ _ _ (by omega) (by omega)).mono ?_; rintro e w' ⟨rfl, rfl⟩)
  rw [HN.out, HK.out]
  refine (number_yes 2 2 1 1 1 1 1 (fun _ => True) (some ⟨w.heap.size, 0, none⟩) [true] _ rfl (by omega) (by omega) (by omega) (by omega) (by omega) lt_one_pow (by omega) (Rd.new w _ _ [.bool true] _ rfl trivial) (by decide)).mono ?_
  rintro e w' ⟨rfl, rfl⟩
  go_wp2_with fail
  refine (coins_any K _ (by omega)).mono ?_
  rintro e w1 ⟨A, m, c, rfl, hsl, hb⟩
  have hm : m = (allCoins K).length := hsl.len
  have hm2 : m ≤ 256 := by
    rw [hm, allCoins_len]
    exact Nat.le_trans (Nat.pow_le_pow_right (by omega) hK2) (by decide)
  have hown := (made_own (w.alloc (.cells #[.bool true] 4)) w.heap.size 3 (.int .i64 0) N (by simp) (by unfold maxLen; omega))
  have hown1 : w1.ownsRow w.heap.size 3 1 (.slice (some ⟨w.heap.size + 1, 0, none⟩) N N) N ((told N (bitsOf N) []).map (Value.int .i64)) := by
    rw [told_nil, List.map_replicate]
    have := hown.kept (w' := w1) (row := none) ⟨hb.os, hb.tape, hb.output, hb.size, fun k hk _ => hb.block k hk⟩ (.inr (by simp [Value.ownBlock]))
    simpa using this
  have hsl1 : Sl RB w1 (fun b => b ≠ w.heap.size + 1) A m c (allCoins K) := hsl.more fun b hb => by simp at hb; omega
  have hb1 : Below w.heap.size w w1 := (((Below.refl _ _).alloc (Nat.le_refl _) _).alloc (by simp) _).trans (hb.mono (by simp; omega))
  have HM := Lib.hid hm
  have HO := Lib.hid hown1
  have HS := Lib.hid hsl1
  have HB := Lib.hid hb1
  clear hm hown hown1 hsl hsl1 hb hb1
  go_wp2_with fail
  go_loopw [36] (fun i wr => ∃ j : Nat, j ≤ m ∧ i = .int .i64 j ∧ wr.ownsRow w.heap.size 3 1 (.slice (some ⟨w.heap.size + 1, 0, none⟩) N N) N ((told N (bitsOf N) ((allCoins K).take j)).map (Value.int .i64)) ∧
      Sl RB wr (fun b => b ≠ w.heap.size + 1) A m c (allCoins K) ∧ Below w.heap.size w wr) (fun i _ => m - (intOf i).toNat)
  case atStart => exact ⟨0, Nat.zero_le _, rfl, HO.out, HS.out, HB.out⟩
  case round =>
    obtain ⟨j, hj, rfl, ho, hs, hb⟩ := hrel
    have HOJ := Lib.hid ho
    have HSJ := Lib.hid hs
    have HBJ := Lib.hid hb
    clear ho hs hb
    by_cases hlt : j < m
    · obtain ⟨b, off, u, a, rfl, _, hget, ⟨A1, n1, c1, hu, hsl1⟩, hcell⟩ := HSJ.out.at_ rfl hlt
      obtain rfl : u = .slice A1 n1 c1 := by simpa using hu
      have ha : a.length = K := allCoins_mem K a (List.mem_of_getElem? hget)
      have hn1 : n1 ≤ 20 := by have := hsl1.len; omega
      have htake : (allCoins K).take (j + 1) = (allCoins K).take j ++ [a] := by
        obtain ⟨hk, rfl⟩ := List.getElem?_eq_some_iff.1 hget
        exact List.take_succ_eq_append_getElem hk
      have HT := Lib.hid htake
      have HSL := Lib.hid hsl1
      clear hu hget ha hsl1 htake
      cases he : number N (bitsOf N) a with
      | none =>
        have HE := Lib.hid he
        clear he
        go_wp2_with (go_at_call 10; refine (number_no _ N (bitsOf N) n1 c1 _ A1 a _ rfl hN1 (by omega) HSL.out.cap (by omega) HK1.out HK2.out hk3 HSL.out.bools HE.out).mono ?_; rintro e w' ⟨rfl, rfl⟩)
        go_roundw
        case rel => exact ⟨j + 1, by omega, by go_num, by rw [HT.out, told_none HE.out]; exact HOJ.out, HSJ.out, HBJ.out⟩
        case measure => simp [intOf]; omega
      | some r =>
        obtain ⟨x, u⟩ := r
        have HE := Lib.hid he
        obtain ⟨_, hx, _, _⟩ := number_hit hN1 he
        have hat := told_at (k := bitsOf N) ((allCoins K).take j) hx
        have hcx : wr.cell? ⟨w.heap.size + 1, x, none⟩ = some (.int .i64 ((((allCoins K).take j).countP (hitB N (bitsOf N) x) : Nat) : Int)) := by
          rw [HOJ.out.cellAt x (by omega), List.getElem?_map, hat]; rfl
        have hfx := HOJ.out.frozenAt x
        have hcnt : ((allCoins K).take j).countP (hitB N (bitsOf N) x) ≤ 256 := Nat.le_trans List.countP_le_length (by rw [List.length_take]; omega)
        have hst := told_some (L := (allCoins K).take j) he
        have HST := Lib.hid hst
        clear he hat hst
        generalize ((allCoins K).take j).countP (hitB N (bitsOf N) x) = q at *
        go_wp2_with (go_at_call 10; refine (number_yes _ N (bitsOf N) n1 c1 x u _ A1 a _ rfl hN1 (by omega) HSL.out.cap (by omega) HK1.out HK2.out hk3 HSL.out.bools HE.out).mono ?_; rintro e w' ⟨rfl, rfl⟩)
        go_roundw
        case rel =>
          have hst2 := HOJ.out.stored x (.int .i64 (q + 1))
          refine ⟨j + 1, by omega, by go_num, ?_, HSJ.out.keep (.setCell _ _ _ _ (by simp)), HBJ.out.setCell (by simp) _⟩
          rw [HT.out, HST.out, List.map_set]
          exact hst2.1
        case measure => simp [intOf]; omega
    · obtain rfl : j = m := by omega
      have hfin := HOJ.out
      rw [HM.out, List.take_length] at hfin
      have hrd := Rd.of_own hfin
      have hlen : 1 ≤ N := hN1
      have hfair := fair hN1 hN2 hK2
      have HRD := Lib.hid hrd
      have HF := Lib.hid hfair
      clear hfin hrd hfair
      go_wp2_with fail
      refine (minInt _ N N _ _ _ HRD.out (by omega) (by omega)).mono ?_
      rintro e w' ⟨rfl, rfl⟩
      go_wp2_with fail
      refine (maxInt _ N N _ _ _ HRD.out (by omega) (by omega)).mono ?_
      rintro e w' ⟨rfl, rfl⟩
      rw [HF.out]
      go_wp2_with fail
      go_ret
      exact ⟨rfl, HBJ.out⟩
theorem drawFair_walk (w : World) (n : Int) (_ : -9223372036854775808 ≤ n) (_ : n ≤ 9223372036854775807) (k : Int) (_ : -9223372036854775808 ≤ k) (_ : k ≤ 9223372036854775807) :
    Calls Try.prog 4 #[.int .i64 n, .int .i64 k] w fun e w' => e = .returned (.bool true) ∧ Below w.heap.size w w' := by
  have hp := Int.emod_nonneg n (by omega : (9 : Int) ≠ 0)
  have hq := Int.emod_nonneg k (by omega : (9 : Int) ≠ 0)
  exact drawFair_at n k (1 + n % 9).toNat (k % 9).toNat w (by omega) (by omega)
end Go.Proofs.Ytjeklijkncbaaaa
