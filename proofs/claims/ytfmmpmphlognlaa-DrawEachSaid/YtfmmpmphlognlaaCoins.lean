/- What 'coins' computes: all lists of so many coins. -/
import Derived.Test.YtfmmpmphlognlaaRep
import Derived.Test.YtfmmpmphlognlaaCloBool
namespace Go.Proofs.Ytfmmpmphlognlaa
open Go.RowKit

def twice (l : List Bool) : List (List Bool) := [l ++ [false], l ++ [true]]
def allCoins : Nat → List (List Bool)
  | 0 => [[]]
  | k + 1 => (allCoins k).flatMap twice
theorem allCoins_len (k : Nat) : (allCoins k).length = 2 ^ k := by
  induction k with
  | zero => rfl
  | succ k ih =>
    have h : ∀ l : List (List Bool), (l.flatMap twice).length = 2 * l.length := by
      intro l
      induction l with
      | nil => rfl
      | cons a l ih => simp [twice, ih]; omega
    rw [allCoins, h, ih, Nat.pow_succ]; omega
theorem allCoins_mem (k : Nat) : ∀ l ∈ allCoins k, l.length = k := by
  induction k with
  | zero => intro l hl; simp [allCoins] at hl; simp [hl]
  | succ k ih =>
    intro l hl
    obtain ⟨l', h1, h2⟩ := List.mem_flatMap.1 hl
    have := ih l' h1
    simp [twice] at h2
    rcases h2 with rfl | rfl <;> simp [this]
theorem flat_len (l : List (List Bool)) : (l.flatMap twice).length = 2 * l.length := by
  induction l with
  | nil => rfl
  | cons a l ih => simp [twice, ih]; omega
theorem flat_step {l : List (List Bool)} {m : Nat} {a : List Bool} (h : l[m]? = some a) : (l.take (m + 1)).flatMap twice = (l.take m).flatMap twice ++ twice a := by
  obtain ⟨hk, rfl⟩ := List.getElem?_eq_some_iff.1 h
  rw [List.take_succ_eq_append_getElem hk, List.flatMap_append]
  simp

abbrev RB : Rep (List Bool) := Rep.slice Rep.bool

/-- one coin more behind a clone -/
theorem coin_push (w1 : World) (B n : Nat) (v : Value) (l : List Bool) (b : Bool) (hB : B ≤ w1.heap.size) (hn : n ≤ 1000) (ho : Own w1 B 4 1 v n (l.map Value.bool)) :
    ∃ A2 n2 c2 w2, (Builtin.append_ #[46, 46] 46 #[v, .slice (some ⟨w1.heap.size, 0, none⟩) 1 1]).run Try.prog (w1.alloc (.cells #[.bool b] 4)) = .ok (.slice A2 n2 c2) w2 ∧
      Sl Rep.bool w2 (fun q => B ≤ q) A2 n2 c2 (l ++ [b]) ∧ Below B w1 w2 := by
  have hl : l.length = n := by simpa using ho.len
  obtain ⟨v', w', hrun, ho', _, hb⟩ := run_append_lit (R := Rep.bool) tBools rfl w1 46 B (fun _ => False) v l (ho.bools _) 1 [b] [.bool b] (Cells.single rfl) rfl (by unfold maxLen; omega) (by omega) hB
  obtain ⟨A2, c2, rfl, _, _⟩ := ho'.form
  exact ⟨A2, _, c2, w', hrun, ho'.sl.more (by simp), hb⟩
theorem coins_row (wo wi w2 w4 : World) (v : Value) (l : List (List Bool)) (a : List Bool) (A2 A4 : Option Addr) (n2 c2 n4 c4 : Nat) (hw : wo.heap.size ≤ wi.heap.size) (hlen : l.length ≤ 2097152)
    (hv : OwnL RB wi (fun _ => False) wo.heap.size 46 v l) (hb2 : Below wi.heap.size wi w2) (h2 : Sl Rep.bool w2 (fun q => wi.heap.size ≤ q) A2 n2 c2 (a ++ [false]))
    (hb4 : Below w2.heap.size w2 w4) (h4 : Sl Rep.bool w4 (fun q => w2.heap.size ≤ q) A4 n4 c4 (a ++ [true])) :
    ∃ v' w', (Builtin.append_ #[61, 61] 61 #[v, .slice (some ⟨w4.heap.size, 0, none⟩) 2 2]).run Try.prog (w4.alloc (.cells #[.slice A2 n2 c2, .slice A4 n4 c4] 46)) = .ok v' w' ∧
      OwnL RB w' (fun _ => False) wo.heap.size 46 v' (l ++ twice a) ∧ Below wo.heap.size wi w' := by
  have hb24 : Below wi.heap.size wi w4 := hb2.trans (hb4.mono hb2.size)
  have hoff : ∀ b, wi.heap.size ≤ b → Off (fun _ => False) wo.heap.size v b := fun b hb => ⟨.inr (by omega), fun e => by have := hv.row e; omega⟩
  obtain ⟨v', w', hrun, ho, _, hb⟩ := run_append_lit (R := RB) tBoolss rfl w4 61 wo.heap.size (fun _ => False) v l (hv.below hb24) 2 (twice a) [.slice A2 n2 c2, .slice A4 n4 c4]
    ⟨[.slice A2 n2 c2], [.slice A4 n4 c4], rfl, ⟨A2, n2, c2, rfl, (h2.below hb4).more hoff⟩, Cells.single ⟨A4, n4, c4, rfl, h4.more fun b hb => hoff b (Nat.le_trans hb2.size hb)⟩⟩ rfl (by unfold maxLen; omega) (by omega) (by have := hb24.size; omega)
  exact ⟨v', w', hrun, ho, (hb24.mono hw).trans hb⟩

set_option maxRecDepth 100000 in
set_option maxHeartbeats 2000000 in
theorem coins_any (k : Nat) (w : World) (hk : k ≤ 20) :
    Calls Try.prog 28 #[.int .i64 k] w fun e w' => ∃ A n c, e = .returned (.slice A n c) ∧ Sl RB w' (fun b => w.heap.size ≤ b) A n c (allCoins k) ∧ Below w.heap.size w w' := by
  go_enter Try.func28, Try.ntmps28
  go_wp2_with fail
  go_loopw [3, 9] (fun v i wr => ∃ (j : Nat) (A : Option Addr) (n c : Nat), j ≤ k ∧ i = .int .i64 j ∧ v = .slice A n c ∧ Sl RB wr (fun b => w.heap.size ≤ b) A n c (allCoins j) ∧ Below w.heap.size w wr) (fun _ i _ => k - (intOf i).toNat)
  case atStart =>
    refine ⟨0, _, _, _, Nat.zero_le _, rfl, rfl, ⟨[.slice none 0 0], rfl, Nat.le_refl _, Rd.new w _ _ [.slice none 0 0] _ rfl (Nat.le_refl _), Cells.single ⟨none, 0, 0, rfl, Sl.nil _ _ _ _⟩⟩, (Below.refl _ _).alloc (Nat.le_refl _) _⟩
  case round =>
    obtain ⟨j, A, n, c, hj, rfl, rfl, hsl, hb⟩ := hrel
    have hn : n = (allCoins j).length := hsl.len
    have hn2 : n ≤ 1048576 := by
      rw [hn, allCoins_len]
      exact Nat.le_trans (Nat.pow_le_pow_right (by omega) (show j ≤ 20 by omega)) (by decide)
    have HN := Lib.hid hn
    have HS := Lib.hid hsl
    have HB := Lib.hid hb
    clear hsl hb hn
    obtain ⟨wo, rfl⟩ : ∃ wo : World, wo = wr := ⟨_, rfl⟩
    by_cases hlt : j < k
    · go_wp2_with fail
      go_loopw [4, 13] (fun v i wi => ∃ m : Nat, m ≤ n ∧ i = .int .i64 m ∧ OwnL RB wi (fun _ => False) wo.heap.size 46 v (((allCoins j).take m).flatMap twice) ∧ Below wo.heap.size wo wi) (fun _ i _ => n - (intOf i).toNat)
      case atStart => exact ⟨0, Nat.zero_le _, rfl, OwnL.nil _ _ _ _ _, Below.refl _ _⟩
      case round =>
        obtain ⟨m, hm, rfl, hv, hbi⟩ := hrel
        have HV := Lib.hid hv
        have HBI := Lib.hid hbi
        clear hv hbi
        by_cases hmn : m < n
        · obtain ⟨b, off, u, a, rfl, _, hget, ⟨A1, n1, c1, hu, hsl1⟩, hcell⟩ := (HS.out.below HBI.out).at_ rfl hmn
          obtain rfl : u = .slice A1 n1 c1 := by simpa using hu
          have ha : a.length = j := allCoins_mem j a (List.mem_of_getElem? hget)
          have hn1 : n1 ≤ 20 := by have := hsl1.len; omega
          have hstep := flat_step hget
          have hlen : (((allCoins j).take m).flatMap twice).length ≤ 2097152 := by rw [flat_len, List.length_take]; omega
          have HSL := Lib.hid hsl1
          have HST := Lib.hid hstep
          have hblt := cell_lt hcell
          have tok1 : True := trivial
          clear hu hget ha hsl1 hstep
          generalize ((allCoins j).take m).flatMap twice = L at *
          go_wp2_with (first
            | (go_at_call 69; have _t := tok1; refine (cloneBool _ _ _ _ _ _ HSL.out.bools (by omega)).mono ?_; rintro e w1 ⟨v1, rfl, ho1, hb1⟩; obtain ⟨A2, n2, c2, w2, hr2, hs2, hb2⟩ := coin_push w1 _ _ v1 a false hb1.size (by omega) ho1; have HR2 := Lib.hid hr2; have HS2 := Lib.hid hs2; have HB2 := Lib.hid (hb1.trans hb2); clear tok1 ho1 hb1 hr2 hs2 hb2)
            | (go_at_call 69; refine (cloneBool _ _ _ _ _ _ (HSL.out.below HB2.out).bools (by omega)).mono ?_; rintro e w3 ⟨v3, rfl, ho3, hb3⟩; obtain ⟨A4, n4, c4, w4, hr4, hs4, hb4⟩ := coin_push w3 _ _ v3 a true hb3.size (by omega) ho3; have HR4 := Lib.hid hr4; obtain ⟨v5, w5, hr5, ho5, hb5⟩ := coins_row wo wr w2 w4 _ L a A2 A4 n2 c2 n4 c4 HBI.out.size hlen HV.out HB2.out HS2.out (hb3.trans hb4) hs4; have HR5 := Lib.hid hr5; have HO5 := Lib.hid ho5; have HB5 := Lib.hid hb5; clear ho3 hb3 hr4 hs4 hb4 hr5 ho5 hb5)
            | (at_builtin; refine Lib.wpList_append_run (o := ⟨some 21, _, _, _, _, _⟩) _ rfl _ _ _ _ rfl _ _ rfl rfl _ _ HR2.out ?_)
            | (at_builtin; refine Lib.wpList_append_run (o := ⟨some 25, _, _, _, _, _⟩) _ rfl _ _ _ _ rfl _ _ rfl rfl _ _ HR4.out ?_)
            | (at_builtin; refine Lib.wpList_append_run (o := ⟨some 27, _, _, _, _, _⟩) _ rfl _ _ _ _ rfl _ _ rfl rfl _ _ HR5.out ?_))
          go_roundw
          case rel => exact ⟨m + 1, by omega, by go_num, by rw [HST.out]; exact HO5.out, HBI.out.trans HB5.out⟩
          case measure => simp [intOf]; omega
        · obtain rfl : n = m := by omega
          have hv2 := HV.out
          rw [HN.out, List.take_length] at hv2
          obtain ⟨A5, c5, hv5, _, _⟩ := hv2.form
          subst hv5
          have HV2 := Lib.hid hv2
          clear hv2
          go_wp2_with fail
          go_roundw
          case rel => exact ⟨j + 1, A5, _, c5, by omega, by go_num, rfl, HV2.out.sl.more (by simp; intro b hb; have := HB.out.size; omega), HB.out.trans (HBI.out.mono HB.out.size)⟩
          case measure => simp [intOf]; omega
    · obtain rfl : k = j := by omega
      go_wp2_with fail
      go_ret
      exact ⟨A, n, c, rfl, HS.out, HB.out⟩
end Go.Proofs.Ytfmmpmphlognlaa
