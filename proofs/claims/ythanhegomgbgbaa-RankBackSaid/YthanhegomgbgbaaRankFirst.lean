/- RankFirst: its walk. -/
import Derived.Test.YthanhegomgbgbaaRankC
namespace Go.Proofs.Ythanhegomgbgbaa
open Go.RowKit

theorem plain_rcK : rcK plainR 0 3 = 1 := by unfold rcK; rw [plain_t3]; decide
theorem plain_rcE : rcE plainR 0 3 = 0 := by unfold rcE; rw [plain_t3]; decide
set_option linter.unusedSimpArgs false in
set_option maxRecDepth 100000 in
set_option maxHeartbeats 4000000 in
theorem rankFirst_walk (W : World) (A0 : Option Addr) (n0 c0 : Nat) (z0 : List Int) (le0 : n0 ≤ c0) (cap0 : c0 ≤ 17592186043904) (rd0 : Rd W (fun _ => True) 1 A0 n0 (z0.map (Value.int .i64))) (_rg0 : ∀ z ∈ z0, -9223372036854775808 ≤ z ∧ z ≤ 9223372036854775807)
    (x1 : Int) (_lo1 : -9223372036854775808 ≤ x1) (_hi1 : x1 ≤ 9223372036854775807) (x2 : Int) (_lo2 : -9223372036854775808 ≤ x2) (_hi2 : x2 ≤ 9223372036854775807) :
    Calls Try.prog 3 #[.slice A0 n0 c0, .int .i64 x1, .int .i64 x2] W fun e W' => e = .returned (.bool true) ∧ Below W.heap.size W W' := by
  have HR0 := Lib.hid (rd0.slInts le0)
  clear rd0 _rg0 _lo1 _hi1 _lo2 _hi2
  go_enter Try.func3, Try.ntmps3
  go_wp2_with fail
  refine (makeGrammar _ _ _ _ _ z0 HR0.out (by omega)).mono ?_
  rintro e w1 ⟨g, AR, cR, hv, _, rfl, hg, hb1⟩
  have HV := Lib.hid hv
  have HG := Lib.hid (hg.alloc (.cells #[.int .i64 g.1, .int .i64 g.2.1, .int .i64 g.2.2.1, .slice AR g.2.2.2.length cR] 25))
  have HB1 := Lib.hid (hb1.alloc hb1.size (.cells #[.int .i64 g.1, .int .i64 g.2.1, .int .i64 g.2.2.1, .slice AR g.2.2.2.length cR] 25))
  have hs1 := hb1.size
  obtain ⟨st, hst, hstN⟩ : ∃ st : Nat, g.2.2.1 = (st : Int) ∧ st < nonsOf g := ⟨g.2.2.1.toNat, by have := hv.st; omega, by have := hv.st; unfold nonsOf; omega⟩
  have HST := Lib.hid hst
  have hall : ∀ u : World, Below (w1.heap.size + 1) (w1.alloc (.cells #[.int .i64 g.1, .int .i64 g.2.1, .int .i64 g.2.2.1, .slice AR g.2.2.2.length cR] 25)) u → u.cell? ⟨w1.heap.size, 0, none⟩ = some (.int .i64 g.1) ∧ u.cell? ⟨w1.heap.size, 1, none⟩ = some (.int .i64 g.2.1) ∧ u.cell? ⟨w1.heap.size, 2, none⟩ = some (.int .i64 g.2.2.1) ∧ u.cell? ⟨w1.heap.size, 3, none⟩ = some (.slice AR g.2.2.2.length cR) := by
    intro u hu
    refine ⟨(hu.cell (by simp)).trans ?_, (hu.cell (by simp)).trans ?_, (hu.cell (by simp)).trans ?_, (hu.cell (by simp)).trans ?_⟩ <;> simp
  have HALL := Lib.hid hall
  clear hall hv hg hb1 HR0 hst
  go_wp2_with fail
  refine (keepBelow x1 8 _ (by decide) (by decide)).mono ?_
  rintro e _ ⟨rfl, rfl⟩
  obtain ⟨n, hn, hn7⟩ : ∃ n : Nat, x1 % 8 = (n : Int) ∧ n ≤ 7 := ⟨(x1 % 8).toNat, by omega, by omega⟩
  rw [hn]
  clear hn
  go_wp2_with fail
  refine (keepPlain _).mono ?_
  rintro e w2 ⟨AP, rfl, hp, hb2⟩
  simp only [World.size_alloc] at hb2
  have HP := Lib.hid hp
  have HB2 := Lib.hid hb2
  have hs2 := hb2.size
  simp only [World.size_alloc] at hs2
  clear hp hb2
  go_wp2_with fail
  refine (rankCount _ _ _ _ _ plainG HP.out plain_valid 3 (by omega) 0 rfl).mono ?_
  rintro e w3 ⟨rfl, hb3⟩
  rw [show plainG.2.2.2 = plainR from rfl, plain_rcK, plain_rcE]
  have hb23 : Below (w1.heap.size + 1) (w1.alloc (.cells #[.int .i64 g.1, .int .i64 g.2.1, .int .i64 g.2.2.1, .slice AR g.2.2.2.length cR] 25)) w3 := HB2.out.trans (hb3.mono (by omega))
  have HB3 := Lib.hid hb23
  have hs3 := hb3.size
  obtain ⟨k0, k1, k2, k3⟩ := HALL.out _ hb23
  have HG3 := Lib.hid (HG.out.below (hb23.mono (by simp)))
  clear hb23 hb3 HB2 HP
  --@1
  go_wp2_with fail
  refine (rankCount _ _ _ _ _ g HG3.out HV.out n (by omega) st HST.out).mono ?_
  rintro e w4 ⟨rfl, hb4⟩
  have hb24 := HB3.out.trans (hb4.mono (by omega))
  have HB4 := Lib.hid hb24
  have hs4 := hb4.size
  have HG4 := Lib.hid (HG3.out.below hb4)
  clear hb4 hb24 HG3 HB3 k0 k1 k2 k3
  obtain ⟨K, hK⟩ : ∃ K, K = treesN g.2.2.2 st n := ⟨_, rfl⟩
  unfold rcK rcE
  rw [← hK]
  have HK := Lib.hid hK
  have hrange := treesN_range (rulesN_of HV.out) (a := st) (k := n) hstN
  rw [← hK] at hrange
  clear hK
  by_cases hm : K = -1
  · rw [if_pos (Or.inl hm), if_pos hm]
    clear hm hrange
    go_wp2_with fail
    go_ret
    exact ⟨rfl, HB1.out.trans (HB4.out.mono (by omega))⟩
  by_cases hL : 1000000000 ≤ K
  · rw [if_pos (Or.inr hL), if_neg hm, if_pos hL]
    clear hm hrange hL
    go_wp2_with fail
    go_ret
    exact ⟨rfl, HB1.out.trans (HB4.out.mono (by omega))⟩
  rw [if_neg (by omega), if_neg hm, if_neg hL]
  have hK0 : 0 ≤ K := by omega
  have hK9 : K < 1000000000 := by omega
  clear hm hrange hL
  by_cases h2 : K < 2
  · have hd : decide (K < 2) = true := by simpa using h2
    clear h2
    go_wp2_with fail
    go_ret
    exact ⟨rfl, HB1.out.trans (HB4.out.mono (by omega))⟩
  have hd : decide (K < 2) = false := by simpa using h2
  --@2
  go_wp2_with fail
  refine (keepBelow x2 _ _ (by omega) (by omega)).mono ?_
  rintro e _ ⟨rfl, rfl⟩
  obtain ⟨i, hi, hiK⟩ : ∃ i : Nat, x2 % (K - 1) = (i : Int) ∧ (i : Int) < K - 1 := ⟨(x2 % (K - 1)).toNat, by have := Int.emod_nonneg x2 (show K - 1 ≠ 0 by omega); omega, by have := Int.emod_lt_of_pos x2 (show 0 < K - 1 by omega); have := Int.emod_nonneg x2 (show K - 1 ≠ 0 by omega); omega⟩
  rw [hi]
  clear hi hd h2
  obtain ⟨k0, k1, k2, k3⟩ := HALL.out _ HB4.out
  --@3
  go_wp2_with fail
  refine (rankTree _ _ _ _ _ g HG4.out HV.out n (by omega) st HST.out K HK.out hK0 hK9 (i : Int) (by omega) (by omega)).mono ?_
  rintro e w5 ⟨h5, hb5⟩
  rcases h5 with ⟨h5, _⟩ | ⟨_, t5, A5, m5, c5, rfl, _, hu5⟩
  · exact absurd ⟨by omega, by omega⟩ h5
  rw [Int.toNat_natCast] at hu5
  have HU5 := Lib.hid hu5
  have hs5 := hb5.size
  have hb25 := HB4.out.trans (hb5.mono (by omega))
  have hb6x := hb25.alloc (by omega) (.cells #[.int .i64 t5.rule, .int .i64 t5.term, .slice A5 m5 c5] 34)
  obtain ⟨k0', k1', k2', k3'⟩ := HALL.out _ hb6x
  obtain ⟨w6, hw6⟩ : ∃ w6 : World, w6 = w5.alloc (.cells #[.int .i64 t5.rule, .int .i64 t5.term, .slice A5 m5 c5] 34) := ⟨_, rfl⟩
  have hs6 : w6.heap.size = w5.heap.size + 1 := by rw [hw6]; simp
  have HT6 := Lib.hid (show w6.heap[w5.heap.size]? = some (.cells #[.int .i64 t5.rule, .int .i64 t5.term, .slice A5 m5 c5] 34 (0, 0)) by rw [hw6]; exact heap_alloc_new _ _)
  have HG6 := Lib.hid (show Sl RRule w6 _ AR g.2.2.2.length cR g.2.2.2 by rw [hw6]; exact (HG4.out.below hb5).alloc _)
  rw [← hw6] at hb6x
  have HB6 := Lib.hid hb6x
  clear k0 k1 k2 k3 hu5 hb5 hb25 hb6x
  --@4
  go_wp2_with fail
  rw [← hw6]
  clear hw6 k0' k1' k2' k3'
  refine (rankTree _ _ _ _ _ g HG6.out HV.out n (by omega) st HST.out K HK.out hK0 hK9 ((i : Int) + 1) (by omega) (by omega)).mono ?_
  rintro e w7 ⟨h7, hb7⟩
  rcases h7 with ⟨h7, _⟩ | ⟨_, t7, A7, m7, c7, rfl, _, hu7⟩
  · exact absurd ⟨by omega, by omega⟩ h7
  have hle := HU5.out.first hu7 (by omega)
  have hs7 := hb7.size
  have hb8x := (HB6.out.trans (hb7.mono (by omega))).alloc (by omega) (.cells #[.int .i64 t7.rule, .int .i64 t7.term, .slice A7 m7 c7] 34)
  obtain ⟨k0, k1, k2, k3⟩ := HALL.out _ hb8x
  obtain ⟨w8, hw8⟩ : ∃ w8 : World, w8 = w7.alloc (.cells #[.int .i64 t7.rule, .int .i64 t7.term, .slice A7 m7 c7] 34) := ⟨_, rfl⟩
  have hs8 : w8.heap.size = w7.heap.size + 1 := by rw [hw8]; simp
  rw [← hw8] at hb8x
  have HT8 := Lib.hid (show w8.heap[w7.heap.size]? = some (.cells #[.int .i64 t7.rule, .int .i64 t7.term, .slice A7 m7 c7] 34 (0, 0)) by rw [hw8]; exact heap_alloc_new _ _)
  have HG8 := Lib.hid (show Sl RRule w8 _ AR g.2.2.2.length cR g.2.2.2 by rw [hw8]; exact (HG6.out.below hb7).alloc _)
  have HT86 := Lib.hid (show w8.heap[w5.heap.size]? = some (.cells #[.int .i64 t5.rule, .int .i64 t5.term, .slice A5 m5 c5] 34 (0, 0)) by rw [hw8]; exact (Below.heap_alloc _ _ _ (by omega)).trans ((hb7.block _ (by omega)).trans HT6.out))
  have HB8 := Lib.hid hb8x
  clear hu7 hb7 HT6 hb8x HB6 HG6 HU5
  --@5
  go_wp2_with fail
  rw [← hw8]
  clear hw8 k0 k1 k2 k3
  refine (rankTree _ _ _ _ _ g HG8.out HV.out n (by omega) st HST.out K HK.out hK0 hK9 K (by omega) (by omega)).mono ?_
  rintro e w9 ⟨h9, hb9⟩
  obtain rfl : e = .returned (.tuple #[.agg #[.int .i64 0, .int .i64 0, .slice none 0 0], .int .i64 5]) := by
    rcases h9 with ⟨_, h⟩ | ⟨h, _⟩
    · exact h
    · exfalso; omega
  have hs9 := hb9.size
  obtain ⟨k0, k1, k2, k3⟩ := HALL.out _ (HB8.out.trans ((hb9.alloc (by omega) (.cells #[.int .i64 0, .int .i64 0, .slice none 0 0] 34)).mono (by omega)))
  obtain ⟨w10, hw10⟩ : ∃ w10 : World, w10 = w9.alloc (.cells #[.int .i64 0, .int .i64 0, .slice none 0 0] 34) := ⟨_, rfl⟩
  have hs10 : w10.heap.size = w9.heap.size + 1 := by rw [hw10]; simp
  have hb8T : Below w8.heap.size w8 w10 := by rw [hw10]; exact hb9.alloc (by omega) _
  have HB8T := Lib.hid hb8T
  have hb10 := HB8.out.trans (hb8T.mono (by omega))
  have HB10 := Lib.hid hb10
  have HG10 := Lib.hid (HG8.out.below hb8T)
  clear hb9 hb8T hb10 HG8
  --@6
  go_wp2_with fail
  rw [← hw10]
  clear hw10 k0 k1 k2 k3
  refine (rankTree _ _ _ _ _ g HG10.out HV.out n (by omega) st HST.out K HK.out hK0 hK9 (-1) (by omega) (by omega)).mono ?_
  rintro e w11 ⟨h11, hb11⟩
  obtain rfl : e = .returned (.tuple #[.agg #[.int .i64 0, .int .i64 0, .slice none 0 0], .int .i64 5]) := by
    rcases h11 with ⟨_, h⟩ | ⟨h, _⟩
    · exact h
    · exfalso; omega
  have hs11 := hb11.size
  have hT := HB8T.out.trans (hb11.mono (by omega))
  have e5 : w11.cell? ⟨w5.heap.size, 0, none⟩ = some (.int .i64 t5.rule) := (tree_cells ((hT.block _ (by omega)).trans HT86.out)).1
  have e7 : w11.cell? ⟨w7.heap.size, 0, none⟩ = some (.int .i64 t7.rule) := (tree_cells ((hT.block _ (by omega)).trans HT8.out)).1
  have l5 := cell_lt e5
  have l7 := cell_lt e7
  have HB11 := Lib.hid (HB10.out.trans (hb11.mono (by omega)))
  have hrle : decide (t5.rule ≤ t7.rule) = true := by simpa using hle
  clear hT hb11
  --@7
  go_wp2_with fail
  go_ret
  exact ⟨rfl, HB1.out.trans ((HB11.out.alloc (by omega) _).mono (by omega))⟩
end Go.Proofs.Ythanhegomgbgbaa
