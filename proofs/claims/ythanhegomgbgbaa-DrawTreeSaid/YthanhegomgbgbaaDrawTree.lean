/- DrawTree: its walk. -/
import Derived.Test.YthanhegomgbgbaaDrawT
import Derived.Test.YthanhegomgbgbaaTreeCmp
import Derived.Test.YthanhegomgbgbaaSizePlain
import Derived.Test.YthanhegomgbgbaaRankRate
namespace Go.Proofs.Ythanhegomgbgbaa
open Go.RowKit

theorem draw_plain : number 1 0 ([] : List Bool) = some (0, 0) := by decide
set_option linter.unusedSimpArgs false in
set_option maxRecDepth 100000 in
set_option maxHeartbeats 8000000 in
theorem drawTree_walk (W : World) (A0 : Option Addr) (n0 c0 : Nat) (z0 : List Int) (le0 : n0 ≤ c0) (cap0 : c0 ≤ 17592186043904) (rd0 : Rd W (fun _ => True) 1 A0 n0 (z0.map (Value.int .i64))) (_rg0 : ∀ z ∈ z0, -9223372036854775808 ≤ z ∧ z ≤ 9223372036854775807)
    (x1 : Int) (_lo1 : -9223372036854775808 ≤ x1) (_hi1 : x1 ≤ 9223372036854775807) (A2 : Option Addr) (n2 c2 : Nat) (z2 : List Bool) (le2 : n2 ≤ c2) (cap2 : c2 ≤ 140737488351232) (rd2 : Rd W (fun _ => True) 1 A2 n2 (z2.map Value.bool)) :
    Calls Try.prog 9 #[.slice A0 n0 c0, .int .i64 x1, .slice A2 n2 c2] W fun e W' => e = .returned (.bool true) ∧ Below W.heap.size W W' := by
  have HR0 := Lib.hid (rd0.slInts le0)
  have HD2 := Lib.hid (rd2.fit (by decide))
  clear rd0 _rg0 _lo1 _hi1 rd2
  go_enter Try.func9, Try.ntmps9
  go_wp2_with fail
  refine (makeGrammar _ _ _ _ _ z0 HR0.out (by omega)).mono ?_
  rintro e w1 ⟨g, AR, cR, hv, hsm, rfl, hg, hb1⟩
  have HV := Lib.hid hv
  have HG := Lib.hid (hg.alloc (.cells #[.int .i64 g.1, .int .i64 g.2.1, .int .i64 g.2.2.1, .slice AR g.2.2.2.length cR] 25))
  have HB1 := Lib.hid (hb1.alloc hb1.size (.cells #[.int .i64 g.1, .int .i64 g.2.1, .int .i64 g.2.2.1, .slice AR g.2.2.2.length cR] 25))
  have hs1 := hb1.size
  have HC1 := Lib.hid ((HD2.out.below hb1).alloc (.cells #[.int .i64 g.1, .int .i64 g.2.1, .int .i64 g.2.2.1, .slice AR g.2.2.2.length cR] 25))
  obtain ⟨st, hst, hstN⟩ : ∃ st : Nat, g.2.2.1 = (st : Int) ∧ st < nonsOf g := ⟨g.2.2.1.toNat, by have := hv.st; omega, by have := hv.st; unfold nonsOf; omega⟩
  have HST := Lib.hid hst
  have HSM := Lib.hid hsm
  have hall : ∀ u : World, Below (w1.heap.size + 1) (w1.alloc (.cells #[.int .i64 g.1, .int .i64 g.2.1, .int .i64 g.2.2.1, .slice AR g.2.2.2.length cR] 25)) u → u.cell? ⟨w1.heap.size, 0, none⟩ = some (.int .i64 g.1) ∧ u.cell? ⟨w1.heap.size, 1, none⟩ = some (.int .i64 g.2.1) ∧ u.cell? ⟨w1.heap.size, 2, none⟩ = some (.int .i64 g.2.2.1) ∧ u.cell? ⟨w1.heap.size, 3, none⟩ = some (.slice AR g.2.2.2.length cR) := by
    intro u hu
    refine ⟨(hu.cell (by simp)).trans ?_, (hu.cell (by simp)).trans ?_, (hu.cell (by simp)).trans ?_, (hu.cell (by simp)).trans ?_⟩ <;> simp
  have HALL := Lib.hid hall
  clear hall hv hg hb1 HR0 hst hsm
  go_wp2_with fail
  refine (keepBelow x1 8 _ (by decide) (by decide)).mono ?_
  rintro e _ ⟨rfl, rfl⟩
  obtain ⟨n, hn, hn7⟩ : ∃ n : Nat, x1 % 8 = (n : Int) ∧ n ≤ 7 := ⟨(x1 % 8).toNat, by omega, by omega⟩
  rw [hn]
  clear hn
  go_wp2_with fail
  refine (keepPlain _).mono ?_
  rintro e w2 ⟨AP, rfl, hp, hb2⟩
  simp only [World.size_alloc] at hb2
  have HP := Lib.hid hp
  have HB2 := Lib.hid hb2
  have hs2 := hb2.size
  simp only [World.size_alloc] at hs2
  clear hp hb2
  go_wp2_with fail
  refine (drawTree _ _ _ _ _ _ plainG HP.out plain_valid 1 (by omega) 0 rfl 1 plain_t1.symm none 0 0 0 [] (Rd.nil (S := fun _ => True)) (Nat.le_refl _) (by omega) (by decide) (fun j hj => absurd hj (by omega)) (by omega)).mono ?_
  rintro e w3 ⟨hcase, hb3⟩
  rcases hcase with ⟨hbad, _⟩ | ⟨x3, u3, t3, A3, m3, c3, _, htold, rfl, hsl3, hu3⟩
  · have := hbad (by decide) (by decide)
    rw [show (1 : Int).toNat = 1 from rfl, draw_plain] at this
    cases this
  have hm3 : m3 = 1 := by
    rw [show (1 : Int).toNat = 1 from rfl, draw_plain] at htold
    injection htold with h
    injection h with h1 h2
    subst h1
    rw [hsl3.len]
    exact plain_kids hu3
  subst hm3
  have hs3 := hb3.size
  have hb23 : Below (w1.heap.size + 1) (w1.alloc (.cells #[.int .i64 g.1, .int .i64 g.2.1, .int .i64 g.2.2.1, .slice AR g.2.2.2.length cR] 25)) w3 := HB2.out.trans (hb3.mono (by omega))
  have hb4x := hb23.alloc (by omega) (.cells #[.int .i64 t3.rule, .int .i64 t3.term, .slice A3 1 c3] 34)
  obtain ⟨k0, k1, k2, k3⟩ := HALL.out _ hb4x
  have HB4 := Lib.hid hb4x
  have HG4 := Lib.hid (HG.out.below (hb4x.mono (by simp)))
  have HC4 := Lib.hid (HC1.out.below (hb4x.mono (by simp)))
  obtain ⟨w4, hw4⟩ : ∃ w4 : World, w4 = w3.alloc (.cells #[.int .i64 t3.rule, .int .i64 t3.term, .slice A3 1 c3] 34) := ⟨_, rfl⟩
  rw [← hw4] at HB4 HG4 HC4
  have hs4 : w4.heap.size = w3.heap.size + 1 := by rw [hw4]; simp
  clear hb23 hb3 hb4x HB2 HP hsl3 hu3 htold
  --@1
  go_wp2_with fail
  rw [← hw4]
  clear hw4 k0 k1 k2 k3
  obtain ⟨KN, hK⟩ : ∃ KN, KN = treesN g.2.2.2 st n := ⟨_, rfl⟩
  have hrange := treesN_range (rulesN_of HV.out) (a := st) (k := n) hstN
  rw [← hK] at hrange
  obtain ⟨kb, hk1, hk2, hk3⟩ := bits_exist KN.toNat (by omega)
  obtain ⟨told, htold⟩ : ∃ told, told = number KN.toNat kb z2 := ⟨_, rfl⟩
  have HK := Lib.hid hK
  have HK1 := Lib.hid hk1
  have HK2 := Lib.hid hk2
  have HTO := Lib.hid htold
  clear hk1 hk2 hrange
  refine (drawTree w4 _ _ AR _ cR g HG4.out HV.out n (by omega) st HST.out KN hK A2 n2 c2 kb z2 HC4.out le2 (by omega) HK1.out HK2.out hk3).mono ?_
  rw [← htold]
  clear hK htold
  rintro e w5 ⟨hcase, hb5⟩
  have hs5 := hb5.size
  rcases hcase with ⟨_, er, her, rfl⟩ | ⟨x, u, t, A5, m5, c5, ⟨hKp, hK9, hxK⟩, htt, rfl, hsl5, hu5⟩
  · have hne : (er != 0) = true := by simpa using her
    have HBF := Lib.hid (HB1.out.trans ((HB4.out.trans (hb5.mono (by omega))).mono (by omega)))
    clear hb5
    --@2
    go_wp2_with fail
    go_ret
    exact ⟨rfl, HBF.out.alloc (by have := HBF.out.size; omega) _⟩
  have hm := (rated_of HV.out hstN HK.out hK9 hKp).2.2
  have hsize : sizeT t ≤ 5000 := TV.few (rulesN_of HV.out) (by have := HSM.out.n; unfold nonsOf; omega) HSM.out.rr hu5.tv hu5.word hstN hm (by omega)
  have HTT := Lib.hid htt
  have HU := Lib.hid hu5
  have hb25 := HB4.out.trans (hb5.mono (by omega))
  have hb6x := hb25.alloc (by omega) (.cells #[.int .i64 t.rule, .int .i64 t.term, .slice A5 m5 c5] 34)
  obtain ⟨k0, k1, k2, k3⟩ := HALL.out _ hb6x
  obtain ⟨w6, hw6⟩ : ∃ w6 : World, w6 = w5.alloc (.cells #[.int .i64 t.rule, .int .i64 t.term, .slice A5 m5 c5] 34) := ⟨_, rfl⟩
  have hs6 : w6.heap.size = w5.heap.size + 1 := by rw [hw6]; simp
  have HT6 := Lib.hid (show w6.heap[w5.heap.size]? = some (.cells #[.int .i64 t.rule, .int .i64 t.term, .slice A5 m5 c5] 34 (0, 0)) by rw [hw6]; exact heap_alloc_new _ _)
  have HG6 := Lib.hid (show Sl RRule w6 _ AR g.2.2.2.length cR g.2.2.2 by rw [hw6]; exact (HG4.out.below hb5).alloc _)
  have HS6 := Lib.hid (show Sl RTree w6 _ A5 m5 c5 t.kids by rw [hw6]; exact hsl5.alloc _)
  have HC6 := Lib.hid (show Rd w6 _ 1 A2 n2 (z2.map Value.bool) by rw [hw6]; exact (HC4.out.below hb5).alloc _)
  rw [← hw6] at hb6x
  have HB6 := Lib.hid hb6x
  clear htt hu5 hb5 hb25 hb6x hsl5 hm HG4 HC4 HB4
  --@3
  go_wp2_with fail
  rw [← hw6]
  clear hw6 k0 k1 k2 k3
  refine (rankCount w6 _ AR _ cR g HG6.out HV.out n (by omega) st HST.out).mono ?_
  rintro e w7 ⟨rfl, hb7⟩
  unfold rcK rcE
  rw [← HK.out, if_neg (by omega), if_neg (by omega), if_neg (by omega)]
  have HB7 := Lib.hid (HB6.out.trans (hb7.mono (by omega)))
  have HG7 := Lib.hid (HG6.out.below hb7)
  have HC7 := Lib.hid (HC6.out.below hb7)
  have HS7 := Lib.hid (HS6.out.below hb7)
  have HT7 := Lib.hid ((hb7.block _ (by omega)).trans HT6.out)
  have hs7 := hb7.size
  have hKt : KN = (KN.toNat : Int) := by omega
  have HKT := Lib.hid hKt
  have hN1 : 1 ≤ KN.toNat := by omega
  have hN9 : KN.toNat ≤ 1000000000 := by omega
  have HNUM := Lib.hid (show number KN.toNat kb z2 = some (x, u) by rw [← HTO.out]; exact HTT.out)
  clear hb7 HG6 HC6 HS6 HT6 HB6 hKt
  --@4
  go_wp2_with fail
  refine (number_yes KN KN.toNat kb n2 c2 x u _ A2 z2 _ HKT.out hN1 hN9 le2 (by omega) HK1.out HK2.out hk3 HC7.out HNUM.out).mono ?_
  rintro e _ ⟨rfl, rfl⟩
  obtain ⟨k0, k1, k2, k3⟩ := HALL.out _ HB7.out
  --@5
  go_wp2_with fail
  clear k0 k1 k2 k3
  refine (rankTree w7 _ AR _ cR g HG7.out HV.out n (by omega) st HST.out KN HK.out (by omega) hK9 (x : Int) (by omega) (by omega)).mono ?_
  rintro e w8 ⟨h8, hb8⟩
  rcases h8 with ⟨h8, _⟩ | ⟨_, t8, A8, m8, c8, rfl, hsl8, hu8⟩
  · exact absurd ⟨by omega, hxK⟩ h8
  rw [Int.toNat_natCast] at hu8
  obtain rfl : t = t8 := Unr.det _ (Nat.le_refl _) HU.out hu8
  have hs8 := hb8.size
  have hb9x := (HB7.out.trans (hb8.mono (by omega))).alloc (by omega) (.cells #[.int .i64 t.rule, .int .i64 t.term, .slice A8 m8 c8] 34)
  obtain ⟨k0, k1, k2, k3⟩ := HALL.out _ hb9x
  obtain ⟨w9, hw9⟩ : ∃ w9 : World, w9 = w8.alloc (.cells #[.int .i64 t.rule, .int .i64 t.term, .slice A8 m8 c8] 34) := ⟨_, rfl⟩
  have hs9 : w9.heap.size = w8.heap.size + 1 := by rw [hw9]; simp
  have hbT : Below w7.heap.size w7 (w8.alloc (.cells #[.int .i64 t.rule, .int .i64 t.term, .slice A8 m8 c8] 34)) := hb8.alloc hs8 _
  have hT9 := (hbT.block _ (by omega)).trans HT7.out
  obtain ⟨d0, d1, d2, _, _, _⟩ := tree_cells hT9
  rw [← hw9] at hbT hT9 hb9x
  have HT9 := Lib.hid hT9
  have HX9 := Lib.hid (show w9.heap[w8.heap.size]? = some (.cells #[.int .i64 t.rule, .int .i64 t.term, .slice A8 m8 c8] 34 (0, 0)) by rw [hw9]; exact heap_alloc_new _ _)
  have HG9 := Lib.hid (HG7.out.below hbT)
  have HS9 := Lib.hid (HS7.out.below hbT)
  have HSX9 := Lib.hid (show Sl RTree w9 _ A8 m8 c8 t.kids by rw [hw9]; exact hsl8.alloc _)
  have HB9 := Lib.hid hb9x
  have HL := Lib.hid HU.out.tv.leaves
  have hsz6 : sizeT t ≤ 1000000 := by omega
  have HSO := Lib.hid (show SymOk g.1 g.2.1 (false, (st : Int)) by
    have := HV.out.st
    have := HST.out
    unfold SymOk
    simp only [Bool.false_eq_true, if_false]
    omega)
  clear hb8 hb9x hT9 hbT hsl8 hu8 HG7 HC7 HS7 HT7
  --@6
  go_wp2_with fail
  rw [← hw9]
  clear hw9 k0 k1 k2 k3 d0 d1 d2
  refine (treeCheck w9 _ _ AR _ cR g HG9.out HV.out t (false, (st : Int)) A5 m5 c5 HS9.out HU.out.tv HSO.out hsize).mono ?_
  rintro e w10 ⟨rfl, hb10⟩
  have HB10 := Lib.hid hb10
  obtain ⟨d0, d1, d2, _, _, _⟩ := tree_cells ((hb10.block _ (by omega)).trans HT9.out)
  have hs10 := hb10.size
  clear hb10
  --@7
  go_wp2_with fail
  clear d0 d1 d2
  refine (treeWord w10 _ t A5 m5 c5 (HS9.out.below HB10.out) HL.out hsz6).mono ?_
  rintro e w11 ⟨A11, c11, rfl, _, _, hb11⟩
  rw [HU.out.word]
  have HB11 := Lib.hid (HB10.out.trans (hb11.mono hs10))
  have hs11 := hb11.size
  obtain ⟨d0, d1, d2, _, _, _⟩ := tree_cells ((HB11.out.block _ (by omega)).trans HT9.out)
  obtain ⟨q0, q1, q2, _, _, _⟩ := tree_cells ((HB11.out.block _ (by omega)).trans HX9.out)
  have hn1 : ((n : Int) == (n : Int)) = true := by simp
  have hu1 : ((u : Int) == (u : Int)) = true := by simp
  clear hb11
  --@8
  go_wp2_with fail
  clear d0 d1 d2 q0 q1 q2
  refine (treeCompare w11 _ _ t A5 m5 c5 (HS9.out.below HB11.out) HL.out hsz6 t A8 m8 c8 (HSX9.out.below HB11.out) HL.out hsz6).mono ?_
  rintro e w12 ⟨rfl, hb12⟩
  rw [cmpT_refl]
  have HB12 := Lib.hid (HB1.out.trans ((HB9.out.trans ((HB11.out.trans (hb12.mono (by omega))).mono (by omega))).mono (by omega)))
  clear hb12
  --@9
  go_wp2_with fail
  go_ret
  exact ⟨rfl, HB12.out⟩
end Go.Proofs.Ythanhegomgbgbaa
