/- LensWord: its walk. -/
import Derived.Test.YtfkapijfjihiiaaLensSet
import Derived.Test.YtfkapijfjihiiaaKPlain
import Derived.Test.YtfkapijfjihiiaaPlainG
import Derived.Test.YtfkapijfjihiiaaGreatest
import Derived.Test.YtfkapijfjihiiaaMakeTree3
import Derived.Test.YtfkapijfjihiiaaTreeWd
import Derived.Test.YtfkapijfjihiiaaSlEqBool
namespace Go.Proofs.Ytfkapijfjihiiaa
open Go.RowKit

theorem plain_great {v : Int} (h : GreatR plainR 0 v) : v = -2 :=
  GreatR.unique h (.inr (.inl ⟨rfl, fun m => ⟨m + 1, by omega, plain_der2 m⟩⟩))
theorem great_at {R : List RuleD} {st kk : Nat} (h : GreatR R st (kk : Int)) : lenD R st kk = true ∧ ∀ j, kk < j → lenD R st j = false := by
  rcases h with ⟨h, _⟩ | ⟨h, _⟩ | ⟨_, h1, h2⟩
  · omega
  · omega
  · rw [Int.toNat_natCast] at h1 h2
    refine ⟨lenD_iff.2 h1, fun j hj => ?_⟩
    rw [Bool.eq_false_iff, Ne, lenD_iff]
    intro h
    have := h2 j h
    omega
theorem great_none {R : List RuleD} {st : Nat} (h : GreatR R st (-1)) : ∀ j, ¬ Der R [(false, (st : Int))] j := by
  rcases h with ⟨_, h⟩ | ⟨h, _⟩ | ⟨h, _⟩
  · exact h
  · omega
  · omega
theorem great_pos {R : List RuleD} {st : Nat} {v : Int} (h : GreatR R st v) (hv : 0 ≤ v) {j : Nat} (hj : Der R [(false, (st : Int))] j) : (j : Int) ≤ v := by
  rcases h with ⟨h, _⟩ | ⟨h, _⟩ | ⟨_, _, h2⟩
  · omega
  · omega
  · have := h2 j hj; omega
theorem great_neg {R : List RuleD} {st : Nat} {v : Int} (h : GreatR R st v) (hv : ¬ 0 ≤ v) : v = -1 ∨ v = -2 := by
  rcases h with ⟨h, _⟩ | ⟨h, _⟩ | ⟨h, _⟩
  · exact .inl h
  · exact .inr h
  · exact absurd h hv
theorem row_none {R : List RuleD} {st n k : Nat} (h : ∀ j, k ≤ j → lenD R st j = false) : ((lenRow R n st).drop k).contains true = false := by
  rw [Bool.eq_false_iff, Ne, List.contains_iff_mem]
  intro hm
  obtain ⟨i, hi⟩ := List.getElem?_of_mem hm
  rw [List.getElem?_drop, lenRow, List.getElem?_map] at hi
  obtain ⟨j, h1, h2⟩ := Option.map_eq_some_iff.1 hi
  have h3 := (List.getElem?_eq_some_iff.1 h1).2
  rw [List.getElem_range] at h3
  rw [← h3, h (k + i) (by omega)] at h2
  cases h2
theorem lenRow_atW {w : World} {S : Nat → Prop} {A : Option Addr} {R : List RuleD} {n m a k : Nat} (h : Sl Rep.bool w S A m m (lenRow R n a)) (hk : k < m) :
    ∃ b off, A = some ⟨b, off, none⟩ ∧ w.cell? ⟨b, off + k, none⟩ = some (.bool (lenD R a k)) := by
  have hm := h.len
  rw [lenRow, List.length_map, List.length_range] at hm
  obtain ⟨b, off, u, x, rfl, _, hx, hok, hc⟩ := h.at_ rfl hk
  rw [lenRow, List.getElem?_map, List.getElem?_range (by omega)] at hx
  simp only [Option.map_some, Option.some.injEq] at hx
  obtain rfl : u = .bool x := by have h2 : [u] = [Value.bool x] := hok; simpa using h2
  subst hx
  exact ⟨b, off, rfl, hc⟩
set_option linter.unusedSimpArgs false in
set_option maxRecDepth 100000 in
set_option maxHeartbeats 20000000 in
theorem lensWord_walk (W : World) (A0 : Option Addr) (n0 c0 : Nat) (z0 : List Int) (le0 : n0 ≤ c0) (cap0 : c0 ≤ 17592186043904) (rd0 : Rd W (fun _ => True) 1 A0 n0 (z0.map (Value.int .i64))) (_rg0 : ∀ z ∈ z0, -9223372036854775808 ≤ z ∧ z ≤ 9223372036854775807)
    (A1 : Option Addr) (n1 c1 : Nat) (z1 : List Int) (le1 : n1 ≤ c1) (cap1 : c1 ≤ 17592186043904) (rd1 : Rd W (fun _ => True) 1 A1 n1 (z1.map (Value.int .i64))) (_rg1 : ∀ z ∈ z1, -9223372036854775808 ≤ z ∧ z ≤ 9223372036854775807) :
    Calls Try.prog 4 #[.slice A0 n0 c0, .slice A1 n1 c1] W fun e W' => e = .returned (.bool true) ∧ Below W.heap.size W W' := by
  have HR0 := Lib.hid (rd0.slInts le0)
  have HR1 := Lib.hid (rd1.slInts le1).fit
  clear rd0 _rg0 rd1 _rg1
  go_enter Try.func4, Try.ntmps4
  --@1
  go_wp2_with fail
  refine (makeGrammar _ _ _ _ _ z0 HR0.out (by omega)).mono ?_
  rintro e w1 ⟨g, AR, cR, hv, hsm, rfl, hg, hb1⟩
  obtain ⟨N, hN⟩ : ∃ N, N = nonsOf g := ⟨_, rfl⟩
  obtain ⟨st, hst, hstN⟩ : ∃ st : Nat, g.2.2.1 = (st : Int) ∧ st < N := ⟨g.2.2.1.toNat, by have := hv.st; omega, by have := hv.st; rw [hN]; unfold nonsOf; omega⟩
  have hN0 : g.2.1 = (N : Int) := by have := hv.n1; rw [hN]; unfold nonsOf; omega
  obtain ⟨nR, hnR⟩ : ∃ nR, nR = g.2.2.2.length := ⟨_, rfl⟩
  rw [← hnR] at hg
  have hz1 := hb1.size
  have HV := Lib.hid hv
  have HG := Lib.hid hg
  have HB1 := Lib.hid hb1
  have HN := Lib.hid hN
  have HN0 := Lib.hid hN0
  have HST := Lib.hid hst
  rw [← hnR, hN0, hst]
  have hall : ∀ u : World, Below (w1.heap.size + 1) (w1.alloc (.cells #[.int .i64 g.1, .int .i64 N, .int .i64 st, .slice AR nR cR] 25)) u → u.cell? ⟨w1.heap.size, 0, none⟩ = some (.int .i64 g.1) ∧ u.cell? ⟨w1.heap.size, 1, none⟩ = some (.int .i64 N) ∧ u.cell? ⟨w1.heap.size, 2, none⟩ = some (.int .i64 st) ∧ u.cell? ⟨w1.heap.size, 3, none⟩ = some (.slice AR nR cR) := by
    intro u hu
    refine ⟨(hu.cell (by simp)).trans ?_, (hu.cell (by simp)).trans ?_, (hu.cell (by simp)).trans ?_, (hu.cell (by simp)).trans ?_⟩ <;> simp
  have HALL := Lib.hid hall
  have HBA := Lib.hid (HB1.out.alloc HB1.out.size (.cells #[.int .i64 g.1, .int .i64 N, .int .i64 st, .slice AR nR cR] 25))
  have HGF := Lib.hid (HG.out.fit.alloc (.cells #[.int .i64 g.1, .int .i64 N, .int .i64 st, .slice AR nR cR] 25))
  clear hall hv hsm hg hb1 hN hN0 hst hnR
  --@2
  go_wp2_with fail
  refine (keepPlain _).mono ?_
  rintro e w3 ⟨AP, rfl, hp, hb3⟩
  simp only [World.size_alloc] at hb3
  have HP := Lib.hid hp
  have HB3 := Lib.hid hb3
  clear hp hb3
  go_wp2_with fail
  refine (lensGreatest w3 _ AP 2 2 plainG HP.out plain_valid 1 0 rfl rfl).mono ?_
  rintro e w4 ⟨⟨v4, rfl, hv4, _⟩, hb4⟩
  obtain rfl := plain_great hv4
  have hz3 := HB3.out.size
  simp only [World.size_alloc] at hz3
  have HB4 := Lib.hid (HB3.out.trans (hb4.mono hz3))
  have hz4 := HB4.out.size
  simp only [World.size_alloc] at hz4
  obtain ⟨k0, k1, k2, k3⟩ := HALL.out _ HB4.out
  have HG4 := Lib.hid (HGF.out.below (HB4.out.mono (by simp)))
  clear hb4 HB3 HP hv4
  --@3
  go_wp2_with fail
  clear k0 k1 k2 k3
  have hgr := lensGreatest w4 _ AR nR cR g HG4.out HV.out N st HN.out HST.out
  rw [HN0.out, HST.out] at hgr
  refine hgr.mono ?_
  clear hgr
  rintro e w5 ⟨⟨va, rfl, hva, hvb⟩, hb5⟩
  have HVA := Lib.hid hva
  have hz5 := hb5.size
  have HB5 := Lib.hid (HB4.out.trans (hb5.mono (by omega)))
  have HG5 := Lib.hid (HG4.out.below hb5)
  obtain ⟨k0, k1, k2, k3⟩ := HALL.out _ HB5.out
  have hva3 : -9223372036854775808 ≤ va := by rcases hva with ⟨h, _⟩ | ⟨h, _⟩ | ⟨h, _⟩ <;> omega
  clear hb5 hva HG4 HB4
  --@4
  go_wp2_with fail
  clear k0 k1 k2 k3
  have hset := lensSet w5 _ AR nR cR g HG5.out HV.out 200 (by omega)
  rw [HN0.out, HST.out] at hset
  refine hset.mono ?_
  clear hset
  rintro e w6 ⟨A6, rfl, hx6, hb6⟩
  rw [Int.toNat_natCast] at hx6
  have HX6 := Lib.hid hx6
  have hz6 := hb6.size
  have HB6 := Lib.hid (HB5.out.trans (hb6.mono (by omega)))
  have HG6 := Lib.hid (HG5.out.below hb6)
  obtain ⟨k0, k1, k2, k3⟩ := HALL.out _ HB6.out
  have hx60 := HX6.out
  obtain ⟨b6, o6, hA6, _⟩ := lenRow_atW hx60 (show 0 < 200 + 1 by omega)
  subst hA6
  clear hb6 hx6 hx60 HG5 HB5
  have HBW := Lib.hid (show Below W.heap.size W w6 from HBA.out.trans (HB6.out.mono (by omega)))
  --@5
  by_cases hpos : 0 ≤ va
  · obtain ⟨kk, rfl⟩ : ∃ kk : Nat, va = (kk : Int) := ⟨va.toNat, by omega⟩
    obtain ⟨hhit, hrest⟩ := great_at HVA.out
    by_cases h200 : kk ≤ 200
    · have hpd : decide ((0 : Int) ≤ (kk : Int)) = true := by simp
      have hpd2 : decide ((kk : Int) ≤ 200) = true := by simp <;> omega
      obtain ⟨b, o, e, hc6⟩ := lenRow_atW HX6.out (show kk < 200 + 1 by omega)
      injection e with e
      injection e with e1 e2
      subst e1
      subst e2
      rw [hhit] at hc6
      obtain ⟨A7, hcut, hr7⟩ := tBools.cutl (c := 200 + 1) HX6.out.bools ((kk : Int) + 1) (by omega) (by omega) (Nat.le_refl _)
      rw [show ((kk : Int) + 1).toNat = kk + 1 by omega, Nat.mul_one, ← List.map_drop, show 200 + 1 - (kk + 1) = 200 - kk by omega] at hr7
      have HR7 := Lib.hid hr7
      have HNO := Lib.hid (row_none (n := 200) (k := kk + 1) (fun j hj => hrest j (by omega)))
      have hke : (kk : Int) < 201 := by omega
      have hkz : (0 : Int) ≤ (kk : Int) := by omega
      have hk1 : ((kk : Int) == -1) = false := by simp <;> omega
      clear hr7 hhit hrest
      go_wp2_with fail
      refine (containsBool A7 (200 - kk) (200 - kk) _ _ true w6 HR7.out (by omega)).mono ?_
      rintro e w7 ⟨rfl, rfl⟩
      rw [HNO.out]
      clear HNO HR7 hcut
      go_wp2_with fail
      clear k0 k1 k2 k3
      have hmk := makeTree w6 _ _ AR nR cR g HG6.out HV.out A1 n1 c1 z1 (HR1.out.below HBW.out) (by omega)
      rw [HN0.out, HST.out] at hmk
      refine hmk.mono ?_
      clear hmk
      rintro e w8 ⟨hmade, hb8⟩
      have HBW8 := Lib.hid (HBW.out.trans (hb8.mono HBW.out.size))
      have HX8 := Lib.hid (HX6.out.below hb8)
      clear hb8 HX6 HG6 HB6
      rcases hmade with rfl | ⟨t, A8, m8, c8, rfl, htv, hsl, hsz⟩
      · go_wp2_with fail
        go_ret
        exact ⟨rfl, HBW8.out.alloc HBW8.out.size _⟩
      · rw [HST.out] at htv
        have HTV := Lib.hid htv
        have HSL := Lib.hid hsl
        clear htv hsl
        go_wp2_with fail
        refine (treeWord (w8.alloc (.cells #[.int .i64 t.rule, .int .i64 t.term, .slice A8 m8 c8] 46)) _ t A8 m8 c8 (HSL.out.alloc _) HTV.out.leaves (by omega)).mono ?_
        rintro e w9 ⟨A9, c9, rfl, _, hc9, hb9⟩
        have hder := HTV.out.der
        have hm60 : (wordT t).length ≤ 60 := Nat.le_trans (wordOf_len _) hsz
        obtain ⟨m, hm⟩ : ∃ m, m = (wordT t).length := ⟨_, rfl⟩
        rw [← hm] at hder hm60 hc9 ⊢
        have hb89 := ((Below.refl w8.heap.size w8).alloc (Nat.le_refl _) (.cells #[.int .i64 t.rule, .int .i64 t.term, .slice A8 m8 c8] 46)).trans (hb9.mono (by simp))
        have HBW9 := Lib.hid (HBW8.out.trans (hb89.mono HBW8.out.size))
        obtain ⟨b', o', e, hcm⟩ := lenRow_atW (HX8.out.below hb89) (show m < 200 + 1 by omega)
        injection e with e
        injection e with e1 e2
        subst e1
        subst e2
        rw [lenD_iff.2 hder] at hcm
        have hle : m ≤ kk := by have := great_pos HVA.out (by omega) hder; omega
        have hk2 : ((kk : Int) == -2) = false := by simp <;> omega
        have hg2 : decide ((200 : Int) < (m : Int)) = false := by simp <;> omega
        have hmI : (m : Int) < 201 := by omega
        have hm0 : (0 : Int) ≤ (m : Int) := by omega
        clear hder hm hb9 hb89 HTV HSL HX8 HBW8
        go_wp2_with fail
        go_ret
        exact ⟨rfl, HBW9.out⟩
    · have hpd : decide ((0 : Int) ≤ (kk : Int)) = true := by simp
      have hpd2 : decide ((kk : Int) ≤ 200) = false := by simp <;> omega
      have hk1 : ((kk : Int) == -1) = false := by simp <;> omega
      clear hhit hrest
      go_wp2_with fail
      clear k0 k1 k2 k3
      have hmk := makeTree w6 _ _ AR nR cR g HG6.out HV.out A1 n1 c1 z1 (HR1.out.below HBW.out) (by omega)
      rw [HN0.out, HST.out] at hmk
      refine hmk.mono ?_
      clear hmk
      rintro e w8 ⟨hmade, hb8⟩
      have HBW8 := Lib.hid (HBW.out.trans (hb8.mono HBW.out.size))
      have HX8 := Lib.hid (HX6.out.below hb8)
      clear hb8 HX6 HG6 HB6
      rcases hmade with rfl | ⟨t, A8, m8, c8, rfl, htv, hsl, hsz⟩
      · go_wp2_with fail
        go_ret
        exact ⟨rfl, HBW8.out.alloc HBW8.out.size _⟩
      · rw [HST.out] at htv
        have HTV := Lib.hid htv
        have HSL := Lib.hid hsl
        clear htv hsl
        go_wp2_with fail
        refine (treeWord (w8.alloc (.cells #[.int .i64 t.rule, .int .i64 t.term, .slice A8 m8 c8] 46)) _ t A8 m8 c8 (HSL.out.alloc _) HTV.out.leaves (by omega)).mono ?_
        rintro e w9 ⟨A9, c9, rfl, _, hc9, hb9⟩
        have hder := HTV.out.der
        have hm60 : (wordT t).length ≤ 60 := Nat.le_trans (wordOf_len _) hsz
        obtain ⟨m, hm⟩ : ∃ m, m = (wordT t).length := ⟨_, rfl⟩
        rw [← hm] at hder hm60 hc9 ⊢
        have hb89 := ((Below.refl w8.heap.size w8).alloc (Nat.le_refl _) (.cells #[.int .i64 t.rule, .int .i64 t.term, .slice A8 m8 c8] 46)).trans (hb9.mono (by simp))
        have HBW9 := Lib.hid (HBW8.out.trans (hb89.mono HBW8.out.size))
        obtain ⟨b', o', e, hcm⟩ := lenRow_atW (HX8.out.below hb89) (show m < 200 + 1 by omega)
        injection e with e
        injection e with e1 e2
        subst e1
        subst e2
        rw [lenD_iff.2 hder] at hcm
        have hle : m ≤ kk := by have := great_pos HVA.out (by omega) hder; omega
        have hk2 : ((kk : Int) == -2) = false := by simp <;> omega
        have hg2 : decide ((200 : Int) < (m : Int)) = false := by simp <;> omega
        have hmI : (m : Int) < 201 := by omega
        have hm0 : (0 : Int) ≤ (m : Int) := by omega
        clear hder hm hb9 hb89 HTV HSL HX8 HBW8
        go_wp2_with fail
        go_ret
        exact ⟨rfl, HBW9.out⟩
  · have hpd : decide (0 ≤ va) = false := by simpa using hpos
    rcases great_neg HVA.out hpos with rfl | rfl
    · have HNO := Lib.hid (row_none (n := 200) (k := 0) (fun j _ => by rw [Bool.eq_false_iff, Ne, lenD_iff]; exact great_none HVA.out j))
      have HR7 := Lib.hid HX6.out.bools
      go_wp2_with fail
      refine (containsBool (some ⟨b6, o6, none⟩) (200 + 1) (200 + 1) _ _ true w6 HR7.out (by omega)).mono ?_
      rintro e w7 ⟨rfl, rfl⟩
      rw [show (lenRow g.2.2.2 200 st).contains true = false from HNO.out]
      clear HNO HR7
      go_wp2_with fail
      clear k0 k1 k2 k3
      have hmk := makeTree w6 _ _ AR nR cR g HG6.out HV.out A1 n1 c1 z1 (HR1.out.below HBW.out) (by omega)
      rw [HN0.out, HST.out] at hmk
      refine hmk.mono ?_
      clear hmk
      rintro e w8 ⟨hmade, hb8⟩
      have HBW8 := Lib.hid (HBW.out.trans (hb8.mono HBW.out.size))
      have HX8 := Lib.hid (HX6.out.below hb8)
      clear hb8 HX6 HG6 HB6
      rcases hmade with rfl | ⟨t, A8, m8, c8, rfl, htv, hsl, hsz⟩
      · go_wp2_with fail
        go_ret
        exact ⟨rfl, HBW8.out.alloc HBW8.out.size _⟩
      · rw [HST.out] at htv
        exact absurd htv.der (great_none HVA.out _)
    · skip
      go_wp2_with fail
      clear k0 k1 k2 k3
      have hmk := makeTree w6 _ _ AR nR cR g HG6.out HV.out A1 n1 c1 z1 (HR1.out.below HBW.out) (by omega)
      rw [HN0.out, HST.out] at hmk
      refine hmk.mono ?_
      clear hmk
      rintro e w8 ⟨hmade, hb8⟩
      have HBW8 := Lib.hid (HBW.out.trans (hb8.mono HBW.out.size))
      have HX8 := Lib.hid (HX6.out.below hb8)
      clear hb8 HX6 HG6 HB6
      rcases hmade with rfl | ⟨t, A8, m8, c8, rfl, htv, hsl, hsz⟩
      · go_wp2_with fail
        go_ret
        exact ⟨rfl, HBW8.out.alloc HBW8.out.size _⟩
      · rw [HST.out] at htv
        have HTV := Lib.hid htv
        have HSL := Lib.hid hsl
        clear htv hsl
        go_wp2_with fail
        refine (treeWord (w8.alloc (.cells #[.int .i64 t.rule, .int .i64 t.term, .slice A8 m8 c8] 46)) _ t A8 m8 c8 (HSL.out.alloc _) HTV.out.leaves (by omega)).mono ?_
        rintro e w9 ⟨A9, c9, rfl, _, hc9, hb9⟩
        have hder := HTV.out.der
        have hm60 : (wordT t).length ≤ 60 := Nat.le_trans (wordOf_len _) hsz
        obtain ⟨m, hm⟩ : ∃ m, m = (wordT t).length := ⟨_, rfl⟩
        rw [← hm] at hder hm60 hc9 ⊢
        have hb89 := ((Below.refl w8.heap.size w8).alloc (Nat.le_refl _) (.cells #[.int .i64 t.rule, .int .i64 t.term, .slice A8 m8 c8] 46)).trans (hb9.mono (by simp))
        have HBW9 := Lib.hid (HBW8.out.trans (hb89.mono HBW8.out.size))
        obtain ⟨b', o', e, hcm⟩ := lenRow_atW (HX8.out.below hb89) (show m < 200 + 1 by omega)
        injection e with e
        injection e with e1 e2
        subst e1
        subst e2
        rw [lenD_iff.2 hder] at hcm
        have hg2 : decide ((200 : Int) < (m : Int)) = false := by simp <;> omega
        have hmI : (m : Int) < 201 := by omega
        have hm0 : (0 : Int) ≤ (m : Int) := by omega
        clear hder hm hb9 hb89 HTV HSL HX8 HBW8
        go_wp2_with fail
        go_ret
        exact ⟨rfl, HBW9.out⟩
end Go.Proofs.Ytfkapijfjihiiaa
