/- DrawEach: its walk. -/
import Derived.Test.YtfmmpmphlognlaaEachPlain
import Derived.Test.YtfmmpmphlognlaaCloInt
import Derived.Test.YtfmmpmphlognlaaLate
namespace Go.Proofs.Ytfmmpmphlognlaa
open Go.RowKit Go.Maps

theorem upTo_at {n q : Nat} (h : q < n) : (upTo n)[q]? = some (q : Int) := by simp [upTo, h]
theorem grownNone {w w' : World} (h : Below w.heap.size w w') (r : Option Nat) : w.grownBy w' r := ⟨h.os, h.tape, h.output, h.size, fun k hk _ => h.block k hk⟩
theorem intKeys : Keyed Try.prog 3 := int_keyed Try.underlying3
theorem zeroInt (w : World) : (zeroValue 3).run Try.prog w = .ok (.int .i64 0) w := by kernel_rfl
set_option linter.unusedSimpArgs false in
set_option maxRecDepth 1000000 in
set_option maxHeartbeats 8000000 in
theorem drawEach_at (n k : Int) (N K : Nat) (w : World) (hN : n % 4 = N) (hK : k % 9 = K) :
    Calls Try.prog 6 #[.int .i64 n, .int .i64 k] w fun e w' => e = .returned (.bool true) ∧ Below w.heap.size w w' := by
  have hN3 : N ≤ 3 := by omega
  have hK8 : K ≤ 8 := by omega
  have HN := Lib.hid hN
  have HK := Lib.hid hK
  have hmm := @run_makeMap Try.prog
  clear hN hK
  go_enter Try.func6, Try.ntmps6
  --@1
  go_wp2_with (go_at_call 17; refine (keepBelow _ _ _ (by omega) (by omega)).mono ?_; rintro e w' ⟨rfl, rfl⟩)
  rw [HN.out, HK.out]
  refine (order_any _ 2 (some ⟨w.heap.size, 0, none⟩) 1 1 _ [false] (by omega) (Rd.new w (fun _ => True) _ [.bool false] _ rfl trivial) (by omega) (by omega)).mono ?_
  rintro e w1 ⟨hcase, hb1⟩
  rcases hcase with ⟨A', n', c', out, u, ho, rfl, hs⟩ | ⟨ho, rfl⟩
  case inr => rw [order_two] at ho; cases ho
  rw [order_two] at ho
  injection ho with ho
  injection ho with ho1 ho2
  subst ho1
  subst ho2
  obtain rfl : n' = 2 := by rw [hs.len]; rfl
  have HB1 := Lib.hid (((Below.refl w.heap.size w).alloc (Nat.le_refl _) (.cells #[.bool false] 4)).trans (hb1.mono (by simp)))
  have hz1 := hb1.size
  simp only [World.size_alloc] at hz1
  clear hb1 hs
  --@2
  go_wp2_with fail
  obtain ⟨w2, hw2⟩ : ∃ w2 : World, w2 = w1.alloc (.map #[] 0) := ⟨_, rfl⟩
  have hz2 : w2.heap.size = w1.heap.size + 1 := by rw [hw2]; simp
  have hown2 : w2.ownsMap Try.prog 3 (plainElem (H := Unit) Try.prog 3) w1.heap.size 0 (mapD []) := by rw [hw2]; exact World.ownsMap_made _ _ _ _
  have HB2 := Lib.hid (show Below w.heap.size w w2 by rw [hw2]; exact HB1.out.alloc (by omega) _)
  rw [← hw2]
  clear hw2 hmm
  refine (coins_any K w2 (by omega)).mono ?_
  rintro e w3 ⟨A, m, c, rfl, hsl, hb3⟩
  have hz3 := hb3.size
  have hm : m = (allCoins K).length := hsl.len
  have hm2 : m ≤ 256 := by
    rw [hm, allCoins_len]
    exact Nat.le_trans (Nat.pow_le_pow_right (by omega) hK8) (by decide)
  have HM := Lib.hid hm
  have HOWN3 := Lib.hid (hown2.kept (grownNone hb3 none) (by simp))
  have HSL3 := Lib.hid hsl
  have HB3 := Lib.hid (HB2.out.trans (hb3.mono (by omega)))
  clear hm hown2 hb3 hsl
  --@3
  go_wp2_with fail
  go_loopg [43] m (fun gk i wr => ∃ (j : Nat), j ≤ m ∧ gk = m - j ∧ i = .int .i64 j ∧ wr.ownsMap Try.prog 3 (plainElem (H := Unit) Try.prog 3) w1.heap.size j (mapD (codesOf N ((allCoins K).take j))) ∧ Sl RB wr (fun b => w2.heap.size ≤ b) A m c (allCoins K) ∧ w2.heap.size ≤ wr.heap.size ∧ Below w.heap.size w wr)
  case atStart => exact ⟨0, Nat.zero_le _, rfl, rfl, HOWN3.out, HSL3.out, by omega, HB3.out⟩
  case round =>
    obtain ⟨j, hj, hgk, rfl, hown, hsl, hzr, hb⟩ := hrel
    have HGK := Lib.hid hgk
    have HOWN := Lib.hid hown
    have HSL := Lib.hid hsl
    have HB := Lib.hid hb
    obtain ⟨w4, rfl⟩ : ∃ w4 : World, w4 = wr := ⟨_, rfl⟩
    clear hgk hown hsl hb
    by_cases hlt : j < m
    · obtain ⟨b, off, u, a, rfl, _, hget, ⟨A1, n1, c1, hu, hsl1⟩, hcell⟩ := HSL.out.at_ rfl hlt
      obtain rfl : u = .slice A1 n1 c1 := by simpa using hu
      have ha : a.length = K := allCoins_mem K a (List.mem_of_getElem? hget)
      have hn1 : n1 ≤ 8 := by have := hsl1.len; omega
      have htake : (allCoins K).take (j + 1) = (allCoins K).take j ++ [a] := by
        obtain ⟨hk, rfl⟩ := List.getElem?_eq_some_iff.1 hget
        exact List.take_succ_eq_append_getElem hk
      have HT := Lib.hid htake
      have HSA := Lib.hid hsl1
      have HMEM := Lib.hid (List.mem_of_getElem? hget)
      have hjI : (j : Int) < (m : Int) := by omega
      have hj0 : (0 : Int) ≤ (j : Int) := by omega
      clear hu hget ha hsl1 htake
      --@4
      go_wp2_with fail
      refine (order_any w4 N A1 n1 c1 _ a (by omega) HSA.out.bools HSA.out.cap (by omega)).mono ?_
      rintro e w5 ⟨hcase, hb5⟩
      have hz5 := hb5.size
      have HB5 := Lib.hid hb5
      have HOWN5 := Lib.hid (HOWN.out.kept (grownNone hb5 none) (by simp))
      have HSL5 := Lib.hid (HSL.out.below hb5)
      clear hb5 hcell
      rcases hcase with ⟨A', n', c', out, u, ho, rfl, hs⟩ | ⟨ho, rfl⟩
      case inr =>
        have HO := Lib.hid ho
        clear ho
        --@5
        go_wp2_with fail
        go_roundg (m - (j + 1))
        case measure => rw [HGK.out]; omega
        case rel => exact ⟨j + 1, by omega, rfl, by go_num, by rw [HT.out, codesOf_none HO.out]; exact HOWN5.out.mono (by omega), HSL5.out, by omega, HB.out.trans (HB5.out.mono (by have := HB.out.size; omega))⟩
      · have hperm := each_perm hN3 hK8 HMEM.out ho
        have hol : out.length = N := by rw [hperm.length_eq, upTo_len]
        obtain rfl : N = n' := by rw [hs.len]; exact hol.symm
        have hcode := codesOf_some (L := (allCoins K).take j) ho
        rw [← HT.out] at hcode
        have HCODE := Lib.hid hcode
        have HPERM := Lib.hid hperm
        have HS := Lib.hid hs
        have HOL := Lib.hid hol
        clear ho hperm hs hol hcode
        --@6
        go_wp2_with fail
        refine (cloneInt _ _ _ _ _ _ HS.out.ints (by omega)).mono ?_
        rintro e w6 ⟨v6, rfl, ho6, hb6⟩
        have hz6 := hb6.size
        have HO6 := Lib.hid ho6
        have HB6 := Lib.hid hb6
        clear ho6 hb6
        --@7
        go_wp2_with fail
        refine (sortInt w6 w5.heap.size N v6 out HO6.out hN3).mono ?_
        rintro e w7 ⟨rfl, ys, hp7, hs7, ho7, hg7⟩
        obtain rfl := srt_upTo (hp7.trans HPERM.out) hs7
        obtain ⟨A7, c7, rfl, hc7, _⟩ := ho7.form
        have hz7 := hg7.size
        have hb67 : Below w5.heap.size w6 w7 := Below.own (Below.refl _ _) HO6.out hg7 (Nat.le_refl _) (by omega)
        have HB57 := Lib.hid (HB6.out.trans hb67)
        have HSEEN := Lib.hid ((Own.ints ho7 (fun _ => False)).sl)
        have HS7 := Lib.hid (HS.out.below HB57.out)
        have HOWN7 := Lib.hid (HOWN5.out.kept (grownNone HB57.out none) (by simp))
        have HSL7 := Lib.hid (HSL5.out.below HB57.out)
        have HELS := Lib.hid (show ∀ x ∈ out, 0 ≤ x ∧ x ≤ 3 from fun x hx => by have := upTo_mem (HPERM.out.subset hx); omega)
        have HBD := Lib.hid (show ∀ q, q ≤ N → 0 ≤ codeGo N (out.take q) ∧ codeGo N (out.take q) ≤ 39 from fun q hq => by
          have h1 := code_bd (n := (N : Int)) (by omega) (by omega) HELS.out q (by rw [HOL.out]; exact hq)
          obtain rfl | rfl | rfl | rfl : q = 0 ∨ q = 1 ∨ q = 2 ∨ q = 3 := by omega
          all_goals (refine ⟨h1.1, Int.le_trans h1.2 (by decide)⟩))
        clear hp7 hs7 ho7 hg7 hb67
        --@8
        go_wp2_with fail
        go_loopg [14, 62] N (fun gq v i wr => ∃ (q : Nat), q ≤ N ∧ gq = N - q ∧ i = .int .i64 q ∧ v = .int .i64 (codeGo N (out.take q)) ∧ wr = w7)
        case atStart => exact ⟨0, Nat.zero_le _, rfl, rfl, rfl, rfl⟩
        case round =>
          obtain ⟨q, hq, hgq, rfl, rfl, rfl⟩ := hrel
          have HGQ := Lib.hid hgq
          clear hgq
          have hcb := HBD.out q hq
          by_cases hqN : q < N
          · obtain ⟨b1, o1, x, rfl, _, hx, hcx⟩ := HS7.out.ints.int_at hqN
            obtain ⟨b2, o2, x2, rfl, _, hx2, hcx2⟩ := HSEEN.out.ints.int_at hqN
            obtain rfl : x2 = (q : Int) := by have h := upTo_at hqN; rw [h] at hx2; injection hx2 with e; exact e.symm
            have hx3 := HELS.out x (List.mem_of_getElem? hx)
            have hstep : codeGo N (out.take (q + 1)) = codeGo N (out.take q) * (N : Int) + x := by
              obtain ⟨h1, h2⟩ := List.getElem?_eq_some_iff.1 hx
              rw [List.take_succ_eq_append_getElem h1, codeGo_snoc, h2]
            obtain ⟨P, hP⟩ : ∃ P, P = codeGo N (out.take q) * (N : Int) := ⟨_, rfl⟩
            have hp0 : 0 ≤ P := by rw [hP]; exact Int.mul_nonneg hcb.1 (by omega)
            have hp9 : P ≤ 117 := by rw [hP]; exact Int.le_trans (Int.mul_le_mul hcb.2 (by omega : (N : Int) ≤ 3) (by omega) (by omega)) (by decide)
            obtain ⟨Q, hQ⟩ : ∃ Q, Q = codeGo N (out.take q) := ⟨_, rfl⟩
            rw [← hQ] at hP ⊢
            rw [← hQ, ← hP] at hstep
            have hw : wrap64 (Q * (N : Int)) = P := by rw [← hP, IntWalk.wrap64_in _ ⟨by omega, by omega⟩]
            have HSTEP := Lib.hid hstep
            have hqI : (q : Int) < (N : Int) := by omega
            have hq0 : (0 : Int) ≤ (q : Int) := by omega
            have hne : ((q : Int) != (q : Int)) = false := by simp
            obtain ⟨hx0, hx3⟩ := hx3
            clear hx hx2 hstep hP hQ hcb
            --@9
            go_wp2_with fail
            go_roundg (N - (q + 1))
            case measure => rw [HGQ.out]; omega
            case rel => exact ⟨q + 1, by omega, rfl, by go_num, by rw [HSTEP.out], rfl⟩
          · obtain rfl : q = N := by omega
            have hcode : codeGo q (out.take q) = codeGo q out := by rw [List.take_of_length_le (by rw [HOL.out]; exact Nat.le_refl _)]
            rw [hcode]
            rw [hcode] at hcb
            have hCODE := HCODE.out
            obtain ⟨Q, hQ⟩ : ∃ Q, Q = codeGo q out := ⟨_, rfl⟩
            rw [← hQ] at hcb hCODE ⊢
            obtain ⟨hq0, hq39⟩ := hcb
            have hwf : (Lit.int .i64 Q).wf = true := WalkArith.wf_i64 (by omega)
            have HC2 := Lib.hid hCODE
            have hnn : ((q : Int) != (q : Int)) = false := by simp
            clear hcode hCODE hQ
            --@10
            go_wp2_with (first
              | (at_lookup; refine wpList_lookup_own_int _ rfl _ _ 60 rfl 3 3 .i64 intKeys Try.underlying60 Try.underlying3 (zeroInt _) w1.heap.size j _ rfl HOWN7.out _ _ rfl (keyOf_int_mk Try.underlying3 hwf) ?_; intro cc hat hwc)
              | (at_mapUpdate; refine wpList_mapUpdate_own _ rfl _ _ _ 60 rfl 3 3 intKeys Try.underlying60 _ w1.heap.size j _ rfl HOWN7.out (by unfold maxLen; omega) _ _ _ rfl rfl (keyOf_int_mk Try.underlying3 hwf) _ [] (plainElem_int Try.underlying3 (wrap_wf _)) ?_; intro w8 hown8 hg8))
            go_roundg (m - (j + 1))
            case measure => rw [HGK.out]; omega
            case rel =>
              have hcnt : cntD (mapD (codesOf q ((allCoins K).take j))) Q = cc := by unfold cntD; rw [hat]
              refine ⟨j + 1, by omega, rfl, by go_num, ?_, HSL7.out.keep (.grown hg8 fun b hb => by intro e; injection e with e; omega), by have := hg8.size; omega, ?_⟩
              · rw [HC2.out, mapD_snoc]
                unfold stepD
                rw [hcnt]
                exact hown8
              · exact ((HB.out.trans (HB5.out.mono (by have := HB.out.size; omega))).trans (HB57.out.mono (by have := HB.out.size; omega))).grown hg8 (by have := HB.out.size; omega) (fun g hg => by injection hg with hg; omega)
    · obtain rfl : m = j := by omega
      have hfin := each_fin hN3 hK8
      have hown := HOWN.out
      rw [List.take_of_length_le (by rw [← HM.out]; exact Nat.le_refl _)] at hown
      obtain ⟨D, hD⟩ : ∃ D, D = mapD (codesOf N (allCoins K)) := ⟨_, rfl⟩
      rw [← hD] at hfin hown
      have HOD := Lib.hid hown
      clear hown hD HOWN HSL
      rcases fin_entry hfin with rfl | ⟨v, hv1, hv9, hsz, hhas, hval⟩
      · have hs0 : Maps.size (DataW.map ([] : List (Lit × DataW Unit))) = 0 := rfl
        --@11
        go_wp2_with (at_len; refine wpList_len_own _ rfl _ 60 rfl 3 3 Try.underlying60 _ w1.heap.size _ _ rfl HOD.out ?_; rw [hs0])
        go_ret
        exact ⟨rfl, HB.out⟩
      · have HSZ := Lib.hid hsz
        have HHAS := Lib.hid hhas
        have HVAL := Lib.hid hval
        have hf1 : 1 ≤ factOf N := by unfold factOf; split; omega; split <;> omega
        have hf6 : factOf N ≤ 6 := by unfold factOf; split; omega; split <;> omega
        obtain ⟨fN, hfN⟩ : ∃ fN, fN = factOf N := ⟨_, rfl⟩
        rw [← hfN] at hf1 hf6
        have HFN := Lib.hid hfN
        have hs0 : Maps.size D = fN := by rw [hsz, hfN]
        have hne0 : ((fN : Int) == 0) = false := by simp; omega
        clear hfin hsz hhas hval hfN
        --@12
        go_wp2_with (first
          | (at_len; refine wpList_len_own _ rfl _ 60 rfl 3 3 Try.underlying60 _ w1.heap.size _ _ rfl HOD.out ?_; rw [hs0])
          | (at_range; refine wpList_range_own _ rfl _ 60 rfl 3 3 intKeys Try.underlying60 _ w1.heap.size _ D rfl HOD.out ?_; intro w9 hrg9 hg9 hz9))
        go_frame
        have hb9 : Below w.heap.size w w9 := HB.out.grown hg9 HB.out.size (fun g hg => by cases hg)
        have HRG9 := Lib.hid hrg9
        have HB9 := Lib.hid hb9
        clear hrg9 hg9 hb9 hs0 hne0
        go_loopg [18, 19] (Maps.size D) (fun gc a b wr => ∃ (left : Lit → Bool), wr.ranges Try.prog 3 (plainElem (H := Unit) Try.prog 3) w1.heap.size w4.heap.size m D left gc ∧ ((a = .int .i64 1099511627776 ∧ b = .int .i64 0 ∧ left = Maps.has D) ∨ (a = .int .i64 v ∧ b = .int .i64 v)) ∧ w4.heap.size ≤ wr.heap.size ∧ Below w.heap.size w wr)
        case atStart => exact ⟨_, HRG9.out, Or.inl ⟨rfl, rfl, rfl⟩, by omega, HB9.out⟩
        case round =>
          obtain ⟨left, hrg, hab, hzr9, hb⟩ := hrel
          have HRG := Lib.hid hrg
          have HBR := Lib.hid hb
          obtain ⟨w10, rfl⟩ : ∃ w10 : World, w10 = wr := ⟨_, rfl⟩
          clear hrg hb
          rcases hab with ⟨rfl, rfl, hleft⟩ | ⟨rfl, rfl⟩
          · --@13
            go_wp2_with (at_next; refine wpList_next_ranges_ii _ rfl _ rfl 3 3 .i64 .i64 intKeys Try.underlying3 Try.underlying3 w1.heap.size w4.heap.size m _ _ _ rfl HRG.out ?_ ?_)
            · intro _ hl0
              obtain ⟨kl, hkl⟩ := HHAS.out
              first | (rw [hl0] at hkl; cases hkl) | (rw [← hleft, hl0] at hkl; cases hkl)
            · intro x cc w11 cnt1 hwx hwc hlx hat hrg1 hlt1 hg11 hz11 hen
              obtain rfl := HVAL.out x cc hat
              have HRG1 := Lib.hid hrg1
              have HB11 := Lib.hid (HBR.out.grown hg11 HBR.out.size (fun g hg => by injection hg with hg; have := HB.out.size; omega))
              clear hrg1 hg11 hat hwx hwc hlx
              --@14
              go_wp2_with fail
              go_roundg cnt1
              case measure => exact hlt1
              case rel => exact ⟨_, HRG1.out, Or.inr ⟨by go_num, by go_num⟩, by omega, HB11.out⟩
          · --@15
            go_wp2_with (at_next; refine wpList_next_ranges_ii _ rfl _ rfl 3 3 .i64 .i64 intKeys Try.underlying3 Try.underlying3 w1.heap.size w4.heap.size m _ _ _ rfl HRG.out ?_ ?_)
            · intro _ _
              have hown := HRG.out.owns
              have HOE := Lib.hid hown
              have HLEN := Lib.hid (show ∀ u : World, u.heap[w1.heap.size]? = w10.heap[w1.heap.size]? → ∀ ty, (Builtin.len_ #[60] ty #[.map (some w1.heap.size)]).run Try.prog u = .ok (.int .i64 (fN : Int)) u from fun u hu ty => by
                have h1 : u.ownsMap Try.prog 3 (plainElem (H := Unit) Try.prog 3) w1.heap.size m D := by
                  obtain ⟨es, clock, hb, F, hs, hD⟩ := HOE.out
                  exact ⟨es, clock, hu.trans hb, F, hs, hD⟩
                rw [h1.len Try.underlying60 ty, HSZ.out, HFN.out])
              have hlt10 : w1.heap.size < w10.heap.size := by omega
              have HCELL := Lib.hid (show (w10.alloc (.cells #[.int .i64 1, .int .i64 1, .int .i64 2, .int .i64 6] 3)).cell? ⟨w10.heap.size, N, none⟩ = some (.int .i64 (fN : Int)) by
                rw [World.cell?_alloc_at _ _ _ _ rfl, HFN.out]
                obtain h | h | h | h : N = 0 ∨ N = 1 ∨ N = 2 ∨ N = 3 := by omega
                all_goals (rw [h]; rfl))
              have hNI : (N : Int) < 4 := by omega
              have hN0 : (0 : Int) ≤ (N : Int) := by omega
              clear hown
              --@16
              go_wp2_with fail
              refine wp_region_late (late := []) (S1 := fun u => u.heap[w1.heap.size]? = w10.heap[w1.heap.size]?) (S := fun _ => True) (by kernel_rfl) ?_
              refine wpAnyL_pure (i := 0) rfl (by kernel_rfl) (fun _ _ _ h => h) (Or.inl ⟨by rfl, (fun u hu => by go_simp; try rfl)⟩) rfl (fun _ => trivial) ?_
              simp only [Act.put, List.setIfInBounds_toArray, List.set_cons_zero, List.set_cons_succ, List.getElem_toArray, List.getElem_cons_zero, List.getElem_cons_succ]
              refine wpAnyL_pure (i := 1) rfl (by kernel_rfl) (fun _ _ _ h => h) (Or.inl ⟨by rfl, (fun u hu => by go_simp; try rfl)⟩) rfl (fun _ => trivial) ?_
              simp only [Act.put, List.setIfInBounds_toArray, List.set_cons_zero, List.set_cons_succ, List.getElem_toArray, List.getElem_cons_zero, List.getElem_cons_succ]
              refine wpAnyL_pure (i := 2) rfl (by kernel_rfl) (fun _ _ _ h => h) (Or.inl ⟨by rfl, (fun u hu => by go_simp; try rfl)⟩) rfl (fun _ => trivial) ?_
              simp only [Act.put, List.setIfInBounds_toArray, List.set_cons_zero, List.set_cons_succ, List.getElem_toArray, List.getElem_cons_zero, List.getElem_cons_succ]
              refine wpAnyL_pure (i := 3) rfl (by kernel_rfl) (fun _ _ _ h => h) (Or.inl ⟨by rfl, (fun u hu => by go_simp; try rfl)⟩) rfl (fun _ => trivial) ?_
              simp only [Act.put, List.setIfInBounds_toArray, List.set_cons_zero, List.set_cons_succ, List.getElem_toArray, List.getElem_cons_zero, List.getElem_cons_succ]
              refine wpAnyL_pure (i := 4) rfl (by kernel_rfl) (fun _ _ _ h => h) (Or.inl ⟨by rfl, (fun u hu => by go_simp; try rfl)⟩) rfl (fun _ => trivial) ?_
              simp only [Act.put, List.setIfInBounds_toArray, List.set_cons_zero, List.set_cons_succ, List.getElem_toArray, List.getElem_cons_zero, List.getElem_cons_succ]
              refine wpAnyL_pure (i := 5) rfl (by kernel_rfl) (fun _ _ _ h => h) (Or.inl ⟨by rfl, (fun u hu => by have hl := HLEN.out u hu; go_simp; try rfl)⟩) rfl (fun _ => trivial) ?_
              simp only [Act.put, List.setIfInBounds_toArray, List.set_cons_zero, List.set_cons_succ, List.getElem_toArray, List.getElem_cons_zero, List.getElem_cons_succ]
              refine wpAnyL_pure (i := 7) rfl (by kernel_rfl) (fun _ _ _ h => h) (Or.inl ⟨by rfl, (fun u hu => by go_simp; try rfl)⟩) rfl (fun _ => trivial) ?_
              simp only [Act.put, List.setIfInBounds_toArray, List.set_cons_zero, List.set_cons_succ, List.getElem_toArray, List.getElem_cons_zero, List.getElem_cons_succ]
              refine wpAnyL_ready (rs := [6]) (by kernel_rfl) (by simp) ?_
              refine AllL.cons rfl (fun K hK => ?_) ?_
              · go_simp
                refine hK.out _ _ (Below.heap_alloc _ _ _ hlt10) (fun _ => trivial) ?_
                clear hK K
                refine wpAnyL_pure (i := 8) rfl (by kernel_rfl) (fun _ _ _ h => h) (Or.inl ⟨by rfl, (fun u hu => by go_simp; try rfl)⟩) (Below.heap_alloc _ _ _ hlt10) (fun _ => trivial) ?_
                simp only [Act.put, List.setIfInBounds_toArray, List.set_cons_zero, List.set_cons_succ, List.getElem_toArray, List.getElem_cons_zero, List.getElem_cons_succ]
                refine wpAnyL_ready (rs := [9]) (by kernel_rfl) (by simp) ?_
                refine AllL.cons rfl (fun K hK => ?_) ?_
                · have hc := HCELL.out
                  go_simp
                  clear hc
                  refine hK.out _ _ (Below.heap_alloc _ _ _ hlt10) (fun _ => trivial) ?_
                  clear hK K
                  refine wpAnyL_pure (i := 10) rfl (by kernel_rfl) (fun _ _ _ h => h) (Or.inl ⟨by rfl, (fun u hu => by go_simp; try rfl)⟩) (Below.heap_alloc _ _ _ hlt10) (fun _ => trivial) ?_
                  simp only [Act.put, List.setIfInBounds_toArray, List.set_cons_zero, List.set_cons_succ, List.getElem_toArray, List.getElem_cons_zero, List.getElem_cons_succ]
                  refine wpAnyL_pure (i := 11) rfl (by kernel_rfl) (fun _ _ _ h => h) (Or.inl ⟨by rfl, (fun u hu => by go_simp; try rfl)⟩) (Below.heap_alloc _ _ _ hlt10) (fun _ => trivial) ?_
                  simp only [Act.put, List.setIfInBounds_toArray, List.set_cons_zero, List.set_cons_succ, List.getElem_toArray, List.getElem_cons_zero, List.getElem_cons_succ]
                  refine wpAnyL_pure (i := 12) rfl (by kernel_rfl) (fun _ _ _ h => h) (Or.inl ⟨by rfl, (fun u hu => by go_simp; try rfl)⟩) (Below.heap_alloc _ _ _ hlt10) (fun _ => trivial) ?_
                  simp only [Act.put, List.setIfInBounds_toArray, List.set_cons_zero, List.set_cons_succ, List.getElem_toArray, List.getElem_cons_zero, List.getElem_cons_succ]
                  refine wpAnyL_done (by kernel_rfl) ?_ _
                  go_wp2_with fail
                  go_ret
                  exact ⟨rfl, (HBR.out.drew.alloc HBR.out.size _)⟩
                exact AllL.nil
              exact AllL.nil
            · intro x cc w11 cnt1 hwx hwc hlx hat hrg1 hlt1 hg11 hz11 hen
              obtain rfl := HVAL.out x cc hat
              have HRG1 := Lib.hid hrg1
              have HB11 := Lib.hid (HBR.out.grown hg11 HBR.out.size (fun g hg => by injection hg with hg; have := HB.out.size; omega))
              clear hrg1 hg11 hat hwx hwc hlx
              --@17
              go_wp2_with fail
              go_roundg cnt1
              case measure => exact hlt1
              case rel => exact ⟨_, HRG1.out, Or.inr ⟨by go_num, by go_num⟩, by omega, HB11.out⟩
theorem drawEach_walk (w : World) (n : Int) (_ : -9223372036854775808 ≤ n) (_ : n ≤ 9223372036854775807) (k : Int) (_ : -9223372036854775808 ≤ k) (_ : k ≤ 9223372036854775807) :
    Calls Try.prog 6 #[.int .i64 n, .int .i64 k] w fun e w' => e = .returned (.bool true) ∧ Below w.heap.size w w' := by
  have hp := Int.emod_nonneg n (by omega : (4 : Int) ≠ 0)
  have hq := Int.emod_nonneg k (by omega : (9 : Int) ≠ 0)
  exact drawEach_at n k (n % 4).toNat (k % 9).toNat w (by omega) (by omega)
end Go.Proofs.Ytfmmpmphlognlaa
