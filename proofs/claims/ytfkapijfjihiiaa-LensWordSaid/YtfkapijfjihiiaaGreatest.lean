/- lens.Greatest: how long the longest word is. -/
import Derived.Test.YtfkapijfjihiiaaEndless
import Derived.Test.YtfkapijfjihiiaaTrim
namespace Go.Proofs.Ytfkapijfjihiiaa
open Go.RowKit

theorem longS_bound {ms : List Int} (hS : ∀ x ∈ ms, 0 ≤ x ∧ x ≤ 1048576) : ∀ (l : List SymD) {n : Int}, 0 ≤ n → 0 ≤ l.foldl (addM ms) n ∧ l.foldl (addM ms) n ≤ n + l.length * 1048576
  | [], n, hn => by simp; exact hn
  | s :: l, n, hn => by
    have hg : 0 ≤ ms.getD s.2.toNat 0 ∧ ms.getD s.2.toNat 0 ≤ 1048576 := by
      rcases Nat.lt_or_ge s.2.toNat ms.length with h | h
      · rw [List.getD_eq_getElem?_getD, List.getElem?_eq_getElem h]
        exact hS _ (List.getElem_mem h)
      · rw [List.getD_eq_getElem?_getD, List.getElem?_eq_none h]
        simp
    have h1 : 0 ≤ addM ms n s ∧ addM ms n s ≤ n + 1048576 := by
      unfold addM
      split <;> omega
    obtain ⟨h2, h3⟩ := longS_bound hS l h1.1
    refine ⟨h2, ?_⟩
    rw [List.foldl_cons, List.length_cons]
    omega
def mM (ms : List Int) : Nat := (ms.map fun x => 1048577 - x.toNat).sum
def ruleUpto (R : List RuleD) (ms : List Int) (i : Nat) : Prop := ∀ j r, j < i → R[j]? = some r → ruleM ms r.2 ≤ ms.getD r.1.toNat 0
def GreatestR (R : List RuleD) (st : Nat) (e : Ending) : Prop := ∃ v : Int, e = .returned (.tuple #[.int .i64 v, .int .i64 0]) ∧ GreatR R st v ∧ v ≤ 1048576
set_option linter.unusedSimpArgs false in
set_option maxRecDepth 1000000 in
set_option maxHeartbeats 20000000 in
theorem lensGreatest (w : World) (Sg : Nat → Prop) (AR : Option Addr) (nR cR : Nat) (g : GramD) (hg : Sl RRule w Sg AR nR cR g.2.2.2) (hv : GValid g) (N st : Nat) (hN : N = nonsOf g) (hst : g.2.2.1 = (st : Int)) :
    Calls Try.prog 14 #[.agg #[.int .i64 g.1, .int .i64 g.2.1, .int .i64 g.2.2.1, .slice AR nR cR]] w fun e w' => GreatestR g.2.2.2 st e ∧ Below w.heap.size w w' := by
  have hRN := rulesN_of hv
  rw [← hN] at hRN
  have hN0 : g.2.1 = (N : Int) := by have := hv.n1; rw [hN]; unfold nonsOf; omega
  have hN2 : N ≤ 10 := by have := hv.n2; omega
  have HR4 := Lib.hid (show ∀ r ∈ g.2.2.2, r.2.length ≤ 4 from fun r hr => (hv.rules r hr).2.1)
  have HRL := Lib.hid (show g.2.2.2.length ≤ 32 from hv.rl)
  have HG := Lib.hid hg
  have HV := Lib.hid hv
  have HRN := Lib.hid hRN
  have HN := Lib.hid hN
  have HN0 := Lib.hid hN0
  have HST := Lib.hid hst
  rw [hN0, hst]
  clear hg hv hRN hN hN0 hst
  go_enter Try.func14, Try.ntmps14
  --@1
  go_wp2_with fail
  have htr := usefulTrim (w.alloc (.cells #[.int .i64 g.1, .int .i64 (N : Int), .int .i64 (st : Int), .slice AR nR cR] 25)) Sg AR nR cR g (HG.out.alloc _) HV.out N st HN.out HST.out
  rw [HN0.out, HST.out] at htr
  refine htr.mono ?_
  clear htr
  rintro e w2 ⟨hmade, hb2⟩
  have hb02 : Below w.heap.size w w2 := ((Below.refl _ _).alloc (Nat.le_refl _) _).trans (hb2.mono (by simp))
  have HB2 := Lib.hid hb02
  have hz2 := hb02.size
  clear hb2 hb02
  rcases hmade with ⟨ls, inn, AX, nX, cX, vN, vQ, rfl, hI, hL, hl, hp, hsx⟩ | ⟨rfl, hno⟩
  case inr =>
    have HNO := Lib.hid hno
    clear hno
    --@2
    go_wp2_with fail
    refine bodyPost_ret (v := .tuple #[.int .i64 (-1), .int .i64 0]) (by simp [results, Try.results14, go_sem]) rfl ?_
    exact ⟨⟨-1, rfl, .inl ⟨rfl, HNO.out⟩, by omega⟩, HB2.out.alloc HB2.out.size _⟩
  obtain ⟨NN, hNN⟩ : ∃ NN, NN = rnk inn N := ⟨_, rfl⟩
  obtain ⟨sT, hsT⟩ : ∃ sT, sT = rnk inn st := ⟨_, rfl⟩
  obtain ⟨R', hR'⟩ : ∃ R', R' = trimR inn ls g.2.2.2 := ⟨_, rfl⟩
  have hsTN : sT < NN := by rw [hsT, hNN]; exact rnk_lt (hI.lt _ hI.start) hI.start
  have hNN10 : NN ≤ 10 := by rw [hNN]; exact Nat.le_trans (rnk_le _ _) hN2
  have HRX := Lib.hid (show RulesN NN R' by rw [hNN, hR']; exact trim_rules hI)
  have HLX := Lib.hid (show ∀ r ∈ R', r.2.length ≤ 4 by rw [hR']; exact trim_len HR4.out)
  have HPX := Lib.hid (show ∀ c, c < NN → Prod1 R' c by rw [hNN, hR']; exact trim_prod hI hL hl HRN.out hp)
  have HCX := Lib.hid (show ∀ c, c < NN → sT = c ∨ Reach (fun i j => edgN R' i j = true) sT c by rw [hNN, hR', hsT]; exact trim_reach hI)
  have HGX := Lib.hid (show ∀ v, GreatR R' sT v → GreatR g.2.2.2 st v by rw [hR', hsT]; exact fun v h => trim_great hI hL hl HRN.out h)
  have hnX : nX ≤ 32 := by have h1 := hsx.len; have h2 := trimR_len (inn := inn) (ls := ls) (R := g.2.2.2); have := HRL.out; omega
  rw [← hR'] at hsx
  rw [← hNN, ← hsT]
  have HSX := Lib.hid hsx
  clear hI hL hl hp hsx hNN hsT hR'
  --@3
  go_wp2_with fail
  obtain ⟨w3, hw3⟩ : ∃ w3 : World, w3 = w2.alloc (.cells #[.int .i64 g.1, .int .i64 (NN : Int), .int .i64 (sT : Int), .slice AX nX cX] 25) := ⟨_, rfl⟩
  rw [← hw3]
  have hz3 : w2.heap.size < w3.heap.size := by rw [hw3]; simp
  have hb23 : Below w2.heap.size w2 w3 := by rw [hw3]; exact (Below.refl _ _).alloc (Nat.le_refl _) _
  have HX3 := Lib.hid (show w3.heap[w2.heap.size]? = some (.cells #[.int .i64 g.1, .int .i64 (NN : Int), .int .i64 (sT : Int), .slice AX nX cX] 25 (0, 0)) by rw [hw3]; exact heap_alloc_new _ _)
  have HB3 := Lib.hid (HB2.out.trans (hb23.mono hz2))
  have HS3 := Lib.hid (HSX.out.below hb23)
  have HREG := Lib.hid (show ∀ u : World, Below w3.heap.size w3 u → u.cell? ⟨w2.heap.size, 0, none⟩ = some (.int .i64 g.1) ∧ u.cell? ⟨w2.heap.size, 1, none⟩ = some (.int .i64 (NN : Int)) ∧ u.cell? ⟨w2.heap.size, 2, none⟩ = some (.int .i64 (sT : Int)) ∧ u.cell? ⟨w2.heap.size, 3, none⟩ = some (.slice AX nX cX) from fun u hu => by
    have e1 := (hu.block _ hz3).trans HX3.out
    exact ⟨by simp [World.cell?, e1], by simp [World.cell?, e1], by simp [World.cell?, e1], by simp [World.cell?, e1]⟩)
  have HB34 := Lib.hid (show Below w3.heap.size w3 w3.drew from (Below.refl _ _).drew)
  have HS4 := Lib.hid (HS3.out.drew)
  clear hw3 hb23
  refine wp_region_late (late := []) (S1 := fun u => u.cell? ⟨w2.heap.size, 0, none⟩ = some (.int .i64 g.1) ∧ u.cell? ⟨w2.heap.size, 1, none⟩ = some (.int .i64 (NN : Int)) ∧ u.cell? ⟨w2.heap.size, 2, none⟩ = some (.int .i64 (sT : Int)) ∧ u.cell? ⟨w2.heap.size, 3, none⟩ = some (.slice AX nX cX)) (S := fun _ => True) (by kernel_rfl) ?_
  obtain ⟨w4, hw4⟩ : ∃ w4 : World, w4 = w3.drew := ⟨_, rfl⟩
  rw [← hw4] at HB34 HS4 ⊢
  clear hw4
  refine wpAnyL_pure (i := 0) rfl (by kernel_rfl) (fun _ _ _ h => h) (Or.inl ⟨by rfl, (fun u hu => by obtain ⟨k0, k1, k2, k3⟩ := hu; go_simp; try rfl)⟩) (HREG.out _ HB34.out) (fun _ => trivial) ?_
  simp only [Act.put, List.setIfInBounds_toArray, List.set_cons_zero, List.set_cons_succ, List.getElem_toArray, List.getElem_cons_zero, List.getElem_cons_succ]
  refine wpAnyL_pure (i := 1) rfl (by kernel_rfl) (fun _ _ _ h => h) (Or.inl ⟨by rfl, (fun u hu => by obtain ⟨k0, k1, k2, k3⟩ := hu; go_simp; try rfl)⟩) (HREG.out _ HB34.out) (fun _ => trivial) ?_
  simp only [Act.put, List.setIfInBounds_toArray, List.set_cons_zero, List.set_cons_succ, List.getElem_toArray, List.getElem_cons_zero, List.getElem_cons_succ]
  refine wpAnyL_ready (rs := [2]) (by kernel_rfl) (by simp) ?_
  refine AllL.cons rfl (fun K hK => ?_) ?_
  · go_simp
    refine (lensGrows w4 _ AX nX cX g.1 NN sT R' HS4.out HRX.out HLX.out (by omega) hNN10 hnX HPX.out).mono ?_
    rintro e w5 ⟨⟨B, F, _, rfl, hrow, hsn, hcl⟩, hb5⟩
    have HB35 := Lib.hid (HB34.out.trans (hb5.mono HB34.out.size))
    have HS5 := Lib.hid (HS4.out.below hb5)
    have HROW := Lib.hid hrow
    have HSN := Lib.hid hsn
    have HCL := Lib.hid hcl
    clear hb5 hrow hsn hcl
    refine hK.out _ _ (HREG.out _ HB35.out) (fun _ => trivial) ?_
    clear hK K
    refine wpAnyL_ready (rs := [3]) (by kernel_rfl) (by simp) ?_
    refine AllL.cons rfl (fun K hK => ?_) ?_
    · go_simp
      refine (lensEndless w5 _ AX nX cX g.1 NN sT R' HS5.out HRX.out HLX.out (by omega) hNN10 hnX B F HROW.out).mono ?_
      rintro e w6 ⟨⟨q, rfl, hq⟩, hb6⟩
      have HB36 := Lib.hid (HB35.out.trans (hb6.mono HB35.out.size))
      have HS6 := Lib.hid (HS5.out.below hb6)
      have HQ := Lib.hid hq
      clear hb6 hq
      refine hK.out _ _ (HREG.out _ HB36.out) (fun _ => trivial) ?_
      clear hK K
      refine wpAnyL_done (by kernel_rfl) ?_ _
      have HB6 := Lib.hid (HB3.out.trans (HB36.out.mono HB3.out.size))
      cases q with
      | true =>
        have HEN := Lib.hid (show EndlessP R' F NN from HQ.out.1 (by first | rfl | trivial))
        --@4
        go_wp2_with fail
        refine bodyPost_ret (v := .tuple #[.int .i64 (-2), .int .i64 0]) (by simp [results, Try.results14, go_sem]) rfl ?_
        exact ⟨⟨-2, rfl, HGX.out _ (.inr (.inl ⟨rfl, endless_many HRX.out HPX.out HSN.out HCX.out HEN.out⟩)), by omega⟩, HB6.out⟩
      | false =>
        have HNE := Lib.hid (show ¬ EndlessP R' F NN from fun h => by have := HQ.out.2 h; cases this)
        have HDL := Lib.hid (fun (a k : Nat) (h : Der R' [(false, (a : Int))] k) => der_le HRX.out hNN10 HLX.out HCL.out HNE.out h)
        obtain ⟨k0, k1, k2, k3⟩ := HREG.out w6 HB36.out
        have hl6 : w2.heap.size < w6.heap.size := by have := HB36.out.size; omega
        have hmk := fun W => tInts.make rfl NN (by omega) (by omega) W
        --@5
        go_wp2_with fail
        clear hmk k0 k1 k2 k3
        obtain ⟨w7, hw7⟩ : ∃ w7 : World, w7 = w6.alloc (.cells (madeCells #[.int .i64 0] NN) 3) := ⟨_, rfl⟩
        rw [← hw7]
        have hz7 : w7.heap.size = w6.heap.size + 1 := by rw [hw7]; simp
        have HO7 := Lib.hid (show Own w7 w6.heap.size 3 1 (.slice (some ⟨w6.heap.size, 0, none⟩) NN NN) NN ((List.replicate NN (0 : Int)).map (Value.int .i64)) by
          rw [hw7, List.map_replicate]
          exact .inl (made_own w6 w6.heap.size 3 (.int .i64 0) NN (Nat.le_refl _) (by unfold maxLen; omega)))
        have HB67 := Lib.hid (show Below w6.heap.size w6 w7 by rw [hw7]; exact (Below.refl _ _).alloc (Nat.le_refl _) _)
        clear hw7
        have HSM0 := Lib.hid (show SoundM R' (List.replicate NN 0) from fun a x hx => by
          rw [List.getElem?_replicate] at hx
          split at hx
          · injection hx with hx
            subst hx
            obtain ⟨k, hk⟩ := HPX.out a (by assumption)
            exact ⟨Int.le_refl _, k, by simp, hk⟩
          · cases hx)
        have hz67 := HB67.out.size
        obtain ⟨gB, hgB⟩ : ∃ gB, gB = w6.heap.size := ⟨_, rfl⟩
        rw [← hgB] at HO7 ⊢
        have hg6 : gB = w6.heap.size := hgB
        have HGB := Lib.hid hg6
        clear hgB hg6
        go_loopg [9] (mM (List.replicate NN 0) + 1) (fun gk va wr => ∃ (ag : Bool) (ms : List Int), va = .bool ag ∧ gk = mM ms + (if ag then 1 else 0) ∧ ms.length = NN ∧ SoundM R' ms ∧ (ag = false → ClosedM R' ms) ∧ Own wr gB 3 1 (.slice (some ⟨gB, 0, none⟩) NN NN) NN (ms.map (Value.int .i64)) ∧ Below w6.heap.size w6 wr)
        case atStart => exact ⟨true, _, rfl, rfl, List.length_replicate, HSM0.out, (fun h => by cases h), HO7.out, HB67.out⟩
        case round =>
          obtain ⟨ag, ms, rfl, hgk, hlen, hsm, hcm, hown, hb⟩ := hrel
          have HGK := Lib.hid hgk
          have HLN := Lib.hid hlen
          have HSM := Lib.hid hsm
          have HCM := Lib.hid hcm
          have HO := Lib.hid hown
          have HB8 := Lib.hid hb
          obtain ⟨w8, rfl⟩ : ∃ w8 : World, w8 = wr := ⟨_, rfl⟩
          have hz8 := hb.size
          obtain ⟨_, _, k2, k3⟩ := HREG.out w8 (HB36.out.trans (hb.mono HB36.out.size))
          have hl8 : w2.heap.size < w8.heap.size := by omega
          clear hgk hlen hsm hcm hown hb
          cases ag with
          | false =>
            obtain ⟨hc, _, _, hgl⟩ := HO.out.at_ hsTN
            obtain ⟨y, hy⟩ : ∃ y, ms[sT]? = some y := ⟨_, List.getElem?_eq_getElem (by have := HLN.out; omega)⟩
            rw [List.getElem?_map, hy] at hc
            have hc' : w8.cell? ⟨gB, sT, none⟩ = some (.int .i64 y) := hc
            have HGR := Lib.hid (show GreatR R' sT y by
              have h := great_of HSM.out (HCM.out (by first | rfl | trivial)) (show sT < ms.length by have := HLN.out; omega)
              rwa [List.getD_eq_getElem?_getD, hy] at h)
            have HYB := Lib.hid (show y ≤ 1048576 by
              obtain ⟨h3, k, h4, h5⟩ := HSM.out sT y hy
              have := HDL.out sT k h5
              omega)
            have hsI : (sT : Int) < (NN : Int) := by omega
            have hs0 : (0 : Int) ≤ (sT : Int) := by omega
            clear hc hy
            --@6
            go_wp2_with fail
            refine bodyPost_ret (v := .tuple #[.int .i64 y, .int .i64 0]) (by simp [results, Try.results14, go_sem]) rfl ?_
            exact ⟨⟨y, rfl, HGX.out _ HGR.out, HYB.out⟩, HB6.out.trans (HB8.out.mono HB6.out.size)⟩
          | true =>
            have hgk := HGK.out
            rw [if_pos rfl] at hgk
            have HGK := Lib.hid hgk
            clear hgk HCM
            --@7
            go_wp2_with fail
            clear k2 k3
            go_loopg [9, 39] nX (fun gj va vi wx => ∃ (i : Nat) (ag : Bool) (ms' : List Int), i ≤ nX ∧ gj = nX - i ∧ vi = .int .i64 i ∧ va = .bool ag ∧ ms'.length = NN ∧ SoundM R' ms' ∧ (ag = true → mM ms' < mM ms) ∧ (ag = false → ms' = ms ∧ ruleUpto R' ms i) ∧ Own wx gB 3 1 (.slice (some ⟨gB, 0, none⟩) NN NN) NN (ms'.map (Value.int .i64)) ∧ Below w6.heap.size w6 wx)
            case atStart => exact ⟨0, false, ms, Nat.zero_le _, rfl, rfl, rfl, HLN.out, HSM.out, (fun h => by cases h), (fun _ => ⟨rfl, fun j r h => absurd h (by omega)⟩), HO.out, HB8.out⟩
            case round =>
              obtain ⟨i, ag, ms', hi, hgj, rfl, rfl, hlen', hsm', hag', hcl', hown', hb'⟩ := hrel
              have HGJ := Lib.hid hgj
              have HLN' := Lib.hid hlen'
              have HSM' := Lib.hid hsm'
              have HAG' := Lib.hid hag'
              have HCL' := Lib.hid hcl'
              have HO' := Lib.hid hown'
              have HB9 := Lib.hid hb'
              obtain ⟨w9, rfl⟩ : ∃ w9 : World, w9 = wr := ⟨_, rfl⟩
              have hz9 := hb'.size
              clear hgj hlen' hsm' hag' hcl' hown' hb'
              by_cases hlt : i < nX
              · obtain ⟨b0, off, A3, m3, c3, r, hAX, _, hb0, hc1, hc2, hr, hrs⟩ := rule_at (HS6.out.below HB9.out) hlt
                subst hAX
                obtain ⟨⟨hr1, hrN⟩, hok⟩ := HRX.out r (List.mem_of_getElem? hr)
                obtain ⟨a, ha⟩ : ∃ a : Nat, r.1 = (a : Int) := ⟨r.1.toNat, by omega⟩
                have haN : a < NN := by rw [ha] at hrN; simpa using hrN
                have hm4 : m3 ≤ 4 := by have := hrs.len; have := HLX.out r (List.mem_of_getElem? hr); omega
                rw [ha] at hc1
                have hiI : (i : Int) < (nX : Int) := by omega
                have hi0 : (0 : Int) ≤ (i : Int) := by omega
                have HOK := Lib.hid hok
                have HR := Lib.hid hr
                have HA := Lib.hid ha
                have HRL3 := Lib.hid hrs.len
                have HSB := Lib.hid (show ∀ j, 0 ≤ (r.2.take j).foldl (addM ms') 0 ∧ (r.2.take j).foldl (addM ms') 0 ≤ 4194304 from fun j => by
                  obtain ⟨h1, h2⟩ := longS_bound (ms := ms') (fun x hx => by
                    obtain ⟨q, hq⟩ := List.getElem?_of_mem hx
                    obtain ⟨h3, k, h4, h5⟩ := HSM'.out q x hq
                    have := HDL.out q k h5
                    exact ⟨h3, by omega⟩) (r.2.take j) (n := 0) (Int.le_refl _)
                  refine ⟨h1, ?_⟩
                  have : (r.2.take j).length ≤ 4 := by rw [List.length_take]; have := HRL3.out; omega
                  omega)
                --@8
                go_wp2_with fail
                obtain ⟨w10, hw10⟩ : ∃ w10 : World, w10 = w9.alloc (.cells #[.int .i64 (a : Int), .slice A3 m3 c3] 36) := ⟨_, rfl⟩
                rw [← hw10]
                have hz10 : w9.heap.size < w10.heap.size := by rw [hw10]; simp
                have hb910 : Below w9.heap.size w9 w10 := by rw [hw10]; exact (Below.refl _ _).alloc (Nat.le_refl _) _
                have HBX10 := Lib.hid (show w10.heap[w9.heap.size]? = some (.cells #[.int .i64 (a : Int), .slice A3 m3 c3] 36 (0, 0)) by rw [hw10]; exact heap_alloc_new _ _)
                have HRS10 := Lib.hid (hrs.below hb910)
                have HB10 := Lib.hid (HB9.out.trans (hb910.mono hz9))
                have HO10 := Lib.hid (HO'.out.below hb910 (Nat.le_refl _))
                clear hw10 hb910 hc1 hc2 hr hrs ha hr1 hrN hok
                go_loopg [12, 46] m3 (fun gl vs vj wy => ∃ j : Nat, j ≤ m3 ∧ gl = m3 - j ∧ vj = .int .i64 j ∧ vs = .int .i64 ((r.2.take j).foldl (addM ms') 0) ∧ Below w10.heap.size w10 wy)
                case atStart => exact ⟨0, Nat.zero_le _, rfl, rfl, rfl, Below.refl _ _⟩
                case round =>
                  obtain ⟨j, hj, hgl, rfl, rfl, hby⟩ := hrel
                  have HGL := Lib.hid hgl
                  have HBY := Lib.hid hby
                  obtain ⟨w11, rfl⟩ : ∃ w11 : World, w11 = wr := ⟨_, rfl⟩
                  have hz11 := hby.size
                  obtain ⟨hs1, hs2⟩ := HSB.out j
                  have ho11 : Own w11 gB 3 1 (.slice (some ⟨gB, 0, none⟩) NN NN) NN (ms'.map (Value.int .i64)) := HO10.out.below hby (Nat.le_refl _)
                  have HO11 := Lib.hid ho11
                  clear hgl hby ho11
                  by_cases hjm : j < m3
                  · obtain ⟨bq, oq, s, hA3, _, hblq, hs0, hs1', hs⟩ := sym_at (HRS10.out.below HBY.out) hjm
                    subst hA3
                    have hst : (r.2.take (j + 1)).foldl (addM ms') 0 = addM ms' ((r.2.take j).foldl (addM ms') 0) s := by
                      rw [List.take_succ_eq_append_getElem (List.getElem?_eq_some_iff.1 hs).1, (List.getElem?_eq_some_iff.1 hs).2, List.foldl_append]
                      rfl
                    have hsok := HOK.out s (List.mem_of_getElem? hs)
                    obtain ⟨hs3, hs4⟩ := HSB.out (j + 1)
                    rw [hst] at hs3 hs4
                    have HST2 := Lib.hid hst
                    have hjI : (j : Int) < (m3 : Int) := by omega
                    have hj0 : (0 : Int) ≤ (j : Int) := by omega
                    have HBY' := Lib.hid (HBY.out.trans ((Below.refl _ _).alloc (Nat.le_refl _) (.cells #[.bool s.1, .int .i64 s.2] 38) |>.mono (by omega)))
                    obtain ⟨sum, hsum⟩ : ∃ sum, sum = (r.2.take j).foldl (addM ms') 0 := ⟨_, rfl⟩
                    rw [← hsum] at HST2 hs1 hs2 hs3 hs4 ⊢
                    clear hs hst hsum
                    obtain ⟨sb, sn⟩ := s
                    dsimp only at hs0 hs1' hsok HST2 HBY' hs3 hs4
                    cases sb with
                    | true =>
                      have he : addM ms' sum (true, sn) = sum + 1 := by unfold addM; rw [if_pos rfl]
                      have HE := Lib.hid (HST2.out.trans he)
                      rw [he] at hs3 hs4
                      clear he HST2 hsok
                      --@9
                      go_wp2_with fail
                      go_roundg (m3 - (j + 1))
                      case measure => rw [HGL.out]; omega
                      case rel => exact ⟨j + 1, by omega, rfl, by go_num, by rw [HE.out], HBY'.out⟩
                    | false =>
                      obtain ⟨q, rfl⟩ : ∃ q : Nat, sn = (q : Int) := ⟨sn.toNat, by have := hsok rfl; omega⟩
                      have hqN : q < NN := by have := (hsok rfl).2; simpa using this
                      obtain ⟨x, hx⟩ : ∃ x, ms'[q]? = some x := ⟨_, List.getElem?_eq_getElem (by have := HLN'.out; omega)⟩
                      have hxg : ms'.getD ((q : Int)).toNat 0 = x := by rw [Int.toNat_natCast, List.getD_eq_getElem?_getD, hx]; rfl
                      obtain ⟨hcx, hfx, _, hgl6⟩ := HO11.out.at_ hqN
                      rw [List.getElem?_map, hx] at hcx
                      have hcx' : w11.cell? ⟨gB, q, none⟩ = some (.int .i64 x) := hcx
                      have hqI : (q : Int) < (NN : Int) := by omega
                      have hq0 : (0 : Int) ≤ (q : Int) := by omega
                      have he : addM ms' sum (false, (q : Int)) = sum + x := by unfold addM; rw [if_neg (by simp), hxg]
                      have HE := Lib.hid (HST2.out.trans he)
                      rw [he] at hs3 hs4
                      clear hsok hx hcx hfx he HST2 hxg
                      --@10
                      go_wp2_with fail
                      go_roundg (m3 - (j + 1))
                      case measure => rw [HGL.out]; omega
                      case rel => exact ⟨j + 1, by omega, rfl, by go_num, by rw [HE.out], HBY'.out⟩
                  · obtain rfl : m3 = j := by omega
                    have htk : r.2.take m3 = r.2 := List.take_of_length_le (by rw [← HRL3.out]; exact Nat.le_refl _)
                    rw [htk] at hs1 hs2 ⊢
                    obtain ⟨sum, hsum⟩ : ∃ sum, sum = r.2.foldl (addM ms') 0 := ⟨_, rfl⟩
                    rw [← hsum] at hs1 hs2 ⊢
                    have HSUM := Lib.hid (show ruleM ms' r.2 = sum from hsum.symm)
                    obtain ⟨x, hx⟩ : ∃ x, ms'[a]? = some x := ⟨_, List.getElem?_eq_getElem (by have := HLN'.out; omega)⟩
                    have hxg : ms'.getD r.1.toNat 0 = x := by rw [HA.out, Int.toNat_natCast, List.getD_eq_getElem?_getD, hx]; rfl
                    obtain ⟨hcx, hfx, _, hgl6⟩ := HO11.out.at_ haN
                    rw [List.getElem?_map, hx] at hcx
                    have hcx' : w11.cell? ⟨gB, a, none⟩ = some (.int .i64 x) := hcx
                    have haI : (a : Int) < (NN : Int) := by omega
                    have ha0 : (0 : Int) ≤ (a : Int) := by omega
                    have hbx11 := (HBY.out.block _ hz10).trans HBX10.out
                    have kr : w11.cell? ⟨w9.heap.size, 0, none⟩ = some (.int .i64 (a : Int)) := by simp [World.cell?, hbx11]
                    have HX := Lib.hid hx
                    have HXG := Lib.hid hxg
                    have HB11 := Lib.hid (HB10.out.trans (HBY.out.mono (by omega)))
                    clear hx hcx htk hsum hbx11 hxg
                    by_cases hgt : x < sum
                    · have hgd : decide (x < sum) = true := by simpa using hgt
                      have hgd2 : sum > x := hgt
                      have HSM2 := Lib.hid (great_up HSM'.out HRX.out HLN'.out (List.mem_of_getElem? HR.out))
                      have HPUT := Lib.hid (HO11.out.put haN (.int .i64 sum))
                      --@11
                      go_wp2_with fail
                      go_roundg (nX - (i + 1))
                      case measure => rw [HGJ.out]; omega
                      case rel =>
                        have hsm2 := HSM2.out
                        rw [HSUM.out, HA.out, Int.toNat_natCast] at hsm2
                        have hx2 := hsm2 a sum (by rw [List.getElem?_set, if_pos rfl, if_pos (by have := HLN'.out; omega)])
                        obtain ⟨_, kk, hk1, hk2⟩ := hx2
                        have hk3 := HDL.out a kk hk2
                        have hx3 := (HSM'.out a x HX.out).1
                        have hmm : mM (ms'.set a sum) < mM ms' := sum_set HX.out (by show 1048577 - sum.toNat < 1048577 - x.toNat; omega)
                        have hput := HPUT.out
                        rw [← List.map_set] at hput
                        refine ⟨i + 1, true, ms'.set a sum, by omega, rfl, by go_num, rfl, by rw [List.length_set]; exact HLN'.out, hsm2, fun _ => ?_, (fun h => by cases h), hput, HB11.out.setCell (p := ⟨gB, a, none⟩) (by show w6.heap.size ≤ gB; rw [HGB.out]; exact Nat.le_refl _) _⟩
                        cases ag with
                        | true => have := HAG'.out rfl; omega
                        | false => have h0 := congrArg mM (HCL'.out rfl).1; omega
                    · have hgd : decide (x < sum) = false := by simpa using hgt
                      --@12
                      go_wp2_with fail
                      go_roundg (nX - (i + 1))
                      case measure => rw [HGJ.out]; omega
                      case rel =>
                        refine ⟨i + 1, ag, ms', by omega, rfl, by go_num, rfl, HLN'.out, HSM'.out, HAG'.out, fun h => ⟨(HCL'.out h).1, fun j' r' hj' hr' => ?_⟩, HO11.out, HB11.out⟩
                        rcases Nat.lt_succ_iff_lt_or_eq.1 hj' with h1 | rfl
                        · exact (HCL'.out h).2 j' r' h1 hr'
                        · rw [HR.out] at hr'
                          injection hr' with hr'
                          subst hr'
                          have h2 := (HCL'.out h).1
                          have h3 := HSUM.out
                          have h4 := HXG.out
                          rw [h2] at h3 h4
                          rw [h3, h4]
                          omega
              · obtain rfl : nX = i := by omega
                --@13
                go_wp2_with fail
                go_roundg (mM ms' + (if ag then 1 else 0))
                case measure =>
                  rw [HGK.out]
                  cases ag with
                  | true =>
                    have h1 := HAG'.out (by first | rfl | trivial)
                    simp
                    omega
                  | false =>
                    have h1 := (HCL'.out (by first | rfl | trivial)).1
                    rw [h1]
                    simp
                case rel =>
                  refine ⟨ag, ms', rfl, rfl, HLN'.out, HSM'.out, fun h r hr => ?_, HO'.out, HB9.out⟩
                  obtain ⟨j, hj⟩ := List.getElem?_of_mem hr
                  have hjl : j < nX := by have h1 := (List.getElem?_eq_some_iff.1 hj).1; have := HS3.out.len; omega
                  obtain ⟨h1, h2⟩ := HCL'.out h
                  rw [h1]
                  exact h2 j r hjl hj
    exact AllL.nil
  exact AllL.nil
end Go.Proofs.Ytfkapijfjihiiaa
