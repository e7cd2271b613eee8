/- rank: the tree of a number, the number of trees. -/
import Derived.Test.YthanhegomgbgbaaRankW
namespace Go.Proofs.Ythanhegomgbgbaa
open Go.RowKit

set_option linter.unusedSimpArgs false in
set_option maxRecDepth 1000000 in
set_option maxHeartbeats 8000000 in
theorem numTreeStep {L : Lay} {g : GramD} {n Bn nR cR : Nat} {AR : Option Addr} (hn : n ≤ 1000) (hv : GValid g) (a k : Nat) (ha : a < nonsOf g) (hk : k ≤ n) (hm : ¬ Many g.2.2.2 (a, k)) (hc : cN g.2.2.2 a k < MC)
    (htree : ∀ y, Edge g.2.2.2 (a, k) y → cN g.2.2.2 y.1 y.2 < MC → TreeSpec L g n Bn AR nR cR y) : TreeSpec L g n Bn AR nR cR (a, k) := by
  intro w hst i hi
  dsimp only at hi ⊢
  have hR := rulesN_of hv
  have hrl : g.2.2.2.length ≤ 1000 := by have := hv.rl; omega
  obtain ⟨o1, o2, o3⟩ := hst.cok.ord
  have o4 := hst.hB
  have o5 := hst.lt
  have hrn := hst.rules.len
  have hsum := cN_sum hR (acc_few hR (x := (a, k)) ha hm) hc
  rw [hsum] at hi hc
  have hnR : nR ≤ 32 := by have := hv.rl; omega
  have HRN := Lib.hid hR
  have HRL := Lib.hid hrn
  have HV := Lib.hid hv
  have HI := Lib.hid hi
  have HC := Lib.hid hc
  have HM := Lib.hid hm
  have HTR := Lib.hid htree
  have HOF := Lib.hid (show ∀ y : Nat × Nat, y.1 < nonsOf g → y.2 ≤ n → OfSpec L g n y from fun y h1 h2 => ctrOf hn hR hrl y.1 y.2 h1 h2)
  have hiB : i < 1000000000 := by have : MC = 1000000000 := rfl; omega
  have hb0 : Below w.heap.size w ((w.alloc (.cells #[.bool false, .int .i64 (a : Int)] 55)).alloc (.cells #[.int .i64 0, .int .i64 0, .slice none 0 0] 34)) := ((Below.refl _ _).alloc (Nat.le_refl _) _).alloc (by simp) _
  have HB0 := Lib.hid hb0
  have HST := Lib.hid (hst.below hb0)
  have HBS0 := Lib.hid (show ((w.alloc (.cells #[.bool false, .int .i64 (a : Int)] 55)).alloc (.cells #[.int .i64 0, .int .i64 0, .slice none 0 0] 34)).heap[w.heap.size]? = some (.cells #[.bool false, .int .i64 (a : Int)] 55 (0, 0)) from (Below.heap_alloc _ _ _ (by simp)).trans (heap_alloc_new w _))
  have HBT0 := Lib.hid (show ((w.alloc (.cells #[.bool false, .int .i64 (a : Int)] 55)).alloc (.cells #[.int .i64 0, .int .i64 0, .slice none 0 0] 34)).heap[w.heap.size + 1]? = some (.cells #[.int .i64 0, .int .i64 0, .slice none 0 0] 34 (0, 0)) from heap_new _ _ _ (by simp))
  have hcr := hst.rul
  clear hst hi hc hm htree hrn hsum hb0 hR hv hrl
  go_enter Try.func58, Try.ntmps58
  --@1
  go_wp2_with fail
  clear hcr
  go_loopg [3, 23] nR (fun gk vi vk wr => ∃ (j ii : Nat), j ≤ nR ∧ gk = nR - j ∧ vi = .int .i64 ii ∧ vk = .int .i64 j ∧ preR g.2.2.2 a k j + ii = i ∧ NumSt wr L g n Bn AR nR cR ∧ Aside L.l3 L.hi w wr ∧ wr.heap[w.heap.size]? = some (.cells #[.bool false, .int .i64 (a : Int)] 55 (0, 0)) ∧ wr.heap[w.heap.size + 1]? = some (.cells #[.int .i64 0, .int .i64 0, .slice none 0 0] 34 (0, 0)))
  case atStart => exact ⟨0, i, Nat.zero_le _, rfl, rfl, rfl, by rw [preR_zero]; omega, HST.out, .of HB0.out, HBS0.out, HBT0.out⟩
  case round =>
    obtain ⟨j, ii, hj, hgk, rfl, rfl, hii, hnum, hA, hbs, hbt⟩ := hrel
    have HGK := Lib.hid hgk
    have HII := Lib.hid hii
    have HNU := Lib.hid hnum
    have HA := Lib.hid hA
    have HBS := Lib.hid hbs
    have HBT := Lib.hid hbt
    have hl1 : w.heap.size + 1 < wr.heap.size := heap_lt hbt
    have hl0 : w.heap.size < wr.heap.size := heap_lt hbs
    have hsa : wr.cell? ⟨w.heap.size, 1, none⟩ = some (.int .i64 (a : Int)) := by simp [World.cell?, hbs]
    clear hgk hii hnum hA hbs hbt HST HBS0 HBT0 HB0
    obtain ⟨w1, rfl⟩ : ∃ w1 : World, w1 = wr := ⟨_, rfl⟩
    by_cases hjn : j < nR
    · obtain ⟨b0, off, AQ, m, cQ, r, rfl, _, _, hr1, hr2, hr, hrs⟩ := rule_at HNU.out.rules hjn
      have hm4 : m ≤ 4 := by have := (HV.out.rules r (List.mem_of_getElem? hr)).2.1; have := hrs.len; omega
      have hpre := preR_succ (a := a) (n := k) hr
      have HPRE := Lib.hid hpre
      have HR := Lib.hid hr
      have HRS := Lib.hid hrs
      have HL2 := Lib.hid (show j + 1 ≤ g.2.2.2.length by have := HRL.out; omega)
      have HB2 := Lib.hid (show Below w1.heap.size w1 (w1.alloc (.cells #[.int .i64 r.1, .slice AQ m cQ] 53)) from (Below.refl _ _).alloc (Nat.le_refl _) _)
      clear hpre hr hrs
      by_cases hra : r.1 = (a : Int)
      · have hne : (r.1 != (a : Int)) = false := by simp [hra]
        have HRA := Lib.hid hra
        obtain ⟨left, hleft⟩ : ∃ left, left = r.1 := ⟨_, rfl⟩
        rw [← hleft] at hr1 hne HB2
        have HLE := Lib.hid hleft
        have hrai : ¬ ¬ left = (a : Int) := by rw [hleft, hra]; simp
        clear hra hleft
        have HNU2 := Lib.hid ((HNU.out.below HB2.out).drew)
        have HK0 := Lib.hid (And.intro HNU2.out.ptr (show (w1.alloc (.cells #[.int .i64 left, .slice AQ m cQ] 53)).drew.cell? ⟨w1.heap.size, 1, none⟩ = some (.slice AQ m cQ) from cell_of_row (w1.alloc (.cells #[.int .i64 left, .slice AQ m cQ] 53)) _ 1 _ _ _ (heap_alloc_new w1 _)))
        --@2
        go_wp2_with fail
        refine wp_region_late (late := []) (S1 := fun u => u.cell? ⟨Bn, 4, none⟩ = some (.pointer (some ⟨L.Bc, 0, none⟩)) ∧ u.cell? ⟨w1.heap.size, 1, none⟩ = some (.slice AQ m cQ)) (S := fun _ => True) (by kernel_rfl) ?_
        refine wpAnyL_pure (i := 0) rfl (by kernel_rfl) (fun _ _ _ h => h) (Or.inl ⟨by rfl, (fun u hu => by obtain ⟨k0, k1⟩ := hu; go_simp; try rfl)⟩) HK0.out (fun _ => trivial) ?_
        simp only [Act.put, List.setIfInBounds_toArray, List.set_cons_zero, List.set_cons_succ, List.getElem_toArray, List.getElem_cons_zero, List.getElem_cons_succ]
        refine wpAnyL_pure (i := 1) rfl (by kernel_rfl) (fun _ _ _ h => h) (Or.inl ⟨by rfl, (fun u hu => by obtain ⟨k0, k1⟩ := hu; go_simp; try rfl)⟩) HK0.out (fun _ => trivial) ?_
        simp only [Act.put, List.setIfInBounds_toArray, List.set_cons_zero, List.set_cons_succ, List.getElem_toArray, List.getElem_cons_zero, List.getElem_cons_succ]
        refine wpAnyL_pure (i := 2) rfl (by kernel_rfl) (fun _ _ _ h => h) (Or.inl ⟨by rfl, (fun u hu => by obtain ⟨k0, k1⟩ := hu; go_simp; try rfl)⟩) HK0.out (fun _ => trivial) ?_
        simp only [Act.put, List.setIfInBounds_toArray, List.set_cons_zero, List.set_cons_succ, List.getElem_toArray, List.getElem_cons_zero, List.getElem_cons_succ]
        refine wpAnyL_pure (i := 3) rfl (by kernel_rfl) (fun _ _ _ h => h) (Or.inl ⟨by rfl, (fun u hu => by obtain ⟨k0, k1⟩ := hu; go_simp; try rfl)⟩) HK0.out (fun _ => trivial) ?_
        simp only [Act.put, List.setIfInBounds_toArray, List.set_cons_zero, List.set_cons_succ, List.getElem_toArray, List.getElem_cons_zero, List.getElem_cons_succ]
        refine wpAnyL_pure (i := 4) rfl (by kernel_rfl) (fun _ _ _ h => h) (Or.inl ⟨by rfl, (fun u hu => by obtain ⟨k0, k1⟩ := hu; go_simp; try rfl)⟩) HK0.out (fun _ => trivial) ?_
        simp only [Act.put, List.setIfInBounds_toArray, List.set_cons_zero, List.set_cons_succ, List.getElem_toArray, List.getElem_cons_zero, List.getElem_cons_succ]
        refine wpAnyL_pure (i := 5) rfl (by kernel_rfl) (fun _ _ _ h => h) (Or.inl ⟨by rfl, (fun u hu => by obtain ⟨k0, k1⟩ := hu; go_simp; try rfl)⟩) HK0.out (fun _ => trivial) ?_
        simp only [Act.put, List.setIfInBounds_toArray, List.set_cons_zero, List.set_cons_succ, List.getElem_toArray, List.getElem_cons_zero, List.getElem_cons_succ]
        refine wpAnyL_pure (i := 6) rfl (by kernel_rfl) (fun _ _ _ h => h) (Or.inl ⟨by rfl, (fun u hu => by obtain ⟨k0, k1⟩ := hu; go_simp; try rfl)⟩) HK0.out (fun _ => trivial) ?_
        simp only [Act.put, List.setIfInBounds_toArray, List.set_cons_zero, List.set_cons_succ, List.getElem_toArray, List.getElem_cons_zero, List.getElem_cons_succ]
        refine wpAnyL_ready (rs := [7]) (by kernel_rfl) (by simp) ?_
        refine AllL.cons rfl (fun K hK => ?_) ?_
        · go_simp
          refine (ctrList hn HRN.out (a, k) ha HM.out (fun y hy => HOF.out y (hy.lt HRN.out) (Nat.le_trans hy.le hk)) r.2 _ HNU2.out.cok _ (fun b hb => Or.inl hb) _ _ _ ((HRS.out.below HB2.out).drew) k (Suffix.start (x := (a, k)) (List.mem_of_getElem? HR.out) HRA.out) hk).mono ?_
          rintro e w3 ⟨rfl, hc3, hA3⟩
          have HNU3 := Lib.hid (HNU2.out.aside hc3 hA3)
          have HA3 := Lib.hid ((HA.out.trans (.of HB2.out)).drew.trans hA3)
          have hsz3 : w1.heap.size + 1 ≤ w3.heap.size := by have := hA3.size; simpa using this
          have HBR3 := Lib.hid (show w3.heap[w1.heap.size]? = some (.cells #[.int .i64 left, .slice AQ m cQ] 53 (0, 0)) from (hA3.block _ (by show w1.heap.size < (w1.alloc _).heap.size; simp) (Or.inr (by have := HNU.out.lt; omega))).trans (heap_alloc_new w1 _))
          have HC3 := Lib.hid (show w3.cell? ⟨w1.heap.size, 1, none⟩ = some (.slice AQ m cQ) by simp [World.cell?, HBR3.out])
          have HRS3 := Lib.hid (((HRS.out.below HB2.out).drew).keep (.aside hA3 fun b hb => Or.inl hb))
          have HBS3 := Lib.hid ((hA3.block _ (by show w.heap.size < (w1.alloc _).heap.size; simp; omega) (Or.inr (by omega))).trans ((HB2.out.block _ (by omega)).trans HBS.out))
          have HBT3 := Lib.hid ((hA3.block _ (by show w.heap.size + 1 < (w1.alloc _).heap.size; simp; omega) (Or.inr (by omega))).trans ((HB2.out.block _ hl1).trans HBT.out))
          clear hc3 hA3
          refine hK.out _ _ (And.intro HNU3.out.ptr HC3.out) (fun _ => trivial) ?_
          clear hK K
          refine wpAnyL_pure (i := 8) rfl (by kernel_rfl) (fun _ _ _ h => h) (Or.inl ⟨by rfl, (fun u hu => by obtain ⟨k0, k1⟩ := hu; go_simp; try rfl)⟩) (And.intro HNU3.out.ptr HC3.out) (fun _ => trivial) ?_
          simp only [Act.put, List.setIfInBounds_toArray, List.set_cons_zero, List.set_cons_succ, List.getElem_toArray, List.getElem_cons_zero, List.getElem_cons_succ]
          refine wpAnyL_done (by kernel_rfl) ?_ _
          have hp := HPRE.out
          rw [if_pos HRA.out] at hp
          obtain ⟨lv, hlv⟩ : ∃ lv, lv = lN g.2.2.2 r.2 k := ⟨_, rfl⟩
          rw [show listC (lenD g.2.2.2) (cN g.2.2.2) r.2 k = lv from hlv.symm]
          rw [← hlv] at hp
          have hple : preR g.2.2.2 a k (j + 1) ≤ preR g.2.2.2 a k g.2.2.2.length := preR_mono HL2.out
          have hlvB : lv < 1000000000 := by have := HC.out; have : MC = 1000000000 := rfl; omega
          have HP := Lib.hid hp
          have HLV := Lib.hid hlv
          have hiiB : ii ≤ i := by have := HII.out; omega
          clear hp hlv hple
          by_cases hge : lv ≤ ii
          · have hgeI : (lv : Int) ≤ (ii : Int) := by omega
            --@3
            go_wp2_with fail
            go_roundg (nR - (j + 1))
            case measure => rw [HGK.out]; omega
            case rel => exact ⟨j + 1, ii - lv, by omega, rfl, by first | (congr 1; omega) | go_num, by go_num, by have h1 := HP.out; have h2 := HII.out; omega, HNU3.out, HA3.out, HBS3.out, HBT3.out⟩
          · have hgeI : ¬ (lv : Int) ≤ (ii : Int) := by omega
            have hc3 := HC3.out
            --@4
            go_wp2_with fail
            refine (numList hn HRN.out (by have := HV.out.rl; omega) (a, k) ha hk HM.out HTR.out r.2 w3 HNU3.out _ (fun b hb => hb) _ _ _ HRS3.out (by omega) k (Suffix.start (x := (a, k)) (List.mem_of_getElem? HR.out) HRA.out) hk ii (by have := HLV.out; omega) (by have h1 := HLV.out; have : MC = 1000000000 := rfl; omega)).mono ?_
            rintro e w4 ⟨ts, A4, c4, rfl, hsl4, hul4, hnu4, hA4⟩
            have HSL4 := Lib.hid hsl4
            have HUL4 := Lib.hid hul4
            have HNU4 := Lib.hid hnu4
            have HA4 := Lib.hid (HA3.out.trans hA4)
            have hsz4 := hA4.size
            obtain ⟨d0, d1, d2, f0, f1, f2⟩ := tree_cells ((hA4.block _ (by omega) (Or.inr (by omega))).trans HBT3.out)
            clear hsl4 hul4 hnu4 hA4 hc3
            have hl4 : w.heap.size + 1 < w4.heap.size := by omega
            --@6
            go_wp2_with fail
            refine bodyPost_ret (v := .agg #[.int .i64 (j : Int), .int .i64 0, .slice A4 m c4]) (by simp [results, Try.results58, go_sem, d0, d1, d2]) rfl ?_
            have hset : ∀ (u : World) (q : Nat) (v : Value), Below w.heap.size u (u.setCell ⟨w.heap.size + 1, q, none⟩ v) := fun u q v => (Below.refl _ _).setCell (by show w.heap.size ≤ w.heap.size + 1; omega) _
            have hbf := ((hset w4 0 (.int .i64 (j : Int))).trans (hset _ 1 (.int .i64 0))).trans (hset _ 2 (.slice A4 m c4))
            have hu := Unr.node HR.out HRA.out (i := ii) (n := k) (by have := HLV.out; omega) HUL4.out
            rw [HII.out] at hu
            exact ⟨.node (j : Int) 0 ts, A4, m, c4, rfl, ((HSL4.out.more (S' := fun b => w.heap.size + 2 ≤ b) (fun b hb => by omega)).keep (((Kept.setCell _ _ _ _ (by simp)).trans (.setCell _ _ _ _ (by simp))).trans (.setCell _ _ _ _ (by simp)))).more (fun b hb => by omega), hu, HNU4.out.kept hbf o5, HA4.out.grow hbf (Nat.le_refl _)⟩
        exact AllL.nil
      · have hne : (r.1 != (a : Int)) = true := by simp [hra]
        have HRA := Lib.hid hra
        --@5
        go_wp2_with fail
        go_roundg (nR - (j + 1))
        case measure => rw [HGK.out]; omega
        case rel =>
          have hp := HPRE.out
          rw [if_neg HRA.out] at hp
          exact ⟨j + 1, ii, by omega, rfl, rfl, by go_num, by rw [hp]; exact HII.out, HNU.out.below HB2.out, HA.out.trans (.of HB2.out), (HB2.out.block _ (by omega)).trans HBS.out, (HB2.out.block _ hl1).trans HBT.out⟩
    · exfalso
      obtain rfl : j = nR := by omega
      have h1 := HI.out
      have h2 := HII.out
      rw [← HRL.out] at h1
      omega
theorem numTree {L : Lay} {g : GramD} {n Bn nR cR : Nat} {AR : Option Addr} (hn : n ≤ 1000) (hv : GValid g) (a k : Nat) (ha : a < nonsOf g) (hk : k ≤ n) (hm : ¬ Many g.2.2.2 (a, k)) (hc : cN g.2.2.2 a k < MC) : TreeSpec L g n Bn AR nR cR (a, k) := by
  have hR := rulesN_of hv
  have key : ∀ x : Nat × Nat, Acc (fun y x => Edge g.2.2.2 x y) x → x.1 < nonsOf g → x.2 ≤ n → ¬ Many g.2.2.2 x → cN g.2.2.2 x.1 x.2 < MC → TreeSpec L g n Bn AR nR cR x := by
    intro x hx
    induction hx with
    | intro x _ ih =>
      intro h1 h2 h3 h4
      exact numTreeStep hn hv x.1 x.2 h1 h2 h3 h4 fun y hy hlt => ih y hy (hy.lt hR) (Nat.le_trans hy.le h2) (fun h => h3 (Many.back hy h)) hlt
  exact key (a, k) (acc_few hR (x := (a, k)) ha hm) ha hk hm hc
end Go.Proofs.Ythanhegomgbgbaa
