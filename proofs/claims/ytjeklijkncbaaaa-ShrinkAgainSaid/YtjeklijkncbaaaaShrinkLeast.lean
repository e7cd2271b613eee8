/- ShrinkLeast: a word that is left fails, is left of the word, and passes without any one of its terminals. -/
import Derived.Test.YtjeklijkncbaaaaFails
import Derived.Test.YtjeklijkncbaaaaMakeWord
import Derived.Test.YtjeklijkncbaaaaSlEqInt
import Derived.Test.YtjeklijkncbaaaaSlIdxInt
import Derived.Deep.RegionHeld3
namespace Go.Proofs.Ytjeklijkncbaaaa
open Go.RowKit

theorem entersTwo : ∀ (args : Array Value) (u : World), (callFunc 18 args).run Try.prog u = .ok (.enter 18 args) u := enters_of Try.func18 (by kernel_rfl) rfl
set_option maxHeartbeats 1000000 in
theorem tellsTwo (w0 : World) : Tells Try.prog w0 (fun l => l.length ≤ 60) (fun l => l.contains 2) 18 #[] := by
  intro w _ A n c S l hr hG
  have hn : n ≤ 60 := by have := hr.1; simp at this; omega
  have HR := Lib.hid hr
  clear hr
  show Calls Try.prog 18 #[.slice A n c] w _
  go_enter Try.func18, Try.ntmps18
  go_wp2_with (go_at_call 19; refine (containsInt _ _ _ _ _ _ _ HR.out (by omega)).mono ?_; rintro e w' ⟨rfl, rfl⟩)
  go_ret
  exact ⟨ret_bool (by simp), Below.refl _ _⟩
theorem left_of_two {r : List Int} (h1 : r.Sublist [1, 2]) (h2 : r.contains 2 = true) (h3 : ∀ j < r.length, (r.eraseIdx j).contains 2 = false) : r = [2] := by
  rcases List.sublist_cons_iff.1 h1 with k1 | ⟨t, rfl, k1⟩
  · rcases List.sublist_cons_iff.1 k1 with k2 | ⟨t, rfl, k2⟩
    · rw [List.eq_nil_of_sublist_nil k2] at h2; simp at h2
    · rw [List.eq_nil_of_sublist_nil k2]
  · exfalso
    rcases List.sublist_cons_iff.1 k1 with k2 | ⟨t', rfl, k2⟩
    · rw [List.eq_nil_of_sublist_nil k2] at h2; simp at h2
    · have := h3 0 (by simp)
      simp at this
theorem wordOf_good (l : List Int) : Good (wordOf 8 60 l) := by
  refine ⟨by rw [wordOf_len]; omega, fun x hx => ?_⟩
  obtain ⟨y, _, rfl⟩ := List.mem_map.1 hx
  have h1 := Int.emod_nonneg y (by omega : (8 : Int) ≠ 0)
  have h2 := Int.emod_lt_of_pos y (by omega : (0 : Int) < 8)
  omega
theorem below_ad {wr wa : World} {o : Obj} (h : Below (wr.alloc o).drew.heap.size (wr.alloc o).drew wa) : Below wr.heap.size wr wa :=
  (((Below.refl _ _).alloc (Nat.le_refl _) o).drew).trans (h.mono (by show wr.heap.size ≤ (wr.alloc o).heap.size; simp))
set_option maxHeartbeats 4000000 in
theorem shrinkLeast_walk (w : World) (A : Option Addr) (n c : Nat) (l : List Int) (_ : n ≤ c) (hc : c ≤ 17592186043904) (hr : Rd w (fun _ => True) 1 A n (l.map (Value.int .i64))) (_ : ∀ z ∈ l, -9223372036854775808 ≤ z ∧ z ≤ 9223372036854775807)
    (a : Int) (_ : -9223372036854775808 ≤ a) (_ : a ≤ 9223372036854775807) (b : Int) (_ : -9223372036854775808 ≤ b) (_ : b ≤ 9223372036854775807) :
    Calls Try.prog 6 #[.slice A n c, .int .i64 a, .int .i64 b] w fun e w' => e = .returned (.bool true) ∧ Below w.heap.size w w' := by
  have HR := Lib.hid hr
  clear hr
  have ha1 := Int.emod_nonneg a (by omega : (5 : Int) ≠ 0)
  have ha2 := Int.emod_lt_of_pos a (by omega : (0 : Int) < 5)
  have hg := wordOf_good l
  have HG := Lib.hid hg
  clear hg
  go_enter Try.func6, Try.ntmps6
  go_wp2_with fail
  refine (makeWord 8 60 A n c _ l w HR.out (by omega) (by omega) (by omega) (by omega)).mono ?_
  rintro e w1 ⟨A1, n1, c1, rfl, hsl1, hb1⟩
  rw [show ((8 : Nat) : Int) = 8 from rfl] at hsl1
  have hn1 : n1 ≤ 60 := by have := hsl1.len; have := HG.out.1; omega
  have HSL1 := Lib.hid hsl1
  have HB1 := Lib.hid hb1
  clear hsl1 hb1
  generalize wordOf 8 60 l = W at *
  go_wp2_with fail
  refine (shrinkWord_yes _ 18 #[] (fun l => l.length ≤ 60) (fun l => l.contains 2) (some ⟨w1.heap.size, 0, none⟩) 2 2 _ [1, 2] entersTwo (tellsTwo _) (Rd.new w1 (fun _ => True) _ [.int .i64 1, .int .i64 2] _ rfl trivial) (by simp)
    (fun l i h => Nat.le_trans (List.eraseIdx_sublist l i).length_le h) (by omega) (by decide)).mono ?_
  rintro e w2 ⟨A2, n2, c2, r2, rfl, hsl2, hsub2, hp2, _, hmin2, _, hb2⟩
  obtain rfl := left_of_two hsub2 hp2 hmin2
  obtain rfl : n2 = 1 := hsl2.len
  have HB2 := Lib.hid (HB1.out.trans (((Below.refl _ _).alloc (Nat.le_refl _) _).trans (hb2.mono (by simp)) |>.mono HB1.out.size))
  have HSL2 := Lib.hid hsl2
  have HSL1b := Lib.hid (HSL1.out.below (((Below.refl _ _).alloc (Nat.le_refl _) _).trans (hb2.mono (by simp))))
  clear hsub2 hp2 hmin2 hb2 hsl2
  go_wp2_with fail
  refine (equalInt A2 _ 1 c2 1 1 _ (fun _ => True) [2] [2] _ (HSL2.out.ints.alloc _) (Rd.new w2 _ _ [.int .i64 2] _ rfl trivial) (by omega) (by omega)).mono ?_
  rintro e w3 ⟨rfl, d, rfl⟩
  rw [show (([2] : List Int) == [2]) = true from rfl]
  have HB3 := Lib.hid (show Below w.heap.size w ((w2.alloc (.cells #[.int .i64 2] 3)).drewN d) from Below.drewN' (HB2.out.alloc HB2.out.size _) d)
  have HSL3 := Lib.hid (show Sl Rep.int ((w2.alloc (.cells #[.int .i64 2] 3)).drewN d) (fun b => w.heap.size ≤ b) A1 n1 c1 W from (HSL1b.out.alloc _).drewN d)
  generalize (w2.alloc (.cells #[.int .i64 2] 3)).drewN d = w3 at *
  clear HB2 HSL2 HSL1b HSL1 HB1
  go_wp2_with fail
  refine (failsMake w3 a b).mono ?_
  rintro e w4 ⟨rfl, hca, hcb, hb4⟩
  have ht := tellsFails w4 w3.heap.size (w3.heap.size + 1) (a % 5) (b % 3) ha1 (by omega) hca hcb
  have HT := Lib.hid ht
  have HB4 := Lib.hid (HB3.out.trans (hb4.mono HB3.out.size))
  have HSL4 := Lib.hid (HSL3.out.below hb4)
  clear ht hb4 HB3 HSL3 hca hcb
  generalize a % 5 = a5 at *
  generalize b % 3 = b3 at *
  generalize w3.heap.size = H at *
  go_wp2_with fail
  cases hp : failsP a5 b3 W with
  | false =>
    have HP := Lib.hid hp
    clear hp
    refine (shrinkWord_no w4 33 _ Good (failsP a5 b3) A1 n1 c1 _ W entersFails HT.out HSL4.out.ints HG.out hn1 HP.out).mono ?_
    rintro e w5 ⟨rfl, hb5⟩
    have HB5 := Lib.hid (HB4.out.trans (hb5.mono HB4.out.size))
    have hsl5 := HSL4.out.below hb5
    have h5 := HT.out w5 hb5 A1 n1 c1 _ W hsl5.ints HG.out
    rw [HP.out] at h5
    have H5 := Lib.hid h5
    clear hb5 hsl5 h5
    go_wp2_with fail
    refine (H5.out).mono ?_
    rintro e w6 ⟨rfl, hb6⟩
    have HB6 := Lib.hid (HB5.out.trans (hb6.mono HB5.out.size))
    clear hb6
    go_wp2_with fail
    go_ret
    exact ⟨rfl, HB6.out⟩
  | true =>
    have HP := Lib.hid hp
    clear hp
    refine (shrinkWord_yes w4 33 _ Good (failsP a5 b3) A1 n1 c1 _ W entersFails HT.out HSL4.out.ints HG.out (fun l i h => h.erase i) hn1 HP.out).mono ?_
    rintro e w5 ⟨A5, n5, c5, r, rfl, hsl5, hsub, hpr, hGr, hmin, _, hb5⟩
    have hn5 : n5 ≤ 60 := by have := hsl5.len; have := hGr.1; omega
    have HB45 := Lib.hid hb5
    have HB5 := Lib.hid (HB4.out.trans (hb5.mono HB4.out.size))
    have HSLW := Lib.hid (HSL4.out.below hb5)
    have HSLR := Lib.hid hsl5
    have HSUB := Lib.hid hsub
    have HPR := Lib.hid hpr
    have HGR := Lib.hid hGr
    have HMIN := Lib.hid hmin
    have hcapr := hsl5.cap
    clear hb5 hsl5 hsub hpr hGr hmin
    go_wp2_with fail
    have h5 := HT.out w5 HB45.out A1 n1 c1 _ W HSLW.out.ints HG.out
    rw [HP.out] at h5
    refine h5.mono ?_
    clear h5
    rintro e w6 ⟨rfl, hb6⟩
    have HB46 := Lib.hid (HB45.out.trans (hb6.mono HB45.out.size))
    have HB6 := Lib.hid (HB5.out.trans (hb6.mono HB5.out.size))
    have HSLW6 := Lib.hid (HSLW.out.below hb6)
    have HSLR6 := Lib.hid (HSLR.out.below hb6)
    clear hb6 HB45 HB5 HSLW HSLR
    go_wp2_with fail
    have h6 := HT.out w6 HB46.out A5 n5 c5 _ r HSLR6.out.ints HGR.out
    rw [HPR.out] at h6
    refine h6.mono ?_
    clear h6
    rintro e w7 ⟨rfl, hb7⟩
    have HB47 := Lib.hid (HB46.out.trans (hb7.mono HB46.out.size))
    have HB7 := Lib.hid (HB6.out.trans (hb7.mono HB6.out.size))
    have HSLW7 := Lib.hid (HSLW6.out.below hb7)
    have HSLR7 := Lib.hid (HSLR6.out.below hb7)
    clear hb7 HB46 HB6 HSLW6 HSLR6
    go_wp2_with fail
    go_loop [12, 56] (fun t i => ∃ k j : Nat, k ≤ n5 ∧ j ≤ n1 ∧ i = .int .i64 j ∧ t = .int .i64 k ∧ (r.drop k).Sublist (W.drop j)) (fun _ i => n1 - (intOf i).toNat)
    case atStart => exact ⟨0, 0, Nat.zero_le _, Nat.zero_le _, rfl, rfl, HSUB.out⟩
    case round =>
      obtain ⟨k, j, hk, hj, rfl, rfl, hss⟩ := hrel
      have HSS := Lib.hid hss
      clear hss
      by_cases hlt : j < n1
      · obtain ⟨b1, o1, x, rfl, _, hx, hcell⟩ := HSLW7.out.ints.int_at hlt
        by_cases hkn : k < n5
        · obtain ⟨b2, o2, y, rfl, _, hy, hcell2⟩ := HSLR7.out.ints.int_at hkn
          obtain ⟨hj', ex⟩ := List.getElem?_eq_some_iff.1 hx
          obtain ⟨hk', ey⟩ := List.getElem?_eq_some_iff.1 hy
          have hss := HSS.out
          rw [List.drop_eq_getElem_cons hj', List.drop_eq_getElem_cons hk', ex, ey] at hss
          by_cases hxy : y = x
          · subst hxy
            have hs2 : (r.drop (k + 1)).Sublist (W.drop (j + 1)) := by
              rcases List.sublist_cons_iff.1 hss with h | ⟨t', h, h'⟩
              · exact (List.sublist_cons_self _ _).trans h
              · injection h with _ h; subst h; exact h'
            have HS2 := Lib.hid hs2
            clear hss hs2 hx hy ex ey hj' hk'
            go_wp2_with fail
            go_round
            case rel => exact ⟨k + 1, j + 1, by omega, by omega, by go_num, by go_num, HS2.out⟩
            case measure => simp [intOf]; omega
          · have hs2 : (r.drop k).Sublist (W.drop (j + 1)) := by
              rw [List.drop_eq_getElem_cons hk', ey]
              rcases List.sublist_cons_iff.1 hss with h | ⟨t', h, h'⟩
              · exact h
              · injection h with h _; exact absurd h hxy
            have hyb : (y == x) = false := by simpa using hxy
            have HS2 := Lib.hid hs2
            clear hss hs2 hx hy ex ey hj' hk'
            go_wp2_with fail
            go_round
            case rel => exact ⟨k, j + 1, by omega, by omega, by go_num, rfl, HS2.out⟩
            case measure => simp [intOf]; omega
        · have hd : r.drop k = [] := List.drop_of_length_le (by rw [← HSLR7.out.len]; omega)
          have hs2 : (r.drop k).Sublist (W.drop (j + 1)) := by rw [hd]; exact List.nil_sublist _
          have HS2 := Lib.hid hs2
          have hkb : decide (k < n5) = false := by simp; omega
          clear hd hs2 hx
          go_wp2_with fail
          go_round
          case rel => exact ⟨k, j + 1, by omega, by omega, by go_num, rfl, HS2.out⟩
          case measure => simp [intOf]; omega
      · have hke : k = n5 := by
          have h := HSS.out
          rw [List.drop_of_length_le (l := W) (by rw [← HSLW7.out.len]; omega)] at h
          have h2 := List.eq_nil_of_sublist_nil h
          have h3 := congrArg List.length h2
          rw [List.length_drop, ← HSLR7.out.len] at h3
          simp at h3
          omega
        subst hke
        go_wp2_with fail
        go_loopw [81] (fun i wr => ∃ q : Nat, q ≤ k ∧ i = .int .i64 q ∧ Sl Rep.int wr (fun b => w4.heap.size ≤ b) A5 k c5 r ∧ Below w4.heap.size w4 wr) (fun i _ => k - (intOf i).toNat)
        case atStart => exact ⟨0, Nat.zero_le _, rfl, HSLR7.out, HB47.out⟩
        case round =>
          obtain ⟨q, hq, rfl, hsl, hb⟩ := hrel
          have HSL := Lib.hid hsl
          have HBR := Lib.hid hb
          clear hsl hb
          by_cases hlt2 : q < k
          · obtain ⟨A8, hcut, hrd8⟩ := tInts.cutl (c := c5) HSL.out.ints ((q : Int) + 1) (by omega) (by omega) (by omega)
            have e1 : ((q : Int) + 1).toNat = q + 1 := by omega
            rw [e1] at hcut hrd8
            have hcuth := tInts.hN A5 k c5 q (by omega)
            have HRD8 := Lib.hid hrd8
            clear hrd8 e1
            go_wp2_with fail
            have hwrap : IntKind.i64.wrap ((q : Int) + 1) = (q : Int) + 1 := IntWalk.i64_in _ (by omega)
            have hp1 : Rd wr (fun b => w4.heap.size ≤ b) 1 A5 q ((r.take q).map (Value.int .i64)) := by
              have := HSL.out.ints.cuth q (by omega)
              rwa [Nat.mul_one, ← List.map_take] at this
            have hp2 : Rd wr (fun b => w4.heap.size ≤ b) 1 A8 (k - (q + 1)) ((r.drop (q + 1)).map (Value.int .i64)) := by
              have := HRD8.out
              rwa [Nat.mul_one, ← List.map_drop] at this
            have HP1 := Lib.hid hp1
            have HP2 := Lib.hid hp2
            clear hp1 hp2
            go_region_held3 (fun _ => True) (trivial) (first
              | (go_at_call 22; refine (concat_erase2 _ (fun _ => True) (fun b => w4.heap.size ≤ b) _ A5 A8 q k c5 _ _ r (by exact (Rd.new wr (fun _ => True) _ [.slice A5 q c5, .slice A8 (k - (q + 1)) (c5 - (q + 1))] _ rfl trivial).drew) (by exact (HP1.out.alloc _).drew) (by exact (HP2.out.alloc _).drew) hn5 hlt2 rfl (by omega) (by omega)).mono ?_; rintro e wa ⟨Aa, ca, rfl, hsla, hba0⟩; have hba := below_ad hba0; have HBA := Lib.hid (HBR.out.trans (hba.mono HBR.out.size)); have HSLA := Lib.hid (HSL.out.below hba); have hsa := hsla.ints; have HSA := Lib.hid hsa; clear hba0 hba hsla hsa)
              | (go_at_call 33; have h6 := HT.out wa HBA.out Aa (k - 1) ca _ (r.eraseIdx q) HSA.out (HGR.out.erase q); rw [HMIN.out q (by rw [← HSL.out.len]; exact hlt2)] at h6; refine h6.mono ?_; clear h6; rintro e wb ⟨rfl, hbb⟩; have HBB := Lib.hid (HBA.out.trans (hbb.mono HBA.out.size)); have HSLB := Lib.hid (HSLA.out.below hbb); clear hbb))
            clear hwrap
            go_wp2_with fail
            go_roundw
            case rel => exact ⟨q + 1, by omega, by go_num, HSLB.out, HBB.out⟩
            case measure => simp [intOf]; omega
          · go_wp2_with fail
            go_ret
            exact ⟨rfl, HB4.out.trans (HBR.out.mono HB4.out.size)⟩
end Go.Proofs.Ytjeklijkncbaaaa
