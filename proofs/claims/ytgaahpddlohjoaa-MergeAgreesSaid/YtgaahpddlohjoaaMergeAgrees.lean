/- MergeAgrees: its walk. -/
import Derived.Test.YtgaahpddlohjoaaMergeEx
import Derived.Deep.LoopGhost
namespace Go.Proofs.Ytgaahpddlohjoaa
open Go.RowKit

set_option linter.unusedSimpArgs false in
set_option maxRecDepth 1000000 in
set_option maxHeartbeats 20000000 in
theorem mergeAgrees_walk (W : World) (A0 : Option Addr) (n0 c0 : Nat) (z0 : List Int) (le0 : n0 ≤ c0) (cap0 : c0 ≤ 17592186043904) (rd0 : Rd W (fun _ => True) 1 A0 n0 (z0.map (Value.int .i64))) (_rg0 : ∀ z ∈ z0, -9223372036854775808 ≤ z ∧ z ≤ 9223372036854775807)
    (A1 : Option Addr) (n1 c1 : Nat) (z1 : List Int) (le1 : n1 ≤ c1) (cap1 : c1 ≤ 17592186043904) (rd1 : Rd W (fun _ => True) 1 A1 n1 (z1.map (Value.int .i64))) (_rg1 : ∀ z ∈ z1, -9223372036854775808 ≤ z ∧ z ≤ 9223372036854775807) :
    Calls Try.prog 8 #[.slice A0 n0 c0, .slice A1 n1 c1] W fun e W' => e = .returned (.bool true) ∧ Below W.heap.size W W' := by
  have HR0 := Lib.hid (rd0.slInts le0)
  have HR1 := Lib.hid (rd1.slInts le1)
  have HV := Lib.hid (dfaOf_valid z0)
  clear rd0 rd1 _rg0 _rg1
  go_enter Try.func8, Try.ntmps8
  go_wp2_with fail
  refine (makeDfa _ _ _ _ _ z0 HR0.out (by omega)).mono ?_
  rintro e w1 ⟨Bd, vA, vN, xs, hBd, rfl, hD, hb1⟩
  obtain ⟨d, hd⟩ : ∃ d, d = dfaOf z0 := ⟨_, rfl⟩
  rw [← hd] at hD HV ⊢
  clear hd
  obtain ⟨A, cA, rfl, hcA, _⟩ := hD.ownA.form
  obtain ⟨N, cN, rfl, hcN, _⟩ := hD.ownN.form
  obtain ⟨hsA, hsN⟩ := hD.sl
  have HSA := Lib.hid hsA
  have HSN := Lib.hid hsN
  have HB1 := Lib.hid hb1
  have hz1 := hb1.size
  obtain ⟨nA, hnA⟩ : ∃ k, k = d.2.1.length := ⟨_, rfl⟩
  obtain ⟨nN, hnN⟩ : ∃ k, k = d.2.2.length := ⟨_, rfl⟩
  rw [← hnA] at HSA hcA ⊢
  rw [← hnN] at HSN hcN ⊢
  have hN1 : (0 : Int) < (nN : Int) := by have := HV.out.n1; omega
  obtain ⟨bN, oN, AR, mR, cR, r0, rfl, _, _, hcr, hr0, hrs0⟩ := row_at HSN.out (k := 0) (by omega)
  obtain rfl : mR = cols d := by
    rw [hrs0.len]
    unfold cols
    rw [hr0]
    rfl
  have HCR := Lib.hid hcr
  have hltN : bN < w1.heap.size := cell_lt hcr
  have hc1 : 1 ≤ cols d := HV.out.c1
  have hc2 : cols d ≤ 16 := HV.out.c2
  clear hb1 hD hsA hsN hnA hnN hcr hr0 hrs0
  go_wp2_with fail
  obtain ⟨w2, hw2⟩ : ∃ w2 : World, w2 = w1.alloc (.cells #[.int .i64 d.1, .slice A nA cA, .slice (some ⟨bN, oN, none⟩) nN cN] 25) := ⟨_, rfl⟩
  rw [← hw2]
  have hz2 : w2.heap.size = w1.heap.size + 1 := by rw [hw2]; simp
  have hb2 : Below w1.heap.size w1 w2 := by rw [hw2]; exact (Below.refl _ _).alloc (Nat.le_refl _) _
  have HD := Lib.hid (show w2.heap[w1.heap.size]? = some (.cells #[.int .i64 d.1, .slice A nA cA, .slice (some ⟨bN, oN, none⟩) nN cN] 25 (0, 0)) by rw [hw2]; exact heap_alloc_new _ _)
  have HB2 := Lib.hid (HB1.out.trans (hb2.mono hz1))
  have HB12 := Lib.hid hb2
  rw [← hz2]
  clear hw2 hb2
  obtain ⟨hlY, hlN⟩ := lit_wordsM (w := w2)
  refine (mergeOfI _ 1 1 rfl (by omega) (by omega) _ _ 1 1 [[0]] hlY _ _ 1 1 [[]] hlN (by omega) (by simp) (by simp [sumLen]) (by simp)).mono ?_
  rintro e w3 ⟨⟨L3, m3, A3, nA3, cA3, N3, n3, cN3, rfl, -, hN3, hP3, -⟩, hb3⟩
  obtain rfl : n3 = 2 := by rw [hN3.len]; exact (two_states hP3).2
  have hz3 := hb3.size
  simp only [World.size_alloc] at hz3
  have HB3 := Lib.hid (show Below w2.heap.size w2 w3 from (((((Below.refl w2.heap.size w2).alloc (Nat.le_refl _) _).alloc (by simp) _).alloc (by simp; omega) _).alloc (by simp; omega) _).trans (hb3.mono (by simp; omega)))
  clear hlY hlN hb3 hN3 hP3
  have hd3 := (HB3.out.block _ (by omega)).trans HD.out
  have ltD : w1.heap.size < w3.heap.size := by omega
  obtain ⟨kd0, kd1, kd2⟩ : w3.cell? ⟨w1.heap.size, 0, none⟩ = some (.int .i64 d.1) ∧ w3.cell? ⟨w1.heap.size, 1, none⟩ = some (.slice A nA cA) ∧ w3.cell? ⟨w1.heap.size, 2, none⟩ = some (.slice (some ⟨bN, oN, none⟩) nN cN) := by simp [World.cell?, hd3]
  clear hd3
  go_wp2_with fail
  obtain ⟨w4, hw4⟩ : ∃ w4 : World, w4 = w3.alloc (.cells #[.int .i64 0, .slice A3 nA3 cA3, .slice N3 2 cN3] 25) := ⟨_, rfl⟩
  rw [← hw4]
  have hz4 : w3.heap.size < w4.heap.size := by rw [hw4]; simp
  have HB24 := Lib.hid (show Below w2.heap.size w2 w4 by rw [hw4]; exact HB3.out.alloc HB3.out.size _)
  clear hw4 kd0 kd1 kd2
  have HB14 := Lib.hid (HB12.out.trans (HB24.out.mono (by omega)))
  have HB4 := Lib.hid (HB2.out.trans (HB24.out.mono HB2.out.size))
  refine (keepExamples w4 _ A nA cA (some ⟨bN, oN, none⟩) nN cN d (HSA.out.below HB14.out) (HSN.out.below HB14.out) HV.out _ A1 n1 c1 z1 (HR1.out.below HB4.out) (by omega)).mono ?_
  rintro e w5 ⟨⟨Ay, cy, An, cn, ys, ns, rfl, htw, hok⟩, hb5⟩
  have hz5 := hb5.size
  have HTW := Lib.hid htw
  have HOK := Lib.hid hok
  have HWD := Lib.hid hok.words
  have hlen := hok.len
  obtain ⟨ny, hny⟩ : ∃ k, k = ys.length := ⟨_, rfl⟩
  obtain ⟨nn, hnn⟩ : ∃ k, k = ns.length := ⟨_, rfl⟩
  have HLY := Lib.hid (And.intro hny hnn)
  rw [← hny, ← hnn] at HTW hlen ⊢
  have HB25 := Lib.hid (HB24.out.trans (hb5.mono HB24.out.size))
  have HB5 := Lib.hid (HB4.out.trans (hb5.mono HB4.out.size))
  have hz25 := HB25.out.size
  have hd5 := (HB25.out.block _ (by omega)).trans HD.out
  have ltD5 : w1.heap.size < w5.heap.size := by omega
  have kd2 : w5.cell? ⟨w1.heap.size, 2, none⟩ = some (.slice (some ⟨bN, oN, none⟩) nN cN) := by simp [World.cell?, hd5]
  have kr : w5.cell? ⟨bN, oN, none⟩ = some (.slice AR (cols d) cR) := ((HB12.out.trans (HB25.out.mono (by omega))).cell hltN).trans HCR.out
  clear htw hok hb5 hny hnn hd5
  go_wp2_with fail
  refine (mergeOfI w5 (cols d : Int) (cols d) rfl hc1 hc2 _ Ay ny cy ys HTW.out.slY _ An nn cn ns HTW.out.slN (by omega) (fun x hx => ⟨by have := (HWD.out.1 x hx).1; omega, (HWD.out.1 x hx).2⟩) (by have := HWD.out.2.1; omega) HWD.out.2.2).mono ?_
  rintro e w6 ⟨⟨L, m, A6, nA6, cA6, N6, n6, cN6, rfl, hA6, hN6, hP, hL⟩, hb6⟩
  have hz6 := hb6.size
  have HA6 := Lib.hid hA6
  have HN6 := Lib.hid hN6
  have HP := Lib.hid hP
  have HB6 := Lib.hid hb6
  have HB06 := Lib.hid (HB5.out.trans (hb6.mono HB5.out.size))
  have HVC := Lib.hid (hP.valid hL HWD.out.2.2 hc1 hc2)
  clear hA6 hN6 hP hb6
  have hNE := HVC.out
  have HCV := Lib.hid (canon_valid HVC.out.1)
  have HCS := Lib.hid (canon_start HVC.out.1)
  clear hNE kd2 kr
  obtain ⟨w7, hw7⟩ : ∃ w7 : World, w7 = w6.alloc (.cells #[.int .i64 0, .slice A6 nA6 cA6, .slice N6 n6 cN6] 25) := ⟨_, rfl⟩
  have HB7 := Lib.hid (show Below w6.heap.size w6 w7 by rw [hw7]; exact (Below.refl _ _).alloc (Nat.le_refl _) _)
  have HX7 := Lib.hid (show w7.heap[w6.heap.size]? = some (.cells #[.int .i64 0, .slice A6 nA6 cA6, .slice N6 n6 cN6] 25 (0, 0)) by rw [hw7]; exact heap_alloc_new _ _)
  have hz7 : w6.heap.size < w7.heap.size := by rw [hw7]; simp
  go_wp2_with fail
  rw [← hw7]
  clear hw7
  have HW7 := Lib.hid (HB06.out.trans (HB7.out.mono HB06.out.size))
  have HACC := Lib.hid (show ∀ u : World, Below w7.heap.size w7 u → ∀ (Sw : Nat → Prop) (Aw : Option Addr) (nw cw : Nat) (x : List Int), Sl Rep.int u Sw Aw nw cw x → nw ≤ 4000 → (∀ y ∈ x, 0 ≤ y ∧ y < (cols d : Int)) →
      Calls Try.prog 17 #[.agg #[.int .i64 0, .slice A6 nA6 cA6, .slice N6 n6 cN6], .slice Aw nw cw] u fun e w' => e = .returned (.bool (daccept (endM m) x)) ∧ Below u.heap.size u w' from fun u hu Sw Aw nw cw x hx hl hr => by
    have hc := HVC.out.2
    have h1 := keepAccepts u _ A6 nA6 cA6 N6 n6 cN6 (canonD (endM m)) ((HA6.out.below HB7.out).below hu) ((HN6.out.below HB7.out).below hu) HCV.out Sw Aw nw cw x hx hl (fun y hy => by rw [canon_cols HVC.out.1, hc]; exact hr y hy)
    rw [HCS.out, canon_accept HVC.out.1 (fun y hy => by rw [hc]; exact hr y hy)] at h1
    exact h1)
  have hws : ∀ w ∈ ys ++ ns, ∀ c ∈ w, 0 ≤ c ∧ c < ((cols d : Nat) : Int) := fun x hx => (HWD.out.1 x hx).2
  have HYES := Lib.hid (fun x (hx : x ∈ ys) => HP.out.yes hL HWD.out.2.2 hws hx)
  have HNOO := Lib.hid (fun x (hx : x ∈ ns) => HP.out.no hL HWD.out.2.2 hws hx)
  have HTW7 := Lib.hid (HTW.out.below (HB6.out.trans (HB7.out.mono hz6)))
  clear hws
  go_loopg [13, 55] ny (fun gk _ i wr => ∃ k : Nat, k ≤ ny ∧ gk = ny - k ∧ i = .int .i64 k ∧ Below w7.heap.size w7 wr)
  case atStart => exact ⟨0, Nat.zero_le _, rfl, rfl, Below.refl _ _⟩
  case round =>
    obtain ⟨k, hk, hgk, rfl, hb⟩ := hrel
    obtain ⟨w8, rfl⟩ : ∃ w8 : World, w8 = wr := ⟨_, rfl⟩
    have HGK := Lib.hid hgk
    have HB8 := Lib.hid hb
    have hz8 := hb.size
    clear hgk hb
    by_cases hlt : k < ny
    · obtain ⟨b, off, A4, m4, c4, x, rfl, _, _, hc, hx, hs⟩ := word_at (HTW7.out.below HB8.out).slY hlt
      have hxm := List.mem_of_getElem? hx
      have hx4 := (HWD.out.1 x (List.mem_append_left _ hxm)).1
      have hm := hs.len
      have HXR := Lib.hid (HWD.out.1 x (List.mem_append_left _ hxm)).2
      have HAX := Lib.hid (HYES.out x hxm)
      have HS := Lib.hid hs
      have hx8 := (HB8.out.block _ hz7).trans HX7.out
      obtain ⟨j0, j1, j2⟩ : w8.cell? ⟨w6.heap.size, 0, none⟩ = some (.int .i64 0) ∧ w8.cell? ⟨w6.heap.size, 1, none⟩ = some (.slice A6 nA6 cA6) ∧ w8.cell? ⟨w6.heap.size, 2, none⟩ = some (.slice N6 n6 cN6) := by simp [World.cell?, hx8]
      have hkI : (k : Int) < (ny : Int) := by omega
      have hm4 : m4 ≤ 4000 := by omega
      clear hx hxm hx4 hm hs hx8
      go_wp2_with fail
      refine (HACC.out w8 HB8.out _ A4 m4 c4 x HS.out hm4 HXR.out).mono ?_
      rintro e w9 ⟨rfl, hb9⟩
      rw [HAX.out]
      have HB9 := Lib.hid (HB8.out.trans (hb9.mono hz8))
      clear hb9 j0 j1 j2 hc
      go_wp2_with fail
      go_roundg (ny - (k + 1))
      case measure => rw [HGK.out]; omega
      case rel => exact ⟨k + 1, by omega, rfl, by go_num, HB9.out⟩
    · obtain rfl : k = ny := by omega
      have hkI : ¬ (k : Int) < (k : Int) := by omega
      go_wp2_with fail
      go_loopg [15, 66] nn (fun gk _ i wr => ∃ q : Nat, q ≤ nn ∧ gk = nn - q ∧ i = .int .i64 q ∧ Below w7.heap.size w7 wr)
      case atStart => exact ⟨0, Nat.zero_le _, rfl, rfl, HB8.out⟩
      case round =>
        obtain ⟨q, hq, hgq, rfl, hb⟩ := hrel
        obtain ⟨w9, rfl⟩ : ∃ w9 : World, w9 = wr := ⟨_, rfl⟩
        have HGQ := Lib.hid hgq
        have HB9 := Lib.hid hb
        have hz9 := hb.size
        clear hgq hb
        by_cases hlt2 : q < nn
        · obtain ⟨b, off, A4, m4, c4, x, rfl, _, _, hc, hx, hs⟩ := word_at (HTW7.out.below HB9.out).slN hlt2
          have hxm := List.mem_of_getElem? hx
          have hx4 := (HWD.out.1 x (List.mem_append_right _ hxm)).1
          have hm := hs.len
          have HXR := Lib.hid (HWD.out.1 x (List.mem_append_right _ hxm)).2
          have HAX := Lib.hid (HNOO.out x hxm)
          have HS := Lib.hid hs
          have hx8 := (HB9.out.block _ hz7).trans HX7.out
          obtain ⟨j0, j1, j2⟩ : w9.cell? ⟨w6.heap.size, 0, none⟩ = some (.int .i64 0) ∧ w9.cell? ⟨w6.heap.size, 1, none⟩ = some (.slice A6 nA6 cA6) ∧ w9.cell? ⟨w6.heap.size, 2, none⟩ = some (.slice N6 n6 cN6) := by simp [World.cell?, hx8]
          have hqI : (q : Int) < (nn : Int) := by omega
          have hm4 : m4 ≤ 4000 := by omega
          clear hx hxm hx4 hm hs hx8
          go_wp2_with fail
          refine (HACC.out w9 HB9.out _ A4 m4 c4 x HS.out hm4 HXR.out).mono ?_
          rintro e w10 ⟨rfl, hb10⟩
          rw [HAX.out]
          have HB10 := Lib.hid (HB9.out.trans (hb10.mono hz9))
          clear hb10 j0 j1 j2 hc
          go_wp2_with fail
          go_roundg (nn - (q + 1))
          case measure => rw [HGQ.out]; omega
          case rel => exact ⟨q + 1, by omega, rfl, by go_num, HB10.out⟩
        · obtain rfl : q = nn := by omega
          have hqI : ¬ (q : Int) < (q : Int) := by omega
          go_wp2_with fail
          go_ret
          exact ⟨rfl, HW7.out.trans (HB9.out.mono HW7.out.size)⟩
end Go.Proofs.Ytgaahpddlohjoaa
