/- MergeSmall: its walk. -/
import Derived.Test.YtgaahpddlohjoaaMergeEx
import Derived.Deep.LoopGhost
namespace Go.Proofs.Ytgaahpddlohjoaa
open Go.RowKit

set_option linter.unusedSimpArgs false in
set_option maxRecDepth 1000000 in
set_option maxHeartbeats 20000000 in
theorem mergeSmall_walk (W : World) (A0 : Option Addr) (n0 c0 : Nat) (z0 : List Int) (le0 : n0 ≤ c0) (cap0 : c0 ≤ 17592186043904) (rd0 : Rd W (fun _ => True) 1 A0 n0 (z0.map (Value.int .i64))) (_rg0 : ∀ z ∈ z0, -9223372036854775808 ≤ z ∧ z ≤ 9223372036854775807)
    (A1 : Option Addr) (n1 c1 : Nat) (z1 : List Int) (le1 : n1 ≤ c1) (cap1 : c1 ≤ 17592186043904) (rd1 : Rd W (fun _ => True) 1 A1 n1 (z1.map (Value.int .i64))) (_rg1 : ∀ z ∈ z1, -9223372036854775808 ≤ z ∧ z ≤ 9223372036854775807) :
    Calls Try.prog 10 #[.slice A0 n0 c0, .slice A1 n1 c1] W fun e W' => e = .returned (.bool true) ∧ Below W.heap.size W W' := by
  have HR0 := Lib.hid (rd0.slInts le0)
  have HR1 := Lib.hid (rd1.slInts le1)
  have HV := Lib.hid (dfaOf_valid z0)
  clear rd0 rd1 _rg0 _rg1
  go_enter Try.func10, Try.ntmps10
  go_wp2_with fail
  refine (makeDfa _ _ _ _ _ z0 HR0.out (by omega)).mono ?_
  rintro e w1 ⟨Bd, vA, vN, xs, hBd, rfl, hD, hb1⟩
  obtain ⟨d, hd⟩ : ∃ d, d = dfaOf z0 := ⟨_, rfl⟩
  rw [← hd] at hD HV ⊢
  clear hd
  obtain ⟨A, cA, rfl, hcA, _⟩ := hD.ownA.form
  obtain ⟨N, cN, rfl, hcN, _⟩ := hD.ownN.form
  obtain ⟨hsA, hsN⟩ := hD.sl
  have HSA := Lib.hid hsA
  have HSN := Lib.hid hsN
  have HB1 := Lib.hid hb1
  have hz1 := hb1.size
  obtain ⟨nA, hnA⟩ : ∃ k, k = d.2.1.length := ⟨_, rfl⟩
  obtain ⟨nN, hnN⟩ : ∃ k, k = d.2.2.length := ⟨_, rfl⟩
  rw [← hnA] at HSA hcA ⊢
  rw [← hnN] at HSN hcN ⊢
  have hN1 : (0 : Int) < (nN : Int) := by have := HV.out.n1; omega
  obtain ⟨bN, oN, AR, mR, cR, r0, rfl, _, _, hcr, hr0, hrs0⟩ := row_at HSN.out (k := 0) (by omega)
  obtain rfl : mR = cols d := by
    rw [hrs0.len]
    unfold cols
    rw [hr0]
    rfl
  have HCR := Lib.hid hcr
  have hltN : bN < w1.heap.size := cell_lt hcr
  have hc1 : 1 ≤ cols d := HV.out.c1
  have hc2 : cols d ≤ 16 := HV.out.c2
  clear hb1 hD hsA hsN hnA hnN hcr hr0 hrs0
  go_wp2_with fail
  obtain ⟨w2, hw2⟩ : ∃ w2 : World, w2 = w1.alloc (.cells #[.int .i64 d.1, .slice A nA cA, .slice (some ⟨bN, oN, none⟩) nN cN] 25) := ⟨_, rfl⟩
  rw [← hw2]
  have hz2 : w2.heap.size = w1.heap.size + 1 := by rw [hw2]; simp
  have hb2 : Below w1.heap.size w1 w2 := by rw [hw2]; exact (Below.refl _ _).alloc (Nat.le_refl _) _
  have HD := Lib.hid (show w2.heap[w1.heap.size]? = some (.cells #[.int .i64 d.1, .slice A nA cA, .slice (some ⟨bN, oN, none⟩) nN cN] 25 (0, 0)) by rw [hw2]; exact heap_alloc_new _ _)
  have HB2 := Lib.hid (HB1.out.trans (hb2.mono hz1))
  have HB12 := Lib.hid hb2
  rw [← hz2]
  clear hw2 hb2
  obtain ⟨hlY, hlN⟩ := lit_wordsM (w := w2)
  refine (mergeOfI _ 1 1 rfl (by omega) (by omega) _ _ 1 1 [[0]] hlY _ _ 1 1 [[]] hlN (by omega) (by simp) (by simp [sumLen]) (by simp)).mono ?_
  rintro e w3 ⟨⟨L3, m3, A3, nA3, cA3, N3, n3, cN3, rfl, -, hN3, hP3, -⟩, hb3⟩
  obtain rfl : n3 = 2 := by rw [hN3.len]; exact (two_states hP3).2
  have hz3 := hb3.size
  simp only [World.size_alloc] at hz3
  have HB3 := Lib.hid (show Below w2.heap.size w2 w3 from (((((Below.refl w2.heap.size w2).alloc (Nat.le_refl _) _).alloc (by simp) _).alloc (by simp; omega) _).alloc (by simp; omega) _).trans (hb3.mono (by simp; omega)))
  clear hlY hlN hb3 hN3 hP3
  have hd3 := (HB3.out.block _ (by omega)).trans HD.out
  have ltD : w1.heap.size < w3.heap.size := by omega
  obtain ⟨kd0, kd1, kd2⟩ : w3.cell? ⟨w1.heap.size, 0, none⟩ = some (.int .i64 d.1) ∧ w3.cell? ⟨w1.heap.size, 1, none⟩ = some (.slice A nA cA) ∧ w3.cell? ⟨w1.heap.size, 2, none⟩ = some (.slice (some ⟨bN, oN, none⟩) nN cN) := by simp [World.cell?, hd3]
  clear hd3
  go_wp2_with fail
  obtain ⟨w4, hw4⟩ : ∃ w4 : World, w4 = w3.alloc (.cells #[.int .i64 0, .slice A3 nA3 cA3, .slice N3 2 cN3] 25) := ⟨_, rfl⟩
  rw [← hw4]
  have hz4 : w3.heap.size < w4.heap.size := by rw [hw4]; simp
  have HB24 := Lib.hid (show Below w2.heap.size w2 w4 by rw [hw4]; exact HB3.out.alloc HB3.out.size _)
  clear hw4 kd0 kd1 kd2
  have HB14 := Lib.hid (HB12.out.trans (HB24.out.mono (by omega)))
  have HB4 := Lib.hid (HB2.out.trans (HB24.out.mono HB2.out.size))
  refine (keepExamples w4 _ A nA cA (some ⟨bN, oN, none⟩) nN cN d (HSA.out.below HB14.out) (HSN.out.below HB14.out) HV.out _ A1 n1 c1 z1 (HR1.out.below HB4.out) (by omega)).mono ?_
  rintro e w5 ⟨⟨Ay, cy, An, cn, ys, ns, rfl, htw, hok⟩, hb5⟩
  have hz5 := hb5.size
  have HTW := Lib.hid htw
  have HOK := Lib.hid hok
  have HWD := Lib.hid hok.words
  have hlen := hok.len
  obtain ⟨ny, hny⟩ : ∃ k, k = ys.length := ⟨_, rfl⟩
  obtain ⟨nn, hnn⟩ : ∃ k, k = ns.length := ⟨_, rfl⟩
  have HLY := Lib.hid (And.intro hny hnn)
  rw [← hny, ← hnn] at HTW hlen ⊢
  have HB25 := Lib.hid (HB24.out.trans (hb5.mono HB24.out.size))
  have HB5 := Lib.hid (HB4.out.trans (hb5.mono HB4.out.size))
  have hz25 := HB25.out.size
  have hd5 := (HB25.out.block _ (by omega)).trans HD.out
  have ltD5 : w1.heap.size < w5.heap.size := by omega
  have kd2 : w5.cell? ⟨w1.heap.size, 2, none⟩ = some (.slice (some ⟨bN, oN, none⟩) nN cN) := by simp [World.cell?, hd5]
  have kr : w5.cell? ⟨bN, oN, none⟩ = some (.slice AR (cols d) cR) := ((HB12.out.trans (HB25.out.mono (by omega))).cell hltN).trans HCR.out
  clear htw hok hb5 hny hnn hd5
  go_wp2_with fail
  refine (mergeOfI w5 (cols d : Int) (cols d) rfl hc1 hc2 _ Ay ny cy ys HTW.out.slY _ An nn cn ns HTW.out.slN (by omega) (fun x hx => ⟨by have := (HWD.out.1 x hx).1; omega, (HWD.out.1 x hx).2⟩) (by have := HWD.out.2.1; omega) HWD.out.2.2).mono ?_
  rintro e w6 ⟨⟨L, m, A6, nA6, cA6, N6, n6, cN6, rfl, hA6, hN6, hP, hL⟩, hb6⟩
  have hz6 := hb6.size
  have HA6 := Lib.hid hA6
  have HN6 := Lib.hid hN6
  have HP := Lib.hid hP
  have HB6 := Lib.hid hb6
  have HB06 := Lib.hid (HB5.out.trans (hb6.mono HB5.out.size))
  have HVC := Lib.hid (hP.valid hL HWD.out.2.2 hc1 hc2)
  clear hA6 hN6 hP hb6
  have HN6L := Lib.hid (show n6 ≤ 1 + sumLen (ys ++ ns) by
    have h1 := HN6.out.len
    have h2 := canon_le HVC.out.1
    have h3 : (endM m).2.2.length = L.length := by
      have hm := HP.out.mok hL HWD.out.2.2
      show (m.next.map _).length = _
      rw [List.length_map, hm.ok.nx, hm.len]
    have h4 := HP.out.1.len
    omega)
  clear kd2 kr
  obtain ⟨w7, hw7⟩ : ∃ w7 : World, w7 = w6.alloc (.cells #[.int .i64 0, .slice A6 nA6 cA6, .slice N6 n6 cN6] 25) := ⟨_, rfl⟩
  have hz7 : w7.heap.size = w6.heap.size + 1 := by rw [hw7]; simp
  have hx7 : w7.heap[w6.heap.size]? = some (.cells #[.int .i64 0, .slice A6 nA6 cA6, .slice N6 n6 cN6] 25 (0, 0)) := by rw [hw7]; exact heap_alloc_new _ _
  obtain ⟨w8, hw8⟩ : ∃ w8 : World, w8 = w7.alloc (.cells #[.slice Ay ny cy, .slice An nn cn] 23) := ⟨_, rfl⟩
  have hz8 : w8.heap.size = w6.heap.size + 2 := by rw [hw8]; simp; omega
  have hrd : Rd w8 (fun _ => True) 1 (some ⟨w6.heap.size + 1, 0, none⟩) 2 [.slice Ay ny cy, .slice An nn cn] := by
    rw [hw8]
    exact Rd.new w7 (fun _ => True) 23 [.slice Ay ny cy, .slice An nn cn] (w6.heap.size + 1) hz7 trivial
  have HB8 := Lib.hid (show Below w6.heap.size w6 w8 by rw [hw8, hw7]; exact ((Below.refl _ _).alloc (Nat.le_refl _) _).alloc (by simp) _)
  have HX8 := Lib.hid (show w8.heap[w6.heap.size]? = some (.cells #[.int .i64 0, .slice A6 nA6 cA6, .slice N6 n6 cN6] 25 (0, 0)) by rw [hw8, Below.heap_alloc _ _ _ (by omega)]; exact hx7)
  have HTW8 := Lib.hid (HTW.out.below (HB6.out.trans (HB8.out.mono hz6)))
  have HRD := Lib.hid hrd
  have HW := Lib.hid (And.intro hw7 hw8)
  have hz8a : w6.heap.size < w8.heap.size := by omega
  clear hrd hw7 hw8 hx7 hz7 hz8
  go_wp2_with fail
  rw [← HW.out.1, ← HW.out.2]
  obtain ⟨x1, e1, f1, r1, q1⟩ := HTW8.out.slY
  obtain ⟨x2, e2, f2, r2, q2⟩ := HTW8.out.slN
  refine (concatW (w6.heap.size + 1) 0 2 (fun _ => True) [⟨Ay, ny, cy, x1⟩, ⟨An, nn, cn, x2⟩] w8 HRD.out (by
    intro p hp
    rcases List.mem_cons.1 hp with rfl | hp
    · exact ⟨r1.more fun _ _ => trivial, f1, q1.one⟩
    · obtain rfl := List.mem_singleton.1 hp
      exact ⟨r2.more fun _ _ => trivial, f2, q2.one⟩) (by simp) (by simp [partsLen]; omega)).mono ?_
  rintro e w9 ⟨v, rfl, ho, hb9⟩
  rw [show partsLen [⟨Ay, ny, cy, x1⟩, ⟨An, nn, cn, x2⟩] = ny + nn by simp [partsLen], show partsAll [⟨Ay, ny, cy, x1⟩, ⟨An, nn, cn, x2⟩] = x1 ++ x2 by simp [partsAll]] at ho
  obtain ⟨A9, c9, rfl, hc9, _⟩ := ho.form
  have hq : Cells RIV w8 (fun _ => True) (x1 ++ x2) (ys ++ ns) := (q1.more fun _ _ => trivial).append (q2.more fun _ _ => trivial)
  obtain ⟨n9, hn9⟩ : ∃ n9, n9 = ny + nn := ⟨_, rfl⟩
  have HL9 := Lib.hid (show Sl RIV w9 (fun _ => True) A9 n9 c9 (ys ++ ns) from ⟨x1 ++ x2, by rw [List.length_append]; omega, by omega, by rw [hn9]; exact ho.rd.more fun _ _ => trivial, hq.keep (.below hb9)⟩)
  have HB9 := Lib.hid (HB8.out.trans (hb9.mono HB8.out.size))
  have hx9 := (hb9.block _ hz8a).trans HX8.out
  have HX9 := Lib.hid hx9
  have hn912 : n9 ≤ 12 := by omega
  have hz9 : w6.heap.size < w9.heap.size := by have := hb9.size; omega
  rw [← hn9]
  clear ho hq hb9 e1 f1 r1 q1 e2 f2 r2 q2 hc9 hn9 hx9
  go_wp2_with fail
  go_loopg [12, 14, 57] n9 (fun gk v12 _ i wr => ∃ k : Nat, k ≤ n9 ∧ gk = n9 - k ∧ i = .int .i64 (k : Int) ∧ v12 = .int .i64 ((1 + sumLen ((ys ++ ns).take k) : Nat) : Int) ∧ wr = w9)
  case atStart => exact ⟨0, Nat.zero_le _, rfl, rfl, by simp [sumLen], rfl⟩
  case round =>
    obtain ⟨k, hk, hgk, rfl, rfl, rfl⟩ := hrel
    have HGK := Lib.hid hgk
    clear hgk
    obtain ⟨sk, hsk⟩ : ∃ sk, sk = 1 + sumLen ((ys ++ ns).take k) := ⟨_, rfl⟩
    have hsk49 : sk ≤ 49 := by
      have h1 : sumLen ((ys ++ ns).take k) ≤ sumLen (ys ++ ns) := by
        have h2 := sumLen_append ((ys ++ ns).take k) ((ys ++ ns).drop k)
        rw [List.take_append_drop] at h2
        omega
      have := HWD.out.2.1
      omega
    have HSK := Lib.hid hsk
    rw [← hsk]
    clear hsk
    by_cases hlt : k < n9
    · obtain ⟨b, off, A4, m4, c4, x, rfl, _, _, hc, hx, hs⟩ := word_at HL9.out hlt
      have hm := hs.len
      have hx4 := (HWD.out.1 x (List.mem_of_getElem? hx)).1
      have hkI : (k : Int) < (n9 : Int) := by omega
      have hm4 : m4 ≤ 4 := by omega
      have HXM := Lib.hid (And.intro hx hm)
      clear hx hm hs hx4
      go_wp2_with fail
      go_roundg (n9 - (k + 1))
      case measure => rw [HGK.out]; omega
      case rel =>
        refine ⟨k + 1, by omega, rfl, by go_num, ?_, rfl⟩
        rw [take_succ_some HXM.out.1, sumLen_append, show sumLen [x] = m4 by rw [HXM.out.2]; simp [sumLen]]
        have := HSK.out
        rw [show (sk : Int) + (m4 : Int) = ((1 + (sumLen ((ys ++ ns).take k) + m4) : Nat) : Int) by omega]
    · obtain rfl : k = n9 := by omega
      have hkI : ¬ (k : Int) < (k : Int) := by omega
      have hn6s : n6 ≤ sk := by
        have h1 := HSK.out
        rw [List.take_of_length_le (by have := HL9.out.len; omega)] at h1
        have := HN6L.out
        omega
      have i1 : decide ((sk : Int) < (n6 : Int)) = false := by simp; omega
      obtain ⟨j0, j1, j2⟩ : wr.cell? ⟨w6.heap.size, 0, none⟩ = some (.int .i64 0) ∧ wr.cell? ⟨w6.heap.size, 1, none⟩ = some (.slice A6 nA6 cA6) ∧ wr.cell? ⟨w6.heap.size, 2, none⟩ = some (.slice N6 n6 cN6) := by
        have := HX9.out
        simp [World.cell?, this]
      have HB59 := Lib.hid (show Below w5.heap.size w5 wr from HB6.out.trans (HB9.out.mono hz6))
      have HB29 := Lib.hid (show Below w2.heap.size w2 wr from HB25.out.trans (HB59.out.mono hz25))
      have HW9 := Lib.hid (HB06.out.trans (HB9.out.mono HB06.out.size))
      have hd9 := (HB29.out.block _ (by omega)).trans HD.out
      have ltD9 : w1.heap.size < wr.heap.size := by omega
      have kd2 : wr.cell? ⟨w1.heap.size, 2, none⟩ = some (.slice (some ⟨bN, oN, none⟩) nN cN) := by simp [World.cell?, hd9]
      have kr : wr.cell? ⟨bN, oN, none⟩ = some (.slice AR (cols d) cR) := ((HB12.out.trans (HB29.out.mono (by omega))).cell hltN).trans HCR.out
      clear hd9
      go_wp2_with fail
      refine (mergeOfI wr (cols d : Int) (cols d) rfl hc1 hc2 _ Ay ny cy ys (HTW.out.below HB59.out).slY (fun _ => True) none 0 0 [] (Sl.nil _ _ _ _) (by omega) (fun x hx => by
        rw [List.append_nil] at hx
        exact ⟨by have := (HWD.out.1 x (List.mem_append_left _ hx)).1; omega, (HWD.out.1 x (List.mem_append_left _ hx)).2⟩) (by
        have h1 := HWD.out.2.1
        rw [sumLen_append] at h1
        rw [List.append_nil]
        omega) (by simp)).mono ?_
      rintro e w10 ⟨⟨L2, m2, A10, nA10, cA10, N10, n10, cN10, rfl, hA10, hN10, hP2, hL2⟩, hb10⟩
      obtain ⟨o1, o2, x0, o3⟩ := hP2.one hL2 (fun x hx => (HWD.out.1 x (List.mem_append_left _ hx)).2) hc1 hc2
      obtain rfl : n10 = 1 := by rw [hN10.len]; exact o1
      obtain rfl : nA10 = 1 := by
        rw [hA10.len, (canon_valid (hP2.valid hL2 (by simp) hc1 hc2).1).na]
        exact o1
      obtain ⟨bA, oA, xx, eA, _, hxx, hcx⟩ := hA10.ints.int_at (k := 0) (by omega)
      subst eA
      rw [o3] at hxx
      injection hxx with hxx
      subst hxx
      have hbx : bA < w10.heap.size := cell_lt hcx
      have hcx' : w10.cell? ⟨bA, oA, none⟩ = some (.int .i64 x0) := hcx
      have HB10 := Lib.hid (HW9.out.trans (hb10.mono HW9.out.size))
      have hyy : ys ≠ [] ↔ 0 < ny := by
        have := HLY.out.1
        rw [this]
        exact List.length_pos_iff.symm
      have hin : x0 = 0 ↔ 0 < ny := by
        rw [← hyy, ← o2, o3]
        exact ⟨fun e => by rw [e], fun e => by injection e⟩
      clear kd2 kr j0 j1 j2 hA10 hN10 hP2 hb10 o1 o2 o3 hcx hyy
      by_cases h0 : 0 < ny
      · have hx0 := hin.2 h0
        subst hx0
        have hnI : (0 : Int) < (ny : Int) := by omega
        clear hin
        go_wp2_with fail
        go_ret
        refine ⟨?_, HB10.out.alloc HB10.out.size _⟩
        simp [h0]
      · have hx0 : x0 ≠ 0 := fun e => h0 (hin.1 e)
        have i2 : (x0 == 0) = false := by simp [hx0]
        have hnI : ¬ (0 : Int) < (ny : Int) := by omega
        clear hin
        go_wp2_with fail
        go_ret
        refine ⟨?_, HB10.out.alloc HB10.out.size _⟩
        simp [h0, i2]
end Go.Proofs.Ytgaahpddlohjoaa
