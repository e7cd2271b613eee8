/- CensusSum -/
import Derived.Test.YtimklgbljjamkaaDoorCs24
import Derived.Test.YtimklgbljjamkaaDoorCs50
import Derived.Test.YtimklgbljjamkaaDoorCs51
namespace Go.Proofs.YtimklgbljjamkaaDoor
open Go.RowKit Go.Maps
theorem trees_at {w : World} {S : Nat → Prop} {A : Option Addr} {N c n k : Nat} {R : List RuleD} (h : Sl RI w S A N c (treesTab R N n)) (hk : k < N) :
    ∃ (b off : Nat) (A1 : Option Addr) (c1 : Nat), A = some ⟨b, off, none⟩ ∧ w.cell? ⟨b, off + k, none⟩ = some (.slice A1 (n + 1) c1) ∧ Sl Rep.int w S A1 (n + 1) c1 (treesRow R n k) := by
 obtain ⟨b, off, u, row, rfl, hSb, hrow, ⟨A1, n1, c1, hu, hsl1⟩, hcell⟩ := h.at_ rfl hk
 obtain rfl : u = .slice A1 n1 c1 := by simpa using hu
 have hrow' : row = treesRow R n k := by
  rw [treesTab, List.getElem?_map, List.getElem?_range hk] at hrow
  simpa using hrow.symm
 have hn1 : n1 = n + 1 := by rw [hsl1.len, hrow']; simp [treesRow]
 subst hn1
 subst hrow'
 exact ⟨b, off, A1, c1, rfl, hcell, hsl1⟩
theorem terms_of {g : GramD} (hv : GValid g) {T : Nat} (hT : g.1 = (T : Int)) : TermsR g.2.2.2 T := fun r hr s hs hf => by
 obtain ⟨_, _, h4⟩ := hv.rules r hr
 obtain ⟨k1, k2⟩ := h4 s hs
 rw [hf] at k2
 rw [← hT]
 exact ⟨k1, k2⟩
open Classical in
theorem kW_rng (R : List RuleD) (a n : Nat) (u : List Int) : kW R a n u = -1 ∨ (0 ≤ kW R a n u ∧ kW R a n u ≤ 1000000000) := by
 unfold kW
 split
 ·
  split
  ·
   next h =>
   refine .inr ⟨by omega, ?_⟩
   rw [fC_eq h, nodeC_eq (show (keyN a 0 n).1.1 = false from rfl)]
   have := Nat.min_le_right (((packsP R u (keyN a 0 n)).map fun p => prodN (fC R u) p.2).sum) 1000000000
   unfold cp MC
   omega
  ·
   exact .inl rfl
 ·
  exact .inr ⟨by omega, by omega⟩
noncomputable def sumK (R : List RuleD) (a n : Nat) (l : List (List Int)) : Nat := cp ((l.map fun u => (kW R a n u).toNat).sum)
open Classical in
noncomputable def manyK (R : List RuleD) (a n : Nat) (l : List (List Int)) : Bool := decide (∃ u ∈ l, kW R a n u = -1)
theorem sumK_le (R : List RuleD) (a n : Nat) (l : List (List Int)) : sumK R a n l ≤ 1000000000 := by
 unfold sumK cp MC
 omega
theorem sumK_take {R : List RuleD} {a n i : Nat} {l : List (List Int)} {u : List Int} (h : l[i]? = some u) : sumK R a n (l.take (i + 1)) = cp (sumK R a n (l.take i) + (kW R a n u).toNat) := by
 unfold sumK
 rw [List.take_add_one, h, Option.toList_some, List.map_append, List.sum_append]
 simp only [List.map_cons, List.map_nil, List.sum_cons, List.sum_nil, Nat.add_zero]
 unfold cp MC
 omega
open Classical in
theorem manyK_take {R : List RuleD} {a n i : Nat} {l : List (List Int)} {u : List Int} (h : l[i]? = some u) : manyK R a n (l.take (i + 1)) = (manyK R a n (l.take i) || decide (kW R a n u = -1)) := by
 unfold manyK
 rw [List.take_add_one, h, Option.toList_some, Bool.eq_iff_iff, Bool.or_eq_true, decide_eq_true_eq, decide_eq_true_eq, decide_eq_true_eq]
 constructor
 ·
  rintro ⟨v, hv, e⟩
  rcases List.mem_append.1 hv with h1 | h1
  ·
   exact .inl ⟨v, h1, e⟩
  ·
   rw [List.mem_singleton.1 h1] at e; exact .inr e
 ·
  rintro (⟨v, hv, e⟩ | e)
  ·
   exact ⟨v, by simp [hv], e⟩
  ·
   exact ⟨u, by simp, e⟩
theorem sum_all {g : GramD} (hv : GValid g) {T st n : Nat} (hT : g.1 = (T : Int)) (hs : st < nonsOf g) {l : List (List Int)} (hl : l = wordsP T n) :
    (manyK g.2.2.2 st n l = true → treesN g.2.2.2 st n = -1) ∧ (manyK g.2.2.2 st n l = false → treesN g.2.2.2 st n = (sumK g.2.2.2 st n l : Int)) := by
 subst hl
 have h := sum_law (rulesN_of hv) (terms_of hv hT) (n := n) hs
 unfold manyK sumK
 constructor
 ·
  intro hm
  rw [if_pos (of_decide_eq_true hm)] at h
  exact h.symm
 ·
  intro hm
  rw [if_neg (of_decide_eq_false hm)] at h
  exact h.symm
set_option linter.unusedSimpArgs false in
set_option maxRecDepth 1000000 in
set_option maxHeartbeats 8000000 in
theorem censusSum_walk (W : World) (hTb : Tab W) (A0 : Option Addr) (n0 c0 : Nat) (z0 : List Int) (le0 : n0 ≤ c0) (cap0 : c0 ≤ 17592186043904) (rd0 : Rd W (fun _ => True) 1 A0 n0 (z0.map (Value.int .i64))) (_rg0 : ∀ z ∈ z0, -9223372036854775808 ≤ z ∧ z ≤ 9223372036854775807)
    (x1 : Int) (_lo1 : -9223372036854775808 ≤ x1) (_hi1 : x1 ≤ 9223372036854775807) :
    Calls Tryd.prog 3 #[.slice A0 n0 c0, .int .i64 x1] W fun e W' => e = .returned (.bool true) ∧ Below W.heap.size W W' := by
 have HR0 := Lib.hid (rd0.slInts le0)
 have HTB := Lib.hid hTb
 have hW0 := hTb.1
 clear rd0 _rg0 _lo1 _hi1 hTb
 go_enter Tryd.func3, Tryd.ntmps3
 go_wp2_with fail
 refine (makeGrammar W _ _ _ _ z0 HR0.out (by omega)).mono ?_
 rintro e w1 ⟨g, AR, cR, hv, hsm, rfl, hg, hb1⟩
 have hs1 := hb1.size
 obtain ⟨nR, hnR⟩ : ∃ nR, nR = g.2.2.2.length := ⟨_, rfl⟩
 obtain ⟨T, hT⟩ : ∃ T : Nat, g.1 = (T : Int) := ⟨g.1.toNat, by have := hv.t1; omega⟩
 have hT3 : T ≤ 3 := by have := hsm.t; omega
 obtain ⟨N, hN⟩ : ∃ N : Nat, g.2.1 = (N : Int) := ⟨g.2.1.toNat, by have := hv.n1; omega⟩
 have hNo : nonsOf g = N := by unfold nonsOf; omega
 have hN10 : N ≤ 10 := by have := hv.n2; omega
 obtain ⟨st, hst⟩ : ∃ st : Nat, g.2.2.1 = (st : Int) := ⟨g.2.2.1.toNat, by have := hv.st; omega⟩
 have hstN : st < N := by have := hv.st; omega
 rw [← hnR] at hg ⊢
 obtain ⟨w2, hw2⟩ : ∃ w2 : World, w2 = w1.alloc (.cells #[.int .i64 g.1, .int .i64 g.2.1, .int .i64 g.2.2.1, .slice AR nR cR] 25) := ⟨_, rfl⟩
 have hz2 : w2.heap.size = w1.heap.size + 1 := by rw [hw2]; simp
 have HV := Lib.hid hv
 have HT := Lib.hid hT
 have HNE := Lib.hid hN
 have HNO := Lib.hid hNo
 have HST := Lib.hid hst
 have HNR := Lib.hid hnR
 have HG2 := Lib.hid (show Sl RRule w2 (fun b => W.heap.size ≤ b) AR nR cR g.2.2.2 by rw [hw2]; exact hg.alloc _)
 have HB2 := Lib.hid (show Below W.heap.size W w2 by rw [hw2]; exact hb1.alloc hs1 _)
 have HALL := Lib.hid (show ∀ u : World, Below w2.heap.size w2 u → u.cell? ⟨w1.heap.size, 0, none⟩ = some (.int .i64 (T : Int)) ∧ u.cell? ⟨w1.heap.size, 1, none⟩ = some (.int .i64 (N : Int)) ∧ u.cell? ⟨w1.heap.size, 2, none⟩ = some (.int .i64 (st : Int)) ∧ u.cell? ⟨w1.heap.size, 3, none⟩ = some (.slice AR nR cR) from fun u hu => by
  have h0 : w2.heap[w1.heap.size]? = some (.cells #[.int .i64 g.1, .int .i64 g.2.1, .int .i64 g.2.2.1, .slice AR nR cR] 25 (0, 0)) := by rw [hw2]; exact heap_alloc_new _ _
  have e := (hu.block _ (by omega)).trans h0
  rw [← hT, ← hN, ← hst]
  simp [World.cell?, e])
 clear hv hsm hg hb1 HR0 hT hN hst hNo hnR
 go_wp2_with fail
 rw [← hw2]
 clear hw2
 refine (keepBelow x1 5 _ (by omega) (by omega)).mono ?_
 rintro e w3 ⟨rfl, rfl⟩
 obtain ⟨n, hn⟩ : ∃ n : Nat, (n : Int) = x1 % 5 := ⟨(x1 % 5).toNat, Int.toNat_of_nonneg (Int.emod_nonneg _ (by omega))⟩
 have hn2 : n ≤ 4 := by have := Int.emod_lt_of_pos x1 (show (0 : Int) < 5 by omega); omega
 rw [← hn]
 clear hn
 obtain ⟨k0, k1, k2, k3⟩ := HALL.out w2 (Below.refl _ _)
 go_wp2_with fail
 clear k0 k1 k2 k3
 have hc := censusTrees w2 _ AR nR cR g HG2.out HV.out n (by omega)
 rw [HT.out, HNE.out, HST.out, HNO.out] at hc
 refine hc.mono ?_
 clear hc
 rintro e w4 ⟨A1, c1, rfl, ha, hb4⟩
 have HA4 := Lib.hid ha
 have HB24 := Lib.hid hb4
 have HB4 := Lib.hid (HB2.out.trans (hb4.mono HB2.out.size))
 have hs4 := hb4.size
 clear ha hb4
 go_wp2_with fail
 refine (keepCounts w4).mono ?_
 rintro e w5 ⟨rfl, hb5⟩
 have HA5 := Lib.hid (HA4.out.below hb5)
 have HB25 := Lib.hid (HB24.out.trans (hb5.mono hs4))
 have HB5 := Lib.hid (HB4.out.trans (hb5.mono HB4.out.size))
 have hs5 := hb5.size
 obtain ⟨k0, k1, k2, k3⟩ := HALL.out w5 HB25.out
 obtain ⟨bA, oA, A2, c2, rfl, hca, hra⟩ := trees_at HA5.out (k := st) (by omega)
 have HRA := Lib.hid hra
 have HCA := Lib.hid hca
 have hl1 := cell_lt hca
 have hstI : (st : Int) < (N : Int) := by omega
 clear hra hb5
 go_wp2_with fail
 clear k0 k1 k2 k3 hca hl1
 refine (keepWords w5 T n (by omega) (by omega)).mono ?_
 rintro e w6 ⟨A6, c6, rfl, hl6, hb6⟩
 obtain ⟨R, hR⟩ : ∃ R, R = g.2.2.2 := ⟨_, rfl⟩
 obtain ⟨l, hl⟩ : ∃ l, l = wordsP T n := ⟨_, rfl⟩
 obtain ⟨NW, hNW⟩ : ∃ NW, NW = l.length := ⟨_, rfl⟩
 rw [← hl] at hl6 ⊢
 rw [← hNW] at hl6 ⊢
 have hNWc := hl6.cap
 have HLE := Lib.hid hl
 have HNW := Lib.hid hNW
 have HRE := Lib.hid hR
 have HL6 := Lib.hid hl6
 have HRA6 := Lib.hid (HRA.out.below hb6)
 have HCA6 := Lib.hid ((hb6.cell (cell_lt HCA.out)).trans HCA.out)
 have HB26 := Lib.hid (HB25.out.trans (hb6.mono HB25.out.size))
 have HB6 := Lib.hid (HB5.out.trans (hb6.mono HB5.out.size))
 have hs6 := hb6.size
 have hNW2 : NW ≤ 1000000 := by
  rw [hNW, hl, wordsP_len]
  exact Nat.le_trans (Nat.pow_le_pow_left hT3 n) (Nat.le_trans (Nat.pow_le_pow_right (by omega) hn2) (by decide))
 clear hl hNW hR hl6 hb6 HRA HCA HA4 HA5
 go_wp2_with fail
 go_loopg [8, 9, 53] NW (fun gk s m i wr => ∃ k : Nat, k ≤ NW ∧ gk = NW - k ∧ s = .int .i64 (sumK R st n (l.take k) : Int) ∧ m = .bool (manyK R st n (l.take k)) ∧ i = .int .i64 k ∧ Below w6.heap.size w6 wr)
 case atStart => exact ⟨0, Nat.zero_le _, rfl, by simp [sumK, cp], by simp [manyK], rfl, Below.refl _ _⟩
 case round =>
  obtain ⟨k, hk, hgk, rfl, rfl, rfl, hb⟩ := hrel
  have HGK := Lib.hid hgk
  have HB := Lib.hid hb
  have hsb := hb.size
  clear hgk hb
  by_cases hlt : k < NW
  ·
   obtain ⟨b7, o7, A7, m7, c7, r, rfl, _, hbl7, hcell, hrow, hsl⟩ := row_at (HL6.out.below HB.out) hlt
   have hmem : r ∈ wordsP T n := by rw [← HLE.out]; exact List.mem_of_getElem? hrow
   obtain ⟨hlen, hlet⟩ := mem_wordsP.1 hmem
   obtain rfl : n = m7 := by rw [hsl.len, hlen]
   have HROW := Lib.hid hrow
   have HSL := Lib.hid hsl
   have HLET := Lib.hid (show ∀ x ∈ r, 0 ≤ x ∧ x < g.1 from fun x hx => by rw [HT.out]; exact hlet x hx)
   have hkl : (k : Int) < (NW : Int) := by omega
   obtain ⟨k0, k1, k2, k3⟩ := HALL.out wr (HB26.out.trans (HB.out.mono HB26.out.size))
   clear hrow hsl hlet hlen hmem
   go_wp2_with fail
   clear k0 k1 k2 k3 hcell
   have hc := meanCount wr (HTB.out.below (HB6.out.trans (HB.out.mono HB6.out.size)) hW0) _ _ AR nR cR g (HG2.out.below (HB26.out.trans (HB.out.mono HB26.out.size))) HV.out A7 n c7 r HSL.out.ints HLET.out hn2
   rw [HT.out, HNE.out, HST.out, Int.toNat_natCast, ← HRE.out] at hc
   refine hc.mono ?_
   clear hc
   rintro e w8 ⟨rfl, hb8⟩
   obtain ⟨kz, hkz⟩ : ∃ kz, kz = kW R st n r := ⟨_, rfl⟩
   rw [← hkz]
   have hrng := kW_rng R st n r
   rw [← hkz] at hrng
   have hsum := sumK_take (R := R) (a := st) (n := n) HROW.out
   have hmany := manyK_take (R := R) (a := st) (n := n) HROW.out
   rw [← hkz] at hsum hmany
   have hle := sumK_le R st n (l.take k)
   have HSUM := Lib.hid hsum
   have HMANY := Lib.hid hmany
   have HB8 := Lib.hid (HB.out.trans (hb8.mono hsb))
   obtain ⟨sk, hsk⟩ : ∃ sk, sk = sumK R st n (l.take k) := ⟨_, rfl⟩
   obtain ⟨mk, hmk⟩ : ∃ mk, mk = manyK R st n (l.take k) := ⟨_, rfl⟩
   rw [← hsk] at HSUM hle ⊢
   rw [← hmk] at HMANY ⊢
   clear hsum hmany hkz hsk hmk hb8
   rcases hrng with rfl | ⟨hlo, hhi⟩
   ·
    cases mk
    ·
     --@9
     go_upto_region 15 with fail
     rw [show min (1000000000 : Int) ((sk : Int) + max (-1) 0) = (sk : Int) by omega]
     go_wp2_with fail
     go_roundg (NW - (k + 1))
     case measure => rw [HGK.out]; omega
     case rel => exact ⟨k + 1, by omega, rfl, by rw [HSUM.out]; rw [show sk + ((-1 : Int)).toNat = sk from rfl]; unfold cp MC; rw [Nat.min_eq_left hle], by rw [HMANY.out]; simp, by go_num, HB8.out⟩
    ·
     --@91
     go_upto_region 15 with fail
     rw [show min (1000000000 : Int) ((sk : Int) + max (-1) 0) = (sk : Int) by omega]
     go_wp2_with fail
     go_roundg (NW - (k + 1))
     case measure => rw [HGK.out]; omega
     case rel => exact ⟨k + 1, by omega, rfl, by rw [HSUM.out]; rw [show sk + ((-1 : Int)).toNat = sk from rfl]; unfold cp MC; rw [Nat.min_eq_left hle], by rw [HMANY.out]; simp, by go_num, HB8.out⟩
   ·
    obtain ⟨kn, rfl⟩ : ∃ kn : Nat, kz = (kn : Int) := ⟨kz.toNat, by omega⟩
    have hne : ¬ (kn : Int) = -1 := by omega
    have hbe : ((kn : Int) == -1) = false := by simp [hne]
    have HNE1 := Lib.hid hne
    have HBE := Lib.hid hbe
    clear hne hbe
    cases mk
    ·
     --@10
     go_upto_region 15 with fail
     rw [show min (1000000000 : Int) ((sk : Int) + (kn : Int)) = ((cp (sk + kn) : Nat) : Int) by unfold cp MC; omega]
     rw [HBE.out]
     go_wp2_with fail
     go_roundg (NW - (k + 1))
     case measure => rw [HGK.out]; omega
     case rel => exact ⟨k + 1, by omega, rfl, by rw [HSUM.out]; rw [Int.toNat_natCast], by rw [HMANY.out]; rw [decide_eq_false HNE1.out]; rfl, by go_num, HB8.out⟩
    ·
     --@11
     go_upto_region 15 with fail
     rw [show min (1000000000 : Int) ((sk : Int) + (kn : Int)) = ((cp (sk + kn) : Nat) : Int) by unfold cp MC; omega]
     go_wp2_with fail
     go_roundg (NW - (k + 1))
     case measure => rw [HGK.out]; omega
     case rel => exact ⟨k + 1, by omega, rfl, by rw [HSUM.out]; rw [Int.toNat_natCast], by rw [HMANY.out]; rw [decide_eq_false HNE1.out]; rfl, by go_num, HB8.out⟩
  ·
   obtain rfl : k = NW := by omega
   obtain ⟨b8, o8, u8, x8, e8, _, hx8, hok8, hc8⟩ := (HRA6.out.below HB.out).at_ rfl (k := n) (by omega)
   obtain rfl : u8 = .int .i64 x8 := by have h : [u8] = [Value.int .i64 x8] := hok8; simpa using h
   have hx : x8 = treesN g.2.2.2 st n := by
    rw [treesRow, List.getElem?_map, List.getElem?_range (by omega)] at hx8
    simpa using hx8.symm
   have hlk : l.take k = l := List.take_of_length_le (by rw [← HNW.out]; exact Nat.le_refl _)
   rw [hlk]
   obtain ⟨hs1', hs2'⟩ := sum_all HV.out HT.out (n := n) (show st < nonsOf g by rw [HNO.out]; exact hstN) HLE.out
   rw [← HRE.out] at hs1' hs2'
   have hcA := (HB.out.cell (cell_lt HCA6.out)).trans HCA6.out
   obtain ⟨k0, k1, k2, k3⟩ := HALL.out wr (HB26.out.trans (HB.out.mono HB26.out.size))
   have hl1 := cell_lt hcA
   have hl8 := cell_lt hc8
   subst e8
   rw [← HRE.out] at hx
   have HEND := Lib.hid (HB6.out.trans (HB.out.mono HB6.out.size))
   cases hm : manyK R st n l
   ·
    have HX := Lib.hid (hx.trans (hs2' hm))
    clear hx hs1' hs2' hm hlk hx8 hok8
    go_wp2_with fail
    go_ret
    exact ⟨by rw [HX.out]; simp, HEND.out⟩
   ·
    have HX := Lib.hid (hx.trans (hs1' hm))
    clear hx hs1' hs2' hm hlk hx8 hok8
    go_wp2_with fail
    go_ret
    exact ⟨by rw [HX.out]; simp, HEND.out⟩
end Go.Proofs.YtimklgbljjamkaaDoor
