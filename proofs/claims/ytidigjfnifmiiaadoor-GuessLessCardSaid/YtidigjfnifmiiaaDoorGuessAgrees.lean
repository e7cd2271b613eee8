/- GuessAgrees: its walk. -/
import Derived.Test.YtidigjfnifmiiaaDoorGuOf
import Derived.Test.YtidigjfnifmiiaaDoorGuFew
namespace Go.Proofs.YtidigjfnifmiiaaDoor
open Go.RowKit

theorem guessOfI (w : World) (hTb : Tab w) (t n : Nat) (tI nI : Int) (htI : tI = (t : Int)) (hnI : nI = (n : Int)) (ht1 : 1 ≤ t) (ht2 : t ≤ 2) (hn1 : 1 ≤ n) (hn2 : n ≤ 2) (S1 : Nat → Prop) (A1 : Option Addr) (n1 c1 : Nat) (yes : List (List Int)) (hy : Sl RIV w S1 A1 n1 c1 yes) (S2 : Nat → Prop) (A2 : Option Addr) (n2 c2 : Nat) (no : List (List Int)) (hno : Sl RIV w S2 A2 n2 c2 no)
    (h1 : n1 ≤ 6) (h2 : n2 ≤ 6) (hyo : ∀ x ∈ yes, x.length ≤ 5 ∧ ∀ y ∈ x, 0 ≤ y ∧ y < (t : Int)) (hnoo : ∀ x ∈ no, x.length ≤ 5 ∧ ∀ y ∈ x, 0 ≤ y ∧ y < (t : Int)) (hd : ∀ x ∈ yes, x ∉ no) :
    Calls Tryd.prog 17 #[.int .i64 tI, .int .i64 nI, .slice A1 n1 c1, .slice A2 n2 c2] w fun e w' => OfR t n w.heap.size (guessP (agF t n yes no) (rulesP t n)) e w' ∧ Below w.heap.size w w' := by
  subst htI
  subst hnI
  exact guessOf w hTb t n ht1 ht2 hn1 hn2 S1 A1 n1 c1 yes hy S2 A2 n2 c2 no hno h1 h2 hyo hnoo hd
/-- the examples [[0]], [[]] as they are written down -/
theorem lit_words {w : World} : Sl RIV ((((w.alloc (.cells #[.int .i64 0] 3)).alloc (.cells #[.slice (some ⟨w.heap.size, 0, none⟩) 1 1] 22)).alloc (.cells #[] 3)).alloc (.cells #[.slice (some ⟨w.heap.size + 1 + 1, 0, none⟩) 0 0] 22)) (fun _ => True) (some ⟨w.heap.size + 1, 0, none⟩) 1 1 [[0]] ∧
    Sl RIV ((((w.alloc (.cells #[.int .i64 0] 3)).alloc (.cells #[.slice (some ⟨w.heap.size, 0, none⟩) 1 1] 22)).alloc (.cells #[] 3)).alloc (.cells #[.slice (some ⟨w.heap.size + 1 + 1, 0, none⟩) 0 0] 22)) (fun _ => True) (some ⟨w.heap.size + 1 + 1 + 1, 0, none⟩) 1 1 [[]] := by
  have e0 : (w.alloc (.cells #[.int .i64 0] 3)).heap[w.heap.size]? = some (.cells #[.int .i64 0] 3 (0, 0)) := heap_alloc_new _ _
  have k0 : (w.alloc (.cells #[.int .i64 0] 3)).cell? ⟨w.heap.size, 0, none⟩ = some (.int .i64 0) := by simp only [World.cell?, e0]; rfl
  have e1 : ((w.alloc (.cells #[.int .i64 0] 3)).alloc (.cells #[.slice (some ⟨w.heap.size, 0, none⟩) 1 1] 22)).heap[w.heap.size + 1]? = some (.cells #[.slice (some ⟨w.heap.size, 0, none⟩) 1 1] 22 (0, 0)) := heap_new _ _ _ (by simp)
  have k1 : ((w.alloc (.cells #[.int .i64 0] 3)).alloc (.cells #[.slice (some ⟨w.heap.size, 0, none⟩) 1 1] 22)).cell? ⟨w.heap.size + 1, 0, none⟩ = some (.slice (some ⟨w.heap.size, 0, none⟩) 1 1) := by simp only [World.cell?, e1]; rfl
  have hw : Sl Rep.int (w.alloc (.cells #[.int .i64 0] 3)) (fun _ => True) (some ⟨w.heap.size, 0, none⟩) 1 1 [0] := by
    refine Rd.slInts ⟨rfl, fun _ => ⟨_, 0, rfl, trivial, fun j u hj => ?_⟩⟩ (Nat.le_refl _)
    match j, hj with
    | 0, hj => injection hj with hj; subst hj; exact k0
  have hy : Sl RIV ((w.alloc (.cells #[.int .i64 0] 3)).alloc (.cells #[.slice (some ⟨w.heap.size, 0, none⟩) 1 1] 22)) (fun _ => True) (some ⟨w.heap.size + 1, 0, none⟩) 1 1 [[0]] := by
    refine ⟨[.slice (some ⟨w.heap.size, 0, none⟩) 1 1], rfl, Nat.le_refl _, ⟨rfl, fun _ => ⟨_, 0, rfl, trivial, fun j u hj => ?_⟩⟩, Cells.single ⟨_, _, _, rfl, hw.alloc _⟩⟩
    match j, hj with
    | 0, hj => injection hj with hj; subst hj; exact k1
  refine ⟨(hy.alloc _).alloc _, ?_⟩
  have e3 : ((((w.alloc (.cells #[.int .i64 0] 3)).alloc (.cells #[.slice (some ⟨w.heap.size, 0, none⟩) 1 1] 22)).alloc (.cells #[] 3)).alloc (.cells #[.slice (some ⟨w.heap.size + 1 + 1, 0, none⟩) 0 0] 22)).heap[w.heap.size + 1 + 1 + 1]? = some (.cells #[.slice (some ⟨w.heap.size + 1 + 1, 0, none⟩) 0 0] 22 (0, 0)) := heap_new _ _ _ (by simp)
  refine ⟨[.slice (some ⟨w.heap.size + 1 + 1, 0, none⟩) 0 0], rfl, Nat.le_refl _, ⟨rfl, fun _ => ⟨_, 0, rfl, trivial, fun j u hj => ?_⟩⟩, Cells.single ⟨_, _, _, rfl, Sl.nil _ _ _ _⟩⟩
  match j, hj with
  | 0, hj => injection hj with hj; subst hj; simp only [World.cell?, e3]; rfl
set_option linter.unusedSimpArgs false in
set_option maxRecDepth 100000 in
set_option maxHeartbeats 20000000 in
theorem guessAgrees_walk (W : World) (hTb : Tab W) (A0 : Option Addr) (n0 c0 : Nat) (z0 : List Int) (le0 : n0 ≤ c0) (cap0 : c0 ≤ 17592186043904) (rd0 : Rd W (fun _ => True) 1 A0 n0 (z0.map (Value.int .i64))) (_rg0 : ∀ z ∈ z0, -9223372036854775808 ≤ z ∧ z ≤ 9223372036854775807)
    (A1 : Option Addr) (n1 c1 : Nat) (z1 : List Int) (le1 : n1 ≤ c1) (cap1 : c1 ≤ 17592186043904) (rd1 : Rd W (fun _ => True) 1 A1 n1 (z1.map (Value.int .i64))) (_rg1 : ∀ z ∈ z1, -9223372036854775808 ≤ z ∧ z ≤ 9223372036854775807)
    (x2 : Int) (_lo2 : -9223372036854775808 ≤ x2) (_hi2 : x2 ≤ 9223372036854775807) :
    Calls Tryd.prog 5 #[.slice A0 n0 c0, .slice A1 n1 c1, .int .i64 x2] W fun e W' => e = .returned (.bool true) ∧ Below W.heap.size W W' := by
  have HT := Lib.hid hTb
  have HR0 := Lib.hid (rd0.slInts le0)
  have HR1 := Lib.hid (rd1.slInts le1)
  have HV := Lib.hid (dfaOf_valid z0)
  clear hTb rd0 rd1 _rg0 _rg1 _lo2 _hi2
  go_enter Tryd.func5, Tryd.ntmps5
  --@1
  go_wp2_with fail
  refine (makeDfa _ _ _ _ _ z0 HR0.out (by omega)).mono ?_
  rintro e w1 ⟨Bd, vA, vN, xs, hBd, rfl, hD, hb1⟩
  obtain ⟨d, hd⟩ : ∃ d, d = dfaOf z0 := ⟨_, rfl⟩
  rw [← hd] at hD HV ⊢
  clear hd
  obtain ⟨A, cA, rfl, hcA, _⟩ := hD.ownA.form
  obtain ⟨N, cN, rfl, hcN, _⟩ := hD.ownN.form
  obtain ⟨hsA, hsN⟩ := hD.sl
  have HSA := Lib.hid hsA
  have HSN := Lib.hid hsN
  have HB1 := Lib.hid hb1
  have hz1 := hb1.size
  obtain ⟨nA, hnA⟩ : ∃ k, k = d.2.1.length := ⟨_, rfl⟩
  obtain ⟨nN, hnN⟩ : ∃ k, k = d.2.2.length := ⟨_, rfl⟩
  rw [← hnA] at HSA hcA ⊢
  rw [← hnN] at HSN hcN ⊢
  have hN1 : (0 : Int) < (nN : Int) := by have := HV.out.n1; omega
  obtain ⟨bN, oN, AR, mR, cR, r0, rfl, _, _, hcr, hr0, hrs0⟩ := row_at HSN.out (k := 0) (by omega)
  obtain rfl : mR = cols d := by
    rw [hrs0.len]
    unfold cols
    rw [hr0]
    rfl
  have HCR := Lib.hid hcr
  have hltN : bN < w1.heap.size := cell_lt hcr
  have hc1 : 1 ≤ cols d := HV.out.c1
  have hc2 : cols d ≤ 16 := HV.out.c2
  clear hb1 hD hsA hsN hnA hnN hcr hr0 hrs0
  --@2
  go_wp2_with fail
  obtain ⟨w2, hw2⟩ : ∃ w2 : World, w2 = w1.alloc (.cells #[.int .i64 d.1, .slice A nA cA, .slice (some ⟨bN, oN, none⟩) nN cN] 46) := ⟨_, rfl⟩
  rw [← hw2]
  have hz2 : w2.heap.size = w1.heap.size + 1 := by rw [hw2]; simp
  have hb2 : Below w1.heap.size w1 w2 := by rw [hw2]; exact (Below.refl _ _).alloc (Nat.le_refl _) _
  have HD := Lib.hid (show w2.heap[w1.heap.size]? = some (.cells #[.int .i64 d.1, .slice A nA cA, .slice (some ⟨bN, oN, none⟩) nN cN] 46 (0, 0)) by rw [hw2]; exact heap_alloc_new _ _)
  have HB2 := Lib.hid (HB1.out.trans (hb2.mono hz1))
  have HB12 := Lib.hid hb2
  rw [← hz2]
  clear hw2 hb2
  obtain ⟨hlY, hlN⟩ := lit_words (w := w2)
  refine (guessOfI _ ((HT.out.below HB2.out HT.out.1).below (((((Below.refl w2.heap.size w2).alloc (Nat.le_refl _) _).alloc (by simp) _).alloc (by simp; omega) _).alloc (by simp; omega) _) (by have := HT.out.1; have := HB2.out.size; omega)) 1 1 1 1 rfl rfl (by omega) (by omega) (by omega) (by omega) _ _ 1 1 _ hlY _ _ 1 1 _ hlN (by omega) (by omega) (by decide) (by decide) (by decide)).mono ?_
  rintro e w3 ⟨⟨ga, gb, gs, AG, nG, cG, q, rfl, hq⟩, hb3⟩
  rcases hq with ⟨rfl, rfl, rfl, rfl, rs, hrs, hsg⟩ | ⟨_, hno⟩
  case inr => obtain ⟨rs, hrs⟩ := one_found; rw [show guessP (agF ((1 : Nat) : Int) ((1 : Nat) : Int) [[0]] [[]]) (rulesP 1 1) = guessP (agF 1 1 [[0]] [[]]) (rulesP 1 1) from rfl, hrs] at hno; cases hno
  obtain rfl : nG = 1 := by rw [hsg.len]; exact one_guess hrs
  have hz3 := hb3.size
  simp only [World.size_alloc] at hz3
  have HB3 := Lib.hid (show Below w2.heap.size w2 w3 from (((((Below.refl w2.heap.size w2).alloc (Nat.le_refl _) _).alloc (by simp) _).alloc (by simp; omega) _).alloc (by simp; omega) _).trans (hb3.mono (by simp; omega)))
  clear hlY hlN hb3 hsg hrs
  have hd3 := (HB3.out.block _ (by omega)).trans HD.out
  have kd2 : w3.cell? ⟨w1.heap.size, 2, none⟩ = some (.slice (some ⟨bN, oN, none⟩) nN cN) := by simp [World.cell?, hd3]
  have ltD : w1.heap.size < w3.heap.size := by omega
  have kr : w3.cell? ⟨bN, oN, none⟩ = some (.slice AR (cols d) cR) := ((HB12.out.trans (HB3.out.mono (by omega))).cell hltN).trans HCR.out
  have hltN3 : bN < w3.heap.size := by omega
  obtain ⟨tt, htt⟩ : ∃ q : Nat, q = min 2 (cols d) := ⟨_, rfl⟩
  have hmin : min 2 (cols d : Int) = (tt : Int) := by omega
  have ht1 : 1 ≤ tt := by omega
  have ht2 : tt ≤ 2 := by omega
  obtain ⟨kd0, kd1⟩ : w3.cell? ⟨w1.heap.size, 0, none⟩ = some (.int .i64 d.1) ∧ w3.cell? ⟨w1.heap.size, 1, none⟩ = some (.slice A nA cA) := by simp [World.cell?, hd3]
  clear hd3 htt
  --@3
  go_wp2_with fail
  obtain ⟨w4, hw4⟩ : ∃ w4 : World, w4 = w3.alloc (.cells #[.int .i64 1, .int .i64 1, .int .i64 0, .slice AG 1 cG] 25) := ⟨_, rfl⟩
  rw [← hw4]
  have hz4 : w3.heap.size < w4.heap.size := by rw [hw4]; simp
  have HB24 := Lib.hid (show Below w2.heap.size w2 w4 by rw [hw4]; exact HB3.out.alloc HB3.out.size _)
  clear hw4 kd0 kd1 kd2 kr hmin
  have HB14 := Lib.hid (HB12.out.trans (HB24.out.mono (by omega)))
  have HB4 := Lib.hid (HB2.out.trans (HB24.out.mono HB2.out.size))
  refine (keepFewer w4 _ A nA cA (some ⟨bN, oN, none⟩) nN cN d (HSA.out.below HB14.out) (HSN.out.below HB14.out) HV.out (tt : Int) _ A1 n1 c1 z1 (HR1.out.below HB4.out) (by omega)).mono ?_
  rintro e w5 ⟨⟨Ay, ny, cy, An, nn, cn, ys, ns, rfl, hsy, hsn, hok⟩, hb5⟩
  have hny : ny ≤ 3 := by rw [hsy.len]; exact hok.ly
  have hnn : nn ≤ 3 := by rw [hsn.len]; exact hok.ln
  have hz5 := hb5.size
  have HSY := Lib.hid hsy
  have HSN5 := Lib.hid hsn
  have HOK := Lib.hid hok
  have HYO := Lib.hid (show ∀ x ∈ ys, x.length ≤ 5 ∧ ∀ y ∈ x, 0 ≤ y ∧ y < (tt : Int) from fun x hx => ⟨by have := (hok.yes x hx).2.1; omega, (hok.yes x hx).2.2⟩)
  have HNO := Lib.hid (show ∀ x ∈ ns, x.length ≤ 5 ∧ ∀ y ∈ x, 0 ≤ y ∧ y < (tt : Int) from fun x hx => ⟨by have := (hok.no x hx).2.1; omega, (hok.no x hx).2.2⟩)
  have HDJ := Lib.hid (show ∀ x ∈ ys, x ∉ ns from fun x hx hx2 => by
    have h1 := (hok.yes x hx).1
    rw [(hok.no x hx2).1] at h1
    cases h1)
  have HB5 := Lib.hid (HB4.out.trans (hb5.mono HB4.out.size))
  have HT5 := Lib.hid (HT.out.below HB5.out HT.out.1)
  clear hsy hsn hok hb5
  obtain ⟨k2, hk2⟩ : ∃ k : Nat, x2 % 2 = (k : Int) := ⟨(x2 % 2).toNat, by omega⟩
  have hk21 : k2 ≤ 1 := by omega
  have hk2I : (k2 : Int) ≤ 1 := by omega
  --@4
  go_wp2_with fail
  refine (keepBelow x2 2 _ (by omega) (by omega)).mono ?_
  rintro e w6 ⟨he, rfl⟩
  rw [hk2] at he
  subst he
  clear hk2
  obtain ⟨nk, hnk⟩ : ∃ nk, nk = 1 + k2 := ⟨_, rfl⟩
  --@5
  go_wp2_with fail
  refine (guessOfI w5 HT5.out tt nk _ _ rfl (by rw [hnk]; go_num) ht1 ht2 (by omega) (by omega) _ Ay ny cy ys HSY.out _ An nn cn ns HSN5.out (by omega) (by omega) HYO.out HNO.out HDJ.out).mono ?_
  rintro e w6 ⟨⟨ga, gb, gs, AG6, nG, cG6, q, rfl, hq⟩, hb6⟩
  have hz6 := hb6.size
  have HB6 := Lib.hid (HB5.out.trans (hb6.mono HB5.out.size))
  have HBS := Lib.hid hb6
  rcases hq with ⟨rfl, rfl, rfl, rfl, rs, hrs, hsg⟩ | ⟨rfl, hno⟩
  case inr =>
    clear hb6 hno
    --@6
    go_wp2_with fail
    go_ret
    exact ⟨rfl, HB6.out.alloc HB6.out.size _⟩
  have hG3 : nG ≤ 3 := by have := (guess_tells hrs).2.2.1; have := hsg.len; omega
  have HTL := Lib.hid (guess_tells hrs)
  have HGV := Lib.hid (rulesP_valid ht1 ht2 (by omega : 1 ≤ nk) (by omega) (guess_tells hrs).2.2.2 (guess_tells hrs).2.2.1)
  have hnk1 : 1 ≤ nk := by omega
  have hnk2 : nk ≤ 2 := by omega
  clear hb6 hnk
  --@7
  go_wp2_with fail
  obtain ⟨w7, hw7⟩ : ∃ w7 : World, w7 = w6.alloc (.cells #[.int .i64 (tt : Int), .int .i64 (nk : Int), .int .i64 0, .slice AG6 nG cG6] 25) := ⟨_, rfl⟩
  rw [← hw7]
  have hz7 : w6.heap.size < w7.heap.size := by rw [hw7]; simp
  have hb7 : Below w6.heap.size w6 w7 := by rw [hw7]; exact (Below.refl _ _).alloc (Nat.le_refl _) _
  have HGB := Lib.hid (show w7.heap[w6.heap.size]? = some (.cells #[.int .i64 (tt : Int), .int .i64 (nk : Int), .int .i64 0, .slice AG6 nG cG6] 25 (0, 0)) by rw [hw7]; exact heap_alloc_new _ _)
  have HSG := Lib.hid (hsg.below hb7)
  have HB7 := Lib.hid (HB6.out.trans (hb7.mono HB6.out.size))
  have HSY7 := Lib.hid ((HSY.out.below HBS.out).below hb7)
  have HSN7 := Lib.hid ((HSN5.out.below HBS.out).below hb7)
  have HT7 := Lib.hid (HT.out.below HB7.out HT.out.1)
  have HS1 := Lib.hid (Below.refl w7.heap.size w7)
  clear hw7 hb7 hsg hrs
  go_loopg [70] ny (fun gk i wr => ∃ k : Nat, k ≤ ny ∧ gk = ny - k ∧ i = .int .i64 k ∧ Below w7.heap.size w7 wr)
  case atStart => exact ⟨0, Nat.zero_le _, rfl, rfl, HS1.out⟩
  case round =>
    obtain ⟨k, hk, hgk, rfl, hb⟩ := hrel
    have HGK := Lib.hid hgk
    have HBL := Lib.hid hb
    have hzl := hb.size
    obtain ⟨u, rfl⟩ : ∃ u : World, u = wr := ⟨_, rfl⟩
    have hg8 := (hb.block _ (by omega)).trans HGB.out
    obtain ⟨g0, g1, g2, g3⟩ : u.cell? ⟨w6.heap.size, 0, none⟩ = some (.int .i64 (tt : Int)) ∧ u.cell? ⟨w6.heap.size, 1, none⟩ = some (.int .i64 (nk : Int)) ∧ u.cell? ⟨w6.heap.size, 2, none⟩ = some (.int .i64 0) ∧ u.cell? ⟨w6.heap.size, 3, none⟩ = some (.slice AG6 nG cG6) := by simp [World.cell?, hg8]
    clear hgk hg8 hb
    by_cases hlt : k < ny
    · obtain ⟨bw, ow, Aw, mw, cw, x, rfl, _, hbw, hcw, hx, hxs⟩ := word_at HSY7.out hlt
      replace hcw := (HBL.out.cell (p := ⟨bw, ow + k, none⟩) hbw).trans hcw
      have hkI : (k : Int) < (ny : Int) := by omega
      have hk0 : (0 : Int) ≤ (k : Int) := by omega
      have HXS := Lib.hid (hxs.below HBL.out)
      have hmx := List.mem_of_getElem? hx
      have HXM := Lib.hid hmx
      have HXO := Lib.hid (HYO.out x hmx)
      have hmw : mw ≤ 12 := by have := hxs.len; have := HXO.out.1; omega
      have HAC := Lib.hid (HTL.out.1 x hmx)
      clear hx hxs hmx
      go_wp2_with fail
      refine (meanAccepts u (HT7.out.below HBL.out HT7.out.1) _ _ AG6 nG cG6 ((tt : Int), (nk : Int), 0, rs) (HSG.out.below HBL.out) HGV.out Aw mw cw x HXS.out.ints HXO.out.2 hmw).mono ?_
      rintro e v ⟨rfl, hbv⟩
      rw [show accD ((tt : Int), (nk : Int), (0 : Int), rs).2.2.2 ((tt : Int), (nk : Int), (0 : Int), rs).2.2.1 x = true from HAC.out]
      have HBV := Lib.hid (HBL.out.trans (hbv.mono hzl))
      clear hbv g0 g1 g2 g3 hcw
      go_wp2_with fail
      go_roundg (ny - (k + 1))
      case measure => rw [HGK.out]; omega
      case rel => exact ⟨k + 1, by omega, rfl, by go_num, HBV.out⟩
    · obtain rfl : k = ny := by omega
      have HS2 := Lib.hid HBL.out
      clear g0 g1 g2 g3
      go_wp2_with fail
      go_loopg [89] nn (fun gk i wr => ∃ k : Nat, k ≤ nn ∧ gk = nn - k ∧ i = .int .i64 k ∧ Below w7.heap.size w7 wr)
      case atStart => exact ⟨0, Nat.zero_le _, rfl, rfl, HS2.out⟩
      case round =>
        obtain ⟨k, hk, hgk, rfl, hb⟩ := hrel
        have HGK := Lib.hid hgk
        have HBL := Lib.hid hb
        have hzl := hb.size
        obtain ⟨u, rfl⟩ : ∃ u : World, u = wr := ⟨_, rfl⟩
        have hg8 := (hb.block _ (by omega)).trans HGB.out
        obtain ⟨g0, g1, g2, g3⟩ : u.cell? ⟨w6.heap.size, 0, none⟩ = some (.int .i64 (tt : Int)) ∧ u.cell? ⟨w6.heap.size, 1, none⟩ = some (.int .i64 (nk : Int)) ∧ u.cell? ⟨w6.heap.size, 2, none⟩ = some (.int .i64 0) ∧ u.cell? ⟨w6.heap.size, 3, none⟩ = some (.slice AG6 nG cG6) := by simp [World.cell?, hg8]
        clear hgk hg8 hb
        by_cases hlt : k < nn
        · obtain ⟨bw, ow, Aw, mw, cw, x, rfl, _, hbw, hcw, hx, hxs⟩ := word_at HSN7.out hlt
          replace hcw := (HBL.out.cell (p := ⟨bw, ow + k, none⟩) hbw).trans hcw
          have hkI : (k : Int) < (nn : Int) := by omega
          have hk0 : (0 : Int) ≤ (k : Int) := by omega
          have HXS := Lib.hid (hxs.below HBL.out)
          have hmx := List.mem_of_getElem? hx
          have HXM := Lib.hid hmx
          have HXO := Lib.hid (HNO.out x hmx)
          have hmw : mw ≤ 12 := by have := hxs.len; have := HXO.out.1; omega
          have HAC := Lib.hid (HTL.out.2.1 x hmx)
          clear hx hxs hmx
          go_wp2_with fail
          refine (meanAccepts u (HT7.out.below HBL.out HT7.out.1) _ _ AG6 nG cG6 ((tt : Int), (nk : Int), 0, rs) (HSG.out.below HBL.out) HGV.out Aw mw cw x HXS.out.ints HXO.out.2 hmw).mono ?_
          rintro e v ⟨rfl, hbv⟩
          rw [show accD ((tt : Int), (nk : Int), (0 : Int), rs).2.2.2 ((tt : Int), (nk : Int), (0 : Int), rs).2.2.1 x = false from HAC.out]
          have HBV := Lib.hid (HBL.out.trans (hbv.mono hzl))
          clear hbv g0 g1 g2 g3 hcw
          go_wp2_with fail
          go_roundg (nn - (k + 1))
          case measure => rw [HGK.out]; omega
          case rel => exact ⟨k + 1, by omega, rfl, by go_num, HBV.out⟩
        · obtain rfl : k = nn := by omega
          have hnGI : (nG : Int) ≤ 3 := by omega
          go_wp2_with fail
          go_ret
          exact ⟨rfl, HB7.out.trans (HBL.out.mono HB7.out.size)⟩

end Go.Proofs.YtidigjfnifmiiaaDoor
