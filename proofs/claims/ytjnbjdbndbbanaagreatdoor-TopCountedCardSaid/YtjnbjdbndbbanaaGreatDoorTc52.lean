/- TopCounted -/
import Derived.Test.YtjnbjdbndbbanaaGreatDoorTc17
import Derived.Test.YtjnbjdbndbbanaaGreatDoorTc49
import Derived.Test.YtjnbjdbndbbanaaGreatDoorTc51
namespace Go.Proofs.YtjnbjdbndbbanaaGreatDoor
open Go.RowKit Go.Maps
noncomputable def sumU (R : List RuleD) (a n : Nat) (l : List (List Int)) : Nat := (l.map fun u => (kW R a n u).toNat).sum
theorem sumU_take {R : List RuleD} {a n i : Nat} {l : List (List Int)} {u : List Int} (h : l[i]? = some u) : sumU R a n (l.take (i + 1)) = sumU R a n (l.take i) + (kW R a n u).toNat := by
 unfold sumU
 rw [List.take_add_one, h, Option.toList_some, List.map_append, List.sum_append]
 simp
theorem sumU_le (R : List RuleD) (a n : Nat) (l : List (List Int)) : sumU R a n l ≤ l.length * 1000000000 :=
 sum_each fun u _ => by rcases kW_rng R a n u with h | h <;> omega
theorem rowW_at {w : World} {S : Nat → Prop} {N : Option Addr} {n c k : Nat} {rows : List (List Int)} (h : Sl RI w S N n c rows) (hk : k < n) :
    ∃ b off A' m c' r, N = some ⟨b, off, none⟩ ∧ S b ∧ b < w.heap.size ∧ w.cell? ⟨b, off + k, none⟩ = some (.slice A' m c') ∧ rows[k]? = some r ∧ Sl Rep.int w S A' m c' r := by
 obtain ⟨b, off, u, a, e, hS, hx, hok, hc⟩ := h.at_ rfl hk
 obtain ⟨A', m, c', e2, hs⟩ := hok
 injection e2 with e2 _
 subst e2
 exact ⟨b, off, A', m, c', a, e, hS, cell_lt hc, hc, hx, hs⟩
set_option linter.unusedSimpArgs false in
set_option maxRecDepth 1000000 in
set_option maxHeartbeats 8000000 in
theorem topCounted_walk (W : World) (hTb : Tab W) (A0 : Option Addr) (n0 c0 : Nat) (z0 : List Int) (le0 : n0 ≤ c0) (cap0 : c0 ≤ 17592186043904) (rd0 : Rd W (fun _ => True) 1 A0 n0 (z0.map (Value.int .i64))) (_rg0 : ∀ z ∈ z0, -9223372036854775808 ≤ z ∧ z ≤ 9223372036854775807)
    (x1 : Int) (_lo1 : -9223372036854775808 ≤ x1) (_hi1 : x1 ≤ 9223372036854775807) (x2 : Int) (_lo2 : -9223372036854775808 ≤ x2) (_hi2 : x2 ≤ 9223372036854775807) :
    Calls Tryz.prog 3 #[.slice A0 n0 c0, .int .i64 x1, .int .i64 x2] W fun e W' => e = .returned (.bool true) ∧ Below W.heap.size W W' := by
 have HR0 := zh (rd0.slInts le0)
 have HTB := zh hTb
 have hW0 := hTb.1
 have HX2 := zh (And.intro _lo2 _hi2)
 clear rd0 _rg0 _lo1 _hi1 _lo2 _hi2 hTb
 go_enter Tryz.func3, Tryz.ntmps3
 go_wp2_with fail
 refine (makeGrammar W _ _ _ _ z0 HR0.out (by omega)).mono ?_
 rintro e w1 ⟨g, AR, cR, hv, hsm, rfl, hg, hb1⟩
 have hs1 := hb1.size
 obtain ⟨nR, hnR⟩ := zE g.2.2.2.length
 obtain ⟨T, hT⟩ : ∃ T : Nat, g.1 = (T : Int) := ⟨g.1.toNat, by have := hv.t1; omega⟩
 have hT3 : T ≤ 3 := by have := hsm.t; omega
 obtain ⟨N, hN⟩ : ∃ N : Nat, g.2.1 = (N : Int) := ⟨g.2.1.toNat, by have := hv.n1; omega⟩
 have hNo : nonsOf g = N := by unfold nonsOf; omega
 have hN10 : N ≤ 10 := by have := hv.n2; omega
 obtain ⟨st, hst⟩ : ∃ st : Nat, g.2.2.1 = (st : Int) := ⟨g.2.2.1.toNat, by have := hv.st; omega⟩
 have hstN : st < N := by have := hv.st; omega
 rw [← hnR] at hg ⊢
 obtain ⟨Bg, hBg⟩ := zE w1.heap.size
 obtain ⟨w2, hw2⟩ := zE (w1.alloc (.cells #[.int .i64 g.1, .int .i64 g.2.1, .int .i64 g.2.2.1, .slice AR nR cR] 25))
 have hz2 : w2.heap.size = Bg + 1 := by rw [hw2, hBg]; simp
 have HV := zh hv
 have HSM := zh hsm
 have HT := zh hT
 have HNE := zh hN
 have HNO := zh hNo
 have HST := zh hst
 have HNR := zh hnR
 have HG2 := zh (show Sl RRule w2 (fun b => W.heap.size ≤ b) AR nR cR g.2.2.2 by rw [hw2]; exact hg.alloc _)
 have HB2 := zh (show Below W.heap.size W w2 by rw [hw2]; exact hb1.alloc hs1 _)
 have HALL := zh (show ∀ u : World, Below w2.heap.size w2 u → u.cell? ⟨Bg, 0, none⟩ = some (.int .i64 (T : Int)) ∧ u.cell? ⟨Bg, 1, none⟩ = some (.int .i64 (N : Int)) ∧ u.cell? ⟨Bg, 2, none⟩ = some (.int .i64 (st : Int)) ∧ u.cell? ⟨Bg, 3, none⟩ = some (.slice AR nR cR) from fun u hu => by
  have h0 : w2.heap[Bg]? = some (.cells #[.int .i64 g.1, .int .i64 g.2.1, .int .i64 g.2.2.1, .slice AR nR cR] 25 (0, 0)) := by rw [hw2, hBg]; exact heap_alloc_new _ _
  have e := (hu.block _ (by omega)).trans h0
  rw [← hT, ← hN, ← hst]
  simp [World.cell?, e])
 have HBG := zh hBg
 clear hv hsm hg hb1 HR0 hT hN hst hNo hnR hBg
 go_wp2_with fail
 rw [← hw2, ← HBG.out]
 clear hw2
 refine (makeBelow x1 4 _ (by omega) (by omega)).mono ?_
 rintro e w3 ⟨rfl, rfl⟩
 obtain ⟨n, hn⟩ : ∃ n : Nat, (n : Int) = x1 % 4 := ⟨(x1 % 4).toNat, Int.toNat_of_nonneg (Int.emod_nonneg _ (by omega))⟩
 have hn2 : n ≤ 3 := by have := Int.emod_lt_of_pos x1 (show (0 : Int) < 4 by omega); omega
 rw [← hn]
 clear hn
 go_wp2_with fail
 refine (topPlain w2).mono ?_
 rintro e w3 ⟨AP, rfl, hsl, hb3⟩
 have HP3 := zh hsl
 have HB23 := zh hb3
 clear hsl hb3
 go_wp2_with fail
 refine (censusTotal w3 _ _ _ _ plainG HP3.out plain_valid 2 (by omega)).mono ?_
 rintro e w4 ⟨rfl, hb4⟩
 have HB24 := zh (HB23.out.trans (hb4.mono HB23.out.size))
 clear hb4
 have ht : totalD (treesRow plainG.2.2.2 2 (plainG.2.2.1.toNat)) 0 = 2 := by
  show totalD [treesN plainR 0 0, treesN plainR 0 1, treesN plainR 0 2] 0 = 2
  rw [plain_t0, plain_t1, plain_t2]
  decide
 rw [ht]
 clear ht
 obtain ⟨k0, k1, k2, k3⟩ := HALL.out w4 HB24.out
 go_wp2_with fail
 clear k0 k1 k2 k3
 have hc := censusTrees w4 _ AR nR cR g (HG2.out.below HB24.out) HV.out n (by omega)
 rw [HT.out, HNE.out, HST.out, HNO.out] at hc
 refine hc.mono ?_
 clear hc
 rintro e w5 ⟨A1, c1, rfl, ha, hb5⟩
 have HB25 := zh (HB24.out.trans (hb5.mono HB24.out.size))
 have HB5 := zh (HB2.out.trans (HB25.out.mono HB2.out.size))
 obtain ⟨bA, oA, A2, c2, rfl, hca, hra⟩ := trees_at ha (k := st) (by omega)
 obtain ⟨b8, o8, u8, x8, rfl, _, hx8, hok8, hc8⟩ := hra.at_ rfl (k := n) (by omega)
 obtain rfl : u8 = .int .i64 x8 := by have h : [u8] = [Value.int .i64 x8] := hok8; simpa using h
 have HX8 := zh (show x8 = treesN g.2.2.2 st n by
  rw [treesRow, List.getElem?_map, List.getElem?_range (by omega)] at hx8
  simpa using hx8.symm)
 have HCT := zh (show ∀ u : World, Below w5.heap.size w5 u → u.cell? ⟨bA, oA + st, none⟩ = some (.slice (some ⟨b8, o8, none⟩) (n + 1) c2) ∧ u.cell? ⟨b8, o8 + n, none⟩ = some (.int .i64 x8) from fun u hu => ⟨(hu.cell (cell_lt hca)).trans hca, (hu.cell (cell_lt hc8)).trans hc8⟩)
 have hl1 := cell_lt hca
 have hstI : (st : Int) < (N : Int) := by omega
 obtain ⟨k0, k1, k2, k3⟩ := HALL.out w5 HB25.out
 clear hb5 ha hra hx8 hok8 hc8
 go_wp2_with fail
 clear k0 k1 k2 k3 hca hl1
 have hpow : ∀ k, k ≤ 3 → (wordsP T k).length ≤ 27 := fun k hk => by
  rw [wordsP_len]
  exact Nat.le_trans (Nat.pow_le_pow_left hT3 k) (Nat.le_trans (Nat.pow_le_pow_right (by omega) hk) (by decide))
 have HP := zh hpow
 have hs0 : Sl RI (w5.alloc (.cells #[.slice none 0 0] 22)) (fun b => w5.heap.size ≤ b) (some ⟨w5.heap.size, 0, none⟩) (wordsP T 0).length 1 (wordsP T 0) :=
  ⟨[.slice none 0 0], rfl, Nat.le_refl _, Rd.new w5 _ 22 [.slice none 0 0] w5.heap.size rfl (Nat.le_refl _), [.slice none 0 0], [], rfl, ⟨none, 0, 0, rfl, Sl.nil _ _ _ _⟩, rfl⟩
 have HS0 := zh hs0
 have HB0 := zh ((Below.refl w5.heap.size w5).alloc (Nat.le_refl _) (.cells #[.slice none 0 0] 22))
 clear hs0 hpow
 go_loopg [13, 14, 16, 17, 70] n (fun gk vo va vb vc vi wr => ∃ (k : Nat) (A : Option Addr) (c : Nat), k ≤ n ∧ gk = n - k ∧ vi = .int .i64 k ∧ vo = .slice A (wordsP T k).length c ∧ Sl RI wr (fun b => w5.heap.size ≤ b) A (wordsP T k).length c (wordsP T k) ∧ Below w5.heap.size w5 wr)
 case atStart => exact ⟨0, _, 1, Nat.zero_le _, rfl, rfl, rfl, HS0.out, HB0.out⟩
 case round =>
  obtain ⟨k, A, c, hk, hgk, rfl, rfl, hsl, hb⟩ := hrel
  obtain ⟨w6, rfl⟩ := zE wr
  have HGK := zh hgk
  have HSL := zh hsl.fit
  have HB := zh hb
  clear hgk hsl hb
  by_cases hlt : k < n
  ·
   obtain ⟨L, hL⟩ := zE (wordsP T k)
   have hLl : L.length ≤ 27 := by rw [hL]; exact HP.out k (by omega)
   have HL := zh hL
   rw [← hL] at HSL ⊢
   have hz4 := HB.out.size
   have HWL := zh (show ∀ v ∈ L, v.length = k from fun v hv => ((mem_wordsP (T := T) (n := k) (u := v)).1 (hL ▸ hv)).1)
   clear hL
   go_wp2_with fail
   go_loopg [14, 16, 17, 74] L.length (fun gj vn va vb vj wr => ∃ (i : Nat), i ≤ L.length ∧ gj = L.length - i ∧ vj = .int .i64 i ∧ OwnL RI wr (fun _ => False) w6.heap.size 22 vn (nextP T L i 0) ∧ Below w6.heap.size w6 wr)
   case atStart => exact ⟨0, Nat.zero_le _, rfl, rfl, by rw [nextP_zero]; exact OwnL.nil _ _ _ _ _, Below.refl _ _⟩
   case round =>
    obtain ⟨i, hi, hgj, rfl, ho, hb7⟩ := hrel
    obtain ⟨w7, rfl⟩ := zE wr
    have HGJ := zh hgj
    have HO := zh ho
    have HB7 := zh hb7
    clear hgj ho hb7
    by_cases hil : i < L.length
    ·
     obtain ⟨bO, oO, AW, m, cW, u, rfl, _, _, hcR, hu, hsr⟩ := rowW_at (HSL.out.below HB7.out) hil
     have HU := zh hu
     have hml : m ≤ 5 := by rw [hsr.len, HWL.out u (List.mem_of_getElem? hu)]; omega
     have HSR4 := zh (show ∀ w' : World, Below w6.heap.size w6 w' → Sl Rep.int w' (fun _ => True) AW m cW u from fun w' hw' => by
      obtain ⟨bO', oO', AR', m', cR', u', e, _, _, hcR', hu', hsr'⟩ := rowW_at HSL.out hil
      injection e with e
      injection e with e1 e2
      subst e1
      subst e2
      rw [hu] at hu'
      injection hu' with hu'
      subst hu'
      have h1 := (HB7.out.cell (cell_lt hcR')).trans hcR'
      rw [h1] at hcR
      injection hcR with hcR
      injection hcR with q1 q2 q3
      subst q1
      subst q2
      subst q3
      exact (hsr'.below hw').more fun _ _ => trivial)
     obtain ⟨k0, k1, k2, k3⟩ := HALL.out w7 (HB25.out.trans ((HB.out.trans (HB7.out.mono hz4)).mono HB25.out.size))
     clear hu hsr
     go_wp2_with fail
     clear k0 k1 k2 k3
     go_loopg [14, 17, 80] T (fun gx vn va vx wr => ∃ (j : Nat), j ≤ T ∧ gx = T - j ∧ vx = .int .i64 j ∧ OwnL RI wr (fun _ => False) w6.heap.size 22 vn (nextP T L i j) ∧ Below w6.heap.size w6 wr)
     case atStart => exact ⟨0, Nat.zero_le _, rfl, rfl, HO.out, HB7.out⟩
     case round =>
      obtain ⟨j, hj, hgx, rfl, ho, hb8⟩ := hrel
      obtain ⟨w8, rfl⟩ := zE wr
      have HGX := zh hgx
      have HO6 := zh ho
      have HB6 := zh hb8
      have hz6 := hb8.size
      clear hgx ho hb8
      by_cases hjl : j < T
      ·
       --@8
       go_wp2_with fail
       have hcl := cloneInt AW m cW (fun _ => True) (u.map (Value.int .i64)) w8 (HSR4.out w8 HB6.out).ints (by omega)
       refine hcl.mono ?_
       clear hcl
       rintro e w9 ⟨v7, rfl, ho7, hb9⟩
       have hz7 := hb9.size
       have hul := (HSR4.out w8 HB6.out).len
       have hu5 : u.length ≤ 5 := by omega
       have hoL : OwnL Rep.int w9 (fun _ => False) w8.heap.size 3 v7 u := Own.ints ho7 _
       have HUL := zh hul
       obtain ⟨An, cn, en, hcn, _⟩ := HO6.out.form
       subst en
       have hlenN : (nextP T L i j).length ≤ 1025 * 4 := Nat.le_trans (nextP_len hj) (Nat.mul_le_mul (by omega) (by omega))
       have hpush := wordsPush w8 w9 L T i j An cn v7 u hoL hz6 hz7 hb9 HO6.out hu5 hlenN
       obtain ⟨A8, c8, w10, hrun8, vN, w11, hrun9, ho9, hb11⟩ := hpush
       have HRUN8 := zh hrun8
       have HRUN9 := zh hrun9
       have HO9 := zh ho9
       have HB9 := zh (show Below w6.heap.size w6 w11 from (HB6.out.trans (hb9.mono hz6)).trans hb11)
       have HSTEP := zh (nextP_step (T := T) HU.out hjl)
       clear hrun8 hrun9 ho9 hb11 hoL ho7 hb9 hul hz7 hlenN
       go_wp2_with (first
        | (at_builtin; refine Lib.wpList_append_run (o := ⟨some 88, _, _, _, _, _⟩) _ rfl _ _ _ _ rfl _ _ rfl rfl _ _ HRUN8.out ?_)
        | (at_builtin; refine Lib.wpList_append_run (o := ⟨some 90, _, _, _, _, _⟩) _ rfl _ _ _ _ rfl _ _ rfl rfl _ _ HRUN9.out ?_))
       go_roundg (T - (j + 1))
       case measure => rw [HGX.out]; omega
       case rel => exact ⟨j + 1, by omega, rfl, by go_num, by rw [HSTEP.out]; exact HO9.out, HB9.out⟩
      obtain rfl : j = T := by omega
      have HNX := zh (nextP_next (T := j) HU.out)
      go_wp2_with fail
      go_roundg (L.length - (i + 1))
      case measure => rw [HGJ.out]; omega
      case rel => exact ⟨i + 1, by omega, rfl, by go_num, by rw [← HNX.out]; exact HO6.out, HB6.out⟩
    obtain rfl : i = L.length := by omega
    obtain ⟨An, cn, rfl, hcn, _⟩ := HO.out.form
    have HEND := zh (show nextP T L L.length 0 = wordsP T (k + 1) by rw [nextP_end, HL.out]; rfl)
    go_wp2_with fail
    go_roundg (n - (k + 1))
    case measure => rw [HGK.out]; omega
    case rel =>
     refine ⟨k + 1, An, cn, by omega, rfl, by go_num, by rw [HEND.out], ?_, HB.out.trans (HB7.out.mono hz4)⟩
     have h := HO.out.sl
     rw [HEND.out] at h
     exact h.more fun b hb => by
      rcases hb with hb | hb
      · exact hb.elim
      omega
  obtain rfl : n = k := by omega
  obtain ⟨R, hR⟩ := zE g.2.2.2
  obtain ⟨l, hl⟩ := zE (wordsP T n)
  obtain ⟨NW, hNW⟩ := zE l.length
  rw [← hl] at HSL ⊢
  rw [← hNW] at HSL ⊢
  have hNW2 : NW ≤ 27 := by rw [hNW, hl]; exact HP.out n hn2
  have hcapW := HSL.out.cap
  have HLE := zh hl
  have HNW := zh hNW
  have HRE := zh hR
  have HB26 := zh (HB25.out.trans (HB.out.mono HB25.out.size))
  have HB6 := zh (HB5.out.trans (HB.out.mono HB5.out.size))
  have HSA := zh (sum_all HV.out HT.out (n := n) (show st < nonsOf g by rw [HNO.out]; exact hstN) hl)
  clear hl hNW hR HGK
  go_wp2_with fail
  go_loopg [12, 19, 20, 21, 22, 97] NW (fun gk s va vb vc vd i wr => ∃ k : Nat, k ≤ NW ∧ gk = NW - k ∧ s = .int .i64 (sumU R st n (l.take k) : Int) ∧ (∀ u ∈ l.take k, kW R st n u ≠ -1) ∧ i = .int .i64 k ∧ Below w6.heap.size w6 wr)
  case atStart => exact ⟨0, Nat.zero_le _, rfl, by simp [sumU], fun u hu => by simp at hu, rfl, Below.refl _ _⟩
  case round =>
   obtain ⟨k, hk, hgk, rfl, hno, rfl, hb⟩ := hrel
   obtain ⟨w7, rfl⟩ := zE wr
   have HGK := zh hgk
   have HNO1 := zh hno
   have HB7 := zh hb
   have HB27 := zh (HB26.out.trans (hb.mono HB26.out.size))
   have HBW7 := zh (HB6.out.trans (hb.mono HB6.out.size))
   clear hgk hno hb
   by_cases hlt : k < NW
   ·
    obtain ⟨b7, o7, A7, m7, c7, r, rfl, _, hbl7, hcell, hrow, hsl⟩ := rowW_at (HSL.out.below HB7.out) hlt
    have hmem : r ∈ wordsP T n := by rw [← HLE.out]; exact List.mem_of_getElem? hrow
    obtain ⟨hlen, hlet⟩ := mem_wordsP.1 hmem
    obtain rfl : n = m7 := by rw [hsl.len, hlen]
    have HROW := zh hrow
    have HSLW := zh hsl
    have HLEN := zh hlen
    have HLET := zh (show ∀ x ∈ r, 0 ≤ x ∧ x < g.1 from fun x hx => by rw [HT.out]; exact hlet x hx)
    have hkl : (k : Int) < (NW : Int) := by omega
    obtain ⟨k0, k1, k2, k3⟩ := HALL.out w7 HB27.out
    clear hrow hsl hlet hlen hmem
    go_wp2_with fail
    clear k0 k1 k2 k3 hcell
    have hc := forOf w7 (HTB.out.below HBW7.out hW0) _ _ AR nR cR g (HG2.out.below HB27.out) HV.out A7 n c7 r HSLW.out.ints HLET.out (by omega)
    rw [HT.out, HNE.out, HST.out] at hc
    refine hc.mono ?_
    clear hc
    rintro e w8 ⟨⟨Af, mf, cf, xf, cd, rfl, hfd⟩, hb8⟩
    rcases hfd with ⟨rfl, hm⟩ | ⟨_, _, _, _, _, L, h1, h2, h3⟩
    rotate_left
    · exact absurd (few3 HV.out HSM.out (ws := r) (by rw [HLEN.out]; omega) L h1 h2) (by omega)
    have hm' : MfD g.2.2.2 g.2.2.1.toNat n r w7.heap.size w8 Af mf cf xf := by rw [HST.out]; exact hm
    obtain ⟨Bf, hBf⟩ := zE w8.heap.size
    obtain ⟨w9, hw9⟩ := zE (w8.alloc (.cells #[.slice Af mf cf, .int .i64 xf] 38))
    have hb9 : Below w8.heap.size w8 w9 := by rw [hw9]; exact (Below.refl _ _).alloc (Nat.le_refl _) _
    have hg9 : w9.heap[Bf]? = some (.cells #[.slice Af mf cf, .int .i64 xf] 38 (0, 0)) := by rw [hw9, hBf]; exact heap_alloc_new _ _
    have q0 : w9.cell? ⟨Bf, 0, none⟩ = some (.slice Af mf cf) := by simp [World.cell?, hg9]
    have q1 : w9.cell? ⟨Bf, 1, none⟩ = some (.int .i64 xf) := by simp [World.cell?, hg9]
    have HM9 := zh (hm'.below hb9)
    have hb79 : Below w7.heap.size w7 w9 := hb8.trans (hb9.mono hb8.size)
    have HB69 := zh (HB7.out.trans (hb79.mono HB7.out.size))
    have HB29 := zh (HB27.out.trans (hb79.mono HB27.out.size))
    have HBW9 := zh (HBW7.out.trans (hb79.mono HBW7.out.size))
    have HBF := zh hBf
    have HW9 := zh hw9
    obtain ⟨k0, k1, k2, k3⟩ := HALL.out w9 HB29.out
    clear hm hm' hb8 hb9 hb79 hg9 hBf hw9
    go_upto_region 31 with fail
    rw [← HW9.out, ← HBF.out]
    go_wp2_with fail
    clear k0 k1 k2 k3 q0 q1
    have hc := forCount w9 (HTB.out.below HBW9.out hW0) _ AR nR cR g (HG2.out.below HB29.out) HV.out n r HLEN.out HLET.out (by omega) (few3 HV.out HSM.out (by rw [HLEN.out]; omega)) Af mf cf _ xf HM9.out
    rw [HT.out, HNE.out, HST.out, Int.toNat_natCast, ← HRE.out] at hc
    refine hc.mono ?_
    clear hc
    rintro e w10 ⟨rfl, hb10⟩
    obtain ⟨kz, hkz⟩ := zE (kW R st n r)
    rw [← hkz]
    have hrng := kW_rng R st n r
    rw [← hkz] at hrng
    have HKZ := zh hkz
    have HB610 := zh (HB69.out.trans (hb10.mono HB69.out.size))
    have HB210 := zh (HB29.out.trans (hb10.mono HB29.out.size))
    have HBW10 := zh (HBW9.out.trans (hb10.mono HBW9.out.size))
    obtain ⟨sk, hsk⟩ := zE (sumU R st n (l.take k))
    rw [← hsk]
    have hsle : sk ≤ 27000000000 := by
     have := sumU_le R st n (l.take k)
     rw [← hsk, List.length_take] at this
     omega
    have HSK := zh hsk
    clear hkz hb10 hsk
    rcases hrng with rfl | ⟨hlo, hhi⟩
    ·
     obtain rfl : x8 = -1 := by
      rw [HX8.out]
      refine HSA.out.1 (decide_eq_true ⟨r, List.mem_of_getElem? HROW.out, ?_⟩)
      rw [← HRE.out]
      exact HKZ.out.symm
     obtain ⟨k0, k1, k2, k3⟩ := HALL.out w10 HB210.out
     obtain ⟨e1, e2⟩ := HCT.out w10 (HB.out.trans (HB610.out.mono HB.out.size))
     have l1 := cell_lt e1
     have l2 := cell_lt e2
     go_wp2_with fail
     go_ret
     exact ⟨rfl, HBW10.out⟩
    obtain ⟨kn, rfl⟩ : ∃ kn : Nat, kz = (kn : Int) := ⟨kz.toNat, by omega⟩
    have hne : ¬ (kn : Int) = -1 := by omega
    have HSUM := zh (show sumU R st n (l.take (k + 1)) = sk + kn by rw [sumU_take HROW.out, ← HKZ.out, HSK.out, Int.toNat_natCast])
    go_wp2_with fail
    go_roundg (NW - (k + 1))
    case measure => rw [HGK.out]; omega
    case rel =>
     refine ⟨k + 1, by omega, rfl, by rw [HSUM.out]; go_num, fun u hu => ?_, by go_num, HB610.out⟩
     rw [List.take_add_one, HROW.out] at hu
     rcases List.mem_append.1 hu with h | h
     · exact HNO1.out u h
     rw [List.mem_singleton.1 h, ← HKZ.out]
     exact hne
   obtain rfl : k = NW := by omega
   have hlk : l.take k = l := List.take_of_length_le (by rw [← HNW.out]; exact Nat.le_refl _)
   rw [hlk] at HNO1 ⊢
   obtain ⟨S, hS⟩ := zE (sumU R st n l)
   rw [← hS]
   have hSx : x8 = ((cp S : Nat) : Int) := by
    rw [HX8.out, HSA.out.2 (by unfold manyK; refine decide_eq_false ?_; rintro ⟨u, hu, e⟩; rw [← HRE.out] at e; exact HNO1.out u hu e), hS, HRE.out]
    rfl
   have hsle : S ≤ 27000000000 := by
    have := sumU_le R st n l
    rw [← hS, ← HNW.out] at this
    omega
   obtain ⟨k0, k1, k2, k3⟩ := HALL.out w7 HB27.out
   obtain ⟨e1, e2⟩ := HCT.out w7 (HB.out.trans (HB7.out.mono HB.out.size))
   have l1 := cell_lt e1
   have l2 := cell_lt e2
   clear hS hlk
   by_cases hbig : 1000000000 ≤ S
   ·
    obtain rfl : x8 = 1000000000 := by rw [hSx]; unfold cp MC; omega
    have hmin : min (S : Int) 1000000000 = 1000000000 := by omega
    have hS0 : ¬ (S : Int) = 0 := by omega
    have hSI : (1000000000 : Int) ≤ (S : Int) := by omega
    clear hSx
    go_wp2_with fail
    go_ret
    exact ⟨rfl, HBW7.out⟩
   obtain rfl : x8 = (S : Int) := by rw [hSx]; unfold cp MC; omega
   have hmin : min (S : Int) 1000000000 = (S : Int) := by omega
   have hSI : ¬ (1000000000 : Int) ≤ (S : Int) := by omega
   clear hSx
   by_cases hz : S = 0
   ·
    subst hz
    go_wp2_with fail
    go_ret
    exact ⟨rfl, HBW7.out⟩
   have hS0 : ¬ (S : Int) = 0 := by omega
   have HS0 := zh hz
   go_upto_region 42 with fail
   clear hmin k0 k1 k2 k3 e1 e2 l1 l2
   have HIR := zh (show 0 ≤ x2 % (S : Int) ∧ x2 % (S : Int) < (S : Int) from ⟨Int.emod_nonneg _ (by omega), Int.emod_lt_of_pos _ (by omega)⟩)
   have HMN := zh (show ¬ Many g.2.2.2 (st, n) from fun h => by
    have e := HX8.out
    unfold treesN at e
    simp only [if_pos h] at e
    split at e <;> omega)
   rw [show ((S : Int) == 0) = false by simpa using HS0.out]
   go_cut [11, 23] from 149 to 157 (fun v11 v23 wx => v11 = .int .i64 0 ∧ ∃ (Bt : Nat) (t : TreeD) (At : Option Addr) (mt ct i : Nat), v23 = .pointer (some ⟨Bt, 0, none⟩) ∧ wx.heap[Bt]? = some (.cells #[.int .i64 t.rule, .int .i64 t.term, .slice At mt ct] 44 (0, 0)) ∧ Sl RTree wx (fun b => b ≠ Bt) At mt ct t.kids ∧ Unr g.2.2.2 (false, (st : Int)) n i t ∧ Below w7.heap.size w7 wx)
   case first =>
    refine wp_region_late (late := []) (S1 := fun u => u.cell? ⟨Bg, 0, none⟩ = some (.int .i64 (T : Int)) ∧ u.cell? ⟨Bg, 1, none⟩ = some (.int .i64 (N : Int)) ∧ u.cell? ⟨Bg, 2, none⟩ = some (.int .i64 (st : Int)) ∧ u.cell? ⟨Bg, 3, none⟩ = some (.slice AR nR cR)) (S := fun _ => True) (by kernel_rfl) ?_
    obtain ⟨w8, hw8⟩ := zE w7.drew
    have HB8 := zh (show Below w7.heap.size w7 w8 by rw [hw8]; exact (Below.refl _ _).drew)
    rw [← hw8]
    clear hw8
    refine zP (i := 0) rfl (fun u hu => by obtain ⟨k0, k1, k2, k3⟩ := hu; go_simp; try rfl) (HALL.out _ (HB27.out.trans (HB8.out.mono HB27.out.size))) zt ?_
    simp only [Act.put, zA, zB, zC, zD, zF, zG]
    refine zP (i := 1) rfl (fun u hu => by obtain ⟨k0, k1, k2, k3⟩ := hu; go_simp; try rfl) (HALL.out _ (HB27.out.trans (HB8.out.mono HB27.out.size))) zt ?_
    simp only [Act.put, zA, zB, zC, zD, zF, zG]
    refine zP (i := 2) rfl (fun u hu => by obtain ⟨k0, k1, k2, k3⟩ := hu; go_simp; try rfl) (HALL.out _ (HB27.out.trans (HB8.out.mono HB27.out.size))) zt ?_
    simp only [Act.put, zA, zB, zC, zD, zF, zG]
    refine zP (i := 3) rfl (fun u hu => by obtain ⟨k0, k1, k2, k3⟩ := hu; go_simp; try rfl) (HALL.out _ (HB27.out.trans (HB8.out.mono HB27.out.size))) zt ?_
    simp only [Act.put, zA, zB, zC, zD, zF, zG]
    refine wpAnyL_ready (rs := [4, 9]) (by kernel_rfl) (by simp) ?_
    refine AllL.cons rfl (fun K hK => ?_) ?_
    ·
     go_simp
     refine (makeBelow x2 (S : Int) _ (by omega) (by omega)).mono ?_
     rintro e w' ⟨rfl, rfl⟩
     refine hK.out _ _ (HALL.out _ (HB27.out.trans (HB8.out.mono HB27.out.size))) zt ?_
     clear hK K
     refine wpAnyL_ready (rs := [5, 9]) (by kernel_rfl) (by simp) ?_
     refine AllL.cons rfl (fun K hK => ?_) ?_
     ·
      go_simp
      have hc := rankTree w8 _ AR nR cR g (HG2.out.below (HB27.out.trans (HB8.out.mono HB27.out.size))) HV.out n (by omega) st HST.out (S : Int) HX8.out (by omega) (by omega) (x2 % (S : Int)) (by have := HIR.out.1; omega) (by have := HIR.out.2; omega)
      rw [HT.out, HNE.out, HST.out] at hc
      refine hc.mono ?_
      clear hc
      rintro e w9 ⟨hok, hb9⟩
      rcases hok with ⟨h, _⟩ | ⟨_, t, At, mt, ct, rfl, hst, hun⟩
      · exact absurd HIR.out h
      have HB9 := zh hb9
      have HS9 := zh hst
      have HU9 := zh hun
      have HB79 := zh (HB8.out.trans (hb9.mono HB8.out.size))
      clear hb9 hst hun
      refine hK.out _ _ (HALL.out _ (HB27.out.trans (HB79.out.mono HB27.out.size))) zt ?_
      clear hK K
      refine zP (i := 6) rfl (fun u hu => by obtain ⟨k0, k1, k2, k3⟩ := hu; go_simp; try rfl) (HALL.out _ (HB27.out.trans (HB79.out.mono HB27.out.size))) zt ?_
      simp only [Act.put, zA, zB, zC, zD, zF, zG]
      refine zP (i := 7) rfl (fun u hu => by obtain ⟨k0, k1, k2, k3⟩ := hu; go_simp; try rfl) (HALL.out _ (HB27.out.trans (HB79.out.mono HB27.out.size))) zt ?_
      simp only [Act.put, zA, zB, zC, zD, zF, zG]
      refine zP (i := 8) rfl (fun u hu => by obtain ⟨k0, k1, k2, k3⟩ := hu; go_simp; try rfl) (HALL.out _ (HB27.out.trans (HB79.out.mono HB27.out.size))) zt ?_
      simp only [Act.put, zA, zB, zC, zD, zF, zG]
      refine zR 9 rfl (fun K hK => ?_)
      go_simp
      refine hK.out _ _ (HALL.out _ (HB27.out.trans ((HB79.out.alloc HB79.out.size _).mono HB27.out.size))) zt ?_
      clear hK K
      refine zR 10 rfl (fun K hK => ?_)
      obtain ⟨Bt, hBt⟩ := zE w9.heap.size
      obtain ⟨wa, hwa⟩ := zE (w9.alloc (.cells #[.int .i64 0, .int .i64 0, .slice none 0 0] 44))
      have hbx : wa.heap[Bt]? = some (.cells #[.int .i64 0, .int .i64 0, .slice none 0 0] 44 (0, 0)) := by rw [hwa, hBt]; exact heap_alloc_new _ _
      have hsT : Sl RTree wa (fun b => b ≠ Bt) At mt ct t.kids := by rw [hwa]; exact (HS9.out.fit.alloc _).more fun b hb e => by omega
      have hzt : w7.heap.size ≤ Bt := by rw [hBt]; exact HB79.out.size
      have HBA := zh (show Below w7.heap.size w7 wa by rw [hwa]; exact HB79.out.alloc HB79.out.size _)
      rw [← hwa, ← hBt]
      have d0 : wa.cell? ⟨Bt, 0, none⟩ = some (.int .i64 0) := by simp [World.cell?, hbx]
      have d1 : wa.cell? ⟨Bt, 1, none⟩ = some (.int .i64 0) := by simp [World.cell?, hbx]
      have d2 : wa.cell? ⟨Bt, 2, none⟩ = some (.slice none 0 0) := by simp [World.cell?, hbx]
      have f0 : wa.frozen? ⟨Bt, 0, none⟩ = false := by simp [World.frozen?, hbx]
      have f1 : wa.frozen? ⟨Bt, 1, none⟩ = false := by simp [World.frozen?, hbx]
      have f2 : wa.frozen? ⟨Bt, 2, none⟩ = false := by simp [World.frozen?, hbx]
      have HBX := zh hbx
      have HST9 := zh hsT
      have HZT := zh hzt
      clear hbx hsT hzt hBt hwa
      go_simp
      clear d0 d1 d2 f0 f1 f2
      obtain ⟨h6, ho6⟩ := three_set HBX.out (.int .i64 t.rule) (.int .i64 t.term) (.slice At mt ct)
      obtain ⟨wv, hwv⟩ : ∃ wv : World, wv = ((wa.setCell ⟨Bt, 0, none⟩ (.int .i64 t.rule)).setCell ⟨Bt, 1, none⟩ (.int .i64 t.term)).setCell ⟨Bt, 2, none⟩ (.slice At mt ct) := ⟨_, rfl⟩
      rw [← hwv] at h6 ho6 ⊢
      clear hwv
      have HBV := zh (HBA.out.trans (ho6.below (B := w7.heap.size) (fun b e => by have := HZT.out; omega) HBA.out.size))
      have HSV := zh (HST9.out.keep (ho6.kept fun b hb e => hb e))
      have H6 := zh h6
      clear h6 ho6
      refine hK.out _ _ (HALL.out _ (HB27.out.trans (HBV.out.mono HB27.out.size))) zt ?_
      clear hK K
      refine zP (i := 11) rfl (fun u hu => by obtain ⟨k0, k1, k2, k3⟩ := hu; go_simp; try rfl) (HALL.out _ (HB27.out.trans (HBV.out.mono HB27.out.size))) zt ?_
      simp only [Act.put, zA, zB, zC, zD, zF, zG]
      refine wpAnyL_done (by kernel_rfl) ?_ _
      go_wp2_with fail
      go_meet
      exact ⟨rfl, Bt, t, At, mt, ct, _, rfl, H6.out, HSV.out, HU9.out, HBV.out⟩
     refine AllL.cons rfl (fun K hK => ?_) ?_
     ·
      go_simp
      refine hK.out _ _ (HALL.out _ (HB27.out.trans ((HB8.out.alloc HB8.out.size _).mono HB27.out.size))) zt ?_
      clear hK K
      refine zR 5 rfl (fun K hK => ?_)
      go_simp
      have hc := rankTree (w8.alloc (.cells #[.int .i64 0, .int .i64 0, .slice none 0 0] 44)) _ AR nR cR g (HG2.out.below (HB27.out.trans ((HB8.out.alloc HB8.out.size _).mono HB27.out.size))) HV.out n (by omega) st HST.out (S : Int) HX8.out (by omega) (by omega) (x2 % (S : Int)) (by have := HIR.out.1; omega) (by have := HIR.out.2; omega)
      rw [HT.out, HNE.out, HST.out] at hc
      refine hc.mono ?_
      clear hc
      rintro e w9 ⟨hok, hb9⟩
      rcases hok with ⟨h, _⟩ | ⟨_, t, At, mt, ct, rfl, hst, hun⟩
      · exact absurd HIR.out h
      have HB9 := zh hb9
      have HS9 := zh hst
      have HU9 := zh hun
      have HB79 := zh ((HB8.out.alloc HB8.out.size _).trans (hb9.mono (HB8.out.alloc HB8.out.size _).size))
      clear hb9 hst hun
      refine hK.out _ _ (HALL.out _ (HB27.out.trans (HB79.out.mono HB27.out.size))) zt ?_
      clear hK K
      refine zP (i := 6) rfl (fun u hu => by obtain ⟨k0, k1, k2, k3⟩ := hu; go_simp; try rfl) (HALL.out _ (HB27.out.trans (HB79.out.mono HB27.out.size))) zt ?_
      simp only [Act.put, zA, zB, zC, zD, zF, zG]
      refine zP (i := 7) rfl (fun u hu => by obtain ⟨k0, k1, k2, k3⟩ := hu; go_simp; try rfl) (HALL.out _ (HB27.out.trans (HB79.out.mono HB27.out.size))) zt ?_
      simp only [Act.put, zA, zB, zC, zD, zF, zG]
      refine zP (i := 8) rfl (fun u hu => by obtain ⟨k0, k1, k2, k3⟩ := hu; go_simp; try rfl) (HALL.out _ (HB27.out.trans (HB79.out.mono HB27.out.size))) zt ?_
      simp only [Act.put, zA, zB, zC, zD, zF, zG]
      refine zR 10 rfl (fun K hK => ?_)
      obtain ⟨Bt, hBt⟩ := zE w8.heap.size
      have hbx : w9.heap[Bt]? = some (.cells #[.int .i64 0, .int .i64 0, .slice none 0 0] 44 (0, 0)) := by rw [hBt]; exact (HB9.out.block _ (by simp)).trans (heap_alloc_new _ _)
      have hsT : Sl RTree w9 (fun b => b ≠ Bt) At mt ct t.kids := HS9.out.more fun b hb e => by simp at hb; omega
      have hzt : w7.heap.size ≤ Bt := by rw [hBt]; exact HB8.out.size
      obtain ⟨wa, rfl⟩ := zE w9
      have HBA := zh HB79.out
      rw [← hBt]
      have d0 : wa.cell? ⟨Bt, 0, none⟩ = some (.int .i64 0) := by simp [World.cell?, hbx]
      have d1 : wa.cell? ⟨Bt, 1, none⟩ = some (.int .i64 0) := by simp [World.cell?, hbx]
      have d2 : wa.cell? ⟨Bt, 2, none⟩ = some (.slice none 0 0) := by simp [World.cell?, hbx]
      have f0 : wa.frozen? ⟨Bt, 0, none⟩ = false := by simp [World.frozen?, hbx]
      have f1 : wa.frozen? ⟨Bt, 1, none⟩ = false := by simp [World.frozen?, hbx]
      have f2 : wa.frozen? ⟨Bt, 2, none⟩ = false := by simp [World.frozen?, hbx]
      have HBX := zh hbx
      have HST9 := zh hsT
      have HZT := zh hzt
      clear hbx hsT hzt hBt
      go_simp
      clear d0 d1 d2 f0 f1 f2
      obtain ⟨h6, ho6⟩ := three_set HBX.out (.int .i64 t.rule) (.int .i64 t.term) (.slice At mt ct)
      obtain ⟨wv, hwv⟩ : ∃ wv : World, wv = ((wa.setCell ⟨Bt, 0, none⟩ (.int .i64 t.rule)).setCell ⟨Bt, 1, none⟩ (.int .i64 t.term)).setCell ⟨Bt, 2, none⟩ (.slice At mt ct) := ⟨_, rfl⟩
      rw [← hwv] at h6 ho6 ⊢
      clear hwv
      have HBV := zh (HBA.out.trans (ho6.below (B := w7.heap.size) (fun b e => by have := HZT.out; omega) HBA.out.size))
      have HSV := zh (HST9.out.keep (ho6.kept fun b hb e => hb e))
      have H6 := zh h6
      clear h6 ho6
      refine hK.out _ _ (HALL.out _ (HB27.out.trans (HBV.out.mono HB27.out.size))) zt ?_
      clear hK K
      refine zP (i := 11) rfl (fun u hu => by obtain ⟨k0, k1, k2, k3⟩ := hu; go_simp; try rfl) (HALL.out _ (HB27.out.trans (HBV.out.mono HB27.out.size))) zt ?_
      simp only [Act.put, zA, zB, zC, zD, zF, zG]
      refine wpAnyL_done (by kernel_rfl) ?_ _
      go_wp2_with fail
      go_meet
      exact ⟨rfl, Bt, t, At, mt, ct, _, rfl, H6.out, HSV.out, HU9.out, HBV.out⟩
     exact AllL.nil
    refine AllL.cons rfl (fun K hK => ?_) ?_
    ·
     go_simp
     refine hK.out _ _ (HALL.out _ (HB27.out.trans ((HB8.out.alloc HB8.out.size _).mono HB27.out.size))) zt ?_
     clear hK K
     refine zR 4 rfl (fun K hK => ?_)
     go_simp
     refine (makeBelow x2 (S : Int) _ (by omega) (by omega)).mono ?_
     rintro e w' ⟨rfl, rfl⟩
     refine hK.out _ _ (HALL.out _ (HB27.out.trans ((HB8.out.alloc HB8.out.size _).mono HB27.out.size))) zt ?_
     clear hK K
     refine zR 5 rfl (fun K hK => ?_)
     go_simp
     have hc := rankTree (w8.alloc (.cells #[.int .i64 0, .int .i64 0, .slice none 0 0] 44)) _ AR nR cR g (HG2.out.below (HB27.out.trans ((HB8.out.alloc HB8.out.size _).mono HB27.out.size))) HV.out n (by omega) st HST.out (S : Int) HX8.out (by omega) (by omega) (x2 % (S : Int)) (by have := HIR.out.1; omega) (by have := HIR.out.2; omega)
     rw [HT.out, HNE.out, HST.out] at hc
     refine hc.mono ?_
     clear hc
     rintro e w9 ⟨hok, hb9⟩
     rcases hok with ⟨h, _⟩ | ⟨_, t, At, mt, ct, rfl, hst, hun⟩
     · exact absurd HIR.out h
     have HB9 := zh hb9
     have HS9 := zh hst
     have HU9 := zh hun
     have HB79 := zh ((HB8.out.alloc HB8.out.size _).trans (hb9.mono (HB8.out.alloc HB8.out.size _).size))
     clear hb9 hst hun
     refine hK.out _ _ (HALL.out _ (HB27.out.trans (HB79.out.mono HB27.out.size))) zt ?_
     clear hK K
     refine zP (i := 6) rfl (fun u hu => by obtain ⟨k0, k1, k2, k3⟩ := hu; go_simp; try rfl) (HALL.out _ (HB27.out.trans (HB79.out.mono HB27.out.size))) zt ?_
     simp only [Act.put, zA, zB, zC, zD, zF, zG]
     refine zP (i := 7) rfl (fun u hu => by obtain ⟨k0, k1, k2, k3⟩ := hu; go_simp; try rfl) (HALL.out _ (HB27.out.trans (HB79.out.mono HB27.out.size))) zt ?_
     simp only [Act.put, zA, zB, zC, zD, zF, zG]
     refine zP (i := 8) rfl (fun u hu => by obtain ⟨k0, k1, k2, k3⟩ := hu; go_simp; try rfl) (HALL.out _ (HB27.out.trans (HB79.out.mono HB27.out.size))) zt ?_
     simp only [Act.put, zA, zB, zC, zD, zF, zG]
     refine zR 10 rfl (fun K hK => ?_)
     obtain ⟨Bt, hBt⟩ := zE w8.heap.size
     have hbx : w9.heap[Bt]? = some (.cells #[.int .i64 0, .int .i64 0, .slice none 0 0] 44 (0, 0)) := by rw [hBt]; exact (HB9.out.block _ (by simp)).trans (heap_alloc_new _ _)
     have hsT : Sl RTree w9 (fun b => b ≠ Bt) At mt ct t.kids := HS9.out.more fun b hb e => by simp at hb; omega
     have hzt : w7.heap.size ≤ Bt := by rw [hBt]; exact HB8.out.size
     obtain ⟨wa, rfl⟩ := zE w9
     have HBA := zh HB79.out
     rw [← hBt]
     have d0 : wa.cell? ⟨Bt, 0, none⟩ = some (.int .i64 0) := by simp [World.cell?, hbx]
     have d1 : wa.cell? ⟨Bt, 1, none⟩ = some (.int .i64 0) := by simp [World.cell?, hbx]
     have d2 : wa.cell? ⟨Bt, 2, none⟩ = some (.slice none 0 0) := by simp [World.cell?, hbx]
     have f0 : wa.frozen? ⟨Bt, 0, none⟩ = false := by simp [World.frozen?, hbx]
     have f1 : wa.frozen? ⟨Bt, 1, none⟩ = false := by simp [World.frozen?, hbx]
     have f2 : wa.frozen? ⟨Bt, 2, none⟩ = false := by simp [World.frozen?, hbx]
     have HBX := zh hbx
     have HST9 := zh hsT
     have HZT := zh hzt
     clear hbx hsT hzt hBt
     go_simp
     clear d0 d1 d2 f0 f1 f2
     obtain ⟨h6, ho6⟩ := three_set HBX.out (.int .i64 t.rule) (.int .i64 t.term) (.slice At mt ct)
     obtain ⟨wv, hwv⟩ : ∃ wv : World, wv = ((wa.setCell ⟨Bt, 0, none⟩ (.int .i64 t.rule)).setCell ⟨Bt, 1, none⟩ (.int .i64 t.term)).setCell ⟨Bt, 2, none⟩ (.slice At mt ct) := ⟨_, rfl⟩
     rw [← hwv] at h6 ho6 ⊢
     clear hwv
     have HBV := zh (HBA.out.trans (ho6.below (B := w7.heap.size) (fun b e => by have := HZT.out; omega) HBA.out.size))
     have HSV := zh (HST9.out.keep (ho6.kept fun b hb e => hb e))
     have H6 := zh h6
     clear h6 ho6
     refine hK.out _ _ (HALL.out _ (HB27.out.trans (HBV.out.mono HB27.out.size))) zt ?_
     clear hK K
     refine zP (i := 11) rfl (fun u hu => by obtain ⟨k0, k1, k2, k3⟩ := hu; go_simp; try rfl) (HALL.out _ (HB27.out.trans (HBV.out.mono HB27.out.size))) zt ?_
     simp only [Act.put, zA, zB, zC, zD, zF, zG]
     refine wpAnyL_done (by kernel_rfl) ?_ _
     go_wp2_with fail
     go_meet
     exact ⟨rfl, Bt, t, At, mt, ct, _, rfl, H6.out, HSV.out, HU9.out, HBV.out⟩
    exact AllL.nil
   case rest =>
    obtain ⟨rfl, Bt, t, At, mt, ct, i, rfl, hbt, hst, hun, hbx⟩ := hcut
    obtain ⟨w8, rfl⟩ := zE wc
    have hsize : sizeT t ≤ 5000 := TV.few (rulesN_of HV.out) (by have := HSM.out.n; unfold nonsOf; omega) HSM.out.rr hun.tv hun.word (by rw [HNO.out]; exact hstN) HMN.out (by omega)
    obtain ⟨hkt, hder⟩ := hun.kt
    have HKT := zh hkt
    have HDER := zh hder
    have HWD := zh hun.word
    have HLV := zh hun.tv.leaves
    have HLT := zh (show ∀ x ∈ wordT t, 0 ≤ x ∧ x < g.1 by rw [HT.out]; exact hun.tv.lets (terms_of HV.out HT.out) (fun e => by cases e))
    have HB28 := zh (HB27.out.trans (hbx.mono HB27.out.size))
    have HBW8 := zh (HBW7.out.trans (hbx.mono HBW7.out.size))
    have HTR := zh (show ∀ u : World, Below w8.heap.size w8 u → u.heap[Bt]? = some (.cells #[.int .i64 t.rule, .int .i64 t.term, .slice At mt ct] 44 (0, 0)) ∧ Sl RTree u (fun b => b ≠ Bt) At mt ct t.kids from fun u hu => ⟨(hu.block _ (heap_lt hbt)).trans hbt, hst.below hu⟩)
    have HTC := zh (show ∀ u : World, Below w8.heap.size w8 u → (u.cell? ⟨Bg, 0, none⟩ = some (.int .i64 (T : Int)) ∧ u.cell? ⟨Bg, 1, none⟩ = some (.int .i64 (N : Int)) ∧ u.cell? ⟨Bg, 2, none⟩ = some (.int .i64 (st : Int)) ∧ u.cell? ⟨Bg, 3, none⟩ = some (.slice AR nR cR)) ∧ u.cell? ⟨Bt, 0, none⟩ = some (.int .i64 t.rule) ∧ u.cell? ⟨Bt, 1, none⟩ = some (.int .i64 t.term) ∧ u.cell? ⟨Bt, 2, none⟩ = some (.slice At mt ct) from fun u hu => by
     have h0 := (HTR.out u hu).1
     exact ⟨HALL.out u (HB28.out.trans (hu.mono HB28.out.size)), by simp [World.cell?, h0], by simp [World.cell?, h0], by simp [World.cell?, h0]⟩)
    clear hbt hst hun hbx hkt hder
    go_upto_region 45 with fail
    go_cut [24, 25] from 160 to 166 (fun v24 v25 wx => v25 = .int .i64 0 ∧ ∃ (Bf : Nat) (Af : Option Addr) (mf cf z : Nat) (xf : Int), v24 = .pointer (some ⟨Bf, 0, none⟩) ∧ wx.heap[Bf]? = some (.cells #[.slice Af mf cf, .int .i64 xf] 38 (0, 0)) ∧ MfD g.2.2.2 g.2.2.1.toNat n (wordT t) z wx Af mf cf xf ∧ Below w8.heap.size w8 wx)
    case first =>
     refine wp_region_late (late := []) (S1 := fun u => (u.cell? ⟨Bg, 0, none⟩ = some (.int .i64 (T : Int)) ∧ u.cell? ⟨Bg, 1, none⟩ = some (.int .i64 (N : Int)) ∧ u.cell? ⟨Bg, 2, none⟩ = some (.int .i64 (st : Int)) ∧ u.cell? ⟨Bg, 3, none⟩ = some (.slice AR nR cR)) ∧ u.cell? ⟨Bt, 0, none⟩ = some (.int .i64 t.rule) ∧ u.cell? ⟨Bt, 1, none⟩ = some (.int .i64 t.term) ∧ u.cell? ⟨Bt, 2, none⟩ = some (.slice At mt ct)) (S := fun _ => True) (by kernel_rfl) ?_
     obtain ⟨w9, hw9⟩ := zE w8.drew
     have HB9 := zh (show Below w8.heap.size w8 w9 by rw [hw9]; exact (Below.refl _ _).drew)
     rw [← hw9]
     clear hw9
     refine zP (i := 0) rfl (fun u hu => by obtain ⟨⟨k0, k1, k2, k3⟩, t0, t1, t2⟩ := hu; go_simp; try rfl) (HTC.out _ HB9.out) zt ?_
     simp only [Act.put, zA, zB, zC, zD, zF, zG]
     refine zP (i := 1) rfl (fun u hu => by obtain ⟨⟨k0, k1, k2, k3⟩, t0, t1, t2⟩ := hu; go_simp; try rfl) (HTC.out _ HB9.out) zt ?_
     simp only [Act.put, zA, zB, zC, zD, zF, zG]
     refine wpAnyL_ready (rs := [2, 7]) (by kernel_rfl) (by simp) ?_
     refine AllL.cons rfl (fun K hK => ?_) ?_
     ·
      go_simp
      refine (treeWord w9 _ t At mt ct (HTR.out _ HB9.out).2 HLV.out (by omega)).mono ?_
      rintro e w10 ⟨Aw, cw, rfl, hrd, hcw, hb10⟩
      have HRD := zh hrd
      have HB10 := zh (HB9.out.trans (hb10.mono HB9.out.size))
      have HL10 := zh hb10
      rw [HWD.out] at hcw HRD ⊢
      clear hrd hb10
      refine hK.out _ _ (HTC.out _ HB10.out) zt ?_
      clear hK K
      refine wpAnyL_ready (rs := [3, 7]) (by kernel_rfl) (by simp) ?_
      refine AllL.cons rfl (fun K hK => ?_) ?_
      ·
       go_simp
       have hc := forOf w10 (HTB.out.below (HBW8.out.trans (HB10.out.mono HBW8.out.size)) hW0) _ _ AR nR cR g (HG2.out.below (HB28.out.trans (HB10.out.mono HB28.out.size))) HV.out Aw n cw (wordT t) HRD.out HLT.out (by omega)
       rw [HT.out, HNE.out, HST.out] at hc
       refine hc.mono ?_
       clear hc
       rintro e w11 ⟨⟨Af, mf, cf, xf, cd, rfl, hfd⟩, hb11⟩
       rcases hfd with ⟨rfl, hm⟩ | ⟨_, _, _, _, _, L, h1, h2, h3⟩
       rotate_left
       · exact absurd (few3 HV.out HSM.out (ws := wordT t) (by rw [HWD.out]; omega) L h1 h2) (by omega)
       have hm' : MfD g.2.2.2 g.2.2.1.toNat n (wordT t) w10.heap.size w11 Af mf cf xf := by rw [HST.out]; exact hm
       have HM11 := zh hm'
       have HL11 := zh hb11
       have HB11 := zh (HB10.out.trans (hb11.mono HB10.out.size))
       clear hm hm' hb11
       refine hK.out _ _ (HTC.out _ HB11.out) zt ?_
       clear hK K
       refine zP (i := 4) rfl (fun u hu => by obtain ⟨⟨k0, k1, k2, k3⟩, t0, t1, t2⟩ := hu; go_simp; try rfl) (HTC.out _ HB11.out) zt ?_
       simp only [Act.put, zA, zB, zC, zD, zF, zG]
       refine zP (i := 5) rfl (fun u hu => by obtain ⟨⟨k0, k1, k2, k3⟩, t0, t1, t2⟩ := hu; go_simp; try rfl) (HTC.out _ HB11.out) zt ?_
       simp only [Act.put, zA, zB, zC, zD, zF, zG]
       refine zP (i := 6) rfl (fun u hu => by obtain ⟨⟨k0, k1, k2, k3⟩, t0, t1, t2⟩ := hu; go_simp; try rfl) (HTC.out _ HB11.out) zt ?_
       simp only [Act.put, zA, zB, zC, zD, zF, zG]
       refine zR 7 rfl (fun K hK => ?_)
       go_simp
       refine hK.out _ _ (HTC.out _ (HB11.out.alloc HB11.out.size _)) zt ?_
       clear hK K
       refine zR 8 rfl (fun K hK => ?_)
       obtain ⟨Bf, hBf⟩ := zE w11.heap.size
       obtain ⟨wa, hwa⟩ := zE (w11.alloc (.cells #[.slice none 0 0, .int .i64 0] 38))
       have hbx : wa.heap[Bf]? = some (.cells #[.slice none 0 0, .int .i64 0] 38 (0, 0)) := by rw [hwa, hBf]; exact heap_alloc_new _ _
       have hoff : ∀ b, w10.heap.size ≤ b → b < w11.heap.size → ¬ b = Bf := fun b _ hb e => by omega
       have hzf : w8.heap.size ≤ Bf := by rw [hBf]; exact HB11.out.size
       have hoa : Only w11 wa (fun b => b = Bf) := by rw [hwa]; exact Only.alloc _ _ _
       have HBA := zh (show Below w8.heap.size w8 wa by rw [hwa]; exact HB11.out.alloc HB11.out.size _)
       rw [← hwa, ← hBf]
       have d0 : wa.cell? ⟨Bf, 0, none⟩ = some (.slice none 0 0) := by simp [World.cell?, hbx]
       have d1 : wa.cell? ⟨Bf, 1, none⟩ = some (.int .i64 0) := by simp [World.cell?, hbx]
       have f0 : wa.frozen? ⟨Bf, 0, none⟩ = false := by simp [World.frozen?, hbx]
       have f1 : wa.frozen? ⟨Bf, 1, none⟩ = false := by simp [World.frozen?, hbx]
       have HBX := zh hbx
       have HOFF := zh hoff
       have HZF := zh hzf
       have HOA := zh hoa
       clear hbx hoff hzf hoa hBf hwa
       go_simp
       clear d0 d1 f0 f1
       obtain ⟨h6, ho6⟩ := two_set HBX.out (.slice Af mf cf) (.int .i64 xf)
       obtain ⟨wv, hwv⟩ : ∃ wv : World, wv = (wa.setCell ⟨Bf, 0, none⟩ (.slice Af mf cf)).setCell ⟨Bf, 1, none⟩ (.int .i64 xf) := ⟨_, rfl⟩
       rw [← hwv] at h6 ho6 ⊢
       clear hwv
       have HBV := zh (HBA.out.trans (ho6.below (B := w8.heap.size) (fun b e => by have := HZF.out; omega) HBA.out.size))
       have HMV := zh (HM11.out.only (HOA.out.trans ho6) HOFF.out)
       have H6 := zh h6
       clear h6 ho6
       refine hK.out _ _ (HTC.out _ HBV.out) zt ?_
       clear hK K
       refine zP (i := 9) rfl (fun u hu => by obtain ⟨⟨k0, k1, k2, k3⟩, t0, t1, t2⟩ := hu; go_simp; try rfl) (HTC.out _ HBV.out) zt ?_
       simp only [Act.put, zA, zB, zC, zD, zF, zG]
       refine wpAnyL_done (by kernel_rfl) ?_ _
       go_wp2_with fail
       go_meet
       exact ⟨rfl, Bf, Af, mf, cf, _, xf, rfl, H6.out, HMV.out, HBV.out⟩
      refine AllL.cons rfl (fun K hK => ?_) ?_
      ·
       go_simp
       refine hK.out _ _ (HTC.out _ (HB10.out.alloc HB10.out.size _)) zt ?_
       clear hK K
       refine zR 3 rfl (fun K hK => ?_)
       go_simp
       have hc := forOf (w10.alloc (.cells #[.slice none 0 0, .int .i64 0] 38)) (HTB.out.below (HBW8.out.trans ((HB10.out.alloc HB10.out.size _).mono HBW8.out.size)) hW0) _ _ AR nR cR g (HG2.out.below (HB28.out.trans ((HB10.out.alloc HB10.out.size _).mono HB28.out.size))) HV.out Aw n cw (wordT t) (HRD.out.alloc _) HLT.out (by omega)
       rw [HT.out, HNE.out, HST.out] at hc
       refine hc.mono ?_
       clear hc
       rintro e w11 ⟨⟨Af, mf, cf, xf, cd, rfl, hfd⟩, hb11⟩
       rcases hfd with ⟨rfl, hm⟩ | ⟨_, _, _, _, _, L, h1, h2, h3⟩
       rotate_left
       · exact absurd (few3 HV.out HSM.out (ws := wordT t) (by rw [HWD.out]; omega) L h1 h2) (by omega)
       have hm' : MfD g.2.2.2 g.2.2.1.toNat n (wordT t) (w10.alloc (.cells #[.slice none 0 0, .int .i64 0] 38)).heap.size w11 Af mf cf xf := by rw [HST.out]; exact hm
       have HM11 := zh hm'
       have HL11 := zh hb11
       have HB11 := zh ((HB10.out.alloc HB10.out.size _).trans (hb11.mono (HB10.out.alloc HB10.out.size _).size))
       clear hm hm' hb11
       refine hK.out _ _ (HTC.out _ HB11.out) zt ?_
       clear hK K
       refine zP (i := 4) rfl (fun u hu => by obtain ⟨⟨k0, k1, k2, k3⟩, t0, t1, t2⟩ := hu; go_simp; try rfl) (HTC.out _ HB11.out) zt ?_
       simp only [Act.put, zA, zB, zC, zD, zF, zG]
       refine zP (i := 5) rfl (fun u hu => by obtain ⟨⟨k0, k1, k2, k3⟩, t0, t1, t2⟩ := hu; go_simp; try rfl) (HTC.out _ HB11.out) zt ?_
       simp only [Act.put, zA, zB, zC, zD, zF, zG]
       refine zP (i := 6) rfl (fun u hu => by obtain ⟨⟨k0, k1, k2, k3⟩, t0, t1, t2⟩ := hu; go_simp; try rfl) (HTC.out _ HB11.out) zt ?_
       simp only [Act.put, zA, zB, zC, zD, zF, zG]
       refine zR 8 rfl (fun K hK => ?_)
       obtain ⟨Bf, hBf⟩ := zE w10.heap.size
       have hbx : w11.heap[Bf]? = some (.cells #[.slice none 0 0, .int .i64 0] 38 (0, 0)) := by rw [hBf]; exact (HL11.out.block _ (by simp)).trans (heap_alloc_new _ _)
       have hoff : ∀ b, (w10.alloc (.cells #[.slice none 0 0, .int .i64 0] 38)).heap.size ≤ b → b < w11.heap.size → ¬ b = Bf := fun b hb _ e => by simp at hb; omega
       have hzf : w8.heap.size ≤ Bf := by rw [hBf]; exact HB10.out.size
       obtain ⟨wa, hwa⟩ := zE w11
       have hoa : Only w11 wa (fun b => b = Bf) := by rw [hwa]; exact Only.refl _ _
       have HBA := zh (show Below w8.heap.size w8 wa by rw [hwa]; exact HB11.out)
       rw [← hwa] at hbx
       rw [← hBf, ← hwa]
       have d0 : wa.cell? ⟨Bf, 0, none⟩ = some (.slice none 0 0) := by simp [World.cell?, hbx]
       have d1 : wa.cell? ⟨Bf, 1, none⟩ = some (.int .i64 0) := by simp [World.cell?, hbx]
       have f0 : wa.frozen? ⟨Bf, 0, none⟩ = false := by simp [World.frozen?, hbx]
       have f1 : wa.frozen? ⟨Bf, 1, none⟩ = false := by simp [World.frozen?, hbx]
       have HBX := zh hbx
       have HOFF := zh hoff
       have HZF := zh hzf
       have HOA := zh hoa
       clear hbx hoff hzf hoa hBf hwa
       go_simp
       clear d0 d1 f0 f1
       obtain ⟨h6, ho6⟩ := two_set HBX.out (.slice Af mf cf) (.int .i64 xf)
       obtain ⟨wv, hwv⟩ : ∃ wv : World, wv = (wa.setCell ⟨Bf, 0, none⟩ (.slice Af mf cf)).setCell ⟨Bf, 1, none⟩ (.int .i64 xf) := ⟨_, rfl⟩
       rw [← hwv] at h6 ho6 ⊢
       clear hwv
       have HBV := zh (HBA.out.trans (ho6.below (B := w8.heap.size) (fun b e => by have := HZF.out; omega) HBA.out.size))
       have HMV := zh (HM11.out.only (HOA.out.trans ho6) HOFF.out)
       have H6 := zh h6
       clear h6 ho6
       refine hK.out _ _ (HTC.out _ HBV.out) zt ?_
       clear hK K
       refine zP (i := 9) rfl (fun u hu => by obtain ⟨⟨k0, k1, k2, k3⟩, t0, t1, t2⟩ := hu; go_simp; try rfl) (HTC.out _ HBV.out) zt ?_
       simp only [Act.put, zA, zB, zC, zD, zF, zG]
       refine wpAnyL_done (by kernel_rfl) ?_ _
       go_wp2_with fail
       go_meet
       exact ⟨rfl, Bf, Af, mf, cf, _, xf, rfl, H6.out, HMV.out, HBV.out⟩
      exact AllL.nil
     refine AllL.cons rfl (fun K hK => ?_) ?_
     ·
      go_simp
      refine hK.out _ _ (HTC.out _ (HB9.out.alloc HB9.out.size _)) zt ?_
      clear hK K
      refine zR 2 rfl (fun K hK => ?_)
      go_simp
      refine (treeWord (w9.alloc (.cells #[.slice none 0 0, .int .i64 0] 38)) _ t At mt ct (HTR.out _ (HB9.out.alloc HB9.out.size _)).2 HLV.out (by omega)).mono ?_
      rintro e w10 ⟨Aw, cw, rfl, hrd, hcw, hb10⟩
      have HRD := zh hrd
      have HB10 := zh ((HB9.out.alloc HB9.out.size _).trans (hb10.mono (HB9.out.alloc HB9.out.size _).size))
      have HL10 := zh hb10
      rw [HWD.out] at hcw HRD ⊢
      clear hrd hb10
      refine hK.out _ _ (HTC.out _ HB10.out) zt ?_
      clear hK K
      refine zR 3 rfl (fun K hK => ?_)
      go_simp
      have hc := forOf w10 (HTB.out.below (HBW8.out.trans (HB10.out.mono HBW8.out.size)) hW0) _ _ AR nR cR g (HG2.out.below (HB28.out.trans (HB10.out.mono HB28.out.size))) HV.out Aw n cw (wordT t) HRD.out HLT.out (by omega)
      rw [HT.out, HNE.out, HST.out] at hc
      refine hc.mono ?_
      clear hc
      rintro e w11 ⟨⟨Af, mf, cf, xf, cd, rfl, hfd⟩, hb11⟩
      rcases hfd with ⟨rfl, hm⟩ | ⟨_, _, _, _, _, L, h1, h2, h3⟩
      rotate_left
      · exact absurd (few3 HV.out HSM.out (ws := wordT t) (by rw [HWD.out]; omega) L h1 h2) (by omega)
      have hm' : MfD g.2.2.2 g.2.2.1.toNat n (wordT t) w10.heap.size w11 Af mf cf xf := by rw [HST.out]; exact hm
      have HM11 := zh hm'
      have HL11 := zh hb11
      have HB11 := zh (HB10.out.trans (hb11.mono HB10.out.size))
      clear hm hm' hb11
      refine hK.out _ _ (HTC.out _ HB11.out) zt ?_
      clear hK K
      refine zP (i := 4) rfl (fun u hu => by obtain ⟨⟨k0, k1, k2, k3⟩, t0, t1, t2⟩ := hu; go_simp; try rfl) (HTC.out _ HB11.out) zt ?_
      simp only [Act.put, zA, zB, zC, zD, zF, zG]
      refine zP (i := 5) rfl (fun u hu => by obtain ⟨⟨k0, k1, k2, k3⟩, t0, t1, t2⟩ := hu; go_simp; try rfl) (HTC.out _ HB11.out) zt ?_
      simp only [Act.put, zA, zB, zC, zD, zF, zG]
      refine zP (i := 6) rfl (fun u hu => by obtain ⟨⟨k0, k1, k2, k3⟩, t0, t1, t2⟩ := hu; go_simp; try rfl) (HTC.out _ HB11.out) zt ?_
      simp only [Act.put, zA, zB, zC, zD, zF, zG]
      refine zR 8 rfl (fun K hK => ?_)
      obtain ⟨Bf, hBf⟩ := zE w9.heap.size
      have hbx : w11.heap[Bf]? = some (.cells #[.slice none 0 0, .int .i64 0] 38 (0, 0)) := by rw [hBf]; exact (HL11.out.block _ (Nat.lt_of_lt_of_le (by simp) HL10.out.size)).trans ((HL10.out.block _ (by simp)).trans (heap_alloc_new _ _))
      have hoff : ∀ b, w10.heap.size ≤ b → b < w11.heap.size → ¬ b = Bf := fun b hb _ e => by have := HL10.out.size; simp at this; omega
      have hzf : w8.heap.size ≤ Bf := by rw [hBf]; exact HB9.out.size
      obtain ⟨wa, hwa⟩ := zE w11
      have hoa : Only w11 wa (fun b => b = Bf) := by rw [hwa]; exact Only.refl _ _
      have HBA := zh (show Below w8.heap.size w8 wa by rw [hwa]; exact HB11.out)
      rw [← hwa] at hbx
      rw [← hBf, ← hwa]
      have d0 : wa.cell? ⟨Bf, 0, none⟩ = some (.slice none 0 0) := by simp [World.cell?, hbx]
      have d1 : wa.cell? ⟨Bf, 1, none⟩ = some (.int .i64 0) := by simp [World.cell?, hbx]
      have f0 : wa.frozen? ⟨Bf, 0, none⟩ = false := by simp [World.frozen?, hbx]
      have f1 : wa.frozen? ⟨Bf, 1, none⟩ = false := by simp [World.frozen?, hbx]
      have HBX := zh hbx
      have HOFF := zh hoff
      have HZF := zh hzf
      have HOA := zh hoa
      clear hbx hoff hzf hoa hBf hwa
      go_simp
      clear d0 d1 f0 f1
      obtain ⟨h6, ho6⟩ := two_set HBX.out (.slice Af mf cf) (.int .i64 xf)
      obtain ⟨wv, hwv⟩ : ∃ wv : World, wv = (wa.setCell ⟨Bf, 0, none⟩ (.slice Af mf cf)).setCell ⟨Bf, 1, none⟩ (.int .i64 xf) := ⟨_, rfl⟩
      rw [← hwv] at h6 ho6 ⊢
      clear hwv
      have HBV := zh (HBA.out.trans (ho6.below (B := w8.heap.size) (fun b e => by have := HZF.out; omega) HBA.out.size))
      have HMV := zh (HM11.out.only (HOA.out.trans ho6) HOFF.out)
      have H6 := zh h6
      clear h6 ho6
      refine hK.out _ _ (HTC.out _ HBV.out) zt ?_
      clear hK K
      refine zP (i := 9) rfl (fun u hu => by obtain ⟨⟨k0, k1, k2, k3⟩, t0, t1, t2⟩ := hu; go_simp; try rfl) (HTC.out _ HBV.out) zt ?_
      simp only [Act.put, zA, zB, zC, zD, zF, zG]
      refine wpAnyL_done (by kernel_rfl) ?_ _
      go_wp2_with fail
      go_meet
      exact ⟨rfl, Bf, Af, mf, cf, _, xf, rfl, H6.out, HMV.out, HBV.out⟩
     exact AllL.nil
    case rest =>
     obtain ⟨rfl, Bf, Af, mf, cf, z, xf, rfl, hbf, hmf, hbx⟩ := hcut
     obtain ⟨w9, rfl⟩ := zE wc
     have HMF := zh hmf
     have HB89 := zh hbx
     have HB29 := zh (HB28.out.trans (hbx.mono HB28.out.size))
     have HBW9 := zh (HBW8.out.trans (hbx.mono HBW8.out.size))
     have q0 : w9.cell? ⟨Bf, 0, none⟩ = some (.slice Af mf cf) := by simp [World.cell?, hbf]
     have q1 : w9.cell? ⟨Bf, 1, none⟩ = some (.int .i64 xf) := by simp [World.cell?, hbf]
     obtain ⟨⟨k0, k1, k2, k3⟩, _⟩ := HTC.out w9 hbx
     clear hbf hmf hbx
     go_upto_region 46 with fail
     go_wp2_with fail
     clear k0 k1 k2 k3 q0 q1
     have hc := forTrees w9 (HTB.out.below HBW9.out hW0) _ AR nR cR g (HG2.out.below HB29.out) HV.out n (wordT t) HWD.out HLT.out (by omega) (few3 HV.out HSM.out (by rw [HWD.out]; omega)) Af mf cf z xf HMF.out (by rw [HST.out, Int.toNat_natCast]; exact HDER.out)
     rw [HT.out, HNE.out, HST.out, Int.toNat_natCast] at hc
     refine hc.mono ?_
     clear hc
     rintro e w10 ⟨hb10, hres⟩
     have HBW10 := zh (HBW9.out.trans (hb10.mono HBW9.out.size))
     have HB810 := zh (HB89.out.trans (hb10.mono HB89.out.size))
     clear hb10
     rcases hres with rfl | ⟨Ao, no, co, lt, rfl, hsl, hlen, hcs, hall⟩
     ·
      --@19
      go_wp2_with fail
      go_ret
      exact ⟨rfl, HBW10.out⟩
     have hno := hsl.len
     by_cases h100 : no = 100
     ·
      subst h100
      clear hsl hlen hcs hall hno
      go_wp2_with fail
      go_ret
      exact ⟨rfl, HBW10.out⟩
     have hne : ¬ (no : Int) = 100 := by omega
     have HANY := zh (show lt.any (fun x => decide (cmpTree x t = 0)) = true from List.any_eq_true.2 ⟨t, hall (by omega) t HKT.out, decide_eq_true (cmpTree_refl t)⟩)
     have HGD := zh (show ∀ x ∈ lt, (∀ y ∈ nodesT x, Leafy y) ∧ sizeT x ≤ 1000000 from fun x hx => ⟨fun y hy e => by
      rcases (hcs x hx).1 y hy with h | h
      · exact h.2
      omega, by have := (hcs x hx).2; omega⟩)
     have HSL1 := zh hsl
     have hno2 : no ≤ 100 := by omega
     have hcapo := hsl.cap
     clear hsl hlen hcs hall hno
     go_wp2_with fail
     refine (containsFnT w10 16 #[.pointer (some ⟨Bt, 0, none⟩)] _ (fun x => decide (cmpTree x t = 0)) Ao no co _ lt entersTop (tellsTop w10 Bt t At mt ct _ (HTR.out w10 HB810.out).1 (HTR.out w10 HB810.out).2 HLV.out (by omega)) HSL1.out HGD.out (by omega)).mono ?_
     rintro e w11 ⟨rfl, hb11⟩
     rw [HANY.out]
     have HBW11 := zh (HBW10.out.trans (hb11.mono HBW10.out.size))
     clear hb11
     go_wp2_with fail
     go_ret
     exact ⟨rfl, HBW11.out⟩
end Go.Proofs.YtjnbjdbndbbanaaGreatDoor
