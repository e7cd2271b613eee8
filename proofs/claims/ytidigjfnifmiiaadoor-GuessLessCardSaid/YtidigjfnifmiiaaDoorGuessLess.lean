/- GuessLess: its walk. -/
import Derived.Test.YtidigjfnifmiiaaDoorGuessAgrees
namespace Go.Proofs.YtidigjfnifmiiaaDoor
open Go.RowKit

set_option linter.unusedSimpArgs false in
set_option maxRecDepth 100000 in
set_option maxHeartbeats 20000000 in
theorem guessLess_walk (W : World) (hTb : Tab W) (A0 : Option Addr) (n0 c0 : Nat) (z0 : List Int) (le0 : n0 ≤ c0) (cap0 : c0 ≤ 17592186043904) (rd0 : Rd W (fun _ => True) 1 A0 n0 (z0.map (Value.int .i64))) (_rg0 : ∀ z ∈ z0, -9223372036854775808 ≤ z ∧ z ≤ 9223372036854775807)
    (A1 : Option Addr) (n1 c1 : Nat) (z1 : List Int) (le1 : n1 ≤ c1) (cap1 : c1 ≤ 17592186043904) (rd1 : Rd W (fun _ => True) 1 A1 n1 (z1.map (Value.int .i64))) (_rg1 : ∀ z ∈ z1, -9223372036854775808 ≤ z ∧ z ≤ 9223372036854775807) :
    Calls Tryd.prog 6 #[.slice A0 n0 c0, .slice A1 n1 c1] W fun e W' => e = .returned (.bool true) ∧ Below W.heap.size W W' := by
  have HT := Lib.hid hTb
  have HR0 := Lib.hid (rd0.slInts le0)
  have HR1 := Lib.hid (rd1.slInts le1)
  have HV := Lib.hid (dfaOf_valid z0)
  clear hTb rd0 rd1 _rg0 _rg1
  go_enter Tryd.func6, Tryd.ntmps6
  --@1
  go_wp2_with fail
  refine (makeDfa _ _ _ _ _ z0 HR0.out (by omega)).mono ?_
  rintro e w1 ⟨Bd, vA, vN, xs, hBd, rfl, hD, hb1⟩
  obtain ⟨d, hd⟩ : ∃ d, d = dfaOf z0 := ⟨_, rfl⟩
  rw [← hd] at hD HV ⊢
  clear hd
  obtain ⟨A, cA, rfl, hcA, _⟩ := hD.ownA.form
  obtain ⟨N, cN, rfl, hcN, _⟩ := hD.ownN.form
  obtain ⟨hsA, hsN⟩ := hD.sl
  have HSA := Lib.hid hsA
  have HSN := Lib.hid hsN
  have HB1 := Lib.hid hb1
  have hz1 := hb1.size
  obtain ⟨nA, hnA⟩ : ∃ k, k = d.2.1.length := ⟨_, rfl⟩
  obtain ⟨nN, hnN⟩ : ∃ k, k = d.2.2.length := ⟨_, rfl⟩
  rw [← hnA] at HSA hcA ⊢
  rw [← hnN] at HSN hcN ⊢
  have hN1 : (0 : Int) < (nN : Int) := by have := HV.out.n1; omega
  obtain ⟨bN, oN, AR, mR, cR, r0, rfl, _, _, hcr, hr0, hrs0⟩ := row_at HSN.out (k := 0) (by omega)
  obtain rfl : mR = cols d := by
    rw [hrs0.len]
    unfold cols
    rw [hr0]
    rfl
  have HCR := Lib.hid hcr
  have hltN : bN < w1.heap.size := cell_lt hcr
  have hc1 : 1 ≤ cols d := HV.out.c1
  have hc2 : cols d ≤ 16 := HV.out.c2
  clear hb1 hD hsA hsN hnA hnN hcr hr0 hrs0
  --@2
  go_wp2_with fail
  obtain ⟨w2, hw2⟩ : ∃ w2 : World, w2 = w1.alloc (.cells #[.int .i64 d.1, .slice A nA cA, .slice (some ⟨bN, oN, none⟩) nN cN] 46) := ⟨_, rfl⟩
  rw [← hw2]
  have hz2 : w2.heap.size = w1.heap.size + 1 := by rw [hw2]; simp
  have hb2 : Below w1.heap.size w1 w2 := by rw [hw2]; exact (Below.refl _ _).alloc (Nat.le_refl _) _
  have HD := Lib.hid (show w2.heap[w1.heap.size]? = some (.cells #[.int .i64 d.1, .slice A nA cA, .slice (some ⟨bN, oN, none⟩) nN cN] 46 (0, 0)) by rw [hw2]; exact heap_alloc_new _ _)
  have HB2 := Lib.hid (HB1.out.trans (hb2.mono hz1))
  have HB12 := Lib.hid hb2
  rw [← hz2]
  clear hw2 hb2
  obtain ⟨hlY, hlN⟩ := lit_words (w := w2)
  refine (guessOfI _ ((HT.out.below HB2.out HT.out.1).below (((((Below.refl w2.heap.size w2).alloc (Nat.le_refl _) _).alloc (by simp) _).alloc (by simp; omega) _).alloc (by simp; omega) _) (by have := HT.out.1; have := HB2.out.size; omega)) 1 1 1 1 rfl rfl (by omega) (by omega) (by omega) (by omega) _ _ 1 1 _ hlY _ _ 1 1 _ hlN (by omega) (by omega) (by decide) (by decide) (by decide)).mono ?_
  rintro e w3 ⟨⟨ga, gb, gs, AG, nG, cG, q, rfl, hq⟩, hb3⟩
  rcases hq with ⟨rfl, rfl, rfl, rfl, rs, hrs, hsg⟩ | ⟨_, hno⟩
  case inr => obtain ⟨rs, hrs⟩ := one_found; rw [show guessP (agF ((1 : Nat) : Int) ((1 : Nat) : Int) [[0]] [[]]) (rulesP 1 1) = guessP (agF 1 1 [[0]] [[]]) (rulesP 1 1) from rfl, hrs] at hno; cases hno
  obtain rfl : nG = 1 := by rw [hsg.len]; exact one_guess hrs
  have hz3 := hb3.size
  simp only [World.size_alloc] at hz3
  have HB3 := Lib.hid (show Below w2.heap.size w2 w3 from (((((Below.refl w2.heap.size w2).alloc (Nat.le_refl _) _).alloc (by simp) _).alloc (by simp; omega) _).alloc (by simp; omega) _).trans (hb3.mono (by simp; omega)))
  clear hlY hlN hb3 hsg hrs
  have hd3 := (HB3.out.block _ (by omega)).trans HD.out
  have kd2 : w3.cell? ⟨w1.heap.size, 2, none⟩ = some (.slice (some ⟨bN, oN, none⟩) nN cN) := by simp [World.cell?, hd3]
  have ltD : w1.heap.size < w3.heap.size := by omega
  have kr : w3.cell? ⟨bN, oN, none⟩ = some (.slice AR (cols d) cR) := ((HB12.out.trans (HB3.out.mono (by omega))).cell hltN).trans HCR.out
  have hltN3 : bN < w3.heap.size := by omega
  obtain ⟨tt, htt⟩ : ∃ q : Nat, q = min 2 (cols d) := ⟨_, rfl⟩
  have hmin : min 2 (cols d : Int) = (tt : Int) := by omega
  have ht1 : 1 ≤ tt := by omega
  have ht2 : tt ≤ 2 := by omega
  obtain ⟨kd0, kd1⟩ : w3.cell? ⟨w1.heap.size, 0, none⟩ = some (.int .i64 d.1) ∧ w3.cell? ⟨w1.heap.size, 1, none⟩ = some (.slice A nA cA) := by simp [World.cell?, hd3]
  clear hd3 htt
  --@3
  go_wp2_with fail
  obtain ⟨w4, hw4⟩ : ∃ w4 : World, w4 = w3.alloc (.cells #[.int .i64 1, .int .i64 1, .int .i64 0, .slice AG 1 cG] 25) := ⟨_, rfl⟩
  rw [← hw4]
  have hz4 : w3.heap.size < w4.heap.size := by rw [hw4]; simp
  have HB24 := Lib.hid (show Below w2.heap.size w2 w4 by rw [hw4]; exact HB3.out.alloc HB3.out.size _)
  clear hw4 kd0 kd1 kd2 kr hmin
  have HB14 := Lib.hid (HB12.out.trans (HB24.out.mono (by omega)))
  have HB4 := Lib.hid (HB2.out.trans (HB24.out.mono HB2.out.size))
  refine (keepFewer w4 _ A nA cA (some ⟨bN, oN, none⟩) nN cN d (HSA.out.below HB14.out) (HSN.out.below HB14.out) HV.out (tt : Int) _ A1 n1 c1 z1 (HR1.out.below HB4.out) (by omega)).mono ?_
  rintro e w5 ⟨⟨Ay, ny, cy, An, nn, cn, ys, ns, rfl, hsy, hsn, hok⟩, hb5⟩
  have hny : ny ≤ 3 := by rw [hsy.len]; exact hok.ly
  have hnn : nn ≤ 3 := by rw [hsn.len]; exact hok.ln
  have hz5 := hb5.size
  have HSY := Lib.hid hsy
  have HSN5 := Lib.hid hsn
  have HOK := Lib.hid hok
  have HYO := Lib.hid (show ∀ x ∈ ys, x.length ≤ 5 ∧ ∀ y ∈ x, 0 ≤ y ∧ y < (tt : Int) from fun x hx => ⟨by have := (hok.yes x hx).2.1; omega, (hok.yes x hx).2.2⟩)
  have HNO := Lib.hid (show ∀ x ∈ ns, x.length ≤ 5 ∧ ∀ y ∈ x, 0 ≤ y ∧ y < (tt : Int) from fun x hx => ⟨by have := (hok.no x hx).2.1; omega, (hok.no x hx).2.2⟩)
  have HDJ := Lib.hid (show ∀ x ∈ ys, x ∉ ns from fun x hx hx2 => by
    have h1 := (hok.yes x hx).1
    rw [(hok.no x hx2).1] at h1
    cases h1)
  have HB5 := Lib.hid (HB4.out.trans (hb5.mono HB4.out.size))
  have HT5 := Lib.hid (HT.out.below HB5.out HT.out.1)
  clear hsy hsn hok hb5
  --@4
  go_wp2_with fail
  refine (guessOfI w5 HT5.out tt 1 _ _ rfl rfl ht1 ht2 (by omega) (by omega) _ Ay ny cy ys HSY.out _ An nn cn ns HSN5.out (by omega) (by omega) HYO.out HNO.out HDJ.out).mono ?_
  rintro e w6 ⟨⟨ga, gb, gs, AG6, nG, cG6, q, rfl, hq⟩, hb6⟩
  have hz6 := hb6.size
  have HB6 := Lib.hid (HB5.out.trans (hb6.mono HB5.out.size))
  have HBS := Lib.hid hb6
  rcases hq with ⟨rfl, rfl, rfl, rfl, rs, hrs, hsg⟩ | ⟨rfl, hno⟩
  case inr =>
    clear hb6 hno
    --@5
    go_wp2_with fail
    go_ret
    exact ⟨rfl, HB6.out.alloc HB6.out.size _⟩
  by_cases hny0 : ny = 0
  · subst hny0
    clear hb6 hrs hsg
    --@6
    go_wp2_with fail
    go_ret
    exact ⟨rfl, HB6.out.alloc HB6.out.size _⟩
  · have hnyI : ((ny : Int) == 0) = false := by simp; omega
    have hnyJ : (1 : Int) ≤ (ny : Int) := by omega
    have hnG : nG = rs.length := hsg.len
    obtain ⟨y, ys', rfl⟩ : ∃ y ys', ys = y :: ys' := by
      cases ys with
      | nil => exact absurd HSY.out.len hny0
      | cons y ys' => exact ⟨y, ys', rfl⟩
    obtain ⟨rs2, hrs2, hle⟩ := guessP_less (ag' := agF (tt : Int) ((1 : Nat) : Int) ys' ns) agF_tail hrs
    have HRS2 := Lib.hid hrs2
    have HLE := Lib.hid hle
    have HNG := Lib.hid hnG
    obtain ⟨A2, hcut, hsl2⟩ := HSY.out.cutE tIntssE rfl 1 (by omega)
    have hcut1 : ∀ u, (Instr.slice 44 (.slice Ay ny cy) (some (.int .i64 1)) none none).run Tryd.prog u = .ok (.slice A2 (ny - 1) (cy - 1)) u := hcut
    rw [List.drop_one, List.tail_cons] at hsl2
    have HSL2 := Lib.hid hsl2
    obtain ⟨my, hmy⟩ : ∃ q, q = ny - 1 := ⟨_, rfl⟩
    obtain ⟨mc, hmc⟩ : ∃ q, q = cy - 1 := ⟨_, rfl⟩
    rw [← hmy, ← hmc] at hcut1 HSL2
    have hmy3 : my ≤ 3 := by omega
    clear hb6 hrs hrs2 hle hnG hcut hsl2 hsg hmy hmc
    --@7
    go_wp2_with fail
    obtain ⟨w7, hw7⟩ : ∃ w7 : World, w7 = w6.alloc (.cells #[.int .i64 (tt : Int), .int .i64 1, .int .i64 0, .slice AG6 nG cG6] 25) := ⟨_, rfl⟩
    rw [← hw7]
    have hz7 : w6.heap.size < w7.heap.size := by rw [hw7]; simp
    have hb7 : Below w6.heap.size w6 w7 := by rw [hw7]; exact (Below.refl _ _).alloc (Nat.le_refl _) _
    have HGB := Lib.hid (show w7.heap[w6.heap.size]? = some (.cells #[.int .i64 (tt : Int), .int .i64 1, .int .i64 0, .slice AG6 nG cG6] 25 (0, 0)) by rw [hw7]; exact heap_alloc_new _ _)
    have HB7 := Lib.hid (HB6.out.trans (hb7.mono HB6.out.size))
    have HB57 := Lib.hid (HBS.out.trans (hb7.mono HBS.out.size))
    clear hw7 hb7 hcut1
    refine (guessOfI w7 (HT.out.below HB7.out HT.out.1) tt 1 _ _ rfl rfl ht1 ht2 (by omega) (by omega) _ A2 my mc ys' (HSL2.out.below HB57.out) _ An nn cn ns (HSN5.out.below HB57.out) (by omega) (by omega) (fun x hx => HYO.out x (List.mem_cons_of_mem _ hx)) HNO.out (fun x hx => HDJ.out x (List.mem_cons_of_mem _ hx))).mono ?_
    rintro e w8 ⟨⟨ha, hb, hs, AH, nH, cH, q2, rfl, hq2⟩, hb8⟩
    have hz8 := hb8.size
    rcases hq2 with ⟨rfl, rfl, rfl, rfl, rs3, hrs3, hsg3⟩ | ⟨_, hno⟩
    case inr => rw [HRS2.out] at hno; cases hno
    have hle2 : (nH : Int) ≤ (nG : Int) := by
      have h1 := HRS2.out
      rw [hrs3] at h1
      injection h1 with h1
      have h2 := hsg3.len
      have h3 := HLE.out
      have h4 := HNG.out
      rw [h1] at h2
      omega
    have hg8 := (hb8.block _ hz7).trans HGB.out
    have k3 : w8.cell? ⟨w6.heap.size, 3, none⟩ = some (.slice AG6 nG cG6) := by simp [World.cell?, hg8]
    have hl8 : w6.heap.size < w8.heap.size := by omega
    have HB8 := Lib.hid (HB7.out.trans (hb8.mono HB7.out.size))
    clear hb8 hg8 hsg3 hrs3
    --@8
    go_wp2_with fail
    go_ret
    exact ⟨rfl, HB8.out.alloc HB8.out.size _⟩
end Go.Proofs.YtidigjfnifmiiaaDoor
