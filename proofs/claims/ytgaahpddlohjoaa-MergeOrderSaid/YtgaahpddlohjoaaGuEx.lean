/- parlkeep5.examples: words that an automaton accepts, and words that it does not. -/
import Derived.Test.YtgaahpddlohjoaaDfaV
import Derived.Test.YtgaahpddlohjoaaDfaRun
import Derived.Test.YtgaahpddlohjoaaMakeWord
import Derived.Test.YtgaahpddlohjoaaSlIdxW
import Derived.Test.YtgaahpddlohjoaaBelow
import Derived.Test.YtgaahpddlohjoaaRow
import Derived.Lib.MinMax
namespace Go.Proofs.Ytgaahpddlohjoaa
open Go.RowKit

theorem tIntssE : SlType Try.prog 23 22 1 24 (.slice none 0 0) := ⟨by kernel_rfl, by kernel_rfl, by kernel_rfl, rfl, by decide⟩
theorem Sl.cutE {α : Type} {R : Rep α} {P : Program} {T E s bytes : Nat} {z : Value} (hT : SlType P T E s bytes z) (hs : R.size = s) {w : World} {S : Nat → Prop} {A : Option Addr} {n c : Nat} {l : List α} (h : Sl R w S A n c l) (k : Nat) (hk : k ≤ n) :
    ∃ A', (∀ u, (Instr.slice T (.slice A n c) (some (.int .i64 (k : Int))) none none).run P u = .ok (.slice A' (n - k) (c - k)) u) ∧ Sl R w S A' (n - k) (c - k) (l.drop k) := by
  subst hs
  obtain ⟨xs, h1, h2, h3, h4⟩ := h
  obtain ⟨A', hrun, hr⟩ := hT.cutl (c := c) h3 (k : Int) (by omega) (by omega) h2
  rw [Int.toNat_natCast] at hr
  refine ⟨A', fun u => by rw [hrun u, Int.toNat_natCast], xs.drop (k * R.size), by rw [List.length_drop]; omega, by omega, hr, h4.drop⟩
/-- two rows of words of the call's own, apart from each other and from the words -/
structure TwoW (w : World) (base : Nat) (vy vn : Value) (ys ns : List (List Int)) : Prop where
  oy : ∃ xs, Own w base 22 1 vy ys.length xs ∧ Cells RIV w (fun b => base ≤ b ∧ rowOf vy ≠ some b ∧ rowOf vn ≠ some b) xs ys
  on : ∃ xs, Own w base 22 1 vn ns.length xs ∧ Cells RIV w (fun b => base ≤ b ∧ rowOf vy ≠ some b ∧ rowOf vn ≠ some b) xs ns
  ne : ∀ g, rowOf vy = some g → rowOf vn ≠ some g
section
variable {w w' : World} {base : Nat} {vy vn : Value} {ys ns : List (List Int)}
theorem TwoW.swap (h : TwoW w base vy vn ys ns) : TwoW w base vn vy ns ys := by
  obtain ⟨⟨x1, a1, b1⟩, ⟨x2, a2, b2⟩, h3⟩ := h
  exact ⟨⟨x2, a2, b2.more fun b hb => ⟨hb.1, hb.2.2, hb.2.1⟩⟩, ⟨x1, a1, b1.more fun b hb => ⟨hb.1, hb.2.2, hb.2.1⟩⟩, fun g e1 e2 => h3 g e2 e1⟩
theorem TwoW.below (h : TwoW w base vy vn ys ns) (hb : Below w.heap.size w w') : TwoW w' base vy vn ys ns := by
  obtain ⟨⟨x1, a1, b1⟩, ⟨x2, a2, b2⟩, h3⟩ := h
  exact ⟨⟨x1, a1.below hb (Nat.le_refl _), b1.keep (.below hb)⟩, ⟨x2, a2.below hb (Nat.le_refl _), b2.keep (.below hb)⟩, h3⟩
theorem TwoW.formY (h : TwoW w base vy vn ys ns) : ∃ A c, vy = .slice A ys.length c ∧ ys.length ≤ c := by
  obtain ⟨⟨x1, a1, _⟩, _, _⟩ := h
  obtain ⟨A, c, e, h1, _⟩ := a1.form
  exact ⟨A, c, e, h1⟩
theorem TwoW.formN (h : TwoW w base vy vn ys ns) : ∃ A c, vn = .slice A ns.length c ∧ ns.length ≤ c := h.swap.formY
theorem TwoW.rowY (h : TwoW w base vy vn ys ns) {g : Nat} (hg : rowOf vy = some g) : base ≤ g ∧ g < w.heap.size := by
  obtain ⟨⟨x1, a1, _⟩, _, _⟩ := h
  exact a1.row hg
theorem TwoW.rowN (h : TwoW w base vy vn ys ns) {g : Nat} (hg : rowOf vn = some g) : base ≤ g ∧ g < w.heap.size := h.swap.rowY hg
/-- 'yes = append(yes, w)' -/
theorem TwoW.push (h : TwoW w base vy vn ys ns) (hl : ys.length ≤ 1000) (hbase : base ≤ w.heap.size) {A : Option Addr} {n c : Nat} {x : List Int} (hs : Sl Rep.int w (fun b => base ≤ b ∧ rowOf vy ≠ some b ∧ rowOf vn ≠ some b) A n c x) :
    ∃ A2 c2 w2, (Builtin.append_ #[23, 23] 23 #[vy, .slice (some ⟨w.heap.size, 0, none⟩) 1 1]).run Try.prog (w.alloc (.cells #[.slice A n c] 22)) = .ok (.slice A2 (ys.length + 1) c2) w2 ∧
      TwoW w2 base (.slice A2 (ys.length + 1) c2) vn (ys ++ [x]) ns ∧ Below base w w2 := by
  obtain ⟨⟨x1, a1, b1⟩, ⟨x2, a2, b2⟩, h3⟩ := h
  have hrd : Rd (w.alloc (.cells #[.slice A n c] 22)) (fun _ => True) 1 (some ⟨w.heap.size, 0, none⟩) 1 [.slice A n c] :=
    ⟨rfl, fun _ => ⟨w.heap.size, 0, rfl, trivial, fun j u hj => by
      match j, hj with
      | 0, hj => injection hj with hj; subst hj; have := heap_alloc_new w (.cells #[.slice A n c] 22); simp only [World.cell?, this]; rfl⟩⟩
  obtain ⟨v', w2, hrun, ho, hg, hrow⟩ := run_append_Own tIntssE (w.alloc (.cells #[.slice A n c] 22)) 23 base vy ys.length x1 (a1.alloc _) (fun _ => True) (some ⟨w.heap.size, 0, none⟩) 1 1 [.slice A n c] hrd (by intro u hu; obtain rfl := List.mem_singleton.1 hu; rfl) (by unfold maxLen; omega) (by omega) (by simp; omega)
  obtain ⟨A2, c2, rfl, _, _⟩ := ho.form
  have hz : (w.alloc (.cells #[.slice A n c] 22)).heap.size = w.heap.size + 1 := by simp
  have hrow' : ∀ b, b < w.heap.size → rowOf vy ≠ some b → rowOf (.slice A2 (ys.length + 1) c2) ≠ some b := fun b hb hne e => by
    rcases hrow with h | h
    · exact hne (h ▸ e)
    · rw [h] at e
      injection e with e
      omega
  have hkeep : ∀ {xs : List Value} {l : List (List Int)}, Cells RIV w (fun b => base ≤ b ∧ rowOf vy ≠ some b ∧ rowOf vn ≠ some b) xs l → Cells RIV w2 (fun b => base ≤ b ∧ rowOf (.slice A2 (ys.length + 1) c2) ≠ some b ∧ rowOf vn ≠ some b) xs l := fun hc => by
    refine ((hc.fit.keep (.alloc _ _ _)).keep (Kept.grown hg fun b hb e => hb.1.2.1 e)).more fun b hb => ⟨hb.1.1, hrow' b hb.2 hb.1.2.1, hb.1.2.2⟩
  refine ⟨A2, c2, w2, hrun, ⟨⟨x1 ++ [.slice A n c], by simpa using ho, hkeep (b1.append (Cells.single ⟨A, n, c, rfl, hs⟩))⟩, ⟨x2, (a2.alloc _).kept hg (fun g e e2 => h3 g e e2), hkeep b2⟩, fun g e e2 => ?_⟩, ((Below.refl _ _).alloc hbase _).trans (Below.own (Below.refl _ _) (a1.alloc _) hg (Nat.le_refl _) (by omega))⟩
  rcases hrow with h | h
  · exact h3 g (h ▸ e) e2
  · rw [h] at e
    injection e with e
    have := (a2.row e2).2
    omega
end
theorem TwoW.mono {w : World} {base base' : Nat} {vy vn : Value} {ys ns : List (List Int)} (h : TwoW w base vy vn ys ns) (hb : base' ≤ base) : TwoW w base' vy vn ys ns := by
  obtain ⟨⟨x1, a1, b1⟩, ⟨x2, a2, b2⟩, h3⟩ := h
  exact ⟨⟨x1, a1.mono hb, b1.more fun b hb' => ⟨Nat.le_trans hb hb'.1, hb'.2⟩⟩, ⟨x2, a2.mono hb, b2.more fun b hb' => ⟨Nat.le_trans hb hb'.1, hb'.2⟩⟩, h3⟩
theorem TwoW.nil (w : World) (base : Nat) : TwoW w base (.slice none 0 0) (.slice none 0 0) [] [] := ⟨⟨[], Own.nil _ _ _ _ _, Cells.nil⟩, ⟨[], Own.nil _ _ _ _ _, Cells.nil⟩, fun g e => by cases e⟩
/-- what examples are -/
structure ExOk (d : DfaD) (ys ns : List (List Int)) : Prop where
  len : ys.length + ns.length ≤ 12
  yes : ∀ x ∈ ys, daccept d x = true ∧ x.length ≤ 4 ∧ ∀ y ∈ x, 0 ≤ y ∧ y < (cols d : Int)
  no : ∀ x ∈ ns, daccept d x = false ∧ x.length ≤ 4 ∧ ∀ y ∈ x, 0 ≤ y ∧ y < (cols d : Int)
theorem wordOf_ok (t : Nat) (ht : 1 ≤ t) (most : Nat) (hm : most ≤ 4) (l : List Int) : (wordOf t most l).length ≤ 4 ∧ ∀ y ∈ wordOf t most l, 0 ≤ y ∧ y < (t : Int) := by
  refine ⟨by rw [wordOf_len]; omega, fun y hy => ?_⟩
  obtain ⟨x, _, rfl⟩ := List.mem_map.1 hy
  exact ⟨Int.emod_nonneg _ (by omega), Int.emod_lt_of_pos _ (by omega)⟩
/-- what examples returns -/
def ExR (d : DfaD) (base : Nat) (e : Ending) (w' : World) : Prop := ∃ (Ay : Option Addr) (cy : Nat) (An : Option Addr) (cn : Nat) (ys ns : List (List Int)), e = .returned (.tuple #[.slice Ay ys.length cy, .slice An ns.length cn]) ∧ TwoW w' base (.slice Ay ys.length cy) (.slice An ns.length cn) ys ns ∧ ExOk d ys ns
set_option linter.unusedSimpArgs false in
set_option maxRecDepth 100000 in
set_option maxHeartbeats 8000000 in
theorem keepExamples (w : World) (S : Nat → Prop) (A : Option Addr) (nA cA : Nat) (N : Option Addr) (nN cN : Nat) (d : DfaD) (hA : Sl Rep.int w S A nA cA d.2.1) (hN : Sl RI w S N nN cN d.2.2) (hv : Valid d)
    (Sl_ : Nat → Prop) (Al : Option Addr) (nl cl : Nat) (l : List Int) (hl : Sl Rep.int w Sl_ Al nl cl l) (hnl : nl ≤ 1000000000000000) :
    Calls Try.prog 35 #[.agg #[.int .i64 d.1, .slice A nA cA, .slice N nN cN], .slice Al nl cl] w fun e w' => ExR d w.heap.size e w' ∧ Below w.heap.size w w' := by
  have HA := Lib.hid hA
  have HN := Lib.hid hN
  have HV := Lib.hid hv
  have HL := Lib.hid hl.fit
  clear hA hN hv hl
  obtain ⟨bN, oN, AR, mR, cR, r0, rfl, _, _, hcr, hr0, hrs0⟩ := row_at HN.out (k := 0) (by have := HV.out.n1; have := HN.out.len; omega)
  have hmR : mR = cols d := by
    rw [hrs0.len]
    unfold cols
    rw [hr0]
    rfl
  subst hmR
  have HCR := Lib.hid hcr
  have hnN : (0 : Int) < (nN : Int) := by have := HV.out.n1; have := HN.out.len; omega
  have hltN := cell_lt hcr
  have hc1 : 1 ≤ cols d := HV.out.c1
  have hc2 : cols d ≤ 16 := HV.out.c2
  clear hcr hr0 hrs0
  go_enter Try.func35, Try.ntmps35
  --@1
  go_wp2_with fail
  obtain ⟨w1, hw1⟩ : ∃ w1 : World, w1 = w.alloc (.cells #[.int .i64 d.1, .slice A nA cA, .slice (some ⟨bN, oN, none⟩) nN cN] 25) := ⟨_, rfl⟩
  rw [← hw1]
  have hz1 : w1.heap.size = w.heap.size + 1 := by rw [hw1]; simp
  have hb1 : Below w.heap.size w w1 := by rw [hw1]; exact (Below.refl _ _).alloc (Nat.le_refl _) _
  have HD := Lib.hid (show w1.heap[w.heap.size]? = some (.cells #[.int .i64 d.1, .slice A nA cA, .slice (some ⟨bN, oN, none⟩) nN cN] 25 (0, 0)) by rw [hw1]; exact heap_alloc_new _ _)
  have HB1 := Lib.hid hb1
  have HL1 := Lib.hid (HL.out.below hb1)
  clear hw1 hb1
  go_loopg [1, 6, 7] nl (fun gk vl vy vn wr => ∃ (m c : Nat) (A' : Option Addr) (l' : List Int) (ys ns : List (List Int)), gk = m ∧ vl = .slice A' m c ∧ Sl Rep.int wr (fun b => Sl_ b ∧ b < w.heap.size) A' m c l' ∧ m ≤ 1000000000000000 ∧ TwoW wr w1.heap.size vy vn ys ns ∧ ExOk d ys ns ∧ Below w1.heap.size w1 wr)
  case atStart => exact ⟨nl, cl, Al, l, [], [], rfl, rfl, HL1.out, hnl, TwoW.nil _ _, ⟨by simp, fun x hx => by simp at hx, fun x hx => by simp at hx⟩, Below.refl _ _⟩
  case round =>
    obtain ⟨m, cm, A', l', ys, ns, hgk, rfl, hsl, hm, htw, hok, hb⟩ := hrel
    obtain ⟨Ay, cy, rfl, hcy⟩ := htw.formY
    obtain ⟨An, cn, rfl, hcn⟩ := htw.formN
    obtain ⟨ky, hky⟩ : ∃ k, k = ys.length := ⟨_, rfl⟩
    obtain ⟨kn, hkn⟩ : ∃ k, k = ns.length := ⟨_, rfl⟩
    rw [← hky] at htw hcy
    rw [← hkn] at htw hcn
    have hol := hok.len
    have HGK := Lib.hid hgk
    have HSL := Lib.hid hsl
    have HTW := Lib.hid htw
    have HOK := Lib.hid hok
    have HB := Lib.hid hb
    have hzr := hb.size
    have hk12 : ky + kn ≤ 12 := by omega
    have HKY := Lib.hid hky
    have HKN := Lib.hid hkn
    obtain ⟨w3, rfl⟩ : ∃ w3 : World, w3 = wr := ⟨_, rfl⟩
    rw [← hky, ← hkn]
    clear hgk hsl htw hok hb hol hky hkn
    have HEND := Lib.hid (show ExR d w.heap.size (.returned (.tuple #[.slice Ay ky cy, .slice An kn cn])) w3 ∧ Below w.heap.size w w3 by
      refine ⟨⟨Ay, cy, An, cn, ys, ns, by rw [← HKY.out, ← HKN.out], ?_, HOK.out⟩, HB1.out.trans (HB.out.mono (by omega))⟩
      rw [← HKY.out, ← HKN.out]
      exact HTW.out.mono (by omega))
    by_cases hm0 : m = 0
    · subst hm0
      --@2
      go_wp2_with fail
      refine bodyPost_ret (v := .tuple #[.slice Ay ky cy, .slice An kn cn]) (by simp [results, Try.results35, go_sem]) rfl ?_
      exact HEND.out
    · by_cases hk : ky + kn < 12
      · obtain ⟨b, off, x, rfl, _, hx, hcx⟩ := HSL.out.ints.int_at (k := 0) (by omega)
        rw [Nat.add_zero] at hcx
        obtain ⟨A2, hcut, hsl2⟩ := HSL.out.cutE tInts rfl 1 (by omega)
        have hmI : (0 : Int) < (m : Int) := by omega
        have hkI : (ky : Int) + (kn : Int) < 12 := by omega
        obtain ⟨most, hmost⟩ : ∃ q : Nat, x % 5 = (q : Int) := ⟨(x % 5).toNat, by omega⟩
        have hmost4 : most ≤ 4 := by omega
        have hmostI : (most : Int) ≤ 4 := by omega
        obtain ⟨mm, hmm⟩ : ∃ q, q = m - 1 := ⟨_, rfl⟩
        obtain ⟨cc, hcc⟩ : ∃ q, q = cm - 1 := ⟨_, rfl⟩
        rw [← hmm, ← hcc] at hsl2
        have HSL2 := Lib.hid hsl2
        have hcut1 : ∀ u, (Instr.slice 22 (.slice (some ⟨b, off, none⟩) m cm) (some (.int .i64 1)) none none).run Try.prog u = .ok (.slice A2 mm cc) u := by rw [hmm, hcc]; exact hcut
        obtain ⟨j, hj⟩ : ∃ q : Nat, q = min mm most := ⟨_, rfl⟩
        have hjm : j ≤ mm := by omega
        have hmin : min (mm : Int) (most : Int) = (j : Int) := by omega
        obtain ⟨A3, hcut3, hsl3⟩ := hsl2.cutE tInts rfl j hjm
        have HSL3 := Lib.hid hsl3
        have hmm2 : mm < m := by omega
        have hmm3 : mm ≤ 1000000000000000 := by omega
        clear hsl2 hsl3 hmm hcc hj
        clear hcut
        have hd3 := (HB.out.block _ (by omega)).trans HD.out
        have hN3 : w3.cell? ⟨w.heap.size, 2, none⟩ = some (.slice (some ⟨bN, oN, none⟩) nN cN) := by simp [World.cell?, hd3]
        have hr3 : w3.cell? ⟨bN, oN, none⟩ = some (.slice AR (cols d) cR) := ((HB1.out.trans (HB.out.mono (by omega))).cell hltN).trans HCR.out
        clear hd3
        --@3
        go_wp2_with fail
        refine (keepBelow x 5 _ (by omega) (by omega)).mono ?_
        rintro e w4 ⟨he, rfl⟩
        rw [hmost] at he
        subst he
        clear hmost hcx
        --@4
        go_wp2_with fail
        clear hN3 hr3 hcut1
        refine (makeWord (cols d) most A2 mm cc _ (l'.drop 1) w3 HSL2.out.ints (by omega) hc1 (by omega) (by omega)).mono ?_
        rintro e w5 ⟨AW, nW, cW, rfl, hsw, hb5⟩
        obtain ⟨hwl, hwx⟩ := wordOf_ok (cols d) hc1 most hmost4 (l'.drop 1)
        have HWX := Lib.hid hwx
        have hnW : nW ≤ 4 := by have := hsw.len; omega
        have HWL := Lib.hid hwl
        have HSW := Lib.hid hsw
        have HB5 := Lib.hid hb5
        have hz5 := hb5.size
        clear hwl hwx hsw hb5
        have hd5 := ((HB.out.trans (HB5.out.mono hzr)).block _ (by omega)).trans HD.out
        obtain ⟨k0, k1, k2⟩ : w5.cell? ⟨w.heap.size, 0, none⟩ = some (.int .i64 d.1) ∧ w5.cell? ⟨w.heap.size, 1, none⟩ = some (.slice A nA cA) ∧ w5.cell? ⟨w.heap.size, 2, none⟩ = some (.slice (some ⟨bN, oN, none⟩) nN cN) := by simp [World.cell?, hd5]
        have HB05 := Lib.hid (HB1.out.trans ((HB.out.trans (HB5.out.mono hzr)).mono (by omega)))
        clear hd5
        --@5
        go_wp2_with fail
        refine (keepAccepts w5 (fun b => S b) A nA cA (some ⟨bN, oN, none⟩) nN cN d (HA.out.below HB05.out) (HN.out.below HB05.out) HV.out _ AW nW cW _ HSW.out (by omega) HWX.out).mono ?_
        rintro e w6 ⟨rfl, hb6⟩
        have hz6 := hb6.size
        obtain ⟨q, hq⟩ : ∃ q, q = daccept d (wordOf (cols d) most (l'.drop 1)) := ⟨_, rfl⟩
        rw [← hq]
        have HQ0 := Lib.hid hq.symm
        have HB36 := Lib.hid (show Below w1.heap.size w3 w6 from (HB5.out.mono hzr).trans (hb6.mono (by omega)))
        have HSW6 := Lib.hid (HSW.out.below hb6)
        have HTW6 := Lib.hid ((HTW.out.below HB5.out).below hb6)
        clear hb6 hq
        cases q with
        | true =>
          have HQ := Lib.hid HQ0.out
          obtain ⟨A7, c7, w7, hrun, hpt, hb7⟩ := HTW6.out.push (by have := HOK.out.len; omega) (by omega) (HSW6.out.more fun b hb => by
            have h1 : rowOf (.slice Ay ky cy) ≠ some b := fun e => by have := (HTW.out.rowY e).2; omega
            have h2 : rowOf (.slice An kn cn) ≠ some b := fun e => by have := (HTW.out.rowN e).2; omega
            exact ⟨by omega, h1, h2⟩)
          rw [← HKY.out] at hrun hpt
          have HRUN := Lib.hid hrun
          have HPT := Lib.hid hpt
          have HB67 := Lib.hid hb7
          have HB7 := Lib.hid (HB.out.trans (HB36.out.trans (hb7.mono (by omega))))
          have HSL7 := Lib.hid (HSL3.out.keep (Kept.belowB (HB36.out.trans (hb7.mono (by omega))) fun b hb => by omega))
          clear hrun hpt hb7 k0 k1 k2 hmin hcut3
          go_wp2_with (at_builtin; refine Lib.wpList_append_run (o := ⟨some 47, _, _, _, _, _⟩) _ rfl _ _ _ _ rfl _ _ rfl rfl _ _ HRUN.out ?_)
          go_roundg (mm - j)
          case measure => rw [HGK.out]; omega
          case rel => 
            exact ⟨mm - j, cc - j, A3, _, ys ++ [_], ns, rfl, rfl, HSL7.out, by omega, HPT.out, ⟨by have h1 := HOK.out.len; have h2 := HKY.out; have h3 := HKN.out; simp; omega, fun x hx => by
              rcases List.mem_append.1 hx with hx | hx
              · exact HOK.out.yes x hx
              · obtain rfl := List.mem_singleton.1 hx
                exact ⟨HQ.out, HWL.out, HWX.out⟩, HOK.out.no⟩, HB7.out⟩
        | false =>
          have HQ := Lib.hid HQ0.out
          obtain ⟨A7, c7, w7, hrun, hpt, hb7⟩ := HTW6.out.swap.push (by have := HOK.out.len; omega) (by omega) (HSW6.out.more fun b hb => by
            have h1 : rowOf (.slice Ay ky cy) ≠ some b := fun e => by have := (HTW.out.rowY e).2; omega
            have h2 : rowOf (.slice An kn cn) ≠ some b := fun e => by have := (HTW.out.rowN e).2; omega
            exact ⟨by omega, h2, h1⟩)
          rw [← HKN.out] at hrun hpt
          have HRUN := Lib.hid hrun
          have HPT := Lib.hid hpt.swap
          have HB67 := Lib.hid hb7
          have HB7 := Lib.hid (HB.out.trans (HB36.out.trans (hb7.mono (by omega))))
          have HSL7 := Lib.hid (HSL3.out.keep (Kept.belowB (HB36.out.trans (hb7.mono (by omega))) fun b hb => by omega))
          clear hrun hpt hb7 k0 k1 k2 hmin hcut3
          go_wp2_with (at_builtin; refine Lib.wpList_append_run (o := ⟨some 51, _, _, _, _, _⟩) _ rfl _ _ _ _ rfl _ _ rfl rfl _ _ HRUN.out ?_)
          go_roundg (mm - j)
          case measure => rw [HGK.out]; omega
          case rel => 
            exact ⟨mm - j, cc - j, A3, _, ys, ns ++ [_], rfl, rfl, HSL7.out, by omega, HPT.out, ⟨by have h1 := HOK.out.len; have h2 := HKY.out; have h3 := HKN.out; simp; omega, HOK.out.yes, fun x hx => by
              rcases List.mem_append.1 hx with hx | hx
              · exact HOK.out.no x hx
              · obtain rfl := List.mem_singleton.1 hx
                exact ⟨HQ.out, HWL.out, HWX.out⟩⟩, HB7.out⟩
      · have hkI : ¬ ((ky : Int) + (kn : Int) < 12) := by omega
        have hmI : (0 : Int) < (m : Int) := by omega
        go_wp2_with fail
        refine bodyPost_ret (v := .tuple #[.slice Ay ky cy, .slice An kn cn]) (by simp [results, Try.results35, go_sem]) rfl ?_
        exact HEND.out
end Go.Proofs.Ytgaahpddlohjoaa
