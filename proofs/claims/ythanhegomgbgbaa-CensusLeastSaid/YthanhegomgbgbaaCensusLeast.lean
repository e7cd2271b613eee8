/- CensusLeast: its walk. -/
import Derived.Test.YthanhegomgbgbaaLeast
import Derived.Test.YthanhegomgbgbaaTotal
import Derived.Test.YthanhegomgbgbaaSlIdxFn
namespace Go.Proofs.Ythanhegomgbgbaa
open Go.RowKit

set_option maxRecDepth 100000 in
set_option maxHeartbeats 1000000 in
theorem usefulLens (w : World) (S : Nat → Prop) (AR : Option Addr) (nR cR : Nat) (g : GramD) (hg : Sl RRule w S AR nR cR g.2.2.2) (hv : GValid g) :
    Calls Try.prog 60 #[.agg #[.int .i64 g.1, .int .i64 g.2.1, .int .i64 g.2.2.1, .slice AR nR cR]] w fun e w' => (∃ (A : Option Addr) (c : Nat) (ls : List Int), e = .returned (.tuple #[.slice A (nonsOf g) c, .int .i64 0]) ∧ Rd w' (fun b => w.heap.size ≤ b) 1 A (nonsOf g) (ls.map (Value.int .i64)) ∧ nonsOf g ≤ c ∧ ls.length = nonsOf g ∧ LeastOk g.2.2.2 ls) ∧ Below w.heap.size w w' := by
  have HG := Lib.hid (hg.alloc (.cells #[.int .i64 g.1, .int .i64 g.2.1, .int .i64 g.2.2.1, .slice AR nR cR] 25))
  have HV := Lib.hid hv
  clear hg hv
  have hall : ∀ u : World, Below (w.heap.size + 1) (w.alloc (.cells #[.int .i64 g.1, .int .i64 g.2.1, .int .i64 g.2.2.1, .slice AR nR cR] 25)) u → u.cell? ⟨w.heap.size, 0, none⟩ = some (.int .i64 g.1) ∧ u.cell? ⟨w.heap.size, 1, none⟩ = some (.int .i64 g.2.1) ∧ u.cell? ⟨w.heap.size, 2, none⟩ = some (.int .i64 g.2.2.1) ∧ u.cell? ⟨w.heap.size, 3, none⟩ = some (.slice AR nR cR) := by
    intro u hu
    refine ⟨(hu.cell (by simp)).trans ?_, (hu.cell (by simp)).trans ?_, (hu.cell (by simp)).trans ?_, (hu.cell (by simp)).trans ?_⟩ <;> simp
  have HALL := Lib.hid hall
  clear hall
  go_enter Try.func60, Try.ntmps60
  go_wp2_with fail
  refine (gramCheck _ S AR nR cR g HG.out HV.out).mono ?_
  rintro e w1 ⟨rfl, hb1⟩
  simp only [World.size_alloc] at hb1
  obtain ⟨k0, k1, k2, k3⟩ := HALL.out _ hb1
  have HB1 := Lib.hid hb1
  clear hb1
  go_wp2_with fail
  clear k0 k1 k2 k3
  refine (usefulLengths w1 S AR nR cR g (HG.out.below (HB1.out.mono (by simp))) HV.out).mono ?_
  rintro e w2 ⟨⟨A, c, ls, rfl, hr, hc, hl, hok⟩, hb2⟩
  have hz1 := HB1.out.size
  simp only [World.size_alloc] at hz1
  have HB2 := Lib.hid (((Below.refl w.heap.size w).alloc (Nat.le_refl _) (.cells #[.int .i64 g.1, .int .i64 g.2.1, .int .i64 g.2.2.1, .slice AR nR cR] 25)).trans ((HB1.out.trans (hb2.mono hz1)).mono (by omega)))
  have HR := Lib.hid hr
  have HL := Lib.hid hl
  have HOK := Lib.hid hok
  clear hr hl hok hb2
  go_wp2_with fail
  go_ret2
  exact ⟨⟨A, c, ls, rfl, HR.out.more (fun b hb => by omega), hc, HL.out, HOK.out⟩, HB2.out⟩
set_option maxRecDepth 100000 in
set_option maxHeartbeats 1000000 in
theorem censusLeast (w : World) (S : Nat → Prop) (AR : Option Addr) (nR cR : Nat) (g : GramD) (hg : Sl RRule w S AR nR cR g.2.2.2) (hv : GValid g) :
    Calls Try.prog 18 #[.agg #[.int .i64 g.1, .int .i64 g.2.1, .int .i64 g.2.2.1, .slice AR nR cR]] w fun e w' => (∃ (A : Option Addr) (c : Nat) (ls : List Int), e = .returned (.tuple #[.slice A (nonsOf g) c, .int .i64 0]) ∧ Rd w' (fun b => w.heap.size ≤ b) 1 A (nonsOf g) (ls.map (Value.int .i64)) ∧ nonsOf g ≤ c ∧ ls.length = nonsOf g ∧ LeastOk g.2.2.2 ls) ∧ Below w.heap.size w w' := by
  have HG := Lib.hid (hg.alloc (.cells #[.int .i64 g.1, .int .i64 g.2.1, .int .i64 g.2.2.1, .slice AR nR cR] 25))
  have HV := Lib.hid hv
  clear hg hv
  go_enter Try.func18, Try.ntmps18
  go_wp2_with fail
  refine (usefulLens _ S AR nR cR g HG.out HV.out).mono ?_
  rintro e w2 ⟨⟨A, c, ls, rfl, hr, hc, hl, hok⟩, hb2⟩
  have HB2 := Lib.hid (((Below.refl w.heap.size w).alloc (Nat.le_refl _) (.cells #[.int .i64 g.1, .int .i64 g.2.1, .int .i64 g.2.2.1, .slice AR nR cR] 25)).trans (hb2.mono (by simp)))
  have HR := Lib.hid hr
  have HL := Lib.hid hl
  have HOK := Lib.hid hok
  clear hr hl hok hb2
  go_wp2_with fail
  go_ret2
  exact ⟨⟨A, c, ls, rfl, HR.out.more (fun b hb => by simp at hb; omega), hc, HL.out, HOK.out⟩, HB2.out⟩
theorem trees_at2 {w : World} {S : Nat → Prop} {A : Option Addr} {N c n k : Nat} {R : List RuleD} (h : Sl RI w S A N c (treesTab R N n)) (hk : k < N) :
    ∃ (b off : Nat) (A1 : Option Addr) (c1 : Nat), A = some ⟨b, off, none⟩ ∧ w.cell? ⟨b, off + k, none⟩ = some (.slice A1 (n + 1) c1) ∧ Sl Rep.int w S A1 (n + 1) c1 (treesRow R n k) := by
  obtain ⟨b, off, u, row, rfl, hSb, hrow, ⟨A1, n1, c1, hu, hsl1⟩, hcell⟩ := h.at_ rfl hk
  obtain rfl : u = .slice A1 n1 c1 := by simpa using hu
  have hrow' : row = treesRow R n k := by
    rw [treesTab, List.getElem?_map, List.getElem?_range hk] at hrow
    simpa using hrow.symm
  have hn1 : n1 = n + 1 := by rw [hsl1.len, hrow']; simp [treesRow]
  subst hn1
  subst hrow'
  exact ⟨b, off, A1, c1, rfl, hcell, hsl1⟩
def notZero (x : Int) : Bool := x != 0
theorem leastFn (x : Int) (w : World) : Calls Try.prog 22 #[.int .i64 x] w fun e w' => e = .returned (.bool (notZero x)) ∧ Below w.heap.size w w' := by
  go_enter Try.func22, Try.ntmps22
  go_wp2_with fail
  go_ret
  exact ⟨rfl, Below.refl _ _⟩
theorem entersLeast : ∀ (args : Array Value) (u : World), (callFunc 22 args).run Try.prog u = .ok (.enter 22 args) u := enters_of Try.func22 (by kernel_rfl) rfl
/-- the first length with a tree is the least one -/
theorem least_idx {R : List RuleD} {N a : Nat} {ls : List Int} {x : Int} (hR : RulesN N R) (ha : a < N) (hl : LeastOk R ls) (hx : ls[a]? = some x) : (x ≤ 24 → idxFn notZero (treesRow R 24 a) = x) ∧ (24 < x → idxFn notZero (treesRow R 24 a) = -1) := by
  have hrow : ∀ k, k < 25 → (treesRow R 24 a)[k]? = some (treesN R a k) := fun k hk => by
    rw [treesRow, List.getElem?_map, List.getElem?_range (by omega)]
    rfl
  have hz : ∀ k, notZero (treesN R a k) = lenD R a k := fun k => by
    have h := treesN_zero hR (a := a) (k := k) ha
    unfold notZero
    rw [Bool.eq_iff_iff, bne_iff_ne]
    exact h
  have hnone : (∀ k, k < 25 → ¬ Der R [(false, (a : Int))] k) → idxFn notZero (treesRow R 24 a) = -1 := fun h => by
    refine idxFn_none fun j y hy => ?_
    have hj : j < 25 := by
      have := (List.getElem?_eq_some_iff.1 hy).1
      simpa [treesRow] using this
    rw [hrow j hj] at hy
    injection hy with hy
    rw [← hy, hz]
    cases hd : lenD R a j with
    | false => rfl
    | true => exact absurd (lenD_iff.1 hd) (h j hj)
  rcases hl a x hx with ⟨rfl, h⟩ | ⟨h0, h1, h2⟩
  · exact ⟨fun _ => hnone fun k _ => h k, fun h => by omega⟩
  · refine ⟨fun h24 => ?_, fun h24 => hnone fun k hk hd => by have := h2 k hd; omega⟩
    have he := idxFn_hit (q := notZero) (hrow x.toNat (by omega)) (by rw [hz]; exact lenD_iff.2 h1) (fun j y hj hy => by
      rw [hrow j (by omega)] at hy
      injection hy with hy
      rw [← hy, hz]
      cases hd : lenD R a j with
      | false => rfl
      | true => have := h2 j (lenD_iff.1 hd); omega)
    rw [he]
    omega
set_option linter.unusedSimpArgs false in
set_option maxRecDepth 100000 in
set_option maxHeartbeats 4000000 in
theorem censusLeast_walk (W : World) (A0 : Option Addr) (n0 c0 : Nat) (z0 : List Int) (le0 : n0 ≤ c0) (cap0 : c0 ≤ 17592186043904) (rd0 : Rd W (fun _ => True) 1 A0 n0 (z0.map (Value.int .i64))) (_rg0 : ∀ z ∈ z0, -9223372036854775808 ≤ z ∧ z ≤ 9223372036854775807) :
    Calls Try.prog 4 #[.slice A0 n0 c0] W fun e W' => e = .returned (.bool true) ∧ Below W.heap.size W W' := by
  have HR0 := Lib.hid (rd0.slInts le0)
  clear rd0 _rg0
  go_enter Try.func4, Try.ntmps4
  go_wp2_with fail
  refine (makeGrammar _ _ _ _ _ z0 HR0.out (by omega)).mono ?_
  rintro e w1 ⟨g, AR, cR, hv, _, rfl, hg, hb1⟩
  have HV := Lib.hid hv
  have HG := Lib.hid (hg.alloc (.cells #[.int .i64 g.1, .int .i64 g.2.1, .int .i64 g.2.2.1, .slice AR g.2.2.2.length cR] 25))
  have HB1 := Lib.hid (hb1.alloc hb1.size (.cells #[.int .i64 g.1, .int .i64 g.2.1, .int .i64 g.2.2.1, .slice AR g.2.2.2.length cR] 25))
  have hs1 := hb1.size
  obtain ⟨N, hN⟩ : ∃ N, N = nonsOf g := ⟨_, rfl⟩
  have hNI : g.2.1 = (N : Int) := by have := hv.n1; rw [hN]; unfold nonsOf; omega
  have hN10 : N ≤ 10 := by have := hv.n2; omega
  have HNE := Lib.hid hN
  have HNI := Lib.hid hNI
  have HRN := Lib.hid (show RulesN N g.2.2.2 by rw [hN]; exact rulesN_of hv)
  have hall : ∀ u : World, Below (w1.heap.size + 1) (w1.alloc (.cells #[.int .i64 g.1, .int .i64 g.2.1, .int .i64 g.2.2.1, .slice AR g.2.2.2.length cR] 25)) u → u.cell? ⟨w1.heap.size, 0, none⟩ = some (.int .i64 g.1) ∧ u.cell? ⟨w1.heap.size, 1, none⟩ = some (.int .i64 g.2.1) ∧ u.cell? ⟨w1.heap.size, 2, none⟩ = some (.int .i64 g.2.2.1) ∧ u.cell? ⟨w1.heap.size, 3, none⟩ = some (.slice AR g.2.2.2.length cR) := by
    intro u hu
    refine ⟨(hu.cell (by simp)).trans ?_, (hu.cell (by simp)).trans ?_, (hu.cell (by simp)).trans ?_, (hu.cell (by simp)).trans ?_⟩ <;> simp
  have HALL := Lib.hid hall
  clear hall hv hg hb1 HR0 hN hNI
  go_wp2_with fail
  refine (censusLeast _ _ _ _ _ g HG.out HV.out).mono ?_
  rintro e w2 ⟨⟨A2, c2, ls, rfl, hr2, hc2, hl2, hok2⟩, hb2⟩
  rw [← HNE.out] at hr2 hl2 hc2 ⊢
  simp only [World.size_alloc] at hb2
  have HB2 := Lib.hid hb2
  have HR2 := Lib.hid hr2
  have HL2 := Lib.hid hl2
  have HOK := Lib.hid hok2
  have hs2 := hb2.size
  simp only [World.size_alloc] at hs2
  obtain ⟨k0, k1, k2, k3⟩ := HALL.out _ hb2
  have HG2 := Lib.hid (HG.out.below (hb2.mono (by simp)))
  clear hb2 hr2 hl2 hok2 HG
  --@1
  go_wp2_with fail
  clear k0 k1 k2 k3
  refine (censusTrees _ _ _ _ _ g HG2.out HV.out 24 (by omega)).mono ?_
  rintro e w3 ⟨A3, c3, rfl, ha3, hb3⟩
  rw [← HNE.out] at ha3 ⊢
  have HB3 := Lib.hid (HB2.out.trans (hb3.mono (by omega)))
  have HA3 := Lib.hid ha3
  have HR3 := Lib.hid (HR2.out.below hb3)
  have hs3 := hb3.size
  clear ha3 hb3 HR2 HG2
  --@2
  go_wp2_with fail
  refine (keepCounts _).mono ?_
  rintro e w4 ⟨rfl, hb4⟩
  have hb14 := HB3.out.trans (hb4.mono (by omega))
  obtain ⟨k0, k1, k2, k3⟩ := HALL.out _ hb14
  rw [HNI.out] at k1
  have HB4 := Lib.hid (HB1.out.trans (hb14.mono (by omega)))
  have HA4 := Lib.hid (HA3.out.below hb4)
  have HR4 := Lib.hid (HR3.out.below hb4)
  clear hb4 hb14 k0 k2 k3 HA3 HR3 HB3 HB2 HB1 HALL
  --@3
  go_wp2_with fail
  go_loopg [49] N (fun gk i wr => ∃ k : Nat, k ≤ N ∧ gk = N - k ∧ i = .int .i64 k ∧ Below w4.heap.size w4 wr)
  case atStart => exact ⟨0, Nat.zero_le _, rfl, rfl, Below.refl _ _⟩
  case round =>
    obtain ⟨a, ha, hgk, rfl, hb⟩ := hrel
    have HGK := Lib.hid hgk
    have HB := Lib.hid hb
    obtain ⟨w5, rfl⟩ : ∃ w5 : World, w5 = wr := ⟨_, rfl⟩
    clear hgk hb
    by_cases hlt : a < N
    · obtain ⟨b, off, x, rfl, _, hx, hcx⟩ := (HR4.out.below HB.out).int_at hlt
      obtain ⟨ba, oa, Aa, ca, rfl, hca, hra⟩ := trees_at2 (HA4.out.below HB.out) hlt
      obtain ⟨hi1, hi2⟩ := least_idx HRN.out hlt HOK.out hx
      have haI : (a : Int) < (N : Int) := by omega
      have ha0 : (0 : Int) ≤ (a : Int) := by omega
      have HRA := Lib.hid hra
      obtain ⟨k, hk⟩ : ∃ k, k = idxFn notZero (treesRow g.2.2.2 24 a) := ⟨_, rfl⟩
      rw [← hk] at hi1 hi2
      have HK := Lib.hid hk
      clear hx hra hk
      --@4
      go_wp2_with fail
      refine (indexFnInt w5 _ _ (fun _ => True) notZero _ _ _ _ (treesRow g.2.2.2 24 a) entersLeast (fun u _ y _ => leastFn y u) HRA.out.ints (fun _ _ => trivial) (by omega)).mono ?_
      rintro e w6 ⟨rfl, hb6⟩
      rw [← HK.out]
      have HB6 := Lib.hid (HB.out.trans (hb6.mono HB.out.size))
      clear hb6 hca hcx
      by_cases h24 : x ≤ 24
      · have he := hi1 h24
        rw [he]
        have h24b : decide (x ≤ 24) = true := by simpa using h24
        have h24c : decide (24 < x) = false := by simp; omega
        have hne : (x != x) = false := by simp
        clear hi1 hi2 he
        --@5
        go_wp2_with fail
        go_roundg (N - (a + 1))
        case measure => rw [HGK.out]; omega
        case rel => exact ⟨a + 1, by omega, rfl, by go_num, HB6.out⟩
      · have he := hi2 (by omega)
        rw [he]
        have h24b : decide (x ≤ 24) = false := by simpa using h24
        have h24c : decide (24 < x) = true := by simp; omega
        clear hi1 hi2 he
        go_wp2_with fail
        go_roundg (N - (a + 1))
        case measure => rw [HGK.out]; omega
        case rel => exact ⟨a + 1, by omega, rfl, by go_num, HB6.out⟩
    · obtain rfl : N = a := by omega
      go_wp2_with fail
      go_ret
      exact ⟨rfl, HB4.out.trans (HB.out.mono (by have := HB4.out.size; omega))⟩
end Go.Proofs.Ythanhegomgbgbaa
