/- LensTrees: its walk. -/
import Derived.Test.YtmfahplimnakcaaLensSet
import Derived.Test.YtmfahplimnakcaaCensusShort
namespace Go.Proofs.Ytmfahplimnakcaa
open Go.RowKit

theorem lenRow_at {w : World} {S : Nat → Prop} {A : Option Addr} {R : List RuleD} {n a k : Nat} (h : Sl Rep.bool w S A (n + 1) (n + 1) (lenRow R n a)) (hk : k < n + 1) :
    ∃ b off, A = some ⟨b, off, none⟩ ∧ w.cell? ⟨b, off + k, none⟩ = some (.bool (lenD R a k)) := by
  obtain ⟨b, off, u, x, rfl, _, hx, hok, hc⟩ := h.at_ rfl hk
  rw [lenRow, List.getElem?_map, List.getElem?_range hk] at hx
  simp only [Option.map_some, Option.some.injEq] at hx
  obtain rfl : u = .bool x := by have h2 : [u] = [Value.bool x] := hok; simpa using h2
  subst hx
  exact ⟨b, off, rfl, hc⟩
set_option linter.unusedSimpArgs false in
set_option maxRecDepth 100000 in
set_option maxHeartbeats 4000000 in
theorem lensTrees_walk (W : World) (A0 : Option Addr) (n0 c0 : Nat) (z0 : List Int) (le0 : n0 ≤ c0) (cap0 : c0 ≤ 17592186043904) (rd0 : Rd W (fun _ => True) 1 A0 n0 (z0.map (Value.int .i64))) (_rg0 : ∀ z ∈ z0, -9223372036854775808 ≤ z ∧ z ≤ 9223372036854775807) :
    Calls Try.prog 7 #[.slice A0 n0 c0] W fun e W' => e = .returned (.bool true) ∧ Below W.heap.size W W' := by
  have HR0 := Lib.hid (rd0.slInts le0)
  clear rd0 _rg0
  go_enter Try.func7, Try.ntmps7
  go_wp2_with fail
  refine (makeGrammar _ _ _ _ _ z0 HR0.out (by omega)).mono ?_
  rintro e w1 ⟨g, AR, cR, hv, _, rfl, hg, hb1⟩
  obtain ⟨gc, hgc⟩ : ∃ gc : Array Value, gc = #[.int .i64 g.1, .int .i64 g.2.1, .int .i64 g.2.2.1, .slice AR g.2.2.2.length cR] := ⟨_, rfl⟩
  have HV := Lib.hid hv
  have HG := Lib.hid (hg.alloc (.cells #[.int .i64 g.1, .int .i64 g.2.1, .int .i64 g.2.2.1, .slice AR g.2.2.2.length cR] 43))
  have HB1 := Lib.hid (hb1.alloc hb1.size (.cells #[.int .i64 g.1, .int .i64 g.2.1, .int .i64 g.2.2.1, .slice AR g.2.2.2.length cR] 43))
  have hs1 := hb1.size
  obtain ⟨st, hst, hstN⟩ : ∃ st : Nat, g.2.2.1 = (st : Int) ∧ st < nonsOf g := ⟨g.2.2.1.toNat, by have := hv.st; omega, by have := hv.st; unfold nonsOf; omega⟩
  have HST := Lib.hid hst
  have hall : ∀ u : World, Below (w1.heap.size + 1) (w1.alloc (.cells #[.int .i64 g.1, .int .i64 g.2.1, .int .i64 g.2.2.1, .slice AR g.2.2.2.length cR] 43)) u → u.cell? ⟨w1.heap.size, 0, none⟩ = some (.int .i64 g.1) ∧ u.cell? ⟨w1.heap.size, 1, none⟩ = some (.int .i64 g.2.1) ∧ u.cell? ⟨w1.heap.size, 2, none⟩ = some (.int .i64 g.2.2.1) ∧ u.cell? ⟨w1.heap.size, 3, none⟩ = some (.slice AR g.2.2.2.length cR) := by
    intro u hu
    refine ⟨(hu.cell (by simp)).trans ?_, (hu.cell (by simp)).trans ?_, (hu.cell (by simp)).trans ?_, (hu.cell (by simp)).trans ?_⟩ <;> simp
  have HALL := Lib.hid hall
  have hN2 : nonsOf g ≤ 10 := by have := hv.n2; unfold nonsOf; omega
  clear hall hv hg hb1 HR0 hst hgc
  go_wp2_with fail
  refine (keepPlain _).mono ?_
  rintro e w2 ⟨AP, rfl, hp, hb2⟩
  simp only [World.size_alloc] at hb2
  have HP := Lib.hid hp
  have HB2 := Lib.hid hb2
  have hs2 := hb2.size
  simp only [World.size_alloc] at hs2
  clear hp hb2
  go_wp2_with fail
  refine (lensSet _ _ _ _ _ plainG HP.out plain_valid 1 (by omega)).mono ?_
  rintro e w3 ⟨A3, rfl, hx3, hb3⟩
  have hb23 : Below (w1.heap.size + 1) (w1.alloc (.cells #[.int .i64 g.1, .int .i64 g.2.1, .int .i64 g.2.2.1, .slice AR g.2.2.2.length cR] 43)) w3 := HB2.out.trans (hb3.mono (by omega))
  have HB3 := Lib.hid hb23
  have hs3 := hb3.size
  obtain ⟨b3, o3, rfl, hc3⟩ := lenRow_at hx3 (show 1 < 1 + 1 by omega)
  have hl1 : lenD plainG.2.2.2 plainG.2.2.1.toNat 1 = true := by
    show lenD plainR 0 1 = true
    rw [plain_len]
    rfl
  rw [hl1] at hc3
  obtain ⟨k0, k1, k2, k3⟩ := HALL.out _ hb23
  have HG3 := Lib.hid (HG.out.below (hb23.mono (by simp)))
  clear hb23 hb3 hx3 hl1 HB2 HP
  --@1
  go_wp2_with fail
  clear hc3 k0 k1 k2 k3
  refine (lensSet _ _ _ _ _ g HG3.out HV.out 24 (by omega)).mono ?_
  rintro e w4 ⟨A4, rfl, hx4, hb4⟩
  have hb24 := HB3.out.trans (hb4.mono (by omega))
  have HB4 := Lib.hid hb24
  have HX4 := Lib.hid hx4
  have hs4 := hb4.size
  obtain ⟨k0, k1, k2, k3⟩ := HALL.out _ hb24
  have HG4 := Lib.hid (HG3.out.below hb4)
  clear hb4 hb24 hx4 HG3 HB3
  --@2
  go_wp2_with fail
  clear k0 k1 k2 k3
  refine (censusTrees _ _ _ _ _ g HG4.out HV.out 24 (by omega)).mono ?_
  rintro e w5 ⟨A5, c5, rfl, ha5, hb5⟩
  have hb25 := HB4.out.trans (hb5.mono (by omega))
  obtain ⟨k0, k1, k2, k3⟩ := HALL.out _ hb25
  have HB5 := Lib.hid (HB1.out.trans (hb25.mono (by omega)))
  have HX5 := Lib.hid (HX4.out.below hb5)
  have HA5 := Lib.hid ha5
  rw [HST.out] at k2
  have HRN := Lib.hid (rulesN_of HV.out)
  clear ha5 hb5 hb25 k0 k1 k3 HG4 HX4 HB4 HB1 HALL HG HV
  --@3
  go_wp2_with fail
  go_loopg [55] 25 (fun gk i wr => ∃ k : Nat, k ≤ 25 ∧ gk = 25 - k ∧ i = .int .i64 k ∧ wr = w5)
  case atStart => exact ⟨0, Nat.zero_le _, rfl, rfl, rfl⟩
  case round =>
    obtain ⟨k, hk, hgk, rfl, rfl⟩ := hrel
    have HGK := Lib.hid hgk
    clear hgk
    by_cases hlt : k < 25
    · obtain ⟨bx, ox, rfl, hcx⟩ := lenRow_at HX5.out (show k < 24 + 1 by omega)
      obtain ⟨ba, oa, Aa, ca, rfl, hca, hra⟩ := trees_at HA5.out hstN
      obtain ⟨b1, o1, u1, rfl, _, hu1, hc1⟩ := hra.ints.at_ (show k < 24 + 1 by omega)
      rw [treesRow, List.map_map, List.getElem?_map, List.getElem?_range (show k < 24 + 1 by omega)] at hu1
      simp only [Option.map_some, Option.some.injEq, Function.comp] at hu1
      have hz := treesN_zero HRN.out (a := st) (k := k) hstN
      rw [HST.out, Int.toNat_natCast] at hcx
      obtain ⟨y, hy⟩ : ∃ y, y = treesN g.2.2.2 st k := ⟨_, rfl⟩
      obtain ⟨x, hx⟩ : ∃ x, x = lenD g.2.2.2 st k := ⟨_, rfl⟩
      rw [← hy] at hu1 hz
      rw [← hx] at hz hcx
      subst hu1
      have hxy : (y != 0) = x := by
        cases x with
        | true => simpa using hz.2 rfl
        | false => simpa using hz
      have hst1 : (st : Int) < (nonsOf g : Int) := by omega
      have hst2 : (0 : Int) ≤ (st : Int) := by omega
      have hk1 : (k : Int) < 25 := by omega
      have hk2 : (0 : Int) ≤ (k : Int) := by omega
      clear hra hx hy hz
      cases x with
      | true =>
        have hy0 : ¬ y = 0 := by simpa using hxy
        --@4
        go_wp2_with fail
        go_roundg (25 - (k + 1))
        case measure => rw [HGK.out]; omega
        case rel => exact ⟨k + 1, by omega, rfl, by go_num, rfl⟩
      | false =>
        have hy0 : y = 0 := by simpa using hxy
        subst hy0
        go_wp2_with fail
        go_roundg (25 - (k + 1))
        case measure => rw [HGK.out]; omega
        case rel => exact ⟨k + 1, by omega, rfl, by go_num, rfl⟩
    · obtain rfl : k = 25 := by omega
      --@5
      go_wp2_with fail
      go_ret
      exact ⟨rfl, HB5.out⟩
end Go.Proofs.Ytmfahplimnakcaa
