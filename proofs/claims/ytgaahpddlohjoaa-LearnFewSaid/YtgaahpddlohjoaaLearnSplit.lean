/- learner.split: a test that a counterexample gives. -/
import Derived.Test.YtgaahpddlohjoaaLearnSame
import Derived.Test.YtgaahpddlohjoaaCanonSt
import Derived.StillTailTactics
namespace Go.Proofs.Ytgaahpddlohjoaa
open Go.RowKit Go.Maps

/-- the states that a word's beginnings lead to -/
def stsP (d : DfaD) (x : List Int) (k : Nat) : List Int := (List.range (k + 1)).map fun j => drun d (x.take j)
theorem stsP_len (d : DfaD) (x : List Int) (k : Nat) : (stsP d x k).length = k + 1 := by simp [stsP]
theorem stsP_at {d : DfaD} {x : List Int} {k j : Nat} (h : j ≤ k) : (stsP d x k)[j]? = some (drun d (x.take j)) := by
  unfold stsP
  rw [List.getElem?_map, List.getElem?_range (by omega)]
  rfl
theorem stsP_snoc (d : DfaD) (x : List Int) (k : Nat) : stsP d x (k + 1) = stsP d x k ++ [drun d (x.take (k + 1))] := by
  unfold stsP
  rw [List.range_succ, List.map_append]
  rfl
/-- one more int behind a row of the call's own -/
theorem ownPush (w : World) (base : Nat) (v : Value) (m : Nat) (l : List Int) (x : Int) (ho : Own w base 3 1 v m (l.map (Value.int .i64))) (hb : base ≤ w.heap.size) (hl : m ≤ 100000) :
    ∃ A2 c2 w2, (Builtin.append_ #[22, 22] 22 #[v, .slice (some ⟨w.heap.size, 0, none⟩) 1 1]).run Try.prog (w.alloc (.cells #[.int .i64 x] 3)) = .ok (.slice A2 (m + 1) c2) w2 ∧ Own w2 base 3 1 (.slice A2 (m + 1) c2) (m + 1) ((l ++ [x]).map (Value.int .i64)) ∧
      (w.alloc (.cells #[.int .i64 x] 3)).grownBy w2 (rowOf v) ∧ (rowOf (.slice A2 (m + 1) c2) = rowOf v ∨ rowOf (.slice A2 (m + 1) c2) = some (w.heap.size + 1)) := by
  obtain ⟨v2, w2, hrun, h2, hg, hrow⟩ := run_append_Own tInts (w.alloc (.cells #[.int .i64 x] 3)) 22 base v m (l.map (Value.int .i64)) (ho.alloc _) (fun _ => True) (some ⟨w.heap.size, 0, none⟩) 1 1 [.int .i64 x]
    (Rd.new w _ _ [.int .i64 x] _ rfl trivial) (by intro u hu; obtain rfl := List.mem_singleton.1 hu; rfl) (by unfold maxLen; omega) (by omega) (by simp; omega)
  obtain ⟨A2, c2, rfl, _, _⟩ := h2.form
  refine ⟨A2, c2, w2, hrun, by simpa using h2, hg, ?_⟩
  rcases hrow with e | e
  · exact .inl e
  · exact .inr (by rw [e]; simp)
set_option maxRecDepth 100000 in
/-- an append leaves the cells that were there -/
theorem appOld (w : World) (base g n cap : Nat) (l : List Int) (x : Int) (ho : w.ownsRow base 3 1 (.slice (some ⟨g, 0, none⟩) n cap) n (l.map (Value.int .i64))) (hn : n ≤ 100000) {v2 : Value} {w2 : World}
    (hrun : (Builtin.append_ #[22, 22] 22 #[.slice (some ⟨g, 0, none⟩) n cap, .slice (some ⟨w.heap.size, 0, none⟩) 1 1]).run Try.prog (w.alloc (.cells #[.int .i64 x] 3)) = .ok v2 w2) :
    ∀ (j : Nat) (y : Int), l[j]? = some y → w2.cell? ⟨g, j, none⟩ = some (.int .i64 y) := by
  intro j y hy
  have hyv : (l.map (Value.int .i64))[j]? = some (.int .i64 y) := by rw [List.getElem?_map, hy]; rfl
  have ho1 := ho.alloc (.cells #[.int .i64 x] 3)
  by_cases hroom : n + 1 ≤ cap
  · obtain ⟨w3, hr3, ho3, _⟩ := run_append_roomy tInts (w.alloc (.cells #[.int .i64 x] 3)) 22 base g n cap _ ho1 (fun _ => True) (some ⟨w.heap.size, 0, none⟩) 1 1 [.int .i64 x] (Rd.new w _ _ [.int .i64 x] _ rfl trivial) (by intro u hu; obtain rfl := List.mem_singleton.1 hu; rfl) hroom
    rw [hr3] at hrun
    injection hrun with _ e
    subst e
    have := ho3.cells (g := g) rfl j (.int .i64 y) (by rw [List.getElem?_append_left (List.getElem?_eq_some_iff.1 hyv).1]; exact hyv)
    rw [Addr.add_lit, Nat.zero_add] at this
    exact this
  · obtain ⟨i, hi, hz0, hz1, hz2⟩ := info_parts tInts.info
    have holds : ∀ j u, (l.map (Value.int .i64))[j]? = some u → (w.alloc (.cells #[.int .i64 x] 3)).cell? ((⟨g, 0, none⟩ : Addr).add j) = some u := ho1.cells (g := g) rfl
    have hr := run_append_grow (P := Try.prog) (w.alloc (.cells #[.int .i64 x] 3)) 22 22 3 i _ tInts.under hi hz0 ⟨g, 0, none⟩ n cap (l.map (Value.int .i64)) (by rw [hz1]; exact ho.1) holds ⟨w.heap.size, 0, none⟩ 1 1 [.int .i64 x] (by rw [hz1]; rfl) (cell_one_new _ _ _) (by omega) (by omega) (by rw [hz2]; exact growslice_fits (by omega) (by omega))
    rw [hr] at hrun
    injection hrun with _ e
    subst e
    have := holds j _ hyv
    rw [Addr.add_lit, Nat.zero_add] at this
    exact (World.cell?_alloc_lt _ _ _ (cell_lt this)).trans this
set_option linter.unusedSimpArgs false in
set_option maxRecDepth 1000000 in
set_option maxHeartbeats 8000000 in
theorem learnSplit (L : LCtx) (hL : L.Ok) (w : World) (FL : Nat → Prop) (ws : List (List Int)) (q : Nat) (vA vT vR : Value) (access tests : List (List Int)) (h : LSt L w FL ws q vA vT vR access tests)
    (S : Nat → Prop) (A : Option Addr) (nA cA : Nat) (N : Option Addr) (n cN : Nat) (d : DfaD) (hN : Sl RI w S N n cN d.2.2) (hS : ∀ b, S b → L.B0 ≤ b ∧ b ≠ L.BK) (hv : Valid d) (hcl : Closed L.acc L.T tests access d)
    (Sw : Nat → Prop) (Aw : Option Addr) (nw cw : Nat) (x : List Int) (hx : Sl Rep.int w Sw Aw nw cw x) (hSw : ∀ b, Sw b → L.B0 ≤ b ∧ b ≠ L.BK) (hw : WOkT L.T x) (hl : x.length ≤ 1000) (hne : daccept d x ≠ L.acc x) (hws : ws.length ≤ 90000000) :
    Calls Try.prog 49 #[.pointer (some ⟨L.BL, 0, none⟩), .agg #[.int .i64 d.1, .slice A nA cA, .slice N n cN], .slice Aw nw cw] w fun e w' => ∃ (i : Nat) (A' : Option Addr) (c' : Nat), e = .returned (.slice A' (nw - (i + 1)) c') ∧
      i < x.length ∧ sameP L.acc access d x i = true ∧ sameP L.acc access d x (i + 1) = false ∧ Sl Rep.int w' (fun b => w.heap.size ≤ b) A' (nw - (i + 1)) c' (x.drop (i + 1)) ∧ MemPost L w FL ws q vA vT vR access tests 2000 w' := by
  have hnw : nw ≤ 1000 := by have := hx.len; omega
  have hnn := hN.len
  have hn1 : 1 ≤ n := by have := hv.n1; omega
  have hn2 : n ≤ 200 := by have := hv.n2; omega
  have hcols := hcl.cols
  have HAT := Lib.hid (show ∀ j, j ≤ nw → ∃ (k : Nat) (u : List Int), drun d (x.take j) = (k : Int) ∧ k < n ∧ access[k]? = some u ∧ sameP L.acc access d x j = (L.acc (u ++ x.drop j) == L.acc x) ∧ WOkT L.T u ∧ u.length ≤ 1000 from fun j hj => by
    obtain ⟨k, u, h1, h2, h3⟩ := hcl.at_ hw j
    have hk := (List.getElem?_eq_some_iff.1 h2).1
    have hrl := hcl.made.rl
    refine ⟨k, u, h1, by omega, h2, ?_, hcl.w.ok u (List.mem_of_getElem? h2), by have := hcl.w.short k u h2; omega⟩
    unfold sameP
    rw [h3])
  have HS0 := Lib.hid (hcl.same0 x)
  have HSN := Lib.hid (show sameP L.acc access d x nw = false by rw [hx.len]; exact hcl.sameN hw hne)
  have hnpos : 0 < nw := by
    rcases Nat.eq_zero_or_pos nw with h0 | h0
    · have h1 := HS0.out
      have h2 := HSN.out
      rw [h0] at h2
      rw [h1] at h2
      cases h2
    · exact h0
  have hst0 : d.1 = 0 := hcl.st
  obtain ⟨st0, hst0e⟩ : ∃ st0, st0 = d.1 := ⟨_, rfl⟩
  rw [← hst0e]
  obtain ⟨B1, hB1⟩ : ∃ B1, B1 = w.heap.size + 1 := ⟨_, rfl⟩
  obtain ⟨B2, hB2⟩ : ∃ B2, B2 = w.heap.size + 1 + 1 := ⟨_, rfl⟩
  obtain ⟨B3, hB3⟩ : ∃ B3, B3 = w.heap.size + 1 + 1 + 1 := ⟨_, rfl⟩
  obtain ⟨B4, hB4⟩ : ∃ B4, B4 = w.heap.size + 1 + 1 + 1 + 1 := ⟨_, rfl⟩
  obtain ⟨w0, hw0⟩ : ∃ w0 : World, w0 = ((w.alloc (.cells #[.pointer (some ⟨L.BL, 0, none⟩)] 85)).alloc (.cells #[.int .i64 st0, .slice A nA cA, .slice N n cN] 25)).alloc (.cells #[.slice Aw nw cw] 22) := ⟨_, rfl⟩
  obtain ⟨w1, hw1⟩ : ∃ w1 : World, w1 = (w0.alloc (.cells #[.int .i64 st0] 3)).alloc (.cells #[.slice (some ⟨B3, 0, none⟩) 1 1] 22) := ⟨_, rfl⟩
  have hz0 : w0.heap.size = B3 := by rw [hw0, hB3]; simp
  have hz1 : w1.heap.size = B4 + 1 := by rw [hw1, hB4]; simp [hz0, hB3]
  have hb01 : Below w0.heap.size w0 w1 := by rw [hw1]; exact ((Below.refl _ _).alloc (Nat.le_refl _) _).alloc (by simp) _
  have hb0 : Below w.heap.size w w0 := by rw [hw0]; exact (((Below.refl _ _).alloc (Nat.le_refl _) _).alloc (by simp) _).alloc (by simp; omega) _
  have hb1 : Below w.heap.size w w1 := hb0.trans (hb01.mono hb0.size)
  have hg0 : w0.heap[w.heap.size]? = some (.cells #[.pointer (some ⟨L.BL, 0, none⟩)] 85 (0, 0)) := by
    rw [hw0, Below.heap_alloc _ _ _ (by simp; omega), Below.heap_alloc _ _ _ (by simp)]
    exact heap_alloc_new w _
  have hg1 : w0.heap[B1]? = some (.cells #[.int .i64 st0, .slice A nA cA, .slice N n cN] 25 (0, 0)) := by
    rw [hw0, hB1, Below.heap_alloc _ _ _ (by simp)]
    exact heap_new _ _ _ (by simp)
  have hg2 : w0.heap[B2]? = some (.cells #[.slice Aw nw cw] 22 (0, 0)) := by
    rw [hw0, hB2]
    exact heap_new _ _ _ (by simp)
  have hg4 : w1.heap[B4]? = some (.cells #[.slice (some ⟨B3, 0, none⟩) 1 1] 22 (0, 0)) := by
    rw [hw1]
    exact heap_new _ _ _ (by simp [hz0, hB3, hB4])
  have hown1 : Own w1 B3 3 1 (.slice (some ⟨B3, 0, none⟩) (0 + 1) 1) (0 + 1) ((stsP d x 0).map (Value.int .i64)) := by
    have e : stsP d x 0 = [st0] := by
      rw [hst0e]
      rfl
    have h1 : Own (w0.alloc (.cells #[.int .i64 st0] 3)) B3 3 1 (.slice (some ⟨w0.heap.size, 0, none⟩) 1 1) 1 [.int .i64 st0] := .inl (World.ownsRow_lit (e := 3) (size := 1) (base := B3) w0 #[.int .i64 st0] 1 (by omega) (by simp [maxLen]) (by simp))
    rw [e, hw1]
    rw [hz0] at h1
    exact h1.alloc _
  have HBX := Lib.hid (show ∀ u : World, Below B3 w1 u → u.cell? ⟨w.heap.size, 0, none⟩ = some (.pointer (some ⟨L.BL, 0, none⟩)) ∧ u.cell? ⟨B1, 2, none⟩ = some (.slice N n cN) ∧ u.cell? ⟨B2, 0, none⟩ = some (.slice Aw nw cw) from fun u hu => by
    have e0 := (hu.block w.heap.size (by omega)).trans ((hb01.block w.heap.size (by omega)).trans hg0)
    have e1 := (hu.block B1 (by omega)).trans ((hb01.block B1 (by omega)).trans hg1)
    have e2 := (hu.block B2 (by omega)).trans ((hb01.block B2 (by omega)).trans hg2)
    simp [World.cell?, e0, e1, e2])
  have HST1 := Lib.hid (h.below hL hb1)
  have HSTW := Lib.hid h
  have HN := Lib.hid (hN.fit)
  have HX := Lib.hid (hx.fit)
  have HXL := Lib.hid hx.len
  have HB1 := Lib.hid hb1
  have HG4 := Lib.hid hg4
  have HO1 := Lib.hid hown1
  have HW1 := Lib.hid (show w1 = ((((w.alloc (.cells #[.pointer (some ⟨L.BL, 0, none⟩)] 85)).alloc (.cells #[.int .i64 st0, .slice A nA cA, .slice N n cN] 25)).alloc (.cells #[.slice Aw nw cw] 22)).alloc (.cells #[.int .i64 st0] 3)).alloc (.cells #[.slice (some ⟨w.heap.size + 1 + 1 + 1, 0, none⟩) 1 1] 22) by rw [hw1, hw0, hB3])
  have HZ0 := Lib.hid hz0
  have HZ1 := Lib.hid hz1
  have HBE := Lib.hid (show B1 = w.heap.size + 1 ∧ B2 = w.heap.size + 1 + 1 ∧ B3 = w.heap.size + 1 + 1 + 1 ∧ B4 = w.heap.size + 1 + 1 + 1 + 1 from ⟨hB1, hB2, hB3, hB4⟩)
  have HL := Lib.hid hL
  have HSS := Lib.hid hS
  have HSW := Lib.hid hSw
  have HW := Lib.hid hw
  have HV := Lib.hid hv
  have HNN := Lib.hid hnn
  have HCO := Lib.hid hcols
  have HLE := Lib.hid h.le
  have HBK := Lib.hid (h.flz _ h.flK)
  obtain ⟨k0, k1, k2⟩ := HBX.out w1 (Below.refl _ _)
  have hBle : w.heap.size < B1 ∧ B1 < B2 ∧ B2 < B3 ∧ B3 < B4 := by omega
  clear hB1 hB2 hB3 hB4 h hL hN hS hv hcl hx hSw hw hne hnn hcols hst0 hw0 hw1 hz0 hz1 hb01 hb0 hb1 hg0 hg1 hg2 hown1 hst0e
  go_enter Try.func49, Try.ntmps49
  go_wp2_with fail
  rw [← HW1.out, ← HBE.out.2.2.2, ← HBE.out.2.2.1, ← HBE.out.2.1, ← HBE.out.1]
  clear k0 k1 k2
  go_loopg [9, 20] nw (fun gk va vi wr => ∃ (k : Nat) (AS : Option Addr) (cS : Nat), k ≤ nw ∧ gk = nw - k ∧ vi = .int .i64 k ∧ wr.heap[B4]? = some (.cells #[.slice AS (k + 1) cS] 22 (0, 0)) ∧ Own wr B3 3 1 (.slice AS (k + 1) cS) (k + 1) ((stsP d x k).map (Value.int .i64)) ∧ rowOf (.slice AS (k + 1) cS) ≠ some B4 ∧ Below B3 w1 wr)
  case atStart => exact ⟨0, _, 1, Nat.zero_le _, rfl, rfl, HG4.out, HO1.out, (fun e => by rw [show rowOf (.slice (some ⟨B3, 0, none⟩) (0 + 1) 1) = some B3 from rfl] at e; injection e with e; omega), Below.refl _ _⟩
  case round =>
    obtain ⟨k, AS, cS, hk, hgk, rfl, hbx, hos, hrs, hb⟩ := hrel
    obtain ⟨w3, rfl⟩ : ∃ w3 : World, w3 = wr := ⟨_, rfl⟩
    have HGK := Lib.hid hgk
    have HBX4 := Lib.hid hbx
    have HOS := Lib.hid hos
    have HRS := Lib.hid hrs
    have HB3 := Lib.hid hb
    have HBW := Lib.hid (show Below w.heap.size w w3 from HB1.out.trans (hb.mono (by omega)))
    obtain ⟨k0, k1, k2⟩ := HBX.out w3 hb
    obtain ⟨gS, hAS, hgS, how⟩ := hos.addr (by omega)
    subst hAS
    have hrow : rowOf (.slice (some ⟨gS, 0, none⟩) (k + 1) cS) = some gS := by
      obtain ⟨A', c', e, hc, _⟩ := hos.form
      injection e with _ _ e
      obtain ⟨c0, rfl⟩ : ∃ c0, cS = c0 + 1 := ⟨cS - 1, by omega⟩
      rfl
    have hgB4 : gS ≠ B4 := fun e => hrs (by rw [hrow, e])
    obtain ⟨ks, uu, hks, hkn, _, _, _, _⟩ := HAT.out k hk
    have HKS := Lib.hid hks
    obtain ⟨gS', oS', s, hSe, _, hs, hcs⟩ := hos.rd.int_at (k := k) (by omega)
    injection hSe with hSe
    injection hSe with e1 e2
    subst e1
    subst e2
    rw [stsP_at (Nat.le_refl _), hks] at hs
    injection hs with hs
    subst hs
    rw [Nat.zero_add] at hcs
    have hcb4 : w3.cell? ⟨B4, 0, none⟩ = some (.slice (some ⟨gS, 0, none⟩) (k + 1) cS) := by simp [World.cell?, hbx]
    by_cases hlt : k < nw
    · obtain ⟨bx, ox, y, rfl, _, hy, hcy0⟩ := (HX.out.keep (Kept.belowB HBW.out (fun b hb => hb.2))).ints.int_at hlt
      have hyr := HW.out y (List.mem_of_getElem? hy)
      obtain ⟨bN, oN, bR, oR, m, cR, hNe, hc1, hc2, hm, -⟩ := cell_at HN.out HV.out (s := (ks : Int)) (c := y) (by rw [← HNN.out]; omega) (by rw [HCO.out]; exact hyr)
      subst hNe
      rw [Int.toNat_natCast] at hc1
      have l1 : bN < w.heap.size := cell_lt hc1
      have l2 : bR < w.heap.size := cell_lt hc2
      replace hc1 := (HBW.out.cell (p := ⟨bN, oN + ks, none⟩) l1).trans hc1
      replace hc2 := (HBW.out.cell (p := ⟨bR, oR + y.toNat, none⟩) l2).trans hc2
      obtain ⟨k', u', ht', _, _, _, _, _⟩ := HAT.out (k + 1) (by omega)
      have htn : dto d (ks : Int) y = (k' : Int) := by
        rw [int_step hy, drun_snoc, HKS.out] at ht'
        exact ht'
      rw [htn] at hc2
      have HSN2 := Lib.hid (show stsP d x (k + 1) = stsP d x k ++ [(k' : Int)] by rw [stsP_snoc, ht'])
      have hy0 : (0 : Int) ≤ y := hyr.1
      have hym : y < (m : Int) := by rw [hm, HCO.out]; exact hyr.2
      have hkI : (ks : Int) < (n : Int) := by omega
      have hk0 : (0 : Int) ≤ (ks : Int) := by omega
      have hkk0 : (0 : Int) ≤ (k : Int) := by omega
      have hkk1 : (k : Int) < (k : Int) + 1 := by omega
      have hwk : IntKind.i64.wrap (k : Int) = (k : Int) := IntWalk.i64_in _ (by omega)
      have HBN := Lib.hid (show bN < B3 ∧ bR < B3 by omega)
      have HOW := Lib.hid how
      have HS0 := Lib.hid (show w3.drew.cell? ⟨B4, 0, none⟩ = some (.slice (some ⟨gS, 0, none⟩) (k + 1) cS) ∧ w3.drew.cell? ⟨B1, 2, none⟩ = some (.slice (some ⟨bN, oN, none⟩) n cN) ∧ w3.drew.cell? ⟨gS, k, none⟩ = some (.int .i64 (ks : Int)) ∧ w3.drew.cell? ⟨bN, oN + ks, none⟩ = some (.slice (some ⟨bR, oR, none⟩) m cR) ∧ w3.drew.cell? ⟨bR, oR + y.toNat, none⟩ = some (.int .i64 (k' : Int)) from ⟨hcb4, k1, hcs, hc1, hc2⟩)
      clear hgk hbx hos hrs hb k0 k1 k2 hks hcs hcb4 hy hyr hc1 hc2 hm ht' htn how l1 l2
      go_wp2_with fail
      refine wp_region_late (late := [16]) (S1 := fun _ => True) (S := fun z => z.cell? ⟨B4, 0, none⟩ = some (.slice (some ⟨gS, 0, none⟩) (k + 1) cS) ∧ z.cell? ⟨B1, 2, none⟩ = some (.slice (some ⟨bN, oN, none⟩) n cN) ∧ z.cell? ⟨gS, k, none⟩ = some (.int .i64 (ks : Int)) ∧ z.cell? ⟨bN, oN + ks, none⟩ = some (.slice (some ⟨bR, oR, none⟩) m cR) ∧ z.cell? ⟨bR, oR + y.toNat, none⟩ = some (.int .i64 (k' : Int))) (by kernel_rfl) ?_
      refine wpAnyL_take (i := 0) rfl (by kernel_rfl) (fun _ _ _ h => h) (Or.inl ⟨by rfl, (fun u hu => by obtain ⟨_, k0, k1, k2, k3, k4⟩ := hu; go_simp; try rfl)⟩) trivial (fun _ => HS0.out) ?_
      simp only [Act.put, List.setIfInBounds_toArray, List.set_cons_zero, List.set_cons_succ, List.getElem_toArray, List.getElem_cons_zero, List.getElem_cons_succ]
      refine wpAnyL_pure (i := 1) rfl (by kernel_rfl) (fun _ _ _ h => h) (Or.inl ⟨by rfl, (fun u hu => by go_simp; try rfl)⟩) trivial (fun _ => HS0.out) ?_
      simp only [Act.put, List.setIfInBounds_toArray, List.set_cons_zero, List.set_cons_succ, List.getElem_toArray, List.getElem_cons_zero, List.getElem_cons_succ]
      refine wpAnyL_take (i := 2) rfl (by kernel_rfl) (fun _ _ _ h => h) (Or.inl ⟨by rfl, (fun u hu => by obtain ⟨_, k0, k1, k2, k3, k4⟩ := hu; go_simp; try rfl)⟩) trivial (fun _ => HS0.out) ?_
      simp only [Act.put, List.setIfInBounds_toArray, List.set_cons_zero, List.set_cons_succ, List.getElem_toArray, List.getElem_cons_zero, List.getElem_cons_succ]
      refine wpAnyL_take (i := 3) rfl (by kernel_rfl) (fun _ _ _ h => h) (Or.inl ⟨by rfl, (fun u hu => by obtain ⟨_, k0, k1, k2, k3, k4⟩ := hu; go_simp; try rfl)⟩) trivial (fun _ => HS0.out) ?_
      simp only [Act.put, List.setIfInBounds_toArray, List.set_cons_zero, List.set_cons_succ, List.getElem_toArray, List.getElem_cons_zero, List.getElem_cons_succ]
      refine wpAnyL_take (i := 4) rfl (by kernel_rfl) (fun _ _ _ h => h) (Or.inl ⟨by rfl, (fun u hu => by obtain ⟨_, k0, k1, k2, k3, k4⟩ := hu; go_simp; try rfl)⟩) trivial (fun _ => HS0.out) ?_
      simp only [Act.put, List.setIfInBounds_toArray, List.set_cons_zero, List.set_cons_succ, List.getElem_toArray, List.getElem_cons_zero, List.getElem_cons_succ]
      refine wpAnyL_pure (i := 5) rfl (by kernel_rfl) (fun _ _ _ h => h) (Or.inl ⟨by rfl, (fun u hu => by go_simp; try rfl)⟩) trivial (fun _ => HS0.out) ?_
      simp only [Act.put, List.setIfInBounds_toArray, List.set_cons_zero, List.set_cons_succ, List.getElem_toArray, List.getElem_cons_zero, List.getElem_cons_succ]
      refine wpAnyL_pure (i := 6) (v := .int .i64 (k : Int)) rfl (by kernel_rfl) (fun _ _ _ h => h) (Or.inl ⟨by rfl, (fun u hu => by go_simp; try rfl)⟩) trivial (fun _ => HS0.out) ?_
      simp only [Act.put, List.setIfInBounds_toArray, List.set_cons_zero, List.set_cons_succ, List.getElem_toArray, List.getElem_cons_zero, List.getElem_cons_succ]
      refine wpAnyL_pure (i := 7) rfl (by kernel_rfl) (fun _ _ _ h => h) (Or.inl ⟨by rfl, (fun u hu => by go_simp; try rfl)⟩) trivial (fun _ => HS0.out) ?_
      simp only [Act.put, List.setIfInBounds_toArray, List.set_cons_zero, List.set_cons_succ, List.getElem_toArray, List.getElem_cons_zero, List.getElem_cons_succ]
      refine wpAnyL_take (i := 8) rfl (by kernel_rfl) (fun _ _ _ h => h) (Or.inl ⟨by rfl, (fun u hu => by obtain ⟨_, k0, k1, k2, k3, k4⟩ := hu; go_simp; try rfl)⟩) trivial (fun _ => HS0.out) ?_
      simp only [Act.put, List.setIfInBounds_toArray, List.set_cons_zero, List.set_cons_succ, List.getElem_toArray, List.getElem_cons_zero, List.getElem_cons_succ]
      refine wpAnyL_pure (i := 9) rfl (by kernel_rfl) (fun _ _ _ h => h) (Or.inl ⟨by rfl, (fun u hu => by go_simp; try rfl)⟩) trivial (fun _ => HS0.out) ?_
      simp only [Act.put, List.setIfInBounds_toArray, List.set_cons_zero, List.set_cons_succ, List.getElem_toArray, List.getElem_cons_zero, List.getElem_cons_succ]
      refine wpAnyL_take (i := 10) rfl (by kernel_rfl) (fun _ _ _ h => h) (Or.inl ⟨by rfl, (fun u hu => by obtain ⟨_, k0, k1, k2, k3, k4⟩ := hu; go_simp; try rfl)⟩) trivial (fun _ => HS0.out) ?_
      simp only [Act.put, List.setIfInBounds_toArray, List.set_cons_zero, List.set_cons_succ, List.getElem_toArray, List.getElem_cons_zero, List.getElem_cons_succ]
      refine wpAnyL_pure (i := 11) rfl (by kernel_rfl) (fun _ _ _ h => h) (Or.inl ⟨by rfl, (fun u hu => by go_simp; try rfl)⟩) trivial (fun _ => HS0.out) ?_
      simp only [Act.put, List.setIfInBounds_toArray, List.set_cons_zero, List.set_cons_succ, List.getElem_toArray, List.getElem_cons_zero, List.getElem_cons_succ]
      refine wpAnyL_pure (i := 12) rfl (by kernel_rfl) (fun _ _ _ h => h) (Or.inl ⟨by rfl, (fun u hu => by go_simp; try rfl)⟩) trivial (fun _ => HS0.out) ?_
      simp only [Act.put, List.setIfInBounds_toArray, List.set_cons_zero, List.set_cons_succ, List.getElem_toArray, List.getElem_cons_zero, List.getElem_cons_succ]
      refine wpAnyL_take (i := 13) rfl (by kernel_rfl) (fun _ _ _ h => h) (Or.inl ⟨by rfl, (fun u hu => by obtain ⟨_, k0, k1, k2, k3, k4⟩ := hu; go_simp; try rfl)⟩) trivial (fun _ => HS0.out) ?_
      simp only [Act.put, List.setIfInBounds_toArray, List.set_cons_zero, List.set_cons_succ, List.getElem_toArray, List.getElem_cons_zero, List.getElem_cons_succ]
      refine wpAnyL_ready (rs := [14]) (by kernel_rfl) (by simp) ?_
      refine AllL.cons rfl (fun K hK => ?_) ?_
      · go_simp
        refine hK.out _ _ trivial (fun _ => ⟨(World.cell?_alloc_lt _ _ _ (cell_lt HS0.out.1)).trans HS0.out.1, (World.cell?_alloc_lt _ _ _ (cell_lt HS0.out.2.1)).trans HS0.out.2.1, (World.cell?_alloc_lt _ _ _ (cell_lt HS0.out.2.2.1)).trans HS0.out.2.2.1, (World.cell?_alloc_lt _ _ _ (cell_lt HS0.out.2.2.2.1)).trans HS0.out.2.2.2.1, (World.cell?_alloc_lt _ _ _ (cell_lt HS0.out.2.2.2.2)).trans HS0.out.2.2.2.2⟩) ?_
        clear hK K
        refine wpAnyL_ready (rs := [15]) (by kernel_rfl) (by simp) ?_
        refine AllL.cons rfl (fun K hK => ?_) ?_
        · obtain ⟨A5, c5, w5, hrun, ho5, hg5, hr5⟩ := ownPush w3.drew B3 (.slice (some ⟨gS, 0, none⟩) (k + 1) cS) (k + 1) (stsP d x k) (k' : Int) HOS.out.drew (by have := HB3.out.size; have := HZ1.out; show B3 ≤ w3.heap.size; omega) (by omega)
          have hold := appOld w3.drew B3 gS (k + 1) cS (stsP d x k) (k' : Int) HOW.out (by omega) hrun k (ks : Int) (by rw [stsP_at (Nat.le_refl _), HKS.out])
          have HRUN := Lib.hid hrun
          have HO5 := Lib.hid ho5
          have HR5 := Lib.hid hr5
          have hbx5 : w5.heap[B4]? = some (.cells #[.slice (some ⟨gS, 0, none⟩) (k + 1) cS] 22 (0, 0)) := by
            rw [hg5.block B4 (by have : B4 < w3.heap.size := heap_lt HBX4.out; have : w3.drew.heap.size = w3.heap.size := rfl; simp; omega) (by rw [hrow]; intro e; injection e with e; exact hgB4 e.symm), Below.heap_alloc _ _ _ (by have := heap_lt HBX4.out; exact this)]
            exact HBX4.out
          have HBX5 := Lib.hid hbx5
          have HB5 := Lib.hid (show Below B3 w1 w5 from (HB3.out.drew.alloc (by have := HB3.out.size; have := HZ1.out; show B3 ≤ w3.heap.size; omega) _).grown hg5 (by have := HB3.out.size; have := HZ1.out; have : w3.drew.heap.size = w3.heap.size := rfl; simp; omega) (fun g e => by rw [hrow] at e; injection e with e; omega))
          have hk5 : ∀ (p : Addr) (v : Value), p.block < B3 → w3.drew.cell? p = some v → w5.cell? p = some v := fun p v hp hv => (World.cell?_of_block (hg5.block p.block (Nat.lt_of_lt_of_le (cell_lt hv) (by rw [World.size_alloc]; omega)) (by rw [hrow]; intro e; injection e with e; omega))).trans ((World.cell?_alloc_lt _ _ _ (cell_lt hv)).trans hv)
          have HS5 := Lib.hid (show w5.cell? ⟨B4, 0, none⟩ = some (.slice (some ⟨gS, 0, none⟩) (k + 1) cS) ∧ w5.cell? ⟨B1, 2, none⟩ = some (.slice (some ⟨bN, oN, none⟩) n cN) ∧ w5.cell? ⟨gS, k, none⟩ = some (.int .i64 (ks : Int)) ∧ w5.cell? ⟨bN, oN + ks, none⟩ = some (.slice (some ⟨bR, oR, none⟩) m cR) ∧ w5.cell? ⟨bR, oR + y.toNat, none⟩ = some (.int .i64 (k' : Int)) from ⟨by simp [World.cell?, hbx5], hk5 _ _ (by show B1 < B3; omega) HS0.out.2.1, hold, hk5 _ _ HBN.out.1 HS0.out.2.2.2.1, hk5 _ _ HBN.out.2 HS0.out.2.2.2.2⟩)
          clear hrun ho5 hr5 hbx5 hg5 hk5 hold
          refine step_append_run _ (by rfl) _ _ _ _ (by rfl) _ _ (by rfl) (by rfl) _ _ HRUN.out ?_
          simp only [Act.put, List.setIfInBounds_toArray, List.set_cons_zero, List.set_cons_succ, List.getElem_toArray, List.getElem_cons_zero, List.getElem_cons_succ]
          refine hK.out _ _ trivial (fun _ => HS5.out) ?_
          clear hK K
          refine wpAnyL_ready (rs := [16]) (by kernel_rfl) (by simp) ?_
          refine AllL.cons rfl (fun K hK => ?_) ?_
          · have hc : w5.cell? ⟨B4, 0, none⟩ = some (.slice (some ⟨gS, 0, none⟩) (k + 1) cS) := by simp [World.cell?, HBX5.out]
            have hf : w5.frozen? ⟨B4, 0, none⟩ = false := by simp [World.frozen?, HBX5.out]
            go_simp
            clear hc hf
            refine hK.out _ _ trivial (fun h => absurd (h 16 (by simp)) (by decide)) ?_
            clear hK K
            refine wpAnyL_done (by kernel_rfl) ?_ _
            go_wp2_with fail
            go_roundg (nw - (k + 1))
            case measure => rw [HGK.out]; omega
            case rel =>
              refine ⟨k + 1, A5, c5, by omega, rfl, by go_num, by simpa using blk_set HBX5.out 0 (.slice A5 (k + 1 + 1) c5), ?_, ?_, HB5.out.setCell (by simp; omega) _⟩
              · rw [HSN2.out]
                refine HO5.out.kept (set_grown (Bd := B4) w5 0 _) fun g e ev => ?_
                injection e with e
                rcases HR5.out with h | h
                · rw [h, hrow] at ev
                  injection ev with ev
                  omega
                · rw [h] at ev
                  injection ev with ev
                  have := heap_lt HBX4.out
                  have : w3.drew.heap.size = w3.heap.size := rfl
                  omega
              · rcases HR5.out with h | h
                · rw [h]; exact HRS.out
                · rw [h]
                  intro ev
                  injection ev with ev
                  have := heap_lt HBX4.out
                  have : w3.drew.heap.size = w3.heap.size := rfl
                  omega
          exact AllL.nil
        exact AllL.nil
      exact AllL.nil
    · obtain rfl : k = nw := by omega
      have hst3 := HSTW.out.below HL.out HBW.out
      have hx3 := HX.out.keep (Kept.belowB HBW.out (fun b hb => hb.2))
      have HMB := Lib.hid (learnMember L HL.out w3 FL ws q vA vT vR access tests hst3 _ Aw k cw x hx3 HW.out (by omega) (by omega))
      have HC3 := Lib.hid (show Cls L w3 ⟨w.heap.size, 0, none⟩ (.pointer (some ⟨L.BL, 0, none⟩)) ∧ Cls L w3 ⟨B2, 0, none⟩ (.slice Aw k cw) ∧ Cls L w3 ⟨B4, 0, none⟩ (.slice (some ⟨gS, 0, none⟩) (k + 1) cS) from by
        have h1 := HLE.out
        have h2 := HBK.out
        exact ⟨⟨k0, h1, by simp; omega⟩, ⟨k2, by show L.B0 ≤ B2; omega, by show B2 ≠ L.BK; omega⟩, ⟨hcb4, by show L.B0 ≤ B4; omega, by show B4 ≠ L.BK; omega⟩⟩)
      have hsl3 : Sl Rep.int w3 (fun b => B3 ≤ b) (some ⟨gS, 0, none⟩) (k + 1) cS (stsP d x k) := hos.rd.slInts (by
        obtain ⟨A', c', e, hc, _⟩ := hos.form
        injection e with _ _ e
        omega)
      have HSL3 := Lib.hid hsl3
      have HX3 := Lib.hid hx3
      clear hgk hbx hos hrs hb hks hcs hst3 hx3 hcb4 hsl3 how k1
      go_wp2_with fail
      refine HMB.out.mono ?_
      rintro e w4 ⟨rfl, hmp4⟩
      obtain ⟨_, _, _, ho4⟩ := id hmp4
      have HMP4 := Lib.hid hmp4
      obtain ⟨k0, k2, k4⟩ := HC3.out
      replace k0 := k0.only ho4
      replace k2 := k2.only ho4
      replace k4 := k4.only ho4
      have hsl4 := HSL3.out.keep (ho4.keptS (L := L) (fun b hb => by have := HLE.out; have := HBK.out; omega))
      have hx4 := HX3.out.keep (ho4.keptS (L := L) (fun b hb => HSW.out b hb.1))
      obtain ⟨B5, hB5⟩ : ∃ B5, B5 = w4.heap.size := ⟨_, rfl⟩
      obtain ⟨w5, hw5⟩ : ∃ w5 : World, w5 = w4.alloc (.cells #[.bool (L.acc x)] 4) := ⟨_, rfl⟩
      have hb5 : Below w4.heap.size w4 w5 := by rw [hw5]; exact (Below.refl _ _).alloc (Nat.le_refl _) _
      have h45 : Only w4 w5 (fun b => b < L.B0 ∨ b = L.BK) := .of_below hb5 (Nat.le_refl _) _
      have HC5 := Lib.hid (show Cls L w5 ⟨w.heap.size, 0, none⟩ (.pointer (some ⟨L.BL, 0, none⟩)) ∧ Cls L w5 ⟨B2, 0, none⟩ (.slice Aw k cw) ∧ Cls L w5 ⟨B4, 0, none⟩ (.slice (some ⟨gS, 0, none⟩) (k + 1) cS) ∧ Cls L w5 ⟨B5, 0, none⟩ (.bool (L.acc x)) from by
        refine ⟨k0.only h45, k2.only h45, k4.only h45, ?_, ?_, ?_⟩
        · rw [hw5, hB5]
          simp
        · have h1 := HLE.out
          have h2 := cell_lt k0.1
          show L.B0 ≤ B5
          simp only at h2
          omega
        · have h1 := HBK.out
          have h2 := cell_lt k0.1
          show B5 ≠ L.BK
          simp only at h2
          omega)
      have HSL5 := Lib.hid (hsl4.below hb5)
      have HX5 := Lib.hid (hx4.below hb5)
      have HO5 := Lib.hid (show Below w.heap.size w w3 ∧ Only w3 w5 (fun b => b < L.B0 ∨ b = L.BK) from ⟨HBW.out, ho4.trans h45⟩)
      have hmp5 : MemPost L w3 FL ws q vA vT vR access tests 1 w5 := by
        obtain ⟨ws4, h1, h2, h3⟩ := HMP4.out
        exact ⟨ws4, h1.below HL.out hb5, h2, h3.trans h45⟩
      have HMP5 := Lib.hid hmp5
      have HW5 := Lib.hid hw5
      have HB5E := Lib.hid hB5
      have k2' := k2.1
      have k2'' : w5.cell? ⟨B2, 0, none⟩ = some (.slice Aw k cw) := HC5.out.2.1.1
      have hB2z : B2 < w4.heap.size := cell_lt k2'
      clear hmp4 ho4 k0 k2 k4 hsl4 hx4 hw5 hB5 hb5 h45 hmp5
      go_wp2_with fail
      rw [← HW5.out, ← HB5E.out]
      have HS9 := Lib.hid (show w5.drew.cell? ⟨B2, 0, none⟩ = some (.slice Aw k cw) from k2'')
      clear k2' k2'' hB2z
      refine wp_region_late (late := []) (S1 := fun u => u.cell? ⟨B2, 0, none⟩ = some (.slice Aw k cw)) (S := fun _ => True) (by kernel_rfl) ?_
      refine wpAnyL_pure (i := 0) rfl (by kernel_rfl) (fun _ _ _ h => h) (Or.inl ⟨by rfl, (fun u hu => by go_simp; try rfl)⟩) HS9.out (fun _ => trivial) ?_
      simp only [Act.put, List.setIfInBounds_toArray, List.set_cons_zero, List.set_cons_succ, List.getElem_toArray, List.getElem_cons_zero, List.getElem_cons_succ]
      refine wpAnyL_pure (i := 1) rfl (by kernel_rfl) (fun _ _ _ h => h) (Or.inl ⟨by rfl, (fun u hu => by go_simp; try rfl)⟩) HS9.out (fun _ => trivial) ?_
      simp only [Act.put, List.setIfInBounds_toArray, List.set_cons_zero, List.set_cons_succ, List.getElem_toArray, List.getElem_cons_zero, List.getElem_cons_succ]
      refine wpAnyL_pure (i := 2) rfl (by kernel_rfl) (fun _ _ _ h => h) (Or.inl ⟨by rfl, (fun u hu => by go_simp; try rfl)⟩) HS9.out (fun _ => trivial) ?_
      simp only [Act.put, List.setIfInBounds_toArray, List.set_cons_zero, List.set_cons_succ, List.getElem_toArray, List.getElem_cons_zero, List.getElem_cons_succ]
      refine wpAnyL_pure (i := 3) rfl (by kernel_rfl) (fun _ _ _ h => h) (Or.inl ⟨by rfl, (fun u hu => by go_simp; try rfl)⟩) HS9.out (fun _ => trivial) ?_
      simp only [Act.put, List.setIfInBounds_toArray, List.set_cons_zero, List.set_cons_succ, List.getElem_toArray, List.getElem_cons_zero, List.getElem_cons_succ]
      refine wpAnyL_done (by kernel_rfl) ?_ _
      have he := entersSame
      obtain ⟨w6, hw6⟩ : ∃ w6 : World, w6 = w5.drew := ⟨_, rfl⟩
      have hmp6 : MemPost L w3 FL ws q vA vT vR access tests 1 w6 := by
        obtain ⟨ws4, h1, h2, h3⟩ := HMP5.out
        rw [hw6]
        exact ⟨ws4, h1.drew HL.out, h2, h3.trans (Only.drew _ _)⟩
      have ho6 : Only w5 w6 (fun b => b < L.B0 ∨ b = L.BK) := by rw [hw6]; exact Only.drew _ _
      have HMP6 := Lib.hid hmp6
      have HO6 := Lib.hid ho6
      go_wp2_with fail
      rw [← hw6]
      clear hw6 hmp6 ho6
      go_loopg [12, 13, 14] k (fun gk vl vh vm wr => ∃ lo hi : Nat, lo < hi ∧ hi ≤ k ∧ gk = hi - lo ∧ vl = .int .i64 lo ∧ vh = .int .i64 hi ∧ sameP L.acc access d x lo = true ∧ sameP L.acc access d x hi = false ∧ MemPost L w3 FL ws q vA vT vR access tests (1 + (k - (hi - lo))) wr ∧ Only w5 wr (fun b => b < L.B0 ∨ b = L.BK))
      case atStart => exact ⟨0, k, hnpos, Nat.le_refl _, rfl, rfl, rfl, HS0.out, HSN.out, by simpa using HMP6.out, HO6.out⟩
      case round =>
        obtain ⟨lo, hi, hlh, hhk, hgj, rfl, rfl, hsl, hsh, hmp, hon⟩ := hrel
        obtain ⟨w7, rfl⟩ : ∃ w7 : World, w7 = wr := ⟨_, rfl⟩
        have HGJ := Lib.hid hgj
        have HSLO := Lib.hid hsl
        have HSHI := Lib.hid hsh
        have HON := Lib.hid hon
        have HMP7 := Lib.hid hmp
        obtain ⟨c0, c2, c4, c5⟩ := HC5.out
        have c0' := c0.only hon
        have c2' := c2.only hon
        have c4' := c4.only hon
        have c5' := c5.only hon
        by_cases hgt : lo + 1 < hi
        · obtain ⟨mid, hmid⟩ : ∃ mid : Nat, mid = (lo + hi) / 2 := ⟨_, rfl⟩
          obtain ⟨km, um, e1, e2, e3, e4, e5, e6⟩ := HAT.out mid (by omega)
          obtain ⟨ws7, hst7, hl7, ho7⟩ := hmp
          have hsame := learnSame L HL.out w7 FL ws7 q vA vT vR access tests hst7 w.heap.size B4 B2 B5 (some ⟨gS, 0, none⟩) (k + 1) cS Aw k cw x (stsP d x k) (fun b => B3 ≤ b) (fun b => Sw b ∧ b < w.heap.size) c0' c4' c2' c5'
            (HSL5.out.keep (hon.keptS (L := L) (fun b hb => by have := HLE.out; have := HBK.out; omega))) (fun b hb => by have := HLE.out; have := HBK.out; omega) (HX5.out.keep (hon.keptS (L := L) (fun b hb => HSW.out b hb.1))) hl HW.out mid km um (by omega) (by omega) (by rw [stsP_at (by omega), e1]) e3 e5 e6 (by omega)
          rw [← e4] at hsame
          have HSAME := Lib.hid hsame
          have hlm1 : lo < mid := by omega
          have hlm2 : mid < hi := by omega
          have hdv : ((lo : Int) + (hi : Int)).tdiv 2 = (mid : Int) := by rw [Int.tdiv_eq_ediv_of_nonneg (by omega)]; omega
          have HL7 := Lib.hid hl7
          have HO7 := Lib.hid ho7
          clear hgj hsl hsh hon c0 c2 c4 c5 c0' c2' c4' c5' e1 e2 e3 e4 e5 e6 hst7 hl7 ho7 hsame hmid
          go_wp2_with fail
          refine HSAME.out.mono ?_
          rintro e w8 ⟨rfl, hmp8⟩
          have HMP8 := Lib.hid hmp8
          obtain ⟨_, _, _, ho8⟩ := hmp8
          have HON8 := Lib.hid (HON.out.trans ho8)
          clear ho8 hdv he
          cases hs : sameP L.acc access d x mid with
          | true =>
            have HS8 := Lib.hid hs
            clear hs
            go_wp2_with fail
            go_roundg (hi - mid)
            case measure => rw [HGJ.out]; omega
            case rel => exact ⟨mid, hi, hlm2, hhk, rfl, rfl, rfl, HS8.out, HSHI.out, MemPost.more HMP8.out HO7.out (by have := HL7.out; omega), HON8.out⟩
          | false =>
            have HS8 := Lib.hid hs
            clear hs
            go_wp2_with fail
            go_roundg (mid - lo)
            case measure => rw [HGJ.out]; omega
            case rel => exact ⟨lo, mid, hlm1, by omega, rfl, rfl, rfl, HSLO.out, HS8.out, MemPost.more HMP8.out HO7.out (by have := HL7.out; omega), HON8.out⟩
        · obtain rfl : hi = lo + 1 := by omega
          have k2 := c2'.1
          obtain ⟨A8, hcut, hsl8⟩ := (HX5.out.keep (hon.keptS (L := L) (fun b hb => HSW.out b hb.1))).dropInt (lo + 1) hhk
          have HSL8 := Lib.hid hsl8
          have hk1 : k - (lo + 1) ≤ 1000 := by have := HXL.out; omega
          have HST8 := Lib.hid (show ∀ u, (Instr.slice 22 (.slice Aw k cw) (some (.int .i64 ((lo : Int) + 1))) none none).run Try.prog u = .ok (.slice A8 (k - (lo + 1)) (cw - (lo + 1))) u from hcut)
          have hcut' := HST8.out
          clear hgj hsl hsh hmp hon c0 c2 c4 c5 c0' c2' c4' c5' hcut hsl8
          go_wp2_with fail
          refine (cloneInt A8 (k - (lo + 1)) (cw - (lo + 1)) _ _ w7 HSL8.out.ints (by omega)).mono ?_
          rintro e w8 ⟨v8, rfl, ho8, hb8⟩
          obtain ⟨A9, c9, rfl, hc9, _⟩ := ho8.form
          have HO8 := Lib.hid (ho8.rd.slInts hc9)
          have HB8 := Lib.hid hb8
          clear ho8 hb8
          go_wp2_with fail
          go_ret
          refine ⟨lo, A9, c9, rfl, by have := HXL.out; omega, HSLO.out, HSHI.out, HO8.out.more (fun b hb => ?_), ?_⟩
          · have h1 := HON.out.size
            have h2 := HO5.out.2.size
            have h3 := HO5.out.1.size
            omega
          · obtain ⟨ws9, h1, h2, h3⟩ := HMP7.out
            exact ⟨ws9, h1.below HL.out HB8.out, by omega, (Only.of_below HBW.out (Nat.le_refl _) _).trans (h3.trans (Only.of_below HB8.out (Nat.le_refl _) _))⟩
end Go.Proofs.Ytgaahpddlohjoaa
