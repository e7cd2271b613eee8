/- lens.Set: which lengths words have. -/
import Derived.Test.YtfkapijfjihiiaaGBase
import Derived.Test.YtfkapijfjihiiaaLensPlain
import Derived.Test.YtfkapijfjihiiaaHdr2
import Derived.Test.YtfkapijfjihiiaaCntF
namespace Go.Proofs.Ytfkapijfjihiiaa
open Go.RowKit

theorem sound_setD {R : List RuleD} {N n : Nat} {S : Nat → Nat → Bool} (hS : Sound R N n S) {a k : Nat} (hd : Der R [(false, (a : Int))] k) : Sound R N n (fun b j => if b = a ∧ j = k then true else S b j) := by
  intro b j hb hj h
  by_cases e : b = a ∧ j = k
  · obtain ⟨rfl, rfl⟩ := e
    exact hd
  · dsimp only at h
    rw [if_neg e] at h
    exact hS b j hb hj h
/-- which lengths up to n a nonterminal has -/
noncomputable def lenRow (R : List RuleD) (n a : Nat) : List Bool := (List.range (n + 1)).map (lenD R a)
/-- the grammar's copy and the table -/
structure LensSt (w : World) (H0 N n : Nat) (gc : Array Value) (S : Nat → Nat → Bool) (wr : World) : Prop where
  grd : Grid Value.bool 4 wr H0 (H0 + 1 + N) H0 (fun i => H0 + 1 + i) N (n + 1) S
  hi : H0 + 1 + N ≤ wr.heap.size
  gb : wr.heap[w.heap.size]? = some (.cells gc 25 (0, 0))
  lt : w.heap.size < H0
  bel : Below w.heap.size w wr
section
variable {w wr w' : World} {H0 N n : Nat} {gc : Array Value} {S : Nat → Nat → Bool}
theorem LensSt.below (h : LensSt w H0 N n gc S wr) {B : Nat} (hb : Below B wr w') (hB : H0 + 1 + N ≤ B) : LensSt w H0 N n gc S w' := by
  have hl := h.lt
  exact ⟨h.grd.keep (fun q _ hq => hb.block q (by omega)), Nat.le_trans h.hi hb.size, (hb.block _ (by omega)).trans h.gb, hl, h.bel.trans (hb.mono (by omega))⟩
theorem LensSt.drew (h : LensSt w H0 N n gc S wr) : LensSt w H0 N n gc S wr.drew := h.below (Below.refl _ _).drew h.hi
theorem LensSt.drewN (h : LensSt w H0 N n gc S wr) (k : Nat) : LensSt w H0 N n gc S (wr.drewN k) := h.below (belowN (Below.refl _ _) k) h.hi
theorem LensSt.set (h : LensSt w H0 N n gc S wr) {a : Nat} (k : Nat) (ha : a < N) (x : Bool) : LensSt w H0 N n gc (fun b j => if b = a ∧ j = k then x else S b j) (wr.setCell ⟨H0 + 1 + a, k, none⟩ (.bool x)) := by
  have hl := h.lt
  exact ⟨h.grd.set k ha x, by simpa [World.setCell] using h.hi, (Below.heap_setCell _ _ _ _ (by simp; omega)).trans h.gb, hl, h.bel.setCell (by simp; omega) _⟩
end
set_option linter.unusedSimpArgs false in
set_option maxRecDepth 1000000 in
set_option maxHeartbeats 8000000 in
theorem lensSet (w : World) (Sg : Nat → Prop) (AR : Option Addr) (nR cR : Nat) (g : GramD) (hg : Sl RRule w Sg AR nR cR g.2.2.2) (hv : GValid g) (n : Nat) (hn : n ≤ 200) :
    Calls Try.prog 11 #[.agg #[.int .i64 g.1, .int .i64 g.2.1, .int .i64 g.2.2.1, .slice AR nR cR], .int .i64 n] w fun e w' =>
      ∃ A, e = .returned (.tuple #[.slice A (n + 1) (n + 1), .int .i64 0]) ∧ Sl Rep.bool w' (fun b => w.heap.size ≤ b) A (n + 1) (n + 1) (lenRow g.2.2.2 n g.2.2.1.toNat) ∧ Below w.heap.size w w' := by
  obtain ⟨N, hN⟩ : ∃ N, N = nonsOf g := ⟨_, rfl⟩
  have hRN := rulesN_of hv
  rw [← hN] at hRN
  have hN0 : g.2.1 = (N : Int) := by have := hv.n1; rw [hN]; unfold nonsOf; omega
  have hN1 : 1 ≤ N := by have := hv.n1; omega
  have hN2 : N ≤ 10 := by have := hv.n2; omega
  have hnR : nR ≤ 32 := by have := hv.rl; have := hg.len; omega
  obtain ⟨st, hst, hstN⟩ : ∃ st : Nat, g.2.2.1 = (st : Int) ∧ st < N := ⟨g.2.2.1.toNat, by have := hv.st; omega, by have := hv.st; omega⟩
  have HRL := Lib.hid hg.len
  have HG := Lib.hid hg.fit
  have HV := Lib.hid hv
  have HRN := Lib.hid hRN
  have HST := Lib.hid hst
  have HN0 := Lib.hid hN0
  have d1 : decide ((n : Int) < 0) = false := by simp
  have d2 : decide ((200 : Int) < (n : Int)) = false := by simp; omega
  clear hg hv hRN hN hst hN0
  go_enter Try.func11, Try.ntmps11
  go_wp2_with fail
  refine (gramCheck _ _ _ _ _ g (HG.out.alloc _) HV.out).mono ?_
  rintro e w1 ⟨rfl, hb1⟩
  obtain ⟨gc, hgc⟩ : ∃ gc : Array Value, gc = #[.int .i64 g.1, .int .i64 g.2.1, .int .i64 g.2.2.1, .slice AR nR cR] := ⟨_, rfl⟩
  have hbx : w1.heap[w.heap.size]? = some (.cells gc 25 (0, 0)) := by rw [hgc]; exact (hb1.block _ (by simp)).trans (heap_alloc_new w _)
  have hb01 : Below w.heap.size w w1 := ((Below.refl _ _).alloc (Nat.le_refl _) _).trans (hb1.mono (by simp))
  have hcN : w1.cell? ⟨w.heap.size, 1, none⟩ = some (.int .i64 (N : Int)) := by rw [← HN0.out]; simp [World.cell?, hbx, hgc]
  have hlt1 : w.heap.size < w1.heap.size := heap_lt hbx
  have HBX1 := Lib.hid hbx
  have HB1 := Lib.hid hb01
  have HGC := Lib.hid hgc
  have hmk := fun W => tBoolss.make rfl N (by omega) (by omega) W
  clear hbx hb01 hb1 hgc
  go_wp2_with fail
  rw [made_hdr2 w1.heap.size N (n + 1)]
  clear hmk hcN d1 d2
  have HST0 := Lib.hid (heap_alloc_new w1 (.cells (hdr2 w1.heap.size N (n + 1) 0) 28))
  go_loopg [37] N (fun gk i wr => ∃ a : Nat, a ≤ N ∧ gk = N - a ∧ i = .int .i64 a ∧ wr.heap[w1.heap.size]? = some (.cells (hdr2 w1.heap.size N (n + 1) a) 28 (0, 0)) ∧ wr.heap.size = w1.heap.size + 1 + a ∧ (∀ b, b < a → wr.heap[w1.heap.size + 1 + b]? = some (.cells (rowCells Value.bool (n + 1) (fun _ => false)) 4 (0, 0))) ∧ Below w1.heap.size w1 wr)
  case atStart => exact ⟨0, Nat.zero_le _, rfl, rfl, HST0.out, by simp, (fun b hb => absurd hb (by omega)), (Below.refl _ _).alloc (Nat.le_refl _) _⟩
  case round =>
    obtain ⟨a, ha, hgk, rfl, hh, hz, hrows, hb⟩ := hrel
    have HGK := Lib.hid hgk
    have HZZ := Lib.hid hz
    have HRW := Lib.hid hrows
    have HB := Lib.hid hb
    have hlw : w1.heap.size < wr.heap.size := by omega
    clear HST0 hgk hz hrows hb
    by_cases hlt' : a < N
    · have hcell : wr.cell? ⟨w1.heap.size, a, none⟩ = some (.slice none 0 0) := by
        rw [cell_of_row wr _ a _ _ _ hh, hdr2_at _ _ _ _ _ hlt']
        simp
      have hfr : wr.frozen? ⟨w1.heap.size, a, none⟩ = false := by simp [World.frozen?, hh]
      have hmk := tBools.make rfl (n + 1) (by omega) (by omega) wr
      simp only [Int.natCast_add, Int.cast_ofNat_Int] at hmk
      rw [made_row] at hmk
      have hset := blk_set hh a (.slice (some ⟨w1.heap.size + 1 + a, 0, none⟩) (n + 1) (n + 1))
      rw [hdr2_set, ← HZZ.out] at hset
      have HSET := Lib.hid hset
      clear hh hset
      go_wp2_with fail
      go_roundg (N - (a + 1))
      case measure => rw [HGK.out]; omega
      case rel =>
        have hzz := HZZ.out
        refine ⟨a + 1, by omega, rfl, by go_num, (Below.heap_alloc _ _ _ (by simp [World.setCell]; omega)).trans HSET.out, by simp [World.setCell]; omega, fun b hb => ?_, (HB.out.setCell (Nat.le_refl _) _).alloc (by simp [World.setCell]; omega) _⟩
        by_cases e : b = a
        · subst e
          exact heap_new _ _ _ (by simp [World.setCell]; exact hzz)
        · rw [Below.heap_alloc _ _ _ (by simp [World.setCell]; omega), Below.heap_setCell _ _ _ _ (by simp; omega)]
          exact HRW.out b (by omega)
    · obtain rfl : N = a := by omega
      have hls : LensSt w w1.heap.size N n gc (fun _ _ => false) wr := by
        refine ⟨⟨fun i hi => ?_, fun i hi => ?_, fun i hi => ⟨by omega, by omega, by omega⟩, ⟨by omega, by omega⟩, fun i j _ _ e => by omega⟩, by have := HZZ.out; omega, (HB.out.block _ hlt1).trans HBX1.out, hlt1, HB1.out.trans (HB.out.mono (by omega))⟩
        · rw [cell_of_row wr _ i _ _ _ hh, hdr2_at _ _ _ _ _ hi, if_pos hi]
        · exact HRW.out i hi
      have HLS := Lib.hid hls
      clear hh hls HZZ HRW hlw HB HGK HB1 HBX1
      obtain ⟨H0, hH0⟩ : ∃ H0, H0 = w1.heap.size := ⟨_, rfl⟩
      rw [← hH0] at HLS hlt1
      rw [← hH0]
      clear hH0
      --@1
      go_wp2_with fail
      go_loopg [9] (cntF N n (fun _ _ => false) + 1) (fun gk t wr => ∃ (S : Nat → Nat → Bool) (ag : Bool), t = .bool ag ∧ gk = cntF N n S + (if ag then 1 else 0) ∧ LensSt w H0 N n gc S wr ∧ Sound g.2.2.2 N n S ∧ (ag = false → Closed g.2.2.2 n S))
      case atStart => exact ⟨fun _ _ => false, true, rfl, rfl, HLS.out, (fun _ _ _ _ h => by cases h), (fun h => by cases h)⟩
      case round =>
        obtain ⟨S0, ag, rfl, hgk, hls, hsn, hcl⟩ := hrel
        have HLS1 := Lib.hid hls
        have HSN1 := Lib.hid hsn
        have hcA : wr.cell? ⟨w.heap.size, 3, none⟩ = some (.slice AR nR cR) := by simp [World.cell?, hls.gb, HGC.out]
        have hcS : wr.cell? ⟨w.heap.size, 2, none⟩ = some (.int .i64 (st : Int)) := by simp [World.cell?, hls.gb, HGC.out, HST.out]
        have hcH := hls.grd.hdr st hstN
        have HRW := Lib.hid (hls.grd.row st hstN)
        have hhi := hls.hi
        clear hls hsn HLS
        cases ag with
        | false =>
          have HCL := Lib.hid hcl
          have hi1 : (st : Int) < (N : Int) := by omega
          have hi2 : (0 : Int) ≤ (st : Int) := by omega
          clear hcl hgk hcA
          --@2
          go_wp2_with fail
          go_ret2
          refine ⟨_, rfl, ?_, HLS1.out.bel⟩
          have hrow : wr.heap[H0 + 1 + st]? = some (.cells (rowCells Value.bool (n + 1) (S0 st)) 4 (0, 0)) := HRW.out
          refine Rd.slBools (l := lenRow g.2.2.2 n g.2.2.1.toNat) ⟨by simp [lenRow], fun _ => ⟨H0 + 1 + st, 0, rfl, by omega, fun j u hu => ?_⟩⟩ (Nat.le_refl _)
          rw [cell_of_row _ _ _ _ _ _ hrow]
          rw [lenRow, List.map_map, List.getElem?_map] at hu
          by_cases hj : j < n + 1
          · rw [List.getElem?_range hj] at hu
            rw [Nat.zero_add, rowCells_at _ _ _ j hj, ← hu, HST.out, Int.toNat_natCast]
            simp only [Option.map_some, Function.comp, Option.some.injEq, Value.bool.injEq]
            exact table_eq HSN1.out (HCL.out (by simp)) st j hstN (by omega)
          · rw [List.getElem?_eq_none (by simp; omega)] at hu
            cases hu
        | true =>
          have HGK := Lib.hid hgk
          clear hgk hcl hcS hcH HRW
          --@3
          go_wp2_with fail
          clear hcA
          go_loopg [9, 51] nR (fun gk t q wr => ∃ (i : Nat) (S1 : Nat → Nat → Bool) (ag : Bool), i ≤ nR ∧ gk = nR - i ∧ q = .int .i64 i ∧ t = .bool ag ∧ LensSt w H0 N n gc S1 wr ∧ Sound g.2.2.2 N n S1 ∧ (ag = false → S1 = S0 ∧ ClosedUpto g.2.2.2 n S0 i) ∧ (ag = true → cntF N n S1 < cntF N n S0))
          case atStart => exact ⟨0, S0, false, Nat.zero_le _, rfl, rfl, rfl, HLS1.out, HSN1.out, (fun _ => ⟨rfl, fun j r hj => absurd hj (by omega)⟩), (fun h => by cases h)⟩
          case round =>
            obtain ⟨i, S1, ag1, hi, hgi, rfl, rfl, hls, hsn, hf1, ht1⟩ := hrel
            have HGI := Lib.hid hgi
            have HLS2 := Lib.hid hls
            have HSN2 := Lib.hid hsn
            have HF2 := Lib.hid hf1
            have HT2 := Lib.hid ht1
            have hhi2 := hls.hi
            have hbel := hls.bel
            clear hgi hsn hf1 ht1 hls
            by_cases hin : i < nR
            · obtain ⟨b0, off, AQ, m, cQ, r, hAR, _, _, hr1, hr2, hr, hrs⟩ := rule_at HG.out hin
              replace hr1 := Kept.below (S := fun _ => True) hbel _ _ trivial hr1
              replace hr2 := Kept.below (S := fun _ => True) hbel _ _ trivial hr2
              subst hAR
              obtain ⟨⟨hr0, hrN⟩, hrn⟩ := HRN.out r (List.mem_of_getElem? hr)
              obtain ⟨left, hleft⟩ : ∃ left : Nat, r.1 = (left : Int) := ⟨r.1.toNat, by omega⟩
              rw [hleft, Int.toNat_natCast] at hrN
              rw [hleft] at hr1
              have hm4 : m ≤ 4 := by have := (HV.out.rules r (List.mem_of_getElem? hr)).2.1; have := hrs.len; omega
              have HR := Lib.hid hr
              have HRS := Lib.hid hrs
              have HRSL := Lib.hid hrs.len
              have HLF := Lib.hid hleft
              have HRN2 := Lib.hid hrn
              obtain ⟨w2, rfl⟩ : ∃ w2 : World, w2 = wr := ⟨_, rfl⟩
              clear hr hrs hleft hrn hr0 hbel
              have hmk := fun W => tBools.make rfl (n + 1) (by omega) (by omega) W
              simp only [Int.natCast_add, Int.cast_ofNat_Int, made_row] at hmk
              have hrc : (rowCells Value.bool (n + 1) (fun _ => false))[0]? = some (Value.bool false) := rowCells_at _ _ _ 0 (by omega)
              --@4
              go_wp2_with fail
              clear hr1 hr2 hmk hrc
              obtain ⟨w3, hw3⟩ : ∃ w3 : World, w3 = w2.alloc (.cells #[.int .i64 (left : Int), .slice AQ m cQ] 36) := ⟨_, rfl⟩
              rw [← hw3]
              have hz3 : w3.heap.size = w2.heap.size + 1 := by rw [hw3]; simp
              have HLS3 := Lib.hid (show LensSt w H0 N n gc S1 w3 by rw [hw3]; exact HLS2.out.below ((Below.refl _ _).alloc (Nat.le_refl _) _) hhi2)
              have HBR3 := Lib.hid (show w3.heap[w2.heap.size]? = some (.cells #[.int .i64 (left : Int), .slice AQ m cQ] 36 (0, 0)) by rw [hw3]; exact heap_alloc_new w2 _)
              have HST3 := Lib.hid (heap_new w3 (.cells ((rowCells Value.bool (n + 1) (fun _ => false)).setIfInBounds 0 (.bool true)) 4) (w2.heap.size + 1) hz3)
              clear hw3 HLS2
              go_loopg [12, 63] m (fun gk t q wr => ∃ (i' Ba : Nat), i' ≤ m ∧ gk = m - i' ∧ q = .int .i64 i' ∧ t = .slice (some ⟨Ba, 0, none⟩) (n + 1) (n + 1) ∧ w3.heap.size ≤ Ba ∧ wr.heap[Ba]? = some (.cells (rowCells Value.bool (n + 1) (preT S1 r.2 i')) 4 (0, 0)) ∧ Below w3.heap.size w3 wr)
              case atStart =>
                refine ⟨0, w2.heap.size + 1, Nat.zero_le _, rfl, rfl, rfl, by omega, ?_, ?_⟩
                · rw [rowCells_congr Value.bool (n + 1) (f := preT S1 r.2 0) (g := upd (fun _ => false) 0 true) (fun k _ => by rw [preT_zero]; simp only [upd]; by_cases e : k = 0 <;> simp [e]), ← rowCells_set]
                  exact HST3.out
                · exact (Below.refl _ _).alloc (Nat.le_refl _) _
              case round =>
                obtain ⟨i', Ba, hi', hgi', rfl, rfl, hBa, hrow, hb4⟩ := hrel
                have HGI4 := Lib.hid hgi'
                have HRW4 := Lib.hid hrow
                have HB4 := Lib.hid hb4
                have hz4 := hb4.size
                have hBa2 : Ba < wr.heap.size := heap_lt hrow
                clear hgi' hrow hb4 HST3
                obtain ⟨w4, rfl⟩ : ∃ w4 : World, w4 = wr := ⟨_, rfl⟩
                by_cases hlt4 : i' < m
                · obtain ⟨bs, os, s, hAQ, _, _, hs1, hs2, hs⟩ := sym_at HRS.out hlt4
                  have hb04 := HLS3.out.bel.trans (HB4.out.mono (by omega))
                  replace hs1 := Kept.below (S := fun _ => True) hb04 _ _ trivial hs1
                  replace hs2 := Kept.below (S := fun _ => True) hb04 _ _ trivial hs2
                  subst hAQ
                  have HSY := Lib.hid hs
                  have HSO := Lib.hid (HRN2.out s (List.mem_of_getElem? hs))
                  clear hs hb04
                  have hmk := fun W => tBools.make rfl (n + 1) (by omega) (by omega) W
                  simp only [Int.natCast_add, Int.cast_ofNat_Int, made_row] at hmk
                  --@6
                  go_wp2_with fail
                  clear hs1 hs2 hmk
                  obtain ⟨w5, hw5⟩ : ∃ w5 : World, w5 = w4.alloc (.cells #[.bool s.1, .int .i64 s.2] 38) := ⟨_, rfl⟩
                  rw [← hw5]
                  have hz5 : w5.heap.size = w4.heap.size + 1 := by rw [hw5]; simp
                  have HB5 := Lib.hid (show Below w4.heap.size w4 w5 by rw [hw5]; exact (Below.refl _ _).alloc (Nat.le_refl _) _)
                  have HBS5 := Lib.hid (show w5.heap[w4.heap.size]? = some (.cells #[.bool s.1, .int .i64 s.2] 38 (0, 0)) by rw [hw5]; exact heap_alloc_new w4 _)
                  have HRW5 := Lib.hid ((HB5.out.block _ hBa2).trans HRW4.out)
                  have HLS5 := Lib.hid ((HLS3.out.below HB4.out (by omega)).below HB5.out (by omega))
                  have HNW := Lib.hid (heap_new w5 (.cells (rowCells Value.bool (n + 1) (fun _ => false)) 4) (w4.heap.size + 1) hz5)
                  clear hw5
                  --@7
                  go_loopg [72] (n + 1) (fun gk q wx => ∃ (x : Nat) (T : Nat → Bool), x ≤ n + 1 ∧ gk = n + 1 - x ∧ q = .int .i64 x ∧ wx.heap[w4.heap.size + 1]? = some (.cells (rowCells Value.bool (n + 1) T) 4 (0, 0)) ∧ (∀ k, T k = true → ∃ y, y ≤ k ∧ preT S1 r.2 i' y = true ∧ hasT S1 s (k - y) = true) ∧ (∀ y j, y < x → y + j ≤ n → preT S1 r.2 i' y = true → hasT S1 s j = true → T (y + j) = true) ∧ Below w5.heap.size w5 wx)
                  case atStart => exact ⟨0, fun _ => false, Nat.zero_le _, rfl, rfl, HNW.out, (fun _ h => by cases h), (fun y j h => absurd h (by omega)), (Below.refl _ _).alloc (Nat.le_refl _) _⟩
                  case round =>
                    obtain ⟨x, T, hx, hgx, rfl, hrowN, hTs, hTc, hb6⟩ := hrel
                    have HGX := Lib.hid hgx
                    have HRN6 := Lib.hid hrowN
                    have HTS := Lib.hid hTs
                    have HTC := Lib.hid hTc
                    have HB6 := Lib.hid hb6
                    have hz6 := hb6.size
                    have hlN := heap_lt hrowN
                    clear hgx hrowN hTs hTc HNW
                    obtain ⟨w6, rfl⟩ : ∃ w6 : World, w6 = wr := ⟨_, rfl⟩
                    by_cases hx6 : x < n + 1
                    · have hca : w6.cell? ⟨Ba, x, none⟩ = some (.bool (preT S1 r.2 i' x)) := by
                        rw [hb6.cell (p := ⟨Ba, x, none⟩) (by show Ba < _; omega), cell_of_row w5 _ x _ _ _ HRW5.out]
                        exact rowCells_at _ _ _ x hx6
                      have hx1 : (x : Int) < ((n + 1 : Nat) : Int) := by omega
                      have hx2 : (0 : Int) ≤ (x : Int) := by omega
                      clear hb6
                      cases hF : preT S1 r.2 i' x with
                      | false =>
                        have HF := Lib.hid hF
                        rw [hF] at hca
                        clear hF
                        --@8
                        go_wp2_with fail
                        go_loopg [18] 1 (fun gk q wx => gk = 1 ∧ q = .int .i64 0 ∧ wx = w6)
                        case atStart => exact ⟨rfl, rfl, rfl⟩
                        case round =>
                          obtain ⟨hgy, rfl, rfl⟩ := hrel
                          --@9
                          go_wp2_with fail
                          go_roundg (n + 1 - (x + 1))
                          case measure => rw [HGX.out]; omega
                          case rel =>
                            refine ⟨x + 1, T, by omega, rfl, by go_num, HRN6.out, HTS.out, fun y j hy hyj h1 h2 => ?_, HB6.out⟩
                            rcases Nat.lt_succ_iff_lt_or_eq.1 hy with h | rfl
                            · exact HTC.out y j h hyj h1 h2
                            · rw [HF.out] at h1; cases h1
                      | true =>
                        have HF := Lib.hid hF
                        rw [hF] at hca
                        clear hF
                        go_wp2_with fail
                        clear hca
                        go_loopg [18] (n + 1 - x) (fun gk q wx => ∃ (j : Nat) (T2 : Nat → Bool), x + j ≤ n + 1 ∧ gk = n + 1 - (x + j) ∧ q = .int .i64 j ∧ wx.heap[w4.heap.size + 1]? = some (.cells (rowCells Value.bool (n + 1) T2) 4 (0, 0)) ∧ (∀ k, T2 k = true → ∃ y, y ≤ k ∧ preT S1 r.2 i' y = true ∧ hasT S1 s (k - y) = true) ∧ (∀ y q, y < x ∨ y = x ∧ q < j → y + q ≤ n → preT S1 r.2 i' y = true → hasT S1 s q = true → T2 (y + q) = true) ∧ Below w5.heap.size w5 wx)
                        case atStart => exact ⟨0, T, by omega, by omega, rfl, HRN6.out, HTS.out, (fun y q h => by rcases h with h | h; exact HTC.out y q h; omega), HB6.out⟩
                        case round =>
                          obtain ⟨j, T2, hj, hgj, rfl, hrowN, hTs, hTc, hb7⟩ := hrel
                          have HGJ := Lib.hid hgj
                          have HRN7 := Lib.hid hrowN
                          have HTS7 := Lib.hid hTs
                          have HTC7 := Lib.hid hTc
                          have HB7 := Lib.hid hb7
                          have hlN7 := heap_lt hrowN
                          have hcs0 : wr.cell? ⟨w4.heap.size, 0, none⟩ = some (.bool s.1) := by
                            rw [hb7.cell (p := ⟨w4.heap.size, 0, none⟩) (by show w4.heap.size < _; omega)]; simp [World.cell?, HBS5.out]
                          have hcs1 : wr.cell? ⟨w4.heap.size, 1, none⟩ = some (.int .i64 s.2) := by
                            rw [hb7.cell (p := ⟨w4.heap.size, 1, none⟩) (by show w4.heap.size < _; omega)]; simp [World.cell?, HBS5.out]
                          have HLS7 := Lib.hid (HLS5.out.below hb7 (by omega))
                          clear hgj hTs hTc hb7 HTS HTC HRN6 HB6
                          by_cases hxj : x + j < n + 1
                          · have hle : decide ((x : Int) + (j : Int) ≤ (n : Int)) = true := by simp; omega
                            have hcn : wr.cell? ⟨w4.heap.size + 1, x + j, none⟩ = some (.bool (T2 (x + j))) := by
                              rw [cell_of_row wr _ (x + j) _ _ _ hrowN]
                              exact rowCells_at _ _ _ (x + j) hxj
                            have hfn : wr.frozen? ⟨w4.heap.size + 1, x + j, none⟩ = false := by simp [World.frozen?, hrowN]
                            have hset := blk_set hrowN (x + j) (.bool true)
                            rw [rowCells_set] at hset
                            have HSET := Lib.hid hset
                            have hxy1 : (x : Int) + (j : Int) < ((n + 1 : Nat) : Int) := by omega
                            have hxy2 : (0 : Int) ≤ (x : Int) + (j : Int) := by omega
                            have hno : hasT S1 s j = false → ∃ (j' : Nat) (T3 : Nat → Bool), x + j' ≤ n + 1 ∧ n + 1 - (x + (j + 1)) = n + 1 - (x + j') ∧ (Value.int .i64 ((j : Int) + 1)) = .int .i64 j' ∧ wr.heap[w4.heap.size + 1]? = some (.cells (rowCells Value.bool (n + 1) T3) 4 (0, 0)) ∧ (∀ k, T3 k = true → ∃ y, y ≤ k ∧ preT S1 r.2 i' y = true ∧ hasT S1 s (k - y) = true) ∧ (∀ y q, y < x ∨ y = x ∧ q < j' → y + q ≤ n → preT S1 r.2 i' y = true → hasT S1 s q = true → T3 (y + q) = true) ∧ Below w5.heap.size w5 wr := by
                              intro hh
                              refine ⟨j + 1, T2, by omega, rfl, by simp, HRN7.out, HTS7.out, fun y q h h1 h2 h3 => ?_, HB7.out⟩
                              rcases h with h | ⟨rfl, h⟩
                              · exact HTC7.out y q (Or.inl h) h1 h2 h3
                              · rcases Nat.lt_succ_iff_lt_or_eq.1 h with h | rfl
                                · exact HTC7.out y q (Or.inr ⟨rfl, h⟩) h1 h2 h3
                                · rw [hh] at h3; cases h3
                            have hyes : hasT S1 s j = true → ∃ (j' : Nat) (T3 : Nat → Bool), x + j' ≤ n + 1 ∧ n + 1 - (x + (j + 1)) = n + 1 - (x + j') ∧ (Value.int .i64 ((j : Int) + 1)) = .int .i64 j' ∧ (wr.setCell ⟨w4.heap.size + 1, x + j, none⟩ (.bool true)).heap[w4.heap.size + 1]? = some (.cells (rowCells Value.bool (n + 1) T3) 4 (0, 0)) ∧ (∀ k, T3 k = true → ∃ y, y ≤ k ∧ preT S1 r.2 i' y = true ∧ hasT S1 s (k - y) = true) ∧ (∀ y q, y < x ∨ y = x ∧ q < j' → y + q ≤ n → preT S1 r.2 i' y = true → hasT S1 s q = true → T3 (y + q) = true) ∧ Below w5.heap.size w5 (wr.setCell ⟨w4.heap.size + 1, x + j, none⟩ (.bool true)) := by
                              intro hh
                              refine ⟨j + 1, _, by omega, rfl, by simp, HSET.out, fun k hk => ?_, fun y q h h1 h2 h3 => ?_, HB7.out.setCell (by show w5.heap.size ≤ w4.heap.size + 1; omega) _⟩
                              · by_cases e : k = x + j
                                · subst e
                                  exact ⟨x, by omega, HF.out, by rw [Nat.add_sub_cancel_left]; exact hh⟩
                                · simp only [upd, if_neg e] at hk
                                  exact HTS7.out k hk
                              · by_cases e : y + q = x + j
                                · simp only [upd, e, if_true]
                                · simp only [upd, if_neg e]
                                  refine HTC7.out y q ?_ h1 h2 h3
                                  rcases h with h | ⟨rfl, h⟩
                                  · exact Or.inl h
                                  · exact Or.inr ⟨rfl, by omega⟩
                            have HNO := Lib.hid hno
                            have HYES := Lib.hid hyes
                            clear hset hrowN hno hyes
                            by_cases htm : s.1 = true
                            · have HTM := Lib.hid htm
                              rw [htm] at hcs0
                              clear htm
                              by_cases hj1 : j = 1
                              · have hje : ((j : Int) == 1) = true := by simp [hj1]
                                have hh : hasT S1 s j = true := by simp [hasT, HTM.out, hj1]
                                have HH := Lib.hid hh
                                have HGE := Lib.hid (HYES.out hh)
                                clear hh hj1
                                --@10
                                go_wp2_with fail
                                go_roundg (n + 1 - (x + (j + 1)))
                                case measure => rw [HGJ.out]; omega
                                case rel => exact HGE.out
                              · have hje : ((j : Int) == 1) = false := by simp; omega
                                have hh : hasT S1 s j = false := by simp [hasT, HTM.out, hj1]
                                have HGE := Lib.hid (HNO.out hh)
                                clear hh hj1
                                go_wp2_with fail
                                go_roundg (n + 1 - (x + (j + 1)))
                                case measure => rw [HGJ.out]; omega
                                case rel => exact HGE.out
                            · have htm' : s.1 = false := by simpa using htm
                              clear htm
                              have htm := htm'
                              clear htm'
                              have HTM := Lib.hid htm
                              rw [htm] at hcs0
                              obtain ⟨hq0, hqN⟩ := HSO.out htm
                              obtain ⟨a, hsa⟩ : ∃ a : Nat, s.2 = (a : Int) := ⟨s.2.toNat, by omega⟩
                              rw [hsa, Int.toNat_natCast] at hqN
                              rw [hsa] at hcs1
                              have hh : hasT S1 s j = S1 a j := by simp [hasT, htm, hsa]
                              clear htm hsa hq0
                              have hgh := HLS7.out.grd.hdr a hqN
                              have hgc' := HLS7.out.grd.cell hqN (show j < n + 1 by omega)
                              have ha1 : (a : Int) < (N : Int) := by omega
                              have ha2 : (0 : Int) ≤ (a : Int) := by omega
                              have hj1 : (j : Int) < ((n + 1 : Nat) : Int) := by omega
                              have hj2 : (0 : Int) ≤ (j : Int) := by omega
                              cases hS : S1 a j with
                              | true =>
                                have HGE := Lib.hid (HYES.out (hh.trans hS))
                                rw [hS] at hgc'
                                clear hh hS
                                --@11
                                go_wp2_with fail
                                go_roundg (n + 1 - (x + (j + 1)))
                                case measure => rw [HGJ.out]; omega
                                case rel => exact HGE.out
                              | false =>
                                have HGE := Lib.hid (HNO.out (hh.trans hS))
                                rw [hS] at hgc'
                                clear hh hS
                                go_wp2_with fail
                                go_roundg (n + 1 - (x + (j + 1)))
                                case measure => rw [HGJ.out]; omega
                                case rel => exact HGE.out
                          · have hle : decide ((x : Int) + (j : Int) ≤ (n : Int)) = false := by simp; omega
                            --@12
                            go_wp2_with fail
                            go_roundg (n + 1 - (x + 1))
                            case measure => rw [HGX.out]; omega
                            case rel =>
                              refine ⟨x + 1, T2, by omega, rfl, by go_num, HRN7.out, HTS7.out, fun y q hy hyj h1 h2 => ?_, HB7.out⟩
                              refine HTC7.out y q ?_ hyj h1 h2
                              rcases Nat.lt_succ_iff_lt_or_eq.1 hy with h | rfl
                              · exact Or.inl h
                              · exact Or.inr ⟨rfl, by omega⟩
                    · obtain rfl : x = n + 1 := by omega
                      --@13
                      go_wp2_with fail
                      go_roundg (m - (i' + 1))
                      case measure => rw [HGI4.out]; omega
                      case rel =>
                        refine ⟨i' + 1, w4.heap.size + 1, by omega, rfl, by go_num, rfl, by omega, ?_, HB4.out.trans ((HB5.out.trans (HB6.out.mono (by omega))).mono (by omega))⟩
                        rw [HRN6.out, rowCells_congr Value.bool (n + 1) (g := preT S1 r.2 (i' + 1)) (fun k hk => ?_)]
                        rw [Bool.eq_iff_iff, preT_succ HSY.out]
                        constructor
                        · exact HTS.out k
                        · rintro ⟨y, h1, h2, h3⟩
                          have := HTC.out y (k - y) (by omega) (by omega) h2 h3
                          rwa [show y + (k - y) = k by omega] at this
                · obtain rfl : i' = m := by omega
                  have hbr4 : w4.heap[w2.heap.size]? = some (.cells #[.int .i64 (left : Int), .slice AQ i' cQ] 36 (0, 0)) := (HB4.out.block _ (by omega)).trans HBR3.out
                  have HBR4 := Lib.hid hbr4
                  have HLS4 := Lib.hid (HLS3.out.below HB4.out (by omega))
                  have hrow4 : w4.heap[Ba]? = some (.cells (rowCells Value.bool (n + 1) (canT S1 r.2)) 4 (0, 0)) := by
                    rw [HRW4.out, rowCells_congr Value.bool (n + 1) (g := canT S1 r.2) (fun k _ => by rw [HRSL.out, preT_all])]
                  have HRC4 := Lib.hid hrow4
                  clear hbr4 hrow4 HRW4 HLS3 HBR3 HB4
                  --@14
                  go_wp2_with fail
                  go_loopg [9, 118] (n + 1) (fun gk t q wr => ∃ (k : Nat) (S2 : Nat → Nat → Bool) (ag : Bool), k ≤ n + 1 ∧ gk = n + 1 - k ∧ q = .int .i64 k ∧ t = .bool ag ∧ LensSt w H0 N n gc S2 wr ∧ Sound g.2.2.2 N n S2 ∧ (ag = false → S1 = S0 ∧ S2 = S0 ∧ ClosedUpto g.2.2.2 n S0 i ∧ ∀ q, q < k → canT S0 r.2 q = true → S0 left q = true) ∧ (ag = true → cntF N n S2 < cntF N n S0) ∧ wr.heap[Ba]? = some (.cells (rowCells Value.bool (n + 1) (canT S1 r.2)) 4 (0, 0)) ∧ wr.heap[w2.heap.size]? = some (.cells #[.int .i64 (left : Int), .slice AQ i' cQ] 36 (0, 0)))
                  case atStart => exact ⟨0, S1, ag1, Nat.zero_le _, rfl, rfl, rfl, HLS4.out, HSN2.out, (fun h => ⟨(HF2.out h).1, (HF2.out h).1, (HF2.out h).2, fun q hq => absurd hq (by omega)⟩), HT2.out, HRC4.out, HBR4.out⟩
                  case round =>
                    obtain ⟨k, S2, ag2, hk, hgk2, rfl, rfl, hls, hsn, hf, ht, hrow, hbr⟩ := hrel
                    have HGK2 := Lib.hid hgk2
                    have HLS7 := Lib.hid hls
                    have HSN7 := Lib.hid hsn
                    have HF7 := Lib.hid hf
                    have HT7 := Lib.hid ht
                    have HRC7 := Lib.hid hrow
                    have HBR7 := Lib.hid hbr
                    clear hgk2 hsn hf ht HLS4 HRC4 HBR4
                    by_cases hkn : k < n + 1
                    · have hca : wr.cell? ⟨Ba, k, none⟩ = some (.bool (canT S1 r.2 k)) := by
                        rw [cell_of_row wr _ k _ _ _ hrow]
                        exact rowCells_at _ _ _ k hkn
                      have hcl : wr.cell? ⟨w2.heap.size, 0, none⟩ = some (.int .i64 (left : Int)) := by simp [World.cell?, hbr]
                      have hch := hls.grd.hdr left hrN
                      have hcc := hls.grd.cell hrN hkn
                      have i1 : (left : Int) < (N : Int) := by omega
                      have i2 : (0 : Int) ≤ (left : Int) := by omega
                      have i3 : (k : Int) < ((n + 1 : Nat) : Int) := by omega
                      have i4 : (0 : Int) ≤ (k : Int) := by omega
                      have hhi7 := hls.hi
                      clear hls hrow hbr
                      cases hcan : canT S1 r.2 k with
                      | false =>
                        have HCAN := Lib.hid hcan
                        rw [hcan] at hca
                        clear hcan hch hcc hcl
                        --@15
                        go_wp2_with fail
                        go_roundg (n + 1 - (k + 1))
                        case measure => rw [HGK2.out]; omega
                        case rel =>
                          refine ⟨k + 1, S2, ag2, by omega, rfl, by go_num, rfl, HLS7.out, HSN7.out, fun h => ?_, HT7.out, HRC7.out, HBR7.out⟩
                          obtain ⟨e0, e1, e2, e3⟩ := HF7.out h
                          refine ⟨e0, e1, e2, fun q hq hc => ?_⟩
                          rcases Nat.lt_succ_iff_lt_or_eq.1 hq with h' | rfl
                          · exact e3 q h' hc
                          · rw [← e0, HCAN.out] at hc
                            cases hc
                      | true =>
                        have HCAN := Lib.hid hcan
                        rw [hcan] at hca
                        clear hcan
                        cases hsk : S2 left k with
                        | true =>
                          have HSK := Lib.hid hsk
                          rw [hsk] at hcc
                          clear hsk
                          --@16
                          go_wp2_with fail
                          go_roundg (n + 1 - (k + 1))
                          case measure => rw [HGK2.out]; omega
                          case rel =>
                            refine ⟨k + 1, S2, ag2, by omega, rfl, by go_num, rfl, HLS7.out, HSN7.out, fun h => ?_, HT7.out, HRC7.out, HBR7.out⟩
                            obtain ⟨e0, e1, e2, e3⟩ := HF7.out h
                            refine ⟨e0, e1, e2, fun q hq hc => ?_⟩
                            rcases Nat.lt_succ_iff_lt_or_eq.1 hq with h' | rfl
                            · exact e3 q h' hc
                            · rw [← e1]; exact HSK.out
                        | false =>
                          have HSK := Lib.hid hsk
                          rw [hsk] at hcc
                          clear hsk
                          have hfc := HLS7.out.grd.fr hrN k
                          have HLS8 := Lib.hid (HLS7.out.set k hrN true)
                          have HSN8 := Lib.hid (sound_setD HSN7.out (a := left) (k := k) (by
                            rw [← HLF.out]
                            exact Der.non_iff.2 ⟨r.2, List.mem_of_getElem? HR.out, canT_sound HSN2.out HRN2.out (by omega) HCAN.out⟩))
                          have HLT8 := Lib.hid (show cntF N n (fun b j => if b = left ∧ j = k then true else S2 b j) < cntF N n S0 by
                            have h1 := cntF_set hrN (show k ≤ n by omega) HSK.out
                            cases ag2 with
                            | true => have := HT7.out rfl; omega
                            | false => rw [(HF7.out rfl).2.1] at h1 ⊢; exact h1)
                          have HRC8 := Lib.hid ((Below.heap_setCell wr ⟨H0 + 1 + left, k, none⟩ (.bool true) Ba (by simp; omega)).trans HRC7.out)
                          have HBR8 := Lib.hid ((Below.heap_setCell wr ⟨H0 + 1 + left, k, none⟩ (.bool true) w2.heap.size (by simp; omega)).trans HBR7.out)
                          --@17
                          go_wp2_with fail
                          go_roundg (n + 1 - (k + 1))
                          case measure => rw [HGK2.out]; omega
                          case rel => exact ⟨k + 1, _, true, by omega, rfl, by go_num, rfl, HLS8.out, HSN8.out, (fun h => by cases h), (fun _ => HLT8.out), HRC8.out, HBR8.out⟩
                    · obtain rfl : k = n + 1 := by omega
                      --@18
                      go_wp2_with fail
                      go_roundg (nR - (i + 1))
                      case measure => rw [HGI.out]; omega
                      case rel =>
                        refine ⟨i + 1, S2, ag2, by omega, rfl, by go_num, rfl, HLS7.out, HSN7.out, fun h => ?_, HT7.out⟩
                        obtain ⟨e0, e1, e2, e3⟩ := HF7.out h
                        refine ⟨e1, fun j r' hj hr' q hq hc => ?_⟩
                        rcases Nat.lt_succ_iff_lt_or_eq.1 hj with h' | rfl
                        · exact e2 j r' h' hr' q hq hc
                        · rw [HR.out] at hr'
                          injection hr' with hr'
                          subst hr'
                          rw [HLF.out, Int.toNat_natCast]
                          exact e3 q (by omega) hc
            · obtain rfl : i = nR := by omega
              --@19
              go_wp2_with fail
              go_roundg (cntF N n S1 + (if ag1 then 1 else 0))
              case measure =>
                rw [HGK.out]
                cases ag1 with
                | true => have := HT2.out rfl; simp; omega
                | false => rw [(HF2.out rfl).1]; simp
              case rel =>
                refine ⟨S1, ag1, rfl, rfl, HLS2.out, HSN2.out, fun h => ?_⟩
                obtain ⟨e1, e2⟩ := HF2.out h
                intro r hr k hk hc
                obtain ⟨j, hj⟩ := List.getElem?_of_mem hr
                rw [e1] at hc ⊢
                exact e2 j r (by have := (List.getElem?_eq_some_iff.1 hj).1; have := HRL.out; omega) hj k hk hc
end Go.Proofs.Ytfkapijfjihiiaa
