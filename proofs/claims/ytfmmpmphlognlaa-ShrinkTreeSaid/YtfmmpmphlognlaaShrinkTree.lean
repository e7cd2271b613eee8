/- ShrinkTree: its walk. -/
import Derived.Test.YtfmmpmphlognlaaShTree2
import Derived.Test.YtfmmpmphlognlaaShSmall
import Derived.Test.YtfmmpmphlognlaaShrinkTreeF
import Derived.Test.YtfmmpmphlognlaaShrinkTreeP
import Derived.Test.YtfmmpmphlognlaaMakeTree3
import Derived.Test.YtfmmpmphlognlaaKPlain
import Derived.Test.YtfmmpmphlognlaaBelow
namespace Go.Proofs.Ytfmmpmphlognlaa
open Go.RowKit

set_option maxRecDepth 100000 in
/-- the tree xP, laid in two new blocks -/
theorem xP_mem (w : World) : Sl RTree ((w.alloc (.cells #[.int .i64 (-1), .int .i64 0, .slice none 0 0] 31)).alloc (.cells #[.int .i64 (-1), .int .i64 1, .slice none 0 0, .int .i64 0, .int .i64 0, .slice (some ⟨w.heap.size, 0, none⟩) 1 1] 31)) (fun b => w.heap.size ≤ b) (some ⟨w.heap.size + 1, 0, none⟩) 2 2 xP.kids := by
  refine ⟨[.int .i64 (-1), .int .i64 1, .slice none 0 0, .int .i64 0, .int .i64 0, .slice (some ⟨w.heap.size, 0, none⟩) 1 1], rfl, Nat.le_refl _, Rd.newS _ _ _ _ (w.heap.size + 1) 2 3 (by simp) (by simp) rfl, ?_⟩
  refine ⟨[_, _, _], [_, _, _], rfl, RTree.cells.2 ⟨none, 0, 0, rfl, Sl.nil _ _ _ _⟩, Cells.single (RTree.cells.2 ⟨_, _, _, rfl, ?_⟩)⟩
  exact Sl.alloc (R := RTree) (l := [.node (-1) 0 []]) ⟨[.int .i64 (-1), .int .i64 0, .slice none 0 0], rfl, Nat.le_refl _, Rd.newS _ (fun b => w.heap.size ≤ b) _ _ w.heap.size 1 3 rfl (Nat.le_refl _) rfl, Cells.single (RTree.cells.2 ⟨none, 0, 0, rfl, Sl.nil _ _ _ _⟩)⟩ _
set_option linter.unusedSimpArgs false in
set_option maxRecDepth 1000000 in
set_option maxHeartbeats 8000000 in
theorem shrinkTree_walk (W : World) (A0 : Option Addr) (n0 c0 : Nat) (z0 : List Int) (le0 : n0 ≤ c0) (cap0 : c0 ≤ 17592186043904) (rd0 : Rd W (fun _ => True) 1 A0 n0 (z0.map (Value.int .i64))) (_rg0 : ∀ z ∈ z0, -9223372036854775808 ≤ z ∧ z ≤ 9223372036854775807)
    (A1 : Option Addr) (n1 c1 : Nat) (z1 : List Int) (le1 : n1 ≤ c1) (cap1 : c1 ≤ 17592186043904) (rd1 : Rd W (fun _ => True) 1 A1 n1 (z1.map (Value.int .i64))) (_rg1 : ∀ z ∈ z1, -9223372036854775808 ≤ z ∧ z ≤ 9223372036854775807)
    (x2 : Int) (_lo2 : -9223372036854775808 ≤ x2) (_hi2 : x2 ≤ 9223372036854775807) :
    Calls Try.prog 3 #[.slice A0 n0 c0, .slice A1 n1 c1, .int .i64 x2] W fun e W' => e = .returned (.bool true) ∧ Below W.heap.size W W' := by
  obtain ⟨w0, hw0⟩ : ∃ w0 : World, w0 = W.alloc (.cells #[.int .i64 x2] 3) := ⟨_, rfl⟩
  have hz0 : w0.heap.size = W.heap.size + 1 := by rw [hw0]; simp
  have hb0 : Below W.heap.size W w0 := by rw [hw0]; exact (Below.refl _ _).alloc (Nat.le_refl _) _
  have ha0 : w0.heap[W.heap.size]? = some (.cells #[.int .i64 x2] 3 (0, 0)) := by rw [hw0]; exact heap_alloc_new W _
  have HB0 := Lib.hid hb0
  have HA0 := Lib.hid ha0
  have HR0 := Lib.hid ((rd0.slInts le0).fit.below hb0)
  have HR1 := Lib.hid ((rd1.slInts le1).fit)
  clear rd0 _rg0 rd1 _rg1 hb0 ha0
  go_enter Try.func3, Try.ntmps3
  go_wp2_with fail
  rw [← hw0]
  clear hw0
  refine (makeGrammar w0 _ _ _ _ z0 HR0.out (by omega)).mono ?_
  rintro e w1 ⟨g, AR, cR, hv, hsm, rfl, hg, hb1⟩
  have hs1 := hb1.size
  obtain ⟨w2, hw2⟩ : ∃ w2 : World, w2 = w1.alloc (.cells #[.int .i64 g.1, .int .i64 g.2.1, .int .i64 g.2.2.1, .slice AR g.2.2.2.length cR] 25) := ⟨_, rfl⟩
  have hz2 : w2.heap.size = w1.heap.size + 1 := by rw [hw2]; simp
  have HV := Lib.hid hv
  have HG2 := Lib.hid (show Sl RRule w2 (fun b => w0.heap.size ≤ b) AR g.2.2.2.length cR g.2.2.2 by rw [hw2]; exact hg.alloc _)
  have HB2 := Lib.hid (show Below w0.heap.size w0 w2 by rw [hw2]; exact hb1.alloc hs1 _)
  have HBG := Lib.hid (show w2.heap[w1.heap.size]? = some (.cells #[.int .i64 g.1, .int .i64 g.2.1, .int .i64 g.2.2.1, .slice AR g.2.2.2.length cR] 25 (0, 0)) by rw [hw2]; exact heap_alloc_new _ _)
  have HSO := Lib.hid (show SymOk g.1 g.2.1 (false, g.2.2.1) by
    have := hv.st
    unfold SymOk
    simp only [Bool.false_eq_true, if_false]
    exact this)
  clear hv hsm hg hb1 HR0
  --@1
  go_wp2_with fail
  rw [← hw2]
  clear hw2
  refine (keepPlain w2).mono ?_
  rintro e w3 ⟨AP, rfl, hp, hb3⟩
  have hs3 := hb3.size
  have HP := Lib.hid hp
  have HB3 := Lib.hid hb3
  clear hp hb3
  have HXM := Lib.hid (xP_mem w3)
  have HP4 := Lib.hid ((HP.out.alloc (.cells #[.int .i64 (-1), .int .i64 0, .slice none 0 0] 31)).alloc (.cells #[.int .i64 (-1), .int .i64 1, .slice none 0 0, .int .i64 0, .int .i64 0, .slice (some ⟨w3.heap.size, 0, none⟩) 1 1] 31))
  have HB4 := Lib.hid ((HB3.out.alloc hs3 (.cells #[.int .i64 (-1), .int .i64 0, .slice none 0 0] 31)).alloc (by simp; omega) (.cells #[.int .i64 (-1), .int .i64 1, .slice none 0 0, .int .i64 0, .int .i64 0, .slice (some ⟨w3.heap.size, 0, none⟩) 1 1] 31))
  --@2
  go_wp2_with fail
  refine (shSmaller _ _ _ AP 2 2 plainG HP4.out plain_valid xP (false, 0) _ 2 2 HXM.out xP_tv ⟨by decide, by decide⟩ xP_size).mono ?_
  rintro e w5 ⟨⟨A5, n5, c5, rfl, hs5⟩, hb5⟩
  obtain rfl : n5 = 1 := by rw [hs5.len]; exact xP_len
  have hs5' := hb5.size
  simp only [World.size_alloc] at hs5'
  have HB5 := Lib.hid (HB4.out.trans (hb5.mono (by simp; omega)))
  clear hb5 hs5 HXM HP4 HB4 HP
  have hb25 := HB2.out.trans (HB5.out.mono (by omega))
  obtain ⟨k0, k1, k2, k3⟩ : w5.cell? ⟨w1.heap.size, 0, none⟩ = some (.int .i64 g.1) ∧ w5.cell? ⟨w1.heap.size, 1, none⟩ = some (.int .i64 g.2.1) ∧ w5.cell? ⟨w1.heap.size, 2, none⟩ = some (.int .i64 g.2.2.1) ∧ w5.cell? ⟨w1.heap.size, 3, none⟩ = some (.slice AR g.2.2.2.length cR) := by
    have e1 := (HB5.out.block _ (by omega)).trans HBG.out
    simp [World.cell?, e1]
  have HB05 := Lib.hid hb25
  clear hb25
  --@3
  go_wp2_with fail
  clear k0 k1 k2 k3
  refine (makeTree w5 _ _ AR _ cR g (HG2.out.below HB5.out) HV.out A1 n1 c1 z1 (HR1.out.keep (.belowB (HB0.out.trans (HB05.out.mono (by omega))) (fun b hb => hb.2))) (by omega)).mono ?_
  rintro e w6 ⟨hmade, hb6⟩
  have hs6 := hb6.size
  have HB6 := Lib.hid (HB05.out.trans (hb6.mono (by omega)))
  have HB56 := Lib.hid (HB5.out.trans (hb6.mono (by omega)))
  clear hb6
  rcases hmade with rfl | ⟨t, At, mt, ct, rfl, htv, hslt, hszt⟩
  · --@4
    go_wp2_with fail
    go_ret
    exact ⟨rfl, HB0.out.trans ((HB6.out.alloc (by omega) _).mono (by omega))⟩
  obtain ⟨w7, hw7⟩ : ∃ w7 : World, w7 = w6.alloc (.cells #[.int .i64 t.rule, .int .i64 t.term, .slice At mt ct] 31) := ⟨_, rfl⟩
  have hz7 : w7.heap.size = w6.heap.size + 1 := by rw [hw7]; simp
  have hbt7 : w7.heap[w6.heap.size]? = some (.cells #[.int .i64 t.rule, .int .i64 t.term, .slice At mt ct] 31 (0, 0)) := by rw [hw7]; exact heap_alloc_new _ _
  have hst7 : Sl RTree w7 (fun b => w5.heap.size ≤ b) At mt ct t.kids := by rw [hw7]; exact hslt.alloc _
  have hb7 : Below w0.heap.size w0 w7 := by rw [hw7]; exact HB6.out.alloc (by omega) _
  have hb27 : Below w2.heap.size w2 w7 := by rw [hw7]; exact HB56.out.alloc (by omega) _
  have HBT7 := Lib.hid hbt7
  have HST7 := Lib.hid hst7
  have HB7 := Lib.hid hb7
  have HB27 := Lib.hid hb27
  have HTV := Lib.hid htv
  have HLV := Lib.hid htv.leaves
  obtain ⟨d0, d1, d2, _, _, _⟩ := tree_cells' hbt7
  rw [hw7] at d0 d1 d2
  clear hbt7 hst7 hb7 hb27 hslt htv HB6 HB56 HB05
  --@5
  go_wp2_with fail
  rw [← hw7]
  clear hw7 d0 d1 d2
  refine (treeSize w7 _ t At mt ct HST7.out HLV.out (by omega)).mono ?_
  rintro e w8 ⟨rfl, hb8⟩
  have hs8 := hb8.size
  have hgt : decide ((60 : Int) < (sizeT t : Int)) = false := by simp; omega
  have ha8 := (hb8.block _ (by omega)).trans ((HB7.out.block _ (by omega)).trans HA0.out)
  have hc8 := cell_of_one ha8
  have lc8 := lt_of_block ha8
  have HA8 := Lib.hid ha8
  have HB8 := Lib.hid hb8
  clear hb8 ha8
  --@6
  go_wp2_with fail
  refine (keepBelow x2 4 _ (by decide) (by decide)).mono ?_
  rintro e _ ⟨rfl, rfl⟩
  obtain ⟨a, ha⟩ : ∃ a, a = x2 % 4 := ⟨_, rfl⟩
  rw [← ha]
  have h0 : 0 ≤ a := by omega
  have h3 : a ≤ 3 := by omega
  have hf8 := (free_of_one HA8.out)
  clear ha
  have hbg8 := (HB8.out.block _ (by omega)).trans ((HB27.out.block w1.heap.size (by omega)).trans HBG.out)
  have hbt8 := (HB8.out.block _ (by omega)).trans HBT7.out
  obtain ⟨⟨k0, k1, k2, k3⟩, k4, k5, k6⟩ : (w8.cell? ⟨w1.heap.size, 0, none⟩ = some (.int .i64 g.1) ∧ w8.cell? ⟨w1.heap.size, 1, none⟩ = some (.int .i64 g.2.1) ∧ w8.cell? ⟨w1.heap.size, 2, none⟩ = some (.int .i64 g.2.2.1) ∧ w8.cell? ⟨w1.heap.size, 3, none⟩ = some (.slice AR g.2.2.2.length cR)) ∧
      (w8.cell? ⟨w6.heap.size, 0, none⟩ = some (.int .i64 t.rule) ∧ w8.cell? ⟨w6.heap.size, 1, none⟩ = some (.int .i64 t.term) ∧ w8.cell? ⟨w6.heap.size, 2, none⟩ = some (.slice At mt ct)) :=
    ⟨by simp [World.cell?, hbg8], by simp [World.cell?, hbt8]⟩
  have hn1 : w1.heap.size ≠ W.heap.size := by omega
  have hn6 : w6.heap.size ≠ W.heap.size := by omega
  have HBG8 := Lib.hid hbg8
  have HBT8 := Lib.hid hbt8
  clear hbg8 hbt8
  --@7
  go_wp2_with fail
  clear hc8 hf8 hgt k0 k1 k2 k3 k4 k5 k6 hn1 hn6
  obtain ⟨w9, hw9⟩ : ∃ w9 : World, w9 = w8.setCell ⟨W.heap.size, 0, none⟩ (.int .i64 a) := ⟨_, rfl⟩
  rw [← hw9]
  have hz9 : w9.heap.size = w8.heap.size := by rw [hw9]; simp [World.setCell]
  have hk9 : ∀ b, b ≠ W.heap.size → w9.heap[b]? = w8.heap[b]? := fun b hb => by rw [hw9]; exact Below.heap_setCell _ _ _ _ hb
  have hn9 : Kept (fun b => b ≠ W.heap.size) w8 w9 := by rw [hw9]; exact Kept.setCell _ _ _ _ (by simp)
  have HA9 := Lib.hid (show w9.heap[W.heap.size]? = some (.cells #[.int .i64 a] 3 (0, 0)) by
    rw [hw9]
    have := blk_set HA8.out 0 (.int .i64 a)
    simpa using this)
  have HB9 := Lib.hid (show Below W.heap.size W w9 by
    rw [hw9]
    exact (HB0.out.trans ((HB7.out.trans (HB8.out.mono (by omega))).mono (by omega))).trans ((Below.refl _ _).setCell (by show W.heap.size ≤ W.heap.size; omega) _))
  have HBG9 := Lib.hid ((hk9 _ (by omega)).trans HBG8.out)
  have HBT9 := Lib.hid ((hk9 w6.heap.size (by omega)).trans HBT8.out)
  have HG9 := Lib.hid ((((HG2.out.below HB27.out).below HB8.out).more (S' := fun b => b ≠ W.heap.size) (fun b hb => by omega)).keep hn9)
  have HST9 := Lib.hid (((HST7.out.below HB8.out).more (S' := fun b => b ≠ W.heap.size) (fun b hb => by omega)).keep hn9)
  clear hk9 hn9 HBG8 HBT8 hw9 HA8 HB8 HB27 HG2 HST7 HBT7 HA0 HB7 HBG HB2 HB3 HB5 HB0
  have hall : ∀ u : World, Below w9.heap.size w9 u → (u.cell? ⟨w1.heap.size, 0, none⟩ = some (.int .i64 g.1) ∧ u.cell? ⟨w1.heap.size, 1, none⟩ = some (.int .i64 g.2.1) ∧ u.cell? ⟨w1.heap.size, 2, none⟩ = some (.int .i64 g.2.2.1) ∧ u.cell? ⟨w1.heap.size, 3, none⟩ = some (.slice AR g.2.2.2.length cR)) ∧
      (u.cell? ⟨w6.heap.size, 0, none⟩ = some (.int .i64 t.rule) ∧ u.cell? ⟨w6.heap.size, 1, none⟩ = some (.int .i64 t.term) ∧ u.cell? ⟨w6.heap.size, 2, none⟩ = some (.slice At mt ct)) := by
    intro u hu
    have e1 := (hu.block _ (by omega)).trans HBG9.out
    have e2 := (hu.block _ (by omega)).trans HBT9.out
    exact ⟨by simp [World.cell?, e1], by simp [World.cell?, e2]⟩
  have HALL := Lib.hid hall
  clear hall
  refine (shrinkTree w9 _ _ AR _ cR g HG9.out HV.out t (false, g.2.2.1) At mt ct HST9.out HTV.out HSO.out hszt _ _ (shF a) entersShF (tellsSh w9 W.heap.size a h0 h3 HA9.out _ _)).mono ?_
  rintro e w10 ⟨hcase, hb10⟩
  have hs10 := hb10.size
  have HB10 := Lib.hid hb10
  clear hb10
  have hentf := entersShF
  rcases hcase with ⟨hqf, rfl⟩ | ⟨hqt, x, Ax, mx, cx, rfl, hslx, hxv, hqx, hxt, hno⟩
  · obtain ⟨w11, hw11⟩ : ∃ w11 : World, w11 = w10.alloc (.cells #[.int .i64 0, .int .i64 0, .slice none 0 0] 31) := ⟨_, rfl⟩
    have hz11 : w11.heap.size = w10.heap.size + 1 := by rw [hw11]; simp
    have HB11 := Lib.hid (show Below w9.heap.size w9 w11 by rw [hw11]; exact HB10.out.alloc hs10 _)
    obtain ⟨⟨k0, k1, k2, k3⟩, k4, k5, k6⟩ := HALL.out w11 HB11.out
    rw [hw11] at k0 k1 k2 k3 k4 k5 k6
    have HQF := Lib.hid hqf
    clear hqf
    --@9
    go_wp2_with fail
    rw [← hw11]
    clear hw11 k0 k1 k2 k3 k4 k5 k6
    refine (shFn w11 W.heap.size a h0 h3 ((HB11.out.block _ (by omega)).trans HA9.out) t At mt ct _ (HST9.out.below HB11.out) HLV.out hszt).mono ?_
    rintro e w12 ⟨rfl, hb12⟩
    rw [HQF.out]
    have HB12 := Lib.hid (HB9.out.trans ((HB11.out.mono (by have := HB9.out.size; omega)).trans (hb12.mono (by have := HB9.out.size; omega))))
    clear hb12
    --@10
    go_wp2_with fail
    go_ret
    exact ⟨rfl, HB12.out⟩
  · have HQT := Lib.hid hqt
    have HQX := Lib.hid hqx
    have HNO := Lib.hid hno
    have HXL := Lib.hid hxv.leaves
    have HXV := Lib.hid hxv
    rcases hxv.inv with ⟨c, h, _⟩ | ⟨k, r, ts, hst, rfl, hkr, _⟩
    · cases h
    have hrs : r.1 = g.2.2.1 := by injection hst with _ h; exact h.symm
    have hkn : k < g.2.2.2.length := (List.getElem?_eq_some_iff.1 hkr).1
    obtain ⟨w11, hw11⟩ : ∃ w11 : World, w11 = w10.alloc (.cells #[.int .i64 (k : Int), .int .i64 0, .slice Ax mx cx] 31) := ⟨_, rfl⟩
    have hz11 : w11.heap.size = w10.heap.size + 1 := by rw [hw11]; simp
    have HB11 := Lib.hid (show Below w9.heap.size w9 w11 by rw [hw11]; exact HB10.out.alloc hs10 _)
    have HBX := Lib.hid (show w11.heap[w10.heap.size]? = some (.cells #[.int .i64 (k : Int), .int .i64 0, .slice Ax mx cx] 31 (0, 0)) by rw [hw11]; exact heap_alloc_new _ _)
    have HSX := Lib.hid (show Sl RTree w11 (fun b => w9.heap.size ≤ b) Ax mx cx (TreeD.node (k : Int) 0 ts).kids by rw [hw11]; exact hslx.alloc _)
    obtain ⟨⟨k0, k1, k2, k3⟩, k4, k5, k6⟩ := HALL.out w11 HB11.out
    rw [hw11] at k0 k1 k2 k3 k4 k5 k6
    have HG11 := Lib.hid (HG9.out.below HB11.out)
    obtain ⟨bR, oR, A2, m2, c2, r', hARe, _, hbR, hc1, _, hr, _⟩ := rule_at HG11.out hkn
    rw [hkr] at hr
    injection hr with hr
    subst hr
    rw [hrs] at hc1
    have hkI : (k : Int) < (g.2.2.2.length : Int) := by omega
    have hkI0 : (0 : Int) ≤ (k : Int) := by omega
    have HC1 := Lib.hid hc1
    have hxsz : sizeT (TreeD.node (k : Int) 0 ts) ≤ 60 := by omega
    have HGT := Lib.hid (show decide ((sizeT t : Int) < (sizeT (TreeD.node (k : Int) 0 ts) : Int)) = false by simp; omega)
    clear hslx hqx hno hxv hqt hst hkr hrs hc1
    subst hARe
    have hrule : (TreeD.node (k : Int) 0 ts).rule = (k : Int) := rfl
    have hterm : (TreeD.node (k : Int) 0 ts).term = 0 := rfl
    rw [hrule, hterm]
    clear hrule hterm
    --@11
    go_wp2_with fail
    --@21
    rw [← hw11]
    --@24
    clear hw11 k0 k1 k2 k3 k4 k5 k6
    refine (shFn w11 W.heap.size a h0 h3 ((HB11.out.block _ (by omega)).trans HA9.out) t At mt ct _ (HST9.out.below HB11.out) HLV.out hszt).mono ?_
    rintro e w12 ⟨rfl, hb12⟩
    --@22
    rw [HQT.out]
    --@23
    have HB12 := Lib.hid hb12
    have hs12 := hb12.size
    clear hb12
    have hall13 : ∀ u : World, Below w11.heap.size w11 u → ((u.cell? ⟨w1.heap.size, 0, none⟩ = some (.int .i64 g.1) ∧ u.cell? ⟨w1.heap.size, 1, none⟩ = some (.int .i64 g.2.1) ∧ u.cell? ⟨w1.heap.size, 2, none⟩ = some (.int .i64 g.2.2.1) ∧ u.cell? ⟨w1.heap.size, 3, none⟩ = some (.slice (some ⟨bR, oR, none⟩) g.2.2.2.length cR)) ∧
        (u.cell? ⟨w6.heap.size, 0, none⟩ = some (.int .i64 t.rule) ∧ u.cell? ⟨w6.heap.size, 1, none⟩ = some (.int .i64 t.term) ∧ u.cell? ⟨w6.heap.size, 2, none⟩ = some (.slice At mt ct))) ∧
        (u.cell? ⟨w10.heap.size, 0, none⟩ = some (.int .i64 (k : Int)) ∧ u.cell? ⟨w10.heap.size, 1, none⟩ = some (.int .i64 0) ∧ u.cell? ⟨w10.heap.size, 2, none⟩ = some (.slice Ax mx cx)) ∧ u.cell? ⟨bR, oR + k * 2, none⟩ = some (.int .i64 g.2.2.1) := by
      intro u hu
      have e1 := (hu.block _ (by omega)).trans HBX.out
      exact ⟨HALL.out u (HB11.out.trans (hu.mono (by omega))), by simp [World.cell?, e1], (hu.cell (p := ⟨bR, oR + k * 2, none⟩) hbR).trans HC1.out⟩
    have HALX := Lib.hid hall13
    have HK0 := Lib.hid (hall13 w12.drew HB12.out.drew)
    clear hall13
    --@12
    go_wp2_with fail
    refine wp_region_late (late := []) (S1 := fun u => ((u.cell? ⟨w1.heap.size, 0, none⟩ = some (.int .i64 g.1) ∧ u.cell? ⟨w1.heap.size, 1, none⟩ = some (.int .i64 g.2.1) ∧ u.cell? ⟨w1.heap.size, 2, none⟩ = some (.int .i64 g.2.2.1) ∧ u.cell? ⟨w1.heap.size, 3, none⟩ = some (.slice (some ⟨bR, oR, none⟩) g.2.2.2.length cR)) ∧ (u.cell? ⟨w6.heap.size, 0, none⟩ = some (.int .i64 t.rule) ∧ u.cell? ⟨w6.heap.size, 1, none⟩ = some (.int .i64 t.term) ∧ u.cell? ⟨w6.heap.size, 2, none⟩ = some (.slice At mt ct))) ∧ (u.cell? ⟨w10.heap.size, 0, none⟩ = some (.int .i64 (k : Int)) ∧ u.cell? ⟨w10.heap.size, 1, none⟩ = some (.int .i64 0) ∧ u.cell? ⟨w10.heap.size, 2, none⟩ = some (.slice Ax mx cx)) ∧ u.cell? ⟨bR, oR + k * 2, none⟩ = some (.int .i64 g.2.2.1)) (S := fun _ => True) (by kernel_rfl) ?_
    refine wpAnyL_pure (i := 0) rfl (by kernel_rfl) (fun _ _ _ h => h) (Or.inl ⟨by rfl, (fun u hu => by obtain ⟨⟨⟨k0, k1, k2, k3⟩, k4, k5, k6⟩, ⟨k7, k8, k9⟩, k10⟩ := hu; go_simp; try rfl)⟩) HK0.out (fun _ => trivial) ?_
    simp only [Act.put, List.setIfInBounds_toArray, List.set_cons_zero, List.set_cons_succ, List.getElem_toArray, List.getElem_cons_zero, List.getElem_cons_succ]
    refine wpAnyL_pure (i := 1) rfl (by kernel_rfl) (fun _ _ _ h => h) (Or.inl ⟨by rfl, (fun u hu => by obtain ⟨⟨⟨k0, k1, k2, k3⟩, k4, k5, k6⟩, ⟨k7, k8, k9⟩, k10⟩ := hu; go_simp; try rfl)⟩) HK0.out (fun _ => trivial) ?_
    simp only [Act.put, List.setIfInBounds_toArray, List.set_cons_zero, List.set_cons_succ, List.getElem_toArray, List.getElem_cons_zero, List.getElem_cons_succ]
    refine wpAnyL_pure (i := 2) rfl (by kernel_rfl) (fun _ _ _ h => h) (Or.inl ⟨by rfl, (fun u hu => by obtain ⟨⟨⟨k0, k1, k2, k3⟩, k4, k5, k6⟩, ⟨k7, k8, k9⟩, k10⟩ := hu; go_simp; try rfl)⟩) HK0.out (fun _ => trivial) ?_
    simp only [Act.put, List.setIfInBounds_toArray, List.set_cons_zero, List.set_cons_succ, List.getElem_toArray, List.getElem_cons_zero, List.getElem_cons_succ]
    refine wpAnyL_pure (i := 3) rfl (by kernel_rfl) (fun _ _ _ h => h) (Or.inl ⟨by rfl, (fun u hu => by obtain ⟨⟨⟨k0, k1, k2, k3⟩, k4, k5, k6⟩, ⟨k7, k8, k9⟩, k10⟩ := hu; go_simp; try rfl)⟩) HK0.out (fun _ => trivial) ?_
    simp only [Act.put, List.setIfInBounds_toArray, List.set_cons_zero, List.set_cons_succ, List.getElem_toArray, List.getElem_cons_zero, List.getElem_cons_succ]
    refine wpAnyL_pure (i := 4) rfl (by kernel_rfl) (fun _ _ _ h => h) (Or.inl ⟨by rfl, (fun u hu => by obtain ⟨⟨⟨k0, k1, k2, k3⟩, k4, k5, k6⟩, ⟨k7, k8, k9⟩, k10⟩ := hu; go_simp; try rfl)⟩) HK0.out (fun _ => trivial) ?_
    simp only [Act.put, List.setIfInBounds_toArray, List.set_cons_zero, List.set_cons_succ, List.getElem_toArray, List.getElem_cons_zero, List.getElem_cons_succ]
    refine wpAnyL_ready (rs := [5]) (by kernel_rfl) (by simp) ?_
    refine AllL.cons rfl (fun K hK => ?_) ?_
    · go_simp
      have hs12' := HB12.out.size
      refine (shFn w12.drew W.heap.size a h0 h3 ((HB12.out.block _ (by omega)).trans ((HB11.out.block _ (by omega)).trans HA9.out)) (TreeD.node (k : Int) 0 ts) Ax mx cx _ (HSX.out.below HB12.out).drew HXL.out hxsz).mono ?_
      rintro e w13 ⟨rfl, hb13⟩
      rw [HQX.out]
      have HB13 := Lib.hid (HB12.out.drew.trans (hb13.mono (by show w11.heap.size ≤ w12.heap.size; omega)))
      clear hb13
      refine hK.out _ _ (HALX.out _ HB13.out) (fun _ => trivial) ?_
      clear hK K
      refine wpAnyL_pure (i := 6) rfl (by kernel_rfl) (fun _ _ _ h => h) (Or.inl ⟨by rfl, (fun u hu => by obtain ⟨⟨⟨k0, k1, k2, k3⟩, k4, k5, k6⟩, ⟨k7, k8, k9⟩, k10⟩ := hu; go_simp; try rfl)⟩) (HALX.out _ HB13.out) (fun _ => trivial) ?_
      simp only [Act.put, List.setIfInBounds_toArray, List.set_cons_zero, List.set_cons_succ, List.getElem_toArray, List.getElem_cons_zero, List.getElem_cons_succ]
      refine wpAnyL_pure (i := 7) rfl (by kernel_rfl) (fun _ _ _ h => h) (Or.inl ⟨by rfl, (fun u hu => by obtain ⟨⟨⟨k0, k1, k2, k3⟩, k4, k5, k6⟩, ⟨k7, k8, k9⟩, k10⟩ := hu; go_simp; try rfl)⟩) (HALX.out _ HB13.out) (fun _ => trivial) ?_
      simp only [Act.put, List.setIfInBounds_toArray, List.set_cons_zero, List.set_cons_succ, List.getElem_toArray, List.getElem_cons_zero, List.getElem_cons_succ]
      refine wpAnyL_pure (i := 8) rfl (by kernel_rfl) (fun _ _ _ h => h) (Or.inl ⟨by rfl, (fun u hu => by obtain ⟨⟨⟨k0, k1, k2, k3⟩, k4, k5, k6⟩, ⟨k7, k8, k9⟩, k10⟩ := hu; go_simp; try rfl)⟩) (HALX.out _ HB13.out) (fun _ => trivial) ?_
      simp only [Act.put, List.setIfInBounds_toArray, List.set_cons_zero, List.set_cons_succ, List.getElem_toArray, List.getElem_cons_zero, List.getElem_cons_succ]
      refine wpAnyL_pure (i := 9) rfl (by kernel_rfl) (fun _ _ _ h => h) (Or.inl ⟨by rfl, (fun u hu => by obtain ⟨⟨⟨k0, k1, k2, k3⟩, k4, k5, k6⟩, ⟨k7, k8, k9⟩, k10⟩ := hu; go_simp; try rfl)⟩) (HALX.out _ HB13.out) (fun _ => trivial) ?_
      simp only [Act.put, List.setIfInBounds_toArray, List.set_cons_zero, List.set_cons_succ, List.getElem_toArray, List.getElem_cons_zero, List.getElem_cons_succ]
      refine wpAnyL_pure (i := 10) rfl (by kernel_rfl) (fun _ _ _ h => h) (Or.inl ⟨by rfl, (fun u hu => by obtain ⟨⟨⟨k0, k1, k2, k3⟩, k4, k5, k6⟩, ⟨k7, k8, k9⟩, k10⟩ := hu; go_simp; try rfl)⟩) (HALX.out _ HB13.out) (fun _ => trivial) ?_
      simp only [Act.put, List.setIfInBounds_toArray, List.set_cons_zero, List.set_cons_succ, List.getElem_toArray, List.getElem_cons_zero, List.getElem_cons_succ]
      refine wpAnyL_ready (rs := [11]) (by kernel_rfl) (by simp) ?_
      refine AllL.cons rfl (fun K hK => ?_) ?_
      · go_simp
        have hs13' := HB13.out.size
        refine (treeCheck w13 _ _ _ _ cR g (HG11.out.below HB13.out) HV.out (TreeD.node (k : Int) 0 ts) (false, g.2.2.1) Ax mx cx (HSX.out.below HB13.out) HXV.out HSO.out (by omega)).mono ?_
        rintro e w14 ⟨rfl, hb14⟩
        have HB14 := Lib.hid (HB13.out.trans (hb14.mono (by omega)))
        clear hb14
        refine hK.out _ _ (HALX.out _ HB14.out) (fun _ => trivial) ?_
        clear hK K
        refine wpAnyL_pure (i := 12) rfl (by kernel_rfl) (fun _ _ _ h => h) (Or.inl ⟨by rfl, (fun u hu => by obtain ⟨⟨⟨k0, k1, k2, k3⟩, k4, k5, k6⟩, ⟨k7, k8, k9⟩, k10⟩ := hu; go_simp; try rfl)⟩) (HALX.out _ HB14.out) (fun _ => trivial) ?_
        simp only [Act.put, List.setIfInBounds_toArray, List.set_cons_zero, List.set_cons_succ, List.getElem_toArray, List.getElem_cons_zero, List.getElem_cons_succ]
        refine wpAnyL_pure (i := 13) rfl (by kernel_rfl) (fun _ _ _ h => h) (Or.inl ⟨by rfl, (fun u hu => by obtain ⟨⟨⟨k0, k1, k2, k3⟩, k4, k5, k6⟩, ⟨k7, k8, k9⟩, k10⟩ := hu; go_simp; try rfl)⟩) (HALX.out _ HB14.out) (fun _ => trivial) ?_
        simp only [Act.put, List.setIfInBounds_toArray, List.set_cons_zero, List.set_cons_succ, List.getElem_toArray, List.getElem_cons_zero, List.getElem_cons_succ]
        refine wpAnyL_pure (i := 14) rfl (by kernel_rfl) (fun _ _ _ h => h) (Or.inl ⟨by rfl, (fun u hu => by obtain ⟨⟨⟨k0, k1, k2, k3⟩, k4, k5, k6⟩, ⟨k7, k8, k9⟩, k10⟩ := hu; go_simp; try rfl)⟩) (HALX.out _ HB14.out) (fun _ => trivial) ?_
        simp only [Act.put, List.setIfInBounds_toArray, List.set_cons_zero, List.set_cons_succ, List.getElem_toArray, List.getElem_cons_zero, List.getElem_cons_succ]
        refine wpAnyL_pure (i := 15) rfl (by kernel_rfl) (fun _ _ _ h => h) (Or.inl ⟨by rfl, (fun u hu => by obtain ⟨⟨⟨k0, k1, k2, k3⟩, k4, k5, k6⟩, ⟨k7, k8, k9⟩, k10⟩ := hu; go_simp; try rfl)⟩) (HALX.out _ HB14.out) (fun _ => trivial) ?_
        simp only [Act.put, List.setIfInBounds_toArray, List.set_cons_zero, List.set_cons_succ, List.getElem_toArray, List.getElem_cons_zero, List.getElem_cons_succ]
        refine wpAnyL_pure (i := 16) rfl (by kernel_rfl) (fun _ _ _ h => h) (Or.inl ⟨by rfl, (fun u hu => by obtain ⟨⟨⟨k0, k1, k2, k3⟩, k4, k5, k6⟩, ⟨k7, k8, k9⟩, k10⟩ := hu; go_simp; try rfl)⟩) (HALX.out _ HB14.out) (fun _ => trivial) ?_
        simp only [Act.put, List.setIfInBounds_toArray, List.set_cons_zero, List.set_cons_succ, List.getElem_toArray, List.getElem_cons_zero, List.getElem_cons_succ]
        refine wpAnyL_pure (i := 17) rfl (by kernel_rfl) (fun _ _ _ h => h) (Or.inl ⟨by rfl, (fun u hu => by obtain ⟨⟨⟨k0, k1, k2, k3⟩, k4, k5, k6⟩, ⟨k7, k8, k9⟩, k10⟩ := hu; go_simp; try rfl)⟩) (HALX.out _ HB14.out) (fun _ => trivial) ?_
        simp only [Act.put, List.setIfInBounds_toArray, List.set_cons_zero, List.set_cons_succ, List.getElem_toArray, List.getElem_cons_zero, List.getElem_cons_succ]
        refine wpAnyL_pure (i := 18) rfl (by kernel_rfl) (fun _ _ _ h => h) (Or.inl ⟨by rfl, (fun u hu => by obtain ⟨⟨⟨k0, k1, k2, k3⟩, k4, k5, k6⟩, ⟨k7, k8, k9⟩, k10⟩ := hu; go_simp; try rfl)⟩) (HALX.out _ HB14.out) (fun _ => trivial) ?_
        simp only [Act.put, List.setIfInBounds_toArray, List.set_cons_zero, List.set_cons_succ, List.getElem_toArray, List.getElem_cons_zero, List.getElem_cons_succ]
        refine wpAnyL_pure (i := 19) rfl (by kernel_rfl) (fun _ _ _ h => h) (Or.inl ⟨by rfl, (fun u hu => by obtain ⟨⟨⟨k0, k1, k2, k3⟩, k4, k5, k6⟩, ⟨k7, k8, k9⟩, k10⟩ := hu; go_simp; try rfl)⟩) (HALX.out _ HB14.out) (fun _ => trivial) ?_
        simp only [Act.put, List.setIfInBounds_toArray, List.set_cons_zero, List.set_cons_succ, List.getElem_toArray, List.getElem_cons_zero, List.getElem_cons_succ]
        refine wpAnyL_pure (i := 20) rfl (by kernel_rfl) (fun _ _ _ h => h) (Or.inl ⟨by rfl, (fun u hu => by obtain ⟨⟨⟨k0, k1, k2, k3⟩, k4, k5, k6⟩, ⟨k7, k8, k9⟩, k10⟩ := hu; go_simp; try rfl)⟩) (HALX.out _ HB14.out) (fun _ => trivial) ?_
        simp only [Act.put, List.setIfInBounds_toArray, List.set_cons_zero, List.set_cons_succ, List.getElem_toArray, List.getElem_cons_zero, List.getElem_cons_succ]
        refine wpAnyL_pure (i := 21) rfl (by kernel_rfl) (fun _ _ _ h => h) (Or.inl ⟨by rfl, (fun u hu => by obtain ⟨⟨⟨k0, k1, k2, k3⟩, k4, k5, k6⟩, ⟨k7, k8, k9⟩, k10⟩ := hu; go_simp; try rfl)⟩) (HALX.out _ HB14.out) (fun _ => trivial) ?_
        simp only [Act.put, List.setIfInBounds_toArray, List.set_cons_zero, List.set_cons_succ, List.getElem_toArray, List.getElem_cons_zero, List.getElem_cons_succ]
        refine wpAnyL_pure (i := 22) rfl (by kernel_rfl) (fun _ _ _ h => h) (Or.inl ⟨by rfl, (fun u hu => by obtain ⟨⟨⟨k0, k1, k2, k3⟩, k4, k5, k6⟩, ⟨k7, k8, k9⟩, k10⟩ := hu; go_simp; try rfl)⟩) (HALX.out _ HB14.out) (fun _ => trivial) ?_
        simp only [Act.put, List.setIfInBounds_toArray, List.set_cons_zero, List.set_cons_succ, List.getElem_toArray, List.getElem_cons_zero, List.getElem_cons_succ]
        refine wpAnyL_pure (i := 23) rfl (by kernel_rfl) (fun _ _ _ h => h) (Or.inl ⟨by rfl, (fun u hu => by obtain ⟨⟨⟨k0, k1, k2, k3⟩, k4, k5, k6⟩, ⟨k7, k8, k9⟩, k10⟩ := hu; go_simp; try rfl)⟩) (HALX.out _ HB14.out) (fun _ => trivial) ?_
        simp only [Act.put, List.setIfInBounds_toArray, List.set_cons_zero, List.set_cons_succ, List.getElem_toArray, List.getElem_cons_zero, List.getElem_cons_succ]
        refine wpAnyL_pure (i := 24) rfl (by kernel_rfl) (fun _ _ _ h => h) (Or.inl ⟨by rfl, (fun u hu => by obtain ⟨⟨⟨k0, k1, k2, k3⟩, k4, k5, k6⟩, ⟨k7, k8, k9⟩, k10⟩ := hu; go_simp; try rfl)⟩) (HALX.out _ HB14.out) (fun _ => trivial) ?_
        simp only [Act.put, List.setIfInBounds_toArray, List.set_cons_zero, List.set_cons_succ, List.getElem_toArray, List.getElem_cons_zero, List.getElem_cons_succ]
        refine wpAnyL_pure (i := 25) rfl (by kernel_rfl) (fun _ _ _ h => h) (Or.inl ⟨by rfl, (fun u hu => by obtain ⟨⟨⟨k0, k1, k2, k3⟩, k4, k5, k6⟩, ⟨k7, k8, k9⟩, k10⟩ := hu; go_simp; try rfl)⟩) (HALX.out _ HB14.out) (fun _ => trivial) ?_
        simp only [Act.put, List.setIfInBounds_toArray, List.set_cons_zero, List.set_cons_succ, List.getElem_toArray, List.getElem_cons_zero, List.getElem_cons_succ]
        refine wpAnyL_pure (i := 26) rfl (by kernel_rfl) (fun _ _ _ h => h) (Or.inl ⟨by rfl, (fun u hu => by obtain ⟨⟨⟨k0, k1, k2, k3⟩, k4, k5, k6⟩, ⟨k7, k8, k9⟩, k10⟩ := hu; go_simp; try rfl)⟩) (HALX.out _ HB14.out) (fun _ => trivial) ?_
        simp only [Act.put, List.setIfInBounds_toArray, List.set_cons_zero, List.set_cons_succ, List.getElem_toArray, List.getElem_cons_zero, List.getElem_cons_succ]
        refine wpAnyL_pure (i := 27) rfl (by kernel_rfl) (fun _ _ _ h => h) (Or.inl ⟨by rfl, (fun u hu => by obtain ⟨⟨⟨k0, k1, k2, k3⟩, k4, k5, k6⟩, ⟨k7, k8, k9⟩, k10⟩ := hu; go_simp; try rfl)⟩) (HALX.out _ HB14.out) (fun _ => trivial) ?_
        simp only [Act.put, List.setIfInBounds_toArray, List.set_cons_zero, List.set_cons_succ, List.getElem_toArray, List.getElem_cons_zero, List.getElem_cons_succ]
        refine wpAnyL_pure (i := 29) rfl (by kernel_rfl) (fun _ _ _ h => h) (Or.inl ⟨by rfl, (fun u hu => by obtain ⟨⟨⟨k0, k1, k2, k3⟩, k4, k5, k6⟩, ⟨k7, k8, k9⟩, k10⟩ := hu; go_simp; try rfl)⟩) (HALX.out _ HB14.out) (fun _ => trivial) ?_
        simp only [Act.put, List.setIfInBounds_toArray, List.set_cons_zero, List.set_cons_succ, List.getElem_toArray, List.getElem_cons_zero, List.getElem_cons_succ]
        refine wpAnyL_ready (rs := [28]) (by kernel_rfl) (by simp) ?_
        refine AllL.cons rfl (fun K hK => ?_) ?_
        · go_simp
          have hs14' := HB14.out.size
          refine (treeSize w14 _ (TreeD.node (k : Int) 0 ts) Ax mx cx (HSX.out.below HB14.out) HXL.out (by omega)).mono ?_
          rintro e w15 ⟨rfl, hb15⟩
          have HB15 := Lib.hid (HB14.out.trans (hb15.mono (by omega)))
          clear hb15
          refine hK.out _ _ (HALX.out _ HB15.out) (fun _ => trivial) ?_
          clear hK K
          refine wpAnyL_ready (rs := [30]) (by kernel_rfl) (by simp) ?_
          refine AllL.cons rfl (fun K hK => ?_) ?_
          · go_simp
            have hs15' := HB15.out.size
            refine (treeSize w15 _ t At mt ct ((HST9.out.below HB11.out).below HB15.out) HLV.out (by omega)).mono ?_
            rintro e w16 ⟨rfl, hb16⟩
            have HB16 := Lib.hid (HB15.out.trans (hb16.mono (by omega)))
            clear hb16
            refine hK.out _ _ (HALX.out _ HB16.out) (fun _ => trivial) ?_
            clear hK K
            refine wpAnyL_pure (i := 31) rfl (by kernel_rfl) (fun _ _ _ h => h) (Or.inl ⟨by rfl, (fun u hu => by have hgt := HGT.out; obtain ⟨⟨⟨k0, k1, k2, k3⟩, k4, k5, k6⟩, ⟨k7, k8, k9⟩, k10⟩ := hu; go_simp; try rfl)⟩) (HALX.out _ HB16.out) (fun _ => trivial) ?_
            simp only [Act.put, List.setIfInBounds_toArray, List.set_cons_zero, List.set_cons_succ, List.getElem_toArray, List.getElem_cons_zero, List.getElem_cons_succ]
            refine wpAnyL_pure (i := 32) rfl (by kernel_rfl) (fun _ _ _ h => h) (Or.inl ⟨by rfl, (fun u hu => by obtain ⟨⟨⟨k0, k1, k2, k3⟩, k4, k5, k6⟩, ⟨k7, k8, k9⟩, k10⟩ := hu; go_simp; try rfl)⟩) (HALX.out _ HB16.out) (fun _ => trivial) ?_
            simp only [Act.put, List.setIfInBounds_toArray, List.set_cons_zero, List.set_cons_succ, List.getElem_toArray, List.getElem_cons_zero, List.getElem_cons_succ]
            refine wpAnyL_done (by kernel_rfl) ?_ _
            have hs13 := HB15.out.size
            obtain ⟨⟨⟨k0, k1, k2, k3⟩, k4, k5, k6⟩, ⟨k7, k8, k9⟩, k10⟩ := HALX.out w16 HB16.out
            have hs16 := HB16.out.size
            clear k4 k5 k6 k10
            --@13
            go_wp2_with fail
            clear k0 k1 k2 k3 k7 k8 k9
            refine (shSmaller w16 _ _ _ _ cR g (HG11.out.below HB16.out) HV.out (TreeD.node (k : Int) 0 ts) (false, g.2.2.1) Ax mx cx (HSX.out.below HB16.out) HXV.out HSO.out hxsz).mono ?_
            rintro e w17 ⟨⟨A17, n17, c17, rfl, hs17⟩, hb17⟩
            have hn17 : n17 ≤ 10000 := by rw [hs17.len]; exact smaller_len (by omega)
            have HS17 := Lib.hid hs17
            have hz17 := hb17.size
            have HB17 := Lib.hid (HB16.out.trans (hb17.mono (by omega)))
            clear hs17 hb17
            --@14
            go_wp2_with fail
            go_loopg [95] n17 (fun gk i wr => ∃ (j : Nat), j ≤ n17 ∧ gk = n17 - j ∧ i = .int .i64 j ∧ Below w17.heap.size w17 wr)
            case atStart => exact ⟨0, Nat.zero_le _, rfl, rfl, Below.refl _ _⟩
            case round =>
              obtain ⟨j, hj, hgk, rfl, hb⟩ := hrel
              have HGK := Lib.hid hgk
              have HB := Lib.hid hb
              have hzr := hb.size
              obtain ⟨w18, rfl⟩ : ∃ w18 : World, w18 = wr := ⟨_, rfl⟩
              clear hgk hb
              by_cases hlt : j < n17
              · obtain ⟨b, off, Ay, my, cy, y, rfl, _, hbl, y0, y1, y2, hy, hys⟩ := tree_at (HS17.out.below HB.out) hlt
                obtain ⟨hyv, hylt⟩ := smaller_ok HXV.out (List.mem_of_getElem? hy)
                have HYV := Lib.hid hyv
                have HYL := Lib.hid hyv.leaves
                have HYF := Lib.hid (HNO.out y (List.mem_of_getElem? hy))
                have hjI : (j : Int) < (n17 : Int) := by omega
                have hj0 : (0 : Int) ≤ (j : Int) := by omega
                obtain ⟨w19, hw19⟩ : ∃ w19 : World, w19 = w18.alloc (.cells #[.int .i64 y.rule, .int .i64 y.term, .slice Ay my cy] 31) := ⟨_, rfl⟩
                have hz19 : w19.heap.size = w18.heap.size + 1 := by rw [hw19]; simp
                have hb19 : Below w17.heap.size w17 w19 := by rw [hw19]; exact HB.out.alloc hzr _
                have HB19 := Lib.hid hb19
                have hbx19 := HB17.out.trans (hb19.mono (by have := HB17.out.size; omega))
                have HBX19 := Lib.hid hbx19
                have HYS := Lib.hid (show Sl RTree w19 _ Ay my cy y.kids by rw [hw19]; exact hys.alloc _)
                have hby19 : w19.heap[w18.heap.size]? = some (.cells #[.int .i64 y.rule, .int .i64 y.term, .slice Ay my cy] 31 (0, 0)) := by rw [hw19]; exact heap_alloc_new _ _
                have hally : ∀ u : World, Below w19.heap.size w19 u → (u.cell? ⟨w1.heap.size, 0, none⟩ = some (.int .i64 g.1) ∧ u.cell? ⟨w1.heap.size, 1, none⟩ = some (.int .i64 g.2.1) ∧ u.cell? ⟨w1.heap.size, 2, none⟩ = some (.int .i64 g.2.2.1) ∧ u.cell? ⟨w1.heap.size, 3, none⟩ = some (.slice (some ⟨bR, oR, none⟩) g.2.2.2.length cR)) ∧
                    (u.cell? ⟨w10.heap.size, 0, none⟩ = some (.int .i64 (k : Int)) ∧ u.cell? ⟨w10.heap.size, 1, none⟩ = some (.int .i64 0) ∧ u.cell? ⟨w10.heap.size, 2, none⟩ = some (.slice Ax mx cx)) ∧
                    (u.cell? ⟨w18.heap.size, 0, none⟩ = some (.int .i64 y.rule) ∧ u.cell? ⟨w18.heap.size, 1, none⟩ = some (.int .i64 y.term) ∧ u.cell? ⟨w18.heap.size, 2, none⟩ = some (.slice Ay my cy)) := by
                  intro u hu
                  have e1 := (hu.block _ (by omega)).trans hby19
                  have h := HALX.out u (HBX19.out.trans (hu.mono (by have := HB17.out.size; omega)))
                  exact ⟨h.1.1, h.2.1, by simp [World.cell?, e1]⟩
                have HALY := Lib.hid hally
                have HKY := Lib.hid (hally w19.drew (Below.refl _ _).drew)
                have HGE := Lib.hid (show decide ((sizeT (TreeD.node (k : Int) 0 ts) : Int) ≤ (sizeT y : Int)) = false by simp; omega)
                clear hally hby19 hb19 hbx19 hys hyv hy
                --@15
                go_wp2_with fail
                rw [← hw19]
                clear hw19 y0 y1 y2
                refine wp_region_late (late := []) (S1 := fun u => (u.cell? ⟨w1.heap.size, 0, none⟩ = some (.int .i64 g.1) ∧ u.cell? ⟨w1.heap.size, 1, none⟩ = some (.int .i64 g.2.1) ∧ u.cell? ⟨w1.heap.size, 2, none⟩ = some (.int .i64 g.2.2.1) ∧ u.cell? ⟨w1.heap.size, 3, none⟩ = some (.slice (some ⟨bR, oR, none⟩) g.2.2.2.length cR)) ∧ (u.cell? ⟨w10.heap.size, 0, none⟩ = some (.int .i64 (k : Int)) ∧ u.cell? ⟨w10.heap.size, 1, none⟩ = some (.int .i64 0) ∧ u.cell? ⟨w10.heap.size, 2, none⟩ = some (.slice Ax mx cx)) ∧ (u.cell? ⟨w18.heap.size, 0, none⟩ = some (.int .i64 y.rule) ∧ u.cell? ⟨w18.heap.size, 1, none⟩ = some (.int .i64 y.term) ∧ u.cell? ⟨w18.heap.size, 2, none⟩ = some (.slice Ay my cy))) (S := fun _ => True) (by kernel_rfl) ?_
                refine wpAnyL_pure (i := 0) rfl (by kernel_rfl) (fun _ _ _ h => h) (Or.inl ⟨by rfl, (fun u hu => by obtain ⟨⟨k0, k1, k2, k3⟩, ⟨k4, k5, k6⟩, k7, k8, k9⟩ := hu; go_simp; try rfl)⟩) HKY.out (fun _ => trivial) ?_
                simp only [Act.put, List.setIfInBounds_toArray, List.set_cons_zero, List.set_cons_succ, List.getElem_toArray, List.getElem_cons_zero, List.getElem_cons_succ]
                refine wpAnyL_pure (i := 1) rfl (by kernel_rfl) (fun _ _ _ h => h) (Or.inl ⟨by rfl, (fun u hu => by obtain ⟨⟨k0, k1, k2, k3⟩, ⟨k4, k5, k6⟩, k7, k8, k9⟩ := hu; go_simp; try rfl)⟩) HKY.out (fun _ => trivial) ?_
                simp only [Act.put, List.setIfInBounds_toArray, List.set_cons_zero, List.set_cons_succ, List.getElem_toArray, List.getElem_cons_zero, List.getElem_cons_succ]
                refine wpAnyL_ready (rs := [2]) (by kernel_rfl) (by simp) ?_
                refine AllL.cons rfl (fun K hK => ?_) ?_
                · go_simp
                  refine (shFn w19.drew W.heap.size a h0 h3 ((HBX19.out.block _ (by omega)).trans ((HB11.out.block _ (by omega)).trans HA9.out)) y Ay my cy _ HYS.out.drew HYL.out (by omega)).mono ?_
                  rintro e w20 ⟨rfl, hb20⟩
                  rw [HYF.out]
                  have HB20 := Lib.hid ((Below.refl w19.heap.size w19).drew.trans (hb20.mono (by exact Nat.le_refl _)))
                  clear hb20
                  refine hK.out _ _ (HALY.out _ HB20.out) (fun _ => trivial) ?_
                  clear hK K
                  refine wpAnyL_pure (i := 3) rfl (by kernel_rfl) (fun _ _ _ h => h) (Or.inl ⟨by rfl, (fun u hu => by obtain ⟨⟨k0, k1, k2, k3⟩, ⟨k4, k5, k6⟩, k7, k8, k9⟩ := hu; go_simp; try rfl)⟩) (HALY.out _ HB20.out) (fun _ => trivial) ?_
                  simp only [Act.put, List.setIfInBounds_toArray, List.set_cons_zero, List.set_cons_succ, List.getElem_toArray, List.getElem_cons_zero, List.getElem_cons_succ]
                  refine wpAnyL_pure (i := 4) rfl (by kernel_rfl) (fun _ _ _ h => h) (Or.inl ⟨by rfl, (fun u hu => by obtain ⟨⟨k0, k1, k2, k3⟩, ⟨k4, k5, k6⟩, k7, k8, k9⟩ := hu; go_simp; try rfl)⟩) (HALY.out _ HB20.out) (fun _ => trivial) ?_
                  simp only [Act.put, List.setIfInBounds_toArray, List.set_cons_zero, List.set_cons_succ, List.getElem_toArray, List.getElem_cons_zero, List.getElem_cons_succ]
                  refine wpAnyL_pure (i := 6) rfl (by kernel_rfl) (fun _ _ _ h => h) (Or.inl ⟨by rfl, (fun u hu => by obtain ⟨⟨k0, k1, k2, k3⟩, ⟨k4, k5, k6⟩, k7, k8, k9⟩ := hu; go_simp; try rfl)⟩) (HALY.out _ HB20.out) (fun _ => trivial) ?_
                  simp only [Act.put, List.setIfInBounds_toArray, List.set_cons_zero, List.set_cons_succ, List.getElem_toArray, List.getElem_cons_zero, List.getElem_cons_succ]
                  refine wpAnyL_ready (rs := [5]) (by kernel_rfl) (by simp) ?_
                  refine AllL.cons rfl (fun K hK => ?_) ?_
                  · go_simp
                    have hs20 := HB20.out.size
                    refine (treeSize w20 _ y Ay my cy (HYS.out.below HB20.out) HYL.out (by omega)).mono ?_
                    rintro e w21 ⟨rfl, hb21⟩
                    have HB21 := Lib.hid (HB20.out.trans (hb21.mono (by omega)))
                    clear hb21
                    refine hK.out _ _ (HALY.out _ HB21.out) (fun _ => trivial) ?_
                    clear hK K
                    refine wpAnyL_ready (rs := [7]) (by kernel_rfl) (by simp) ?_
                    refine AllL.cons rfl (fun K hK => ?_) ?_
                    · go_simp
                      have hs21 := HB21.out.size
                      refine (treeSize w21 _ (TreeD.node (k : Int) 0 ts) Ax mx cx ((HSX.out.below HBX19.out).below HB21.out) HXL.out (by omega)).mono ?_
                      rintro e w22 ⟨rfl, hb22⟩
                      have HB22 := Lib.hid (HB21.out.trans (hb22.mono (by omega)))
                      clear hb22
                      refine hK.out _ _ (HALY.out _ HB22.out) (fun _ => trivial) ?_
                      clear hK K
                      refine wpAnyL_pure (i := 8) (v := .bool false) rfl (by kernel_rfl) (fun _ _ _ h => h) (Or.inl ⟨by rfl, (fun u hu => by have hge := HGE.out; obtain ⟨⟨k0, k1, k2, k3⟩, ⟨k4, k5, k6⟩, k7, k8, k9⟩ := hu; go_simp; try rfl)⟩) (HALY.out _ HB22.out) (fun _ => trivial) ?_
                      simp only [Act.put, List.setIfInBounds_toArray, List.set_cons_zero, List.set_cons_succ, List.getElem_toArray, List.getElem_cons_zero, List.getElem_cons_succ]
                      refine wpAnyL_pure (i := 9) rfl (by kernel_rfl) (fun _ _ _ h => h) (Or.inl ⟨by rfl, (fun u hu => by obtain ⟨⟨k0, k1, k2, k3⟩, ⟨k4, k5, k6⟩, k7, k8, k9⟩ := hu; go_simp; try rfl)⟩) (HALY.out _ HB22.out) (fun _ => trivial) ?_
                      simp only [Act.put, List.setIfInBounds_toArray, List.set_cons_zero, List.set_cons_succ, List.getElem_toArray, List.getElem_cons_zero, List.getElem_cons_succ]
                      refine wpAnyL_pure (i := 10) rfl (by kernel_rfl) (fun _ _ _ h => h) (Or.inl ⟨by rfl, (fun u hu => by obtain ⟨⟨k0, k1, k2, k3⟩, ⟨k4, k5, k6⟩, k7, k8, k9⟩ := hu; go_simp; try rfl)⟩) (HALY.out _ HB22.out) (fun _ => trivial) ?_
                      simp only [Act.put, List.setIfInBounds_toArray, List.set_cons_zero, List.set_cons_succ, List.getElem_toArray, List.getElem_cons_zero, List.getElem_cons_succ]
                      refine wpAnyL_pure (i := 11) rfl (by kernel_rfl) (fun _ _ _ h => h) (Or.inl ⟨by rfl, (fun u hu => by obtain ⟨⟨k0, k1, k2, k3⟩, ⟨k4, k5, k6⟩, k7, k8, k9⟩ := hu; go_simp; try rfl)⟩) (HALY.out _ HB22.out) (fun _ => trivial) ?_
                      simp only [Act.put, List.setIfInBounds_toArray, List.set_cons_zero, List.set_cons_succ, List.getElem_toArray, List.getElem_cons_zero, List.getElem_cons_succ]
                      refine wpAnyL_pure (i := 12) rfl (by kernel_rfl) (fun _ _ _ h => h) (Or.inl ⟨by rfl, (fun u hu => by obtain ⟨⟨k0, k1, k2, k3⟩, ⟨k4, k5, k6⟩, k7, k8, k9⟩ := hu; go_simp; try rfl)⟩) (HALY.out _ HB22.out) (fun _ => trivial) ?_
                      simp only [Act.put, List.setIfInBounds_toArray, List.set_cons_zero, List.set_cons_succ, List.getElem_toArray, List.getElem_cons_zero, List.getElem_cons_succ]
                      refine wpAnyL_ready (rs := [13]) (by kernel_rfl) (by simp) ?_
                      refine AllL.cons rfl (fun K hK => ?_) ?_
                      · go_simp
                        have hs22 := HB22.out.size
                        refine (treeCheck w22 _ _ _ _ cR g ((HG11.out.below HBX19.out).below HB22.out) HV.out y (false, g.2.2.1) Ay my cy (HYS.out.below HB22.out) HYV.out HSO.out (by omega)).mono ?_
                        rintro e w23 ⟨rfl, hb23⟩
                        have HB23 := Lib.hid (HB22.out.trans (hb23.mono (by omega)))
                        clear hb23
                        refine hK.out _ _ (HALY.out _ HB23.out) (fun _ => trivial) ?_
                        clear hK K
                        refine wpAnyL_pure (i := 14) rfl (by kernel_rfl) (fun _ _ _ h => h) (Or.inl ⟨by rfl, (fun u hu => by obtain ⟨⟨k0, k1, k2, k3⟩, ⟨k4, k5, k6⟩, k7, k8, k9⟩ := hu; go_simp; try rfl)⟩) (HALY.out _ HB23.out) (fun _ => trivial) ?_
                        simp only [Act.put, List.setIfInBounds_toArray, List.set_cons_zero, List.set_cons_succ, List.getElem_toArray, List.getElem_cons_zero, List.getElem_cons_succ]
                        refine wpAnyL_pure (i := 15) rfl (by kernel_rfl) (fun _ _ _ h => h) (Or.inl ⟨by rfl, (fun u hu => by obtain ⟨⟨k0, k1, k2, k3⟩, ⟨k4, k5, k6⟩, k7, k8, k9⟩ := hu; go_simp; try rfl)⟩) (HALY.out _ HB23.out) (fun _ => trivial) ?_
                        simp only [Act.put, List.setIfInBounds_toArray, List.set_cons_zero, List.set_cons_succ, List.getElem_toArray, List.getElem_cons_zero, List.getElem_cons_succ]
                        refine wpAnyL_done (by kernel_rfl) ?_ _
                        go_wp2_with fail
                        go_roundg (n17 - (j + 1))
                        case measure => rw [HGK.out]; omega
                        case rel => exact ⟨j + 1, by omega, rfl, by go_num, HB19.out.trans (HB23.out.mono (by omega))⟩
                      exact AllL.nil
                    exact AllL.nil
                  exact AllL.nil
                exact AllL.nil
              · obtain rfl : n17 = j := by omega
                go_wp2_with fail
                go_ret
                exact ⟨rfl, HB9.out.trans ((HB11.out.trans ((HB17.out.trans (HB.out.mono (by have := HB17.out.size; omega))).mono (by omega))).mono HB9.out.size)⟩
          exact AllL.nil
        exact AllL.nil
      exact AllL.nil
    exact AllL.nil
end Go.Proofs.Ytfmmpmphlognlaa
