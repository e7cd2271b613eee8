/- tree.Clone, tree.At, tree.Put. -/
import Derived.Test.YtfmmpmphlognlaaTreeCopy
import Derived.Test.YtfmmpmphlognlaaTreeS
namespace Go.Proofs.Ytfmmpmphlognlaa
open Go.RowKit

set_option linter.unusedSimpArgs false in
set_option maxRecDepth 100000 in
set_option maxHeartbeats 1000000 in
theorem treeClone (t : TreeD) (w : World) (S : Nat → Prop) (A : Option Addr) (m c : Nat) (hsm : sizeT t ≤ 1000000) (hs : Sl RTree w S A m c t.kids) :
    Calls Try.prog 58 #[.agg #[.int .i64 t.rule, .int .i64 t.term, .slice A m c]] w fun e w' => CopyMade t w.heap.size e w' ∧ Below w.heap.size w w' := by
  obtain ⟨w1, hw1⟩ : ∃ w1 : World, w1 = (w.alloc (.cells #[.int .i64 t.rule, .int .i64 t.term, .slice A m c] 31)).alloc (.cells #[.int .i64 0, .int .i64 0, .slice none 0 0] 31) := ⟨_, rfl⟩
  have hz1 : w1.heap.size = w.heap.size + 2 := by rw [hw1]; simp
  have hb1 : Below w.heap.size w w1 := by rw [hw1]; exact ((Below.refl _ _).alloc (Nat.le_refl _) _).alloc (by simp) _
  have b2 : w1.heap[w.heap.size + 1]? = some (.cells #[.int .i64 0, .int .i64 0, .slice none 0 0] 31 (0, 0)) := by rw [hw1]; exact heap_new _ _ _ (by simp)
  have HB1 := Lib.hid hb1
  have HRES := Lib.hid b2
  have HS := Lib.hid (hs.below hb1)
  clear hb1 b2 hs
  go_enter Try.func58, Try.ntmps58
  go_wp2_with fail
  rw [← hw1]
  clear hw1
  refine (copyTree _ t w1 S A m c (Nat.le_refl _) hsm HS.out).mono ?_
  rintro e w2 ⟨⟨A2, m2, c2, rfl, hz⟩, hb2⟩
  have HZ := Lib.hid hz
  have hz2 := hb2.size
  obtain ⟨d0, d1, d2, f0, f1, f2⟩ := tree_cells' ((hb2.block _ (by omega)).trans HRES.out)
  have HB2 := Lib.hid (HB1.out.trans (hb2.mono (by omega)))
  have ld : w.heap.size + 1 < w2.heap.size := by omega
  clear hz hb2
  go_wp2_with fail
  refine bodyPost_ret (v := .agg #[.int .i64 t.rule, .int .i64 t.term, .slice A2 m2 c2]) (by simp [results, Try.results58, go_sem, d0, d1, d2, ld]) rfl ?_
  have hset : ∀ (u : World) (q : Nat) (v : Value), Below w.heap.size u (u.setCell ⟨w.heap.size + 1, q, none⟩ v) := fun u q v => (Below.refl _ _).setCell (by show w.heap.size ≤ w.heap.size + 1; omega) _
  refine ⟨⟨A2, m2, c2, rfl, ?_⟩, HB2.out.trans (((hset _ _ _).trans (hset _ _ _)).trans (hset _ _ _))⟩
  exact ((HZ.out.more (S' := fun b => w.heap.size + 2 ≤ b) (fun b hb => by omega)).keep (((Kept.setCell _ _ _ _ (by simp)).trans (.setCell _ _ _ _ (by simp))).trans (.setCell _ _ _ _ (by simp)))).more (fun b hb => by omega)
theorem tree_set3 {w : World} {B : Nat} {a b c : Value} {T : TypeId} (h : w.heap[B]? = some (.cells #[a, b, c] T (0, 0))) (x y z : Value) : (((w.setCell ⟨B, 0, none⟩ x).setCell ⟨B, 1, none⟩ y).setCell ⟨B, 2, none⟩ z).heap[B]? = some (.cells #[x, y, z] T (0, 0)) := by
  have h1 := blk_set h 0 x
  have h2 := blk_set h1 1 y
  have h3 := blk_set h2 2 z
  simpa using h3
theorem subAt_cons {t x : TreeD} {i : Int} {p : List Int} (h : subAt t (i :: p) = some x) : ∃ (k : Nat) (y : TreeD), i = (k : Int) ∧ t.kids[k]? = some y ∧ subAt y p = some x := by
  rw [subAt] at h
  split at h
  · cases h
  · rename_i hi
    split at h
    · rename_i y hy
      exact ⟨i.toNat, y, by omega, hy, h⟩
    · cases h
theorem leafy_kid {t y : TreeD} (h : ∀ x ∈ nodesT t, Leafy x) (hy : y ∈ t.kids) : ∀ x ∈ nodesT y, Leafy x := fun x hx => h x (by rw [nodesT_eq]; exact List.mem_cons_of_mem _ (nodesTs_mem hy hx))
set_option linter.unusedSimpArgs false in
set_option maxRecDepth 100000 in
set_option maxHeartbeats 4000000 in
theorem treeAt (t x : TreeD) (w : World) (S S' : Nat → Prop) (A : Option Addr) (m c : Nat) (hsm : sizeT t ≤ 1000000) (hs : Sl RTree w S A m c t.kids) (hl : ∀ x ∈ nodesT t, Leafy x) (Ap : Option Addr) (np cp : Nat) (p : List Int) (hp : Rd w S' 1 Ap np (p.map (Value.int .i64))) (hnp : np ≤ 1000000) (hx : subAt t p = some x) :
    Calls Try.prog 93 #[.agg #[.int .i64 t.rule, .int .i64 t.term, .slice A m c], .slice Ap np cp] w fun e w' => (∃ (A' : Option Addr) (m' c' : Nat), e = .returned (.tuple #[.agg #[.int .i64 x.rule, .int .i64 x.term, .slice A' m' c'], .int .i64 0]) ∧ Sl RTree w' (fun b => w.heap.size ≤ b) A' m' c' x.kids) ∧ Below w.heap.size w w' := by
  obtain ⟨w1, hw1⟩ : ∃ w1 : World, w1 = (w.alloc (.cells #[.int .i64 t.rule, .int .i64 t.term, .slice A m c] 31)).alloc (.cells #[.int .i64 0, .int .i64 0, .slice none 0 0] 31) := ⟨_, rfl⟩
  have hz1 : w1.heap.size = w.heap.size + 2 := by rw [hw1]; simp
  have hb1 : Below w.heap.size w w1 := by rw [hw1]; exact ((Below.refl _ _).alloc (Nat.le_refl _) _).alloc (by simp) _
  have b1 : w1.heap[w.heap.size]? = some (.cells #[.int .i64 t.rule, .int .i64 t.term, .slice A m c] 31 (0, 0)) := by rw [hw1]; exact (Below.heap_alloc _ _ _ (by simp)).trans (heap_alloc_new w _)
  have b2 : w1.heap[w.heap.size + 1]? = some (.cells #[.int .i64 0, .int .i64 0, .slice none 0 0] 31 (0, 0)) := by rw [hw1]; exact heap_new _ _ _ (by simp)
  have HB1 := Lib.hid hb1
  have HBX := Lib.hid b1
  have HRES := Lib.hid b2
  have HS := Lib.hid ((hs.fit.more (S' := fun b => b < w.heap.size) (fun b hb => hb.2)).below hb1)
  have HP := Lib.hid (((hp.fit (by decide)).more (S' := fun b => b < w.heap.size) (fun b hb => hb.2)).below hb1)
  have HL := Lib.hid hl
  have HX := Lib.hid hx
  have hpl : p.length = np := by simpa using hp.1
  have HPL := Lib.hid hpl
  clear hb1 b1 b2 hs hp hl hx hpl
  go_enter Try.func93, Try.ntmps93
  --@1
  go_wp2_with fail
  rw [← hw1]
  clear hw1
  go_loopg [11] np (fun gk i wr => ∃ (j : Nat) (y : TreeD) (Ay : Option Addr) (my cy : Nat), j ≤ np ∧ gk = np - j ∧ i = .int .i64 j ∧ wr.heap[w.heap.size]? = some (.cells #[.int .i64 y.rule, .int .i64 y.term, .slice Ay my cy] 31 (0, 0)) ∧
    wr.heap[w.heap.size + 1]? = some (.cells #[.int .i64 0, .int .i64 0, .slice none 0 0] 31 (0, 0)) ∧ Sl RTree wr (fun b => b < w.heap.size) Ay my cy y.kids ∧ subAt y (p.drop j) = some x ∧ sizeT y ≤ 1000000 ∧ (∀ x ∈ nodesT y, Leafy x) ∧ w1.heap.size ≤ wr.heap.size ∧ Below w.heap.size w1 wr)
  case atStart => exact ⟨0, t, A, m, c, Nat.zero_le _, rfl, rfl, HBX.out, HRES.out, HS.out, by rw [List.drop_zero]; exact HX.out, hsm, HL.out, Nat.le_refl _, Below.refl _ _⟩
  case round =>
    obtain ⟨j, y, Ay, my, cy, hj, hgk, rfl, hby, hbr, hsy, hxy, hszy, hly, hzr, hb⟩ := hrel
    have HGK := Lib.hid hgk
    have HBY := Lib.hid hby
    have HBR := Lib.hid hbr
    have HSY := Lib.hid hsy
    have HXY := Lib.hid hxy
    have HLY := Lib.hid hly
    have HB := Lib.hid hb
    obtain ⟨w2, rfl⟩ : ∃ w2 : World, w2 = wr := ⟨_, rfl⟩
    clear hgk hby hbr hsy hxy hly hb
    by_cases hlt : j < np
    · obtain ⟨b, off, i, rfl, _, hi, hci⟩ := (HP.out.keep (.belowB HB.out (fun b hb => hb))).int_at hlt
      have hdr : p.drop j = i :: p.drop (j + 1) := by
        obtain ⟨h1, h2⟩ := List.getElem?_eq_some_iff.1 hi
        rw [List.drop_eq_getElem_cons h1, h2]
      have hxy := HXY.out
      rw [hdr] at hxy
      obtain ⟨k, z, rfl, hkz, hxz⟩ := subAt_cons hxy
      have hjI : (j : Int) < (np : Int) := by omega
      have hj0 : (0 : Int) ≤ (j : Int) := by omega
      obtain ⟨d0, d1, d2, f0, f1, f2⟩ := tree_cells' HBY.out
      have hkm : k < my := by have := (List.getElem?_eq_some_iff.1 hkz).1; have := HSY.out.len; omega
      have HKZ := Lib.hid hkz
      have HXZ := Lib.hid hxz
      clear hi hdr hxy hkz hxz
      --@2
      go_wp2_with fail
      refine (treeKids w2 _ y Ay my cy HSY.out (HLY.out y (by rw [nodesT_eq]; simp))).mono ?_
      rintro e w3 ⟨A3, c3, rfl, hs3, hb3⟩
      obtain ⟨bk, ok, Az, mz, cz, z', rfl, hSb, hbl, hz0, hz1', hz2, hz', hzs⟩ := tree_at hs3 hkm
      rw [HKZ.out] at hz'
      injection hz' with hz'
      subst hz'
      have hz3 := hb3.size
      have hby3 := (hb3.block _ (heap_lt HBY.out)).trans HBY.out
      have hbr3 := (hb3.block _ (heap_lt HBR.out)).trans HBR.out
      have HBY3 := Lib.hid hby3
      have HBR3 := Lib.hid hbr3
      have HZS := Lib.hid hzs
      have HB3 := Lib.hid (HB.out.trans (hb3.mono (by omega)))
      clear d0 d1 d2 f0 f1 f2
      obtain ⟨d0, d1, d2, f0, f1, f2⟩ := tree_cells' hby3
      have ld := cell_lt d0
      have hkI : (k : Int) < (my : Int) := by omega
      have hk0 : (0 : Int) ≤ (k : Int) := by omega
      have hne : bk ≠ w.heap.size := by omega
      have hset : ∀ (u : World) (q : Nat) (v : Value), Below w.heap.size u (u.setCell ⟨w.heap.size, q, none⟩ v) := fun u q v => (Below.refl _ _).setCell (by show w.heap.size ≤ w.heap.size; omega) _
      have HSET := Lib.hid hset
      have HSZ3 := Lib.hid (fun (u : World) (p : Addr) (v : Value) => (by simp [World.setCell] : (u.setCell p v).heap.size = u.heap.size))
      clear hs3 hb3 hby3 hbr3 hzs hset
      --@3
      go_wp2_with fail
      go_roundg (np - (j + 1))
      case measure => rw [HGK.out]; omega
      case rel =>
        have hkm2 := List.mem_of_getElem? HKZ.out
        have hsk := sizeT_kid hkm2
        refine ⟨j + 1, z, Az, mz, cz, by omega, rfl, by go_num, tree_set3 HBY3.out _ _ _, ?_, ?_, HXZ.out, by omega, leafy_kid HLY.out hkm2, by rw [HSZ3.out, HSZ3.out, HSZ3.out]; omega, ((HB3.out.trans (HSET.out _ _ _)).trans (HSET.out _ _ _)).trans (HSET.out _ _ _)⟩
        · exact (Below.heap_setCell _ _ _ _ (by simp)).trans ((Below.heap_setCell _ _ _ _ (by simp)).trans ((Below.heap_setCell _ _ _ _ (by simp)).trans HBR3.out))
        · exact HZS.out.keep (((Kept.setCell _ _ _ _ (by simp)).trans (.setCell _ _ _ _ (by simp))).trans (.setCell _ _ _ _ (by simp)))
    · obtain rfl : np = j := by omega
      have hxe : y = x := by
        have := HXY.out
        rw [List.drop_of_length_le (by have := HPL.out; omega), subAt] at this
        injection this
      subst hxe
      obtain ⟨d0, d1, d2, f0, f1, f2⟩ := tree_cells' HBY.out
      --@4
      go_wp2_with fail
      clear d0 d1 d2 f0 f1 f2
      refine (treeClone y w2 _ Ay my cy hszy HSY.out).mono ?_
      rintro e w3 ⟨⟨A3, m3, c3, rfl, hz⟩, hb3⟩
      have HZ := Lib.hid hz
      have hz3 := hb3.size
      obtain ⟨d0, d1, d2, f0, f1, f2⟩ := tree_cells' ((hb3.block _ (by omega)).trans HBR.out)
      have HB3 := Lib.hid (HB1.out.trans (HB.out.trans (hb3.mono (by omega))))
      have ld : w.heap.size + 1 < w3.heap.size := by omega
      clear hz hb3
      --@5
      go_wp2_with fail
      refine bodyPost_ret (v := .tuple #[.agg #[.int .i64 y.rule, .int .i64 y.term, .slice A3 m3 c3], .int .i64 0]) (by simp [results, Try.results93, go_sem, d0, d1, d2, ld]) rfl ?_
      have hset : ∀ (u : World) (q : Nat) (v : Value), Below w.heap.size u (u.setCell ⟨w.heap.size + 1, q, none⟩ v) := fun u q v => (Below.refl _ _).setCell (by show w.heap.size ≤ w.heap.size + 1; omega) _
      refine ⟨⟨A3, m3, c3, rfl, ?_⟩, HB3.out.trans (((hset _ _ _).trans (hset _ _ _)).trans (hset _ _ _))⟩
      exact ((HZ.out.more (S' := fun b => w.heap.size + 2 ≤ b) (fun b hb => by omega)).keep (((Kept.setCell _ _ _ _ (by simp)).trans (.setCell _ _ _ _ (by simp))).trans (.setCell _ _ _ _ (by simp)))).more (fun b hb => by omega)
end Go.Proofs.Ytfmmpmphlognlaa
