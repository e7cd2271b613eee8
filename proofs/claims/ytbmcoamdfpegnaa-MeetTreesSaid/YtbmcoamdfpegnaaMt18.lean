/- MkNeeds -/
import Derived.Deep.RegionHeld3
import Derived.IntWalk
import Derived.Test.YtbmcoamdfpegnaaMt17
namespace Go.Proofs.Ytbmcoamdfpegnaa
open Go.RowKit Go.Maps
def NeedsR (M : Mkr) (W : List TriD) (t : TriD) (base : Nat) (e : Ending) (w' : World) : Prop := ∃ (b : Nat) (L : List TriD), e = .returned (.map (some b)) ∧ base ≤ b ∧ TMap w' b L ∧ (∀ x, x ∈ L ↔ NeedP M.d M.R (inW W) t x) ∧ ∀ x ∈ L, M.Tri x
structure NSt (M : Mkr) (W : List TriD) (t : TriD) (w0 : World) (Bo k i q : Nat) (ps : List Nat) (L : List TriD) (wr : World) : Prop where
 map : TMap wr Bo L
 inv : NInv M W t L k i q ps
 only : Only w0 wr (fun b => b = Bo)
set_option linter.unusedSimpArgs false in
set_option maxRecDepth 100000 in
set_option maxHeartbeats 4000000 in
theorem mkNeeds (M : Mkr) (hM : M.Ok) (w : World) (W : List TriD) (h : M.In w W) (t : TriD) (ht : M.Tri t) :
    Calls Try.prog 80 #[.pointer (some ⟨M.Bm, 0, none⟩), .agg #[.int .i64 (t.1 : Int), .int .i64 (t.2.1 : Int), .int .i64 (t.2.2 : Int)]] w fun e w' => NeedsR M W t w.heap.size e w' ∧ Below w.heap.size w w' := by
 have HI := Lib.hid h
 have HM := Lib.hid hM
 have HN := Lib.hid hM.n
 have HNR := Lib.hid hM.nR
 have HT := Lib.hid ht
 have hn12 := hM.n12
 have hnR : M.nR ≤ 32 := by rw [hM.nR]; exact hM.g.rl
 have hN10 : M.N ≤ 10 := by have := hM.g.n2; simp only at this; omega
 obtain ⟨AR, hAR⟩ : ∃ AR, AR = M.AR := ⟨_, rfl⟩
 have HAR := Lib.hid hAR
 have HLOW := Lib.hid h.low
 have HC := Lib.hid (show ∀ (u : World) (W : List TriD), M.In u W → u.cell? ⟨M.Bm, 3, none⟩ = some (.slice AR M.nR M.cR) from fun u W hu => by
  rw [HAR.out]
  exact hu.cells.2.2.2.1)
 obtain ⟨tq, ta, tp⟩ := t
 obtain ⟨ht1, ht2, ht3⟩ := ht
 simp only at ht1 ht2 ht3 ⊢
 obtain ⟨w1, hw1⟩ : ∃ w1 : World, w1 = w.alloc (.cells #[.int .i64 (tq : Int), .int .i64 (ta : Int), .int .i64 (tp : Int)] 92) := ⟨_, rfl⟩
 obtain ⟨w2, hw2⟩ : ∃ w2 : World, w2 = w1.alloc (.map #[] 0) := ⟨_, rfl⟩
 have hz1 : w1.heap.size = w.heap.size + 1 := by rw [hw1]; simp
 have hb12 : Below w.heap.size w w2 := by rw [hw2, hw1]; exact ((Below.refl _ _).alloc (Nat.le_refl _) _).alloc (by simp) _
 have hbt : w2.heap[w.heap.size]? = some (.cells #[.int .i64 (tq : Int), .int .i64 (ta : Int), .int .i64 (tp : Int)] 92 (0, 0)) := by
  rw [hw2, Below.heap_alloc _ _ _ (by rw [hz1]; omega), hw1]
  exact heap_alloc_new _ _
 have HST := Lib.hid (show NSt M W (tq, ta, tp) w2 (w.heap.size + 1) 0 0 0 [] [] w2 from ⟨by rw [hw2, ← hz1]; exact TMap.made _, NInv.zero, .refl _ _⟩)
 have HZ2 := Lib.hid (show w2.heap.size = w.heap.size + 2 by rw [hw2]; simp [hz1])
 have HB2 := Lib.hid hb12
 have HBT := Lib.hid hbt
 have HALL := Lib.hid (show ∀ u : World, Only w2 u (fun b => b = w.heap.size + 1) → M.In u W ∧ u.cell? ⟨M.Bm, 3, none⟩ = some (.slice AR M.nR M.cR) ∧ u.cell? ⟨w.heap.size, 0, none⟩ = some (.int .i64 (tq : Int)) ∧ u.cell? ⟨w.heap.size, 1, none⟩ = some (.int .i64 (ta : Int)) ∧ u.cell? ⟨w.heap.size, 2, none⟩ = some (.int .i64 (tp : Int)) from fun u hu => by
  have hin := (HI.out.below HB2.out).only hu fun b e => by
   obtain ⟨l1, l2, l3⟩ := HLOW.out
   exact ⟨by omega, by omega, fun hs => by have := l3 b hs; omega⟩
  have h2 := (hu.block _ (heap_lt HBT.out) (by omega)).trans HBT.out
  exact ⟨hin, HC.out _ _ hin, by simp [World.cell?, h2], by simp [World.cell?, h2], by simp [World.cell?, h2]⟩)
 have HW2 := Lib.hid (show w2 = (w.alloc (.cells #[.int .i64 (tq : Int), .int .i64 (ta : Int), .int .i64 (tp : Int)] 92)).alloc (.map #[] 0) by rw [hw2, hw1])
 obtain ⟨_, k3, _⟩ := HALL.out w2 (.refl _ _)
 rw [HW2.out] at k3
 clear h hM hAR hw1 hw2 hz1 hb12 hbt HC w1
 have hmm := @run_makeMap Try.prog
 go_enter Try.func80, Try.ntmps80
 go_wp2_with fail
 rw [← HW2.out]
 clear k3 hmm
 go_loopg [21] M.nR (fun g1 v21 wr => ∃ (k : Nat) (L : List TriD), k ≤ M.nR ∧ g1 = M.nR - k ∧ v21 = .int .i64 k ∧ NSt M W (tq, ta, tp) w2 (w.heap.size + 1) k 0 0 [] L wr)
 case atStart => exact ⟨0, [], Nat.zero_le _, rfl, rfl, HST.out⟩
 case round =>
  obtain ⟨k, L, hk, hg1, rfl, hst⟩ := hrel
  obtain ⟨w3, rfl⟩ : ∃ w3 : World, w3 = wr := ⟨_, rfl⟩
  have HG1 := Lib.hid hg1
  have HS3 := Lib.hid hst
  clear hg1 hst HST
  by_cases hkl : k < M.nR
  ·
   have hkI : (k : Int) < (M.nR : Int) := by omega
   have hk0 : (0 : Int) ≤ (k : Int) := by omega
   have hru := (HALL.out w3 HS3.out.only).1.rules
   rw [← HAR.out] at hru
   obtain ⟨bR, oR, u1, u2, r, hA, hSb, hrs, hok, hc1, hc2⟩ := hru.at2 (k := k) rfl hkl
   obtain ⟨A1, n1, c1, h2, hsl⟩ := RRule.cells.1 hok
   injection h2 with e1 h2
   injection h2 with e2 _
   subst e1
   subst e2
   subst hA
   obtain ⟨a, rhs⟩ := r
   have hc2 : w3.cell? ⟨bR, oR + k * 2 + 1, none⟩ = some (.slice A1 n1 c1) := hc2
   obtain ⟨⟨ha0, haN⟩, hr4, hsy⟩ := HM.out.rule (List.mem_of_getElem? hrs)
   obtain ⟨an, rfl⟩ : ∃ an : Nat, a = (an : Int) := ⟨a.toNat, by simp only at ha0; omega⟩
   have hn1 : n1 ≤ 4 := by rw [hsl.len]; exact hr4
   have haN : an < M.N := by simp only at haN; omega
   obtain ⟨w4, hw4⟩ : ∃ w4 : World, w4 = w3.alloc (.cells #[.int .i64 (an : Int), .slice A1 n1 c1] 40) := ⟨_, rfl⟩
   have hb34 : Below w3.heap.size w3 w4 := by rw [hw4]; exact (Below.refl _ _).alloc (Nat.le_refl _) _
   have hbx : w4.heap[w3.heap.size]? = some (.cells #[.int .i64 (an : Int), .slice A1 n1 c1] 40 (0, 0)) := by rw [hw4]; exact heap_alloc_new _ _
   have hz23 : w2.heap.size ≤ w3.heap.size := HS3.out.only.size
   have HZ23 := Lib.hid hz23
   have HS4 := Lib.hid (show NSt M W (tq, ta, tp) w2 (w.heap.size + 1) k 0 0 [] L w4 from ⟨HS3.out.map.below hb34, HS3.out.inv, HS3.out.only.trans (.of_below hb34 (Nat.le_refl _) _)⟩)
   have HRS := Lib.hid hrs
   have HSY := Lib.hid hsy
   have HSL := Lib.hid (hsl.fit.keep (.belowB hb34 fun b hb => hb.2))
   have HR4 := Lib.hid hr4
   have HNL := Lib.hid hsl.len
   have HBX := Lib.hid hbx
   obtain ⟨_, _, t0, t1, t2⟩ := HALL.out w4 HS4.out.only
   rw [hw4] at t1
   have HW4 := Lib.hid hw4
   clear hrs hok hsl hsy hr4 hbx hb34 hru hSb hw4 t0 t2
   by_cases hat : (an : Int) = (ta : Int)
   ·
    have hne : ((an : Int) != (ta : Int)) = false := by simpa using hat
    have heq : ((an : Int) == (ta : Int)) = true := by simpa using hat
    have HAT := Lib.hid hat
    clear hat
    go_wp2_with fail
    rw [← HW4.out]
    have HBO := Lib.hid (show ∀ b, M.S b ∧ b < w3.heap.size → b ≠ w.heap.size + 1 from fun b hb e => by have := HLOW.out.2.2 b hb.1; omega)
    clear t1
    go_loopg [33] n1 (fun g2 v33 wr => ∃ (i : Nat) (L : List TriD), i ≤ n1 ∧ g2 = n1 - i ∧ v33 = .int .i64 i ∧ NSt M W (tq, ta, tp) w2 (w.heap.size + 1) k i 0 [] L wr ∧ Only w4 wr (fun b => b = w.heap.size + 1))
    case atStart => exact ⟨0, L, Nat.zero_le _, rfl, rfl, HS4.out, .refl _ _⟩
    case round =>
     obtain ⟨i, L, hi, hg2, rfl, hst, hon⟩ := hrel
     obtain ⟨w5, rfl⟩ : ∃ w5 : World, w5 = wr := ⟨_, rfl⟩
     have HG2 := Lib.hid hg2
     have HS5 := Lib.hid hst
     have HO5 := Lib.hid hon
     clear hg2 hst hon HS4
     by_cases hil : i < n1
     ·
      have hiI : (i : Int) < (n1 : Int) := by omega
      have hi0 : (0 : Int) ≤ (i : Int) := by omega
      have hz3 : w3.heap.size < w4.heap.size := heap_lt HBX.out
      have hz5 : w4.heap.size ≤ w5.heap.size := HO5.out.size
      have hsl5 := HSL.out.keep (HO5.out.kept fun b hb e => HBO.out b hb e)
      obtain ⟨bl, ol, u1, u2, s, hA, hSb, hls, hok, hc1, hc2⟩ := hsl5.at2 (k := i) rfl hil
      have h2 := RSym.cells.1 hok
      injection h2 with e1 h2
      injection h2 with e2 _
      subst e1
      subst e2
      subst hA
      obtain ⟨sb, sx⟩ := s
      have hc2 : w5.cell? ⟨bl, ol + i * 2 + 1, none⟩ = some (.int .i64 sx) := hc2
      have hbx5 := (HO5.out.block _ hz3 (by have := HZ23.out; have := HZ2.out; omega)).trans HBX.out
      have hsm := List.mem_of_getElem? hls
      have hsy := HSY.out _ hsm
      obtain ⟨w6, hw6⟩ : ∃ w6 : World, w6 = w5.alloc (.cells #[.bool sb, .int .i64 sx] 42) := ⟨_, rfl⟩
      have hb56 : Below w5.heap.size w5 w6 := by rw [hw6]; exact (Below.refl _ _).alloc (Nat.le_refl _) _
      have hbs : w6.heap[w5.heap.size]? = some (.cells #[.bool sb, .int .i64 sx] 42 (0, 0)) := by rw [hw6]; exact heap_alloc_new _ _
      have HS6 := Lib.hid (show NSt M W (tq, ta, tp) w2 (w.heap.size + 1) k i 0 [] L w6 from ⟨HS5.out.map.below hb56, HS5.out.inv, HS5.out.only.trans (.of_below hb56 (Nat.le_refl _) _)⟩)
      have HO6 := Lib.hid (HO5.out.trans (.of_below hb56 (Nat.le_refl _) _))
      have HLS := Lib.hid hls
      have HW6 := Lib.hid hw6
      have HBS := Lib.hid hbs
      cases sb with
      | true =>
       have HNX := Lib.hid (HS6.out.inv.nextI fun x q' p hx => by
        obtain ⟨r, c, h1, _, h3, _⟩ := hx
        rw [HRS.out] at h1
        injection h1 with h1
        subst h1
        rw [HLS.out] at h3
        cases h3)
       clear hsl5 hls hok hbx5 hsm hsy hb56 hbs hw6 hSb
       go_wp2_with fail
       rw [← HW6.out]
       go_roundg (n1 - (i + 1))
       case measure => rw [HG2.out]; omega
       case rel => exact ⟨i + 1, L, by omega, rfl, by go_num, ⟨HS6.out.map, HNX.out, HS6.out.only⟩, HO6.out⟩
      | false =>
       obtain ⟨hx0, hx1⟩ := hsy.2 rfl
       obtain ⟨xn, rfl⟩ : ∃ xn : Nat, sx = (xn : Int) := ⟨sx.toNat, by simp only at hx0; omega⟩
       have hxN : xn < M.N := by simp only at hx1; omega
       have hbx6 := (hb56.block _ (heap_lt hbx5)).trans hbx5
       have hx1 : w6.cell? ⟨w3.heap.size, 1, none⟩ = some (.slice (some ⟨bl, ol, none⟩) n1 c1) := by simp [World.cell?, hbx6]
       obtain ⟨hin6, _, t0, _, _⟩ := HALL.out w6 HS6.out.only
       have HIN6 := Lib.hid hin6
       have HSL6 := Lib.hid (hsl5.fit.keep (.belowB hb56 fun b hb => hb.2))
       have hic := hsl5.cap
       have hcut := fun u => tSyms.hN (some ⟨bl, ol, none⟩) n1 c1 i (by omega) u
       have HBX6 := Lib.hid hbx6
       clear hsl5 hls hok hbx5 hsm hsy hb56 hbs hw6 hSb hbx6 hin6
       go_wp2_with fail
       rw [← HW6.out]
       go_region_held3 (fun u => u.cell? ⟨w3.heap.size, 1, none⟩ = some (.slice (some ⟨bl, ol, none⟩) n1 c1) ∧ u.cell? ⟨w.heap.size, 0, none⟩ = some (.int .i64 (tq : Int))) (first | exact ⟨hx1, t0⟩ | exact ⟨hy1, hy0⟩) (first
        | (go_at_call 78; refine (mkReach M HM.out _ W (HIN6.out.below (Below.refl _ _).drew) _ _ i c1 (rhs.take i) ((HSL6.out.take i (by omega)).drew) (by omega) (fun s hs => HSY.out s (List.mem_of_mem_take hs)) tq ht1).mono ?_; rintro e w7 ⟨⟨bB, rfl, hbB, hbl⟩, hb67⟩; have hb67 : Below w6.heap.size w6 w7 := ((Below.refl _ _).drew).trans hb67; have hbB : w6.heap.size ≤ bB := hbB; have hy1 := (hb67.cell (p := ⟨w3.heap.size, 1, none⟩) (cell_lt hx1)).trans hx1; have hy0 := (hb67.cell (p := ⟨w.heap.size, 0, none⟩) (cell_lt t0)).trans t0; have HBL := Lib.hid hbl; have HB67 := Lib.hid hb67; have HBB := Lib.hid hbB; clear hbl hb67 hbB))
       have hz7 : w6.heap.size ≤ w7.heap.size := HB67.out.size
       have hz56 : w5.heap.size < w6.heap.size := heap_lt HBS.out
       have hzz2 := HZ2.out
       have hzz3 := HZ23.out
       have HS7 := Lib.hid (show NSt M W (tq, ta, tp) w2 (w.heap.size + 1) k i 0 [] L w7 from ⟨HS6.out.map.below HB67.out, HS6.out.inv, HS6.out.only.trans (.of_below HB67.out (Nat.le_refl _) _)⟩)
       obtain ⟨bl1, hbl1⟩ : ∃ bl1, bl1 = rchL M.d (inW W) (rhs.take i) tq := ⟨_, rfl⟩
       rw [← hbl1] at HBL
       have HBLE := Lib.hid (show bl1.length = M.n by rw [hbl1, rchL_len, HN.out])
       have HR1 := Lib.hid (show ∀ q, bl1[q]? = some true ↔ RchW M.d (inW W) (rhs.take i) tq q from fun q => by
        rw [hbl1]
        exact rchL_iff HM.out.val (by rw [← HN.out]; exact ht1) fun s hs => (HSY.out s (List.mem_of_mem_take hs)).1)
       have HBX7 := Lib.hid ((HB67.out.block _ (heap_lt HBX6.out)).trans HBX6.out)
       have HBS7 := Lib.hid ((HB67.out.block _ (heap_lt HBS.out)).trans HBS.out)
       have HSL7 := Lib.hid (HSL6.out.below HB67.out)
       have HO7 := Lib.hid (HO6.out.trans (.of_below HB67.out (Nat.le_refl _) _))
       clear hbl1 hx1 hy1 hy0 t0 hcut
       go_wp2_with fail
       go_loopg [49] M.n (fun g3 v49 wr => ∃ (q : Nat) (L : List TriD), q ≤ M.n ∧ g3 = M.n - q ∧ v49 = .int .i64 q ∧ NSt M W (tq, ta, tp) w2 (w.heap.size + 1) k i q [] L wr ∧ Only w7 wr (fun b => b = w.heap.size + 1))
       case atStart => exact ⟨0, L, Nat.zero_le _, rfl, rfl, HS7.out, .refl _ _⟩
       case round =>
        obtain ⟨q, L, hq, hg3, rfl, hst, hon⟩ := hrel
        obtain ⟨w8, rfl⟩ : ∃ w8 : World, w8 = wr := ⟨_, rfl⟩
        have HG3 := Lib.hid hg3
        have HS8 := Lib.hid hst
        have HO8 := Lib.hid hon
        clear hg3 hst hon HS7
        by_cases hql : q < M.n
        ·
         have hqI : (q : Int) < (M.n : Int) := by omega
         have hq0 : (0 : Int) ≤ (q : Int) := by omega
         have hbb := HBB.out
         have hz8 : w7.heap.size ≤ w8.heap.size := HO8.out.size
         have hbl8 : BlB w8 bB bl1 := (HO8.out.block _ (heap_lt HBL.out) (by omega)).trans HBL.out
         obtain ⟨ok, ho1, ho2, _⟩ := hbl8.at_ (i := q) (by rw [HBLE.out]; exact hql)
         have hbs8 := (HO8.out.block _ (heap_lt HBS7.out) (by omega)).trans HBS7.out
         have hs0 : w8.cell? ⟨w5.heap.size, 0, none⟩ = some (.bool false) := by simp [World.cell?, hbs8]
         have hs1 : w8.cell? ⟨w5.heap.size, 1, none⟩ = some (.int .i64 (xn : Int)) := by simp [World.cell?, hbs8]
         have HBX8 := Lib.hid ((HO8.out.block _ (heap_lt HBX7.out) (by omega)).trans HBX7.out)
         have HBS8 := Lib.hid hbs8
         have HSL8 := Lib.hid (HSL7.out.keep (HO8.out.kept fun b hb e => by have := HLOW.out.2.2 b hb.1.1; omega))
         have HIN8 := Lib.hid (HALL.out w8 HS8.out.only).1
         have HOK := Lib.hid (show ok = true ↔ RchW M.d (inW W) (rhs.take i) tq q from by
          rw [← HR1.out q, ho1]
          simp)
         clear hbl8 ho1 hbs8 hbb
         go_wp2_with (go_at_call 84; refine (mkStep M HM.out _ W HIN8.out (false, (xn : Int)) q hql (by simp) (fun _ => by exact ⟨by omega, by simp only; omega⟩)).mono ?_; rintro e w9 ⟨⟨A5, c5, rfl, hs5⟩, hb5⟩; have HS5' := Lib.hid hs5; have HB5 := Lib.hid hb5; clear hs5 hb5)
         obtain ⟨xs, hxs⟩ : ∃ xs, xs = stpL M.d (inW W) (false, (xn : Int)) q := ⟨_, rfl⟩
         rw [← hxs] at HS5' ⊢
         have hxl : ∀ x ∈ xs, x < M.n := fun x hx => HM.out.syms_lt HSY.out (List.mem_of_getElem? HLS.out) hql (by rw [← hxs]; exact hx)
         have hxf : xs.length ≤ 13 := by
          have := stpL_few M.d (inW W) (false, (xn : Int)) q
          rw [← hxs, ← HN.out] at this
          omega
         have HXS := Lib.hid hxs
         have HXL := Lib.hid hxl
         have hz9 : w8.heap.size ≤ w9.heap.size := HB5.out.size
         obtain ⟨m, hm⟩ : ∃ m, m = xs.length := ⟨_, rfl⟩
         rw [← hm] at HS5' hxf ⊢
         have HMX := Lib.hid hm
         have HS9 := Lib.hid (show NSt M W (tq, ta, tp) w2 (w.heap.size + 1) k i q [] L w9 from ⟨HS8.out.map.below HB5.out, HS8.out.inv, HS8.out.only.trans (.of_below HB5.out (Nat.le_refl _) _)⟩)
         have HO9 := Lib.hid (HO8.out.trans (.of_below HB5.out (Nat.le_refl _) _))
         have HBX9 := Lib.hid ((HB5.out.block _ (heap_lt HBX8.out)).trans HBX8.out)
         have HBS9 := Lib.hid ((HB5.out.block _ (heap_lt HBS8.out)).trans HBS8.out)
         have HSL9 := Lib.hid (HSL8.out.below HB5.out)
         have hbxl9 := heap_lt HBX9.out
         have hbsl9 := heap_lt HBS9.out
         clear hxs hxl hm hs0 hs1
         go_loopg [59] m (fun g4 v59 wr => ∃ (j : Nat) (L : List TriD), j ≤ m ∧ g4 = m - j ∧ v59 = .int .i64 j ∧ NSt M W (tq, ta, tp) w2 (w.heap.size + 1) k i q (xs.take j) L wr ∧ Only w9 wr (fun b => b = w.heap.size + 1))
         case atStart => exact ⟨0, L, Nat.zero_le _, rfl, rfl, by rw [List.take_zero]; exact HS9.out, .refl _ _⟩
         case round =>
          obtain ⟨j, L, hj, hg4, rfl, hst, hon⟩ := hrel
          obtain ⟨wA, rfl⟩ : ∃ wA : World, wA = wr := ⟨_, rfl⟩
          have HG4 := Lib.hid hg4
          have HSA := Lib.hid hst
          have HOA := Lib.hid hon
          clear hg4 hst hon HS9
          by_cases hjl : j < m
          ·
           have hjI : (j : Int) < (m : Int) := by omega
           have hj0 : (0 : Int) ≤ (j : Int) := by omega
           have hxj : xs[j]? = some (xs[j]'(by rw [← HMX.out]; exact hjl)) := List.getElem?_eq_getElem _
           generalize xs[j]'(by rw [← HMX.out]; exact hjl) = p at hxj
           have hsj := HS5'.out.keep (HOA.out.kept fun b hb e => by have := hb; omega)
           obtain ⟨b5, o5, y, hA5, hS5, hy, hcy⟩ := hsj.ints.int_at hjl
           have hyx : y = (p : Int) := by
            rw [List.getElem?_map, hxj] at hy
            simpa using hy.symm
           subst hyx
           subst hA5
           have hpn := HXL.out p (List.mem_of_getElem? hxj)
           have hpI : (p : Int) < (M.n : Int) := by omega
           have hp0 : (0 : Int) ≤ (p : Int) := by omega
           have htk : xs.take (j + 1) = xs.take j ++ [p] := by rw [List.take_add_one, hxj]; rfl
           have HTK := Lib.hid htk
           have hpx : p ∈ stpL M.d (inW W) (false, (xn : Int)) q := by rw [← HXS.out]; exact List.mem_of_getElem? hxj
           have HPX := Lib.hid hpx
           have hbxA := (HOA.out.block _ hbxl9 (by omega)).trans HBX9.out
           have hbsA := (HOA.out.block _ hbsl9 (by omega)).trans HBS9.out
           have HZA := Lib.hid HOA.out.size
           clear hxj hsj hy htk hpx
           cases ok with
           | false =>
            have HNX := Lib.hid (show NInv M W (tq, ta, tp) L k i q (xs.take (j + 1)) from by
             rw [HTK.out]
             refine HSA.out.inv.pass fun x hx => ?_
             obtain ⟨r, c, h1, _, _, _, h4, _⟩ := hx
             rw [HRS.out] at h1
             injection h1 with h1
             subst h1
             have := HOK.out.2 h4
             cases this)
            clear hbxA hbsA
            go_wp2_with fail
            go_quiet (fail)
            go_wp2_with fail
            go_roundg (m - (j + 1))
            case measure => rw [HG4.out]; omega
            case rel => exact ⟨j + 1, L, by omega, rfl, by go_num, ⟨HSA.out.map.below (below_drewN _ _ _), HNX.out, HSA.out.only.trans (.drewN _ _ _)⟩, HOA.out.trans (.drewN _ _ _)⟩
           | true =>
            have hx1 : wA.cell? ⟨w3.heap.size, 1, none⟩ = some (.slice (some ⟨bl, ol, none⟩) n1 c1) := by simp [World.cell?, hbxA]
            have hsb1 : wA.cell? ⟨w5.heap.size, 1, none⟩ = some (.int .i64 (xn : Int)) := by simp [World.cell?, hbsA]
            obtain ⟨hinA, _, _, _, t2⟩ := HALL.out wA HSA.out.only
            have HINA := Lib.hid hinA
            have hslA := HSL9.out.keep (HOA.out.kept fun b hb e => by have := HLOW.out.2.2 b hb.1.1; omega)
            obtain ⟨A2, hcut, hsl2⟩ := cutM tSyms rfl hslA (i + 1) (by omega)
            have hcut : ∀ u, (Instr.slice 38 (.slice (some ⟨bl, ol, none⟩) n1 c1) (some (.int .i64 ((i : Int) + 1))) none none).run Try.prog u = .ok (.slice A2 (n1 - (i + 1)) (c1 - (i + 1))) u := hcut
            have HSL2 := Lib.hid hsl2
            have HNA := Lib.hid (show ∀ b2 : Bool, (rchL M.d (inW W) (rhs.drop (i + 1)) p)[tp]? = some b2 → (b2 = true ↔ NAt M W (tq, ta, tp) k i q p (q, xn, p)) from fun b2 hb2 => by
             have h1 := rchL_iff (W := inW W) HM.out.val (l := rhs.drop (i + 1)) (q := p) (p := tp) (by rw [← HN.out]; exact hpn) fun s hs => (HSY.out s (List.mem_of_mem_drop hs)).1
             rw [hb2] at h1
             simp only [Option.some.injEq] at h1
             rw [h1]
             constructor
             ·
              intro h2
              exact ⟨_, _, HRS.out, HAT.out, HLS.out, rfl, HOK.out.1 (by trivial), HPX.out, h2⟩
             ·
              rintro ⟨r, c, h3, _, _, _, _, _, h4⟩
              rw [HRS.out] at h3
              injection h3 with h3
              subst h3
              exact h4)
            have HLEN2 := Lib.hid (show tp < (rchL M.d (inW W) (rhs.drop (i + 1)) p).length by rw [rchL_len, ← HN.out]; exact ht3)
            have htpI : (tp : Int) < (M.n : Int) := by omega
            have htp0 : (0 : Int) ≤ (tp : Int) := by omega
            clear hinA hslA hsl2 hbxA hbsA
            go_wp2_with fail
            have hwrap : IntKind.i64.wrap ((i : Int) + 1) = (i : Int) + 1 := IntWalk.i64_in _ (by omega)
            have hi10 : (0 : Int) ≤ (i : Int) + 1 := by omega
            have HX1 := Lib.hid (And.intro hx1 t2)
            have HSB1 := Lib.hid hsb1
            refine wp_region_late (late := []) (S1 := fun u => u.cell? ⟨w3.heap.size, 1, none⟩ = some (.slice (some ⟨bl, ol, none⟩) n1 c1) ∧ u.cell? ⟨w.heap.size, 2, none⟩ = some (.int .i64 (tp : Int))) (S := fun _ => True) (by kernel_rfl) ?_
            clear hx1 t2 hsb1
            refine wpAnyL_pure (i := 0) rfl (by kernel_rfl) (fun _ _ _ h => h) (Or.inl ⟨by rfl, (fun u hu => by obtain ⟨k0, k1⟩ := hu; go_simp; try rfl)⟩) (HX1.out) (fun _ => trivial) ?_
            simp only [Act.put, List.setIfInBounds_toArray, List.set_cons_zero, List.set_cons_succ, List.getElem_toArray, List.getElem_cons_zero, List.getElem_cons_succ]
            refine wpAnyL_pure (i := 1) rfl (by kernel_rfl) (fun _ _ _ h => h) (Or.inl ⟨by rfl, (fun u hu => by obtain ⟨k0, k1⟩ := hu; go_simp; try rfl)⟩) (HX1.out) (fun _ => trivial) ?_
            simp only [Act.put, List.setIfInBounds_toArray, List.set_cons_zero, List.set_cons_succ, List.getElem_toArray, List.getElem_cons_zero, List.getElem_cons_succ]
            refine wpAnyL_pure (i := 2) rfl (by kernel_rfl) (fun _ _ _ h => h) (Or.inl ⟨by rfl, (fun u hu => by obtain ⟨k0, k1⟩ := hu; go_simp; try rfl)⟩) (HX1.out) (fun _ => trivial) ?_
            simp only [Act.put, List.setIfInBounds_toArray, List.set_cons_zero, List.set_cons_succ, List.getElem_toArray, List.getElem_cons_zero, List.getElem_cons_succ]
            refine wpAnyL_pure (i := 3) rfl (by kernel_rfl) (fun _ _ _ h => h) (Or.inl ⟨by rfl, (fun u hu => by obtain ⟨k0, k1⟩ := hu; go_simp; try rfl)⟩) (HX1.out) (fun _ => trivial) ?_
            simp only [Act.put, List.setIfInBounds_toArray, List.set_cons_zero, List.set_cons_succ, List.getElem_toArray, List.getElem_cons_zero, List.getElem_cons_succ]
            refine wpAnyL_pure (i := 4) rfl (by kernel_rfl) (fun _ _ _ h => h) (Or.inl ⟨by rfl, (fun u hu => by obtain ⟨k0, k1⟩ := hu; go_simp; try rfl)⟩) (HX1.out) (fun _ => trivial) ?_
            simp only [Act.put, List.setIfInBounds_toArray, List.set_cons_zero, List.set_cons_succ, List.getElem_toArray, List.getElem_cons_zero, List.getElem_cons_succ]
            refine wpAnyL_pure (i := 5) rfl (by kernel_rfl) (fun _ _ _ h => h) (Or.inl ⟨by rfl, (fun u hu => by obtain ⟨k0, k1⟩ := hu; go_simp; try rfl)⟩) (HX1.out) (fun _ => trivial) ?_
            simp only [Act.put, List.setIfInBounds_toArray, List.set_cons_zero, List.set_cons_succ, List.getElem_toArray, List.getElem_cons_zero, List.getElem_cons_succ]
            refine wpAnyL_pure (i := 6) rfl (by kernel_rfl) (fun _ _ _ h => h) (Or.inl ⟨by rfl, (fun u hu => by obtain ⟨k0, k1⟩ := hu; go_simp; try rfl)⟩) (HX1.out) (fun _ => trivial) ?_
            simp only [Act.put, List.setIfInBounds_toArray, List.set_cons_zero, List.set_cons_succ, List.getElem_toArray, List.getElem_cons_zero, List.getElem_cons_succ]
            refine wpAnyL_pure (i := 7) rfl (by kernel_rfl) (fun _ _ _ h => h) (Or.inl ⟨by rfl, (fun u hu => by obtain ⟨k0, k1⟩ := hu; go_simp; try rfl)⟩) (HX1.out) (fun _ => trivial) ?_
            simp only [Act.put, List.setIfInBounds_toArray, List.set_cons_zero, List.set_cons_succ, List.getElem_toArray, List.getElem_cons_zero, List.getElem_cons_succ]
            refine wpAnyL_pure (i := 8) rfl (by kernel_rfl) (fun _ _ _ h => h) (Or.inl ⟨by rfl, (fun u hu => by obtain ⟨k0, k1⟩ := hu; go_simp; try rfl)⟩) (HX1.out) (fun _ => trivial) ?_
            simp only [Act.put, List.setIfInBounds_toArray, List.set_cons_zero, List.set_cons_succ, List.getElem_toArray, List.getElem_cons_zero, List.getElem_cons_succ]
            refine wpAnyL_pure (i := 10) rfl (by kernel_rfl) (fun _ _ _ h => h) (Or.inl ⟨by rfl, (fun u hu => by obtain ⟨k0, k1⟩ := hu; go_simp; try rfl)⟩) (HX1.out) (fun _ => trivial) ?_
            simp only [Act.put, List.setIfInBounds_toArray, List.set_cons_zero, List.set_cons_succ, List.getElem_toArray, List.getElem_cons_zero, List.getElem_cons_succ]
            refine wpAnyL_pure (i := 11) rfl (by kernel_rfl) (fun _ _ _ h => h) (Or.inl ⟨by rfl, (fun u hu => by obtain ⟨k0, k1⟩ := hu; go_simp; try rfl)⟩) (HX1.out) (fun _ => trivial) ?_
            simp only [Act.put, List.setIfInBounds_toArray, List.set_cons_zero, List.set_cons_succ, List.getElem_toArray, List.getElem_cons_zero, List.getElem_cons_succ]
            refine wpAnyL_ready (rs := [9]) (by kernel_rfl) (by simp) ?_
            refine AllL.cons rfl (fun K hK => ?_) ?_
            ·
             go_simp
             refine (mkReach M HM.out _ W (HINA.out.below (Below.refl _ _).drew) _ _ (n1 - (i + 1)) (c1 - (i + 1)) (rhs.drop (i + 1)) (HSL2.out.drew) (by omega) (fun s hs => HSY.out s (List.mem_of_mem_drop hs)) p hpn).mono ?_
             rintro e wB ⟨⟨bC, rfl, hbC, hblC⟩, hbAB⟩
             have hbAB : Below wA.heap.size wA wB := ((Below.refl _ _).drew).trans hbAB
             have HY1 := Lib.hid (And.intro ((hbAB.cell (p := ⟨w3.heap.size, 1, none⟩) (cell_lt HX1.out.1)).trans HX1.out.1) ((hbAB.cell (p := ⟨w.heap.size, 2, none⟩) (cell_lt HX1.out.2)).trans HX1.out.2))
             have HSY1 := Lib.hid ((hbAB.cell (p := ⟨w5.heap.size, 1, none⟩) (cell_lt HSB1.out)).trans HSB1.out)
             obtain ⟨b2, hb2, hcb2, _⟩ := hblC.at_ HLEN2.out
             have HB2D := Lib.hid (HNA.out b2 hb2)
             have HBAB := Lib.hid hbAB
             clear hblC hbAB hbC hb2
             refine hK.out _ _ (HY1.out) (fun _ => trivial) ?_
             clear hK K
             refine wpAnyL_pure (i := 12) rfl (by kernel_rfl) (fun _ _ _ h => h) (Or.inl ⟨by rfl, (fun u hu => by obtain ⟨k0, k1⟩ := hu; go_simp; try rfl)⟩) (HY1.out) (fun _ => trivial) ?_
             simp only [Act.put, List.setIfInBounds_toArray, List.set_cons_zero, List.set_cons_succ, List.getElem_toArray, List.getElem_cons_zero, List.getElem_cons_succ]
             refine wpAnyL_ready (rs := [13]) (by kernel_rfl) (by simp) ?_
             refine AllL.cons rfl (fun K hK => ?_) ?_
             ·
              go_simp
              refine hK.out _ _ (HY1.out) (fun _ => trivial) ?_
              clear hK K
              refine wpAnyL_pure (i := 14) rfl (by kernel_rfl) (fun _ _ _ h => h) (Or.inl ⟨by rfl, (fun u hu => by obtain ⟨k0, k1⟩ := hu; go_simp; try rfl)⟩) (HY1.out) (fun _ => trivial) ?_
              simp only [Act.put, List.setIfInBounds_toArray, List.set_cons_zero, List.set_cons_succ, List.getElem_toArray, List.getElem_cons_zero, List.getElem_cons_succ]
              refine wpAnyL_done (by kernel_rfl) ?_ _
              cases b2 with
              | false =>
               have HNX := Lib.hid (show NInv M W (tq, ta, tp) L k i q (xs.take (j + 1)) from by
                rw [HTK.out]
                refine HSA.out.inv.pass fun x hx => ?_
                have h1 := hx.eq HRS.out HLS.out
                rw [h1] at hx
                have := HB2D.out.2 hx
                cases this)
               have HMB := Lib.hid (HSA.out.map.below HBAB.out)
               have HOB := Lib.hid (Only.of_below HBAB.out (Nat.le_refl _) (fun b => b = w.heap.size + 1))
               clear hcb2
               go_wp2_with fail
               go_roundg (m - (j + 1))
               case measure => rw [HG4.out]; omega
               case rel => exact ⟨j + 1, L, by omega, rfl, by go_num, ⟨HMB.out, HNX.out, HSA.out.only.trans HOB.out⟩, HOA.out.trans HOB.out⟩
              | true =>
               have HNX := Lib.hid (show NInv M W (tq, ta, tp) (insT L (q, xn, p)) k i q (xs.take (j + 1)) from by
                rw [HTK.out]
                exact HSA.out.inv.add (HB2D.out.1 (by trivial)))
               have HMB := Lib.hid (HSA.out.map.below HBAB.out)
               have HOB := Lib.hid (Only.of_below HBAB.out (Nat.le_refl _) (fun b => b = w.heap.size + 1))
               have hfew := HSA.out.inv.few HM.out HT.out.1 HSA.out.map.nodup
               have HLM := Lib.hid (show (L.map fun t => (triZ t, Value.bool true)).length < maxLen by rw [List.length_map]; unfold maxLen; omega)
               have hsb1 := HSY1.out
               have HKO := Lib.hid (triOk q xn p (by omega) (by omega) (by omega))
               clear hcb2
               go_wp2_with (at_mapUpdate; refine wpList_amap_put _ rfl _ _ _ 104 rfl 4 mapTri (w.heap.size + 1) _ rfl HMB.out.map (triZ (q, xn, p)) rfl HKO.out (.bool true) rfl HLM.out ?_; intro wC hmC hgC; rw [putL_ins HMB.out.nodup] at hmC; have HMC := Lib.hid hmC; have HGC := Lib.hid hgC; clear hmC hgC)
               have HOC := Lib.hid (show Only wA wC (fun b => b = w.heap.size + 1) from HOB.out.trans (Only.of_grown HGC.out fun b e => by injection e with e; exact e.symm))
               go_roundg (m - (j + 1))
               case measure => rw [HG4.out]; omega
               case rel => exact ⟨j + 1, insT L (q, xn, p), by omega, rfl, by go_num, ⟨⟨HMC.out, insT_nodup HMB.out.nodup _⟩, HNX.out, HSA.out.only.trans HOC.out⟩, HOA.out.trans HOC.out⟩
             exact AllL.nil
            exact AllL.nil
          ·
           obtain rfl : m = j := by omega
           go_wp2_with fail
           go_roundg (M.n - (q + 1))
           case measure => rw [HG3.out]; omega
           case rel =>
            refine ⟨q + 1, L, by omega, rfl, by go_num, ⟨HSA.out.map, HSA.out.inv.nextQ fun x p hx => ?_, HSA.out.only⟩, HO9.out.trans HOA.out⟩
            obtain ⟨r, c, h1, _, h3, _, _, h5, _⟩ := hx
            rw [HRS.out] at h1
            injection h1 with h1
            subst h1
            rw [HLS.out] at h3
            injection h3 with h3
            injection h3 with _ h3
            rw [← h3, ← HXS.out] at h5
            rw [List.take_of_length_le (by rw [HMX.out]; exact Nat.le_refl _)]
            exact h5
        ·
         obtain rfl : M.n = q := by omega
         go_wp2_with fail
         go_roundg (n1 - (i + 1))
         case measure => rw [HG2.out]; omega
         case rel =>
          refine ⟨i + 1, L, by omega, rfl, by go_num, ⟨HS8.out.map, HS8.out.inv.nextI fun x q' p hx => ?_, HS8.out.only⟩, HO7.out.trans HO8.out⟩
          obtain ⟨r, c, h1, _, _, _, h4, _⟩ := hx
          rw [HRS.out] at h1
          injection h1 with h1
          subst h1
          have h5 := h4.lt HM.out.val (fun s hs => (HSY.out s (List.mem_of_mem_take hs)).1) (by rw [← HN.out]; exact ht1)
          rw [HN.out]
          exact h5
     ·
      obtain rfl : n1 = i := by omega
      go_wp2_with fail
      go_roundg (M.nR - (k + 1))
      case measure => rw [HG1.out]; omega
      case rel =>
       refine ⟨k + 1, L, by omega, rfl, by go_num, HS5.out.map, HS5.out.inv.nextK fun x i' q' p hx => ?_, HS5.out.only⟩
       obtain ⟨r, c, h1, _, h3, _⟩ := hx
       rw [HRS.out] at h1
       injection h1 with h1
       subst h1
       rw [HNL.out]
       exact (List.getElem?_eq_some_iff.1 h3).1
   ·
    have hne : ((an : Int) != (ta : Int)) = true := by simpa using hat
    have heq : ((an : Int) == (ta : Int)) = false := by simpa using hat
    have HNX := Lib.hid (HS4.out.inv.nextK fun x i' q' p hx => by
     obtain ⟨r, c, h1, h2, _⟩ := hx
     rw [HRS.out] at h1
     injection h1 with h1
     subst h1
     exact absurd h2 hat)
    clear hat
    go_wp2_with fail
    rw [← HW4.out]
    go_roundg (M.nR - (k + 1))
    case measure => rw [HG1.out]; omega
    case rel => exact ⟨k + 1, L, by omega, rfl, by go_num, HS4.out.map, HNX.out, HS4.out.only⟩
  ·
   obtain rfl : M.nR = k := by omega
   go_wp2_with fail
   go_ret
   have h1 := HS3.out.inv
   rw [HNR.out] at h1
   exact ⟨⟨w.heap.size + 1, L, rfl, by omega, HS3.out.map, h1.all, h1.rng HM.out HT.out.1⟩, HB2.out.trans (HS3.out.only.below (fun b e => by omega) HB2.out.size)⟩
end Go.Proofs.Ytbmcoamdfpegnaa
