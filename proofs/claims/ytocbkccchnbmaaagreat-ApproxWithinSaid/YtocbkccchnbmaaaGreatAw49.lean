/- MkVoid2 -/
import Derived.IntWalk
import Derived.Laws.EntriesVeiled
import Derived.Test.YtocbkccchnbmaaaGreatAw07
import Derived.Test.YtocbkccchnbmaaaGreatAw33
import Derived.Test.YtocbkccchnbmaaaGreatAw48
namespace Go.Proofs.YtocbkccchnbmaaaGreat
open Go.RowKit Go.Maps
theorem mapTriI : Tryz.prog.underlying 138 = some (.map 141 3) := by kernel_rfl
theorem zeroIM (u : World) : (zeroValue 3).run Tryz.prog u = .ok (.int .i64 0) u := by
 have := tInts.info
 obtain ⟨i, hi, hz0, _, _⟩ := info_parts this
 simp [zeroValue, typeInfo, hi, hz0]
theorem results_cell_tmp2 {fn : Func} {p u v : Tmp} {ty : TypeId} (h : fn.results = #[.cell p ty, .tmp u, .tmp v]) (tmps : Array Value) (P : Program) (w : World) :
    (results fn tmps).run P w =
     ((asAddr (tmps.getD p undef)).run P w).andThen fun a w₁ => ((loadVar ty a).run P w₁).andThen fun x w₂ => .ok (.tuple #[x, tmps.getD u undef, tmps.getD v undef]) w₂ := by
 simp only [results, h]
 simp [Sem.run_bind, Result.andThen]
theorem six_set {w : World} {K : Nat} {t : TypeId} {a0 a1 a2 a3 a4 a5 : Value} (h : w.heap[K]? = some (.cells #[a0, a1, a2, a3, a4, a5] t (0, 0))) (u0 u1 u2 u3 u4 u5 : Value) :
    ((((((w.setCell ⟨K, 0, none⟩ u0).setCell ⟨K, 1, none⟩ u1).setCell ⟨K, 2, none⟩ u2).setCell ⟨K, 3, none⟩ u3).setCell ⟨K, 4, none⟩ u4).setCell ⟨K, 5, none⟩ u5).heap[K]? = some (.cells #[u0, u1, u2, u3, u4, u5] t (0, 0)) ∧
    Only w ((((((w.setCell ⟨K, 0, none⟩ u0).setCell ⟨K, 1, none⟩ u1).setCell ⟨K, 2, none⟩ u2).setCell ⟨K, 3, none⟩ u3).setCell ⟨K, 4, none⟩ u4).setCell ⟨K, 5, none⟩ u5) (fun b => b = K) := by
 have h0 := blk_set h 0 u0
 have h1 := blk_set h0 1 u1
 have h2 := blk_set h1 2 u2
 have h3 := blk_set h2 3 u3
 have h4 := blk_set h3 4 u4
 have h5 := blk_set h4 5 u5
 refine ⟨by simpa using h5, ?_⟩
 have hX : ∀ (v : World) (o : Nat) (u : Value), Only v (v.setCell ⟨K, o, none⟩ u) (fun b => b = K) := fun v o u => Only.set _ _ _ _ rfl
 exact (hX _ _ _).trans ((hX _ _ _).trans ((hX _ _ _).trans ((hX _ _ _).trans ((hX _ _ _).trans (hX _ _ _)))))
theorem six_cells {w : World} {K : Nat} {t : TypeId} {a0 a1 a2 a3 a4 a5 : Value} (h : w.heap[K]? = some (.cells #[a0, a1, a2, a3, a4, a5] t (0, 0))) :
    w.cell? ⟨K, 0, none⟩ = some a0 ∧ w.cell? ⟨K, 1, none⟩ = some a1 ∧ w.cell? ⟨K, 2, none⟩ = some a2 ∧ w.cell? ⟨K, 3, none⟩ = some a3 ∧ w.cell? ⟨K, 4, none⟩ = some a4 ∧ w.cell? ⟨K, 5, none⟩ = some a5 :=
 ⟨by simp [World.cell?, h], by simp [World.cell?, h], by simp [World.cell?, h], by simp [World.cell?, h], by simp [World.cell?, h], by simp [World.cell?, h]⟩
set_option linter.unusedSimpArgs false in
set_option maxRecDepth 100000 in
set_option maxHeartbeats 8000000 in
theorem mkProduct0 (M : Mkr) (hM : M.Ok) (w : World) (W : List TriD) (h : M.In w W) (hv : Void M W) : Calls Tryz.prog 45 #[.pointer (some ⟨M.Bm, 0, none⟩)] w fun e w' => (∃ B m : Nat, e = .returned (.tuple #[.agg #[.int .i64 (M.T : Int), .int .i64 1, .int .i64 0, .slice none 0 0, .slice (some ⟨B, 0, none⟩) 1 1, .slice none 0 0], .map (some m), .int .i64 0])) ∧ Below w.heap.size w w' := by
 have hn12 := hM.n12
 have hN10 : M.N ≤ 10 := by have := hM.g.n2; simp only at this; omega
 have hstN : M.st < M.N := by have := hM.g.st; simp only at this; omega
 have hst := hM.val.st
 have hdst : ((M.d.1.toNat : Nat) : Int) = M.d.1 := by omega
 have hdl : M.d.1.toNat < M.n := by rw [hM.n]; omega
 obtain ⟨K, hK⟩ : ∃ K, K = w.heap.size := ⟨_, rfl⟩
 obtain ⟨w1, hw1⟩ : ∃ w1 : World, w1 = w.alloc (.cells #[.int .i64 0, .int .i64 0, .int .i64 0, .slice none 0 0, .slice none 0 0, .slice none 0 0] 75) := ⟨_, rfl⟩
 have hb1 : Below K w w1 := by rw [hw1, hK]; exact (Below.refl _ _).alloc (Nat.le_refl _) _
 have HI1 := Lib.hid (h.below (by rw [← hK]; exact hb1))
 have HZ1 := Lib.hid (show w1.heap.size = K + 1 by rw [hw1]; simp [hK])
 have HR1 := Lib.hid (show w1.heap[K]? = some (.cells #[.int .i64 0, .int .i64 0, .int .i64 0, .slice none 0 0, .slice none 0 0, .slice none 0 0] 75 (0, 0)) by rw [hw1, hK]; exact heap_alloc_new _ _)
 have HB1 := Lib.hid hb1
 have HW1 := Lib.hid hw1
 have HK := Lib.hid hK
 have HM := Lib.hid hM
 have HV := Lib.hid hv
 have HDS := Lib.hid hdst
 have hmm := @run_makeMap Tryz.prog
 clear h hM hw1 hK hb1 hv hst hdst
 go_enter Tryz.func45, Tryz.ntmps45
 go_wp2_with (go_at_call 72; rw [← HW1.out]; refine (mkNeeded0 M HM.out w1 W HI1.out HV.out).mono ?_; rintro e w2 ⟨rfl, hb12⟩; have HB12 := Lib.hid hb12; clear hb12)
 obtain ⟨Bn, hBn⟩ : ∃ Bn, Bn = w2.heap.size := ⟨_, rfl⟩
 rw [← hBn]
 obtain ⟨w3, hw3⟩ : ∃ w3 : World, w3 = (w2.alloc (.map #[] 0)).alloc (.cells #[.map (some Bn)] 138) := ⟨_, rfl⟩
 have z3 : w3.heap.size = Bn + 1 + 1 := by rw [hw3]; simp [hBn]
 obtain ⟨w4, hw4⟩ : ∃ w4 : World, w4 = w3.alloc (.cells #[.int .i64 (-1), .int .i64 (-1), .int .i64 (-1)] 139) := ⟨_, rfl⟩
 have z4 : w4.heap.size = Bn + 1 + 1 + 1 := by rw [hw4]; simp [z3]
 obtain ⟨w5, hw5⟩ : ∃ w5 : World, w5 = w4.alloc (.cells #[.int .i64 0, .int .i64 0, .int .i64 0, .slice none 0 0, .slice (some ⟨Bn + 1 + 1, 0, none⟩) 1 1, .slice none 0 0] 75) := ⟨_, rfl⟩
 rw [← hw3, ← hw4, ← hw5]
 have b25 : Below w2.heap.size w2 w5 := by rw [hw5, hw4, hw3]; exact ((((Below.refl _ _).alloc (Nat.le_refl _) _).alloc (by simp) _).alloc (by rw [← hw3, z3]; omega) _).alloc (by rw [← hw3, ← hw4, z4]; omega) _
 have HMN := Lib.hid (show AMap KTri w5 Bn [] by
  rw [hBn, hw5, hw4, hw3]
  exact (((AMap.made KTri w2).alloc _).alloc _).alloc _)
 have HBM := Lib.hid (show w5.heap[Bn + 1]? = some (.cells #[.map (some Bn)] 138 (0, 0)) by
  rw [hw5, Below.heap_alloc _ _ _ (by omega), hw4, Below.heap_alloc _ _ _ (by omega), hw3, show Bn + 1 = (w2.alloc (.map #[] 0)).heap.size by simp [hBn]]
  exact heap_alloc_new _ _)
 have HBO := Lib.hid (show w5.heap[Bn + 1 + 1 + 1]? = some (.cells #[.int .i64 0, .int .i64 0, .int .i64 0, .slice none 0 0, .slice (some ⟨Bn + 1 + 1, 0, none⟩) 1 1, .slice none 0 0] 75 (0, 0)) by
  rw [hw5, ← z4]
  exact heap_alloc_new _ _)
 have HB15 := Lib.hid (show Below (K + 1) w1 w5 from (by have h1 := HB12.out.trans (b25.mono HB12.out.size); rw [HZ1.out] at h1; exact h1))
 have HKB := Lib.hid (show K + 1 ≤ Bn by have := HB12.out.size; have := HZ1.out; omega)
 have HIN5 := Lib.hid (HI1.out.below (by rw [HZ1.out]; exact HB15.out))
 have HBX5 := Lib.hid ((HB15.out.block _ (by omega)).trans HR1.out)
 have HZ5 := Lib.hid (show w5.heap.size = Bn + 1 + 1 + 1 + 1 by rw [hw5]; simp [z4])
 have HBN := Lib.hid hBn
 clear hBn hw3 hw4 hw5 z3 z4 b25 hmm w3 w4
 go_loopg [28] 0 (fun gi v28 wr => gi = 0 ∧ v28 = .int .i64 0 ∧ Below w5.heap.size w5 wr)
 case atStart => exact ⟨rfl, rfl, Below.refl _ _⟩
 case round =>
  obtain ⟨_, rfl, hb56⟩ := hrel
  obtain ⟨w6, rfl⟩ : ∃ w6 : World, w6 = wr := ⟨_, rfl⟩
  obtain ⟨AA, hAA⟩ : ∃ AA, AA = M.A := ⟨_, rfl⟩
  have HAA := Lib.hid hAA
  have hmm := @run_makeMap Tryz.prog
  obtain ⟨Bq, hBq⟩ : ∃ Bq, Bq = w6.heap.size := ⟨_, rfl⟩
  obtain ⟨w7, hw7⟩ : ∃ w7 : World, w7 = ((w6.alloc (.map #[] 0)).alloc (.cells #[.map (some Bq)] 101)).alloc (.cells #[.func (.func 73) #[] #[.pointer (some ⟨Bn + 1 + 1 + 1, 0, none⟩)]] 142) := ⟨_, rfl⟩
  have b67 : Below w6.heap.size w6 w7 := by rw [hw7]; exact (((Below.refl _ _).alloc (Nat.le_refl _) _).alloc (by simp) _).alloc (by simp; omega) _
  have b57 : Below w5.heap.size w5 w7 := hb56.trans (b67.mono hb56.size)
  have HBK := Lib.hid (show w7.heap[Bq + 1]? = some (.cells #[.map (some Bq)] 101 (0, 0)) by
   rw [hw7, Below.heap_alloc _ _ _ (by simp; omega), show Bq + 1 = (w6.alloc (.map #[] 0)).heap.size by simp [hBq]]
   exact heap_alloc_new _ _)
  have HB57 := Lib.hid b57
  have HW7 := Lib.hid (show w7 = ((w6.alloc (.map #[] 0)).alloc (.cells #[.map (some w6.heap.size)] 101)).alloc (.cells #[.func (.func 73) #[] #[.pointer (some ⟨Bn + 1 + 1 + 1, 0, none⟩)]] 142) by rw [hw7, hBq])
  have ka := (HIN5.out.below b57).cells.2.2.2.2.2.1
  rw [← hAA, hw7, hBq] at ka
  have HBQ := Lib.hid hBq
  have HQS := Lib.hid (show w5.heap.size ≤ Bq by rw [hBq]; exact hb56.size)
  clear hAA hBq hw7 b67 b57 hb56
  go_wp2_with fail
  rw [← HW7.out, ← HBQ.out]
  clear ka hmm
  have HALL := Lib.hid (show ∀ u : World, Below w7.heap.size w7 u → Below w5.heap.size w5 u from fun u hu => HB57.out.trans (hu.mono HB57.out.size))
  have HDD := Lib.hid (show M.d.1 = ((M.d.1.toNat : Nat) : Int) from HDS.out.symm)
  obtain ⟨dn, hdn⟩ : ∃ dn, dn = M.d.1.toNat := ⟨_, rfl⟩
  rw [← hdn] at hdl HDD
  have HDN := Lib.hid hdn
  clear hdn HB57
  go_loopg [58] M.n (fun gk v58 wr => ∃ k : Nat, k ≤ M.n ∧ gk = M.n - k ∧ v58 = .int .i64 k ∧ Below w7.heap.size w7 wr)
  case atStart => exact ⟨0, Nat.zero_le _, rfl, rfl, Below.refl _ _⟩
  case round =>
   obtain ⟨k, hk, hgk, rfl, hb8⟩ := hrel
   obtain ⟨w8, rfl⟩ : ∃ w8 : World, w8 = wr := ⟨_, rfl⟩
   have HGK := Lib.hid hgk
   have HB8 := Lib.hid hb8
   clear hgk hb8
   by_cases hkl : k < M.n
   ·
    have hkI : (k : Int) < (M.n : Int) := by omega
    have hk0 : (0 : Int) ≤ (k : Int) := by omega
    have HIN8 := Lib.hid (HIN5.out.below (HALL.out w8 HB8.out))
    have hac := HIN8.out.acc
    rw [← HAA.out] at hac
    obtain ⟨bA, oA, x, hA, _, hx, hcx⟩ := hac.ints.int_at hkl
    subst hA
    clear hac hx
    have k2 := HIN8.out.cells.2.2.1
    have k4 := HIN8.out.cells.2.2.2.2.1
    have hin9 := HIN8.out.below (w' := w8.alloc (.cells #[.int .i64 0, .int .i64 0, .int .i64 0] 141)) ((Below.refl _ _).alloc (Nat.le_refl _) _)
    have k2' := hin9.cells.2.2.1
    have k4' := hin9.cells.2.2.2.2.1
    rw [HDD.out] at k4 k4'
    clear hin9
    obtain ⟨w9, hw9⟩ : ∃ w9 : World, w9 = (w8.alloc (.cells #[.int .i64 (dn : Int), .int .i64 (M.st : Int), .int .i64 (k : Int)] 141)).drew := ⟨_, rfl⟩
    have hb89 : Below w8.heap.size w8 w9 := by rw [hw9]; exact ((Below.refl _ _).alloc (Nat.le_refl _) _).drew
    have hbt : w9.heap[w8.heap.size]? = some (.cells #[.int .i64 (dn : Int), .int .i64 (M.st : Int), .int .i64 (k : Int)] 141 (0, 0)) := by rw [hw9]; exact heap_alloc_new _ _
    have hb79 : Below w7.heap.size w7 w9 := HB8.out.trans (hb89.mono HB8.out.size)
    have hb59 := HALL.out w9 hb79
    have hlk : (Instr.lookup 138 (.map (some Bn)) (.agg #[.int .i64 (dn : Int), .int .i64 (M.st : Int), .int .i64 (k : Int)]) false).run Tryz.prog w9 = .ok (.int .i64 0) w9 :=
     AMap.look (w := w9) (HMN.out.below hb59) mapTriI zeroIM (triOk dn M.st k (by omega) (by omega) (by omega))
    obtain ⟨s0, s1, s2⟩ : w9.cell? ⟨w8.heap.size, 0, none⟩ = some (.int .i64 (dn : Int)) ∧ w9.cell? ⟨w8.heap.size, 1, none⟩ = some (.int .i64 (M.st : Int)) ∧ w9.cell? ⟨w8.heap.size, 2, none⟩ = some (.int .i64 (k : Int)) := ⟨by simp [World.cell?, hbt], by simp [World.cell?, hbt], by simp [World.cell?, hbt]⟩
    have hbm9 := (hb59.block _ (heap_lt HBM.out)).trans HBM.out
    have kb : w9.cell? ⟨Bn + 1, 0, none⟩ = some (.map (some Bn)) := by simp [World.cell?, hbm9]
    have HB79 := Lib.hid hb79
    have HW9 := Lib.hid hw9
    clear hw9 hb89 hbt hb79 hb59 hbm9
    go_wp2_with fail
    go_region
    rw [← HW9.out]
    clear k2 k4 k2' k4' hcx
    by_cases hx0 : 0 ≤ x
    ·
     have hd0 : decide ((0 : Int) ≤ x) = true := by simpa using hx0
     go_wp2_with fail
     go_roundg (M.n - (k + 1))
     case measure => rw [HGK.out]; omega
     case rel => exact ⟨k + 1, by omega, rfl, by go_num, HB79.out⟩
    ·
     have hd0 : decide ((0 : Int) ≤ x) = false := by simpa using hx0
     go_wp2_with fail
     go_roundg (M.n - (k + 1))
     case measure => rw [HGK.out]; omega
     case rel => exact ⟨k + 1, by omega, rfl, by go_num, HB79.out⟩
   ·
    obtain rfl : M.n = k := by omega
    go_wp2_with fail
    go_loopg [98] 0 (fun gi v98 wr => gi = 0 ∧ v98 = .int .i64 0 ∧ Below w7.heap.size w7 wr)
    case atStart => exact ⟨rfl, rfl, HB8.out⟩
    case round =>
     obtain ⟨_, rfl, hb79⟩ := hrel
     obtain ⟨w9, rfl⟩ : ∃ w9 : World, w9 = wr := ⟨_, rfl⟩
     clear HB8
     have HB79 := Lib.hid hb79
     have hb59 := HALL.out w9 hb79
     have q0 := (HIN5.out.below hb59).cells.1
     have hob := (hb59.block _ (heap_lt HBO.out)).trans HBO.out
     have HOB := Lib.hid hob
     have HB59 := Lib.hid hb59
     obtain ⟨v0, v1, _, _, v4, _⟩ := six_cells hob
     have hfz : ∀ o, w9.frozen? ⟨Bn + 1 + 1 + 1, o, none⟩ = false := fun o => by simp [World.frozen?, hob]
     have hblt := heap_lt hob
     clear hob hb59 hb79
     go_wp2_with fail
     go_region
     obtain ⟨w10, hw10⟩ : ∃ w10 : World, w10 = ((w9.setCell ⟨Bn + 1 + 1 + 1, 0, none⟩ (.int .i64 (M.T : Int))).setCell ⟨Bn + 1 + 1 + 1, 1, none⟩ (.int .i64 1)).drew := ⟨_, rfl⟩
     rw [← hw10]
     have ho10 : Only w9 w10 (fun b => b = Bn + 1 + 1 + 1) := by
      have hS : ∀ (v : World) (o : Nat) (u : Value), Only v (v.setCell ⟨Bn + 1 + 1 + 1, o, none⟩ u) (fun b => b = Bn + 1 + 1 + 1) := fun v o u => Only.set _ _ _ _ rfl
      rw [hw10]
      exact (hS _ _ _).trans ((hS _ _ _).trans (.drew _ _))
     have hob10 : w10.heap[Bn + 1 + 1 + 1]? = some (.cells #[.int .i64 (M.T : Int), .int .i64 1, .int .i64 0, .slice none 0 0, .slice (some ⟨Bn + 1 + 1, 0, none⟩) 1 1, .slice none 0 0] 75 (0, 0)) := by
      have h1 := blk_set (blk_set HOB.out 0 (.int .i64 (M.T : Int))) 1 (.int .i64 1)
      rw [hw10]
      show ((w9.setCell ⟨Bn + 1 + 1 + 1, 0, none⟩ (.int .i64 (M.T : Int))).setCell ⟨Bn + 1 + 1 + 1, 1, none⟩ (.int .i64 1)).heap[Bn + 1 + 1 + 1]? = _
      simpa using h1
     have hkb := HKB.out
     have hz5 := HZ5.out
     have hqs := HQS.out
     have hb57z := HB79.out.size
     have hbx9 := (HB59.out.block _ (heap_lt HBX5.out)).trans HBX5.out
     have hbx10 := (ho10.block _ (heap_lt hbx9) (by omega)).trans hbx9
     have hbk9 := (HB79.out.block _ (heap_lt HBK.out)).trans HBK.out
     have hbk10 := (ho10.block _ (heap_lt hbk9) (by omega)).trans hbk9
     have HBX10 := Lib.hid hbx10
     have HO10 := Lib.hid ho10
     obtain ⟨y0, y1, y2, y3, y4, y5⟩ := six_cells hob10
     obtain ⟨x0, x1, x2, x3, x4, x5⟩ := six_cells hbx10
     have hfz : ∀ o, w10.frozen? ⟨K, o, none⟩ = false := fun o => by simp [World.frozen?, hbx10]
     have yk : w10.cell? ⟨Bq + 1, 0, none⟩ = some (.map (some Bq)) := by simp [World.cell?, hbk10]
     have hne : Bq + 1 ≠ K := by omega
     have hne2 : Bn + 1 + 1 + 1 ≠ K := by omega
     have hxlt := heap_lt hbx10
     rw [← HK.out]
     clear hob10 hbx10 hbk10 hbx9 hbk9 ho10 hw10 q0 v0 v1 v4
     go_wp2_with fail
     go_region
     obtain ⟨hb11, ho11⟩ := six_set HBX10.out (.int .i64 (M.T : Int)) (.int .i64 1) (.int .i64 0) (.slice none 0 0) (.slice (some ⟨Bn + 1 + 1, 0, none⟩) 1 1) (.slice none 0 0)
     obtain ⟨w11, hw11⟩ : ∃ w11 : World, w11 = ((((((w10.setCell ⟨K, 0, none⟩ (.int .i64 (M.T : Int))).setCell ⟨K, 1, none⟩ (.int .i64 1)).setCell ⟨K, 2, none⟩ (.int .i64 0)).setCell ⟨K, 3, none⟩ (.slice none 0 0)).setCell ⟨K, 4, none⟩ (.slice (some ⟨Bn + 1 + 1, 0, none⟩) 1 1)).setCell ⟨K, 5, none⟩ (.slice none 0 0)) := ⟨_, rfl⟩
     rw [← hw11] at hb11 ho11 ⊢
     have hB : Below K w w11.drew := by
      have h1 : Only w5 w9 (fun _ => False) := .of_below HB59.out (Nat.le_refl _) _
      have h2 : Only w5 w11.drew (fun b => b = Bn + 1 + 1 + 1 ∨ b = K) := (h1.more fun _ _ h => h.elim).trans ((HO10.out.more fun b _ h => .inl h).trans ((ho11.more fun b _ h => .inr h).trans (.drew _ _)))
      exact HB1.out.trans ((HB15.out.mono (Nat.le_succ K)).trans (h2.below (B := K) (fun b e => by omega) (by omega)))
     obtain ⟨v0, v1, v2, v3, v4, v5⟩ := six_cells hb11
     have HBB := Lib.hid hB
     clear hB hw11 y0 y1 y2 y3 y4 y5 x0 x1 x2 x3 x4 x5 hfz yk hne hb11 ho11
     go_wp2_with fail
     refine Go.bodyPost_ret (v := .tuple #[.agg #[.int .i64 (M.T : Int), .int .i64 1, .int .i64 0, .slice none 0 0, .slice (some ⟨Bn + 1 + 1, 0, none⟩) 1 1, .slice none 0 0], .map (some Bq), .int .i64 0]) ?_ rfl ⟨⟨_, _, rfl⟩, by rw [← HK.out]; exact HBB.out⟩
     rw [results_cell_tmp2 rfl]
     go_simp
end Go.Proofs.YtocbkccchnbmaaaGreat
