/- ApproxHolds -/
import Derived.BigQuiet
import Derived.Test.YtgaahpddlohjoaaAh27
import Derived.Test.YtgaahpddlohjoaaAh50
import Derived.Test.YtgaahpddlohjoaaAh52
import Derived.Test.YtgaahpddlohjoaaAh53
namespace Go.Proofs.Ytgaahpddlohjoaa
open Go.RowKit Go.Maps
theorem step_callsW {P : Program} {o : Oper} {a : Act} {w : World} {K : Act → World → Prop} {ops : Array Oper} {Q : Exit → Act → World → Prop} {R : Ending → World → Prop} (F : FuncId) (args : Array Value) (hw : Region.wanted o (yielded ops a.tmps) = true) (hrun : (execOp a.eval o).run P w = .ok (.enter F args) w) (hc : Calls P F args w R)
    (hK : ∀ e w', R e w' → ∃ v, e = .returned v ∧ K (a.put o.dst v) w') : if Region.wanted o (yielded ops a.tmps) = true then Oper.wp P o a w K Q else K (a.put o.dst undef) w := by
 rw [if_pos hw]
 unfold Oper.wp
 rw [hrun]
 refine Calls.mono hc fun e w' he => ?_
 obtain ⟨v, rfl, h⟩ := hK e w' he
 exact h
theorem accCanon {w : World} {S Sw : Nat → Prop} {A NN Aw : Option Addr} {n c m c' nw cw : Nat} {d : DfaD} {l : List Int} (hv : Valid d) (hA : Sl Rep.int w S A n c (canonD d).2.1) (hN : Sl RI w S NN m c' (canonD d).2.2) (hw : Sl Rep.int w Sw Aw nw cw l) (hl : nw ≤ 4000) (hx : ∀ x ∈ l, 0 ≤ x ∧ x < cols (canonD d)) :
    Calls Try.prog 17 #[.agg #[.int .i64 0, .slice A n c, .slice NN m c'], .slice Aw nw cw] w fun e w' => e = .returned (.bool (daccept (canonD d) l)) ∧ Below w.heap.size w w' := by
 have h := keepAccepts w S A n c NN m c' (canonD d) hA hN (canon_valid hv) Sw Aw nw cw l hw hl hx
 rw [canon_start hv] at h
 exact h
set_option linter.unusedSimpArgs false in
set_option maxRecDepth 100000 in
set_option maxHeartbeats 20000000 in
theorem approxHolds_walk (W : World) (A0 : Option Addr) (n0 c0 : Nat) (z0 : List Int) (le0 : n0 ≤ c0) (cap0 : c0 ≤ 17592186043904) (rd0 : Rd W (fun _ => True) 1 A0 n0 (z0.map (Value.int .i64))) (_rg0 : ∀ z ∈ z0, -9223372036854775808 ≤ z ∧ z ≤ 9223372036854775807)
    (A1 : Option Addr) (n1 c1 : Nat) (z1 : List Int) (le1 : n1 ≤ c1) (cap1 : c1 ≤ 17592186043904) (rd1 : Rd W (fun _ => True) 1 A1 n1 (z1.map (Value.int .i64))) (_rg1 : ∀ z ∈ z1, -9223372036854775808 ≤ z ∧ z ≤ 9223372036854775807) :
    Calls Try.prog 6 #[.slice A0 n0 c0, .slice A1 n1 c1] W fun e W' => e = .returned (.bool true) ∧ Below W.heap.size W W' := by
 have HR0 := Lib.hid (rd0.slInts le0)
 have HR1 := Lib.hid (rd1.slInts le1).fit
 clear rd0 _rg0 rd1 _rg1
 go_enter Try.func6, Try.ntmps6
 go_wp2_with fail
 refine (makeGrammar _ _ _ _ _ z0 HR0.out (by omega)).mono ?_
 rintro e w1 ⟨⟨Tm, Nn, st, R⟩, AR, cR, hv, hsm, rfl, hg, hb1⟩
 obtain ⟨T, rfl⟩ : ∃ T : Nat, Tm = (T : Int) := ⟨Tm.toNat, by have := hv.t1; simp only at this; omega⟩
 obtain ⟨N, rfl⟩ : ∃ N : Nat, Nn = (N : Int) := ⟨Nn.toNat, by have := hv.n1; simp only at this; omega⟩
 obtain ⟨s0, rfl⟩ : ∃ s0 : Nat, st = (s0 : Int) := ⟨st.toNat, by have := hv.st; simp only at this; omega⟩
 have hs0 : s0 < N := by have := hv.st; simp only at this; omega
 dsimp only at hg ⊢
 obtain ⟨nR, hnR⟩ : ∃ nR, nR = R.length := ⟨_, rfl⟩
 rw [← hnR] at hg ⊢
 have HV := Lib.hid hv
 obtain ⟨w2, hw2⟩ : ∃ w2 : World, w2 = w1.alloc (.cells #[.int .i64 (T : Int), .int .i64 (N : Int), .int .i64 (s0 : Int), .slice AR nR cR] 52) := ⟨_, rfl⟩
 have hb12 : Below w1.heap.size w1 w2 := by rw [hw2]; exact (Below.refl _ _).alloc (Nat.le_refl _) _
 have HB2 := Lib.hid (hb1.trans (hb12.mono hb1.size))
 have HBG2 := Lib.hid (show w2.heap[w1.heap.size]? = some (.cells #[.int .i64 (T : Int), .int .i64 (N : Int), .int .i64 (s0 : Int), .slice AR nR cR] 52 (0, 0)) by rw [hw2]; exact heap_alloc_new _ _)
 have HG2 := Lib.hid (hg.below hb12)
 clear hv hsm hg hb1 hb12 hnR
 go_wp2_with fail
 rw [← hw2]
 clear hw2
 refine (keepPlain w2).mono ?_
 rintro e w3 ⟨AP, rfl, hp, hb3⟩
 have HP := Lib.hid hp
 have HB23 := Lib.hid hb3
 clear hp hb3
 go_wp2_with fail
 refine (apxOf w3 _ AP 2 2 plainG HP.out plain_valid).mono ?_
 rintro e w4 ⟨hr, hb4⟩
 obtain ⟨A4, n4, c4, N4, c4', rfl⟩ := apx_plain hr
 obtain ⟨w5, hw5⟩ : ∃ w5 : World, w5 = w4.alloc (.cells #[.int .i64 0, .slice A4 n4 c4, .slice N4 2 c4'] 25) := ⟨_, rfl⟩
 have hb45 : Below w4.heap.size w4 w5 := by rw [hw5]; exact (Below.refl _ _).alloc (Nat.le_refl _) _
 have HB25 := Lib.hid (HB23.out.trans ((hb4.mono HB23.out.size).trans (hb45.mono (Nat.le_trans HB23.out.size hb4.size))))
 have HBG5 := Lib.hid ((HB25.out.block _ (heap_lt HBG2.out)).trans HBG2.out)
 have HCG := Lib.hid (show ∀ u : World, u.heap[w1.heap.size]? = some (.cells #[.int .i64 (T : Int), .int .i64 (N : Int), .int .i64 (s0 : Int), .slice AR nR cR] 52 (0, 0)) → u.cell? ⟨w1.heap.size, 0, none⟩ = some (.int .i64 (T : Int)) ∧ u.cell? ⟨w1.heap.size, 1, none⟩ = some (.int .i64 (N : Int)) ∧ u.cell? ⟨w1.heap.size, 2, none⟩ = some (.int .i64 (s0 : Int)) ∧ u.cell? ⟨w1.heap.size, 3, none⟩ = some (.slice AR nR cR) from fun u h =>
  ⟨by simp [World.cell?, h], by simp [World.cell?, h], by simp [World.cell?, h], by simp [World.cell?, h]⟩)
 have HG5 := Lib.hid (HG2.out.below HB25.out)
 have HB5 := Lib.hid (HB2.out.trans (HB25.out.mono HB2.out.size))
 obtain ⟨g0, g1, g2, g3⟩ := HCG.out w5 HBG5.out
 rw [hw5] at g0 g1 g2 g3
 clear hr hb4 hb45
 go_wp2_with fail
 rw [← hw5]
 clear hw5 g0 g1 g2 g3
 refine (apxOf w5 _ AR nR cR ((T : Int), (N : Int), (s0 : Int), R) HG5.out HV.out).mono ?_
 rintro e w6 ⟨⟨cf, hcf, hr⟩, hb6⟩
 simp only [Int.toNat_natCast] at hcf hr
 have HCF := Lib.hid hcf
 have HB6 := Lib.hid (HB5.out.trans (hb6.mono HB5.out.size))
 have HBG6 := Lib.hid ((hb6.block _ (heap_lt HBG5.out)).trans HBG5.out)
 have HG6 := Lib.hid (HG5.out.below hb6)
 clear hcf hb6
 have hmk : ∀ (w7 : World), Below w6.heap.size w6 w7 → Calls Try.prog 31 #[.agg #[.int .i64 (T : Int), .int .i64 (N : Int), .int .i64 (s0 : Int), .slice AR nR cR], .slice A1 n1 c1] w7 fun e w' => TreeMade ((T : Int), (N : Int), (s0 : Int), R) w7.heap.size e w' ∧ Below w7.heap.size w7 w' := fun w7 hb => makeTree w7 _ _ AR nR cR ((T : Int), (N : Int), (s0 : Int), R) (HG6.out.below hb) HV.out A1 n1 c1 z1 (HR1.out.below (HB6.out.trans (hb.mono HB6.out.size))) (by omega)
 have HMK := Lib.hid hmk
 clear hmk
 rcases hr with ⟨rfl, _⟩ | ⟨accs, rows, ex, A, n, c, NN, m, c', rfl, hx, hex, hA, hN⟩
 ·
  obtain ⟨w7, hw7⟩ : ∃ w7 : World, w7 = w6.alloc (.cells #[.int .i64 0, .slice none 0 0, .slice none 0 0] 25) := ⟨_, rfl⟩
  have HB67 := Lib.hid (show Below w6.heap.size w6 w7 by rw [hw7]; exact (Below.refl _ _).alloc (Nat.le_refl _) _)
  obtain ⟨g0, g1, g2, g3⟩ := HCG.out w7 ((HB67.out.block _ (heap_lt HBG6.out)).trans HBG6.out)
  rw [hw7] at g0 g1 g2 g3
  go_wp2_with fail
  rw [← hw7]
  clear hw7 g0 g1 g2 g3
  refine (HMK.out w7 HB67.out).mono ?_
  rintro e w8 ⟨hmade, hb8⟩
  have HB8 := Lib.hid (HB6.out.trans ((HB67.out.mono HB6.out.size).trans (hb8.mono (Nat.le_trans HB6.out.size HB67.out.size))))
  clear hb8
  rcases hmade with rfl | ⟨t, A8, m8, c8, rfl, _, _, _⟩
  ·
   --@6
   go_wp2_with fail
   go_quiet (fail)
   go_wp2_with fail
   go_ret
   exact ⟨rfl, belowN (HB8.out.alloc HB8.out.size _) _⟩
  ·
   --@7
   go_wp2_with fail
   go_quiet (fail)
   go_wp2_with fail
   go_ret
   exact ⟨rfl, belowN (HB8.out.alloc HB8.out.size _) _⟩
 ·
  have HX := Lib.hid hx
  have HA := Lib.hid hA
  have HN := Lib.hid hN
  clear hx hex hA hN
  obtain ⟨w7, hw7⟩ : ∃ w7 : World, w7 = w6.alloc (.cells #[.int .i64 0, .slice A n c, .slice NN m c'] 25) := ⟨_, rfl⟩
  have HB67 := Lib.hid (show Below w6.heap.size w6 w7 by rw [hw7]; exact (Below.refl _ _).alloc (Nat.le_refl _) _)
  have HBD7 := Lib.hid (show w7.heap[w6.heap.size]? = some (.cells #[.int .i64 0, .slice A n c, .slice NN m c'] 25 (0, 0)) by rw [hw7]; exact heap_alloc_new _ _)
  obtain ⟨g0, g1, g2, g3⟩ := HCG.out w7 ((HB67.out.block _ (heap_lt HBG6.out)).trans HBG6.out)
  rw [hw7] at g0 g1 g2 g3
  go_wp2_with fail
  rw [← hw7]
  clear hw7 g0 g1 g2 g3
  refine (HMK.out w7 HB67.out).mono ?_
  rintro e w8 ⟨hmade, hb8⟩
  have HB78 := Lib.hid hb8
  have HB68 := Lib.hid (HB67.out.trans (hb8.mono HB67.out.size))
  have HB8 := Lib.hid (HB6.out.trans (HB68.out.mono HB6.out.size))
  clear hb8
  rcases hmade with rfl | ⟨t, A8, m8, c8, rfl, htv, hsl, hsz⟩
  ·
   --@9
   go_wp2_with fail
   go_quiet (fail)
   go_wp2_with fail
   go_ret
   exact ⟨rfl, belowN (HB8.out.alloc HB8.out.size _) _⟩
  ·
   have HTV := Lib.hid htv
   have HSL := Lib.hid hsl
   have hwl : (wordT t).length ≤ 60 := Nat.le_trans (wordOf_len _) hsz
   obtain ⟨w9, hw9⟩ : ∃ w9 : World, w9 = w8.alloc (.cells #[.int .i64 t.rule, .int .i64 t.term, .slice A8 m8 c8] 59) := ⟨_, rfl⟩
   have HB89 := Lib.hid (show Below w8.heap.size w8 w9 by rw [hw9]; exact (Below.refl _ _).alloc (Nat.le_refl _) _)
   have HBT9 := Lib.hid (show w9.heap[w8.heap.size]? = some (.cells #[.int .i64 t.rule, .int .i64 t.term, .slice A8 m8 c8] 59 (0, 0)) by rw [hw9]; exact heap_alloc_new _ _)
   have HBD9 := Lib.hid ((HB89.out.block _ (heap_lt ((HB78.out.block _ (heap_lt HBD7.out)).trans HBD7.out))).trans ((HB78.out.block _ (heap_lt HBD7.out)).trans HBD7.out))
   clear htv hsl
   go_upto_region 7 with fail
   rw [← hw9]
   clear hw9
   have HALL := Lib.hid (show ∀ u : World, Below w9.heap.size w9 u → (u.cell? ⟨w6.heap.size, 0, none⟩ = some (.int .i64 0) ∧ u.cell? ⟨w6.heap.size, 1, none⟩ = some (.slice A n c) ∧ u.cell? ⟨w6.heap.size, 2, none⟩ = some (.slice NN m c')) ∧ u.cell? ⟨w8.heap.size, 0, none⟩ = some (.int .i64 t.rule) ∧ u.cell? ⟨w8.heap.size, 1, none⟩ = some (.int .i64 t.term) ∧ u.cell? ⟨w8.heap.size, 2, none⟩ = some (.slice A8 m8 c8) from fun u hu => by
    have h1 := (hu.block _ (heap_lt HBD9.out)).trans HBD9.out
    have h2 := (hu.block _ (heap_lt HBT9.out)).trans HBT9.out
    refine ⟨⟨?_, ?_, ?_⟩, ?_, ?_, ?_⟩ <;> simp [World.cell?, h1, h2])
   have HDR := Lib.hid (Below.refl w9.heap.size w9).drew
   refine wp_region_late (late := []) (S1 := fun u => (u.cell? ⟨w6.heap.size, 0, none⟩ = some (.int .i64 0) ∧ u.cell? ⟨w6.heap.size, 1, none⟩ = some (.slice A n c) ∧ u.cell? ⟨w6.heap.size, 2, none⟩ = some (.slice NN m c')) ∧ u.cell? ⟨w8.heap.size, 0, none⟩ = some (.int .i64 t.rule) ∧ u.cell? ⟨w8.heap.size, 1, none⟩ = some (.int .i64 t.term) ∧ u.cell? ⟨w8.heap.size, 2, none⟩ = some (.slice A8 m8 c8)) (S := fun _ => True) (by kernel_rfl) ?_
   refine wpAnyL_pure (i := 0) rfl (by kernel_rfl) (fun _ _ _ h => h) (Or.inl ⟨by rfl, (fun u hu => by obtain ⟨⟨k0, k1, k2⟩, k3, k4, k5⟩ := hu; go_simp; try rfl)⟩) (HALL.out _ HDR.out) (fun _ => trivial) ?_
   simp only [Act.put, List.setIfInBounds_toArray, List.set_cons_zero, List.set_cons_succ, List.getElem_toArray, List.getElem_cons_zero, List.getElem_cons_succ]
   refine wpAnyL_pure (i := 1) rfl (by kernel_rfl) (fun _ _ _ h => h) (Or.inl ⟨by rfl, (fun u hu => by obtain ⟨⟨k0, k1, k2⟩, k3, k4, k5⟩ := hu; go_simp; try rfl)⟩) (HALL.out _ HDR.out) (fun _ => trivial) ?_
   simp only [Act.put, List.setIfInBounds_toArray, List.set_cons_zero, List.set_cons_succ, List.getElem_toArray, List.getElem_cons_zero, List.getElem_cons_succ]
   refine wpAnyL_pure (i := 2) rfl (by kernel_rfl) (fun _ _ _ h => h) (Or.inl ⟨by rfl, (fun u hu => by obtain ⟨⟨k0, k1, k2⟩, k3, k4, k5⟩ := hu; go_simp; try rfl)⟩) (HALL.out _ HDR.out) (fun _ => trivial) ?_
   simp only [Act.put, List.setIfInBounds_toArray, List.set_cons_zero, List.set_cons_succ, List.getElem_toArray, List.getElem_cons_zero, List.getElem_cons_succ]
   refine wpAnyL_pure (i := 3) rfl (by kernel_rfl) (fun _ _ _ h => h) (Or.inl ⟨by rfl, (fun u hu => by obtain ⟨⟨k0, k1, k2⟩, k3, k4, k5⟩ := hu; go_simp; try rfl)⟩) (HALL.out _ HDR.out) (fun _ => trivial) ?_
   simp only [Act.put, List.setIfInBounds_toArray, List.set_cons_zero, List.set_cons_succ, List.getElem_toArray, List.getElem_cons_zero, List.getElem_cons_succ]
   refine wpAnyL_pure (i := 4) rfl (by kernel_rfl) (fun _ _ _ h => h) (Or.inl ⟨by rfl, (fun u hu => by obtain ⟨⟨k0, k1, k2⟩, k3, k4, k5⟩ := hu; go_simp; try rfl)⟩) (HALL.out _ HDR.out) (fun _ => trivial) ?_
   simp only [Act.put, List.setIfInBounds_toArray, List.set_cons_zero, List.set_cons_succ, List.getElem_toArray, List.getElem_cons_zero, List.getElem_cons_succ]
   refine wpAnyL_pure (i := 5) rfl (by kernel_rfl) (fun _ _ _ h => h) (Or.inl ⟨by rfl, (fun u hu => by obtain ⟨⟨k0, k1, k2⟩, k3, k4, k5⟩ := hu; go_simp; try rfl)⟩) (HALL.out _ HDR.out) (fun _ => trivial) ?_
   simp only [Act.put, List.setIfInBounds_toArray, List.set_cons_zero, List.set_cons_succ, List.getElem_toArray, List.getElem_cons_zero, List.getElem_cons_succ]
   refine wpAnyL_pure (i := 6) rfl (by kernel_rfl) (fun _ _ _ h => h) (Or.inl ⟨by rfl, (fun u hu => by obtain ⟨⟨k0, k1, k2⟩, k3, k4, k5⟩ := hu; go_simp; try rfl)⟩) (HALL.out _ HDR.out) (fun _ => trivial) ?_
   simp only [Act.put, List.setIfInBounds_toArray, List.set_cons_zero, List.set_cons_succ, List.getElem_toArray, List.getElem_cons_zero, List.getElem_cons_succ]
   refine wpAnyL_pure (i := 7) rfl (by kernel_rfl) (fun _ _ _ h => h) (Or.inl ⟨by rfl, (fun u hu => by obtain ⟨⟨k0, k1, k2⟩, k3, k4, k5⟩ := hu; go_simp; try rfl)⟩) (HALL.out _ HDR.out) (fun _ => trivial) ?_
   simp only [Act.put, List.setIfInBounds_toArray, List.set_cons_zero, List.set_cons_succ, List.getElem_toArray, List.getElem_cons_zero, List.getElem_cons_succ]
   refine wpAnyL_pure (i := 8) rfl (by kernel_rfl) (fun _ _ _ h => h) (Or.inl ⟨by rfl, (fun u hu => by obtain ⟨⟨k0, k1, k2⟩, k3, k4, k5⟩ := hu; go_simp; try rfl)⟩) (HALL.out _ HDR.out) (fun _ => trivial) ?_
   simp only [Act.put, List.setIfInBounds_toArray, List.set_cons_zero, List.set_cons_succ, List.getElem_toArray, List.getElem_cons_zero, List.getElem_cons_succ]
   refine wpAnyL_pure (i := 9) rfl (by kernel_rfl) (fun _ _ _ h => h) (Or.inl ⟨by rfl, (fun u hu => by obtain ⟨⟨k0, k1, k2⟩, k3, k4, k5⟩ := hu; go_simp; try rfl)⟩) (HALL.out _ HDR.out) (fun _ => trivial) ?_
   simp only [Act.put, List.setIfInBounds_toArray, List.set_cons_zero, List.set_cons_succ, List.getElem_toArray, List.getElem_cons_zero, List.getElem_cons_succ]
   refine wpAnyL_pure (i := 10) rfl (by kernel_rfl) (fun _ _ _ h => h) (Or.inl ⟨by rfl, (fun u hu => by obtain ⟨⟨k0, k1, k2⟩, k3, k4, k5⟩ := hu; go_simp; try rfl)⟩) (HALL.out _ HDR.out) (fun _ => trivial) ?_
   simp only [Act.put, List.setIfInBounds_toArray, List.set_cons_zero, List.set_cons_succ, List.getElem_toArray, List.getElem_cons_zero, List.getElem_cons_succ]
   refine wpAnyL_ready (rs := [11]) (by kernel_rfl) (by simp) ?_
   refine AllL.cons rfl (fun K hK => ?_) ?_
   ·
    refine step_callsW 32 #[.agg #[.int .i64 t.rule, .int .i64 t.term, .slice A8 m8 c8]] (by kernel_rfl) (by kernel_rfl) (treeWord w9.drew _ t A8 m8 c8 ((HSL.out.below HB89.out).drew) HTV.out.leaves (by omega)) ?_
    rintro e w10 ⟨A10, c10, rfl, hrd, hcl, hb10⟩
    have HB10 := Lib.hid (HDR.out.trans hb10)
    have HWD := Lib.hid (hrd.slInts hcl)
    have HB610 := Lib.hid (HB68.out.trans ((HB89.out.mono HB68.out.size).trans (HB10.out.mono (Nat.le_trans HB68.out.size HB89.out.size))))
    obtain ⟨hwc, hwa⟩ := apx_word HCF.out hs0 HX.out ⟨t, HTV.out, rfl⟩
    have HWC := Lib.hid hwc
    have HWA := Lib.hid hwa
    clear hrd hb10 hwc hwa
    refine ⟨_, rfl, ?_⟩
    simp only [Act.put, List.setIfInBounds_toArray, List.set_cons_zero, List.set_cons_succ, List.getElem_toArray, List.getElem_cons_zero, List.getElem_cons_succ]
    refine hK.out _ _ (HALL.out _ HB10.out) (fun _ => trivial) ?_
    clear hK K
    refine wpAnyL_ready (rs := [12]) (by kernel_rfl) (by simp) ?_
    refine AllL.cons rfl (fun K hK => ?_) ?_
    ·
     refine step_callsW 17 #[.agg #[.int .i64 0, .slice A n c, .slice NN m c'], .slice A10 (wordT t).length c10] (by kernel_rfl) (by kernel_rfl) (accCanon HX.out.valid.1 (HA.out.below HB610.out) (HN.out.below HB610.out) HWD.out (by omega) HWC.out) ?_
     rintro e w11 ⟨rfl, hb11⟩
     rw [HWA.out]
     have HB11 := Lib.hid (HB10.out.trans (hb11.mono HB10.out.size))
     clear hb11
     refine ⟨_, rfl, ?_⟩
     simp only [Act.put, List.setIfInBounds_toArray, List.set_cons_zero, List.set_cons_succ, List.getElem_toArray, List.getElem_cons_zero, List.getElem_cons_succ]
     refine hK.out _ _ (HALL.out _ HB11.out) (fun _ => trivial) ?_
     clear hK K
     refine wpAnyL_pure (i := 13) rfl (by kernel_rfl) (fun _ _ _ h => h) (Or.inl ⟨by rfl, (fun u hu => by obtain ⟨⟨k0, k1, k2⟩, k3, k4, k5⟩ := hu; go_simp; try rfl)⟩) (HALL.out _ HB11.out) (fun _ => trivial) ?_
     simp only [Act.put, List.setIfInBounds_toArray, List.set_cons_zero, List.set_cons_succ, List.getElem_toArray, List.getElem_cons_zero, List.getElem_cons_succ]
     refine wpAnyL_pure (i := 14) rfl (by kernel_rfl) (fun _ _ _ h => h) (Or.inl ⟨by rfl, (fun u hu => by obtain ⟨⟨k0, k1, k2⟩, k3, k4, k5⟩ := hu; go_simp; try rfl)⟩) (HALL.out _ HB11.out) (fun _ => trivial) ?_
     simp only [Act.put, List.setIfInBounds_toArray, List.set_cons_zero, List.set_cons_succ, List.getElem_toArray, List.getElem_cons_zero, List.getElem_cons_succ]
     refine wpAnyL_pure (i := 15) rfl (by kernel_rfl) (fun _ _ _ h => h) (Or.inl ⟨by rfl, (fun u hu => by obtain ⟨⟨k0, k1, k2⟩, k3, k4, k5⟩ := hu; go_simp; try rfl)⟩) (HALL.out _ HB11.out) (fun _ => trivial) ?_
     simp only [Act.put, List.setIfInBounds_toArray, List.set_cons_zero, List.set_cons_succ, List.getElem_toArray, List.getElem_cons_zero, List.getElem_cons_succ]
     refine wpAnyL_pure (i := 16) rfl (by kernel_rfl) (fun _ _ _ h => h) (Or.inl ⟨by rfl, (fun u hu => by obtain ⟨⟨k0, k1, k2⟩, k3, k4, k5⟩ := hu; go_simp; try rfl)⟩) (HALL.out _ HB11.out) (fun _ => trivial) ?_
     simp only [Act.put, List.setIfInBounds_toArray, List.set_cons_zero, List.set_cons_succ, List.getElem_toArray, List.getElem_cons_zero, List.getElem_cons_succ]
     refine wpAnyL_done (by kernel_rfl) ?_ _
     go_wp2_with fail
     go_ret
     exact ⟨rfl, HB8.out.trans ((HB89.out.mono HB8.out.size).trans (HB11.out.mono (Nat.le_trans HB8.out.size HB89.out.size)))⟩
    exact AllL.nil
   exact AllL.nil
end Go.Proofs.Ytgaahpddlohjoaa
