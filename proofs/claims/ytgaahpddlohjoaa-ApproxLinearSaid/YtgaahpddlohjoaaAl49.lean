/- FromDfa -/
import Derived.Deep.LoopGhost
import Derived.Test.YtgaahpddlohjoaaAl07
import Derived.Test.YtgaahpddlohjoaaAl09
import Derived.Test.YtgaahpddlohjoaaAl48
namespace Go.Proofs.Ytgaahpddlohjoaa
open Go.RowKit
theorem linT (a : Int) (w : World) : Calls Try.prog 66 #[.int .i64 a] w fun e w' => e = .returned (.agg #[.bool true, .int .i64 a]) ∧ Below w.heap.size w w' := by
 go_enter Try.func66, Try.ntmps66
 go_wp2_with fail
 exact bodyPost_ret (v := .agg #[.bool true, .int .i64 a]) (by simp [results, Try.results66, go_sem]) rfl ⟨rfl, (Below.refl _ _).alloc (Nat.le_refl _) _⟩
theorem linN (a : Int) (w : World) : Calls Try.prog 67 #[.int .i64 a] w fun e w' => e = .returned (.agg #[.bool false, .int .i64 a]) ∧ Below w.heap.size w w' := by
 go_enter Try.func67, Try.ntmps67
 go_wp2_with fail
 exact bodyPost_ret (v := .agg #[.bool false, .int .i64 a]) (by simp [results, Try.results67, go_sem]) rfl ⟨rfl, (Below.refl _ _).alloc (Nat.le_refl _) _⟩
theorem rule_push {u : World} {Bg : Nat} {x0 x1 x2 : Int} {A : Option Addr} {c : Nat} {l : List RuleD} {G : Nat → Prop} {ys : List Value} {r : RuleD} (hc : u.heap[Bg]? = some (.cells #[.int .i64 x0, .int .i64 x1, .int .i64 x2, .slice A l.length c] 52 (0, 0)))
    (hl : GL RRule 97 u (fun b => Bg < b) (.slice A l.length c) l) (hll : l.length ≤ 1000) (hx : RRule.ok u G ys r) (hG : ∀ b, G b → Bg < b ∧ rowOf (.slice A l.length c) ≠ some b) :
    ∃ A' c' u', (Builtin.append_ #[50, 50] 50 #[.slice A l.length c, .slice (some ⟨u.heap.size, 0, none⟩) 1 1]).run Try.prog (u.alloc (.cells ys.toArray 97)) = .ok (.slice A' (l.length + 1) c') u' ∧ u'.frozen? ⟨Bg, 3, none⟩ = false ∧ u'.cell? ⟨Bg, 3, none⟩ = some (.slice A l.length c) ∧
     Only u (u'.setCell ⟨Bg, 3, none⟩ (.slice A' (l.length + 1) c')) (fun b => Bg ≤ b) ∧ (u'.setCell ⟨Bg, 3, none⟩ (.slice A' (l.length + 1) c')).heap[Bg]? = some (.cells #[.int .i64 x0, .int .i64 x1, .int .i64 x2, .slice A' (l.length + 1) c'] 52 (0, 0)) ∧
     GL RRule 97 (u'.setCell ⟨Bg, 3, none⟩ (.slice A' (l.length + 1) c')) (fun b => Bg < b) (.slice A' (l.length + 1) c') (l ++ [r]) := by
 have hlt := heap_lt hc
 obtain ⟨A', c', u', hrun, hgl, hg, hrow⟩ := hl.push (P := Try.prog) tRules rfl (G := G) (x := r) (ys := ys) hx (fun b hb => (hG b hb).2) (by omega) (by omega) 50
 have hb : u'.heap[Bg]? = some (.cells #[.int .i64 x0, .int .i64 x1, .int .i64 x2, .slice A l.length c] 52 (0, 0)) := by
  rw [hg.block Bg (by simp; omega) (fun e => by have := hl.row _ e.symm; omega)]
  exact (Below.heap_alloc _ _ _ hlt).trans hc
 refine ⟨A', c', u', hrun, by simp [World.frozen?, hb], by simp [World.cell?, hb], ?_, ?_, ?_⟩
 ·
  exact ((Only.alloc u _ _).trans (.of_grown hg fun b e => by have := hl.row b e; omega)).trans (.set _ _ _ _ (Nat.le_refl _))
 ·
  have := blk_set hb 3 (.slice A' (l.length + 1) c')
  simpa using this
 ·
  refine GL.only (X := fun b => b = Bg) (hgl.more fun b hb => ?_) (.set _ _ _ _ rfl) fun b hb _ e => by omega
  rcases hb with h | h | h
  ·
   exact h
  ·
   exact (hG b h).1
  ·
   rw [h]; omega
structure LinSt (w1 : World) (Bg : Nat) (x0 x1 x2 : Int) (l : List RuleD) (wr : World) : Prop where
 box : ∃ A c, wr.heap[Bg]? = some (.cells #[.int .i64 x0, .int .i64 x1, .int .i64 x2, .slice A l.length c] 52 (0, 0)) ∧ GL RRule 97 wr (fun b => Bg < b) (.slice A l.length c) l
 bel : Below w1.heap.size w1 wr
 le : w1.heap.size ≤ Bg
section
variable {w1 wr w' : World} {Bg : Nat} {x0 x1 x2 : Int} {l : List RuleD}
theorem LinSt.push (h : LinSt w1 Bg x0 x1 x2 l wr) (hll : l.length ≤ 1000) : ∃ A c, wr.heap[Bg]? = some (.cells #[.int .i64 x0, .int .i64 x1, .int .i64 x2, .slice A l.length c] 52 (0, 0)) ∧
    ∀ (u : World) (G : Nat → Prop) (ys : List Value) (r : RuleD), Below wr.heap.size wr u → RRule.ok u G ys r → (∀ b, G b → wr.heap.size ≤ b) →
     ∃ A' c' u', (Builtin.append_ #[50, 50] 50 #[.slice A l.length c, .slice (some ⟨u.heap.size, 0, none⟩) 1 1]).run Try.prog (u.alloc (.cells ys.toArray 97)) = .ok (.slice A' (l.length + 1) c') u' ∧ u'.frozen? ⟨Bg, 3, none⟩ = false ∧ u'.cell? ⟨Bg, 3, none⟩ = some (.slice A l.length c) ∧
      LinSt w1 Bg x0 x1 x2 (l ++ [r]) (u'.setCell ⟨Bg, 3, none⟩ (.slice A' (l.length + 1) c')) := by
 obtain ⟨A, c, h1, h2⟩ := h.box
 refine ⟨A, c, h1, fun u G ys r hb hx hG => ?_⟩
 have hbg := heap_lt h1
 obtain ⟨A', c', u', a1, a2, a3, a4, a5, a6⟩ := rule_push ((hb.block _ hbg).trans h1) (h2.below hb) hll hx fun b hb => ⟨by have := hG b hb; omega, fun e => by have := h2.lt e; have := hG b hb; omega⟩
 exact ⟨A', c', u', a1, a2, a3, ⟨⟨A', c', by simpa using a5, by simpa using a6⟩, (h.bel.trans (hb.mono h.bel.size)).trans (a4.below (fun b hb => Nat.le_trans h.le hb) (Nat.le_trans h.bel.size hb.size)), h.le⟩⟩
end
theorem linOk {u : World} {g : Nat} {s c x : Int} (h : u.heap[g]? = some (.cells #[.bool true, .int .i64 c, .bool false, .int .i64 x] 99 (0, 0))) : RRule.ok u (fun b => b = g) [.int .i64 s, .slice (some ⟨g, 0, none⟩) 2 2] (s, [(true, c), (false, x)]) := by
 refine RRule.cells.2 ⟨_, _, _, rfl, ⟨[.bool true, .int .i64 c, .bool false, .int .i64 x], rfl, Nat.le_refl _, ⟨rfl, fun _ => ⟨g, 0, rfl, rfl, fun j v hv => ?_⟩⟩, ⟨[_, _], [_, _], rfl, RSym.cells.2 rfl, Cells.single (RSym.cells.2 rfl)⟩⟩⟩
 match j, hv with
 | 0, hv => simp at hv; subst hv; simp [World.cell?, h]
 | 1, hv => simp at hv; subst hv; simp [World.cell?, h]
 | 2, hv => simp at hv; subst hv; simp [World.cell?, h]
 | 3, hv => simp at hv; subst hv; simp [World.cell?, h]
 | j + 4, hv => simp at hv
theorem linOk0 {u : World} {s : Int} : RRule.ok u (fun _ => False) [.int .i64 s, .slice none 0 0] (s, []) :=
 RRule.cells.2 ⟨none, 0, 0, rfl, ⟨[], rfl, Nat.le_refl _, ⟨rfl, fun h => absurd h (by decide)⟩, Cells.nil⟩⟩
set_option linter.unusedSimpArgs false in
set_option maxRecDepth 1000000 in
set_option maxHeartbeats 20000000 in
theorem fromDfa (w : World) (S : Nat → Prop) (A : Option Addr) (nA cA : Nat) (N : Option Addr) (n cN : Nat) (d : DfaD) (hA : Sl Rep.int w S A nA cA d.2.1) (hN : Sl RI w S N n cN d.2.2) (hv : Valid d) (h10 : d.2.2.length ≤ 10) (h8 : cols d ≤ 8) (h32 : d.2.2.length * (cols d + 1) ≤ 32) :
    Calls Try.prog 33 #[.agg #[.int .i64 d.1, .slice A nA cA, .slice N n cN]] w fun e w' => (∃ AR cR, e = .returned (.tuple #[.agg #[.int .i64 (cols d : Int), .int .i64 (d.2.2.length : Int), .int .i64 d.1, .slice AR (linR d).length cR], .int .i64 0]) ∧ Sl RRule w' (fun b => w.heap.size ≤ b) AR (linR d).length cR (linR d)) ∧ Below w.heap.size w w' := by
 have e1 := hA.len
 have hnn := hN.len
 rw [hv.na, ← hnn] at e1
 subst e1
 have HGV := Lib.hid (lin_valid hv h10 h8 h32)
 obtain ⟨C, hC⟩ : ∃ C, C = cols d := ⟨_, rfl⟩
 rw [← hC] at h8 h32 HGV ⊢
 have HLR := Lib.hid (show linR d = linU d nA by unfold linR; rw [← hnn])
 rw [← hnn] at h10 h32 HGV ⊢
 rw [HLR.out] at HGV ⊢
 have HCE := Lib.hid hC
 have HNN := Lib.hid hnn
 have hC1 : 1 ≤ C := by rw [hC]; exact hv.c1
 have hn1 : 1 ≤ nA := by have := hv.n1; omega
 have hd10 : decide ((10 : Int) < (nA : Int)) = false := by simp; omega
 have hd8 : decide ((8 : Int) < (C : Int)) = false := by simp; omega
 have HLL := Lib.hid (show ∀ s j, s < nA → j ≤ C → (linU d s ++ linPart d s j).length ≤ 1000 from fun s j hs hj => by
  rw [List.length_append]
  have h1 := linU_len (d := d) s
  have h2 := linPart_len (d := d) s j
  rw [← hC] at h1
  have h3 : s * (C + 1) ≤ nA * (C + 1) := Nat.mul_le_mul_right _ (by omega)
  omega)
 have HV := Lib.hid hv
 obtain ⟨b, off, AR0, m0, cR0, r0, e, _, hbl, hc1, hr0, hs0⟩ := row_at hN (k := 0) (by omega)
 obtain rfl : C = m0 := by rw [hs0.len, hC]; exact (hv.rows r0 (List.mem_of_getElem? hr0)).1.symm
 rw [Nat.add_zero] at hc1
 subst e
 have HROW := Lib.hid (show ∀ s, s < nA → ∃ AR cR r, w.cell? ⟨b, off + s, none⟩ = some (.slice AR C cR) ∧ Sl Rep.int w (fun b => b < w.heap.size) AR C cR r ∧ ∀ c, c < C → r[c]? = some (linCell d s c) from fun s hs => by
  obtain ⟨b', off', AR, m, cR, r, e, _, _, h1, h2, h3⟩ := row_at hN (k := s) (by omega)
  injection e with e
  injection e with e1 e2
  subst e1 e2
  have h4 := (hv.rows r (List.mem_of_getElem? h2)).1
  obtain rfl : C = m := by rw [h3.len, hC]; exact h4.symm
  refine ⟨AR, cR, r, h1, h3.fit.more fun b hb => hb.2, fun c hc => ?_⟩
  rw [← hC] at h4
  unfold linCell
  rw [h2, Option.getD_some, List.getElem?_eq_getElem (by omega)]
  rfl)
 have HA := Lib.hid hA.fit
 have HN := Lib.hid hN.fit
 obtain ⟨w1, hw1⟩ : ∃ w1 : World, w1 = (w.alloc (.cells #[.int .i64 d.1, .slice A nA cA, .slice (some ⟨b, off, none⟩) nA cN] 25)).alloc (.cells #[.int .i64 0, .int .i64 0, .int .i64 0, .slice none 0 0] 52) := ⟨_, rfl⟩
 have hb1 : Below w.heap.size w w1 := by rw [hw1]; exact ((Below.refl _ _).alloc (Nat.le_refl _) _).alloc (by simp) _
 have HZ1 := Lib.hid (show w1.heap.size = w.heap.size + 1 + 1 by rw [hw1]; simp)
 have HBD1 := Lib.hid (show w1.heap[w.heap.size]? = some (.cells #[.int .i64 d.1, .slice A nA cA, .slice (some ⟨b, off, none⟩) nA cN] 25 (0, 0)) by rw [hw1]; exact (Below.heap_alloc _ _ _ (by simp)).trans (heap_alloc_new _ _))
 have HRB1 := Lib.hid (show w1.heap[w.heap.size + 1]? = some (.cells #[.int .i64 0, .int .i64 0, .int .i64 0, .slice none 0 0] 52 (0, 0)) by rw [hw1]; exact heap_new _ _ _ (by simp))
 have HB1 := Lib.hid hb1
 have HCD := Lib.hid (show ∀ u : World, Below w1.heap.size w1 u → u.cell? ⟨w.heap.size, 0, none⟩ = some (.int .i64 d.1) ∧ u.cell? ⟨w.heap.size, 1, none⟩ = some (.slice A nA cA) ∧ u.cell? ⟨w.heap.size, 2, none⟩ = some (.slice (some ⟨b, off, none⟩) nA cN) ∧ u.cell? ⟨b, off, none⟩ = some (.slice AR0 C cR0) from fun u hu => by
  have h1 := (hu.block _ (heap_lt HBD1.out)).trans HBD1.out
  refine ⟨by simp [World.cell?, h1], by simp [World.cell?, h1], by simp [World.cell?, h1], ((HB1.out.trans (hu.mono HB1.out.size)).cell (by simpa using hbl)).trans hc1⟩)
 obtain ⟨g0, g1, g2, g3⟩ := HCD.out w1 (.refl _ _)
 rw [hw1] at g0 g1 g2 g3
 clear hA hN hv hnn hC hb1 hc1 hr0 hs0 hbl
 go_enter Try.func33, Try.ntmps33
 go_wp2_with fail
 rw [← hw1]
 clear hw1 g0 g1 g2 g3
 refine (dfaCheck w1 _ A nA cA _ nA cN d (HA.out.below HB1.out) (HN.out.below HB1.out) HV.out).mono ?_
 rintro e w2 ⟨rfl, hb2⟩
 have HB12 := Lib.hid hb2
 obtain ⟨g0, g1, g2, g3⟩ := HCD.out w2 hb2
 have h0n : (0 : Int) < (nA : Int) := by omega
 have h0N : 0 < nA := by omega
 clear hb2
 go_upto_region 6 with fail
 clear g0 g1 g2 g3
 obtain ⟨u0, hu0⟩ : ∃ u0 : World, u0 = w2.drew := ⟨_, rfl⟩
 have HB0 := Lib.hid (show Below w1.heap.size w1 u0 by rw [hu0]; exact HB12.out.drew)
 refine wp_region_late (late := []) (S1 := fun u => u.cell? ⟨w.heap.size, 0, none⟩ = some (.int .i64 d.1) ∧ u.cell? ⟨w.heap.size, 1, none⟩ = some (.slice A nA cA) ∧ u.cell? ⟨w.heap.size, 2, none⟩ = some (.slice (some ⟨b, off, none⟩) nA cN) ∧ u.cell? ⟨b, off, none⟩ = some (.slice AR0 C cR0)) (S := fun _ => True) (by kernel_rfl) ?_
 rw [← hu0]
 clear hu0
 refine wpAnyL_pure (i := 0) rfl (by kernel_rfl) (fun _ _ _ h => h) (Or.inl ⟨by rfl, (fun u hu => by obtain ⟨k0, k1, k2, k3⟩ := hu; go_simp; try rfl)⟩) (HCD.out _ HB0.out) (fun _ => trivial) ?_
 simp only [Act.put, List.setIfInBounds_toArray, List.set_cons_zero, List.set_cons_succ, List.getElem_toArray, List.getElem_cons_zero, List.getElem_cons_succ]
 refine wpAnyL_pure (i := 1) rfl (by kernel_rfl) (fun _ _ _ h => h) (Or.inl ⟨by rfl, (fun u hu => by obtain ⟨k0, k1, k2, k3⟩ := hu; go_simp; try rfl)⟩) (HCD.out _ HB0.out) (fun _ => trivial) ?_
 simp only [Act.put, List.setIfInBounds_toArray, List.set_cons_zero, List.set_cons_succ, List.getElem_toArray, List.getElem_cons_zero, List.getElem_cons_succ]
 refine wpAnyL_pure (i := 2) rfl (by kernel_rfl) (fun _ _ _ h => h) (Or.inl ⟨by rfl, (fun u hu => by obtain ⟨k0, k1, k2, k3⟩ := hu; go_simp; try rfl)⟩) (HCD.out _ HB0.out) (fun _ => trivial) ?_
 simp only [Act.put, List.setIfInBounds_toArray, List.set_cons_zero, List.set_cons_succ, List.getElem_toArray, List.getElem_cons_zero, List.getElem_cons_succ]
 refine wpAnyL_pure (i := 3) rfl (by kernel_rfl) (fun _ _ _ h => h) (Or.inl ⟨by rfl, (fun u hu => by obtain ⟨k0, k1, k2, k3⟩ := hu; go_simp; try rfl)⟩) (HCD.out _ HB0.out) (fun _ => trivial) ?_
 simp only [Act.put, List.setIfInBounds_toArray, List.set_cons_zero, List.set_cons_succ, List.getElem_toArray, List.getElem_cons_zero, List.getElem_cons_succ]
 refine wpAnyL_pure (i := 4) rfl (by kernel_rfl) (fun _ _ _ h => h) (Or.inl ⟨by rfl, (fun u hu => by obtain ⟨k0, k1, k2, k3⟩ := hu; go_simp; try rfl)⟩) (HCD.out _ HB0.out) (fun _ => trivial) ?_
 simp only [Act.put, List.setIfInBounds_toArray, List.set_cons_zero, List.set_cons_succ, List.getElem_toArray, List.getElem_cons_zero, List.getElem_cons_succ]
 refine wpAnyL_pure (i := 5) rfl (by kernel_rfl) (fun _ _ _ h => h) (Or.inl ⟨by rfl, (fun u hu => by obtain ⟨k0, k1, k2, k3⟩ := hu; go_simp; try rfl)⟩) (HCD.out _ HB0.out) (fun _ => trivial) ?_
 simp only [Act.put, List.setIfInBounds_toArray, List.set_cons_zero, List.set_cons_succ, List.getElem_toArray, List.getElem_cons_zero, List.getElem_cons_succ]
 refine wpAnyL_pure (i := 6) rfl (by kernel_rfl) (fun _ _ _ h => h) (Or.inl ⟨by rfl, (fun u hu => by obtain ⟨k0, k1, k2, k3⟩ := hu; go_simp; try rfl)⟩) (HCD.out _ HB0.out) (fun _ => trivial) ?_
 simp only [Act.put, List.setIfInBounds_toArray, List.set_cons_zero, List.set_cons_succ, List.getElem_toArray, List.getElem_cons_zero, List.getElem_cons_succ]
 refine wpAnyL_pure (i := 7) rfl (by kernel_rfl) (fun _ _ _ h => h) (Or.inl ⟨by rfl, (fun u hu => by obtain ⟨k0, k1, k2, k3⟩ := hu; go_simp; try rfl)⟩) (HCD.out _ HB0.out) (fun _ => trivial) ?_
 simp only [Act.put, List.setIfInBounds_toArray, List.set_cons_zero, List.set_cons_succ, List.getElem_toArray, List.getElem_cons_zero, List.getElem_cons_succ]
 refine wpAnyL_pure (i := 8) rfl (by kernel_rfl) (fun _ _ _ h => h) (Or.inl ⟨by rfl, (fun u hu => by obtain ⟨k0, k1, k2, k3⟩ := hu; go_simp; try rfl)⟩) (HCD.out _ HB0.out) (fun _ => trivial) ?_
 simp only [Act.put, List.setIfInBounds_toArray, List.set_cons_zero, List.set_cons_succ, List.getElem_toArray, List.getElem_cons_zero, List.getElem_cons_succ]
 refine wpAnyL_pure (i := 9) rfl (by kernel_rfl) (fun _ _ _ h => h) (Or.inl ⟨by rfl, (fun u hu => by obtain ⟨k0, k1, k2, k3⟩ := hu; go_simp; try rfl)⟩) (HCD.out _ HB0.out) (fun _ => trivial) ?_
 simp only [Act.put, List.setIfInBounds_toArray, List.set_cons_zero, List.set_cons_succ, List.getElem_toArray, List.getElem_cons_zero, List.getElem_cons_succ]
 refine wpAnyL_pure (i := 10) rfl (by kernel_rfl) (fun _ _ _ h => h) (Or.inl ⟨by rfl, (fun u hu => by obtain ⟨k0, k1, k2, k3⟩ := hu; go_simp; try rfl)⟩) (HCD.out _ HB0.out) (fun _ => trivial) ?_
 simp only [Act.put, List.setIfInBounds_toArray, List.set_cons_zero, List.set_cons_succ, List.getElem_toArray, List.getElem_cons_zero, List.getElem_cons_succ]
 refine wpAnyL_ready (rs := [11]) (by kernel_rfl) (by simp) ?_
 refine AllL.cons rfl (fun K hK => ?_) ?_
 ·
  go_simp
  obtain ⟨u1, hu1⟩ : ∃ u1 : World, u1 = u0.alloc (.cells #[.int .i64 0, .int .i64 0, .int .i64 0, .slice none 0 0] 52) := ⟨_, rfl⟩
  rw [← hu1]
  have HBU1 := Lib.hid (show Below w1.heap.size w1 u1 by rw [hu1]; exact HB0.out.alloc HB0.out.size _)
  have HBG1 := Lib.hid (show u1.heap[u0.heap.size]? = some (.cells #[.int .i64 0, .int .i64 0, .int .i64 0, .slice none 0 0] 52 (0, 0)) by rw [hu1]; exact heap_alloc_new _ _)
  obtain ⟨Bg, hBg⟩ : ∃ Bg, Bg = u0.heap.size := ⟨_, rfl⟩
  rw [← hBg] at HBG1 ⊢
  have hbg1 : w1.heap.size ≤ Bg := by rw [hBg]; exact HB0.out.size
  have HOU := Lib.hid (show Below Bg u0 u1 by rw [hu1, hBg]; exact (Below.refl _ _).alloc (Nat.le_refl _) _)
  clear hu1 hBg
  refine hK.out _ _ (HCD.out _ HBU1.out) (fun _ => trivial) ?_
  clear hK K
  refine wpAnyL_ready (rs := [12]) (by kernel_rfl) (by simp) ?_
  refine AllL.cons rfl (fun K hK => ?_) ?_
  ·
   have hbx := HBG1.out
   have hc0 : u1.cell? ⟨Bg, 0, none⟩ = some (.int .i64 0) := by simp [World.cell?, hbx]
   have hf0 : u1.frozen? ⟨Bg, 0, none⟩ = false := by simp [World.frozen?, hbx]
   have hc1 : u1.cell? ⟨Bg, 1, none⟩ = some (.int .i64 0) := by simp [World.cell?, hbx]
   have hf1 : u1.frozen? ⟨Bg, 1, none⟩ = false := by simp [World.frozen?, hbx]
   have hc2 : u1.cell? ⟨Bg, 2, none⟩ = some (.int .i64 0) := by simp [World.cell?, hbx]
   have hf2 : u1.frozen? ⟨Bg, 2, none⟩ = false := by simp [World.frozen?, hbx]
   have hc3 : u1.cell? ⟨Bg, 3, none⟩ = some (.slice none 0 0) := by simp [World.cell?, hbx]
   have hf3 : u1.frozen? ⟨Bg, 3, none⟩ = false := by simp [World.frozen?, hbx]
   obtain ⟨w3, hw3⟩ : ∃ w3 : World, w3 = (((u1.setCell ⟨Bg, 0, none⟩ (.int .i64 (C : Int))).setCell ⟨Bg, 1, none⟩ (.int .i64 (nA : Int))).setCell ⟨Bg, 2, none⟩ (.int .i64 d.1)).setCell ⟨Bg, 3, none⟩ (.slice none 0 0) := ⟨_, rfl⟩
   have HBX3 := Lib.hid (show w3.heap[Bg]? = some (.cells #[.int .i64 (C : Int), .int .i64 (nA : Int), .int .i64 d.1, .slice none 0 0] 52 (0, 0)) by rw [hw3]; exact blk_set (blk_set (blk_set (blk_set hbx 0 (.int .i64 (C : Int))) 1 (.int .i64 (nA : Int))) 2 (.int .i64 d.1)) 3 (.slice none 0 0))
   have HB13 := Lib.hid (show Below w1.heap.size w1 w3 by rw [hw3]; exact (((HBU1.out.setCell (show w1.heap.size ≤ (⟨Bg, 0, none⟩ : Addr).block from hbg1) _).setCell (show w1.heap.size ≤ (⟨Bg, 1, none⟩ : Addr).block from hbg1) _).setCell (show w1.heap.size ≤ (⟨Bg, 2, none⟩ : Addr).block from hbg1) _).setCell (show w1.heap.size ≤ (⟨Bg, 3, none⟩ : Addr).block from hbg1) _)
   have HZ3 := Lib.hid (heap_lt HBX3.out)
   clear hbx
   go_simp
   rw [← hw3]
   clear hc0 hf0 hc1 hf1 hc2 hf2 hc3 hf3 hw3
   refine hK.out _ _ (HCD.out _ HB13.out) (fun _ => trivial) ?_
   clear hK K
   refine wpAnyL_done (by kernel_rfl) ?_ _
   have HST3 := Lib.hid (show LinSt w1 Bg (C : Int) (nA : Int) d.1 (linU d 0) w3 from ⟨⟨none, 0, HBX3.out, GL.nil _ _⟩, HB13.out, hbg1⟩)
   obtain ⟨k0, k1, k2, k3⟩ := HCD.out w3 HB13.out
   go_wp2_with fail
   clear k0 k1 k2 k3
   go_loopg [44] nA (fun gk v44 wr => ∃ s : Nat, s ≤ nA ∧ gk = nA - s ∧ v44 = .int .i64 s ∧ LinSt w1 Bg (C : Int) (nA : Int) d.1 (linU d s) wr)
   case atStart => exact ⟨0, Nat.zero_le _, rfl, rfl, HST3.out⟩
   case round =>
    obtain ⟨s, hs, hgk, rfl, hst⟩ := hrel
    have HGK := Lib.hid hgk
    have HST := Lib.hid hst
    obtain ⟨w4, rfl⟩ : ∃ w4 : World, w4 = wr := ⟨_, rfl⟩
    clear hgk hst
    by_cases hlt : s < nA
    ·
     have hsI : (s : Int) < (nA : Int) := by omega
     have hsz : (0 : Int) ≤ (s : Int) := by omega
     obtain ⟨AR, cR, r, hrc, hrs, hrv⟩ := HROW.out s hlt
     have HRS := Lib.hid hrs
     have HRV := Lib.hid hrv
     have hbw := HB1.out.trans (HST.out.bel.mono HB1.out.size)
     have hrc4 : w4.cell? ⟨b, off + s, none⟩ = some (.slice AR C cR) := (hbw.cell (cell_lt hrc)).trans hrc
     clear hrs hrv hrc hbw
     go_wp2_with fail
     clear hrc4
     go_loopg [51] C (fun gq v51 wr => ∃ j : Nat, j ≤ C ∧ gq = C - j ∧ v51 = .int .i64 j ∧ LinSt w1 Bg (C : Int) (nA : Int) d.1 (linU d s ++ linPart d s j) wr)
     case atStart => exact ⟨0, Nat.zero_le _, rfl, rfl, by simpa [linPart] using HST.out⟩
     case round =>
      obtain ⟨j, hj, hgq, rfl, hst⟩ := hrel
      have HGQ := Lib.hid hgq
      have HSJ := Lib.hid hst
      obtain ⟨w5, rfl⟩ : ∃ w5 : World, w5 = wr := ⟨_, rfl⟩
      clear hgq hst
      by_cases hjl : j < C
      ·
       have hjI : (j : Int) < (C : Int) := by omega
       have hjz : (0 : Int) ≤ (j : Int) := by omega
       have hr5 := HRS.out.keep (Kept.belowB (HB1.out.trans (HSJ.out.bel.mono HB1.out.size)) fun b hb => hb)
       obtain ⟨b1, o1, x, rfl, _, hx, hcx⟩ := hr5.ints.int_at (k := j) (by omega)
       have hxe : x = linCell d s j := by
        have := HRV.out j hjl
        rw [hx] at this
        exact Option.some.inj this
       have HXE := Lib.hid hxe
       have hll := HLL.out s j hlt (by omega)
       clear hr5 hx hxe
       by_cases h0 : 0 ≤ x
       ·
        have hd0 : decide ((0 : Int) ≤ x) = true := by simpa using h0
        have HYES := Lib.hid (show linU d s ++ linPart d s (j + 1) = (linU d s ++ linPart d s j) ++ [((s : Int), [(true, (j : Int)), (false, x)])] by
         have h1 := h0
         rw [HXE.out] at h1
         rw [linPart_yes h1, List.append_assoc, HXE.out])
        obtain ⟨AL, cL, hbx, hpu⟩ := HSJ.out.push hll
        have HPU := Lib.hid hpu
        have HBX := Lib.hid hbx
        obtain ⟨ll, hl⟩ : ∃ ll, ll = (linU d s ++ linPart d s j).length := ⟨_, rfl⟩
        rw [← hl] at HPU HBX
        clear hll hbx hpu hl
        go_upto_region 14 with fail
        clear hcx
        obtain ⟨u1, hu1⟩ : ∃ u1 : World, u1 = w5.drew := ⟨_, rfl⟩
        have HBU1 := Lib.hid (show Below w5.heap.size w5 u1 by rw [hu1]; exact (Below.refl _ _).drew)
        have HQ1 := Lib.hid (show u1.cell? ⟨Bg, 3, none⟩ = some (.slice AL ll cL) by
         have h1 := (HBU1.out.block _ (heap_lt HBX.out)).trans HBX.out
         simp [World.cell?, h1])
        refine wp_region_late (late := [12]) (S1 := fun _ => True) (S := fun u => u.cell? ⟨Bg, 3, none⟩ = some (.slice AL ll cL)) (by kernel_rfl) ?_
        rw [← hu1]
        clear hu1
        refine wpAnyL_pure (i := 0) rfl (by kernel_rfl) (fun _ _ _ h => h) (Or.inl ⟨by rfl, (fun u hu => by go_simp; try rfl)⟩) trivial (fun _ => HQ1.out) ?_
        simp only [Act.put, List.setIfInBounds_toArray, List.set_cons_zero, List.set_cons_succ, List.getElem_toArray, List.getElem_cons_zero, List.getElem_cons_succ]
        refine wpAnyL_take (i := 1) rfl (by kernel_rfl) (fun _ _ _ h => h) (Or.inl ⟨by rfl, (fun u hu => by have hu2 := hu.2; go_simp; try rfl)⟩) trivial (fun _ => HQ1.out) ?_
        simp only [Act.put, List.setIfInBounds_toArray, List.set_cons_zero, List.set_cons_succ, List.getElem_toArray, List.getElem_cons_zero, List.getElem_cons_succ]
        refine wpAnyL_pure (i := 2) rfl (by kernel_rfl) (fun _ _ _ h => h) (Or.inl ⟨by rfl, (fun u hu => by go_simp; try rfl)⟩) trivial (fun _ => HQ1.out) ?_
        simp only [Act.put, List.setIfInBounds_toArray, List.set_cons_zero, List.set_cons_succ, List.getElem_toArray, List.getElem_cons_zero, List.getElem_cons_succ]
        refine wpAnyL_pure (i := 3) rfl (by kernel_rfl) (fun _ _ _ h => h) (Or.inl ⟨by rfl, (fun u hu => by go_simp; try rfl)⟩) trivial (fun _ => HQ1.out) ?_
        simp only [Act.put, List.setIfInBounds_toArray, List.set_cons_zero, List.set_cons_succ, List.getElem_toArray, List.getElem_cons_zero, List.getElem_cons_succ]
        refine wpAnyL_pure (i := 5) rfl (by kernel_rfl) (fun _ _ _ h => h) (Or.inl ⟨by rfl, (fun u hu => by go_simp; try rfl)⟩) trivial (fun _ => HQ1.out) ?_
        simp only [Act.put, List.setIfInBounds_toArray, List.set_cons_zero, List.set_cons_succ, List.getElem_toArray, List.getElem_cons_zero, List.getElem_cons_succ]
        refine wpAnyL_ready (rs := [4]) (by kernel_rfl) (by simp) ?_
        refine AllL.cons rfl (fun K hK => ?_) ?_
        ·
         refine step_calls 66 #[.int .i64 (j : Int)] rfl (by kernel_rfl) (linT (j : Int) u1) ?_
         rintro e u2 ⟨rfl, hb2⟩
         have HQ2 := Lib.hid ((hb2.cell (cell_lt HQ1.out)).trans HQ1.out)
         have HBU2 := Lib.hid (HBU1.out.trans (hb2.mono HBU1.out.size))
         clear hb2
         refine ⟨_, rfl, ?_⟩
         simp only [Act.put, List.setIfInBounds_toArray, List.set_cons_zero, List.set_cons_succ, List.getElem_toArray, List.getElem_cons_zero, List.getElem_cons_succ]
         refine hK.out _ _ trivial (fun _ => HQ2.out) ?_
         clear hK K
         refine wpAnyL_ready (rs := [6]) (by kernel_rfl) (by simp) ?_
         refine AllL.cons rfl (fun K hK => ?_) ?_
         ·
          refine step_calls 67 #[.int .i64 x] rfl (by kernel_rfl) (linN x u2) ?_
          rintro e u3 ⟨rfl, hb3⟩
          have HQ3 := Lib.hid ((hb3.cell (cell_lt HQ2.out)).trans HQ2.out)
          have HB3u := Lib.hid (HBU2.out.trans (hb3.mono HBU2.out.size))
          clear hb3
          refine ⟨_, rfl, ?_⟩
          simp only [Act.put, List.setIfInBounds_toArray, List.set_cons_zero, List.set_cons_succ, List.getElem_toArray, List.getElem_cons_zero, List.getElem_cons_succ]
          refine hK.out _ _ trivial (fun _ => HQ3.out) ?_
          clear hK K
          refine wpAnyL_ready (rs := [7]) (by kernel_rfl) (by simp) ?_
          refine AllL.cons rfl (fun K hK => ?_) ?_
          ·
           go_simp
           obtain ⟨u4, hu4⟩ : ∃ u4 : World, u4 = u3.alloc (.cells #[.bool true, .int .i64 (j : Int), .bool false, .int .i64 x] 99) := ⟨_, rfl⟩
           rw [← hu4]
           have hb4 : Below u3.heap.size u3 u4 := by rw [hu4]; exact (Below.refl _ _).alloc (Nat.le_refl _) _
           have HBS4 := Lib.hid (show u4.heap[u3.heap.size]? = some (.cells #[.bool true, .int .i64 (j : Int), .bool false, .int .i64 x] 99 (0, 0)) by rw [hu4]; exact heap_alloc_new _ _)
           obtain ⟨A', c', u5, hrun, hf5, hc5, hst5⟩ := HPU.out u4 _ _ _ (HB3u.out.trans (hb4.mono HB3u.out.size)) (linOk (s := (s : Int)) HBS4.out) (fun b hb => by rw [hb]; exact HB3u.out.size)
           have HQ4 := Lib.hid (show u4.cell? ⟨Bg, 3, none⟩ = some (.slice AL ll cL) from (hb4.cell (by have := HQ3.out; exact cell_lt this)).trans HQ3.out)
           have HRUN := Lib.hid hrun
           have HF5 := Lib.hid hf5
           have HC5 := Lib.hid hc5
           have HST5 := Lib.hid hst5
           clear hb4 hu4 hrun hf5 hc5 hst5
           refine hK.out _ _ trivial (fun _ => HQ4.out) ?_
           clear hK K
           refine wpAnyL_pure (i := 8) rfl (by kernel_rfl) (fun _ _ _ h => h) (Or.inl ⟨by rfl, (fun u hu => by go_simp; try rfl)⟩) trivial (fun _ => HQ4.out) ?_
           simp only [Act.put, List.setIfInBounds_toArray, List.set_cons_zero, List.set_cons_succ, List.getElem_toArray, List.getElem_cons_zero, List.getElem_cons_succ]
           refine wpAnyL_ready (rs := [9]) (by kernel_rfl) (by simp) ?_
           refine AllL.cons rfl (fun K hK => ?_) ?_
           ·
            have HQ5 := Lib.hid (show (u4.alloc (.cells #[.int .i64 (s : Int), .slice (some ⟨u3.heap.size, 0, none⟩) 2 2] 97)).cell? ⟨Bg, 3, none⟩ = some (.slice AL ll cL) from (((Below.refl u4.heap.size u4).alloc (Nat.le_refl _) _).cell (by have := HQ4.out; exact cell_lt this)).trans HQ4.out)
            go_simp
            refine hK.out _ _ trivial (fun _ => HQ5.out) ?_
            clear hK K
            refine wpAnyL_ready (rs := [10]) (by kernel_rfl) (by simp) ?_
            refine AllL.cons rfl (fun K hK => ?_) ?_
            ·
             refine step_append_run _ (by rfl) _ _ _ _ (by rfl) _ _ (by rfl) (by rfl) _ _ HRUN.out ?_
             simp only [Act.put, List.setIfInBounds_toArray, List.set_cons_zero, List.set_cons_succ, List.getElem_toArray, List.getElem_cons_zero, List.getElem_cons_succ]
             refine hK.out _ _ trivial (fun _ => HC5.out) ?_
             clear hK K
             refine wpAnyL_pure (i := 11) rfl (by kernel_rfl) (fun _ _ _ h => h) (Or.inl ⟨by rfl, (fun u hu => by go_simp; try rfl)⟩) trivial (fun _ => HC5.out) ?_
             simp only [Act.put, List.setIfInBounds_toArray, List.set_cons_zero, List.set_cons_succ, List.getElem_toArray, List.getElem_cons_zero, List.getElem_cons_succ]
             refine wpAnyL_ready (rs := [12]) (by kernel_rfl) (by simp) ?_
             refine AllL.cons rfl (fun K hK => ?_) ?_
             ·
              have hf := HF5.out
              have hc := HC5.out
              go_simp
              clear hf hc
              refine hK.out _ _ trivial (fun h => absurd (h 12 (by simp)) (by decide)) ?_
              clear hK K
              refine wpAnyL_done (by kernel_rfl) ?_ _
              go_wp2_with fail
              go_roundg (C - (j + 1))
              case measure => rw [HGQ.out]; omega
              case rel => exact ⟨j + 1, by omega, rfl, by go_num, by rw [HYES.out]; exact HST5.out⟩
             exact AllL.nil
            exact AllL.nil
           exact AllL.nil
          exact AllL.nil
         exact AllL.nil
        exact AllL.nil
       ·
        have hd0 : decide ((0 : Int) ≤ x) = false := by simpa using h0
        have HNO := Lib.hid (show linU d s ++ linPart d s (j + 1) = linU d s ++ linPart d s j by
         have h1 := h0
         rw [HXE.out] at h1
         rw [linPart_no h1])
        clear hll
        go_wp2_with fail
        go_roundg (C - (j + 1))
        case measure => rw [HGQ.out]; omega
        case rel => exact ⟨j + 1, by omega, rfl, by go_num, by rw [HNO.out]; exact HSJ.out⟩
      ·
       obtain rfl : C = j := by omega
       have hll := HLL.out s C hlt (Nat.le_refl _)
       have hlr : linU d (s + 1) = (linU d s ++ linPart d s C) ++ linEnd d s := by rw [linU_succ, linRow, ← HCE.out, List.append_assoc]
       have hb5 := HB1.out.trans (HSJ.out.bel.mono HB1.out.size)
       obtain ⟨ba, oa, xa, hAe, _, hxa, hca⟩ := (HA.out.keep (Kept.belowB hb5 fun b hb => hb.2)).ints.int_at (k := s) hlt
       subst hAe
       have hxe : xa = linAcc d s := by
        unfold linAcc
        rw [hxa]
        rfl
       have HXE := Lib.hid hxe
       obtain ⟨k0, k1, k2, k3⟩ := HCD.out w5 HSJ.out.bel
       by_cases h0 : 0 ≤ xa
       ·
        have hd0 : decide ((0 : Int) ≤ xa) = true := by simpa using h0
        have HYES := Lib.hid (show linU d (s + 1) = (linU d s ++ linPart d s C) ++ [((s : Int), [])] by
         have h1 := h0
         rw [HXE.out] at h1
         rw [hlr, linEnd, if_pos h1])
        obtain ⟨AL, cL, hbx, hpu⟩ := HSJ.out.push hll
        obtain ⟨A', c', u5, hrun, hf5, hc5, hst5⟩ := hpu w5 (fun _ => False) _ _ (.refl _ _) (linOk0 (s := (s : Int))) (fun _ h => h.elim)
        have HBX := Lib.hid hbx
        have HRUN := Lib.hid hrun
        have HST5 := Lib.hid hst5
        have g3 : w5.cell? ⟨Bg, 3, none⟩ = some (.slice AL (linU d s ++ linPart d s C).length cL) := by simp [World.cell?, hbx]
        obtain ⟨ll, hl⟩ : ∃ ll, ll = (linU d s ++ linPart d s C).length := ⟨_, rfl⟩
        rw [← hl] at HRUN HST5 g3 hc5
        clear hll hbx hpu hl hrun hst5 hxa hxe hlr hb5
        go_wp2_with (at_builtin; refine Lib.wpList_append_run (o := ⟨some 82, _, _, _, _, _⟩) _ rfl _ _ _ _ rfl _ _ rfl rfl _ _ HRUN.out ?_)
        go_roundg (nA - (s + 1))
        case measure => rw [HGK.out]; omega
        case rel => exact ⟨s + 1, by omega, rfl, by go_num, by rw [HYES.out]; exact HST5.out⟩
       ·
        have hd0 : decide ((0 : Int) ≤ xa) = false := by simpa using h0
        have HNO := Lib.hid (show linU d (s + 1) = linU d s ++ linPart d s C by
         have h1 := h0
         rw [HXE.out] at h1
         rw [hlr, linEnd, if_neg h1, List.append_nil])
        clear hll hxa hxe hlr hb5
        go_wp2_with fail
        go_roundg (nA - (s + 1))
        case measure => rw [HGK.out]; omega
        case rel => exact ⟨s + 1, by omega, rfl, by go_num, by rw [HNO.out]; exact HSJ.out⟩
    ·
     obtain rfl : nA = s := by omega
     obtain ⟨AL, cL, hbx, hgl⟩ := HST.out.box
     have HBX := Lib.hid hbx
     obtain ⟨ll, hl⟩ : ∃ ll, ll = (linU d nA).length := ⟨_, rfl⟩
     have hsl := hgl.sl
     rw [← hl] at hsl HBX
     have HSL := Lib.hid hsl
     have HLN := Lib.hid hl
     have HBG4 := Lib.hid ((HST.out.bel.block _ (heap_lt HRB1.out)).trans HRB1.out)
     have HCX := Lib.hid (show ∀ u : World, Below w4.heap.size w4 u → (u.cell? ⟨Bg, 0, none⟩ = some (.int .i64 (C : Int)) ∧ u.cell? ⟨Bg, 1, none⟩ = some (.int .i64 (nA : Int)) ∧ u.cell? ⟨Bg, 2, none⟩ = some (.int .i64 d.1) ∧ u.cell? ⟨Bg, 3, none⟩ = some (.slice AL ll cL)) ∧ u.heap[w.heap.size + 1]? = some (.cells #[.int .i64 0, .int .i64 0, .int .i64 0, .slice none 0 0] 52 (0, 0)) from fun u hu => by
      have h1 := (hu.block _ (heap_lt HBX.out)).trans HBX.out
      exact ⟨⟨by simp [World.cell?, h1], by simp [World.cell?, h1], by simp [World.cell?, h1], by simp [World.cell?, h1]⟩, (hu.block _ (heap_lt HBG4.out)).trans HBG4.out⟩)
     have HBW4 := Lib.hid (HB1.out.trans (HST.out.bel.mono HB1.out.size))
     have hwb : w.heap.size < Bg := by have := HST.out.le; have := HZ1.out; omega
     obtain ⟨⟨k0, k1, k2, k3⟩, _⟩ := HCX.out w4 (.refl _ _)
     clear hbx hgl hsl hl
     go_wp2_with fail
     clear k0 k1 k2 k3
     refine (gramCheck w4 _ AL ll cL ((C : Int), (nA : Int), d.1, linU d nA) HSL.out HGV.out).mono ?_
     rintro e w6 ⟨rfl, hb6⟩
     have HB46 := Lib.hid hb6
     have HSL6 := Lib.hid (HSL.out.below hb6)
     obtain ⟨⟨k0, k1, k2, k3⟩, hrb⟩ := HCX.out w6 hb6
     have r0 : w6.cell? ⟨w.heap.size + 1, 0, none⟩ = some (.int .i64 0) := by simp [World.cell?, hrb]
     have r1 : w6.cell? ⟨w.heap.size + 1, 1, none⟩ = some (.int .i64 0) := by simp [World.cell?, hrb]
     have r2 : w6.cell? ⟨w.heap.size + 1, 2, none⟩ = some (.int .i64 0) := by simp [World.cell?, hrb]
     have r3 : w6.cell? ⟨w.heap.size + 1, 3, none⟩ = some (.slice none 0 0) := by simp [World.cell?, hrb]
     have f0 : w6.frozen? ⟨w.heap.size + 1, 0, none⟩ = false := by simp [World.frozen?, hrb]
     have f1 : w6.frozen? ⟨w.heap.size + 1, 1, none⟩ = false := by simp [World.frozen?, hrb]
     have f2 : w6.frozen? ⟨w.heap.size + 1, 2, none⟩ = false := by simp [World.frozen?, hrb]
     have f3 : w6.frozen? ⟨w.heap.size + 1, 3, none⟩ = false := by simp [World.frozen?, hrb]
     have HLW := Lib.hid (show ∀ u : World, Only w6 u (fun b => b = w.heap.size + 1) → Sl RRule u (fun b => w.heap.size ≤ b) AL ll cL (linU d nA) from fun u hu => (HSL6.out.keep (hu.kept fun b hb e => by have := hb; have := HST.out.le; have := HZ1.out; omega)).more fun b hb => by omega)
     have HBW6 := Lib.hid (HBW4.out.trans (hb6.mono HBW4.out.size))
     clear hb6 hrb
     go_wp2_with fail
     refine bodyPost_ret (v := .tuple #[.agg #[.int .i64 (C : Int), .int .i64 (nA : Int), .int .i64 d.1, .slice AL ll cL], .int .i64 0]) (by simp [results, Try.results33, go_sem, r0, r1, r2, r3, f0, f1, f2, f3]) rfl ?_
     rw [← HLN.out]
     refine ⟨⟨AL, cL, rfl, HLW.out _ ?_⟩, (((HBW6.out.setCell (by simp) _).setCell (by simp) _).setCell (by simp) _).setCell (by simp) _⟩
     exact (Only.set w6 (w.heap.size + 1) 0 _ (X := fun b => b = w.heap.size + 1) rfl).trans ((Only.set _ (w.heap.size + 1) 1 _ (X := fun b => b = w.heap.size + 1) rfl).trans ((Only.set _ (w.heap.size + 1) 2 _ (X := fun b => b = w.heap.size + 1) rfl).trans (Only.set _ (w.heap.size + 1) 3 _ (X := fun b => b = w.heap.size + 1) rfl)))
  exact AllL.nil
 exact AllL.nil
end Go.Proofs.Ytgaahpddlohjoaa
