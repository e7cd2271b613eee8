/- Packs -/
import Derived.Test.YtimklgbljjamkaaDoorCs07
import Derived.Test.YtimklgbljjamkaaDoorCs41
namespace Go.Proofs.YtimklgbljjamkaaDoor
open Go.RowKit
theorem pkAll (C : PkC) (hC : C.Ok) : ∀ l, PkAt C l
 | [] => pk0 C hC
 | s :: l => pkS C hC s l (pkAll C hC l)
theorem splP_len (R : List RuleD) (ws : List Int) : ∀ (l : List SymD) (i j : Nat), (splP R ws l i j).length ≤ (j + 1) ^ l.length
 | [], i, j => by
  rw [splP_nil]
  split <;> simp
 | s :: l, i, j => by
  rw [splP_cons, List.length_flatMap]
  have h1 : ∀ (m : List Nat) (f : Nat → Nat) (c : Nat), (∀ x, f x ≤ c) → (m.map f).sum ≤ m.length * c := by
   intro m f c hf
   induction m with
   | nil => simp
   | cons x m ih =>
    rw [List.map_cons, List.sum_cons, List.length_cons, Nat.succ_mul]
    have := hf x
    omega
  refine Nat.le_trans (h1 _ _ ((j + 1) ^ l.length) fun k => ?_) ?_
  ·
   rw [List.length_map]
   exact splP_len R ws l k j
  ·
   rw [List.length_cons, Nat.pow_succ, Nat.mul_comm]
   refine Nat.mul_le_mul_left _ (Nat.le_trans (List.length_filter_le _ _) ?_)
   rw [List.length_range]
   exact Nat.le_refl _
noncomputable def prK (R : List RuleD) (ws : List Int) (x : KeyD) (p : RuleD × Nat) : List CPk :=
 if x.1.1 = true ∨ p.1.1 ≠ x.1.2 then [] else (splP R ws p.1.2 x.2.1 x.2.2).map fun ks => (p.2, ks)
noncomputable def pkT (R : List RuleD) (ws : List Int) (x : KeyD) (i : Nat) : List CPk := (R.zipIdx.take i).flatMap (prK R ws x)
section
variable {R : List RuleD} {ws : List Int} {x : KeyD}
theorem pkT_all {i : Nat} (h : R.length ≤ i) : pkT R ws x i = packsP R ws x := by
 unfold pkT packsP
 rw [List.take_of_length_le (by rw [List.length_zipIdx]; exact h)]
 by_cases hx : x.1.1 = true
 ·
  rw [if_pos hx]
  apply List.eq_nil_iff_forall_not_mem.2
  intro p hp
  obtain ⟨q, _, hq⟩ := List.mem_flatMap.1 hp
  unfold prK at hq
  rw [if_pos (.inl hx)] at hq
  cases hq
 ·
  rw [if_neg hx]
  congr 1
  funext p
  unfold prK
  by_cases e : p.1.1 = x.1.2
  ·
   rw [if_neg (by simp [hx, e]), if_pos e]
  ·
   rw [if_pos (.inr e), if_neg e]
theorem pkT_succ {i : Nat} {r : RuleD} (h : R[i]? = some r) : pkT R ws x (i + 1) = pkT R ws x i ++ prK R ws x (r, i) := by
 unfold pkT
 rw [List.take_add_one, show R.zipIdx[i]? = some (r, i) by rw [List.getElem?_zipIdx, h]; simp, Option.toList_some, List.flatMap_append]
 simp
theorem prK_len (hx : x.2.2 ≤ 4) {p : RuleD × Nat} (hp : p.1.2.length ≤ 4) : (prK R ws x p).length ≤ 625 := by
 unfold prK
 split
 ·
  simp
 ·
  rw [List.length_map]
  refine Nat.le_trans (splP_len R ws p.1.2 x.2.1 x.2.2) ?_
  refine Nat.le_trans (Nat.pow_le_pow_left (by omega : x.2.2 + 1 ≤ 5) _) ?_
  exact Nat.le_trans (Nat.pow_le_pow_right (by omega) hp) (by decide)
theorem pkT_len (hx : x.2.2 ≤ 4) (hR : ∀ r ∈ R, r.2.length ≤ 4) : ∀ i, i ≤ R.length → (pkT R ws x i).length ≤ 625 * i
 | 0, _ => by unfold pkT; simp
 | i + 1, hi => by
  have h1 : R[i]? = some R[i] := List.getElem?_eq_getElem (by omega)
  rw [pkT_succ h1, List.length_append]
  have h2 := pkT_len hx hR i (by omega)
  have h3 := prK_len (R := R) (ws := ws) hx (p := (R[i], i)) (hR _ (List.getElem_mem _))
  omega
end
set_option linter.unusedSimpArgs false in
set_option maxRecDepth 1000000 in
set_option maxHeartbeats 8000000 in
theorem corePacks (w : World) (hT : Tab w) (Sg Sw : Nat → Prop) (AR : Option Addr) (nR cR : Nat) (g : GramD) (hg : Sl RRule w Sg AR nR cR g.2.2.2) (hv : GValid g) (Aw : Option Addr) (nw cw : Nat) (ws : List Int) (hws : Rd w Sw 1 Aw nw (ws.map (Value.int .i64))) (hnw : nw ≤ 4)
    (lo hi gN : Nat) (gs : Nat → Nat) (E : Nat → Nat → Nat) (hG : Grid mV 93 w lo hi gN gs (nonsOf g) (nw + 1) E) (hhi : hi ≤ w.heap.size) (hE : ∀ a i, E a i < 2 ^ (nw + 1)) (hsn : SoundW g.2.2.2 ws (nonsOf g) E) (hcl : ClosedW g.2.2.2 ws E) (key : KeyD) (hk1 : key.2.1 ≤ nw) (hk2 : key.2.2 ≤ nw) :
    Calls Tryd.prog 72 #[.agg #[.int .i64 g.1, .int .i64 g.2.1, .int .i64 g.2.2.1, .slice AR nR cR], .slice Aw nw cw, .slice (some ⟨gN, 0, none⟩) (nonsOf g) (nonsOf g), .agg #[.bool key.1.1, .int .i64 key.1.2, .int .i64 (key.2.1 : Int), .int .i64 (key.2.2 : Int)]] w fun e w' =>
     (∃ (F : Nat → Prop) (v : Value), e = .returned v ∧ GL RCPk 145 w' F v (packsP g.2.2.2 ws key) ∧ ∀ b, F b → w.heap.size ≤ b) ∧ Below w.heap.size w w' := by
 obtain ⟨N, hN⟩ : ∃ N, N = nonsOf g := ⟨_, rfl⟩
 have hRN := rulesN_of hv
 rw [← hN] at hRN hG hsn ⊢
 have hN10 : N ≤ 10 := by have := hv.n2; rw [hN]; unfold nonsOf; omega
 have hnR : nR ≤ 32 := by have := hv.rl; have := hg.len; omega
 have hwl : ws.length = nw := by simpa using hws.1
 obtain ⟨B0, hB0⟩ : ∃ B0, B0 = w.heap.size := ⟨_, rfl⟩
 obtain ⟨w5, hw5⟩ : ∃ w5 : World, w5 = ((((w.alloc (.cells #[.int .i64 g.1, .int .i64 g.2.1, .int .i64 g.2.2.1, .slice AR nR cR] 25)).alloc (.cells #[.slice Aw nw cw] 22)).alloc (.cells #[.slice (some ⟨gN, 0, none⟩) N N] 95)).alloc (.cells #[.bool key.1.1, .int .i64 key.1.2, .int .i64 (key.2.1 : Int), .int .i64 (key.2.2 : Int)] 138)).alloc (.cells #[.slice none 0 0] 142) := ⟨_, rfl⟩
 have z5 : w5.heap.size = B0 + 1 + 1 + 1 + 1 + 1 := by rw [hw5, hB0]; simp
 have hb5 : Below B0 w w5 := by rw [hw5, hB0]; exact (((((Below.refl _ _).alloc (Nat.le_refl _) _).alloc (by simp) _).alloc (by simp; omega) _).alloc (by simp; omega) _).alloc (by simp; omega) _
 have hg0 : w5.heap[B0]? = some (.cells #[.int .i64 g.1, .int .i64 g.2.1, .int .i64 g.2.2.1, .slice AR nR cR] 25 (0, 0)) := by
  rw [hw5, Below.heap_alloc _ _ _ (by simp; omega), Below.heap_alloc _ _ _ (by simp; omega), Below.heap_alloc _ _ _ (by simp; omega), Below.heap_alloc _ _ _ (by simp; omega), hB0]
  exact heap_alloc_new _ _
 have hg1 : w5.heap[B0 + 1]? = some (.cells #[.slice Aw nw cw] 22 (0, 0)) := by
  rw [hw5, Below.heap_alloc _ _ _ (by simp; omega), Below.heap_alloc _ _ _ (by simp; omega), Below.heap_alloc _ _ _ (by simp; omega)]
  exact heap_new _ _ _ (by simp [hB0])
 have hg2 : w5.heap[B0 + 1 + 1]? = some (.cells #[.slice (some ⟨gN, 0, none⟩) N N] 95 (0, 0)) := by
  rw [hw5, Below.heap_alloc _ _ _ (by simp; omega), Below.heap_alloc _ _ _ (by simp; omega)]
  exact heap_new _ _ _ (by simp [hB0])
 have hg3 : w5.heap[B0 + 1 + 1 + 1]? = some (.cells #[.bool key.1.1, .int .i64 key.1.2, .int .i64 (key.2.1 : Int), .int .i64 (key.2.2 : Int)] 138 (0, 0)) := by
  rw [hw5, Below.heap_alloc _ _ _ (by simp; omega)]
  exact heap_new _ _ _ (by simp [hB0])
 have hg4 : w5.heap[B0 + 1 + 1 + 1 + 1]? = some (.cells #[.slice none 0 0] 142 (0, 0)) := by
  rw [hw5]
  exact heap_new _ _ _ (by simp [hB0])
 have HT := Lib.hid (hT.below hb5 (by have := hT.1; omega))
 have HG := Lib.hid (hg.fit.below (by rw [← hB0]; exact hb5))
 have HWS := Lib.hid ((hws.fit (by decide)).below (by rw [← hB0]; exact hb5))
 have HGR := Lib.hid (hG.below (by rw [← hB0]; exact hb5) hhi)
 have HX := Lib.hid (show ∀ u : World, Only w5 u (fun b => b = B0 + 1 + 1 + 1 + 1) → (u.heap[B0]? = some (.cells #[.int .i64 g.1, .int .i64 g.2.1, .int .i64 g.2.2.1, .slice AR nR cR] 25 (0, 0)) ∧ u.heap[B0 + 1]? = some (.cells #[.slice Aw nw cw] 22 (0, 0)) ∧ u.heap[B0 + 1 + 1]? = some (.cells #[.slice (some ⟨gN, 0, none⟩) N N] 95 (0, 0)) ∧ u.heap[B0 + 1 + 1 + 1]? = some (.cells #[.bool key.1.1, .int .i64 key.1.2, .int .i64 (key.2.1 : Int), .int .i64 (key.2.2 : Int)] 138 (0, 0))) from fun u hu =>
  ⟨(hu.block _ (heap_lt hg0) (by omega)).trans hg0, (hu.block _ (heap_lt hg1) (by omega)).trans hg1, (hu.block _ (heap_lt hg2) (by omega)).trans hg2, (hu.block _ (heap_lt hg3) (by omega)).trans hg3⟩)
 have HB5 := Lib.hid hb5
 have HZ5 := Lib.hid z5
 have HW5 := Lib.hid (show w5 = ((((w.alloc (.cells #[.int .i64 g.1, .int .i64 g.2.1, .int .i64 g.2.2.1, .slice AR nR cR] 25)).alloc (.cells #[.slice Aw nw cw] 22)).alloc (.cells #[.slice (some ⟨gN, 0, none⟩) N N] 95)).alloc (.cells #[.bool key.1.1, .int .i64 key.1.2, .int .i64 (key.2.1 : Int), .int .i64 (key.2.2 : Int)] 138)).alloc (.cells #[.slice none 0 0] 142) from hw5)
 have HB0 := Lib.hid hB0
 have HBO := Lib.hid hg4
 have HN := Lib.hid hN
 have HRN := Lib.hid hRN
 have HV := Lib.hid hv
 have HWL := Lib.hid hwl
 have HCX := Lib.hid (And.intro hE (And.intro hsn hcl))
 have HHI := Lib.hid hhi
 have HLEN := Lib.hid hg.len
 have q3 : w5.cell? ⟨B0, 3, none⟩ = some (.slice AR nR cR) := by simp [World.cell?, hg0]
 rw [hw5, hB0] at q3
 clear hT hg hv hws hG hE hsn hcl hN hRN hwl hw5 hb5 hg0 hg1 hg2 hg3 hg4 z5 hhi
 go_enter Tryd.func72, Tryd.ntmps72
 go_wp2_with fail
 rw [← HW5.out, ← HB0.out]
 clear q3 hB0
 go_loopg [16] nR (fun gk v16 wr => ∃ (i : Nat) (F : Nat → Prop) (v : Value), i ≤ nR ∧ gk = nR - i ∧ v16 = .int .i64 i ∧ Only w5 wr (fun b => b = B0 + 1 + 1 + 1 + 1) ∧ wr.heap[B0 + 1 + 1 + 1 + 1]? = some (.cells #[v] 142 (0, 0)) ∧ GL RCPk 145 wr F v (pkT g.2.2.2 ws key i) ∧ ∀ b, F b → w5.heap.size ≤ b ∧ b < wr.heap.size)
 case atStart => exact ⟨0, fun _ => False, .slice none 0 0, Nat.zero_le _, rfl, rfl, Only.refl _ _, HBO.out, by unfold pkT; exact GL.nil _ _, fun b h => h.elim⟩
 case round =>
  obtain ⟨i, F, v, hile, hgi, rfl, ho, hbo, hgl, hf⟩ := hrel
  obtain ⟨w6, rfl⟩ : ∃ w6 : World, w6 = wr := ⟨_, rfl⟩
  have HGI := Lib.hid hgi
  have HO6 := Lib.hid ho
  have HBO6 := Lib.hid hbo
  have HGL6 := Lib.hid hgl
  have HF6 := Lib.hid hf
  obtain ⟨x0, x1, x2, x3⟩ := HX.out w6 ho
  have HX6 := Lib.hid (And.intro x0 (And.intro x1 (And.intro x2 x3)))
  clear hgi ho hgl hf
  by_cases hil : i < nR
  ·
   have hiI : (i : Int) < (nR : Int) := by omega
   have hi0 : (0 : Int) ≤ (i : Int) := by omega
   obtain ⟨bR, oR, u1, u2, r, rfl, hSb, hr, hok, hc1, hc2⟩ := (HG.out.keep (HO6.out.kept fun b hb e => by have := hb.2; have := HB0.out; omega)).at2 (k := i) rfl hil
   obtain ⟨A1, m1, c1, h2, hsl⟩ := RRule.cells.1 hok
   injection h2 with e1 h2
   injection h2 with e2 _
   subst e1
   subst e2
   obtain ⟨ra, rr⟩ := r
   have hc1 : w6.cell? ⟨bR, oR + i * 2, none⟩ = some (.int .i64 ra) := hc1
   have hc2 : w6.cell? ⟨bR, oR + i * 2 + 1, none⟩ = some (.slice A1 m1 c1) := hc2
   have HR := Lib.hid hr
   have HSL := Lib.hid hsl
   obtain ⟨w7, hw7⟩ : ∃ w7 : World, w7 = (w6.alloc (.cells #[.int .i64 (i : Int)] 3)).alloc (.cells #[.int .i64 ra, .slice A1 m1 c1] 61) := ⟨_, rfl⟩
   have hb7 : Below w6.heap.size w6 w7 := by rw [hw7]; exact ((Below.refl _ _).alloc (Nat.le_refl _) _).alloc (by simp) _
   have hbi : w7.heap[w6.heap.size]? = some (.cells #[.int .i64 (i : Int)] 3 (0, 0)) := by rw [hw7, Below.heap_alloc _ _ _ (by simp)]; exact heap_alloc_new _ _
   have hbr : w7.heap[w6.heap.size + 1]? = some (.cells #[.int .i64 ra, .slice A1 m1 c1] 61 (0, 0)) := by rw [hw7]; exact heap_new _ _ _ (by simp)
   have hbk7 := (hb7.block _ (heap_lt x3)).trans x3
   have j0 : w7.cell? ⟨B0 + 1 + 1 + 1, 0, none⟩ = some (.bool key.1.1) := by simp [World.cell?, hbk7]
   have j1 : w7.cell? ⟨B0 + 1 + 1 + 1, 1, none⟩ = some (.int .i64 key.1.2) := by simp [World.cell?, hbk7]
   have j2 : w7.cell? ⟨B0 + 1 + 1 + 1, 2, none⟩ = some (.int .i64 (key.2.1 : Int)) := by simp [World.cell?, hbk7]
   have HB7 := Lib.hid hb7
   have HBI := Lib.hid hbi
   have HZ7 := Lib.hid (show w7.heap.size = w6.heap.size + 1 + 1 by rw [hw7]; simp)
   have HW7 := Lib.hid hw7
   rw [hw7] at j0 j1 j2
   clear x0 x1 x2 x3 hok hsl hr hw7 hb7 hbi hbr hbk7 hbo hSb
   by_cases hq : ra = key.1.2
   ·
    subst hq
    have hqb : (key.1.2 != key.1.2) = false := by simp
    by_cases htm : key.1.1 = true
    ·
     rw [htm] at j0
     have HSK := Lib.hid (show pkT g.2.2.2 ws key (i + 1) = pkT g.2.2.2 ws key i from by rw [pkT_succ HR.out]; unfold prK; rw [if_pos (.inl htm), List.append_nil])
     clear htm
     go_wp2_with fail
     rw [← HW7.out]
     go_roundg (nR - (i + 1))
     case measure => rw [HGI.out]; omega
     case rel => exact ⟨i + 1, F, v, by omega, rfl, by go_num, HO6.out.trans (.of_below HB7.out (Nat.le_refl _) _), (HB7.out.block _ (heap_lt HBO6.out)).trans HBO6.out, by rw [HSK.out]; exact HGL6.out.below HB7.out, fun b hb => ⟨(HF6.out b hb).1, Nat.lt_of_lt_of_le (HF6.out b hb).2 HB7.out.size⟩⟩
    ·
     have htf : key.1.1 = false := by simpa using htm
     rw [htf] at j0
     have HADD := Lib.hid (show pkT g.2.2.2 ws key (i + 1) = pkT g.2.2.2 ws key i ++ addK ⟨B0 + 1 + 1 + 1, B0 + 1 + 1 + 1 + 1, w6.heap.size, B0 + 1, B0 + 1 + 1, w6.heap.size + 1 + 1, key, i, Aw, nw, cw, ws, fun b => Sw b ∧ b < w.heap.size, lo, hi, gN, gs, N, E, g.2.2.2⟩ rr key.2.1 [] from by
      rw [pkT_succ HR.out]
      unfold prK addK
      rw [if_neg (by simp [htf])]
      simp)
     obtain ⟨C, hC⟩ : ∃ C : PkC, C = ⟨B0 + 1 + 1 + 1, B0 + 1 + 1 + 1 + 1, w6.heap.size, B0 + 1, B0 + 1 + 1, w6.heap.size + 1 + 1, key, i, Aw, nw, cw, ws, fun b => Sw b ∧ b < w.heap.size, lo, hi, gN, gs, N, E, g.2.2.2⟩ := ⟨_, rfl⟩
     rw [← hC] at HADD
     have hz5 := HZ5.out
     have hz0 := HB0.out
     have hhi := HHI.out
     have hz56 := HO6.out.size
     have hz7 := HZ7.out
     have hrr := (HV.out.rules _ (List.mem_of_getElem? HR.out)).2.1
     simp only at hrr
     have HCO := Lib.hid (show C.Ok by
      rw [hC]
      exact ⟨⟨by dsimp only; omega, by dsimp only; omega, by dsimp only; omega, by dsimp only; omega, by dsimp only; omega⟩, by dsimp only; omega, fun h => by have := h.2; dsimp only at this; omega, .inr (by dsimp only; omega), HWL.out, by dsimp only; omega, hk2, hN10, HRN.out, HCX.out.1, HCX.out.2.1, HCX.out.2.2⟩)
     obtain ⟨w8, hw8⟩ : ∃ w8 : World, w8 = w7.alloc (.cells #[.func (.func 95) #[] #[.pointer (some ⟨B0 + 1 + 1 + 1, 0, none⟩), .pointer (some ⟨B0 + 1 + 1 + 1 + 1, 0, none⟩), .pointer (some ⟨w6.heap.size, 0, none⟩), .pointer (some ⟨B0 + 1, 0, none⟩), .pointer (some ⟨B0 + 1 + 1, 0, none⟩), .pointer (some ⟨w6.heap.size + 1 + 1, 0, none⟩)]] 178) := ⟨_, rfl⟩
     have hb8 : Below w7.heap.size w7 w8 := by rw [hw8]; exact (Below.refl _ _).alloc (Nat.le_refl _) _
     have hb68 : Below w6.heap.size w6 w8 := HB7.out.trans (hb8.mono HB7.out.size)
     have ho58 : Only w5 w8 (fun b => b = B0 + 1 + 1 + 1 + 1) := HO6.out.trans (.of_below hb68 (Nat.le_refl _) _)
     obtain ⟨y0, y1, y2, y3⟩ := HX.out w8 ho58
     have hkp : Kept (fun b => b < w.heap.size) w5 w8 := ho58.kept fun b hb e => by omega
     have HPK := Lib.hid (show PkIn C w8 F v (pkT g.2.2.2 ws key i) by
      rw [hC]
      refine ⟨⟨HT.out.only ho58 (by omega), y3, (hb8.block _ (heap_lt HBI.out)).trans HBI.out, y1, y2, ?_, HWS.out.keep (hkp.sub fun b hb => hb.2), HGR.out.keep fun q _ h2 => ho58.block q (by omega) (by omega), Nat.le_trans hhi (by have := hb68.size; omega), fun b hb => by have := hb68.size; have := hb.2; omega⟩, (hb68.block _ (heap_lt HBO6.out)).trans HBO6.out, HGL6.out.below hb68, fun b hb => ?_⟩
      ·
       dsimp only
       rw [hw8]
       exact heap_new _ _ _ (by omega)
      ·
       have h1 := HF6.out b hb
       refine ⟨⟨by dsimp only; omega, by dsimp only; omega, by dsimp only; omega, by dsimp only; omega, by dsimp only; omega, by omega, fun h => by have := h.2; omega, .inr (by dsimp only; omega)⟩, by dsimp only; omega⟩)
     have HO58 := Lib.hid ho58
     have HW8 := Lib.hid (show w8 = ((w6.alloc (.cells #[.int .i64 (i : Int)] 3)).alloc (.cells #[.int .i64 key.1.2, .slice A1 m1 c1] 61)).alloc (.cells #[.func (.func 95) #[] #[.pointer (some ⟨B0 + 1 + 1 + 1, 0, none⟩), .pointer (some ⟨B0 + 1 + 1 + 1 + 1, 0, none⟩), .pointer (some ⟨w6.heap.size, 0, none⟩), .pointer (some ⟨B0 + 1, 0, none⟩), .pointer (some ⟨B0 + 1 + 1, 0, none⟩), .pointer (some ⟨w6.heap.size + 1 + 1, 0, none⟩)]] 178) by rw [hw8, HW7.out])
     have j3 : w8.cell? ⟨B0 + 1 + 1 + 1, 2, none⟩ = some (.int .i64 (key.2.1 : Int)) := by simp [World.cell?, y3]
     rw [HW8.out] at j3
     have HSL8 := Lib.hid (HSL.out.below hb68)
     have HSS := Lib.hid (show ∀ b, (Sg b ∧ b < w.heap.size) → b < w8.heap.size ∧ b ≠ B0 + 1 + 1 + 1 + 1 ∧ ¬ F b from fun b hb => ⟨by have := hb68.size; have := hb.2; omega, by have := hb.2; omega, fun h => by have := (HF6.out b h).1; have := hb.2; omega⟩)
     have HB68 := Lib.hid hb68
     have HLB := Lib.hid (show (pkT g.2.2.2 ws key i).length + (addK C rr key.2.1 []).length ≤ 100000 from by
      have h1 := pkT_len (R := g.2.2.2) (ws := ws) (x := key) (by omega) (fun r hr => (HV.out.rules r hr).2.1) (i + 1) (by rw [← HLEN.out]; omega)
      rw [HADD.out, List.length_append] at h1
      omega)
     have HNO := Lib.hid (show NonOk C.N rr from by rw [hC]; exact (HRN.out _ (List.mem_of_getElem? HR.out)).2)
     have HCE := Lib.hid hC
     clear htf htm
     have hent := enters_pk
     clear hC hw8 hb8 hb68 ho58 y0 y1 y2 y3 hkp hz5 hz56 hz7 hhi hz0
     go_wp2_with fail
     go_at_call 95
     rw [← HW8.out]
     have hcall := pkAll C HCO.out rr w8 F v (pkT g.2.2.2 ws key i) _ A1 m1 c1 key.2.1 (fun _ => False) none 0 0 [] HPK.out HSL8.out (fun b hb => by rw [show C.Bo = B0 + 1 + 1 + 1 + 1 by rw [HCE.out]]; exact HSS.out b hb) HNO.out hrr (by rw [show C.nw = nw by rw [HCE.out]]; exact hk1) (Sl.nil _ _ _ _) (fun b h => h.elim) (by simp; omega) HLB.out
     rw [show C.Bk = B0 + 1 + 1 + 1 by rw [HCE.out], show C.Bo = B0 + 1 + 1 + 1 + 1 by rw [HCE.out], show C.Bi = w6.heap.size by rw [HCE.out], show C.Bw = B0 + 1 by rw [HCE.out], show C.Be = B0 + 1 + 1 by rw [HCE.out], show C.Bv = w6.heap.size + 1 + 1 by rw [HCE.out]] at hcall
     refine hcall.mono ?_
     clear hcall
     rintro e w9 ⟨F2, v2, rfl, hp9, ho9, hf9⟩
     have HP9 := Lib.hid hp9.fit
     have HF9 := Lib.hid (show ∀ b, (F2 b ∧ b < w9.heap.size) → w5.heap.size ≤ b ∧ b < w9.heap.size from fun b hb => ⟨by
      rcases hf9 b hb.1 with h | h
      ·
       exact (HF6.out b h).1
      ·
       have := HO58.out.size; omega, hb.2⟩)
     have HO9 := Lib.hid (show Only w5 w9 (fun b => b = B0 + 1 + 1 + 1 + 1) from HO58.out.newerP ho9 fun b hb hy => by
      rcases hy with h | h
      ·
       rw [h, HCE.out]
      ·
       have := (HF6.out b h).1; omega)
     have HBO9 := Lib.hid (show w9.heap[B0 + 1 + 1 + 1 + 1]? = some (.cells #[v2] 142 (0, 0)) from by
      have h1 := HP9.out.bo
      rw [show C.Bo = B0 + 1 + 1 + 1 + 1 by rw [HCE.out]] at h1
      exact h1)
     clear hp9 ho9 hf9
     go_wp2_with fail
     go_roundg (nR - (i + 1))
     case measure => rw [HGI.out]; omega
     case rel => exact ⟨i + 1, _, v2, by omega, rfl, by go_num, HO9.out, HBO9.out, by rw [HADD.out]; exact HP9.out.out, HF9.out⟩
   ·
    have hqb : (ra != key.1.2) = true := by simp [hq]
    have HSK := Lib.hid (show pkT g.2.2.2 ws key (i + 1) = pkT g.2.2.2 ws key i from by rw [pkT_succ HR.out]; unfold prK; rw [if_pos (.inr hq), List.append_nil])
    go_wp2_with fail
    rw [← HW7.out]
    go_roundg (nR - (i + 1))
    case measure => rw [HGI.out]; omega
    case rel => exact ⟨i + 1, F, v, by omega, rfl, by go_num, HO6.out.trans (.of_below HB7.out (Nat.le_refl _) _), (HB7.out.block _ (heap_lt HBO6.out)).trans HBO6.out, by rw [HSK.out]; exact HGL6.out.below HB7.out, fun b hb => ⟨(HF6.out b hb).1, Nat.lt_of_lt_of_le (HF6.out b hb).2 HB7.out.size⟩⟩
  ·
   obtain rfl : nR = i := by omega
   have ko : w6.cell? ⟨B0 + 1 + 1 + 1 + 1, 0, none⟩ = some v := by simp [World.cell?, hbo]
   have HAL := Lib.hid (show pkT g.2.2.2 ws key nR = packsP g.2.2.2 ws key from pkT_all (by rw [← HLEN.out]; exact Nat.le_refl _))
   clear x0 x1 x2 x3 hbo
   go_wp2_with fail
   go_ret
   refine ⟨⟨F, v, rfl, by rw [← HAL.out]; exact HGL6.out, fun b hb => ?_⟩, ?_⟩
   ·
    have h1 := (HF6.out b hb).1
    have h2 := HZ5.out
    rw [← HB0.out]
    omega
   ·
    rw [← HB0.out]
    exact HB5.out.trans (HO6.out.below (B := B0) (fun b e => by omega) (by have := HZ5.out; omega))
end Go.Proofs.YtimklgbljjamkaaDoor
