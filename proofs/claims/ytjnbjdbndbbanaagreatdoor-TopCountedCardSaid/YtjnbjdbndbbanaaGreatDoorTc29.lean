/- Packs SortK -/
import Derived.Lib.OwnBridge
import Derived.Shelf.SlSortCmp.WholeK
import Derived.Test.YtjnbjdbndbbanaaGreatDoorTc28
namespace Go.Proofs.YtjnbjdbndbbanaaGreatDoor
open Go.RowKit
theorem pkAll (C : PkC) (hC : C.Ok) : ∀ l, PkAt C l
 | [] => pk0 C hC
 | s :: l => pkS C hC s l (pkAll C hC l)
theorem splP_len (R : List RuleD) (ws : List Int) : ∀ (l : List SymD) (i j : Nat), (splP R ws l i j).length ≤ (j + 1) ^ l.length
 | [], i, j => by
  rw [splP_nil]
  split <;> simp
 | s :: l, i, j => by
  rw [splP_cons, List.length_flatMap]
  have h1 : ∀ (m : List Nat) (f : Nat → Nat) (c : Nat), (∀ x, f x ≤ c) → (m.map f).sum ≤ m.length * c := by
   intro m f c hf
   induction m with
   | nil => simp
   | cons x m ih =>
    rw [List.map_cons, List.sum_cons, List.length_cons, Nat.succ_mul]
    have := hf x
    omega
  refine Nat.le_trans (h1 _ _ ((j + 1) ^ l.length) fun k => ?_) ?_
  ·
   rw [List.length_map]
   exact splP_len R ws l k j
  rw [List.length_cons, Nat.pow_succ, Nat.mul_comm]
  refine Nat.mul_le_mul_left _ (Nat.le_trans (List.length_filter_le _ _) ?_)
  rw [List.length_range]
  exact Nat.le_refl _
noncomputable def prK (R : List RuleD) (ws : List Int) (x : KeyD) (p : RuleD × Nat) : List CPk :=
 if x.1.1 = true ∨ p.1.1 ≠ x.1.2 then [] else (splP R ws p.1.2 x.2.1 x.2.2).map fun ks => (p.2, ks)
noncomputable def pkT (R : List RuleD) (ws : List Int) (x : KeyD) (i : Nat) : List CPk := (R.zipIdx.take i).flatMap (prK R ws x)
section
variable {R : List RuleD} {ws : List Int} {x : KeyD}
theorem pkT_all {i : Nat} (h : R.length ≤ i) : pkT R ws x i = packsP R ws x := by
 unfold pkT packsP
 rw [List.take_of_length_le (by rw [List.length_zipIdx]; exact h)]
 by_cases hx : x.1.1 = true
 ·
  rw [if_pos hx]
  apply List.eq_nil_iff_forall_not_mem.2
  intro p hp
  obtain ⟨q, _, hq⟩ := List.mem_flatMap.1 hp
  unfold prK at hq
  rw [if_pos (.inl hx)] at hq
  cases hq
 rw [if_neg hx]
 congr 1
 funext p
 unfold prK
 by_cases e : p.1.1 = x.1.2
 · rw [if_neg (by simp [hx, e]), if_pos e]
 rw [if_pos (.inr e), if_neg e]
theorem pkT_succ {i : Nat} {r : RuleD} (h : R[i]? = some r) : pkT R ws x (i + 1) = pkT R ws x i ++ prK R ws x (r, i) := by
 unfold pkT
 rw [List.take_add_one, show R.zipIdx[i]? = some (r, i) by rw [List.getElem?_zipIdx, h]; simp, Option.toList_some, List.flatMap_append]
 simp
theorem prK_len (hx : x.2.2 ≤ 12) {p : RuleD × Nat} (hp : p.1.2.length ≤ 4) : (prK R ws x p).length ≤ 28561 := by
 unfold prK
 split
 · simp
 rw [List.length_map]
 refine Nat.le_trans (splP_len R ws p.1.2 x.2.1 x.2.2) ?_
 refine Nat.le_trans (Nat.pow_le_pow_left (by omega : x.2.2 + 1 ≤ 13) _) ?_
 exact Nat.le_trans (Nat.pow_le_pow_right (by omega) hp) (by decide)
theorem pkT_len (hx : x.2.2 ≤ 12) (hR : ∀ r ∈ R, r.2.length ≤ 4) : ∀ i, i ≤ R.length → (pkT R ws x i).length ≤ 28561 * i
 | 0, _ => by unfold pkT; simp
 | i + 1, hi => by
  have h1 : R[i]? = some R[i] := List.getElem?_eq_getElem (by omega)
  rw [pkT_succ h1, List.length_append]
  have h2 := pkT_len hx hR i (by omega)
  have h3 := prK_len (R := R) (ws := ws) hx (p := (R[i], i)) (hR _ (List.getElem_mem _))
  omega
end
set_option linter.unusedSimpArgs false in
set_option maxRecDepth 1000000 in
set_option maxHeartbeats 8000000 in
theorem corePacks (w : World) (hT : Tab w) (Sg Sw : Nat → Prop) (AR : Option Addr) (nR cR : Nat) (g : GramD) (hg : Sl RRule w Sg AR nR cR g.2.2.2) (hv : GValid g) (Aw : Option Addr) (nw cw : Nat) (ws : List Int) (hws : Rd w Sw 1 Aw nw (ws.map (Value.int .i64))) (hnw : nw ≤ 12)
    (lo hi gN : Nat) (gs : Nat → Nat) (E : Nat → Nat → Nat) (hG : Grid mV 99 w lo hi gN gs (nonsOf g) (nw + 1) E) (hhi : hi ≤ w.heap.size) (hE : ∀ a i, E a i < 2 ^ (nw + 1)) (hsn : SoundW g.2.2.2 ws (nonsOf g) E) (hcl : ClosedW g.2.2.2 ws E) (key : KeyD) (hk1 : key.2.1 ≤ nw) (hk2 : key.2.2 ≤ nw) :
    Calls Tryz.prog 69 #[.agg #[.int .i64 g.1, .int .i64 g.2.1, .int .i64 g.2.2.1, .slice AR nR cR], .slice Aw nw cw, .slice (some ⟨gN, 0, none⟩) (nonsOf g) (nonsOf g), .agg #[.bool key.1.1, .int .i64 key.1.2, .int .i64 (key.2.1 : Int), .int .i64 (key.2.2 : Int)]] w fun e w' =>
     (∃ (F : Nat → Prop) (v : Value), e = .returned v ∧ GL RCPk 151 w' F v (packsP g.2.2.2 ws key) ∧ ∀ b, F b → w.heap.size ≤ b) ∧ Below w.heap.size w w' := by
 obtain ⟨N, hN⟩ := zE (nonsOf g)
 have hRN := rulesN_of hv
 rw [← hN] at hRN hG hsn ⊢
 have hN10 : N ≤ 10 := by have := hv.n2; rw [hN]; unfold nonsOf; omega
 have hnR : nR ≤ 32 := by have := hv.rl; have := hg.len; omega
 have hwl : ws.length = nw := by simpa using hws.1
 obtain ⟨B0, hB0⟩ := zE w.heap.size
 obtain ⟨w5, hw5⟩ : ∃ w5 : World, w5 = ((((w.alloc (.cells #[.int .i64 g.1, .int .i64 g.2.1, .int .i64 g.2.2.1, .slice AR nR cR] 25)).alloc (.cells #[.slice Aw nw cw] 22)).alloc (.cells #[.slice (some ⟨gN, 0, none⟩) N N] 72)).alloc (.cells #[.bool key.1.1, .int .i64 key.1.2, .int .i64 (key.2.1 : Int), .int .i64 (key.2.2 : Int)] 144)).alloc (.cells #[.slice none 0 0] 148) := ⟨_, rfl⟩
 have z5 : w5.heap.size = B0 + 1 + 1 + 1 + 1 + 1 := by rw [hw5, hB0]; simp
 have hb5 : Below B0 w w5 := by rw [hw5, hB0]; exact (((((Below.refl _ _).alloc (Nat.le_refl _) _).alloc (by simp) _).alloc (by simp; omega) _).alloc (by simp; omega) _).alloc (by simp; omega) _
 have hg0 : w5.heap[B0]? = some (.cells #[.int .i64 g.1, .int .i64 g.2.1, .int .i64 g.2.2.1, .slice AR nR cR] 25 (0, 0)) := by
  rw [hw5, Below.heap_alloc _ _ _ (by simp; omega), Below.heap_alloc _ _ _ (by simp; omega), Below.heap_alloc _ _ _ (by simp; omega), Below.heap_alloc _ _ _ (by simp; omega), hB0]
  exact heap_alloc_new _ _
 have hg1 : w5.heap[B0 + 1]? = some (.cells #[.slice Aw nw cw] 22 (0, 0)) := by
  rw [hw5, Below.heap_alloc _ _ _ (by simp; omega), Below.heap_alloc _ _ _ (by simp; omega), Below.heap_alloc _ _ _ (by simp; omega)]
  exact heap_new _ _ _ (by simp [hB0])
 have hg2 : w5.heap[B0 + 1 + 1]? = some (.cells #[.slice (some ⟨gN, 0, none⟩) N N] 72 (0, 0)) := by
  rw [hw5, Below.heap_alloc _ _ _ (by simp; omega), Below.heap_alloc _ _ _ (by simp; omega)]
  exact heap_new _ _ _ (by simp [hB0])
 have hg3 : w5.heap[B0 + 1 + 1 + 1]? = some (.cells #[.bool key.1.1, .int .i64 key.1.2, .int .i64 (key.2.1 : Int), .int .i64 (key.2.2 : Int)] 144 (0, 0)) := by
  rw [hw5, Below.heap_alloc _ _ _ (by simp; omega)]
  exact heap_new _ _ _ (by simp [hB0])
 have hg4 : w5.heap[B0 + 1 + 1 + 1 + 1]? = some (.cells #[.slice none 0 0] 148 (0, 0)) := by
  rw [hw5]
  exact heap_new _ _ _ (by simp [hB0])
 have HT := zh (hT.below hb5 (by have := hT.1; omega))
 have HG := zh (hg.fit.below (by rw [← hB0]; exact hb5))
 have HWS := zh ((hws.fit (by decide)).below (by rw [← hB0]; exact hb5))
 have HGR := zh (hG.below (by rw [← hB0]; exact hb5) hhi)
 have HX := zh (show ∀ u : World, Only w5 u (fun b => b = B0 + 1 + 1 + 1 + 1) → (u.heap[B0]? = some (.cells #[.int .i64 g.1, .int .i64 g.2.1, .int .i64 g.2.2.1, .slice AR nR cR] 25 (0, 0)) ∧ u.heap[B0 + 1]? = some (.cells #[.slice Aw nw cw] 22 (0, 0)) ∧ u.heap[B0 + 1 + 1]? = some (.cells #[.slice (some ⟨gN, 0, none⟩) N N] 72 (0, 0)) ∧ u.heap[B0 + 1 + 1 + 1]? = some (.cells #[.bool key.1.1, .int .i64 key.1.2, .int .i64 (key.2.1 : Int), .int .i64 (key.2.2 : Int)] 144 (0, 0))) from fun u hu =>
  ⟨(hu.block _ (heap_lt hg0) (by omega)).trans hg0, (hu.block _ (heap_lt hg1) (by omega)).trans hg1, (hu.block _ (heap_lt hg2) (by omega)).trans hg2, (hu.block _ (heap_lt hg3) (by omega)).trans hg3⟩)
 have HB5 := zh hb5
 have HZ5 := zh z5
 have HW5 := zh (show w5 = ((((w.alloc (.cells #[.int .i64 g.1, .int .i64 g.2.1, .int .i64 g.2.2.1, .slice AR nR cR] 25)).alloc (.cells #[.slice Aw nw cw] 22)).alloc (.cells #[.slice (some ⟨gN, 0, none⟩) N N] 72)).alloc (.cells #[.bool key.1.1, .int .i64 key.1.2, .int .i64 (key.2.1 : Int), .int .i64 (key.2.2 : Int)] 144)).alloc (.cells #[.slice none 0 0] 148) from hw5)
 have HB0 := zh hB0
 have HBO := zh hg4
 have HN := zh hN
 have HRN := zh hRN
 have HV := zh hv
 have HWL := zh hwl
 have HCX := zh (And.intro hE (And.intro hsn hcl))
 have HHI := zh hhi
 have HLEN := zh hg.len
 have q3 : w5.cell? ⟨B0, 3, none⟩ = some (.slice AR nR cR) := by simp [World.cell?, hg0]
 rw [hw5, hB0] at q3
 clear hT hg hv hws hG hE hsn hcl hN hRN hwl hw5 hb5 hg0 hg1 hg2 hg3 hg4 z5 hhi
 go_enter Tryz.func69, Tryz.ntmps69
 go_wp2_with fail
 rw [← HW5.out, ← HB0.out]
 clear q3 hB0
 go_loopg [16] nR (fun gk v16 wr => ∃ (i : Nat) (F : Nat → Prop) (v : Value), i ≤ nR ∧ gk = nR - i ∧ v16 = .int .i64 i ∧ Only w5 wr (fun b => b = B0 + 1 + 1 + 1 + 1) ∧ wr.heap[B0 + 1 + 1 + 1 + 1]? = some (.cells #[v] 148 (0, 0)) ∧ GL RCPk 151 wr F v (pkT g.2.2.2 ws key i) ∧ ∀ b, F b → w5.heap.size ≤ b ∧ b < wr.heap.size)
 case atStart => exact ⟨0, fun _ => False, .slice none 0 0, Nat.zero_le _, rfl, rfl, Only.refl _ _, HBO.out, by unfold pkT; exact GL.nil _ _, fun b h => h.elim⟩
 case round =>
  obtain ⟨i, F, v, hile, hgi, rfl, ho, hbo, hgl, hf⟩ := hrel
  obtain ⟨w6, rfl⟩ := zE wr
  have HGI := zh hgi
  have HO6 := zh ho
  have HBO6 := zh hbo
  have HGL6 := zh hgl
  have HF6 := zh hf
  obtain ⟨x0, x1, x2, x3⟩ := HX.out w6 ho
  have HX6 := zh (And.intro x0 (And.intro x1 (And.intro x2 x3)))
  clear hgi ho hgl hf
  by_cases hil : i < nR
  ·
   have hiI : (i : Int) < (nR : Int) := by omega
   have hi0 : (0 : Int) ≤ (i : Int) := by omega
   obtain ⟨bR, oR, u1, u2, r, rfl, hSb, hr, hok, hc1, hc2⟩ := (HG.out.keep (HO6.out.kept fun b hb e => by have := hb.2; have := HB0.out; omega)).at2 (k := i) rfl hil
   obtain ⟨A1, m1, c1, h2, hsl⟩ := RRule.cells.1 hok
   injection h2 with e1 h2
   injection h2 with e2 _
   subst e1
   subst e2
   obtain ⟨ra, rr⟩ := r
   have hc1 : w6.cell? ⟨bR, oR + i * 2, none⟩ = some (.int .i64 ra) := hc1
   have hc2 : w6.cell? ⟨bR, oR + i * 2 + 1, none⟩ = some (.slice A1 m1 c1) := hc2
   have HR := zh hr
   have HSL := zh hsl
   obtain ⟨w7, hw7⟩ : ∃ w7 : World, w7 = (w6.alloc (.cells #[.int .i64 (i : Int)] 3)).alloc (.cells #[.int .i64 ra, .slice A1 m1 c1] 60) := ⟨_, rfl⟩
   have hb7 : Below w6.heap.size w6 w7 := by rw [hw7]; exact ((Below.refl _ _).alloc (Nat.le_refl _) _).alloc (by simp) _
   have hbi : w7.heap[w6.heap.size]? = some (.cells #[.int .i64 (i : Int)] 3 (0, 0)) := by rw [hw7, Below.heap_alloc _ _ _ (by simp)]; exact heap_alloc_new _ _
   have hbr : w7.heap[w6.heap.size + 1]? = some (.cells #[.int .i64 ra, .slice A1 m1 c1] 60 (0, 0)) := by rw [hw7]; exact heap_new _ _ _ (by simp)
   have hbk7 := (hb7.block _ (heap_lt x3)).trans x3
   have j0 : w7.cell? ⟨B0 + 1 + 1 + 1, 0, none⟩ = some (.bool key.1.1) := by simp [World.cell?, hbk7]
   have j1 : w7.cell? ⟨B0 + 1 + 1 + 1, 1, none⟩ = some (.int .i64 key.1.2) := by simp [World.cell?, hbk7]
   have j2 : w7.cell? ⟨B0 + 1 + 1 + 1, 2, none⟩ = some (.int .i64 (key.2.1 : Int)) := by simp [World.cell?, hbk7]
   have HB7 := zh hb7
   have HBI := zh hbi
   have HZ7 := zh (show w7.heap.size = w6.heap.size + 1 + 1 by rw [hw7]; simp)
   have HW7 := zh hw7
   rw [hw7] at j0 j1 j2
   clear x0 x1 x2 x3 hok hsl hr hw7 hb7 hbi hbr hbk7 hbo hSb
   by_cases hq : ra = key.1.2
   ·
    subst hq
    have hqb : (key.1.2 != key.1.2) = false := by simp
    by_cases htm : key.1.1 = true
    ·
     rw [htm] at j0
     have HSK := zh (show pkT g.2.2.2 ws key (i + 1) = pkT g.2.2.2 ws key i from by rw [pkT_succ HR.out]; unfold prK; rw [if_pos (.inl htm), List.append_nil])
     clear htm
     go_wp2_with fail
     rw [← HW7.out]
     go_roundg (nR - (i + 1))
     case measure => rw [HGI.out]; omega
     case rel => exact ⟨i + 1, F, v, by omega, rfl, by go_num, HO6.out.trans (.of_below HB7.out (Nat.le_refl _) _), (HB7.out.block _ (heap_lt HBO6.out)).trans HBO6.out, by rw [HSK.out]; exact HGL6.out.below HB7.out, fun b hb => ⟨(HF6.out b hb).1, Nat.lt_of_lt_of_le (HF6.out b hb).2 HB7.out.size⟩⟩
    have htf : key.1.1 = false := by simpa using htm
    rw [htf] at j0
    have HADD := zh (show pkT g.2.2.2 ws key (i + 1) = pkT g.2.2.2 ws key i ++ addK ⟨B0 + 1 + 1 + 1, B0 + 1 + 1 + 1 + 1, w6.heap.size, B0 + 1, B0 + 1 + 1, w6.heap.size + 1 + 1, key, i, Aw, nw, cw, ws, fun b => Sw b ∧ b < w.heap.size, lo, hi, gN, gs, N, E, g.2.2.2⟩ rr key.2.1 [] from by
     rw [pkT_succ HR.out]
     unfold prK addK
     rw [if_neg (by simp [htf])]
     simp)
    obtain ⟨C, hC⟩ : ∃ C : PkC, C = ⟨B0 + 1 + 1 + 1, B0 + 1 + 1 + 1 + 1, w6.heap.size, B0 + 1, B0 + 1 + 1, w6.heap.size + 1 + 1, key, i, Aw, nw, cw, ws, fun b => Sw b ∧ b < w.heap.size, lo, hi, gN, gs, N, E, g.2.2.2⟩ := ⟨_, rfl⟩
    rw [← hC] at HADD
    have hz5 := HZ5.out
    have hz0 := HB0.out
    have hhi := HHI.out
    have hz56 := HO6.out.size
    have hz7 := HZ7.out
    have hrr := (HV.out.rules _ (List.mem_of_getElem? HR.out)).2.1
    simp only at hrr
    have HCO := zh (show C.Ok by
     rw [hC]
     exact ⟨⟨by dsimp only; omega, by dsimp only; omega, by dsimp only; omega, by dsimp only; omega, by dsimp only; omega⟩, by dsimp only; omega, fun h => by have := h.2; dsimp only at this; omega, .inr (by dsimp only; omega), HWL.out, by dsimp only; omega, hk2, hN10, HRN.out, HCX.out.1, HCX.out.2.1, HCX.out.2.2⟩)
    obtain ⟨w8, hw8⟩ := zE (w7.alloc (.cells #[.func (.func 85) #[] #[.pointer (some ⟨B0 + 1 + 1 + 1, 0, none⟩), .pointer (some ⟨B0 + 1 + 1 + 1 + 1, 0, none⟩), .pointer (some ⟨w6.heap.size, 0, none⟩), .pointer (some ⟨B0 + 1, 0, none⟩), .pointer (some ⟨B0 + 1 + 1, 0, none⟩), .pointer (some ⟨w6.heap.size + 1 + 1, 0, none⟩)]] 175))
    have hb8 : Below w7.heap.size w7 w8 := by rw [hw8]; exact (Below.refl _ _).alloc (Nat.le_refl _) _
    have hb68 : Below w6.heap.size w6 w8 := HB7.out.trans (hb8.mono HB7.out.size)
    have ho58 : Only w5 w8 (fun b => b = B0 + 1 + 1 + 1 + 1) := HO6.out.trans (.of_below hb68 (Nat.le_refl _) _)
    obtain ⟨y0, y1, y2, y3⟩ := HX.out w8 ho58
    have hkp : Kept (fun b => b < w.heap.size) w5 w8 := ho58.kept fun b hb e => by omega
    have HPK := zh (show PkIn C w8 F v (pkT g.2.2.2 ws key i) by
     rw [hC]
     refine ⟨⟨HT.out.only ho58 (by omega), y3, (hb8.block _ (heap_lt HBI.out)).trans HBI.out, y1, y2, ?_, HWS.out.keep (hkp.sub fun b hb => hb.2), HGR.out.keep fun q _ h2 => ho58.block q (by omega) (by omega), Nat.le_trans hhi (by have := hb68.size; omega), fun b hb => by have := hb68.size; have := hb.2; omega⟩, (hb68.block _ (heap_lt HBO6.out)).trans HBO6.out, HGL6.out.below hb68, fun b hb => ?_⟩
     ·
      dsimp only
      rw [hw8]
      exact heap_new _ _ _ (by omega)
     have h1 := HF6.out b hb
     refine ⟨⟨by dsimp only; omega, by dsimp only; omega, by dsimp only; omega, by dsimp only; omega, by dsimp only; omega, by omega, fun h => by have := h.2; omega, .inr (by dsimp only; omega)⟩, by dsimp only; omega⟩)
    have HO58 := zh ho58
    have HW8 := zh (show w8 = ((w6.alloc (.cells #[.int .i64 (i : Int)] 3)).alloc (.cells #[.int .i64 key.1.2, .slice A1 m1 c1] 60)).alloc (.cells #[.func (.func 85) #[] #[.pointer (some ⟨B0 + 1 + 1 + 1, 0, none⟩), .pointer (some ⟨B0 + 1 + 1 + 1 + 1, 0, none⟩), .pointer (some ⟨w6.heap.size, 0, none⟩), .pointer (some ⟨B0 + 1, 0, none⟩), .pointer (some ⟨B0 + 1 + 1, 0, none⟩), .pointer (some ⟨w6.heap.size + 1 + 1, 0, none⟩)]] 175) by rw [hw8, HW7.out])
    have j3 : w8.cell? ⟨B0 + 1 + 1 + 1, 2, none⟩ = some (.int .i64 (key.2.1 : Int)) := by simp [World.cell?, y3]
    rw [HW8.out] at j3
    have HSL8 := zh (HSL.out.below hb68)
    have HSS := zh (show ∀ b, (Sg b ∧ b < w.heap.size) → b < w8.heap.size ∧ b ≠ B0 + 1 + 1 + 1 + 1 ∧ ¬ F b from fun b hb => ⟨by have := hb68.size; have := hb.2; omega, by have := hb.2; omega, fun h => by have := (HF6.out b h).1; have := hb.2; omega⟩)
    have HB68 := zh hb68
    have HLB := zh (show (pkT g.2.2.2 ws key i).length + (addK C rr key.2.1 []).length ≤ 1000000 from by
     have h1 := pkT_len (R := g.2.2.2) (ws := ws) (x := key) (by omega) (fun r hr => (HV.out.rules r hr).2.1) (i + 1) (by rw [← HLEN.out]; omega)
     rw [HADD.out, List.length_append] at h1
     omega)
    have HNO := zh (show NonOk C.N rr from by rw [hC]; exact (HRN.out _ (List.mem_of_getElem? HR.out)).2)
    have HCE := zh hC
    clear htf htm
    have hent := enters_pk
    clear hC hw8 hb8 hb68 ho58 y0 y1 y2 y3 hkp hz5 hz56 hz7 hhi hz0
    go_wp2_with fail
    go_at_call 85
    rw [← HW8.out]
    have hcall := pkAll C HCO.out rr w8 F v (pkT g.2.2.2 ws key i) _ A1 m1 c1 key.2.1 (fun _ => False) none 0 0 [] HPK.out HSL8.out (fun b hb => by rw [show C.Bo = B0 + 1 + 1 + 1 + 1 by rw [HCE.out]]; exact HSS.out b hb) HNO.out hrr (by rw [show C.nw = nw by rw [HCE.out]]; exact hk1) (Sl.nil _ _ _ _) (fun b h => h.elim) (by simp; omega) HLB.out
    rw [show C.Bk = B0 + 1 + 1 + 1 by rw [HCE.out], show C.Bo = B0 + 1 + 1 + 1 + 1 by rw [HCE.out], show C.Bi = w6.heap.size by rw [HCE.out], show C.Bw = B0 + 1 by rw [HCE.out], show C.Be = B0 + 1 + 1 by rw [HCE.out], show C.Bv = w6.heap.size + 1 + 1 by rw [HCE.out]] at hcall
    refine hcall.mono ?_
    clear hcall
    rintro e w9 ⟨F2, v2, rfl, hp9, ho9, hf9⟩
    have HP9 := zh hp9.fit
    have HF9 := zh (show ∀ b, (F2 b ∧ b < w9.heap.size) → w5.heap.size ≤ b ∧ b < w9.heap.size from fun b hb => ⟨by
     rcases hf9 b hb.1 with h | h
     · exact (HF6.out b h).1
     have := HO58.out.size; omega, hb.2⟩)
    have HO9 := zh (show Only w5 w9 (fun b => b = B0 + 1 + 1 + 1 + 1) from HO58.out.newerP ho9 fun b hb hy => by
     rcases hy with h | h
     · rw [h, HCE.out]
     have := (HF6.out b h).1; omega)
    have HBO9 := zh (show w9.heap[B0 + 1 + 1 + 1 + 1]? = some (.cells #[v2] 148 (0, 0)) from by
     have h1 := HP9.out.bo
     rw [show C.Bo = B0 + 1 + 1 + 1 + 1 by rw [HCE.out]] at h1
     exact h1)
    clear hp9 ho9 hf9
    go_wp2_with fail
    go_roundg (nR - (i + 1))
    case measure => rw [HGI.out]; omega
    case rel => exact ⟨i + 1, _, v2, by omega, rfl, by go_num, HO9.out, HBO9.out, by rw [HADD.out]; exact HP9.out.out, HF9.out⟩
   have hqb : (ra != key.1.2) = true := by simp [hq]
   have HSK := zh (show pkT g.2.2.2 ws key (i + 1) = pkT g.2.2.2 ws key i from by rw [pkT_succ HR.out]; unfold prK; rw [if_pos (.inr hq), List.append_nil])
   go_wp2_with fail
   rw [← HW7.out]
   go_roundg (nR - (i + 1))
   case measure => rw [HGI.out]; omega
   case rel => exact ⟨i + 1, F, v, by omega, rfl, by go_num, HO6.out.trans (.of_below HB7.out (Nat.le_refl _) _), (HB7.out.block _ (heap_lt HBO6.out)).trans HBO6.out, by rw [HSK.out]; exact HGL6.out.below HB7.out, fun b hb => ⟨(HF6.out b hb).1, Nat.lt_of_lt_of_le (HF6.out b hb).2 HB7.out.size⟩⟩
  obtain rfl : nR = i := by omega
  have ko : w6.cell? ⟨B0 + 1 + 1 + 1 + 1, 0, none⟩ = some v := by simp [World.cell?, hbo]
  have HAL := zh (show pkT g.2.2.2 ws key nR = packsP g.2.2.2 ws key from pkT_all (by rw [← HLEN.out]; exact Nat.le_refl _))
  clear x0 x1 x2 x3 hbo
  go_wp2_with fail
  go_ret
  refine ⟨⟨F, v, rfl, by rw [← HAL.out]; exact HGL6.out, fun b hb => ?_⟩, ?_⟩
  ·
   have h1 := (HF6.out b hb).1
   have h2 := HZ5.out
   rw [← HB0.out]
   omega
  rw [← HB0.out]
  exact HB5.out.trans (HO6.out.below (B := B0) (fun b e => by omega) (by have := HZ5.out; omega))
def sortKy_ren : Go.Shelf.Ren := ⟨fun | 6 => 70 | 15 => 88 | 14 => 87 | 28 => 107 | 29 => 108 | 20 => 99 | 21 => 100 | 22 => 101 | 23 => 102 | 24 => 103 | 25 => 104 | 26 => 105 | 27 => 106 | 46 => 112 | 47 => 113 | 48 => 114 | 49 => 115 | 50 => 116 | 57 => 118 | n => n, fun | 22 => 146 | 24 => 144 | 25 => 153 | 3 => 3 | 39 => 158 | 0 => 0 | 53 => 99 | 55 => 183 | 4 => 4 | 46 => 196 | 45 => 195 | 50 => 200 | 5 => 5 | 9 => 9 | 66 => 207 | 70 => 211 | 76 => 213 | 77 => 214 | n => n, fun | n => n⟩
theorem sortKy : Go.Proofs.SlLaysF0.n6 Tryz.prog sortKy_ren := {
 mixed := by kernel_rfl
 f6 := ⟨Tryz.f70.name, by decide, Tryz.func70.trans (congrArg some (by kernel_rfl))⟩
 f14 := ⟨Tryz.f87.name, by decide, Tryz.func87.trans (congrArg some (by kernel_rfl))⟩
 f15 := Tryz.func88.trans (congrArg some (by kernel_rfl))
 f20 := ⟨Tryz.f99.name, by decide, Tryz.func99.trans (congrArg some (by kernel_rfl))⟩
 f21 := ⟨Tryz.f100.name, by decide, Tryz.func100.trans (congrArg some (by kernel_rfl))⟩
 f22 := ⟨Tryz.f101.name, by decide, Tryz.func101.trans (congrArg some (by kernel_rfl))⟩
 f23 := ⟨Tryz.f102.name, by decide, Tryz.func102.trans (congrArg some (by kernel_rfl))⟩
 f24 := ⟨Tryz.f103.name, by decide, Tryz.func103.trans (congrArg some (by kernel_rfl))⟩
 f25 := ⟨Tryz.f104.name, by decide, Tryz.func104.trans (congrArg some (by kernel_rfl))⟩
 f26 := ⟨Tryz.f105.name, by decide, Tryz.func105.trans (congrArg some (by kernel_rfl))⟩
 f27 := ⟨Tryz.f106.name, by decide, Tryz.func106.trans (congrArg some (by kernel_rfl))⟩
 f28 := Tryz.func107.trans (congrArg some (by kernel_rfl))
 f29 := Tryz.func108.trans (congrArg some (by kernel_rfl))
 f46 := ⟨Tryz.f112.name, by decide, Tryz.func112.trans (congrArg some (by kernel_rfl))⟩
 f47 := Tryz.func113.trans (congrArg some (by kernel_rfl))
 f48 := Tryz.func114.trans (congrArg some (by kernel_rfl))
 f49 := ⟨Tryz.f115.name, by decide, Tryz.func115.trans (congrArg some (by kernel_rfl))⟩
 f50 := ⟨Tryz.f116.name, by decide, Tryz.func116.trans (congrArg some (by kernel_rfl))⟩
 f57 := ⟨Tryz.f118.name, by decide, Tryz.func118.trans (congrArg some (by kernel_rfl))⟩
 t0 := Tryz.underlying0
 a0 := Tryz.isAgg0
 z0 := Tryz.sizeOf0
 v0 := Tryz.zeroValue0
 t3 := Tryz.underlying3
 a3 := Tryz.isAgg3
 z3 := Tryz.sizeOf3
 v3 := Tryz.zeroValue3
 t4 := Tryz.underlying4
 a4 := Tryz.isAgg4
 z4 := Tryz.sizeOf4
 v4 := Tryz.zeroValue4
 t5 := Tryz.underlying5
 a5 := Tryz.isAgg5
 z5 := Tryz.sizeOf5
 v5 := Tryz.zeroValue5
 t9 := Tryz.underlying9
 a9 := Tryz.isAgg9
 z9 := Tryz.sizeOf9
 v9 := Tryz.zeroValue9
 t22 := Tryz.underlying146
 a22 := Tryz.isAgg146
 z22 := Tryz.sizeOf146
 v22 := Tryz.zeroValue146
 t25 := Tryz.underlying153
 a25 := Tryz.isAgg153
 z25 := Tryz.sizeOf153
 v25 := Tryz.zeroValue153
 t39 := Tryz.underlying158
 a39 := Tryz.isAgg158
 z39 := Tryz.sizeOf158
 v39 := Tryz.zeroValue158
 t45 := Tryz.underlying195
 a45 := Tryz.isAgg195
 z45 := Tryz.sizeOf195
 v45 := Tryz.zeroValue195
 t46 := Tryz.underlying196
 a46 := Tryz.isAgg196
 z46 := Tryz.sizeOf196
 v46 := Tryz.zeroValue196
 t50 := Tryz.underlying200
 a50 := Tryz.isAgg200
 z50 := Tryz.sizeOf200
 v50 := Tryz.zeroValue200
 t53 := Tryz.underlying99
 a53 := Tryz.isAgg99
 z53 := Tryz.sizeOf99
 v53 := Tryz.zeroValue99
 t55 := Tryz.underlying183
 a55 := Tryz.isAgg183
 z55 := Tryz.sizeOf183
 v55 := Tryz.zeroValue183
 t66 := Tryz.underlying207
 a66 := Tryz.isAgg207
 z66 := Tryz.sizeOf207
 v66 := Tryz.zeroValue207
 t70 := Tryz.underlying211
 a70 := Tryz.isAgg211
 z70 := Tryz.sizeOf211
 v70 := Tryz.zeroValue211
 t76 := Tryz.underlying213
 a76 := Tryz.isAgg213
 z76 := Tryz.sizeOf213
 v76 := Tryz.zeroValue213
 t77 := Tryz.underlying214
 a77 := Tryz.isAgg214
 z77 := Tryz.sizeOf214
 v77 := Tryz.zeroValue214
}
theorem enters_cmpK : ∀ (args : Array Value) (u : World), (callFunc 71 args).run Tryz.prog u = .ok (.enter 71 args) u := enters_of Tryz.func71 (by kernel_rfl) rfl
def encK (t : KeyD) : List Value := [.bool t.1.1, .int .i64 t.1.2, .int .i64 (t.2.1 : Int), .int .i64 (t.2.2 : Int)]
theorem cells_key {w : World} {S : Nat → Prop} : ∀ {L : List KeyD} {xs : List Value}, Cells RKey w S xs L ↔ xs = L.flatMap encK
 | [], xs => Iff.rfl
 | a :: L, xs => by
  constructor
  ·
   rintro ⟨cs, rest, rfl, h1, h2⟩
   rw [show cs = encK a from RKey.cells.1 h1, cells_key.1 h2, List.flatMap_cons]
  rintro rfl
  exact ⟨encK a, L.flatMap encK, List.flatMap_cons, RKey.cells.2 rfl, cells_key.2 rfl⟩
theorem flatKy_len : ∀ L : List KeyD, (L.flatMap encK).length = L.length * 4
 | [] => rfl
 | a :: L => by
  rw [List.flatMap_cons, List.length_append, flatKy_len L, List.length_cons]
  show 4 + _ = _
  omega
theorem flatKy_get : ∀ (L : List KeyD) (j : Nat), (L.flatMap encK)[j]? = (L[j / 4]?).bind fun t => (encK t)[j % 4]?
 | [], j => by simp
 | a :: L, j => by
  rw [List.flatMap_cons]
  by_cases h : j < 4
  ·
   rw [List.getElem?_append_left (by exact h), show j / 4 = 0 by omega, show j % 4 = j by omega]
   rfl
  rw [List.getElem?_append_right (by show 4 ≤ j; omega), show j / 4 = (j - 4) / 4 + 1 by omega, show j % 4 = (j - 4) % 4 by omega]
  exact flatKy_get L (j - 4)
theorem flatK_Ky (d : Array KeyD) : (Go.Sort.flatK encK 4 d).toList = d.toList.flatMap encK := by
 refine List.ext_getElem? fun j => ?_
 by_cases hj : j < d.size * 4
 ·
  have h1 := Go.Sort.get_flatK encK 4 d j hj
  rw [flatKy_get]
  have h2 : j / 4 < d.size := by omega
  rw [Array.getElem?_toList, Array.getElem?_toList, Array.getElem?_eq_getElem h2, Array.getElem?_eq_getElem (by rw [Go.Sort.size_flatK]; exact hj)]
  rw [getElem!_pos _ j (by rw [Go.Sort.size_flatK]; exact hj), getElem!_pos d _ h2] at h1
  rw [h1]
  have h3 : j % 4 < (encK d[j / 4]).length := by show j % 4 < 4; omega
  rw [getElem!_pos (encK d[j / 4]) (j % 4) h3]
  simp [List.getElem?_eq_getElem h3]
 rw [List.getElem?_eq_none (by rw [Array.length_toList, Go.Sort.size_flatK]; omega), List.getElem?_eq_none (by rw [flatKy_len, Array.length_toList]; omega)]
theorem ltKy (x y : KeyD) : Go.Proofs.ltOf cmpK x y = true ↔ KLt x y := by
 unfold Go.Proofs.ltOf
 rw [decide_eq_true_iff]
 exact cmpK_neg
theorem swoKy : Go.Sort.SWO (Go.Proofs.ltOf cmpK) where
 irrefl x := by
  rw [Bool.eq_false_iff]
  intro h
  have := (ltKy x x).1 h
  unfold KLt at this
  omega
 trans x y z h1 h2 := by
  have h1 := (ltKy _ _).1 h1
  have h2 := (ltKy _ _).1 h2
  refine (ltKy _ _).2 ?_
  unfold KLt at *
  omega
 ntrans x y z h1 h2 := by
  rw [Bool.eq_false_iff] at *
  intro h3
  have h3 := (ltKy _ _).1 h3
  have h1 : ¬ KLt x y := fun h => h1 ((ltKy _ _).2 h)
  have h2 : ¬ KLt y z := fun h => h2 ((ltKy _ _).2 h)
  unfold KLt at *
  omega
theorem putRow4 {w : World} {base : Nat} {e : TypeId} {g n cap q : Nat} {xs : List Value} (h : w.ownsRow base e 4 (.slice (some ⟨g, 0, none⟩) n cap) n xs) (F : Array Value) (hF : F.size = n * 4) :
    (Go.Sort.putRow id (Go.Sort.ahead w q) g 0 F).ownsRow base e 4 (.slice (some ⟨g, 0, none⟩) n cap) n F.toList := by
 rcases h.2 with ⟨e0, _⟩ | ⟨g', cap', cur, e0, hb, hg, hn, hm, hs, ht⟩
 · cases e0
 injection e0 with e1 _ e3
 injection e1 with e1
 injection e1 with e1
 subst e1; subst e3
 refine ⟨by simp [hF], .inr ⟨g, cap, Go.Sort.putCells id 0 F cur, rfl, hb, ?_, hn, hm, by simpa [Go.Sort.putCells] using hs, ?_⟩⟩
 · simp [Go.Sort.putRow, Go.Sort.mapBlock, Go.Sort.ahead, Array.getElem?_modify, hg, Go.Sort.onCells]
 apply List.ext_getElem?
 intro j
 have hcs : n * 4 ≤ cur.size := by rw [hs]; omega
 rw [List.getElem?_take, Array.getElem?_toList, Array.getElem?_toList]
 by_cases hj : j < n * 4
 ·
  have hjc : j < cur.size := by omega
  rw [if_pos hj]
  simp only [Go.Sort.putCells, Array.getElem?_mapIdx, Array.getElem?_eq_getElem hjc, Option.map_some]
  rw [if_pos (by omega), Array.getElem?_eq_getElem (by omega)]
  simp [getElem!_pos, show j < F.size by omega]
 rw [if_neg hj, Array.getElem?_eq_none (by omega)]
theorem grown_sortK (enc : KeyD → List Value) (k : Nat) (w : World) (g m : Nat) (d : Array KeyD) (os : Array Obj) : w.grownBy (Go.Proofs.sortWorldK enc k w g 0 m d os) (some g) := by
 have hsz : (Go.Sort.putRowK enc k (Go.Sort.ahead w m) g 0 d).heap.size = w.heap.size := by simp [Go.Sort.putRowK, Go.Sort.putRow, Go.Sort.mapBlock, Go.Sort.ahead]
 refine ⟨rfl, rfl, rfl, ?_, fun b hb hne => ?_⟩
 ·
  unfold Go.Proofs.sortWorldK Go.Sort.grow
  dsimp only
  rw [Array.size_append, hsz]
  omega
 unfold Go.Proofs.sortWorldK Go.Sort.grow
 dsimp only
 rw [Array.getElem?_append_left (by rw [hsz]; exact hb)]
 have : g ≠ b := fun e => hne (by rw [e])
 simp [Go.Sort.putRowK, Go.Sort.putRow, Go.Sort.mapBlock, Go.Sort.ahead, Array.getElem?_modify, this]
set_option maxHeartbeats 1000000 in
theorem insK0 (w : World) (A : Option Addr) (c : Nat) (f : Value) : Calls Tryz.prog 99 #[.slice A 0 c, .int .i64 0, .int .i64 0, f] w fun e w' => e = .returned (.tuple #[]) ∧ w = w' := by
 go_enter Tryz.func99, Tryz.ntmps99
 go_wp2_with fail
 go_loopg [8] 1 (fun _ v8 wr => v8 = .int .i64 1 ∧ wr = w)
 case atStart => exact ⟨rfl, rfl⟩
 case round =>
  obtain ⟨rfl, rfl⟩ := hrel
  go_wp2_with fail
  refine Go.bodyPost_end (v := .tuple #[]) (by simp [results, Tryz.results99, go_sem]) rfl ⟨rfl, rfl⟩
set_option maxRecDepth 100000 in
set_option maxHeartbeats 2000000 in
theorem pdqK0 (w : World) (A : Option Addr) (c : Nat) (k : Int) (f : Value) : Calls Tryz.prog 87 #[.slice A 0 c, .int .i64 0, .int .i64 0, .int .i64 k, f] w fun e w' => e = .returned (.tuple #[]) ∧ w = w' := by
 go_enter Tryz.func87, Tryz.ntmps87
 go_wp2_with fail
 go_loopg [1, 2] 1 (fun _ v1 v2 wr => v1 = .int .i64 0 ∧ v2 = .int .i64 0 ∧ wr = w)
 case atStart => exact ⟨rfl, rfl, rfl⟩
 case round =>
  obtain ⟨rfl, rfl, rfl⟩ := hrel
  go_wp2_with (go_at_call 99; refine (insK0 _ _ _ _).mono ?_; rintro e w' ⟨rfl, rfl⟩)
  exact Go.bodyPost_ret (v := .tuple #[]) (results_none rfl _ _ _) rfl ⟨rfl, rfl⟩
theorem lenK0 (w : World) : Calls Tryz.prog 88 #[.int .u64 0] w fun e w' => e = .returned (.int .i64 0) ∧ w = w' := by
 have h := Go.Proofs.Any.bits_Len (Go.Proofs.SlLaysF0.n15.bits (P := Tryz.prog) (ρ := sortKy_ren) { sortKy with }) 0 w (by omega) (by omega)
 change Calls Tryz.prog 88 _ _ _ at h
 exact h.mono fun e w' ⟨h1, h2⟩ => ⟨h1, h2.symm⟩
set_option maxHeartbeats 1000000 in
theorem sortKy0 (w : World) (A : Option Addr) (c : Nat) (f : Value) : Calls Tryz.prog 70 #[.slice A 0 c, f] w fun e w' => e = .returned (.tuple #[]) ∧ w = w' := by
 go_enter Tryz.func70, Tryz.ntmps70
 go_wp2_with (first
  | (go_at_call 88; refine (lenK0 _).mono ?_; rintro e w' ⟨rfl, rfl⟩)
  | (go_at_call 87; refine (pdqK0 _ _ _ _ _).mono ?_; rintro e w' ⟨rfl, rfl⟩))
 refine Go.bodyPost_end (v := .tuple #[]) (by simp [results, Tryz.results70, go_sem]) rfl ⟨rfl, rfl⟩
set_option maxRecDepth 100000 in
theorem sortKeys (w : World) (F : Nat → Prop) (v : Value) (L : List KeyD) (h : GL RKey 144 w F v L) (hn : L.length ≤ 1000000) :
    Calls Tryz.prog 70 #[v, .func (.func 71) #[] #[]] w fun e w' =>
     e = .returned (.tuple #[]) ∧ (∃ L', GL RKey 144 w' F v L' ∧ L'.Perm L ∧ ∀ (i j : Nat) (x y : KeyD), i < j → L'[i]? = some x → L'[j]? = some y → ¬ KLt y x) ∧ w.grownBy w' (rowOf v) := by
 obtain ⟨A, c, rfl, hc⟩ := h.form
 rcases Nat.eq_zero_or_pos L.length with h0 | h0
 ·
  have hL : L = [] := List.eq_nil_of_length_eq_zero h0
  subst hL
  refine (sortKy0 w A c _).mono ?_
  rintro e w' ⟨rfl, rfl⟩
  exact ⟨rfl, ⟨[], h, .refl _, fun i j x y _ hx => by simp at hx⟩, World.grownBy.refl w _⟩
 obtain ⟨n, hnl⟩ := zE L.length
 rw [← hnl] at h0 hn hc h ⊢
 obtain ⟨xs, ho, hcl⟩ := h.own
 have hrow := h.row
 rw [← hnl] at ho
 have hxs := cells_key.1 hcl
 subst hxs
 rcases ho with ho | ⟨A', e, e2, _⟩
 ·
  rcases ho.2 with ⟨_, e⟩ | ⟨g, cap, cur, e, hb, hh, hnc, hm, hs, ht⟩
  · omega
  injection e with e1 _ e3
  subst e1
  subst e3
  have ht : cur.toList.take (n * 4) = L.flatMap encK := ht
  have hglt : g < w.heap.size := heap_lt hh
  have hrg : rowOf (.slice (some ⟨g, 0, none⟩) n c) = some g := by
   obtain ⟨k, rfl⟩ : ∃ k, c = k + 1 := ⟨c - 1, by omega⟩
   rfl
  have hsz : L.toArray.size = n := by simp [hnl]
  have hfl : (Go.Sort.flatK encK 4 L.toArray).toList = L.flatMap encK := by rw [flatK_Ky]
  have hH : Go.Sort.HoldsK encK 4 w g 0 L.toArray := fun j hj => by
   refine ⟨?_, by simp [World.frozen?, hh]⟩
   have hj' : j < n * 4 := by rw [Go.Sort.size_flatK, hsz] at hj; exact hj
   rw [cell_of_row _ _ _ _ _ _ hh, Nat.zero_add, ← Array.getElem?_toList]
   have h2 : (cur.toList.take (n * 4))[j]? = (Go.Sort.flatK encK 4 L.toArray).toList[j]? := by rw [ht, hfl]
   rw [List.getElem?_take, if_pos hj'] at h2
   rw [h2, Array.getElem?_toList, Array.getElem?_eq_getElem hj, getElem!_pos _ j hj]
   rfl
  have hcmp : Go.Proofs.CmpLays Tryz.prog 71 #[] encK 4 cmpK g 0 L.toArray.size w := fun m os dk _ x y => cmpKey _ x y
  have hcon := Go.Proofs.AnyQ.slices_SortFunc sortKy 4 Tryz.isAgg144 Tryz.sizeOf144 encK (fun _ => rfl) (fun x v hv => by
   simp only [encK, List.mem_cons, List.not_mem_nil, or_false] at hv
   rcases hv with rfl | rfl | rfl | rfl <;> rfl) cmpK swoKy 71 #[] g 0 c L.toArray w enters_cmpK hcmp hH hglt (by rw [hsz]; omega)
  change Calls Tryz.prog 70 _ _ _ at hcon
  rw [hsz] at hcon
  refine hcon.mono ?_
  rintro e w' ⟨rfl, d', q, os, ⟨hp1, _, hp3⟩, hsrt, rfl⟩
  have hd'l : d'.size = n := by rw [hp1]; exact hsz
  have hperm : d'.toList.Perm L := by
   have h2 := hp3
   have hex : ∀ (z : Array KeyD) (k : Nat), k = z.size → z.extract 0 k = z := by
    rintro z _ rfl
    simp
   rw [hex d' n hd'l.symm, hex L.toArray n hsz.symm] at h2
   simpa using h2
  have hgr := grown_sortK encK 4 w g q d' os
  refine ⟨rfl, ⟨d'.toList, ⟨⟨d'.toList.flatMap encK, ?_, cells_key.2 rfl⟩, hrow⟩, hperm, fun i j x y hij hx hy => ?_⟩, by rw [hrg]; exact hgr⟩
  ·
   have hl2 : d'.toList.length = n := by rw [Array.length_toList, hd'l]
   rw [hl2]
   have h2 := putRow4 (q := q) ho (Go.Sort.flatK encK 4 d') (by rw [Go.Sort.size_flatK, hd'l])
   rw [flatK_Ky] at h2
   refine .inl ?_
   show (Go.Sort.grow _ os).ownsRow _ _ _ _ _ _
   refine h2.kept (row := none) ⟨rfl, rfl, rfl, by simp [Go.Sort.grow, Go.Sort.putRowK], fun k hk _ => ?_⟩ (by simp [Value.ownBlock])
   unfold Go.Sort.grow
   dsimp only
   rw [Array.getElem?_append_left (by simpa [Go.Sort.putRowK] using hk)]
   rfl
  rw [Array.getElem?_toList] at hx hy
  have hi : i < d'.size := by
   rcases Nat.lt_or_ge i d'.size with h | h
   · exact h
   rw [Array.getElem?_eq_none h] at hx; cases hx
  have hj : j < d'.size := by
   rcases Nat.lt_or_ge j d'.size with h | h
   · exact h
   rw [Array.getElem?_eq_none h] at hy; cases hy
  rw [Array.getElem?_eq_getElem hi] at hx
  rw [Array.getElem?_eq_getElem hj] at hy
  injection hx with hx
  injection hy with hy
  have h2 := hsrt i j (Nat.zero_le _) hij (by omega)
  rw [getElem!_pos d' j hj, getElem!_pos d' i hi] at h2
  rw [← hx, ← hy]
  intro h3
  rw [(ltKy _ _).2 h3] at h2
  cases h2
 omega
end Go.Proofs.YtjnbjdbndbbanaaGreatDoor
