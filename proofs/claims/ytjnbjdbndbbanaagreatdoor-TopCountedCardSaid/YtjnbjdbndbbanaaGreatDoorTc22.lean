/- Ends -/
import Derived.Test.YtjnbjdbndbbanaaGreatDoorTc21
namespace Go.Proofs.YtjnbjdbndbbanaaGreatDoor
open Go.RowKit
theorem tU32s : SlType Tryz.prog 100 99 1 4 (.int .u32 0) := ⟨by kernel_rfl, by kernel_rfl, by kernel_rfl, rfl, by decide⟩
theorem tU32ss : SlType Tryz.prog 72 100 1 24 (.slice none 0 0) := ⟨by kernel_rfl, by kernel_rfl, by kernel_rfl, rfl, by decide⟩
def hdrU (H0 R C a : Nat) : Array Value := rowCells (fun x : Option Nat => match x with | some q => Value.slice (some ⟨q, 0, none⟩) C C | none => .slice none 0 0) R (fun i => if i < a then some (H0 + 1 + i) else none)
theorem hdrU_at (H0 R C a i : Nat) (hi : i < R) : (hdrU H0 R C a)[i]? = some (if i < a then .slice (some ⟨H0 + 1 + i, 0, none⟩) C C else .slice none 0 0) := by
 unfold hdrU
 rw [rowCells_at _ _ _ i hi]
 by_cases h : i < a <;> simp [h]
theorem hdrU_set (H0 R C a : Nat) : (hdrU H0 R C a).setIfInBounds a (.slice (some ⟨H0 + 1 + a, 0, none⟩) C C) = hdrU H0 R C (a + 1) := by
 unfold hdrU
 have := rowCells_set (fun x : Option Nat => match x with | some q => Value.slice (some ⟨q, 0, none⟩) C C | none => .slice none 0 0) R (fun i => if i < a then some (H0 + 1 + i) else none) a (some (H0 + 1 + a))
 refine this.trans ?_
 apply rowCells_congr
 intro j _
 simp only [upd]
 by_cases h1 : j = a
 · subst h1; simp
 by_cases h2 : j < a
 · simp [h1, h2, show j < a + 1 by omega]
 simp [h1, h2, show ¬ j < a + 1 by omega]
theorem made_hdrU (H0 R C : Nat) : madeCells #[Value.slice none 0 0] R = hdrU H0 R C 0 := by
 apply Array.ext'
 rw [toList_madeCells_one]
 apply List.ext_getElem?
 intro i
 by_cases hi : i < R <;> simp [hdrU, rowCells, hi]
theorem made_rowU (Z : Nat) : madeCells #[Value.int .u32 0] Z = rowCells mV Z (fun _ => 0) := by
 apply Array.ext'
 rw [toList_madeCells_one]
 apply List.ext_getElem?
 intro i
 by_cases hi : i < Z <;> simp [rowCells, hi]
theorem diff_zero {x y : Nat} (hx : x < 4294967296) (hy : y < 4294967296) : x &&& (4294967295 - y) = 0 ↔ ∀ j, x.testBit j = true → y.testBit j = true := by
 have e : 4294967295 - y = 2 ^ 32 - (y + 1) := by omega
 have ht : ∀ j, (x &&& (4294967295 - y)).testBit j = (x.testBit j && (decide (j < 32) && !y.testBit j)) := fun j => by
  rw [Nat.testBit_and, e, Nat.testBit_two_pow_sub_succ (by omega)]
 constructor
 ·
  intro h j hj
  have h1 := ht j
  rw [h, Nat.zero_testBit, hj, decide_eq_true (bit_lt (n := 32) hx hj)] at h1
  cases hy' : y.testBit j with
  | true => rfl
  | false => rw [hy'] at h1; cases h1
 intro h
 refine Nat.eq_of_testBit_eq fun j => ?_
 rw [ht, Nat.zero_testBit]
 cases hj : x.testBit j with
 | false => rfl
 | true => rw [h j hj]; simp
structure EndsSt (w : World) (H0 N n : Nat) (gc : Array Value) (E : Nat → Nat → Nat) (wr : World) : Prop where
 grd : Grid mV 99 wr H0 (H0 + 1 + N) H0 (fun i => H0 + 1 + i) N (n + 1) E
 hi : H0 + 1 + N ≤ wr.heap.size
 gb : wr.heap[w.heap.size]? = some (.cells gc 25 (0, 0))
 lt : w.heap.size < H0
 bel : Below w.heap.size w wr
section
variable {w wr w' : World} {H0 N n : Nat} {gc : Array Value} {E : Nat → Nat → Nat}
theorem EndsSt.below (h : EndsSt w H0 N n gc E wr) {B : Nat} (hb : Below B wr w') (hB : H0 + 1 + N ≤ B) : EndsSt w H0 N n gc E w' := by
 have hl := h.lt
 exact ⟨h.grd.keep (fun q _ hq => hb.block q (by omega)), Nat.le_trans h.hi hb.size, (hb.block _ (by omega)).trans h.gb, hl, h.bel.trans (hb.mono (by omega))⟩
theorem EndsSt.set (h : EndsSt w H0 N n gc E wr) {a : Nat} (k : Nat) (ha : a < N) (x : Nat) : EndsSt w H0 N n gc (fun b j => if b = a ∧ j = k then x else E b j) (wr.setCell ⟨H0 + 1 + a, k, none⟩ (mV x)) := by
 have hl := h.lt
 exact ⟨h.grd.set k ha x, by simpa [World.setCell] using h.hi, (Below.heap_setCell _ _ _ _ (by simp; omega)).trans h.gb, hl, h.bel.setCell (by simp; omega) _⟩
end
def ClosedUptoW (R : List RuleD) (ws : List Int) (E : Nat → Nat → Nat) (i : Nat) : Prop := ∀ (j : Nat) (r : RuleD), j < i → R[j]? = some r → ∀ q, q ≤ ws.length → ∀ p, Rch E ws r.2 q p → (E r.1.toNat q).testBit p = true
set_option linter.unusedSimpArgs false in
set_option maxRecDepth 1000000 in
set_option maxHeartbeats 8000000 in
theorem coreEnds (w : World) (hT : Tab w) (Sg Sw : Nat → Prop) (AR : Option Addr) (nR cR : Nat) (g : GramD) (hg : Sl RRule w Sg AR nR cR g.2.2.2) (hv : GValid g) (Aw : Option Addr) (nw cw : Nat) (ws : List Int) (hws : Rd w Sw 1 Aw nw (ws.map (Value.int .i64))) (hnw : nw ≤ 12) :
    Calls Tryz.prog 26 #[.agg #[.int .i64 g.1, .int .i64 g.2.1, .int .i64 g.2.2.1, .slice AR nR cR], .slice Aw nw cw] w fun e w' =>
     ∃ (H0 : Nat) (E : Nat → Nat → Nat), e = .returned (.slice (some ⟨H0, 0, none⟩) (nonsOf g) (nonsOf g)) ∧ w.heap.size < H0 ∧ H0 + 1 + nonsOf g ≤ w'.heap.size ∧ Grid mV 99 w' H0 (H0 + 1 + nonsOf g) H0 (fun i => H0 + 1 + i) (nonsOf g) (nw + 1) E ∧ (∀ a i, E a i < 2 ^ (nw + 1)) ∧ SoundW g.2.2.2 ws (nonsOf g) E ∧ ClosedW g.2.2.2 ws E ∧ Below w.heap.size w w' := by
 obtain ⟨N, hN⟩ := zE (nonsOf g)
 have hRN := rulesN_of hv
 rw [← hN] at hRN ⊢
 have hN0 : g.2.1 = (N : Int) := by have := hv.n1; rw [hN]; unfold nonsOf; omega
 have hN1 : 1 ≤ N := by have := hv.n1; omega
 have hN2 : N ≤ 10 := by have := hv.n2; omega
 have hnR : nR ≤ 32 := by have := hv.rl; have := hg.len; omega
 have hp13 : 2 ^ (nw + 1) ≤ 8192 := Nat.le_trans (Nat.pow_le_pow_right (by omega) (by omega : nw + 1 ≤ 13)) (by decide)
 have hwl : ws.length = nw := by simpa using hws.1
 have HT := zh hT
 have HWS := zh (hws.fit (by decide))
 have HWL := zh hwl
 have HP := zh hp13
 have HRL := zh hg.len
 have HG := zh hg.fit
 have HV := zh hv
 have HRN := zh hRN
 have HN0 := zh hN0
 have hltW := hT.1
 clear hg hv hRN hN hN0 hT hws hwl hp13
 obtain ⟨gc, hgc⟩ : ∃ gc : Array Value, gc = #[.int .i64 g.1, .int .i64 g.2.1, .int .i64 g.2.2.1, .slice AR nR cR] := ⟨_, rfl⟩
 have HGC := zh hgc
 obtain ⟨w1, hw1⟩ := zE (w.alloc (.cells #[.int .i64 g.1, .int .i64 g.2.1, .int .i64 g.2.2.1, .slice AR nR cR] 25))
 have hz1 : w1.heap.size = w.heap.size + 1 := by rw [hw1]; simp
 have hz1a : w1.heap.size ≤ w.heap.size + 1 := by omega
 have hz1b : w.heap.size + 1 ≤ w1.heap.size := by omega
 have HBX1 := zh (show w1.heap[w.heap.size]? = some (.cells gc 25 (0, 0)) by rw [hw1, hgc]; exact heap_alloc_new w _)
 have HB1 := zh (show Below w.heap.size w w1 by rw [hw1]; exact (Below.refl _ _).alloc (Nat.le_refl _) _)
 have hcN : (w.alloc (.cells #[.int .i64 g.1, .int .i64 g.2.1, .int .i64 g.2.2.1, .slice AR nR cR] 25)).cell? ⟨w.heap.size, 1, none⟩ = some (.int .i64 (N : Int)) := by rw [← HN0.out]; simp
 have hlt1 : w.heap.size < w1.heap.size := by omega
 have hmk := fun W => tU32ss.make rfl N (by omega) (by omega) W
 clear hgc
 go_enter Tryz.func26, Tryz.ntmps26
 go_wp2_with fail
 rw [← hw1]
 rw [made_hdrU (w.heap.size + 1) N (nw + 1)]
 rw [← hz1]
 clear hmk hcN hw1 hz1
 have HST0 := zh (heap_alloc_new w1 (.cells (hdrU w1.heap.size N (nw + 1) 0) 100))
 go_loopg [17] N (fun gk i wr => ∃ a : Nat, a ≤ N ∧ gk = N - a ∧ i = .int .i64 a ∧ wr.heap[w1.heap.size]? = some (.cells (hdrU w1.heap.size N (nw + 1) a) 100 (0, 0)) ∧ wr.heap.size = w1.heap.size + 1 + a ∧ (∀ b, b < a → wr.heap[w1.heap.size + 1 + b]? = some (.cells (rowCells mV (nw + 1) (fun _ => 0)) 99 (0, 0))) ∧ Below w1.heap.size w1 wr)
 case atStart => exact ⟨0, Nat.zero_le _, rfl, rfl, HST0.out, by simp, (fun b hb => absurd hb (by omega)), (Below.refl _ _).alloc (Nat.le_refl _) _⟩
 case round =>
  obtain ⟨a, ha, hgk, rfl, hh, hz, hrows, hb⟩ := hrel
  have HGK := zh hgk
  have HZZ := zh hz
  have HRW := zh hrows
  have HB := zh hb
  have hlw : w1.heap.size < wr.heap.size := by omega
  clear HST0 hgk hz hrows hb
  by_cases hlt' : a < N
  ·
   have hcell : wr.cell? ⟨w1.heap.size, a, none⟩ = some (.slice none 0 0) := by
    rw [cell_of_row wr _ a _ _ _ hh, hdrU_at _ _ _ _ _ hlt']
    simp
   have hfr : wr.frozen? ⟨w1.heap.size, a, none⟩ = false := by simp [World.frozen?, hh]
   have hmk := tU32s.make rfl (nw + 1) (by omega) (by omega) wr
   simp only [Int.natCast_add, Int.cast_ofNat_Int] at hmk
   rw [made_rowU] at hmk
   have hset := blk_set hh a (.slice (some ⟨w1.heap.size + 1 + a, 0, none⟩) (nw + 1) (nw + 1))
   rw [hdrU_set, ← HZZ.out] at hset
   have HSET := zh hset
   clear hh hset
   go_wp2_with fail
   go_roundg (N - (a + 1))
   case measure => rw [HGK.out]; omega
   case rel =>
    have hzz := HZZ.out
    refine ⟨a + 1, by omega, rfl, by go_num, (Below.heap_alloc _ _ _ (by simp [World.setCell]; omega)).trans HSET.out, by simp [World.setCell]; omega, fun b hb => ?_, (HB.out.setCell (Nat.le_refl _) _).alloc (by simp [World.setCell]; omega) _⟩
    by_cases e : b = a
    ·
     subst e
     exact heap_new _ _ _ (by simp [World.setCell]; exact hzz)
    rw [Below.heap_alloc _ _ _ (by simp [World.setCell]; omega), Below.heap_setCell _ _ _ _ (by simp; omega)]
    exact HRW.out b (by omega)
  obtain rfl : N = a := by omega
  have hls : EndsSt w w1.heap.size N nw gc (fun _ _ => 0) wr := by
   refine ⟨⟨fun i hi => ?_, fun i hi => ?_, fun i hi => ⟨by omega, by omega, by omega⟩, ⟨by omega, by omega⟩, fun i j _ _ e => by omega⟩, by have := HZZ.out; omega, (HB.out.block _ hlt1).trans HBX1.out, hlt1, HB1.out.trans (HB.out.mono (by omega))⟩
   · rw [cell_of_row wr _ i _ _ _ hh, hdrU_at _ _ _ _ _ hi, if_pos hi]
   exact HRW.out i hi
  have HLS := zh hls
  clear hh hls HZZ HRW hlw HB HGK HB1 HBX1
  obtain ⟨H0, hH0⟩ := zE w1.heap.size
  rw [← hH0] at HLS hlt1
  rw [← hH0]
  clear hH0 hz1a hz1b
  go_wp2_with fail
  go_loopg [7] (meaW N nw (fun _ _ => 0) + 1) (fun gk t wr => ∃ (E : Nat → Nat → Nat) (ag : Bool), t = .bool ag ∧ gk = meaW N nw E + (if ag then 1 else 0) ∧ EndsSt w H0 N nw gc E wr ∧ SoundW g.2.2.2 ws N E ∧ (∀ a i, E a i < 2 ^ (nw + 1)) ∧ (ag = false → ClosedW g.2.2.2 ws E))
  case atStart => exact ⟨fun _ _ => 0, true, rfl, rfl, HLS.out, (fun _ _ _ _ h => by simp at h), (fun _ _ => Nat.two_pow_pos _), (fun h => by cases h)⟩
  case round =>
   obtain ⟨E0, ag, rfl, hgk, hls, hsn, hbd, hcl⟩ := hrel
   have HLS1 := zh hls
   have HSN1 := zh hsn
   have HBD1 := zh hbd
   have hcA : wr.cell? ⟨w.heap.size, 3, none⟩ = some (.slice AR nR cR) := by simp [World.cell?, hls.gb, HGC.out]
   have hhi := hls.hi
   clear hls hsn hbd HLS
   cases ag with
   | false =>
    have HCL := zh hcl
    clear hcl hgk hcA
    go_wp2_with fail
    go_ret
    exact ⟨H0, rfl, hlt1, hhi, E0, HLS1.out.grd, HBD1.out, HSN1.out, HCL.out (by simp), HLS1.out.bel⟩
   | true =>
    have HGK := zh hgk
    clear hgk hcl
    go_wp2_with fail
    clear hcA
    go_loopg [7, 32] nR (fun gk t q wr => ∃ (i : Nat) (E1 : Nat → Nat → Nat) (ag : Bool), i ≤ nR ∧ gk = nR - i ∧ q = .int .i64 i ∧ t = .bool ag ∧ EndsSt w H0 N nw gc E1 wr ∧ SoundW g.2.2.2 ws N E1 ∧ (∀ a i, E1 a i < 2 ^ (nw + 1)) ∧ (ag = false → E1 = E0 ∧ ClosedUptoW g.2.2.2 ws E0 i) ∧ (ag = true → meaW N nw E1 < meaW N nw E0))
    case atStart => exact ⟨0, E0, false, Nat.zero_le _, rfl, rfl, rfl, HLS1.out, HSN1.out, HBD1.out, (fun _ => ⟨rfl, fun j r hj => absurd hj (by omega)⟩), (fun h => by cases h)⟩
    case round =>
     obtain ⟨i, E1, ag1, hi, hgi, rfl, rfl, hls, hsn, hbd, hf1, ht1⟩ := hrel
     have HGI := zh hgi
     have HLS2 := zh hls
     have HSN2 := zh hsn
     have HBD2 := zh hbd
     have HF2 := zh hf1
     have HT2 := zh ht1
     have hhi2 := hls.hi
     have hbel := hls.bel
     clear hgi hsn hbd hf1 ht1 hls
     by_cases hin : i < nR
     ·
      obtain ⟨b0, off, AQ, m, cQ, r, hAR, _, _, hr1, hr2, hr, hrs⟩ := rule_at HG.out hin
      replace hr1 := Kept.below (S := fun _ => True) hbel _ _ trivial hr1
      replace hr2 := Kept.below (S := fun _ => True) hbel _ _ trivial hr2
      subst hAR
      obtain ⟨⟨hr0, hrN⟩, hrn⟩ := HRN.out r (List.mem_of_getElem? hr)
      obtain ⟨left, hleft⟩ : ∃ left : Nat, r.1 = (left : Int) := ⟨r.1.toNat, by omega⟩
      rw [hleft, Int.toNat_natCast] at hrN
      rw [hleft] at hr1
      have hm4 : m ≤ 4 := by have := (HV.out.rules r (List.mem_of_getElem? hr)).2.1; have := hrs.len; omega
      have HR := zh hr
      have HRS := zh hrs
      have HLF := zh hleft
      have HRN2 := zh hrn
      obtain ⟨w2, rfl⟩ := zE wr
      have hiI : (i : Int) < (nR : Int) := by omega
      have hi0 : (0 : Int) ≤ (i : Int) := by omega
      clear hr hrs hleft hrn hr0 hbel
      go_wp2_with fail
      clear hr1 hr2
      obtain ⟨w3, hw3⟩ := zE (w2.alloc (.cells #[.int .i64 (left : Int), .slice AQ m cQ] 60))
      rw [← hw3]
      have hz3 : w3.heap.size = w2.heap.size + 1 := by rw [hw3]; simp
      have HLS3 := zh (show EndsSt w H0 N nw gc E1 w3 by rw [hw3]; exact HLS2.out.below ((Below.refl _ _).alloc (Nat.le_refl _) _) hhi2)
      have HBR3 := zh (show w3.heap[w2.heap.size]? = some (.cells #[.int .i64 (left : Int), .slice AQ m cQ] 60 (0, 0)) by rw [hw3]; exact heap_alloc_new w2 _)
      clear hw3 HLS2
      go_loopg [7, 39] (nw + 1) (fun gk t q wr => ∃ (k : Nat) (E2 : Nat → Nat → Nat) (ag : Bool), k ≤ nw + 1 ∧ gk = nw + 1 - k ∧ q = .int .i64 k ∧ t = .bool ag ∧ EndsSt w H0 N nw gc E2 wr ∧ SoundW g.2.2.2 ws N E2 ∧ (∀ a i, E2 a i < 2 ^ (nw + 1)) ∧ (ag = false → E2 = E0 ∧ ClosedUptoW g.2.2.2 ws E0 i ∧ ∀ q, q < k → ∀ p, Rch E0 ws r.2 q p → (E0 left q).testBit p = true) ∧ (ag = true → meaW N nw E2 < meaW N nw E0) ∧ wr.heap[w2.heap.size]? = some (.cells #[.int .i64 (left : Int), .slice AQ m cQ] 60 (0, 0)))
      case atStart => exact ⟨0, E1, ag1, Nat.zero_le _, rfl, rfl, rfl, HLS3.out, HSN2.out, HBD2.out, (fun h => ⟨(HF2.out h).1, (HF2.out h).2, fun q hq => absurd hq (by omega)⟩), HT2.out, HBR3.out⟩
      case round =>
       obtain ⟨k, E2, ag2, hk, hgk2, rfl, rfl, hls, hsn, hbd, hf, ht, hbr⟩ := hrel
       have HGK2 := zh hgk2
       have HLS7 := zh hls
       have HSN7 := zh hsn
       have HBD7 := zh hbd
       have HF7 := zh hf
       have HT7 := zh ht
       have HBR7 := zh hbr
       have hhi7 := hls.hi
       have hz7 := heap_lt hbr
       obtain ⟨w7, rfl⟩ := zE wr
       by_cases hkn : k < nw + 1
       ·
        have hbel7 := hls.bel
        have hkI : (k : Int) < ((nw + 1 : Nat) : Int) := by omega
        have hkI2 : (k : Int) < (nw : Int) + 1 := by omega
        have hk0 : (0 : Int) ≤ (k : Int) := by omega
        have d0 : w7.cell? ⟨w2.heap.size, 0, none⟩ = some (.int .i64 (left : Int)) := by simp [World.cell?, hbr]
        have d1 : w7.cell? ⟨w2.heap.size, 1, none⟩ = some (.slice AQ m cQ) := by simp [World.cell?, hbr]
        have HBEL7 := zh hbel7
        clear hgk2 hls hsn hbd hf ht hbr hbel7
        go_wp2_with fail
        clear d0 d1
        refine (coreReach w7 (HT.out.below HBEL7.out HT.out.1) _ _ Aw nw cw ws (HWS.out.keep (.belowB HBEL7.out (fun b hb => hb.2))) hnw _ _ H0 _ N E2 HLS7.out.grd hhi7 hN2 HBD7.out AQ m cQ r.2 (HRS.out.keep (.belowB HBEL7.out (fun b hb => hb.2))) HRN2.out hm4 k (by omega)).mono ?_
        rintro e w8 ⟨X, rfl, hX, hXR, hb8⟩
        have hz8 := hb8.size
        have HLS8 := zh (HLS7.out.below hb8 hhi7)
        have HX := zh hX
        have HXR := zh hXR
        have hbr8 := (hb8.block _ hz7).trans HBR7.out
        have HBR8 := zh hbr8
        have hp13 := HP.out
        have hbd := HBD7.out left k
        have hE32 : E2 left k < 4294967296 := by omega
        have hX32 : X < 4294967296 := by omega
        have d0 : w8.cell? ⟨w2.heap.size, 0, none⟩ = some (.int .i64 (left : Int)) := by simp [World.cell?, hbr8]
        have hch := HLS8.out.grd.hdr left hrN
        have hcc := HLS8.out.grd.cell (k := k) hrN hkn
        have hfc := HLS8.out.grd.fr hrN k
        have hlI : (left : Int) < (N : Int) := by omega
        have hl0 : (0 : Int) ≤ (left : Int) := by omega
        have han : bits .andNot .u32 (X : Int) (E2 left k : Int) = ((X &&& (4294967295 - E2 left k) : Nat) : Int) := u32_andNot_nat _ _ hX32 hE32
        have hDZ := diff_zero hX32 hE32
        obtain ⟨D, hD⟩ := zE (X &&& (4294967295 - E2 left k))
        rw [← hD] at han hDZ
        clear hb8 hX hXR hbr8 hbd hD hp13
        by_cases hD0 : D = 0
        ·
         have HSK := zh (hDZ.1 hD0)
         have hnz : ((D : Int) != 0) = false := by simp; omega
         clear hDZ hD0
         go_wp2_with fail
         go_roundg (nw + 1 - (k + 1))
         case measure => rw [HGK2.out]; omega
         case rel =>
          refine ⟨k + 1, E2, ag2, by omega, rfl, by go_num, rfl, HLS8.out, HSN7.out, HBD7.out, fun h => ?_, HT7.out, HBR8.out⟩
          obtain ⟨e1, e2, e3⟩ := HF7.out h
          refine ⟨e1, e2, fun q hq p hp => ?_⟩
          rcases Nat.lt_succ_iff_lt_or_eq.1 hq with h' | rfl
          · exact e3 q h' p hp
          rw [← e1] at hp ⊢
          exact HSK.out p ((HXR.out p).2 hp)
        have hnz : ((D : Int) != 0) = true := by simp; omega
        have hex : ∃ j, X.testBit j = true ∧ (E2 left k).testBit j = false := by
         refine Classical.byContradiction fun h => hD0 (hDZ.2 fun j hj => ?_)
         cases hy : (E2 left k).testBit j with
         | true => rfl
         | false => exact absurd ⟨j, hj, hy⟩ h
        have hor : bits .or .u32 (E2 left k : Int) (X : Int) = ((E2 left k ||| X : Nat) : Int) := u32_or_nat _ _ hE32 hX32
        have hlt := or_grows hex
        have hol : E2 left k ||| X < 2 ^ (nw + 1) := Nat.or_lt_two_pow (HBD7.out left k) HX.out
        have HLS9 := zh (HLS8.out.set k hrN (E2 left k ||| X))
        have HBD9 := zh (show ∀ b j, (if b = left ∧ j = k then E2 left k ||| X else E2 b j) < 2 ^ (nw + 1) from fun b j => by split; exact hol; exact HBD7.out b j)
        have HSN9 := zh (show SoundW g.2.2.2 ws N (fun b j => if b = left ∧ j = k then E2 left k ||| X else E2 b j) from by
         have h1 := soundW_or (i := k) HSN7.out (List.mem_of_getElem? HR.out) (by rw [HLF.out]; omega) HRN2.out HXR.out
         rw [HLF.out, Int.toNat_natCast] at h1
         intro a q p ha hp
         refine h1 a q p ha ?_
         try dsimp only at hp ⊢
         by_cases hc : a = left ∧ q = k
         · rw [if_pos hc] at hp ⊢; rw [hc.1, hc.2]; exact hp
         rw [if_neg hc] at hp ⊢; exact hp)
        have HLT9 := zh (show meaW N nw (fun b j => if b = left ∧ j = k then E2 left k ||| X else E2 b j) < meaW N nw E0 from by
         have h1 : meaW N nw (fun b j => if b = left ∧ j = k then E2 left k ||| X else E2 b j) < meaW N nw E2 := meaW_lt hrN (show k ≤ nw by omega) (fun b j => by
          try dsimp only
          split
          · rename_i hc; rw [hc.1, hc.2]; exact Nat.left_le_or
          exact Nat.le_refl _) (by rw [if_pos ⟨rfl, rfl⟩]; exact hlt) (by rw [if_pos ⟨rfl, rfl⟩]; have := HP.out; omega)
         cases ag2 with
         | true => have := HT7.out rfl; omega
         | false => rw [← (HF7.out rfl).1]; exact h1)
        have HBR9 := zh ((Below.heap_setCell w8 ⟨H0 + 1 + left, k, none⟩ (mV (E2 left k ||| X)) w2.heap.size (by simp; omega)).trans HBR8.out)
        clear hDZ hD0 hex hlt hol
        go_wp2_with fail
        go_roundg (nw + 1 - (k + 1))
        case measure => rw [HGK2.out]; omega
        case rel => exact ⟨k + 1, _, true, by omega, rfl, by go_num, rfl, HLS9.out, HSN9.out, HBD9.out, (fun h => by cases h), (fun _ => HLT9.out), HBR9.out⟩
       obtain rfl : k = nw + 1 := by omega
       clear hgk2 hls hsn hbd hf ht hbr
       go_wp2_with fail
       go_roundg (nR - (i + 1))
       case measure => rw [HGI.out]; omega
       case rel =>
        refine ⟨i + 1, E2, ag2, by omega, rfl, by go_num, rfl, HLS7.out, HSN7.out, HBD7.out, fun h => ?_, HT7.out⟩
        obtain ⟨e1, e2, e3⟩ := HF7.out h
        refine ⟨e1, fun j r' hj hr' q hq p hp => ?_⟩
        rcases Nat.lt_succ_iff_lt_or_eq.1 hj with h' | rfl
        · exact e2 j r' h' hr' q hq p hp
        rw [HR.out] at hr'
        injection hr' with hr'
        subst hr'
        rw [HLF.out, Int.toNat_natCast]
        exact e3 q (by rw [HWL.out] at hq; omega) p hp
     obtain rfl : i = nR := by omega
     go_wp2_with fail
     go_roundg (meaW N nw E1 + (if ag1 then 1 else 0))
     case measure =>
      rw [HGK.out]
      cases ag1 with
      | true => have := HT2.out rfl; simp; omega
      | false => rw [(HF2.out rfl).1]; simp
     case rel =>
      refine ⟨E1, ag1, rfl, rfl, HLS2.out, HSN2.out, HBD2.out, fun h => ?_⟩
      obtain ⟨e1, e2⟩ := HF2.out h
      intro r hr q hq p hp
      obtain ⟨j, hj⟩ := List.getElem?_of_mem hr
      rw [e1] at hp ⊢
      exact e2 j r (by have := (List.getElem?_eq_some_iff.1 hj).1; have := HRL.out; omega) hj q hq p hp
end Go.Proofs.YtjnbjdbndbbanaaGreatDoor
