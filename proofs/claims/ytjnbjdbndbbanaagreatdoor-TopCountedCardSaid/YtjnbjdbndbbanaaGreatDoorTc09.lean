/- Loops -/
import Derived.Test.YtjnbjdbndbbanaaGreatDoorTc08
namespace Go.Proofs.YtjnbjdbndbbanaaGreatDoor
open Go.RowKit
def hdrCells (H0 Z a : Nat) : Array Value := rowCells (fun x : Option Nat => match x with | some q => Value.slice (some ⟨q, 0, none⟩) Z Z | none => .slice none 0 0) Z (fun i => if i < a then some (H0 + 1 + i) else none)
theorem hdrCells_at (H0 Z a i : Nat) (hi : i < Z) : (hdrCells H0 Z a)[i]? = some (if i < a then .slice (some ⟨H0 + 1 + i, 0, none⟩) Z Z else .slice none 0 0) := by
 unfold hdrCells
 rw [rowCells_at _ _ _ i hi]
 by_cases h : i < a <;> simp [h]
theorem hdrCells_set (H0 Z a : Nat) : (hdrCells H0 Z a).setIfInBounds a (.slice (some ⟨H0 + 1 + a, 0, none⟩) Z Z) = hdrCells H0 Z (a + 1) := by
 unfold hdrCells
 have := rowCells_set (fun x : Option Nat => match x with | some q => Value.slice (some ⟨q, 0, none⟩) Z Z | none => .slice none 0 0) Z (fun i => if i < a then some (H0 + 1 + i) else none) a (some (H0 + 1 + a))
 refine this.trans ?_
 apply rowCells_congr
 intro j _
 simp only [upd]
 by_cases h1 : j = a
 · subst h1; simp
 by_cases h2 : j < a
 · simp [h1, h2, show j < a + 1 by omega]
 simp [h1, h2, show ¬ j < a + 1 by omega]
theorem made_hdr (H0 Z : Nat) : madeCells #[Value.slice none 0 0] Z = hdrCells H0 Z 0 := by
 apply Array.ext'
 rw [toList_madeCells_one]
 apply List.ext_getElem?
 intro i
 by_cases hi : i < Z <;> simp [hdrCells, rowCells, hi]
structure LoopSt (w : World) (L : Lay) (g : GramD) (n : Nat) (S M : Nat → Nat → Bool) (K : Nat → Nat → Int) (hiT gT : Nat) (gsT : Nat → Nat) (T : Nat → Nat → Bool) (wr : World) : Prop where
 ctr : Ctr wr L g n S M K
 grd : Grid Value.bool 4 wr w.heap.size hiT gT gsT (nonsOf g * (n + 1)) (nonsOf g * (n + 1)) T
 hi : hiT ≤ wr.heap.size
 lt : L.Bc < w.heap.size
section
variable {w wr w' : World} {L : Lay} {g : GramD} {n : Nat} {S M : Nat → Nat → Bool} {K : Nat → Nat → Int} {hiT gT : Nat} {gsT : Nat → Nat} {T T' : Nat → Nat → Bool}
theorem LoopSt.below (h : LoopSt w L g n S M K hiT gT gsT T wr) (hb : Below wr.heap.size wr w') : LoopSt w L g n S M K hiT gT gsT T w' := ⟨h.ctr.below hb, h.grd.below hb h.hi, Nat.le_trans h.hi hb.size, h.lt⟩
theorem LoopSt.drew (h : LoopSt w L g n S M K hiT gT gsT T wr) : LoopSt w L g n S M K hiT gT gsT T wr.drew := h.below (Below.refl _ _).drew
theorem LoopSt.congr (h : LoopSt w L g n S M K hiT gT gsT T wr) (hT : ∀ i j, i < nonsOf g * (n + 1) → j < nonsOf g * (n + 1) → T i j = T' i j) : LoopSt w L g n S M K hiT gT gsT T' wr := ⟨h.ctr, h.grd.congr hT, h.hi, h.lt⟩
theorem LoopSt.set (h : LoopSt w L g n S M K hiT gT gsT T wr) {i : Nat} (j : Nat) (hi : i < nonsOf g * (n + 1)) (x : Bool) : LoopSt w L g n S M K hiT gT gsT (fun b c => if b = i ∧ c = j then x else T b c) (wr.setCell ⟨gsT i, j, none⟩ (.bool x)) := by
 obtain ⟨r1, _, _⟩ := h.grd.rng i hi
 have := h.lt
 exact ⟨h.ctr.keep (fun q hq => Below.heap_setCell _ _ _ _ (by simp; omega)), h.grd.set j hi x, by simpa [World.setCell] using h.hi, h.lt⟩
end
def EdgeOk (S : Nat → Nat → Bool) (r : RuleD) (k i b j : Nat) : Prop := r.2[i]? = some (false, (b : Int)) ∧ j ≤ k ∧ S b j = true ∧ splitT S (r.2.take i) (r.2.drop (i + 1)) (k - j) = true
def DoneI (S : Nat → Nat → Bool) (n : Nat) (T : Nat → Nat → Bool) (r : RuleD) (k i : Nat) : Prop := ∀ b j, EdgeOk S r k i b j → T (numOf n (r.1.toNat, k)) (numOf n (b, j)) = true
def DoneK (S : Nat → Nat → Bool) (n : Nat) (T : Nat → Nat → Bool) (r : RuleD) (k : Nat) : Prop := ∀ i, DoneI S n T r k i
def LeT (T T' : Nat → Nat → Bool) : Prop := ∀ x y, T x y = true → T' x y = true
def SndT (R : List RuleD) (S : Nat → Nat → Bool) (n : Nat) (T : Nat → Nat → Bool) : Prop := ∀ x y, T x y = true → toB R S n x y = true
theorem DoneI.mono {S : Nat → Nat → Bool} {n : Nat} {T T' : Nat → Nat → Bool} {r : RuleD} {k i : Nat} (h : DoneI S n T r k i) (hT : LeT T T') : DoneI S n T' r k i := fun b j he => hT _ _ (h b j he)
theorem DoneK.mono {S : Nat → Nat → Bool} {n : Nat} {T T' : Nat → Nat → Bool} {r : RuleD} {k : Nat} (h : DoneK S n T r k) (hT : LeT T T') : DoneK S n T' r k := fun i => (h i).mono hT
theorem EdgeOk.toB {R : List RuleD} {S : Nat → Nat → Bool} {n : Nat} {r : RuleD} {k i b j : Nat} (h : EdgeOk S r k i b j) (hr : r ∈ R) (h0 : 0 ≤ r.1 ∧ k ≤ n) : Go.Proofs.YtjnbjdbndbbanaaGreatDoor.toB R S n (numOf n (r.1.toNat, k)) (numOf n (b, j)) = true := by
 obtain ⟨h1, h2, h3, h4⟩ := h
 unfold Go.Proofs.YtjnbjdbndbbanaaGreatDoor.toB
 rw [nodeOf_num h0.2, nodeOf_num (by dsimp only; omega)]
 simp only [edgeB, List.any_eq_true, Bool.and_eq_true, decide_eq_true_eq, List.mem_range]
 exact ⟨r, hr, (Int.toNat_of_nonneg h0.1).symm, i, (List.getElem?_eq_some_iff.1 h1).1, ⟨⟨h1, h2⟩, h3⟩, h4⟩
theorem full_toB {R : List RuleD} {S : Nat → Nat → Bool} {n : Nat} {T : Nat → Nat → Bool} (hs : SndT R S n T) (hd : ∀ r ∈ R, ∀ k, k ≤ n → DoneK S n T r k) (x y : Nat) : T x y = toB R S n x y := by
 rw [Bool.eq_iff_iff]
 refine ⟨hs x y, fun h => ?_⟩
 have hx := numOf_node n x
 have hy := numOf_node n y
 have hle := nodeOf_le n x
 unfold toB at h
 simp only [edgeB, List.any_eq_true, Bool.and_eq_true, decide_eq_true_eq, List.mem_range] at h
 obtain ⟨r, hr, h1, i, hi, ⟨⟨h2, h3⟩, h4⟩, h5⟩ := h
 have := hd r hr (nodeOf n x).2 hle i (nodeOf n y).1 (nodeOf n y).2 ⟨h2, h3, h4, h5⟩
 have e : r.1.toNat = (nodeOf n x).1 := by rw [h1]; simp
 rw [e] at this
 rw [← hx, ← hy]
 exact this
def midM (W : Nat → Nat → Bool) (Z n i j : Nat) (a k : Nat) : Bool :=
 if numOf n (a, k) < i then manyB W Z (numOf n (a, k)) else if numOf n (a, k) = i then (List.range j).any (fun q => (decide (i = q) || W i q) && W q q) else false
theorem midM_zero (W : Nat → Nat → Bool) (Z n a k : Nat) : midM W Z n 0 0 a k = false := by
 unfold midM
 simp
theorem midM_next (W : Nat → Nat → Bool) (Z n i a k : Nat) : midM W Z n i Z a k = midM W Z n (i + 1) 0 a k := by
 unfold midM
 by_cases h1 : numOf n (a, k) < i
 · rw [if_pos h1, if_pos (by omega)]
 rw [if_neg h1]
 by_cases h2 : numOf n (a, k) = i
 ·
  rw [if_pos h2, if_pos (by omega), h2]
  rfl
 rw [if_neg h2, if_neg (by omega)]
 by_cases h3 : numOf n (a, k) = i + 1 <;> simp [h3]
theorem midM_no {W : Nat → Nat → Bool} {Z n i j : Nat} (h : ((decide (i = j) || W i j) && W j j) = false) (a k : Nat) : midM W Z n i j a k = midM W Z n i (j + 1) a k := by
 unfold midM
 rw [List.range_succ, List.any_append]
 simp [h]
theorem midM_yes {W : Nat → Nat → Bool} {Z n i j : Nat} (h : ((decide (i = j) || W i j) && W j j) = true) (a k : Nat) (hk : k ≤ n) : (if a = (nodeOf n i).1 ∧ k = (nodeOf n i).2 then true else midM W Z n i j a k) = midM W Z n i (j + 1) a k := by
 by_cases e : a = (nodeOf n i).1 ∧ k = (nodeOf n i).2
 ·
  rw [if_pos e]
  have : numOf n (a, k) = i := by rw [e.1, e.2]; exact numOf_node n i
  unfold midM
  rw [if_neg (by omega), if_pos this, List.range_succ, List.any_append]
  simp [h]
 rw [if_neg e]
 have hne : numOf n (a, k) ≠ i := fun h' => e (by rw [← h', nodeOf_num hk]; exact ⟨rfl, rfl⟩)
 unfold midM
 rw [if_neg hne, if_neg hne]
def Fr4 (w : World) (L : Lay) (wr : World) : Prop := (∀ q, q < w.heap.size → ¬ (L.l2 ≤ q ∧ q < L.l3) → wr.heap[q]? = w.heap[q]?) ∧ (wr.os = w.os ∧ wr.tape = w.tape ∧ wr.output = w.output) ∧ w.heap.size ≤ wr.heap.size
theorem Fr4.of {w wr : World} {L : Lay} (hb : Below w.heap.size w wr) : Fr4 w L wr := ⟨fun q hq _ => hb.block q hq, ⟨hb.os, hb.tape, hb.output⟩, hb.size⟩
theorem Fr4.set {w wr : World} {L : Lay} (h : Fr4 w L wr) {p : Addr} (hp : L.l2 ≤ p.block ∧ p.block < L.l3) (v : Value) : Fr4 w L (wr.drew.setCell p v) :=
 ⟨fun q hq hn => (Below.heap_setCell _ _ _ _ (fun e => hn (by rw [e]; exact hp))).trans (h.1 q hq hn), h.2.1, by simpa [World.setCell] using h.2.2⟩
theorem LoopSt.setM {w wr : World} {L : Lay} {g : GramD} {n : Nat} {S M : Nat → Nat → Bool} {K : Nat → Nat → Int} {hiT gT : Nat} {gsT : Nat → Nat} {T : Nat → Nat → Bool} (h : LoopSt w L g n S M K hiT gT gsT T wr) {a : Nat} (k : Nat) (ha : a < nonsOf g) (x : Bool) :
    LoopSt w L g n S (fun b j => if b = a ∧ j = k then x else M b j) K hiT gT gsT T (wr.setCell ⟨L.s2 a, k, none⟩ (.bool x)) := by
 obtain ⟨r1, r2, _⟩ := h.ctr.gM.rng a ha
 have h1 := h.ctr.o3
 have h2 := h.ctr.o4
 have h3 := h.lt
 exact ⟨h.ctr.setM k ha x, h.grd.keep (fun q hq _ => Below.heap_setCell _ _ _ _ (by simp; omega)), by simpa [World.setCell] using h.hi, h.lt⟩
theorem LoopSt.congrM {w wr : World} {L : Lay} {g : GramD} {n : Nat} {S M M' : Nat → Nat → Bool} {K : Nat → Nat → Int} {hiT gT : Nat} {gsT : Nat → Nat} {T : Nat → Nat → Bool} (h : LoopSt w L g n S M K hiT gT gsT T wr) (hM : ∀ a k, a < nonsOf g → k < n + 1 → M a k = M' a k) : LoopSt w L g n S M' K hiT gT gsT T wr :=
 ⟨{ h.ctr with gM := h.ctr.gM.congr hM }, h.grd, h.hi, h.lt⟩
set_option linter.unusedSimpArgs false in
set_option maxRecDepth 1000000 in
set_option maxHeartbeats 8000000 in
theorem ctrLoops {L : Lay} {g : GramD} {n : Nat} {S : Nat → Nat → Bool} {K : Nat → Nat → Int} (w : World) (h : Ctr w L g n S (fun _ _ => false) K) (hv : GValid g) (hn : n ≤ 1000) :
    Calls Tryz.prog 43 #[.pointer (some ⟨L.Bc, 0, none⟩)] w fun e w' => e = .returned (.tuple #[]) ∧
     Ctr w' L g n S (fun a k => manyB (war (toB g.2.2.2 S n) (nonsOf g * (n + 1))) (nonsOf g * (n + 1)) (numOf n (a, k))) K ∧ (∀ q, q < w.heap.size → ¬ (L.l2 ≤ q ∧ q < L.l3) → w'.heap[q]? = w.heap[q]?) ∧ (w'.os = w.os ∧ w'.tape = w.tape ∧ w'.output = w.output) ∧ w.heap.size ≤ w'.heap.size := by
 have hN0 : g.2.1 = (nonsOf g : Int) := by have := hv.n1; unfold nonsOf; omega
 have hN1 : 1 ≤ nonsOf g := by have := hv.n1; unfold nonsOf; omega
 have hN2 : nonsOf g ≤ 10 := by have := hv.n2; unfold nonsOf; omega
 obtain ⟨Z, hZ⟩ := zE (nonsOf g * (n + 1))
 have hZ1 : 1 ≤ Z := by rw [hZ]; exact Nat.mul_pos hN1 (by omega)
 have hZ2 : Z ≤ 10010 := by rw [hZ]; have := Nat.mul_le_mul hN2 (show n + 1 ≤ 1001 by omega); omega
 have hc1 : w.cell? ⟨L.Bc, 1, none⟩ = some (.int .i64 (nonsOf g : Int)) := by rw [← hN0]; exact h.cell 1
 have hc4 : w.cell? ⟨L.Bc, 4, none⟩ = some (.int .i64 n) := h.cell 4
 have hw1 : IntKind.i64.wrap ((n : Int) + 1) = (n : Int) + 1 := IntWalk.i64_in _ (by omega)
 have hw2 : IntKind.i64.wrap ((nonsOf g : Int) * ((n : Int) + 1)) = (Z : Int) := by
  have : ((nonsOf g : Int) * ((n : Int) + 1)) = (Z : Int) := by rw [hZ]; simp
  rw [this]; exact IntWalk.i64_in _ (by omega)
 have hw3 : wrap64 ((nonsOf g : Int) * ((n : Int) + 1)) = (Z : Int) := by
  have : ((nonsOf g : Int) * ((n : Int) + 1)) = (Z : Int) := by rw [hZ]; simp
  rw [this]; exact IntWalk.wrap64_in _ ⟨by omega, by omega⟩
 have HC := zh h
 have HV := zh hv
 have HZ := zh hZ
 have hlt := h.lt
 clear h hv hZ hN0
 go_enter Tryz.func43, Tryz.ntmps43
 go_wp2_with fail
 go_quiet (fail)
 have hmk := fun W => tBoolss.make rfl Z (by omega) (by omega) W
 go_wp2_with fail
 rw [made_hdr w.heap.size]
 clear hmk
 have hst0 : ((w.drewN nq).alloc (.cells (hdrCells w.heap.size Z 0) 94)).heap[w.heap.size]? = some (.cells (hdrCells w.heap.size Z 0) 94 (0, 0)) := heap_new _ _ _ rfl
 have HST0 := zh hst0
 clear hst0
 go_loopg [31] Z (fun gk i wr => ∃ a : Nat, a ≤ Z ∧ gk = Z - a ∧ i = .int .i64 a ∧ wr.heap[w.heap.size]? = some (.cells (hdrCells w.heap.size Z a) 94 (0, 0)) ∧ wr.heap.size = w.heap.size + 1 + a ∧ (∀ b, b < a → wr.heap[w.heap.size + 1 + b]? = some (.cells (rowCells Value.bool Z (fun _ => false)) 4 (0, 0))) ∧ Below w.heap.size w wr)
 case atStart => exact ⟨0, Nat.zero_le _, rfl, rfl, HST0.out, by simp, (fun b hb => absurd hb (by omega)), (belowN (Below.refl _ _) _).alloc (Nat.le_refl _) _⟩
 case round =>
  obtain ⟨a, ha, hgk, rfl, hh, hz, hrows, hb⟩ := hrel
  have HGK := zh hgk
  have HH := zh hh
  have HZZ := zh hz
  have HRW := zh hrows
  have HB := zh hb
  have hlw : w.heap.size < wr.heap.size := by omega
  clear HST0 hgk hz hrows hb
  by_cases hlt' : a < Z
  ·
   have hcell : wr.cell? ⟨w.heap.size, a, none⟩ = some (.slice none 0 0) := by
    rw [cell_of_row wr _ a _ _ _ hh, hdrCells_at _ _ _ _ hlt']
    simp
   have hfr : wr.frozen? ⟨w.heap.size, a, none⟩ = false := by simp [World.frozen?, hh]
   have hmk := tBools.make rfl Z (by omega) (by omega) wr
   rw [made_row] at hmk
   have hset := blk_set hh a (.slice (some ⟨w.heap.size + 1 + a, 0, none⟩) Z Z)
   rw [hdrCells_set, ← HZZ.out] at hset
   have HSET := zh hset
   clear hh hset
   go_wp2_with fail
   go_roundg (Z - (a + 1))
   case measure => rw [HGK.out]; omega
   case rel =>
    have hzz := HZZ.out
    refine ⟨a + 1, by omega, rfl, by go_num, (Below.heap_alloc _ _ _ (by simp [World.setCell]; omega)).trans HSET.out, by simp [World.setCell]; omega, fun b hb => ?_, (HB.out.setCell (Nat.le_refl _) _).alloc (by simp [World.setCell]; omega) _⟩
    by_cases e : b = a
    ·
     subst e
     exact heap_new _ _ _ (by simp [World.setCell]; exact hzz)
    rw [Below.heap_alloc _ _ _ (by simp [World.setCell]; omega), Below.heap_setCell _ _ _ _ (by simp; omega)]
    exact HRW.out b (by omega)
  obtain rfl : Z = a := by omega
  have hls : LoopSt w L g n S (fun _ _ => false) K (w.heap.size + 1 + Z) w.heap.size (fun i => w.heap.size + 1 + i) (fun _ _ => false) wr := by
   refine ⟨HC.out.below HB.out, ⟨fun i hi => ?_, fun i hi => ?_, fun i hi => ⟨by omega, by have := HZ.out; omega, by omega⟩, ⟨by omega, by omega⟩, fun i j _ _ e => by omega⟩, by have := HZZ.out; omega, hlt⟩
   ·
    rw [← HZ.out] at hi
    rw [cell_of_row wr _ i _ _ _ hh, hdrCells_at _ _ _ _ hi, if_pos hi, ← HZ.out]
   rw [← HZ.out] at hi
   rw [HRW.out i hi, ← HZ.out]
  have HLS := zh hls
  have hcA : wr.cell? ⟨L.Bc, 3, none⟩ = some (.slice L.AR L.nR L.cR) := hls.ctr.cell 3
  clear hh hls HH HZZ HRW hlw hw1 hw2 hw3 hc1 hc4
  have HB1 := HB
  clear HB HGK
  go_wp2_with fail
  clear hcA
  have HRL := zh HC.out.rules.len
  have HRO := zh (show ∀ r ∈ g.2.2.2, (0 ≤ r.1 ∧ r.1.toNat < nonsOf g) ∧ r.2.length ≤ 4 ∧ NonOk (nonsOf g) r.2 from fun r hr => by
   obtain ⟨⟨h1, h2⟩, h3, h4⟩ := HV.out.rules r hr
   refine ⟨⟨h1, by unfold nonsOf; omega⟩, h3, fun s hs hf => ?_⟩
   obtain ⟨k1, k2⟩ := h4 s hs
   rw [hf] at k2
   simp only [Bool.false_eq_true, if_false] at k2
   exact ⟨k1, by unfold nonsOf; omega⟩)
  have hnR : L.nR ≤ 32 := by have := HV.out.rl; have := HRL.out; omega
  obtain ⟨AR', hARg⟩ := zE L.AR
  rw [← hARg]
  have HARG := zh hARg
  clear hARg
  obtain ⟨w1, rfl⟩ := zE wr
  go_loopg [46] L.nR (fun gk i wr => ∃ (a : Nat) (T : Nat → Nat → Bool), a ≤ L.nR ∧ gk = L.nR - a ∧ i = .int .i64 a ∧ LoopSt w L g n S (fun _ _ => false) K (w.heap.size + 1 + Z) w.heap.size (fun i => w.heap.size + 1 + i) T wr ∧ SndT g.2.2.2 S n T ∧ (∀ j r, j < a → g.2.2.2[j]? = some r → ∀ k, k ≤ n → DoneK S n T r k) ∧ Below w.heap.size w wr)
  case atStart => exact ⟨0, _, Nat.zero_le _, rfl, rfl, HLS.out, (fun _ _ h => by cases h), (fun j r hj => absurd hj (by omega)), HB1.out⟩
  case round =>
   obtain ⟨a, T, ha, hgk, rfl, hls, hsn, hdn, hb⟩ := hrel
   have HGK := zh hgk
   have HLS2 := zh hls
   have HSN := zh hsn
   have HDN := zh hdn
   have HB := zh hb
   clear HLS HB1 hgk hsn hdn hb
   by_cases hla : a < L.nR
   ·
    obtain ⟨b0, off, AQ, m, cQ, r, hAR, _, _, hr1, hr2, hr, hrs⟩ := rule_at HC.out.rules hla
    replace hr1 := Kept.below (S := fun _ => True) HB.out _ _ trivial hr1
    replace hr2 := Kept.below (S := fun _ => True) HB.out _ _ trivial hr2
    obtain ⟨⟨hr0, hrN⟩, hr4, hrn⟩ := HRO.out r (List.mem_of_getElem? hr)
    obtain ⟨left, hleft⟩ : ∃ left : Nat, r.1 = (left : Int) := ⟨r.1.toNat, by omega⟩
    have hm4 : m ≤ 4 := by have := hrs.len; omega
    have hc4 : wr.cell? ⟨L.Bc, 4, none⟩ = some (.int .i64 n) := hls.ctr.cell 4
    have hlBc := hls.ctr.lt
    rw [hleft] at hr1
    have HR := zh hr
    have HRS := zh hrs
    have HLF := zh hleft
    have HRN := zh hrn
    have hAR2 : AR' = some ⟨b0, off, none⟩ := HARG.out.trans hAR
    subst hAR2
    obtain ⟨w2, rfl⟩ := zE wr
    clear hls hr hrs hleft hrn hr0 hAR
    go_wp2_with fail
    have hbr0 : (w2.alloc (.cells #[.int .i64 left, .slice AQ m cQ] 60)).heap[w2.heap.size]? = some (.cells #[.int .i64 left, .slice AQ m cQ] 60 (0, 0)) := heap_alloc_new w2 _
    have hT2 := HLS2.out.hi
    have HBR0 := zh hbr0
    clear hbr0 hr1 hr2 hc4
    go_loopg [55] (n + 1) (fun gk i wr => ∃ (k : Nat) (T1 : Nat → Nat → Bool), k ≤ n + 1 ∧ gk = n + 1 - k ∧ i = .int .i64 k ∧ LoopSt w L g n S (fun _ _ => false) K (w.heap.size + 1 + Z) w.heap.size (fun i => w.heap.size + 1 + i) T1 wr ∧ SndT g.2.2.2 S n T1 ∧ LeT T T1 ∧ (∀ j, j < k → DoneK S n T1 r j) ∧ wr.heap[w2.heap.size]? = some (.cells #[.int .i64 left, .slice AQ m cQ] 60 (0, 0)) ∧ Below w.heap.size w wr)
    case atStart => exact ⟨0, T, Nat.zero_le _, rfl, rfl, HLS2.out.below ((Below.refl _ _).alloc (Nat.le_refl _) _), HSN.out, (fun _ _ h => h), (fun j hj => absurd hj (by omega)), HBR0.out, HB.out.alloc HB.out.size _⟩
    case round =>
     obtain ⟨k, T1, hk, hgk, rfl, hls, hsn, hle, hdn, hbr, hb⟩ := hrel
     have HGK1 := zh hgk
     have HLS3 := zh hls
     have HSN3 := zh hsn
     have HLE3 := zh hle
     have HDN3 := zh hdn
     have HBR3 := zh hbr
     have HB3 := zh hb
     have hcQ : wr.cell? ⟨w2.heap.size, 1, none⟩ = some (.slice AQ m cQ) := by simp [World.cell?, hbr]
     have hlr := heap_lt hbr
     clear HBR0 hgk hls hsn hle hdn hbr hb
     by_cases hkn : k < n + 1
     ·
      obtain ⟨w3, rfl⟩ := zE wr
      have hknd : decide ((k : Int) < (n : Int) + 1) = true := by simp; omega
      go_wp2_with fail
      clear hcQ hknd
      go_loopg [61] m (fun gk i wr => ∃ (i0 : Nat) (T2 : Nat → Nat → Bool), i0 ≤ m ∧ gk = m - i0 ∧ i = .int .i64 i0 ∧ LoopSt w L g n S (fun _ _ => false) K (w.heap.size + 1 + Z) w.heap.size (fun i => w.heap.size + 1 + i) T2 wr ∧ SndT g.2.2.2 S n T2 ∧ LeT T1 T2 ∧ (∀ j, j < i0 → DoneI S n T2 r k j) ∧ wr.heap[w2.heap.size]? = some (.cells #[.int .i64 left, .slice AQ m cQ] 60 (0, 0)) ∧ Below w.heap.size w wr)
      case atStart => exact ⟨0, T1, Nat.zero_le _, rfl, rfl, HLS3.out, HSN3.out, (fun _ _ h => h), (fun j hj => absurd hj (by omega)), HBR3.out, HB3.out⟩
      case round =>
       obtain ⟨i, T2, hi, hgi, rfl, hls, hsn, hle, hdn, hbr, hb⟩ := hrel
       have HGI := zh hgi
       have HLS5 := zh hls
       have HSN5 := zh hsn
       have HLE5 := zh hle
       have HDN5 := zh hdn
       have HBR5 := zh hbr
       have HB5 := zh hb
       have hlr5 := heap_lt hbr
       have hhi5 := hls.hi
       clear hgi hls hsn hle hdn hbr hb
       by_cases him : i < m
       ·
        obtain ⟨w5, rfl⟩ := zE wr
        obtain ⟨bq, oq, s, hAQ, _, _, hs1, hs2, hsy⟩ := sym_at HRS.out him
        replace hs1 := Kept.below (S := fun _ => True) HB5.out _ _ trivial hs1
        replace hs2 := Kept.below (S := fun _ => True) HB5.out _ _ trivial hs2
        have HRS5 := zh (HRS.out.below HB5.out)
        have hcapQ := HRS.out.cap
        subst hAQ
        obtain ⟨st, sn⟩ := s
        dsimp only at hs1 hs2
        have HSY0 := zh hsy
        cases st with
        | true =>
         clear hsy
         go_wp2_with fail
         go_roundg (m - (i + 1))
         case measure => rw [HGI.out]; omega
         case rel =>
          refine ⟨i + 1, T2, by omega, rfl, by go_num, HLS5.out.below ((Below.refl _ _).alloc (Nat.le_refl _) _), HSN5.out, HLE5.out, fun q hq => ?_, (Below.heap_alloc _ _ _ hlr5).trans HBR5.out, HB5.out.alloc HB5.out.size _⟩
          rcases Nat.lt_succ_iff_lt_or_eq.1 hq with h | rfl
          · exact HDN5.out q h
          intro b' j' he
          have := he.1
          rw [HSY0.out] at this
          simp at this
        | false =>
         obtain ⟨hb0, hbN⟩ := HRN.out (false, sn) (List.mem_of_getElem? hsy) rfl
         dsimp only at hb0 hbN
         obtain ⟨b, rfl⟩ : ∃ b : Nat, sn = (b : Int) := ⟨sn.toNat, by omega⟩
         rw [Int.toNat_natCast] at hbN
         have HSY := HSY0
         clear hsy hb0 HSY0
         go_wp2_with fail
         clear hs1 hs2
         have hbs0 : (w5.alloc (.cells #[.bool false, .int .i64 (b : Int)] 62)).heap[w5.heap.size]? = some (.cells #[.bool false, .int .i64 (b : Int)] 62 (0, 0)) := heap_alloc_new w5 _
         have HBS0 := zh hbs0
         clear hbs0
         go_loopg [70] (k + 1) (fun gk q wr => ∃ (j : Nat) (T3 : Nat → Nat → Bool), j ≤ k + 1 ∧ gk = k + 1 - j ∧ q = .int .i64 j ∧ LoopSt w L g n S (fun _ _ => false) K (w.heap.size + 1 + Z) w.heap.size (fun i => w.heap.size + 1 + i) T3 wr ∧ SndT g.2.2.2 S n T3 ∧ LeT T2 T3 ∧ (∀ q, q < j → EdgeOk S r k i b q → T3 (numOf n (r.1.toNat, k)) (numOf n (b, q)) = true) ∧ wr.heap[w2.heap.size]? = some (.cells #[.int .i64 left, .slice (some ⟨bq, oq, none⟩) m cQ] 60 (0, 0)) ∧ wr.heap[w5.heap.size]? = some (.cells #[.bool false, .int .i64 (b : Int)] 62 (0, 0)) ∧ Below w.heap.size w wr)
         case atStart => exact ⟨0, T2, Nat.zero_le _, rfl, rfl, HLS5.out.below ((Below.refl _ _).alloc (Nat.le_refl _) _), HSN5.out, (fun _ _ h => h), (fun j hj => absurd hj (by omega)), (Below.heap_alloc _ _ _ hlr5).trans HBR5.out, HBS0.out, HB5.out.alloc HB5.out.size _⟩
         case round =>
          obtain ⟨j, T3, hj, hgj, rfl, hls, hsn, hle, hdn, hbr, hbs, hb⟩ := hrel
          have HGJ := zh hgj
          have HLS7 := zh hls
          have HSN7 := zh hsn
          have HLE7 := zh hle
          have HDN7 := zh hdn
          have HBR7 := zh hbr
          have HBS7 := zh hbs
          have HB7 := zh hb
          have hhi7 := hls.hi
          clear HBS0 hgj hsn hle hdn hb
          by_cases hjk : j < k + 1
          ·
           have hS5 : wr.cell? ⟨L.Bc, 5, none⟩ = some (.slice (some ⟨L.g1, 0, none⟩) (nonsOf g) L.c1) := hls.ctr.cell 5
           have hSh := hls.ctr.gS.hdr b hbN
           have hSc := hls.ctr.gS.cell hbN (show j < n + 1 by omega)
           have hBs1 : wr.cell? ⟨w5.heap.size, 1, none⟩ = some (.int .i64 (b : Int)) := by simp [World.cell?, hbs]
           have hBr1 : wr.cell? ⟨w2.heap.size, 1, none⟩ = some (.slice (some ⟨bq, oq, none⟩) m cQ) := by simp [World.cell?, hbr]
           have hlb := hls.ctr.lt
           have i1 : (b : Int) < (nonsOf g : Int) := by omega
           have i2 : (j : Int) < ((n + 1 : Nat) : Int) := by omega
           have i3 : (0 : Int) ≤ (b : Int) := by omega
           have i4 : (0 : Int) ≤ (j : Int) := by omega
           have i5 : (j : Int) < (n : Int) + 1 := by omega
           clear hls hbr hbs
           cases hsb : S b j with
           | false =>
            have HSB := zh hsb
            rw [hsb] at hSc
            clear hsb
            go_wp2_with fail
            go_quiet (fail)
            go_wp2_with fail
            go_roundg (k + 1 - (j + 1))
            case measure => rw [HGJ.out]; omega
            case rel =>
             refine ⟨j + 1, T3, by omega, rfl, by go_num, HLS7.out.below (belowN (Below.refl _ _) _), HSN7.out, HLE7.out, fun q hq he => ?_, HBR7.out, HBS7.out, belowN HB7.out _⟩
             rcases Nat.lt_succ_iff_lt_or_eq.1 hq with h | rfl
             · exact HDN7.out q h he
             have := he.2.2.1
             rw [HSB.out] at this
             cases this
           | true =>
            have HSB := zh hsb
            rw [hsb] at hSc
            clear hsb
            have hsl7 := HRS.out.below HB7.out
            obtain ⟨AD, hcutD, hslD⟩ := hsl7.cutl tSyms rfl (i + 1) (by omega)
            simp only [Int.natCast_add, Int.cast_ofNat_Int] at hcutD
            have hcutT := fun u => tSyms.hN (some ⟨bq, oq, none⟩) m cQ i (by omega) u
            have hiq : i ≤ cQ := by omega
            have hiq1 : i + 1 ≤ m := by omega
            have hiq2 : (i : Int) + 1 ≤ (m : Int) := by omega
            have hiq3 : i + 1 ≤ cQ := by omega
            have HTK := zh (hsl7.take i (by omega))
            have HDR := zh hslD
            have HWI := zh (IntWalk.i64_in ((i : Int) + 1) (by omega))
            have HKJW := zh (show IntKind.i64.wrap ((k : Int) - (j : Int)) = ((k - j : Nat) : Int) by rw [IntWalk.i64_in _ (by omega)]; omega)
            have HKJ := zh (show ((k : Int) - (j : Int)) = ((k - j : Nat) : Int) by omega)
            have hall : ∀ u : World, Below wr.drew.heap.size wr.drew u → u.cell? ⟨L.Bc, 5, none⟩ = some (.slice (some ⟨L.g1, 0, none⟩) (nonsOf g) L.c1) ∧ u.cell? ⟨L.g1, b, none⟩ = some (.slice (some ⟨L.s1 b, 0, none⟩) (n + 1) (n + 1)) ∧ u.cell? ⟨L.s1 b, j, none⟩ = some (.bool true) ∧ u.cell? ⟨w5.heap.size, 1, none⟩ = some (.int .i64 (b : Int)) ∧ u.cell? ⟨w2.heap.size, 1, none⟩ = some (.slice (some ⟨bq, oq, none⟩) m cQ) := fun u hu =>
             ⟨(hu.cell (cell_lt hS5)).trans hS5, (hu.cell (cell_lt hSh)).trans hSh, (hu.cell (cell_lt hSc)).trans hSc, (hu.cell (cell_lt hBs1)).trans hBs1, (hu.cell (cell_lt hBr1)).trans hBr1⟩
            have HALL := zh hall
            have HK0 := zh (hall _ (Below.refl _ _))
            clear hall hsl7 hslD
            go_wp2_with fail
            refine wp_region_late (late := []) (S1 := fun u => u.cell? ⟨L.Bc, 5, none⟩ = some (.slice (some ⟨L.g1, 0, none⟩) (nonsOf g) L.c1) ∧ u.cell? ⟨L.g1, b, none⟩ = some (.slice (some ⟨L.s1 b, 0, none⟩) (n + 1) (n + 1)) ∧ u.cell? ⟨L.s1 b, j, none⟩ = some (.bool true) ∧ u.cell? ⟨w5.heap.size, 1, none⟩ = some (.int .i64 (b : Int)) ∧ u.cell? ⟨w2.heap.size, 1, none⟩ = some (.slice (some ⟨bq, oq, none⟩) m cQ)) (S := fun _ => True) (by kernel_rfl) ?_
            refine zP (i := 0) rfl (fun u hu => by obtain ⟨k0, k1, k2, k3, k4⟩ := hu; go_simp; try rfl) HK0.out zt ?_
            simp only [Act.put, zA, zB, zC, zD, zF, zG]
            refine zP (i := 1) rfl (fun u hu => by obtain ⟨k0, k1, k2, k3, k4⟩ := hu; go_simp; try rfl) HK0.out zt ?_
            simp only [Act.put, zA, zB, zC, zD, zF, zG]
            refine zP (i := 2) rfl (fun u hu => by obtain ⟨k0, k1, k2, k3, k4⟩ := hu; go_simp; try rfl) HK0.out zt ?_
            simp only [Act.put, zA, zB, zC, zD, zF, zG]
            refine zP (i := 3) rfl (fun u hu => by obtain ⟨k0, k1, k2, k3, k4⟩ := hu; go_simp; try rfl) HK0.out zt ?_
            simp only [Act.put, zA, zB, zC, zD, zF, zG]
            refine zP (i := 4) rfl (fun u hu => by obtain ⟨k0, k1, k2, k3, k4⟩ := hu; go_simp; try rfl) HK0.out zt ?_
            simp only [Act.put, zA, zB, zC, zD, zF, zG]
            refine zP (i := 5) rfl (fun u hu => by obtain ⟨k0, k1, k2, k3, k4⟩ := hu; go_simp; try rfl) HK0.out zt ?_
            simp only [Act.put, zA, zB, zC, zD, zF, zG]
            refine zP (i := 6) rfl (fun u hu => by obtain ⟨k0, k1, k2, k3, k4⟩ := hu; go_simp; try rfl) HK0.out zt ?_
            simp only [Act.put, zA, zB, zC, zD, zF, zG]
            refine zP (i := 7) rfl (fun u hu => by obtain ⟨k0, k1, k2, k3, k4⟩ := hu; go_simp; try rfl) HK0.out zt ?_
            simp only [Act.put, zA, zB, zC, zD, zF, zG]
            refine zP (i := 8) rfl (fun u hu => by obtain ⟨k0, k1, k2, k3, k4⟩ := hu; go_simp; try rfl) HK0.out zt ?_
            simp only [Act.put, zA, zB, zC, zD, zF, zG]
            refine zP (i := 9) rfl (fun u hu => by obtain ⟨k0, k1, k2, k3, k4⟩ := hu; go_simp; try rfl) HK0.out zt ?_
            simp only [Act.put, zA, zB, zC, zD, zF, zG]
            refine zP (i := 10) rfl (fun u hu => by obtain ⟨k0, k1, k2, k3, k4⟩ := hu; go_simp; try rfl) HK0.out zt ?_
            simp only [Act.put, zA, zB, zC, zD, zF, zG]
            refine zP (i := 11) rfl (fun u hu => by obtain ⟨k0, k1, k2, k3, k4⟩ := hu; go_simp; try rfl) HK0.out zt ?_
            simp only [Act.put, zA, zB, zC, zD, zF, zG]
            refine zP (i := 12) rfl (fun u hu => by obtain ⟨k0, k1, k2, k3, k4⟩ := hu; go_simp; try rfl) HK0.out zt ?_
            simp only [Act.put, zA, zB, zC, zD, zF, zG]
            refine zP (i := 13) rfl (fun u hu => by obtain ⟨k0, k1, k2, k3, k4⟩ := hu; go_simp; try rfl) HK0.out zt ?_
            simp only [Act.put, zA, zB, zC, zD, zF, zG]
            refine zP (i := 14) rfl (fun u hu => by obtain ⟨k0, k1, k2, k3, k4⟩ := hu; go_simp; try rfl) HK0.out zt ?_
            simp only [Act.put, zA, zB, zC, zD, zF, zG]
            refine zP (i := 15) rfl (fun u hu => by obtain ⟨k0, k1, k2, k3, k4⟩ := hu; go_simp; try rfl) HK0.out zt ?_
            simp only [Act.put, zA, zB, zC, zD, zF, zG]
            refine zP (i := 16) rfl (fun u hu => by obtain ⟨k0, k1, k2, k3, k4⟩ := hu; go_simp; try rfl) HK0.out zt ?_
            simp only [Act.put, zA, zB, zC, zD, zF, zG]
            refine zP (i := 17) rfl (fun u hu => by obtain ⟨k0, k1, k2, k3, k4⟩ := hu; go_simp; try rfl) HK0.out zt ?_
            simp only [Act.put, zA, zB, zC, zD, zF, zG]
            refine zP (i := 18) rfl (fun u hu => by obtain ⟨k0, k1, k2, k3, k4⟩ := hu; go_simp; try rfl) HK0.out zt ?_
            simp only [Act.put, zA, zB, zC, zD, zF, zG]
            refine zP (i := 19) rfl (fun u hu => by obtain ⟨k0, k1, k2, k3, k4⟩ := hu; go_simp; try rfl) HK0.out zt ?_
            simp only [Act.put, zA, zB, zC, zD, zF, zG]
            refine zP (i := 20) (v := .int .i64 ((i : Int) + 1)) rfl (fun u hu => by go_simp; first | rw [HWI.out] | rfl) HK0.out zt ?_
            simp only [Act.put, zA, zB, zC, zD, zF, zG]
            refine zP (i := 21) rfl (fun u hu => by obtain ⟨k0, k1, k2, k3, k4⟩ := hu; go_simp; try rfl) HK0.out zt ?_
            simp only [Act.put, zA, zB, zC, zD, zF, zG]
            refine zP (i := 22) rfl (fun u hu => by obtain ⟨k0, k1, k2, k3, k4⟩ := hu; go_simp; try rfl) HK0.out zt ?_
            simp only [Act.put, zA, zB, zC, zD, zF, zG]
            refine zP (i := 23) rfl (fun u hu => by obtain ⟨k0, k1, k2, k3, k4⟩ := hu; go_simp; try rfl) HK0.out zt ?_
            simp only [Act.put, zA, zB, zC, zD, zF, zG]
            refine zP (i := 24) (v := .int .i64 ((k - j : Nat) : Int)) rfl (fun u hu => by go_simp; first | rw [HKJW.out] | rw [HKJ.out] | rfl) HK0.out zt ?_
            simp only [Act.put, zA, zB, zC, zD, zF, zG]
            refine zR 25 rfl (fun K hK => ?_)
            go_simp
            refine (ctrSplit hn _ HLS7.out.drew.ctr _ _ _ _ _ (r.2.take i) (HTK.out.drew) (HRN.out.take i) _ _ _ (r.2.drop (i + 1)) (HDR.out.drew) (HRN.out.drop (i + 1)) (k - j) (by omega)).mono ?_
            rintro e w9 ⟨rfl, hb9⟩
            have HLS9 := zh (HLS7.out.drew.below hb9)
            have HB9 := zh (HB7.out.drew.trans (hb9.mono HB7.out.size))
            have HKK := zh (HALL.out _ hb9)
            have HBR9 := zh ((hb9.block _ (heap_lt HBR7.out)).trans HBR7.out)
            have HBS9 := zh ((hb9.block _ (heap_lt HBS7.out)).trans HBS7.out)
            have hz9 := hb9.size
            clear hb9
            refine hK.out _ _ HKK.out zt ?_
            clear hK K
            refine zP (i := 26) rfl (fun u hu => by obtain ⟨k0, k1, k2, k3, k4⟩ := hu; go_simp; try rfl) HKK.out zt ?_
            simp only [Act.put, zA, zB, zC, zD, zF, zG]
            refine wpAnyL_done (by kernel_rfl) ?_ _
            cases hsp : splitT S (r.2.take i) (r.2.drop (i + 1)) (k - j) with
            | false =>
             have HSP := zh hsp
             clear hsp
             go_wp2_with fail
             go_roundg (k + 1 - (j + 1))
             case measure => rw [HGJ.out]; omega
             case rel =>
              refine ⟨j + 1, T3, by omega, rfl, by go_num, HLS9.out, HSN7.out, HLE7.out, fun q hq he => ?_, HBR9.out, HBS9.out, HB9.out⟩
              rcases Nat.lt_succ_iff_lt_or_eq.1 hq with h | rfl
              · exact HDN7.out q h he
              have := he.2.2.2
              rw [HSP.out] at this
              cases this
            | true =>
             have HSP := zh hsp
             clear hsp
             have hkn' : 0 ≤ r.1 ∧ k ≤ n := ⟨by rw [HLF.out]; omega, by omega⟩
             obtain ⟨p1, hp1⟩ := zE (left * (n + 1))
             obtain ⟨p2, hp2⟩ := zE (b * (n + 1))
             obtain ⟨x, hx⟩ := zE (p1 + k)
             obtain ⟨y, hy⟩ := zE (p2 + j)
             have hlN : left < nonsOf g := by have := hrN; rw [HLF.out, Int.toNat_natCast] at this; exact this
             have hb1 : p1 ≤ 10010 := by rw [hp1]; have := Nat.mul_le_mul (show left ≤ 10 by omega) (show n + 1 ≤ 1001 by omega); omega
             have hb2 : p2 ≤ 10010 := by rw [hp2]; have := Nat.mul_le_mul (show b ≤ 10 by omega) (show n + 1 ≤ 1001 by omega); omega
             have hxn : numOf n (left, k) = x := by unfold numOf; dsimp only; omega
             have hyn : numOf n (b, j) = y := by unfold numOf; dsimp only; omega
             have hxZ : x < Z := by rw [← hxn, HZ.out]; exact numOf_lt hlN (by dsimp only; omega)
             have hyZ : y < Z := by rw [← hyn, HZ.out]; exact numOf_lt hbN (by dsimp only; omega)
             have HM1 := zh (show IntKind.i64.wrap ((left : Int) * ((n : Int) + 1)) = (p1 : Int) by
              have : ((left : Int) * ((n : Int) + 1)) = (p1 : Int) := by rw [hp1]; simp
              rw [this]; exact IntWalk.i64_in _ (by omega))
             have HM2 := zh (show IntKind.i64.wrap ((b : Int) * ((n : Int) + 1)) = (p2 : Int) by
              have : ((b : Int) * ((n : Int) + 1)) = (p2 : Int) := by rw [hp2]; simp
              rw [this]; exact IntWalk.i64_in _ (by omega))
             have HA1 := zh (show IntKind.i64.wrap ((p1 : Int) + (k : Int)) = (x : Int) by rw [IntWalk.i64_in _ (by omega)]; omega)
             have HA2 := zh (show IntKind.i64.wrap ((p2 : Int) + (j : Int)) = (y : Int) by rw [IntWalk.i64_in _ (by omega)]; omega)
             have HN1 := zh (IntWalk.i64_in ((n : Int) + 1) (by omega))
             have HXX := zh hxn
             have HYY := zh hyn
             have x1 : (x : Int) < (Z : Int) := by omega
             have x2 : (0 : Int) ≤ (x : Int) := by omega
             have y1 : (y : Int) < (Z : Int) := by omega
             have y2 : (0 : Int) ≤ (y : Int) := by omega
             have hxZ' : x < nonsOf g * (n + 1) := by rw [← HZ.out]; exact hxZ
             have hgc := HLS9.out.drew.grd.cell hxZ' (show y < nonsOf g * (n + 1) by rw [← HZ.out]; exact hyZ)
             have hgh := HLS9.out.drew.grd.hdr x hxZ'
             have hgf := HLS9.out.drew.grd.fr hxZ' y
             rw [← HZ.out] at hgh
             have hk1 : w9.drew.cell? ⟨w2.heap.size, 0, none⟩ = some (.int .i64 (left : Int)) ∧ w9.drew.cell? ⟨L.Bc, 4, none⟩ = some (.int .i64 (n : Int)) ∧ w9.drew.cell? ⟨w.heap.size, x, none⟩ = some (.slice (some ⟨w.heap.size + 1 + x, 0, none⟩) Z Z) ∧ w9.drew.cell? ⟨w5.heap.size, 1, none⟩ = some (.int .i64 (b : Int)) := by
              refine ⟨?_, HLS9.out.drew.ctr.cell 4, hgh, ?_⟩
              ·
               show w9.cell? _ = _
               simp [World.cell?, HBR9.out]
              show w9.cell? _ = _
              simp [World.cell?, HBS9.out]
             have hhi9 := HLS9.out.hi
             have hBcw := HLS9.out.lt
             have HS24 := zh (And.intro (setOther (.bool true) (p := ⟨w.heap.size + 1 + x, y, none⟩) hk1.1 (by simp; omega)) (And.intro (setOther (.bool true) (p := ⟨w.heap.size + 1 + x, y, none⟩) hk1.2.1 (by simp; omega)) (And.intro (setOther (.bool true) (p := ⟨w.heap.size + 1 + x, y, none⟩) hk1.2.2.1 (by simp; omega)) (setOther (.bool true) (p := ⟨w.heap.size + 1 + x, y, none⟩) hk1.2.2.2 (by simp; omega)))))
             have HK1 := zh hk1
             have HCT := zh hgc
             have HFT := zh hgf
             have HLS10 := zh (HLS9.out.drew.set y hxZ' true)
             clear hp1 hp2 hx hy hxn hyn hgc hgh hgf hk1 hb1 hb2 hcutD hcutT hS5 hSh hSc hBs1 hBr1
             go_wp2_with fail
             refine wp_region_late (late := []) (S1 := fun u => u.cell? ⟨w2.heap.size, 0, none⟩ = some (.int .i64 (left : Int)) ∧ u.cell? ⟨L.Bc, 4, none⟩ = some (.int .i64 (n : Int)) ∧ u.cell? ⟨w.heap.size, x, none⟩ = some (.slice (some ⟨w.heap.size + 1 + x, 0, none⟩) Z Z) ∧ u.cell? ⟨w5.heap.size, 1, none⟩ = some (.int .i64 (b : Int))) (S := fun _ => True) (by kernel_rfl) ?_
             refine zP (i := 0) rfl (fun u hu => by obtain ⟨k0, k1, k2, k3⟩ := hu; go_simp; try rfl) HK1.out zt ?_
             simp only [Act.put, zA, zB, zC, zD, zF, zG]
             refine zP (i := 1) rfl (fun u hu => by obtain ⟨k0, k1, k2, k3⟩ := hu; go_simp; try rfl) HK1.out zt ?_
             simp only [Act.put, zA, zB, zC, zD, zF, zG]
             refine zP (i := 2) rfl (fun u hu => by obtain ⟨k0, k1, k2, k3⟩ := hu; go_simp; try rfl) HK1.out zt ?_
             simp only [Act.put, zA, zB, zC, zD, zF, zG]
             refine zP (i := 3) rfl (fun u hu => by obtain ⟨k0, k1, k2, k3⟩ := hu; go_simp; try rfl) HK1.out zt ?_
             simp only [Act.put, zA, zB, zC, zD, zF, zG]
             refine zP (i := 4) rfl (fun u hu => by obtain ⟨k0, k1, k2, k3⟩ := hu; go_simp; try rfl) HK1.out zt ?_
             simp only [Act.put, zA, zB, zC, zD, zF, zG]
             refine zP (i := 5) rfl (fun u hu => by obtain ⟨k0, k1, k2, k3⟩ := hu; go_simp; try rfl) HK1.out zt ?_
             simp only [Act.put, zA, zB, zC, zD, zF, zG]
             refine zP (i := 6) rfl (fun u hu => by obtain ⟨k0, k1, k2, k3⟩ := hu; go_simp; try rfl) HK1.out zt ?_
             simp only [Act.put, zA, zB, zC, zD, zF, zG]
             refine zP (i := 7) (v := .int .i64 ((n : Int) + 1)) rfl (fun u hu => by go_simp; first | rw [HN1.out] | rfl) HK1.out zt ?_
             simp only [Act.put, zA, zB, zC, zD, zF, zG]
             refine zP (i := 8) (v := .int .i64 (p1 : Int)) rfl (fun u hu => by go_simp; rw [HM1.out]) HK1.out zt ?_
             simp only [Act.put, zA, zB, zC, zD, zF, zG]
             refine zP (i := 9) rfl (fun u hu => by obtain ⟨k0, k1, k2, k3⟩ := hu; go_simp; try rfl) HK1.out zt ?_
             simp only [Act.put, zA, zB, zC, zD, zF, zG]
             refine zP (i := 10) (v := .int .i64 (x : Int)) rfl (fun u hu => by go_simp; rw [HA1.out]) HK1.out zt ?_
             simp only [Act.put, zA, zB, zC, zD, zF, zG]
             refine zP (i := 11) rfl (fun u hu => by obtain ⟨k0, k1, k2, k3⟩ := hu; go_simp; try rfl) HK1.out zt ?_
             simp only [Act.put, zA, zB, zC, zD, zF, zG]
             refine zP (i := 12) rfl (fun u hu => by obtain ⟨k0, k1, k2, k3⟩ := hu; go_simp; try rfl) HK1.out zt ?_
             simp only [Act.put, zA, zB, zC, zD, zF, zG]
             refine zP (i := 13) rfl (fun u hu => by obtain ⟨k0, k1, k2, k3⟩ := hu; go_simp; try rfl) HK1.out zt ?_
             simp only [Act.put, zA, zB, zC, zD, zF, zG]
             refine zP (i := 14) rfl (fun u hu => by obtain ⟨k0, k1, k2, k3⟩ := hu; go_simp; try rfl) HK1.out zt ?_
             simp only [Act.put, zA, zB, zC, zD, zF, zG]
             refine zP (i := 15) rfl (fun u hu => by obtain ⟨k0, k1, k2, k3⟩ := hu; go_simp; try rfl) HK1.out zt ?_
             simp only [Act.put, zA, zB, zC, zD, zF, zG]
             refine zP (i := 16) rfl (fun u hu => by obtain ⟨k0, k1, k2, k3⟩ := hu; go_simp; try rfl) HK1.out zt ?_
             simp only [Act.put, zA, zB, zC, zD, zF, zG]
             refine zP (i := 17) rfl (fun u hu => by obtain ⟨k0, k1, k2, k3⟩ := hu; go_simp; try rfl) HK1.out zt ?_
             simp only [Act.put, zA, zB, zC, zD, zF, zG]
             refine zP (i := 18) rfl (fun u hu => by obtain ⟨k0, k1, k2, k3⟩ := hu; go_simp; try rfl) HK1.out zt ?_
             simp only [Act.put, zA, zB, zC, zD, zF, zG]
             refine zP (i := 19) (v := .int .i64 ((n : Int) + 1)) rfl (fun u hu => by go_simp; first | rw [HN1.out] | rfl) HK1.out zt ?_
             simp only [Act.put, zA, zB, zC, zD, zF, zG]
             refine zP (i := 20) (v := .int .i64 (p2 : Int)) rfl (fun u hu => by go_simp; rw [HM2.out]) HK1.out zt ?_
             simp only [Act.put, zA, zB, zC, zD, zF, zG]
             refine zP (i := 21) rfl (fun u hu => by obtain ⟨k0, k1, k2, k3⟩ := hu; go_simp; try rfl) HK1.out zt ?_
             simp only [Act.put, zA, zB, zC, zD, zF, zG]
             refine zP (i := 22) (v := .int .i64 (y : Int)) rfl (fun u hu => by go_simp; rw [HA2.out]) HK1.out zt ?_
             simp only [Act.put, zA, zB, zC, zD, zF, zG]
             refine zP (i := 23) rfl (fun u hu => by obtain ⟨k0, k1, k2, k3⟩ := hu; go_simp; try rfl) HK1.out zt ?_
             simp only [Act.put, zA, zB, zC, zD, zF, zG]
             refine zR 24 rfl (fun K hK => ?_)
             have hc := HCT.out
             have hf := HFT.out
             go_simp
             clear hc hf
             refine hK.out _ _ HS24.out zt ?_
             clear hK K
             refine wpAnyL_done (by kernel_rfl) ?_ _
             go_wp2_with fail
             go_roundg (k + 1 - (j + 1))
             case measure => rw [HGJ.out]; omega
             case rel =>
              have hok : EdgeOk S r k i b j := ⟨HSY.out, by omega, HSB.out, HSP.out⟩
              have hnum : numOf n (r.1.toNat, k) = x ∧ numOf n (b, j) = y := by
               have hl := HLF.out
               rw [hl, Int.toNat_natCast, HXX.out, HYY.out]
               exact ⟨rfl, rfl⟩
              refine ⟨j + 1, _, by omega, rfl, by go_num, HLS10.out, ?_, ?_, fun q hq he => ?_, ?_, ?_, ?_⟩
              ·
               intro x' y' h
               by_cases e : x' = x ∧ y' = y
               ·
                obtain ⟨rfl, rfl⟩ := e
                have := hok.toB (List.mem_of_getElem? HR.out) hkn'
                rw [hnum.1, hnum.2] at this
                exact this
               dsimp only at h
               rw [if_neg e] at h
               exact HSN7.out x' y' h
              ·
               intro x' y' h
               by_cases e : x' = x ∧ y' = y
               · simp [e]
               simp only [if_neg e]; exact HLE7.out x' y' h
              ·
               rcases Nat.lt_succ_iff_lt_or_eq.1 hq with h | rfl
               ·
                have h2 := HDN7.out q h he
                by_cases e : numOf n (r.1.toNat, k) = x ∧ numOf n (b, q) = y
                · simp [e]
                simp only [if_neg e]; exact h2
               simp [hnum]
              · exact (Below.heap_setCell _ _ _ _ (by simp; omega)).trans HBR9.out
              · exact (Below.heap_setCell _ _ _ _ (by simp; omega)).trans HBS9.out
              exact HB9.out.drew.setCell (by simp; omega) _
          obtain rfl : j = k + 1 := by omega
          clear hls hbr hbs
          go_wp2_with fail
          go_roundg (m - (i + 1))
          case measure => rw [HGI.out]; omega
          case rel =>
           refine ⟨i + 1, T3, by omega, rfl, by go_num, HLS7.out, HSN7.out, (fun x y h => HLE7.out x y (HLE5.out x y h)), fun q hq => ?_, HBR7.out, HB7.out⟩
           rcases Nat.lt_succ_iff_lt_or_eq.1 hq with h | rfl
           · exact (HDN5.out q h).mono HLE7.out
           intro b' j' he
           have h1 := he.1
           rw [HSY.out] at h1
           simp only [Option.some.injEq, Prod.mk.injEq, true_and] at h1
           obtain rfl : b = b' := by omega
           exact HDN7.out j' (by have := he.2.1; omega) he
       obtain rfl : i = m := by omega
       go_wp2_with fail
       go_roundg (n + 1 - (k + 1))
       case measure => rw [HGK1.out]; omega
       case rel =>
        refine ⟨k + 1, T2, by omega, rfl, by go_num, HLS5.out, HSN5.out, (fun x y h => HLE5.out x y (HLE3.out x y h)), fun q hq => ?_, HBR5.out, HB5.out⟩
        rcases Nat.lt_succ_iff_lt_or_eq.1 hq with h | rfl
        · exact (HDN3.out q h).mono HLE5.out
        intro i'
        by_cases hi' : i' < i
        · exact HDN5.out i' hi'
        intro b' j' he
        have h1 := (List.getElem?_eq_some_iff.1 he.1).1
        have := HRS.out.len
        omega
     clear hcQ
     go_wp2_with fail
     go_roundg (L.nR - (a + 1))
     case measure => rw [HGK.out]; omega
     case rel =>
      refine ⟨a + 1, T1, by omega, rfl, by go_num, HLS3.out, HSN3.out, fun q r' hq hr' => ?_, HB3.out⟩
      rcases Nat.lt_succ_iff_lt_or_eq.1 hq with h | rfl
      · exact fun k' hk' => (HDN.out q r' h hr' k' hk').mono HLE3.out
      rw [HR.out] at hr'
      injection hr' with hr'
      subst hr'
      exact fun k' hk' => HDN3.out k' (by omega)
   obtain rfl : a = L.nR := by omega
   have hfull := full_toB HSN.out (fun r hr => by
    obtain ⟨q, hq⟩ := List.getElem?_of_mem hr
    exact HDN.out q r (by have := (List.getElem?_eq_some_iff.1 hq).1; have := HRL.out; omega) hq)
   have HW0 := zh (HLS2.out.congr (T' := war (toB g.2.2.2 S n) 0) fun i j _ _ => hfull i j)
   clear hfull HSN HDN HGK hls HLS2 HARG HRO HRL
   obtain ⟨e0, he0⟩ := zE (toB g.2.2.2 S n)
   rw [← he0] at HW0
   have HE0 := zh he0
   clear he0
   have HBa := HB
   clear HB
   go_wp2_with fail
   go_loopg [129] Z (fun gk i wr => ∃ k : Nat, k ≤ Z ∧ gk = Z - k ∧ i = .int .i64 k ∧ LoopSt w L g n S (fun _ _ => false) K (w.heap.size + 1 + Z) w.heap.size (fun i => w.heap.size + 1 + i) (war e0 k) wr ∧ Below w.heap.size w wr)
   case atStart => exact ⟨0, Nat.zero_le _, rfl, rfl, HW0.out, HBa.out⟩
   case round =>
    obtain ⟨k, hk, hgk, rfl, hls, hb⟩ := hrel
    have HGK := zh hgk
    have HLS := zh hls
    have HB := zh hb
    clear hgk hls hb HW0 HBa
    by_cases hkZ : k < Z
    ·
     go_wp2_with fail
     go_loopg [133] Z (fun gk q wr => ∃ i : Nat, i ≤ Z ∧ gk = Z - i ∧ q = .int .i64 i ∧ LoopSt w L g n S (fun _ _ => false) K (w.heap.size + 1 + Z) w.heap.size (fun i => w.heap.size + 1 + i) (fun x y => if x < i then war e0 (k + 1) x y else war e0 k x y) wr ∧ Below w.heap.size w wr)
     case atStart => exact ⟨0, Nat.zero_le _, rfl, rfl, HLS.out.congr (fun x y _ _ => by simp), HB.out⟩
     case round =>
      obtain ⟨i, hi, hgi, rfl, hls, hb⟩ := hrel
      have HGI := zh hgi
      have HLS1 := zh hls
      have HB1 := zh hb
      clear hgi hls hb
      by_cases hiZ : i < Z
      ·
       have hiZ' : i < nonsOf g * (n + 1) := by rw [← HZ.out]; exact hiZ
       have hkZ' : k < nonsOf g * (n + 1) := by rw [← HZ.out]; exact hkZ
       have hh := HLS1.out.grd.hdr i hiZ'
       have hc := HLS1.out.grd.cell hiZ' hkZ'
       rw [← HZ.out] at hh
       rw [if_neg (Nat.lt_irrefl i)] at hc
       cases hik : war e0 k i k with
       | false =>
        rw [hik] at hc
        have HIK := zh hik
        clear hik
        go_wp2_with fail
        go_roundg (Z - (i + 1))
        case measure => rw [HGI.out]; omega
        case rel =>
         refine ⟨i + 1, by omega, rfl, by go_num, HLS1.out.congr (fun x y _ _ => ?_), HB1.out⟩
         by_cases e1 : x < i
         · simp [e1, show x < i + 1 by omega]
         by_cases e2 : x = i
         ·
          subst e2
          simp [war, HIK.out]
         simp [e1, show ¬ x < i + 1 by omega]
       | true =>
        rw [hik] at hc
        have HIK := zh hik
        clear hik
        go_wp2_with fail
        clear hc hh
        go_loopg [145] Z (fun gk q wr => ∃ j : Nat, j ≤ Z ∧ gk = Z - j ∧ q = .int .i64 j ∧ LoopSt w L g n S (fun _ _ => false) K (w.heap.size + 1 + Z) w.heap.size (fun i => w.heap.size + 1 + i) (fun x y => if x < i ∨ (x = i ∧ y < j) then war e0 (k + 1) x y else war e0 k x y) wr ∧ Below w.heap.size w wr)
        case atStart => exact ⟨0, Nat.zero_le _, rfl, rfl, HLS1.out.congr (fun x y _ _ => by simp), HB1.out⟩
        case round =>
         obtain ⟨j, hj, hgj, rfl, hls, hb⟩ := hrel
         have HGJ := zh hgj
         have HLS2 := zh hls
         have HB2 := zh hb
         clear hgj hls hb
         by_cases hjZ : j < Z
         ·
          have hjZ' : j < nonsOf g * (n + 1) := by rw [← HZ.out]; exact hjZ
          have h1 := HLS2.out.drew.grd.hdr i hiZ'
          have h2 := HLS2.out.drew.grd.cell hiZ' hjZ'
          have h3 := HLS2.out.drew.grd.hdr k hkZ'
          have h4 := HLS2.out.drew.grd.cell hkZ' hjZ'
          have h5 := HLS2.out.drew.grd.fr hiZ' j
          rw [← HZ.out] at h1 h3
          rw [if_neg (by omega)] at h2
          have hkk : ∀ y, war e0 (k + 1) k y = war e0 k k y := fun y => by
           simp only [war]
           cases war e0 k k y <;> cases war e0 k k k <;> rfl
          have h4' : (if k < i ∨ (k = i ∧ j < j) then war e0 (k + 1) k j else war e0 k k j) = war e0 k k j := by
           split
           · exact hkk j
           rfl
          rw [h4'] at h4
          have hv : (war e0 k i j || war e0 k k j) = war e0 (k + 1) i j := by simp only [war, HIK.out, Bool.true_and]
          have HVV := zh hv
          have HLS3 := zh ((HLS2.out.drew.set j hiZ' (war e0 (k + 1) i j)).congr (T' := fun x y => if x < i ∨ (x = i ∧ y < j + 1) then war e0 (k + 1) x y else war e0 k x y) (fun x y _ _ => by
           by_cases e : x = i ∧ y = j
           ·
            obtain ⟨rfl, rfl⟩ := e
            simp
           rw [if_neg e]
           by_cases e1 : x < i ∨ (x = i ∧ y < j)
           · rw [if_pos e1, if_pos (by omega)]
           rw [if_neg e1, if_neg (by omega)]))
          have i1 : (i : Int) < (Z : Int) := by omega
          have i2 : (0 : Int) ≤ (i : Int) := by omega
          have i3 : (j : Int) < (Z : Int) := by omega
          have i4 : (0 : Int) ≤ (j : Int) := by omega
          have i5 : (k : Int) < (Z : Int) := by omega
          have i6 : (0 : Int) ≤ (k : Int) := by omega
          have hsum : wr.drew.cell? ⟨w.heap.size, i, none⟩ = some (.slice (some ⟨w.heap.size + 1 + i, 0, none⟩) Z Z) ∧ wr.drew.cell? ⟨w.heap.size, k, none⟩ = some (.slice (some ⟨w.heap.size + 1 + k, 0, none⟩) Z Z) ∧ wr.drew.cell? ⟨w.heap.size + 1 + i, j, none⟩ = some (.bool (war e0 k i j)) ∧ wr.drew.cell? ⟨w.heap.size + 1 + k, j, none⟩ = some (.bool (war e0 k k j)) := ⟨h1, h3, h2, h4⟩
          have HSU := zh hsum
          have HFR := zh h5
          clear h1 h2 h3 h4 h5 h4' hkk hv hsum
          have hgl : w.heap.size + 1 + i ≠ w.heap.size := by omega
          cases hij : war e0 k i j with
          | true =>
           have hnew : war e0 (k + 1) i j = true := by rw [← HVV.out, hij]; rfl
           rw [hnew] at HLS3
           have hsu := HSU.out
           rw [hij] at hsu
           clear HSU
           have HSU := zh hsu
           have HS0 := zh (show (wr.drew.cell? ⟨w.heap.size, i, none⟩ = some (.slice (some ⟨w.heap.size + 1 + i, 0, none⟩) Z Z) ∧ wr.drew.cell? ⟨w.heap.size, k, none⟩ = some (.slice (some ⟨w.heap.size + 1 + k, 0, none⟩) Z Z)) ∧ (wr.drew.cell? ⟨w.heap.size + 1 + i, j, none⟩ = some (.bool true) ∧ wr.drew.cell? ⟨w.heap.size + 1 + k, j, none⟩ = some (.bool (war e0 k k j))) from ⟨⟨hsu.1, hsu.2.1⟩, hsu.2.2.1, hsu.2.2.2⟩)
           have HS22 := zh (And.intro (setOther (.bool true) (p := ⟨w.heap.size + 1 + i, j, none⟩) hsu.1 (Ne.symm hgl)) (setOther (.bool true) (p := ⟨w.heap.size + 1 + i, j, none⟩) hsu.2.1 (Ne.symm hgl)))
           clear hij hnew hsu
           go_wp2_with fail
           refine wp_region_late (late := [22]) (S1 := fun u => u.cell? ⟨w.heap.size, i, none⟩ = some (.slice (some ⟨w.heap.size + 1 + i, 0, none⟩) Z Z) ∧ u.cell? ⟨w.heap.size, k, none⟩ = some (.slice (some ⟨w.heap.size + 1 + k, 0, none⟩) Z Z)) (S := fun u => u.cell? ⟨w.heap.size + 1 + i, j, none⟩ = some (.bool true) ∧ u.cell? ⟨w.heap.size + 1 + k, j, none⟩ = some (.bool (war e0 k k j))) (by kernel_rfl) ?_
           refine zP (i := 0) rfl (fun u hu => by have hu1 := hu.1; have hu2 := hu.2; go_simp; try rfl) HS0.out.1 (fun _ => HS0.out.2) ?_
           simp only [Act.put, zA, zB, zC, zD, zF, zG]
           refine zP (i := 1) rfl (fun u hu => by have hu1 := hu.1; have hu2 := hu.2; go_simp; try rfl) HS0.out.1 (fun _ => HS0.out.2) ?_
           simp only [Act.put, zA, zB, zC, zD, zF, zG]
           refine zP (i := 2) rfl (fun u hu => by have hu1 := hu.1; have hu2 := hu.2; go_simp; try rfl) HS0.out.1 (fun _ => HS0.out.2) ?_
           simp only [Act.put, zA, zB, zC, zD, zF, zG]
           refine zP (i := 3) rfl (fun u hu => by have hu1 := hu.1; have hu2 := hu.2; go_simp; try rfl) HS0.out.1 (fun _ => HS0.out.2) ?_
           simp only [Act.put, zA, zB, zC, zD, zF, zG]
           refine zP (i := 4) rfl (fun u hu => by have hu1 := hu.1; have hu2 := hu.2; go_simp; try rfl) HS0.out.1 (fun _ => HS0.out.2) ?_
           simp only [Act.put, zA, zB, zC, zD, zF, zG]
           refine zP (i := 5) rfl (fun u hu => by have hu1 := hu.1; have hu2 := hu.2; go_simp; try rfl) HS0.out.1 (fun _ => HS0.out.2) ?_
           simp only [Act.put, zA, zB, zC, zD, zF, zG]
           refine zP (i := 6) rfl (fun u hu => by have hu1 := hu.1; have hu2 := hu.2; go_simp; try rfl) HS0.out.1 (fun _ => HS0.out.2) ?_
           simp only [Act.put, zA, zB, zC, zD, zF, zG]
           refine zP (i := 7) rfl (fun u hu => by have hu1 := hu.1; have hu2 := hu.2; go_simp; try rfl) HS0.out.1 (fun _ => HS0.out.2) ?_
           simp only [Act.put, zA, zB, zC, zD, zF, zG]
           refine zP (i := 8) rfl (fun u hu => by have hu1 := hu.1; have hu2 := hu.2; go_simp; try rfl) HS0.out.1 (fun _ => HS0.out.2) ?_
           simp only [Act.put, zA, zB, zC, zD, zF, zG]
           refine zP (i := 9) rfl (fun u hu => by have hu1 := hu.1; have hu2 := hu.2; go_simp; try rfl) HS0.out.1 (fun _ => HS0.out.2) ?_
           simp only [Act.put, zA, zB, zC, zD, zF, zG]
           refine zP (i := 10) rfl (fun u hu => by have hu1 := hu.1; have hu2 := hu.2; go_simp; try rfl) HS0.out.1 (fun _ => HS0.out.2) ?_
           simp only [Act.put, zA, zB, zC, zD, zF, zG]
           refine wpAnyL_take (i := 11) rfl (by kernel_rfl) (fun _ _ _ h => h) (Or.inl ⟨by rfl, (fun u hu => by have hu1 := hu.1.1; have hu2 := hu.1.2; have hu3 := hu.2.1; have hu4 := hu.2.2; go_simp; try rfl)⟩) HS0.out.1 (fun _ => HS0.out.2) ?_
           simp only [Act.put, zA, zB, zC, zD, zF, zG]
           refine zP (i := 12) rfl (fun u hu => by have hu1 := hu.1; have hu2 := hu.2; go_simp; try rfl) HS0.out.1 (fun _ => HS0.out.2) ?_
           simp only [Act.put, zA, zB, zC, zD, zF, zG]
           refine wpAnyL_pure (i := 13) (v := undef) rfl (by kernel_rfl) (fun _ _ _ h => h) (Or.inr ⟨by rfl, rfl⟩) HS0.out.1 (fun _ => HS0.out.2) ?_
           simp only [Act.put, zA, zB, zC, zD, zF, zG]
           refine wpAnyL_pure (i := 14) (v := undef) rfl (by kernel_rfl) (fun _ _ _ h => h) (Or.inr ⟨by rfl, rfl⟩) HS0.out.1 (fun _ => HS0.out.2) ?_
           simp only [Act.put, zA, zB, zC, zD, zF, zG]
           refine wpAnyL_pure (i := 15) (v := undef) rfl (by kernel_rfl) (fun _ _ _ h => h) (Or.inr ⟨by rfl, rfl⟩) HS0.out.1 (fun _ => HS0.out.2) ?_
           simp only [Act.put, zA, zB, zC, zD, zF, zG]
           refine wpAnyL_pure (i := 16) (v := undef) rfl (by kernel_rfl) (fun _ _ _ h => h) (Or.inr ⟨by rfl, rfl⟩) HS0.out.1 (fun _ => HS0.out.2) ?_
           simp only [Act.put, zA, zB, zC, zD, zF, zG]
           refine wpAnyL_pure (i := 17) (v := undef) rfl (by kernel_rfl) (fun _ _ _ h => h) (Or.inr ⟨by rfl, rfl⟩) HS0.out.1 (fun _ => HS0.out.2) ?_
           simp only [Act.put, zA, zB, zC, zD, zF, zG]
           refine wpAnyL_pure (i := 18) (v := undef) rfl (by kernel_rfl) (fun _ _ _ h => h) (Or.inr ⟨by rfl, rfl⟩) HS0.out.1 (fun _ => HS0.out.2) ?_
           simp only [Act.put, zA, zB, zC, zD, zF, zG]
           refine wpAnyL_pure (i := 19) (v := undef) rfl (by kernel_rfl) (fun _ _ _ h => h) (Or.inr ⟨by rfl, rfl⟩) HS0.out.1 (fun _ => HS0.out.2) ?_
           simp only [Act.put, zA, zB, zC, zD, zF, zG]
           refine zP (i := 20) rfl (fun u hu => by have hu1 := hu.1; have hu2 := hu.2; go_simp; try rfl) HS0.out.1 (fun _ => HS0.out.2) ?_
           simp only [Act.put, zA, zB, zC, zD, zF, zG]
           refine zP (i := 21) rfl (fun u hu => by have hu1 := hu.1; have hu2 := hu.2; go_simp; try rfl) HS0.out.1 (fun _ => HS0.out.2) ?_
           simp only [Act.put, zA, zB, zC, zD, zF, zG]
           refine zR 22 rfl (fun K hK => ?_)
           have hc := HSU.out.2.2.1
           have hf := HFR.out
           go_simp
           clear hc hf
           refine hK.out _ _ HS22.out (fun h => absurd (h 22 (by simp)) (by decide)) ?_
           clear hK K
           refine wpAnyL_done (by kernel_rfl) ?_ _
           go_wp2_with fail
           go_roundg (Z - (j + 1))
           case measure => rw [HGJ.out]; omega
           case rel => exact ⟨j + 1, by omega, rfl, by go_num, HLS3.out, HB2.out.drew.setCell (by simp; omega) _⟩
          | false =>
           have hnew : war e0 (k + 1) i j = war e0 k k j := by rw [← HVV.out, hij]; rfl
           rw [hnew] at HLS3
           have hsu := HSU.out
           rw [hij] at hsu
           clear HSU
           have HSU := zh hsu
           have HS0 := zh (show (wr.drew.cell? ⟨w.heap.size, i, none⟩ = some (.slice (some ⟨w.heap.size + 1 + i, 0, none⟩) Z Z) ∧ wr.drew.cell? ⟨w.heap.size, k, none⟩ = some (.slice (some ⟨w.heap.size + 1 + k, 0, none⟩) Z Z)) ∧ (wr.drew.cell? ⟨w.heap.size + 1 + i, j, none⟩ = some (.bool false) ∧ wr.drew.cell? ⟨w.heap.size + 1 + k, j, none⟩ = some (.bool (war e0 k k j))) from ⟨⟨hsu.1, hsu.2.1⟩, hsu.2.2.1, hsu.2.2.2⟩)
           have HS22 := zh (And.intro (setOther (.bool (war e0 k k j)) (p := ⟨w.heap.size + 1 + i, j, none⟩) hsu.1 (Ne.symm hgl)) (setOther (.bool (war e0 k k j)) (p := ⟨w.heap.size + 1 + i, j, none⟩) hsu.2.1 (Ne.symm hgl)))
           clear hij hnew hsu
           go_wp2_with fail
           refine wp_region_late (late := [22]) (S1 := fun u => u.cell? ⟨w.heap.size, i, none⟩ = some (.slice (some ⟨w.heap.size + 1 + i, 0, none⟩) Z Z) ∧ u.cell? ⟨w.heap.size, k, none⟩ = some (.slice (some ⟨w.heap.size + 1 + k, 0, none⟩) Z Z)) (S := fun u => u.cell? ⟨w.heap.size + 1 + i, j, none⟩ = some (.bool false) ∧ u.cell? ⟨w.heap.size + 1 + k, j, none⟩ = some (.bool (war e0 k k j))) (by kernel_rfl) ?_
           refine zP (i := 0) rfl (fun u hu => by have hu1 := hu.1; have hu2 := hu.2; go_simp; try rfl) HS0.out.1 (fun _ => HS0.out.2) ?_
           simp only [Act.put, zA, zB, zC, zD, zF, zG]
           refine zP (i := 1) rfl (fun u hu => by have hu1 := hu.1; have hu2 := hu.2; go_simp; try rfl) HS0.out.1 (fun _ => HS0.out.2) ?_
           simp only [Act.put, zA, zB, zC, zD, zF, zG]
           refine zP (i := 2) rfl (fun u hu => by have hu1 := hu.1; have hu2 := hu.2; go_simp; try rfl) HS0.out.1 (fun _ => HS0.out.2) ?_
           simp only [Act.put, zA, zB, zC, zD, zF, zG]
           refine zP (i := 3) rfl (fun u hu => by have hu1 := hu.1; have hu2 := hu.2; go_simp; try rfl) HS0.out.1 (fun _ => HS0.out.2) ?_
           simp only [Act.put, zA, zB, zC, zD, zF, zG]
           refine zP (i := 4) rfl (fun u hu => by have hu1 := hu.1; have hu2 := hu.2; go_simp; try rfl) HS0.out.1 (fun _ => HS0.out.2) ?_
           simp only [Act.put, zA, zB, zC, zD, zF, zG]
           refine zP (i := 5) rfl (fun u hu => by have hu1 := hu.1; have hu2 := hu.2; go_simp; try rfl) HS0.out.1 (fun _ => HS0.out.2) ?_
           simp only [Act.put, zA, zB, zC, zD, zF, zG]
           refine zP (i := 6) rfl (fun u hu => by have hu1 := hu.1; have hu2 := hu.2; go_simp; try rfl) HS0.out.1 (fun _ => HS0.out.2) ?_
           simp only [Act.put, zA, zB, zC, zD, zF, zG]
           refine zP (i := 7) rfl (fun u hu => by have hu1 := hu.1; have hu2 := hu.2; go_simp; try rfl) HS0.out.1 (fun _ => HS0.out.2) ?_
           simp only [Act.put, zA, zB, zC, zD, zF, zG]
           refine zP (i := 8) rfl (fun u hu => by have hu1 := hu.1; have hu2 := hu.2; go_simp; try rfl) HS0.out.1 (fun _ => HS0.out.2) ?_
           simp only [Act.put, zA, zB, zC, zD, zF, zG]
           refine zP (i := 9) rfl (fun u hu => by have hu1 := hu.1; have hu2 := hu.2; go_simp; try rfl) HS0.out.1 (fun _ => HS0.out.2) ?_
           simp only [Act.put, zA, zB, zC, zD, zF, zG]
           refine zP (i := 10) rfl (fun u hu => by have hu1 := hu.1; have hu2 := hu.2; go_simp; try rfl) HS0.out.1 (fun _ => HS0.out.2) ?_
           simp only [Act.put, zA, zB, zC, zD, zF, zG]
           refine wpAnyL_take (i := 11) rfl (by kernel_rfl) (fun _ _ _ h => h) (Or.inl ⟨by rfl, (fun u hu => by have hu1 := hu.1.1; have hu2 := hu.1.2; have hu3 := hu.2.1; have hu4 := hu.2.2; go_simp; try rfl)⟩) HS0.out.1 (fun _ => HS0.out.2) ?_
           simp only [Act.put, zA, zB, zC, zD, zF, zG]
           refine zP (i := 12) rfl (fun u hu => by have hu1 := hu.1; have hu2 := hu.2; go_simp; try rfl) HS0.out.1 (fun _ => HS0.out.2) ?_
           simp only [Act.put, zA, zB, zC, zD, zF, zG]
           refine zP (i := 13) rfl (fun u hu => by have hu1 := hu.1; have hu2 := hu.2; go_simp; try rfl) HS0.out.1 (fun _ => HS0.out.2) ?_
           simp only [Act.put, zA, zB, zC, zD, zF, zG]
           refine zP (i := 14) rfl (fun u hu => by have hu1 := hu.1; have hu2 := hu.2; go_simp; try rfl) HS0.out.1 (fun _ => HS0.out.2) ?_
           simp only [Act.put, zA, zB, zC, zD, zF, zG]
           refine zP (i := 15) rfl (fun u hu => by have hu1 := hu.1; have hu2 := hu.2; go_simp; try rfl) HS0.out.1 (fun _ => HS0.out.2) ?_
           simp only [Act.put, zA, zB, zC, zD, zF, zG]
           refine zP (i := 16) rfl (fun u hu => by have hu1 := hu.1; have hu2 := hu.2; go_simp; try rfl) HS0.out.1 (fun _ => HS0.out.2) ?_
           simp only [Act.put, zA, zB, zC, zD, zF, zG]
           refine zP (i := 17) rfl (fun u hu => by have hu1 := hu.1; have hu2 := hu.2; go_simp; try rfl) HS0.out.1 (fun _ => HS0.out.2) ?_
           simp only [Act.put, zA, zB, zC, zD, zF, zG]
           refine zP (i := 18) rfl (fun u hu => by have hu1 := hu.1; have hu2 := hu.2; go_simp; try rfl) HS0.out.1 (fun _ => HS0.out.2) ?_
           simp only [Act.put, zA, zB, zC, zD, zF, zG]
           refine wpAnyL_take (i := 19) rfl (by kernel_rfl) (fun _ _ _ h => h) (Or.inl ⟨by rfl, (fun u hu => by have hu1 := hu.1.1; have hu2 := hu.1.2; have hu3 := hu.2.1; have hu4 := hu.2.2; go_simp; try rfl)⟩) HS0.out.1 (fun _ => HS0.out.2) ?_
           simp only [Act.put, zA, zB, zC, zD, zF, zG]
           refine zP (i := 20) rfl (fun u hu => by have hu1 := hu.1; have hu2 := hu.2; go_simp; try rfl) HS0.out.1 (fun _ => HS0.out.2) ?_
           simp only [Act.put, zA, zB, zC, zD, zF, zG]
           refine zP (i := 21) rfl (fun u hu => by have hu1 := hu.1; have hu2 := hu.2; go_simp; try rfl) HS0.out.1 (fun _ => HS0.out.2) ?_
           simp only [Act.put, zA, zB, zC, zD, zF, zG]
           refine zR 22 rfl (fun K hK => ?_)
           have hc := HSU.out.2.2.1
           have hf := HFR.out
           go_simp
           clear hc hf
           refine hK.out _ _ HS22.out (fun h => absurd (h 22 (by simp)) (by decide)) ?_
           clear hK K
           refine wpAnyL_done (by kernel_rfl) ?_ _
           go_wp2_with fail
           go_roundg (Z - (j + 1))
           case measure => rw [HGJ.out]; omega
           case rel => exact ⟨j + 1, by omega, rfl, by go_num, HLS3.out, HB2.out.drew.setCell (by simp; omega) _⟩
         obtain rfl : j = Z := by omega
         go_wp2_with fail
         go_roundg (j - (i + 1))
         case measure => rw [HGI.out]; omega
         case rel =>
          refine ⟨i + 1, by omega, rfl, by go_num, HLS2.out.congr (fun x y _ hy => ?_), HB2.out⟩
          rw [← HZ.out] at hy
          by_cases e1 : x < i + 1
          · rw [if_pos e1, if_pos (by omega)]
          rw [if_neg e1, if_neg (by omega)]
      obtain rfl : i = Z := by omega
      go_wp2_with fail
      go_roundg (i - (k + 1))
      case measure => rw [HGK.out]; omega
      case rel =>
       refine ⟨k + 1, by omega, rfl, by go_num, HLS1.out.congr (fun x y hx _ => ?_), HB1.out⟩
       rw [← HZ.out] at hx
       rw [if_pos hx]
    obtain rfl : k = Z := by omega
    have HM0 := zh (HLS.out.congrM (M' := midM (war e0 k) k n 0 0) (fun a q _ _ => (midM_zero _ _ _ _ _).symm))
    have HF0 := zh (Fr4.of (L := L) HB.out)
    obtain ⟨W, hW⟩ := zE (war e0 k)
    rw [← hW] at HM0
    have HWW := zh hW
    obtain ⟨Z, hZk⟩ := zE k
    subst hZk
    clear hW HGK HLS HB
    go_wp2_with fail
    go_loopg [174] Z (fun gk q wr => ∃ i : Nat, i ≤ Z ∧ gk = Z - i ∧ q = .int .i64 i ∧ LoopSt w L g n S (midM W Z n i 0) K (w.heap.size + 1 + Z) w.heap.size (fun i => w.heap.size + 1 + i) W wr ∧ Fr4 w L wr)
    case atStart => exact ⟨0, Nat.zero_le _, rfl, rfl, HM0.out, HF0.out⟩
    case round =>
     obtain ⟨i, hi, hgi, rfl, hls, hfr⟩ := hrel
     have HGI := zh hgi
     have HLS1 := zh hls
     have HFR1 := zh hfr
     clear hgi hls hfr HM0 HF0
     by_cases hiZ : i < Z
     ·
      have hiZ' : i < nonsOf g * (n + 1) := by rw [← HZ.out]; exact hiZ
      go_wp2_with fail
      go_loopg [178] Z (fun gk q wr => ∃ j : Nat, j ≤ Z ∧ gk = Z - j ∧ q = .int .i64 j ∧ LoopSt w L g n S (midM W Z n i j) K (w.heap.size + 1 + Z) w.heap.size (fun i => w.heap.size + 1 + i) W wr ∧ Fr4 w L wr)
      case atStart => exact ⟨0, Nat.zero_le _, rfl, rfl, HLS1.out, HFR1.out⟩
      case round =>
       obtain ⟨j, hj, hgj, rfl, hls, hfr⟩ := hrel
       have HGJ := zh hgj
       have HLS2 := zh hls
       have HFR2 := zh hfr
       clear hgj hls hfr
       by_cases hjZ : j < Z
       ·
        have hjZ' : j < nonsOf g * (n + 1) := by rw [← HZ.out]; exact hjZ
        have h1 := HLS2.out.grd.hdr i hiZ'
        have h2 := HLS2.out.grd.cell hiZ' hjZ'
        have h3 := HLS2.out.grd.hdr j hjZ'
        have h4 := HLS2.out.grd.cell hjZ' hjZ'
        rw [← HZ.out] at h1 h3
        by_cases hc : ((decide (i = j) || W i j) && W j j) = true
        ·
         have hjj : W j j = true := by
          rw [Bool.and_eq_true] at hc
          exact hc.2
         rw [hjj] at h4
         obtain ⟨qa, hqa⟩ := zE (i / (n + 1))
         obtain ⟨qk, hqk⟩ := zE (i % (n + 1))
         have hnode : nodeOf n i = (qa, qk) := by rw [hqa, hqk]; rfl
         have hqkn : qk < n + 1 := by rw [hqk]; exact Nat.mod_lt _ (by omega)
         have hqaN : qa < nonsOf g := by rw [hqa]; exact Nat.div_lt_of_lt_mul (by rw [Nat.mul_comm]; exact hiZ')
         have HLS3 := zh ((HLS2.out.drew.setM qk hqaN true).congrM (M' := midM W Z n i (j + 1)) (fun a q _ hq => by
          have := midM_yes hc a q (by omega) (Z := Z) (n := n)
          rw [hnode] at this
          exact this))
         obtain ⟨rg1, rg2, rg3⟩ := HLS2.out.ctr.gM.rng qa hqaN
         have HFR3 := zh (HFR2.out.set (p := ⟨L.s2 qa, qk, none⟩) ⟨rg1, rg2⟩ (.bool true))
         have hk0 : wr.drew.cell? ⟨L.Bc, 6, none⟩ = some (.slice (some ⟨L.g2, 0, none⟩) (nonsOf g) L.c2) := HLS2.out.drew.ctr.cell 6
         have hk1 : wr.drew.cell? ⟨L.Bc, 4, none⟩ = some (.int .i64 (n : Int)) := HLS2.out.drew.ctr.cell 4
         have hk2 := HLS2.out.drew.ctr.gM.hdr qa hqaN
         have hkc := HLS2.out.drew.ctr.gM.cell hqaN hqkn
         have hkf := HLS2.out.drew.ctr.gM.fr hqaN qk
         have or1 := HLS2.out.ctr.o3
         have or2 := HLS2.out.ctr.o4
         have HK1 := zh (And.intro hk0 (And.intro hk1 hk2))
         have HS21 := zh (And.intro (setOther (.bool true) (p := ⟨L.s2 qa, qk, none⟩) hk0 (by simp; omega)) (And.intro (setOther (.bool true) (p := ⟨L.s2 qa, qk, none⟩) hk1 (by simp; omega)) (setOther (.bool true) (p := ⟨L.s2 qa, qk, none⟩) hk2 (Ne.symm rg3))))
         have HCT := zh hkc
         have HFT := zh hkf
         have hdv : ((i : Int) / ((n : Int) + 1)) = (qa : Int) := by rw [hqa]; simp
         have hmd : ((i : Int) % ((n : Int) + 1)) = (qk : Int) := by rw [hqk]; simp
         have hdt : ((i : Int).tdiv ((n : Int) + 1)) = (qa : Int) := by rw [Int.tdiv_eq_ediv_of_nonneg (by omega)]; exact hdv
         have hmt : ((i : Int).tmod ((n : Int) + 1)) = (qk : Int) := by rw [Int.tmod_eq_emod_of_nonneg (by omega)]; exact hmd
         have hqi : qa ≤ 10010 ∧ qk ≤ 10010 := by omega
         have HQ1 := zh (show IntKind.i64.wrap ((i : Int).tdiv ((n : Int) + 1)) = (qa : Int) by rw [hdt]; exact IntWalk.i64_in _ (by omega))
         have HQ0 := zh (IntWalk.i64_in (qa : Int) (by omega))
         have HQ00 := zh (IntWalk.i64_in (qk : Int) (by omega))
         have HQ1a := zh hdt
         have HQ1b := zh hdv
         have HQ2 := zh (show IntKind.i64.wrap ((i : Int).tmod ((n : Int) + 1)) = (qk : Int) by rw [hmt]; exact IntWalk.i64_in _ (by omega))
         have HQ2a := zh hmt
         have HQ2b := zh hmd
         have HN1 := zh (IntWalk.i64_in ((n : Int) + 1) (by omega))
         have hnz : ((n : Int) + 1 == 0) = false := by simp; omega
         have hnz2 : (n : Int) + 1 ≠ 0 := by omega
         have q1 : (qa : Int) < (nonsOf g : Int) := by omega
         have q2 : (0 : Int) ≤ (qa : Int) := by omega
         have q3 : (qk : Int) < ((n + 1 : Nat) : Int) := by omega
         have q4 : (0 : Int) ≤ (qk : Int) := by omega
         have q5 : (qk : Int) < (n : Int) + 1 := by omega
         clear hqa hqk hnode hk0 hk1 hk2 hkc hkf hdv hmd hdt hmt rg1 rg2 rg3
         by_cases hij : i = j
         ·
          have hije : ((i : Int) == (j : Int)) = true := by simp [hij]
          clear h1 h2 hc hjj hij
          go_wp2_with fail
          refine wp_region_late (late := []) (S1 := fun u => u.cell? ⟨L.Bc, 6, none⟩ = some (.slice (some ⟨L.g2, 0, none⟩) (nonsOf g) L.c2) ∧ u.cell? ⟨L.Bc, 4, none⟩ = some (.int .i64 (n : Int)) ∧ u.cell? ⟨L.g2, qa, none⟩ = some (.slice (some ⟨L.s2 qa, 0, none⟩) (n + 1) (n + 1))) (S := fun _ => True) (by kernel_rfl) ?_
          refine zP (i := 0) rfl (fun u hu => by obtain ⟨k0, k1, k2⟩ := hu; go_simp; try rfl) HK1.out zt ?_
          simp only [Act.put, zA, zB, zC, zD, zF, zG]
          refine zP (i := 1) rfl (fun u hu => by obtain ⟨k0, k1, k2⟩ := hu; go_simp; try rfl) HK1.out zt ?_
          simp only [Act.put, zA, zB, zC, zD, zF, zG]
          refine zP (i := 2) rfl (fun u hu => by obtain ⟨k0, k1, k2⟩ := hu; go_simp; try rfl) HK1.out zt ?_
          simp only [Act.put, zA, zB, zC, zD, zF, zG]
          refine zP (i := 3) rfl (fun u hu => by obtain ⟨k0, k1, k2⟩ := hu; go_simp; try rfl) HK1.out zt ?_
          simp only [Act.put, zA, zB, zC, zD, zF, zG]
          refine zP (i := 4) rfl (fun u hu => by obtain ⟨k0, k1, k2⟩ := hu; go_simp; try rfl) HK1.out zt ?_
          simp only [Act.put, zA, zB, zC, zD, zF, zG]
          refine zP (i := 5) rfl (fun u hu => by obtain ⟨k0, k1, k2⟩ := hu; go_simp; try rfl) HK1.out zt ?_
          simp only [Act.put, zA, zB, zC, zD, zF, zG]
          refine zP (i := 6) rfl (fun u hu => by obtain ⟨k0, k1, k2⟩ := hu; go_simp; try rfl) HK1.out zt ?_
          simp only [Act.put, zA, zB, zC, zD, zF, zG]
          refine zP (i := 7) rfl (fun u hu => by obtain ⟨k0, k1, k2⟩ := hu; go_simp; try rfl) HK1.out zt ?_
          simp only [Act.put, zA, zB, zC, zD, zF, zG]
          refine zP (i := 8) rfl (fun u hu => by obtain ⟨k0, k1, k2⟩ := hu; go_simp; try rfl) HK1.out zt ?_
          simp only [Act.put, zA, zB, zC, zD, zF, zG]
          refine zP (i := 9) (v := .int .i64 ((n : Int) + 1)) rfl (fun u hu => by go_simp; first | rw [HN1.out] | rfl) HK1.out zt ?_
          simp only [Act.put, zA, zB, zC, zD, zF, zG]
          refine zP (i := 10) (v := .int .i64 (qa : Int)) rfl (fun u hu => by go_simp; first | (rw [HQ1b.out, HQ0.out]) | rw [HQ1.out] | rw [HQ1a.out] | rfl) HK1.out zt ?_
          simp only [Act.put, zA, zB, zC, zD, zF, zG]
          refine zP (i := 11) rfl (fun u hu => by obtain ⟨k0, k1, k2⟩ := hu; go_simp; try rfl) HK1.out zt ?_
          simp only [Act.put, zA, zB, zC, zD, zF, zG]
          refine zP (i := 12) rfl (fun u hu => by obtain ⟨k0, k1, k2⟩ := hu; go_simp; try rfl) HK1.out zt ?_
          simp only [Act.put, zA, zB, zC, zD, zF, zG]
          refine zP (i := 13) rfl (fun u hu => by obtain ⟨k0, k1, k2⟩ := hu; go_simp; try rfl) HK1.out zt ?_
          simp only [Act.put, zA, zB, zC, zD, zF, zG]
          refine zP (i := 14) rfl (fun u hu => by obtain ⟨k0, k1, k2⟩ := hu; go_simp; try rfl) HK1.out zt ?_
          simp only [Act.put, zA, zB, zC, zD, zF, zG]
          refine zP (i := 15) rfl (fun u hu => by obtain ⟨k0, k1, k2⟩ := hu; go_simp; try rfl) HK1.out zt ?_
          simp only [Act.put, zA, zB, zC, zD, zF, zG]
          refine zP (i := 16) rfl (fun u hu => by obtain ⟨k0, k1, k2⟩ := hu; go_simp; try rfl) HK1.out zt ?_
          simp only [Act.put, zA, zB, zC, zD, zF, zG]
          refine zP (i := 17) rfl (fun u hu => by obtain ⟨k0, k1, k2⟩ := hu; go_simp; try rfl) HK1.out zt ?_
          simp only [Act.put, zA, zB, zC, zD, zF, zG]
          refine zP (i := 18) (v := .int .i64 ((n : Int) + 1)) rfl (fun u hu => by go_simp; first | rw [HN1.out] | rfl) HK1.out zt ?_
          simp only [Act.put, zA, zB, zC, zD, zF, zG]
          refine zP (i := 19) (v := .int .i64 (qk : Int)) rfl (fun u hu => by go_simp; first | (rw [HQ2b.out, HQ00.out]) | rw [HQ2b.out] | rw [HQ2.out] | rw [HQ2a.out] | rfl) HK1.out zt ?_
          simp only [Act.put, zA, zB, zC, zD, zF, zG]
          refine zP (i := 20) rfl (fun u hu => by obtain ⟨k0, k1, k2⟩ := hu; go_simp; try rfl) HK1.out zt ?_
          simp only [Act.put, zA, zB, zC, zD, zF, zG]
          refine zR 21 rfl (fun K hK => ?_)
          have hc := HCT.out
          have hf := HFT.out
          go_simp
          clear hc hf
          refine hK.out _ _ HS21.out zt ?_
          clear hK K
          refine wpAnyL_done (by kernel_rfl) ?_ _
          go_wp2_with fail
          go_roundg (Z - (j + 1))
          case measure => rw [HGJ.out]; omega
          case rel => exact ⟨j + 1, by omega, rfl, by go_num, HLS3.out, HFR3.out⟩
         have hije : ((i : Int) == (j : Int)) = false := by simp; omega
         have hwij : W i j = true := by
          rw [Bool.and_eq_true, Bool.or_eq_true] at hc
          rcases hc.1 with h | h
          · simp at h; omega
          exact h
         rw [hwij] at h2
         clear hc hjj hij hwij
         go_wp2_with fail
         refine wp_region_late (late := []) (S1 := fun u => u.cell? ⟨L.Bc, 6, none⟩ = some (.slice (some ⟨L.g2, 0, none⟩) (nonsOf g) L.c2) ∧ u.cell? ⟨L.Bc, 4, none⟩ = some (.int .i64 (n : Int)) ∧ u.cell? ⟨L.g2, qa, none⟩ = some (.slice (some ⟨L.s2 qa, 0, none⟩) (n + 1) (n + 1))) (S := fun _ => True) (by kernel_rfl) ?_
         refine zP (i := 0) rfl (fun u hu => by obtain ⟨k0, k1, k2⟩ := hu; go_simp; try rfl) HK1.out zt ?_
         simp only [Act.put, zA, zB, zC, zD, zF, zG]
         refine zP (i := 1) rfl (fun u hu => by obtain ⟨k0, k1, k2⟩ := hu; go_simp; try rfl) HK1.out zt ?_
         simp only [Act.put, zA, zB, zC, zD, zF, zG]
         refine zP (i := 2) rfl (fun u hu => by obtain ⟨k0, k1, k2⟩ := hu; go_simp; try rfl) HK1.out zt ?_
         simp only [Act.put, zA, zB, zC, zD, zF, zG]
         refine zP (i := 3) rfl (fun u hu => by obtain ⟨k0, k1, k2⟩ := hu; go_simp; try rfl) HK1.out zt ?_
         simp only [Act.put, zA, zB, zC, zD, zF, zG]
         refine zP (i := 4) rfl (fun u hu => by obtain ⟨k0, k1, k2⟩ := hu; go_simp; try rfl) HK1.out zt ?_
         simp only [Act.put, zA, zB, zC, zD, zF, zG]
         refine zP (i := 5) rfl (fun u hu => by obtain ⟨k0, k1, k2⟩ := hu; go_simp; try rfl) HK1.out zt ?_
         simp only [Act.put, zA, zB, zC, zD, zF, zG]
         refine zP (i := 6) rfl (fun u hu => by obtain ⟨k0, k1, k2⟩ := hu; go_simp; try rfl) HK1.out zt ?_
         simp only [Act.put, zA, zB, zC, zD, zF, zG]
         refine zP (i := 7) rfl (fun u hu => by obtain ⟨k0, k1, k2⟩ := hu; go_simp; try rfl) HK1.out zt ?_
         simp only [Act.put, zA, zB, zC, zD, zF, zG]
         refine zP (i := 8) rfl (fun u hu => by obtain ⟨k0, k1, k2⟩ := hu; go_simp; try rfl) HK1.out zt ?_
         simp only [Act.put, zA, zB, zC, zD, zF, zG]
         refine zP (i := 9) (v := .int .i64 ((n : Int) + 1)) rfl (fun u hu => by go_simp; first | rw [HN1.out] | rfl) HK1.out zt ?_
         simp only [Act.put, zA, zB, zC, zD, zF, zG]
         refine zP (i := 10) (v := .int .i64 (qa : Int)) rfl (fun u hu => by go_simp; first | (rw [HQ1b.out, HQ0.out]) | rw [HQ1.out] | rw [HQ1a.out] | rfl) HK1.out zt ?_
         simp only [Act.put, zA, zB, zC, zD, zF, zG]
         refine zP (i := 11) rfl (fun u hu => by obtain ⟨k0, k1, k2⟩ := hu; go_simp; try rfl) HK1.out zt ?_
         simp only [Act.put, zA, zB, zC, zD, zF, zG]
         refine zP (i := 12) rfl (fun u hu => by obtain ⟨k0, k1, k2⟩ := hu; go_simp; try rfl) HK1.out zt ?_
         simp only [Act.put, zA, zB, zC, zD, zF, zG]
         refine zP (i := 13) rfl (fun u hu => by obtain ⟨k0, k1, k2⟩ := hu; go_simp; try rfl) HK1.out zt ?_
         simp only [Act.put, zA, zB, zC, zD, zF, zG]
         refine zP (i := 14) rfl (fun u hu => by obtain ⟨k0, k1, k2⟩ := hu; go_simp; try rfl) HK1.out zt ?_
         simp only [Act.put, zA, zB, zC, zD, zF, zG]
         refine zP (i := 15) rfl (fun u hu => by obtain ⟨k0, k1, k2⟩ := hu; go_simp; try rfl) HK1.out zt ?_
         simp only [Act.put, zA, zB, zC, zD, zF, zG]
         refine zP (i := 16) rfl (fun u hu => by obtain ⟨k0, k1, k2⟩ := hu; go_simp; try rfl) HK1.out zt ?_
         simp only [Act.put, zA, zB, zC, zD, zF, zG]
         refine zP (i := 17) rfl (fun u hu => by obtain ⟨k0, k1, k2⟩ := hu; go_simp; try rfl) HK1.out zt ?_
         simp only [Act.put, zA, zB, zC, zD, zF, zG]
         refine zP (i := 18) (v := .int .i64 ((n : Int) + 1)) rfl (fun u hu => by go_simp; first | rw [HN1.out] | rfl) HK1.out zt ?_
         simp only [Act.put, zA, zB, zC, zD, zF, zG]
         refine zP (i := 19) (v := .int .i64 (qk : Int)) rfl (fun u hu => by go_simp; first | (rw [HQ2b.out, HQ00.out]) | rw [HQ2b.out] | rw [HQ2.out] | rw [HQ2a.out] | rfl) HK1.out zt ?_
         simp only [Act.put, zA, zB, zC, zD, zF, zG]
         refine zP (i := 20) rfl (fun u hu => by obtain ⟨k0, k1, k2⟩ := hu; go_simp; try rfl) HK1.out zt ?_
         simp only [Act.put, zA, zB, zC, zD, zF, zG]
         refine zR 21 rfl (fun K hK => ?_)
         have hc := HCT.out
         have hf := HFT.out
         go_simp
         clear hc hf
         refine hK.out _ _ HS21.out zt ?_
         clear hK K
         refine wpAnyL_done (by kernel_rfl) ?_ _
         go_wp2_with fail
         go_roundg (Z - (j + 1))
         case measure => rw [HGJ.out]; omega
         case rel => exact ⟨j + 1, by omega, rfl, by go_num, HLS3.out, HFR3.out⟩
        rw [Bool.not_eq_true] at hc
        have HNO := zh (fun a q => midM_no (Z := Z) (n := n) hc a q)
        by_cases hij : i = j
        ·
         have hije : ((i : Int) == (j : Int)) = true := by simp [hij]
         have hjj : W j j = false := by simpa [hij] using hc
         rw [hjj] at h4
         clear h1 h2 hc hjj hij
         go_wp2_with fail
         go_roundg (Z - (j + 1))
         case measure => rw [HGJ.out]; omega
         case rel => exact ⟨j + 1, by omega, rfl, by go_num, HLS2.out.congrM (fun a q _ _ => HNO.out a q), HFR2.out⟩
        have hije : ((i : Int) == (j : Int)) = false := by simp; omega
        have hc' : (W i j && W j j) = false := by simpa [hij] using hc
        cases hwij : W i j with
        | false =>
         rw [hwij] at h2
         clear hc hc' hij hwij
         go_wp2_with fail
         go_roundg (Z - (j + 1))
         case measure => rw [HGJ.out]; omega
         case rel => exact ⟨j + 1, by omega, rfl, by go_num, HLS2.out.congrM (fun a q _ _ => HNO.out a q), HFR2.out⟩
        | true =>
         rw [hwij] at h2 hc'
         have hjj : W j j = false := by simpa using hc'
         rw [hjj] at h4
         clear hc hc' hij hwij hjj
         go_wp2_with fail
         go_roundg (Z - (j + 1))
         case measure => rw [HGJ.out]; omega
         case rel => exact ⟨j + 1, by omega, rfl, by go_num, HLS2.out.congrM (fun a q _ _ => HNO.out a q), HFR2.out⟩
       obtain rfl : Z = j := by omega
       go_wp2_with fail
       go_roundg (Z - (i + 1))
       case measure => rw [HGI.out]; omega
       case rel => exact ⟨i + 1, by omega, rfl, by go_num, HLS2.out.congrM (fun a q _ _ => midM_next _ _ _ _ _ _), HFR2.out⟩
     obtain rfl : Z = i := by omega
     go_wp2_with fail
     go_end0
     refine ⟨rfl, ?_, HFR1.out⟩
     have hfin := HLS1.out.congrM (M' := fun a k => manyB (war (toB g.2.2.2 S n) (nonsOf g * (n + 1))) (nonsOf g * (n + 1)) (numOf n (a, k))) (fun a k ha hk => by
      have hlt2 : numOf n (a, k) < Z := by rw [HZ.out]; exact numOf_lt ha (by dsimp only; omega)
      unfold midM
      rw [if_pos hlt2, ← HZ.out, ← HE0.out, ← HWW.out])
     exact hfin.ctr
end Go.Proofs.YtjnbjdbndbbanaaGreatDoor
