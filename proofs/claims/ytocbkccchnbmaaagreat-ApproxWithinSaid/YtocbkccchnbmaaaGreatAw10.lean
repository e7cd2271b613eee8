/- Derives -/
import Derived.Deep.CutBlock
import Derived.Deep.LoopGhost
import Derived.Test.YtocbkccchnbmaaaGreatAw05
import Derived.Test.YtocbkccchnbmaaaGreatAw06
import Derived.Test.YtocbkccchnbmaaaGreatAw07
import Derived.Test.YtocbkccchnbmaaaGreatAw09
namespace Go.Proofs.YtocbkccchnbmaaaGreat
open Go.RowKit
theorem war_ik {e : Nat → Nat → Bool} {k i : Nat} : war e (k + 1) i k = war e k i k := by
 simp only [war]
 cases war e k i k <;> cases war e k k k <;> rfl
theorem war_kj {e : Nat → Nat → Bool} {k j : Nat} : war e (k + 1) k j = war e k k j := by
 simp only [war]
 cases war e k k j <;> cases war e k k k <;> rfl
def warT (e : Nat → Nat → Bool) (k i j x y : Nat) : Bool := if x < i ∨ (x = i ∧ y < j) then war e (k + 1) x y else war e k x y
theorem warT_set {e : Nat → Nat → Bool} {k i j : Nat} {v : Bool} (hv : v = war e (k + 1) i j) (x y : Nat) : (if x = i ∧ y = j then v else warT e k i j x y) = warT e k i (j + 1) x y := by
 unfold warT
 by_cases h1 : x = i ∧ y = j
 ·
  obtain ⟨rfl, rfl⟩ := h1
  rw [if_pos ⟨rfl, rfl⟩, if_pos (by omega), hv]
 ·
  rw [if_neg h1]
  by_cases h2 : x < i ∨ (x = i ∧ y < j)
  ·
   rw [if_pos h2, if_pos (by omega)]
  ·
   rw [if_neg h2, if_neg (by omega)]
theorem warT_ij {e : Nat → Nat → Bool} {k i j : Nat} : warT e k i j i j = war e k i j := by unfold warT; rw [if_neg (by omega)]
theorem warT_ik {e : Nat → Nat → Bool} {k i j : Nat} : warT e k i j i k = war e k i k := by
 unfold warT
 split
 ·
  exact war_ik
 ·
  rfl
theorem warT_kj {e : Nat → Nat → Bool} {k i j : Nat} : warT e k i j k j = war e k k j := by
 unfold warT
 split
 ·
  exact war_kj
 ·
  rfl
theorem warT_row {e : Nat → Nat → Bool} {k i N : Nat} {x y : Nat} (hy : y < N) : warT e k i N x y = warT e k (i + 1) 0 x y := by
 unfold warT
 by_cases h : x < i + 1
 ·
  rw [if_pos (by omega), if_pos (by omega)]
 ·
  rw [if_neg (by omega), if_neg (by omega)]
def TSnd (R : List RuleD) (N : Nat) (T : Nat → Nat → Bool) : Prop := ∀ a b, a < N → b < N → T a b = true → edgN R a b = true
def FillT (T : Nat → Nat → Bool) (r : RuleD) (q : Nat) : Prop := ∀ p b : Nat, p < q → r.2[p]? = some (false, (b : Int)) → T r.1.toNat b = true
def FillUptoT (R : List RuleD) (T : Nat → Nat → Bool) (i : Nat) : Prop := ∀ (j : Nat) (r : RuleD), j < i → R[j]? = some r → FillT T r r.2.length
structure DerSt (w : World) (H0 N : Nat) (gc : Array Value) (T : Nat → Nat → Bool) (wr : World) : Prop where
 grd : Grid Value.bool 4 wr H0 (H0 + 1 + N) H0 (fun i => H0 + 1 + i) N N T
 gb : wr.heap[w.heap.size]? = some (.cells gc 25 (0, 0))
 lt : w.heap.size < H0
 sz : H0 + 1 + N ≤ wr.heap.size
 bel : Below w.heap.size w wr
section
variable {w wr w' : World} {H0 N : Nat} {gc : Array Value} {T : Nat → Nat → Bool}
theorem DerSt.below (h : DerSt w H0 N gc T wr) (hb : Below wr.heap.size wr w') : DerSt w H0 N gc T w' := by
 have hl := h.lt
 have hs := h.sz
 exact ⟨h.grd.keep (fun q _ hq => hb.block q (by omega)), (hb.block _ (by omega)).trans h.gb, hl, Nat.le_trans hs hb.size, h.bel.trans (hb.mono h.bel.size)⟩
theorem DerSt.set (h : DerSt w H0 N gc T wr) {a : Nat} (k : Nat) (ha : a < N) (x : Bool) : DerSt w H0 N gc (fun b j => if b = a ∧ j = k then x else T b j) (wr.setCell ⟨H0 + 1 + a, k, none⟩ (.bool x)) := by
 have hl := h.lt
 exact ⟨h.grd.set k ha x, (Below.heap_setCell _ _ _ _ (by simp; omega)).trans h.gb, hl, by simpa [World.setCell] using h.sz, h.bel.setCell (by simp; omega) _⟩
theorem DerSt.congr {T' : Nat → Nat → Bool} (h : DerSt w H0 N gc T wr) (hT : ∀ a k, a < N → k < N → T a k = T' a k) : DerSt w H0 N gc T' wr := ⟨h.grd.congr hT, h.gb, h.lt, h.sz, h.bel⟩
end
def DerR (R : List RuleD) (N base : Nat) (e : Ending) (w' : World) : Prop := ∃ H0 : Nat, base ≤ H0 ∧ e = .returned (.slice (some ⟨H0, 0, none⟩) N N) ∧ Grid Value.bool 4 w' H0 (H0 + 1 + N) H0 (fun i => H0 + 1 + i) N N (war (edgN R) N) ∧ H0 + 1 + N ≤ w'.heap.size
set_option linter.unusedSimpArgs false in
set_option maxRecDepth 1000000 in
set_option maxHeartbeats 20000000 in
theorem apxDerives (w : World) (Sg : Nat → Prop) (AR : Option Addr) (nR cR : Nat) (Tm : Int) (N st : Nat) (R : List RuleD) (hg : Sl RRule w Sg AR nR cR R) (hRN : RulesN N R) (hlen : ∀ r ∈ R, r.2.length ≤ 4) (hN1 : 1 ≤ N) (hN2 : N ≤ 10) (hnR : nR ≤ 64) :
    Calls Tryz.prog 20 #[.agg #[.int .i64 Tm, .int .i64 N, .int .i64 st, .slice AR nR cR]] w fun e w' => DerR R N w.heap.size e w' ∧ Below w.heap.size w w' := by
 have HRL := Lib.hid hg.len
 have HG := Lib.hid hg.fit
 have HRN := Lib.hid hRN
 have HLE := Lib.hid hlen
 obtain ⟨gc, hgc⟩ : ∃ gc : Array Value, gc = #[.int .i64 Tm, .int .i64 (N : Int), .int .i64 (st : Int), .slice AR nR cR] := ⟨_, rfl⟩
 have hmk := fun W => tBoolss.make rfl N (by omega) (by omega) W
 have HGC := Lib.hid hgc
 obtain ⟨w1, hw1⟩ : ∃ w1 : World, w1 = w.alloc (.cells #[.int .i64 Tm, .int .i64 (N : Int), .int .i64 (st : Int), .slice AR nR cR] 25) := ⟨_, rfl⟩
 have hz1 : w1.heap.size = w.heap.size + 1 := by rw [hw1]; simp
 have HB1 := Lib.hid (show Below w.heap.size w w1 by rw [hw1]; exact (Below.refl _ _).alloc (Nat.le_refl _) _)
 have HGB1 := Lib.hid (show w1.heap[w.heap.size]? = some (.cells gc 25 (0, 0)) by rw [hw1, hgc]; exact heap_alloc_new w _)
 have HCL := Lib.hid (show ∀ u : World, u.heap[w.heap.size]? = some (.cells gc 25 (0, 0)) → u.cell? ⟨w.heap.size, 1, none⟩ = some (.int .i64 (N : Int)) ∧ u.cell? ⟨w.heap.size, 3, none⟩ = some (.slice AR nR cR) from fun u hu => by
  rw [hgc] at hu
  simp [World.cell?, hu])
 clear hg hRN hlen hgc
 go_enter Tryz.func20, Tryz.ntmps20
 go_wp2_with fail
 rw [made_hdr2 w1.heap.size N N, ← hw1]
 rw [← hz1]
 clear hmk hw1
 obtain ⟨H0, hH0⟩ : ∃ H0, H0 = w1.heap.size := ⟨_, rfl⟩
 rw [← hH0]
 have HST0 := Lib.hid (show (w1.alloc (.cells (hdr2 H0 N N 0) 68)).heap[H0]? = some (.cells (hdr2 H0 N N 0) 68 (0, 0)) by rw [hH0]; exact heap_alloc_new w1 _)
 have hH1 : H0 = w.heap.size + 1 := by omega
 have HH1 := Lib.hid hH1
 have hH2 : w.heap.size < H0 := by omega
 have HBA := Lib.hid (show Below H0 w1 (w1.alloc (.cells (hdr2 H0 N N 0) 68)) by rw [hH0]; exact (Below.refl _ _).alloc (Nat.le_refl _) _)
 have hzA : (w1.alloc (.cells (hdr2 H0 N N 0) 68)).heap.size = H0 + 1 := by rw [hH0]; simp
 have hz1H : w1.heap.size ≤ H0 := by omega
 have HZA := Lib.hid hzA
 clear hH0 hH1 hzA
 go_loopg [17] N (fun gk i wr => ∃ a : Nat, a ≤ N ∧ gk = N - a ∧ i = .int .i64 a ∧ wr.heap[H0]? = some (.cells (hdr2 H0 N N a) 68 (0, 0)) ∧ wr.heap.size = H0 + 1 + a ∧ (∀ b, b < a → wr.heap[H0 + 1 + b]? = some (.cells (rowCells Value.bool N (fun _ => false)) 4 (0, 0))) ∧ Below H0 w1 wr)
 case atStart => exact ⟨0, Nat.zero_le _, rfl, rfl, HST0.out, HZA.out, (fun b hb => absurd hb (by omega)), HBA.out⟩
 case round =>
  obtain ⟨a, ha, hgk, rfl, hh, hz, hrows, hb⟩ := hrel
  have HGK := Lib.hid hgk
  have HZZ := Lib.hid hz
  have HRW := Lib.hid hrows
  have HB := Lib.hid hb
  have hlw : H0 < wr.heap.size := by omega
  clear HST0 hgk hz hrows hb
  by_cases hlt' : a < N
  ·
   have hcell : wr.cell? ⟨H0, a, none⟩ = some (.slice none 0 0) := by
    rw [cell_of_row wr _ a _ _ _ hh, hdr2_at _ _ _ _ _ hlt']
    simp
   have hfr : wr.frozen? ⟨H0, a, none⟩ = false := by simp [World.frozen?, hh]
   have hmk := tBools.make rfl N (by omega) (by omega) wr
   rw [made_row] at hmk
   have hset := blk_set hh a (.slice (some ⟨H0 + 1 + a, 0, none⟩) N N)
   rw [hdr2_set, ← HZZ.out] at hset
   have HSET := Lib.hid hset
   obtain ⟨kN, -⟩ := HCL.out wr ((HB.out.block _ (by omega)).trans HGB1.out)
   clear hh hset
   go_wp2_with fail
   go_roundg (N - (a + 1))
   case measure => rw [HGK.out]; omega
   case rel =>
    have hzz := HZZ.out
    refine ⟨a + 1, by omega, rfl, by go_num, (Below.heap_alloc _ _ _ (by simp [World.setCell]; omega)).trans HSET.out, by simp [World.setCell]; omega, fun b hb => ?_, (HB.out.setCell (Nat.le_refl _) _).alloc (by simp [World.setCell]; omega) _⟩
    by_cases e : b = a
    ·
     subst e
     exact heap_new _ _ _ (by simp [World.setCell]; exact hzz)
    ·
     rw [Below.heap_alloc _ _ _ (by simp [World.setCell]; omega), Below.heap_setCell _ _ _ _ (by simp; omega)]
     exact HRW.out b (by omega)
  ·
   obtain rfl : N = a := by omega
   obtain ⟨w2, rfl⟩ : ∃ w2 : World, w2 = wr := ⟨_, rfl⟩
   have hls : DerSt w H0 N gc (fun _ _ => false) w2 := by
    have hz := HZZ.out
    refine ⟨⟨fun i hi => ?_, fun i hi => ?_, fun i hi => ⟨by omega, by omega, by omega⟩, ⟨by omega, by omega⟩, fun i j _ _ e => by omega⟩, (HB.out.block _ (by omega)).trans HGB1.out, hH2, by omega, HB1.out.trans (HB.out.mono (by omega))⟩
    ·
     rw [cell_of_row w2 _ i _ _ _ hh, hdr2_at _ _ _ _ _ hi, if_pos hi]
    ·
     exact HRW.out i hi
   have HLS := Lib.hid hls
   obtain ⟨kN, k3⟩ := HCL.out w2 hls.gb
   have hlt2 : w.heap.size < w2.heap.size := heap_lt hls.gb
   clear hh hls HZZ HRW HB HGK
   go_wp2_with fail
   clear hlt2 k3 kN hlw
   go_loopg [30] nR (fun gk vi wr => ∃ (i : Nat) (T : Nat → Nat → Bool), i ≤ nR ∧ gk = nR - i ∧ vi = .int .i64 i ∧ DerSt w H0 N gc T wr ∧ TSnd R N T ∧ FillUptoT R T i)
   case atStart => exact ⟨0, _, Nat.zero_le _, rfl, rfl, HLS.out, (fun _ _ _ _ h => by cases h), fun j r h => absurd h (by omega)⟩
   case round =>
    obtain ⟨i, T, hi, hgk, rfl, hes, hts, hfu⟩ := hrel
    have HGK := Lib.hid hgk
    have HES := Lib.hid hes
    have HTS := Lib.hid hts
    have HFU := Lib.hid hfu
    obtain ⟨w4, rfl⟩ : ∃ w4 : World, w4 = wr := ⟨_, rfl⟩
    clear hgk hes hts hfu HLS
    by_cases hlt : i < nR
    ·
     obtain ⟨b0, off, A3, m3, c3, r, rfl, _, hb0, hc1, hc2, hr, hrs⟩ := rule_at (HG.out.keep (Kept.belowB HES.out.bel fun b hb => hb.2)) hlt
     obtain ⟨⟨hr1, hrN⟩, hok⟩ := HRN.out r (List.mem_of_getElem? hr)
     obtain ⟨a, ha⟩ : ∃ a : Nat, r.1 = (a : Int) := ⟨r.1.toNat, by omega⟩
     have haN : a < N := by rw [ha] at hrN; simpa using hrN
     have hm4 : m3 ≤ 4 := by have := hrs.len; have := HLE.out r (List.mem_of_getElem? hr); omega
     have hmc : m3 ≤ c3 := hrs.cap
     have HOK := Lib.hid hok
     rw [ha] at hc1
     have hiI : (i : Int) < (nR : Int) := by omega
     have hi0 : (0 : Int) ≤ (i : Int) := by omega
     have HR := Lib.hid hr
     have HA := Lib.hid ha
     have HRS := Lib.hid hrs
     have HLN := Lib.hid hrs.len
     clear hr hrs ha hr1 hrN hok
     go_wp2_with fail
     obtain ⟨w5, hw5⟩ : ∃ w5 : World, w5 = w4.alloc (.cells #[.int .i64 (a : Int), .slice A3 m3 c3] 43) := ⟨_, rfl⟩
     rw [← hw5]
     have hz5 : w4.heap.size < w5.heap.size := by rw [hw5]; simp
     have hb5 : Below w4.heap.size w4 w5 := by rw [hw5]; exact (Below.refl _ _).alloc (Nat.le_refl _) _
     have HBR5 := Lib.hid (show w5.heap[w4.heap.size]? = some (.cells #[.int .i64 (a : Int), .slice A3 m3 c3] 43 (0, 0)) by rw [hw5]; exact heap_alloc_new _ _)
     have HES5 := Lib.hid (HES.out.below hb5)
     have HRS5 := Lib.hid ((HRS.out.below hb5).more (S' := fun b => b < w.heap.size) fun b hb => hb.2)
     have hw4H : H0 + 1 + N ≤ w4.heap.size := HES.out.sz
     clear hw5 hb5 hc1 hc2
     go_loopg [37] m3 (fun gl vq wy => ∃ (q : Nat) (T' : Nat → Nat → Bool), q ≤ m3 ∧ gl = m3 - q ∧ vq = .int .i64 q ∧ DerSt w H0 N gc T' wy ∧ TSnd R N T' ∧ (∀ x y, T x y = true → T' x y = true) ∧ FillT T' r q ∧
      wy.heap[w4.heap.size]? = some (.cells #[.int .i64 (a : Int), .slice A3 m3 c3] 43 (0, 0)) ∧ Sl RSym wy (fun b => b < w.heap.size) A3 m3 c3 r.2)
     case atStart => exact ⟨0, T, Nat.zero_le _, rfl, rfl, HES5.out, HTS.out, (fun _ _ h => h), (fun p b h => absurd h (by omega)), HBR5.out, HRS5.out⟩
     case round =>
      obtain ⟨q, T', hq, hgl, rfl, hes', hts', hmT, hfi, hbr, hrs'⟩ := hrel
      have HGL := Lib.hid hgl
      have HES' := Lib.hid hes'
      have HTS' := Lib.hid hts'
      have HMT := Lib.hid hmT
      have HFI := Lib.hid hfi
      have HBR := Lib.hid hbr
      have HRS' := Lib.hid hrs'
      obtain ⟨w6, rfl⟩ : ∃ w6 : World, w6 = wr := ⟨_, rfl⟩
      have hl46 : w4.heap.size < w6.heap.size := heap_lt hbr
      clear hgl hes' hts' hmT hfi hbr hrs'
      by_cases hlq : q < m3
      ·
       obtain ⟨bs, os, s, hA3, hbs, _, hs1, hs2, hs⟩ := sym_at HRS'.out hlq
       subst hA3
       obtain ⟨tm, xI⟩ := s
       have hqI : (q : Int) < (m3 : Int) := by omega
       have hq0 : (0 : Int) ≤ (q : Int) := by omega
       have HS := Lib.hid hs
       clear hs
       have hb7 : Below w6.heap.size w6 (w6.alloc (.cells #[.bool tm, .int .i64 xI] 45)) := (Below.refl _ _).alloc (Nat.le_refl _) _
       have HES7 := Lib.hid (HES'.out.below hb7)
       have HRS7 := Lib.hid (HRS'.out.below hb7)
       have HBR7 := Lib.hid ((hb7.block _ hl46).trans HBR.out)
       clear hb7
       cases tm with
       | true =>
        go_wp2_with fail
        go_roundg (m3 - (q + 1))
        case measure => rw [HGL.out]; omega
        case rel =>
         refine ⟨q + 1, T', by omega, rfl, by go_num, HES7.out, HTS'.out, HMT.out, fun p b hp hb => ?_, HBR7.out, HRS7.out⟩
         rcases Nat.lt_succ_iff_lt_or_eq.1 hp with h1 | rfl
         ·
          exact HFI.out p b h1 hb
         ·
          rw [HS.out] at hb
          cases hb
       | false =>
        obtain ⟨hx0, hxN⟩ := HOK.out _ (List.mem_of_getElem? HS.out) rfl
        obtain ⟨x, hx⟩ : ∃ x : Nat, xI = (x : Int) := ⟨xI.toNat, by simp only at hx0; omega⟩
        subst hx
        simp only [Int.toNat_natCast] at hxN
        clear hx0
        go_wp2_with fail
        obtain ⟨w7, hw7⟩ : ∃ w7 : World, w7 = w6.alloc (.cells #[.bool false, .int .i64 (x : Int)] 45) := ⟨_, rfl⟩
        rw [← hw7] at HES7 HRS7 HBR7 ⊢
        have hz7 : w6.heap.size < w7.heap.size := by rw [hw7]; simp
        have HBS7 := Lib.hid (show w7.heap[w6.heap.size]? = some (.cells #[.bool false, .int .i64 (x : Int)] 45 (0, 0)) by rw [hw7]; exact heap_alloc_new _ _)
        have hw6H : H0 + 1 + N ≤ w6.heap.size := by omega
        clear hw7 hs1 hs2
        have HREG := Lib.hid (show ∀ u : World, u.heap[w4.heap.size]? = w7.heap[w4.heap.size]? → u.heap[w6.heap.size]? = w7.heap[w6.heap.size]? → u.cell? ⟨H0, a, none⟩ = w7.cell? ⟨H0, a, none⟩ → u.cell? ⟨w4.heap.size, 0, none⟩ = some (.int .i64 (a : Int)) ∧ u.cell? ⟨H0, a, none⟩ = some (.slice (some ⟨H0 + 1 + a, 0, none⟩) N N) ∧ u.cell? ⟨w6.heap.size, 1, none⟩ = some (.int .i64 (x : Int)) from fun u h1 h2 h3 => by
         have e1 := h1.trans HBR7.out
         have e2 := h2.trans HBS7.out
         exact ⟨by simp [World.cell?, e1], h3.trans (HES7.out.grd.hdr a haN), by simp [World.cell?, e2]⟩)
        have haI : (a : Int) < (N : Int) := by omega
        have ha0 : (0 : Int) ≤ (a : Int) := by omega
        have hxI : (x : Int) < (N : Int) := by omega
        have hx00 : (0 : Int) ≤ (x : Int) := by omega
        refine wp_region_late (late := []) (S1 := fun u => u.cell? ⟨w4.heap.size, 0, none⟩ = some (.int .i64 (a : Int)) ∧ u.cell? ⟨H0, a, none⟩ = some (.slice (some ⟨H0 + 1 + a, 0, none⟩) N N) ∧ u.cell? ⟨w6.heap.size, 1, none⟩ = some (.int .i64 (x : Int))) (S := fun _ => True) (by kernel_rfl) ?_
        have HES8 := Lib.hid (HES7.out.below (Below.refl _ _).drew)
        have HRS8 := Lib.hid (HRS7.out.drew)
        have HK8 := Lib.hid (show w7.drew.heap[w4.heap.size]? = w7.heap[w4.heap.size]? ∧ w7.drew.heap[w6.heap.size]? = w7.heap[w6.heap.size]? ∧ w7.drew.cell? ⟨H0, a, none⟩ = w7.cell? ⟨H0, a, none⟩ from ⟨rfl, rfl, rfl⟩)
        have hz8 : w7.heap.size ≤ w7.drew.heap.size := Nat.le_refl _
        obtain ⟨w8, hw8⟩ : ∃ w8 : World, w8 = w7.drew := ⟨_, rfl⟩
        rw [← hw8] at HES8 HRS8 HK8 hz8 ⊢
        clear hw8
        refine wpAnyL_pure (i := 0) rfl (by kernel_rfl) (fun _ _ _ h => h) (Or.inl ⟨by rfl, (fun u hu => by obtain ⟨k0, k1, k2⟩ := hu; go_simp; try rfl)⟩) (HREG.out _ HK8.out.1 HK8.out.2.1 HK8.out.2.2) (fun _ => trivial) ?_
        simp only [Act.put, List.setIfInBounds_toArray, List.set_cons_zero, List.set_cons_succ, List.getElem_toArray, List.getElem_cons_zero, List.getElem_cons_succ]
        refine wpAnyL_pure (i := 1) rfl (by kernel_rfl) (fun _ _ _ h => h) (Or.inl ⟨by rfl, (fun u hu => by obtain ⟨k0, k1, k2⟩ := hu; go_simp; try rfl)⟩) (HREG.out _ HK8.out.1 HK8.out.2.1 HK8.out.2.2) (fun _ => trivial) ?_
        simp only [Act.put, List.setIfInBounds_toArray, List.set_cons_zero, List.set_cons_succ, List.getElem_toArray, List.getElem_cons_zero, List.getElem_cons_succ]
        refine wpAnyL_pure (i := 2) rfl (by kernel_rfl) (fun _ _ _ h => h) (Or.inl ⟨by rfl, (fun u hu => by obtain ⟨k0, k1, k2⟩ := hu; go_simp; try rfl)⟩) (HREG.out _ HK8.out.1 HK8.out.2.1 HK8.out.2.2) (fun _ => trivial) ?_
        simp only [Act.put, List.setIfInBounds_toArray, List.set_cons_zero, List.set_cons_succ, List.getElem_toArray, List.getElem_cons_zero, List.getElem_cons_succ]
        refine wpAnyL_pure (i := 3) rfl (by kernel_rfl) (fun _ _ _ h => h) (Or.inl ⟨by rfl, (fun u hu => by obtain ⟨k0, k1, k2⟩ := hu; go_simp; try rfl)⟩) (HREG.out _ HK8.out.1 HK8.out.2.1 HK8.out.2.2) (fun _ => trivial) ?_
        simp only [Act.put, List.setIfInBounds_toArray, List.set_cons_zero, List.set_cons_succ, List.getElem_toArray, List.getElem_cons_zero, List.getElem_cons_succ]
        refine wpAnyL_pure (i := 4) rfl (by kernel_rfl) (fun _ _ _ h => h) (Or.inl ⟨by rfl, (fun u hu => by obtain ⟨k0, k1, k2⟩ := hu; go_simp; try rfl)⟩) (HREG.out _ HK8.out.1 HK8.out.2.1 HK8.out.2.2) (fun _ => trivial) ?_
        simp only [Act.put, List.setIfInBounds_toArray, List.set_cons_zero, List.set_cons_succ, List.getElem_toArray, List.getElem_cons_zero, List.getElem_cons_succ]
        refine wpAnyL_pure (i := 5) rfl (by kernel_rfl) (fun _ _ _ h => h) (Or.inl ⟨by rfl, (fun u hu => by obtain ⟨k0, k1, k2⟩ := hu; go_simp; try rfl)⟩) (HREG.out _ HK8.out.1 HK8.out.2.1 HK8.out.2.2) (fun _ => trivial) ?_
        simp only [Act.put, List.setIfInBounds_toArray, List.set_cons_zero, List.set_cons_succ, List.getElem_toArray, List.getElem_cons_zero, List.getElem_cons_succ]
        refine wpAnyL_pure (i := 6) rfl (by kernel_rfl) (fun _ _ _ h => h) (Or.inl ⟨by rfl, (fun u hu => by obtain ⟨k0, k1, k2⟩ := hu; go_simp; try rfl)⟩) (HREG.out _ HK8.out.1 HK8.out.2.1 HK8.out.2.2) (fun _ => trivial) ?_
        simp only [Act.put, List.setIfInBounds_toArray, List.set_cons_zero, List.set_cons_succ, List.getElem_toArray, List.getElem_cons_zero, List.getElem_cons_succ]
        refine wpAnyL_pure (i := 7) rfl (by kernel_rfl) (fun _ _ _ h => h) (Or.inl ⟨by rfl, (fun u hu => by obtain ⟨k0, k1, k2⟩ := hu; go_simp; try rfl)⟩) (HREG.out _ HK8.out.1 HK8.out.2.1 HK8.out.2.2) (fun _ => trivial) ?_
        simp only [Act.put, List.setIfInBounds_toArray, List.set_cons_zero, List.set_cons_succ, List.getElem_toArray, List.getElem_cons_zero, List.getElem_cons_succ]
        refine wpAnyL_ready (rs := [8]) (by kernel_rfl) (by simp) ?_
        refine AllL.cons rfl (fun K hK => ?_) ?_
        ·
         have hcx := HES8.out.grd.cell haN hxN
         have hfx := HES8.out.grd.fr haN x
         go_simp
         clear hcx hfx
         have HES9 := Lib.hid (HES8.out.set x haN true)
         have HBR9 := Lib.hid (show (w8.setCell ⟨H0 + 1 + a, x, none⟩ (.bool true)).heap[w4.heap.size]? = some (.cells #[.int .i64 (a : Int), .slice (some ⟨bs, os, none⟩) m3 c3] 43 (0, 0)) from (Below.heap_setCell _ _ _ _ (by show w4.heap.size ≠ H0 + 1 + a; omega)).trans (HK8.out.1.trans HBR7.out))
         have HBS9 := Lib.hid (show (w8.setCell ⟨H0 + 1 + a, x, none⟩ (.bool true)).heap[w6.heap.size]? = some (.cells #[.bool false, .int .i64 (x : Int)] 45 (0, 0)) from (Below.heap_setCell _ _ _ _ (by show w6.heap.size ≠ H0 + 1 + a; omega)).trans (HK8.out.2.1.trans HBS7.out))
         have HRS9 := Lib.hid (HRS8.out.keep (Kept.setCell _ _ ⟨H0 + 1 + a, x, none⟩ (.bool true) (by show ¬ H0 + 1 + a < w.heap.size; omega)))
         have hz9 : w8.heap.size ≤ (w8.setCell ⟨H0 + 1 + a, x, none⟩ (.bool true)).heap.size := by simp [World.setCell]
         obtain ⟨w9, hw9⟩ : ∃ w9 : World, w9 = w8.setCell ⟨H0 + 1 + a, x, none⟩ (.bool true) := ⟨_, rfl⟩
         rw [← hw9] at HES9 HBR9 HBS9 HRS9 hz9 ⊢
         clear hw9
         have HK9 := Lib.hid (HREG.out w9 (HBR9.out.trans HBR7.out.symm) (HBS9.out.trans HBS7.out.symm) ((HES9.out.grd.hdr a haN).trans (HES7.out.grd.hdr a haN).symm))
         refine hK.out _ _ HK9.out (fun _ => trivial) ?_
         clear hK K
         refine wpAnyL_done (by kernel_rfl) ?_ _
         go_wp2_with fail
         go_roundg (m3 - (q + 1))
         case measure => rw [HGL.out]; omega
         case rel =>
          refine ⟨q + 1, _, by omega, rfl, by go_num, HES9.out, fun c b hc hb h => ?_, fun c b h => ?_, fun p b hp hb => ?_, HBR9.out, HRS9.out⟩
          ·
           by_cases e : c = a ∧ b = x
           ·
            obtain ⟨rfl, rfl⟩ := e
            exact edgN_iff.2 ⟨r, List.mem_of_getElem? HR.out, HA.out, List.mem_of_getElem? HS.out⟩
           ·
            dsimp only at h
            rw [if_neg e] at h
            exact HTS'.out c b hc hb h
          ·
           try dsimp only
           split
           ·
            rfl
           ·
            exact HMT.out c b h
          ·
           try dsimp only
           rcases Nat.lt_succ_iff_lt_or_eq.1 hp with h1 | rfl
           ·
            split
            ·
             rfl
            ·
             exact HFI.out p b h1 hb
           ·
            rw [HS.out] at hb
            simp only [Option.some.injEq, Prod.mk.injEq, true_and] at hb
            rw [HA.out, Int.toNat_natCast, if_pos ⟨rfl, by omega⟩]
        exact AllL.nil
      ·
       obtain rfl : m3 = q := by omega
       go_wp2_with fail
       go_roundg (nR - (i + 1))
       case measure => rw [HGK.out]; omega
       case rel =>
        refine ⟨i + 1, T', by omega, rfl, by go_num, HES'.out, HTS'.out, fun j r' hj hr' p b hp hb => ?_⟩
        rcases Nat.lt_succ_iff_lt_or_eq.1 hj with h1 | rfl
        ·
         exact HMT.out _ _ (HFU.out j r' h1 hr' p b hp hb)
        ·
         rw [HR.out] at hr'
         injection hr' with hr'
         subst hr'
         exact HFI.out p b (by rw [HLN.out]; exact hp) hb
    ·
     obtain rfl : nR = i := by omega
     obtain ⟨e, he⟩ : ∃ e, e = edgN R := ⟨_, rfl⟩
     have HED := Lib.hid he
     have HW0 := Lib.hid (HES.out.congr (T' := war e 0) fun x y hx hy => by
      rw [he]
      show T x y = edgN R x y
      rw [Bool.eq_iff_iff]
      refine ⟨HTS.out x y hx hy, fun h => ?_⟩
      obtain ⟨r, hr, hrx, hm⟩ := edgN_iff.1 h
      obtain ⟨j, hj⟩ := List.getElem?_of_mem hr
      obtain ⟨p, hp⟩ := List.getElem?_of_mem hm
      have hjl : j < nR := by have h1 := (List.getElem?_eq_some_iff.1 hj).1; have := HRL.out; omega
      have k1 := HFU.out j r hjl hj p y (List.getElem?_eq_some_iff.1 hp).1 hp
      rwa [hrx, Int.toNat_natCast] at k1)
     clear he
     obtain ⟨kN, -⟩ := HCL.out w4 HES.out.gb
     go_wp2_with fail
     clear kN
     go_loopg [56] N (fun gk v wr => ∃ k : Nat, k ≤ N ∧ gk = N - k ∧ v = .int .i64 k ∧ DerSt w H0 N gc (war e k) wr)
     case atStart => exact ⟨0, Nat.zero_le _, rfl, rfl, HW0.out⟩
     case round =>
      obtain ⟨k, hk, hgk2, rfl, hes⟩ := hrel
      have HGK2 := Lib.hid hgk2
      have HE2 := Lib.hid hes
      obtain ⟨w5, rfl⟩ : ∃ w5 : World, w5 = wr := ⟨_, rfl⟩
      clear hgk2 hes
      by_cases hkN : k < N
      ·
       have hkI : (k : Int) < (N : Int) := by omega
       have hk0 : (0 : Int) ≤ (k : Int) := by omega
       obtain ⟨kN, -⟩ := HCL.out w5 HE2.out.gb
       go_wp2_with fail
       clear kN
       go_loopg [61] N (fun gi v wr => ∃ i : Nat, i ≤ N ∧ gi = N - i ∧ v = .int .i64 i ∧ DerSt w H0 N gc (warT e k i 0) wr)
       case atStart => exact ⟨0, Nat.zero_le _, rfl, rfl, HE2.out.congr fun x y _ _ => by unfold warT; rw [if_neg (by omega)]⟩
       case round =>
        obtain ⟨i, hi2, hgi, rfl, hes⟩ := hrel
        have HGI := Lib.hid hgi
        have HE3 := Lib.hid hes
        obtain ⟨w6, rfl⟩ : ∃ w6 : World, w6 = wr := ⟨_, rfl⟩
        clear hgi hes
        by_cases hiN : i < N
        ·
         have hiI : (i : Int) < (N : Int) := by omega
         have hi0 : (0 : Int) ≤ (i : Int) := by omega
         obtain ⟨kN, -⟩ := HCL.out w6 HE3.out.gb
         go_wp2_with fail
         clear kN
         go_loopg [66] N (fun gj v wr => ∃ j : Nat, j ≤ N ∧ gj = N - j ∧ v = .int .i64 j ∧ DerSt w H0 N gc (warT e k i j) wr)
         case atStart => exact ⟨0, Nat.zero_le _, rfl, rfl, HE3.out⟩
         case round =>
          obtain ⟨j, hj2, hgj, rfl, hes⟩ := hrel
          have HGJ := Lib.hid hgj
          have HE4 := Lib.hid hes
          obtain ⟨w7, rfl⟩ : ∃ w7 : World, w7 = wr := ⟨_, rfl⟩
          clear hgj hes
          by_cases hjN : j < N
          ·
           have hjI : (j : Int) < (N : Int) := by omega
           have hj0 : (0 : Int) ≤ (j : Int) := by omega
           have HE5 := Lib.hid (HE4.out.below (Below.refl _ _).drew)
           go_wp2_with fail
           obtain ⟨vij, hvij⟩ : ∃ v, v = war e k i j := ⟨_, rfl⟩
           obtain ⟨vik, hvik⟩ : ∃ v, v = war e k i k := ⟨_, rfl⟩
           obtain ⟨vkj, hvkj⟩ : ∃ v, v = war e k k j := ⟨_, rfl⟩
           have HVV := Lib.hid (show (vij || (vik && vkj)) = war e (k + 1) i j by rw [hvij, hvik, hvkj]; rfl)
           obtain ⟨w8, hw8⟩ : ∃ w8 : World, w8 = w7.drew := ⟨_, rfl⟩
           rw [← hw8] at HE5
           have HS0 := Lib.hid (show (w8.cell? ⟨H0, i, none⟩ = some (.slice (some ⟨H0 + 1 + i, 0, none⟩) N N) ∧ w8.cell? ⟨H0, k, none⟩ = some (.slice (some ⟨H0 + 1 + k, 0, none⟩) N N)) ∧ w8.cell? ⟨H0 + 1 + i, j, none⟩ = some (.bool vij) ∧ w8.cell? ⟨H0 + 1 + i, k, none⟩ = some (.bool vik) ∧ w8.cell? ⟨H0 + 1 + k, j, none⟩ = some (.bool vkj) from
            ⟨⟨HE5.out.grd.hdr i hiN, HE5.out.grd.hdr k hkN⟩, by rw [HE5.out.grd.cell hiN hjN, warT_ij, hvij], by rw [HE5.out.grd.cell hiN hkN, warT_ik, hvik], by rw [HE5.out.grd.cell hkN hjN, warT_kj, hvkj]⟩)
           have HFR := Lib.hid (HE5.out.grd.fr hiN j)
           clear hvij hvik hvkj
           refine wp_region_late (late := [31]) (S1 := fun u => u.cell? ⟨H0, i, none⟩ = some (.slice (some ⟨H0 + 1 + i, 0, none⟩) N N) ∧ u.cell? ⟨H0, k, none⟩ = some (.slice (some ⟨H0 + 1 + k, 0, none⟩) N N)) (S := fun u => u.cell? ⟨H0 + 1 + i, j, none⟩ = some (.bool vij) ∧ u.cell? ⟨H0 + 1 + i, k, none⟩ = some (.bool vik) ∧ u.cell? ⟨H0 + 1 + k, j, none⟩ = some (.bool vkj)) (by kernel_rfl) ?_
           rw [← hw8]
           clear hw8
           cases vij with
           | true =>
            refine wpAnyL_pure (i := 0) rfl (by kernel_rfl) (fun _ _ _ h => h) (Or.inl ⟨by rfl, (fun u hu => by obtain ⟨k0, k1⟩ := hu; go_simp; try rfl)⟩) HS0.out.1 (fun _ => HS0.out.2) ?_
            simp only [Act.put, List.setIfInBounds_toArray, List.set_cons_zero, List.set_cons_succ, List.getElem_toArray, List.getElem_cons_zero, List.getElem_cons_succ]
            refine wpAnyL_pure (i := 1) rfl (by kernel_rfl) (fun _ _ _ h => h) (Or.inl ⟨by rfl, (fun u hu => by obtain ⟨k0, k1⟩ := hu; go_simp; try rfl)⟩) HS0.out.1 (fun _ => HS0.out.2) ?_
            simp only [Act.put, List.setIfInBounds_toArray, List.set_cons_zero, List.set_cons_succ, List.getElem_toArray, List.getElem_cons_zero, List.getElem_cons_succ]
            refine wpAnyL_pure (i := 2) rfl (by kernel_rfl) (fun _ _ _ h => h) (Or.inl ⟨by rfl, (fun u hu => by obtain ⟨k0, k1⟩ := hu; go_simp; try rfl)⟩) HS0.out.1 (fun _ => HS0.out.2) ?_
            simp only [Act.put, List.setIfInBounds_toArray, List.set_cons_zero, List.set_cons_succ, List.getElem_toArray, List.getElem_cons_zero, List.getElem_cons_succ]
            refine wpAnyL_pure (i := 3) rfl (by kernel_rfl) (fun _ _ _ h => h) (Or.inl ⟨by rfl, (fun u hu => by obtain ⟨k0, k1⟩ := hu; go_simp; try rfl)⟩) HS0.out.1 (fun _ => HS0.out.2) ?_
            simp only [Act.put, List.setIfInBounds_toArray, List.set_cons_zero, List.set_cons_succ, List.getElem_toArray, List.getElem_cons_zero, List.getElem_cons_succ]
            refine wpAnyL_pure (i := 4) rfl (by kernel_rfl) (fun _ _ _ h => h) (Or.inl ⟨by rfl, (fun u hu => by obtain ⟨k0, k1⟩ := hu; go_simp; try rfl)⟩) HS0.out.1 (fun _ => HS0.out.2) ?_
            simp only [Act.put, List.setIfInBounds_toArray, List.set_cons_zero, List.set_cons_succ, List.getElem_toArray, List.getElem_cons_zero, List.getElem_cons_succ]
            refine wpAnyL_pure (i := 5) rfl (by kernel_rfl) (fun _ _ _ h => h) (Or.inl ⟨by rfl, (fun u hu => by obtain ⟨k0, k1⟩ := hu; go_simp; try rfl)⟩) HS0.out.1 (fun _ => HS0.out.2) ?_
            simp only [Act.put, List.setIfInBounds_toArray, List.set_cons_zero, List.set_cons_succ, List.getElem_toArray, List.getElem_cons_zero, List.getElem_cons_succ]
            refine wpAnyL_pure (i := 6) rfl (by kernel_rfl) (fun _ _ _ h => h) (Or.inl ⟨by rfl, (fun u hu => by obtain ⟨k0, k1⟩ := hu; go_simp; try rfl)⟩) HS0.out.1 (fun _ => HS0.out.2) ?_
            simp only [Act.put, List.setIfInBounds_toArray, List.set_cons_zero, List.set_cons_succ, List.getElem_toArray, List.getElem_cons_zero, List.getElem_cons_succ]
            refine wpAnyL_pure (i := 7) rfl (by kernel_rfl) (fun _ _ _ h => h) (Or.inl ⟨by rfl, (fun u hu => by obtain ⟨k0, k1⟩ := hu; go_simp; try rfl)⟩) HS0.out.1 (fun _ => HS0.out.2) ?_
            simp only [Act.put, List.setIfInBounds_toArray, List.set_cons_zero, List.set_cons_succ, List.getElem_toArray, List.getElem_cons_zero, List.getElem_cons_succ]
            refine wpAnyL_pure (i := 8) rfl (by kernel_rfl) (fun _ _ _ h => h) (Or.inl ⟨by rfl, (fun u hu => by obtain ⟨k0, k1⟩ := hu; go_simp; try rfl)⟩) HS0.out.1 (fun _ => HS0.out.2) ?_
            simp only [Act.put, List.setIfInBounds_toArray, List.set_cons_zero, List.set_cons_succ, List.getElem_toArray, List.getElem_cons_zero, List.getElem_cons_succ]
            refine wpAnyL_pure (i := 9) rfl (by kernel_rfl) (fun _ _ _ h => h) (Or.inl ⟨by rfl, (fun u hu => by obtain ⟨k0, k1⟩ := hu; go_simp; try rfl)⟩) HS0.out.1 (fun _ => HS0.out.2) ?_
            simp only [Act.put, List.setIfInBounds_toArray, List.set_cons_zero, List.set_cons_succ, List.getElem_toArray, List.getElem_cons_zero, List.getElem_cons_succ]
            refine wpAnyL_pure (i := 10) rfl (by kernel_rfl) (fun _ _ _ h => h) (Or.inl ⟨by rfl, (fun u hu => by obtain ⟨k0, k1⟩ := hu; go_simp; try rfl)⟩) HS0.out.1 (fun _ => HS0.out.2) ?_
            simp only [Act.put, List.setIfInBounds_toArray, List.set_cons_zero, List.set_cons_succ, List.getElem_toArray, List.getElem_cons_zero, List.getElem_cons_succ]
            refine wpAnyL_take (i := 11) rfl (by kernel_rfl) (fun _ _ _ h => h) (Or.inl ⟨by rfl, (fun u hu => by obtain ⟨⟨k0, k1⟩, k2, k3, k4⟩ := hu; go_simp; try rfl)⟩) HS0.out.1 (fun _ => HS0.out.2) ?_
            simp only [Act.put, List.setIfInBounds_toArray, List.set_cons_zero, List.set_cons_succ, List.getElem_toArray, List.getElem_cons_zero, List.getElem_cons_succ]
            refine wpAnyL_pure (i := 12) rfl (by kernel_rfl) (fun _ _ _ h => h) (Or.inl ⟨by rfl, (fun u hu => by obtain ⟨k0, k1⟩ := hu; go_simp; try rfl)⟩) HS0.out.1 (fun _ => HS0.out.2) ?_
            simp only [Act.put, List.setIfInBounds_toArray, List.set_cons_zero, List.set_cons_succ, List.getElem_toArray, List.getElem_cons_zero, List.getElem_cons_succ]
            refine wpAnyL_pure (i := 13) (v := undef) rfl (by kernel_rfl) (fun _ _ _ h => h) (Or.inr ⟨by rfl, rfl⟩) HS0.out.1 (fun _ => HS0.out.2) ?_
            simp only [Act.put, List.setIfInBounds_toArray, List.set_cons_zero, List.set_cons_succ, List.getElem_toArray, List.getElem_cons_zero, List.getElem_cons_succ]
            refine wpAnyL_pure (i := 14) (v := undef) rfl (by kernel_rfl) (fun _ _ _ h => h) (Or.inr ⟨by rfl, rfl⟩) HS0.out.1 (fun _ => HS0.out.2) ?_
            simp only [Act.put, List.setIfInBounds_toArray, List.set_cons_zero, List.set_cons_succ, List.getElem_toArray, List.getElem_cons_zero, List.getElem_cons_succ]
            refine wpAnyL_pure (i := 15) (v := undef) rfl (by kernel_rfl) (fun _ _ _ h => h) (Or.inr ⟨by rfl, rfl⟩) HS0.out.1 (fun _ => HS0.out.2) ?_
            simp only [Act.put, List.setIfInBounds_toArray, List.set_cons_zero, List.set_cons_succ, List.getElem_toArray, List.getElem_cons_zero, List.getElem_cons_succ]
            refine wpAnyL_pure (i := 16) (v := undef) rfl (by kernel_rfl) (fun _ _ _ h => h) (Or.inr ⟨by rfl, rfl⟩) HS0.out.1 (fun _ => HS0.out.2) ?_
            simp only [Act.put, List.setIfInBounds_toArray, List.set_cons_zero, List.set_cons_succ, List.getElem_toArray, List.getElem_cons_zero, List.getElem_cons_succ]
            refine wpAnyL_pure (i := 17) (v := undef) rfl (by kernel_rfl) (fun _ _ _ h => h) (Or.inr ⟨by rfl, rfl⟩) HS0.out.1 (fun _ => HS0.out.2) ?_
            simp only [Act.put, List.setIfInBounds_toArray, List.set_cons_zero, List.set_cons_succ, List.getElem_toArray, List.getElem_cons_zero, List.getElem_cons_succ]
            refine wpAnyL_pure (i := 18) (v := undef) rfl (by kernel_rfl) (fun _ _ _ h => h) (Or.inr ⟨by rfl, rfl⟩) HS0.out.1 (fun _ => HS0.out.2) ?_
            simp only [Act.put, List.setIfInBounds_toArray, List.set_cons_zero, List.set_cons_succ, List.getElem_toArray, List.getElem_cons_zero, List.getElem_cons_succ]
            refine wpAnyL_pure (i := 19) (v := undef) rfl (by kernel_rfl) (fun _ _ _ h => h) (Or.inr ⟨by rfl, rfl⟩) HS0.out.1 (fun _ => HS0.out.2) ?_
            simp only [Act.put, List.setIfInBounds_toArray, List.set_cons_zero, List.set_cons_succ, List.getElem_toArray, List.getElem_cons_zero, List.getElem_cons_succ]
            refine wpAnyL_pure (i := 20) (v := undef) rfl (by kernel_rfl) (fun _ _ _ h => h) (Or.inr ⟨by rfl, rfl⟩) HS0.out.1 (fun _ => HS0.out.2) ?_
            simp only [Act.put, List.setIfInBounds_toArray, List.set_cons_zero, List.set_cons_succ, List.getElem_toArray, List.getElem_cons_zero, List.getElem_cons_succ]
            refine wpAnyL_pure (i := 21) (v := undef) rfl (by kernel_rfl) (fun _ _ _ h => h) (Or.inr ⟨by rfl, rfl⟩) HS0.out.1 (fun _ => HS0.out.2) ?_
            simp only [Act.put, List.setIfInBounds_toArray, List.set_cons_zero, List.set_cons_succ, List.getElem_toArray, List.getElem_cons_zero, List.getElem_cons_succ]
            refine wpAnyL_pure (i := 22) (v := undef) rfl (by kernel_rfl) (fun _ _ _ h => h) (Or.inr ⟨by rfl, rfl⟩) HS0.out.1 (fun _ => HS0.out.2) ?_
            simp only [Act.put, List.setIfInBounds_toArray, List.set_cons_zero, List.set_cons_succ, List.getElem_toArray, List.getElem_cons_zero, List.getElem_cons_succ]
            refine wpAnyL_pure (i := 23) (v := undef) rfl (by kernel_rfl) (fun _ _ _ h => h) (Or.inr ⟨by rfl, rfl⟩) HS0.out.1 (fun _ => HS0.out.2) ?_
            simp only [Act.put, List.setIfInBounds_toArray, List.set_cons_zero, List.set_cons_succ, List.getElem_toArray, List.getElem_cons_zero, List.getElem_cons_succ]
            refine wpAnyL_pure (i := 24) (v := undef) rfl (by kernel_rfl) (fun _ _ _ h => h) (Or.inr ⟨by rfl, rfl⟩) HS0.out.1 (fun _ => HS0.out.2) ?_
            simp only [Act.put, List.setIfInBounds_toArray, List.set_cons_zero, List.set_cons_succ, List.getElem_toArray, List.getElem_cons_zero, List.getElem_cons_succ]
            refine wpAnyL_pure (i := 25) (v := undef) rfl (by kernel_rfl) (fun _ _ _ h => h) (Or.inr ⟨by rfl, rfl⟩) HS0.out.1 (fun _ => HS0.out.2) ?_
            simp only [Act.put, List.setIfInBounds_toArray, List.set_cons_zero, List.set_cons_succ, List.getElem_toArray, List.getElem_cons_zero, List.getElem_cons_succ]
            refine wpAnyL_pure (i := 26) (v := undef) rfl (by kernel_rfl) (fun _ _ _ h => h) (Or.inr ⟨by rfl, rfl⟩) HS0.out.1 (fun _ => HS0.out.2) ?_
            simp only [Act.put, List.setIfInBounds_toArray, List.set_cons_zero, List.set_cons_succ, List.getElem_toArray, List.getElem_cons_zero, List.getElem_cons_succ]
            refine wpAnyL_pure (i := 27) (v := undef) rfl (by kernel_rfl) (fun _ _ _ h => h) (Or.inr ⟨by rfl, rfl⟩) HS0.out.1 (fun _ => HS0.out.2) ?_
            simp only [Act.put, List.setIfInBounds_toArray, List.set_cons_zero, List.set_cons_succ, List.getElem_toArray, List.getElem_cons_zero, List.getElem_cons_succ]
            refine wpAnyL_pure (i := 28) (v := undef) rfl (by kernel_rfl) (fun _ _ _ h => h) (Or.inr ⟨by rfl, rfl⟩) HS0.out.1 (fun _ => HS0.out.2) ?_
            simp only [Act.put, List.setIfInBounds_toArray, List.set_cons_zero, List.set_cons_succ, List.getElem_toArray, List.getElem_cons_zero, List.getElem_cons_succ]
            refine wpAnyL_pure (i := 29) rfl (by kernel_rfl) (fun _ _ _ h => h) (Or.inl ⟨by rfl, (fun u hu => by obtain ⟨k0, k1⟩ := hu; go_simp; try rfl)⟩) HS0.out.1 (fun _ => HS0.out.2) ?_
            simp only [Act.put, List.setIfInBounds_toArray, List.set_cons_zero, List.set_cons_succ, List.getElem_toArray, List.getElem_cons_zero, List.getElem_cons_succ]
            refine wpAnyL_pure (i := 30) rfl (by kernel_rfl) (fun _ _ _ h => h) (Or.inl ⟨by rfl, (fun u hu => by obtain ⟨k0, k1⟩ := hu; go_simp; try rfl)⟩) HS0.out.1 (fun _ => HS0.out.2) ?_
            simp only [Act.put, List.setIfInBounds_toArray, List.set_cons_zero, List.set_cons_succ, List.getElem_toArray, List.getElem_cons_zero, List.getElem_cons_succ]
            refine wpAnyL_ready (rs := [31]) (by kernel_rfl) (by simp) ?_
            refine AllL.cons rfl (fun K hK => ?_) ?_
            ·
             have hc := HS0.out.2.1
             have hf := HFR.out
             go_simp
             clear hc hf
             have HE9 := Lib.hid ((HE5.out.set j hiN true).congr (T' := warT e k i (j + 1)) fun x y _ _ => warT_set (by simpa using HVV.out) x y)
             have HS9 := Lib.hid (show (w8.setCell ⟨H0 + 1 + i, j, none⟩ (.bool true)).cell? ⟨H0, i, none⟩ = some (.slice (some ⟨H0 + 1 + i, 0, none⟩) N N) ∧ (w8.setCell ⟨H0 + 1 + i, j, none⟩ (.bool true)).cell? ⟨H0, k, none⟩ = some (.slice (some ⟨H0 + 1 + k, 0, none⟩) N N) from ⟨setOther _ HS0.out.1.1 (by show H0 ≠ H0 + 1 + i; omega), setOther _ HS0.out.1.2 (by show H0 ≠ H0 + 1 + i; omega)⟩)
             refine hK.out _ _ HS9.out (fun h => absurd (h 31 (by simp)) (by decide)) ?_
             clear hK K
             refine wpAnyL_done (by kernel_rfl) ?_ _
             go_wp2_with fail
             go_roundg (N - (j + 1))
             case measure => rw [HGJ.out]; omega
             case rel => exact ⟨j + 1, by omega, rfl, by go_num, HE9.out⟩
            exact AllL.nil
           | false =>
            cases vik with
            | false =>
             refine wpAnyL_pure (i := 0) rfl (by kernel_rfl) (fun _ _ _ h => h) (Or.inl ⟨by rfl, (fun u hu => by obtain ⟨k0, k1⟩ := hu; go_simp; try rfl)⟩) HS0.out.1 (fun _ => HS0.out.2) ?_
             simp only [Act.put, List.setIfInBounds_toArray, List.set_cons_zero, List.set_cons_succ, List.getElem_toArray, List.getElem_cons_zero, List.getElem_cons_succ]
             refine wpAnyL_pure (i := 1) rfl (by kernel_rfl) (fun _ _ _ h => h) (Or.inl ⟨by rfl, (fun u hu => by obtain ⟨k0, k1⟩ := hu; go_simp; try rfl)⟩) HS0.out.1 (fun _ => HS0.out.2) ?_
             simp only [Act.put, List.setIfInBounds_toArray, List.set_cons_zero, List.set_cons_succ, List.getElem_toArray, List.getElem_cons_zero, List.getElem_cons_succ]
             refine wpAnyL_pure (i := 2) rfl (by kernel_rfl) (fun _ _ _ h => h) (Or.inl ⟨by rfl, (fun u hu => by obtain ⟨k0, k1⟩ := hu; go_simp; try rfl)⟩) HS0.out.1 (fun _ => HS0.out.2) ?_
             simp only [Act.put, List.setIfInBounds_toArray, List.set_cons_zero, List.set_cons_succ, List.getElem_toArray, List.getElem_cons_zero, List.getElem_cons_succ]
             refine wpAnyL_pure (i := 3) rfl (by kernel_rfl) (fun _ _ _ h => h) (Or.inl ⟨by rfl, (fun u hu => by obtain ⟨k0, k1⟩ := hu; go_simp; try rfl)⟩) HS0.out.1 (fun _ => HS0.out.2) ?_
             simp only [Act.put, List.setIfInBounds_toArray, List.set_cons_zero, List.set_cons_succ, List.getElem_toArray, List.getElem_cons_zero, List.getElem_cons_succ]
             refine wpAnyL_pure (i := 4) rfl (by kernel_rfl) (fun _ _ _ h => h) (Or.inl ⟨by rfl, (fun u hu => by obtain ⟨k0, k1⟩ := hu; go_simp; try rfl)⟩) HS0.out.1 (fun _ => HS0.out.2) ?_
             simp only [Act.put, List.setIfInBounds_toArray, List.set_cons_zero, List.set_cons_succ, List.getElem_toArray, List.getElem_cons_zero, List.getElem_cons_succ]
             refine wpAnyL_pure (i := 5) rfl (by kernel_rfl) (fun _ _ _ h => h) (Or.inl ⟨by rfl, (fun u hu => by obtain ⟨k0, k1⟩ := hu; go_simp; try rfl)⟩) HS0.out.1 (fun _ => HS0.out.2) ?_
             simp only [Act.put, List.setIfInBounds_toArray, List.set_cons_zero, List.set_cons_succ, List.getElem_toArray, List.getElem_cons_zero, List.getElem_cons_succ]
             refine wpAnyL_pure (i := 6) rfl (by kernel_rfl) (fun _ _ _ h => h) (Or.inl ⟨by rfl, (fun u hu => by obtain ⟨k0, k1⟩ := hu; go_simp; try rfl)⟩) HS0.out.1 (fun _ => HS0.out.2) ?_
             simp only [Act.put, List.setIfInBounds_toArray, List.set_cons_zero, List.set_cons_succ, List.getElem_toArray, List.getElem_cons_zero, List.getElem_cons_succ]
             refine wpAnyL_pure (i := 7) rfl (by kernel_rfl) (fun _ _ _ h => h) (Or.inl ⟨by rfl, (fun u hu => by obtain ⟨k0, k1⟩ := hu; go_simp; try rfl)⟩) HS0.out.1 (fun _ => HS0.out.2) ?_
             simp only [Act.put, List.setIfInBounds_toArray, List.set_cons_zero, List.set_cons_succ, List.getElem_toArray, List.getElem_cons_zero, List.getElem_cons_succ]
             refine wpAnyL_pure (i := 8) rfl (by kernel_rfl) (fun _ _ _ h => h) (Or.inl ⟨by rfl, (fun u hu => by obtain ⟨k0, k1⟩ := hu; go_simp; try rfl)⟩) HS0.out.1 (fun _ => HS0.out.2) ?_
             simp only [Act.put, List.setIfInBounds_toArray, List.set_cons_zero, List.set_cons_succ, List.getElem_toArray, List.getElem_cons_zero, List.getElem_cons_succ]
             refine wpAnyL_pure (i := 9) rfl (by kernel_rfl) (fun _ _ _ h => h) (Or.inl ⟨by rfl, (fun u hu => by obtain ⟨k0, k1⟩ := hu; go_simp; try rfl)⟩) HS0.out.1 (fun _ => HS0.out.2) ?_
             simp only [Act.put, List.setIfInBounds_toArray, List.set_cons_zero, List.set_cons_succ, List.getElem_toArray, List.getElem_cons_zero, List.getElem_cons_succ]
             refine wpAnyL_pure (i := 10) rfl (by kernel_rfl) (fun _ _ _ h => h) (Or.inl ⟨by rfl, (fun u hu => by obtain ⟨k0, k1⟩ := hu; go_simp; try rfl)⟩) HS0.out.1 (fun _ => HS0.out.2) ?_
             simp only [Act.put, List.setIfInBounds_toArray, List.set_cons_zero, List.set_cons_succ, List.getElem_toArray, List.getElem_cons_zero, List.getElem_cons_succ]
             refine wpAnyL_take (i := 11) rfl (by kernel_rfl) (fun _ _ _ h => h) (Or.inl ⟨by rfl, (fun u hu => by obtain ⟨⟨k0, k1⟩, k2, k3, k4⟩ := hu; go_simp; try rfl)⟩) HS0.out.1 (fun _ => HS0.out.2) ?_
             simp only [Act.put, List.setIfInBounds_toArray, List.set_cons_zero, List.set_cons_succ, List.getElem_toArray, List.getElem_cons_zero, List.getElem_cons_succ]
             refine wpAnyL_pure (i := 12) rfl (by kernel_rfl) (fun _ _ _ h => h) (Or.inl ⟨by rfl, (fun u hu => by obtain ⟨k0, k1⟩ := hu; go_simp; try rfl)⟩) HS0.out.1 (fun _ => HS0.out.2) ?_
             simp only [Act.put, List.setIfInBounds_toArray, List.set_cons_zero, List.set_cons_succ, List.getElem_toArray, List.getElem_cons_zero, List.getElem_cons_succ]
             refine wpAnyL_pure (i := 13) rfl (by kernel_rfl) (fun _ _ _ h => h) (Or.inl ⟨by rfl, (fun u hu => by obtain ⟨k0, k1⟩ := hu; go_simp; try rfl)⟩) HS0.out.1 (fun _ => HS0.out.2) ?_
             simp only [Act.put, List.setIfInBounds_toArray, List.set_cons_zero, List.set_cons_succ, List.getElem_toArray, List.getElem_cons_zero, List.getElem_cons_succ]
             refine wpAnyL_pure (i := 14) rfl (by kernel_rfl) (fun _ _ _ h => h) (Or.inl ⟨by rfl, (fun u hu => by obtain ⟨k0, k1⟩ := hu; go_simp; try rfl)⟩) HS0.out.1 (fun _ => HS0.out.2) ?_
             simp only [Act.put, List.setIfInBounds_toArray, List.set_cons_zero, List.set_cons_succ, List.getElem_toArray, List.getElem_cons_zero, List.getElem_cons_succ]
             refine wpAnyL_pure (i := 15) rfl (by kernel_rfl) (fun _ _ _ h => h) (Or.inl ⟨by rfl, (fun u hu => by obtain ⟨k0, k1⟩ := hu; go_simp; try rfl)⟩) HS0.out.1 (fun _ => HS0.out.2) ?_
             simp only [Act.put, List.setIfInBounds_toArray, List.set_cons_zero, List.set_cons_succ, List.getElem_toArray, List.getElem_cons_zero, List.getElem_cons_succ]
             refine wpAnyL_pure (i := 16) rfl (by kernel_rfl) (fun _ _ _ h => h) (Or.inl ⟨by rfl, (fun u hu => by obtain ⟨k0, k1⟩ := hu; go_simp; try rfl)⟩) HS0.out.1 (fun _ => HS0.out.2) ?_
             simp only [Act.put, List.setIfInBounds_toArray, List.set_cons_zero, List.set_cons_succ, List.getElem_toArray, List.getElem_cons_zero, List.getElem_cons_succ]
             refine wpAnyL_pure (i := 17) rfl (by kernel_rfl) (fun _ _ _ h => h) (Or.inl ⟨by rfl, (fun u hu => by obtain ⟨k0, k1⟩ := hu; go_simp; try rfl)⟩) HS0.out.1 (fun _ => HS0.out.2) ?_
             simp only [Act.put, List.setIfInBounds_toArray, List.set_cons_zero, List.set_cons_succ, List.getElem_toArray, List.getElem_cons_zero, List.getElem_cons_succ]
             refine wpAnyL_pure (i := 18) rfl (by kernel_rfl) (fun _ _ _ h => h) (Or.inl ⟨by rfl, (fun u hu => by obtain ⟨k0, k1⟩ := hu; go_simp; try rfl)⟩) HS0.out.1 (fun _ => HS0.out.2) ?_
             simp only [Act.put, List.setIfInBounds_toArray, List.set_cons_zero, List.set_cons_succ, List.getElem_toArray, List.getElem_cons_zero, List.getElem_cons_succ]
             refine wpAnyL_take (i := 19) rfl (by kernel_rfl) (fun _ _ _ h => h) (Or.inl ⟨by rfl, (fun u hu => by obtain ⟨⟨k0, k1⟩, k2, k3, k4⟩ := hu; go_simp; try rfl)⟩) HS0.out.1 (fun _ => HS0.out.2) ?_
             simp only [Act.put, List.setIfInBounds_toArray, List.set_cons_zero, List.set_cons_succ, List.getElem_toArray, List.getElem_cons_zero, List.getElem_cons_succ]
             refine wpAnyL_pure (i := 20) rfl (by kernel_rfl) (fun _ _ _ h => h) (Or.inl ⟨by rfl, (fun u hu => by obtain ⟨k0, k1⟩ := hu; go_simp; try rfl)⟩) HS0.out.1 (fun _ => HS0.out.2) ?_
             simp only [Act.put, List.setIfInBounds_toArray, List.set_cons_zero, List.set_cons_succ, List.getElem_toArray, List.getElem_cons_zero, List.getElem_cons_succ]
             refine wpAnyL_pure (i := 21) (v := undef) rfl (by kernel_rfl) (fun _ _ _ h => h) (Or.inr ⟨by rfl, rfl⟩) HS0.out.1 (fun _ => HS0.out.2) ?_
             simp only [Act.put, List.setIfInBounds_toArray, List.set_cons_zero, List.set_cons_succ, List.getElem_toArray, List.getElem_cons_zero, List.getElem_cons_succ]
             refine wpAnyL_pure (i := 22) (v := undef) rfl (by kernel_rfl) (fun _ _ _ h => h) (Or.inr ⟨by rfl, rfl⟩) HS0.out.1 (fun _ => HS0.out.2) ?_
             simp only [Act.put, List.setIfInBounds_toArray, List.set_cons_zero, List.set_cons_succ, List.getElem_toArray, List.getElem_cons_zero, List.getElem_cons_succ]
             refine wpAnyL_pure (i := 23) (v := undef) rfl (by kernel_rfl) (fun _ _ _ h => h) (Or.inr ⟨by rfl, rfl⟩) HS0.out.1 (fun _ => HS0.out.2) ?_
             simp only [Act.put, List.setIfInBounds_toArray, List.set_cons_zero, List.set_cons_succ, List.getElem_toArray, List.getElem_cons_zero, List.getElem_cons_succ]
             refine wpAnyL_pure (i := 24) (v := undef) rfl (by kernel_rfl) (fun _ _ _ h => h) (Or.inr ⟨by rfl, rfl⟩) HS0.out.1 (fun _ => HS0.out.2) ?_
             simp only [Act.put, List.setIfInBounds_toArray, List.set_cons_zero, List.set_cons_succ, List.getElem_toArray, List.getElem_cons_zero, List.getElem_cons_succ]
             refine wpAnyL_pure (i := 25) (v := undef) rfl (by kernel_rfl) (fun _ _ _ h => h) (Or.inr ⟨by rfl, rfl⟩) HS0.out.1 (fun _ => HS0.out.2) ?_
             simp only [Act.put, List.setIfInBounds_toArray, List.set_cons_zero, List.set_cons_succ, List.getElem_toArray, List.getElem_cons_zero, List.getElem_cons_succ]
             refine wpAnyL_pure (i := 26) (v := undef) rfl (by kernel_rfl) (fun _ _ _ h => h) (Or.inr ⟨by rfl, rfl⟩) HS0.out.1 (fun _ => HS0.out.2) ?_
             simp only [Act.put, List.setIfInBounds_toArray, List.set_cons_zero, List.set_cons_succ, List.getElem_toArray, List.getElem_cons_zero, List.getElem_cons_succ]
             refine wpAnyL_pure (i := 27) (v := undef) rfl (by kernel_rfl) (fun _ _ _ h => h) (Or.inr ⟨by rfl, rfl⟩) HS0.out.1 (fun _ => HS0.out.2) ?_
             simp only [Act.put, List.setIfInBounds_toArray, List.set_cons_zero, List.set_cons_succ, List.getElem_toArray, List.getElem_cons_zero, List.getElem_cons_succ]
             refine wpAnyL_pure (i := 28) rfl (by kernel_rfl) (fun _ _ _ h => h) (Or.inl ⟨by rfl, (fun u hu => by obtain ⟨k0, k1⟩ := hu; go_simp; try rfl)⟩) HS0.out.1 (fun _ => HS0.out.2) ?_
             simp only [Act.put, List.setIfInBounds_toArray, List.set_cons_zero, List.set_cons_succ, List.getElem_toArray, List.getElem_cons_zero, List.getElem_cons_succ]
             refine wpAnyL_pure (i := 29) rfl (by kernel_rfl) (fun _ _ _ h => h) (Or.inl ⟨by rfl, (fun u hu => by obtain ⟨k0, k1⟩ := hu; go_simp; try rfl)⟩) HS0.out.1 (fun _ => HS0.out.2) ?_
             simp only [Act.put, List.setIfInBounds_toArray, List.set_cons_zero, List.set_cons_succ, List.getElem_toArray, List.getElem_cons_zero, List.getElem_cons_succ]
             refine wpAnyL_pure (i := 30) rfl (by kernel_rfl) (fun _ _ _ h => h) (Or.inl ⟨by rfl, (fun u hu => by obtain ⟨k0, k1⟩ := hu; go_simp; try rfl)⟩) HS0.out.1 (fun _ => HS0.out.2) ?_
             simp only [Act.put, List.setIfInBounds_toArray, List.set_cons_zero, List.set_cons_succ, List.getElem_toArray, List.getElem_cons_zero, List.getElem_cons_succ]
             refine wpAnyL_ready (rs := [31]) (by kernel_rfl) (by simp) ?_
             refine AllL.cons rfl (fun K hK => ?_) ?_
             ·
              have hc := HS0.out.2.1
              have hf := HFR.out
              go_simp
              clear hc hf
              have HE9 := Lib.hid ((HE5.out.set j hiN false).congr (T' := warT e k i (j + 1)) fun x y _ _ => warT_set (by simpa using HVV.out) x y)
              have HS9 := Lib.hid (show (w8.setCell ⟨H0 + 1 + i, j, none⟩ (.bool false)).cell? ⟨H0, i, none⟩ = some (.slice (some ⟨H0 + 1 + i, 0, none⟩) N N) ∧ (w8.setCell ⟨H0 + 1 + i, j, none⟩ (.bool false)).cell? ⟨H0, k, none⟩ = some (.slice (some ⟨H0 + 1 + k, 0, none⟩) N N) from ⟨setOther _ HS0.out.1.1 (by show H0 ≠ H0 + 1 + i; omega), setOther _ HS0.out.1.2 (by show H0 ≠ H0 + 1 + i; omega)⟩)
              refine hK.out _ _ HS9.out (fun h => absurd (h 31 (by simp)) (by decide)) ?_
              clear hK K
              refine wpAnyL_done (by kernel_rfl) ?_ _
              go_wp2_with fail
              go_roundg (N - (j + 1))
              case measure => rw [HGJ.out]; omega
              case rel => exact ⟨j + 1, by omega, rfl, by go_num, HE9.out⟩
             exact AllL.nil
            | true =>
             refine wpAnyL_pure (i := 0) rfl (by kernel_rfl) (fun _ _ _ h => h) (Or.inl ⟨by rfl, (fun u hu => by obtain ⟨k0, k1⟩ := hu; go_simp; try rfl)⟩) HS0.out.1 (fun _ => HS0.out.2) ?_
             simp only [Act.put, List.setIfInBounds_toArray, List.set_cons_zero, List.set_cons_succ, List.getElem_toArray, List.getElem_cons_zero, List.getElem_cons_succ]
             refine wpAnyL_pure (i := 1) rfl (by kernel_rfl) (fun _ _ _ h => h) (Or.inl ⟨by rfl, (fun u hu => by obtain ⟨k0, k1⟩ := hu; go_simp; try rfl)⟩) HS0.out.1 (fun _ => HS0.out.2) ?_
             simp only [Act.put, List.setIfInBounds_toArray, List.set_cons_zero, List.set_cons_succ, List.getElem_toArray, List.getElem_cons_zero, List.getElem_cons_succ]
             refine wpAnyL_pure (i := 2) rfl (by kernel_rfl) (fun _ _ _ h => h) (Or.inl ⟨by rfl, (fun u hu => by obtain ⟨k0, k1⟩ := hu; go_simp; try rfl)⟩) HS0.out.1 (fun _ => HS0.out.2) ?_
             simp only [Act.put, List.setIfInBounds_toArray, List.set_cons_zero, List.set_cons_succ, List.getElem_toArray, List.getElem_cons_zero, List.getElem_cons_succ]
             refine wpAnyL_pure (i := 3) rfl (by kernel_rfl) (fun _ _ _ h => h) (Or.inl ⟨by rfl, (fun u hu => by obtain ⟨k0, k1⟩ := hu; go_simp; try rfl)⟩) HS0.out.1 (fun _ => HS0.out.2) ?_
             simp only [Act.put, List.setIfInBounds_toArray, List.set_cons_zero, List.set_cons_succ, List.getElem_toArray, List.getElem_cons_zero, List.getElem_cons_succ]
             refine wpAnyL_pure (i := 4) rfl (by kernel_rfl) (fun _ _ _ h => h) (Or.inl ⟨by rfl, (fun u hu => by obtain ⟨k0, k1⟩ := hu; go_simp; try rfl)⟩) HS0.out.1 (fun _ => HS0.out.2) ?_
             simp only [Act.put, List.setIfInBounds_toArray, List.set_cons_zero, List.set_cons_succ, List.getElem_toArray, List.getElem_cons_zero, List.getElem_cons_succ]
             refine wpAnyL_pure (i := 5) rfl (by kernel_rfl) (fun _ _ _ h => h) (Or.inl ⟨by rfl, (fun u hu => by obtain ⟨k0, k1⟩ := hu; go_simp; try rfl)⟩) HS0.out.1 (fun _ => HS0.out.2) ?_
             simp only [Act.put, List.setIfInBounds_toArray, List.set_cons_zero, List.set_cons_succ, List.getElem_toArray, List.getElem_cons_zero, List.getElem_cons_succ]
             refine wpAnyL_pure (i := 6) rfl (by kernel_rfl) (fun _ _ _ h => h) (Or.inl ⟨by rfl, (fun u hu => by obtain ⟨k0, k1⟩ := hu; go_simp; try rfl)⟩) HS0.out.1 (fun _ => HS0.out.2) ?_
             simp only [Act.put, List.setIfInBounds_toArray, List.set_cons_zero, List.set_cons_succ, List.getElem_toArray, List.getElem_cons_zero, List.getElem_cons_succ]
             refine wpAnyL_pure (i := 7) rfl (by kernel_rfl) (fun _ _ _ h => h) (Or.inl ⟨by rfl, (fun u hu => by obtain ⟨k0, k1⟩ := hu; go_simp; try rfl)⟩) HS0.out.1 (fun _ => HS0.out.2) ?_
             simp only [Act.put, List.setIfInBounds_toArray, List.set_cons_zero, List.set_cons_succ, List.getElem_toArray, List.getElem_cons_zero, List.getElem_cons_succ]
             refine wpAnyL_pure (i := 8) rfl (by kernel_rfl) (fun _ _ _ h => h) (Or.inl ⟨by rfl, (fun u hu => by obtain ⟨k0, k1⟩ := hu; go_simp; try rfl)⟩) HS0.out.1 (fun _ => HS0.out.2) ?_
             simp only [Act.put, List.setIfInBounds_toArray, List.set_cons_zero, List.set_cons_succ, List.getElem_toArray, List.getElem_cons_zero, List.getElem_cons_succ]
             refine wpAnyL_pure (i := 9) rfl (by kernel_rfl) (fun _ _ _ h => h) (Or.inl ⟨by rfl, (fun u hu => by obtain ⟨k0, k1⟩ := hu; go_simp; try rfl)⟩) HS0.out.1 (fun _ => HS0.out.2) ?_
             simp only [Act.put, List.setIfInBounds_toArray, List.set_cons_zero, List.set_cons_succ, List.getElem_toArray, List.getElem_cons_zero, List.getElem_cons_succ]
             refine wpAnyL_pure (i := 10) rfl (by kernel_rfl) (fun _ _ _ h => h) (Or.inl ⟨by rfl, (fun u hu => by obtain ⟨k0, k1⟩ := hu; go_simp; try rfl)⟩) HS0.out.1 (fun _ => HS0.out.2) ?_
             simp only [Act.put, List.setIfInBounds_toArray, List.set_cons_zero, List.set_cons_succ, List.getElem_toArray, List.getElem_cons_zero, List.getElem_cons_succ]
             refine wpAnyL_take (i := 11) rfl (by kernel_rfl) (fun _ _ _ h => h) (Or.inl ⟨by rfl, (fun u hu => by obtain ⟨⟨k0, k1⟩, k2, k3, k4⟩ := hu; go_simp; try rfl)⟩) HS0.out.1 (fun _ => HS0.out.2) ?_
             simp only [Act.put, List.setIfInBounds_toArray, List.set_cons_zero, List.set_cons_succ, List.getElem_toArray, List.getElem_cons_zero, List.getElem_cons_succ]
             refine wpAnyL_pure (i := 12) rfl (by kernel_rfl) (fun _ _ _ h => h) (Or.inl ⟨by rfl, (fun u hu => by obtain ⟨k0, k1⟩ := hu; go_simp; try rfl)⟩) HS0.out.1 (fun _ => HS0.out.2) ?_
             simp only [Act.put, List.setIfInBounds_toArray, List.set_cons_zero, List.set_cons_succ, List.getElem_toArray, List.getElem_cons_zero, List.getElem_cons_succ]
             refine wpAnyL_pure (i := 13) rfl (by kernel_rfl) (fun _ _ _ h => h) (Or.inl ⟨by rfl, (fun u hu => by obtain ⟨k0, k1⟩ := hu; go_simp; try rfl)⟩) HS0.out.1 (fun _ => HS0.out.2) ?_
             simp only [Act.put, List.setIfInBounds_toArray, List.set_cons_zero, List.set_cons_succ, List.getElem_toArray, List.getElem_cons_zero, List.getElem_cons_succ]
             refine wpAnyL_pure (i := 14) rfl (by kernel_rfl) (fun _ _ _ h => h) (Or.inl ⟨by rfl, (fun u hu => by obtain ⟨k0, k1⟩ := hu; go_simp; try rfl)⟩) HS0.out.1 (fun _ => HS0.out.2) ?_
             simp only [Act.put, List.setIfInBounds_toArray, List.set_cons_zero, List.set_cons_succ, List.getElem_toArray, List.getElem_cons_zero, List.getElem_cons_succ]
             refine wpAnyL_pure (i := 15) rfl (by kernel_rfl) (fun _ _ _ h => h) (Or.inl ⟨by rfl, (fun u hu => by obtain ⟨k0, k1⟩ := hu; go_simp; try rfl)⟩) HS0.out.1 (fun _ => HS0.out.2) ?_
             simp only [Act.put, List.setIfInBounds_toArray, List.set_cons_zero, List.set_cons_succ, List.getElem_toArray, List.getElem_cons_zero, List.getElem_cons_succ]
             refine wpAnyL_pure (i := 16) rfl (by kernel_rfl) (fun _ _ _ h => h) (Or.inl ⟨by rfl, (fun u hu => by obtain ⟨k0, k1⟩ := hu; go_simp; try rfl)⟩) HS0.out.1 (fun _ => HS0.out.2) ?_
             simp only [Act.put, List.setIfInBounds_toArray, List.set_cons_zero, List.set_cons_succ, List.getElem_toArray, List.getElem_cons_zero, List.getElem_cons_succ]
             refine wpAnyL_pure (i := 17) rfl (by kernel_rfl) (fun _ _ _ h => h) (Or.inl ⟨by rfl, (fun u hu => by obtain ⟨k0, k1⟩ := hu; go_simp; try rfl)⟩) HS0.out.1 (fun _ => HS0.out.2) ?_
             simp only [Act.put, List.setIfInBounds_toArray, List.set_cons_zero, List.set_cons_succ, List.getElem_toArray, List.getElem_cons_zero, List.getElem_cons_succ]
             refine wpAnyL_pure (i := 18) rfl (by kernel_rfl) (fun _ _ _ h => h) (Or.inl ⟨by rfl, (fun u hu => by obtain ⟨k0, k1⟩ := hu; go_simp; try rfl)⟩) HS0.out.1 (fun _ => HS0.out.2) ?_
             simp only [Act.put, List.setIfInBounds_toArray, List.set_cons_zero, List.set_cons_succ, List.getElem_toArray, List.getElem_cons_zero, List.getElem_cons_succ]
             refine wpAnyL_take (i := 19) rfl (by kernel_rfl) (fun _ _ _ h => h) (Or.inl ⟨by rfl, (fun u hu => by obtain ⟨⟨k0, k1⟩, k2, k3, k4⟩ := hu; go_simp; try rfl)⟩) HS0.out.1 (fun _ => HS0.out.2) ?_
             simp only [Act.put, List.setIfInBounds_toArray, List.set_cons_zero, List.set_cons_succ, List.getElem_toArray, List.getElem_cons_zero, List.getElem_cons_succ]
             refine wpAnyL_pure (i := 20) rfl (by kernel_rfl) (fun _ _ _ h => h) (Or.inl ⟨by rfl, (fun u hu => by obtain ⟨k0, k1⟩ := hu; go_simp; try rfl)⟩) HS0.out.1 (fun _ => HS0.out.2) ?_
             simp only [Act.put, List.setIfInBounds_toArray, List.set_cons_zero, List.set_cons_succ, List.getElem_toArray, List.getElem_cons_zero, List.getElem_cons_succ]
             refine wpAnyL_pure (i := 21) rfl (by kernel_rfl) (fun _ _ _ h => h) (Or.inl ⟨by rfl, (fun u hu => by obtain ⟨k0, k1⟩ := hu; go_simp; try rfl)⟩) HS0.out.1 (fun _ => HS0.out.2) ?_
             simp only [Act.put, List.setIfInBounds_toArray, List.set_cons_zero, List.set_cons_succ, List.getElem_toArray, List.getElem_cons_zero, List.getElem_cons_succ]
             refine wpAnyL_pure (i := 22) rfl (by kernel_rfl) (fun _ _ _ h => h) (Or.inl ⟨by rfl, (fun u hu => by obtain ⟨k0, k1⟩ := hu; go_simp; try rfl)⟩) HS0.out.1 (fun _ => HS0.out.2) ?_
             simp only [Act.put, List.setIfInBounds_toArray, List.set_cons_zero, List.set_cons_succ, List.getElem_toArray, List.getElem_cons_zero, List.getElem_cons_succ]
             refine wpAnyL_pure (i := 23) rfl (by kernel_rfl) (fun _ _ _ h => h) (Or.inl ⟨by rfl, (fun u hu => by obtain ⟨k0, k1⟩ := hu; go_simp; try rfl)⟩) HS0.out.1 (fun _ => HS0.out.2) ?_
             simp only [Act.put, List.setIfInBounds_toArray, List.set_cons_zero, List.set_cons_succ, List.getElem_toArray, List.getElem_cons_zero, List.getElem_cons_succ]
             refine wpAnyL_pure (i := 24) rfl (by kernel_rfl) (fun _ _ _ h => h) (Or.inl ⟨by rfl, (fun u hu => by obtain ⟨k0, k1⟩ := hu; go_simp; try rfl)⟩) HS0.out.1 (fun _ => HS0.out.2) ?_
             simp only [Act.put, List.setIfInBounds_toArray, List.set_cons_zero, List.set_cons_succ, List.getElem_toArray, List.getElem_cons_zero, List.getElem_cons_succ]
             refine wpAnyL_pure (i := 25) rfl (by kernel_rfl) (fun _ _ _ h => h) (Or.inl ⟨by rfl, (fun u hu => by obtain ⟨k0, k1⟩ := hu; go_simp; try rfl)⟩) HS0.out.1 (fun _ => HS0.out.2) ?_
             simp only [Act.put, List.setIfInBounds_toArray, List.set_cons_zero, List.set_cons_succ, List.getElem_toArray, List.getElem_cons_zero, List.getElem_cons_succ]
             refine wpAnyL_pure (i := 26) rfl (by kernel_rfl) (fun _ _ _ h => h) (Or.inl ⟨by rfl, (fun u hu => by obtain ⟨k0, k1⟩ := hu; go_simp; try rfl)⟩) HS0.out.1 (fun _ => HS0.out.2) ?_
             simp only [Act.put, List.setIfInBounds_toArray, List.set_cons_zero, List.set_cons_succ, List.getElem_toArray, List.getElem_cons_zero, List.getElem_cons_succ]
             refine wpAnyL_take (i := 27) rfl (by kernel_rfl) (fun _ _ _ h => h) (Or.inl ⟨by rfl, (fun u hu => by obtain ⟨⟨k0, k1⟩, k2, k3, k4⟩ := hu; go_simp; try rfl)⟩) HS0.out.1 (fun _ => HS0.out.2) ?_
             simp only [Act.put, List.setIfInBounds_toArray, List.set_cons_zero, List.set_cons_succ, List.getElem_toArray, List.getElem_cons_zero, List.getElem_cons_succ]
             refine wpAnyL_pure (i := 28) rfl (by kernel_rfl) (fun _ _ _ h => h) (Or.inl ⟨by rfl, (fun u hu => by obtain ⟨k0, k1⟩ := hu; go_simp; try rfl)⟩) HS0.out.1 (fun _ => HS0.out.2) ?_
             simp only [Act.put, List.setIfInBounds_toArray, List.set_cons_zero, List.set_cons_succ, List.getElem_toArray, List.getElem_cons_zero, List.getElem_cons_succ]
             refine wpAnyL_pure (i := 29) rfl (by kernel_rfl) (fun _ _ _ h => h) (Or.inl ⟨by rfl, (fun u hu => by obtain ⟨k0, k1⟩ := hu; go_simp; try rfl)⟩) HS0.out.1 (fun _ => HS0.out.2) ?_
             simp only [Act.put, List.setIfInBounds_toArray, List.set_cons_zero, List.set_cons_succ, List.getElem_toArray, List.getElem_cons_zero, List.getElem_cons_succ]
             refine wpAnyL_pure (i := 30) rfl (by kernel_rfl) (fun _ _ _ h => h) (Or.inl ⟨by rfl, (fun u hu => by obtain ⟨k0, k1⟩ := hu; go_simp; try rfl)⟩) HS0.out.1 (fun _ => HS0.out.2) ?_
             simp only [Act.put, List.setIfInBounds_toArray, List.set_cons_zero, List.set_cons_succ, List.getElem_toArray, List.getElem_cons_zero, List.getElem_cons_succ]
             refine wpAnyL_ready (rs := [31]) (by kernel_rfl) (by simp) ?_
             refine AllL.cons rfl (fun K hK => ?_) ?_
             ·
              have hc := HS0.out.2.1
              have hf := HFR.out
              go_simp
              clear hc hf
              have HE9 := Lib.hid ((HE5.out.set j hiN vkj).congr (T' := warT e k i (j + 1)) fun x y _ _ => warT_set (by simpa using HVV.out) x y)
              have HS9 := Lib.hid (show (w8.setCell ⟨H0 + 1 + i, j, none⟩ (.bool vkj)).cell? ⟨H0, i, none⟩ = some (.slice (some ⟨H0 + 1 + i, 0, none⟩) N N) ∧ (w8.setCell ⟨H0 + 1 + i, j, none⟩ (.bool vkj)).cell? ⟨H0, k, none⟩ = some (.slice (some ⟨H0 + 1 + k, 0, none⟩) N N) from ⟨setOther _ HS0.out.1.1 (by show H0 ≠ H0 + 1 + i; omega), setOther _ HS0.out.1.2 (by show H0 ≠ H0 + 1 + i; omega)⟩)
              refine hK.out _ _ HS9.out (fun h => absurd (h 31 (by simp)) (by decide)) ?_
              clear hK K
              refine wpAnyL_done (by kernel_rfl) ?_ _
              go_wp2_with fail
              go_roundg (N - (j + 1))
              case measure => rw [HGJ.out]; omega
              case rel => exact ⟨j + 1, by omega, rfl, by go_num, HE9.out⟩
             exact AllL.nil
          ·
           obtain rfl : N = j := by omega
           go_wp2_with fail
           go_roundg (N - (i + 1))
           case measure => rw [HGI.out]; omega
           case rel => exact ⟨i + 1, by omega, rfl, by go_num, HE4.out.congr fun x y _ hy => warT_row hy⟩
        ·
         obtain rfl : N = i := by omega
         go_wp2_with fail
         go_roundg (N - (k + 1))
         case measure => rw [HGK2.out]; omega
         case rel => exact ⟨k + 1, by omega, rfl, by go_num, HE3.out.congr fun x y hx _ => by unfold warT; rw [if_pos (by omega)]⟩
      ·
       obtain rfl : N = k := by omega
       go_wp2_with fail
       go_ret
       have h := HE2.out
       exact ⟨⟨H0, by omega, rfl, by rw [← HED.out]; exact h.grd, h.sz⟩, h.bel⟩
end Go.Proofs.YtocbkccchnbmaaaGreat
