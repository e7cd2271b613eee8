/- lens.endless: whether there are infinitely many words. -/
import Derived.Test.YtfkapijfjihiiaaGrows
import Derived.Test.YtfkapijfjihiiaaHdr2
import Derived.Test.YtfkapijfjihiiaaEdge
import Derived.Test.YtfkapijfjihiiaaCatSym
namespace Go.Proofs.Ytfkapijfjihiiaa
open Go.RowKit Go.Maps

theorem Sl.cutE2 {α : Type} {R : Rep α} {P : Program} {T E s bytes : Nat} {z : Value} (hT : SlType P T E s bytes z) (hs : R.size = s) {w : World} {S : Nat → Prop} {A : Option Addr} {n c : Nat} {l : List α} (h : Sl R w S A n c l) (k : Nat) (hk : k ≤ n) :
    ∃ A', (∀ u, (Instr.slice T (.slice A n c) (some (.int .i64 (k : Int))) none none).run P u = .ok (.slice A' (n - k) (c - k)) u) ∧ Sl R w S A' (n - k) (c - k) (l.drop k) := by
  subst hs
  obtain ⟨xs, h1, h2, h3, h4⟩ := h
  obtain ⟨A', hrun, hr⟩ := hT.cutl (c := c) h3 (k : Int) (by omega) (by omega) h2
  rw [Int.toNat_natCast] at hr
  refine ⟨A', fun u => by rw [hrun u, Int.toNat_natCast], xs.drop (k * R.size), by rw [List.length_drop]; omega, by omega, hr, h4.drop⟩
/-- a right side without one symbol, as slices.Concat makes it -/
theorem concatErase (w : World) (S : Nat → Prop) (b0 o0 c0 : Nat) (A A' : Option Addr) (m p c c' : Nat) (l : List SymD) (hp : p < m) (hm : m ≤ 1000) (hlen : l.length = m) (h1 : Sl RSym w S A p c (l.take p)) (h2 : Sl RSym w S A' (m - (p + 1)) c' (l.drop (p + 1)))
    (hr : Rd w S 1 (some ⟨b0, o0, none⟩) 2 [.slice A p c, .slice A' (m - (p + 1)) c']) :
    Calls Try.prog 68 #[.slice (some ⟨b0, o0, none⟩) 2 c0] w fun e w' => ∃ A2 c2, e = .returned (.slice A2 (m - 1) c2) ∧ Sl RSym w' (fun _ => True) A2 (m - 1) c2 (l.eraseIdx p) ∧ Below w.heap.size w w' := by
  obtain ⟨xs1, e1, k1, r1, q1⟩ := h1
  obtain ⟨xs2, e2, k2, r2, q2⟩ := h2
  refine (concatSym b0 o0 c0 S [⟨A, p, c, xs1⟩, ⟨A', m - (p + 1), c', xs2⟩] w hr (fun q hq => ?_) (by simp) (by simp [partsLen]; omega)).mono ?_
  · rcases List.mem_cons.1 hq with rfl | hq
    · exact ⟨r1, k1, q1.one⟩
    · obtain rfl := List.mem_singleton.1 hq
      exact ⟨r2, k2, q2.one⟩
  · rintro e w' ⟨v, rfl, ho, hb⟩
    have hpl : partsLen [⟨A, p, c, xs1⟩, ⟨A', m - (p + 1), c', xs2⟩] = m - 1 := by simp [partsLen]; omega
    rw [hpl] at ho
    obtain ⟨A2, c2, rfl, hc2, _⟩ := ho.form
    refine ⟨A2, c2, rfl, ⟨_, ?_, hc2, ho.rd.more fun _ _ => trivial, ?_⟩, hb⟩
    · rw [List.length_eraseIdx, if_pos (by omega), hlen]
    · rw [List.eraseIdx_eq_take_drop_succ]
      have : partsAll [⟨A, p, c, xs1⟩, ⟨A', m - (p + 1), c', xs2⟩] = xs1 ++ xs2 := by simp [partsAll]
      rw [this]
      exact symCells_any (q1.append q2)
/-- the copies, the table, the set of pairs -/
structure EndSt (w : World) (B H0 N n : Nat) (gc : Array Value) (G : Nat → Bool) (T : Nat → Nat → Bool) (M : Nat → Nat → Prop) (wr : World) : Prop where
  grd : Grid Value.bool 4 wr H0 (H0 + 1 + N) H0 (fun i => H0 + 1 + i) N N T
  gb : wr.heap[w.heap.size]? = some (.cells gc 25 (0, 0))
  mark : MarkSt wr B (w.heap.size + 1) N G
  hB : B < w.heap.size
  map : EMap wr (H0 + 1 + N) n M
  lt : w.heap.size + 1 < H0
  bel : Below w.heap.size w wr
section
variable {w wr w' : World} {B H0 N n : Nat} {gc : Array Value} {G : Nat → Bool} {T : Nat → Nat → Bool} {M : Nat → Nat → Prop}
theorem EndSt.below (h : EndSt w B H0 N n gc G T M wr) (hb : Below wr.heap.size wr w') : EndSt w B H0 N n gc G T M w' := by
  have hl := h.lt
  have hm := h.map.lt
  exact ⟨h.grd.keep (fun q _ hq => hb.block q (by omega)), (hb.block _ (by omega)).trans h.gb, h.mark.below hb, h.hB, h.map.block (hb.block _ hm), hl, h.bel.trans (hb.mono h.bel.size)⟩
theorem EndSt.set (h : EndSt w B H0 N n gc G T M wr) {a : Nat} (k : Nat) (ha : a < N) (x : Bool) : EndSt w B H0 N n gc G (fun b j => if b = a ∧ j = k then x else T b j) M (wr.setCell ⟨H0 + 1 + a, k, none⟩ (.bool x)) := by
  have hl := h.lt
  have hB := h.hB
  refine ⟨h.grd.set k ha x, (Below.heap_setCell _ _ _ _ (by simp; omega)).trans h.gb, ⟨(Below.heap_setCell _ _ _ _ (by simp; omega)).trans h.mark.row, ?_⟩, hB, h.map.block (Below.heap_setCell _ _ _ _ (by simp; omega)), hl, h.bel.setCell (by simp; omega) _⟩
  rw [World.cell?_setCell_other _ _ _ _ (fun e => by injection e; omega)]
  exact h.mark.bx
theorem EndSt.put {n2 : Nat} {M2 : Nat → Nat → Prop} (h : EndSt w B H0 N n gc G T M wr) (hm : EMap w' (H0 + 1 + N) n2 M2) (hg : wr.grownBy w' (some (H0 + 1 + N))) : EndSt w B H0 N n2 gc G T M2 w' := by
  have hl := h.lt
  have hB := h.hB
  have hlm := h.map.lt
  have hz := h.bel.size
  have hk : ∀ b, b < H0 + 1 + N → w'.heap[b]? = wr.heap[b]? := fun b hb => hg.block b (by omega) (fun e => by injection e; omega)
  refine ⟨h.grd.keep (fun q _ hq => hk q hq), (hk _ (by omega)).trans h.gb, ⟨(hk _ (by omega)).trans h.mark.row, ?_⟩, hB, hm, hl, ?_⟩
  · rw [World.cell?_of_block (w := wr) (hk (w.heap.size + 1) (by omega))]
    exact h.mark.bx
  · exact h.bel.trans ⟨hg.os, hg.tape, hg.output, hg.size, fun k hk2 => hk k (by omega)⟩
end
set_option maxHeartbeats 1000000 in
theorem endFn (w : World) (B Bo N : Nat) (F : Nat → Bool) (hm : MarkSt w B Bo N F) (s : SymD) (hs : NonOk N [s]) :
    Calls Try.prog 69 #[.agg #[.bool s.1, .int .i64 s.2], .pointer (some ⟨Bo, 0, none⟩)] w fun e w' => e = .returned (.bool (growS F s)) ∧ Below w.heap.size w w' := by
  obtain ⟨t, x⟩ := s
  cases t with
  | true =>
    clear hm hs
    go_enter Try.func69, Try.ntmps69
    go_wp2_with fail
    go_ret
    exact ⟨rfl, (Below.refl _ _).alloc (Nat.le_refl _) _⟩
  | false =>
    obtain ⟨h0, h1⟩ := hs (false, x) (by simp) rfl
    simp only at h0 h1
    obtain ⟨a, rfl⟩ : ∃ a : Nat, x = (a : Int) := ⟨x.toNat, by omega⟩
    rw [Int.toNat_natCast] at h1
    have hbx := hm.bx
    have hc : w.cell? ⟨B, a, none⟩ = some (.bool (F a)) := by
      rw [cell_of_row w _ a _ _ _ hm.row]
      exact rowCells_at _ _ _ a h1
    have hl1 := cell_lt hbx
    have hl2 := cell_lt hc
    have haI : (a : Int) < (N : Int) := by omega
    have ha0 : (0 : Int) ≤ (a : Int) := by omega
    have HU := Lib.hid (show growS F (false, (a : Int)) = F a by simp [growS])
    clear hm hs h1 h0
    go_enter Try.func69, Try.ntmps69
    go_wp2_with fail
    go_ret
    exact ⟨ret_bool HU.out.symm, (Below.refl _ _).alloc (Nat.le_refl _) _⟩
theorem tellsEnd (w : World) (B Bo N : Nat) (F : Nat → Bool) (hm : MarkSt w B Bo N F) : TellsS Try.prog w (fun s => NonOk N [s]) (growS F) 69 #[.pointer (some ⟨Bo, 0, none⟩)] := fun u hb s hs => endFn u B Bo N F (hm.below hb) s hs
theorem entersEnd : ∀ (args : Array Value) (u : World), (callFunc 69 args).run Try.prog u = .ok (.enter 69 args) u := enters_of Try.func69 (by kernel_rfl) rfl
theorem EndSt.other {w wr w' : World} {B H0 N n : Nat} {gc : Array Value} {G : Nat → Bool} {T : Nat → Nat → Bool} {M : Nat → Nat → Prop} (h : EndSt w B H0 N n gc G T M wr) {r : Nat} (hr : H0 + 1 + N < r) (hg : wr.grownBy w' (some r)) : EndSt w B H0 N n gc G T M w' := by
  have hl := h.lt
  have hB := h.hB
  have hlm := h.map.lt
  have hz := h.bel.size
  have hk : ∀ b, b < H0 + 1 + N + 1 → w'.heap[b]? = wr.heap[b]? := fun b hb => hg.block b (by omega) (fun e => by injection e; omega)
  refine ⟨h.grd.keep (fun q _ hq => hk q (by omega)), (hk _ (by omega)).trans h.gb, ⟨(hk _ (by omega)).trans h.mark.row, ?_⟩, hB, h.map.block (hk _ (by omega)), hl, ?_⟩
  · rw [World.cell?_of_block (w := wr) (hk (w.heap.size + 1) (by omega))]
    exact h.mark.bx
  · exact h.bel.trans ⟨hg.os, hg.tape, hg.output, hg.size, fun k hk2 => hk k (by omega)⟩
theorem EndSt.congr {w wr : World} {B H0 N n : Nat} {gc : Array Value} {G : Nat → Bool} {T T' : Nat → Nat → Bool} {M : Nat → Nat → Prop} (h : EndSt w B H0 N n gc G T M wr) (hT : ∀ a k, a < N → k < N → T a k = T' a k) : EndSt w B H0 N n gc G T' M wr :=
  ⟨h.grd.congr hT, h.gb, h.mark, h.hB, h.map, h.lt, h.bel⟩
theorem war_ik {e : Nat → Nat → Bool} {k i : Nat} : war e (k + 1) i k = war e k i k := by
  simp only [war]
  cases war e k i k <;> cases war e k k k <;> rfl
theorem war_kj {e : Nat → Nat → Bool} {k j : Nat} : war e (k + 1) k j = war e k k j := by
  simp only [war]
  cases war e k k j <;> cases war e k k k <;> rfl
/-- the table while it is being closed -/
def warT (e : Nat → Nat → Bool) (k i j x y : Nat) : Bool := if x < i ∨ (x = i ∧ y < j) then war e (k + 1) x y else war e k x y
theorem warT_set {e : Nat → Nat → Bool} {k i j : Nat} {v : Bool} (hv : v = war e (k + 1) i j) (x y : Nat) : (if x = i ∧ y = j then v else warT e k i j x y) = warT e k i (j + 1) x y := by
  unfold warT
  by_cases h1 : x = i ∧ y = j
  · obtain ⟨rfl, rfl⟩ := h1
    rw [if_pos ⟨rfl, rfl⟩, if_pos (by omega), hv]
  · rw [if_neg h1]
    by_cases h2 : x < i ∨ (x = i ∧ y < j)
    · rw [if_pos h2, if_pos (by omega)]
    · rw [if_neg h2, if_neg (by omega)]
theorem warT_ij {e : Nat → Nat → Bool} {k i j : Nat} : warT e k i j i j = war e k i j := by unfold warT; rw [if_neg (by omega)]
theorem warT_ik {e : Nat → Nat → Bool} {k i j : Nat} : warT e k i j i k = war e k i k := by
  unfold warT
  split
  · exact war_ik
  · rfl
theorem warT_kj {e : Nat → Nat → Bool} {k i j : Nat} : warT e k i j k j = war e k k j := by
  unfold warT
  split
  · exact war_kj
  · rfl
theorem warT_row {e : Nat → Nat → Bool} {k i N : Nat} {x y : Nat} (hy : y < N) : warT e k i N x y = warT e k (i + 1) 0 x y := by
  unfold warT
  by_cases h : x < i + 1
  · rw [if_pos (by omega), if_pos (by omega)]
  · rw [if_neg (by omega), if_neg (by omega)]
def TSnd (R : List RuleD) (N : Nat) (T : Nat → Nat → Bool) : Prop := ∀ a b, a < N → b < N → T a b = true → edgN R a b = true
def MSnd (R : List RuleD) (G : Nat → Bool) (M : Nat → Nat → Prop) : Prop := ∀ a b, M a b → More R G a b
def FillIn (G : Nat → Bool) (T : Nat → Nat → Bool) (M : Nat → Nat → Prop) (r : RuleD) (q : Nat) : Prop := ∀ p b : Nat, p < q → r.2[p]? = some (false, (b : Int)) → T r.1.toNat b = true ∧ ((r.2.eraseIdx p).any (growS G) = true → M r.1.toNat b)
def FillUpto (R : List RuleD) (G : Nat → Bool) (T : Nat → Nat → Bool) (M : Nat → Nat → Prop) (i : Nat) : Prop := ∀ (j : Nat) (r : RuleD), j < i → R[j]? = some r → FillIn G T M r r.2.length
set_option linter.unusedSimpArgs false in
set_option maxRecDepth 1000000 in
set_option maxHeartbeats 20000000 in
theorem lensEndless (w : World) (Sg : Nat → Prop) (AR : Option Addr) (nR cR : Nat) (Tm : Int) (N st : Nat) (R : List RuleD) (hg : Sl RRule w Sg AR nR cR R) (hRN : RulesN N R) (hlen : ∀ r ∈ R, r.2.length ≤ 4) (hN1 : 1 ≤ N) (hN2 : N ≤ 10) (hnR : nR ≤ 32)
    (B : Nat) (G : Nat → Bool) (hG : w.heap[B]? = some (.cells (rowCells Value.bool N G) 4 (0, 0))) :
    Calls Try.prog 39 #[.agg #[.int .i64 Tm, .int .i64 N, .int .i64 st, .slice AR nR cR], .slice (some ⟨B, 0, none⟩) N N] w fun e w' => (∃ q : Bool, e = .returned (.bool q) ∧ (q = true ↔ EndlessP R G N)) ∧ Below w.heap.size w w' := by
  have HRL := Lib.hid hg.len
  have HG := Lib.hid hg.fit
  have HRN := Lib.hid hRN
  have HLE := Lib.hid hlen
  have hBw : B < w.heap.size := heap_lt hG
  obtain ⟨gc, hgc⟩ : ∃ gc : Array Value, gc = #[.int .i64 Tm, .int .i64 (N : Int), .int .i64 (st : Int), .slice AR nR cR] := ⟨_, rfl⟩
  have hmk := fun W => tBoolss.make rfl N (by omega) (by omega) W
  have HGC := Lib.hid hgc
  obtain ⟨w1, hw1⟩ : ∃ w1 : World, w1 = (w.alloc (.cells #[.int .i64 Tm, .int .i64 (N : Int), .int .i64 (st : Int), .slice AR nR cR] 25)).alloc (.cells #[.slice (some ⟨B, 0, none⟩) N N] 28) := ⟨_, rfl⟩
  have hz1 : w1.heap.size = w.heap.size + 2 := by rw [hw1]; simp
  have HB1 := Lib.hid (show Below w.heap.size w w1 by rw [hw1]; exact ((Below.refl _ _).alloc (Nat.le_refl _) _).alloc (by simp) _)
  have HGB1 := Lib.hid (show w1.heap[w.heap.size]? = some (.cells gc 25 (0, 0)) by rw [hw1, hgc]; exact (Below.heap_alloc _ _ _ (by simp)).trans (heap_alloc_new w _))
  have HMK1 := Lib.hid (show MarkSt w1 B (w.heap.size + 1) N G from ⟨by rw [HB1.out.block _ hBw]; exact hG, by
    have h : w1.heap[w.heap.size + 1]? = some (.cells #[.slice (some ⟨B, 0, none⟩) N N] 28 (0, 0)) := by rw [hw1]; exact heap_new _ _ _ (by simp)
    simp [World.cell?, h]⟩)
  clear hg hRN hlen hG hgc
  go_enter Try.func39, Try.ntmps39
  --@1
  go_wp2_with fail
  rw [made_hdr2 w1.heap.size N N, ← hw1]
  rw [← hz1]
  clear hmk hw1
  obtain ⟨H0, hH0⟩ : ∃ H0, H0 = w1.heap.size := ⟨_, rfl⟩
  rw [← hH0]
  have HST0 := Lib.hid (show (w1.alloc (.cells (hdr2 H0 N N 0) 28)).heap[H0]? = some (.cells (hdr2 H0 N N 0) 28 (0, 0)) by rw [hH0]; exact heap_alloc_new w1 _)
  have hH1 : H0 = w.heap.size + 2 := by omega
  have HH1 := Lib.hid hH1
  have hH2 : w.heap.size + 1 < H0 := by omega
  have HBA := Lib.hid (show Below H0 w1 (w1.alloc (.cells (hdr2 H0 N N 0) 28)) by rw [hH0]; exact (Below.refl _ _).alloc (Nat.le_refl _) _)
  have hzA : (w1.alloc (.cells (hdr2 H0 N N 0) 28)).heap.size = H0 + 1 := by rw [hH0]; simp
  have hz1H : w1.heap.size ≤ H0 := by omega
  have HZA := Lib.hid hzA
  clear hH0 hH1 hzA
  go_loopg [24] N (fun gk i wr => ∃ a : Nat, a ≤ N ∧ gk = N - a ∧ i = .int .i64 a ∧ wr.heap[H0]? = some (.cells (hdr2 H0 N N a) 28 (0, 0)) ∧ wr.heap.size = H0 + 1 + a ∧ (∀ b, b < a → wr.heap[H0 + 1 + b]? = some (.cells (rowCells Value.bool N (fun _ => false)) 4 (0, 0))) ∧ Below H0 w1 wr)
  case atStart => exact ⟨0, Nat.zero_le _, rfl, rfl, HST0.out, HZA.out, (fun b hb => absurd hb (by omega)), HBA.out⟩
  case round =>
    obtain ⟨a, ha, hgk, rfl, hh, hz, hrows, hb⟩ := hrel
    have HGK := Lib.hid hgk
    have HZZ := Lib.hid hz
    have HRW := Lib.hid hrows
    have HB := Lib.hid hb
    have hlw : H0 < wr.heap.size := by omega
    clear HST0 hgk hz hrows hb
    by_cases hlt' : a < N
    · have hcell : wr.cell? ⟨H0, a, none⟩ = some (.slice none 0 0) := by
        rw [cell_of_row wr _ a _ _ _ hh, hdr2_at _ _ _ _ _ hlt']
        simp
      have hfr : wr.frozen? ⟨H0, a, none⟩ = false := by simp [World.frozen?, hh]
      have hmk := tBools.make rfl N (by omega) (by omega) wr
      rw [made_row] at hmk
      have hset := blk_set hh a (.slice (some ⟨H0 + 1 + a, 0, none⟩) N N)
      rw [hdr2_set, ← HZZ.out] at hset
      have HSET := Lib.hid hset
      clear hh hset
      --@2
      go_wp2_with fail
      go_roundg (N - (a + 1))
      case measure => rw [HGK.out]; omega
      case rel =>
        have hzz := HZZ.out
        refine ⟨a + 1, by omega, rfl, by go_num, (Below.heap_alloc _ _ _ (by simp [World.setCell]; omega)).trans HSET.out, by simp [World.setCell]; omega, fun b hb => ?_, (HB.out.setCell (Nat.le_refl _) _).alloc (by simp [World.setCell]; omega) _⟩
        by_cases e : b = a
        · subst e
          exact heap_new _ _ _ (by simp [World.setCell]; exact hzz)
        · rw [Below.heap_alloc _ _ _ (by simp [World.setCell]; omega), Below.heap_setCell _ _ _ _ (by simp; omega)]
          exact HRW.out b (by omega)
    · obtain rfl : N = a := by omega
      have hmm := @run_makeMap Try.prog
      obtain ⟨w2, rfl⟩ : ∃ w2 : World, w2 = wr := ⟨_, rfl⟩
      have hls : EndSt w B H0 N 0 gc G (fun _ _ => false) (fun _ _ => False) (w2.alloc (.map #[] 0)) := by
        have hz := HZZ.out
        have hbd : Below w2.heap.size w2 (w2.alloc (.map #[] 0)) := (Below.refl _ _).alloc (Nat.le_refl _) _
        refine ⟨Grid.below ⟨fun i hi => ?_, fun i hi => ?_, fun i hi => ⟨by omega, by omega, by omega⟩, ⟨by omega, by omega⟩, fun i j _ _ e => by omega⟩ hbd (by omega), (hbd.block _ (by omega)).trans ((HB.out.block _ (by omega)).trans HGB1.out), MarkSt.below ⟨(HB.out.block _ (by omega)).trans HMK1.out.row, (HB.out.cell (p := ⟨w.heap.size + 1, 0, none⟩) hH2).trans HMK1.out.bx⟩ hbd, hBw, ?_, hH2, (HB1.out.trans (HB.out.mono (by omega))).trans (hbd.mono (by omega))⟩
        · rw [cell_of_row w2 _ i _ _ _ hh, hdr2_at _ _ _ _ _ hi, if_pos hi]
        · exact HRW.out i hi
        · have := EMap.made w2
          rwa [hz] at this
      have HLS := Lib.hid hls
      have hz2 := HZZ.out
      have hk3 : w2.cell? ⟨w.heap.size, 3, none⟩ = some (.slice AR nR cR) := by
        have h := (HB.out.block _ (by omega)).trans HGB1.out
        simp [World.cell?, h, HGC.out]
      have hlt2 : w.heap.size < H0 + 1 + N := by omega
      clear hh hls HZZ HRW HB HGK
      --@3
      go_wp2_with fail
      clear hz2 hlt2 hk3 hmm hlw
      go_loopg [37] nR (fun gk vi wr => ∃ (i n : Nat) (T : Nat → Nat → Bool) (M : Nat → Nat → Prop), i ≤ nR ∧ gk = nR - i ∧ vi = .int .i64 i ∧ EndSt w B H0 N n gc G T M wr ∧ n ≤ 4 * i ∧ TSnd R N T ∧ MSnd R G M ∧ FillUpto R G T M i)
      case atStart => exact ⟨0, 0, _, _, Nat.zero_le _, rfl, rfl, HLS.out, Nat.le_refl _, (fun _ _ _ _ h => by cases h), (fun _ _ h => h.elim), fun j r h => absurd h (by omega)⟩
      case round =>
        obtain ⟨i, n, T, M, hi, hgk, rfl, hes, hn, hts, hms, hfu⟩ := hrel
        have HGK := Lib.hid hgk
        have HES := Lib.hid hes
        have HTS := Lib.hid hts
        have HMS := Lib.hid hms
        have HFU := Lib.hid hfu
        obtain ⟨w4, rfl⟩ : ∃ w4 : World, w4 = wr := ⟨_, rfl⟩
        clear hgk hes hts hms hfu HLS
        by_cases hlt : i < nR
        · obtain ⟨b0, off, A3, m3, c3, r, rfl, _, hb0, hc1, hc2, hr, hrs⟩ := rule_at (HG.out.keep (Kept.belowB HES.out.bel fun b hb => hb.2)) hlt
          obtain ⟨⟨hr1, hrN⟩, hok⟩ := HRN.out r (List.mem_of_getElem? hr)
          obtain ⟨a, ha⟩ : ∃ a : Nat, r.1 = (a : Int) := ⟨r.1.toNat, by omega⟩
          have haN : a < N := by rw [ha] at hrN; simpa using hrN
          have hm4 : m3 ≤ 4 := by have := hrs.len; have := HLE.out r (List.mem_of_getElem? hr); omega
          have hmc : m3 ≤ c3 := hrs.cap
          have HOK := Lib.hid hok
          rw [ha] at hc1
          have hiI : (i : Int) < (nR : Int) := by omega
          have hi0 : (0 : Int) ≤ (i : Int) := by omega
          have HR := Lib.hid hr
          have HA := Lib.hid ha
          have HRS := Lib.hid hrs
          have HLN := Lib.hid hrs.len
          clear hr hrs ha hr1 hrN hok
          --@4
          go_wp2_with fail
          obtain ⟨w5, hw5⟩ : ∃ w5 : World, w5 = w4.alloc (.cells #[.int .i64 (a : Int), .slice A3 m3 c3] 36) := ⟨_, rfl⟩
          rw [← hw5]
          have hz5 : w4.heap.size < w5.heap.size := by rw [hw5]; simp
          have hb5 : Below w4.heap.size w4 w5 := by rw [hw5]; exact (Below.refl _ _).alloc (Nat.le_refl _) _
          have HBR5 := Lib.hid (show w5.heap[w4.heap.size]? = some (.cells #[.int .i64 (a : Int), .slice A3 m3 c3] 36 (0, 0)) by rw [hw5]; exact heap_alloc_new _ _)
          have HES5 := Lib.hid (HES.out.below hb5)
          have HRS5 := Lib.hid ((HRS.out.below hb5).more (S' := fun b => b < w.heap.size) fun b hb => hb.2)
          have hw4H : H0 + 1 + N < w4.heap.size := by have := HES.out.map.lt; omega
          clear hw5 hb5 hc1 hc2
          go_loopg [44] m3 (fun gl vq wy => ∃ (q n' : Nat) (T' : Nat → Nat → Bool) (M' : Nat → Nat → Prop), q ≤ m3 ∧ gl = m3 - q ∧ vq = .int .i64 q ∧ EndSt w B H0 N n' gc G T' M' wy ∧ n' ≤ 4 * i + q ∧ TSnd R N T' ∧ MSnd R G M' ∧ (∀ x y, T x y = true → T' x y = true) ∧ (∀ x y, M x y → M' x y) ∧ FillIn G T' M' r q ∧
            wy.heap[w4.heap.size]? = some (.cells #[.int .i64 (a : Int), .slice A3 m3 c3] 36 (0, 0)) ∧ Sl RSym wy (fun b => b < w.heap.size) A3 m3 c3 r.2)
          case atStart => exact ⟨0, n, T, M, Nat.zero_le _, rfl, rfl, HES5.out, by omega, HTS.out, HMS.out, (fun _ _ h => h), (fun _ _ h => h), (fun p b h => absurd h (by omega)), HBR5.out, HRS5.out⟩
          case round =>
            obtain ⟨q, n', T', M', hq, hgl, rfl, hes', hn', hts', hms', hmT, hmM, hfi, hbr, hrs'⟩ := hrel
            have HGL := Lib.hid hgl
            have HES' := Lib.hid hes'
            have HTS' := Lib.hid hts'
            have HMS' := Lib.hid hms'
            have HMT := Lib.hid hmT
            have HMM := Lib.hid hmM
            have HFI := Lib.hid hfi
            have HBR := Lib.hid hbr
            have HRS' := Lib.hid hrs'
            obtain ⟨w6, rfl⟩ : ∃ w6 : World, w6 = wr := ⟨_, rfl⟩
            have hl46 : w4.heap.size < w6.heap.size := heap_lt hbr
            clear hgl hes' hts' hms' hmT hmM hfi hbr hrs'
            by_cases hlq : q < m3
            · obtain ⟨bs, os, s, hA3, hbs, _, hs1, hs2, hs⟩ := sym_at HRS'.out hlq
              subst hA3
              obtain ⟨tm, xI⟩ := s
              have hqI : (q : Int) < (m3 : Int) := by omega
              have hq0 : (0 : Int) ≤ (q : Int) := by omega
              have HS := Lib.hid hs
              clear hs
              have hb7 : Below w6.heap.size w6 (w6.alloc (.cells #[.bool tm, .int .i64 xI] 38)) := (Below.refl _ _).alloc (Nat.le_refl _) _
              have HES7 := Lib.hid (HES'.out.below hb7)
              have HRS7 := Lib.hid (HRS'.out.below hb7)
              have HBR7 := Lib.hid ((hb7.block _ hl46).trans HBR.out)
              clear hb7
              cases tm with
              | true =>
                --@5
                go_wp2_with fail
                go_roundg (m3 - (q + 1))
                case measure => rw [HGL.out]; omega
                case rel =>
                  refine ⟨q + 1, n', T', M', by omega, rfl, by go_num, HES7.out, by omega, HTS'.out, HMS'.out, HMT.out, HMM.out, fun p b hp hb => ?_, HBR7.out, HRS7.out⟩
                  rcases Nat.lt_succ_iff_lt_or_eq.1 hp with h1 | rfl
                  · exact HFI.out p b h1 hb
                  · rw [HS.out] at hb
                    cases hb
              | false =>
                obtain ⟨hx0, hxN⟩ := HOK.out _ (List.mem_of_getElem? HS.out) rfl
                obtain ⟨x, hx⟩ : ∃ x : Nat, xI = (x : Int) := ⟨xI.toNat, by simp only at hx0; omega⟩
                subst hx
                simp only [Int.toNat_natCast] at hxN
                clear hx0
                --@6
                go_wp2_with fail
                obtain ⟨w7, hw7⟩ : ∃ w7 : World, w7 = w6.alloc (.cells #[.bool false, .int .i64 (x : Int)] 38) := ⟨_, rfl⟩
                rw [← hw7] at HES7 HRS7 HBR7 ⊢
                have hz7 : w6.heap.size < w7.heap.size := by rw [hw7]; simp
                have HBS7 := Lib.hid (show w7.heap[w6.heap.size]? = some (.cells #[.bool false, .int .i64 (x : Int)] 38 (0, 0)) by rw [hw7]; exact heap_alloc_new _ _)
                have hw6H : H0 + 1 + N < w6.heap.size := by omega
                clear hw7 hs1 hs2
                have HREG := Lib.hid (show ∀ u : World, u.heap[w4.heap.size]? = w7.heap[w4.heap.size]? → u.heap[w6.heap.size]? = w7.heap[w6.heap.size]? → u.cell? ⟨H0, a, none⟩ = w7.cell? ⟨H0, a, none⟩ → u.cell? ⟨w4.heap.size, 0, none⟩ = some (.int .i64 (a : Int)) ∧ u.cell? ⟨H0, a, none⟩ = some (.slice (some ⟨H0 + 1 + a, 0, none⟩) N N) ∧ u.cell? ⟨w6.heap.size, 1, none⟩ = some (.int .i64 (x : Int)) from fun u h1 h2 h3 => by
                  have e1 := h1.trans HBR7.out
                  have e2 := h2.trans HBS7.out
                  exact ⟨by simp [World.cell?, e1], h3.trans (HES7.out.grd.hdr a haN), by simp [World.cell?, e2]⟩)
                have haI : (a : Int) < (N : Int) := by omega
                have ha0 : (0 : Int) ≤ (a : Int) := by omega
                have hxI : (x : Int) < (N : Int) := by omega
                have hx00 : (0 : Int) ≤ (x : Int) := by omega
                refine wp_region_late (late := []) (S1 := fun u => u.cell? ⟨w4.heap.size, 0, none⟩ = some (.int .i64 (a : Int)) ∧ u.cell? ⟨H0, a, none⟩ = some (.slice (some ⟨H0 + 1 + a, 0, none⟩) N N) ∧ u.cell? ⟨w6.heap.size, 1, none⟩ = some (.int .i64 (x : Int))) (S := fun _ => True) (by kernel_rfl) ?_
                have HES8 := Lib.hid (HES7.out.below (Below.refl _ _).drew)
                have HRS8 := Lib.hid (HRS7.out.drew)
                have HK8 := Lib.hid (show w7.drew.heap[w4.heap.size]? = w7.heap[w4.heap.size]? ∧ w7.drew.heap[w6.heap.size]? = w7.heap[w6.heap.size]? ∧ w7.drew.cell? ⟨H0, a, none⟩ = w7.cell? ⟨H0, a, none⟩ from ⟨rfl, rfl, rfl⟩)
                have hz8 : w7.heap.size ≤ w7.drew.heap.size := Nat.le_refl _
                obtain ⟨w8, hw8⟩ : ∃ w8 : World, w8 = w7.drew := ⟨_, rfl⟩
                rw [← hw8] at HES8 HRS8 HK8 hz8 ⊢
                clear hw8
                refine wpAnyL_pure (i := 0) rfl (by kernel_rfl) (fun _ _ _ h => h) (Or.inl ⟨by rfl, (fun u hu => by obtain ⟨k0, k1, k2⟩ := hu; go_simp; try rfl)⟩) (HREG.out _ HK8.out.1 HK8.out.2.1 HK8.out.2.2) (fun _ => trivial) ?_
                simp only [Act.put, List.setIfInBounds_toArray, List.set_cons_zero, List.set_cons_succ, List.getElem_toArray, List.getElem_cons_zero, List.getElem_cons_succ]
                refine wpAnyL_pure (i := 1) rfl (by kernel_rfl) (fun _ _ _ h => h) (Or.inl ⟨by rfl, (fun u hu => by obtain ⟨k0, k1, k2⟩ := hu; go_simp; try rfl)⟩) (HREG.out _ HK8.out.1 HK8.out.2.1 HK8.out.2.2) (fun _ => trivial) ?_
                simp only [Act.put, List.setIfInBounds_toArray, List.set_cons_zero, List.set_cons_succ, List.getElem_toArray, List.getElem_cons_zero, List.getElem_cons_succ]
                refine wpAnyL_pure (i := 2) rfl (by kernel_rfl) (fun _ _ _ h => h) (Or.inl ⟨by rfl, (fun u hu => by obtain ⟨k0, k1, k2⟩ := hu; go_simp; try rfl)⟩) (HREG.out _ HK8.out.1 HK8.out.2.1 HK8.out.2.2) (fun _ => trivial) ?_
                simp only [Act.put, List.setIfInBounds_toArray, List.set_cons_zero, List.set_cons_succ, List.getElem_toArray, List.getElem_cons_zero, List.getElem_cons_succ]
                refine wpAnyL_pure (i := 3) rfl (by kernel_rfl) (fun _ _ _ h => h) (Or.inl ⟨by rfl, (fun u hu => by obtain ⟨k0, k1, k2⟩ := hu; go_simp; try rfl)⟩) (HREG.out _ HK8.out.1 HK8.out.2.1 HK8.out.2.2) (fun _ => trivial) ?_
                simp only [Act.put, List.setIfInBounds_toArray, List.set_cons_zero, List.set_cons_succ, List.getElem_toArray, List.getElem_cons_zero, List.getElem_cons_succ]
                refine wpAnyL_pure (i := 4) rfl (by kernel_rfl) (fun _ _ _ h => h) (Or.inl ⟨by rfl, (fun u hu => by obtain ⟨k0, k1, k2⟩ := hu; go_simp; try rfl)⟩) (HREG.out _ HK8.out.1 HK8.out.2.1 HK8.out.2.2) (fun _ => trivial) ?_
                simp only [Act.put, List.setIfInBounds_toArray, List.set_cons_zero, List.set_cons_succ, List.getElem_toArray, List.getElem_cons_zero, List.getElem_cons_succ]
                refine wpAnyL_pure (i := 5) rfl (by kernel_rfl) (fun _ _ _ h => h) (Or.inl ⟨by rfl, (fun u hu => by obtain ⟨k0, k1, k2⟩ := hu; go_simp; try rfl)⟩) (HREG.out _ HK8.out.1 HK8.out.2.1 HK8.out.2.2) (fun _ => trivial) ?_
                simp only [Act.put, List.setIfInBounds_toArray, List.set_cons_zero, List.set_cons_succ, List.getElem_toArray, List.getElem_cons_zero, List.getElem_cons_succ]
                refine wpAnyL_pure (i := 6) rfl (by kernel_rfl) (fun _ _ _ h => h) (Or.inl ⟨by rfl, (fun u hu => by obtain ⟨k0, k1, k2⟩ := hu; go_simp; try rfl)⟩) (HREG.out _ HK8.out.1 HK8.out.2.1 HK8.out.2.2) (fun _ => trivial) ?_
                simp only [Act.put, List.setIfInBounds_toArray, List.set_cons_zero, List.set_cons_succ, List.getElem_toArray, List.getElem_cons_zero, List.getElem_cons_succ]
                refine wpAnyL_pure (i := 7) rfl (by kernel_rfl) (fun _ _ _ h => h) (Or.inl ⟨by rfl, (fun u hu => by obtain ⟨k0, k1, k2⟩ := hu; go_simp; try rfl)⟩) (HREG.out _ HK8.out.1 HK8.out.2.1 HK8.out.2.2) (fun _ => trivial) ?_
                simp only [Act.put, List.setIfInBounds_toArray, List.set_cons_zero, List.set_cons_succ, List.getElem_toArray, List.getElem_cons_zero, List.getElem_cons_succ]
                refine wpAnyL_ready (rs := [8]) (by kernel_rfl) (by simp) ?_
                refine AllL.cons rfl (fun K hK => ?_) ?_
                · have hcx := HES8.out.grd.cell haN hxN
                  have hfx := HES8.out.grd.fr haN x
                  go_simp
                  clear hcx hfx
                  have HES9 := Lib.hid (HES8.out.set x haN true)
                  have HBR9 := Lib.hid (show (w8.setCell ⟨H0 + 1 + a, x, none⟩ (.bool true)).heap[w4.heap.size]? = some (.cells #[.int .i64 (a : Int), .slice (some ⟨bs, os, none⟩) m3 c3] 36 (0, 0)) from (Below.heap_setCell _ _ _ _ (by show w4.heap.size ≠ H0 + 1 + a; omega)).trans (HK8.out.1.trans HBR7.out))
                  have HBS9 := Lib.hid (show (w8.setCell ⟨H0 + 1 + a, x, none⟩ (.bool true)).heap[w6.heap.size]? = some (.cells #[.bool false, .int .i64 (x : Int)] 38 (0, 0)) from (Below.heap_setCell _ _ _ _ (by show w6.heap.size ≠ H0 + 1 + a; omega)).trans (HK8.out.2.1.trans HBS7.out))
                  have HRS9 := Lib.hid (HRS8.out.keep (Kept.setCell _ _ ⟨H0 + 1 + a, x, none⟩ (.bool true) (by show ¬ H0 + 1 + a < w.heap.size; omega)))
                  have hz9 : w8.heap.size ≤ (w8.setCell ⟨H0 + 1 + a, x, none⟩ (.bool true)).heap.size := by simp [World.setCell]
                  obtain ⟨w9, hw9⟩ : ∃ w9 : World, w9 = w8.setCell ⟨H0 + 1 + a, x, none⟩ (.bool true) := ⟨_, rfl⟩
                  rw [← hw9] at HES9 HBR9 HBS9 HRS9 hz9 ⊢
                  clear hw9
                  have HK9 := Lib.hid (HREG.out w9 (HBR9.out.trans HBR7.out.symm) (HBS9.out.trans HBS7.out.symm) ((HES9.out.grd.hdr a haN).trans (HES7.out.grd.hdr a haN).symm))
                  refine hK.out _ _ HK9.out (fun _ => trivial) ?_
                  clear hK K
                  refine wpAnyL_done (by kernel_rfl) ?_ _
                  --@7
                  go_wp2_with fail
                  obtain ⟨AQ, hcutR, hsq⟩ := HRS9.out.cutE2 tSyms rfl (q + 1) (by omega)
                  have hcutR1 : ∀ u, (Instr.slice 34 (.slice (some ⟨bs, os, none⟩) m3 c3) (some (.int .i64 ((q : Int) + 1))) none none).run Try.prog u = .ok (.slice AQ (m3 - (q + 1)) (c3 - (q + 1))) u := hcutR
                  have hcutL := fun u => tSyms.hN (some ⟨bs, os, none⟩) m3 c3 q (by omega) u
                  have HWQ := Lib.hid (show IntKind.i64.wrap ((q : Int) + 1) = (q : Int) + 1 from IntWalk.i64_in _ (by omega))
                  refine wp_region_late (late := []) (S1 := fun u => u.cell? ⟨w4.heap.size, 1, none⟩ = some (.slice (some ⟨bs, os, none⟩) m3 c3)) (S := fun _ => True) (by kernel_rfl) ?_
                  have HES10 := Lib.hid (HES9.out.below (Below.refl _ _).drew)
                  have HRS10 := Lib.hid (HRS9.out.drew)
                  have HSQ10 := Lib.hid hsq.drew
                  have HBR10 := Lib.hid (show w9.drew.heap[w4.heap.size]? = some (.cells #[.int .i64 (a : Int), .slice (some ⟨bs, os, none⟩) m3 c3] 36 (0, 0)) from HBR9.out)
                  have HBS10 := Lib.hid (show w9.drew.heap[w6.heap.size]? = some (.cells #[.bool false, .int .i64 (x : Int)] 38 (0, 0)) from HBS9.out)
                  have hz10 : w9.heap.size ≤ w9.drew.heap.size := Nat.le_refl _
                  obtain ⟨w10, hw10⟩ : ∃ w10 : World, w10 = w9.drew := ⟨_, rfl⟩
                  rw [← hw10] at HES10 HRS10 HSQ10 HBR10 HBS10 hz10 ⊢
                  have HK10 := Lib.hid (show w10.cell? ⟨w4.heap.size, 1, none⟩ = some (.slice (some ⟨bs, os, none⟩) m3 c3) by simp [World.cell?, HBR10.out])
                  clear hw10 hsq hcutR
                  refine wpAnyL_pure (i := 0) rfl (by kernel_rfl) (fun _ _ _ h => h) (Or.inl ⟨by rfl, (fun u hu => by go_simp; try rfl)⟩) HK10.out (fun _ => trivial) ?_
                  simp only [Act.put, List.setIfInBounds_toArray, List.set_cons_zero, List.set_cons_succ, List.getElem_toArray, List.getElem_cons_zero, List.getElem_cons_succ]
                  refine wpAnyL_pure (i := 1) rfl (by kernel_rfl) (fun _ _ _ h => h) (Or.inl ⟨by rfl, (fun u hu => by go_simp; try rfl)⟩) HK10.out (fun _ => trivial) ?_
                  simp only [Act.put, List.setIfInBounds_toArray, List.set_cons_zero, List.set_cons_succ, List.getElem_toArray, List.getElem_cons_zero, List.getElem_cons_succ]
                  refine wpAnyL_pure (i := 2) rfl (by kernel_rfl) (fun _ _ _ h => h) (Or.inl ⟨by rfl, (fun u hu => by go_simp; try rfl)⟩) HK10.out (fun _ => trivial) ?_
                  simp only [Act.put, List.setIfInBounds_toArray, List.set_cons_zero, List.set_cons_succ, List.getElem_toArray, List.getElem_cons_zero, List.getElem_cons_succ]
                  refine wpAnyL_pure (i := 3) rfl (by kernel_rfl) (fun _ _ _ h => h) (Or.inl ⟨by rfl, (fun u hu => by go_simp; try rfl)⟩) HK10.out (fun _ => trivial) ?_
                  simp only [Act.put, List.setIfInBounds_toArray, List.set_cons_zero, List.set_cons_succ, List.getElem_toArray, List.getElem_cons_zero, List.getElem_cons_succ]
                  refine wpAnyL_pure (i := 4) rfl (by kernel_rfl) (fun _ _ _ h => h) (Or.inl ⟨by rfl, (fun u hu => by go_simp; try rfl)⟩) HK10.out (fun _ => trivial) ?_
                  simp only [Act.put, List.setIfInBounds_toArray, List.set_cons_zero, List.set_cons_succ, List.getElem_toArray, List.getElem_cons_zero, List.getElem_cons_succ]
                  refine wpAnyL_pure (i := 5) rfl (by kernel_rfl) (fun _ _ _ h => h) (Or.inl ⟨by rfl, (fun u hu => by go_simp; try rfl)⟩) HK10.out (fun _ => trivial) ?_
                  simp only [Act.put, List.setIfInBounds_toArray, List.set_cons_zero, List.set_cons_succ, List.getElem_toArray, List.getElem_cons_zero, List.getElem_cons_succ]
                  refine wpAnyL_pure (i := 6) rfl (by kernel_rfl) (fun _ _ _ h => h) (Or.inl ⟨by rfl, (fun u hu => by go_simp; try rfl)⟩) HK10.out (fun _ => trivial) ?_
                  simp only [Act.put, List.setIfInBounds_toArray, List.set_cons_zero, List.set_cons_succ, List.getElem_toArray, List.getElem_cons_zero, List.getElem_cons_succ]
                  refine wpAnyL_pure (i := 7) (v := .int .i64 ((q : Int) + 1)) rfl (by kernel_rfl) (fun _ _ _ h => h) (Or.inl ⟨by rfl, (fun u hu => by go_simp; first | rw [HWQ.out] | rfl)⟩) HK10.out (fun _ => trivial) ?_
                  simp only [Act.put, List.setIfInBounds_toArray, List.set_cons_zero, List.set_cons_succ, List.getElem_toArray, List.getElem_cons_zero, List.getElem_cons_succ]
                  refine wpAnyL_pure (i := 8) rfl (by kernel_rfl) (fun _ _ _ h => h) (Or.inl ⟨by rfl, (fun u hu => by go_simp; try rfl)⟩) HK10.out (fun _ => trivial) ?_
                  simp only [Act.put, List.setIfInBounds_toArray, List.set_cons_zero, List.set_cons_succ, List.getElem_toArray, List.getElem_cons_zero, List.getElem_cons_succ]
                  refine wpAnyL_ready (rs := [9]) (by kernel_rfl) (by simp) ?_
                  refine AllL.cons rfl (fun K hK => ?_) ?_
                  · go_simp
                    have HLIT := Lib.hid (heap_alloc_new w10 (.cells #[.slice (some ⟨bs, os, none⟩) q c3, .slice AQ (m3 - (q + 1)) (c3 - (q + 1))] 34))
                    have hb11 : Below w10.heap.size w10 (w10.alloc (.cells #[.slice (some ⟨bs, os, none⟩) q c3, .slice AQ (m3 - (q + 1)) (c3 - (q + 1))] 34)) := (Below.refl _ _).alloc (Nat.le_refl _) _
                    have HES11 := Lib.hid (HES10.out.below hb11)
                    have HRS11 := Lib.hid (HRS10.out.below hb11)
                    have HSQ11 := Lib.hid (HSQ10.out.below hb11)
                    have HBR11 := Lib.hid ((hb11.block _ (by omega)).trans HBR10.out)
                    have HBS11 := Lib.hid ((hb11.block _ (by omega)).trans HBS10.out)
                    obtain ⟨w11, hw11⟩ : ∃ w11 : World, w11 = w10.alloc (.cells #[.slice (some ⟨bs, os, none⟩) q c3, .slice AQ (m3 - (q + 1)) (c3 - (q + 1))] 34) := ⟨_, rfl⟩
                    rw [← hw11] at HLIT HES11 HRS11 HSQ11 HBR11 HBS11 ⊢
                    have hz11 : w10.heap.size < w11.heap.size := by rw [hw11]; simp
                    clear hw11 hb11
                    have HK11 := Lib.hid (show w11.cell? ⟨w4.heap.size, 1, none⟩ = some (.slice (some ⟨bs, os, none⟩) m3 c3) by simp [World.cell?, HBR11.out])
                    refine hK.out _ _ HK11.out (fun _ => trivial) ?_
                    clear hK K
                    refine wpAnyL_ready (rs := [10]) (by kernel_rfl) (by simp) ?_
                    refine AllL.cons rfl (fun K hK => ?_) ?_
                    · go_simp
                      refine (concatErase w11 (fun _ => True) w10.heap.size 0 2 (some ⟨bs, os, none⟩) AQ m3 q c3 (c3 - (q + 1)) r.2 hlq (by omega) HLN.out.symm ((HRS11.out.take q (by omega)).more fun _ _ => trivial) (HSQ11.out.more fun _ _ => trivial) ⟨rfl, fun _ => ⟨w10.heap.size, 0, rfl, trivial, fun j u hj => by
                        have e := HLIT.out
                        match j, hj with
                        | 0, hj => injection hj with hj; subst hj; simp only [World.cell?, e]; rfl
                        | 1, hj => injection hj with hj; subst hj; simp only [World.cell?, e]; rfl⟩⟩).mono ?_
                      rintro e w12 ⟨A12, c12, rfl, hs12, hb12⟩
                      have hz12 := hb12.size
                      have HS12 := Lib.hid hs12
                      have HES12 := Lib.hid (HES11.out.below hb12)
                      have HRS12 := Lib.hid (HRS11.out.below hb12)
                      have HBR12 := Lib.hid ((hb12.block _ (by omega)).trans HBR11.out)
                      have HBS12 := Lib.hid ((hb12.block _ (by omega)).trans HBS11.out)
                      have HK12 := Lib.hid (show w12.cell? ⟨w4.heap.size, 1, none⟩ = some (.slice (some ⟨bs, os, none⟩) m3 c3) by simp [World.cell?, HBR12.out])
                      clear hs12 hb12
                      refine hK.out _ _ HK12.out (fun _ => trivial) ?_
                      clear hK K
                      refine wpAnyL_pure (i := 11) rfl (by kernel_rfl) (fun _ _ _ h => h) (Or.inl ⟨by rfl, (fun u hu => by go_simp; try rfl)⟩) HK12.out (fun _ => trivial) ?_
                      simp only [Act.put, List.setIfInBounds_toArray, List.set_cons_zero, List.set_cons_succ, List.getElem_toArray, List.getElem_cons_zero, List.getElem_cons_succ]
                      refine wpAnyL_done (by kernel_rfl) ?_ _
                      obtain ⟨T2, hT2⟩ : ∃ T2 : Nat → Nat → Bool, T2 = fun b j => if b = a ∧ j = x then true else T' b j := ⟨_, rfl⟩
                      rw [← hT2] at HES12
                      have HTS2 := Lib.hid (show TSnd R N T2 from fun b j hb hj h => by
                        rw [hT2] at h
                        dsimp only at h
                        split at h
                        · rename_i e
                          obtain ⟨rfl, rfl⟩ := e
                          exact edgN_iff.2 ⟨r, List.mem_of_getElem? HR.out, HA.out, List.mem_of_getElem? HS.out⟩
                        · exact HTS'.out b j hb hj h)
                      have HM2 := Lib.hid (show ∀ b j, T' b j = true → T2 b j = true from fun b j h => by
                        rw [hT2]
                        dsimp only
                        split
                        · rfl
                        · exact h)
                      have HX2 := Lib.hid (show T2 r.1.toNat x = true by rw [hT2, HA.out]; simp)
                      clear hT2 hcutL hcutR1
                      have he := entersEnd
                      --@8
                      go_wp2_with fail
                      refine (containsFnS w12 _ _ _ _ A12 (m3 - 1) c12 _ _ entersEnd (tellsEnd w12 B (w.heap.size + 1) N G HES12.out.mark) HS12.out (fun s hs => fun y hy hf => HOK.out y (by obtain rfl := List.mem_singleton.1 hy; exact List.mem_of_mem_eraseIdx hs) hf) (by omega)).mono ?_
                      clear he
                      rintro e w13 ⟨rfl, hb13⟩
                      have hz13 := hb13.size
                      have HES13 := Lib.hid (HES12.out.below hb13)
                      have HRS13 := Lib.hid (HRS12.out.below hb13)
                      have HBR13 := Lib.hid ((hb13.block _ (by omega)).trans HBR12.out)
                      have HBS13 := Lib.hid ((hb13.block _ (by omega)).trans HBS12.out)
                      obtain ⟨qv, hqv⟩ : ∃ qv, (r.2.eraseIdx q).any (growS G) = qv := ⟨_, rfl⟩
                      rw [hqv]
                      have HQ := Lib.hid hqv
                      clear hqv hb13
                      cases qv with
                      | false =>
                        --@10
                        go_wp2_with fail
                        go_roundg (m3 - (q + 1))
                        case measure => rw [HGL.out]; omega
                        case rel =>
                          refine ⟨q + 1, n', T2, M', by omega, rfl, by go_num, HES13.out, by omega, HTS2.out, HMS'.out, fun b j h => HM2.out b j (HMT.out b j h), HMM.out, fun p b hp hb => ?_, HBR13.out, HRS13.out⟩
                          rcases Nat.lt_succ_iff_lt_or_eq.1 hp with h1 | rfl
                          · obtain ⟨k1, k2⟩ := HFI.out p b h1 hb
                            exact ⟨HM2.out _ _ k1, k2⟩
                          · rw [HS.out] at hb
                            injection hb with hb
                            injection hb with _ hb
                            obtain rfl : x = b := by omega
                            exact ⟨HX2.out, fun h => by rw [HQ.out] at h; cases h⟩
                      | true =>
                        obtain ⟨D, hown, hd1, hd2⟩ := HES13.out.map
                        obtain ⟨kl, hkl⟩ := edgeKey (a : Int) (x : Int) (by omega) (by omega)
                        have HOWN := Lib.hid hown
                        have HD1 := Lib.hid hd1
                        have HD2 := Lib.hid hd2
                        have HKL := Lib.hid hkl
                        have j0 : w13.cell? ⟨w4.heap.size, 0, none⟩ = some (.int .i64 (a : Int)) := by simp [World.cell?, HBR13.out]
                        have j1 : w13.cell? ⟨w6.heap.size, 1, none⟩ = some (.int .i64 (x : Int)) := by simp [World.cell?, HBS13.out]
                        clear hown hd1 hd2 hkl
                        --@11
                        go_wp2_with (at_mapUpdate; refine wpList_mapUpdate_own _ rfl _ _ _ 116 rfl 119 4 edgeKeys Try.underlying116 _ (H0 + 1 + N) n' _ rfl HOWN.out (by unfold maxLen; omega) _ _ _ rfl rfl HKL.out _ [] (plainElem_bool Try.underlying4 true) ?_; intro w14 hown14 hg14)
                        have HEM := Lib.hid (EMap.put HOWN.out HD1.out HD2.out HKL.out _ hown14)
                        have HES14 := Lib.hid (HES13.out.put HEM.out hg14)
                        have HBR14 := Lib.hid ((hg14.block w4.heap.size (by omega) (fun e => by injection e; omega)).trans HBR13.out)
                        have HRS14 := Lib.hid (HRS13.out.keep (Kept.grown hg14 fun b hb e => by injection e; omega))
                        clear hown14 hg14
                        --@12
                        go_roundg (m3 - (q + 1))
                        case measure => rw [HGL.out]; omega
                        case rel =>
                          refine ⟨q + 1, n' + 1, T2, _, by omega, rfl, by go_num, HES14.out, by omega, HTS2.out, fun b j h => ?_, fun b j h => HM2.out b j (HMT.out b j h), fun b j h => .inl (HMM.out b j h), fun p b hp hb => ?_, HBR14.out, HRS14.out⟩
                          · rcases h with h | ⟨rfl, rfl⟩
                            · exact HMS'.out b j h
                            · exact ⟨r, List.mem_of_getElem? HR.out, HA.out, q, HS.out, HQ.out⟩
                          · rcases Nat.lt_succ_iff_lt_or_eq.1 hp with h1 | rfl
                            · obtain ⟨k1, k2⟩ := HFI.out p b h1 hb
                              exact ⟨HM2.out _ _ k1, fun h => .inl (k2 h)⟩
                            · rw [HS.out] at hb
                              injection hb with hb
                              injection hb with _ hb
                              obtain rfl : x = b := by omega
                              exact ⟨HX2.out, fun _ => .inr ⟨by rw [HA.out, Int.toNat_natCast], rfl⟩⟩
                    exact AllL.nil
                  exact AllL.nil
                exact AllL.nil
            · obtain rfl : m3 = q := by omega
              --@9
              go_wp2_with fail
              go_roundg (nR - (i + 1))
              case measure => rw [HGK.out]; omega
              case rel =>
                refine ⟨i + 1, n', T', M', by omega, rfl, by go_num, HES'.out, by omega, HTS'.out, HMS'.out, fun j r' hj hr' p b hp hb => ?_⟩
                rcases Nat.lt_succ_iff_lt_or_eq.1 hj with h1 | rfl
                · obtain ⟨k1, k2⟩ := HFU.out j r' h1 hr' p b hp hb
                  exact ⟨HMT.out _ _ k1, fun h => HMM.out _ _ (k2 h)⟩
                · rw [HR.out] at hr'
                  injection hr' with hr'
                  subst hr'
                  exact HFI.out p b (by rw [HLN.out]; exact hp) hb
        · obtain rfl : nR = i := by omega
          obtain ⟨e, he⟩ : ∃ e, e = edgN R := ⟨_, rfl⟩
          have HED := Lib.hid he
          have hM : ∀ x y, M x y ↔ More R G x y := fun x y => ⟨HMS.out x y, fun ⟨r, hr, hx, p, hp1, hp2⟩ => by
            obtain ⟨j, hj⟩ := List.getElem?_of_mem hr
            have hjl : j < nR := by have h1 := (List.getElem?_eq_some_iff.1 hj).1; have := HRL.out; omega
            obtain ⟨_, k2⟩ := HFU.out j r hjl hj p y (List.getElem?_eq_some_iff.1 hp1).1 hp1
            have := k2 hp2
            rwa [hx, Int.toNat_natCast] at this⟩
          have HMO := Lib.hid hM
          have HW0 := Lib.hid (HES.out.congr (T' := war e 0) fun x y hx hy => by
            rw [he]
            show T x y = edgN R x y
            rw [Bool.eq_iff_iff]
            refine ⟨HTS.out x y hx hy, fun h => ?_⟩
            obtain ⟨r, hr, hrx, hm⟩ := edgN_iff.1 h
            obtain ⟨j, hj⟩ := List.getElem?_of_mem hr
            obtain ⟨p, hp⟩ := List.getElem?_of_mem hm
            have hjl : j < nR := by have h1 := (List.getElem?_eq_some_iff.1 hj).1; have := HRL.out; omega
            obtain ⟨k1, _⟩ := HFU.out j r hjl hj p y (List.getElem?_eq_some_iff.1 hp).1 hp
            rwa [hrx, Int.toNat_natCast] at k1)
          clear he hM
          --@20
          go_wp2_with fail
          go_loopg [82] N (fun gk v wr => ∃ k : Nat, k ≤ N ∧ gk = N - k ∧ v = .int .i64 k ∧ EndSt w B H0 N n gc G (war e k) M wr)
          case atStart => exact ⟨0, Nat.zero_le _, rfl, rfl, HW0.out⟩
          case round =>
            obtain ⟨k, hk, hgk2, rfl, hes⟩ := hrel
            have HGK2 := Lib.hid hgk2
            have HE2 := Lib.hid hes
            obtain ⟨w5, rfl⟩ : ∃ w5 : World, w5 = wr := ⟨_, rfl⟩
            clear hgk2 hes
            by_cases hkN : k < N
            · have hkI : (k : Int) < (N : Int) := by omega
              have hk0 : (0 : Int) ≤ (k : Int) := by omega
              --@21
              go_wp2_with fail
              go_loopg [86] N (fun gi v wr => ∃ i : Nat, i ≤ N ∧ gi = N - i ∧ v = .int .i64 i ∧ EndSt w B H0 N n gc G (warT e k i 0) M wr)
              case atStart => exact ⟨0, Nat.zero_le _, rfl, rfl, HE2.out.congr fun x y _ _ => by unfold warT; rw [if_neg (by omega)]⟩
              case round =>
                obtain ⟨i, hi2, hgi, rfl, hes⟩ := hrel
                have HGI := Lib.hid hgi
                have HE3 := Lib.hid hes
                obtain ⟨w6, rfl⟩ : ∃ w6 : World, w6 = wr := ⟨_, rfl⟩
                clear hgi hes
                by_cases hiN : i < N
                · have hiI : (i : Int) < (N : Int) := by omega
                  have hi0 : (0 : Int) ≤ (i : Int) := by omega
                  --@22
                  go_wp2_with fail
                  go_loopg [90] N (fun gj v wr => ∃ j : Nat, j ≤ N ∧ gj = N - j ∧ v = .int .i64 j ∧ EndSt w B H0 N n gc G (warT e k i j) M wr)
                  case atStart => exact ⟨0, Nat.zero_le _, rfl, rfl, HE3.out⟩
                  case round =>
                    obtain ⟨j, hj2, hgj, rfl, hes⟩ := hrel
                    have HGJ := Lib.hid hgj
                    have HE4 := Lib.hid hes
                    obtain ⟨w7, rfl⟩ : ∃ w7 : World, w7 = wr := ⟨_, rfl⟩
                    clear hgj hes
                    by_cases hjN : j < N
                    · have hjI : (j : Int) < (N : Int) := by omega
                      have hj0 : (0 : Int) ≤ (j : Int) := by omega
                      have HE5 := Lib.hid (HE4.out.below (Below.refl _ _).drew)
                      --@23
                      go_wp2_with fail
                      obtain ⟨vij, hvij⟩ : ∃ v, v = war e k i j := ⟨_, rfl⟩
                      obtain ⟨vik, hvik⟩ : ∃ v, v = war e k i k := ⟨_, rfl⟩
                      obtain ⟨vkj, hvkj⟩ : ∃ v, v = war e k k j := ⟨_, rfl⟩
                      have HVV := Lib.hid (show (vij || (vik && vkj)) = war e (k + 1) i j by rw [hvij, hvik, hvkj]; rfl)
                      obtain ⟨w8, hw8⟩ : ∃ w8 : World, w8 = w7.drew := ⟨_, rfl⟩
                      rw [← hw8] at HE5
                      have HS0 := Lib.hid (show (w8.cell? ⟨H0, i, none⟩ = some (.slice (some ⟨H0 + 1 + i, 0, none⟩) N N) ∧ w8.cell? ⟨H0, k, none⟩ = some (.slice (some ⟨H0 + 1 + k, 0, none⟩) N N)) ∧ w8.cell? ⟨H0 + 1 + i, j, none⟩ = some (.bool vij) ∧ w8.cell? ⟨H0 + 1 + i, k, none⟩ = some (.bool vik) ∧ w8.cell? ⟨H0 + 1 + k, j, none⟩ = some (.bool vkj) from
                        ⟨⟨HE5.out.grd.hdr i hiN, HE5.out.grd.hdr k hkN⟩, by rw [HE5.out.grd.cell hiN hjN, warT_ij, hvij], by rw [HE5.out.grd.cell hiN hkN, warT_ik, hvik], by rw [HE5.out.grd.cell hkN hjN, warT_kj, hvkj]⟩)
                      have HFR := Lib.hid (HE5.out.grd.fr hiN j)
                      clear hvij hvik hvkj
                      refine wp_region_late (late := [31]) (S1 := fun u => u.cell? ⟨H0, i, none⟩ = some (.slice (some ⟨H0 + 1 + i, 0, none⟩) N N) ∧ u.cell? ⟨H0, k, none⟩ = some (.slice (some ⟨H0 + 1 + k, 0, none⟩) N N)) (S := fun u => u.cell? ⟨H0 + 1 + i, j, none⟩ = some (.bool vij) ∧ u.cell? ⟨H0 + 1 + i, k, none⟩ = some (.bool vik) ∧ u.cell? ⟨H0 + 1 + k, j, none⟩ = some (.bool vkj)) (by kernel_rfl) ?_
                      rw [← hw8]
                      clear hw8
                      cases vij with
                      | true =>
                        refine wpAnyL_pure (i := 0) rfl (by kernel_rfl) (fun _ _ _ h => h) (Or.inl ⟨by rfl, (fun u hu => by obtain ⟨k0, k1⟩ := hu; go_simp; try rfl)⟩) HS0.out.1 (fun _ => HS0.out.2) ?_
                        simp only [Act.put, List.setIfInBounds_toArray, List.set_cons_zero, List.set_cons_succ, List.getElem_toArray, List.getElem_cons_zero, List.getElem_cons_succ]
                        refine wpAnyL_pure (i := 1) rfl (by kernel_rfl) (fun _ _ _ h => h) (Or.inl ⟨by rfl, (fun u hu => by obtain ⟨k0, k1⟩ := hu; go_simp; try rfl)⟩) HS0.out.1 (fun _ => HS0.out.2) ?_
                        simp only [Act.put, List.setIfInBounds_toArray, List.set_cons_zero, List.set_cons_succ, List.getElem_toArray, List.getElem_cons_zero, List.getElem_cons_succ]
                        refine wpAnyL_pure (i := 2) rfl (by kernel_rfl) (fun _ _ _ h => h) (Or.inl ⟨by rfl, (fun u hu => by obtain ⟨k0, k1⟩ := hu; go_simp; try rfl)⟩) HS0.out.1 (fun _ => HS0.out.2) ?_
                        simp only [Act.put, List.setIfInBounds_toArray, List.set_cons_zero, List.set_cons_succ, List.getElem_toArray, List.getElem_cons_zero, List.getElem_cons_succ]
                        refine wpAnyL_pure (i := 3) rfl (by kernel_rfl) (fun _ _ _ h => h) (Or.inl ⟨by rfl, (fun u hu => by obtain ⟨k0, k1⟩ := hu; go_simp; try rfl)⟩) HS0.out.1 (fun _ => HS0.out.2) ?_
                        simp only [Act.put, List.setIfInBounds_toArray, List.set_cons_zero, List.set_cons_succ, List.getElem_toArray, List.getElem_cons_zero, List.getElem_cons_succ]
                        refine wpAnyL_pure (i := 4) rfl (by kernel_rfl) (fun _ _ _ h => h) (Or.inl ⟨by rfl, (fun u hu => by obtain ⟨k0, k1⟩ := hu; go_simp; try rfl)⟩) HS0.out.1 (fun _ => HS0.out.2) ?_
                        simp only [Act.put, List.setIfInBounds_toArray, List.set_cons_zero, List.set_cons_succ, List.getElem_toArray, List.getElem_cons_zero, List.getElem_cons_succ]
                        refine wpAnyL_pure (i := 5) rfl (by kernel_rfl) (fun _ _ _ h => h) (Or.inl ⟨by rfl, (fun u hu => by obtain ⟨k0, k1⟩ := hu; go_simp; try rfl)⟩) HS0.out.1 (fun _ => HS0.out.2) ?_
                        simp only [Act.put, List.setIfInBounds_toArray, List.set_cons_zero, List.set_cons_succ, List.getElem_toArray, List.getElem_cons_zero, List.getElem_cons_succ]
                        refine wpAnyL_pure (i := 6) rfl (by kernel_rfl) (fun _ _ _ h => h) (Or.inl ⟨by rfl, (fun u hu => by obtain ⟨k0, k1⟩ := hu; go_simp; try rfl)⟩) HS0.out.1 (fun _ => HS0.out.2) ?_
                        simp only [Act.put, List.setIfInBounds_toArray, List.set_cons_zero, List.set_cons_succ, List.getElem_toArray, List.getElem_cons_zero, List.getElem_cons_succ]
                        refine wpAnyL_pure (i := 7) rfl (by kernel_rfl) (fun _ _ _ h => h) (Or.inl ⟨by rfl, (fun u hu => by obtain ⟨k0, k1⟩ := hu; go_simp; try rfl)⟩) HS0.out.1 (fun _ => HS0.out.2) ?_
                        simp only [Act.put, List.setIfInBounds_toArray, List.set_cons_zero, List.set_cons_succ, List.getElem_toArray, List.getElem_cons_zero, List.getElem_cons_succ]
                        refine wpAnyL_pure (i := 8) rfl (by kernel_rfl) (fun _ _ _ h => h) (Or.inl ⟨by rfl, (fun u hu => by obtain ⟨k0, k1⟩ := hu; go_simp; try rfl)⟩) HS0.out.1 (fun _ => HS0.out.2) ?_
                        simp only [Act.put, List.setIfInBounds_toArray, List.set_cons_zero, List.set_cons_succ, List.getElem_toArray, List.getElem_cons_zero, List.getElem_cons_succ]
                        refine wpAnyL_pure (i := 9) rfl (by kernel_rfl) (fun _ _ _ h => h) (Or.inl ⟨by rfl, (fun u hu => by obtain ⟨k0, k1⟩ := hu; go_simp; try rfl)⟩) HS0.out.1 (fun _ => HS0.out.2) ?_
                        simp only [Act.put, List.setIfInBounds_toArray, List.set_cons_zero, List.set_cons_succ, List.getElem_toArray, List.getElem_cons_zero, List.getElem_cons_succ]
                        refine wpAnyL_pure (i := 10) rfl (by kernel_rfl) (fun _ _ _ h => h) (Or.inl ⟨by rfl, (fun u hu => by obtain ⟨k0, k1⟩ := hu; go_simp; try rfl)⟩) HS0.out.1 (fun _ => HS0.out.2) ?_
                        simp only [Act.put, List.setIfInBounds_toArray, List.set_cons_zero, List.set_cons_succ, List.getElem_toArray, List.getElem_cons_zero, List.getElem_cons_succ]
                        refine wpAnyL_take (i := 11) rfl (by kernel_rfl) (fun _ _ _ h => h) (Or.inl ⟨by rfl, (fun u hu => by obtain ⟨⟨k0, k1⟩, k2, k3, k4⟩ := hu; go_simp; try rfl)⟩) HS0.out.1 (fun _ => HS0.out.2) ?_
                        simp only [Act.put, List.setIfInBounds_toArray, List.set_cons_zero, List.set_cons_succ, List.getElem_toArray, List.getElem_cons_zero, List.getElem_cons_succ]
                        refine wpAnyL_pure (i := 12) rfl (by kernel_rfl) (fun _ _ _ h => h) (Or.inl ⟨by rfl, (fun u hu => by obtain ⟨k0, k1⟩ := hu; go_simp; try rfl)⟩) HS0.out.1 (fun _ => HS0.out.2) ?_
                        simp only [Act.put, List.setIfInBounds_toArray, List.set_cons_zero, List.set_cons_succ, List.getElem_toArray, List.getElem_cons_zero, List.getElem_cons_succ]
                        refine wpAnyL_pure (i := 13) (v := undef) rfl (by kernel_rfl) (fun _ _ _ h => h) (Or.inr ⟨by rfl, rfl⟩) HS0.out.1 (fun _ => HS0.out.2) ?_
                        simp only [Act.put, List.setIfInBounds_toArray, List.set_cons_zero, List.set_cons_succ, List.getElem_toArray, List.getElem_cons_zero, List.getElem_cons_succ]
                        refine wpAnyL_pure (i := 14) (v := undef) rfl (by kernel_rfl) (fun _ _ _ h => h) (Or.inr ⟨by rfl, rfl⟩) HS0.out.1 (fun _ => HS0.out.2) ?_
                        simp only [Act.put, List.setIfInBounds_toArray, List.set_cons_zero, List.set_cons_succ, List.getElem_toArray, List.getElem_cons_zero, List.getElem_cons_succ]
                        refine wpAnyL_pure (i := 15) (v := undef) rfl (by kernel_rfl) (fun _ _ _ h => h) (Or.inr ⟨by rfl, rfl⟩) HS0.out.1 (fun _ => HS0.out.2) ?_
                        simp only [Act.put, List.setIfInBounds_toArray, List.set_cons_zero, List.set_cons_succ, List.getElem_toArray, List.getElem_cons_zero, List.getElem_cons_succ]
                        refine wpAnyL_pure (i := 16) (v := undef) rfl (by kernel_rfl) (fun _ _ _ h => h) (Or.inr ⟨by rfl, rfl⟩) HS0.out.1 (fun _ => HS0.out.2) ?_
                        simp only [Act.put, List.setIfInBounds_toArray, List.set_cons_zero, List.set_cons_succ, List.getElem_toArray, List.getElem_cons_zero, List.getElem_cons_succ]
                        refine wpAnyL_pure (i := 17) (v := undef) rfl (by kernel_rfl) (fun _ _ _ h => h) (Or.inr ⟨by rfl, rfl⟩) HS0.out.1 (fun _ => HS0.out.2) ?_
                        simp only [Act.put, List.setIfInBounds_toArray, List.set_cons_zero, List.set_cons_succ, List.getElem_toArray, List.getElem_cons_zero, List.getElem_cons_succ]
                        refine wpAnyL_pure (i := 18) (v := undef) rfl (by kernel_rfl) (fun _ _ _ h => h) (Or.inr ⟨by rfl, rfl⟩) HS0.out.1 (fun _ => HS0.out.2) ?_
                        simp only [Act.put, List.setIfInBounds_toArray, List.set_cons_zero, List.set_cons_succ, List.getElem_toArray, List.getElem_cons_zero, List.getElem_cons_succ]
                        refine wpAnyL_pure (i := 19) (v := undef) rfl (by kernel_rfl) (fun _ _ _ h => h) (Or.inr ⟨by rfl, rfl⟩) HS0.out.1 (fun _ => HS0.out.2) ?_
                        simp only [Act.put, List.setIfInBounds_toArray, List.set_cons_zero, List.set_cons_succ, List.getElem_toArray, List.getElem_cons_zero, List.getElem_cons_succ]
                        refine wpAnyL_pure (i := 20) (v := undef) rfl (by kernel_rfl) (fun _ _ _ h => h) (Or.inr ⟨by rfl, rfl⟩) HS0.out.1 (fun _ => HS0.out.2) ?_
                        simp only [Act.put, List.setIfInBounds_toArray, List.set_cons_zero, List.set_cons_succ, List.getElem_toArray, List.getElem_cons_zero, List.getElem_cons_succ]
                        refine wpAnyL_pure (i := 21) (v := undef) rfl (by kernel_rfl) (fun _ _ _ h => h) (Or.inr ⟨by rfl, rfl⟩) HS0.out.1 (fun _ => HS0.out.2) ?_
                        simp only [Act.put, List.setIfInBounds_toArray, List.set_cons_zero, List.set_cons_succ, List.getElem_toArray, List.getElem_cons_zero, List.getElem_cons_succ]
                        refine wpAnyL_pure (i := 22) (v := undef) rfl (by kernel_rfl) (fun _ _ _ h => h) (Or.inr ⟨by rfl, rfl⟩) HS0.out.1 (fun _ => HS0.out.2) ?_
                        simp only [Act.put, List.setIfInBounds_toArray, List.set_cons_zero, List.set_cons_succ, List.getElem_toArray, List.getElem_cons_zero, List.getElem_cons_succ]
                        refine wpAnyL_pure (i := 23) (v := undef) rfl (by kernel_rfl) (fun _ _ _ h => h) (Or.inr ⟨by rfl, rfl⟩) HS0.out.1 (fun _ => HS0.out.2) ?_
                        simp only [Act.put, List.setIfInBounds_toArray, List.set_cons_zero, List.set_cons_succ, List.getElem_toArray, List.getElem_cons_zero, List.getElem_cons_succ]
                        refine wpAnyL_pure (i := 24) (v := undef) rfl (by kernel_rfl) (fun _ _ _ h => h) (Or.inr ⟨by rfl, rfl⟩) HS0.out.1 (fun _ => HS0.out.2) ?_
                        simp only [Act.put, List.setIfInBounds_toArray, List.set_cons_zero, List.set_cons_succ, List.getElem_toArray, List.getElem_cons_zero, List.getElem_cons_succ]
                        refine wpAnyL_pure (i := 25) (v := undef) rfl (by kernel_rfl) (fun _ _ _ h => h) (Or.inr ⟨by rfl, rfl⟩) HS0.out.1 (fun _ => HS0.out.2) ?_
                        simp only [Act.put, List.setIfInBounds_toArray, List.set_cons_zero, List.set_cons_succ, List.getElem_toArray, List.getElem_cons_zero, List.getElem_cons_succ]
                        refine wpAnyL_pure (i := 26) (v := undef) rfl (by kernel_rfl) (fun _ _ _ h => h) (Or.inr ⟨by rfl, rfl⟩) HS0.out.1 (fun _ => HS0.out.2) ?_
                        simp only [Act.put, List.setIfInBounds_toArray, List.set_cons_zero, List.set_cons_succ, List.getElem_toArray, List.getElem_cons_zero, List.getElem_cons_succ]
                        refine wpAnyL_pure (i := 27) (v := undef) rfl (by kernel_rfl) (fun _ _ _ h => h) (Or.inr ⟨by rfl, rfl⟩) HS0.out.1 (fun _ => HS0.out.2) ?_
                        simp only [Act.put, List.setIfInBounds_toArray, List.set_cons_zero, List.set_cons_succ, List.getElem_toArray, List.getElem_cons_zero, List.getElem_cons_succ]
                        refine wpAnyL_pure (i := 28) (v := undef) rfl (by kernel_rfl) (fun _ _ _ h => h) (Or.inr ⟨by rfl, rfl⟩) HS0.out.1 (fun _ => HS0.out.2) ?_
                        simp only [Act.put, List.setIfInBounds_toArray, List.set_cons_zero, List.set_cons_succ, List.getElem_toArray, List.getElem_cons_zero, List.getElem_cons_succ]
                        refine wpAnyL_pure (i := 29) rfl (by kernel_rfl) (fun _ _ _ h => h) (Or.inl ⟨by rfl, (fun u hu => by obtain ⟨k0, k1⟩ := hu; go_simp; try rfl)⟩) HS0.out.1 (fun _ => HS0.out.2) ?_
                        simp only [Act.put, List.setIfInBounds_toArray, List.set_cons_zero, List.set_cons_succ, List.getElem_toArray, List.getElem_cons_zero, List.getElem_cons_succ]
                        refine wpAnyL_pure (i := 30) rfl (by kernel_rfl) (fun _ _ _ h => h) (Or.inl ⟨by rfl, (fun u hu => by obtain ⟨k0, k1⟩ := hu; go_simp; try rfl)⟩) HS0.out.1 (fun _ => HS0.out.2) ?_
                        simp only [Act.put, List.setIfInBounds_toArray, List.set_cons_zero, List.set_cons_succ, List.getElem_toArray, List.getElem_cons_zero, List.getElem_cons_succ]
                        refine wpAnyL_ready (rs := [31]) (by kernel_rfl) (by simp) ?_
                        refine AllL.cons rfl (fun K hK => ?_) ?_
                        · have hc := HS0.out.2.1
                          have hf := HFR.out
                          go_simp
                          clear hc hf
                          have HE9 := Lib.hid ((HE5.out.set j hiN true).congr (T' := warT e k i (j + 1)) fun x y _ _ => warT_set (by simpa using HVV.out) x y)
                          have HS9 := Lib.hid (show (w8.setCell ⟨H0 + 1 + i, j, none⟩ (.bool true)).cell? ⟨H0, i, none⟩ = some (.slice (some ⟨H0 + 1 + i, 0, none⟩) N N) ∧ (w8.setCell ⟨H0 + 1 + i, j, none⟩ (.bool true)).cell? ⟨H0, k, none⟩ = some (.slice (some ⟨H0 + 1 + k, 0, none⟩) N N) from ⟨setOther _ HS0.out.1.1 (by show H0 ≠ H0 + 1 + i; omega), setOther _ HS0.out.1.2 (by show H0 ≠ H0 + 1 + i; omega)⟩)
                          refine hK.out _ _ HS9.out (fun h => absurd (h 31 (by simp)) (by decide)) ?_
                          clear hK K
                          refine wpAnyL_done (by kernel_rfl) ?_ _
                          go_wp2_with fail
                          go_roundg (N - (j + 1))
                          case measure => rw [HGJ.out]; omega
                          case rel => exact ⟨j + 1, by omega, rfl, by go_num, HE9.out⟩
                        exact AllL.nil
                      | false =>
                        cases vik with
                        | false =>
                          refine wpAnyL_pure (i := 0) rfl (by kernel_rfl) (fun _ _ _ h => h) (Or.inl ⟨by rfl, (fun u hu => by obtain ⟨k0, k1⟩ := hu; go_simp; try rfl)⟩) HS0.out.1 (fun _ => HS0.out.2) ?_
                          simp only [Act.put, List.setIfInBounds_toArray, List.set_cons_zero, List.set_cons_succ, List.getElem_toArray, List.getElem_cons_zero, List.getElem_cons_succ]
                          refine wpAnyL_pure (i := 1) rfl (by kernel_rfl) (fun _ _ _ h => h) (Or.inl ⟨by rfl, (fun u hu => by obtain ⟨k0, k1⟩ := hu; go_simp; try rfl)⟩) HS0.out.1 (fun _ => HS0.out.2) ?_
                          simp only [Act.put, List.setIfInBounds_toArray, List.set_cons_zero, List.set_cons_succ, List.getElem_toArray, List.getElem_cons_zero, List.getElem_cons_succ]
                          refine wpAnyL_pure (i := 2) rfl (by kernel_rfl) (fun _ _ _ h => h) (Or.inl ⟨by rfl, (fun u hu => by obtain ⟨k0, k1⟩ := hu; go_simp; try rfl)⟩) HS0.out.1 (fun _ => HS0.out.2) ?_
                          simp only [Act.put, List.setIfInBounds_toArray, List.set_cons_zero, List.set_cons_succ, List.getElem_toArray, List.getElem_cons_zero, List.getElem_cons_succ]
                          refine wpAnyL_pure (i := 3) rfl (by kernel_rfl) (fun _ _ _ h => h) (Or.inl ⟨by rfl, (fun u hu => by obtain ⟨k0, k1⟩ := hu; go_simp; try rfl)⟩) HS0.out.1 (fun _ => HS0.out.2) ?_
                          simp only [Act.put, List.setIfInBounds_toArray, List.set_cons_zero, List.set_cons_succ, List.getElem_toArray, List.getElem_cons_zero, List.getElem_cons_succ]
                          refine wpAnyL_pure (i := 4) rfl (by kernel_rfl) (fun _ _ _ h => h) (Or.inl ⟨by rfl, (fun u hu => by obtain ⟨k0, k1⟩ := hu; go_simp; try rfl)⟩) HS0.out.1 (fun _ => HS0.out.2) ?_
                          simp only [Act.put, List.setIfInBounds_toArray, List.set_cons_zero, List.set_cons_succ, List.getElem_toArray, List.getElem_cons_zero, List.getElem_cons_succ]
                          refine wpAnyL_pure (i := 5) rfl (by kernel_rfl) (fun _ _ _ h => h) (Or.inl ⟨by rfl, (fun u hu => by obtain ⟨k0, k1⟩ := hu; go_simp; try rfl)⟩) HS0.out.1 (fun _ => HS0.out.2) ?_
                          simp only [Act.put, List.setIfInBounds_toArray, List.set_cons_zero, List.set_cons_succ, List.getElem_toArray, List.getElem_cons_zero, List.getElem_cons_succ]
                          refine wpAnyL_pure (i := 6) rfl (by kernel_rfl) (fun _ _ _ h => h) (Or.inl ⟨by rfl, (fun u hu => by obtain ⟨k0, k1⟩ := hu; go_simp; try rfl)⟩) HS0.out.1 (fun _ => HS0.out.2) ?_
                          simp only [Act.put, List.setIfInBounds_toArray, List.set_cons_zero, List.set_cons_succ, List.getElem_toArray, List.getElem_cons_zero, List.getElem_cons_succ]
                          refine wpAnyL_pure (i := 7) rfl (by kernel_rfl) (fun _ _ _ h => h) (Or.inl ⟨by rfl, (fun u hu => by obtain ⟨k0, k1⟩ := hu; go_simp; try rfl)⟩) HS0.out.1 (fun _ => HS0.out.2) ?_
                          simp only [Act.put, List.setIfInBounds_toArray, List.set_cons_zero, List.set_cons_succ, List.getElem_toArray, List.getElem_cons_zero, List.getElem_cons_succ]
                          refine wpAnyL_pure (i := 8) rfl (by kernel_rfl) (fun _ _ _ h => h) (Or.inl ⟨by rfl, (fun u hu => by obtain ⟨k0, k1⟩ := hu; go_simp; try rfl)⟩) HS0.out.1 (fun _ => HS0.out.2) ?_
                          simp only [Act.put, List.setIfInBounds_toArray, List.set_cons_zero, List.set_cons_succ, List.getElem_toArray, List.getElem_cons_zero, List.getElem_cons_succ]
                          refine wpAnyL_pure (i := 9) rfl (by kernel_rfl) (fun _ _ _ h => h) (Or.inl ⟨by rfl, (fun u hu => by obtain ⟨k0, k1⟩ := hu; go_simp; try rfl)⟩) HS0.out.1 (fun _ => HS0.out.2) ?_
                          simp only [Act.put, List.setIfInBounds_toArray, List.set_cons_zero, List.set_cons_succ, List.getElem_toArray, List.getElem_cons_zero, List.getElem_cons_succ]
                          refine wpAnyL_pure (i := 10) rfl (by kernel_rfl) (fun _ _ _ h => h) (Or.inl ⟨by rfl, (fun u hu => by obtain ⟨k0, k1⟩ := hu; go_simp; try rfl)⟩) HS0.out.1 (fun _ => HS0.out.2) ?_
                          simp only [Act.put, List.setIfInBounds_toArray, List.set_cons_zero, List.set_cons_succ, List.getElem_toArray, List.getElem_cons_zero, List.getElem_cons_succ]
                          refine wpAnyL_take (i := 11) rfl (by kernel_rfl) (fun _ _ _ h => h) (Or.inl ⟨by rfl, (fun u hu => by obtain ⟨⟨k0, k1⟩, k2, k3, k4⟩ := hu; go_simp; try rfl)⟩) HS0.out.1 (fun _ => HS0.out.2) ?_
                          simp only [Act.put, List.setIfInBounds_toArray, List.set_cons_zero, List.set_cons_succ, List.getElem_toArray, List.getElem_cons_zero, List.getElem_cons_succ]
                          refine wpAnyL_pure (i := 12) rfl (by kernel_rfl) (fun _ _ _ h => h) (Or.inl ⟨by rfl, (fun u hu => by obtain ⟨k0, k1⟩ := hu; go_simp; try rfl)⟩) HS0.out.1 (fun _ => HS0.out.2) ?_
                          simp only [Act.put, List.setIfInBounds_toArray, List.set_cons_zero, List.set_cons_succ, List.getElem_toArray, List.getElem_cons_zero, List.getElem_cons_succ]
                          refine wpAnyL_pure (i := 13) rfl (by kernel_rfl) (fun _ _ _ h => h) (Or.inl ⟨by rfl, (fun u hu => by obtain ⟨k0, k1⟩ := hu; go_simp; try rfl)⟩) HS0.out.1 (fun _ => HS0.out.2) ?_
                          simp only [Act.put, List.setIfInBounds_toArray, List.set_cons_zero, List.set_cons_succ, List.getElem_toArray, List.getElem_cons_zero, List.getElem_cons_succ]
                          refine wpAnyL_pure (i := 14) rfl (by kernel_rfl) (fun _ _ _ h => h) (Or.inl ⟨by rfl, (fun u hu => by obtain ⟨k0, k1⟩ := hu; go_simp; try rfl)⟩) HS0.out.1 (fun _ => HS0.out.2) ?_
                          simp only [Act.put, List.setIfInBounds_toArray, List.set_cons_zero, List.set_cons_succ, List.getElem_toArray, List.getElem_cons_zero, List.getElem_cons_succ]
                          refine wpAnyL_pure (i := 15) rfl (by kernel_rfl) (fun _ _ _ h => h) (Or.inl ⟨by rfl, (fun u hu => by obtain ⟨k0, k1⟩ := hu; go_simp; try rfl)⟩) HS0.out.1 (fun _ => HS0.out.2) ?_
                          simp only [Act.put, List.setIfInBounds_toArray, List.set_cons_zero, List.set_cons_succ, List.getElem_toArray, List.getElem_cons_zero, List.getElem_cons_succ]
                          refine wpAnyL_pure (i := 16) rfl (by kernel_rfl) (fun _ _ _ h => h) (Or.inl ⟨by rfl, (fun u hu => by obtain ⟨k0, k1⟩ := hu; go_simp; try rfl)⟩) HS0.out.1 (fun _ => HS0.out.2) ?_
                          simp only [Act.put, List.setIfInBounds_toArray, List.set_cons_zero, List.set_cons_succ, List.getElem_toArray, List.getElem_cons_zero, List.getElem_cons_succ]
                          refine wpAnyL_pure (i := 17) rfl (by kernel_rfl) (fun _ _ _ h => h) (Or.inl ⟨by rfl, (fun u hu => by obtain ⟨k0, k1⟩ := hu; go_simp; try rfl)⟩) HS0.out.1 (fun _ => HS0.out.2) ?_
                          simp only [Act.put, List.setIfInBounds_toArray, List.set_cons_zero, List.set_cons_succ, List.getElem_toArray, List.getElem_cons_zero, List.getElem_cons_succ]
                          refine wpAnyL_pure (i := 18) rfl (by kernel_rfl) (fun _ _ _ h => h) (Or.inl ⟨by rfl, (fun u hu => by obtain ⟨k0, k1⟩ := hu; go_simp; try rfl)⟩) HS0.out.1 (fun _ => HS0.out.2) ?_
                          simp only [Act.put, List.setIfInBounds_toArray, List.set_cons_zero, List.set_cons_succ, List.getElem_toArray, List.getElem_cons_zero, List.getElem_cons_succ]
                          refine wpAnyL_take (i := 19) rfl (by kernel_rfl) (fun _ _ _ h => h) (Or.inl ⟨by rfl, (fun u hu => by obtain ⟨⟨k0, k1⟩, k2, k3, k4⟩ := hu; go_simp; try rfl)⟩) HS0.out.1 (fun _ => HS0.out.2) ?_
                          simp only [Act.put, List.setIfInBounds_toArray, List.set_cons_zero, List.set_cons_succ, List.getElem_toArray, List.getElem_cons_zero, List.getElem_cons_succ]
                          refine wpAnyL_pure (i := 20) rfl (by kernel_rfl) (fun _ _ _ h => h) (Or.inl ⟨by rfl, (fun u hu => by obtain ⟨k0, k1⟩ := hu; go_simp; try rfl)⟩) HS0.out.1 (fun _ => HS0.out.2) ?_
                          simp only [Act.put, List.setIfInBounds_toArray, List.set_cons_zero, List.set_cons_succ, List.getElem_toArray, List.getElem_cons_zero, List.getElem_cons_succ]
                          refine wpAnyL_pure (i := 21) (v := undef) rfl (by kernel_rfl) (fun _ _ _ h => h) (Or.inr ⟨by rfl, rfl⟩) HS0.out.1 (fun _ => HS0.out.2) ?_
                          simp only [Act.put, List.setIfInBounds_toArray, List.set_cons_zero, List.set_cons_succ, List.getElem_toArray, List.getElem_cons_zero, List.getElem_cons_succ]
                          refine wpAnyL_pure (i := 22) (v := undef) rfl (by kernel_rfl) (fun _ _ _ h => h) (Or.inr ⟨by rfl, rfl⟩) HS0.out.1 (fun _ => HS0.out.2) ?_
                          simp only [Act.put, List.setIfInBounds_toArray, List.set_cons_zero, List.set_cons_succ, List.getElem_toArray, List.getElem_cons_zero, List.getElem_cons_succ]
                          refine wpAnyL_pure (i := 23) (v := undef) rfl (by kernel_rfl) (fun _ _ _ h => h) (Or.inr ⟨by rfl, rfl⟩) HS0.out.1 (fun _ => HS0.out.2) ?_
                          simp only [Act.put, List.setIfInBounds_toArray, List.set_cons_zero, List.set_cons_succ, List.getElem_toArray, List.getElem_cons_zero, List.getElem_cons_succ]
                          refine wpAnyL_pure (i := 24) (v := undef) rfl (by kernel_rfl) (fun _ _ _ h => h) (Or.inr ⟨by rfl, rfl⟩) HS0.out.1 (fun _ => HS0.out.2) ?_
                          simp only [Act.put, List.setIfInBounds_toArray, List.set_cons_zero, List.set_cons_succ, List.getElem_toArray, List.getElem_cons_zero, List.getElem_cons_succ]
                          refine wpAnyL_pure (i := 25) (v := undef) rfl (by kernel_rfl) (fun _ _ _ h => h) (Or.inr ⟨by rfl, rfl⟩) HS0.out.1 (fun _ => HS0.out.2) ?_
                          simp only [Act.put, List.setIfInBounds_toArray, List.set_cons_zero, List.set_cons_succ, List.getElem_toArray, List.getElem_cons_zero, List.getElem_cons_succ]
                          refine wpAnyL_pure (i := 26) (v := undef) rfl (by kernel_rfl) (fun _ _ _ h => h) (Or.inr ⟨by rfl, rfl⟩) HS0.out.1 (fun _ => HS0.out.2) ?_
                          simp only [Act.put, List.setIfInBounds_toArray, List.set_cons_zero, List.set_cons_succ, List.getElem_toArray, List.getElem_cons_zero, List.getElem_cons_succ]
                          refine wpAnyL_pure (i := 27) (v := undef) rfl (by kernel_rfl) (fun _ _ _ h => h) (Or.inr ⟨by rfl, rfl⟩) HS0.out.1 (fun _ => HS0.out.2) ?_
                          simp only [Act.put, List.setIfInBounds_toArray, List.set_cons_zero, List.set_cons_succ, List.getElem_toArray, List.getElem_cons_zero, List.getElem_cons_succ]
                          refine wpAnyL_pure (i := 28) rfl (by kernel_rfl) (fun _ _ _ h => h) (Or.inl ⟨by rfl, (fun u hu => by obtain ⟨k0, k1⟩ := hu; go_simp; try rfl)⟩) HS0.out.1 (fun _ => HS0.out.2) ?_
                          simp only [Act.put, List.setIfInBounds_toArray, List.set_cons_zero, List.set_cons_succ, List.getElem_toArray, List.getElem_cons_zero, List.getElem_cons_succ]
                          refine wpAnyL_pure (i := 29) rfl (by kernel_rfl) (fun _ _ _ h => h) (Or.inl ⟨by rfl, (fun u hu => by obtain ⟨k0, k1⟩ := hu; go_simp; try rfl)⟩) HS0.out.1 (fun _ => HS0.out.2) ?_
                          simp only [Act.put, List.setIfInBounds_toArray, List.set_cons_zero, List.set_cons_succ, List.getElem_toArray, List.getElem_cons_zero, List.getElem_cons_succ]
                          refine wpAnyL_pure (i := 30) rfl (by kernel_rfl) (fun _ _ _ h => h) (Or.inl ⟨by rfl, (fun u hu => by obtain ⟨k0, k1⟩ := hu; go_simp; try rfl)⟩) HS0.out.1 (fun _ => HS0.out.2) ?_
                          simp only [Act.put, List.setIfInBounds_toArray, List.set_cons_zero, List.set_cons_succ, List.getElem_toArray, List.getElem_cons_zero, List.getElem_cons_succ]
                          refine wpAnyL_ready (rs := [31]) (by kernel_rfl) (by simp) ?_
                          refine AllL.cons rfl (fun K hK => ?_) ?_
                          · have hc := HS0.out.2.1
                            have hf := HFR.out
                            go_simp
                            clear hc hf
                            have HE9 := Lib.hid ((HE5.out.set j hiN false).congr (T' := warT e k i (j + 1)) fun x y _ _ => warT_set (by simpa using HVV.out) x y)
                            have HS9 := Lib.hid (show (w8.setCell ⟨H0 + 1 + i, j, none⟩ (.bool false)).cell? ⟨H0, i, none⟩ = some (.slice (some ⟨H0 + 1 + i, 0, none⟩) N N) ∧ (w8.setCell ⟨H0 + 1 + i, j, none⟩ (.bool false)).cell? ⟨H0, k, none⟩ = some (.slice (some ⟨H0 + 1 + k, 0, none⟩) N N) from ⟨setOther _ HS0.out.1.1 (by show H0 ≠ H0 + 1 + i; omega), setOther _ HS0.out.1.2 (by show H0 ≠ H0 + 1 + i; omega)⟩)
                            refine hK.out _ _ HS9.out (fun h => absurd (h 31 (by simp)) (by decide)) ?_
                            clear hK K
                            refine wpAnyL_done (by kernel_rfl) ?_ _
                            go_wp2_with fail
                            go_roundg (N - (j + 1))
                            case measure => rw [HGJ.out]; omega
                            case rel => exact ⟨j + 1, by omega, rfl, by go_num, HE9.out⟩
                          exact AllL.nil
                        | true =>
                          refine wpAnyL_pure (i := 0) rfl (by kernel_rfl) (fun _ _ _ h => h) (Or.inl ⟨by rfl, (fun u hu => by obtain ⟨k0, k1⟩ := hu; go_simp; try rfl)⟩) HS0.out.1 (fun _ => HS0.out.2) ?_
                          simp only [Act.put, List.setIfInBounds_toArray, List.set_cons_zero, List.set_cons_succ, List.getElem_toArray, List.getElem_cons_zero, List.getElem_cons_succ]
                          refine wpAnyL_pure (i := 1) rfl (by kernel_rfl) (fun _ _ _ h => h) (Or.inl ⟨by rfl, (fun u hu => by obtain ⟨k0, k1⟩ := hu; go_simp; try rfl)⟩) HS0.out.1 (fun _ => HS0.out.2) ?_
                          simp only [Act.put, List.setIfInBounds_toArray, List.set_cons_zero, List.set_cons_succ, List.getElem_toArray, List.getElem_cons_zero, List.getElem_cons_succ]
                          refine wpAnyL_pure (i := 2) rfl (by kernel_rfl) (fun _ _ _ h => h) (Or.inl ⟨by rfl, (fun u hu => by obtain ⟨k0, k1⟩ := hu; go_simp; try rfl)⟩) HS0.out.1 (fun _ => HS0.out.2) ?_
                          simp only [Act.put, List.setIfInBounds_toArray, List.set_cons_zero, List.set_cons_succ, List.getElem_toArray, List.getElem_cons_zero, List.getElem_cons_succ]
                          refine wpAnyL_pure (i := 3) rfl (by kernel_rfl) (fun _ _ _ h => h) (Or.inl ⟨by rfl, (fun u hu => by obtain ⟨k0, k1⟩ := hu; go_simp; try rfl)⟩) HS0.out.1 (fun _ => HS0.out.2) ?_
                          simp only [Act.put, List.setIfInBounds_toArray, List.set_cons_zero, List.set_cons_succ, List.getElem_toArray, List.getElem_cons_zero, List.getElem_cons_succ]
                          refine wpAnyL_pure (i := 4) rfl (by kernel_rfl) (fun _ _ _ h => h) (Or.inl ⟨by rfl, (fun u hu => by obtain ⟨k0, k1⟩ := hu; go_simp; try rfl)⟩) HS0.out.1 (fun _ => HS0.out.2) ?_
                          simp only [Act.put, List.setIfInBounds_toArray, List.set_cons_zero, List.set_cons_succ, List.getElem_toArray, List.getElem_cons_zero, List.getElem_cons_succ]
                          refine wpAnyL_pure (i := 5) rfl (by kernel_rfl) (fun _ _ _ h => h) (Or.inl ⟨by rfl, (fun u hu => by obtain ⟨k0, k1⟩ := hu; go_simp; try rfl)⟩) HS0.out.1 (fun _ => HS0.out.2) ?_
                          simp only [Act.put, List.setIfInBounds_toArray, List.set_cons_zero, List.set_cons_succ, List.getElem_toArray, List.getElem_cons_zero, List.getElem_cons_succ]
                          refine wpAnyL_pure (i := 6) rfl (by kernel_rfl) (fun _ _ _ h => h) (Or.inl ⟨by rfl, (fun u hu => by obtain ⟨k0, k1⟩ := hu; go_simp; try rfl)⟩) HS0.out.1 (fun _ => HS0.out.2) ?_
                          simp only [Act.put, List.setIfInBounds_toArray, List.set_cons_zero, List.set_cons_succ, List.getElem_toArray, List.getElem_cons_zero, List.getElem_cons_succ]
                          refine wpAnyL_pure (i := 7) rfl (by kernel_rfl) (fun _ _ _ h => h) (Or.inl ⟨by rfl, (fun u hu => by obtain ⟨k0, k1⟩ := hu; go_simp; try rfl)⟩) HS0.out.1 (fun _ => HS0.out.2) ?_
                          simp only [Act.put, List.setIfInBounds_toArray, List.set_cons_zero, List.set_cons_succ, List.getElem_toArray, List.getElem_cons_zero, List.getElem_cons_succ]
                          refine wpAnyL_pure (i := 8) rfl (by kernel_rfl) (fun _ _ _ h => h) (Or.inl ⟨by rfl, (fun u hu => by obtain ⟨k0, k1⟩ := hu; go_simp; try rfl)⟩) HS0.out.1 (fun _ => HS0.out.2) ?_
                          simp only [Act.put, List.setIfInBounds_toArray, List.set_cons_zero, List.set_cons_succ, List.getElem_toArray, List.getElem_cons_zero, List.getElem_cons_succ]
                          refine wpAnyL_pure (i := 9) rfl (by kernel_rfl) (fun _ _ _ h => h) (Or.inl ⟨by rfl, (fun u hu => by obtain ⟨k0, k1⟩ := hu; go_simp; try rfl)⟩) HS0.out.1 (fun _ => HS0.out.2) ?_
                          simp only [Act.put, List.setIfInBounds_toArray, List.set_cons_zero, List.set_cons_succ, List.getElem_toArray, List.getElem_cons_zero, List.getElem_cons_succ]
                          refine wpAnyL_pure (i := 10) rfl (by kernel_rfl) (fun _ _ _ h => h) (Or.inl ⟨by rfl, (fun u hu => by obtain ⟨k0, k1⟩ := hu; go_simp; try rfl)⟩) HS0.out.1 (fun _ => HS0.out.2) ?_
                          simp only [Act.put, List.setIfInBounds_toArray, List.set_cons_zero, List.set_cons_succ, List.getElem_toArray, List.getElem_cons_zero, List.getElem_cons_succ]
                          refine wpAnyL_take (i := 11) rfl (by kernel_rfl) (fun _ _ _ h => h) (Or.inl ⟨by rfl, (fun u hu => by obtain ⟨⟨k0, k1⟩, k2, k3, k4⟩ := hu; go_simp; try rfl)⟩) HS0.out.1 (fun _ => HS0.out.2) ?_
                          simp only [Act.put, List.setIfInBounds_toArray, List.set_cons_zero, List.set_cons_succ, List.getElem_toArray, List.getElem_cons_zero, List.getElem_cons_succ]
                          refine wpAnyL_pure (i := 12) rfl (by kernel_rfl) (fun _ _ _ h => h) (Or.inl ⟨by rfl, (fun u hu => by obtain ⟨k0, k1⟩ := hu; go_simp; try rfl)⟩) HS0.out.1 (fun _ => HS0.out.2) ?_
                          simp only [Act.put, List.setIfInBounds_toArray, List.set_cons_zero, List.set_cons_succ, List.getElem_toArray, List.getElem_cons_zero, List.getElem_cons_succ]
                          refine wpAnyL_pure (i := 13) rfl (by kernel_rfl) (fun _ _ _ h => h) (Or.inl ⟨by rfl, (fun u hu => by obtain ⟨k0, k1⟩ := hu; go_simp; try rfl)⟩) HS0.out.1 (fun _ => HS0.out.2) ?_
                          simp only [Act.put, List.setIfInBounds_toArray, List.set_cons_zero, List.set_cons_succ, List.getElem_toArray, List.getElem_cons_zero, List.getElem_cons_succ]
                          refine wpAnyL_pure (i := 14) rfl (by kernel_rfl) (fun _ _ _ h => h) (Or.inl ⟨by rfl, (fun u hu => by obtain ⟨k0, k1⟩ := hu; go_simp; try rfl)⟩) HS0.out.1 (fun _ => HS0.out.2) ?_
                          simp only [Act.put, List.setIfInBounds_toArray, List.set_cons_zero, List.set_cons_succ, List.getElem_toArray, List.getElem_cons_zero, List.getElem_cons_succ]
                          refine wpAnyL_pure (i := 15) rfl (by kernel_rfl) (fun _ _ _ h => h) (Or.inl ⟨by rfl, (fun u hu => by obtain ⟨k0, k1⟩ := hu; go_simp; try rfl)⟩) HS0.out.1 (fun _ => HS0.out.2) ?_
                          simp only [Act.put, List.setIfInBounds_toArray, List.set_cons_zero, List.set_cons_succ, List.getElem_toArray, List.getElem_cons_zero, List.getElem_cons_succ]
                          refine wpAnyL_pure (i := 16) rfl (by kernel_rfl) (fun _ _ _ h => h) (Or.inl ⟨by rfl, (fun u hu => by obtain ⟨k0, k1⟩ := hu; go_simp; try rfl)⟩) HS0.out.1 (fun _ => HS0.out.2) ?_
                          simp only [Act.put, List.setIfInBounds_toArray, List.set_cons_zero, List.set_cons_succ, List.getElem_toArray, List.getElem_cons_zero, List.getElem_cons_succ]
                          refine wpAnyL_pure (i := 17) rfl (by kernel_rfl) (fun _ _ _ h => h) (Or.inl ⟨by rfl, (fun u hu => by obtain ⟨k0, k1⟩ := hu; go_simp; try rfl)⟩) HS0.out.1 (fun _ => HS0.out.2) ?_
                          simp only [Act.put, List.setIfInBounds_toArray, List.set_cons_zero, List.set_cons_succ, List.getElem_toArray, List.getElem_cons_zero, List.getElem_cons_succ]
                          refine wpAnyL_pure (i := 18) rfl (by kernel_rfl) (fun _ _ _ h => h) (Or.inl ⟨by rfl, (fun u hu => by obtain ⟨k0, k1⟩ := hu; go_simp; try rfl)⟩) HS0.out.1 (fun _ => HS0.out.2) ?_
                          simp only [Act.put, List.setIfInBounds_toArray, List.set_cons_zero, List.set_cons_succ, List.getElem_toArray, List.getElem_cons_zero, List.getElem_cons_succ]
                          refine wpAnyL_take (i := 19) rfl (by kernel_rfl) (fun _ _ _ h => h) (Or.inl ⟨by rfl, (fun u hu => by obtain ⟨⟨k0, k1⟩, k2, k3, k4⟩ := hu; go_simp; try rfl)⟩) HS0.out.1 (fun _ => HS0.out.2) ?_
                          simp only [Act.put, List.setIfInBounds_toArray, List.set_cons_zero, List.set_cons_succ, List.getElem_toArray, List.getElem_cons_zero, List.getElem_cons_succ]
                          refine wpAnyL_pure (i := 20) rfl (by kernel_rfl) (fun _ _ _ h => h) (Or.inl ⟨by rfl, (fun u hu => by obtain ⟨k0, k1⟩ := hu; go_simp; try rfl)⟩) HS0.out.1 (fun _ => HS0.out.2) ?_
                          simp only [Act.put, List.setIfInBounds_toArray, List.set_cons_zero, List.set_cons_succ, List.getElem_toArray, List.getElem_cons_zero, List.getElem_cons_succ]
                          refine wpAnyL_pure (i := 21) rfl (by kernel_rfl) (fun _ _ _ h => h) (Or.inl ⟨by rfl, (fun u hu => by obtain ⟨k0, k1⟩ := hu; go_simp; try rfl)⟩) HS0.out.1 (fun _ => HS0.out.2) ?_
                          simp only [Act.put, List.setIfInBounds_toArray, List.set_cons_zero, List.set_cons_succ, List.getElem_toArray, List.getElem_cons_zero, List.getElem_cons_succ]
                          refine wpAnyL_pure (i := 22) rfl (by kernel_rfl) (fun _ _ _ h => h) (Or.inl ⟨by rfl, (fun u hu => by obtain ⟨k0, k1⟩ := hu; go_simp; try rfl)⟩) HS0.out.1 (fun _ => HS0.out.2) ?_
                          simp only [Act.put, List.setIfInBounds_toArray, List.set_cons_zero, List.set_cons_succ, List.getElem_toArray, List.getElem_cons_zero, List.getElem_cons_succ]
                          refine wpAnyL_pure (i := 23) rfl (by kernel_rfl) (fun _ _ _ h => h) (Or.inl ⟨by rfl, (fun u hu => by obtain ⟨k0, k1⟩ := hu; go_simp; try rfl)⟩) HS0.out.1 (fun _ => HS0.out.2) ?_
                          simp only [Act.put, List.setIfInBounds_toArray, List.set_cons_zero, List.set_cons_succ, List.getElem_toArray, List.getElem_cons_zero, List.getElem_cons_succ]
                          refine wpAnyL_pure (i := 24) rfl (by kernel_rfl) (fun _ _ _ h => h) (Or.inl ⟨by rfl, (fun u hu => by obtain ⟨k0, k1⟩ := hu; go_simp; try rfl)⟩) HS0.out.1 (fun _ => HS0.out.2) ?_
                          simp only [Act.put, List.setIfInBounds_toArray, List.set_cons_zero, List.set_cons_succ, List.getElem_toArray, List.getElem_cons_zero, List.getElem_cons_succ]
                          refine wpAnyL_pure (i := 25) rfl (by kernel_rfl) (fun _ _ _ h => h) (Or.inl ⟨by rfl, (fun u hu => by obtain ⟨k0, k1⟩ := hu; go_simp; try rfl)⟩) HS0.out.1 (fun _ => HS0.out.2) ?_
                          simp only [Act.put, List.setIfInBounds_toArray, List.set_cons_zero, List.set_cons_succ, List.getElem_toArray, List.getElem_cons_zero, List.getElem_cons_succ]
                          refine wpAnyL_pure (i := 26) rfl (by kernel_rfl) (fun _ _ _ h => h) (Or.inl ⟨by rfl, (fun u hu => by obtain ⟨k0, k1⟩ := hu; go_simp; try rfl)⟩) HS0.out.1 (fun _ => HS0.out.2) ?_
                          simp only [Act.put, List.setIfInBounds_toArray, List.set_cons_zero, List.set_cons_succ, List.getElem_toArray, List.getElem_cons_zero, List.getElem_cons_succ]
                          refine wpAnyL_take (i := 27) rfl (by kernel_rfl) (fun _ _ _ h => h) (Or.inl ⟨by rfl, (fun u hu => by obtain ⟨⟨k0, k1⟩, k2, k3, k4⟩ := hu; go_simp; try rfl)⟩) HS0.out.1 (fun _ => HS0.out.2) ?_
                          simp only [Act.put, List.setIfInBounds_toArray, List.set_cons_zero, List.set_cons_succ, List.getElem_toArray, List.getElem_cons_zero, List.getElem_cons_succ]
                          refine wpAnyL_pure (i := 28) rfl (by kernel_rfl) (fun _ _ _ h => h) (Or.inl ⟨by rfl, (fun u hu => by obtain ⟨k0, k1⟩ := hu; go_simp; try rfl)⟩) HS0.out.1 (fun _ => HS0.out.2) ?_
                          simp only [Act.put, List.setIfInBounds_toArray, List.set_cons_zero, List.set_cons_succ, List.getElem_toArray, List.getElem_cons_zero, List.getElem_cons_succ]
                          refine wpAnyL_pure (i := 29) rfl (by kernel_rfl) (fun _ _ _ h => h) (Or.inl ⟨by rfl, (fun u hu => by obtain ⟨k0, k1⟩ := hu; go_simp; try rfl)⟩) HS0.out.1 (fun _ => HS0.out.2) ?_
                          simp only [Act.put, List.setIfInBounds_toArray, List.set_cons_zero, List.set_cons_succ, List.getElem_toArray, List.getElem_cons_zero, List.getElem_cons_succ]
                          refine wpAnyL_pure (i := 30) rfl (by kernel_rfl) (fun _ _ _ h => h) (Or.inl ⟨by rfl, (fun u hu => by obtain ⟨k0, k1⟩ := hu; go_simp; try rfl)⟩) HS0.out.1 (fun _ => HS0.out.2) ?_
                          simp only [Act.put, List.setIfInBounds_toArray, List.set_cons_zero, List.set_cons_succ, List.getElem_toArray, List.getElem_cons_zero, List.getElem_cons_succ]
                          refine wpAnyL_ready (rs := [31]) (by kernel_rfl) (by simp) ?_
                          refine AllL.cons rfl (fun K hK => ?_) ?_
                          · have hc := HS0.out.2.1
                            have hf := HFR.out
                            go_simp
                            clear hc hf
                            have HE9 := Lib.hid ((HE5.out.set j hiN vkj).congr (T' := warT e k i (j + 1)) fun x y _ _ => warT_set (by simpa using HVV.out) x y)
                            have HS9 := Lib.hid (show (w8.setCell ⟨H0 + 1 + i, j, none⟩ (.bool vkj)).cell? ⟨H0, i, none⟩ = some (.slice (some ⟨H0 + 1 + i, 0, none⟩) N N) ∧ (w8.setCell ⟨H0 + 1 + i, j, none⟩ (.bool vkj)).cell? ⟨H0, k, none⟩ = some (.slice (some ⟨H0 + 1 + k, 0, none⟩) N N) from ⟨setOther _ HS0.out.1.1 (by show H0 ≠ H0 + 1 + i; omega), setOther _ HS0.out.1.2 (by show H0 ≠ H0 + 1 + i; omega)⟩)
                            refine hK.out _ _ HS9.out (fun h => absurd (h 31 (by simp)) (by decide)) ?_
                            clear hK K
                            refine wpAnyL_done (by kernel_rfl) ?_ _
                            go_wp2_with fail
                            go_roundg (N - (j + 1))
                            case measure => rw [HGJ.out]; omega
                            case rel => exact ⟨j + 1, by omega, rfl, by go_num, HE9.out⟩
                          exact AllL.nil
                    · obtain rfl : N = j := by omega
                      --@24
                      go_wp2_with fail
                      go_roundg (N - (i + 1))
                      case measure => rw [HGI.out]; omega
                      case rel => exact ⟨i + 1, by omega, rfl, by go_num, HE4.out.congr fun x y _ hy => warT_row hy⟩
                · obtain rfl : N = i := by omega
                  --@25
                  go_wp2_with fail
                  go_roundg (N - (k + 1))
                  case measure => rw [HGK2.out]; omega
                  case rel => exact ⟨k + 1, by omega, rfl, by go_num, HE3.out.congr fun x y hx _ => by unfold warT; rw [if_pos (by omega)]⟩
            · obtain rfl : N = k := by omega
              obtain ⟨D, hown, hd1, hd2⟩ := HE2.out.map
              have HOWN := Lib.hid hown
              have HD1 := Lib.hid hd1
              have HD2 := Lib.hid hd2
              have hlm : H0 + 1 + N < w5.heap.size := HE2.out.map.lt
              clear hown hd1 hd2
              --@30
              go_wp2_with (at_range; refine wpList_range_own _ rfl _ 116 rfl 119 4 edgeKeys Try.underlying116 _ (H0 + 1 + N) _ D rfl HOWN.out ?_; intro w9 hrg9 hg9 hz9)
              go_frame
              have HE9 := Lib.hid (HE2.out.other (r := w5.heap.size) (by omega) ⟨hg9.os, hg9.tape, hg9.output, hg9.size, fun k hk _ => hg9.block k hk (by simp)⟩)
              have HRG9 := Lib.hid hrg9
              clear hrg9 hg9
              go_loopg [4] (Maps.size D) (fun gn va wr => ∃ (left : Lit → Bool), va = .bool false ∧ wr.ranges Try.prog 119 (plainElem (H := Unit) Try.prog 4) (H0 + 1 + N) w5.heap.size n D left gn ∧ EndSt w B H0 N n gc G (war e N) M wr ∧ w5.heap.size < wr.heap.size ∧
                (∀ kl, left kl = true → Maps.has D kl = true) ∧ (∀ kl, Maps.has D kl = true → left kl = false → ∀ i j : Nat, keyOf Try.prog 119 (.agg #[.int .i64 (i : Int), .int .i64 (j : Int)]) = some kl → ¬ (i = j ∨ war e N j i = true)))
              case atStart => exact ⟨_, rfl, HRG9.out, HE9.out, by omega, (fun _ h => h), fun kl h1 h2 => by rw [h1] at h2; cases h2⟩
              case round =>
                obtain ⟨left, rfl, hrg, hes, hlr, hl1, hl2⟩ := hrel
                have HRG := Lib.hid hrg
                have HEE := Lib.hid hes
                have HL1 := Lib.hid hl1
                have HL2 := Lib.hid hl2
                obtain ⟨w10, rfl⟩ : ∃ w10 : World, w10 = wr := ⟨_, rfl⟩
                clear hrg hes hl1 hl2
                --@31
                go_wp2_with (at_next; refine wpList_next_ranges _ rfl _ rfl 119 edgeKeys (plainElem Try.prog 4) (fun p : Int × Int => Value.agg #[.int .i64 p.1, .int .i64 p.2]) Value.bool (fun key kl h => edgeInv h) (fun v y h => boolElem h) (H0 + 1 + N) w5.heap.size n D left _ rfl HRG.out ?_ ?_)
                · intro _ hl0
                  have HNO := Lib.hid (show ¬ EndlessP R G N by
                    rintro ⟨i, j, hm, hij⟩
                    obtain ⟨kl, h1, h2⟩ := HD2.out i j ((HMO.out i j).2 hm)
                    refine HL2.out kl h2 (hl0 kl) i j h1 ?_
                    rwa [← HED.out] at hij)
                  clear hl0
                  --@32
                  go_wp2_with fail
                  go_ret
                  exact ⟨⟨false, rfl, ⟨(fun h => by cases h), fun h => absurd h HNO.out⟩⟩, HEE.out.bel⟩
                · intro p1 p2
                  refine ⟨?_, ?_⟩
                  all_goals
                    intro kl y ps w11 cnt1 hkey hlk hv hat hrg1 hlt1 hg11 hz11 hen
                    obtain ⟨i, j, hmij, hk2⟩ := HD1.out kl (HL1.out kl hlk)
                    have hpe := edgeKeys.inj hkey hk2
                    injection hpe with hpe
                    obtain ⟨rfl, rfl⟩ : p1 = (i : Int) ∧ p2 = (j : Int) := by simpa using hpe
                    have hmore := (HMO.out i j).1 hmij
                    obtain ⟨hiN, hjN⟩ : i < N ∧ j < N := by
                      obtain ⟨r, hr, hri, q, hq, _⟩ := hmore
                      have h1 := (HRN.out r hr).1.2
                      have h2 := ((HRN.out r hr).2 _ (List.mem_of_getElem? hq) rfl).2
                      rw [hri] at h1
                      exact ⟨by simpa using h1, by simpa using h2⟩
                    have HE11 := Lib.hid (HEE.out.other (r := w5.heap.size) (by omega) hg11)
                    have HRG1 := Lib.hid hrg1
                    have HMORE := Lib.hid hmore
                    have HLK := Lib.hid hlk
                    have HK2 := Lib.hid hk2
                    have hlt11 := hlt1
                    clear hkey hlk hv hat hrg1 hg11 hpe hmij hk2 hmore
                    --@33
                    go_wp2_with fail
                    obtain ⟨w12, hw12⟩ : ∃ w12 : World, w12 = w11.alloc (.cells #[.int .i64 (i : Int), .int .i64 (j : Int)] 119) := ⟨_, rfl⟩
                    rw [← hw12]
                    have hb12 : Below w11.heap.size w11 w12 := by rw [hw12]; exact (Below.refl _ _).alloc (Nat.le_refl _) _
                    have HBX12 := Lib.hid (show w12.heap[w11.heap.size]? = some (.cells #[.int .i64 (i : Int), .int .i64 (j : Int)] 119 (0, 0)) by rw [hw12]; exact heap_alloc_new _ _)
                    have HBXA := Lib.hid (show w12.heap[w10.heap.size]? = some (.cells #[.int .i64 (i : Int), .int .i64 (j : Int)] 119 (0, 0)) by have h := HBX12.out; rwa [hz11] at h)
                    have HRG12 := Lib.hid (show w12.ranges Try.prog 119 (plainElem (H := Unit) Try.prog 4) (H0 + 1 + N) w5.heap.size n D (fun z => left z && !z.sameKey kl) cnt1 by rw [hw12]; exact HRG1.out.alloc _)
                    have HRGD := Lib.hid (show w12.drew.ranges Try.prog 119 (plainElem (H := Unit) Try.prog 4) (H0 + 1 + N) w5.heap.size n D (fun z => left z && !z.sameKey kl) cnt1 from HRG12.out)
                    have HE12 := Lib.hid ((HE11.out.below hb12).below (Below.refl _ _).drew)
                    have hl12 : w5.heap.size < w12.drew.heap.size := by show w5.heap.size < w12.heap.size; have := hb12.size; omega
                    have HSC := Lib.hid (show w12.drew.cell? ⟨w10.heap.size, 0, none⟩ = some (.int .i64 (i : Int)) ∧ w12.drew.cell? ⟨w10.heap.size, 1, none⟩ = some (.int .i64 (j : Int)) ∧ w12.drew.cell? ⟨H0, j, none⟩ = some (.slice (some ⟨H0 + 1 + j, 0, none⟩) N N) ∧ w12.drew.cell? ⟨H0 + 1 + j, i, none⟩ = some (.bool (war e N j i)) from by
                      refine ⟨?_, ?_, HE12.out.grd.hdr j hjN, HE12.out.grd.cell hjN hiN⟩
                      · show w12.cell? _ = _
                        simp [World.cell?, HBXA.out]
                      · show w12.cell? _ = _
                        simp [World.cell?, HBXA.out])
                    clear hw12 hb12 hen
                    have hiI : (i : Int) < (N : Int) := by omega
                    have hi0 : (0 : Int) ≤ (i : Int) := by omega
                    have hjI : (j : Int) < (N : Int) := by omega
                    have hj0 : (0 : Int) ≤ (j : Int) := by omega
                    obtain ⟨vc, hvc⟩ : ∃ vc, war e N j i = vc := ⟨_, rfl⟩
                    rw [hvc] at HSC
                    have HVC := Lib.hid hvc
                    clear hvc
                    by_cases hij : i = j
                    · subst hij
                      have HFIN := Lib.hid (show EndlessP R G N from ⟨i, i, HMORE.out, .inl rfl⟩)
                      refine wp_region_late (late := []) (S1 := fun u => u.cell? ⟨w10.heap.size, 0, none⟩ = some (.int .i64 (i : Int)) ∧ u.cell? ⟨w10.heap.size, 1, none⟩ = some (.int .i64 (i : Int)) ∧ u.cell? ⟨H0, i, none⟩ = some (.slice (some ⟨H0 + 1 + i, 0, none⟩) N N) ∧ u.cell? ⟨H0 + 1 + i, i, none⟩ = some (.bool vc)) (S := fun _ => True) (by kernel_rfl) ?_
                      refine wpAnyL_pure (i := 0) rfl (by kernel_rfl) (fun _ _ _ h => h) (Or.inl ⟨by rfl, (fun u hu => by obtain ⟨k0, k1, k2, k3⟩ := hu; go_simp; try rfl)⟩) HSC.out (fun _ => trivial) ?_
                      simp only [Act.put, List.setIfInBounds_toArray, List.set_cons_zero, List.set_cons_succ, List.getElem_toArray, List.getElem_cons_zero, List.getElem_cons_succ]
                      refine wpAnyL_pure (i := 1) rfl (by kernel_rfl) (fun _ _ _ h => h) (Or.inl ⟨by rfl, (fun u hu => by obtain ⟨k0, k1, k2, k3⟩ := hu; go_simp; try rfl)⟩) HSC.out (fun _ => trivial) ?_
                      simp only [Act.put, List.setIfInBounds_toArray, List.set_cons_zero, List.set_cons_succ, List.getElem_toArray, List.getElem_cons_zero, List.getElem_cons_succ]
                      refine wpAnyL_pure (i := 2) rfl (by kernel_rfl) (fun _ _ _ h => h) (Or.inl ⟨by rfl, (fun u hu => by obtain ⟨k0, k1, k2, k3⟩ := hu; go_simp; try rfl)⟩) HSC.out (fun _ => trivial) ?_
                      simp only [Act.put, List.setIfInBounds_toArray, List.set_cons_zero, List.set_cons_succ, List.getElem_toArray, List.getElem_cons_zero, List.getElem_cons_succ]
                      refine wpAnyL_pure (i := 3) rfl (by kernel_rfl) (fun _ _ _ h => h) (Or.inl ⟨by rfl, (fun u hu => by obtain ⟨k0, k1, k2, k3⟩ := hu; go_simp; try rfl)⟩) HSC.out (fun _ => trivial) ?_
                      simp only [Act.put, List.setIfInBounds_toArray, List.set_cons_zero, List.set_cons_succ, List.getElem_toArray, List.getElem_cons_zero, List.getElem_cons_succ]
                      refine wpAnyL_pure (i := 4) rfl (by kernel_rfl) (fun _ _ _ h => h) (Or.inl ⟨by rfl, (fun u hu => by obtain ⟨k0, k1, k2, k3⟩ := hu; go_simp; try rfl)⟩) HSC.out (fun _ => trivial) ?_
                      simp only [Act.put, List.setIfInBounds_toArray, List.set_cons_zero, List.set_cons_succ, List.getElem_toArray, List.getElem_cons_zero, List.getElem_cons_succ]
                      refine wpAnyL_pure (i := 5) rfl (by kernel_rfl) (fun _ _ _ h => h) (Or.inl ⟨by rfl, (fun u hu => by obtain ⟨k0, k1, k2, k3⟩ := hu; go_simp; try rfl)⟩) HSC.out (fun _ => trivial) ?_
                      simp only [Act.put, List.setIfInBounds_toArray, List.set_cons_zero, List.set_cons_succ, List.getElem_toArray, List.getElem_cons_zero, List.getElem_cons_succ]
                      refine wpAnyL_pure (i := 6) (v := undef) rfl (by kernel_rfl) (fun _ _ _ h => h) (Or.inr ⟨by rfl, rfl⟩) HSC.out (fun _ => trivial) ?_
                      simp only [Act.put, List.setIfInBounds_toArray, List.set_cons_zero, List.set_cons_succ, List.getElem_toArray, List.getElem_cons_zero, List.getElem_cons_succ]
                      refine wpAnyL_pure (i := 7) (v := undef) rfl (by kernel_rfl) (fun _ _ _ h => h) (Or.inr ⟨by rfl, rfl⟩) HSC.out (fun _ => trivial) ?_
                      simp only [Act.put, List.setIfInBounds_toArray, List.set_cons_zero, List.set_cons_succ, List.getElem_toArray, List.getElem_cons_zero, List.getElem_cons_succ]
                      refine wpAnyL_pure (i := 8) (v := undef) rfl (by kernel_rfl) (fun _ _ _ h => h) (Or.inr ⟨by rfl, rfl⟩) HSC.out (fun _ => trivial) ?_
                      simp only [Act.put, List.setIfInBounds_toArray, List.set_cons_zero, List.set_cons_succ, List.getElem_toArray, List.getElem_cons_zero, List.getElem_cons_succ]
                      refine wpAnyL_pure (i := 9) (v := undef) rfl (by kernel_rfl) (fun _ _ _ h => h) (Or.inr ⟨by rfl, rfl⟩) HSC.out (fun _ => trivial) ?_
                      simp only [Act.put, List.setIfInBounds_toArray, List.set_cons_zero, List.set_cons_succ, List.getElem_toArray, List.getElem_cons_zero, List.getElem_cons_succ]
                      refine wpAnyL_pure (i := 10) (v := undef) rfl (by kernel_rfl) (fun _ _ _ h => h) (Or.inr ⟨by rfl, rfl⟩) HSC.out (fun _ => trivial) ?_
                      simp only [Act.put, List.setIfInBounds_toArray, List.set_cons_zero, List.set_cons_succ, List.getElem_toArray, List.getElem_cons_zero, List.getElem_cons_succ]
                      refine wpAnyL_pure (i := 11) (v := undef) rfl (by kernel_rfl) (fun _ _ _ h => h) (Or.inr ⟨by rfl, rfl⟩) HSC.out (fun _ => trivial) ?_
                      simp only [Act.put, List.setIfInBounds_toArray, List.set_cons_zero, List.set_cons_succ, List.getElem_toArray, List.getElem_cons_zero, List.getElem_cons_succ]
                      refine wpAnyL_pure (i := 12) (v := undef) rfl (by kernel_rfl) (fun _ _ _ h => h) (Or.inr ⟨by rfl, rfl⟩) HSC.out (fun _ => trivial) ?_
                      simp only [Act.put, List.setIfInBounds_toArray, List.set_cons_zero, List.set_cons_succ, List.getElem_toArray, List.getElem_cons_zero, List.getElem_cons_succ]
                      refine wpAnyL_pure (i := 13) (v := undef) rfl (by kernel_rfl) (fun _ _ _ h => h) (Or.inr ⟨by rfl, rfl⟩) HSC.out (fun _ => trivial) ?_
                      simp only [Act.put, List.setIfInBounds_toArray, List.set_cons_zero, List.set_cons_succ, List.getElem_toArray, List.getElem_cons_zero, List.getElem_cons_succ]
                      refine wpAnyL_pure (i := 14) (v := undef) rfl (by kernel_rfl) (fun _ _ _ h => h) (Or.inr ⟨by rfl, rfl⟩) HSC.out (fun _ => trivial) ?_
                      simp only [Act.put, List.setIfInBounds_toArray, List.set_cons_zero, List.set_cons_succ, List.getElem_toArray, List.getElem_cons_zero, List.getElem_cons_succ]
                      refine wpAnyL_pure (i := 15) rfl (by kernel_rfl) (fun _ _ _ h => h) (Or.inl ⟨by rfl, (fun u hu => by obtain ⟨k0, k1, k2, k3⟩ := hu; go_simp; try rfl)⟩) HSC.out (fun _ => trivial) ?_
                      simp only [Act.put, List.setIfInBounds_toArray, List.set_cons_zero, List.set_cons_succ, List.getElem_toArray, List.getElem_cons_zero, List.getElem_cons_succ]
                      refine wpAnyL_done (by kernel_rfl) ?_ _
                      go_wp2_with fail
                      go_ret
                      exact ⟨⟨true, rfl, ⟨fun _ => HFIN.out, fun _ => rfl⟩⟩, HE12.out.bel⟩
                    · have hnij : ((i : Int) == (j : Int)) = false := by simp; omega
                      refine wp_region_late (late := []) (S1 := fun u => u.cell? ⟨w10.heap.size, 0, none⟩ = some (.int .i64 (i : Int)) ∧ u.cell? ⟨w10.heap.size, 1, none⟩ = some (.int .i64 (j : Int)) ∧ u.cell? ⟨H0, j, none⟩ = some (.slice (some ⟨H0 + 1 + j, 0, none⟩) N N) ∧ u.cell? ⟨H0 + 1 + j, i, none⟩ = some (.bool vc)) (S := fun _ => True) (by kernel_rfl) ?_
                      cases vc with
                      | true =>
                        have HFIN := Lib.hid (show EndlessP R G N from ⟨i, j, HMORE.out, .inr (by rw [← HED.out]; exact HVC.out)⟩)
                        refine wpAnyL_pure (i := 0) rfl (by kernel_rfl) (fun _ _ _ h => h) (Or.inl ⟨by rfl, (fun u hu => by obtain ⟨k0, k1, k2, k3⟩ := hu; go_simp; try rfl)⟩) HSC.out (fun _ => trivial) ?_
                        simp only [Act.put, List.setIfInBounds_toArray, List.set_cons_zero, List.set_cons_succ, List.getElem_toArray, List.getElem_cons_zero, List.getElem_cons_succ]
                        refine wpAnyL_pure (i := 1) rfl (by kernel_rfl) (fun _ _ _ h => h) (Or.inl ⟨by rfl, (fun u hu => by obtain ⟨k0, k1, k2, k3⟩ := hu; go_simp; try rfl)⟩) HSC.out (fun _ => trivial) ?_
                        simp only [Act.put, List.setIfInBounds_toArray, List.set_cons_zero, List.set_cons_succ, List.getElem_toArray, List.getElem_cons_zero, List.getElem_cons_succ]
                        refine wpAnyL_pure (i := 2) rfl (by kernel_rfl) (fun _ _ _ h => h) (Or.inl ⟨by rfl, (fun u hu => by obtain ⟨k0, k1, k2, k3⟩ := hu; go_simp; try rfl)⟩) HSC.out (fun _ => trivial) ?_
                        simp only [Act.put, List.setIfInBounds_toArray, List.set_cons_zero, List.set_cons_succ, List.getElem_toArray, List.getElem_cons_zero, List.getElem_cons_succ]
                        refine wpAnyL_pure (i := 3) rfl (by kernel_rfl) (fun _ _ _ h => h) (Or.inl ⟨by rfl, (fun u hu => by obtain ⟨k0, k1, k2, k3⟩ := hu; go_simp; try rfl)⟩) HSC.out (fun _ => trivial) ?_
                        simp only [Act.put, List.setIfInBounds_toArray, List.set_cons_zero, List.set_cons_succ, List.getElem_toArray, List.getElem_cons_zero, List.getElem_cons_succ]
                        refine wpAnyL_pure (i := 4) rfl (by kernel_rfl) (fun _ _ _ h => h) (Or.inl ⟨by rfl, (fun u hu => by go_simp; try rfl)⟩) HSC.out (fun _ => trivial) ?_
                        simp only [Act.put, List.setIfInBounds_toArray, List.set_cons_zero, List.set_cons_succ, List.getElem_toArray, List.getElem_cons_zero, List.getElem_cons_succ]
                        refine wpAnyL_pure (i := 5) rfl (by kernel_rfl) (fun _ _ _ h => h) (Or.inl ⟨by rfl, (fun u hu => by obtain ⟨k0, k1, k2, k3⟩ := hu; go_simp; try rfl)⟩) HSC.out (fun _ => trivial) ?_
                        simp only [Act.put, List.setIfInBounds_toArray, List.set_cons_zero, List.set_cons_succ, List.getElem_toArray, List.getElem_cons_zero, List.getElem_cons_succ]
                        refine wpAnyL_pure (i := 6) rfl (by kernel_rfl) (fun _ _ _ h => h) (Or.inl ⟨by rfl, (fun u hu => by obtain ⟨k0, k1, k2, k3⟩ := hu; go_simp; try rfl)⟩) HSC.out (fun _ => trivial) ?_
                        simp only [Act.put, List.setIfInBounds_toArray, List.set_cons_zero, List.set_cons_succ, List.getElem_toArray, List.getElem_cons_zero, List.getElem_cons_succ]
                        refine wpAnyL_pure (i := 7) rfl (by kernel_rfl) (fun _ _ _ h => h) (Or.inl ⟨by rfl, (fun u hu => by obtain ⟨k0, k1, k2, k3⟩ := hu; go_simp; try rfl)⟩) HSC.out (fun _ => trivial) ?_
                        simp only [Act.put, List.setIfInBounds_toArray, List.set_cons_zero, List.set_cons_succ, List.getElem_toArray, List.getElem_cons_zero, List.getElem_cons_succ]
                        refine wpAnyL_pure (i := 8) rfl (by kernel_rfl) (fun _ _ _ h => h) (Or.inl ⟨by rfl, (fun u hu => by obtain ⟨k0, k1, k2, k3⟩ := hu; go_simp; try rfl)⟩) HSC.out (fun _ => trivial) ?_
                        simp only [Act.put, List.setIfInBounds_toArray, List.set_cons_zero, List.set_cons_succ, List.getElem_toArray, List.getElem_cons_zero, List.getElem_cons_succ]
                        refine wpAnyL_pure (i := 9) rfl (by kernel_rfl) (fun _ _ _ h => h) (Or.inl ⟨by rfl, (fun u hu => by obtain ⟨k0, k1, k2, k3⟩ := hu; go_simp; try rfl)⟩) HSC.out (fun _ => trivial) ?_
                        simp only [Act.put, List.setIfInBounds_toArray, List.set_cons_zero, List.set_cons_succ, List.getElem_toArray, List.getElem_cons_zero, List.getElem_cons_succ]
                        refine wpAnyL_pure (i := 10) rfl (by kernel_rfl) (fun _ _ _ h => h) (Or.inl ⟨by rfl, (fun u hu => by obtain ⟨k0, k1, k2, k3⟩ := hu; go_simp; try rfl)⟩) HSC.out (fun _ => trivial) ?_
                        simp only [Act.put, List.setIfInBounds_toArray, List.set_cons_zero, List.set_cons_succ, List.getElem_toArray, List.getElem_cons_zero, List.getElem_cons_succ]
                        refine wpAnyL_pure (i := 11) rfl (by kernel_rfl) (fun _ _ _ h => h) (Or.inl ⟨by rfl, (fun u hu => by obtain ⟨k0, k1, k2, k3⟩ := hu; go_simp; try rfl)⟩) HSC.out (fun _ => trivial) ?_
                        simp only [Act.put, List.setIfInBounds_toArray, List.set_cons_zero, List.set_cons_succ, List.getElem_toArray, List.getElem_cons_zero, List.getElem_cons_succ]
                        refine wpAnyL_pure (i := 12) rfl (by kernel_rfl) (fun _ _ _ h => h) (Or.inl ⟨by rfl, (fun u hu => by obtain ⟨k0, k1, k2, k3⟩ := hu; go_simp; try rfl)⟩) HSC.out (fun _ => trivial) ?_
                        simp only [Act.put, List.setIfInBounds_toArray, List.set_cons_zero, List.set_cons_succ, List.getElem_toArray, List.getElem_cons_zero, List.getElem_cons_succ]
                        refine wpAnyL_pure (i := 13) rfl (by kernel_rfl) (fun _ _ _ h => h) (Or.inl ⟨by rfl, (fun u hu => by obtain ⟨k0, k1, k2, k3⟩ := hu; go_simp; try rfl)⟩) HSC.out (fun _ => trivial) ?_
                        simp only [Act.put, List.setIfInBounds_toArray, List.set_cons_zero, List.set_cons_succ, List.getElem_toArray, List.getElem_cons_zero, List.getElem_cons_succ]
                        refine wpAnyL_pure (i := 14) rfl (by kernel_rfl) (fun _ _ _ h => h) (Or.inl ⟨by rfl, (fun u hu => by obtain ⟨k0, k1, k2, k3⟩ := hu; go_simp; try rfl)⟩) HSC.out (fun _ => trivial) ?_
                        simp only [Act.put, List.setIfInBounds_toArray, List.set_cons_zero, List.set_cons_succ, List.getElem_toArray, List.getElem_cons_zero, List.getElem_cons_succ]
                        refine wpAnyL_pure (i := 15) rfl (by kernel_rfl) (fun _ _ _ h => h) (Or.inl ⟨by rfl, (fun u hu => by obtain ⟨k0, k1, k2, k3⟩ := hu; go_simp; try rfl)⟩) HSC.out (fun _ => trivial) ?_
                        simp only [Act.put, List.setIfInBounds_toArray, List.set_cons_zero, List.set_cons_succ, List.getElem_toArray, List.getElem_cons_zero, List.getElem_cons_succ]
                        refine wpAnyL_done (by kernel_rfl) ?_ _
                        go_wp2_with fail
                        go_ret
                        exact ⟨⟨true, rfl, ⟨fun _ => HFIN.out, fun _ => rfl⟩⟩, HE12.out.bel⟩
                      | false =>
                        refine wpAnyL_pure (i := 0) rfl (by kernel_rfl) (fun _ _ _ h => h) (Or.inl ⟨by rfl, (fun u hu => by obtain ⟨k0, k1, k2, k3⟩ := hu; go_simp; try rfl)⟩) HSC.out (fun _ => trivial) ?_
                        simp only [Act.put, List.setIfInBounds_toArray, List.set_cons_zero, List.set_cons_succ, List.getElem_toArray, List.getElem_cons_zero, List.getElem_cons_succ]
                        refine wpAnyL_pure (i := 1) rfl (by kernel_rfl) (fun _ _ _ h => h) (Or.inl ⟨by rfl, (fun u hu => by obtain ⟨k0, k1, k2, k3⟩ := hu; go_simp; try rfl)⟩) HSC.out (fun _ => trivial) ?_
                        simp only [Act.put, List.setIfInBounds_toArray, List.set_cons_zero, List.set_cons_succ, List.getElem_toArray, List.getElem_cons_zero, List.getElem_cons_succ]
                        refine wpAnyL_pure (i := 2) rfl (by kernel_rfl) (fun _ _ _ h => h) (Or.inl ⟨by rfl, (fun u hu => by obtain ⟨k0, k1, k2, k3⟩ := hu; go_simp; try rfl)⟩) HSC.out (fun _ => trivial) ?_
                        simp only [Act.put, List.setIfInBounds_toArray, List.set_cons_zero, List.set_cons_succ, List.getElem_toArray, List.getElem_cons_zero, List.getElem_cons_succ]
                        refine wpAnyL_pure (i := 3) rfl (by kernel_rfl) (fun _ _ _ h => h) (Or.inl ⟨by rfl, (fun u hu => by obtain ⟨k0, k1, k2, k3⟩ := hu; go_simp; try rfl)⟩) HSC.out (fun _ => trivial) ?_
                        simp only [Act.put, List.setIfInBounds_toArray, List.set_cons_zero, List.set_cons_succ, List.getElem_toArray, List.getElem_cons_zero, List.getElem_cons_succ]
                        refine wpAnyL_pure (i := 4) rfl (by kernel_rfl) (fun _ _ _ h => h) (Or.inl ⟨by rfl, (fun u hu => by go_simp; try rfl)⟩) HSC.out (fun _ => trivial) ?_
                        simp only [Act.put, List.setIfInBounds_toArray, List.set_cons_zero, List.set_cons_succ, List.getElem_toArray, List.getElem_cons_zero, List.getElem_cons_succ]
                        refine wpAnyL_pure (i := 5) rfl (by kernel_rfl) (fun _ _ _ h => h) (Or.inl ⟨by rfl, (fun u hu => by obtain ⟨k0, k1, k2, k3⟩ := hu; go_simp; try rfl)⟩) HSC.out (fun _ => trivial) ?_
                        simp only [Act.put, List.setIfInBounds_toArray, List.set_cons_zero, List.set_cons_succ, List.getElem_toArray, List.getElem_cons_zero, List.getElem_cons_succ]
                        refine wpAnyL_pure (i := 6) rfl (by kernel_rfl) (fun _ _ _ h => h) (Or.inl ⟨by rfl, (fun u hu => by obtain ⟨k0, k1, k2, k3⟩ := hu; go_simp; try rfl)⟩) HSC.out (fun _ => trivial) ?_
                        simp only [Act.put, List.setIfInBounds_toArray, List.set_cons_zero, List.set_cons_succ, List.getElem_toArray, List.getElem_cons_zero, List.getElem_cons_succ]
                        refine wpAnyL_pure (i := 7) rfl (by kernel_rfl) (fun _ _ _ h => h) (Or.inl ⟨by rfl, (fun u hu => by obtain ⟨k0, k1, k2, k3⟩ := hu; go_simp; try rfl)⟩) HSC.out (fun _ => trivial) ?_
                        simp only [Act.put, List.setIfInBounds_toArray, List.set_cons_zero, List.set_cons_succ, List.getElem_toArray, List.getElem_cons_zero, List.getElem_cons_succ]
                        refine wpAnyL_pure (i := 8) rfl (by kernel_rfl) (fun _ _ _ h => h) (Or.inl ⟨by rfl, (fun u hu => by obtain ⟨k0, k1, k2, k3⟩ := hu; go_simp; try rfl)⟩) HSC.out (fun _ => trivial) ?_
                        simp only [Act.put, List.setIfInBounds_toArray, List.set_cons_zero, List.set_cons_succ, List.getElem_toArray, List.getElem_cons_zero, List.getElem_cons_succ]
                        refine wpAnyL_pure (i := 9) rfl (by kernel_rfl) (fun _ _ _ h => h) (Or.inl ⟨by rfl, (fun u hu => by obtain ⟨k0, k1, k2, k3⟩ := hu; go_simp; try rfl)⟩) HSC.out (fun _ => trivial) ?_
                        simp only [Act.put, List.setIfInBounds_toArray, List.set_cons_zero, List.set_cons_succ, List.getElem_toArray, List.getElem_cons_zero, List.getElem_cons_succ]
                        refine wpAnyL_pure (i := 10) rfl (by kernel_rfl) (fun _ _ _ h => h) (Or.inl ⟨by rfl, (fun u hu => by obtain ⟨k0, k1, k2, k3⟩ := hu; go_simp; try rfl)⟩) HSC.out (fun _ => trivial) ?_
                        simp only [Act.put, List.setIfInBounds_toArray, List.set_cons_zero, List.set_cons_succ, List.getElem_toArray, List.getElem_cons_zero, List.getElem_cons_succ]
                        refine wpAnyL_pure (i := 11) rfl (by kernel_rfl) (fun _ _ _ h => h) (Or.inl ⟨by rfl, (fun u hu => by obtain ⟨k0, k1, k2, k3⟩ := hu; go_simp; try rfl)⟩) HSC.out (fun _ => trivial) ?_
                        simp only [Act.put, List.setIfInBounds_toArray, List.set_cons_zero, List.set_cons_succ, List.getElem_toArray, List.getElem_cons_zero, List.getElem_cons_succ]
                        refine wpAnyL_pure (i := 12) rfl (by kernel_rfl) (fun _ _ _ h => h) (Or.inl ⟨by rfl, (fun u hu => by obtain ⟨k0, k1, k2, k3⟩ := hu; go_simp; try rfl)⟩) HSC.out (fun _ => trivial) ?_
                        simp only [Act.put, List.setIfInBounds_toArray, List.set_cons_zero, List.set_cons_succ, List.getElem_toArray, List.getElem_cons_zero, List.getElem_cons_succ]
                        refine wpAnyL_pure (i := 13) rfl (by kernel_rfl) (fun _ _ _ h => h) (Or.inl ⟨by rfl, (fun u hu => by obtain ⟨k0, k1, k2, k3⟩ := hu; go_simp; try rfl)⟩) HSC.out (fun _ => trivial) ?_
                        simp only [Act.put, List.setIfInBounds_toArray, List.set_cons_zero, List.set_cons_succ, List.getElem_toArray, List.getElem_cons_zero, List.getElem_cons_succ]
                        refine wpAnyL_pure (i := 14) rfl (by kernel_rfl) (fun _ _ _ h => h) (Or.inl ⟨by rfl, (fun u hu => by obtain ⟨k0, k1, k2, k3⟩ := hu; go_simp; try rfl)⟩) HSC.out (fun _ => trivial) ?_
                        simp only [Act.put, List.setIfInBounds_toArray, List.set_cons_zero, List.set_cons_succ, List.getElem_toArray, List.getElem_cons_zero, List.getElem_cons_succ]
                        refine wpAnyL_pure (i := 15) rfl (by kernel_rfl) (fun _ _ _ h => h) (Or.inl ⟨by rfl, (fun u hu => by obtain ⟨k0, k1, k2, k3⟩ := hu; go_simp; try rfl)⟩) HSC.out (fun _ => trivial) ?_
                        simp only [Act.put, List.setIfInBounds_toArray, List.set_cons_zero, List.set_cons_succ, List.getElem_toArray, List.getElem_cons_zero, List.getElem_cons_succ]
                        refine wpAnyL_done (by kernel_rfl) ?_ _
                        go_wp2_with fail
                        go_roundg cnt1
                        case measure => exact hlt11
                        case rel =>
                          refine ⟨fun z => left z && !z.sameKey kl, rfl, HRGD.out, HE12.out, hl12, fun z hz => HL1.out z (Bool.and_eq_true_iff.1 (show (left z && !z.sameKey kl) = true from hz)).1, fun z hz1 hz2 i' j' hk => ?_⟩
                          by_cases hzk : z = kl
                          · rw [hzk] at hk
                            have hpe := edgeKeys.inj hk HK2.out
                            injection hpe with hpe
                            obtain ⟨e1, e2⟩ : i' = i ∧ j' = j := by simp at hpe; omega
                            rw [e1, e2]
                            rintro (h | h)
                            · exact hij h
                            · rw [HVC.out] at h; cases h
                          · refine HL2.out z hz1 ?_ i' j' hk
                            have hz3 : (left z && !z.sameKey kl) = false := hz2
                            rw [sameKey_ne hzk] at hz3
                            simpa using hz3
end Go.Proofs.Ytfkapijfjihiiaa
