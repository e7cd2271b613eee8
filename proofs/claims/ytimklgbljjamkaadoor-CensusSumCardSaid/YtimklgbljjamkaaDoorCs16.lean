/- GBase Counter -/
import Derived.Test.YtimklgbljjamkaaDoorCs06
import Derived.Test.YtimklgbljjamkaaDoorCs08
import Derived.Test.YtimklgbljjamkaaDoorCs10
import Derived.Test.YtimklgbljjamkaaDoorCs11
import Derived.Test.YtimklgbljjamkaaDoorCs13
import Derived.Test.YtimklgbljjamkaaDoorCs15
namespace Go.Proofs.YtimklgbljjamkaaDoor
def nonsOf (g : GramD) : Nat := g.2.1.toNat
theorem rulesN_of {g : GramD} (hv : GValid g) : RulesN (nonsOf g) g.2.2.2 := fun r hr => by
 obtain ⟨⟨h1, h2⟩, h3, h4⟩ := hv.rules r hr
 refine ⟨⟨h1, by unfold nonsOf; omega⟩, fun s hs hf => ?_⟩
 obtain ⟨k1, k2⟩ := h4 s hs
 rw [hf] at k2
 simp only [Bool.false_eq_true, if_false] at k2
 exact ⟨k1, by unfold nonsOf; omega⟩
end Go.Proofs.YtimklgbljjamkaaDoor
namespace Go.Proofs.YtimklgbljjamkaaDoor
open Go.RowKit
structure Lay where
 Bc : Nat
 lo : Nat
 l2 : Nat
 l3 : Nat
 hi : Nat
 g1 : Nat
 g2 : Nat
 g3 : Nat
 c1 : Nat
 c2 : Nat
 c3 : Nat
 s1 : Nat → Nat
 s2 : Nat → Nat
 s3 : Nat → Nat
 AR : Option Addr
 nR : Nat
 cR : Nat
def ctrCells (L : Lay) (g : GramD) (n : Nat) : Array Value := #[.int .i64 g.1, .int .i64 g.2.1, .int .i64 g.2.2.1, .slice L.AR L.nR L.cR, .int .i64 n, .slice (some ⟨L.g1, 0, none⟩) (nonsOf g) L.c1, .slice (some ⟨L.g2, 0, none⟩) (nonsOf g) L.c2, .slice (some ⟨L.g3, 0, none⟩) (nonsOf g) L.c3]
structure Ctr (w : World) (L : Lay) (g : GramD) (n : Nat) (S M : Nat → Nat → Bool) (K : Nat → Nat → Int) : Prop where
 blk : w.heap[L.Bc]? = some (.cells (ctrCells L g n) 102 (0, 0))
 rules : Sl RRule w (fun b => b < L.lo) L.AR L.nR L.cR g.2.2.2
 gS : Grid Value.bool 4 w L.lo L.l2 L.g1 L.s1 (nonsOf g) (n + 1) S
 gM : Grid Value.bool 4 w L.l2 L.l3 L.g2 L.s2 (nonsOf g) (n + 1) M
 gK : Grid (Value.int .i64) 3 w L.l3 L.hi L.g3 L.s3 (nonsOf g) (n + 1) K
 o1 : L.lo ≤ L.l2
 o2 : L.l2 ≤ L.l3
 o3 : L.l3 ≤ L.hi
 o4 : L.hi ≤ L.Bc
section
variable {w w' : World} {L : Lay} {g : GramD} {n : Nat} {S M : Nat → Nat → Bool} {K : Nat → Nat → Int}
theorem Ctr.lt (h : Ctr w L g n S M K) : L.Bc < w.heap.size := heap_lt h.blk
theorem Ctr.cell (h : Ctr w L g n S M K) (i : Nat) : w.cell? ⟨L.Bc, i, none⟩ = (ctrCells L g n)[i]? := cell_of_row w _ i _ _ _ h.blk
theorem Ctr.keep (h : Ctr w L g n S M K) (hk : ∀ q, q < L.Bc + 1 → w'.heap[q]? = w.heap[q]?) : Ctr w' L g n S M K := by
 have h1 := h.o1
 have h2 := h.o2
 have h3 := h.o3
 have h4 := h.o4
 exact ⟨(hk _ (by omega)).trans h.blk, h.rules.keep (fun p u hp hu => (World.cell?_of_block (hk p.block (by omega))).trans hu), h.gS.keep (fun q _ hq => hk q (by omega)), h.gM.keep (fun q _ hq => hk q (by omega)), h.gK.keep (fun q _ hq => hk q (by omega)), h1, h2, h3, h4⟩
theorem Ctr.below (h : Ctr w L g n S M K) (hb : Below w.heap.size w w') : Ctr w' L g n S M K := h.keep fun q hq => hb.block q (by have := h.lt; omega)
theorem Ctr.drewN (h : Ctr w L g n S M K) (k : Nat) : Ctr (w.drewN k) L g n S M K := h.keep fun _ _ => rfl
theorem Ctr.drew (h : Ctr w L g n S M K) : Ctr w.drew L g n S M K := h.keep fun _ _ => rfl
theorem Ctr.congrS {S' : Nat → Nat → Bool} (h : Ctr w L g n S M K) (hS : ∀ a k, a < nonsOf g → k < n + 1 → S a k = S' a k) : Ctr w L g n S' M K := { h with gS := h.gS.congr hS }
theorem Ctr.setS (h : Ctr w L g n S M K) {a : Nat} (k : Nat) (ha : a < nonsOf g) (x : Bool) : Ctr (w.setCell ⟨L.s1 a, k, none⟩ (.bool x)) L g n (fun b j => if b = a ∧ j = k then x else S b j) M K := by
 have h1 := h.o1
 have h2 := h.o2
 have h3 := h.o3
 have h4 := h.o4
 obtain ⟨r1, r2, r3⟩ := h.gS.rng a ha
 have hne : ∀ q, q ≠ L.s1 a → (w.setCell ⟨L.s1 a, k, none⟩ (.bool x)).heap[q]? = w.heap[q]? := fun q hq => Below.heap_setCell _ _ _ _ hq
 exact ⟨(hne _ (by omega)).trans h.blk, h.rules.keep (.setCell _ _ _ _ (by simp; omega)), h.gS.set k ha x, h.gM.keep (fun q hq _ => hne q (by omega)), h.gK.keep (fun q hq _ => hne q (by omega)), h1, h2, h3, h4⟩
theorem Ctr.setM (h : Ctr w L g n S M K) {a : Nat} (k : Nat) (ha : a < nonsOf g) (x : Bool) : Ctr (w.setCell ⟨L.s2 a, k, none⟩ (.bool x)) L g n S (fun b j => if b = a ∧ j = k then x else M b j) K := by
 have h1 := h.o1
 have h2 := h.o2
 have h3 := h.o3
 have h4 := h.o4
 obtain ⟨r1, r2, r3⟩ := h.gM.rng a ha
 have hne : ∀ q, q ≠ L.s2 a → (w.setCell ⟨L.s2 a, k, none⟩ (.bool x)).heap[q]? = w.heap[q]? := fun q hq => Below.heap_setCell _ _ _ _ hq
 exact ⟨(hne _ (by omega)).trans h.blk, h.rules.keep (.setCell _ _ _ _ (by simp; omega)), h.gS.keep (fun q _ hq => hne q (by omega)), h.gM.set k ha x, h.gK.keep (fun q hq _ => hne q (by omega)), h1, h2, h3, h4⟩
theorem Ctr.setK (h : Ctr w L g n S M K) {a : Nat} (k : Nat) (ha : a < nonsOf g) (x : Int) : Ctr (w.setCell ⟨L.s3 a, k, none⟩ (.int .i64 x)) L g n S M (fun b j => if b = a ∧ j = k then x else K b j) := by
 have h1 := h.o1
 have h2 := h.o2
 have h3 := h.o3
 have h4 := h.o4
 obtain ⟨r1, r2, r3⟩ := h.gK.rng a ha
 have hne : ∀ q, q ≠ L.s3 a → (w.setCell ⟨L.s3 a, k, none⟩ (.int .i64 x)).heap[q]? = w.heap[q]? := fun q hq => Below.heap_setCell _ _ _ _ hq
 exact ⟨(hne _ (by omega)).trans h.blk, h.rules.keep (.setCell _ _ _ _ (by simp; omega)), h.gS.keep (fun q _ hq => hne q (by omega)), h.gM.keep (fun q _ hq => hne q (by omega)), h.gK.set k ha x, h1, h2, h3, h4⟩
end
set_option maxRecDepth 100000 in
set_option maxHeartbeats 1000000 in
theorem ctrHas {L : Lay} {g : GramD} {n : Nat} {S M : Nat → Nat → Bool} {K : Nat → Nat → Int} (w : World) (h : Ctr w L g n S M K) (s : SymD) (hs : NonOk (nonsOf g) [s]) (k : Nat) (hk : k ≤ n) :
    Calls Tryd.prog 46 #[.pointer (some ⟨L.Bc, 0, none⟩), .agg #[.bool s.1, .int .i64 s.2], .int .i64 k] w fun e w' => e = .returned (.bool (hasT S s k)) ∧ Below w.heap.size w w' := by
 obtain ⟨t, x⟩ := s
 cases t with
 | true =>
  have hd : hasT S (true, x) k = ((k : Int) == 1) := by
   rw [Bool.eq_iff_iff]; simp [hasT]; omega
  have HD := Lib.hid hd
  clear hd h hs
  dsimp only
  go_enter Tryd.func46, Tryd.ntmps46
  go_wp2_with fail
  go_ret
  exact ⟨ret_bool HD.out.symm, (Below.refl _ _).alloc (Nat.le_refl _) _⟩
 | false =>
  obtain ⟨h0, h1⟩ := hs (false, x) (by simp) rfl
  dsimp only at h0 h1 ⊢
  obtain ⟨a, rfl⟩ : ∃ a : Nat, x = (a : Int) := ⟨x.toNat, by omega⟩
  rw [Int.toNat_natCast] at h1
  have hd : hasT S (false, (a : Int)) k = S a k := by simp [hasT]
  have HD := Lib.hid hd
  have hc5 : w.cell? ⟨L.Bc, 5, none⟩ = some (.slice (some ⟨L.g1, 0, none⟩) (nonsOf g) L.c1) := h.cell 5
  have hch := h.gS.hdr a h1
  have hcc := h.gS.cell h1 (show k < n + 1 by omega)
  have l1 := cell_lt hc5
  have l2 := cell_lt hch
  have l3 := cell_lt hcc
  have i1 : (a : Int) < (nonsOf g : Int) := by omega
  have i2 : (k : Int) < ((n + 1 : Nat) : Int) := by omega
  have i3 : (0 : Int) ≤ (a : Int) := by omega
  have i4 : (0 : Int) ≤ (k : Int) := by omega
  generalize nonsOf g = N at *
  generalize L.Bc = Bc at *
  generalize L.g1 = g1 at *
  generalize L.s1 a = s1 at *
  generalize S a k = b at *
  clear hd h hs h0
  go_enter Tryd.func46, Tryd.ntmps46
  go_wp2_with fail
  go_quiet (fail)
  go_wp2_with fail
  go_ret
  exact ⟨ret_bool HD.out.symm, belowN ((Below.refl _ _).alloc (Nat.le_refl _) _) _⟩
theorem Sl.cutl {α : Type} {R : Rep α} {P : Program} {T E s bytes : Nat} {z : Value} (hT : SlType P T E s bytes z) (hs : R.size = s) {w : World} {S : Nat → Prop} {A : Option Addr} {n c : Nat} {l : List α} (h : Sl R w S A n c l) (k : Nat) (hk : k ≤ n) :
    ∃ A', (∀ u, (Instr.slice T (.slice A n c) (some (.int .i64 (k : Int))) none none).run P u = .ok (.slice A' (n - k) (c - k)) u) ∧ Sl R w S A' (n - k) (c - k) (l.drop k) := by
 subst hs
 obtain ⟨xs, h1, h2, h3, h4⟩ := h
 obtain ⟨A', hrun, hr⟩ := hT.cutl (c := c) h3 (k : Int) (by omega) (by omega) h2
 rw [Int.toNat_natCast] at hr
 refine ⟨A', fun u => by rw [hrun u, Int.toNat_natCast], xs.drop (k * R.size), by rw [List.length_drop]; omega, by omega, hr, h4.drop⟩
set_option maxRecDepth 100000 in
set_option maxHeartbeats 2000000 in
theorem ctrCan {L : Lay} {g : GramD} {n : Nat} {S M : Nat → Nat → Bool} {K : Nat → Nat → Int} (hn : n ≤ 1000) : ∀ (l : List SymD) (w : World) (_ : Ctr w L g n S M K) (S' : Nat → Prop) (A : Option Addr) (m c : Nat) (_ : Sl RSym w S' A m c l) (_ : NonOk (nonsOf g) l) (k : Nat) (_ : k ≤ n),
    Calls Tryd.prog 44 #[.pointer (some ⟨L.Bc, 0, none⟩), .slice A m c, .int .i64 k] w fun e w' => e = .returned (.bool (canT S l k)) ∧ Below w.heap.size w w'
 | [], w, h, S', A, m, c, hl, ho, k, hk => by
  have hm := hl.len
  simp only [List.length_nil] at hm
  subst hm
  have hd : canT S [] k = ((k : Int) == 0) := by
   rw [Bool.eq_iff_iff]; simp [canT]
  have HD := Lib.hid hd
  clear hd h hl ho
  go_enter Tryd.func44, Tryd.ntmps44
  go_wp2_with fail
  go_ret
  exact ⟨ret_bool HD.out.symm, Below.refl _ _⟩
 | s :: l, w, h, S', A, m, c, hl, ho, k, hk => by
  have hm := hl.len
  rw [List.length_cons] at hm
  obtain ⟨b, off, s', rfl, _, _, hc1, hc2, hs0⟩ := sym_at hl (k := 0) (by omega)
  obtain rfl : s = s' := by simpa using hs0
  rw [Nat.zero_mul, Nat.add_zero] at hc1 hc2
  obtain ⟨A', hcut, hl'⟩ := hl.cutl tSyms rfl 1 (by omega)
  rw [List.drop_succ_cons, List.drop_zero] at hl'
  simp only [Int.cast_ofNat_Int] at hcut
  have hme : ((m : Int) == 0) = false := by simp; omega
  have hm1 : 0 < m := by omega
  have HC := Lib.hid h
  have HL := Lib.hid hl'
  have HO1 := Lib.hid ho.head
  have HO2 := Lib.hid ho.tail
  have HS0 := Lib.hid hc1
  have HS1 := Lib.hid hc2
  have ih := fun w' => ctrCan (L := L) (g := g) (S := S) (M := M) (K := K) hn l w'
  have HIH := Lib.hid ih
  clear h hl hl' ho hs0 hc1 hc2 ih hm
  go_enter Tryd.func44, Tryd.ntmps44
  go_wp2_with fail
  go_loopg [15] (k + 1) (fun gk i wr => ∃ j : Nat, j ≤ k + 1 ∧ gk = k + 1 - j ∧ i = .int .i64 j ∧ (∀ i, i < j → (hasT S s i && canT S l (k - i)) = false) ∧ Below w.heap.size w wr)
  case atStart => exact ⟨0, Nat.zero_le _, rfl, rfl, (fun i hi => absurd hi (by omega)), Below.refl _ _⟩
  case round =>
   obtain ⟨j, hj, hgj, rfl, hno, hb⟩ := hrel
   have HGJ := Lib.hid hgj
   have HNO := Lib.hid hno
   have HB := Lib.hid hb
   have hc1 := Kept.below (S := fun _ => True) hb _ _ trivial HS0.out
   have hc2 := Kept.below (S := fun _ => True) hb _ _ trivial HS1.out
   clear hgj hno hb
   by_cases hjl : j < k + 1
   ·
    go_wp2_with fail
    refine (ctrHas _ (HC.out.below HB.out) s HO1.out j (by omega)).mono ?_
    rintro e w1 ⟨rfl, hb1⟩
    have HB1 := Lib.hid (HB.out.trans (hb1.mono HB.out.size))
    clear hb1
    cases hh : hasT S s j with
    | false =>
     have HH := Lib.hid hh
     clear hh
     go_wp2_with fail
     go_roundg (k + 1 - (j + 1))
     case measure => rw [HGJ.out]; omega
     case rel =>
      refine ⟨j + 1, by omega, rfl, by go_num, fun i hi => ?_, HB1.out⟩
      rcases Nat.lt_succ_iff_lt_or_eq.1 hi with h | rfl
      ·
       exact HNO.out i h
      ·
       rw [HH.out]; rfl
    | true =>
     have HH := Lib.hid hh
     clear hh
     have hki : ((k : Int) - (j : Int)) = ((k - j : Nat) : Int) := by omega
     have HKI := Lib.hid hki
     clear hki
     go_wp2_with fail
     rw [HKI.out]
     refine (HIH.out _ (HC.out.below HB1.out) _ _ _ _ (HL.out.below HB1.out) HO2.out (k - j) (by omega)).mono ?_
     rintro e w2 ⟨rfl, hb2⟩
     have HB2 := Lib.hid (HB1.out.trans (hb2.mono HB1.out.size))
     clear hb2
     cases hh : canT S l (k - j) with
     | false =>
      have HH2 := Lib.hid hh
      clear hh
      go_wp2_with fail
      go_roundg (k + 1 - (j + 1))
      case measure => rw [HGJ.out]; omega
      case rel =>
       refine ⟨j + 1, by omega, rfl, by go_num, fun i hi => ?_, HB2.out⟩
       rcases Nat.lt_succ_iff_lt_or_eq.1 hi with h | rfl
       ·
        exact HNO.out i h
       ·
        rw [HH.out, HH2.out]; rfl
     | true =>
      have HH2 := Lib.hid hh
      clear hh
      go_wp2_with fail
      go_ret
      exact ⟨ret_bool (canT_cons.2 ⟨j, by omega, HH.out, HH2.out⟩).symm, HB2.out⟩
   ·
    go_wp2_with fail
    go_ret
    refine ⟨ret_bool ?_, HB.out⟩
    symm
    rw [Bool.eq_false_iff]
    intro hc
    obtain ⟨i, hi, h1, h2⟩ := canT_cons.1 hc
    have := HNO.out i (by omega)
    rw [h1, h2] at this
    cases this
set_option maxRecDepth 100000 in
set_option maxHeartbeats 2000000 in
theorem ctrSplit {L : Lay} {g : GramD} {n : Nat} {S M : Nat → Nat → Bool} {K : Nat → Nat → Int} (hn : n ≤ 1000) (w : World) (h : Ctr w L g n S M K) (Sa Sb : Nat → Prop) (A : Option Addr) (m c : Nat) (la : List SymD) (ha : Sl RSym w Sa A m c la) (hoa : NonOk (nonsOf g) la)
    (B : Option Addr) (m' c' : Nat) (lb : List SymD) (hb : Sl RSym w Sb B m' c' lb) (hob : NonOk (nonsOf g) lb) (k : Nat) (hk : k ≤ n) :
    Calls Tryd.prog 70 #[.pointer (some ⟨L.Bc, 0, none⟩), .slice A m c, .slice B m' c', .int .i64 k] w fun e w' => e = .returned (.bool (splitT S la lb k)) ∧ Below w.heap.size w w' := by
 have HC := Lib.hid h
 have HA := Lib.hid ha
 have HBB := Lib.hid hb
 have HOA := Lib.hid hoa
 have HOB := Lib.hid hob
 clear h ha hb hoa hob
 go_enter Tryd.func70, Tryd.ntmps70
 go_wp2_with fail
 go_loopg [12] (k + 1) (fun gk i wr => ∃ j : Nat, j ≤ k + 1 ∧ gk = k + 1 - j ∧ i = .int .i64 j ∧ (∀ i, i < j → (canT S la i && canT S lb (k - i)) = false) ∧ Below w.heap.size w wr)
 case atStart => exact ⟨0, Nat.zero_le _, rfl, rfl, (fun i hi => absurd hi (by omega)), Below.refl _ _⟩
 case round =>
  obtain ⟨j, hj, hgj, rfl, hno, hb⟩ := hrel
  have HGJ := Lib.hid hgj
  have HNO := Lib.hid hno
  have HB := Lib.hid hb
  clear hgj hno hb
  by_cases hjl : j < k + 1
  ·
   go_wp2_with fail
   refine (ctrCan hn la _ (HC.out.below HB.out) _ _ _ _ (HA.out.below HB.out) HOA.out j (by omega)).mono ?_
   rintro e w1 ⟨rfl, hb1⟩
   have HB1 := Lib.hid (HB.out.trans (hb1.mono HB.out.size))
   clear hb1
   cases hh : canT S la j with
   | false =>
    have HH := Lib.hid hh
    clear hh
    go_wp2_with fail
    go_roundg (k + 1 - (j + 1))
    case measure => rw [HGJ.out]; omega
    case rel =>
     refine ⟨j + 1, by omega, rfl, by go_num, fun i hi => ?_, HB1.out⟩
     rcases Nat.lt_succ_iff_lt_or_eq.1 hi with h | rfl
     ·
      exact HNO.out i h
     ·
      rw [HH.out]; rfl
   | true =>
    have HH := Lib.hid hh
    clear hh
    have hki : ((k : Int) - (j : Int)) = ((k - j : Nat) : Int) := by omega
    have HKI := Lib.hid hki
    clear hki
    go_wp2_with fail
    rw [HKI.out]
    refine (ctrCan hn lb _ (HC.out.below HB1.out) _ _ _ _ (HBB.out.below HB1.out) HOB.out (k - j) (by omega)).mono ?_
    rintro e w2 ⟨rfl, hb2⟩
    have HB2 := Lib.hid (HB1.out.trans (hb2.mono HB1.out.size))
    clear hb2
    cases hh : canT S lb (k - j) with
    | false =>
     have HH2 := Lib.hid hh
     clear hh
     go_wp2_with fail
     go_roundg (k + 1 - (j + 1))
     case measure => rw [HGJ.out]; omega
     case rel =>
      refine ⟨j + 1, by omega, rfl, by go_num, fun i hi => ?_, HB2.out⟩
      rcases Nat.lt_succ_iff_lt_or_eq.1 hi with h | rfl
      ·
       exact HNO.out i h
      ·
       rw [HH.out, HH2.out]; rfl
    | true =>
     have HH2 := Lib.hid hh
     clear hh
     go_wp2_with fail
     go_ret
     exact ⟨ret_bool (splitT_iff.2 ⟨j, by omega, HH.out, HH2.out⟩).symm, HB2.out⟩
  ·
   go_wp2_with fail
   go_ret
   refine ⟨ret_bool ?_, HB.out⟩
   symm
   rw [Bool.eq_false_iff]
   intro hc
   obtain ⟨i, hi, h1, h2⟩ := splitT_iff.1 hc
   have := HNO.out i (by omega)
   rw [h1, h2] at this
   cases this
end Go.Proofs.YtimklgbljjamkaaDoor
