/- guess.Of$1: the search through the rules. -/
import Derived.Test.YtidigjfnifmiiaaDoorGuPlain
import Derived.Test.YtidigjfnifmiiaaDoorGuAgr
import Derived.Test.YtidigjfnifmiiaaDoorGuCheck
import Derived.Test.YtidigjfnifmiiaaDoorCloRule
import Derived.Test.YtidigjfnifmiiaaDoorGuCopy
namespace Go.Proofs.YtidigjfnifmiiaaDoor
open Go.RowKit

section
variable (w : World) (Bt Bn By Bo Bl Bw : Nat) (T N : Int) (A1 : Option Addr) (n1 c1 : Nat) (yes : List (List Int)) (A2 : Option Addr) (n2 c2 : Nat) (no : List (List Int)) (AL : Option Addr) (nL cL : Nat) (l : List RuleD)
abbrev walkCaps : Array Value := #[.pointer (some ⟨Bt, 0, none⟩), .pointer (some ⟨Bn, 0, none⟩), .pointer (some ⟨By, 0, none⟩), .pointer (some ⟨Bo, 0, none⟩), .pointer (some ⟨Bl, 0, none⟩), .pointer (some ⟨Bw, 0, none⟩)]
structure WCells : Prop where
  t : w.cell? ⟨Bt, 0, none⟩ = some (.int .i64 T)
  n : w.cell? ⟨Bn, 0, none⟩ = some (.int .i64 N)
  y : w.cell? ⟨By, 0, none⟩ = some (.slice A1 n1 c1)
  o : w.cell? ⟨Bo, 0, none⟩ = some (.slice A2 n2 c2)
  l : w.cell? ⟨Bl, 0, none⟩ = some (.slice AL nL cL)
  w : w.cell? ⟨Bw, 0, none⟩ = some (.func (.func 31) #[] (walkCaps Bt Bn By Bo Bl Bw))
structure WCtx : Prop where
  cells : WCells w Bt Bn By Bo Bl Bw T N A1 n1 c1 A2 n2 c2 AL nL cL
  tab : Tab w
  sy : Sl RIV w (fun _ => True) A1 n1 c1 yes
  so : Sl RIV w (fun _ => True) A2 n2 c2 no
  sl : Sl RRule w (fun _ => True) AL nL cL l
end
section
variable {w w' : World} {Bt Bn By Bo Bl Bw : Nat} {T N : Int} {A1 : Option Addr} {n1 c1 : Nat} {yes : List (List Int)} {A2 : Option Addr} {n2 c2 : Nat} {no : List (List Int)} {AL : Option Addr} {nL cL : Nat} {l : List RuleD}
theorem WCells.below (h : WCells w Bt Bn By Bo Bl Bw T N A1 n1 c1 A2 n2 c2 AL nL cL) (hb : Below w.heap.size w w') : WCells w' Bt Bn By Bo Bl Bw T N A1 n1 c1 A2 n2 c2 AL nL cL :=
  ⟨(hb.cell (cell_lt h.t)).trans h.t, (hb.cell (cell_lt h.n)).trans h.n, (hb.cell (cell_lt h.y)).trans h.y, (hb.cell (cell_lt h.o)).trans h.o, (hb.cell (cell_lt h.l)).trans h.l, (hb.cell (cell_lt h.w)).trans h.w⟩
theorem WCtx.below (h : WCtx w Bt Bn By Bo Bl Bw T N A1 n1 c1 yes A2 n2 c2 no AL nL cL l) (hb : Below w.heap.size w w') : WCtx w' Bt Bn By Bo Bl Bw T N A1 n1 c1 yes A2 n2 c2 no AL nL cL l :=
  ⟨h.cells.below hb, h.tab.below hb h.tab.1, h.sy.below hb, h.so.below hb, h.sl.below hb⟩
end
/-- the agreement that the search looks for -/
noncomputable def agF (T N : Int) (yes no : List (List Int)) (rs : List RuleD) : Bool := agP (T, N, 0, rs) yes no
/-- what the search returns -/
def WalkR (T N : Int) (S : Nat → Prop) (o : Option (List RuleD)) (e : Ending) (w' : World) : Prop := ∃ (a b s : Int) (A : Option Addr) (n c : Nat) (q : Bool), e = .returned (.tuple #[.agg #[.int .i64 a, .int .i64 b, .int .i64 s, .slice A n c], .bool q]) ∧
  (q = true → a = T ∧ b = N ∧ s = 0 ∧ ∃ rs, o = some rs ∧ Sl RRule w' S A n c rs) ∧ (q = false → o = none)
theorem entersWalk : ∀ (args : Array Value) (u : World), (callFunc 31 args).run Tryd.prog u = .ok (.enter 31 args) u := enters_of Tryd.func31 (by kernel_rfl) rfl
set_option linter.unusedSimpArgs false in
set_option maxRecDepth 100000 in
set_option maxHeartbeats 4000000 in
theorem walk0 (w : World) (Bt Bn By Bo Bl Bw : Nat) (T N : Int) (A1 : Option Addr) (n1 c1 : Nat) (yes : List (List Int)) (A2 : Option Addr) (n2 c2 : Nat) (no : List (List Int)) (AL : Option Addr) (nL cL : Nat) (l : List RuleD)
    (hc : WCtx w Bt Bn By Bo Bl Bw T N A1 n1 c1 yes A2 n2 c2 no AL nL cL l) (hy : ∀ x ∈ yes, WrdOk T x) (ho : ∀ x ∈ no, WrdOk T x) (hn1 : n1 ≤ 1000) (hn2 : n2 ≤ 1000)
    (fr : Nat) (ch : List RuleD) (A : Option Addr) (m c : Nat) (S : Nat → Prop) (hs : Sl RRule w S A m c ch) (hv : GValid (T, N, 0, ch)) :
    Calls Tryd.prog 31 #[.int .i64 fr, .int .i64 (0 : Int), .slice A m c, .pointer (some ⟨Bt, 0, none⟩), .pointer (some ⟨Bn, 0, none⟩), .pointer (some ⟨By, 0, none⟩), .pointer (some ⟨Bo, 0, none⟩), .pointer (some ⟨Bl, 0, none⟩), .pointer (some ⟨Bw, 0, none⟩)] w fun e w' => WalkR T N (fun b => S b ∨ w.heap.size ≤ b) (walkP (agF T N yes no) l 0 fr ch) e w' ∧ Below w.heap.size w w' := by
  have HC := Lib.hid hc
  have HY := Lib.hid hy
  have HO := Lib.hid ho
  have HS := Lib.hid hs
  have HV := Lib.hid hv
  have kt := hc.cells.t
  have kn := hc.cells.n
  have lt := cell_lt kt
  have ln := cell_lt kn
  clear hc hy ho hs hv
  go_enter Tryd.func31, Tryd.ntmps31
  --@1
  go_wp2_with fail
  obtain ⟨w2, hw2⟩ : ∃ w2 : World, w2 = (w.alloc (.cells #[.int .i64 0, .int .i64 0, .int .i64 0, .slice none 0 0] 25)).alloc (.cells #[.int .i64 T, .int .i64 N, .int .i64 0, .slice A m c] 25) := ⟨_, rfl⟩
  rw [← hw2]
  have hz2 : w2.heap.size = w.heap.size + 2 := by rw [hw2]; simp
  have hb2 : Below w.heap.size w w2 := by rw [hw2]; exact ((Below.refl _ _).alloc (Nat.le_refl _) _).alloc (by simp) _
  have hx : w2.heap[w.heap.size + 1]? = some (.cells #[.int .i64 T, .int .i64 N, .int .i64 0, .slice A m c] 25 (0, 0)) := by rw [hw2]; exact heap_new _ _ _ (by simp)
  have hr : w2.heap[w.heap.size]? = some (.cells #[.int .i64 0, .int .i64 0, .int .i64 0, .slice none 0 0] 25 (0, 0)) := by rw [hw2]; exact (Below.heap_alloc _ _ _ (by simp)).trans (heap_alloc_new _ _)
  have hall : ∀ u : World, Below w2.heap.size w2 u → u.cell? ⟨w.heap.size + 1, 0, none⟩ = some (.int .i64 T) ∧ u.cell? ⟨w.heap.size + 1, 1, none⟩ = some (.int .i64 N) ∧ u.cell? ⟨w.heap.size + 1, 2, none⟩ = some (.int .i64 0) ∧ u.cell? ⟨w.heap.size + 1, 3, none⟩ = some (.slice A m c) ∧ u.cell? ⟨By, 0, none⟩ = some (.slice A1 n1 c1) ∧ u.cell? ⟨Bo, 0, none⟩ = some (.slice A2 n2 c2) := by
    intro u hu
    have e1 := (hu.block _ (by omega)).trans hx
    have hc := HC.out.cells.below (hb2.trans (hu.mono (by omega)))
    exact ⟨by simp [World.cell?, e1], by simp [World.cell?, e1], by simp [World.cell?, e1], by simp [World.cell?, e1], hc.y, hc.o⟩
  have HALL := Lib.hid hall
  have HB2 := Lib.hid hb2
  have HR := Lib.hid hr
  have HX := Lib.hid hx
  have hyB : By < w.heap.size := cell_lt HC.out.cells.y
  have hoB : Bo < w.heap.size := cell_lt HC.out.cells.o
  clear hw2 hb2 hx hr hall kt kn lt ln
  refine wp_region_late (late := []) (S1 := fun u => u.cell? ⟨w.heap.size + 1, 0, none⟩ = some (.int .i64 T) ∧ u.cell? ⟨w.heap.size + 1, 1, none⟩ = some (.int .i64 N) ∧ u.cell? ⟨w.heap.size + 1, 2, none⟩ = some (.int .i64 0) ∧ u.cell? ⟨w.heap.size + 1, 3, none⟩ = some (.slice A m c) ∧ u.cell? ⟨By, 0, none⟩ = some (.slice A1 n1 c1) ∧ u.cell? ⟨Bo, 0, none⟩ = some (.slice A2 n2 c2)) (S := fun _ => True) (by kernel_rfl) ?_
  refine wpAnyL_pure (i := 0) rfl (by kernel_rfl) (fun _ _ _ h => h) (Or.inl ⟨by rfl, (fun u hu => by obtain ⟨k0, k1, k2, k3, k4, k5⟩ := hu; go_simp; try rfl)⟩) (HALL.out _ (Below.refl _ _).drew) (fun _ => trivial) ?_
  simp only [Act.put, List.setIfInBounds_toArray, List.set_cons_zero, List.set_cons_succ, List.getElem_toArray, List.getElem_cons_zero, List.getElem_cons_succ]
  refine wpAnyL_pure (i := 1) rfl (by kernel_rfl) (fun _ _ _ h => h) (Or.inl ⟨by rfl, (fun u hu => by obtain ⟨k0, k1, k2, k3, k4, k5⟩ := hu; go_simp; try rfl)⟩) (HALL.out _ (Below.refl _ _).drew) (fun _ => trivial) ?_
  simp only [Act.put, List.setIfInBounds_toArray, List.set_cons_zero, List.set_cons_succ, List.getElem_toArray, List.getElem_cons_zero, List.getElem_cons_succ]
  refine wpAnyL_pure (i := 2) rfl (by kernel_rfl) (fun _ _ _ h => h) (Or.inl ⟨by rfl, (fun u hu => by obtain ⟨k0, k1, k2, k3, k4, k5⟩ := hu; go_simp; try rfl)⟩) (HALL.out _ (Below.refl _ _).drew) (fun _ => trivial) ?_
  simp only [Act.put, List.setIfInBounds_toArray, List.set_cons_zero, List.set_cons_succ, List.getElem_toArray, List.getElem_cons_zero, List.getElem_cons_succ]
  refine wpAnyL_pure (i := 3) rfl (by kernel_rfl) (fun _ _ _ h => h) (Or.inl ⟨by rfl, (fun u hu => by obtain ⟨k0, k1, k2, k3, k4, k5⟩ := hu; go_simp; try rfl)⟩) (HALL.out _ (Below.refl _ _).drew) (fun _ => trivial) ?_
  simp only [Act.put, List.setIfInBounds_toArray, List.set_cons_zero, List.set_cons_succ, List.getElem_toArray, List.getElem_cons_zero, List.getElem_cons_succ]
  refine wpAnyL_ready (rs := [4]) (by kernel_rfl) (by simp) ?_
  refine AllL.cons rfl (fun K hK => ?_) ?_
  · go_simp
    refine (guessAgr w2.drew ((HC.out.below HB2.out).below (Below.refl _ _).drew).tab _ (T, N, 0, ch) A m c ((HS.out.below HB2.out).drew) HV.out _ A1 n1 c1 yes ((HC.out.below HB2.out).below (Below.refl _ _).drew).sy HY.out _ A2 n2 c2 no ((HC.out.below HB2.out).below (Below.refl _ _).drew).so HO.out hn1 hn2).mono ?_
    rintro e w3 ⟨rfl, hb3⟩
    have HBB := Lib.hid (((Below.refl w2.heap.size w2).drew).trans hb3)
    have hr3 := (HBB.out.block _ (by omega)).trans HR.out
    obtain ⟨r0, r1, r2, r3⟩ : w3.cell? ⟨w.heap.size, 0, none⟩ = some (.int .i64 0) ∧ w3.cell? ⟨w.heap.size, 1, none⟩ = some (.int .i64 0) ∧ w3.cell? ⟨w.heap.size, 2, none⟩ = some (.int .i64 0) ∧ w3.cell? ⟨w.heap.size, 3, none⟩ = some (.slice none 0 0) := by simp [World.cell?, hr3]
    have hf : ∀ i, w3.frozen? ⟨w.heap.size, i, none⟩ = false := fun i => by simp [World.frozen?, hr3]
    have hf0 := hf 0
    have hf1 := hf 1
    have hf2 := hf 2
    have hf3 := hf 3
    have hne : (w.heap.size : Nat) ≠ w.heap.size + 1 := by omega
    clear hf hr3 hb3
    refine hK.out _ _ (HALL.out _ HBB.out) (fun _ => trivial) ?_
    clear hK K
    refine wpAnyL_ready (rs := [5]) (by kernel_rfl) (by simp) ?_
    refine AllL.cons rfl (fun K hK => ?_) ?_
    · go_simp
      refine hK.out _ _ (by obtain ⟨q0, q1, q2, q3, q4, q5⟩ := HALL.out _ HBB.out; refine ⟨?_, ?_, ?_, ?_, ?_, ?_⟩ <;> (refine setOther _ (setOther _ (setOther _ (setOther _ (by assumption) ?_) ?_) ?_) ?_ <;> (simp only []; omega))) (fun _ => trivial) ?_
      clear hK K
      refine wpAnyL_pure (i := 6) rfl (by kernel_rfl) (fun _ _ _ h => h) (Or.inl ⟨by rfl, (fun u hu => by obtain ⟨k0, k1, k2, k3, k4, k5⟩ := hu; go_simp; try rfl)⟩) (by obtain ⟨q0, q1, q2, q3, q4, q5⟩ := HALL.out _ HBB.out; refine ⟨?_, ?_, ?_, ?_, ?_, ?_⟩ <;> (refine setOther _ (setOther _ (setOther _ (setOther _ (by assumption) ?_) ?_) ?_) ?_ <;> (simp only []; omega))) (fun _ => trivial) ?_
      simp only [Act.put, List.setIfInBounds_toArray, List.set_cons_zero, List.set_cons_succ, List.getElem_toArray, List.getElem_cons_zero, List.getElem_cons_succ]
      refine wpAnyL_done (by kernel_rfl) ?_ _
      go_wp2_with fail
      refine bodyPost_ret (v := .tuple #[.agg #[.int .i64 T, .int .i64 N, .int .i64 0, .slice A m c], .bool (agP (T, N, 0, ch) yes no)]) (by simp [results, Tryd.results31, go_sem, r0, r1, r2, r3]) rfl ?_
      have hbF : Below w.heap.size w ((((w3.setCell ⟨w.heap.size, 0, none⟩ (.int .i64 T)).setCell ⟨w.heap.size, 1, none⟩ (.int .i64 N)).setCell ⟨w.heap.size, 2, none⟩ (.int .i64 0)).setCell ⟨w.heap.size, 3, none⟩ (.slice A m c)) := ((((HB2.out.trans (HBB.out.mono HB2.out.size)).setCell (Nat.le_refl _) _).setCell (Nat.le_refl _) _).setCell (Nat.le_refl _) _).setCell (Nat.le_refl _) _
      refine ⟨⟨T, N, 0, A, m, c, _, rfl, fun h => ⟨rfl, rfl, rfl, ch, ?_, (HS.out.below hbF).more fun _ hb => .inl hb⟩, fun h => ?_⟩, hbF⟩
      · rw [walkP, agF, h]; rfl
      · rw [walkP, agF, h]; rfl
    exact AllL.nil
  exact AllL.nil
theorem Own.ne {w : World} {base size n : Nat} {E : TypeId} {v : Value} {xs : List Value} (h1 : Own w base E size v n xs) {b : Nat} {cs : Array Value} {E' : TypeId} {f : Nat × Nat} (hb : w.heap[b]? = some (.cells cs E' f)) (hE : E' ≠ E) : rowOf v ≠ some b := by
  intro e
  rcases h1 with h1 | ⟨A, rfl, _⟩
  · rcases h1.2 with ⟨rfl, _⟩ | ⟨g, cap, cur, rfl, _, hh, _⟩
    · cases e
    · cases cap with
      | zero => cases e
      | succ q =>
        injection e with e
        have e' : g = b := e
        subst e'
        rw [hb] at hh
        injection hh with hh
        injection hh with _ hh _
        exact hE hh
  · cases A <;> cases e
theorem Rd.ne {w : World} {S : Nat → Prop} {size n c : Nat} {A : Option Addr} {xs : List Value} (h : Rd w S size A n xs) (hc : n ≤ c) {X : Nat} (hx : rowOf (.slice A n c) ≠ some X) : Rd w (fun b => S b ∧ b ≠ X) size A n xs := by
  refine ⟨h.1, fun hn => ?_⟩
  obtain ⟨b, off, rfl, hb, hcell⟩ := h.2 hn
  obtain ⟨q, rfl⟩ : ∃ q, c = q + 1 := ⟨c - 1, by omega⟩
  exact ⟨b, off, rfl, ⟨hb, fun e => hx (by rw [← e]; rfl)⟩, hcell⟩
theorem one_rule (a : Int) (A : Option Addr) (n c : Nat) : ∀ u ∈ [Value.int .i64 a, .slice A n c], u.oneCell' = true := by
  intro u hu
  rcases List.mem_cons.1 hu with rfl | hu
  · rfl
  · obtain rfl := List.mem_singleton.1 hu
    rfl
theorem rd_rule {w : World} {B : Nat} {a b : Value} {E : TypeId} (h : w.heap[B]? = some (.cells #[a, b] E (0, 0))) : Rd w (fun _ => True) 2 (some ⟨B, 0, none⟩) 1 [a, b] :=
  ⟨rfl, fun _ => ⟨B, 0, rfl, trivial, fun j u hj => by
    match j, hj with
    | 0, hj => injection hj with hj; subst hj; simp [World.cell?, h]
    | 1, hj => injection hj with hj; subst hj; simp [World.cell?, h]⟩⟩
/-- what the search for so many more rules does -/
def WalkSpec (Bt Bn By Bo Bl Bw : Nat) (T N : Int) (A1 : Option Addr) (n1 c1 : Nat) (yes : List (List Int)) (A2 : Option Addr) (n2 c2 : Nat) (no : List (List Int)) (AL : Option Addr) (nL cL : Nat) (l : List RuleD) (left : Nat) : Prop :=
  ∀ (w : World), WCtx w Bt Bn By Bo Bl Bw T N A1 n1 c1 yes A2 n2 c2 no AL nL cL l → ∀ (fr : Nat) (fi li : Int), fi = (fr : Int) → li = (left : Int) → fr ≤ nL → ∀ (ch : List RuleD) (A : Option Addr) (m c : Nat) (S : Nat → Prop), Sl RRule w S AL nL cL l → Sl RRule w S A m c ch → ch.length + left ≤ 10 →
    (∀ t, t.Sublist (l.drop fr) → t.length = left → GValid (T, N, 0, ch ++ t)) →
    Calls Tryd.prog 31 #[.int .i64 fi, .int .i64 li, .slice A m c, .pointer (some ⟨Bt, 0, none⟩), .pointer (some ⟨Bn, 0, none⟩), .pointer (some ⟨By, 0, none⟩), .pointer (some ⟨Bo, 0, none⟩), .pointer (some ⟨Bl, 0, none⟩), .pointer (some ⟨Bw, 0, none⟩)] w fun e w' => WalkR T N (fun b => S b ∨ w.heap.size ≤ b) (walkP (agF T N yes no) l left fr ch) e w' ∧ Below w.heap.size w w'
set_option linter.unusedSimpArgs false in
set_option maxRecDepth 100000 in
set_option maxHeartbeats 20000000 in
theorem walkS (Bt Bn By Bo Bl Bw : Nat) (T N : Int) (A1 : Option Addr) (n1 c1 : Nat) (yes : List (List Int)) (A2 : Option Addr) (n2 c2 : Nat) (no : List (List Int)) (AL : Option Addr) (nL cL : Nat) (l : List RuleD) (hnL : nL ≤ 1000)
    (left : Nat) (ih : WalkSpec Bt Bn By Bo Bl Bw T N A1 n1 c1 yes A2 n2 c2 no AL nL cL l left) : WalkSpec Bt Bn By Bo Bl Bw T N A1 n1 c1 yes A2 n2 c2 no AL nL cL l (left + 1) := by
  intro w hc fr fi li hfi hli hfr ch A m c S hsl hs hlen hv
  obtain rfl : m = ch.length := hs.len
  have hL : nL = l.length := hc.sl.len
  have IH := Lib.hid ih
  have HC := Lib.hid hc
  have HS := Lib.hid hs
  have HSLL := Lib.hid hsl
  have HV := Lib.hid hv
  have HLI := Lib.hid hli
  have HFR := Lib.hid hfr
  have HL := Lib.hid hL
  have hne : (li == 0) = false := by simp; omega
  have hch : ch.length ≤ 10 := by omega
  have HLN := Lib.hid hlen
  subst hfi
  clear ih hc hs hsl hv hli hfr hL hlen
  go_enter Tryd.func31, Tryd.ntmps31
  --@2
  go_wp2_with fail
  clear hne
  obtain ⟨w1, hw1⟩ : ∃ w1 : World, w1 = w.alloc (.cells #[.int .i64 0, .int .i64 0, .int .i64 0, .slice none 0 0] 25) := ⟨_, rfl⟩
  rw [← hw1]
  have hz1 : w1.heap.size = w.heap.size + 1 := by rw [hw1]; simp
  have hb1 : Below w.heap.size w w1 := by rw [hw1]; exact (Below.refl _ _).alloc (Nat.le_refl _) _
  have hr : w1.heap[w.heap.size]? = some (.cells #[.int .i64 0, .int .i64 0, .int .i64 0, .slice none 0 0] 25 (0, 0)) := by rw [hw1]; exact heap_alloc_new _ _
  have HB1 := Lib.hid hb1
  have HR := Lib.hid hr
  clear hw1 hb1 hr
  go_loopg [15] (nL - fr) (fun gk i wr => ∃ k : Nat, fr ≤ k ∧ k ≤ nL ∧ gk = nL - k ∧ i = .int .i64 k ∧ walkP (agF T N yes no) l (left + 1) fr ch = tryP (fun i => walkP (agF T N yes no) l left (i + 1) (ch ++ [l.getD i (0, [])])) (nL - k) k ∧ Below w1.heap.size w1 wr)
  case atStart => exact ⟨fr, Nat.le_refl _, HFR.out, rfl, rfl, by rw [walkP, HL.out], Below.refl _ _⟩
  case round =>
    obtain ⟨k, hk1, hk2, hgk, rfl, htry, hb⟩ := hrel
    have HGK := Lib.hid hgk
    have HTRY := Lib.hid htry
    have HB := Lib.hid (HB1.out.trans (hb.mono (by omega)))
    have HRR := Lib.hid ((hb.block _ (by omega)).trans HR.out)
    have HBW := Lib.hid hb
    have hzr := hb.size
    have HC3 := Lib.hid (HC.out.below HB.out)
    clear hgk htry hb
    obtain ⟨w3, rfl⟩ : ∃ w3 : World, w3 = wr := ⟨_, rfl⟩
    have kl := HC3.out.cells.l
    by_cases hlt : k < nL
    · obtain ⟨bl, ol, A2', m2, c2', r, rfl, _, hbl, hr1, hr2, hr, hrs⟩ := rule_at (HSLL.out.fit.keep (Kept.below HB.out)) hlt
      have hkI : (k : Int) < (nL : Int) := by omega
      have hk0 : (0 : Int) ≤ (k : Int) := by omega
      obtain ⟨xs, _, hcA, hrd, hcs⟩ := HS.out.fit
      replace hrd := hrd.keep (Kept.below HB.out)
      replace hcs := hcs.keep (Kept.below HB.out)
      have hxl : xs.length = ch.length * 2 := hrd.1
      have hall : ∀ u : World, Below w3.heap.size w3 u → u.cell? ⟨Bw, 0, none⟩ = some (.func (.func 31) #[] (walkCaps Bt Bn By Bo Bl Bw)) ∧ u.cell? ⟨Bl, 0, none⟩ = some (.slice (some ⟨bl, ol, none⟩) nL cL) ∧ u.cell? ⟨bl, ol + k * 2, none⟩ = some (.int .i64 r.1) ∧ u.cell? ⟨bl, ol + k * 2 + 1, none⟩ = some (.slice A2' m2 c2') := by
        intro u hu
        have h := HC3.out.cells.below hu
        exact ⟨h.w, h.l, (hu.cell hbl).trans hr1, (hu.cell hbl).trans hr2⟩
      have HALL := Lib.hid hall
      have HX := Lib.hid hr
      clear hr1 hr2 hr hall
      --@3
      go_wp2_with fail
      have he := entersWalk
      have HB0 := Lib.hid (show Below w3.heap.size w3 w3.drew from (Below.refl _ _).drew)
      refine wp_region_late (late := []) (S1 := fun u => u.cell? ⟨Bw, 0, none⟩ = some (.func (.func 31) #[] (walkCaps Bt Bn By Bo Bl Bw)) ∧ u.cell? ⟨Bl, 0, none⟩ = some (.slice (some ⟨bl, ol, none⟩) nL cL) ∧ u.cell? ⟨bl, ol + k * 2, none⟩ = some (.int .i64 r.1) ∧ u.cell? ⟨bl, ol + k * 2 + 1, none⟩ = some (.slice A2' m2 c2')) (S := fun _ => True) (by kernel_rfl) ?_
      obtain ⟨w4, hw4⟩ : ∃ w4 : World, w4 = w3.drew := ⟨_, rfl⟩
      rw [← hw4] at HB0 ⊢
      clear hw4
      refine wpAnyL_pure (i := 0) rfl (by kernel_rfl) (fun _ _ _ h => h) (Or.inl ⟨by rfl, (fun u hu => by obtain ⟨k0, k1, k2, k3⟩ := hu; go_simp; try rfl)⟩) (HALL.out _ HB0.out) (fun _ => trivial) ?_
      simp only [Act.put, List.setIfInBounds_toArray, List.set_cons_zero, List.set_cons_succ, List.getElem_toArray, List.getElem_cons_zero, List.getElem_cons_succ]
      refine wpAnyL_pure (i := 1) rfl (by kernel_rfl) (fun _ _ _ h => h) (Or.inl ⟨by rfl, (fun u hu => by obtain ⟨k0, k1, k2, k3⟩ := hu; go_simp; try rfl)⟩) (HALL.out _ HB0.out) (fun _ => trivial) ?_
      simp only [Act.put, List.setIfInBounds_toArray, List.set_cons_zero, List.set_cons_succ, List.getElem_toArray, List.getElem_cons_zero, List.getElem_cons_succ]
      refine wpAnyL_pure (i := 2) rfl (by kernel_rfl) (fun _ _ _ h => h) (Or.inl ⟨by rfl, (fun u hu => by obtain ⟨k0, k1, k2, k3⟩ := hu; go_simp; try rfl)⟩) (HALL.out _ HB0.out) (fun _ => trivial) ?_
      simp only [Act.put, List.setIfInBounds_toArray, List.set_cons_zero, List.set_cons_succ, List.getElem_toArray, List.getElem_cons_zero, List.getElem_cons_succ]
      refine wpAnyL_pure (i := 3) rfl (by kernel_rfl) (fun _ _ _ h => h) (Or.inl ⟨by rfl, (fun u hu => by obtain ⟨k0, k1, k2, k3⟩ := hu; go_simp; try rfl)⟩) (HALL.out _ HB0.out) (fun _ => trivial) ?_
      simp only [Act.put, List.setIfInBounds_toArray, List.set_cons_zero, List.set_cons_succ, List.getElem_toArray, List.getElem_cons_zero, List.getElem_cons_succ]
      refine wpAnyL_pure (i := 4) rfl (by kernel_rfl) (fun _ _ _ h => h) (Or.inl ⟨by rfl, (fun u hu => by obtain ⟨k0, k1, k2, k3⟩ := hu; go_simp; try rfl)⟩) (HALL.out _ HB0.out) (fun _ => trivial) ?_
      simp only [Act.put, List.setIfInBounds_toArray, List.set_cons_zero, List.set_cons_succ, List.getElem_toArray, List.getElem_cons_zero, List.getElem_cons_succ]
      refine wpAnyL_pure (i := 5) rfl (by kernel_rfl) (fun _ _ _ h => h) (Or.inl ⟨by rfl, (fun u hu => by obtain ⟨k0, k1, k2, k3⟩ := hu; go_simp; try rfl)⟩) (HALL.out _ HB0.out) (fun _ => trivial) ?_
      simp only [Act.put, List.setIfInBounds_toArray, List.set_cons_zero, List.set_cons_succ, List.getElem_toArray, List.getElem_cons_zero, List.getElem_cons_succ]
      refine wpAnyL_pure (i := 7) rfl (by kernel_rfl) (fun _ _ _ h => h) (Or.inl ⟨by rfl, (fun u hu => by obtain ⟨k0, k1, k2, k3⟩ := hu; go_simp; try rfl)⟩) (HALL.out _ HB0.out) (fun _ => trivial) ?_
      simp only [Act.put, List.setIfInBounds_toArray, List.set_cons_zero, List.set_cons_succ, List.getElem_toArray, List.getElem_cons_zero, List.getElem_cons_succ]
      refine wpAnyL_pure (i := 8) rfl (by kernel_rfl) (fun _ _ _ h => h) (Or.inl ⟨by rfl, (fun u hu => by obtain ⟨k0, k1, k2, k3⟩ := hu; go_simp; try rfl)⟩) (HALL.out _ HB0.out) (fun _ => trivial) ?_
      simp only [Act.put, List.setIfInBounds_toArray, List.set_cons_zero, List.set_cons_succ, List.getElem_toArray, List.getElem_cons_zero, List.getElem_cons_succ]
      refine wpAnyL_pure (i := 9) rfl (by kernel_rfl) (fun _ _ _ h => h) (Or.inl ⟨by rfl, (fun u hu => by obtain ⟨k0, k1, k2, k3⟩ := hu; go_simp; try rfl)⟩) (HALL.out _ HB0.out) (fun _ => trivial) ?_
      simp only [Act.put, List.setIfInBounds_toArray, List.set_cons_zero, List.set_cons_succ, List.getElem_toArray, List.getElem_cons_zero, List.getElem_cons_succ]
      refine wpAnyL_pure (i := 10) rfl (by kernel_rfl) (fun _ _ _ h => h) (Or.inl ⟨by rfl, (fun u hu => by obtain ⟨k0, k1, k2, k3⟩ := hu; go_simp; try rfl)⟩) (HALL.out _ HB0.out) (fun _ => trivial) ?_
      simp only [Act.put, List.setIfInBounds_toArray, List.set_cons_zero, List.set_cons_succ, List.getElem_toArray, List.getElem_cons_zero, List.getElem_cons_succ]
      refine wpAnyL_ready (rs := [6, 11, 17]) (by kernel_rfl) (by simp) ?_
      refine AllL.cons rfl (fun K hK => ?_) ?_
      · go_simp
        refine (cloneRule A ch.length c _ xs w4 (hrd.below HB0.out) (by omega)).mono ?_
        rintro e u1 ⟨v5, rfl, ho5, hb1⟩
        obtain ⟨A5, c5, rfl, hc5, _⟩ := ho5.form
        have hzB1 := HB0.out.size
        have HB1 := Lib.hid (HB0.out.trans (hb1.mono HB0.out.size))
        have hz1 := hb1.size
        have HO1 := Lib.hid (ho5.mono (base' := w3.heap.size) (by omega))
        clear ho5
        refine hK.out _ _ (HALL.out _ HB1.out) (fun _ => trivial) ?_
        clear hK K
        refine wpAnyL_ready (rs := [11, 17]) (by kernel_rfl) (by simp) ?_
        refine AllL.cons rfl (fun K hK => ?_) ?_
        · go_simp
          obtain ⟨u2, hu2⟩ : ∃ u : World, u = u1.alloc (.cells #[.int .i64 r.1, .slice A2' m2 c2'] 29) := ⟨_, rfl⟩
          rw [← hu2]
          have hb2 : Below u1.heap.size u1 u2 := by rw [hu2]; exact (Below.refl _ _).alloc (Nat.le_refl _) _
          have Hlit0 := Lib.hid (show u2.heap[u1.heap.size]? = some (.cells #[.int .i64 r.1, .slice A2' m2 c2'] 29 (0, 0)) by rw [hu2]; exact heap_alloc_new _ _)
          have hze2 : u2.heap.size = u1.heap.size + 1 := by rw [hu2]; simp
          have hzB2 := HB1.out.size
          have HB2 := Lib.hid (HB1.out.trans (hb2.mono HB1.out.size))
          have HO2 := Lib.hid (HO1.out.below hb2 (Nat.le_refl _))
          have hz2 := hb2.size
          have hzl2 : u1.heap.size < u2.heap.size := by omega
          clear hu2 hze2
          refine hK.out _ _ (HALL.out _ HB2.out) (fun _ => trivial) ?_
          clear hK K
          refine wpAnyL_ready (rs := [12, 17]) (by kernel_rfl) (by simp) ?_
          refine AllL.cons rfl (fun K hK => ?_) ?_
          · have hzB3 := HB2.out.size
            obtain ⟨v6, u3, hrun, ho6, hg, _⟩ := run_append_Own tRules u2 23 w3.heap.size (.slice A5 ch.length c5) ch.length xs HO2.out (fun _ => True) (some ⟨u1.heap.size, 0, none⟩) 1 1 [.int .i64 r.1, .slice A2' m2 c2'] (rd_rule Hlit0.out) (one_rule _ _ _ _) (by unfold maxLen; omega) (by omega) (by omega)
            have hb3 : Below w3.heap.size u2 u3 := Below.own (Below.refl _ _) HO2.out hg (Nat.le_refl _) (by omega)
            obtain ⟨A6, c6, rfl, hc6, _⟩ := ho6.form
            have HRUN := Lib.hid hrun
            have HO6 := Lib.hid ho6
            have HB3 := Lib.hid (HB2.out.trans hb3)
            have hz3 := hg.size
            clear hrun ho6 hg
            refine step_append_run _ (by rfl) _ _ _ _ (by rfl) _ _ (by rfl) (by rfl) _ _ HRUN.out ?_
            simp only [Act.put, List.setIfInBounds_toArray, List.set_cons_zero, List.set_cons_succ, List.getElem_toArray, List.getElem_cons_zero, List.getElem_cons_succ]
            refine hK.out _ _ (HALL.out _ HB3.out) (fun _ => trivial) ?_
            clear hK K
            refine wpAnyL_ready (rs := [13, 17]) (by kernel_rfl) (by simp) ?_
            refine AllL.cons rfl (fun K hK => ?_) ?_
            · go_simp
              have hrg : l.getD k (0, []) = r := by rw [List.getD_eq_getElem?_getD, HX.out]; rfl
              have hzB4 := HB3.out.size
              have HBT := Lib.hid (HB.out.trans (HB3.out.mono HB.out.size))
              have hcl : Cells RRule u3 (fun b => (S b ∨ w.heap.size ≤ b) ∧ b ≠ w.heap.size) (xs ++ [.int .i64 r.1, .slice A2' m2 c2']) (ch ++ [r]) := (((hcs.append (Cells.single (RRule.cells.2 ⟨A2', m2, c2', rfl, hrs⟩))).keep (Kept.below HB3.out)).more fun b hb => ⟨.inl hb.1, by omega⟩)
              have hsl6 : Sl RRule u3 (fun b => (S b ∨ w.heap.size ≤ b) ∧ b ≠ w.heap.size) A6 (ch.length + 1) c6 (ch ++ [r]) := ⟨_, by simp, hc6, (by refine Rd.more HO6.out.rd (fun b hb => ?_); exact ⟨.inr (by omega), by omega⟩), hcl⟩
              refine (IH.out u3 (HC3.out.below HB3.out) (k + 1) _ _ (by rw [IntKind.wrap_i64]; omega) (by rw [IntKind.wrap_i64, HLI.out]; have := HLN.out; omega) (by omega) (ch ++ [r]) A6 (ch.length + 1) c6 (fun b => (S b ∨ w.heap.size ≤ b) ∧ b ≠ w.heap.size) ((HSLL.out.fit.keep (Kept.below HBT.out)).more fun b hb => ⟨.inl hb.1, by omega⟩) hsl6 (by have := HLN.out; simp; omega) (fun t h1 h2 => ?_)).mono ?_
              · have := HV.out (r :: t) (by
                  have e : l.drop k = r :: l.drop (k + 1) := by rw [List.drop_eq_getElem_cons (by rw [← HL.out]; exact hlt)]; congr 1; have := HX.out; rw [List.getElem?_eq_getElem (by rw [← HL.out]; exact hlt)] at this; injection this
                  have h3 : (r :: t).Sublist (l.drop k) := by rw [e]; exact h1.cons_cons _
                  have e2 : l.drop k = (l.drop fr).drop (k - fr) := by rw [List.drop_drop]; congr 1; omega
                  rw [e2] at h3
                  exact h3.trans (List.drop_sublist _ _)) (by simp [h2])
                simpa using this
              rintro e u4 ⟨⟨ga, gb, gs, AG, nG, cG, q, rfl, hq1, hq2⟩, hb4⟩
              rw [← hrg] at hq1 hq2
              have HQ1 := Lib.hid hq1
              have HQ2 := Lib.hid hq2
              clear hq1 hq2 hrg hcl hsl6
              have HB4 := Lib.hid (HB3.out.trans (hb4.mono HB3.out.size))
              have hz4 := hb4.size
              refine hK.out _ _ (HALL.out _ HB4.out) (fun _ => trivial) ?_
              clear hK K
              refine wpAnyL_pure (i := 14) rfl (by kernel_rfl) (fun _ _ _ h => h) (Or.inl ⟨by rfl, (fun u hu => by obtain ⟨k0, k1, k2, k3⟩ := hu; go_simp; try rfl)⟩) (HALL.out _ HB4.out) (fun _ => trivial) ?_
              simp only [Act.put, List.setIfInBounds_toArray, List.set_cons_zero, List.set_cons_succ, List.getElem_toArray, List.getElem_cons_zero, List.getElem_cons_succ]
              refine wpAnyL_pure (i := 15) rfl (by kernel_rfl) (fun _ _ _ h => h) (Or.inl ⟨by rfl, (fun u hu => by obtain ⟨k0, k1, k2, k3⟩ := hu; go_simp; try rfl)⟩) (HALL.out _ HB4.out) (fun _ => trivial) ?_
              simp only [Act.put, List.setIfInBounds_toArray, List.set_cons_zero, List.set_cons_succ, List.getElem_toArray, List.getElem_cons_zero, List.getElem_cons_succ]
              refine wpAnyL_pure (i := 16) rfl (by kernel_rfl) (fun _ _ _ h => h) (Or.inl ⟨by rfl, (fun u hu => by obtain ⟨k0, k1, k2, k3⟩ := hu; go_simp; try rfl)⟩) (HALL.out _ HB4.out) (fun _ => trivial) ?_
              simp only [Act.put, List.setIfInBounds_toArray, List.set_cons_zero, List.set_cons_succ, List.getElem_toArray, List.getElem_cons_zero, List.getElem_cons_succ]
              refine wpAnyL_ready (rs := [17]) (by kernel_rfl) (by simp) ?_
              refine AllL.cons rfl (fun K hK => ?_) ?_
              · go_simp
                obtain ⟨u5, hu5⟩ : ∃ u : World, u = u4.alloc (.cells #[.int .i64 0, .int .i64 0, .int .i64 0, .slice none 0 0] 25) := ⟨_, rfl⟩
                rw [← hu5]
                have hb5 : Below u4.heap.size u4 u5 := by rw [hu5]; exact (Below.refl _ _).alloc (Nat.le_refl _) _
                have Hbox0 := Lib.hid (show u5.heap[u4.heap.size]? = some (.cells #[.int .i64 0, .int .i64 0, .int .i64 0, .slice none 0 0] 25 (0, 0)) by rw [hu5]; exact heap_alloc_new _ _)
                have hze5 : u5.heap.size = u4.heap.size + 1 := by rw [hu5]; simp
                have hzB5 := HB4.out.size
                have HB5 := Lib.hid (HB4.out.trans (hb5.mono HB4.out.size))
                have hz5 := hb5.size
                have hzl5 : u4.heap.size < u5.heap.size := by omega
                clear hu5 hze5
                refine hK.out _ _ (HALL.out _ HB5.out) (fun _ => trivial) ?_
                clear hK K
                refine wpAnyL_ready (rs := [18]) (by kernel_rfl) (by simp) ?_
                refine AllL.cons rfl (fun K hK => ?_) ?_
                · have hbx := Hbox0.out
                  have hXl : w3.heap.size ≤ u4.heap.size := by have := HB5.out.size; omega
                  obtain ⟨b0, b1, b2, b3⟩ : u5.cell? ⟨u4.heap.size, 0, none⟩ = some (.int .i64 0) ∧ u5.cell? ⟨u4.heap.size, 1, none⟩ = some (.int .i64 0) ∧ u5.cell? ⟨u4.heap.size, 2, none⟩ = some (.int .i64 0) ∧ u5.cell? ⟨u4.heap.size, 3, none⟩ = some (.slice none 0 0) := by simp [World.cell?, hbx]
                  have hf : ∀ i, u5.frozen? ⟨u4.heap.size, i, none⟩ = false := fun i => by simp [World.frozen?, hbx]
                  have hf0 := hf 0
                  have hf1 := hf 1
                  have hf2 := hf 2
                  have hf3 := hf 3
                  clear hf
                  have HBX := Lib.hid hbx
                  have HWX := Lib.hid (show Below w3.heap.size w3 ((((u5.setCell ⟨u4.heap.size, 0, none⟩ (.int .i64 ga)).setCell ⟨u4.heap.size, 1, none⟩ (.int .i64 gb)).setCell ⟨u4.heap.size, 2, none⟩ (.int .i64 gs)).setCell ⟨u4.heap.size, 3, none⟩ (.slice AG nG cG)) from ((((HB5.out.setCell hXl _).setCell hXl _).setCell hXl _).setCell hXl _))
                  go_simp
                  clear hbx b0 b1 b2 b3 hf0 hf1 hf2 hf3
                  refine hK.out _ _ (HALL.out _ HWX.out) (fun _ => trivial) ?_
                  clear hK K
                  refine wpAnyL_pure (i := 19) rfl (by kernel_rfl) (fun _ _ _ h => h) (Or.inl ⟨by rfl, (fun u hu => by obtain ⟨k0, k1, k2, k3⟩ := hu; go_simp; try rfl)⟩) (HALL.out _ HWX.out) (fun _ => trivial) ?_
                  simp only [Act.put, List.setIfInBounds_toArray, List.set_cons_zero, List.set_cons_succ, List.getElem_toArray, List.getElem_cons_zero, List.getElem_cons_succ]
                  refine wpAnyL_done (by kernel_rfl) ?_ _
                  cases q with
                  | false =>
                    have HQF := Lib.hid (HQ2.out rfl)
                    clear HQ1 HQ2
                    go_wp2_with fail
                    go_roundg (nL - (k + 1))
                    case measure => rw [HGK.out]; omega
                    case rel => exact ⟨k + 1, by omega, by omega, rfl, by go_num, by rw [HTRY.out, show nL - k = (nL - (k + 1)) + 1 by omega, tryP, HQF.out], HBW.out.trans (HWX.out.mono hzr)⟩
                  | true =>
                    obtain ⟨rfl, rfl, rfl, rs, hw, hsl⟩ := HQ1.out rfl
                    have HWK := Lib.hid hw
                    have HSL := Lib.hid hsl
                    clear hw hsl HQ1 HQ2
                    obtain ⟨w9, hw9⟩ : ∃ w9 : World, w9 = ((((u5.setCell ⟨u4.heap.size, 0, none⟩ (.int .i64 ga)).setCell ⟨u4.heap.size, 1, none⟩ (.int .i64 gb)).setCell ⟨u4.heap.size, 2, none⟩ (.int .i64 0)).setCell ⟨u4.heap.size, 3, none⟩ (.slice AG nG cG)) := ⟨_, rfl⟩
                    rw [← hw9] at HWX ⊢
                    have hq9 : Below u5.heap.size u5 u5 := Below.refl _ _
                    have hb9 : w9.heap[u4.heap.size]? = some (.cells #[.int .i64 ga, .int .i64 gb, .int .i64 0, .slice AG nG cG] 25 (0, 0)) := by rw [hw9]; have := blk_set (blk_set (blk_set (blk_set HBX.out 0 (.int .i64 ga)) 1 (.int .i64 gb)) 2 (.int .i64 0)) 3 (.slice AG nG cG); simpa using this
                    obtain ⟨k0, k1, k2, k3⟩ : w9.cell? ⟨u4.heap.size, 0, none⟩ = some (.int .i64 ga) ∧ w9.cell? ⟨u4.heap.size, 1, none⟩ = some (.int .i64 gb) ∧ w9.cell? ⟨u4.heap.size, 2, none⟩ = some (.int .i64 0) ∧ w9.cell? ⟨u4.heap.size, 3, none⟩ = some (.slice AG nG cG) := by simp [World.cell?, hb9]
                    have hrr := (HWX.out.block _ (by omega)).trans HRR.out
                    obtain ⟨r0, r1, r2, r3⟩ : w9.cell? ⟨w.heap.size, 0, none⟩ = some (.int .i64 0) ∧ w9.cell? ⟨w.heap.size, 1, none⟩ = some (.int .i64 0) ∧ w9.cell? ⟨w.heap.size, 2, none⟩ = some (.int .i64 0) ∧ w9.cell? ⟨w.heap.size, 3, none⟩ = some (.slice none 0 0) := by simp [World.cell?, hrr]
                    have hf : ∀ i, w9.frozen? ⟨w.heap.size, i, none⟩ = false := fun i => by simp [World.frozen?, hrr]
                    have hf0 := hf 0
                    have hf1 := hf 1
                    have hf2 := hf 2
                    have hf3 := hf 3
                    have hsx : Sl RRule u4 (fun b => (S b ∨ w.heap.size ≤ b) ∧ b ≠ w.heap.size ∧ b ≠ u4.heap.size) AG nG cG rs := HSL.out.fit.more fun b hb => by
                      rcases hb with ⟨h | h, h2⟩
                      · have h3 := h.2
                        exact ⟨h.1, by omega, by omega⟩
                      · exact ⟨.inr (by omega), by omega, by omega⟩
                    replace hsx := hsx.below hb5
                    have HS9 := Lib.hid (show Sl RRule w9 (fun b => (S b ∨ w.heap.size ≤ b) ∧ b ≠ w.heap.size ∧ b ≠ u4.heap.size) AG nG cG rs by rw [hw9]; exact (((hsx.keep (Kept.setCell _ _ _ _ fun h => h.2.2 rfl)).keep (Kept.setCell _ _ _ _ fun h => h.2.2 rfl)).keep (Kept.setCell _ _ _ _ fun h => h.2.2 rfl)).keep (Kept.setCell _ _ _ _ fun h => h.2.2 rfl))
                    clear hsx
                    clear hf hb9 hrr hw9
                    go_wp2_with fail
                    refine bodyPost_ret (v := .tuple #[.agg #[.int .i64 ga, .int .i64 gb, .int .i64 0, .slice AG nG cG], .bool true]) (by simp [results, Tryd.results31, go_sem, r0, r1, r2, r3]) rfl ?_
                    have hbF : Below w.heap.size w ((((w9.setCell ⟨w.heap.size, 0, none⟩ (.int .i64 ga)).setCell ⟨w.heap.size, 1, none⟩ (.int .i64 gb)).setCell ⟨w.heap.size, 2, none⟩ (.int .i64 0)).setCell ⟨w.heap.size, 3, none⟩ (.slice AG nG cG)) := ((((HB.out.trans (HWX.out.mono HB.out.size)).setCell (Nat.le_refl _) _).setCell (Nat.le_refl _) _).setCell (Nat.le_refl _) _).setCell (Nat.le_refl _) _
                    refine ⟨⟨ga, gb, 0, AG, nG, cG, true, rfl, fun h => ⟨rfl, rfl, rfl, rs, ?_, ?_⟩, fun h => by cases h⟩, hbF⟩
                    · rw [HTRY.out, show nL - k = (nL - (k + 1)) + 1 by omega, tryP, HWK.out]
                    · exact ((((HS9.out.keep (Kept.setCell _ _ _ _ fun h => h.2.1 rfl)).keep (Kept.setCell _ _ _ _ fun h => h.2.1 rfl)).keep (Kept.setCell _ _ _ _ fun h => h.2.1 rfl)).keep (Kept.setCell _ _ _ _ fun h => h.2.1 rfl)).more fun b hb => hb.1
                exact AllL.nil
              exact AllL.nil
            refine AllL.cons rfl (fun K hK => ?_) ?_
            · go_simp
              obtain ⟨u7, hu7⟩ : ∃ u : World, u = u3.alloc (.cells #[.int .i64 0, .int .i64 0, .int .i64 0, .slice none 0 0] 25) := ⟨_, rfl⟩
              rw [← hu7]
              have hb7 : Below u3.heap.size u3 u7 := by rw [hu7]; exact (Below.refl _ _).alloc (Nat.le_refl _) _
              have Hbox0 := Lib.hid (show u7.heap[u3.heap.size]? = some (.cells #[.int .i64 0, .int .i64 0, .int .i64 0, .slice none 0 0] 25 (0, 0)) by rw [hu7]; exact heap_alloc_new _ _)
              have hze7 : u7.heap.size = u3.heap.size + 1 := by rw [hu7]; simp
              have hzB7 := HB3.out.size
              have HB7 := Lib.hid (HB3.out.trans (hb7.mono HB3.out.size))
              have HO7 := Lib.hid (HO6.out.below hb7 (Nat.le_refl _))
              have hz7 := hb7.size
              have hzl7 : u3.heap.size < u7.heap.size := by omega
              clear hu7 hze7
              refine hK.out _ _ (HALL.out _ HB7.out) (fun _ => trivial) ?_
              clear hK K
              refine wpAnyL_ready (rs := [13]) (by kernel_rfl) (by simp) ?_
              refine AllL.cons rfl (fun K hK => ?_) ?_
              · go_simp
                have hrg : l.getD k (0, []) = r := by rw [List.getD_eq_getElem?_getD, HX.out]; rfl
                have hzB8 := HB7.out.size
                have HBT := Lib.hid (HB.out.trans (HB7.out.mono HB.out.size))
                have hcl : Cells RRule u7 (fun b => (S b ∨ w.heap.size ≤ b) ∧ b ≠ w.heap.size ∧ b ≠ u3.heap.size) (xs ++ [.int .i64 r.1, .slice A2' m2 c2']) (ch ++ [r]) := (((hcs.append (Cells.single (RRule.cells.2 ⟨A2', m2, c2', rfl, hrs⟩))).keep (Kept.below HB7.out)).more fun b hb => ⟨.inl hb.1, by omega, by omega⟩)
                have hsl6 : Sl RRule u7 (fun b => (S b ∨ w.heap.size ≤ b) ∧ b ≠ w.heap.size ∧ b ≠ u3.heap.size) A6 (ch.length + 1) c6 (ch ++ [r]) := ⟨_, by simp, hc6, (by refine Rd.more (HO7.out.rd.ne hc6 (HO7.out.ne Hbox0.out (by decide))) (fun b hb => ?_); have hb1 := hb.1; exact ⟨.inr (by omega), by omega, hb.2⟩), hcl⟩
                refine (IH.out u7 (HC3.out.below HB7.out) (k + 1) _ _ (by rw [IntKind.wrap_i64]; omega) (by rw [IntKind.wrap_i64, HLI.out]; have := HLN.out; omega) (by omega) (ch ++ [r]) A6 (ch.length + 1) c6 (fun b => (S b ∨ w.heap.size ≤ b) ∧ b ≠ w.heap.size ∧ b ≠ u3.heap.size) ((HSLL.out.fit.keep (Kept.below HBT.out)).more fun b hb => ⟨.inl hb.1, by omega, by omega⟩) hsl6 (by have := HLN.out; simp; omega) (fun t h1 h2 => ?_)).mono ?_
                · have := HV.out (r :: t) (by
                    have e : l.drop k = r :: l.drop (k + 1) := by rw [List.drop_eq_getElem_cons (by rw [← HL.out]; exact hlt)]; congr 1; have := HX.out; rw [List.getElem?_eq_getElem (by rw [← HL.out]; exact hlt)] at this; injection this
                    have h3 : (r :: t).Sublist (l.drop k) := by rw [e]; exact h1.cons_cons _
                    have e2 : l.drop k = (l.drop fr).drop (k - fr) := by rw [List.drop_drop]; congr 1; omega
                    rw [e2] at h3
                    exact h3.trans (List.drop_sublist _ _)) (by simp [h2])
                  simpa using this
                rintro e u8 ⟨⟨ga, gb, gs, AG, nG, cG, q, rfl, hq1, hq2⟩, hb8⟩
                rw [← hrg] at hq1 hq2
                have HQ1 := Lib.hid hq1
                have HQ2 := Lib.hid hq2
                clear hq1 hq2 hrg hcl hsl6
                have HB8 := Lib.hid (HB7.out.trans (hb8.mono HB7.out.size))
                have Hbox8 := Lib.hid ((hb8.block _ (heap_lt Hbox0.out)).trans Hbox0.out)
                have hz8 := hb8.size
                refine hK.out _ _ (HALL.out _ HB8.out) (fun _ => trivial) ?_
                clear hK K
                refine wpAnyL_pure (i := 14) rfl (by kernel_rfl) (fun _ _ _ h => h) (Or.inl ⟨by rfl, (fun u hu => by obtain ⟨k0, k1, k2, k3⟩ := hu; go_simp; try rfl)⟩) (HALL.out _ HB8.out) (fun _ => trivial) ?_
                simp only [Act.put, List.setIfInBounds_toArray, List.set_cons_zero, List.set_cons_succ, List.getElem_toArray, List.getElem_cons_zero, List.getElem_cons_succ]
                refine wpAnyL_pure (i := 15) rfl (by kernel_rfl) (fun _ _ _ h => h) (Or.inl ⟨by rfl, (fun u hu => by obtain ⟨k0, k1, k2, k3⟩ := hu; go_simp; try rfl)⟩) (HALL.out _ HB8.out) (fun _ => trivial) ?_
                simp only [Act.put, List.setIfInBounds_toArray, List.set_cons_zero, List.set_cons_succ, List.getElem_toArray, List.getElem_cons_zero, List.getElem_cons_succ]
                refine wpAnyL_pure (i := 16) rfl (by kernel_rfl) (fun _ _ _ h => h) (Or.inl ⟨by rfl, (fun u hu => by obtain ⟨k0, k1, k2, k3⟩ := hu; go_simp; try rfl)⟩) (HALL.out _ HB8.out) (fun _ => trivial) ?_
                simp only [Act.put, List.setIfInBounds_toArray, List.set_cons_zero, List.set_cons_succ, List.getElem_toArray, List.getElem_cons_zero, List.getElem_cons_succ]
                refine wpAnyL_ready (rs := [18]) (by kernel_rfl) (by simp) ?_
                refine AllL.cons rfl (fun K hK => ?_) ?_
                · have hbx := Hbox8.out
                  have hXl : w3.heap.size ≤ u3.heap.size := by have := HB8.out.size; omega
                  obtain ⟨b0, b1, b2, b3⟩ : u8.cell? ⟨u3.heap.size, 0, none⟩ = some (.int .i64 0) ∧ u8.cell? ⟨u3.heap.size, 1, none⟩ = some (.int .i64 0) ∧ u8.cell? ⟨u3.heap.size, 2, none⟩ = some (.int .i64 0) ∧ u8.cell? ⟨u3.heap.size, 3, none⟩ = some (.slice none 0 0) := by simp [World.cell?, hbx]
                  have hf : ∀ i, u8.frozen? ⟨u3.heap.size, i, none⟩ = false := fun i => by simp [World.frozen?, hbx]
                  have hf0 := hf 0
                  have hf1 := hf 1
                  have hf2 := hf 2
                  have hf3 := hf 3
                  clear hf
                  have HBX := Lib.hid hbx
                  have HWX := Lib.hid (show Below w3.heap.size w3 ((((u8.setCell ⟨u3.heap.size, 0, none⟩ (.int .i64 ga)).setCell ⟨u3.heap.size, 1, none⟩ (.int .i64 gb)).setCell ⟨u3.heap.size, 2, none⟩ (.int .i64 gs)).setCell ⟨u3.heap.size, 3, none⟩ (.slice AG nG cG)) from ((((HB8.out.setCell hXl _).setCell hXl _).setCell hXl _).setCell hXl _))
                  go_simp
                  clear hbx b0 b1 b2 b3 hf0 hf1 hf2 hf3
                  refine hK.out _ _ (HALL.out _ HWX.out) (fun _ => trivial) ?_
                  clear hK K
                  refine wpAnyL_pure (i := 19) rfl (by kernel_rfl) (fun _ _ _ h => h) (Or.inl ⟨by rfl, (fun u hu => by obtain ⟨k0, k1, k2, k3⟩ := hu; go_simp; try rfl)⟩) (HALL.out _ HWX.out) (fun _ => trivial) ?_
                  simp only [Act.put, List.setIfInBounds_toArray, List.set_cons_zero, List.set_cons_succ, List.getElem_toArray, List.getElem_cons_zero, List.getElem_cons_succ]
                  refine wpAnyL_done (by kernel_rfl) ?_ _
                  cases q with
                  | false =>
                    have HQF := Lib.hid (HQ2.out rfl)
                    clear HQ1 HQ2
                    go_wp2_with fail
                    go_roundg (nL - (k + 1))
                    case measure => rw [HGK.out]; omega
                    case rel => exact ⟨k + 1, by omega, by omega, rfl, by go_num, by rw [HTRY.out, show nL - k = (nL - (k + 1)) + 1 by omega, tryP, HQF.out], HBW.out.trans (HWX.out.mono hzr)⟩
                  | true =>
                    obtain ⟨rfl, rfl, rfl, rs, hw, hsl⟩ := HQ1.out rfl
                    have HWK := Lib.hid hw
                    have HSL := Lib.hid hsl
                    clear hw hsl HQ1 HQ2
                    obtain ⟨w9, hw9⟩ : ∃ w9 : World, w9 = ((((u8.setCell ⟨u3.heap.size, 0, none⟩ (.int .i64 ga)).setCell ⟨u3.heap.size, 1, none⟩ (.int .i64 gb)).setCell ⟨u3.heap.size, 2, none⟩ (.int .i64 0)).setCell ⟨u3.heap.size, 3, none⟩ (.slice AG nG cG)) := ⟨_, rfl⟩
                    rw [← hw9] at HWX ⊢
                    have hq9 : Below u8.heap.size u8 u8 := Below.refl _ _
                    have hb9 : w9.heap[u3.heap.size]? = some (.cells #[.int .i64 ga, .int .i64 gb, .int .i64 0, .slice AG nG cG] 25 (0, 0)) := by rw [hw9]; have := blk_set (blk_set (blk_set (blk_set HBX.out 0 (.int .i64 ga)) 1 (.int .i64 gb)) 2 (.int .i64 0)) 3 (.slice AG nG cG); simpa using this
                    obtain ⟨k0, k1, k2, k3⟩ : w9.cell? ⟨u3.heap.size, 0, none⟩ = some (.int .i64 ga) ∧ w9.cell? ⟨u3.heap.size, 1, none⟩ = some (.int .i64 gb) ∧ w9.cell? ⟨u3.heap.size, 2, none⟩ = some (.int .i64 0) ∧ w9.cell? ⟨u3.heap.size, 3, none⟩ = some (.slice AG nG cG) := by simp [World.cell?, hb9]
                    have hrr := (HWX.out.block _ (by omega)).trans HRR.out
                    obtain ⟨r0, r1, r2, r3⟩ : w9.cell? ⟨w.heap.size, 0, none⟩ = some (.int .i64 0) ∧ w9.cell? ⟨w.heap.size, 1, none⟩ = some (.int .i64 0) ∧ w9.cell? ⟨w.heap.size, 2, none⟩ = some (.int .i64 0) ∧ w9.cell? ⟨w.heap.size, 3, none⟩ = some (.slice none 0 0) := by simp [World.cell?, hrr]
                    have hf : ∀ i, w9.frozen? ⟨w.heap.size, i, none⟩ = false := fun i => by simp [World.frozen?, hrr]
                    have hf0 := hf 0
                    have hf1 := hf 1
                    have hf2 := hf 2
                    have hf3 := hf 3
                    have hsx : Sl RRule u8 (fun b => (S b ∨ w.heap.size ≤ b) ∧ b ≠ w.heap.size ∧ b ≠ u3.heap.size) AG nG cG rs := HSL.out.fit.more fun b hb => by
                      rcases hb with ⟨h | h, h2⟩
                      · have h3 := h.2
                        exact ⟨h.1, by omega, by omega⟩
                      · exact ⟨.inr (by omega), by omega, by omega⟩
                    have HS9 := Lib.hid (show Sl RRule w9 (fun b => (S b ∨ w.heap.size ≤ b) ∧ b ≠ w.heap.size ∧ b ≠ u3.heap.size) AG nG cG rs by rw [hw9]; exact (((hsx.keep (Kept.setCell _ _ _ _ fun h => h.2.2 rfl)).keep (Kept.setCell _ _ _ _ fun h => h.2.2 rfl)).keep (Kept.setCell _ _ _ _ fun h => h.2.2 rfl)).keep (Kept.setCell _ _ _ _ fun h => h.2.2 rfl))
                    clear hsx
                    clear hf hb9 hrr hw9
                    go_wp2_with fail
                    refine bodyPost_ret (v := .tuple #[.agg #[.int .i64 ga, .int .i64 gb, .int .i64 0, .slice AG nG cG], .bool true]) (by simp [results, Tryd.results31, go_sem, r0, r1, r2, r3]) rfl ?_
                    have hbF : Below w.heap.size w ((((w9.setCell ⟨w.heap.size, 0, none⟩ (.int .i64 ga)).setCell ⟨w.heap.size, 1, none⟩ (.int .i64 gb)).setCell ⟨w.heap.size, 2, none⟩ (.int .i64 0)).setCell ⟨w.heap.size, 3, none⟩ (.slice AG nG cG)) := ((((HB.out.trans (HWX.out.mono HB.out.size)).setCell (Nat.le_refl _) _).setCell (Nat.le_refl _) _).setCell (Nat.le_refl _) _).setCell (Nat.le_refl _) _
                    refine ⟨⟨ga, gb, 0, AG, nG, cG, true, rfl, fun h => ⟨rfl, rfl, rfl, rs, ?_, ?_⟩, fun h => by cases h⟩, hbF⟩
                    · rw [HTRY.out, show nL - k = (nL - (k + 1)) + 1 by omega, tryP, HWK.out]
                    · exact ((((HS9.out.keep (Kept.setCell _ _ _ _ fun h => h.2.1 rfl)).keep (Kept.setCell _ _ _ _ fun h => h.2.1 rfl)).keep (Kept.setCell _ _ _ _ fun h => h.2.1 rfl)).keep (Kept.setCell _ _ _ _ fun h => h.2.1 rfl)).more fun b hb => hb.1
                exact AllL.nil
              exact AllL.nil
            exact AllL.nil
          refine AllL.cons rfl (fun K hK => ?_) ?_
          · go_simp
            obtain ⟨u10, hu10⟩ : ∃ u : World, u = u2.alloc (.cells #[.int .i64 0, .int .i64 0, .int .i64 0, .slice none 0 0] 25) := ⟨_, rfl⟩
            rw [← hu10]
            have hb10 : Below u2.heap.size u2 u10 := by rw [hu10]; exact (Below.refl _ _).alloc (Nat.le_refl _) _
            have Hbox0 := Lib.hid (show u10.heap[u2.heap.size]? = some (.cells #[.int .i64 0, .int .i64 0, .int .i64 0, .slice none 0 0] 25 (0, 0)) by rw [hu10]; exact heap_alloc_new _ _)
            have hze10 : u10.heap.size = u2.heap.size + 1 := by rw [hu10]; simp
            have hzB10 := HB2.out.size
            have HB10 := Lib.hid (HB2.out.trans (hb10.mono HB2.out.size))
            have Hlit10 := Lib.hid ((hb10.block _ (heap_lt Hlit0.out)).trans Hlit0.out)
            have HO10 := Lib.hid (HO2.out.below hb10 (Nat.le_refl _))
            have hz10 := hb10.size
            have hzl10 : u2.heap.size < u10.heap.size := by omega
            clear hu10 hze10
            refine hK.out _ _ (HALL.out _ HB10.out) (fun _ => trivial) ?_
            clear hK K
            refine wpAnyL_ready (rs := [12]) (by kernel_rfl) (by simp) ?_
            refine AllL.cons rfl (fun K hK => ?_) ?_
            · have hzB11 := HB10.out.size
              obtain ⟨v6, u11, hrun, ho6, hg, _⟩ := run_append_Own tRules u10 23 w3.heap.size (.slice A5 ch.length c5) ch.length xs HO10.out (fun _ => True) (some ⟨u1.heap.size, 0, none⟩) 1 1 [.int .i64 r.1, .slice A2' m2 c2'] (rd_rule Hlit10.out) (one_rule _ _ _ _) (by unfold maxLen; omega) (by omega) (by omega)
              have hb11 : Below w3.heap.size u10 u11 := Below.own (Below.refl _ _) HO10.out hg (Nat.le_refl _) (by omega)
              obtain ⟨A6, c6, rfl, hc6, _⟩ := ho6.form
              have HRUN := Lib.hid hrun
              have HO6 := Lib.hid ho6
              have HB11 := Lib.hid (HB10.out.trans hb11)
              have hz11 := hg.size
              have Hbox11 := Lib.hid ((hg.block _ (heap_lt Hbox0.out) (fun e => HO10.out.ne Hbox0.out (by decide) e.symm)).trans Hbox0.out)
              clear hrun ho6 hg
              refine step_append_run _ (by rfl) _ _ _ _ (by rfl) _ _ (by rfl) (by rfl) _ _ HRUN.out ?_
              simp only [Act.put, List.setIfInBounds_toArray, List.set_cons_zero, List.set_cons_succ, List.getElem_toArray, List.getElem_cons_zero, List.getElem_cons_succ]
              refine hK.out _ _ (HALL.out _ HB11.out) (fun _ => trivial) ?_
              clear hK K
              refine wpAnyL_ready (rs := [13]) (by kernel_rfl) (by simp) ?_
              refine AllL.cons rfl (fun K hK => ?_) ?_
              · go_simp
                have hrg : l.getD k (0, []) = r := by rw [List.getD_eq_getElem?_getD, HX.out]; rfl
                have hzB12 := HB11.out.size
                have HBT := Lib.hid (HB.out.trans (HB11.out.mono HB.out.size))
                have hcl : Cells RRule u11 (fun b => (S b ∨ w.heap.size ≤ b) ∧ b ≠ w.heap.size ∧ b ≠ u2.heap.size) (xs ++ [.int .i64 r.1, .slice A2' m2 c2']) (ch ++ [r]) := (((hcs.append (Cells.single (RRule.cells.2 ⟨A2', m2, c2', rfl, hrs⟩))).keep (Kept.below HB11.out)).more fun b hb => ⟨.inl hb.1, by omega, by omega⟩)
                have hsl6 : Sl RRule u11 (fun b => (S b ∨ w.heap.size ≤ b) ∧ b ≠ w.heap.size ∧ b ≠ u2.heap.size) A6 (ch.length + 1) c6 (ch ++ [r]) := ⟨_, by simp, hc6, (by refine Rd.more (HO6.out.rd.ne hc6 (HO6.out.ne Hbox11.out (by decide))) (fun b hb => ?_); have hb1 := hb.1; exact ⟨.inr (by omega), by omega, hb.2⟩), hcl⟩
                refine (IH.out u11 (HC3.out.below HB11.out) (k + 1) _ _ (by rw [IntKind.wrap_i64]; omega) (by rw [IntKind.wrap_i64, HLI.out]; have := HLN.out; omega) (by omega) (ch ++ [r]) A6 (ch.length + 1) c6 (fun b => (S b ∨ w.heap.size ≤ b) ∧ b ≠ w.heap.size ∧ b ≠ u2.heap.size) ((HSLL.out.fit.keep (Kept.below HBT.out)).more fun b hb => ⟨.inl hb.1, by omega, by omega⟩) hsl6 (by have := HLN.out; simp; omega) (fun t h1 h2 => ?_)).mono ?_
                · have := HV.out (r :: t) (by
                    have e : l.drop k = r :: l.drop (k + 1) := by rw [List.drop_eq_getElem_cons (by rw [← HL.out]; exact hlt)]; congr 1; have := HX.out; rw [List.getElem?_eq_getElem (by rw [← HL.out]; exact hlt)] at this; injection this
                    have h3 : (r :: t).Sublist (l.drop k) := by rw [e]; exact h1.cons_cons _
                    have e2 : l.drop k = (l.drop fr).drop (k - fr) := by rw [List.drop_drop]; congr 1; omega
                    rw [e2] at h3
                    exact h3.trans (List.drop_sublist _ _)) (by simp [h2])
                  simpa using this
                rintro e u12 ⟨⟨ga, gb, gs, AG, nG, cG, q, rfl, hq1, hq2⟩, hb12⟩
                rw [← hrg] at hq1 hq2
                have HQ1 := Lib.hid hq1
                have HQ2 := Lib.hid hq2
                clear hq1 hq2 hrg hcl hsl6
                have HB12 := Lib.hid (HB11.out.trans (hb12.mono HB11.out.size))
                have Hbox12 := Lib.hid ((hb12.block _ (heap_lt Hbox11.out)).trans Hbox11.out)
                have hz12 := hb12.size
                refine hK.out _ _ (HALL.out _ HB12.out) (fun _ => trivial) ?_
                clear hK K
                refine wpAnyL_pure (i := 14) rfl (by kernel_rfl) (fun _ _ _ h => h) (Or.inl ⟨by rfl, (fun u hu => by obtain ⟨k0, k1, k2, k3⟩ := hu; go_simp; try rfl)⟩) (HALL.out _ HB12.out) (fun _ => trivial) ?_
                simp only [Act.put, List.setIfInBounds_toArray, List.set_cons_zero, List.set_cons_succ, List.getElem_toArray, List.getElem_cons_zero, List.getElem_cons_succ]
                refine wpAnyL_pure (i := 15) rfl (by kernel_rfl) (fun _ _ _ h => h) (Or.inl ⟨by rfl, (fun u hu => by obtain ⟨k0, k1, k2, k3⟩ := hu; go_simp; try rfl)⟩) (HALL.out _ HB12.out) (fun _ => trivial) ?_
                simp only [Act.put, List.setIfInBounds_toArray, List.set_cons_zero, List.set_cons_succ, List.getElem_toArray, List.getElem_cons_zero, List.getElem_cons_succ]
                refine wpAnyL_pure (i := 16) rfl (by kernel_rfl) (fun _ _ _ h => h) (Or.inl ⟨by rfl, (fun u hu => by obtain ⟨k0, k1, k2, k3⟩ := hu; go_simp; try rfl)⟩) (HALL.out _ HB12.out) (fun _ => trivial) ?_
                simp only [Act.put, List.setIfInBounds_toArray, List.set_cons_zero, List.set_cons_succ, List.getElem_toArray, List.getElem_cons_zero, List.getElem_cons_succ]
                refine wpAnyL_ready (rs := [18]) (by kernel_rfl) (by simp) ?_
                refine AllL.cons rfl (fun K hK => ?_) ?_
                · have hbx := Hbox12.out
                  have hXl : w3.heap.size ≤ u2.heap.size := by have := HB12.out.size; omega
                  obtain ⟨b0, b1, b2, b3⟩ : u12.cell? ⟨u2.heap.size, 0, none⟩ = some (.int .i64 0) ∧ u12.cell? ⟨u2.heap.size, 1, none⟩ = some (.int .i64 0) ∧ u12.cell? ⟨u2.heap.size, 2, none⟩ = some (.int .i64 0) ∧ u12.cell? ⟨u2.heap.size, 3, none⟩ = some (.slice none 0 0) := by simp [World.cell?, hbx]
                  have hf : ∀ i, u12.frozen? ⟨u2.heap.size, i, none⟩ = false := fun i => by simp [World.frozen?, hbx]
                  have hf0 := hf 0
                  have hf1 := hf 1
                  have hf2 := hf 2
                  have hf3 := hf 3
                  clear hf
                  have HBX := Lib.hid hbx
                  have HWX := Lib.hid (show Below w3.heap.size w3 ((((u12.setCell ⟨u2.heap.size, 0, none⟩ (.int .i64 ga)).setCell ⟨u2.heap.size, 1, none⟩ (.int .i64 gb)).setCell ⟨u2.heap.size, 2, none⟩ (.int .i64 gs)).setCell ⟨u2.heap.size, 3, none⟩ (.slice AG nG cG)) from ((((HB12.out.setCell hXl _).setCell hXl _).setCell hXl _).setCell hXl _))
                  go_simp
                  clear hbx b0 b1 b2 b3 hf0 hf1 hf2 hf3
                  refine hK.out _ _ (HALL.out _ HWX.out) (fun _ => trivial) ?_
                  clear hK K
                  refine wpAnyL_pure (i := 19) rfl (by kernel_rfl) (fun _ _ _ h => h) (Or.inl ⟨by rfl, (fun u hu => by obtain ⟨k0, k1, k2, k3⟩ := hu; go_simp; try rfl)⟩) (HALL.out _ HWX.out) (fun _ => trivial) ?_
                  simp only [Act.put, List.setIfInBounds_toArray, List.set_cons_zero, List.set_cons_succ, List.getElem_toArray, List.getElem_cons_zero, List.getElem_cons_succ]
                  refine wpAnyL_done (by kernel_rfl) ?_ _
                  cases q with
                  | false =>
                    have HQF := Lib.hid (HQ2.out rfl)
                    clear HQ1 HQ2
                    go_wp2_with fail
                    go_roundg (nL - (k + 1))
                    case measure => rw [HGK.out]; omega
                    case rel => exact ⟨k + 1, by omega, by omega, rfl, by go_num, by rw [HTRY.out, show nL - k = (nL - (k + 1)) + 1 by omega, tryP, HQF.out], HBW.out.trans (HWX.out.mono hzr)⟩
                  | true =>
                    obtain ⟨rfl, rfl, rfl, rs, hw, hsl⟩ := HQ1.out rfl
                    have HWK := Lib.hid hw
                    have HSL := Lib.hid hsl
                    clear hw hsl HQ1 HQ2
                    obtain ⟨w9, hw9⟩ : ∃ w9 : World, w9 = ((((u12.setCell ⟨u2.heap.size, 0, none⟩ (.int .i64 ga)).setCell ⟨u2.heap.size, 1, none⟩ (.int .i64 gb)).setCell ⟨u2.heap.size, 2, none⟩ (.int .i64 0)).setCell ⟨u2.heap.size, 3, none⟩ (.slice AG nG cG)) := ⟨_, rfl⟩
                    rw [← hw9] at HWX ⊢
                    have hq9 : Below u12.heap.size u12 u12 := Below.refl _ _
                    have hb9 : w9.heap[u2.heap.size]? = some (.cells #[.int .i64 ga, .int .i64 gb, .int .i64 0, .slice AG nG cG] 25 (0, 0)) := by rw [hw9]; have := blk_set (blk_set (blk_set (blk_set HBX.out 0 (.int .i64 ga)) 1 (.int .i64 gb)) 2 (.int .i64 0)) 3 (.slice AG nG cG); simpa using this
                    obtain ⟨k0, k1, k2, k3⟩ : w9.cell? ⟨u2.heap.size, 0, none⟩ = some (.int .i64 ga) ∧ w9.cell? ⟨u2.heap.size, 1, none⟩ = some (.int .i64 gb) ∧ w9.cell? ⟨u2.heap.size, 2, none⟩ = some (.int .i64 0) ∧ w9.cell? ⟨u2.heap.size, 3, none⟩ = some (.slice AG nG cG) := by simp [World.cell?, hb9]
                    have hrr := (HWX.out.block _ (by omega)).trans HRR.out
                    obtain ⟨r0, r1, r2, r3⟩ : w9.cell? ⟨w.heap.size, 0, none⟩ = some (.int .i64 0) ∧ w9.cell? ⟨w.heap.size, 1, none⟩ = some (.int .i64 0) ∧ w9.cell? ⟨w.heap.size, 2, none⟩ = some (.int .i64 0) ∧ w9.cell? ⟨w.heap.size, 3, none⟩ = some (.slice none 0 0) := by simp [World.cell?, hrr]
                    have hf : ∀ i, w9.frozen? ⟨w.heap.size, i, none⟩ = false := fun i => by simp [World.frozen?, hrr]
                    have hf0 := hf 0
                    have hf1 := hf 1
                    have hf2 := hf 2
                    have hf3 := hf 3
                    have hsx : Sl RRule u12 (fun b => (S b ∨ w.heap.size ≤ b) ∧ b ≠ w.heap.size ∧ b ≠ u2.heap.size) AG nG cG rs := HSL.out.fit.more fun b hb => by
                      rcases hb with ⟨h | h, h2⟩
                      · have h3 := h.2
                        exact ⟨h.1, by omega, by omega⟩
                      · exact ⟨.inr (by omega), by omega, by omega⟩
                    have HS9 := Lib.hid (show Sl RRule w9 (fun b => (S b ∨ w.heap.size ≤ b) ∧ b ≠ w.heap.size ∧ b ≠ u2.heap.size) AG nG cG rs by rw [hw9]; exact (((hsx.keep (Kept.setCell _ _ _ _ fun h => h.2.2 rfl)).keep (Kept.setCell _ _ _ _ fun h => h.2.2 rfl)).keep (Kept.setCell _ _ _ _ fun h => h.2.2 rfl)).keep (Kept.setCell _ _ _ _ fun h => h.2.2 rfl))
                    clear hsx
                    clear hf hb9 hrr hw9
                    go_wp2_with fail
                    refine bodyPost_ret (v := .tuple #[.agg #[.int .i64 ga, .int .i64 gb, .int .i64 0, .slice AG nG cG], .bool true]) (by simp [results, Tryd.results31, go_sem, r0, r1, r2, r3]) rfl ?_
                    have hbF : Below w.heap.size w ((((w9.setCell ⟨w.heap.size, 0, none⟩ (.int .i64 ga)).setCell ⟨w.heap.size, 1, none⟩ (.int .i64 gb)).setCell ⟨w.heap.size, 2, none⟩ (.int .i64 0)).setCell ⟨w.heap.size, 3, none⟩ (.slice AG nG cG)) := ((((HB.out.trans (HWX.out.mono HB.out.size)).setCell (Nat.le_refl _) _).setCell (Nat.le_refl _) _).setCell (Nat.le_refl _) _).setCell (Nat.le_refl _) _
                    refine ⟨⟨ga, gb, 0, AG, nG, cG, true, rfl, fun h => ⟨rfl, rfl, rfl, rs, ?_, ?_⟩, fun h => by cases h⟩, hbF⟩
                    · rw [HTRY.out, show nL - k = (nL - (k + 1)) + 1 by omega, tryP, HWK.out]
                    · exact ((((HS9.out.keep (Kept.setCell _ _ _ _ fun h => h.2.1 rfl)).keep (Kept.setCell _ _ _ _ fun h => h.2.1 rfl)).keep (Kept.setCell _ _ _ _ fun h => h.2.1 rfl)).keep (Kept.setCell _ _ _ _ fun h => h.2.1 rfl)).more fun b hb => hb.1
                exact AllL.nil
              exact AllL.nil
            exact AllL.nil
          exact AllL.nil
        refine AllL.cons rfl (fun K hK => ?_) ?_
        · go_simp
          obtain ⟨u14, hu14⟩ : ∃ u : World, u = u1.alloc (.cells #[.int .i64 0, .int .i64 0, .int .i64 0, .slice none 0 0] 25) := ⟨_, rfl⟩
          rw [← hu14]
          have hb14 : Below u1.heap.size u1 u14 := by rw [hu14]; exact (Below.refl _ _).alloc (Nat.le_refl _) _
          have Hbox0 := Lib.hid (show u14.heap[u1.heap.size]? = some (.cells #[.int .i64 0, .int .i64 0, .int .i64 0, .slice none 0 0] 25 (0, 0)) by rw [hu14]; exact heap_alloc_new _ _)
          have hze14 : u14.heap.size = u1.heap.size + 1 := by rw [hu14]; simp
          have hzB14 := HB1.out.size
          have HB14 := Lib.hid (HB1.out.trans (hb14.mono HB1.out.size))
          have HO14 := Lib.hid (HO1.out.below hb14 (Nat.le_refl _))
          have hz14 := hb14.size
          have hzl14 : u1.heap.size < u14.heap.size := by omega
          clear hu14 hze14
          refine hK.out _ _ (HALL.out _ HB14.out) (fun _ => trivial) ?_
          clear hK K
          refine wpAnyL_ready (rs := [11]) (by kernel_rfl) (by simp) ?_
          refine AllL.cons rfl (fun K hK => ?_) ?_
          · go_simp
            obtain ⟨u15, hu15⟩ : ∃ u : World, u = u14.alloc (.cells #[.int .i64 r.1, .slice A2' m2 c2'] 29) := ⟨_, rfl⟩
            rw [← hu15]
            have hb15 : Below u14.heap.size u14 u15 := by rw [hu15]; exact (Below.refl _ _).alloc (Nat.le_refl _) _
            have Hlit0 := Lib.hid (show u15.heap[u14.heap.size]? = some (.cells #[.int .i64 r.1, .slice A2' m2 c2'] 29 (0, 0)) by rw [hu15]; exact heap_alloc_new _ _)
            have hze15 : u15.heap.size = u14.heap.size + 1 := by rw [hu15]; simp
            have hzB15 := HB14.out.size
            have HB15 := Lib.hid (HB14.out.trans (hb15.mono HB14.out.size))
            have Hbox15 := Lib.hid ((hb15.block _ (heap_lt Hbox0.out)).trans Hbox0.out)
            have HO15 := Lib.hid (HO14.out.below hb15 (Nat.le_refl _))
            have hz15 := hb15.size
            have hzl15 : u14.heap.size < u15.heap.size := by omega
            clear hu15 hze15
            refine hK.out _ _ (HALL.out _ HB15.out) (fun _ => trivial) ?_
            clear hK K
            refine wpAnyL_ready (rs := [12]) (by kernel_rfl) (by simp) ?_
            refine AllL.cons rfl (fun K hK => ?_) ?_
            · have hzB16 := HB15.out.size
              obtain ⟨v6, u16, hrun, ho6, hg, _⟩ := run_append_Own tRules u15 23 w3.heap.size (.slice A5 ch.length c5) ch.length xs HO15.out (fun _ => True) (some ⟨u14.heap.size, 0, none⟩) 1 1 [.int .i64 r.1, .slice A2' m2 c2'] (rd_rule Hlit0.out) (one_rule _ _ _ _) (by unfold maxLen; omega) (by omega) (by omega)
              have hb16 : Below w3.heap.size u15 u16 := Below.own (Below.refl _ _) HO15.out hg (Nat.le_refl _) (by omega)
              obtain ⟨A6, c6, rfl, hc6, _⟩ := ho6.form
              have HRUN := Lib.hid hrun
              have HO6 := Lib.hid ho6
              have HB16 := Lib.hid (HB15.out.trans hb16)
              have hz16 := hg.size
              have Hbox16 := Lib.hid ((hg.block _ (heap_lt Hbox15.out) (fun e => HO15.out.ne Hbox15.out (by decide) e.symm)).trans Hbox15.out)
              clear hrun ho6 hg
              refine step_append_run _ (by rfl) _ _ _ _ (by rfl) _ _ (by rfl) (by rfl) _ _ HRUN.out ?_
              simp only [Act.put, List.setIfInBounds_toArray, List.set_cons_zero, List.set_cons_succ, List.getElem_toArray, List.getElem_cons_zero, List.getElem_cons_succ]
              refine hK.out _ _ (HALL.out _ HB16.out) (fun _ => trivial) ?_
              clear hK K
              refine wpAnyL_ready (rs := [13]) (by kernel_rfl) (by simp) ?_
              refine AllL.cons rfl (fun K hK => ?_) ?_
              · go_simp
                have hrg : l.getD k (0, []) = r := by rw [List.getD_eq_getElem?_getD, HX.out]; rfl
                have hzB17 := HB16.out.size
                have HBT := Lib.hid (HB.out.trans (HB16.out.mono HB.out.size))
                have hcl : Cells RRule u16 (fun b => (S b ∨ w.heap.size ≤ b) ∧ b ≠ w.heap.size ∧ b ≠ u1.heap.size) (xs ++ [.int .i64 r.1, .slice A2' m2 c2']) (ch ++ [r]) := (((hcs.append (Cells.single (RRule.cells.2 ⟨A2', m2, c2', rfl, hrs⟩))).keep (Kept.below HB16.out)).more fun b hb => ⟨.inl hb.1, by omega, by omega⟩)
                have hsl6 : Sl RRule u16 (fun b => (S b ∨ w.heap.size ≤ b) ∧ b ≠ w.heap.size ∧ b ≠ u1.heap.size) A6 (ch.length + 1) c6 (ch ++ [r]) := ⟨_, by simp, hc6, (by refine Rd.more (HO6.out.rd.ne hc6 (HO6.out.ne Hbox16.out (by decide))) (fun b hb => ?_); have hb1 := hb.1; exact ⟨.inr (by omega), by omega, hb.2⟩), hcl⟩
                refine (IH.out u16 (HC3.out.below HB16.out) (k + 1) _ _ (by rw [IntKind.wrap_i64]; omega) (by rw [IntKind.wrap_i64, HLI.out]; have := HLN.out; omega) (by omega) (ch ++ [r]) A6 (ch.length + 1) c6 (fun b => (S b ∨ w.heap.size ≤ b) ∧ b ≠ w.heap.size ∧ b ≠ u1.heap.size) ((HSLL.out.fit.keep (Kept.below HBT.out)).more fun b hb => ⟨.inl hb.1, by omega, by omega⟩) hsl6 (by have := HLN.out; simp; omega) (fun t h1 h2 => ?_)).mono ?_
                · have := HV.out (r :: t) (by
                    have e : l.drop k = r :: l.drop (k + 1) := by rw [List.drop_eq_getElem_cons (by rw [← HL.out]; exact hlt)]; congr 1; have := HX.out; rw [List.getElem?_eq_getElem (by rw [← HL.out]; exact hlt)] at this; injection this
                    have h3 : (r :: t).Sublist (l.drop k) := by rw [e]; exact h1.cons_cons _
                    have e2 : l.drop k = (l.drop fr).drop (k - fr) := by rw [List.drop_drop]; congr 1; omega
                    rw [e2] at h3
                    exact h3.trans (List.drop_sublist _ _)) (by simp [h2])
                  simpa using this
                rintro e u17 ⟨⟨ga, gb, gs, AG, nG, cG, q, rfl, hq1, hq2⟩, hb17⟩
                rw [← hrg] at hq1 hq2
                have HQ1 := Lib.hid hq1
                have HQ2 := Lib.hid hq2
                clear hq1 hq2 hrg hcl hsl6
                have HB17 := Lib.hid (HB16.out.trans (hb17.mono HB16.out.size))
                have Hbox17 := Lib.hid ((hb17.block _ (heap_lt Hbox16.out)).trans Hbox16.out)
                have hz17 := hb17.size
                refine hK.out _ _ (HALL.out _ HB17.out) (fun _ => trivial) ?_
                clear hK K
                refine wpAnyL_pure (i := 14) rfl (by kernel_rfl) (fun _ _ _ h => h) (Or.inl ⟨by rfl, (fun u hu => by obtain ⟨k0, k1, k2, k3⟩ := hu; go_simp; try rfl)⟩) (HALL.out _ HB17.out) (fun _ => trivial) ?_
                simp only [Act.put, List.setIfInBounds_toArray, List.set_cons_zero, List.set_cons_succ, List.getElem_toArray, List.getElem_cons_zero, List.getElem_cons_succ]
                refine wpAnyL_pure (i := 15) rfl (by kernel_rfl) (fun _ _ _ h => h) (Or.inl ⟨by rfl, (fun u hu => by obtain ⟨k0, k1, k2, k3⟩ := hu; go_simp; try rfl)⟩) (HALL.out _ HB17.out) (fun _ => trivial) ?_
                simp only [Act.put, List.setIfInBounds_toArray, List.set_cons_zero, List.set_cons_succ, List.getElem_toArray, List.getElem_cons_zero, List.getElem_cons_succ]
                refine wpAnyL_pure (i := 16) rfl (by kernel_rfl) (fun _ _ _ h => h) (Or.inl ⟨by rfl, (fun u hu => by obtain ⟨k0, k1, k2, k3⟩ := hu; go_simp; try rfl)⟩) (HALL.out _ HB17.out) (fun _ => trivial) ?_
                simp only [Act.put, List.setIfInBounds_toArray, List.set_cons_zero, List.set_cons_succ, List.getElem_toArray, List.getElem_cons_zero, List.getElem_cons_succ]
                refine wpAnyL_ready (rs := [18]) (by kernel_rfl) (by simp) ?_
                refine AllL.cons rfl (fun K hK => ?_) ?_
                · have hbx := Hbox17.out
                  have hXl : w3.heap.size ≤ u1.heap.size := by have := HB17.out.size; omega
                  obtain ⟨b0, b1, b2, b3⟩ : u17.cell? ⟨u1.heap.size, 0, none⟩ = some (.int .i64 0) ∧ u17.cell? ⟨u1.heap.size, 1, none⟩ = some (.int .i64 0) ∧ u17.cell? ⟨u1.heap.size, 2, none⟩ = some (.int .i64 0) ∧ u17.cell? ⟨u1.heap.size, 3, none⟩ = some (.slice none 0 0) := by simp [World.cell?, hbx]
                  have hf : ∀ i, u17.frozen? ⟨u1.heap.size, i, none⟩ = false := fun i => by simp [World.frozen?, hbx]
                  have hf0 := hf 0
                  have hf1 := hf 1
                  have hf2 := hf 2
                  have hf3 := hf 3
                  clear hf
                  have HBX := Lib.hid hbx
                  have HWX := Lib.hid (show Below w3.heap.size w3 ((((u17.setCell ⟨u1.heap.size, 0, none⟩ (.int .i64 ga)).setCell ⟨u1.heap.size, 1, none⟩ (.int .i64 gb)).setCell ⟨u1.heap.size, 2, none⟩ (.int .i64 gs)).setCell ⟨u1.heap.size, 3, none⟩ (.slice AG nG cG)) from ((((HB17.out.setCell hXl _).setCell hXl _).setCell hXl _).setCell hXl _))
                  go_simp
                  clear hbx b0 b1 b2 b3 hf0 hf1 hf2 hf3
                  refine hK.out _ _ (HALL.out _ HWX.out) (fun _ => trivial) ?_
                  clear hK K
                  refine wpAnyL_pure (i := 19) rfl (by kernel_rfl) (fun _ _ _ h => h) (Or.inl ⟨by rfl, (fun u hu => by obtain ⟨k0, k1, k2, k3⟩ := hu; go_simp; try rfl)⟩) (HALL.out _ HWX.out) (fun _ => trivial) ?_
                  simp only [Act.put, List.setIfInBounds_toArray, List.set_cons_zero, List.set_cons_succ, List.getElem_toArray, List.getElem_cons_zero, List.getElem_cons_succ]
                  refine wpAnyL_done (by kernel_rfl) ?_ _
                  cases q with
                  | false =>
                    have HQF := Lib.hid (HQ2.out rfl)
                    clear HQ1 HQ2
                    go_wp2_with fail
                    go_roundg (nL - (k + 1))
                    case measure => rw [HGK.out]; omega
                    case rel => exact ⟨k + 1, by omega, by omega, rfl, by go_num, by rw [HTRY.out, show nL - k = (nL - (k + 1)) + 1 by omega, tryP, HQF.out], HBW.out.trans (HWX.out.mono hzr)⟩
                  | true =>
                    obtain ⟨rfl, rfl, rfl, rs, hw, hsl⟩ := HQ1.out rfl
                    have HWK := Lib.hid hw
                    have HSL := Lib.hid hsl
                    clear hw hsl HQ1 HQ2
                    obtain ⟨w9, hw9⟩ : ∃ w9 : World, w9 = ((((u17.setCell ⟨u1.heap.size, 0, none⟩ (.int .i64 ga)).setCell ⟨u1.heap.size, 1, none⟩ (.int .i64 gb)).setCell ⟨u1.heap.size, 2, none⟩ (.int .i64 0)).setCell ⟨u1.heap.size, 3, none⟩ (.slice AG nG cG)) := ⟨_, rfl⟩
                    rw [← hw9] at HWX ⊢
                    have hq9 : Below u17.heap.size u17 u17 := Below.refl _ _
                    have hb9 : w9.heap[u1.heap.size]? = some (.cells #[.int .i64 ga, .int .i64 gb, .int .i64 0, .slice AG nG cG] 25 (0, 0)) := by rw [hw9]; have := blk_set (blk_set (blk_set (blk_set HBX.out 0 (.int .i64 ga)) 1 (.int .i64 gb)) 2 (.int .i64 0)) 3 (.slice AG nG cG); simpa using this
                    obtain ⟨k0, k1, k2, k3⟩ : w9.cell? ⟨u1.heap.size, 0, none⟩ = some (.int .i64 ga) ∧ w9.cell? ⟨u1.heap.size, 1, none⟩ = some (.int .i64 gb) ∧ w9.cell? ⟨u1.heap.size, 2, none⟩ = some (.int .i64 0) ∧ w9.cell? ⟨u1.heap.size, 3, none⟩ = some (.slice AG nG cG) := by simp [World.cell?, hb9]
                    have hrr := (HWX.out.block _ (by omega)).trans HRR.out
                    obtain ⟨r0, r1, r2, r3⟩ : w9.cell? ⟨w.heap.size, 0, none⟩ = some (.int .i64 0) ∧ w9.cell? ⟨w.heap.size, 1, none⟩ = some (.int .i64 0) ∧ w9.cell? ⟨w.heap.size, 2, none⟩ = some (.int .i64 0) ∧ w9.cell? ⟨w.heap.size, 3, none⟩ = some (.slice none 0 0) := by simp [World.cell?, hrr]
                    have hf : ∀ i, w9.frozen? ⟨w.heap.size, i, none⟩ = false := fun i => by simp [World.frozen?, hrr]
                    have hf0 := hf 0
                    have hf1 := hf 1
                    have hf2 := hf 2
                    have hf3 := hf 3
                    have hsx : Sl RRule u17 (fun b => (S b ∨ w.heap.size ≤ b) ∧ b ≠ w.heap.size ∧ b ≠ u1.heap.size) AG nG cG rs := HSL.out.fit.more fun b hb => by
                      rcases hb with ⟨h | h, h2⟩
                      · have h3 := h.2
                        exact ⟨h.1, by omega, by omega⟩
                      · exact ⟨.inr (by omega), by omega, by omega⟩
                    have HS9 := Lib.hid (show Sl RRule w9 (fun b => (S b ∨ w.heap.size ≤ b) ∧ b ≠ w.heap.size ∧ b ≠ u1.heap.size) AG nG cG rs by rw [hw9]; exact (((hsx.keep (Kept.setCell _ _ _ _ fun h => h.2.2 rfl)).keep (Kept.setCell _ _ _ _ fun h => h.2.2 rfl)).keep (Kept.setCell _ _ _ _ fun h => h.2.2 rfl)).keep (Kept.setCell _ _ _ _ fun h => h.2.2 rfl))
                    clear hsx
                    clear hf hb9 hrr hw9
                    go_wp2_with fail
                    refine bodyPost_ret (v := .tuple #[.agg #[.int .i64 ga, .int .i64 gb, .int .i64 0, .slice AG nG cG], .bool true]) (by simp [results, Tryd.results31, go_sem, r0, r1, r2, r3]) rfl ?_
                    have hbF : Below w.heap.size w ((((w9.setCell ⟨w.heap.size, 0, none⟩ (.int .i64 ga)).setCell ⟨w.heap.size, 1, none⟩ (.int .i64 gb)).setCell ⟨w.heap.size, 2, none⟩ (.int .i64 0)).setCell ⟨w.heap.size, 3, none⟩ (.slice AG nG cG)) := ((((HB.out.trans (HWX.out.mono HB.out.size)).setCell (Nat.le_refl _) _).setCell (Nat.le_refl _) _).setCell (Nat.le_refl _) _).setCell (Nat.le_refl _) _
                    refine ⟨⟨ga, gb, 0, AG, nG, cG, true, rfl, fun h => ⟨rfl, rfl, rfl, rs, ?_, ?_⟩, fun h => by cases h⟩, hbF⟩
                    · rw [HTRY.out, show nL - k = (nL - (k + 1)) + 1 by omega, tryP, HWK.out]
                    · exact ((((HS9.out.keep (Kept.setCell _ _ _ _ fun h => h.2.1 rfl)).keep (Kept.setCell _ _ _ _ fun h => h.2.1 rfl)).keep (Kept.setCell _ _ _ _ fun h => h.2.1 rfl)).keep (Kept.setCell _ _ _ _ fun h => h.2.1 rfl)).more fun b hb => hb.1
                exact AllL.nil
              exact AllL.nil
            exact AllL.nil
          exact AllL.nil
        exact AllL.nil
      refine AllL.cons rfl (fun K hK => ?_) ?_
      · go_simp
        obtain ⟨u19, hu19⟩ : ∃ u : World, u = w4.alloc (.cells #[.int .i64 r.1, .slice A2' m2 c2'] 29) := ⟨_, rfl⟩
        rw [← hu19]
        have hb19 : Below w4.heap.size w4 u19 := by rw [hu19]; exact (Below.refl _ _).alloc (Nat.le_refl _) _
        have Hlit0 := Lib.hid (show u19.heap[w4.heap.size]? = some (.cells #[.int .i64 r.1, .slice A2' m2 c2'] 29 (0, 0)) by rw [hu19]; exact heap_alloc_new _ _)
        have hze19 : u19.heap.size = w4.heap.size + 1 := by rw [hu19]; simp
        have hzB19 := HB0.out.size
        have HB19 := Lib.hid (HB0.out.trans (hb19.mono HB0.out.size))
        have hz19 := hb19.size
        have hzl19 : w4.heap.size < u19.heap.size := by omega
        clear hu19 hze19
        refine hK.out _ _ (HALL.out _ HB19.out) (fun _ => trivial) ?_
        clear hK K
        refine wpAnyL_ready (rs := [6, 17]) (by kernel_rfl) (by simp) ?_
        refine AllL.cons rfl (fun K hK => ?_) ?_
        · go_simp
          refine (cloneRule A ch.length c _ xs u19 (hrd.below HB19.out) (by omega)).mono ?_
          rintro e u20 ⟨v5, rfl, ho5, hb20⟩
          obtain ⟨A5, c5, rfl, hc5, _⟩ := ho5.form
          have hzB20 := HB19.out.size
          have HB20 := Lib.hid (HB19.out.trans (hb20.mono HB19.out.size))
          have Hlit20 := Lib.hid ((hb20.block _ (heap_lt Hlit0.out)).trans Hlit0.out)
          have hz20 := hb20.size
          have HO20 := Lib.hid (ho5.mono (base' := w3.heap.size) (by omega))
          clear ho5
          refine hK.out _ _ (HALL.out _ HB20.out) (fun _ => trivial) ?_
          clear hK K
          refine wpAnyL_ready (rs := [12, 17]) (by kernel_rfl) (by simp) ?_
          refine AllL.cons rfl (fun K hK => ?_) ?_
          · have hzB21 := HB20.out.size
            obtain ⟨v6, u21, hrun, ho6, hg, _⟩ := run_append_Own tRules u20 23 w3.heap.size (.slice A5 ch.length c5) ch.length xs HO20.out (fun _ => True) (some ⟨w4.heap.size, 0, none⟩) 1 1 [.int .i64 r.1, .slice A2' m2 c2'] (rd_rule Hlit20.out) (one_rule _ _ _ _) (by unfold maxLen; omega) (by omega) (by omega)
            have hb21 : Below w3.heap.size u20 u21 := Below.own (Below.refl _ _) HO20.out hg (Nat.le_refl _) (by omega)
            obtain ⟨A6, c6, rfl, hc6, _⟩ := ho6.form
            have HRUN := Lib.hid hrun
            have HO6 := Lib.hid ho6
            have HB21 := Lib.hid (HB20.out.trans hb21)
            have hz21 := hg.size
            clear hrun ho6 hg
            refine step_append_run _ (by rfl) _ _ _ _ (by rfl) _ _ (by rfl) (by rfl) _ _ HRUN.out ?_
            simp only [Act.put, List.setIfInBounds_toArray, List.set_cons_zero, List.set_cons_succ, List.getElem_toArray, List.getElem_cons_zero, List.getElem_cons_succ]
            refine hK.out _ _ (HALL.out _ HB21.out) (fun _ => trivial) ?_
            clear hK K
            refine wpAnyL_ready (rs := [13, 17]) (by kernel_rfl) (by simp) ?_
            refine AllL.cons rfl (fun K hK => ?_) ?_
            · go_simp
              have hrg : l.getD k (0, []) = r := by rw [List.getD_eq_getElem?_getD, HX.out]; rfl
              have hzB22 := HB21.out.size
              have HBT := Lib.hid (HB.out.trans (HB21.out.mono HB.out.size))
              have hcl : Cells RRule u21 (fun b => (S b ∨ w.heap.size ≤ b) ∧ b ≠ w.heap.size) (xs ++ [.int .i64 r.1, .slice A2' m2 c2']) (ch ++ [r]) := (((hcs.append (Cells.single (RRule.cells.2 ⟨A2', m2, c2', rfl, hrs⟩))).keep (Kept.below HB21.out)).more fun b hb => ⟨.inl hb.1, by omega⟩)
              have hsl6 : Sl RRule u21 (fun b => (S b ∨ w.heap.size ≤ b) ∧ b ≠ w.heap.size) A6 (ch.length + 1) c6 (ch ++ [r]) := ⟨_, by simp, hc6, (by refine Rd.more HO6.out.rd (fun b hb => ?_); exact ⟨.inr (by omega), by omega⟩), hcl⟩
              refine (IH.out u21 (HC3.out.below HB21.out) (k + 1) _ _ (by rw [IntKind.wrap_i64]; omega) (by rw [IntKind.wrap_i64, HLI.out]; have := HLN.out; omega) (by omega) (ch ++ [r]) A6 (ch.length + 1) c6 (fun b => (S b ∨ w.heap.size ≤ b) ∧ b ≠ w.heap.size) ((HSLL.out.fit.keep (Kept.below HBT.out)).more fun b hb => ⟨.inl hb.1, by omega⟩) hsl6 (by have := HLN.out; simp; omega) (fun t h1 h2 => ?_)).mono ?_
              · have := HV.out (r :: t) (by
                  have e : l.drop k = r :: l.drop (k + 1) := by rw [List.drop_eq_getElem_cons (by rw [← HL.out]; exact hlt)]; congr 1; have := HX.out; rw [List.getElem?_eq_getElem (by rw [← HL.out]; exact hlt)] at this; injection this
                  have h3 : (r :: t).Sublist (l.drop k) := by rw [e]; exact h1.cons_cons _
                  have e2 : l.drop k = (l.drop fr).drop (k - fr) := by rw [List.drop_drop]; congr 1; omega
                  rw [e2] at h3
                  exact h3.trans (List.drop_sublist _ _)) (by simp [h2])
                simpa using this
              rintro e u22 ⟨⟨ga, gb, gs, AG, nG, cG, q, rfl, hq1, hq2⟩, hb22⟩
              rw [← hrg] at hq1 hq2
              have HQ1 := Lib.hid hq1
              have HQ2 := Lib.hid hq2
              clear hq1 hq2 hrg hcl hsl6
              have HB22 := Lib.hid (HB21.out.trans (hb22.mono HB21.out.size))
              have hz22 := hb22.size
              refine hK.out _ _ (HALL.out _ HB22.out) (fun _ => trivial) ?_
              clear hK K
              refine wpAnyL_pure (i := 14) rfl (by kernel_rfl) (fun _ _ _ h => h) (Or.inl ⟨by rfl, (fun u hu => by obtain ⟨k0, k1, k2, k3⟩ := hu; go_simp; try rfl)⟩) (HALL.out _ HB22.out) (fun _ => trivial) ?_
              simp only [Act.put, List.setIfInBounds_toArray, List.set_cons_zero, List.set_cons_succ, List.getElem_toArray, List.getElem_cons_zero, List.getElem_cons_succ]
              refine wpAnyL_pure (i := 15) rfl (by kernel_rfl) (fun _ _ _ h => h) (Or.inl ⟨by rfl, (fun u hu => by obtain ⟨k0, k1, k2, k3⟩ := hu; go_simp; try rfl)⟩) (HALL.out _ HB22.out) (fun _ => trivial) ?_
              simp only [Act.put, List.setIfInBounds_toArray, List.set_cons_zero, List.set_cons_succ, List.getElem_toArray, List.getElem_cons_zero, List.getElem_cons_succ]
              refine wpAnyL_pure (i := 16) rfl (by kernel_rfl) (fun _ _ _ h => h) (Or.inl ⟨by rfl, (fun u hu => by obtain ⟨k0, k1, k2, k3⟩ := hu; go_simp; try rfl)⟩) (HALL.out _ HB22.out) (fun _ => trivial) ?_
              simp only [Act.put, List.setIfInBounds_toArray, List.set_cons_zero, List.set_cons_succ, List.getElem_toArray, List.getElem_cons_zero, List.getElem_cons_succ]
              refine wpAnyL_ready (rs := [17]) (by kernel_rfl) (by simp) ?_
              refine AllL.cons rfl (fun K hK => ?_) ?_
              · go_simp
                obtain ⟨u23, hu23⟩ : ∃ u : World, u = u22.alloc (.cells #[.int .i64 0, .int .i64 0, .int .i64 0, .slice none 0 0] 25) := ⟨_, rfl⟩
                rw [← hu23]
                have hb23 : Below u22.heap.size u22 u23 := by rw [hu23]; exact (Below.refl _ _).alloc (Nat.le_refl _) _
                have Hbox0 := Lib.hid (show u23.heap[u22.heap.size]? = some (.cells #[.int .i64 0, .int .i64 0, .int .i64 0, .slice none 0 0] 25 (0, 0)) by rw [hu23]; exact heap_alloc_new _ _)
                have hze23 : u23.heap.size = u22.heap.size + 1 := by rw [hu23]; simp
                have hzB23 := HB22.out.size
                have HB23 := Lib.hid (HB22.out.trans (hb23.mono HB22.out.size))
                have hz23 := hb23.size
                have hzl23 : u22.heap.size < u23.heap.size := by omega
                clear hu23 hze23
                refine hK.out _ _ (HALL.out _ HB23.out) (fun _ => trivial) ?_
                clear hK K
                refine wpAnyL_ready (rs := [18]) (by kernel_rfl) (by simp) ?_
                refine AllL.cons rfl (fun K hK => ?_) ?_
                · have hbx := Hbox0.out
                  have hXl : w3.heap.size ≤ u22.heap.size := by have := HB23.out.size; omega
                  obtain ⟨b0, b1, b2, b3⟩ : u23.cell? ⟨u22.heap.size, 0, none⟩ = some (.int .i64 0) ∧ u23.cell? ⟨u22.heap.size, 1, none⟩ = some (.int .i64 0) ∧ u23.cell? ⟨u22.heap.size, 2, none⟩ = some (.int .i64 0) ∧ u23.cell? ⟨u22.heap.size, 3, none⟩ = some (.slice none 0 0) := by simp [World.cell?, hbx]
                  have hf : ∀ i, u23.frozen? ⟨u22.heap.size, i, none⟩ = false := fun i => by simp [World.frozen?, hbx]
                  have hf0 := hf 0
                  have hf1 := hf 1
                  have hf2 := hf 2
                  have hf3 := hf 3
                  clear hf
                  have HBX := Lib.hid hbx
                  have HWX := Lib.hid (show Below w3.heap.size w3 ((((u23.setCell ⟨u22.heap.size, 0, none⟩ (.int .i64 ga)).setCell ⟨u22.heap.size, 1, none⟩ (.int .i64 gb)).setCell ⟨u22.heap.size, 2, none⟩ (.int .i64 gs)).setCell ⟨u22.heap.size, 3, none⟩ (.slice AG nG cG)) from ((((HB23.out.setCell hXl _).setCell hXl _).setCell hXl _).setCell hXl _))
                  go_simp
                  clear hbx b0 b1 b2 b3 hf0 hf1 hf2 hf3
                  refine hK.out _ _ (HALL.out _ HWX.out) (fun _ => trivial) ?_
                  clear hK K
                  refine wpAnyL_pure (i := 19) rfl (by kernel_rfl) (fun _ _ _ h => h) (Or.inl ⟨by rfl, (fun u hu => by obtain ⟨k0, k1, k2, k3⟩ := hu; go_simp; try rfl)⟩) (HALL.out _ HWX.out) (fun _ => trivial) ?_
                  simp only [Act.put, List.setIfInBounds_toArray, List.set_cons_zero, List.set_cons_succ, List.getElem_toArray, List.getElem_cons_zero, List.getElem_cons_succ]
                  refine wpAnyL_done (by kernel_rfl) ?_ _
                  cases q with
                  | false =>
                    have HQF := Lib.hid (HQ2.out rfl)
                    clear HQ1 HQ2
                    go_wp2_with fail
                    go_roundg (nL - (k + 1))
                    case measure => rw [HGK.out]; omega
                    case rel => exact ⟨k + 1, by omega, by omega, rfl, by go_num, by rw [HTRY.out, show nL - k = (nL - (k + 1)) + 1 by omega, tryP, HQF.out], HBW.out.trans (HWX.out.mono hzr)⟩
                  | true =>
                    obtain ⟨rfl, rfl, rfl, rs, hw, hsl⟩ := HQ1.out rfl
                    have HWK := Lib.hid hw
                    have HSL := Lib.hid hsl
                    clear hw hsl HQ1 HQ2
                    obtain ⟨w9, hw9⟩ : ∃ w9 : World, w9 = ((((u23.setCell ⟨u22.heap.size, 0, none⟩ (.int .i64 ga)).setCell ⟨u22.heap.size, 1, none⟩ (.int .i64 gb)).setCell ⟨u22.heap.size, 2, none⟩ (.int .i64 0)).setCell ⟨u22.heap.size, 3, none⟩ (.slice AG nG cG)) := ⟨_, rfl⟩
                    rw [← hw9] at HWX ⊢
                    have hq9 : Below u23.heap.size u23 u23 := Below.refl _ _
                    have hb9 : w9.heap[u22.heap.size]? = some (.cells #[.int .i64 ga, .int .i64 gb, .int .i64 0, .slice AG nG cG] 25 (0, 0)) := by rw [hw9]; have := blk_set (blk_set (blk_set (blk_set HBX.out 0 (.int .i64 ga)) 1 (.int .i64 gb)) 2 (.int .i64 0)) 3 (.slice AG nG cG); simpa using this
                    obtain ⟨k0, k1, k2, k3⟩ : w9.cell? ⟨u22.heap.size, 0, none⟩ = some (.int .i64 ga) ∧ w9.cell? ⟨u22.heap.size, 1, none⟩ = some (.int .i64 gb) ∧ w9.cell? ⟨u22.heap.size, 2, none⟩ = some (.int .i64 0) ∧ w9.cell? ⟨u22.heap.size, 3, none⟩ = some (.slice AG nG cG) := by simp [World.cell?, hb9]
                    have hrr := (HWX.out.block _ (by omega)).trans HRR.out
                    obtain ⟨r0, r1, r2, r3⟩ : w9.cell? ⟨w.heap.size, 0, none⟩ = some (.int .i64 0) ∧ w9.cell? ⟨w.heap.size, 1, none⟩ = some (.int .i64 0) ∧ w9.cell? ⟨w.heap.size, 2, none⟩ = some (.int .i64 0) ∧ w9.cell? ⟨w.heap.size, 3, none⟩ = some (.slice none 0 0) := by simp [World.cell?, hrr]
                    have hf : ∀ i, w9.frozen? ⟨w.heap.size, i, none⟩ = false := fun i => by simp [World.frozen?, hrr]
                    have hf0 := hf 0
                    have hf1 := hf 1
                    have hf2 := hf 2
                    have hf3 := hf 3
                    have hsx : Sl RRule u22 (fun b => (S b ∨ w.heap.size ≤ b) ∧ b ≠ w.heap.size ∧ b ≠ u22.heap.size) AG nG cG rs := HSL.out.fit.more fun b hb => by
                      rcases hb with ⟨h | h, h2⟩
                      · have h3 := h.2
                        exact ⟨h.1, by omega, by omega⟩
                      · exact ⟨.inr (by omega), by omega, by omega⟩
                    replace hsx := hsx.below hb23
                    have HS9 := Lib.hid (show Sl RRule w9 (fun b => (S b ∨ w.heap.size ≤ b) ∧ b ≠ w.heap.size ∧ b ≠ u22.heap.size) AG nG cG rs by rw [hw9]; exact (((hsx.keep (Kept.setCell _ _ _ _ fun h => h.2.2 rfl)).keep (Kept.setCell _ _ _ _ fun h => h.2.2 rfl)).keep (Kept.setCell _ _ _ _ fun h => h.2.2 rfl)).keep (Kept.setCell _ _ _ _ fun h => h.2.2 rfl))
                    clear hsx
                    clear hf hb9 hrr hw9
                    go_wp2_with fail
                    refine bodyPost_ret (v := .tuple #[.agg #[.int .i64 ga, .int .i64 gb, .int .i64 0, .slice AG nG cG], .bool true]) (by simp [results, Tryd.results31, go_sem, r0, r1, r2, r3]) rfl ?_
                    have hbF : Below w.heap.size w ((((w9.setCell ⟨w.heap.size, 0, none⟩ (.int .i64 ga)).setCell ⟨w.heap.size, 1, none⟩ (.int .i64 gb)).setCell ⟨w.heap.size, 2, none⟩ (.int .i64 0)).setCell ⟨w.heap.size, 3, none⟩ (.slice AG nG cG)) := ((((HB.out.trans (HWX.out.mono HB.out.size)).setCell (Nat.le_refl _) _).setCell (Nat.le_refl _) _).setCell (Nat.le_refl _) _).setCell (Nat.le_refl _) _
                    refine ⟨⟨ga, gb, 0, AG, nG, cG, true, rfl, fun h => ⟨rfl, rfl, rfl, rs, ?_, ?_⟩, fun h => by cases h⟩, hbF⟩
                    · rw [HTRY.out, show nL - k = (nL - (k + 1)) + 1 by omega, tryP, HWK.out]
                    · exact ((((HS9.out.keep (Kept.setCell _ _ _ _ fun h => h.2.1 rfl)).keep (Kept.setCell _ _ _ _ fun h => h.2.1 rfl)).keep (Kept.setCell _ _ _ _ fun h => h.2.1 rfl)).keep (Kept.setCell _ _ _ _ fun h => h.2.1 rfl)).more fun b hb => hb.1
                exact AllL.nil
              exact AllL.nil
            refine AllL.cons rfl (fun K hK => ?_) ?_
            · go_simp
              obtain ⟨u25, hu25⟩ : ∃ u : World, u = u21.alloc (.cells #[.int .i64 0, .int .i64 0, .int .i64 0, .slice none 0 0] 25) := ⟨_, rfl⟩
              rw [← hu25]
              have hb25 : Below u21.heap.size u21 u25 := by rw [hu25]; exact (Below.refl _ _).alloc (Nat.le_refl _) _
              have Hbox0 := Lib.hid (show u25.heap[u21.heap.size]? = some (.cells #[.int .i64 0, .int .i64 0, .int .i64 0, .slice none 0 0] 25 (0, 0)) by rw [hu25]; exact heap_alloc_new _ _)
              have hze25 : u25.heap.size = u21.heap.size + 1 := by rw [hu25]; simp
              have hzB25 := HB21.out.size
              have HB25 := Lib.hid (HB21.out.trans (hb25.mono HB21.out.size))
              have HO25 := Lib.hid (HO6.out.below hb25 (Nat.le_refl _))
              have hz25 := hb25.size
              have hzl25 : u21.heap.size < u25.heap.size := by omega
              clear hu25 hze25
              refine hK.out _ _ (HALL.out _ HB25.out) (fun _ => trivial) ?_
              clear hK K
              refine wpAnyL_ready (rs := [13]) (by kernel_rfl) (by simp) ?_
              refine AllL.cons rfl (fun K hK => ?_) ?_
              · go_simp
                have hrg : l.getD k (0, []) = r := by rw [List.getD_eq_getElem?_getD, HX.out]; rfl
                have hzB26 := HB25.out.size
                have HBT := Lib.hid (HB.out.trans (HB25.out.mono HB.out.size))
                have hcl : Cells RRule u25 (fun b => (S b ∨ w.heap.size ≤ b) ∧ b ≠ w.heap.size ∧ b ≠ u21.heap.size) (xs ++ [.int .i64 r.1, .slice A2' m2 c2']) (ch ++ [r]) := (((hcs.append (Cells.single (RRule.cells.2 ⟨A2', m2, c2', rfl, hrs⟩))).keep (Kept.below HB25.out)).more fun b hb => ⟨.inl hb.1, by omega, by omega⟩)
                have hsl6 : Sl RRule u25 (fun b => (S b ∨ w.heap.size ≤ b) ∧ b ≠ w.heap.size ∧ b ≠ u21.heap.size) A6 (ch.length + 1) c6 (ch ++ [r]) := ⟨_, by simp, hc6, (by refine Rd.more (HO25.out.rd.ne hc6 (HO25.out.ne Hbox0.out (by decide))) (fun b hb => ?_); have hb1 := hb.1; exact ⟨.inr (by omega), by omega, hb.2⟩), hcl⟩
                refine (IH.out u25 (HC3.out.below HB25.out) (k + 1) _ _ (by rw [IntKind.wrap_i64]; omega) (by rw [IntKind.wrap_i64, HLI.out]; have := HLN.out; omega) (by omega) (ch ++ [r]) A6 (ch.length + 1) c6 (fun b => (S b ∨ w.heap.size ≤ b) ∧ b ≠ w.heap.size ∧ b ≠ u21.heap.size) ((HSLL.out.fit.keep (Kept.below HBT.out)).more fun b hb => ⟨.inl hb.1, by omega, by omega⟩) hsl6 (by have := HLN.out; simp; omega) (fun t h1 h2 => ?_)).mono ?_
                · have := HV.out (r :: t) (by
                    have e : l.drop k = r :: l.drop (k + 1) := by rw [List.drop_eq_getElem_cons (by rw [← HL.out]; exact hlt)]; congr 1; have := HX.out; rw [List.getElem?_eq_getElem (by rw [← HL.out]; exact hlt)] at this; injection this
                    have h3 : (r :: t).Sublist (l.drop k) := by rw [e]; exact h1.cons_cons _
                    have e2 : l.drop k = (l.drop fr).drop (k - fr) := by rw [List.drop_drop]; congr 1; omega
                    rw [e2] at h3
                    exact h3.trans (List.drop_sublist _ _)) (by simp [h2])
                  simpa using this
                rintro e u26 ⟨⟨ga, gb, gs, AG, nG, cG, q, rfl, hq1, hq2⟩, hb26⟩
                rw [← hrg] at hq1 hq2
                have HQ1 := Lib.hid hq1
                have HQ2 := Lib.hid hq2
                clear hq1 hq2 hrg hcl hsl6
                have HB26 := Lib.hid (HB25.out.trans (hb26.mono HB25.out.size))
                have Hbox26 := Lib.hid ((hb26.block _ (heap_lt Hbox0.out)).trans Hbox0.out)
                have hz26 := hb26.size
                refine hK.out _ _ (HALL.out _ HB26.out) (fun _ => trivial) ?_
                clear hK K
                refine wpAnyL_pure (i := 14) rfl (by kernel_rfl) (fun _ _ _ h => h) (Or.inl ⟨by rfl, (fun u hu => by obtain ⟨k0, k1, k2, k3⟩ := hu; go_simp; try rfl)⟩) (HALL.out _ HB26.out) (fun _ => trivial) ?_
                simp only [Act.put, List.setIfInBounds_toArray, List.set_cons_zero, List.set_cons_succ, List.getElem_toArray, List.getElem_cons_zero, List.getElem_cons_succ]
                refine wpAnyL_pure (i := 15) rfl (by kernel_rfl) (fun _ _ _ h => h) (Or.inl ⟨by rfl, (fun u hu => by obtain ⟨k0, k1, k2, k3⟩ := hu; go_simp; try rfl)⟩) (HALL.out _ HB26.out) (fun _ => trivial) ?_
                simp only [Act.put, List.setIfInBounds_toArray, List.set_cons_zero, List.set_cons_succ, List.getElem_toArray, List.getElem_cons_zero, List.getElem_cons_succ]
                refine wpAnyL_pure (i := 16) rfl (by kernel_rfl) (fun _ _ _ h => h) (Or.inl ⟨by rfl, (fun u hu => by obtain ⟨k0, k1, k2, k3⟩ := hu; go_simp; try rfl)⟩) (HALL.out _ HB26.out) (fun _ => trivial) ?_
                simp only [Act.put, List.setIfInBounds_toArray, List.set_cons_zero, List.set_cons_succ, List.getElem_toArray, List.getElem_cons_zero, List.getElem_cons_succ]
                refine wpAnyL_ready (rs := [18]) (by kernel_rfl) (by simp) ?_
                refine AllL.cons rfl (fun K hK => ?_) ?_
                · have hbx := Hbox26.out
                  have hXl : w3.heap.size ≤ u21.heap.size := by have := HB26.out.size; omega
                  obtain ⟨b0, b1, b2, b3⟩ : u26.cell? ⟨u21.heap.size, 0, none⟩ = some (.int .i64 0) ∧ u26.cell? ⟨u21.heap.size, 1, none⟩ = some (.int .i64 0) ∧ u26.cell? ⟨u21.heap.size, 2, none⟩ = some (.int .i64 0) ∧ u26.cell? ⟨u21.heap.size, 3, none⟩ = some (.slice none 0 0) := by simp [World.cell?, hbx]
                  have hf : ∀ i, u26.frozen? ⟨u21.heap.size, i, none⟩ = false := fun i => by simp [World.frozen?, hbx]
                  have hf0 := hf 0
                  have hf1 := hf 1
                  have hf2 := hf 2
                  have hf3 := hf 3
                  clear hf
                  have HBX := Lib.hid hbx
                  have HWX := Lib.hid (show Below w3.heap.size w3 ((((u26.setCell ⟨u21.heap.size, 0, none⟩ (.int .i64 ga)).setCell ⟨u21.heap.size, 1, none⟩ (.int .i64 gb)).setCell ⟨u21.heap.size, 2, none⟩ (.int .i64 gs)).setCell ⟨u21.heap.size, 3, none⟩ (.slice AG nG cG)) from ((((HB26.out.setCell hXl _).setCell hXl _).setCell hXl _).setCell hXl _))
                  go_simp
                  clear hbx b0 b1 b2 b3 hf0 hf1 hf2 hf3
                  refine hK.out _ _ (HALL.out _ HWX.out) (fun _ => trivial) ?_
                  clear hK K
                  refine wpAnyL_pure (i := 19) rfl (by kernel_rfl) (fun _ _ _ h => h) (Or.inl ⟨by rfl, (fun u hu => by obtain ⟨k0, k1, k2, k3⟩ := hu; go_simp; try rfl)⟩) (HALL.out _ HWX.out) (fun _ => trivial) ?_
                  simp only [Act.put, List.setIfInBounds_toArray, List.set_cons_zero, List.set_cons_succ, List.getElem_toArray, List.getElem_cons_zero, List.getElem_cons_succ]
                  refine wpAnyL_done (by kernel_rfl) ?_ _
                  cases q with
                  | false =>
                    have HQF := Lib.hid (HQ2.out rfl)
                    clear HQ1 HQ2
                    go_wp2_with fail
                    go_roundg (nL - (k + 1))
                    case measure => rw [HGK.out]; omega
                    case rel => exact ⟨k + 1, by omega, by omega, rfl, by go_num, by rw [HTRY.out, show nL - k = (nL - (k + 1)) + 1 by omega, tryP, HQF.out], HBW.out.trans (HWX.out.mono hzr)⟩
                  | true =>
                    obtain ⟨rfl, rfl, rfl, rs, hw, hsl⟩ := HQ1.out rfl
                    have HWK := Lib.hid hw
                    have HSL := Lib.hid hsl
                    clear hw hsl HQ1 HQ2
                    obtain ⟨w9, hw9⟩ : ∃ w9 : World, w9 = ((((u26.setCell ⟨u21.heap.size, 0, none⟩ (.int .i64 ga)).setCell ⟨u21.heap.size, 1, none⟩ (.int .i64 gb)).setCell ⟨u21.heap.size, 2, none⟩ (.int .i64 0)).setCell ⟨u21.heap.size, 3, none⟩ (.slice AG nG cG)) := ⟨_, rfl⟩
                    rw [← hw9] at HWX ⊢
                    have hq9 : Below u26.heap.size u26 u26 := Below.refl _ _
                    have hb9 : w9.heap[u21.heap.size]? = some (.cells #[.int .i64 ga, .int .i64 gb, .int .i64 0, .slice AG nG cG] 25 (0, 0)) := by rw [hw9]; have := blk_set (blk_set (blk_set (blk_set HBX.out 0 (.int .i64 ga)) 1 (.int .i64 gb)) 2 (.int .i64 0)) 3 (.slice AG nG cG); simpa using this
                    obtain ⟨k0, k1, k2, k3⟩ : w9.cell? ⟨u21.heap.size, 0, none⟩ = some (.int .i64 ga) ∧ w9.cell? ⟨u21.heap.size, 1, none⟩ = some (.int .i64 gb) ∧ w9.cell? ⟨u21.heap.size, 2, none⟩ = some (.int .i64 0) ∧ w9.cell? ⟨u21.heap.size, 3, none⟩ = some (.slice AG nG cG) := by simp [World.cell?, hb9]
                    have hrr := (HWX.out.block _ (by omega)).trans HRR.out
                    obtain ⟨r0, r1, r2, r3⟩ : w9.cell? ⟨w.heap.size, 0, none⟩ = some (.int .i64 0) ∧ w9.cell? ⟨w.heap.size, 1, none⟩ = some (.int .i64 0) ∧ w9.cell? ⟨w.heap.size, 2, none⟩ = some (.int .i64 0) ∧ w9.cell? ⟨w.heap.size, 3, none⟩ = some (.slice none 0 0) := by simp [World.cell?, hrr]
                    have hf : ∀ i, w9.frozen? ⟨w.heap.size, i, none⟩ = false := fun i => by simp [World.frozen?, hrr]
                    have hf0 := hf 0
                    have hf1 := hf 1
                    have hf2 := hf 2
                    have hf3 := hf 3
                    have hsx : Sl RRule u26 (fun b => (S b ∨ w.heap.size ≤ b) ∧ b ≠ w.heap.size ∧ b ≠ u21.heap.size) AG nG cG rs := HSL.out.fit.more fun b hb => by
                      rcases hb with ⟨h | h, h2⟩
                      · have h3 := h.2
                        exact ⟨h.1, by omega, by omega⟩
                      · exact ⟨.inr (by omega), by omega, by omega⟩
                    have HS9 := Lib.hid (show Sl RRule w9 (fun b => (S b ∨ w.heap.size ≤ b) ∧ b ≠ w.heap.size ∧ b ≠ u21.heap.size) AG nG cG rs by rw [hw9]; exact (((hsx.keep (Kept.setCell _ _ _ _ fun h => h.2.2 rfl)).keep (Kept.setCell _ _ _ _ fun h => h.2.2 rfl)).keep (Kept.setCell _ _ _ _ fun h => h.2.2 rfl)).keep (Kept.setCell _ _ _ _ fun h => h.2.2 rfl))
                    clear hsx
                    clear hf hb9 hrr hw9
                    go_wp2_with fail
                    refine bodyPost_ret (v := .tuple #[.agg #[.int .i64 ga, .int .i64 gb, .int .i64 0, .slice AG nG cG], .bool true]) (by simp [results, Tryd.results31, go_sem, r0, r1, r2, r3]) rfl ?_
                    have hbF : Below w.heap.size w ((((w9.setCell ⟨w.heap.size, 0, none⟩ (.int .i64 ga)).setCell ⟨w.heap.size, 1, none⟩ (.int .i64 gb)).setCell ⟨w.heap.size, 2, none⟩ (.int .i64 0)).setCell ⟨w.heap.size, 3, none⟩ (.slice AG nG cG)) := ((((HB.out.trans (HWX.out.mono HB.out.size)).setCell (Nat.le_refl _) _).setCell (Nat.le_refl _) _).setCell (Nat.le_refl _) _).setCell (Nat.le_refl _) _
                    refine ⟨⟨ga, gb, 0, AG, nG, cG, true, rfl, fun h => ⟨rfl, rfl, rfl, rs, ?_, ?_⟩, fun h => by cases h⟩, hbF⟩
                    · rw [HTRY.out, show nL - k = (nL - (k + 1)) + 1 by omega, tryP, HWK.out]
                    · exact ((((HS9.out.keep (Kept.setCell _ _ _ _ fun h => h.2.1 rfl)).keep (Kept.setCell _ _ _ _ fun h => h.2.1 rfl)).keep (Kept.setCell _ _ _ _ fun h => h.2.1 rfl)).keep (Kept.setCell _ _ _ _ fun h => h.2.1 rfl)).more fun b hb => hb.1
                exact AllL.nil
              exact AllL.nil
            exact AllL.nil
          refine AllL.cons rfl (fun K hK => ?_) ?_
          · go_simp
            obtain ⟨u28, hu28⟩ : ∃ u : World, u = u20.alloc (.cells #[.int .i64 0, .int .i64 0, .int .i64 0, .slice none 0 0] 25) := ⟨_, rfl⟩
            rw [← hu28]
            have hb28 : Below u20.heap.size u20 u28 := by rw [hu28]; exact (Below.refl _ _).alloc (Nat.le_refl _) _
            have Hbox0 := Lib.hid (show u28.heap[u20.heap.size]? = some (.cells #[.int .i64 0, .int .i64 0, .int .i64 0, .slice none 0 0] 25 (0, 0)) by rw [hu28]; exact heap_alloc_new _ _)
            have hze28 : u28.heap.size = u20.heap.size + 1 := by rw [hu28]; simp
            have hzB28 := HB20.out.size
            have HB28 := Lib.hid (HB20.out.trans (hb28.mono HB20.out.size))
            have Hlit28 := Lib.hid ((hb28.block _ (heap_lt Hlit20.out)).trans Hlit20.out)
            have HO28 := Lib.hid (HO20.out.below hb28 (Nat.le_refl _))
            have hz28 := hb28.size
            have hzl28 : u20.heap.size < u28.heap.size := by omega
            clear hu28 hze28
            refine hK.out _ _ (HALL.out _ HB28.out) (fun _ => trivial) ?_
            clear hK K
            refine wpAnyL_ready (rs := [12]) (by kernel_rfl) (by simp) ?_
            refine AllL.cons rfl (fun K hK => ?_) ?_
            · have hzB29 := HB28.out.size
              obtain ⟨v6, u29, hrun, ho6, hg, _⟩ := run_append_Own tRules u28 23 w3.heap.size (.slice A5 ch.length c5) ch.length xs HO28.out (fun _ => True) (some ⟨w4.heap.size, 0, none⟩) 1 1 [.int .i64 r.1, .slice A2' m2 c2'] (rd_rule Hlit28.out) (one_rule _ _ _ _) (by unfold maxLen; omega) (by omega) (by omega)
              have hb29 : Below w3.heap.size u28 u29 := Below.own (Below.refl _ _) HO28.out hg (Nat.le_refl _) (by omega)
              obtain ⟨A6, c6, rfl, hc6, _⟩ := ho6.form
              have HRUN := Lib.hid hrun
              have HO6 := Lib.hid ho6
              have HB29 := Lib.hid (HB28.out.trans hb29)
              have hz29 := hg.size
              have Hbox29 := Lib.hid ((hg.block _ (heap_lt Hbox0.out) (fun e => HO28.out.ne Hbox0.out (by decide) e.symm)).trans Hbox0.out)
              clear hrun ho6 hg
              refine step_append_run _ (by rfl) _ _ _ _ (by rfl) _ _ (by rfl) (by rfl) _ _ HRUN.out ?_
              simp only [Act.put, List.setIfInBounds_toArray, List.set_cons_zero, List.set_cons_succ, List.getElem_toArray, List.getElem_cons_zero, List.getElem_cons_succ]
              refine hK.out _ _ (HALL.out _ HB29.out) (fun _ => trivial) ?_
              clear hK K
              refine wpAnyL_ready (rs := [13]) (by kernel_rfl) (by simp) ?_
              refine AllL.cons rfl (fun K hK => ?_) ?_
              · go_simp
                have hrg : l.getD k (0, []) = r := by rw [List.getD_eq_getElem?_getD, HX.out]; rfl
                have hzB30 := HB29.out.size
                have HBT := Lib.hid (HB.out.trans (HB29.out.mono HB.out.size))
                have hcl : Cells RRule u29 (fun b => (S b ∨ w.heap.size ≤ b) ∧ b ≠ w.heap.size ∧ b ≠ u20.heap.size) (xs ++ [.int .i64 r.1, .slice A2' m2 c2']) (ch ++ [r]) := (((hcs.append (Cells.single (RRule.cells.2 ⟨A2', m2, c2', rfl, hrs⟩))).keep (Kept.below HB29.out)).more fun b hb => ⟨.inl hb.1, by omega, by omega⟩)
                have hsl6 : Sl RRule u29 (fun b => (S b ∨ w.heap.size ≤ b) ∧ b ≠ w.heap.size ∧ b ≠ u20.heap.size) A6 (ch.length + 1) c6 (ch ++ [r]) := ⟨_, by simp, hc6, (by refine Rd.more (HO6.out.rd.ne hc6 (HO6.out.ne Hbox29.out (by decide))) (fun b hb => ?_); have hb1 := hb.1; exact ⟨.inr (by omega), by omega, hb.2⟩), hcl⟩
                refine (IH.out u29 (HC3.out.below HB29.out) (k + 1) _ _ (by rw [IntKind.wrap_i64]; omega) (by rw [IntKind.wrap_i64, HLI.out]; have := HLN.out; omega) (by omega) (ch ++ [r]) A6 (ch.length + 1) c6 (fun b => (S b ∨ w.heap.size ≤ b) ∧ b ≠ w.heap.size ∧ b ≠ u20.heap.size) ((HSLL.out.fit.keep (Kept.below HBT.out)).more fun b hb => ⟨.inl hb.1, by omega, by omega⟩) hsl6 (by have := HLN.out; simp; omega) (fun t h1 h2 => ?_)).mono ?_
                · have := HV.out (r :: t) (by
                    have e : l.drop k = r :: l.drop (k + 1) := by rw [List.drop_eq_getElem_cons (by rw [← HL.out]; exact hlt)]; congr 1; have := HX.out; rw [List.getElem?_eq_getElem (by rw [← HL.out]; exact hlt)] at this; injection this
                    have h3 : (r :: t).Sublist (l.drop k) := by rw [e]; exact h1.cons_cons _
                    have e2 : l.drop k = (l.drop fr).drop (k - fr) := by rw [List.drop_drop]; congr 1; omega
                    rw [e2] at h3
                    exact h3.trans (List.drop_sublist _ _)) (by simp [h2])
                  simpa using this
                rintro e u30 ⟨⟨ga, gb, gs, AG, nG, cG, q, rfl, hq1, hq2⟩, hb30⟩
                rw [← hrg] at hq1 hq2
                have HQ1 := Lib.hid hq1
                have HQ2 := Lib.hid hq2
                clear hq1 hq2 hrg hcl hsl6
                have HB30 := Lib.hid (HB29.out.trans (hb30.mono HB29.out.size))
                have Hbox30 := Lib.hid ((hb30.block _ (heap_lt Hbox29.out)).trans Hbox29.out)
                have hz30 := hb30.size
                refine hK.out _ _ (HALL.out _ HB30.out) (fun _ => trivial) ?_
                clear hK K
                refine wpAnyL_pure (i := 14) rfl (by kernel_rfl) (fun _ _ _ h => h) (Or.inl ⟨by rfl, (fun u hu => by obtain ⟨k0, k1, k2, k3⟩ := hu; go_simp; try rfl)⟩) (HALL.out _ HB30.out) (fun _ => trivial) ?_
                simp only [Act.put, List.setIfInBounds_toArray, List.set_cons_zero, List.set_cons_succ, List.getElem_toArray, List.getElem_cons_zero, List.getElem_cons_succ]
                refine wpAnyL_pure (i := 15) rfl (by kernel_rfl) (fun _ _ _ h => h) (Or.inl ⟨by rfl, (fun u hu => by obtain ⟨k0, k1, k2, k3⟩ := hu; go_simp; try rfl)⟩) (HALL.out _ HB30.out) (fun _ => trivial) ?_
                simp only [Act.put, List.setIfInBounds_toArray, List.set_cons_zero, List.set_cons_succ, List.getElem_toArray, List.getElem_cons_zero, List.getElem_cons_succ]
                refine wpAnyL_pure (i := 16) rfl (by kernel_rfl) (fun _ _ _ h => h) (Or.inl ⟨by rfl, (fun u hu => by obtain ⟨k0, k1, k2, k3⟩ := hu; go_simp; try rfl)⟩) (HALL.out _ HB30.out) (fun _ => trivial) ?_
                simp only [Act.put, List.setIfInBounds_toArray, List.set_cons_zero, List.set_cons_succ, List.getElem_toArray, List.getElem_cons_zero, List.getElem_cons_succ]
                refine wpAnyL_ready (rs := [18]) (by kernel_rfl) (by simp) ?_
                refine AllL.cons rfl (fun K hK => ?_) ?_
                · have hbx := Hbox30.out
                  have hXl : w3.heap.size ≤ u20.heap.size := by have := HB30.out.size; omega
                  obtain ⟨b0, b1, b2, b3⟩ : u30.cell? ⟨u20.heap.size, 0, none⟩ = some (.int .i64 0) ∧ u30.cell? ⟨u20.heap.size, 1, none⟩ = some (.int .i64 0) ∧ u30.cell? ⟨u20.heap.size, 2, none⟩ = some (.int .i64 0) ∧ u30.cell? ⟨u20.heap.size, 3, none⟩ = some (.slice none 0 0) := by simp [World.cell?, hbx]
                  have hf : ∀ i, u30.frozen? ⟨u20.heap.size, i, none⟩ = false := fun i => by simp [World.frozen?, hbx]
                  have hf0 := hf 0
                  have hf1 := hf 1
                  have hf2 := hf 2
                  have hf3 := hf 3
                  clear hf
                  have HBX := Lib.hid hbx
                  have HWX := Lib.hid (show Below w3.heap.size w3 ((((u30.setCell ⟨u20.heap.size, 0, none⟩ (.int .i64 ga)).setCell ⟨u20.heap.size, 1, none⟩ (.int .i64 gb)).setCell ⟨u20.heap.size, 2, none⟩ (.int .i64 gs)).setCell ⟨u20.heap.size, 3, none⟩ (.slice AG nG cG)) from ((((HB30.out.setCell hXl _).setCell hXl _).setCell hXl _).setCell hXl _))
                  go_simp
                  clear hbx b0 b1 b2 b3 hf0 hf1 hf2 hf3
                  refine hK.out _ _ (HALL.out _ HWX.out) (fun _ => trivial) ?_
                  clear hK K
                  refine wpAnyL_pure (i := 19) rfl (by kernel_rfl) (fun _ _ _ h => h) (Or.inl ⟨by rfl, (fun u hu => by obtain ⟨k0, k1, k2, k3⟩ := hu; go_simp; try rfl)⟩) (HALL.out _ HWX.out) (fun _ => trivial) ?_
                  simp only [Act.put, List.setIfInBounds_toArray, List.set_cons_zero, List.set_cons_succ, List.getElem_toArray, List.getElem_cons_zero, List.getElem_cons_succ]
                  refine wpAnyL_done (by kernel_rfl) ?_ _
                  cases q with
                  | false =>
                    have HQF := Lib.hid (HQ2.out rfl)
                    clear HQ1 HQ2
                    go_wp2_with fail
                    go_roundg (nL - (k + 1))
                    case measure => rw [HGK.out]; omega
                    case rel => exact ⟨k + 1, by omega, by omega, rfl, by go_num, by rw [HTRY.out, show nL - k = (nL - (k + 1)) + 1 by omega, tryP, HQF.out], HBW.out.trans (HWX.out.mono hzr)⟩
                  | true =>
                    obtain ⟨rfl, rfl, rfl, rs, hw, hsl⟩ := HQ1.out rfl
                    have HWK := Lib.hid hw
                    have HSL := Lib.hid hsl
                    clear hw hsl HQ1 HQ2
                    obtain ⟨w9, hw9⟩ : ∃ w9 : World, w9 = ((((u30.setCell ⟨u20.heap.size, 0, none⟩ (.int .i64 ga)).setCell ⟨u20.heap.size, 1, none⟩ (.int .i64 gb)).setCell ⟨u20.heap.size, 2, none⟩ (.int .i64 0)).setCell ⟨u20.heap.size, 3, none⟩ (.slice AG nG cG)) := ⟨_, rfl⟩
                    rw [← hw9] at HWX ⊢
                    have hq9 : Below u30.heap.size u30 u30 := Below.refl _ _
                    have hb9 : w9.heap[u20.heap.size]? = some (.cells #[.int .i64 ga, .int .i64 gb, .int .i64 0, .slice AG nG cG] 25 (0, 0)) := by rw [hw9]; have := blk_set (blk_set (blk_set (blk_set HBX.out 0 (.int .i64 ga)) 1 (.int .i64 gb)) 2 (.int .i64 0)) 3 (.slice AG nG cG); simpa using this
                    obtain ⟨k0, k1, k2, k3⟩ : w9.cell? ⟨u20.heap.size, 0, none⟩ = some (.int .i64 ga) ∧ w9.cell? ⟨u20.heap.size, 1, none⟩ = some (.int .i64 gb) ∧ w9.cell? ⟨u20.heap.size, 2, none⟩ = some (.int .i64 0) ∧ w9.cell? ⟨u20.heap.size, 3, none⟩ = some (.slice AG nG cG) := by simp [World.cell?, hb9]
                    have hrr := (HWX.out.block _ (by omega)).trans HRR.out
                    obtain ⟨r0, r1, r2, r3⟩ : w9.cell? ⟨w.heap.size, 0, none⟩ = some (.int .i64 0) ∧ w9.cell? ⟨w.heap.size, 1, none⟩ = some (.int .i64 0) ∧ w9.cell? ⟨w.heap.size, 2, none⟩ = some (.int .i64 0) ∧ w9.cell? ⟨w.heap.size, 3, none⟩ = some (.slice none 0 0) := by simp [World.cell?, hrr]
                    have hf : ∀ i, w9.frozen? ⟨w.heap.size, i, none⟩ = false := fun i => by simp [World.frozen?, hrr]
                    have hf0 := hf 0
                    have hf1 := hf 1
                    have hf2 := hf 2
                    have hf3 := hf 3
                    have hsx : Sl RRule u30 (fun b => (S b ∨ w.heap.size ≤ b) ∧ b ≠ w.heap.size ∧ b ≠ u20.heap.size) AG nG cG rs := HSL.out.fit.more fun b hb => by
                      rcases hb with ⟨h | h, h2⟩
                      · have h3 := h.2
                        exact ⟨h.1, by omega, by omega⟩
                      · exact ⟨.inr (by omega), by omega, by omega⟩
                    have HS9 := Lib.hid (show Sl RRule w9 (fun b => (S b ∨ w.heap.size ≤ b) ∧ b ≠ w.heap.size ∧ b ≠ u20.heap.size) AG nG cG rs by rw [hw9]; exact (((hsx.keep (Kept.setCell _ _ _ _ fun h => h.2.2 rfl)).keep (Kept.setCell _ _ _ _ fun h => h.2.2 rfl)).keep (Kept.setCell _ _ _ _ fun h => h.2.2 rfl)).keep (Kept.setCell _ _ _ _ fun h => h.2.2 rfl))
                    clear hsx
                    clear hf hb9 hrr hw9
                    go_wp2_with fail
                    refine bodyPost_ret (v := .tuple #[.agg #[.int .i64 ga, .int .i64 gb, .int .i64 0, .slice AG nG cG], .bool true]) (by simp [results, Tryd.results31, go_sem, r0, r1, r2, r3]) rfl ?_
                    have hbF : Below w.heap.size w ((((w9.setCell ⟨w.heap.size, 0, none⟩ (.int .i64 ga)).setCell ⟨w.heap.size, 1, none⟩ (.int .i64 gb)).setCell ⟨w.heap.size, 2, none⟩ (.int .i64 0)).setCell ⟨w.heap.size, 3, none⟩ (.slice AG nG cG)) := ((((HB.out.trans (HWX.out.mono HB.out.size)).setCell (Nat.le_refl _) _).setCell (Nat.le_refl _) _).setCell (Nat.le_refl _) _).setCell (Nat.le_refl _) _
                    refine ⟨⟨ga, gb, 0, AG, nG, cG, true, rfl, fun h => ⟨rfl, rfl, rfl, rs, ?_, ?_⟩, fun h => by cases h⟩, hbF⟩
                    · rw [HTRY.out, show nL - k = (nL - (k + 1)) + 1 by omega, tryP, HWK.out]
                    · exact ((((HS9.out.keep (Kept.setCell _ _ _ _ fun h => h.2.1 rfl)).keep (Kept.setCell _ _ _ _ fun h => h.2.1 rfl)).keep (Kept.setCell _ _ _ _ fun h => h.2.1 rfl)).keep (Kept.setCell _ _ _ _ fun h => h.2.1 rfl)).more fun b hb => hb.1
                exact AllL.nil
              exact AllL.nil
            exact AllL.nil
          exact AllL.nil
        refine AllL.cons rfl (fun K hK => ?_) ?_
        · go_simp
          obtain ⟨u32, hu32⟩ : ∃ u : World, u = u19.alloc (.cells #[.int .i64 0, .int .i64 0, .int .i64 0, .slice none 0 0] 25) := ⟨_, rfl⟩
          rw [← hu32]
          have hb32 : Below u19.heap.size u19 u32 := by rw [hu32]; exact (Below.refl _ _).alloc (Nat.le_refl _) _
          have Hbox0 := Lib.hid (show u32.heap[u19.heap.size]? = some (.cells #[.int .i64 0, .int .i64 0, .int .i64 0, .slice none 0 0] 25 (0, 0)) by rw [hu32]; exact heap_alloc_new _ _)
          have hze32 : u32.heap.size = u19.heap.size + 1 := by rw [hu32]; simp
          have hzB32 := HB19.out.size
          have HB32 := Lib.hid (HB19.out.trans (hb32.mono HB19.out.size))
          have Hlit32 := Lib.hid ((hb32.block _ (heap_lt Hlit0.out)).trans Hlit0.out)
          have hz32 := hb32.size
          have hzl32 : u19.heap.size < u32.heap.size := by omega
          clear hu32 hze32
          refine hK.out _ _ (HALL.out _ HB32.out) (fun _ => trivial) ?_
          clear hK K
          refine wpAnyL_ready (rs := [6]) (by kernel_rfl) (by simp) ?_
          refine AllL.cons rfl (fun K hK => ?_) ?_
          · go_simp
            refine (cloneRule A ch.length c _ xs u32 (hrd.below HB32.out) (by omega)).mono ?_
            rintro e u33 ⟨v5, rfl, ho5, hb33⟩
            obtain ⟨A5, c5, rfl, hc5, _⟩ := ho5.form
            have hzB33 := HB32.out.size
            have HB33 := Lib.hid (HB32.out.trans (hb33.mono HB32.out.size))
            have Hlit33 := Lib.hid ((hb33.block _ (heap_lt Hlit32.out)).trans Hlit32.out)
            have Hbox33 := Lib.hid ((hb33.block _ (heap_lt Hbox0.out)).trans Hbox0.out)
            have hz33 := hb33.size
            have HO33 := Lib.hid (ho5.mono (base' := w3.heap.size) (by omega))
            clear ho5
            refine hK.out _ _ (HALL.out _ HB33.out) (fun _ => trivial) ?_
            clear hK K
            refine wpAnyL_ready (rs := [12]) (by kernel_rfl) (by simp) ?_
            refine AllL.cons rfl (fun K hK => ?_) ?_
            · have hzB34 := HB33.out.size
              obtain ⟨v6, u34, hrun, ho6, hg, _⟩ := run_append_Own tRules u33 23 w3.heap.size (.slice A5 ch.length c5) ch.length xs HO33.out (fun _ => True) (some ⟨w4.heap.size, 0, none⟩) 1 1 [.int .i64 r.1, .slice A2' m2 c2'] (rd_rule Hlit33.out) (one_rule _ _ _ _) (by unfold maxLen; omega) (by omega) (by omega)
              have hb34 : Below w3.heap.size u33 u34 := Below.own (Below.refl _ _) HO33.out hg (Nat.le_refl _) (by omega)
              obtain ⟨A6, c6, rfl, hc6, _⟩ := ho6.form
              have HRUN := Lib.hid hrun
              have HO6 := Lib.hid ho6
              have HB34 := Lib.hid (HB33.out.trans hb34)
              have hz34 := hg.size
              have Hbox34 := Lib.hid ((hg.block _ (heap_lt Hbox33.out) (fun e => HO33.out.ne Hbox33.out (by decide) e.symm)).trans Hbox33.out)
              clear hrun ho6 hg
              refine step_append_run _ (by rfl) _ _ _ _ (by rfl) _ _ (by rfl) (by rfl) _ _ HRUN.out ?_
              simp only [Act.put, List.setIfInBounds_toArray, List.set_cons_zero, List.set_cons_succ, List.getElem_toArray, List.getElem_cons_zero, List.getElem_cons_succ]
              refine hK.out _ _ (HALL.out _ HB34.out) (fun _ => trivial) ?_
              clear hK K
              refine wpAnyL_ready (rs := [13]) (by kernel_rfl) (by simp) ?_
              refine AllL.cons rfl (fun K hK => ?_) ?_
              · go_simp
                have hrg : l.getD k (0, []) = r := by rw [List.getD_eq_getElem?_getD, HX.out]; rfl
                have hzB35 := HB34.out.size
                have HBT := Lib.hid (HB.out.trans (HB34.out.mono HB.out.size))
                have hcl : Cells RRule u34 (fun b => (S b ∨ w.heap.size ≤ b) ∧ b ≠ w.heap.size ∧ b ≠ u19.heap.size) (xs ++ [.int .i64 r.1, .slice A2' m2 c2']) (ch ++ [r]) := (((hcs.append (Cells.single (RRule.cells.2 ⟨A2', m2, c2', rfl, hrs⟩))).keep (Kept.below HB34.out)).more fun b hb => ⟨.inl hb.1, by omega, by omega⟩)
                have hsl6 : Sl RRule u34 (fun b => (S b ∨ w.heap.size ≤ b) ∧ b ≠ w.heap.size ∧ b ≠ u19.heap.size) A6 (ch.length + 1) c6 (ch ++ [r]) := ⟨_, by simp, hc6, (by refine Rd.more (HO6.out.rd.ne hc6 (HO6.out.ne Hbox34.out (by decide))) (fun b hb => ?_); have hb1 := hb.1; exact ⟨.inr (by omega), by omega, hb.2⟩), hcl⟩
                refine (IH.out u34 (HC3.out.below HB34.out) (k + 1) _ _ (by rw [IntKind.wrap_i64]; omega) (by rw [IntKind.wrap_i64, HLI.out]; have := HLN.out; omega) (by omega) (ch ++ [r]) A6 (ch.length + 1) c6 (fun b => (S b ∨ w.heap.size ≤ b) ∧ b ≠ w.heap.size ∧ b ≠ u19.heap.size) ((HSLL.out.fit.keep (Kept.below HBT.out)).more fun b hb => ⟨.inl hb.1, by omega, by omega⟩) hsl6 (by have := HLN.out; simp; omega) (fun t h1 h2 => ?_)).mono ?_
                · have := HV.out (r :: t) (by
                    have e : l.drop k = r :: l.drop (k + 1) := by rw [List.drop_eq_getElem_cons (by rw [← HL.out]; exact hlt)]; congr 1; have := HX.out; rw [List.getElem?_eq_getElem (by rw [← HL.out]; exact hlt)] at this; injection this
                    have h3 : (r :: t).Sublist (l.drop k) := by rw [e]; exact h1.cons_cons _
                    have e2 : l.drop k = (l.drop fr).drop (k - fr) := by rw [List.drop_drop]; congr 1; omega
                    rw [e2] at h3
                    exact h3.trans (List.drop_sublist _ _)) (by simp [h2])
                  simpa using this
                rintro e u35 ⟨⟨ga, gb, gs, AG, nG, cG, q, rfl, hq1, hq2⟩, hb35⟩
                rw [← hrg] at hq1 hq2
                have HQ1 := Lib.hid hq1
                have HQ2 := Lib.hid hq2
                clear hq1 hq2 hrg hcl hsl6
                have HB35 := Lib.hid (HB34.out.trans (hb35.mono HB34.out.size))
                have Hbox35 := Lib.hid ((hb35.block _ (heap_lt Hbox34.out)).trans Hbox34.out)
                have hz35 := hb35.size
                refine hK.out _ _ (HALL.out _ HB35.out) (fun _ => trivial) ?_
                clear hK K
                refine wpAnyL_pure (i := 14) rfl (by kernel_rfl) (fun _ _ _ h => h) (Or.inl ⟨by rfl, (fun u hu => by obtain ⟨k0, k1, k2, k3⟩ := hu; go_simp; try rfl)⟩) (HALL.out _ HB35.out) (fun _ => trivial) ?_
                simp only [Act.put, List.setIfInBounds_toArray, List.set_cons_zero, List.set_cons_succ, List.getElem_toArray, List.getElem_cons_zero, List.getElem_cons_succ]
                refine wpAnyL_pure (i := 15) rfl (by kernel_rfl) (fun _ _ _ h => h) (Or.inl ⟨by rfl, (fun u hu => by obtain ⟨k0, k1, k2, k3⟩ := hu; go_simp; try rfl)⟩) (HALL.out _ HB35.out) (fun _ => trivial) ?_
                simp only [Act.put, List.setIfInBounds_toArray, List.set_cons_zero, List.set_cons_succ, List.getElem_toArray, List.getElem_cons_zero, List.getElem_cons_succ]
                refine wpAnyL_pure (i := 16) rfl (by kernel_rfl) (fun _ _ _ h => h) (Or.inl ⟨by rfl, (fun u hu => by obtain ⟨k0, k1, k2, k3⟩ := hu; go_simp; try rfl)⟩) (HALL.out _ HB35.out) (fun _ => trivial) ?_
                simp only [Act.put, List.setIfInBounds_toArray, List.set_cons_zero, List.set_cons_succ, List.getElem_toArray, List.getElem_cons_zero, List.getElem_cons_succ]
                refine wpAnyL_ready (rs := [18]) (by kernel_rfl) (by simp) ?_
                refine AllL.cons rfl (fun K hK => ?_) ?_
                · have hbx := Hbox35.out
                  have hXl : w3.heap.size ≤ u19.heap.size := by have := HB35.out.size; omega
                  obtain ⟨b0, b1, b2, b3⟩ : u35.cell? ⟨u19.heap.size, 0, none⟩ = some (.int .i64 0) ∧ u35.cell? ⟨u19.heap.size, 1, none⟩ = some (.int .i64 0) ∧ u35.cell? ⟨u19.heap.size, 2, none⟩ = some (.int .i64 0) ∧ u35.cell? ⟨u19.heap.size, 3, none⟩ = some (.slice none 0 0) := by simp [World.cell?, hbx]
                  have hf : ∀ i, u35.frozen? ⟨u19.heap.size, i, none⟩ = false := fun i => by simp [World.frozen?, hbx]
                  have hf0 := hf 0
                  have hf1 := hf 1
                  have hf2 := hf 2
                  have hf3 := hf 3
                  clear hf
                  have HBX := Lib.hid hbx
                  have HWX := Lib.hid (show Below w3.heap.size w3 ((((u35.setCell ⟨u19.heap.size, 0, none⟩ (.int .i64 ga)).setCell ⟨u19.heap.size, 1, none⟩ (.int .i64 gb)).setCell ⟨u19.heap.size, 2, none⟩ (.int .i64 gs)).setCell ⟨u19.heap.size, 3, none⟩ (.slice AG nG cG)) from ((((HB35.out.setCell hXl _).setCell hXl _).setCell hXl _).setCell hXl _))
                  go_simp
                  clear hbx b0 b1 b2 b3 hf0 hf1 hf2 hf3
                  refine hK.out _ _ (HALL.out _ HWX.out) (fun _ => trivial) ?_
                  clear hK K
                  refine wpAnyL_pure (i := 19) rfl (by kernel_rfl) (fun _ _ _ h => h) (Or.inl ⟨by rfl, (fun u hu => by obtain ⟨k0, k1, k2, k3⟩ := hu; go_simp; try rfl)⟩) (HALL.out _ HWX.out) (fun _ => trivial) ?_
                  simp only [Act.put, List.setIfInBounds_toArray, List.set_cons_zero, List.set_cons_succ, List.getElem_toArray, List.getElem_cons_zero, List.getElem_cons_succ]
                  refine wpAnyL_done (by kernel_rfl) ?_ _
                  cases q with
                  | false =>
                    have HQF := Lib.hid (HQ2.out rfl)
                    clear HQ1 HQ2
                    go_wp2_with fail
                    go_roundg (nL - (k + 1))
                    case measure => rw [HGK.out]; omega
                    case rel => exact ⟨k + 1, by omega, by omega, rfl, by go_num, by rw [HTRY.out, show nL - k = (nL - (k + 1)) + 1 by omega, tryP, HQF.out], HBW.out.trans (HWX.out.mono hzr)⟩
                  | true =>
                    obtain ⟨rfl, rfl, rfl, rs, hw, hsl⟩ := HQ1.out rfl
                    have HWK := Lib.hid hw
                    have HSL := Lib.hid hsl
                    clear hw hsl HQ1 HQ2
                    obtain ⟨w9, hw9⟩ : ∃ w9 : World, w9 = ((((u35.setCell ⟨u19.heap.size, 0, none⟩ (.int .i64 ga)).setCell ⟨u19.heap.size, 1, none⟩ (.int .i64 gb)).setCell ⟨u19.heap.size, 2, none⟩ (.int .i64 0)).setCell ⟨u19.heap.size, 3, none⟩ (.slice AG nG cG)) := ⟨_, rfl⟩
                    rw [← hw9] at HWX ⊢
                    have hq9 : Below u35.heap.size u35 u35 := Below.refl _ _
                    have hb9 : w9.heap[u19.heap.size]? = some (.cells #[.int .i64 ga, .int .i64 gb, .int .i64 0, .slice AG nG cG] 25 (0, 0)) := by rw [hw9]; have := blk_set (blk_set (blk_set (blk_set HBX.out 0 (.int .i64 ga)) 1 (.int .i64 gb)) 2 (.int .i64 0)) 3 (.slice AG nG cG); simpa using this
                    obtain ⟨k0, k1, k2, k3⟩ : w9.cell? ⟨u19.heap.size, 0, none⟩ = some (.int .i64 ga) ∧ w9.cell? ⟨u19.heap.size, 1, none⟩ = some (.int .i64 gb) ∧ w9.cell? ⟨u19.heap.size, 2, none⟩ = some (.int .i64 0) ∧ w9.cell? ⟨u19.heap.size, 3, none⟩ = some (.slice AG nG cG) := by simp [World.cell?, hb9]
                    have hrr := (HWX.out.block _ (by omega)).trans HRR.out
                    obtain ⟨r0, r1, r2, r3⟩ : w9.cell? ⟨w.heap.size, 0, none⟩ = some (.int .i64 0) ∧ w9.cell? ⟨w.heap.size, 1, none⟩ = some (.int .i64 0) ∧ w9.cell? ⟨w.heap.size, 2, none⟩ = some (.int .i64 0) ∧ w9.cell? ⟨w.heap.size, 3, none⟩ = some (.slice none 0 0) := by simp [World.cell?, hrr]
                    have hf : ∀ i, w9.frozen? ⟨w.heap.size, i, none⟩ = false := fun i => by simp [World.frozen?, hrr]
                    have hf0 := hf 0
                    have hf1 := hf 1
                    have hf2 := hf 2
                    have hf3 := hf 3
                    have hsx : Sl RRule u35 (fun b => (S b ∨ w.heap.size ≤ b) ∧ b ≠ w.heap.size ∧ b ≠ u19.heap.size) AG nG cG rs := HSL.out.fit.more fun b hb => by
                      rcases hb with ⟨h | h, h2⟩
                      · have h3 := h.2
                        exact ⟨h.1, by omega, by omega⟩
                      · exact ⟨.inr (by omega), by omega, by omega⟩
                    have HS9 := Lib.hid (show Sl RRule w9 (fun b => (S b ∨ w.heap.size ≤ b) ∧ b ≠ w.heap.size ∧ b ≠ u19.heap.size) AG nG cG rs by rw [hw9]; exact (((hsx.keep (Kept.setCell _ _ _ _ fun h => h.2.2 rfl)).keep (Kept.setCell _ _ _ _ fun h => h.2.2 rfl)).keep (Kept.setCell _ _ _ _ fun h => h.2.2 rfl)).keep (Kept.setCell _ _ _ _ fun h => h.2.2 rfl))
                    clear hsx
                    clear hf hb9 hrr hw9
                    go_wp2_with fail
                    refine bodyPost_ret (v := .tuple #[.agg #[.int .i64 ga, .int .i64 gb, .int .i64 0, .slice AG nG cG], .bool true]) (by simp [results, Tryd.results31, go_sem, r0, r1, r2, r3]) rfl ?_
                    have hbF : Below w.heap.size w ((((w9.setCell ⟨w.heap.size, 0, none⟩ (.int .i64 ga)).setCell ⟨w.heap.size, 1, none⟩ (.int .i64 gb)).setCell ⟨w.heap.size, 2, none⟩ (.int .i64 0)).setCell ⟨w.heap.size, 3, none⟩ (.slice AG nG cG)) := ((((HB.out.trans (HWX.out.mono HB.out.size)).setCell (Nat.le_refl _) _).setCell (Nat.le_refl _) _).setCell (Nat.le_refl _) _).setCell (Nat.le_refl _) _
                    refine ⟨⟨ga, gb, 0, AG, nG, cG, true, rfl, fun h => ⟨rfl, rfl, rfl, rs, ?_, ?_⟩, fun h => by cases h⟩, hbF⟩
                    · rw [HTRY.out, show nL - k = (nL - (k + 1)) + 1 by omega, tryP, HWK.out]
                    · exact ((((HS9.out.keep (Kept.setCell _ _ _ _ fun h => h.2.1 rfl)).keep (Kept.setCell _ _ _ _ fun h => h.2.1 rfl)).keep (Kept.setCell _ _ _ _ fun h => h.2.1 rfl)).keep (Kept.setCell _ _ _ _ fun h => h.2.1 rfl)).more fun b hb => hb.1
                exact AllL.nil
              exact AllL.nil
            exact AllL.nil
          exact AllL.nil
        exact AllL.nil
      refine AllL.cons rfl (fun K hK => ?_) ?_
      · go_simp
        obtain ⟨u37, hu37⟩ : ∃ u : World, u = w4.alloc (.cells #[.int .i64 0, .int .i64 0, .int .i64 0, .slice none 0 0] 25) := ⟨_, rfl⟩
        rw [← hu37]
        have hb37 : Below w4.heap.size w4 u37 := by rw [hu37]; exact (Below.refl _ _).alloc (Nat.le_refl _) _
        have Hbox0 := Lib.hid (show u37.heap[w4.heap.size]? = some (.cells #[.int .i64 0, .int .i64 0, .int .i64 0, .slice none 0 0] 25 (0, 0)) by rw [hu37]; exact heap_alloc_new _ _)
        have hze37 : u37.heap.size = w4.heap.size + 1 := by rw [hu37]; simp
        have hzB37 := HB0.out.size
        have HB37 := Lib.hid (HB0.out.trans (hb37.mono HB0.out.size))
        have hz37 := hb37.size
        have hzl37 : w4.heap.size < u37.heap.size := by omega
        clear hu37 hze37
        refine hK.out _ _ (HALL.out _ HB37.out) (fun _ => trivial) ?_
        clear hK K
        refine wpAnyL_ready (rs := [6, 11]) (by kernel_rfl) (by simp) ?_
        refine AllL.cons rfl (fun K hK => ?_) ?_
        · go_simp
          refine (cloneRule A ch.length c _ xs u37 (hrd.below HB37.out) (by omega)).mono ?_
          rintro e u38 ⟨v5, rfl, ho5, hb38⟩
          obtain ⟨A5, c5, rfl, hc5, _⟩ := ho5.form
          have hzB38 := HB37.out.size
          have HB38 := Lib.hid (HB37.out.trans (hb38.mono HB37.out.size))
          have Hbox38 := Lib.hid ((hb38.block _ (heap_lt Hbox0.out)).trans Hbox0.out)
          have hz38 := hb38.size
          have HO38 := Lib.hid (ho5.mono (base' := w3.heap.size) (by omega))
          clear ho5
          refine hK.out _ _ (HALL.out _ HB38.out) (fun _ => trivial) ?_
          clear hK K
          refine wpAnyL_ready (rs := [11]) (by kernel_rfl) (by simp) ?_
          refine AllL.cons rfl (fun K hK => ?_) ?_
          · go_simp
            obtain ⟨u39, hu39⟩ : ∃ u : World, u = u38.alloc (.cells #[.int .i64 r.1, .slice A2' m2 c2'] 29) := ⟨_, rfl⟩
            rw [← hu39]
            have hb39 : Below u38.heap.size u38 u39 := by rw [hu39]; exact (Below.refl _ _).alloc (Nat.le_refl _) _
            have Hlit0 := Lib.hid (show u39.heap[u38.heap.size]? = some (.cells #[.int .i64 r.1, .slice A2' m2 c2'] 29 (0, 0)) by rw [hu39]; exact heap_alloc_new _ _)
            have hze39 : u39.heap.size = u38.heap.size + 1 := by rw [hu39]; simp
            have hzB39 := HB38.out.size
            have HB39 := Lib.hid (HB38.out.trans (hb39.mono HB38.out.size))
            have Hbox39 := Lib.hid ((hb39.block _ (heap_lt Hbox38.out)).trans Hbox38.out)
            have HO39 := Lib.hid (HO38.out.below hb39 (Nat.le_refl _))
            have hz39 := hb39.size
            have hzl39 : u38.heap.size < u39.heap.size := by omega
            clear hu39 hze39
            refine hK.out _ _ (HALL.out _ HB39.out) (fun _ => trivial) ?_
            clear hK K
            refine wpAnyL_ready (rs := [12]) (by kernel_rfl) (by simp) ?_
            refine AllL.cons rfl (fun K hK => ?_) ?_
            · have hzB40 := HB39.out.size
              obtain ⟨v6, u40, hrun, ho6, hg, _⟩ := run_append_Own tRules u39 23 w3.heap.size (.slice A5 ch.length c5) ch.length xs HO39.out (fun _ => True) (some ⟨u38.heap.size, 0, none⟩) 1 1 [.int .i64 r.1, .slice A2' m2 c2'] (rd_rule Hlit0.out) (one_rule _ _ _ _) (by unfold maxLen; omega) (by omega) (by omega)
              have hb40 : Below w3.heap.size u39 u40 := Below.own (Below.refl _ _) HO39.out hg (Nat.le_refl _) (by omega)
              obtain ⟨A6, c6, rfl, hc6, _⟩ := ho6.form
              have HRUN := Lib.hid hrun
              have HO6 := Lib.hid ho6
              have HB40 := Lib.hid (HB39.out.trans hb40)
              have hz40 := hg.size
              have Hbox40 := Lib.hid ((hg.block _ (heap_lt Hbox39.out) (fun e => HO39.out.ne Hbox39.out (by decide) e.symm)).trans Hbox39.out)
              clear hrun ho6 hg
              refine step_append_run _ (by rfl) _ _ _ _ (by rfl) _ _ (by rfl) (by rfl) _ _ HRUN.out ?_
              simp only [Act.put, List.setIfInBounds_toArray, List.set_cons_zero, List.set_cons_succ, List.getElem_toArray, List.getElem_cons_zero, List.getElem_cons_succ]
              refine hK.out _ _ (HALL.out _ HB40.out) (fun _ => trivial) ?_
              clear hK K
              refine wpAnyL_ready (rs := [13]) (by kernel_rfl) (by simp) ?_
              refine AllL.cons rfl (fun K hK => ?_) ?_
              · go_simp
                have hrg : l.getD k (0, []) = r := by rw [List.getD_eq_getElem?_getD, HX.out]; rfl
                have hzB41 := HB40.out.size
                have HBT := Lib.hid (HB.out.trans (HB40.out.mono HB.out.size))
                have hcl : Cells RRule u40 (fun b => (S b ∨ w.heap.size ≤ b) ∧ b ≠ w.heap.size ∧ b ≠ w4.heap.size) (xs ++ [.int .i64 r.1, .slice A2' m2 c2']) (ch ++ [r]) := (((hcs.append (Cells.single (RRule.cells.2 ⟨A2', m2, c2', rfl, hrs⟩))).keep (Kept.below HB40.out)).more fun b hb => ⟨.inl hb.1, by omega, by omega⟩)
                have hsl6 : Sl RRule u40 (fun b => (S b ∨ w.heap.size ≤ b) ∧ b ≠ w.heap.size ∧ b ≠ w4.heap.size) A6 (ch.length + 1) c6 (ch ++ [r]) := ⟨_, by simp, hc6, (by refine Rd.more (HO6.out.rd.ne hc6 (HO6.out.ne Hbox40.out (by decide))) (fun b hb => ?_); have hb1 := hb.1; exact ⟨.inr (by omega), by omega, hb.2⟩), hcl⟩
                refine (IH.out u40 (HC3.out.below HB40.out) (k + 1) _ _ (by rw [IntKind.wrap_i64]; omega) (by rw [IntKind.wrap_i64, HLI.out]; have := HLN.out; omega) (by omega) (ch ++ [r]) A6 (ch.length + 1) c6 (fun b => (S b ∨ w.heap.size ≤ b) ∧ b ≠ w.heap.size ∧ b ≠ w4.heap.size) ((HSLL.out.fit.keep (Kept.below HBT.out)).more fun b hb => ⟨.inl hb.1, by omega, by omega⟩) hsl6 (by have := HLN.out; simp; omega) (fun t h1 h2 => ?_)).mono ?_
                · have := HV.out (r :: t) (by
                    have e : l.drop k = r :: l.drop (k + 1) := by rw [List.drop_eq_getElem_cons (by rw [← HL.out]; exact hlt)]; congr 1; have := HX.out; rw [List.getElem?_eq_getElem (by rw [← HL.out]; exact hlt)] at this; injection this
                    have h3 : (r :: t).Sublist (l.drop k) := by rw [e]; exact h1.cons_cons _
                    have e2 : l.drop k = (l.drop fr).drop (k - fr) := by rw [List.drop_drop]; congr 1; omega
                    rw [e2] at h3
                    exact h3.trans (List.drop_sublist _ _)) (by simp [h2])
                  simpa using this
                rintro e u41 ⟨⟨ga, gb, gs, AG, nG, cG, q, rfl, hq1, hq2⟩, hb41⟩
                rw [← hrg] at hq1 hq2
                have HQ1 := Lib.hid hq1
                have HQ2 := Lib.hid hq2
                clear hq1 hq2 hrg hcl hsl6
                have HB41 := Lib.hid (HB40.out.trans (hb41.mono HB40.out.size))
                have Hbox41 := Lib.hid ((hb41.block _ (heap_lt Hbox40.out)).trans Hbox40.out)
                have hz41 := hb41.size
                refine hK.out _ _ (HALL.out _ HB41.out) (fun _ => trivial) ?_
                clear hK K
                refine wpAnyL_pure (i := 14) rfl (by kernel_rfl) (fun _ _ _ h => h) (Or.inl ⟨by rfl, (fun u hu => by obtain ⟨k0, k1, k2, k3⟩ := hu; go_simp; try rfl)⟩) (HALL.out _ HB41.out) (fun _ => trivial) ?_
                simp only [Act.put, List.setIfInBounds_toArray, List.set_cons_zero, List.set_cons_succ, List.getElem_toArray, List.getElem_cons_zero, List.getElem_cons_succ]
                refine wpAnyL_pure (i := 15) rfl (by kernel_rfl) (fun _ _ _ h => h) (Or.inl ⟨by rfl, (fun u hu => by obtain ⟨k0, k1, k2, k3⟩ := hu; go_simp; try rfl)⟩) (HALL.out _ HB41.out) (fun _ => trivial) ?_
                simp only [Act.put, List.setIfInBounds_toArray, List.set_cons_zero, List.set_cons_succ, List.getElem_toArray, List.getElem_cons_zero, List.getElem_cons_succ]
                refine wpAnyL_pure (i := 16) rfl (by kernel_rfl) (fun _ _ _ h => h) (Or.inl ⟨by rfl, (fun u hu => by obtain ⟨k0, k1, k2, k3⟩ := hu; go_simp; try rfl)⟩) (HALL.out _ HB41.out) (fun _ => trivial) ?_
                simp only [Act.put, List.setIfInBounds_toArray, List.set_cons_zero, List.set_cons_succ, List.getElem_toArray, List.getElem_cons_zero, List.getElem_cons_succ]
                refine wpAnyL_ready (rs := [18]) (by kernel_rfl) (by simp) ?_
                refine AllL.cons rfl (fun K hK => ?_) ?_
                · have hbx := Hbox41.out
                  have hXl : w3.heap.size ≤ w4.heap.size := by have := HB41.out.size; omega
                  obtain ⟨b0, b1, b2, b3⟩ : u41.cell? ⟨w4.heap.size, 0, none⟩ = some (.int .i64 0) ∧ u41.cell? ⟨w4.heap.size, 1, none⟩ = some (.int .i64 0) ∧ u41.cell? ⟨w4.heap.size, 2, none⟩ = some (.int .i64 0) ∧ u41.cell? ⟨w4.heap.size, 3, none⟩ = some (.slice none 0 0) := by simp [World.cell?, hbx]
                  have hf : ∀ i, u41.frozen? ⟨w4.heap.size, i, none⟩ = false := fun i => by simp [World.frozen?, hbx]
                  have hf0 := hf 0
                  have hf1 := hf 1
                  have hf2 := hf 2
                  have hf3 := hf 3
                  clear hf
                  have HBX := Lib.hid hbx
                  have HWX := Lib.hid (show Below w3.heap.size w3 ((((u41.setCell ⟨w4.heap.size, 0, none⟩ (.int .i64 ga)).setCell ⟨w4.heap.size, 1, none⟩ (.int .i64 gb)).setCell ⟨w4.heap.size, 2, none⟩ (.int .i64 gs)).setCell ⟨w4.heap.size, 3, none⟩ (.slice AG nG cG)) from ((((HB41.out.setCell hXl _).setCell hXl _).setCell hXl _).setCell hXl _))
                  go_simp
                  clear hbx b0 b1 b2 b3 hf0 hf1 hf2 hf3
                  refine hK.out _ _ (HALL.out _ HWX.out) (fun _ => trivial) ?_
                  clear hK K
                  refine wpAnyL_pure (i := 19) rfl (by kernel_rfl) (fun _ _ _ h => h) (Or.inl ⟨by rfl, (fun u hu => by obtain ⟨k0, k1, k2, k3⟩ := hu; go_simp; try rfl)⟩) (HALL.out _ HWX.out) (fun _ => trivial) ?_
                  simp only [Act.put, List.setIfInBounds_toArray, List.set_cons_zero, List.set_cons_succ, List.getElem_toArray, List.getElem_cons_zero, List.getElem_cons_succ]
                  refine wpAnyL_done (by kernel_rfl) ?_ _
                  cases q with
                  | false =>
                    have HQF := Lib.hid (HQ2.out rfl)
                    clear HQ1 HQ2
                    go_wp2_with fail
                    go_roundg (nL - (k + 1))
                    case measure => rw [HGK.out]; omega
                    case rel => exact ⟨k + 1, by omega, by omega, rfl, by go_num, by rw [HTRY.out, show nL - k = (nL - (k + 1)) + 1 by omega, tryP, HQF.out], HBW.out.trans (HWX.out.mono hzr)⟩
                  | true =>
                    obtain ⟨rfl, rfl, rfl, rs, hw, hsl⟩ := HQ1.out rfl
                    have HWK := Lib.hid hw
                    have HSL := Lib.hid hsl
                    clear hw hsl HQ1 HQ2
                    obtain ⟨w9, hw9⟩ : ∃ w9 : World, w9 = ((((u41.setCell ⟨w4.heap.size, 0, none⟩ (.int .i64 ga)).setCell ⟨w4.heap.size, 1, none⟩ (.int .i64 gb)).setCell ⟨w4.heap.size, 2, none⟩ (.int .i64 0)).setCell ⟨w4.heap.size, 3, none⟩ (.slice AG nG cG)) := ⟨_, rfl⟩
                    rw [← hw9] at HWX ⊢
                    have hq9 : Below u41.heap.size u41 u41 := Below.refl _ _
                    have hb9 : w9.heap[w4.heap.size]? = some (.cells #[.int .i64 ga, .int .i64 gb, .int .i64 0, .slice AG nG cG] 25 (0, 0)) := by rw [hw9]; have := blk_set (blk_set (blk_set (blk_set HBX.out 0 (.int .i64 ga)) 1 (.int .i64 gb)) 2 (.int .i64 0)) 3 (.slice AG nG cG); simpa using this
                    obtain ⟨k0, k1, k2, k3⟩ : w9.cell? ⟨w4.heap.size, 0, none⟩ = some (.int .i64 ga) ∧ w9.cell? ⟨w4.heap.size, 1, none⟩ = some (.int .i64 gb) ∧ w9.cell? ⟨w4.heap.size, 2, none⟩ = some (.int .i64 0) ∧ w9.cell? ⟨w4.heap.size, 3, none⟩ = some (.slice AG nG cG) := by simp [World.cell?, hb9]
                    have hrr := (HWX.out.block _ (by omega)).trans HRR.out
                    obtain ⟨r0, r1, r2, r3⟩ : w9.cell? ⟨w.heap.size, 0, none⟩ = some (.int .i64 0) ∧ w9.cell? ⟨w.heap.size, 1, none⟩ = some (.int .i64 0) ∧ w9.cell? ⟨w.heap.size, 2, none⟩ = some (.int .i64 0) ∧ w9.cell? ⟨w.heap.size, 3, none⟩ = some (.slice none 0 0) := by simp [World.cell?, hrr]
                    have hf : ∀ i, w9.frozen? ⟨w.heap.size, i, none⟩ = false := fun i => by simp [World.frozen?, hrr]
                    have hf0 := hf 0
                    have hf1 := hf 1
                    have hf2 := hf 2
                    have hf3 := hf 3
                    have hsx : Sl RRule u41 (fun b => (S b ∨ w.heap.size ≤ b) ∧ b ≠ w.heap.size ∧ b ≠ w4.heap.size) AG nG cG rs := HSL.out.fit.more fun b hb => by
                      rcases hb with ⟨h | h, h2⟩
                      · have h3 := h.2
                        exact ⟨h.1, by omega, by omega⟩
                      · exact ⟨.inr (by omega), by omega, by omega⟩
                    have HS9 := Lib.hid (show Sl RRule w9 (fun b => (S b ∨ w.heap.size ≤ b) ∧ b ≠ w.heap.size ∧ b ≠ w4.heap.size) AG nG cG rs by rw [hw9]; exact (((hsx.keep (Kept.setCell _ _ _ _ fun h => h.2.2 rfl)).keep (Kept.setCell _ _ _ _ fun h => h.2.2 rfl)).keep (Kept.setCell _ _ _ _ fun h => h.2.2 rfl)).keep (Kept.setCell _ _ _ _ fun h => h.2.2 rfl))
                    clear hsx
                    clear hf hb9 hrr hw9
                    go_wp2_with fail
                    refine bodyPost_ret (v := .tuple #[.agg #[.int .i64 ga, .int .i64 gb, .int .i64 0, .slice AG nG cG], .bool true]) (by simp [results, Tryd.results31, go_sem, r0, r1, r2, r3]) rfl ?_
                    have hbF : Below w.heap.size w ((((w9.setCell ⟨w.heap.size, 0, none⟩ (.int .i64 ga)).setCell ⟨w.heap.size, 1, none⟩ (.int .i64 gb)).setCell ⟨w.heap.size, 2, none⟩ (.int .i64 0)).setCell ⟨w.heap.size, 3, none⟩ (.slice AG nG cG)) := ((((HB.out.trans (HWX.out.mono HB.out.size)).setCell (Nat.le_refl _) _).setCell (Nat.le_refl _) _).setCell (Nat.le_refl _) _).setCell (Nat.le_refl _) _
                    refine ⟨⟨ga, gb, 0, AG, nG, cG, true, rfl, fun h => ⟨rfl, rfl, rfl, rs, ?_, ?_⟩, fun h => by cases h⟩, hbF⟩
                    · rw [HTRY.out, show nL - k = (nL - (k + 1)) + 1 by omega, tryP, HWK.out]
                    · exact ((((HS9.out.keep (Kept.setCell _ _ _ _ fun h => h.2.1 rfl)).keep (Kept.setCell _ _ _ _ fun h => h.2.1 rfl)).keep (Kept.setCell _ _ _ _ fun h => h.2.1 rfl)).keep (Kept.setCell _ _ _ _ fun h => h.2.1 rfl)).more fun b hb => hb.1
                exact AllL.nil
              exact AllL.nil
            exact AllL.nil
          exact AllL.nil
        refine AllL.cons rfl (fun K hK => ?_) ?_
        · go_simp
          obtain ⟨u43, hu43⟩ : ∃ u : World, u = u37.alloc (.cells #[.int .i64 r.1, .slice A2' m2 c2'] 29) := ⟨_, rfl⟩
          rw [← hu43]
          have hb43 : Below u37.heap.size u37 u43 := by rw [hu43]; exact (Below.refl _ _).alloc (Nat.le_refl _) _
          have Hlit0 := Lib.hid (show u43.heap[u37.heap.size]? = some (.cells #[.int .i64 r.1, .slice A2' m2 c2'] 29 (0, 0)) by rw [hu43]; exact heap_alloc_new _ _)
          have hze43 : u43.heap.size = u37.heap.size + 1 := by rw [hu43]; simp
          have hzB43 := HB37.out.size
          have HB43 := Lib.hid (HB37.out.trans (hb43.mono HB37.out.size))
          have Hbox43 := Lib.hid ((hb43.block _ (heap_lt Hbox0.out)).trans Hbox0.out)
          have hz43 := hb43.size
          have hzl43 : u37.heap.size < u43.heap.size := by omega
          clear hu43 hze43
          refine hK.out _ _ (HALL.out _ HB43.out) (fun _ => trivial) ?_
          clear hK K
          refine wpAnyL_ready (rs := [6]) (by kernel_rfl) (by simp) ?_
          refine AllL.cons rfl (fun K hK => ?_) ?_
          · go_simp
            refine (cloneRule A ch.length c _ xs u43 (hrd.below HB43.out) (by omega)).mono ?_
            rintro e u44 ⟨v5, rfl, ho5, hb44⟩
            obtain ⟨A5, c5, rfl, hc5, _⟩ := ho5.form
            have hzB44 := HB43.out.size
            have HB44 := Lib.hid (HB43.out.trans (hb44.mono HB43.out.size))
            have Hlit44 := Lib.hid ((hb44.block _ (heap_lt Hlit0.out)).trans Hlit0.out)
            have Hbox44 := Lib.hid ((hb44.block _ (heap_lt Hbox43.out)).trans Hbox43.out)
            have hz44 := hb44.size
            have HO44 := Lib.hid (ho5.mono (base' := w3.heap.size) (by omega))
            clear ho5
            refine hK.out _ _ (HALL.out _ HB44.out) (fun _ => trivial) ?_
            clear hK K
            refine wpAnyL_ready (rs := [12]) (by kernel_rfl) (by simp) ?_
            refine AllL.cons rfl (fun K hK => ?_) ?_
            · have hzB45 := HB44.out.size
              obtain ⟨v6, u45, hrun, ho6, hg, _⟩ := run_append_Own tRules u44 23 w3.heap.size (.slice A5 ch.length c5) ch.length xs HO44.out (fun _ => True) (some ⟨u37.heap.size, 0, none⟩) 1 1 [.int .i64 r.1, .slice A2' m2 c2'] (rd_rule Hlit44.out) (one_rule _ _ _ _) (by unfold maxLen; omega) (by omega) (by omega)
              have hb45 : Below w3.heap.size u44 u45 := Below.own (Below.refl _ _) HO44.out hg (Nat.le_refl _) (by omega)
              obtain ⟨A6, c6, rfl, hc6, _⟩ := ho6.form
              have HRUN := Lib.hid hrun
              have HO6 := Lib.hid ho6
              have HB45 := Lib.hid (HB44.out.trans hb45)
              have hz45 := hg.size
              have Hbox45 := Lib.hid ((hg.block _ (heap_lt Hbox44.out) (fun e => HO44.out.ne Hbox44.out (by decide) e.symm)).trans Hbox44.out)
              clear hrun ho6 hg
              refine step_append_run _ (by rfl) _ _ _ _ (by rfl) _ _ (by rfl) (by rfl) _ _ HRUN.out ?_
              simp only [Act.put, List.setIfInBounds_toArray, List.set_cons_zero, List.set_cons_succ, List.getElem_toArray, List.getElem_cons_zero, List.getElem_cons_succ]
              refine hK.out _ _ (HALL.out _ HB45.out) (fun _ => trivial) ?_
              clear hK K
              refine wpAnyL_ready (rs := [13]) (by kernel_rfl) (by simp) ?_
              refine AllL.cons rfl (fun K hK => ?_) ?_
              · go_simp
                have hrg : l.getD k (0, []) = r := by rw [List.getD_eq_getElem?_getD, HX.out]; rfl
                have hzB46 := HB45.out.size
                have HBT := Lib.hid (HB.out.trans (HB45.out.mono HB.out.size))
                have hcl : Cells RRule u45 (fun b => (S b ∨ w.heap.size ≤ b) ∧ b ≠ w.heap.size ∧ b ≠ w4.heap.size) (xs ++ [.int .i64 r.1, .slice A2' m2 c2']) (ch ++ [r]) := (((hcs.append (Cells.single (RRule.cells.2 ⟨A2', m2, c2', rfl, hrs⟩))).keep (Kept.below HB45.out)).more fun b hb => ⟨.inl hb.1, by omega, by omega⟩)
                have hsl6 : Sl RRule u45 (fun b => (S b ∨ w.heap.size ≤ b) ∧ b ≠ w.heap.size ∧ b ≠ w4.heap.size) A6 (ch.length + 1) c6 (ch ++ [r]) := ⟨_, by simp, hc6, (by refine Rd.more (HO6.out.rd.ne hc6 (HO6.out.ne Hbox45.out (by decide))) (fun b hb => ?_); have hb1 := hb.1; exact ⟨.inr (by omega), by omega, hb.2⟩), hcl⟩
                refine (IH.out u45 (HC3.out.below HB45.out) (k + 1) _ _ (by rw [IntKind.wrap_i64]; omega) (by rw [IntKind.wrap_i64, HLI.out]; have := HLN.out; omega) (by omega) (ch ++ [r]) A6 (ch.length + 1) c6 (fun b => (S b ∨ w.heap.size ≤ b) ∧ b ≠ w.heap.size ∧ b ≠ w4.heap.size) ((HSLL.out.fit.keep (Kept.below HBT.out)).more fun b hb => ⟨.inl hb.1, by omega, by omega⟩) hsl6 (by have := HLN.out; simp; omega) (fun t h1 h2 => ?_)).mono ?_
                · have := HV.out (r :: t) (by
                    have e : l.drop k = r :: l.drop (k + 1) := by rw [List.drop_eq_getElem_cons (by rw [← HL.out]; exact hlt)]; congr 1; have := HX.out; rw [List.getElem?_eq_getElem (by rw [← HL.out]; exact hlt)] at this; injection this
                    have h3 : (r :: t).Sublist (l.drop k) := by rw [e]; exact h1.cons_cons _
                    have e2 : l.drop k = (l.drop fr).drop (k - fr) := by rw [List.drop_drop]; congr 1; omega
                    rw [e2] at h3
                    exact h3.trans (List.drop_sublist _ _)) (by simp [h2])
                  simpa using this
                rintro e u46 ⟨⟨ga, gb, gs, AG, nG, cG, q, rfl, hq1, hq2⟩, hb46⟩
                rw [← hrg] at hq1 hq2
                have HQ1 := Lib.hid hq1
                have HQ2 := Lib.hid hq2
                clear hq1 hq2 hrg hcl hsl6
                have HB46 := Lib.hid (HB45.out.trans (hb46.mono HB45.out.size))
                have Hbox46 := Lib.hid ((hb46.block _ (heap_lt Hbox45.out)).trans Hbox45.out)
                have hz46 := hb46.size
                refine hK.out _ _ (HALL.out _ HB46.out) (fun _ => trivial) ?_
                clear hK K
                refine wpAnyL_pure (i := 14) rfl (by kernel_rfl) (fun _ _ _ h => h) (Or.inl ⟨by rfl, (fun u hu => by obtain ⟨k0, k1, k2, k3⟩ := hu; go_simp; try rfl)⟩) (HALL.out _ HB46.out) (fun _ => trivial) ?_
                simp only [Act.put, List.setIfInBounds_toArray, List.set_cons_zero, List.set_cons_succ, List.getElem_toArray, List.getElem_cons_zero, List.getElem_cons_succ]
                refine wpAnyL_pure (i := 15) rfl (by kernel_rfl) (fun _ _ _ h => h) (Or.inl ⟨by rfl, (fun u hu => by obtain ⟨k0, k1, k2, k3⟩ := hu; go_simp; try rfl)⟩) (HALL.out _ HB46.out) (fun _ => trivial) ?_
                simp only [Act.put, List.setIfInBounds_toArray, List.set_cons_zero, List.set_cons_succ, List.getElem_toArray, List.getElem_cons_zero, List.getElem_cons_succ]
                refine wpAnyL_pure (i := 16) rfl (by kernel_rfl) (fun _ _ _ h => h) (Or.inl ⟨by rfl, (fun u hu => by obtain ⟨k0, k1, k2, k3⟩ := hu; go_simp; try rfl)⟩) (HALL.out _ HB46.out) (fun _ => trivial) ?_
                simp only [Act.put, List.setIfInBounds_toArray, List.set_cons_zero, List.set_cons_succ, List.getElem_toArray, List.getElem_cons_zero, List.getElem_cons_succ]
                refine wpAnyL_ready (rs := [18]) (by kernel_rfl) (by simp) ?_
                refine AllL.cons rfl (fun K hK => ?_) ?_
                · have hbx := Hbox46.out
                  have hXl : w3.heap.size ≤ w4.heap.size := by have := HB46.out.size; omega
                  obtain ⟨b0, b1, b2, b3⟩ : u46.cell? ⟨w4.heap.size, 0, none⟩ = some (.int .i64 0) ∧ u46.cell? ⟨w4.heap.size, 1, none⟩ = some (.int .i64 0) ∧ u46.cell? ⟨w4.heap.size, 2, none⟩ = some (.int .i64 0) ∧ u46.cell? ⟨w4.heap.size, 3, none⟩ = some (.slice none 0 0) := by simp [World.cell?, hbx]
                  have hf : ∀ i, u46.frozen? ⟨w4.heap.size, i, none⟩ = false := fun i => by simp [World.frozen?, hbx]
                  have hf0 := hf 0
                  have hf1 := hf 1
                  have hf2 := hf 2
                  have hf3 := hf 3
                  clear hf
                  have HBX := Lib.hid hbx
                  have HWX := Lib.hid (show Below w3.heap.size w3 ((((u46.setCell ⟨w4.heap.size, 0, none⟩ (.int .i64 ga)).setCell ⟨w4.heap.size, 1, none⟩ (.int .i64 gb)).setCell ⟨w4.heap.size, 2, none⟩ (.int .i64 gs)).setCell ⟨w4.heap.size, 3, none⟩ (.slice AG nG cG)) from ((((HB46.out.setCell hXl _).setCell hXl _).setCell hXl _).setCell hXl _))
                  go_simp
                  clear hbx b0 b1 b2 b3 hf0 hf1 hf2 hf3
                  refine hK.out _ _ (HALL.out _ HWX.out) (fun _ => trivial) ?_
                  clear hK K
                  refine wpAnyL_pure (i := 19) rfl (by kernel_rfl) (fun _ _ _ h => h) (Or.inl ⟨by rfl, (fun u hu => by obtain ⟨k0, k1, k2, k3⟩ := hu; go_simp; try rfl)⟩) (HALL.out _ HWX.out) (fun _ => trivial) ?_
                  simp only [Act.put, List.setIfInBounds_toArray, List.set_cons_zero, List.set_cons_succ, List.getElem_toArray, List.getElem_cons_zero, List.getElem_cons_succ]
                  refine wpAnyL_done (by kernel_rfl) ?_ _
                  cases q with
                  | false =>
                    have HQF := Lib.hid (HQ2.out rfl)
                    clear HQ1 HQ2
                    go_wp2_with fail
                    go_roundg (nL - (k + 1))
                    case measure => rw [HGK.out]; omega
                    case rel => exact ⟨k + 1, by omega, by omega, rfl, by go_num, by rw [HTRY.out, show nL - k = (nL - (k + 1)) + 1 by omega, tryP, HQF.out], HBW.out.trans (HWX.out.mono hzr)⟩
                  | true =>
                    obtain ⟨rfl, rfl, rfl, rs, hw, hsl⟩ := HQ1.out rfl
                    have HWK := Lib.hid hw
                    have HSL := Lib.hid hsl
                    clear hw hsl HQ1 HQ2
                    obtain ⟨w9, hw9⟩ : ∃ w9 : World, w9 = ((((u46.setCell ⟨w4.heap.size, 0, none⟩ (.int .i64 ga)).setCell ⟨w4.heap.size, 1, none⟩ (.int .i64 gb)).setCell ⟨w4.heap.size, 2, none⟩ (.int .i64 0)).setCell ⟨w4.heap.size, 3, none⟩ (.slice AG nG cG)) := ⟨_, rfl⟩
                    rw [← hw9] at HWX ⊢
                    have hq9 : Below u46.heap.size u46 u46 := Below.refl _ _
                    have hb9 : w9.heap[w4.heap.size]? = some (.cells #[.int .i64 ga, .int .i64 gb, .int .i64 0, .slice AG nG cG] 25 (0, 0)) := by rw [hw9]; have := blk_set (blk_set (blk_set (blk_set HBX.out 0 (.int .i64 ga)) 1 (.int .i64 gb)) 2 (.int .i64 0)) 3 (.slice AG nG cG); simpa using this
                    obtain ⟨k0, k1, k2, k3⟩ : w9.cell? ⟨w4.heap.size, 0, none⟩ = some (.int .i64 ga) ∧ w9.cell? ⟨w4.heap.size, 1, none⟩ = some (.int .i64 gb) ∧ w9.cell? ⟨w4.heap.size, 2, none⟩ = some (.int .i64 0) ∧ w9.cell? ⟨w4.heap.size, 3, none⟩ = some (.slice AG nG cG) := by simp [World.cell?, hb9]
                    have hrr := (HWX.out.block _ (by omega)).trans HRR.out
                    obtain ⟨r0, r1, r2, r3⟩ : w9.cell? ⟨w.heap.size, 0, none⟩ = some (.int .i64 0) ∧ w9.cell? ⟨w.heap.size, 1, none⟩ = some (.int .i64 0) ∧ w9.cell? ⟨w.heap.size, 2, none⟩ = some (.int .i64 0) ∧ w9.cell? ⟨w.heap.size, 3, none⟩ = some (.slice none 0 0) := by simp [World.cell?, hrr]
                    have hf : ∀ i, w9.frozen? ⟨w.heap.size, i, none⟩ = false := fun i => by simp [World.frozen?, hrr]
                    have hf0 := hf 0
                    have hf1 := hf 1
                    have hf2 := hf 2
                    have hf3 := hf 3
                    have hsx : Sl RRule u46 (fun b => (S b ∨ w.heap.size ≤ b) ∧ b ≠ w.heap.size ∧ b ≠ w4.heap.size) AG nG cG rs := HSL.out.fit.more fun b hb => by
                      rcases hb with ⟨h | h, h2⟩
                      · have h3 := h.2
                        exact ⟨h.1, by omega, by omega⟩
                      · exact ⟨.inr (by omega), by omega, by omega⟩
                    have HS9 := Lib.hid (show Sl RRule w9 (fun b => (S b ∨ w.heap.size ≤ b) ∧ b ≠ w.heap.size ∧ b ≠ w4.heap.size) AG nG cG rs by rw [hw9]; exact (((hsx.keep (Kept.setCell _ _ _ _ fun h => h.2.2 rfl)).keep (Kept.setCell _ _ _ _ fun h => h.2.2 rfl)).keep (Kept.setCell _ _ _ _ fun h => h.2.2 rfl)).keep (Kept.setCell _ _ _ _ fun h => h.2.2 rfl))
                    clear hsx
                    clear hf hb9 hrr hw9
                    go_wp2_with fail
                    refine bodyPost_ret (v := .tuple #[.agg #[.int .i64 ga, .int .i64 gb, .int .i64 0, .slice AG nG cG], .bool true]) (by simp [results, Tryd.results31, go_sem, r0, r1, r2, r3]) rfl ?_
                    have hbF : Below w.heap.size w ((((w9.setCell ⟨w.heap.size, 0, none⟩ (.int .i64 ga)).setCell ⟨w.heap.size, 1, none⟩ (.int .i64 gb)).setCell ⟨w.heap.size, 2, none⟩ (.int .i64 0)).setCell ⟨w.heap.size, 3, none⟩ (.slice AG nG cG)) := ((((HB.out.trans (HWX.out.mono HB.out.size)).setCell (Nat.le_refl _) _).setCell (Nat.le_refl _) _).setCell (Nat.le_refl _) _).setCell (Nat.le_refl _) _
                    refine ⟨⟨ga, gb, 0, AG, nG, cG, true, rfl, fun h => ⟨rfl, rfl, rfl, rs, ?_, ?_⟩, fun h => by cases h⟩, hbF⟩
                    · rw [HTRY.out, show nL - k = (nL - (k + 1)) + 1 by omega, tryP, HWK.out]
                    · exact ((((HS9.out.keep (Kept.setCell _ _ _ _ fun h => h.2.1 rfl)).keep (Kept.setCell _ _ _ _ fun h => h.2.1 rfl)).keep (Kept.setCell _ _ _ _ fun h => h.2.1 rfl)).keep (Kept.setCell _ _ _ _ fun h => h.2.1 rfl)).more fun b hb => hb.1
                exact AllL.nil
              exact AllL.nil
            exact AllL.nil
          exact AllL.nil
        exact AllL.nil
      exact AllL.nil
    · obtain rfl : k = nL := by omega
      have hno : walkP (agF T N yes no) l (left + 1) fr ch = none := by rw [HTRY.out, Nat.sub_self]; rfl
      have hrr := HRR.out
      obtain ⟨r0, r1, r2, r3⟩ : w3.cell? ⟨w.heap.size, 0, none⟩ = some (.int .i64 0) ∧ w3.cell? ⟨w.heap.size, 1, none⟩ = some (.int .i64 0) ∧ w3.cell? ⟨w.heap.size, 2, none⟩ = some (.int .i64 0) ∧ w3.cell? ⟨w.heap.size, 3, none⟩ = some (.slice none 0 0) := by simp [World.cell?, hrr]
      have hf : ∀ i, w3.frozen? ⟨w.heap.size, i, none⟩ = false := fun i => by simp [World.frozen?, hrr]
      have hf0 := hf 0
      have hf1 := hf 1
      have hf2 := hf 2
      have hf3 := hf 3
      clear hf hrr
      have HNO := Lib.hid hno
      clear hno
      --@4
      go_wp2_with fail
      refine bodyPost_ret (v := .tuple #[.agg #[.int .i64 0, .int .i64 0, .int .i64 0, .slice none 0 0], .bool false]) (by simp [results, Tryd.results31, go_sem, r0, r1, r2, r3]) rfl ?_
      exact ⟨⟨0, 0, 0, none, 0, 0, false, rfl, (fun h => by cases h), fun _ => HNO.out⟩, (((HB.out.setCell (Nat.le_refl _) _).setCell (Nat.le_refl _) _).setCell (Nat.le_refl _) _).setCell (Nat.le_refl _) _⟩
end Go.Proofs.YtidigjfnifmiiaaDoor
