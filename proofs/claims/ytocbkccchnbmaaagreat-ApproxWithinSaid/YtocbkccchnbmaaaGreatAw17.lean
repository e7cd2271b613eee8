/- ApxNet -/
import Derived.Laws.EntriesVeiled
import Derived.Test.YtocbkccchnbmaaaGreatAw13
namespace Go.Proofs.YtocbkccchnbmaaaGreat
open Go.RowKit
structure NSt (w : World) (gc cc : Array Value) (Sg : Nat → Prop) (AO : Option Addr) (cO : Nat) (out : List PathD) (wr : World) : Prop where
 gb : wr.heap[w.heap.size]? = some (.cells gc 25 (0, 0))
 cb : wr.heap[w.heap.size + 1]? = some (.cells cc 57 (0, 0))
 pb : wr.heap[w.heap.size + 2]? = some (.cells #[.func (.func 61) #[] #[.pointer (some ⟨w.heap.size + 1, 0, none⟩)]] 40 (0, 0))
 ob : wr.heap[w.heap.size + 3]? = some (.cells #[.slice AO out.length cO] 95 (0, 0))
 own : GL RPath 99 wr (fun b => (Sg b ∧ b < w.heap.size) ∨ w.heap.size + 3 < b) (.slice AO out.length cO) out
 row : ∀ g, rowOf (.slice AO out.length cO) = some g → w.heap.size + 3 < g
 bel : Below w.heap.size w wr
section
variable {w wr w' : World} {gc cc : Array Value} {Sg : Nat → Prop} {AO : Option Addr} {cO : Nat} {out : List PathD}
theorem NSt.below (h : NSt w gc cc Sg AO cO out wr) (hb : Below wr.heap.size wr w') : NSt w gc cc Sg AO cO out w' := by
 have hl := heap_lt h.ob
 exact ⟨(hb.block _ (by omega)).trans h.gb, (hb.block _ (by omega)).trans h.cb, (hb.block _ (by omega)).trans h.pb, (hb.block _ (by omega)).trans h.ob, h.own.below hb, h.row, h.bel.trans (hb.mono h.bel.size)⟩
theorem NSt.addR (h : NSt w gc cc Sg AO cO out wr) (x y : Int) (A : Option Addr) (n c : Nat) (l : List SymD) (hl : Sl RSym wr (fun b => Sg b ∧ b < w.heap.size) A n c l) (hlen : out.length ≤ 100000) :
    Calls Tryz.prog 63 #[.int .i64 x, .int .i64 y, .slice A n c, .pointer (some ⟨w.heap.size + 3, 0, none⟩)] wr fun e w' => e = .returned (.tuple #[]) ∧ ∃ A' c', NSt w gc cc Sg A' c' (out ++ [(x, y, l)]) w' ∧ wr.heap.size ≤ w'.heap.size ∧ Below w.heap.size wr w' ∧ (∀ b, b < wr.heap.size → b ≠ w.heap.size + 3 → rowOf (.slice AO out.length cO) ≠ some b → w'.heap[b]? = wr.heap[b]?) ∧ (rowOf (.slice A' (out.length + 1) c') = rowOf (.slice AO out.length cO) ∨ rowOf (.slice A' (out.length + 1) c') = some (wr.heap.size + 1)) := by
 have hs := heap_lt h.ob
 refine (netAdd wr (w.heap.size + 3) _ _ AO cO out h.ob h.own (fun b hb => by omega) x y A n c l hl (fun b hb => ⟨fun e => by have := h.row b e; omega, by omega⟩) hlen).mono ?_
 rintro e w1 ⟨rfl, A', c', hob, hown, ho, hrow⟩
 have hX : ∀ b, (b = w.heap.size + 3 ∨ rowOf (.slice AO out.length cO) = some b) → w.heap.size + 3 ≤ b := fun b hb => by
  rcases hb with rfl | e
  ·
   exact Nat.le_refl _
  ·
   exact Nat.le_of_lt (h.row b e)
 have hbel : Below w.heap.size wr w1 := ho.below (fun b hb => by have := hX b hb; omega) (by omega)
 refine ⟨rfl, A', c', ⟨(ho.block _ (by omega) fun hx => by have := hX _ hx; omega).trans h.gb, (ho.block _ (by omega) fun hx => by have := hX _ hx; omega).trans h.cb, (ho.block _ (by omega) fun hx => by have := hX _ hx; omega).trans h.pb, by simpa using hob, ?_, fun g e => ?_, h.bel.trans hbel⟩, ho.size, hbel, fun b h1 h2 h3 => ho.block b h1 fun hx => hx.elim h2 h3, hrow⟩
 ·
  have := hown.more (G := fun b => (Sg b ∧ b < w.heap.size) ∨ w.heap.size + 3 < b) fun b hb => by
   rcases hb with h1 | h1 | h1
   ·
    exact h1
   ·
    exact .inl h1
   ·
    exact .inr (by omega)
  simpa using this
 ·
  rw [show (out ++ [(x, y, l)]).length = out.length + 1 by simp] at e
  rcases hrow with e2 | e2
  ·
   rw [e2] at e; exact h.row g e
  ·
   rw [e2] at e
   injection e with e
   omega
theorem NSt.add (h : NSt w gc cc Sg AO cO out wr) (x y : Int) (A : Option Addr) (n c : Nat) (l : List SymD) (hl : Sl RSym wr (fun b => Sg b ∧ b < w.heap.size) A n c l) (hlen : out.length ≤ 100000) :
    Calls Tryz.prog 63 #[.int .i64 x, .int .i64 y, .slice A n c, .pointer (some ⟨w.heap.size + 3, 0, none⟩)] wr fun e w' => e = .returned (.tuple #[]) ∧ ∃ A' c', NSt w gc cc Sg A' c' (out ++ [(x, y, l)]) w' ∧ wr.heap.size ≤ w'.heap.size ∧ Below w.heap.size wr w' ∧ (∀ b, b < wr.heap.size → b ≠ w.heap.size + 3 → rowOf (.slice AO out.length cO) ≠ some b → w'.heap[b]? = wr.heap[b]?) :=
 (h.addR x y A n c l hl hlen).mono fun _ _ ⟨h1, A', c', h2, h3, h4, h5, _⟩ => ⟨h1, A', c', h2, h3, h4, h5⟩
theorem NSt.place (h : NSt w gc cc Sg AO cO out wr) {kd : Int} {A : Option Addr} {n c : Nat} (hcc : cc = #[.int .i64 kd, .slice A n c]) {S : Nat → Prop} {l : List Int} (hr : Sl Rep.int w S A n c l) (hS : ∀ b, S b → b < w.heap.size) (hn : n ≤ 1000000) (x : Int) :
    Calls Tryz.prog 61 #[.int .i64 x, .pointer (some ⟨w.heap.size + 1, 0, none⟩)] wr fun e w' => e = .returned (.int .i64 (idxInt l x)) ∧ wr = w' := by
 have hb := h.cb
 rw [hcc] at hb
 exact netPlace wr (w.heap.size + 1) x A n c S l (by simp [World.cell?, hb]) (hr.keep (Kept.belowB h.bel hS)) hn
end
theorem syms_cutl {w : World} {S : Nat → Prop} {A : Option Addr} {n c : Nat} {l : List SymD} (h : Sl RSym w S A n c l) (k : Nat) (hk : k ≤ n) :
    ∃ A', (∀ u, (Instr.slice 41 (.slice A n c) (some (.int .i64 (k : Int))) none none).run Tryz.prog u = .ok (.slice A' (n - k) (c - k)) u) ∧ Sl RSym w S A' (n - k) (c - k) (l.drop k) := by
 obtain ⟨xs, h1, h2, h3, h4⟩ := h
 obtain ⟨A', hrun, hr⟩ := tSyms.cutl (c := c) h3 (k : Int) (by omega) (by omega) h2
 rw [Int.toNat_natCast] at hr
 exact ⟨A', fun u => by rw [hrun u, Int.toNat_natCast], xs.drop (k * RSym.size), by rw [List.length_drop]; omega, by omega, hr, h4.drop⟩
theorem syms_cut {w : World} {S : Nat → Prop} {A : Option Addr} {n c : Nat} {l : List SymD} (h : Sl RSym w S A n c l) (a b : Nat) (hab : a ≤ b) (hb : b ≤ n) :
    ∃ A', (∀ u, (Instr.slice 41 (.slice A n c) (some (.int .i64 (a : Int))) (some (.int .i64 (b : Int))) none).run Tryz.prog u = .ok (.slice A' (b - a) (c - a)) u) ∧ Sl RSym w S A' (b - a) (c - a) ((l.take b).drop a) := by
 have h5 := (h.take b hb)
 have hl := h.len
 obtain ⟨xs, h1, h2, h3, h4⟩ := h
 obtain ⟨A', hrun, hr⟩ := tSyms.cut (c := c) h3 (a : Int) (b : Int) (by omega) (by omega) (by omega) h2
 simp only [Int.toNat_natCast] at hr hrun
 refine ⟨A', hrun, (xs.drop (a * RSym.size)).take ((b - a) * RSym.size), by rw [List.length_drop, List.length_take]; omega, by omega, hr, ?_⟩
 rw [List.drop_take]
 exact h4.drop.take
theorem selfP_succ {c : List Int} {own : Int} {l : List SymD} {i : Nat} {s : SymD} (h : l[i]? = some s) : selfP c own l (i + 1) = if inC c s = true then ((selfP c own l i).1 ++ [((selfP c own l i).2.1, plC c s.2, (l.take i).drop (selfP c own l i).2.2)], exC c s.2, i + 1) else selfP c own l i := by
 conv => lhs; unfold selfP
 rw [h]
def NetR (R : List RuleD) (c : CompD) (x : Int) (Sg : Nat → Prop) (base : Nat) (e : Ending) (w' : World) : Prop :=
 ∃ A n k, e = .returned (.tuple #[.int .i64 (netN c : Int), .slice A n k]) ∧ Sl RPath w' (fun b => (Sg b ∧ b < base) ∨ base ≤ b) A n k (netP R c x)
set_option linter.unusedSimpArgs false in
set_option maxRecDepth 1000000 in
set_option maxHeartbeats 20000000 in
theorem apxNet (w : World) (Sg : Nat → Prop) (AR : Option Addr) (nR cR : Nat) (Tm N st : Int) (R : List RuleD) (hg : Sl RRule w Sg AR nR cR R) (hlen : ∀ r ∈ R, r.2.length ≤ 4) (hnR : nR ≤ 64)
    (kd : Int) (hkd : kd = 0 ∨ kd = 1 ∨ kd = 2) (A : Option Addr) (n c : Nat) (S : Nat → Prop) (l : List Int) (hr : Sl Rep.int w S A n c l) (hn : n ≤ 1000) (x : Int) :
    Calls Tryz.prog 40 #[.agg #[.int .i64 Tm, .int .i64 N, .int .i64 st, .slice AR nR cR], .agg #[.int .i64 kd, .slice A n c], .int .i64 x] w fun e w' => NetR R (kd, l) x Sg w.heap.size e w' ∧ Below w.heap.size w w' := by
 have HRL := Lib.hid hg.len
 have HG := Lib.hid hg.fit
 have HLE := Lib.hid hlen
 have HR := Lib.hid hr.fit
 have HLN := Lib.hid hr.len
 obtain ⟨gc, hgc⟩ : ∃ gc : Array Value, gc = #[.int .i64 Tm, .int .i64 N, .int .i64 st, .slice AR nR cR] := ⟨_, rfl⟩
 obtain ⟨cc, hcc⟩ : ∃ cc : Array Value, cc = #[.int .i64 kd, .slice A n c] := ⟨_, rfl⟩
 have HCC := Lib.hid hcc
 obtain ⟨w1, hw1⟩ : ∃ w1 : World, w1 = (((w.alloc (.cells #[.int .i64 Tm, .int .i64 N, .int .i64 st, .slice AR nR cR] 25)).alloc (.cells #[.int .i64 kd, .slice A n c] 57)).alloc (.cells #[.func (.func 61) #[] #[.pointer (some ⟨w.heap.size + 1, 0, none⟩)]] 40)).alloc (.cells #[.slice none 0 0] 95) := ⟨_, rfl⟩
 have hst : NSt w gc cc Sg none 0 [] w1 := by
  rw [hw1, hgc, hcc]
  refine ⟨?_, ?_, ?_, ?_, GL.nil _ _, (fun g e => by cases e), ((((Below.refl _ _).alloc (Nat.le_refl _) _).alloc (by simp) _).alloc (by simp; omega) _).alloc (by simp; omega) _⟩
  ·
   rw [Below.heap_alloc _ _ _ (by simp; omega), Below.heap_alloc _ _ _ (by simp; omega), Below.heap_alloc _ _ _ (by simp)]; exact heap_alloc_new _ _
  ·
   rw [Below.heap_alloc _ _ _ (by simp), Below.heap_alloc _ _ _ (by simp)]; exact heap_new _ _ _ (by simp)
  ·
   rw [Below.heap_alloc _ _ _ (by simp)]; exact heap_new _ _ _ (by simp)
  ·
   exact heap_new _ _ _ (by simp)
 have HST := Lib.hid hst
 have HCL := Lib.hid (show ∀ (u : World) (AO : Option Addr) (cO : Nat) (out : List PathD), NSt w gc cc Sg AO cO out u → u.cell? ⟨w.heap.size, 3, none⟩ = some (.slice AR nR cR) ∧ u.cell? ⟨w.heap.size + 1, 0, none⟩ = some (.int .i64 kd) ∧ u.cell? ⟨w.heap.size + 1, 1, none⟩ = some (.slice A n c) ∧ u.cell? ⟨w.heap.size + 2, 0, none⟩ = some (.func (.func 61) #[] #[.pointer (some ⟨w.heap.size + 1, 0, none⟩)]) ∧ u.cell? ⟨w.heap.size + 3, 0, none⟩ = some (.slice AO out.length cO) from fun u AO cO out h => by
  have h1 := h.gb
  have h2 := h.cb
  rw [hgc] at h1
  rw [hcc] at h2
  exact ⟨by simp [World.cell?, h1], by simp [World.cell?, h2], by simp [World.cell?, h2], by simp [World.cell?, h.pb], by simp [World.cell?, h.ob]⟩)
 have HPL := Lib.hid (show ∀ (u : World) (AO : Option Addr) (cO : Nat) (out : List PathD), NSt w gc cc Sg AO cO out u → ∀ y : Int, Calls Tryz.prog 61 #[.int .i64 y, .pointer (some ⟨w.heap.size + 1, 0, none⟩)] u fun e w' => e = .returned (.int .i64 (idxInt l y)) ∧ u = w' from fun u AO cO out h y =>
  h.place hcc hr.fit (fun b hb => hb.2) (by omega) y)
 have heP := entersPlace
 have heE := entersExit
 have heA := entersAdd
 clear hg hlen hr hgc hcc hst
 obtain ⟨g3, c0, c1, p0, o0⟩ := HCL.out w1 none 0 [] HST.out
 rw [hw1] at g3 c0 c1 p0 o0
 go_enter Tryz.func40, Tryz.ntmps40
 rcases hkd with rfl | rfl | rfl
 ·
  --@1
  go_wp2_with fail
  rw [← hw1]
  clear hw1
  refine (HPL.out w1 _ _ _ HST.out x).mono ?_
  rintro e w2 ⟨rfl, rfl⟩
  go_wp2_with fail
  refine (NSt.add HST.out (-1) (idxInt l x) none 0 0 [] (Sl.nil _ _ _ _) (by simp)).mono ?_
  rintro e w2 ⟨rfl, A2, c2, hst2, hz2, hb2⟩
  have HS2 := Lib.hid hst2
  clear hst2 g3 c0 c1 p0 o0
  obtain ⟨g3, c0, c1, p0, o0⟩ := HCL.out w2 _ _ _ HS2.out
  go_wp2_with fail
  clear g3 c0 c1 p0 o0
  go_loopg [58] nR (fun gk vi wr => ∃ (i : Nat) (AO : Option Addr) (cO : Nat), i ≤ nR ∧ gk = nR - i ∧ vi = .int .i64 i ∧ NSt w gc cc Sg AO cO (netU R (0, l) x i) wr)
  case atStart => exact ⟨0, _, _, Nat.zero_le _, rfl, rfl, by simpa [netU, netStart] using HS2.out⟩
  case round =>
   obtain ⟨i, AO, cO, hi, hgk, rfl, hst⟩ := hrel
   have HGK := Lib.hid hgk
   have HS3 := Lib.hid hst
   obtain ⟨w3, rfl⟩ : ∃ w3 : World, w3 = wr := ⟨_, rfl⟩
   clear hgk hst HS2
   by_cases hlt : i < nR
   ·
    obtain ⟨b0, off, A3, m3, c3, r, rfl, _, hb0, hc1, hc2, hr, hrs⟩ := rule_at (HG.out.keep (Kept.belowB HS3.out.bel fun b hb => hb.2)) hlt
    have hm4 : m3 ≤ 4 := by have := hrs.len; have := HLE.out r (List.mem_of_getElem? hr); omega
    have hmc : m3 ≤ c3 := hrs.cap
    have hiI : (i : Int) < (nR : Int) := by omega
    have hi0 : (0 : Int) ≤ (i : Int) := by omega
    have hol : (netU R (0, l) x i).length ≤ 1000 := by have := netU_len (c := (0, l)) (x := x) HLE.out i; omega
    have HRR := Lib.hid hr
    have HRS := Lib.hid hrs
    have HLR := Lib.hid hrs.len
    clear hr hrs
    obtain ⟨w4, hw4⟩ : ∃ w4 : World, w4 = w3.alloc (.cells #[.int .i64 r.1, .slice A3 m3 c3] 43) := ⟨_, rfl⟩
    have hz4 : w3.heap.size < w4.heap.size := by rw [hw4]; simp
    have hb4 : Below w3.heap.size w3 w4 := by rw [hw4]; exact (Below.refl _ _).alloc (Nat.le_refl _) _
    have HS4 := Lib.hid (HS3.out.below hb4)
    have HBR4 := Lib.hid (show w4.heap[w3.heap.size]? = some (.cells #[.int .i64 r.1, .slice A3 m3 c3] 43 (0, 0)) by rw [hw4]; exact heap_alloc_new _ _)
    have HRS4 := Lib.hid (HRS.out.below hb4)
    obtain ⟨g3, c0, c1, p0, o0⟩ := HCL.out w4 _ _ _ HS4.out
    have kr : w4.cell? ⟨w3.heap.size, 0, none⟩ = some (.int .i64 r.1) := by simp [World.cell?, HBR4.out]
    have kr1 : w4.cell? ⟨w3.heap.size, 1, none⟩ = some (.slice A3 m3 c3) := by simp [World.cell?, HBR4.out]
    have HR4 := Lib.hid (HR.out.keep (Kept.belowB HS4.out.bel fun b hb => hb.2))
    rw [hw4] at g3 c0 c1 p0 o0 kr kr1
    clear hb4
    go_wp2_with fail
    rw [← hw4]
    rw [← hw4] at g3 c0 c1 p0 o0 kr kr1
    clear hw4 hc1 hc2
    refine (containsInt _ _ _ _ l r.1 _ HR4.out.ints (by omega)).mono ?_
    rintro e w5 ⟨rfl, rfl⟩
    cases hcr : l.contains r.1 with
    | false =>
     have HCR := Lib.hid hcr
     clear hcr
     go_wp2_with fail
     go_roundg (nR - (i + 1))
     case measure => rw [HGK.out]; omega
     case rel =>
      refine ⟨i + 1, AO, cO, by omega, rfl, by go_num, ?_⟩
      rw [show netU R (0, l) x (i + 1) = netU R (0, l) x i by rw [netU_succ HRR.out, HCR.out]; simp]
      exact HS4.out
    | true =>
     have HCR := Lib.hid hcr
     clear hcr
     have HNX := Lib.hid (show netU R (0, l) x (i + 1) = netU R (0, l) x i ++ netRule (0, l) r by rw [netU_succ HRR.out, HCR.out]; rfl)
     have HPQ := Lib.hid (show ∀ k, Calls Tryz.prog 61 #[.int .i64 r.1, .pointer (some ⟨w.heap.size + 1, 0, none⟩)] (w4.drewN k) fun e w' => e = .returned (.int .i64 (idxInt l r.1)) ∧ w' = w4.drewN k from fun k => (HPL.out (w4.drewN k) _ _ _ (HS4.out.below (belowN (Below.refl _ _) k)) r.1).mono fun _ _ h => ⟨h.1, h.2.symm⟩)
     go_wp2_with fail
     go_quiet ((go_at_fn 61; refine Calls.quiet_of_same (HPQ.out _)))
     obtain ⟨w5, hw5⟩ : ∃ w5 : World, w5 = w4.drewN nq := ⟨_, rfl⟩
     have hb5 : Below w4.heap.size w4 w5 := by rw [hw5]; exact belowN (Below.refl _ _) nq
     have HS5 := Lib.hid (HS4.out.below hb5)
     have HBR5 := Lib.hid ((hb5.block _ hz4).trans HBR4.out)
     have HRS5 := Lib.hid (HRS4.out.below hb5)
     have hz5 : w3.heap.size < w5.heap.size := Nat.lt_of_lt_of_le hz4 hb5.size
     rw [← hw5]
     clear hw5 hb5 kr kr1 g3 c0 c1 p0 o0 HPQ
     obtain ⟨g3, c0, c1, p0, o0⟩ := HCL.out w5 _ _ _ HS5.out
     have kr : w5.cell? ⟨w3.heap.size, 0, none⟩ = some (.int .i64 r.1) := by simp [World.cell?, HBR5.out]
     have kr1 : w5.cell? ⟨w3.heap.size, 1, none⟩ = some (.slice A3 m3 c3) := by simp [World.cell?, HBR5.out]
     go_wp2_with fail
     rcases Nat.eq_zero_or_pos m3 with rfl | hmp
     ·
      have hr2 : r.2 = [] := List.eq_nil_of_length_eq_zero HLR.out.symm
      have HR2 := Lib.hid hr2
      clear hr2
      go_quiet (fail)
      obtain ⟨w6, hw6⟩ : ∃ w6 : World, w6 = w5.drewN nq := ⟨_, rfl⟩
      have hb6 : Below w5.heap.size w5 w6 := by rw [hw6]; exact belowN (Below.refl _ _) nq
      have HS6 := Lib.hid (HS5.out.below hb6)
      have HBR6 := Lib.hid ((hb6.block _ hz5).trans HBR5.out)
      have HRS6 := Lib.hid (HRS5.out.below hb6)
      rw [← hw6]
      clear hw6 hb6 kr kr1 g3 c0 c1 p0 o0
      obtain ⟨g3, c0, c1, p0, o0⟩ := HCL.out w6 _ _ _ HS6.out
      have kr : w6.cell? ⟨w3.heap.size, 0, none⟩ = some (.int .i64 r.1) := by simp [World.cell?, HBR6.out]
      have kr1 : w6.cell? ⟨w3.heap.size, 1, none⟩ = some (.slice A3 0 c3) := by simp [World.cell?, HBR6.out]
      go_wp2_with fail
      refine (NSt.add HS6.out (idxInt l r.1) (-2) A3 0 c3 r.2 HRS6.out (by omega)).mono ?_
      rintro e w7 ⟨rfl, A7, c7, hst7, hz7, hb7⟩
      have HS7 := Lib.hid hst7
      clear hst7
      go_wp2_with fail
      go_roundg (nR - (i + 1))
      case measure => rw [HGK.out]; omega
      case rel =>
       refine ⟨i + 1, A7, c7, by omega, rfl, by go_num, ?_⟩
       rw [HNX.out, show netRule (0, l) r = [(idxInt l r.1, -2, r.2)] by simp [netRule, HR2.out]]
       exact HS7.out
     ·
      obtain ⟨q, rfl⟩ : ∃ q, m3 = q + 1 := ⟨m3 - 1, by omega⟩
      obtain ⟨bs, os, s, hA3, hbs, _, hs1, hs2, hs⟩ := sym_at HRS5.out (k := q) (by omega)
      subst hA3
      obtain ⟨tm, xI⟩ := s
      have HS := Lib.hid hs
      clear hs
      have hqw : IntKind.i64.wrap (q : Int) = (q : Int) := by rw [IntKind.wrap_i64]; omega
      have hq0 : (0 : Int) ≤ (q : Int) := by omega
      have hq1 : (q : Int) < (q : Int) + 1 := by omega
      have hqp : (0 : Int) < ((q + 1 : Nat) : Int) := by omega
      have hd : decide ((0 : Int) < ((q + 1 : Nat) : Int)) = true := by simp
      have HALL := Lib.hid (show ∀ u : World, Below w5.heap.size w5 u → u.cell? ⟨w.heap.size + 1, 0, none⟩ = some (.int .i64 0) ∧ u.cell? ⟨w.heap.size + 1, 1, none⟩ = some (.slice A n c) ∧ u.cell? ⟨w3.heap.size, 1, none⟩ = some (.slice (some ⟨bs, os, none⟩) (q + 1) c3) ∧ u.cell? ⟨bs, os + q * 2, none⟩ = some (.bool tm) ∧ u.cell? ⟨bs, os + q * 2 + 1, none⟩ = some (.int .i64 xI) from fun u hu =>
       ⟨(hu.cell (cell_lt c0)).trans c0, (hu.cell (cell_lt c1)).trans c1, (hu.cell (cell_lt kr1)).trans kr1, (hu.cell (cell_lt hs1)).trans hs1, (hu.cell (cell_lt hs2)).trans hs2⟩)
      refine wp_region_late (late := []) (S1 := fun u => u.cell? ⟨w.heap.size + 1, 0, none⟩ = some (.int .i64 0) ∧ u.cell? ⟨w.heap.size + 1, 1, none⟩ = some (.slice A n c) ∧ u.cell? ⟨w3.heap.size, 1, none⟩ = some (.slice (some ⟨bs, os, none⟩) (q + 1) c3) ∧ u.cell? ⟨bs, os + q * 2, none⟩ = some (.bool tm) ∧ u.cell? ⟨bs, os + q * 2 + 1, none⟩ = some (.int .i64 xI)) (S := fun _ => True) (by kernel_rfl) ?_
      clear c0 c1 kr1 kr hs1 hs2 g3 p0 o0
      refine wpAnyL_pure (i := 0) rfl (by kernel_rfl) (fun _ _ _ h => h) (Or.inl ⟨by rfl, (fun u hu => by obtain ⟨k0, k1, k2, k3, k4⟩ := hu; go_simp; try rfl)⟩) (HALL.out _ (Below.refl _ _).drew) (fun _ => trivial) ?_
      simp only [Act.put, List.setIfInBounds_toArray, List.set_cons_zero, List.set_cons_succ, List.getElem_toArray, List.getElem_cons_zero, List.getElem_cons_succ]
      refine wpAnyL_pure (i := 1) rfl (by kernel_rfl) (fun _ _ _ h => h) (Or.inl ⟨by rfl, (fun u hu => by obtain ⟨k0, k1, k2, k3, k4⟩ := hu; go_simp; try rfl)⟩) (HALL.out _ (Below.refl _ _).drew) (fun _ => trivial) ?_
      simp only [Act.put, List.setIfInBounds_toArray, List.set_cons_zero, List.set_cons_succ, List.getElem_toArray, List.getElem_cons_zero, List.getElem_cons_succ]
      refine wpAnyL_pure (i := 2) rfl (by kernel_rfl) (fun _ _ _ h => h) (Or.inl ⟨by rfl, (fun u hu => by obtain ⟨k0, k1, k2, k3, k4⟩ := hu; go_simp; try rfl)⟩) (HALL.out _ (Below.refl _ _).drew) (fun _ => trivial) ?_
      simp only [Act.put, List.setIfInBounds_toArray, List.set_cons_zero, List.set_cons_succ, List.getElem_toArray, List.getElem_cons_zero, List.getElem_cons_succ]
      refine wpAnyL_pure (i := 3) rfl (by kernel_rfl) (fun _ _ _ h => h) (Or.inl ⟨by rfl, (fun u hu => by obtain ⟨k0, k1, k2, k3, k4⟩ := hu; go_simp; try rfl)⟩) (HALL.out _ (Below.refl _ _).drew) (fun _ => trivial) ?_
      simp only [Act.put, List.setIfInBounds_toArray, List.set_cons_zero, List.set_cons_succ, List.getElem_toArray, List.getElem_cons_zero, List.getElem_cons_succ]
      refine wpAnyL_pure (i := 4) rfl (by kernel_rfl) (fun _ _ _ h => h) (Or.inl ⟨by rfl, (fun u hu => by obtain ⟨k0, k1, k2, k3, k4⟩ := hu; go_simp; try rfl)⟩) (HALL.out _ (Below.refl _ _).drew) (fun _ => trivial) ?_
      simp only [Act.put, List.setIfInBounds_toArray, List.set_cons_zero, List.set_cons_succ, List.getElem_toArray, List.getElem_cons_zero, List.getElem_cons_succ]
      refine wpAnyL_pure (i := 5) rfl (by kernel_rfl) (fun _ _ _ h => h) (Or.inl ⟨by rfl, (fun u hu => by obtain ⟨k0, k1, k2, k3, k4⟩ := hu; go_simp; try rfl)⟩) (HALL.out _ (Below.refl _ _).drew) (fun _ => trivial) ?_
      simp only [Act.put, List.setIfInBounds_toArray, List.set_cons_zero, List.set_cons_succ, List.getElem_toArray, List.getElem_cons_zero, List.getElem_cons_succ]
      refine wpAnyL_pure (i := 6) rfl (by kernel_rfl) (fun _ _ _ h => h) (Or.inl ⟨by rfl, (fun u hu => by obtain ⟨k0, k1, k2, k3, k4⟩ := hu; go_simp; try rfl)⟩) (HALL.out _ (Below.refl _ _).drew) (fun _ => trivial) ?_
      simp only [Act.put, List.setIfInBounds_toArray, List.set_cons_zero, List.set_cons_succ, List.getElem_toArray, List.getElem_cons_zero, List.getElem_cons_succ]
      refine wpAnyL_pure (i := 7) rfl (by kernel_rfl) (fun _ _ _ h => h) (Or.inl ⟨by rfl, (fun u hu => by obtain ⟨k0, k1, k2, k3, k4⟩ := hu; go_simp; try rfl)⟩) (HALL.out _ (Below.refl _ _).drew) (fun _ => trivial) ?_
      simp only [Act.put, List.setIfInBounds_toArray, List.set_cons_zero, List.set_cons_succ, List.getElem_toArray, List.getElem_cons_zero, List.getElem_cons_succ]
      refine wpAnyL_pure (i := 8) rfl (by kernel_rfl) (fun _ _ _ h => h) (Or.inl ⟨by rfl, (fun u hu => by obtain ⟨k0, k1, k2, k3, k4⟩ := hu; go_simp; try rfl)⟩) (HALL.out _ (Below.refl _ _).drew) (fun _ => trivial) ?_
      simp only [Act.put, List.setIfInBounds_toArray, List.set_cons_zero, List.set_cons_succ, List.getElem_toArray, List.getElem_cons_zero, List.getElem_cons_succ]
      refine wpAnyL_pure (i := 9) rfl (by kernel_rfl) (fun _ _ _ h => h) (Or.inl ⟨by rfl, (fun u hu => by obtain ⟨k0, k1, k2, k3, k4⟩ := hu; go_simp; try rfl)⟩) (HALL.out _ (Below.refl _ _).drew) (fun _ => trivial) ?_
      simp only [Act.put, List.setIfInBounds_toArray, List.set_cons_zero, List.set_cons_succ, List.getElem_toArray, List.getElem_cons_zero, List.getElem_cons_succ]
      refine wpAnyL_pure (i := 10) rfl (by kernel_rfl) (fun _ _ _ h => h) (Or.inl ⟨by rfl, (fun u hu => by obtain ⟨k0, k1, k2, k3, k4⟩ := hu; go_simp; try rfl)⟩) (HALL.out _ (Below.refl _ _).drew) (fun _ => trivial) ?_
      simp only [Act.put, List.setIfInBounds_toArray, List.set_cons_zero, List.set_cons_succ, List.getElem_toArray, List.getElem_cons_zero, List.getElem_cons_succ]
      refine wpAnyL_pure (i := 11) rfl (by kernel_rfl) (fun _ _ _ h => h) (Or.inl ⟨by rfl, (fun u hu => by obtain ⟨k0, k1, k2, k3, k4⟩ := hu; go_simp; try rfl)⟩) (HALL.out _ (Below.refl _ _).drew) (fun _ => trivial) ?_
      simp only [Act.put, List.setIfInBounds_toArray, List.set_cons_zero, List.set_cons_succ, List.getElem_toArray, List.getElem_cons_zero, List.getElem_cons_succ]
      refine wpAnyL_pure (i := 12) rfl (by kernel_rfl) (fun _ _ _ h => h) (Or.inl ⟨by rfl, (fun u hu => by obtain ⟨k0, k1, k2, k3, k4⟩ := hu; go_simp; try rfl)⟩) (HALL.out _ (Below.refl _ _).drew) (fun _ => trivial) ?_
      simp only [Act.put, List.setIfInBounds_toArray, List.set_cons_zero, List.set_cons_succ, List.getElem_toArray, List.getElem_cons_zero, List.getElem_cons_succ]
      refine wpAnyL_pure (i := 13) rfl (by kernel_rfl) (fun _ _ _ h => h) (Or.inl ⟨by rfl, (fun u hu => by obtain ⟨k0, k1, k2, k3, k4⟩ := hu; go_simp; try rfl)⟩) (HALL.out _ (Below.refl _ _).drew) (fun _ => trivial) ?_
      simp only [Act.put, List.setIfInBounds_toArray, List.set_cons_zero, List.set_cons_succ, List.getElem_toArray, List.getElem_cons_zero, List.getElem_cons_succ]
      refine wpAnyL_pure (i := 14) rfl (by kernel_rfl) (fun _ _ _ h => h) (Or.inl ⟨by rfl, (fun u hu => by obtain ⟨k0, k1, k2, k3, k4⟩ := hu; go_simp; try rfl)⟩) (HALL.out _ (Below.refl _ _).drew) (fun _ => trivial) ?_
      simp only [Act.put, List.setIfInBounds_toArray, List.set_cons_zero, List.set_cons_succ, List.getElem_toArray, List.getElem_cons_zero, List.getElem_cons_succ]
      refine wpAnyL_ready (rs := [15]) (by kernel_rfl) (by simp) ?_
      refine AllL.cons rfl (fun K hK => ?_) ?_
      ·
       have hb0 : Below w5.heap.size w5 w5.drew := (Below.refl _ _).drew
       go_simp
       refine (compIn w5.drew 0 A n c _ l (HR.out.keep (Kept.belowB (HS5.out.below hb0).bel fun b hb => hb.2)) (by omega) tm xI).mono ?_
       rintro e w6 ⟨rfl, hb6⟩
       have HB6 := Lib.hid (hb0.trans hb6)
       clear hb0 hb6
       refine hK.out _ _ (HALL.out _ HB6.out) (fun _ => trivial) ?_
       clear hK K
       refine wpAnyL_pure (i := 16) rfl (by kernel_rfl) (fun _ _ _ h => h) (Or.inl ⟨by rfl, (fun u hu => by obtain ⟨k0, k1, k2, k3, k4⟩ := hu; go_simp; try rfl)⟩) (HALL.out _ HB6.out) (fun _ => trivial) ?_
       simp only [Act.put, List.setIfInBounds_toArray, List.set_cons_zero, List.set_cons_succ, List.getElem_toArray, List.getElem_cons_zero, List.getElem_cons_succ]
       refine wpAnyL_pure (i := 17) rfl (by kernel_rfl) (fun _ _ _ h => h) (Or.inl ⟨by rfl, (fun u hu => by obtain ⟨k0, k1, k2, k3, k4⟩ := hu; go_simp; try rfl)⟩) (HALL.out _ HB6.out) (fun _ => trivial) ?_
       simp only [Act.put, List.setIfInBounds_toArray, List.set_cons_zero, List.set_cons_succ, List.getElem_toArray, List.getElem_cons_zero, List.getElem_cons_succ]
       refine wpAnyL_done (by kernel_rfl) ?_ _
       have hgl : r.2.getLast? = some (tm, xI) := by rw [List.getLast?_eq_getElem?, ← HLR.out]; exact HS.out
       have HGL := Lib.hid hgl
       have HS6 := Lib.hid (HS5.out.below HB6.out)
       have HBR6 := Lib.hid ((HB6.out.block _ hz5).trans HBR5.out)
       have HRS6 := Lib.hid (HRS5.out.below HB6.out)
       obtain ⟨g3, c0, c1, p0, o0⟩ := HCL.out w6 _ _ _ HS6.out
       have kr : w6.cell? ⟨w3.heap.size, 0, none⟩ = some (.int .i64 r.1) := by simp [World.cell?, HBR6.out]
       have kr1 : w6.cell? ⟨w3.heap.size, 1, none⟩ = some (.slice (some ⟨bs, os, none⟩) (q + 1) c3) := by simp [World.cell?, HBR6.out]
       clear hgl
       cases hin : inC l (tm, xI) with
       | false =>
        have HIN := Lib.hid hin
        clear hin
        go_wp2_with fail
        refine (NSt.add HS6.out (idxInt l r.1) (-2) _ (q + 1) c3 r.2 HRS6.out (by omega)).mono ?_
        rintro e w7 ⟨rfl, A7, c7, hst7, hz7, hb7⟩
        have HS7 := Lib.hid hst7
        clear hst7
        go_wp2_with fail
        go_roundg (nR - (i + 1))
        case measure => rw [HGK.out]; omega
        case rel =>
         refine ⟨i + 1, A7, c7, by omega, rfl, by go_num, ?_⟩
         rw [HNX.out, show netRule (0, l) r = [(idxInt l r.1, -2, r.2)] by simp [netRule, HGL.out, HIN.out]]
         exact HS7.out
       | true =>
        have HIN := Lib.hid hin
        clear hin
        go_wp2_with fail
        obtain ⟨-, -, -, hs1, hs2⟩ := HALL.out _ HB6.out
        have HAL2 := Lib.hid (show ∀ u : World, Below w6.heap.size w6 u → u.cell? ⟨w3.heap.size, 1, none⟩ = some (.slice (some ⟨bs, os, none⟩) (q + 1) c3) ∧ u.cell? ⟨w.heap.size + 2, 0, none⟩ = some (.func (.func 61) #[] #[.pointer (some ⟨w.heap.size + 1, 0, none⟩)]) ∧ u.cell? ⟨bs, os + q * 2 + 1, none⟩ = some (.int .i64 xI) from fun u hu =>
         ⟨(hu.cell (cell_lt kr1)).trans kr1, (hu.cell (cell_lt p0)).trans p0, (hu.cell (cell_lt hs2)).trans hs2⟩)
        have hqc : (q : Int) ≤ (c3 : Int) := by omega
        have hqn : (q : Int).toNat = q := by omega
        refine wp_region_late (late := []) (S1 := fun u => u.cell? ⟨w3.heap.size, 1, none⟩ = some (.slice (some ⟨bs, os, none⟩) (q + 1) c3) ∧ u.cell? ⟨w.heap.size + 2, 0, none⟩ = some (.func (.func 61) #[] #[.pointer (some ⟨w.heap.size + 1, 0, none⟩)]) ∧ u.cell? ⟨bs, os + q * 2 + 1, none⟩ = some (.int .i64 xI)) (S := fun _ => True) (by kernel_rfl) ?_
        clear c0 c1 kr1 kr hs1 hs2 g3 p0 o0
        refine wpAnyL_pure (i := 0) rfl (by kernel_rfl) (fun _ _ _ h => h) (Or.inl ⟨by rfl, (fun u hu => by obtain ⟨k0, k1, k2⟩ := hu; go_simp; try rfl)⟩) (HAL2.out _ (Below.refl _ _).drew) (fun _ => trivial) ?_
        simp only [Act.put, List.setIfInBounds_toArray, List.set_cons_zero, List.set_cons_succ, List.getElem_toArray, List.getElem_cons_zero, List.getElem_cons_succ]
        refine wpAnyL_pure (i := 1) rfl (by kernel_rfl) (fun _ _ _ h => h) (Or.inl ⟨by rfl, (fun u hu => by obtain ⟨k0, k1, k2⟩ := hu; go_simp; try rfl)⟩) (HAL2.out _ (Below.refl _ _).drew) (fun _ => trivial) ?_
        simp only [Act.put, List.setIfInBounds_toArray, List.set_cons_zero, List.set_cons_succ, List.getElem_toArray, List.getElem_cons_zero, List.getElem_cons_succ]
        refine wpAnyL_pure (i := 2) rfl (by kernel_rfl) (fun _ _ _ h => h) (Or.inl ⟨by rfl, (fun u hu => by obtain ⟨k0, k1, k2⟩ := hu; go_simp; try rfl)⟩) (HAL2.out _ (Below.refl _ _).drew) (fun _ => trivial) ?_
        simp only [Act.put, List.setIfInBounds_toArray, List.set_cons_zero, List.set_cons_succ, List.getElem_toArray, List.getElem_cons_zero, List.getElem_cons_succ]
        refine wpAnyL_pure (i := 3) rfl (by kernel_rfl) (fun _ _ _ h => h) (Or.inl ⟨by rfl, (fun u hu => by obtain ⟨k0, k1, k2⟩ := hu; go_simp; try rfl)⟩) (HAL2.out _ (Below.refl _ _).drew) (fun _ => trivial) ?_
        simp only [Act.put, List.setIfInBounds_toArray, List.set_cons_zero, List.set_cons_succ, List.getElem_toArray, List.getElem_cons_zero, List.getElem_cons_succ]
        refine wpAnyL_pure (i := 4) rfl (by kernel_rfl) (fun _ _ _ h => h) (Or.inl ⟨by rfl, (fun u hu => by obtain ⟨k0, k1, k2⟩ := hu; go_simp; try rfl)⟩) (HAL2.out _ (Below.refl _ _).drew) (fun _ => trivial) ?_
        simp only [Act.put, List.setIfInBounds_toArray, List.set_cons_zero, List.set_cons_succ, List.getElem_toArray, List.getElem_cons_zero, List.getElem_cons_succ]
        refine wpAnyL_pure (i := 5) rfl (by kernel_rfl) (fun _ _ _ h => h) (Or.inl ⟨by rfl, (fun u hu => by obtain ⟨k0, k1, k2⟩ := hu; go_simp; try rfl)⟩) (HAL2.out _ (Below.refl _ _).drew) (fun _ => trivial) ?_
        simp only [Act.put, List.setIfInBounds_toArray, List.set_cons_zero, List.set_cons_succ, List.getElem_toArray, List.getElem_cons_zero, List.getElem_cons_succ]
        refine wpAnyL_pure (i := 6) rfl (by kernel_rfl) (fun _ _ _ h => h) (Or.inl ⟨by rfl, (fun u hu => by obtain ⟨k0, k1, k2⟩ := hu; go_simp; try rfl)⟩) (HAL2.out _ (Below.refl _ _).drew) (fun _ => trivial) ?_
        simp only [Act.put, List.setIfInBounds_toArray, List.set_cons_zero, List.set_cons_succ, List.getElem_toArray, List.getElem_cons_zero, List.getElem_cons_succ]
        refine wpAnyL_pure (i := 7) rfl (by kernel_rfl) (fun _ _ _ h => h) (Or.inl ⟨by rfl, (fun u hu => by obtain ⟨k0, k1, k2⟩ := hu; go_simp; try rfl)⟩) (HAL2.out _ (Below.refl _ _).drew) (fun _ => trivial) ?_
        simp only [Act.put, List.setIfInBounds_toArray, List.set_cons_zero, List.set_cons_succ, List.getElem_toArray, List.getElem_cons_zero, List.getElem_cons_succ]
        refine wpAnyL_pure (i := 8) rfl (by kernel_rfl) (fun _ _ _ h => h) (Or.inl ⟨by rfl, (fun u hu => by obtain ⟨k0, k1, k2⟩ := hu; go_simp; try rfl)⟩) (HAL2.out _ (Below.refl _ _).drew) (fun _ => trivial) ?_
        simp only [Act.put, List.setIfInBounds_toArray, List.set_cons_zero, List.set_cons_succ, List.getElem_toArray, List.getElem_cons_zero, List.getElem_cons_succ]
        refine wpAnyL_pure (i := 9) rfl (by kernel_rfl) (fun _ _ _ h => h) (Or.inl ⟨by rfl, (fun u hu => by obtain ⟨k0, k1, k2⟩ := hu; go_simp; try rfl)⟩) (HAL2.out _ (Below.refl _ _).drew) (fun _ => trivial) ?_
        simp only [Act.put, List.setIfInBounds_toArray, List.set_cons_zero, List.set_cons_succ, List.getElem_toArray, List.getElem_cons_zero, List.getElem_cons_succ]
        refine wpAnyL_pure (i := 11) rfl (by kernel_rfl) (fun _ _ _ h => h) (Or.inl ⟨by rfl, (fun u hu => by obtain ⟨k0, k1, k2⟩ := hu; go_simp; try rfl)⟩) (HAL2.out _ (Below.refl _ _).drew) (fun _ => trivial) ?_
        simp only [Act.put, List.setIfInBounds_toArray, List.set_cons_zero, List.set_cons_succ, List.getElem_toArray, List.getElem_cons_zero, List.getElem_cons_succ]
        refine wpAnyL_pure (i := 12) rfl (by kernel_rfl) (fun _ _ _ h => h) (Or.inl ⟨by rfl, (fun u hu => by obtain ⟨k0, k1, k2⟩ := hu; go_simp; try rfl)⟩) (HAL2.out _ (Below.refl _ _).drew) (fun _ => trivial) ?_
        simp only [Act.put, List.setIfInBounds_toArray, List.set_cons_zero, List.set_cons_succ, List.getElem_toArray, List.getElem_cons_zero, List.getElem_cons_succ]
        refine wpAnyL_pure (i := 13) rfl (by kernel_rfl) (fun _ _ _ h => h) (Or.inl ⟨by rfl, (fun u hu => by obtain ⟨k0, k1, k2⟩ := hu; go_simp; try rfl)⟩) (HAL2.out _ (Below.refl _ _).drew) (fun _ => trivial) ?_
        simp only [Act.put, List.setIfInBounds_toArray, List.set_cons_zero, List.set_cons_succ, List.getElem_toArray, List.getElem_cons_zero, List.getElem_cons_succ]
        refine wpAnyL_pure (i := 14) rfl (by kernel_rfl) (fun _ _ _ h => h) (Or.inl ⟨by rfl, (fun u hu => by obtain ⟨k0, k1, k2⟩ := hu; go_simp; try rfl)⟩) (HAL2.out _ (Below.refl _ _).drew) (fun _ => trivial) ?_
        simp only [Act.put, List.setIfInBounds_toArray, List.set_cons_zero, List.set_cons_succ, List.getElem_toArray, List.getElem_cons_zero, List.getElem_cons_succ]
        refine wpAnyL_pure (i := 15) rfl (by kernel_rfl) (fun _ _ _ h => h) (Or.inl ⟨by rfl, (fun u hu => by obtain ⟨k0, k1, k2⟩ := hu; go_simp; try rfl)⟩) (HAL2.out _ (Below.refl _ _).drew) (fun _ => trivial) ?_
        simp only [Act.put, List.setIfInBounds_toArray, List.set_cons_zero, List.set_cons_succ, List.getElem_toArray, List.getElem_cons_zero, List.getElem_cons_succ]
        refine wpAnyL_ready (rs := [10]) (by kernel_rfl) (by simp) ?_
        refine AllL.cons rfl (fun K hK => ?_) ?_
        ·
         go_simp
         refine (HPL.out w6.drew _ _ _ (HS6.out.below (Below.refl _ _).drew) xI).mono ?_
         rintro e w7 ⟨rfl, rfl⟩
         refine hK.out _ _ (HAL2.out _ (Below.refl _ _).drew) (fun _ => trivial) ?_
         clear hK K
         refine wpAnyL_ready (rs := [16]) (by kernel_rfl) (by simp) ?_
         refine AllL.cons rfl (fun K hK => ?_) ?_
         ·
          go_simp
          refine (NSt.add (HS6.out.below (Below.refl _ _).drew) (idxInt l r.1) (idxInt l xI) _ q c3 (r.2.take q) ((HRS6.out.below (Below.refl _ _).drew).take q (by omega)) (by omega)).mono ?_
          rintro e w7 ⟨rfl, A7, c7, hst7, hz7, hb7, hk7⟩
          have HS7 := Lib.hid hst7
          have hrw : rowOf (.slice AO (netU R (0, l) x i).length cO) ≠ some w3.heap.size := fun e => by have := HS3.out.own.lt e; omega
          have h36 : w3.heap.size < w6.heap.size := Nat.lt_of_lt_of_le hz5 HB6.out.size
          have h03 := heap_lt HS3.out.ob
          have hkr := (hk7 w3.heap.size h36 (by omega) hrw).trans HBR6.out
          have HK7 := Lib.hid (show w7.cell? ⟨w3.heap.size, 1, none⟩ = some (.slice (some ⟨bs, os, none⟩) (q + 1) c3) ∧ w7.cell? ⟨w.heap.size + 2, 0, none⟩ = some (.func (.func 61) #[] #[.pointer (some ⟨w.heap.size + 1, 0, none⟩)]) ∧ w7.cell? ⟨bs, os + q * 2 + 1, none⟩ = some (.int .i64 xI) from ⟨by simp [World.cell?, hkr], (HCL.out w7 _ _ _ hst7).2.2.2.1, (hb7.cell hbs.2).trans (HAL2.out _ (Below.refl _ _).drew).2.2⟩)
          clear hst7 hkr hk7 hrw
          refine hK.out _ _ HK7.out (fun _ => trivial) ?_
          clear hK K
          refine wpAnyL_done (by kernel_rfl) ?_ _
          go_wp2_with fail
          go_roundg (nR - (i + 1))
          case measure => rw [HGK.out]; omega
          case rel =>
           refine ⟨i + 1, A7, c7, by omega, rfl, by go_num, ?_⟩
           rw [HNX.out, show netRule (0, l) r = [(idxInt l r.1, idxInt l xI, r.2.take q)] by simp [netRule, HGL.out, HIN.out, ← HLR.out]]
           exact HS7.out
         exact AllL.nil
        exact AllL.nil
      exact AllL.nil
   ·
    obtain rfl : nR = i := by omega
    obtain ⟨g3, c0, c1, p0, o0⟩ := HCL.out w3 _ _ _ HS3.out
    go_wp2_with fail
    go_quiet (fail)
    go_wp2_with fail
    refine bodyPost_ret (v := .tuple #[.int .i64 (n), .slice AO (netU R (0, l) x nR).length cO]) (by simp [results, Tryz.results40, go_sem]) rfl ?_
    have hnn : (netN (0, l) : Int) = n := by
     have := HLN.out
     simp [netN]
     omega
    have hpp : netP R (0, l) x = netU R (0, l) x nR := by unfold netP; rw [← HRL.out]
    refine ⟨⟨AO, (netU R (0, l) x nR).length, cO, by rw [hnn], ?_⟩, belowN HS3.out.bel nq⟩
    rw [hpp]
    exact (HS3.out.own.sl.drewN nq).more fun b hb => by
     rcases hb with h | h
     ·
      exact .inl h
     ·
      exact .inr (by omega)
 ·
  --@1b
  go_wp2_with fail
  rw [← hw1]
  clear hw1
  refine (HPL.out w1 _ _ _ HST.out x).mono ?_
  rintro e w2 ⟨rfl, rfl⟩
  go_wp2_with fail
  refine (NSt.add HST.out (idxInt l x) (-2) none 0 0 [] (Sl.nil _ _ _ _) (by simp)).mono ?_
  rintro e w2 ⟨rfl, A2, c2, hst2, hz2, hb2⟩
  have HS2 := Lib.hid hst2
  clear hst2 g3 c0 c1 p0 o0
  obtain ⟨g3, c0, c1, p0, o0⟩ := HCL.out w2 _ _ _ HS2.out
  go_wp2_with fail
  clear g3 c0 c1 p0 o0
  go_loopg [58] nR (fun gk vi wr => ∃ (i : Nat) (AO : Option Addr) (cO : Nat), i ≤ nR ∧ gk = nR - i ∧ vi = .int .i64 i ∧ NSt w gc cc Sg AO cO (netU R (1, l) x i) wr)
  case atStart => exact ⟨0, _, _, Nat.zero_le _, rfl, rfl, by simpa [netU, netStart] using HS2.out⟩
  case round =>
   obtain ⟨i, AO, cO, hi, hgk, rfl, hst⟩ := hrel
   have HGK := Lib.hid hgk
   have HS3 := Lib.hid hst
   obtain ⟨w3, rfl⟩ : ∃ w3 : World, w3 = wr := ⟨_, rfl⟩
   clear hgk hst HS2
   by_cases hlt : i < nR
   ·
    obtain ⟨b0, off, A3, m3, c3, r, rfl, _, hb0, hc1, hc2, hr, hrs⟩ := rule_at (HG.out.keep (Kept.belowB HS3.out.bel fun b hb => hb.2)) hlt
    have hm4 : m3 ≤ 4 := by have := hrs.len; have := HLE.out r (List.mem_of_getElem? hr); omega
    have hmc : m3 ≤ c3 := hrs.cap
    have hiI : (i : Int) < (nR : Int) := by omega
    have hi0 : (0 : Int) ≤ (i : Int) := by omega
    have hol : (netU R (1, l) x i).length ≤ 1000 := by have := netU_len (c := (1, l)) (x := x) HLE.out i; omega
    have HRR := Lib.hid hr
    have HRS := Lib.hid hrs
    have HLR := Lib.hid hrs.len
    clear hr hrs
    obtain ⟨w4, hw4⟩ : ∃ w4 : World, w4 = w3.alloc (.cells #[.int .i64 r.1, .slice A3 m3 c3] 43) := ⟨_, rfl⟩
    have hz4 : w3.heap.size < w4.heap.size := by rw [hw4]; simp
    have hb4 : Below w3.heap.size w3 w4 := by rw [hw4]; exact (Below.refl _ _).alloc (Nat.le_refl _) _
    have HS4 := Lib.hid (HS3.out.below hb4)
    have HBR4 := Lib.hid (show w4.heap[w3.heap.size]? = some (.cells #[.int .i64 r.1, .slice A3 m3 c3] 43 (0, 0)) by rw [hw4]; exact heap_alloc_new _ _)
    have HRS4 := Lib.hid (HRS.out.below hb4)
    obtain ⟨g3, c0, c1, p0, o0⟩ := HCL.out w4 _ _ _ HS4.out
    have kr : w4.cell? ⟨w3.heap.size, 0, none⟩ = some (.int .i64 r.1) := by simp [World.cell?, HBR4.out]
    have kr1 : w4.cell? ⟨w3.heap.size, 1, none⟩ = some (.slice A3 m3 c3) := by simp [World.cell?, HBR4.out]
    have HR4 := Lib.hid (HR.out.keep (Kept.belowB HS4.out.bel fun b hb => hb.2))
    rw [hw4] at g3 c0 c1 p0 o0 kr kr1
    clear hb4
    go_wp2_with fail
    rw [← hw4]
    rw [← hw4] at g3 c0 c1 p0 o0 kr kr1
    clear hw4 hc1 hc2
    refine (containsInt _ _ _ _ l r.1 _ HR4.out.ints (by omega)).mono ?_
    rintro e w5 ⟨rfl, rfl⟩
    cases hcr : l.contains r.1 with
    | false =>
     have HCR := Lib.hid hcr
     clear hcr
     go_wp2_with fail
     go_roundg (nR - (i + 1))
     case measure => rw [HGK.out]; omega
     case rel =>
      refine ⟨i + 1, AO, cO, by omega, rfl, by go_num, ?_⟩
      rw [show netU R (1, l) x (i + 1) = netU R (1, l) x i by rw [netU_succ HRR.out, HCR.out]; simp]
      exact HS4.out
    | true =>
     have HCR := Lib.hid hcr
     clear hcr
     have HNX := Lib.hid (show netU R (1, l) x (i + 1) = netU R (1, l) x i ++ netRule (1, l) r by rw [netU_succ HRR.out, HCR.out]; rfl)
     have HPQ := Lib.hid (show ∀ k, Calls Tryz.prog 61 #[.int .i64 r.1, .pointer (some ⟨w.heap.size + 1, 0, none⟩)] (w4.drewN k) fun e w' => e = .returned (.int .i64 (idxInt l r.1)) ∧ w' = w4.drewN k from fun k => (HPL.out (w4.drewN k) _ _ _ (HS4.out.below (belowN (Below.refl _ _) k)) r.1).mono fun _ _ h => ⟨h.1, h.2.symm⟩)
     go_wp2_with fail
     go_quiet ((go_at_fn 61; refine Calls.quiet_of_same (HPQ.out _)))
     obtain ⟨w5, hw5⟩ : ∃ w5 : World, w5 = w4.drewN nq := ⟨_, rfl⟩
     have hb5 : Below w4.heap.size w4 w5 := by rw [hw5]; exact belowN (Below.refl _ _) nq
     have HS5 := Lib.hid (HS4.out.below hb5)
     have HBR5 := Lib.hid ((hb5.block _ hz4).trans HBR4.out)
     have HRS5 := Lib.hid (HRS4.out.below hb5)
     have hz5 : w3.heap.size < w5.heap.size := Nat.lt_of_lt_of_le hz4 hb5.size
     rw [← hw5]
     clear hw5 hb5 kr kr1 g3 c0 c1 p0 o0 HPQ
     obtain ⟨g3, c0, c1, p0, o0⟩ := HCL.out w5 _ _ _ HS5.out
     have kr : w5.cell? ⟨w3.heap.size, 0, none⟩ = some (.int .i64 r.1) := by simp [World.cell?, HBR5.out]
     have kr1 : w5.cell? ⟨w3.heap.size, 1, none⟩ = some (.slice A3 m3 c3) := by simp [World.cell?, HBR5.out]
     go_wp2_with fail
     go_quiet (fail)
     obtain ⟨w6, hw6⟩ : ∃ w6 : World, w6 = w5.drewN nq := ⟨_, rfl⟩
     have hb6 : Below w5.heap.size w5 w6 := by rw [hw6]; exact belowN (Below.refl _ _) nq
     have HS6 := Lib.hid (HS5.out.below hb6)
     have HBR6 := Lib.hid ((hb6.block _ hz5).trans HBR5.out)
     have HRS6 := Lib.hid (HRS5.out.below hb6)
     have hz6 : w3.heap.size < w6.heap.size := Nat.lt_of_lt_of_le hz5 hb6.size
     rw [← hw6]
     clear hw6 hb6 kr kr1 g3 c0 c1 p0 o0
     obtain ⟨g3, c0, c1, p0, o0⟩ := HCL.out w6 _ _ _ HS6.out
     have kr : w6.cell? ⟨w3.heap.size, 0, none⟩ = some (.int .i64 r.1) := by simp [World.cell?, HBR6.out]
     have kr1 : w6.cell? ⟨w3.heap.size, 1, none⟩ = some (.slice A3 m3 c3) := by simp [World.cell?, HBR6.out]
     go_wp2_with fail
     rcases Nat.eq_zero_or_pos m3 with rfl | hmp
     ·
      have hr2 : r.2 = [] := List.eq_nil_of_length_eq_zero HLR.out.symm
      have HR2 := Lib.hid hr2
      clear hr2
      go_quiet (fail)
      obtain ⟨w7, hw7⟩ : ∃ w7 : World, w7 = w6.drewN nq := ⟨_, rfl⟩
      have hb7 : Below w6.heap.size w6 w7 := by rw [hw7]; exact belowN (Below.refl _ _) nq
      have HS7 := Lib.hid (HS6.out.below hb7)
      have HBR7 := Lib.hid ((hb7.block _ hz6).trans HBR6.out)
      have HRS7 := Lib.hid (HRS6.out.below hb7)
      have hz7 : w3.heap.size < w7.heap.size := Nat.lt_of_lt_of_le hz6 hb7.size
      rw [← hw7]
      clear hw7 hb7 kr kr1 g3 c0 c1 p0 o0
      obtain ⟨g3, c0, c1, p0, o0⟩ := HCL.out w7 _ _ _ HS7.out
      have kr : w7.cell? ⟨w3.heap.size, 0, none⟩ = some (.int .i64 r.1) := by simp [World.cell?, HBR7.out]
      have kr1 : w7.cell? ⟨w3.heap.size, 1, none⟩ = some (.slice A3 0 c3) := by simp [World.cell?, HBR7.out]
      go_wp2_with fail
      refine (NSt.add HS7.out (-1) (idxInt l r.1) A3 0 c3 r.2 HRS7.out (by omega)).mono ?_
      rintro e w8 ⟨rfl, A8, c8, hst8, hz8, hb8⟩
      have HS8 := Lib.hid hst8
      clear hst8
      go_wp2_with fail
      go_roundg (nR - (i + 1))
      case measure => rw [HGK.out]; omega
      case rel =>
       refine ⟨i + 1, A8, c8, by omega, rfl, by go_num, ?_⟩
       rw [HNX.out, show netRule (1, l) r = [(-1, idxInt l r.1, r.2)] by simp [netRule, HR2.out]]
       exact HS8.out
     ·
      obtain ⟨q, rfl⟩ : ∃ q, m3 = q + 1 := ⟨m3 - 1, by omega⟩
      obtain ⟨bs, os, s, hA3, hbs, _, hs1, hs2, hs⟩ := sym_at HRS6.out (k := 0) (by omega)
      subst hA3
      obtain ⟨tm, xI⟩ := s
      have HS := Lib.hid hs
      clear hs
      simp only [Nat.zero_mul, Nat.add_zero] at hs1 hs2
      have hq1 : (0 : Int) < (q : Int) + 1 := by omega
      have hqp : (0 : Int) < ((q + 1 : Nat) : Int) := by omega
      have hqn : 0 < q + 1 := by omega
      have hd : decide ((0 : Int) < ((q + 1 : Nat) : Int)) = true := by simp
      have HALL := Lib.hid (show ∀ u : World, Below w6.heap.size w6 u → u.cell? ⟨w.heap.size + 1, 0, none⟩ = some (.int .i64 1) ∧ u.cell? ⟨w.heap.size + 1, 1, none⟩ = some (.slice A n c) ∧ u.cell? ⟨w3.heap.size, 1, none⟩ = some (.slice (some ⟨bs, os, none⟩) (q + 1) c3) ∧ u.cell? ⟨bs, os, none⟩ = some (.bool tm) ∧ u.cell? ⟨bs, os + 1, none⟩ = some (.int .i64 xI) from fun u hu =>
       ⟨(hu.cell (cell_lt c0)).trans c0, (hu.cell (cell_lt c1)).trans c1, (hu.cell (cell_lt kr1)).trans kr1, (hu.cell (cell_lt hs1)).trans hs1, (hu.cell (cell_lt hs2)).trans hs2⟩)
      refine wp_region_late (late := []) (S1 := fun u => u.cell? ⟨w.heap.size + 1, 0, none⟩ = some (.int .i64 1) ∧ u.cell? ⟨w.heap.size + 1, 1, none⟩ = some (.slice A n c) ∧ u.cell? ⟨w3.heap.size, 1, none⟩ = some (.slice (some ⟨bs, os, none⟩) (q + 1) c3) ∧ u.cell? ⟨bs, os, none⟩ = some (.bool tm) ∧ u.cell? ⟨bs, os + 1, none⟩ = some (.int .i64 xI)) (S := fun _ => True) (by kernel_rfl) ?_
      clear c0 c1 kr1 kr hs1 hs2 g3 p0 o0
      refine wpAnyL_pure (i := 0) rfl (by kernel_rfl) (fun _ _ _ h => h) (Or.inl ⟨by rfl, (fun u hu => by obtain ⟨k0, k1, k2, k3, k4⟩ := hu; go_simp; try rfl)⟩) (HALL.out _ (Below.refl _ _).drew) (fun _ => trivial) ?_
      simp only [Act.put, List.setIfInBounds_toArray, List.set_cons_zero, List.set_cons_succ, List.getElem_toArray, List.getElem_cons_zero, List.getElem_cons_succ]
      refine wpAnyL_pure (i := 1) rfl (by kernel_rfl) (fun _ _ _ h => h) (Or.inl ⟨by rfl, (fun u hu => by obtain ⟨k0, k1, k2, k3, k4⟩ := hu; go_simp; try rfl)⟩) (HALL.out _ (Below.refl _ _).drew) (fun _ => trivial) ?_
      simp only [Act.put, List.setIfInBounds_toArray, List.set_cons_zero, List.set_cons_succ, List.getElem_toArray, List.getElem_cons_zero, List.getElem_cons_succ]
      refine wpAnyL_pure (i := 2) rfl (by kernel_rfl) (fun _ _ _ h => h) (Or.inl ⟨by rfl, (fun u hu => by obtain ⟨k0, k1, k2, k3, k4⟩ := hu; go_simp; try rfl)⟩) (HALL.out _ (Below.refl _ _).drew) (fun _ => trivial) ?_
      simp only [Act.put, List.setIfInBounds_toArray, List.set_cons_zero, List.set_cons_succ, List.getElem_toArray, List.getElem_cons_zero, List.getElem_cons_succ]
      refine wpAnyL_pure (i := 3) rfl (by kernel_rfl) (fun _ _ _ h => h) (Or.inl ⟨by rfl, (fun u hu => by obtain ⟨k0, k1, k2, k3, k4⟩ := hu; go_simp; try rfl)⟩) (HALL.out _ (Below.refl _ _).drew) (fun _ => trivial) ?_
      simp only [Act.put, List.setIfInBounds_toArray, List.set_cons_zero, List.set_cons_succ, List.getElem_toArray, List.getElem_cons_zero, List.getElem_cons_succ]
      refine wpAnyL_pure (i := 4) rfl (by kernel_rfl) (fun _ _ _ h => h) (Or.inl ⟨by rfl, (fun u hu => by obtain ⟨k0, k1, k2, k3, k4⟩ := hu; go_simp; try rfl)⟩) (HALL.out _ (Below.refl _ _).drew) (fun _ => trivial) ?_
      simp only [Act.put, List.setIfInBounds_toArray, List.set_cons_zero, List.set_cons_succ, List.getElem_toArray, List.getElem_cons_zero, List.getElem_cons_succ]
      refine wpAnyL_pure (i := 5) rfl (by kernel_rfl) (fun _ _ _ h => h) (Or.inl ⟨by rfl, (fun u hu => by obtain ⟨k0, k1, k2, k3, k4⟩ := hu; go_simp; try rfl)⟩) (HALL.out _ (Below.refl _ _).drew) (fun _ => trivial) ?_
      simp only [Act.put, List.setIfInBounds_toArray, List.set_cons_zero, List.set_cons_succ, List.getElem_toArray, List.getElem_cons_zero, List.getElem_cons_succ]
      refine wpAnyL_pure (i := 6) rfl (by kernel_rfl) (fun _ _ _ h => h) (Or.inl ⟨by rfl, (fun u hu => by obtain ⟨k0, k1, k2, k3, k4⟩ := hu; go_simp; try rfl)⟩) (HALL.out _ (Below.refl _ _).drew) (fun _ => trivial) ?_
      simp only [Act.put, List.setIfInBounds_toArray, List.set_cons_zero, List.set_cons_succ, List.getElem_toArray, List.getElem_cons_zero, List.getElem_cons_succ]
      refine wpAnyL_pure (i := 7) rfl (by kernel_rfl) (fun _ _ _ h => h) (Or.inl ⟨by rfl, (fun u hu => by obtain ⟨k0, k1, k2, k3, k4⟩ := hu; go_simp; try rfl)⟩) (HALL.out _ (Below.refl _ _).drew) (fun _ => trivial) ?_
      simp only [Act.put, List.setIfInBounds_toArray, List.set_cons_zero, List.set_cons_succ, List.getElem_toArray, List.getElem_cons_zero, List.getElem_cons_succ]
      refine wpAnyL_pure (i := 8) rfl (by kernel_rfl) (fun _ _ _ h => h) (Or.inl ⟨by rfl, (fun u hu => by obtain ⟨k0, k1, k2, k3, k4⟩ := hu; go_simp; try rfl)⟩) (HALL.out _ (Below.refl _ _).drew) (fun _ => trivial) ?_
      simp only [Act.put, List.setIfInBounds_toArray, List.set_cons_zero, List.set_cons_succ, List.getElem_toArray, List.getElem_cons_zero, List.getElem_cons_succ]
      refine wpAnyL_pure (i := 9) rfl (by kernel_rfl) (fun _ _ _ h => h) (Or.inl ⟨by rfl, (fun u hu => by obtain ⟨k0, k1, k2, k3, k4⟩ := hu; go_simp; try rfl)⟩) (HALL.out _ (Below.refl _ _).drew) (fun _ => trivial) ?_
      simp only [Act.put, List.setIfInBounds_toArray, List.set_cons_zero, List.set_cons_succ, List.getElem_toArray, List.getElem_cons_zero, List.getElem_cons_succ]
      refine wpAnyL_pure (i := 10) rfl (by kernel_rfl) (fun _ _ _ h => h) (Or.inl ⟨by rfl, (fun u hu => by obtain ⟨k0, k1, k2, k3, k4⟩ := hu; go_simp; try rfl)⟩) (HALL.out _ (Below.refl _ _).drew) (fun _ => trivial) ?_
      simp only [Act.put, List.setIfInBounds_toArray, List.set_cons_zero, List.set_cons_succ, List.getElem_toArray, List.getElem_cons_zero, List.getElem_cons_succ]
      refine wpAnyL_pure (i := 11) rfl (by kernel_rfl) (fun _ _ _ h => h) (Or.inl ⟨by rfl, (fun u hu => by obtain ⟨k0, k1, k2, k3, k4⟩ := hu; go_simp; try rfl)⟩) (HALL.out _ (Below.refl _ _).drew) (fun _ => trivial) ?_
      simp only [Act.put, List.setIfInBounds_toArray, List.set_cons_zero, List.set_cons_succ, List.getElem_toArray, List.getElem_cons_zero, List.getElem_cons_succ]
      refine wpAnyL_pure (i := 12) rfl (by kernel_rfl) (fun _ _ _ h => h) (Or.inl ⟨by rfl, (fun u hu => by obtain ⟨k0, k1, k2, k3, k4⟩ := hu; go_simp; try rfl)⟩) (HALL.out _ (Below.refl _ _).drew) (fun _ => trivial) ?_
      simp only [Act.put, List.setIfInBounds_toArray, List.set_cons_zero, List.set_cons_succ, List.getElem_toArray, List.getElem_cons_zero, List.getElem_cons_succ]
      refine wpAnyL_ready (rs := [13]) (by kernel_rfl) (by simp) ?_
      refine AllL.cons rfl (fun K hK => ?_) ?_
      ·
       have hb0 : Below w6.heap.size w6 w6.drew := (Below.refl _ _).drew
       go_simp
       refine (compIn w6.drew 1 A n c _ l (HR.out.keep (Kept.belowB (HS6.out.below hb0).bel fun b hb => hb.2)) (by omega) tm xI).mono ?_
       rintro e w7 ⟨rfl, hb7⟩
       have HB7 := Lib.hid (hb0.trans hb7)
       clear hb0 hb7
       refine hK.out _ _ (HALL.out _ HB7.out) (fun _ => trivial) ?_
       clear hK K
       refine wpAnyL_pure (i := 14) rfl (by kernel_rfl) (fun _ _ _ h => h) (Or.inl ⟨by rfl, (fun u hu => by obtain ⟨k0, k1, k2, k3, k4⟩ := hu; go_simp; try rfl)⟩) (HALL.out _ HB7.out) (fun _ => trivial) ?_
       simp only [Act.put, List.setIfInBounds_toArray, List.set_cons_zero, List.set_cons_succ, List.getElem_toArray, List.getElem_cons_zero, List.getElem_cons_succ]
       refine wpAnyL_pure (i := 15) rfl (by kernel_rfl) (fun _ _ _ h => h) (Or.inl ⟨by rfl, (fun u hu => by obtain ⟨k0, k1, k2, k3, k4⟩ := hu; go_simp; try rfl)⟩) (HALL.out _ HB7.out) (fun _ => trivial) ?_
       simp only [Act.put, List.setIfInBounds_toArray, List.set_cons_zero, List.set_cons_succ, List.getElem_toArray, List.getElem_cons_zero, List.getElem_cons_succ]
       refine wpAnyL_done (by kernel_rfl) ?_ _
       have hgl : r.2.head? = some (tm, xI) := by rw [List.head?_eq_getElem?]; exact HS.out
       have HGL := Lib.hid hgl
       have HS7 := Lib.hid (HS6.out.below HB7.out)
       have HBR7 := Lib.hid ((HB7.out.block _ hz6).trans HBR6.out)
       have HRS7 := Lib.hid (HRS6.out.below HB7.out)
       obtain ⟨g3, c0, c1, p0, o0⟩ := HCL.out w7 _ _ _ HS7.out
       have kr : w7.cell? ⟨w3.heap.size, 0, none⟩ = some (.int .i64 r.1) := by simp [World.cell?, HBR7.out]
       have kr1 : w7.cell? ⟨w3.heap.size, 1, none⟩ = some (.slice (some ⟨bs, os, none⟩) (q + 1) c3) := by simp [World.cell?, HBR7.out]
       clear hgl
       cases hin : inC l (tm, xI) with
       | false =>
        have HIN := Lib.hid hin
        clear hin
        go_wp2_with fail
        refine (NSt.add HS7.out (-1) (idxInt l r.1) _ (q + 1) c3 r.2 HRS7.out (by omega)).mono ?_
        rintro e w8 ⟨rfl, A8, c8, hst8, hz8, hb8⟩
        have HS8 := Lib.hid hst8
        clear hst8
        go_wp2_with fail
        go_roundg (nR - (i + 1))
        case measure => rw [HGK.out]; omega
        case rel =>
         refine ⟨i + 1, A8, c8, by omega, rfl, by go_num, ?_⟩
         rw [HNX.out, show netRule (1, l) r = [(-1, idxInt l r.1, r.2)] by simp [netRule, HGL.out, HIN.out]]
         exact HS8.out
       | true =>
        have HIN := Lib.hid hin
        clear hin
        go_wp2_with fail
        obtain ⟨-, -, -, hs1, hs2⟩ := HALL.out _ HB7.out
        have HAL2 := Lib.hid (show ∀ u : World, Below w7.heap.size w7 u → u.cell? ⟨w3.heap.size, 1, none⟩ = some (.slice (some ⟨bs, os, none⟩) (q + 1) c3) ∧ u.cell? ⟨w.heap.size + 2, 0, none⟩ = some (.func (.func 61) #[] #[.pointer (some ⟨w.heap.size + 1, 0, none⟩)]) ∧ u.cell? ⟨bs, os + 1, none⟩ = some (.int .i64 xI) from fun u hu =>
         ⟨(hu.cell (cell_lt kr1)).trans kr1, (hu.cell (cell_lt p0)).trans p0, (hu.cell (cell_lt hs2)).trans hs2⟩)
        obtain ⟨A4, hcut0, hl4⟩ := syms_cutl HRS7.out 1 (by omega)
        have HL4 := Lib.hid hl4
        have hcut : ∀ u, (Instr.slice 41 (.slice (some ⟨bs, os, none⟩) (q + 1) c3) (some (.int .i64 1)) none none).run Tryz.prog u = .ok (.slice A4 q (c3 - 1)) u := by simpa using hcut0
        clear hcut0 hl4
        refine wp_region_late (late := []) (S1 := fun u => u.cell? ⟨w3.heap.size, 1, none⟩ = some (.slice (some ⟨bs, os, none⟩) (q + 1) c3) ∧ u.cell? ⟨w.heap.size + 2, 0, none⟩ = some (.func (.func 61) #[] #[.pointer (some ⟨w.heap.size + 1, 0, none⟩)]) ∧ u.cell? ⟨bs, os + 1, none⟩ = some (.int .i64 xI)) (S := fun _ => True) (by kernel_rfl) ?_
        clear c0 c1 kr1 kr hs1 hs2 g3 p0 o0
        refine wpAnyL_pure (i := 0) rfl (by kernel_rfl) (fun _ _ _ h => h) (Or.inl ⟨by rfl, (fun u hu => by obtain ⟨k0, k1, k2⟩ := hu; go_simp; try rfl)⟩) (HAL2.out _ (Below.refl _ _).drew) (fun _ => trivial) ?_
        simp only [Act.put, List.setIfInBounds_toArray, List.set_cons_zero, List.set_cons_succ, List.getElem_toArray, List.getElem_cons_zero, List.getElem_cons_succ]
        refine wpAnyL_pure (i := 1) rfl (by kernel_rfl) (fun _ _ _ h => h) (Or.inl ⟨by rfl, (fun u hu => by obtain ⟨k0, k1, k2⟩ := hu; go_simp; try rfl)⟩) (HAL2.out _ (Below.refl _ _).drew) (fun _ => trivial) ?_
        simp only [Act.put, List.setIfInBounds_toArray, List.set_cons_zero, List.set_cons_succ, List.getElem_toArray, List.getElem_cons_zero, List.getElem_cons_succ]
        refine wpAnyL_pure (i := 2) rfl (by kernel_rfl) (fun _ _ _ h => h) (Or.inl ⟨by rfl, (fun u hu => by obtain ⟨k0, k1, k2⟩ := hu; go_simp; try rfl)⟩) (HAL2.out _ (Below.refl _ _).drew) (fun _ => trivial) ?_
        simp only [Act.put, List.setIfInBounds_toArray, List.set_cons_zero, List.set_cons_succ, List.getElem_toArray, List.getElem_cons_zero, List.getElem_cons_succ]
        refine wpAnyL_pure (i := 3) rfl (by kernel_rfl) (fun _ _ _ h => h) (Or.inl ⟨by rfl, (fun u hu => by obtain ⟨k0, k1, k2⟩ := hu; go_simp; try rfl)⟩) (HAL2.out _ (Below.refl _ _).drew) (fun _ => trivial) ?_
        simp only [Act.put, List.setIfInBounds_toArray, List.set_cons_zero, List.set_cons_succ, List.getElem_toArray, List.getElem_cons_zero, List.getElem_cons_succ]
        refine wpAnyL_pure (i := 4) rfl (by kernel_rfl) (fun _ _ _ h => h) (Or.inl ⟨by rfl, (fun u hu => by obtain ⟨k0, k1, k2⟩ := hu; go_simp; try rfl)⟩) (HAL2.out _ (Below.refl _ _).drew) (fun _ => trivial) ?_
        simp only [Act.put, List.setIfInBounds_toArray, List.set_cons_zero, List.set_cons_succ, List.getElem_toArray, List.getElem_cons_zero, List.getElem_cons_succ]
        refine wpAnyL_pure (i := 5) rfl (by kernel_rfl) (fun _ _ _ h => h) (Or.inl ⟨by rfl, (fun u hu => by obtain ⟨k0, k1, k2⟩ := hu; go_simp; try rfl)⟩) (HAL2.out _ (Below.refl _ _).drew) (fun _ => trivial) ?_
        simp only [Act.put, List.setIfInBounds_toArray, List.set_cons_zero, List.set_cons_succ, List.getElem_toArray, List.getElem_cons_zero, List.getElem_cons_succ]
        refine wpAnyL_pure (i := 6) rfl (by kernel_rfl) (fun _ _ _ h => h) (Or.inl ⟨by rfl, (fun u hu => by obtain ⟨k0, k1, k2⟩ := hu; go_simp; try rfl)⟩) (HAL2.out _ (Below.refl _ _).drew) (fun _ => trivial) ?_
        simp only [Act.put, List.setIfInBounds_toArray, List.set_cons_zero, List.set_cons_succ, List.getElem_toArray, List.getElem_cons_zero, List.getElem_cons_succ]
        refine wpAnyL_pure (i := 8) rfl (by kernel_rfl) (fun _ _ _ h => h) (Or.inl ⟨by rfl, (fun u hu => by obtain ⟨k0, k1, k2⟩ := hu; go_simp; try rfl)⟩) (HAL2.out _ (Below.refl _ _).drew) (fun _ => trivial) ?_
        simp only [Act.put, List.setIfInBounds_toArray, List.set_cons_zero, List.set_cons_succ, List.getElem_toArray, List.getElem_cons_zero, List.getElem_cons_succ]
        refine wpAnyL_pure (i := 9) rfl (by kernel_rfl) (fun _ _ _ h => h) (Or.inl ⟨by rfl, (fun u hu => by obtain ⟨k0, k1, k2⟩ := hu; go_simp; try rfl)⟩) (HAL2.out _ (Below.refl _ _).drew) (fun _ => trivial) ?_
        simp only [Act.put, List.setIfInBounds_toArray, List.set_cons_zero, List.set_cons_succ, List.getElem_toArray, List.getElem_cons_zero, List.getElem_cons_succ]
        refine wpAnyL_pure (i := 10) rfl (by kernel_rfl) (fun _ _ _ h => h) (Or.inl ⟨by rfl, (fun u hu => by obtain ⟨k0, k1, k2⟩ := hu; go_simp; try rfl)⟩) (HAL2.out _ (Below.refl _ _).drew) (fun _ => trivial) ?_
        simp only [Act.put, List.setIfInBounds_toArray, List.set_cons_zero, List.set_cons_succ, List.getElem_toArray, List.getElem_cons_zero, List.getElem_cons_succ]
        refine wpAnyL_pure (i := 11) rfl (by kernel_rfl) (fun _ _ _ h => h) (Or.inl ⟨by rfl, (fun u hu => by obtain ⟨k0, k1, k2⟩ := hu; go_simp; try rfl)⟩) (HAL2.out _ (Below.refl _ _).drew) (fun _ => trivial) ?_
        simp only [Act.put, List.setIfInBounds_toArray, List.set_cons_zero, List.set_cons_succ, List.getElem_toArray, List.getElem_cons_zero, List.getElem_cons_succ]
        refine wpAnyL_ready (rs := [7]) (by kernel_rfl) (by simp) ?_
        refine AllL.cons rfl (fun K hK => ?_) ?_
        ·
         go_simp
         refine (HPL.out w7.drew _ _ _ (HS7.out.below (Below.refl _ _).drew) xI).mono ?_
         rintro e w8 ⟨rfl, rfl⟩
         refine hK.out _ _ (HAL2.out _ (Below.refl _ _).drew) (fun _ => trivial) ?_
         clear hK K
         refine wpAnyL_ready (rs := [12]) (by kernel_rfl) (by simp) ?_
         refine AllL.cons rfl (fun K hK => ?_) ?_
         ·
          go_simp
          refine (NSt.add (HS7.out.below (Below.refl _ _).drew) (idxInt l xI) (idxInt l r.1) A4 q (c3 - 1) (r.2.drop 1) (by simpa using HL4.out.below (Below.refl _ _).drew) (by omega)).mono ?_
          rintro e w8 ⟨rfl, A8, c8, hst8, hz8, hb8, hk8⟩
          have HS8 := Lib.hid hst8
          have hrw : rowOf (.slice AO (netU R (1, l) x i).length cO) ≠ some w3.heap.size := fun e => by have := HS3.out.own.lt e; omega
          have h37 : w3.heap.size < w7.heap.size := Nat.lt_of_lt_of_le hz6 HB7.out.size
          have h03 := heap_lt HS3.out.ob
          have hkr := (hk8 w3.heap.size h37 (by omega) hrw).trans HBR7.out
          have HK8 := Lib.hid (show w8.cell? ⟨w3.heap.size, 1, none⟩ = some (.slice (some ⟨bs, os, none⟩) (q + 1) c3) ∧ w8.cell? ⟨w.heap.size + 2, 0, none⟩ = some (.func (.func 61) #[] #[.pointer (some ⟨w.heap.size + 1, 0, none⟩)]) ∧ w8.cell? ⟨bs, os + 1, none⟩ = some (.int .i64 xI) from ⟨by simp [World.cell?, hkr], (HCL.out w8 _ _ _ hst8).2.2.2.1, (hb8.cell hbs.2).trans (HAL2.out _ (Below.refl _ _).drew).2.2⟩)
          clear hst8 hkr hk8 hrw
          refine hK.out _ _ HK8.out (fun _ => trivial) ?_
          clear hK K
          refine wpAnyL_done (by kernel_rfl) ?_ _
          go_wp2_with fail
          go_roundg (nR - (i + 1))
          case measure => rw [HGK.out]; omega
          case rel =>
           refine ⟨i + 1, A8, c8, by omega, rfl, by go_num, ?_⟩
           rw [HNX.out, show netRule (1, l) r = [(idxInt l xI, idxInt l r.1, r.2.drop 1)] by simp [netRule, HGL.out, HIN.out]]
           exact HS8.out
         exact AllL.nil
        exact AllL.nil
      exact AllL.nil
   ·
    obtain rfl : nR = i := by omega
    obtain ⟨g3, c0, c1, p0, o0⟩ := HCL.out w3 _ _ _ HS3.out
    go_wp2_with fail
    go_quiet (fail)
    go_wp2_with fail
    refine bodyPost_ret (v := .tuple #[.int .i64 (n), .slice AO (netU R (1, l) x nR).length cO]) (by simp [results, Tryz.results40, go_sem]) rfl ?_
    have hnn : (netN (1, l) : Int) = n := by
     have := HLN.out
     simp [netN]
     omega
    have hpp : netP R (1, l) x = netU R (1, l) x nR := by unfold netP; rw [← HRL.out]
    refine ⟨⟨AO, (netU R (1, l) x nR).length, cO, by rw [hnn], ?_⟩, belowN HS3.out.bel nq⟩
    rw [hpp]
    exact (HS3.out.own.sl.drewN nq).more fun b hb => by
     rcases hb with h | h
     ·
      exact .inl h
     ·
      exact .inr (by omega)
 ·
  --@1c
  go_wp2_with fail
  rw [← hw1]
  clear hw1
  refine (HPL.out w1 _ _ _ HST.out x).mono ?_
  rintro e w2 ⟨rfl, rfl⟩
  go_wp2_with fail
  refine (NSt.add HST.out (-1) (idxInt l x) none 0 0 [] (Sl.nil _ _ _ _) (by simp)).mono ?_
  rintro e w2 ⟨rfl, A1, c1', hst1, hz1, hb1, _⟩
  have HS1 := Lib.hid hst1
  clear hst1 g3 c0 c1 p0 o0
  obtain ⟨g3, c0, c1, p0, o0⟩ := HCL.out w2 _ _ _ HS1.out
  go_wp2_with fail
  refine (netExit w2 (w.heap.size + 2) (w.heap.size + 1) x A n c _ l p0 c1 (HR.out.keep (Kept.belowB HS1.out.bel fun b hb => hb.2)) (by omega)).mono ?_
  rintro e w3 ⟨rfl, k3, rfl⟩
  go_wp2_with fail
  refine (NSt.add (HS1.out.below (belowN (Below.refl _ _) k3)) (idxInt l x + n) (-2) none 0 0 [] (Sl.nil _ _ _ _) (by simp)).mono ?_
  rintro e w4 ⟨rfl, A2, c2, hst2, hz2, hb2, _⟩
  have HS2 := Lib.hid hst2
  clear hst2 g3 c0 c1 p0 o0
  have hnx : idxInt l x + (n : Int) = exC l x := by rw [HLN.out]
  rw [hnx] at HS2
  clear hnx
  obtain ⟨g3, c0, c1, p0, o0⟩ := HCL.out w4 _ _ _ HS2.out
  go_wp2_with fail
  clear g3 c0 c1 p0 o0
  go_loopg [58] nR (fun gk vi wr => ∃ (i : Nat) (AO : Option Addr) (cO : Nat), i ≤ nR ∧ gk = nR - i ∧ vi = .int .i64 i ∧ NSt w gc cc Sg AO cO (netU R (2, l) x i) wr)
  case atStart => exact ⟨0, _, _, Nat.zero_le _, rfl, rfl, by simpa [netU, netStart] using HS2.out⟩
  case round =>
   obtain ⟨i, AO, cO, hi, hgk, rfl, hst⟩ := hrel
   have HGK := Lib.hid hgk
   have HS3 := Lib.hid hst
   obtain ⟨w3, rfl⟩ : ∃ w3 : World, w3 = wr := ⟨_, rfl⟩
   clear hgk hst HS2
   by_cases hlt : i < nR
   ·
    obtain ⟨b0, off, A3, m3, c3, r, rfl, _, hb0, hc1, hc2, hr, hrs⟩ := rule_at (HG.out.keep (Kept.belowB HS3.out.bel fun b hb => hb.2)) hlt
    have hm4 : m3 ≤ 4 := by have := hrs.len; have := HLE.out r (List.mem_of_getElem? hr); omega
    have hmc : m3 ≤ c3 := hrs.cap
    have hiI : (i : Int) < (nR : Int) := by omega
    have hi0 : (0 : Int) ≤ (i : Int) := by omega
    have hol : (netU R (2, l) x i).length ≤ 1000 := by have := netU_len (c := (2, l)) (x := x) HLE.out i; omega
    have HRR := Lib.hid hr
    have HRS := Lib.hid hrs
    have HLR := Lib.hid hrs.len
    clear hr hrs
    obtain ⟨w4, hw4⟩ : ∃ w4 : World, w4 = w3.alloc (.cells #[.int .i64 r.1, .slice A3 m3 c3] 43) := ⟨_, rfl⟩
    have hz4 : w3.heap.size < w4.heap.size := by rw [hw4]; simp
    have hb4 : Below w3.heap.size w3 w4 := by rw [hw4]; exact (Below.refl _ _).alloc (Nat.le_refl _) _
    have HS4 := Lib.hid (HS3.out.below hb4)
    have HBR4 := Lib.hid (show w4.heap[w3.heap.size]? = some (.cells #[.int .i64 r.1, .slice A3 m3 c3] 43 (0, 0)) by rw [hw4]; exact heap_alloc_new _ _)
    have HRS4 := Lib.hid (HRS.out.below hb4)
    obtain ⟨g3, c0, c1, p0, o0⟩ := HCL.out w4 _ _ _ HS4.out
    have kr : w4.cell? ⟨w3.heap.size, 0, none⟩ = some (.int .i64 r.1) := by simp [World.cell?, HBR4.out]
    have kr1 : w4.cell? ⟨w3.heap.size, 1, none⟩ = some (.slice A3 m3 c3) := by simp [World.cell?, HBR4.out]
    have HR4 := Lib.hid (HR.out.keep (Kept.belowB HS4.out.bel fun b hb => hb.2))
    rw [hw4] at g3 c0 c1 p0 o0 kr kr1
    clear hb4
    go_wp2_with fail
    rw [← hw4]
    rw [← hw4] at g3 c0 c1 p0 o0 kr kr1
    clear hw4 hc1 hc2
    refine (containsInt _ _ _ _ l r.1 _ HR4.out.ints (by omega)).mono ?_
    rintro e w5 ⟨rfl, rfl⟩
    cases hcr : l.contains r.1 with
    | false =>
     have HCR := Lib.hid hcr
     clear hcr
     go_wp2_with fail
     go_roundg (nR - (i + 1))
     case measure => rw [HGK.out]; omega
     case rel =>
      refine ⟨i + 1, AO, cO, by omega, rfl, by go_num, ?_⟩
      rw [show netU R (2, l) x (i + 1) = netU R (2, l) x i by rw [netU_succ HRR.out, HCR.out]; simp]
      exact HS4.out
    | true =>
     have HCR := Lib.hid hcr
     clear hcr
     have HNX := Lib.hid (show netU R (2, l) x (i + 1) = netU R (2, l) x i ++ netRule (2, l) r by rw [netU_succ HRR.out, HCR.out]; rfl)
     have HPQ := Lib.hid (show ∀ k, Calls Tryz.prog 61 #[.int .i64 r.1, .pointer (some ⟨w.heap.size + 1, 0, none⟩)] (w4.drewN k) fun e w' => e = .returned (.int .i64 (idxInt l r.1)) ∧ w' = w4.drewN k from fun k => (HPL.out (w4.drewN k) _ _ _ (HS4.out.below (belowN (Below.refl _ _) k)) r.1).mono fun _ _ h => ⟨h.1, h.2.symm⟩)
     go_wp2_with fail
     go_quiet ((go_at_fn 61; refine Calls.quiet_of_same (HPQ.out _)))
     obtain ⟨w5, hw5⟩ : ∃ w5 : World, w5 = w4.drewN nq := ⟨_, rfl⟩
     have hb5 : Below w4.heap.size w4 w5 := by rw [hw5]; exact belowN (Below.refl _ _) nq
     have HS5 := Lib.hid (HS4.out.below hb5)
     have HBR5 := Lib.hid ((hb5.block _ hz4).trans HBR4.out)
     have HRS5 := Lib.hid (HRS4.out.below hb5)
     have hz5 : w3.heap.size < w5.heap.size := Nat.lt_of_lt_of_le hz4 hb5.size
     rw [← hw5]
     clear hw5 hb5 kr kr1 g3 c0 c1 p0 o0 HPQ
     obtain ⟨g3, c0, c1, p0, o0⟩ := HCL.out w5 _ _ _ HS5.out
     have kr : w5.cell? ⟨w3.heap.size, 0, none⟩ = some (.int .i64 r.1) := by simp [World.cell?, HBR5.out]
     have kr1 : w5.cell? ⟨w3.heap.size, 1, none⟩ = some (.slice A3 m3 c3) := by simp [World.cell?, HBR5.out]
     go_wp2_with fail
     go_quiet (fail)
     obtain ⟨w6, hw6⟩ : ∃ w6 : World, w6 = w5.drewN nq := ⟨_, rfl⟩
     have hb6 : Below w5.heap.size w5 w6 := by rw [hw6]; exact belowN (Below.refl _ _) nq
     have HS6 := Lib.hid (HS5.out.below hb6)
     have HBR6 := Lib.hid ((hb6.block _ hz5).trans HBR5.out)
     have HRS6 := Lib.hid (HRS5.out.below hb6)
     have hz6 : w3.heap.size < w6.heap.size := Nat.lt_of_lt_of_le hz5 hb6.size
     rw [← hw6]
     clear hw6 hb6 kr kr1 g3 c0 c1 p0 o0
     obtain ⟨g3, c0, c1, p0, o0⟩ := HCL.out w6 _ _ _ HS6.out
     have kr : w6.cell? ⟨w3.heap.size, 0, none⟩ = some (.int .i64 r.1) := by simp [World.cell?, HBR6.out]
     have kr1 : w6.cell? ⟨w3.heap.size, 1, none⟩ = some (.slice A3 m3 c3) := by simp [World.cell?, HBR6.out]
     go_wp2_with fail
     go_quiet (fail)
     obtain ⟨w7, hw7⟩ : ∃ w7 : World, w7 = w6.drewN nq := ⟨_, rfl⟩
     have hb7 : Below w6.heap.size w6 w7 := by rw [hw7]; exact belowN (Below.refl _ _) nq
     have HS7 := Lib.hid (HS6.out.below hb7)
     have HBR7 := Lib.hid ((hb7.block _ hz6).trans HBR6.out)
     have HRS7 := Lib.hid (HRS6.out.below hb7)
     have hz7 : w3.heap.size < w7.heap.size := Nat.lt_of_lt_of_le hz6 hb7.size
     rw [← hw7]
     clear hw7 hb7 kr kr1 g3 c0 c1 p0 o0
     obtain ⟨g3, c0, c1, p0, o0⟩ := HCL.out w7 _ _ _ HS7.out
     have kr : w7.cell? ⟨w3.heap.size, 0, none⟩ = some (.int .i64 r.1) := by simp [World.cell?, HBR7.out]
     have kr1 : w7.cell? ⟨w3.heap.size, 1, none⟩ = some (.slice A3 m3 c3) := by simp [World.cell?, HBR7.out]
     have HRW := Lib.hid (show rowOf (.slice AO (netU R (2, l) x i).length cO) ≠ some w3.heap.size from fun e => by have := HS3.out.own.lt e; omega)
     have h03 := heap_lt HS3.out.ob
     go_wp2_with fail
     clear g3 c0 c1 p0 o0 kr kr1
     go_loopg [17, 18, 79] m3 (fun gl va vf vi wy => ∃ (q : Nat) (A5 : Option Addr) (c5 : Nat), q ≤ m3 ∧ gl = m3 - q ∧ vi = .int .i64 q ∧ va = .int .i64 (selfP l (idxInt l r.1) r.2 q).2.1 ∧ vf = .int .i64 ((selfP l (idxInt l r.1) r.2 q).2.2 : Nat) ∧
      NSt w gc cc Sg A5 c5 (netU R (2, l) x i ++ (selfP l (idxInt l r.1) r.2 q).1) wy ∧ wy.heap[w3.heap.size]? = some (.cells #[.int .i64 r.1, .slice A3 m3 c3] 43 (0, 0)) ∧ rowOf (.slice A5 (netU R (2, l) x i ++ (selfP l (idxInt l r.1) r.2 q).1).length c5) ≠ some w3.heap.size ∧ Below w.heap.size w7 wy)
     case atStart => exact ⟨0, _, _, Nat.zero_le _, rfl, rfl, rfl, rfl, by simpa [selfP] using HS7.out, HBR7.out, by simpa [selfP] using HRW.out, Below.refl _ _⟩
     case round =>
      obtain ⟨q, A5, c5, hq, hgl, rfl, rfl, rfl, hst, hbr, hrw, hb⟩ := hrel
      have HGL := Lib.hid hgl
      have HS8 := Lib.hid hst
      have HBR8 := Lib.hid hbr
      have HRW8 := Lib.hid hrw
      have HB8 := Lib.hid hb
      obtain ⟨w8, rfl⟩ : ∃ w8 : World, w8 = wr := ⟨_, rfl⟩
      clear hgl hst hbr hrw hb
      have hz8 := heap_lt HBR8.out
      have HRS8 := Lib.hid (HRS7.out.keep (Kept.belowB HB8.out fun b hb => hb.2))
      obtain ⟨hsl1, hsl2⟩ := selfP_len l (idxInt l r.1) r.2 q
      have hol8 : (netU R (2, l) x i ++ (selfP l (idxInt l r.1) r.2 q).1).length ≤ 2000 := by rw [List.length_append]; omega
      obtain ⟨pw, hpw⟩ : ∃ pw, pw = selfP l (idxInt l r.1) r.2 q := ⟨_, rfl⟩
      rw [← hpw] at hsl1 hsl2 hol8 HS8 HRW8 ⊢
      obtain ⟨pl, pa, pf⟩ := pw
      have HPW := Lib.hid hpw
      clear hpw
      simp only at hsl1 hsl2 hol8 HS8 HRW8 ⊢
      have hpf0 : (0 : Int) ≤ (pf : Int) := by omega
      obtain ⟨g3, c0, c1, p0, o0⟩ := HCL.out w8 _ _ _ HS8.out
      by_cases hlq : q < m3
      ·
       obtain ⟨bs, os, s, hA3, hbs, _, hs1, hs2, hs⟩ := sym_at HRS8.out hlq
       subst hA3
       obtain ⟨tm, xI⟩ := s
       have hqI : (q : Int) < (m3 : Int) := by omega
       have hq0 : (0 : Int) ≤ (q : Int) := by omega
       have HS := Lib.hid hs
       have hsx := selfP_succ (c := l) (own := idxInt l r.1) hs
       rw [← HPW.out] at hsx
       have HSX := Lib.hid hsx
       clear hs hsx
       obtain ⟨w9, hw9⟩ : ∃ w9 : World, w9 = w8.alloc (.cells #[.bool tm, .int .i64 xI] 45) := ⟨_, rfl⟩
       have hz9 : w8.heap.size < w9.heap.size := by rw [hw9]; simp
       have hb9 : Below w8.heap.size w8 w9 := by rw [hw9]; exact (Below.refl _ _).alloc (Nat.le_refl _) _
       have HS9 := Lib.hid (HS8.out.below hb9)
       have HBX9 := Lib.hid (show w9.heap[w8.heap.size]? = some (.cells #[.bool tm, .int .i64 xI] 45 (0, 0)) by rw [hw9]; exact heap_alloc_new _ _)
       have HBR9 := Lib.hid ((hb9.block _ hz8).trans HBR8.out)
       have HB9 := Lib.hid (HB8.out.trans (hb9.mono HS8.out.bel.size))
       clear g3 c0 c1 p0 o0 hb9
       obtain ⟨g3, c0, c1, p0, o0⟩ := HCL.out w9 _ _ _ HS9.out
       have ks0 : w9.cell? ⟨w8.heap.size, 0, none⟩ = some (.bool tm) := by simp [World.cell?, HBX9.out]
       have ks1 : w9.cell? ⟨w8.heap.size, 1, none⟩ = some (.int .i64 xI) := by simp [World.cell?, HBX9.out]
       rw [hw9] at g3 c0 c1 p0 o0 ks0 ks1
       go_wp2_with fail
       rw [← hw9]
       clear g3 c0 c1 p0 o0 ks0 ks1 hw9 hs1 hs2
       refine (compIn w9 2 A n c _ l (HR.out.keep (Kept.belowB HS9.out.bel fun b hb => hb.2)) (by omega) tm xI).mono ?_
       rintro e w10 ⟨rfl, hb10⟩
       have HS10 := Lib.hid (HS9.out.below hb10)
       have HBR10 := Lib.hid ((hb10.block _ (by omega)).trans HBR9.out)
       have HBX10 := Lib.hid ((hb10.block _ hz9).trans HBX9.out)
       have HB10 := Lib.hid (HB9.out.trans (hb10.mono HS9.out.bel.size))
       have hz10 : w8.heap.size < w10.heap.size := Nat.lt_of_lt_of_le hz9 hb10.size
       clear hb10
       cases hin : inC l (tm, xI) with
       | false =>
        have HIN := Lib.hid hin
        clear hin
        go_wp2_with fail
        go_roundg (m3 - (q + 1))
        case measure => rw [HGL.out]; omega
        case rel =>
         have hsx := HSX.out
         rw [HIN.out] at hsx
         simp only [if_neg (by decide : ¬ (false = true))] at hsx
         refine ⟨q + 1, A5, c5, by omega, rfl, by go_num, by rw [hsx], by rw [hsx], ?_, HBR10.out, ?_, HB10.out⟩
         ·
          rw [hsx]; exact HS10.out
         ·
          rw [hsx]; exact HRW8.out
       | true =>
        have HIN := Lib.hid hin
        clear hin
        obtain ⟨g3, c0, c1, p0, o0⟩ := HCL.out w10 _ _ _ HS10.out
        have kr1 : w10.cell? ⟨w3.heap.size, 1, none⟩ = some (.slice (some ⟨bs, os, none⟩) m3 c3) := by simp [World.cell?, HBR10.out]
        have ks1 : w10.cell? ⟨w8.heap.size, 1, none⟩ = some (.int .i64 xI) := by simp [World.cell?, HBX10.out]
        have HAL2 := Lib.hid (show ∀ u : World, Below w10.heap.size w10 u → u.cell? ⟨w3.heap.size, 1, none⟩ = some (.slice (some ⟨bs, os, none⟩) m3 c3) ∧ u.cell? ⟨w.heap.size + 2, 0, none⟩ = some (.func (.func 61) #[] #[.pointer (some ⟨w.heap.size + 1, 0, none⟩)]) ∧ u.cell? ⟨w8.heap.size, 1, none⟩ = some (.int .i64 xI) from fun u hu =>
         ⟨(hu.cell (cell_lt kr1)).trans kr1, (hu.cell (cell_lt p0)).trans p0, (hu.cell (cell_lt ks1)).trans ks1⟩)
        have HRS10 := Lib.hid (HRS7.out.keep (Kept.belowB HB10.out fun b hb => hb.2))
        obtain ⟨A4, hcut, hl4⟩ := syms_cut HRS10.out pf q hsl2 (by omega)
        have HL4 := Lib.hid hl4
        clear hl4
        go_wp2_with fail
        refine wp_region_late (late := []) (S1 := fun u => u.cell? ⟨w3.heap.size, 1, none⟩ = some (.slice (some ⟨bs, os, none⟩) m3 c3) ∧ u.cell? ⟨w.heap.size + 2, 0, none⟩ = some (.func (.func 61) #[] #[.pointer (some ⟨w.heap.size + 1, 0, none⟩)]) ∧ u.cell? ⟨w8.heap.size, 1, none⟩ = some (.int .i64 xI)) (S := fun _ => True) (by kernel_rfl) ?_
        clear c0 c1 kr1 ks1 g3 p0 o0
        refine wpAnyL_pure (i := 0) rfl (by kernel_rfl) (fun _ _ _ h => h) (Or.inl ⟨by rfl, (fun u hu => by obtain ⟨k0, k1, k2⟩ := hu; go_simp; try rfl)⟩) (HAL2.out _ (Below.refl _ _).drew) (fun _ => trivial) ?_
        simp only [Act.put, List.setIfInBounds_toArray, List.set_cons_zero, List.set_cons_succ, List.getElem_toArray, List.getElem_cons_zero, List.getElem_cons_succ]
        refine wpAnyL_pure (i := 1) rfl (by kernel_rfl) (fun _ _ _ h => h) (Or.inl ⟨by rfl, (fun u hu => by obtain ⟨k0, k1, k2⟩ := hu; go_simp; try rfl)⟩) (HAL2.out _ (Below.refl _ _).drew) (fun _ => trivial) ?_
        simp only [Act.put, List.setIfInBounds_toArray, List.set_cons_zero, List.set_cons_succ, List.getElem_toArray, List.getElem_cons_zero, List.getElem_cons_succ]
        refine wpAnyL_pure (i := 2) rfl (by kernel_rfl) (fun _ _ _ h => h) (Or.inl ⟨by rfl, (fun u hu => by obtain ⟨k0, k1, k2⟩ := hu; go_simp; try rfl)⟩) (HAL2.out _ (Below.refl _ _).drew) (fun _ => trivial) ?_
        simp only [Act.put, List.setIfInBounds_toArray, List.set_cons_zero, List.set_cons_succ, List.getElem_toArray, List.getElem_cons_zero, List.getElem_cons_succ]
        refine wpAnyL_pure (i := 3) rfl (by kernel_rfl) (fun _ _ _ h => h) (Or.inl ⟨by rfl, (fun u hu => by obtain ⟨k0, k1, k2⟩ := hu; go_simp; try rfl)⟩) (HAL2.out _ (Below.refl _ _).drew) (fun _ => trivial) ?_
        simp only [Act.put, List.setIfInBounds_toArray, List.set_cons_zero, List.set_cons_succ, List.getElem_toArray, List.getElem_cons_zero, List.getElem_cons_succ]
        refine wpAnyL_pure (i := 4) rfl (by kernel_rfl) (fun _ _ _ h => h) (Or.inl ⟨by rfl, (fun u hu => by obtain ⟨k0, k1, k2⟩ := hu; go_simp; try rfl)⟩) (HAL2.out _ (Below.refl _ _).drew) (fun _ => trivial) ?_
        simp only [Act.put, List.setIfInBounds_toArray, List.set_cons_zero, List.set_cons_succ, List.getElem_toArray, List.getElem_cons_zero, List.getElem_cons_succ]
        refine wpAnyL_pure (i := 6) rfl (by kernel_rfl) (fun _ _ _ h => h) (Or.inl ⟨by rfl, (fun u hu => by obtain ⟨k0, k1, k2⟩ := hu; go_simp; try rfl)⟩) (HAL2.out _ (Below.refl _ _).drew) (fun _ => trivial) ?_
        simp only [Act.put, List.setIfInBounds_toArray, List.set_cons_zero, List.set_cons_succ, List.getElem_toArray, List.getElem_cons_zero, List.getElem_cons_succ]
        refine wpAnyL_pure (i := 7) rfl (by kernel_rfl) (fun _ _ _ h => h) (Or.inl ⟨by rfl, (fun u hu => by obtain ⟨k0, k1, k2⟩ := hu; go_simp; try rfl)⟩) (HAL2.out _ (Below.refl _ _).drew) (fun _ => trivial) ?_
        simp only [Act.put, List.setIfInBounds_toArray, List.set_cons_zero, List.set_cons_succ, List.getElem_toArray, List.getElem_cons_zero, List.getElem_cons_succ]
        refine wpAnyL_pure (i := 8) rfl (by kernel_rfl) (fun _ _ _ h => h) (Or.inl ⟨by rfl, (fun u hu => by obtain ⟨k0, k1, k2⟩ := hu; go_simp; try rfl)⟩) (HAL2.out _ (Below.refl _ _).drew) (fun _ => trivial) ?_
        simp only [Act.put, List.setIfInBounds_toArray, List.set_cons_zero, List.set_cons_succ, List.getElem_toArray, List.getElem_cons_zero, List.getElem_cons_succ]
        refine wpAnyL_pure (i := 9) rfl (by kernel_rfl) (fun _ _ _ h => h) (Or.inl ⟨by rfl, (fun u hu => by obtain ⟨k0, k1, k2⟩ := hu; go_simp; try rfl)⟩) (HAL2.out _ (Below.refl _ _).drew) (fun _ => trivial) ?_
        simp only [Act.put, List.setIfInBounds_toArray, List.set_cons_zero, List.set_cons_succ, List.getElem_toArray, List.getElem_cons_zero, List.getElem_cons_succ]
        refine wpAnyL_pure (i := 10) rfl (by kernel_rfl) (fun _ _ _ h => h) (Or.inl ⟨by rfl, (fun u hu => by obtain ⟨k0, k1, k2⟩ := hu; go_simp; try rfl)⟩) (HAL2.out _ (Below.refl _ _).drew) (fun _ => trivial) ?_
        simp only [Act.put, List.setIfInBounds_toArray, List.set_cons_zero, List.set_cons_succ, List.getElem_toArray, List.getElem_cons_zero, List.getElem_cons_succ]
        refine wpAnyL_ready (rs := [5]) (by kernel_rfl) (by simp) ?_
        refine AllL.cons rfl (fun K hK => ?_) ?_
        ·
         go_simp
         refine (HPL.out w10.drew _ _ _ (HS10.out.below (Below.refl _ _).drew) xI).mono ?_
         rintro e w11 ⟨rfl, rfl⟩
         refine hK.out _ _ (HAL2.out _ (Below.refl _ _).drew) (fun _ => trivial) ?_
         clear hK K
         refine wpAnyL_ready (rs := [11]) (by kernel_rfl) (by simp) ?_
         refine AllL.cons rfl (fun K hK => ?_) ?_
         ·
          go_simp
          refine (NSt.addR (HS10.out.below (Below.refl _ _).drew) pa (idxInt l xI) A4 (q - pf) (c3 - pf) ((r.2.take q).drop pf) (HL4.out.below (Below.refl _ _).drew) (by omega)).mono ?_
          rintro e w11 ⟨rfl, A8, c8, hst11, hz11, hb11, hk11, hr11⟩
          have HS11 := Lib.hid hst11
          have hrs : rowOf (.slice A5 (netU R (2, l) x i ++ pl).length c5) ≠ some w8.heap.size := fun e => by have := HS8.out.own.lt e; omega
          have hn03 : w.heap.size + 3 < w8.heap.size := heap_lt HS8.out.ob
          have hbr11 := (hk11 w3.heap.size (by simp; omega) (by omega) HRW8.out).trans HBR10.out
          have hbx11 := (hk11 w8.heap.size (by simp; omega) (by omega) hrs).trans HBX10.out
          have HBR11 := Lib.hid hbr11
          have HBX11 := Lib.hid hbx11
          have HRW11 := Lib.hid (show rowOf (.slice A8 ((netU R (2, l) x i ++ pl) ++ [(pa, idxInt l xI, (r.2.take q).drop pf)]).length c8) ≠ some w3.heap.size from fun e => by
           rw [show ((netU R (2, l) x i ++ pl) ++ [(pa, idxInt l xI, (r.2.take q).drop pf)]).length = (netU R (2, l) x i ++ pl).length + 1 by rw [List.length_append, List.length_singleton]] at e
           rcases hr11 with e2 | e2
           ·
            exact HRW8.out (e2.symm.trans e)
           ·
            rw [e2] at e; injection e with e; simp at e; omega)
          have HB11 := Lib.hid (HB10.out.trans (((Below.refl _ _).drew.mono HS10.out.bel.size).trans hb11))
          have HK11 := Lib.hid (show w11.cell? ⟨w3.heap.size, 1, none⟩ = some (.slice (some ⟨bs, os, none⟩) m3 c3) ∧ w11.cell? ⟨w.heap.size + 2, 0, none⟩ = some (.func (.func 61) #[] #[.pointer (some ⟨w.heap.size + 1, 0, none⟩)]) ∧ w11.cell? ⟨w8.heap.size, 1, none⟩ = some (.int .i64 xI) from ⟨by simp [World.cell?, hbr11], (HCL.out w11 _ _ _ hst11).2.2.2.1, by simp [World.cell?, hbx11]⟩)
          clear hst11 hk11 hrs hr11 hbr11 hbx11 hb11
          refine hK.out _ _ HK11.out (fun _ => trivial) ?_
          clear hK K
          refine wpAnyL_done (by kernel_rfl) ?_ _
          obtain ⟨g3, c0, c1, p0, o0⟩ := HCL.out w11 _ _ _ HS11.out
          have ks1 : w11.cell? ⟨w8.heap.size, 1, none⟩ = some (.int .i64 xI) := HK11.out.2.2
          go_wp2_with fail
          refine (netExit w11 (w.heap.size + 2) (w.heap.size + 1) xI A n c _ l p0 c1 (HR.out.keep (Kept.belowB HS11.out.bel fun b hb => hb.2)) (by omega)).mono ?_
          rintro e w12 ⟨rfl, k12, rfl⟩
          have hb12 : Below w11.heap.size w11 (w11.drewN k12) := belowN (Below.refl _ _) k12
          have HS12 := Lib.hid (HS11.out.below hb12)
          have HB12 := Lib.hid (HB11.out.trans (hb12.mono HS11.out.bel.size))
          clear hb12
          go_wp2_with fail
          go_roundg (m3 - (q + 1))
          case measure => rw [HGL.out]; omega
          case rel =>
           have hsx := HSX.out
           rw [HIN.out] at hsx
           simp only [if_true] at hsx
           have hex : exC l xI = idxInt l xI + (n : Int) := by rw [HLN.out]
           refine ⟨q + 1, A8, c8, by omega, rfl, by go_num, by rw [hsx]; simp only [hex], by rw [hsx]; go_num, ?_, HBR11.out, ?_, HB12.out⟩
           ·
            rw [hsx]; simpa [List.append_assoc] using HS12.out
           ·
            rw [hsx]; simpa [List.append_assoc] using HRW11.out
         exact AllL.nil
        exact AllL.nil
      ·
       obtain rfl : m3 = q := by omega
       have kr : w8.cell? ⟨w3.heap.size, 0, none⟩ = some (.int .i64 r.1) := by simp [World.cell?, HBR8.out]
       have kr1 : w8.cell? ⟨w3.heap.size, 1, none⟩ = some (.slice A3 m3 c3) := by simp [World.cell?, HBR8.out]
       have HAL2 := Lib.hid (show ∀ u : World, Below w8.heap.size w8 u → u.cell? ⟨w3.heap.size, 1, none⟩ = some (.slice A3 m3 c3) ∧ u.cell? ⟨w3.heap.size, 0, none⟩ = some (.int .i64 r.1) from fun u hu =>
        ⟨(hu.cell (cell_lt kr1)).trans kr1, (hu.cell (cell_lt kr)).trans kr⟩)
       obtain ⟨A4, hcut, hl4⟩ := syms_cutl HRS8.out pf hsl2
       have HL4 := Lib.hid hl4
       clear hl4
       have HP1 := Lib.hid p0
       have HC1 := Lib.hid c1
       go_wp2_with fail
       refine wp_region_late (late := []) (S1 := fun u => u.cell? ⟨w3.heap.size, 1, none⟩ = some (.slice A3 m3 c3) ∧ u.cell? ⟨w3.heap.size, 0, none⟩ = some (.int .i64 r.1)) (S := fun _ => True) (by kernel_rfl) ?_
       clear c0 c1 kr1 kr g3 p0 o0
       refine wpAnyL_pure (i := 0) rfl (by kernel_rfl) (fun _ _ _ h => h) (Or.inl ⟨by rfl, (fun u hu => by obtain ⟨k0, k1⟩ := hu; go_simp; try rfl)⟩) (HAL2.out _ (Below.refl _ _).drew) (fun _ => trivial) ?_
       simp only [Act.put, List.setIfInBounds_toArray, List.set_cons_zero, List.set_cons_succ, List.getElem_toArray, List.getElem_cons_zero, List.getElem_cons_succ]
       refine wpAnyL_pure (i := 1) rfl (by kernel_rfl) (fun _ _ _ h => h) (Or.inl ⟨by rfl, (fun u hu => by obtain ⟨k0, k1⟩ := hu; go_simp; try rfl)⟩) (HAL2.out _ (Below.refl _ _).drew) (fun _ => trivial) ?_
       simp only [Act.put, List.setIfInBounds_toArray, List.set_cons_zero, List.set_cons_succ, List.getElem_toArray, List.getElem_cons_zero, List.getElem_cons_succ]
       refine wpAnyL_pure (i := 2) rfl (by kernel_rfl) (fun _ _ _ h => h) (Or.inl ⟨by rfl, (fun u hu => by obtain ⟨k0, k1⟩ := hu; go_simp; try rfl)⟩) (HAL2.out _ (Below.refl _ _).drew) (fun _ => trivial) ?_
       simp only [Act.put, List.setIfInBounds_toArray, List.set_cons_zero, List.set_cons_succ, List.getElem_toArray, List.getElem_cons_zero, List.getElem_cons_succ]
       refine wpAnyL_pure (i := 3) rfl (by kernel_rfl) (fun _ _ _ h => h) (Or.inl ⟨by rfl, (fun u hu => by obtain ⟨k0, k1⟩ := hu; go_simp; try rfl)⟩) (HAL2.out _ (Below.refl _ _).drew) (fun _ => trivial) ?_
       simp only [Act.put, List.setIfInBounds_toArray, List.set_cons_zero, List.set_cons_succ, List.getElem_toArray, List.getElem_cons_zero, List.getElem_cons_succ]
       refine wpAnyL_pure (i := 4) rfl (by kernel_rfl) (fun _ _ _ h => h) (Or.inl ⟨by rfl, (fun u hu => by obtain ⟨k0, k1⟩ := hu; go_simp; try rfl)⟩) (HAL2.out _ (Below.refl _ _).drew) (fun _ => trivial) ?_
       simp only [Act.put, List.setIfInBounds_toArray, List.set_cons_zero, List.set_cons_succ, List.getElem_toArray, List.getElem_cons_zero, List.getElem_cons_succ]
       refine wpAnyL_pure (i := 6) rfl (by kernel_rfl) (fun _ _ _ h => h) (Or.inl ⟨by rfl, (fun u hu => by obtain ⟨k0, k1⟩ := hu; go_simp; try rfl)⟩) (HAL2.out _ (Below.refl _ _).drew) (fun _ => trivial) ?_
       simp only [Act.put, List.setIfInBounds_toArray, List.set_cons_zero, List.set_cons_succ, List.getElem_toArray, List.getElem_cons_zero, List.getElem_cons_succ]
       refine wpAnyL_pure (i := 7) rfl (by kernel_rfl) (fun _ _ _ h => h) (Or.inl ⟨by rfl, (fun u hu => by obtain ⟨k0, k1⟩ := hu; go_simp; try rfl)⟩) (HAL2.out _ (Below.refl _ _).drew) (fun _ => trivial) ?_
       simp only [Act.put, List.setIfInBounds_toArray, List.set_cons_zero, List.set_cons_succ, List.getElem_toArray, List.getElem_cons_zero, List.getElem_cons_succ]
       refine wpAnyL_pure (i := 8) rfl (by kernel_rfl) (fun _ _ _ h => h) (Or.inl ⟨by rfl, (fun u hu => by obtain ⟨k0, k1⟩ := hu; go_simp; try rfl)⟩) (HAL2.out _ (Below.refl _ _).drew) (fun _ => trivial) ?_
       simp only [Act.put, List.setIfInBounds_toArray, List.set_cons_zero, List.set_cons_succ, List.getElem_toArray, List.getElem_cons_zero, List.getElem_cons_succ]
       refine wpAnyL_pure (i := 9) rfl (by kernel_rfl) (fun _ _ _ h => h) (Or.inl ⟨by rfl, (fun u hu => by obtain ⟨k0, k1⟩ := hu; go_simp; try rfl)⟩) (HAL2.out _ (Below.refl _ _).drew) (fun _ => trivial) ?_
       simp only [Act.put, List.setIfInBounds_toArray, List.set_cons_zero, List.set_cons_succ, List.getElem_toArray, List.getElem_cons_zero, List.getElem_cons_succ]
       refine wpAnyL_ready (rs := [5]) (by kernel_rfl) (by simp) ?_
       refine AllL.cons rfl (fun K hK => ?_) ?_
       ·
        have hb0 : Below w8.heap.size w8 w8.drew := (Below.refl _ _).drew
        go_simp
        refine (netExit w8.drew (w.heap.size + 2) (w.heap.size + 1) r.1 A n c _ l HP1.out HC1.out (HR.out.keep (Kept.belowB (HS8.out.below hb0).bel fun b hb => hb.2)) (by omega)).mono ?_
        rintro e w9 ⟨rfl, k9, hw9⟩
        have hb9 : Below w8.heap.size w8 w9 := by rw [hw9]; exact belowN hb0 k9
        have HB9 := Lib.hid hb9
        have HA9 := Lib.hid (HAL2.out _ hb9)
        clear hb0 hb9 hw9
        refine hK.out _ _ HA9.out (fun _ => trivial) ?_
        clear hK K
        refine wpAnyL_ready (rs := [10]) (by kernel_rfl) (by simp) ?_
        refine AllL.cons rfl (fun K hK => ?_) ?_
        ·
         go_simp
         refine (NSt.addR (HS8.out.below HB9.out) pa (idxInt l r.1 + n) A4 (m3 - pf) (c3 - pf) (r.2.drop pf) (HL4.out.below HB9.out) (by omega)).mono ?_
         rintro e w11 ⟨rfl, A8, c8, hst11, hz11, hb11, hk11, hr11⟩
         have HS11 := Lib.hid hst11
         have hbr11 := (hk11 w3.heap.size (Nat.lt_of_lt_of_le hz8 HB9.out.size) (by omega) HRW8.out).trans ((HB9.out.block _ hz8).trans HBR8.out)
         have HK11 := Lib.hid (show w11.cell? ⟨w3.heap.size, 1, none⟩ = some (.slice A3 m3 c3) ∧ w11.cell? ⟨w3.heap.size, 0, none⟩ = some (.int .i64 r.1) from ⟨by simp [World.cell?, hbr11], by simp [World.cell?, hbr11]⟩)
         clear hst11 hk11 hr11 hbr11 hb11
         refine hK.out _ _ HK11.out (fun _ => trivial) ?_
         clear hK K
         refine wpAnyL_done (by kernel_rfl) ?_ _
         go_wp2_with fail
         go_roundg (nR - (i + 1))
         case measure => rw [HGK.out]; omega
         case rel =>
          refine ⟨i + 1, A8, c8, by omega, rfl, by go_num, ?_⟩
          have hex : exC l r.1 = idxInt l r.1 + (n : Int) := by rw [HLN.out]
          have hnr : netRule (2, l) r = pl ++ [(pa, idxInt l r.1 + (n : Int), r.2.drop pf)] := by
           unfold netRule
           rw [if_neg (show ¬ ((2 : Int) = 0) by decide), if_neg (show ¬ ((2 : Int) = 1) by decide), ← HLR.out]
           simp only [plC, hex, ← HPW.out]
          rw [HNX.out, hnr, ← List.append_assoc]
          exact HS11.out
        exact AllL.nil
       exact AllL.nil
   ·
    obtain rfl : nR = i := by omega
    obtain ⟨g3, c0, c1, p0, o0⟩ := HCL.out w3 _ _ _ HS3.out
    go_wp2_with fail
    go_quiet (fail)
    go_wp2_with fail
    refine bodyPost_ret (v := .tuple #[.int .i64 ((n : Int) * 2), .slice AO (netU R (2, l) x nR).length cO]) (by simp [results, Tryz.results40, go_sem]) rfl ?_
    have hnn : (netN (2, l) : Int) = (n : Int) * 2 := by
     have := HLN.out
     simp [netN]
     omega
    have hpp : netP R (2, l) x = netU R (2, l) x nR := by unfold netP; rw [← HRL.out]
    refine ⟨⟨AO, (netU R (2, l) x nR).length, cO, by rw [hnn], ?_⟩, belowN HS3.out.bel nq⟩
    rw [hpp]
    exact (HS3.out.own.sl.drewN nq).more fun b hb => by
     rcases hb with h | h
     ·
      exact .inl h
     ·
      exact .inr (by omega)
end Go.Proofs.YtocbkccchnbmaaaGreat
