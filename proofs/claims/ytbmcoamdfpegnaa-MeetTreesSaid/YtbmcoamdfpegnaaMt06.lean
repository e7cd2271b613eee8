/- DfaB -/
import Derived.Deep.RegionLaw
import Derived.Test.YtbmcoamdfpegnaaMt04
namespace Go.Proofs.Ytbmcoamdfpegnaa
open Go.RowKit
theorem step_append_run {P : Program} (w : World) {ops : Array Oper} {o : Oper} {a : Act} {K : Act → World → Prop} {Q : Exit → Act → World → Prop} {E : Prop} (hgd : o.guard = none) (s x : Operand) (t tn : TypeId)
    (ho : o.op = .call { callee := .builtin .append, args := #[s, x], argTypes := #[t, tn] }) (vs vx : Value) (hs : a.eval s = vs) (hx : a.eval x = vx)
    (v' : Value) (w' : World) (hr : (Builtin.append_ #[t, tn] o.type #[vs, vx]).run P w = .ok v' w') (h : K (a.put o.dst v') w') :
    if Region.wanted o (yielded ops a.tmps) = true then Oper.wp P o a w K Q else E := by
 have hw : Region.wanted o (yielded ops a.tmps) = true := by simp [Region.wanted, hgd]
 rw [if_pos hw]
 exact Lib.wp_append_run w s x t tn ho vs vx hs hx v' w' hr h
abbrev RI : Rep (List Int) := Rep.slice Rep.int
def RowsOwn (w : World) (base : Nat) (vA vN : Value) (xs : List Value) (rows : List (List Int)) : Prop :=
 ∀ (i : Nat) (v : Value), xs[i]? = some v → ∃ r, rows[i]? = some r ∧ Own w base 3 1 v r.length (r.map (Value.int .i64)) ∧ ∀ g, rowOf v = some g → rowOf vA ≠ some g ∧ rowOf vN ≠ some g
structure DfaB (w : World) (base Bd : Nat) (start : Int) (acc : List Int) (rows : List (List Int)) (vA vN : Value) (xs : List Value) : Prop where
 blk : w.heap[Bd]? = some (.cells #[.int .i64 start, vA, vN] 28 (0, 0))
 ownA : Own w base 3 1 vA acc.length (acc.map (Value.int .i64))
 ownN : Own w base 22 1 vN rows.length xs
 rown : RowsOwn w base vA vN xs rows
 lt : Bd < base
 le : base ≤ w.heap.size
 ne : ∀ g, rowOf vA = some g → rowOf vN ≠ some g
section
variable {w w' : World} {base Bd : Nat} {start : Int} {acc : List Int} {rows : List (List Int)} {vA vN : Value} {xs : List Value}
theorem DfaB.cellA (h : DfaB w base Bd start acc rows vA vN xs) : w.cell? ⟨Bd, 1, none⟩ = some vA := by simp [World.cell?, h.blk]
theorem DfaB.cellN (h : DfaB w base Bd start acc rows vA vN xs) : w.cell? ⟨Bd, 2, none⟩ = some vN := by simp [World.cell?, h.blk]
theorem DfaB.cellS (h : DfaB w base Bd start acc rows vA vN xs) : w.cell? ⟨Bd, 0, none⟩ = some (.int .i64 start) := by simp [World.cell?, h.blk]
theorem DfaB.fr (h : DfaB w base Bd start acc rows vA vN xs) (i : Nat) : w.frozen? ⟨Bd, i, none⟩ = false := by simp [World.frozen?, h.blk]
theorem DfaB.grown {row : Option Nat} (h : DfaB w base Bd start acc rows vA vN xs) (hg : w.grownBy w' row) (hr : ∀ g, row = some g → g ≠ Bd ∧ g < base) : DfaB w' base Bd start acc rows vA vN xs := by
 have hown : ∀ {E : TypeId} {v : Value} {n : Nat} {ys : List Value}, Own w base E 1 v n ys → Own w' base E 1 v n ys := fun ho => by
  refine ho.kept hg fun g e ev => ?_
  have := (ho.row ev).1
  have := (hr g e).2
  omega
 refine ⟨(hg.block Bd (by have := h.lt; have := h.le; omega) (fun e => (hr Bd e.symm).1 rfl)).trans h.blk, hown h.ownA, hown h.ownN, ?_, h.lt, Nat.le_trans h.le hg.size, h.ne⟩
 intro i v hv
 obtain ⟨r, h1, h2, h3⟩ := h.rown i v hv
 exact ⟨r, h1, hown h2, h3⟩
def DfaLow (K : Nat) (vA vN : Value) (xs : List Value) : Prop := (∀ g, rowOf vA = some g → g < K) ∧ (∀ g, rowOf vN = some g → g < K) ∧ ∀ (i : Nat) (v : Value) (g : Nat), xs[i]? = some v → rowOf v = some g → g < K
theorem DfaB.low (h : DfaB w base Bd start acc rows vA vN xs) : DfaLow w.heap.size vA vN xs := by
 refine ⟨fun g e => (h.ownA.row e).2, fun g e => (h.ownN.row e).2, fun i v g hv e => ?_⟩
 obtain ⟨r, _, h2, _⟩ := h.rown i v hv
 exact (h2.row e).2
theorem DfaB.grown2 {K : Nat} {row : Option Nat} (h : DfaB w base Bd start acc rows vA vN xs) (hl : DfaLow K vA vN xs) (hg : w.grownBy w' row) (hr : ∀ g, row = some g → g ≠ Bd ∧ K ≤ g) : DfaB w' base Bd start acc rows vA vN xs := by
 have hown : ∀ {E : TypeId} {v : Value} {n : Nat} {ys : List Value}, (∀ g, rowOf v = some g → g < K) → Own w base E 1 v n ys → Own w' base E 1 v n ys := fun hv ho => by
  refine ho.kept hg fun g e ev => ?_
  have := hv g ev
  have := (hr g e).2
  omega
 refine ⟨(hg.block Bd (by have := h.lt; have := h.le; omega) (fun e => (hr Bd e.symm).1 rfl)).trans h.blk, hown hl.1 h.ownA, hown hl.2.1 h.ownN, ?_, h.lt, Nat.le_trans h.le hg.size, h.ne⟩
 intro i v hv
 obtain ⟨r, h1, h2, h3⟩ := h.rown i v hv
 exact ⟨r, h1, hown (fun g e => hl.2.2 i v g hv e) h2, h3⟩
theorem DfaB.start_ (w : World) (start : Int) : DfaB (w.alloc (.cells #[.int .i64 start, .slice none 0 0, .slice none 0 0] 28)) (w.heap.size + 1) w.heap.size start [] [] (.slice none 0 0) (.slice none 0 0) [] :=
 ⟨heap_alloc_new w _, Own.nil _ _ _ _ _, Own.nil _ _ _ _ _, fun i v hv => by simp at hv, Nat.lt_succ_self _, by simp, fun g e => by cases e⟩
theorem DfaB.below (h : DfaB w base Bd start acc rows vA vN xs) (hb : Below w.heap.size w w') : DfaB w' base Bd start acc rows vA vN xs := by
 refine ⟨(hb.block Bd (by have := h.lt; have := h.le; omega)).trans h.blk, h.ownA.below hb (Nat.le_refl _), h.ownN.below hb (Nat.le_refl _), ?_, h.lt, Nat.le_trans h.le hb.size, h.ne⟩
 intro i v hv
 obtain ⟨r, h1, h2, h3⟩ := h.rown i v hv
 exact ⟨r, h1, h2.below hb (Nat.le_refl _), h3⟩
theorem DfaB.alloc (h : DfaB w base Bd start acc rows vA vN xs) (o : Obj) : DfaB (w.alloc o) base Bd start acc rows vA vN xs := h.below ((Below.refl _ _).alloc (Nat.le_refl _) o)
theorem DfaB.drew (h : DfaB w base Bd start acc rows vA vN xs) : DfaB w.drew base Bd start acc rows vA vN xs := h.below (Below.refl _ _).drew
theorem blk_set {t : TypeId} {cs : Array Value} (hh : w.heap[Bd]? = some (.cells cs t (0, 0))) (i : Nat) (u : Value) : (w.setCell ⟨Bd, i, none⟩ u).heap[Bd]? = some (.cells (cs.setIfInBounds i u) t (0, 0)) := heap_setCell_same w Bd i cs t u hh
theorem set_grown (w2 : World) (i : Nat) (u : Value) : w2.grownBy (w2.setCell ⟨Bd, i, none⟩ u) (some Bd) := ⟨rfl, rfl, rfl, by simp [World.setCell], fun q _ hq => Below.heap_setCell w2 ⟨Bd, i, none⟩ _ q (fun e => hq (by rw [e]))⟩
theorem DfaB.pushA (h : DfaB w base Bd start acc rows vA vN xs) (x : Int) (hl : acc.length ≤ 1000000) :
    ∃ v2 w2, (Builtin.append_ #[22, 22] 22 #[vA, .slice (some ⟨w.heap.size, 0, none⟩) 1 1]).run Try.prog (w.alloc (.cells #[.int .i64 x] 3)) = .ok v2 w2 ∧
     w2.cell? ⟨Bd, 1, none⟩ = some vA ∧ w2.frozen? ⟨Bd, 1, none⟩ = false ∧ DfaB (w2.setCell ⟨Bd, 1, none⟩ v2) base Bd start (acc ++ [x]) rows v2 vN xs ∧ Below base w w2 := by
 obtain ⟨v2, w2, hrun, ho, hg, hrow⟩ := run_append_Own tInts (w.alloc (.cells #[.int .i64 x] 3)) 22 base vA acc.length (acc.map (Value.int .i64)) (h.ownA.alloc _) (fun _ => True) (some ⟨w.heap.size, 0, none⟩) 1 1 [.int .i64 x]
  (Rd.new w _ _ [.int .i64 x] _ rfl trivial) (by intro u hu; obtain rfl := List.mem_singleton.1 hu; rfl) (by unfold maxLen; omega) (by omega) (by have := h.le; simp; omega)
 have h1 := h.alloc (.cells #[.int .i64 x] 3)
 have hb : Below base w w2 := ((Below.refl _ _).alloc h.le _).trans (Below.own (Below.refl _ _) h1.ownA hg (Nat.le_refl _) h1.le)
 have hblk : w2.heap[Bd]? = some (.cells #[.int .i64 start, vA, vN] 28 (0, 0)) := (hb.block Bd h.lt).trans h.blk
 have hrowN : ∀ b, rowOf vA ≠ some b → b < (w.alloc (.cells #[.int .i64 x] 3)).heap.size → rowOf v2 ≠ some b := fun b h1 h2 => by
  rcases hrow with e | e
  ·
   rw [e]; exact h1
  ·
   rw [e]; intro e'; injection e' with e'; omega
 have hset := set_grown (Bd := Bd) w2 1 v2
 have hin : ∀ {E : TypeId} {v : Value} {n : Nat} {ys : List Value}, Own w2 base E 1 v n ys → Own (w2.setCell ⟨Bd, 1, none⟩ v2) base E 1 v n ys := fun hv => by
  refine hv.kept hset fun g e ev => ?_
  injection e with e
  have := (hv.row ev).1
  have := h.lt
  omega
 refine ⟨v2, w2, hrun, by simp [World.cell?, hblk], by simp [World.frozen?, hblk], ⟨?_, ?_, ?_, ?_, h.lt, ?_, ?_⟩, hb⟩
 ·
  have := blk_set hblk 1 v2
  simpa using this
 ·
  exact hin (by simpa using ho)
 ·
  exact hin (h1.ownN.kept hg fun g e ev => h.ne g e ev)
 ·
  intro i v hv
  obtain ⟨r, k1, k2, k3⟩ := h1.rown i v hv
  refine ⟨r, k1, hin (k2.kept hg fun g e ev => (k3 g ev).1 e), fun g ev => ⟨hrowN g (k3 g ev).1 (k2.row ev).2, (k3 g ev).2⟩⟩
 ·
  have := hb.size
  have := h.le
  simp [World.setCell]; omega
 ·
  intro g hgv
  rcases hrow with e | e
  ·
   rw [e] at hgv; exact h.ne g hgv
  ·
   rw [e] at hgv
   injection hgv with hgv
   intro ev
   have := (h1.ownN.row ev).2
   omega
theorem DfaB.pushN (h : DfaB w base Bd start acc rows vA vN xs) (v : Value) (r : List Int) (hv : Own w base 3 1 v r.length (r.map (Value.int .i64))) (hv2 : ∀ g, rowOf v = some g → rowOf vA ≠ some g ∧ rowOf vN ≠ some g) (hl : rows.length ≤ 1000000) :
    ∃ v2 w2, (Builtin.append_ #[26, 26] 26 #[vN, .slice (some ⟨w.heap.size, 0, none⟩) 1 1]).run Try.prog (w.alloc (.cells #[v] 22)) = .ok v2 w2 ∧
     w2.cell? ⟨Bd, 2, none⟩ = some vN ∧ w2.frozen? ⟨Bd, 2, none⟩ = false ∧ DfaB (w2.setCell ⟨Bd, 2, none⟩ v2) base Bd start acc (rows ++ [r]) vA v2 (xs ++ [v]) ∧ Below base w w2 := by
 obtain ⟨v2, w2, hrun, ho, hg, hrow⟩ := run_append_Own tIntss (w.alloc (.cells #[v] 22)) 26 base vN rows.length xs (h.ownN.alloc _) (fun _ => True) (some ⟨w.heap.size, 0, none⟩) 1 1 [v]
  (Rd.new w _ _ [v] _ rfl trivial) (by intro u hu; obtain rfl := List.mem_singleton.1 hu; obtain ⟨A, c, rfl, _⟩ := hv.form; rfl) (by unfold maxLen; omega) (by omega) (by have := h.le; simp; omega)
 have h1 := h.alloc (.cells #[v] 22)
 have hv1 := hv.alloc (.cells #[v] 22)
 have hb : Below base w w2 := ((Below.refl _ _).alloc h.le _).trans (Below.own (Below.refl _ _) h1.ownN hg (Nat.le_refl _) h1.le)
 have hblk : w2.heap[Bd]? = some (.cells #[.int .i64 start, vA, vN] 28 (0, 0)) := (hb.block Bd h.lt).trans h.blk
 have hrowN : ∀ b, rowOf vN ≠ some b → b < (w.alloc (.cells #[v] 22)).heap.size → rowOf v2 ≠ some b := fun b h1 h2 => by
  rcases hrow with e | e
  ·
   rw [e]; exact h1
  ·
   rw [e]; intro e'; injection e' with e'; omega
 have hset := set_grown (Bd := Bd) w2 2 v2
 have hin : ∀ {E : TypeId} {v : Value} {n : Nat} {ys : List Value}, Own w2 base E 1 v n ys → Own (w2.setCell ⟨Bd, 2, none⟩ v2) base E 1 v n ys := fun hv => by
  refine hv.kept hset fun g e ev => ?_
  injection e with e
  have := (hv.row ev).1
  have := h.lt
  omega
 refine ⟨v2, w2, hrun, by simp [World.cell?, hblk], by simp [World.frozen?, hblk], ⟨?_, ?_, ?_, ?_, h.lt, ?_, ?_⟩, hb⟩
 ·
  have := blk_set hblk 2 v2
  simpa using this
 ·
  exact hin (h1.ownA.kept hg fun g e e2 => h.ne g e2 e)
 ·
  exact hin (by simpa using ho)
 ·
  intro i u hu
  have hxl : xs.length = rows.length := by simpa using h.ownN.len
  rcases Nat.lt_or_ge i xs.length with hi | hi
  ·
   rw [List.getElem?_append_left hi] at hu
   obtain ⟨r', k1, k2, k3⟩ := h1.rown i u hu
   refine ⟨r', by rw [List.getElem?_append_left (by omega)]; exact k1, hin (k2.kept hg fun g e ev => (k3 g ev).2 e), fun g ev => ⟨(k3 g ev).1, hrowN g (k3 g ev).2 (k2.row ev).2⟩⟩
  ·
   rw [List.getElem?_append_right hi] at hu
   have hi0 : i - xs.length = 0 := by
    rcases Nat.eq_zero_or_pos (i - xs.length) with h0 | h0
    ·
     exact h0
    ·
     rw [List.getElem?_eq_none (by simp; omega)] at hu; cases hu
   rw [hi0] at hu
   have e : v = u := by simpa using hu
   subst e
   refine ⟨r, by rw [List.getElem?_append_right (by omega), ← hxl, hi0]; rfl, hin (hv1.kept hg fun g e ev => (hv2 g ev).2 e), fun g ev => ⟨(hv2 g ev).1, hrowN g (hv2 g ev).2 (hv1.row ev).2⟩⟩
 ·
  have := hb.size
  have := h.le
  simp [World.setCell]; omega
 ·
  intro g hgv ev
  rcases hrow with e | e
  ·
   rw [e] at ev; exact h.ne g hgv ev
  ·
   rw [e] at ev
   injection ev with ev
   have := (h1.ownA.row hgv).2
   omega
end
end Go.Proofs.Ytbmcoamdfpegnaa
