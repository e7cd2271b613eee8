/- DfaB Grid Hdr2 -/
import Derived.Deep.RegionLaw
import Derived.Test.YtocbkccchnbmaaaGreatAw04
namespace Go.Proofs.YtocbkccchnbmaaaGreat
open Go.RowKit
theorem step_append_run {P : Program} (w : World) {ops : Array Oper} {o : Oper} {a : Act} {K : Act → World → Prop} {Q : Exit → Act → World → Prop} {E : Prop} (hgd : o.guard = none) (s x : Operand) (t tn : TypeId)
    (ho : o.op = .call { callee := .builtin .append, args := #[s, x], argTypes := #[t, tn] }) (vs vx : Value) (hs : a.eval s = vs) (hx : a.eval x = vx)
    (v' : Value) (w' : World) (hr : (Builtin.append_ #[t, tn] o.type #[vs, vx]).run P w = .ok v' w') (h : K (a.put o.dst v') w') :
    if Region.wanted o (yielded ops a.tmps) = true then Oper.wp P o a w K Q else E := by
 have hw : Region.wanted o (yielded ops a.tmps) = true := by simp [Region.wanted, hgd]
 rw [if_pos hw]
 exact Lib.wp_append_run w s x t tn ho vs vx hs hx v' w' hr h
abbrev RI : Rep (List Int) := Rep.slice Rep.int
def RowsOwn (w : World) (base : Nat) (vA vN : Value) (xs : List Value) (rows : List (List Int)) : Prop :=
 ∀ (i : Nat) (v : Value), xs[i]? = some v → ∃ r, rows[i]? = some r ∧ Own w base 3 1 v r.length (r.map (Value.int .i64)) ∧ ∀ g, rowOf v = some g → rowOf vA ≠ some g ∧ rowOf vN ≠ some g
structure DfaB (w : World) (base Bd : Nat) (start : Int) (acc : List Int) (rows : List (List Int)) (vA vN : Value) (xs : List Value) : Prop where
 blk : w.heap[Bd]? = some (.cells #[.int .i64 start, vA, vN] 29 (0, 0))
 ownA : Own w base 3 1 vA acc.length (acc.map (Value.int .i64))
 ownN : Own w base 22 1 vN rows.length xs
 rown : RowsOwn w base vA vN xs rows
 lt : Bd < base
 le : base ≤ w.heap.size
 ne : ∀ g, rowOf vA = some g → rowOf vN ≠ some g
theorem cells_of_rows {w : World} {base : Nat} : ∀ {xs : List Value} {rows : List (List Int)}, xs.length = rows.length → (∀ (i : Nat) (v : Value), xs[i]? = some v → ∃ r, rows[i]? = some r ∧ Own w base 3 1 v r.length (r.map (Value.int .i64))) → Cells RI w (fun b => base ≤ b) xs rows
 | [], [], _, _ => rfl
 | [], _ :: _, h, _ => by simp at h
 | _ :: _, [], h, _ => by simp at h
 | v :: xs, r :: rows, h, hr => by
  obtain ⟨r', e, ho⟩ := hr 0 v rfl
  have e' : r' = r := by simpa using e.symm
  subst e'
  obtain ⟨A, c, rfl, hc, _⟩ := ho.form
  refine ⟨[.slice A r'.length c], xs, rfl, ⟨A, r'.length, c, rfl, ho.rd.slInts hc⟩, cells_of_rows (by simpa using h) fun i v' hv => ?_⟩
  obtain ⟨r2, h1, h2⟩ := hr (i + 1) v' (by simpa using hv)
  exact ⟨r2, by simpa using h1, h2⟩
section
variable {w w' : World} {base Bd : Nat} {start : Int} {acc : List Int} {rows : List (List Int)} {vA vN : Value} {xs : List Value}
theorem DfaB.cellA (h : DfaB w base Bd start acc rows vA vN xs) : w.cell? ⟨Bd, 1, none⟩ = some vA := by simp [World.cell?, h.blk]
theorem DfaB.cellN (h : DfaB w base Bd start acc rows vA vN xs) : w.cell? ⟨Bd, 2, none⟩ = some vN := by simp [World.cell?, h.blk]
theorem DfaB.cellS (h : DfaB w base Bd start acc rows vA vN xs) : w.cell? ⟨Bd, 0, none⟩ = some (.int .i64 start) := by simp [World.cell?, h.blk]
theorem DfaB.grown {row : Option Nat} (h : DfaB w base Bd start acc rows vA vN xs) (hg : w.grownBy w' row) (hr : ∀ g, row = some g → g ≠ Bd ∧ g < base) : DfaB w' base Bd start acc rows vA vN xs := by
 have hown : ∀ {E : TypeId} {v : Value} {n : Nat} {ys : List Value}, Own w base E 1 v n ys → Own w' base E 1 v n ys := fun ho => by
  refine ho.kept hg fun g e ev => ?_
  have := (ho.row ev).1
  have := (hr g e).2
  omega
 refine ⟨(hg.block Bd (by have := h.lt; have := h.le; omega) (fun e => (hr Bd e.symm).1 rfl)).trans h.blk, hown h.ownA, hown h.ownN, ?_, h.lt, Nat.le_trans h.le hg.size, h.ne⟩
 intro i v hv
 obtain ⟨r, h1, h2, h3⟩ := h.rown i v hv
 exact ⟨r, h1, hown h2, h3⟩
def DfaLow (K : Nat) (vA vN : Value) (xs : List Value) : Prop := (∀ g, rowOf vA = some g → g < K) ∧ (∀ g, rowOf vN = some g → g < K) ∧ ∀ (i : Nat) (v : Value) (g : Nat), xs[i]? = some v → rowOf v = some g → g < K
theorem DfaB.low (h : DfaB w base Bd start acc rows vA vN xs) : DfaLow w.heap.size vA vN xs := by
 refine ⟨fun g e => (h.ownA.row e).2, fun g e => (h.ownN.row e).2, fun i v g hv e => ?_⟩
 obtain ⟨r, _, h2, _⟩ := h.rown i v hv
 exact (h2.row e).2
theorem DfaB.start_ (w : World) (start : Int) : DfaB (w.alloc (.cells #[.int .i64 start, .slice none 0 0, .slice none 0 0] 29)) (w.heap.size + 1) w.heap.size start [] [] (.slice none 0 0) (.slice none 0 0) [] :=
 ⟨heap_alloc_new w _, Own.nil _ _ _ _ _, Own.nil _ _ _ _ _, fun i v hv => by simp at hv, Nat.lt_succ_self _, by simp, fun g e => by cases e⟩
theorem DfaB.below (h : DfaB w base Bd start acc rows vA vN xs) (hb : Below w.heap.size w w') : DfaB w' base Bd start acc rows vA vN xs := by
 refine ⟨(hb.block Bd (by have := h.lt; have := h.le; omega)).trans h.blk, h.ownA.below hb (Nat.le_refl _), h.ownN.below hb (Nat.le_refl _), ?_, h.lt, Nat.le_trans h.le hb.size, h.ne⟩
 intro i v hv
 obtain ⟨r, h1, h2, h3⟩ := h.rown i v hv
 exact ⟨r, h1, h2.below hb (Nat.le_refl _), h3⟩
theorem DfaB.drew (h : DfaB w base Bd start acc rows vA vN xs) : DfaB w.drew base Bd start acc rows vA vN xs := h.below (Below.refl _ _).drew
theorem blk_set {t : TypeId} {cs : Array Value} (hh : w.heap[Bd]? = some (.cells cs t (0, 0))) (i : Nat) (u : Value) : (w.setCell ⟨Bd, i, none⟩ u).heap[Bd]? = some (.cells (cs.setIfInBounds i u) t (0, 0)) := heap_setCell_same w Bd i cs t u hh
theorem set_grown (w2 : World) (i : Nat) (u : Value) : w2.grownBy (w2.setCell ⟨Bd, i, none⟩ u) (some Bd) := ⟨rfl, rfl, rfl, by simp [World.setCell], fun q _ hq => Below.heap_setCell w2 ⟨Bd, i, none⟩ _ q (fun e => hq (by rw [e]))⟩
theorem DfaB.rep (h : DfaB w base Bd start acc rows vA vN xs) : RDfa.ok w (fun b => base ≤ b) [.int .i64 start, vA, vN] (start, acc, rows) := by
 obtain ⟨A, c, rfl, hc, _⟩ := h.ownA.form
 obtain ⟨A', c', rfl, hc', _⟩ := h.ownN.form
 refine RDfa.cells.2 ⟨A, _, c, A', _, c', rfl, h.ownA.rd.slInts hc, ⟨xs, rfl, hc', h.ownN.rd, ?_⟩⟩
 refine cells_of_rows (by simpa using h.ownN.len) fun i v hv => ?_
 obtain ⟨r, k1, k2, _⟩ := h.rown i v hv
 exact ⟨r, k1, k2⟩
end
end Go.Proofs.YtocbkccchnbmaaaGreat
namespace Go.Proofs.YtocbkccchnbmaaaGreat
open Go.RowKit
def rowCells {α : Type} (enc : α → Value) (C : Nat) (f : Nat → α) : Array Value := ((List.range C).map (fun k => enc (f k))).toArray
theorem rowCells_at {α : Type} (enc : α → Value) (C : Nat) (f : Nat → α) (k : Nat) (hk : k < C) : (rowCells enc C f)[k]? = some (enc (f k)) := by simp [rowCells, hk]
def upd {α : Type} (f : Nat → α) (k : Nat) (x : α) : Nat → α := fun i => if i = k then x else f i
theorem rowCells_set {α : Type} (enc : α → Value) (C : Nat) (f : Nat → α) (k : Nat) (x : α) : (rowCells enc C f).setIfInBounds k (enc x) = rowCells enc C (upd f k x) := by
 apply Array.ext'
 apply List.ext_getElem?
 intro i
 simp only [rowCells, List.setIfInBounds_toArray, List.getElem?_set, List.length_map, List.length_range, List.getElem?_map, upd]
 by_cases hik : k = i
 ·
  subst hik
  by_cases hk : k < C <;> simp [hk]
 ·
  rw [if_neg hik]
  by_cases hi : i < C
  ·
   simp [List.getElem?_range hi, Ne.symm hik]
  ·
   simp [List.getElem?_eq_none (show (List.range C).length ≤ i by simp; omega)]
theorem rowCells_congr {α : Type} (enc : α → Value) (C : Nat) {f g : Nat → α} (h : ∀ k, k < C → f k = g k) : rowCells enc C f = rowCells enc C g := by
 unfold rowCells
 congr 1
 apply List.map_congr_left
 intro k hk
 rw [h k (List.mem_range.1 hk)]
structure Grid {α : Type} (enc : α → Value) (E : TypeId) (w : World) (lo hi gN : Nat) (gs : Nat → Nat) (R C : Nat) (T : Nat → Nat → α) : Prop where
 hdr : ∀ a, a < R → w.cell? ⟨gN, a, none⟩ = some (.slice (some ⟨gs a, 0, none⟩) C C)
 row : ∀ a, a < R → w.heap[gs a]? = some (.cells (rowCells enc C (T a)) E (0, 0))
 rng : ∀ a, a < R → lo ≤ gs a ∧ gs a < hi ∧ gs a ≠ gN
 nrg : lo ≤ gN ∧ gN < hi
 inj : ∀ a b, a < R → b < R → gs a = gs b → a = b
section
variable {α : Type} {enc : α → Value} {E : TypeId} {w w' : World} {lo hi gN R C : Nat} {gs : Nat → Nat} {T T' : Nat → Nat → α}
theorem Grid.cell (h : Grid enc E w lo hi gN gs R C T) {a k : Nat} (ha : a < R) (hk : k < C) : w.cell? ⟨gs a, k, none⟩ = some (enc (T a k)) := by
 rw [cell_of_row w _ k _ _ _ (h.row a ha)]
 exact rowCells_at enc C (T a) k hk
theorem Grid.fr (h : Grid enc E w lo hi gN gs R C T) {a : Nat} (ha : a < R) (k : Nat) : w.frozen? ⟨gs a, k, none⟩ = false := by simp [World.frozen?, h.row a ha]
theorem Grid.keep (h : Grid enc E w lo hi gN gs R C T) (hk : ∀ q, lo ≤ q → q < hi → w'.heap[q]? = w.heap[q]?) : Grid enc E w' lo hi gN gs R C T := by
 refine ⟨fun a ha => ?_, fun a ha => ?_, h.rng, h.nrg, h.inj⟩
 ·
  rw [World.cell?_of_block (hk gN h.nrg.1 h.nrg.2)]; exact h.hdr a ha
 ·
  obtain ⟨h1, h2, _⟩ := h.rng a ha
  rw [hk _ h1 h2]; exact h.row a ha
theorem Grid.congr (h : Grid enc E w lo hi gN gs R C T) (hT : ∀ a k, a < R → k < C → T a k = T' a k) : Grid enc E w lo hi gN gs R C T' :=
 ⟨h.hdr, fun a ha => by rw [h.row a ha, rowCells_congr enc C (hT a · ha)], h.rng, h.nrg, h.inj⟩
theorem Grid.set (h : Grid enc E w lo hi gN gs R C T) {a : Nat} (k : Nat) (ha : a < R) (x : α) : Grid enc E (w.setCell ⟨gs a, k, none⟩ (enc x)) lo hi gN gs R C (fun b j => if b = a ∧ j = k then x else T b j) := by
 obtain ⟨h1, h2, h3⟩ := h.rng a ha
 refine ⟨fun b hb => ?_, fun b hb => ?_, h.rng, h.nrg, h.inj⟩
 ·
  rw [World.cell?_setCell_other _ _ _ _ (fun e => h3 (by injection e))]; exact h.hdr b hb
 ·
  by_cases e : b = a
  ·
   subst e
   have hs := blk_set (h.row b hb) k (enc x)
   rw [hs, rowCells_set]
   congr 2
   apply rowCells_congr
   intro j _
   simp [upd]
  ·
   rw [Below.heap_setCell _ _ _ _ (fun e' => e (h.inj b a hb ha e')), h.row b hb]
   congr 2
   apply rowCells_congr
   intro j _
   simp [e]
end
theorem made_row (Z : Nat) : madeCells #[Value.bool false] Z = rowCells Value.bool Z (fun _ => false) := by
 apply Array.ext'
 rw [toList_madeCells_one]
 apply List.ext_getElem?
 intro i
 by_cases hi : i < Z <;> simp [rowCells, hi]
end Go.Proofs.YtocbkccchnbmaaaGreat
namespace Go.Proofs.YtocbkccchnbmaaaGreat
open Go.RowKit
def hdr2 (H0 R C a : Nat) : Array Value := rowCells (fun x : Option Nat => match x with | some q => Value.slice (some ⟨q, 0, none⟩) C C | none => .slice none 0 0) R (fun i => if i < a then some (H0 + 1 + i) else none)
theorem hdr2_at (H0 R C a i : Nat) (hi : i < R) : (hdr2 H0 R C a)[i]? = some (if i < a then .slice (some ⟨H0 + 1 + i, 0, none⟩) C C else .slice none 0 0) := by
 unfold hdr2
 rw [rowCells_at _ _ _ i hi]
 by_cases h : i < a <;> simp [h]
theorem hdr2_set (H0 R C a : Nat) : (hdr2 H0 R C a).setIfInBounds a (.slice (some ⟨H0 + 1 + a, 0, none⟩) C C) = hdr2 H0 R C (a + 1) := by
 unfold hdr2
 have := rowCells_set (fun x : Option Nat => match x with | some q => Value.slice (some ⟨q, 0, none⟩) C C | none => .slice none 0 0) R (fun i => if i < a then some (H0 + 1 + i) else none) a (some (H0 + 1 + a))
 refine this.trans ?_
 apply rowCells_congr
 intro j _
 simp only [upd]
 by_cases h1 : j = a
 ·
  subst h1; simp
 ·
  by_cases h2 : j < a
  ·
   simp [h1, h2, show j < a + 1 by omega]
  ·
   simp [h1, h2, show ¬ j < a + 1 by omega]
theorem made_hdr2 (H0 R C : Nat) : madeCells #[Value.slice none 0 0] R = hdr2 H0 R C 0 := by
 apply Array.ext'
 rw [toList_madeCells_one]
 apply List.ext_getElem?
 intro i
 by_cases hi : i < R <;> simp [hdr2, rowCells, hi]
end Go.Proofs.YtocbkccchnbmaaaGreat
