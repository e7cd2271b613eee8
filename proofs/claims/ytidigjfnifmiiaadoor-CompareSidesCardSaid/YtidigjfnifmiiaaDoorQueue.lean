/- A queue: a slice of the call's own that is cut at its head and appended to. -/
import Derived.Test.YtidigjfnifmiiaaDoorRep2
import Derived.Test.YtidigjfnifmiiaaDoorDfaB
import Derived.ArgAppend
namespace Go.Proofs.YtidigjfnifmiiaaDoor
open Go.RowKit

/-- the cells from a place of a block on, all of the slice's room in that block -/
def QRow (w : World) (base : Nat) (E : TypeId) (v : Value) (xs : List Value) : Prop :=
  ∃ (g off cap : Nat) (cur : Array Value), v = .slice (some ⟨g, off, none⟩) xs.length cap ∧ base ≤ g ∧ w.heap[g]? = some (.cells cur E (0, 0)) ∧ xs.length ≤ cap ∧ cap ≤ maxLen ∧ off + cap ≤ cur.size ∧ ∀ (j : Nat) (u : Value), xs[j]? = some u → cur[off + j]? = some u
def qBlk : Value → Option Nat
  | .slice (some a) _ _ => some a.block
  | _ => none
section
variable {w w' : World} {base : Nat} {E : TypeId} {v : Value} {xs : List Value}
theorem QRow.blk (h : QRow w base E v xs) : ∃ g, qBlk v = some g ∧ base ≤ g ∧ g < w.heap.size := by
  obtain ⟨g, off, cap, cur, rfl, hb, hh, _⟩ := h
  exact ⟨g, rfl, hb, (Array.getElem?_eq_some_iff.1 hh).1⟩
theorem QRow.same (h : QRow w base E v xs) (hk : ∀ g, qBlk v = some g → w'.heap[g]? = w.heap[g]?) : QRow w' base E v xs := by
  obtain ⟨g, off, cap, cur, rfl, hb, hh, hr⟩ := h
  exact ⟨g, off, cap, cur, rfl, hb, (hk g rfl).trans hh, hr⟩
end
/-- a queue that reads as a list -/
def QL {α : Type} (R : Rep α) (w : World) (base : Nat) (E : TypeId) (v : Value) (l : List α) : Prop :=
  ∃ xs, QRow w base E v xs ∧ Cells R w (fun b => base ≤ b ∧ qBlk v ≠ some b) xs l
section
variable {α : Type} {R : Rep α} {w w' : World} {base : Nat} {E : TypeId} {v : Value} {l : List α}
theorem QL.below (h : QL R w base E v l) (hb : Below w.heap.size w w') : QL R w' base E v l := by
  obtain ⟨xs, h1, h2⟩ := h
  refine ⟨xs, h1.same fun g hg => ?_, h2.keep (.below hb)⟩
  obtain ⟨g', e, _, hlt⟩ := h1.blk
  rw [hg] at e
  injection e with e
  subst e
  exact hb.block _ hlt
theorem QL.blk (h : QL R w base E v l) : ∃ g, qBlk v = some g ∧ base ≤ g ∧ g < w.heap.size := h.choose_spec.1.blk
theorem QL.form (h : QL R w base E v l) (h1 : R.size = 1) : ∃ (g off cap : Nat), v = .slice (some ⟨g, off, none⟩) l.length cap ∧ l.length ≤ cap := by
  obtain ⟨xs, ⟨g, off, cap, cur, rfl, hb, hh, hc, _⟩, h2⟩ := h
  have hl := h2.len
  rw [h1, Nat.mul_one] at hl
  exact ⟨g, off, cap, by rw [hl], by omega⟩
theorem QL.start (w : World) (base : Nat) (E : TypeId) (u : Value) (x : α) (hb : base ≤ w.heap.size) (hx : R.ok w (fun b => base ≤ b) [u] x) : QL R (w.alloc (.cells #[u] E)) base E (.slice (some ⟨w.heap.size, 0, none⟩) 1 1) [x] := by
  refine ⟨[u], ⟨w.heap.size, 0, 1, #[u], rfl, hb, heap_alloc_new w _, by simp, by unfold maxLen; omega, by simp, fun j u' hu => by simpa using hu⟩, Cells.single ?_⟩
  refine R.more (R.keep (R.fit hx) (.alloc _ _ _)) fun b hb' => ⟨hb'.1, fun e => ?_⟩
  injection e with e
  have e' : w.heap.size = b := e
  omega
/-- the head, and what is left -/
theorem QL.pop {P : Program} {T bytes : Nat} {z : Value} (hT : SlType P T E 1 bytes z) (h1 : R.size = 1) {x : α} (h : QL R w base E v (x :: l)) :
    ∃ (g off off' cap : Nat) (u : Value), v = .slice (some ⟨g, off, none⟩) (l.length + 1) cap ∧ l.length + 1 ≤ cap ∧ w.cell? ⟨g, off, none⟩ = some u ∧ R.ok w (fun b => base ≤ b ∧ qBlk v ≠ some b) [u] x ∧
      (∀ w' : World, (Instr.slice T (.slice (some ⟨g, off, none⟩) (l.length + 1) cap) (some (.int .i64 1)) none none).run P w' = .ok (.slice (some ⟨g, off', none⟩) l.length (cap - 1)) w') ∧
      QL R w base E (.slice (some ⟨g, off', none⟩) l.length (cap - 1)) l := by
  obtain ⟨xs, ⟨g, off, cap, cur, rfl, hb, hh, hc, hm, hs, hx⟩, cs, rest, rfl, hok, hrest⟩ := h
  have hcl := R.len hok
  rw [h1] at hcl
  obtain ⟨u, rfl⟩ := List.length_eq_one_iff.1 hcl
  have hrl := hrest.len
  rw [h1, Nat.mul_one] at hrl
  simp only [List.singleton_append, List.length_cons] at hc hx ⊢
  rw [hrl] at hc ⊢
  have hc0 := hx 0 u rfl
  rw [Nat.add_zero] at hc0
  by_cases hcap : cap = 1
  · subst hcap
    obtain rfl : l = [] := List.eq_nil_of_length_eq_zero (by omega)
    obtain rfl : rest = [] := List.eq_nil_of_length_eq_zero hrl
    refine ⟨g, off, off, 1, u, rfl, hc, by rw [cell_of_row _ _ _ _ _ _ hh]; exact hc0, hok, fun w' => ?_, ⟨[], ⟨g, off, 0, cur, rfl, hb, hh, Nat.le_refl _, Nat.zero_le _, by omega, fun j u hu => by simp at hu⟩, hrest⟩⟩
    have := hT.ll (some ⟨g, off, none⟩) 1 1 1 (by decide) (by decide) w'
    simpa using this
  · refine ⟨g, off, off + 1, cap, u, rfl, hc, by rw [cell_of_row _ _ _ _ _ _ hh]; exact hc0, hok, fun w' => ?_, ⟨rest, ⟨g, off + 1, cap - 1, cur, by rw [hrl], hb, hh, by omega, by omega, by omega, fun j u hu => ?_⟩, hrest⟩⟩
    · have := hT.ll (some ⟨g, off, none⟩) (l.length + 1) cap 1 (by decide) (by omega) w'
      rw [this, show (1 : Int).toNat = 1 from rfl, if_neg hcap]
      simp [Addr.add]
    · have := hx (j + 1) u (by simpa using hu)
      rw [← this]
      congr 1
      omega
/-- 'append(v, x)', the new element in a new block -/
theorem QL.push {P : Program} {T bytes : Nat} {z : Value} (hT : SlType P T E 1 bytes z) (h1 : R.size = 1) (h : QL R w base E v l) (ty : Nat) (u : Value) (x : α) (hx : R.ok w (fun b => base ≤ b ∧ qBlk v ≠ some b) [u] x) (hl : l.length + 1 ≤ maxLen) (hby : (l.length + 1) * bytes ≤ 140737488355328) :
    ∃ v' w', (Builtin.append_ #[T, T] ty #[v, .slice (some ⟨w.heap.size, 0, none⟩) 1 1]).run P (w.alloc (.cells #[u] E)) = .ok v' w' ∧ QL R w' base E v' (l ++ [x]) ∧ (w.alloc (.cells #[u] E)).grownBy w' (qBlk v) ∧ Below base w w' ∧ (qBlk v' = qBlk v ∨ ∀ b, qBlk v' = some b → w.heap.size ≤ b) := by
  obtain ⟨xs, ⟨g, off, cap, cur, rfl, hb, hh, hc, hm, hs, hxs⟩, hcells⟩ := h
  have hlt : g < w.heap.size := (Array.getElem?_eq_some_iff.1 hh).1
  obtain ⟨i, hi, hz0, hz1, hz2⟩ := info_parts hT.info
  have hxl := hcells.len
  rw [h1, Nat.mul_one] at hxl
  have hu1 := R.one hx u (by simp)
  obtain ⟨w1, hw1⟩ : ∃ w1, w1 = w.alloc (.cells #[u] E) := ⟨_, rfl⟩
  have hh1 : w1.heap[g]? = some (.cells cur E (0, 0)) := by rw [hw1, Below.heap_alloc _ _ _ hlt]; exact hh
  have hnew : ∀ (j : Nat) (u' : Value), [u][j]? = some u' → w1.cell? ((⟨w.heap.size, 0, none⟩ : Addr).add j) = some u' := fun j u' hu => by
    cases j with
    | zero =>
      simp only [List.getElem?_cons_zero, Option.some.injEq] at hu
      subst hu
      rw [hw1]
      show (w.alloc _).cell? ⟨w.heap.size, 0, none⟩ = _
      rw [World.cell?_alloc_at _ _ _ _ rfl]
      rfl
    | succ j => simp at hu
  have hgw : w.grownBy w1 none := by rw [hw1]; exact World.grownBy_alloc w _ none
  rw [← hw1]
  by_cases hroom : xs.length + 1 ≤ cap
  · have hfr : w1.frozen? ⟨g, off + xs.length, none⟩ = false := by simp [World.frozen?, hh1]
    have hrun := run_append_room_cells (P := P) w1 T ty E i hT.under hi g off xs.length cap ⟨w.heap.size, 0, none⟩ 1 1 [u] (by simp [hz1]) hnew (fun u' hu' => by obtain rfl := List.mem_singleton.1 hu'; exact hu1) hroom
      (fun j hj => by
        obtain rfl : j = 0 := by simpa using hj
        rw [hz1, Nat.mul_one, Nat.add_zero, cell_of_row _ _ _ _ _ _ hh1, Array.getElem?_eq_getElem (by omega)]
        rfl)
      (fun j hj => by
        obtain rfl : j = 0 := by simpa using hj
        rw [hz1, Nat.mul_one, Nat.add_zero]
        exact hfr)
    rw [hz1, Nat.mul_one] at hrun
    have hset : w1.setCells g (off + xs.length) [u] = w1.setCell ⟨g, off + xs.length, none⟩ u := by simp [World.setCells]
    rw [hset] at hrun
    have hg2 : w1.grownBy (w1.setCell ⟨g, off + xs.length, none⟩ u) (some g) := set_grown w1 _ u
    refine ⟨_, _, hrun, ⟨xs ++ [u], ⟨g, off, cap, cur.setIfInBounds (off + xs.length) u, by rw [List.length_append]; rfl, hb, heap_setCell_same w1 g _ cur E u hh1, by rw [List.length_append]; exact hroom, hm, by rw [Array.size_setIfInBounds]; exact hs, fun j u' hu => ?_⟩, ?_⟩, hg2, ?_, Or.inl rfl⟩
    · rw [Array.getElem?_setIfInBounds]
      by_cases hj : j < xs.length
      · rw [List.getElem?_append_left hj] at hu
        rw [if_neg (by omega)]
        exact hxs j u' hu
      · rw [List.getElem?_append_right (by omega)] at hu
        have hj2 : j = xs.length := by
          have := (List.getElem?_eq_some_iff.1 hu).1
          simp at this
          omega
        subst hj2
        simp only [Nat.sub_self, List.getElem?_cons_zero, Option.some.injEq] at hu
        subst hu
        rw [if_pos rfl, if_pos (by omega)]
    · have h2 := (hcells.append (Cells.single hx)).fit
      refine (h2.keep (w' := w1.setCell ⟨g, off + xs.length, none⟩ u) ?_).more (fun b hb' => hb'.1)
      exact (Kept.grown hgw (fun b _ => by simp)).trans (Kept.grown hg2 fun b hb' e => hb'.1.2 e)
    · exact (((Below.refl _ _).grown hgw (Nat.le_trans hb (Nat.le_of_lt hlt)) (fun g' hg' => by cases hg'))).grown hg2 (by have := hgw.size; omega) (fun g' hg' => by injection hg' with e; omega)
  · obtain ⟨v', w', hrun, ho, hg2⟩ := run_append_arg_grows (P := P) w1 T ty E i z 1 bytes hT.under hi hz0 hz1 hz2 hT.zero hT.pos ⟨g, off, none⟩ xs.length cap xs (by omega) (fun j u' hu => by
        rw [Addr.add_lit, cell_of_row _ _ _ _ _ _ hh1]
        exact hxs j u' hu) ⟨w.heap.size, 0, none⟩ 1 1 [u] rfl hnew (by omega) (by omega) (by rw [hxl]; exact hby)
    have hz := hgw.size
    rcases ho.2 with ⟨_, h0⟩ | ⟨g', cap', cur', rfl, hb', hh', hnc, hcm, hcs, ht⟩
    · omega
    refine ⟨_, w', hrun, ⟨xs ++ [u], ⟨g', 0, cap', cur', by rw [List.length_append]; rfl, by omega, hh', by rw [List.length_append]; exact hnc, hcm, by omega, fun j u' hu => ?_⟩, ?_⟩, ⟨hg2.os, hg2.tape, hg2.output, hg2.size, fun k hk _ => hg2.block k hk (by simp)⟩, ?_, Or.inr fun b e => by injection e with e; have e' : g' = b := e; omega⟩
    · rw [Nat.zero_add, ← Array.getElem?_toList]
      rw [← ht, List.getElem?_take] at hu
      split at hu
      · exact hu
      · cases hu
    · have h2 := (hcells.append (Cells.single hx)).fit
      refine (h2.keep (w' := w') ?_).more (fun b hb'' => ⟨hb''.1.1, fun e => ?_⟩)
      · exact (Kept.grown hgw (fun b _ => by simp)).trans (Kept.grown hg2 fun b _ => by simp)
      · injection e with e
        have e' : g' = b := e
        have := hb''.2
        omega
    · exact (((Below.refl _ _).grown hgw (Nat.le_trans hb (Nat.le_of_lt hlt)) (fun g' hg' => by cases hg'))).grown hg2 (by omega) (fun g' hg' => by cases hg')
end
end Go.Proofs.YtidigjfnifmiiaaDoor
