/- Stream Grid -/
import Derived.Test.YtimklgbljjamkaaDoorCs04
import Derived.Test.YtimklgbljjamkaaDoorCs05
namespace Go.Proofs.YtimklgbljjamkaaDoor
open Go.RowKit
def nv (l : List Int) (k : Nat) (m : Int) : Int := match l[k]? with
 | some x => x % m
 | none => 0
theorem nv_range (l : List Int) (k : Nat) (m : Int) (hm : 1 ≤ m) : 0 ≤ nv l k m ∧ nv l k m < m := by
 unfold nv
 split
 ·
  rename_i x _
  exact ⟨Int.emod_nonneg x (by omega), Int.emod_lt_of_pos x (by omega)⟩
 ·
  omega
def StreamAt (w : World) (S : Nat → Prop) (B : Nat) (l : List Int) : Prop := ∃ A m c T, w.heap[B]? = some (.cells #[.slice A m c] T (0, 0)) ∧ Sl Rep.int w S A m c l ∧ m ≤ 1000000000000000
theorem heap_lt {w : World} {B : Nat} {o : Obj} (h : w.heap[B]? = some o) : B < w.heap.size := by
 rcases Nat.lt_or_ge B w.heap.size with hlt | hge
 ·
  exact hlt
 ·
  rw [Array.getElem?_eq_none hge] at h; cases h
section
variable {w w' : World} {S : Nat → Prop} {B : Nat} {l : List Int}
theorem StreamAt.lt (h : StreamAt w S B l) : B < w.heap.size := by
 obtain ⟨A, m, c, T, h, _⟩ := h
 exact heap_lt h
theorem StreamAt.keep (h : StreamAt w S B l) (hk : Kept S w w') (hB : w'.heap[B]? = w.heap[B]?) : StreamAt w' S B l := by
 obtain ⟨A, m, c, T, hh, hs, hm⟩ := h
 exact ⟨A, m, c, T, hB.trans hh, hs.keep hk, hm⟩
theorem StreamAt.below (h : StreamAt w S B l) (hb : Below w.heap.size w w') : StreamAt w' S B l := h.keep (.below hb) (hb.block B h.lt)
theorem StreamAt.alloc (h : StreamAt w S B l) (o : Obj) : StreamAt (w.alloc o) S B l := h.keep (.alloc _ _ _) (Below.heap_alloc w o B h.lt)
theorem StreamAt.grown {row : Option Nat} (h : StreamAt w S B l) (hg : w.grownBy w' row) (hr : row ≠ some B) (hS : ∀ b, S b → row ≠ some b) : StreamAt w' S B l :=
 h.keep (.grown hg hS) (hg.block B h.lt fun e => hr e.symm)
end
theorem heap_new (w : World) (o : Obj) (H : Nat) (hH : w.heap.size = H) : (w.alloc o).heap[H]? = some o := by subst hH; exact heap_alloc_new w o
theorem streamStart (w : World) (S : Nat → Prop) (A : Option Addr) (n c T H : Nat) (l : List Int) (hs : Sl Rep.int w S A n c l) (hn : n ≤ 1000000000000000) (hH : w.heap.size = H) : StreamAt (w.alloc (.cells #[.slice A n c] T)) S H (l.drop 0) :=
 ⟨A, n, c, T, heap_new w _ H hH, hs.alloc _, hn⟩
set_option maxHeartbeats 1000000 in
theorem streamNext (w : World) (S : Nat → Prop) (B k : Nat) (n : Int) (l : List Int) (h : StreamAt w S B (l.drop k)) (hSB : ¬ S B) (hn : 1 ≤ n) (hn2 : n ≤ 1000000) :
    Calls Tryd.prog 19 #[.pointer (some ⟨B, 0, none⟩), .int .i64 n] w fun e w' => e = .returned (.int .i64 (nv l k n)) ∧ StreamAt w' S B (l.drop (k + 1)) ∧ w.grownBy w' (some B) := by
 have hlt := h.lt
 obtain ⟨A, m, c, T, hh, hs, hm⟩ := h
 have hlen := hs.len
 have hcap := hs.cap
 have hcell : w.cell? ⟨B, 0, none⟩ = some (.slice A m c) := by simp [World.cell?, hh]
 have hfr : w.frozen? ⟨B, 0, none⟩ = false := by simp [World.frozen?, hh]
 rw [List.length_drop] at hlen
 rcases Nat.eq_zero_or_pos m with h0 | h0
 ·
  subst h0
  have hnv : nv l k n = 0 := by unfold nv; rw [List.getElem?_eq_none (by omega)]
  have hst : StreamAt w S B (l.drop (k + 1)) := by
   rw [List.drop_of_length_le (by omega)]
   exact ⟨A, 0, c, T, hh, Sl.nil _ _ _ _, Nat.zero_le _⟩
  have HNV := Lib.hid hnv
  have HST := Lib.hid hst
  clear hh hs hnv hst hlen
  go_enter Tryd.func19, Tryd.ntmps19
  go_wp2_with fail
  go_ret
  exact ⟨ret_int HNV.out.symm, HST.out, World.grownBy.refl _ _⟩
 ·
  obtain ⟨b, off, x, rfl, hSb, hx, hc0⟩ := hs.ints.int_at h0
  rw [Nat.add_zero] at hc0
  rw [List.getElem?_drop, Nat.add_zero] at hx
  obtain ⟨A', hcut, hrd⟩ := tInts.cutl (c := c) hs.ints 1 (by omega) (by omega) hcap
  rw [show (1 : Int).toNat = 1 from rfl, Nat.one_mul, ← List.map_drop, List.drop_drop] at hrd
  rw [show (1 : Int).toNat = 1 from rfl] at hcut
  have hnv : nv l k n = x % n := by unfold nv; rw [hx]
  have hst : StreamAt (w.setCell ⟨B, 0, none⟩ (.slice A' (m - 1) (c - 1))) S B (l.drop (k + 1)) := by
   refine ⟨A', m - 1, c - 1, T, ?_, (hrd.slInts (by omega)).keep (.setCell _ _ _ _ hSB), by omega⟩
   have := heap_setCell_same w B 0 #[.slice (some ⟨b, off, none⟩) m c] T (.slice A' (m - 1) (c - 1)) hh
   simpa using this
  have hgr : w.grownBy (w.setCell ⟨B, 0, none⟩ (.slice A' (m - 1) (c - 1))) (some B) := ⟨rfl, rfl, rfl, by simp [World.setCell], fun q _ hq => Below.heap_setCell w ⟨B, 0, none⟩ _ q (fun e => hq (by rw [e]))⟩
  have HNV := Lib.hid hnv
  have HST := Lib.hid hst
  have HGR := Lib.hid hgr
  clear hh hs hnv hst hgr hrd hx hlen
  have hb1 : (1 : Int) ≤ (m : Int) := by omega
  have hme : ((m : Int) == 0) = false := by simp; omega
  go_enter Tryd.func19, Tryd.ntmps19
  go_wp2_with (go_at_call 21; refine (makeBelow _ _ _ hn (by omega)).mono ?_; rintro e w' ⟨rfl, rfl⟩)
  go_ret
  exact ⟨ret_int HNV.out.symm, HST.out, HGR.out⟩
end Go.Proofs.YtimklgbljjamkaaDoor
namespace Go.Proofs.YtimklgbljjamkaaDoor
open Go.RowKit
def rowCells {α : Type} (enc : α → Value) (C : Nat) (f : Nat → α) : Array Value := ((List.range C).map (fun k => enc (f k))).toArray
theorem rowCells_at {α : Type} (enc : α → Value) (C : Nat) (f : Nat → α) (k : Nat) (hk : k < C) : (rowCells enc C f)[k]? = some (enc (f k)) := by simp [rowCells, hk]
def upd {α : Type} (f : Nat → α) (k : Nat) (x : α) : Nat → α := fun i => if i = k then x else f i
theorem rowCells_set {α : Type} (enc : α → Value) (C : Nat) (f : Nat → α) (k : Nat) (x : α) : (rowCells enc C f).setIfInBounds k (enc x) = rowCells enc C (upd f k x) := by
 apply Array.ext'
 apply List.ext_getElem?
 intro i
 simp only [rowCells, List.setIfInBounds_toArray, List.getElem?_set, List.length_map, List.length_range, List.getElem?_map, upd]
 by_cases hik : k = i
 ·
  subst hik
  by_cases hk : k < C <;> simp [hk]
 ·
  rw [if_neg hik]
  by_cases hi : i < C
  ·
   simp [List.getElem?_range hi, Ne.symm hik]
  ·
   simp [List.getElem?_eq_none (show (List.range C).length ≤ i by simp; omega)]
theorem rowCells_congr {α : Type} (enc : α → Value) (C : Nat) {f g : Nat → α} (h : ∀ k, k < C → f k = g k) : rowCells enc C f = rowCells enc C g := by
 unfold rowCells
 congr 1
 apply List.map_congr_left
 intro k hk
 rw [h k (List.mem_range.1 hk)]
structure Grid {α : Type} (enc : α → Value) (E : TypeId) (w : World) (lo hi gN : Nat) (gs : Nat → Nat) (R C : Nat) (T : Nat → Nat → α) : Prop where
 hdr : ∀ a, a < R → w.cell? ⟨gN, a, none⟩ = some (.slice (some ⟨gs a, 0, none⟩) C C)
 row : ∀ a, a < R → w.heap[gs a]? = some (.cells (rowCells enc C (T a)) E (0, 0))
 rng : ∀ a, a < R → lo ≤ gs a ∧ gs a < hi ∧ gs a ≠ gN
 nrg : lo ≤ gN ∧ gN < hi
 inj : ∀ a b, a < R → b < R → gs a = gs b → a = b
section
variable {α : Type} {enc : α → Value} {E : TypeId} {w w' : World} {lo hi gN R C : Nat} {gs : Nat → Nat} {T T' : Nat → Nat → α}
theorem Grid.cell (h : Grid enc E w lo hi gN gs R C T) {a k : Nat} (ha : a < R) (hk : k < C) : w.cell? ⟨gs a, k, none⟩ = some (enc (T a k)) := by
 rw [cell_of_row w _ k _ _ _ (h.row a ha)]
 exact rowCells_at enc C (T a) k hk
theorem Grid.fr (h : Grid enc E w lo hi gN gs R C T) {a : Nat} (ha : a < R) (k : Nat) : w.frozen? ⟨gs a, k, none⟩ = false := by simp [World.frozen?, h.row a ha]
theorem Grid.keep (h : Grid enc E w lo hi gN gs R C T) (hk : ∀ q, lo ≤ q → q < hi → w'.heap[q]? = w.heap[q]?) : Grid enc E w' lo hi gN gs R C T := by
 refine ⟨fun a ha => ?_, fun a ha => ?_, h.rng, h.nrg, h.inj⟩
 ·
  rw [World.cell?_of_block (hk gN h.nrg.1 h.nrg.2)]; exact h.hdr a ha
 ·
  obtain ⟨h1, h2, _⟩ := h.rng a ha
  rw [hk _ h1 h2]; exact h.row a ha
theorem Grid.below (h : Grid enc E w lo hi gN gs R C T) (hb : Below w.heap.size w w') (hh : hi ≤ w.heap.size) : Grid enc E w' lo hi gN gs R C T := h.keep fun q _ h2 => hb.block q (by omega)
theorem Grid.congr (h : Grid enc E w lo hi gN gs R C T) (hT : ∀ a k, a < R → k < C → T a k = T' a k) : Grid enc E w lo hi gN gs R C T' :=
 ⟨h.hdr, fun a ha => by rw [h.row a ha, rowCells_congr enc C (hT a · ha)], h.rng, h.nrg, h.inj⟩
theorem Grid.set (h : Grid enc E w lo hi gN gs R C T) {a : Nat} (k : Nat) (ha : a < R) (x : α) : Grid enc E (w.setCell ⟨gs a, k, none⟩ (enc x)) lo hi gN gs R C (fun b j => if b = a ∧ j = k then x else T b j) := by
 obtain ⟨h1, h2, h3⟩ := h.rng a ha
 refine ⟨fun b hb => ?_, fun b hb => ?_, h.rng, h.nrg, h.inj⟩
 ·
  rw [World.cell?_setCell_other _ _ _ _ (fun e => h3 (by injection e))]; exact h.hdr b hb
 ·
  by_cases e : b = a
  ·
   subst e
   have hs := blk_set (h.row b hb) k (enc x)
   rw [hs, rowCells_set]
   congr 2
   apply rowCells_congr
   intro j _
   simp [upd]
  ·
   rw [Below.heap_setCell _ _ _ _ (fun e' => e (h.inj b a hb ha e')), h.row b hb]
   congr 2
   apply rowCells_congr
   intro j _
   simp [e]
end
theorem made_row (Z : Nat) : madeCells #[Value.bool false] Z = rowCells Value.bool Z (fun _ => false) := by
 apply Array.ext'
 rw [toList_madeCells_one]
 apply List.ext_getElem?
 intro i
 by_cases hi : i < Z <;> simp [rowCells, hi]
end Go.Proofs.YtimklgbljjamkaaDoor
