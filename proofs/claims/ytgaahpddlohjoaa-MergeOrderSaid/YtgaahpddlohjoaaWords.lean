/- Words for memory: a slice that reads as a list; a part of a slice; a type's row. -/
import Derived.Test.YtgaahpddlohjoaaChecked
import Derived.WalkKit
import Derived.ProofKit
import Derived.Below
import Derived.Laws.OwnMore
import Derived.Deep.AppendLies
import Derived.Deep.Draws
import Derived.Maps.AppendAt
import Derived.Lib.Hide
namespace Go.Proofs.Ytgaahpddlohjoaa
open Go.RowKit

/-- what lies in the blocks S is still there -/
def Kept (S : Nat → Prop) (w w' : World) : Prop := ∀ (p : Addr) (u : Value), S p.block → w.cell? p = some u → w'.cell? p = some u
theorem cell_lt {w : World} {a : Addr} {u : Value} (h : w.cell? a = some u) : a.block < w.heap.size := by
  rcases Nat.lt_or_ge a.block w.heap.size with hlt | hge
  · exact hlt
  · unfold World.cell? at h
    rw [Array.getElem?_eq_none hge] at h
    cases h
section
variable {S : Nat → Prop} {w w' w'' : World}
theorem Kept.refl (S : Nat → Prop) (w : World) : Kept S w w := fun _ _ _ h => h
theorem Kept.trans (h : Kept S w w') (h' : Kept S w' w'') : Kept S w w'' := fun p u hp hu => h' p u hp (h p u hp hu)
theorem Kept.sub {S' : Nat → Prop} (h : Kept S w w') (hS : ∀ b, S' b → S b) : Kept S' w w' := fun p u hp hu => h p u (hS _ hp) hu
theorem Kept.alloc (S : Nat → Prop) (w : World) (o : Obj) : Kept S w (w.alloc o) := fun p u _ hu => by rw [World.cell?_alloc_lt w o p (cell_lt hu)]; exact hu
theorem Kept.drew (S : Nat → Prop) (w : World) : Kept S w w.drew := fun _ _ _ h => h
theorem Kept.drewN (S : Nat → Prop) (w : World) (k : Nat) : Kept S w (w.drewN k) := fun _ _ _ h => h
theorem Kept.below (hb : Below w.heap.size w w') : Kept S w w' := fun p u _ hu => by rw [hb.cell (cell_lt hu)]; exact hu
theorem Kept.belowB {B : Nat} (hb : Below B w w') (hS : ∀ b, S b → b < B) : Kept S w w' := fun p u hp hu => by rw [hb.cell (hS _ hp)]; exact hu
theorem Kept.grown {row : Option Nat} (hg : w.grownBy w' row) (hr : ∀ b, S b → row ≠ some b) : Kept S w w' := fun p u hp hu => by
  rw [World.cell?_of_block (hg.block p.block (cell_lt hu) (fun e => hr _ hp e.symm))]; exact hu
theorem Kept.setCell (S : Nat → Prop) (w : World) (q : Addr) (v : Value) (hq : ¬ S q.block) : Kept S w (w.setCell q v) := fun p u hp hu => by
  rw [World.cell?_setCell_other w q p v (fun e => hq (by subst e; exact hp))]; exact hu
end

/-- a slice value '.slice A n c' (A may be nil) holds the cells xs, each element of so many cells, in a block of S -/
def Rd (w : World) (S : Nat → Prop) (size : Nat) (A : Option Addr) (n : Nat) (xs : List Value) : Prop :=
  xs.length = n * size ∧ (0 < n → ∃ b off, A = some ⟨b, off, none⟩ ∧ S b ∧ ∀ j u, xs[j]? = some u → w.cell? ⟨b, off + j, none⟩ = some u)

section
variable {w w' : World} {S S' : Nat → Prop} {size n : Nat} {A : Option Addr} {xs : List Value}
theorem Rd.nil : Rd w S size A 0 [] := ⟨by simp, fun h => absurd h (by omega)⟩
theorem Rd.keep (h : Rd w S size A n xs) (hk : Kept S w w') : Rd w' S size A n xs :=
  ⟨h.1, fun hn => by
    obtain ⟨b, off, e, hb, hc⟩ := h.2 hn
    exact ⟨b, off, e, hb, fun j u hu => hk _ _ hb (hc j u hu)⟩⟩
theorem Rd.more (h : Rd w S size A n xs) (hS : ∀ b, S b → S' b) : Rd w S' size A n xs :=
  ⟨h.1, fun hn => by
    obtain ⟨b, off, e, hb, hc⟩ := h.2 hn
    exact ⟨b, off, e, hS _ hb, hc⟩⟩
theorem Rd.fit (h : Rd w S size A n xs) (hs : 0 < size) : Rd w (fun b => S b ∧ b < w.heap.size) size A n xs := by
  refine ⟨h.1, fun h0 => ?_⟩
  obtain ⟨b, off, e, hS, hc⟩ := h.2 h0
  refine ⟨b, off, e, ⟨hS, ?_⟩, hc⟩
  have hl : 0 < xs.length := by rw [h.1]; exact Nat.mul_pos h0 hs
  exact cell_lt (hc 0 _ (List.getElem?_eq_getElem hl))
theorem Rd.below (h : Rd w S size A n xs) (hb : Below w.heap.size w w') : Rd w' S size A n xs := h.keep (.below hb)
theorem Rd.drew (h : Rd w S size A n xs) : Rd w.drew S size A n xs := h
theorem Rd.drewN (h : Rd w S size A n xs) (k : Nat) : Rd (w.drewN k) S size A n xs := h
theorem Rd.alloc (h : Rd w S size A n xs) (o : Obj) : Rd (w.alloc o) S size A n xs := h.keep (.alloc _ _ _)
theorem Rd.of_own {base : Nat} {e : TypeId} {c : Nat} (h : w.ownsRow base e size (.slice A n c) n xs) : Rd w (fun b => base ≤ b) size A n xs := by
  refine ⟨h.1, fun hn => ?_⟩
  obtain ⟨g, cap, hv, hb, hlt⟩ := h.form hn
  have hA : A = some ⟨g, 0, none⟩ := by injection hv
  subst hA
  refine ⟨g, 0, rfl, hb, fun j u hu => ?_⟩
  have := h.cells (g := g) rfl j u hu
  rw [Nat.zero_add]
  by_cases hj : j = 0
  · subst hj; exact this
  · simpa [Addr.add, hj] using this
/-- the k-th element of a slice whose elements are single cells -/
theorem Rd.at_ {k : Nat} (h : Rd w S 1 A n xs) (hk : k < n) : ∃ b off u, A = some ⟨b, off, none⟩ ∧ S b ∧ xs[k]? = some u ∧ w.cell? ⟨b, off + k, none⟩ = some u := by
  obtain ⟨b, off, e, hb, hc⟩ := h.2 (by omega)
  have hl : k < xs.length := by have := h.1; omega
  exact ⟨b, off, xs[k], e, hb, List.getElem?_eq_getElem hl, hc k _ (List.getElem?_eq_getElem hl)⟩
theorem Rd.part {lo hi c : Nat} (h : Rd w S size A n xs) (h1 : lo ≤ hi) (h2 : hi ≤ n) (h3 : n ≤ c) :
    Rd w S size (if c = lo then A else A.map (·.add (lo * size))) (hi - lo) ((xs.drop (lo * size)).take ((hi - lo) * size)) := by
  have hm : hi * size ≤ n * size := Nat.mul_le_mul_right _ h2
  have hm1 : lo * size ≤ hi * size := Nat.mul_le_mul_right _ h1
  refine ⟨by rw [List.length_take, List.length_drop, h.1, Nat.sub_mul]; omega, fun hn => ?_⟩
  obtain ⟨b, off, rfl, hb, hcell⟩ := h.2 (by omega)
  rw [if_neg (by omega)]
  refine ⟨b, off + lo * size, ?_, hb, fun j u hu => ?_⟩
  · by_cases h0 : lo * size = 0 <;> simp [Addr.add, h0]
  · rw [Nat.add_assoc]
    refine hcell _ u ?_
    rw [List.getElem?_take] at hu
    split at hu
    · rw [← hu, List.getElem?_drop]
    · cases hu
theorem Rd.cuth (hr : Rd w S size A n xs) (h : Nat) (h2 : h ≤ n) : Rd w S size A h (xs.take (h * size)) := by
  have hm : h * size ≤ n * size := Nat.mul_le_mul_right _ h2
  refine ⟨by rw [List.length_take, hr.1]; omega, fun hn => ?_⟩
  obtain ⟨b, off, rfl, hb, hcell⟩ := hr.2 (by omega)
  refine ⟨b, off, rfl, hb, fun j u hu => hcell j u ?_⟩
  rw [List.getElem?_take] at hu
  split at hu
  · exact hu
  · cases hu
end

/-- the cells of a new block, its number H -/
theorem Rd.new (w : World) (S : Nat → Prop) (t : TypeId) (cs : List Value) (H : Nat) (hH : w.heap.size = H) (hS : S H) : Rd (w.alloc (.cells cs.toArray t)) S 1 (some ⟨H, 0, none⟩) cs.length cs := by
  subst hH
  refine ⟨by simp, fun _ => ⟨w.heap.size, 0, rfl, hS, fun j v hv => ?_⟩⟩
  rw [World.cell?_alloc_at _ _ _ _ rfl]
  simpa using hv
theorem one_bools (l : List Bool) : ∀ u ∈ l.map Value.bool, u.oneCell' = true := by
  intro u hu
  obtain ⟨b, _, rfl⟩ := List.mem_map.1 hu
  rfl
theorem one_ints (l : List Int) : ∀ u ∈ l.map (Value.int .i64), u.oneCell' = true := by
  intro u hu
  obtain ⟨b, _, rfl⟩ := List.mem_map.1 hu
  rfl

/-- a slice type's row: elements of type E, so many cells and bytes each, zero value z -/
structure SlType (P : Program) (T E s bytes : Nat) (z : Value) : Prop where
  under : P.underlying T = some (.slice E)
  elem : P.elem T = E
  info : (P.info? E).map (fun i => (i.zero, i.size, i.bytes)) = some (some z, s, bytes)
  zero : z.cells.size = s
  pos : 0 < s
theorem SlType.under' {P : Program} {T E s bytes : Nat} {z : Value} (hT : SlType P T E s bytes z) : P.underlying T = some (.slice (P.elem T)) := by rw [hT.elem]; exact hT.under
theorem SlType.size {P : Program} {T E s bytes : Nat} {z : Value} (hT : SlType P T E s bytes z) (w : World) : (Go.sizeOf (P.elem T)).run P w = .ok s w := by
  obtain ⟨i, hi, _, hz1, _⟩ := info_parts hT.info
  rw [hT.elem]
  simp [Go.sizeOf, typeInfo, hi, hz1]

section
variable {P : Program} {T E s bytes : Nat} {z : Value} (hT : SlType P T E s bytes z)
include hT
theorem SlType.lh (A : Option Addr) (n c : Nat) (l h : Int) (h0 : 0 ≤ l) (h1 : l ≤ h) (h2 : h ≤ c) (w : World) :
    (Instr.slice T (.slice A n c) (some (.int .i64 l)) (some (.int .i64 h)) none).run P w = .ok (.slice (if c = l.toNat then A else A.map (·.add (l.toNat * s))) (h.toNat - l.toNat) (c - l.toNat)) w := by
  rw [run_slice_lh w T A n c hT.under' .i64 .i64 l h h0 h1 h2, hT.size w]
  rfl
theorem SlType.hh (A : Option Addr) (n c : Nat) (h : Int) (h0 : 0 ≤ h) (h2 : h ≤ c) (w : World) :
    (Instr.slice T (.slice A n c) none (some (.int .i64 h)) none).run P w = .ok (.slice A h.toNat c) w := by
  rw [run_slice_h w T A n c hT.under' .i64 h h0 h2, hT.size w]
  simp only [Result.andThen, sliced]
  congr 1
  cases A <;> simp [Addr.add]
theorem SlType.ll (A : Option Addr) (n c : Nat) (l : Int) (h0 : 0 ≤ l) (h1 : l ≤ n) (w : World) :
    (Instr.slice T (.slice A n c) (some (.int .i64 l)) none none).run P w = .ok (.slice (if c = l.toNat then A else A.map (·.add (l.toNat * s))) (n - l.toNat) (c - l.toNat)) w := by
  rw [run_slice_l w T A n c hT.under' .i64 l h0 h1, hT.size w]
  rfl
theorem SlType.hN (A : Option Addr) (n c h : Nat) (h2 : h ≤ c) (w : World) : (Instr.slice T (.slice A n c) none (some (.int .i64 (h : Int))) none).run P w = .ok (.slice A h c) w := by
  have := hT.hh A n c (h : Int) (by omega) (by omega) w
  rwa [Int.toNat_natCast] at this
/-- x[l:h], named: its run in every world, and what it reads as -/
theorem SlType.cut {w : World} {S : Nat → Prop} {n c : Nat} {A : Option Addr} {xs : List Value} (hr : Rd w S s A n xs) (l h : Int) (h0 : 0 ≤ l) (h1 : l ≤ h) (h2 : h ≤ n) (h3 : n ≤ c) :
    ∃ A', (∀ u, (Instr.slice T (.slice A n c) (some (.int .i64 l)) (some (.int .i64 h)) none).run P u = .ok (.slice A' (h.toNat - l.toNat) (c - l.toNat)) u) ∧
      Rd w S s A' (h.toNat - l.toNat) ((xs.drop (l.toNat * s)).take ((h.toNat - l.toNat) * s)) :=
  ⟨_, fun u => hT.lh A n c l h h0 h1 (by omega) u, hr.part (by omega) (by omega) h3⟩
/-- x[l:], named -/
theorem SlType.cutl {w : World} {S : Nat → Prop} {n c : Nat} {A : Option Addr} {xs : List Value} (hr : Rd w S s A n xs) (l : Int) (h0 : 0 ≤ l) (h2 : l ≤ n) (h3 : n ≤ c) :
    ∃ A', (∀ u, (Instr.slice T (.slice A n c) (some (.int .i64 l)) none none).run P u = .ok (.slice A' (n - l.toNat) (c - l.toNat)) u) ∧
      Rd w S s A' (n - l.toNat) (xs.drop (l.toNat * s)) := by
  refine ⟨_, fun u => hT.ll A n c l h0 h2 u, ?_⟩
  have := hr.part (lo := l.toNat) (hi := n) (c := c) (by omega) (Nat.le_refl _) h3
  rwa [List.take_of_length_le (by rw [List.length_drop, hr.1, Nat.sub_mul]; omega)] at this
end

theorem tBools : SlType Try.prog 120 4 1 1 (.bool false) := ⟨by kernel_rfl, by kernel_rfl, by kernel_rfl, rfl, by decide⟩
theorem tInts : SlType Try.prog 22 3 1 8 (.int .i64 0) := ⟨by kernel_rfl, by kernel_rfl, by kernel_rfl, rfl, by decide⟩
theorem tBoolss : SlType Try.prog 121 120 1 24 (.slice none 0 0) := ⟨by kernel_rfl, by kernel_rfl, by kernel_rfl, rfl, by decide⟩
theorem tIntss : SlType Try.prog 23 22 1 24 (.slice none 0 0) := ⟨by kernel_rfl, by kernel_rfl, by kernel_rfl, rfl, by decide⟩
theorem ret_int {k : IntKind} {a b : Int} (h : a = b) : Ending.returned (.int k a) = .returned (.int k b) := by rw [h]
theorem ret_bool {a b : Bool} (h : a = b) : Ending.returned (.bool a) = .returned (.bool b) := by rw [h]
theorem bcell {W w1 : World} {B : Nat} (hb : Below B W w1) : (∀ b o, b < B → w1.cell? ⟨b, o, none⟩ = W.cell? ⟨b, o, none⟩) ∧ (∀ b o, b < B → w1.frozen? ⟨b, o, none⟩ = W.frozen? ⟨b, o, none⟩) :=
  ⟨fun b o h => hb.cell (p := ⟨b, o, none⟩) h, fun b o h => hb.frozen (p := ⟨b, o, none⟩) h⟩
end Go.Proofs.Ytgaahpddlohjoaa
