/- Words for memory: a slice that reads as a list; a part of a slice; a type's row. -/
import Derived.Test.YtjeklijkncbaaaaChecked
import Derived.WalkKit
import Derived.ProofKit
import Derived.Below
import Derived.Laws.OwnMore
import Derived.Deep.AppendLies
import Derived.Deep.Draws
import Derived.Maps.AppendAt
import Derived.Lib.Hide
namespace Go.Proofs.Ytjeklijkncbaaaa
open Go.RowKit

/-- a slice value '.slice A n c' (A may be nil) holds the cells xs, each element of so many cells, in a block below B -/
def Rd (w : World) (B size : Nat) (A : Option Addr) (n : Nat) (xs : List Value) : Prop :=
  xs.length = n * size ∧ (0 < n → ∃ b off, A = some ⟨b, off, none⟩ ∧ b < B ∧ ∀ j u, xs[j]? = some u → w.cell? ⟨b, off + j, none⟩ = some u)

section
variable {w w' : World} {B B' size n : Nat} {A : Option Addr} {xs : List Value}
theorem Rd.nil : Rd w B size A 0 [] := ⟨by simp, fun h => absurd h (by omega)⟩
theorem Rd.keep (h : Rd w B size A n xs) (hk : ∀ p : Addr, p.block < B → w'.cell? p = w.cell? p) : Rd w' B size A n xs :=
  ⟨h.1, fun hn => by
    obtain ⟨b, off, e, hb, hc⟩ := h.2 hn
    exact ⟨b, off, e, hb, fun j u hu => (hk _ hb).trans (hc j u hu)⟩⟩
theorem Rd.more (h : Rd w B size A n xs) (hB : B ≤ B') : Rd w B' size A n xs :=
  ⟨h.1, fun hn => by
    obtain ⟨b, off, e, hb, hc⟩ := h.2 hn
    exact ⟨b, off, e, by omega, hc⟩⟩
theorem Rd.below (h : Rd w B size A n xs) (hb : Below B w w') : Rd w' B size A n xs := h.keep fun _ hp => hb.cell hp
theorem Rd.drew (h : Rd w B size A n xs) : Rd w.drew B size A n xs := h
theorem Rd.drewN (h : Rd w B size A n xs) (k : Nat) : Rd (w.drewN k) B size A n xs := h
theorem Rd.alloc (h : Rd w B size A n xs) (hB : B ≤ w.heap.size) (o : Obj) : Rd (w.alloc o) B size A n xs := h.keep fun p hp => World.cell?_alloc_lt w o p (by omega)
theorem Rd.setCell (h : Rd w B size A n xs) {p : Addr} (hB : B ≤ p.block) (u : Value) : Rd (w.setCell p u) B size A n xs :=
  h.keep fun q hq => World.cell?_setCell_other w p q u (fun e => by subst e; omega)
theorem Rd.grown (h : Rd w B size A n xs) {row : Option Nat} (hg : w.grownBy w' row) (hB : B ≤ w.heap.size) (hr : ∀ g, row = some g → B ≤ g) : Rd w' B size A n xs :=
  h.keep fun p hp => World.cell?_of_block (hg.block p.block (by omega) (fun e => by have := hr _ e.symm; omega))
theorem Rd.of_own {base : Nat} {e : TypeId} {c : Nat} (h : w.ownsRow base e size (.slice A n c) n xs) : Rd w w.heap.size size A n xs := by
  refine ⟨h.1, fun hn => ?_⟩
  obtain ⟨g, cap, hv, _, hlt⟩ := h.form hn
  have hA : A = some ⟨g, 0, none⟩ := by injection hv
  subst hA
  refine ⟨g, 0, rfl, hlt, fun j u hu => ?_⟩
  have := h.cells (g := g) rfl j u hu
  rw [Nat.zero_add]
  by_cases hj : j = 0
  · subst hj; exact this
  · simpa [Addr.add, hj] using this
theorem cell_lt {a : Addr} {u : Value} (h : w.cell? a = some u) : a.block < w.heap.size := by
  rcases Nat.lt_or_ge a.block w.heap.size with hlt | hge
  · exact hlt
  · unfold World.cell? at h
    rw [Array.getElem?_eq_none hge] at h
    cases h
theorem Rd.fit (h : Rd w B size A n xs) (hs : 0 < size) : Rd w w.heap.size size A n xs := by
  refine ⟨h.1, fun h0 => ?_⟩
  obtain ⟨b, off, e, _, hc⟩ := h.2 h0
  refine ⟨b, off, e, ?_, hc⟩
  have hl : 0 < xs.length := by rw [h.1]; exact Nat.mul_pos h0 hs
  exact cell_lt (hc 0 _ (List.getElem?_eq_getElem hl))
/-- the k-th element of a slice whose elements are single cells -/
theorem Rd.at_ {k : Nat} (h : Rd w B 1 A n xs) (hk : k < n) : ∃ b off u, A = some ⟨b, off, none⟩ ∧ b < B ∧ xs[k]? = some u ∧ w.cell? ⟨b, off + k, none⟩ = some u := by
  obtain ⟨b, off, e, hb, hc⟩ := h.2 (by omega)
  have hl : k < xs.length := by have := h.1; omega
  exact ⟨b, off, xs[k], e, hb, List.getElem?_eq_getElem hl, hc k _ (List.getElem?_eq_getElem hl)⟩
theorem Rd.part {lo hi c : Nat} (h : Rd w B size A n xs) (h1 : lo ≤ hi) (h2 : hi ≤ n) (h3 : n ≤ c) :
    Rd w B size (if c = lo then A else A.map (·.add (lo * size))) (hi - lo) ((xs.drop (lo * size)).take ((hi - lo) * size)) := by
  have hm : hi * size ≤ n * size := Nat.mul_le_mul_right _ h2
  have hm1 : lo * size ≤ hi * size := Nat.mul_le_mul_right _ h1
  refine ⟨by rw [List.length_take, List.length_drop, h.1, Nat.sub_mul]; omega, fun hn => ?_⟩
  obtain ⟨b, off, rfl, hb, hcell⟩ := h.2 (by omega)
  rw [if_neg (by omega)]
  refine ⟨b, off + lo * size, ?_, hb, fun j u hu => ?_⟩
  · by_cases h0 : lo * size = 0 <;> simp [Addr.add, h0]
  · rw [Nat.add_assoc]
    refine hcell _ u ?_
    rw [List.getElem?_take] at hu
    split at hu
    · rw [← hu, List.getElem?_drop]
    · cases hu
end

/-- the cells of a new block -/
theorem Rd.new (w : World) (t : TypeId) (cs : List Value) : Rd (w.alloc (.cells cs.toArray t)) (w.heap.size + 1) 1 (some ⟨w.heap.size, 0, none⟩) cs.length cs := by
  refine ⟨by simp, fun _ => ⟨w.heap.size, 0, rfl, Nat.lt_succ_self _, fun j v hv => ?_⟩⟩
  rw [World.cell?_alloc_at _ _ _ _ rfl]
  simpa using hv
theorem Rd.newB (w : World) (t : TypeId) (cs : List Value) (H B : Nat) (hH : w.heap.size = H) (hB : H < B) : Rd (w.alloc (.cells cs.toArray t)) B 1 (some ⟨H, 0, none⟩) cs.length cs := by
  subst hH
  exact (Rd.new w t cs).more hB
theorem one_bools (l : List Bool) : ∀ u ∈ l.map Value.bool, u.oneCell' = true := by
  intro u hu
  obtain ⟨b, _, rfl⟩ := List.mem_map.1 hu
  rfl
theorem one_ints (l : List Int) : ∀ u ∈ l.map (Value.int .i64), u.oneCell' = true := by
  intro u hu
  obtain ⟨b, _, rfl⟩ := List.mem_map.1 hu
  rfl

/-- a slice type's row: elements of type E, so many cells and bytes each, zero value z -/
structure SlType (P : Program) (T E s bytes : Nat) (z : Value) : Prop where
  under : P.underlying T = some (.slice E)
  elem : P.elem T = E
  info : (P.info? E).map (fun i => (i.zero, i.size, i.bytes)) = some (some z, s, bytes)
  zero : z.cells.size = s
  pos : 0 < s
theorem SlType.under' {P : Program} {T E s bytes : Nat} {z : Value} (hT : SlType P T E s bytes z) : P.underlying T = some (.slice (P.elem T)) := by rw [hT.elem]; exact hT.under
theorem SlType.size {P : Program} {T E s bytes : Nat} {z : Value} (hT : SlType P T E s bytes z) (w : World) : (Go.sizeOf (P.elem T)).run P w = .ok s w := by
  obtain ⟨i, hi, _, hz1, _⟩ := info_parts hT.info
  rw [hT.elem]
  simp [Go.sizeOf, typeInfo, hi, hz1]

section
variable {P : Program} {T E s bytes : Nat} {z : Value} (hT : SlType P T E s bytes z)
include hT
theorem SlType.lh (A : Option Addr) (n c : Nat) (l h : Int) (h0 : 0 ≤ l) (h1 : l ≤ h) (h2 : h ≤ c) (w : World) :
    (Instr.slice T (.slice A n c) (some (.int .i64 l)) (some (.int .i64 h)) none).run P w = .ok (.slice (if c = l.toNat then A else A.map (·.add (l.toNat * s))) (h.toNat - l.toNat) (c - l.toNat)) w := by
  rw [run_slice_lh w T A n c hT.under' .i64 .i64 l h h0 h1 h2, hT.size w]
  rfl
theorem SlType.hh (A : Option Addr) (n c : Nat) (h : Int) (h0 : 0 ≤ h) (h2 : h ≤ c) (w : World) :
    (Instr.slice T (.slice A n c) none (some (.int .i64 h)) none).run P w = .ok (.slice A h.toNat c) w := by
  rw [run_slice_h w T A n c hT.under' .i64 h h0 h2, hT.size w]
  simp only [Result.andThen, sliced]
  congr 1
  cases A <;> simp [Addr.add]
theorem SlType.ll (A : Option Addr) (n c : Nat) (l : Int) (h0 : 0 ≤ l) (h1 : l ≤ n) (w : World) :
    (Instr.slice T (.slice A n c) (some (.int .i64 l)) none none).run P w = .ok (.slice (if c = l.toNat then A else A.map (·.add (l.toNat * s))) (n - l.toNat) (c - l.toNat)) w := by
  rw [run_slice_l w T A n c hT.under' .i64 l h0 h1, hT.size w]
  rfl
/-- x[l:h], named: its run in every world, and what it reads as -/
theorem SlType.cut {w : World} {B n c : Nat} {A : Option Addr} {xs : List Value} (hr : Rd w B s A n xs) (l h : Int) (h0 : 0 ≤ l) (h1 : l ≤ h) (h2 : h ≤ n) (h3 : n ≤ c) :
    ∃ A', (∀ u, (Instr.slice T (.slice A n c) (some (.int .i64 l)) (some (.int .i64 h)) none).run P u = .ok (.slice A' (h.toNat - l.toNat) (c - l.toNat)) u) ∧
      Rd w B s A' (h.toNat - l.toNat) ((xs.drop (l.toNat * s)).take ((h.toNat - l.toNat) * s)) :=
  ⟨_, fun u => hT.lh A n c l h h0 h1 (by omega) u, hr.part (by omega) (by omega) h3⟩
/-- x[l:], named -/
theorem SlType.cutl {w : World} {B n c : Nat} {A : Option Addr} {xs : List Value} (hr : Rd w B s A n xs) (l : Int) (h0 : 0 ≤ l) (h2 : l ≤ n) (h3 : n ≤ c) :
    ∃ A', (∀ u, (Instr.slice T (.slice A n c) (some (.int .i64 l)) none none).run P u = .ok (.slice A' (n - l.toNat) (c - l.toNat)) u) ∧
      Rd w B s A' (n - l.toNat) (xs.drop (l.toNat * s)) := by
  refine ⟨_, fun u => hT.ll A n c l h0 h2 u, ?_⟩
  have := hr.part (lo := l.toNat) (hi := n) (c := c) (by omega) (Nat.le_refl _) h3
  rwa [List.take_of_length_le (by rw [List.length_drop, hr.1, Nat.sub_mul]; omega)] at this
end

/-- x[:h] -/
theorem Rd.cuth {s : Nat} {w : World} {B n : Nat} {A : Option Addr} {xs : List Value} (hr : Rd w B s A n xs) (h : Nat) (h2 : h ≤ n) : Rd w B s A h (xs.take (h * s)) := by
  have hm : h * s ≤ n * s := Nat.mul_le_mul_right _ h2
  refine ⟨by rw [List.length_take, hr.1]; omega, fun hn => ?_⟩
  obtain ⟨b, off, rfl, hb, hcell⟩ := hr.2 (by omega)
  refine ⟨b, off, rfl, hb, fun j u hu => hcell j u ?_⟩
  rw [List.getElem?_take] at hu
  split at hu
  · exact hu
  · cases hu

theorem tBools : SlType Try.prog 22 4 1 1 (.bool false) := ⟨by kernel_rfl, by kernel_rfl, by kernel_rfl, rfl, by decide⟩
theorem tInts : SlType Try.prog 29 3 1 8 (.int .i64 0) := ⟨by kernel_rfl, by kernel_rfl, by kernel_rfl, rfl, by decide⟩
theorem tBoolss : SlType Try.prog 30 22 1 24 (.slice none 0 0) := ⟨by kernel_rfl, by kernel_rfl, by kernel_rfl, rfl, by decide⟩
theorem tIntss : SlType Try.prog 53 29 1 24 (.slice none 0 0) := ⟨by kernel_rfl, by kernel_rfl, by kernel_rfl, rfl, by decide⟩
theorem ret_int {k : IntKind} {a b : Int} (h : a = b) : Ending.returned (.int k a) = .returned (.int k b) := by rw [h]
theorem bcell {W w1 : World} {B : Nat} (hb : Below B W w1) : (∀ b o, b < B → w1.cell? ⟨b, o, none⟩ = W.cell? ⟨b, o, none⟩) ∧ (∀ b o, b < B → w1.frozen? ⟨b, o, none⟩ = W.frozen? ⟨b, o, none⟩) :=
  ⟨fun b o h => hb.cell (p := ⟨b, o, none⟩) h, fun b o h => hb.frozen (p := ⟨b, o, none⟩) h⟩
end Go.Proofs.Ytjeklijkncbaaaa
