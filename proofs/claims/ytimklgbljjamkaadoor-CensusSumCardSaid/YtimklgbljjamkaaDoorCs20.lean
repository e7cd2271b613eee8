/- Aside -/
import Derived.Test.YtimklgbljjamkaaDoorCs04
import Derived.Test.YtimklgbljjamkaaDoorCs06
namespace Go.Proofs.YtimklgbljjamkaaDoor
open Go.RowKit
structure Aside (lo hi : Nat) (w w' : World) : Prop where
 os : w'.os = w.os
 tape : w'.tape = w.tape
 output : w'.output = w.output
 size : w.heap.size ≤ w'.heap.size
 block : ∀ k, k < w.heap.size → (k < lo ∨ hi ≤ k) → w'.heap[k]? = w.heap[k]?
section
variable {lo hi : Nat} {w w' w'' : World}
theorem Aside.refl (lo hi : Nat) (w : World) : Aside lo hi w w := ⟨rfl, rfl, rfl, Nat.le_refl _, fun _ _ _ => rfl⟩
theorem Aside.trans (h : Aside lo hi w w') (k : Aside lo hi w' w'') : Aside lo hi w w'' :=
 ⟨k.os.trans h.os, k.tape.trans h.tape, k.output.trans h.output, Nat.le_trans h.size k.size, fun i hi hr => (k.block i (Nat.lt_of_lt_of_le hi h.size) hr).trans (h.block i hi hr)⟩
theorem Aside.of (h : Below w.heap.size w w') : Aside lo hi w w' := ⟨h.os, h.tape, h.output, h.size, fun k hk _ => h.block k hk⟩
theorem Aside.below (h : Aside lo hi w w') {B : Nat} (h1 : B ≤ w.heap.size) (h2 : B ≤ lo) : Below B w w' := ⟨h.os, h.tape, h.output, h.size, fun k hk => h.block k (by omega) (Or.inl (by omega))⟩
theorem Aside.drew (h : Aside lo hi w w') : Aside lo hi w w'.drew := ⟨h.os, h.tape, h.output, h.size, h.block⟩
theorem Aside.alloc (h : Aside lo hi w w') (o : Obj) : Aside lo hi w (w'.alloc o) := h.trans (.of ((Below.refl _ _).alloc (Nat.le_refl _) _))
theorem Aside.setCell (h : Aside lo hi w w') {p : Addr} (h1 : lo ≤ p.block) (h2 : p.block < hi) (u : Value) : Aside lo hi w (w'.setCell p u) :=
 h.trans ⟨rfl, rfl, rfl, by simp [World.setCell], fun k _ hk => Below.heap_setCell _ _ _ _ (by omega)⟩
theorem Aside.cell (h : Aside lo hi w w') {p : Addr} (h1 : p.block < w.heap.size) (h2 : p.block < lo ∨ hi ≤ p.block) : w'.cell? p = w.cell? p := World.cell?_of_block (h.block _ h1 h2)
theorem Kept.aside {S : Nat → Prop} (h : Aside lo hi w w') (hS : ∀ b, S b → b < lo ∨ hi ≤ b) : Kept S w w' := fun p u hp hu => by rw [h.cell (cell_lt hu) (hS _ hp)]; exact hu
end
theorem OwnL.aside {α : Type} {R : Rep α} {w w' : World} {base lo hi : Nat} {E : TypeId} {v : Value} {l : List α} (h : OwnL R w (fun _ => False) base E v l) (hb : Aside lo hi w w') (hh : hi ≤ base) : OwnL R w' (fun _ => False) base E v l := by
 obtain ⟨xs, h1, h2⟩ := h
 refine ⟨xs, ?_, h2.keep (.aside hb fun b h => ?_)⟩
 ·
  rcases h1 with h | h
  ·
   left
   refine ⟨h.1, ?_⟩
   rcases h.2 with h2 | ⟨g, cap, cur, rfl, hbg, hh', hr⟩
   ·
    exact .inl h2
   ·
    exact .inr ⟨g, cap, cur, rfl, hbg, (hb.block g (heap_lt hh') (Or.inr (by omega))).trans hh', hr⟩
  ·
   exact .inr h
 ·
  rcases h.1 with h | h
  ·
   exact absurd h id
  ·
   right; omega
theorem OwnL.formN {α : Type} {R : Rep α} {w : World} {S : Nat → Prop} {base : Nat} {E : TypeId} {v : Value} {l : List α} (h : OwnL R w S base E v l) {a : Nat} (ha : l.length = a) : ∃ A c, v = .slice A a c ∧ a ≤ c := by
 obtain ⟨A, c, h1, h2, _⟩ := h.form
 subst ha
 exact ⟨A, c, h1, h2⟩
theorem Aside.grow {lo hi B : Nat} {w w' w'' : World} (h : Aside lo hi w w') (hb : Below B w' w'') (hB : w.heap.size ≤ B) : Aside lo hi w w'' :=
 ⟨hb.os.trans h.os, hb.tape.trans h.tape, hb.output.trans h.output, Nat.le_trans h.size hb.size, fun k hk hr => (hb.block k (by omega)).trans (h.block k hk hr)⟩
end Go.Proofs.YtimklgbljjamkaaDoor
