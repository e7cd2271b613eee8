/- Only -/
import Derived.Test.YtimklgbljjamkaaDoorCs03
import Derived.Test.YtimklgbljjamkaaDoorCs31
namespace Go.Proofs.YtimklgbljjamkaaDoor
open Go.RowKit Go.Maps
structure Only (w w' : World) (X : Nat → Prop) : Prop where
 os : w'.os = w.os
 tape : w'.tape = w.tape
 output : w'.output = w.output
 size : w.heap.size ≤ w'.heap.size
 block : ∀ b, b < w.heap.size → ¬ X b → w'.heap[b]? = w.heap[b]?
section
variable {w w' w'' : World} {X Y : Nat → Prop}
theorem Only.refl (w : World) (X : Nat → Prop) : Only w w X := ⟨rfl, rfl, rfl, Nat.le_refl _, fun _ _ _ => rfl⟩
theorem Only.trans (h : Only w w' X) (h' : Only w' w'' X) : Only w w'' X :=
 ⟨h'.os.trans h.os, h'.tape.trans h.tape, h'.output.trans h.output, Nat.le_trans h.size h'.size, fun b hb hx => (h'.block b (Nat.lt_of_lt_of_le hb h.size) hx).trans (h.block b hb hx)⟩
theorem Only.more (h : Only w w' X) (hX : ∀ b, b < w.heap.size → X b → Y b) : Only w w' Y := ⟨h.os, h.tape, h.output, h.size, fun b hb hy => h.block b hb (fun hx => hy (hX b hb hx))⟩
theorem Only.of_below {B : Nat} (h : Below B w w') (hB : w.heap.size ≤ B) (X : Nat → Prop) : Only w w' X := ⟨h.os, h.tape, h.output, h.size, fun b hb _ => h.block b (by omega)⟩
theorem Only.of_grown {r : Option Nat} (h : w.grownBy w' r) (hX : ∀ b, r = some b → X b) : Only w w' X := ⟨h.os, h.tape, h.output, h.size, fun b hb hx => h.block b hb (fun e => hx (hX b e.symm))⟩
theorem Only.below {B : Nat} (h : Only w w' X) (hX : ∀ b, X b → B ≤ b) (hB : B ≤ w.heap.size) : Below B w w' := ⟨h.os, h.tape, h.output, h.size, fun b hb => h.block b (by omega) (fun hx => by have := hX b hx; omega)⟩
theorem Only.alloc (w : World) (o : Obj) (X : Nat → Prop) : Only w (w.alloc o) X := .of_below ((Below.refl _ _).alloc (Nat.le_refl _) o) (Nat.le_refl _) X
theorem Only.drew (w : World) (X : Nat → Prop) : Only w w.drew X := ⟨rfl, rfl, rfl, Nat.le_refl _, fun _ _ _ => rfl⟩
theorem Only.kept {S : Nat → Prop} (h : Only w w' X) (hS : ∀ b, S b → ¬ X b) : Kept S w w' := fun p u hp hu => by
 rw [World.cell?_of_block (h.block p.block (cell_lt hu) (hS _ hp))]; exact hu
theorem Only.set (w : World) (g i : Nat) (u : Value) {X : Nat → Prop} (hX : X g) : Only w (w.setCell ⟨g, i, none⟩ u) X := ⟨rfl, rfl, rfl, by simp [World.setCell], fun q _ hq => Below.heap_setCell w ⟨g, i, none⟩ _ q (fun e => hq (by rw [e]; exact hX))⟩
theorem Own.sameB {base sz : Nat} {E : TypeId} {v : Value} {n : Nat} {xs : List Value} (h : Own w base E sz v n xs) (hk : ∀ g, rowOf v = some g → w'.heap[g]? = w.heap[g]?) : Own w' base E sz v n xs := by
 rcases h with h | h
 ·
  rcases h.2 with ⟨h1, h2⟩ | ⟨g, cap, cur, rfl, hb, hh, hnc, hr⟩
  ·
   exact .inl ⟨h.1, .inl ⟨h1, h2⟩⟩
  ·
   cases cap with
   | zero =>
    obtain rfl : n = 0 := by omega
    exact .inr ⟨_, rfl, rfl, List.eq_nil_of_length_eq_zero (by rw [h.1, Nat.zero_mul])⟩
   | succ k => exact .inl ⟨h.1, .inr ⟨g, k + 1, cur, rfl, hb, (hk g rfl).trans hh, hnc, hr⟩⟩
 ·
  exact .inr h
theorem AMap.only {P : Program} {k : TypeId} {κ : Type} {K : KeyRep P k κ} {b : Nat} {l : List (κ × Value)} (h : AMap K w b l) (ho : Only w w' X) (hX : ¬ X b) : AMap K w' b l := h.block (ho.block b h.lt hX)
end
structure GL {α : Type} (R : Rep α) (E : TypeId) (w : World) (F : Nat → Prop) (v : Value) (l : List α) : Prop where
 own : ∃ xs, Own w 0 E R.size v l.length xs ∧ Cells R w (fun b => F b ∧ rowOf v ≠ some b) xs l
 row : ∀ g, rowOf v = some g → F g
section
variable {α : Type} {R : Rep α} {E : TypeId} {w w' : World} {F G X : Nat → Prop} {v : Value} {l : List α}
theorem GL.form (h : GL R E w F v l) : ∃ A c, v = .slice A l.length c ∧ l.length ≤ c := by
 obtain ⟨xs, h1, _⟩ := h.own
 obtain ⟨A, c, e, hc, _⟩ := h1.form
 exact ⟨A, c, e, hc⟩
theorem GL.lt (h : GL R E w F v l) {g : Nat} (hg : rowOf v = some g) : g < w.heap.size := by
 obtain ⟨xs, h1, _⟩ := h.own
 exact (h1.row hg).2
theorem GL.fit (h : GL R E w F v l) : GL R E w (fun b => F b ∧ b < w.heap.size) v l := by
 obtain ⟨xs, h1, h2⟩ := h.own
 exact ⟨⟨xs, h1, h2.fit.more fun b hb => ⟨⟨hb.1.1, hb.2⟩, hb.1.2⟩⟩, fun g e => ⟨h.row g e, (h1.row e).2⟩⟩
theorem GL.more (h : GL R E w F v l) (hF : ∀ b, F b → G b) : GL R E w G v l := by
 obtain ⟨xs, h1, h2⟩ := h.own
 exact ⟨⟨xs, h1, h2.more fun b hb => ⟨hF b hb.1, hb.2⟩⟩, fun g e => hF g (h.row g e)⟩
theorem GL.only (h : GL R E w F v l) (ho : Only w w' X) (hX : ∀ b, F b → b < w.heap.size → ¬ X b) : GL R E w' F v l := by
 obtain ⟨xs, h1, h2⟩ := h.own
 exact ⟨⟨xs, h1.sameB fun g e => ho.block g (h1.row e).2 (hX g (h.row g e) (h1.row e).2), (h2.fit.keep (ho.kept fun b hb => hX b hb.1.1 hb.2)).more fun b hb => hb.1⟩, h.row⟩
theorem GL.below (h : GL R E w F v l) (hb : Below w.heap.size w w') : GL R E w' F v l := h.only (X := fun _ => False) (.of_below hb (Nat.le_refl _) _) fun _ _ _ => id
theorem GL.nil (w : World) (F : Nat → Prop) : GL R E w F (.slice none 0 0) [] := ⟨⟨[], Own.nil _ _ _ _ _, Cells.nil⟩, fun g e => by cases e⟩
theorem Own.rowRd {base n c sz : Nat} {A : Option Addr} {xs : List Value} (h : Own w base E sz (.slice A n c) n xs) (hF : ∀ g, rowOf (.slice A n c) = some g → F g) (hc : n ≤ c) : Rd w F sz A n xs := by
 refine ⟨h.rd.1, fun hn => ?_⟩
 obtain ⟨b, off, rfl, _, hc'⟩ := h.rd.2 hn
 refine ⟨b, off, rfl, hF b ?_, hc'⟩
 obtain ⟨c0, rfl⟩ : ∃ c0, c = c0 + 1 := ⟨c - 1, by omega⟩
 rfl
theorem GL.sl {A : Option Addr} {n c : Nat} (h : GL R E w F (.slice A n c) l) : Sl R w F A n c l := by
 obtain ⟨xs, h1, h2⟩ := h.own
 obtain ⟨A', c', e, hc, _⟩ := h1.form
 injection e with e1 e2 e3
 subst e1
 subst e2
 subst e3
 exact ⟨xs, rfl, hc, h1.rowRd h.row hc, h2.more fun b hb => hb.1⟩
theorem GL.push {P : Program} {T s bytes : Nat} {z : Value} (hT : SlType P T E s bytes z) (hs : R.size = s) (h : GL R E w F v l) {x : α} {ys : List Value} (hx : R.ok w G ys x) (hG : ∀ b, G b → rowOf v ≠ some b) (hl : l.length ≤ 1000000) (hby : bytes ≤ 100) (ty : TypeId) :
    ∃ A' c' w', (Builtin.append_ #[T, T] ty #[v, .slice (some ⟨w.heap.size, 0, none⟩) 1 1]).run P (w.alloc (.cells ys.toArray E)) = .ok (.slice A' (l.length + 1) c') w' ∧
     GL R E w' (fun b => F b ∨ G b ∨ b = w.heap.size + 1) (.slice A' (l.length + 1) c') (l ++ [x]) ∧ (w.alloc (.cells ys.toArray E)).grownBy w' (rowOf v) ∧ (rowOf (.slice A' (l.length + 1) c') = rowOf v ∨ rowOf (.slice A' (l.length + 1) c') = some (w.heap.size + 1)) := by
 subst hs
 obtain ⟨xs, h1, h2⟩ := h.own
 have hc1 : Cells R w G ys [x] := Cells.single hx
 have hr : Rd (w.alloc (.cells ys.toArray E)) (fun _ => True) R.size (some ⟨w.heap.size, 0, none⟩) 1 ys := by
  refine ⟨by rw [R.len hx, Nat.one_mul], fun _ => ⟨w.heap.size, 0, rfl, trivial, fun j u hu => ?_⟩⟩
  rw [World.cell?_alloc_at _ _ _ _ rfl]
  simpa using hu
 obtain ⟨v', w', hrun, ho, hg, hrow⟩ := run_append_Own hT (w.alloc (.cells ys.toArray E)) ty 0 v l.length xs (h1.alloc _) _ _ 1 1 ys hr (R.one hx) (by unfold maxLen; omega) (by
  have : (l.length + 1) * bytes ≤ 1000001 * 100 := Nat.mul_le_mul (by omega) hby
  omega) (Nat.zero_le _)
 obtain ⟨A', c', rfl, _, _⟩ := ho.form
 have hrow' : rowOf (.slice A' (l.length + 1) c') = rowOf v ∨ rowOf (.slice A' (l.length + 1) c') = some (w.heap.size + 1) := by
  rcases hrow with e | e
  ·
   exact .inl e
  ·
   exact .inr (by rw [e]; simp)
 have hcx : Cells R w (fun b => (F b ∨ G b) ∧ rowOf v ≠ some b) (xs ++ ys) (l ++ [x]) :=
  (h2.more fun b hb => ⟨.inl hb.1, hb.2⟩).append (hc1.more fun b hb => ⟨.inr hb, hG b hb⟩)
 have hcx' := ((hcx.fit).keep (.alloc _ _ (.cells ys.toArray E))).keep (w' := w') (Kept.grown hg fun b hb => hb.1.2)
 have hout : Cells R w' (fun b => (F b ∨ G b ∨ b = w.heap.size + 1) ∧ rowOf (.slice A' (l.length + 1) c') ≠ some b) (xs ++ ys) (l ++ [x]) := by
  refine hcx'.more fun b hb => ⟨?_, ?_⟩
  ·
   rcases hb.1.1 with h | h
   ·
    exact .inl h
   ·
    exact .inr (.inl h)
  ·
   rcases hrow' with e | e
   ·
    rw [e]; exact hb.1.2
   ·
    rw [e]
    intro e2
    injection e2 with e2
    have := hb.2
    omega
 refine ⟨A', c', w', hrun, ⟨⟨_, by simpa using ho, hout⟩, fun g e => ?_⟩, hg, hrow'⟩
 rcases hrow' with e2 | e2
 ·
  rw [e2] at e
  exact .inl (h.row g e)
 ·
  rw [e2] at e
  injection e with e
  exact .inr (.inr e.symm)
end
end Go.Proofs.YtimklgbljjamkaaDoor
