/- Only TrM SlCmpInt SlEqInt -/
import Derived.Test.YtjnbjdbndbbanaaGreatDoorTc18
namespace Go.Proofs.YtjnbjdbndbbanaaGreatDoor
open Go.RowKit Go.Maps
structure Only (w w' : World) (X : Nat → Prop) : Prop where
 os : w'.os = w.os
 tape : w'.tape = w.tape
 output : w'.output = w.output
 size : w.heap.size ≤ w'.heap.size
 block : ∀ b, b < w.heap.size → ¬ X b → w'.heap[b]? = w.heap[b]?
section
variable {w w' w'' : World} {X Y : Nat → Prop}
theorem Only.refl (w : World) (X : Nat → Prop) : Only w w X := ⟨rfl, rfl, rfl, Nat.le_refl _, fun _ _ _ => rfl⟩
theorem Only.trans (h : Only w w' X) (h' : Only w' w'' X) : Only w w'' X :=
 ⟨h'.os.trans h.os, h'.tape.trans h.tape, h'.output.trans h.output, Nat.le_trans h.size h'.size, fun b hb hx => (h'.block b (Nat.lt_of_lt_of_le hb h.size) hx).trans (h.block b hb hx)⟩
theorem Only.more (h : Only w w' X) (hX : ∀ b, b < w.heap.size → X b → Y b) : Only w w' Y := ⟨h.os, h.tape, h.output, h.size, fun b hb hy => h.block b hb (fun hx => hy (hX b hb hx))⟩
theorem Only.of_below {B : Nat} (h : Below B w w') (hB : w.heap.size ≤ B) (X : Nat → Prop) : Only w w' X := ⟨h.os, h.tape, h.output, h.size, fun b hb _ => h.block b (by omega)⟩
theorem Only.of_grown {r : Option Nat} (h : w.grownBy w' r) (hX : ∀ b, r = some b → X b) : Only w w' X := ⟨h.os, h.tape, h.output, h.size, fun b hb hx => h.block b hb (fun e => hx (hX b e.symm))⟩
theorem Only.below {B : Nat} (h : Only w w' X) (hX : ∀ b, X b → B ≤ b) (hB : B ≤ w.heap.size) : Below B w w' := ⟨h.os, h.tape, h.output, h.size, fun b hb => h.block b (by omega) (fun hx => by have := hX b hx; omega)⟩
theorem Only.alloc (w : World) (o : Obj) (X : Nat → Prop) : Only w (w.alloc o) X := .of_below ((Below.refl _ _).alloc (Nat.le_refl _) o) (Nat.le_refl _) X
theorem Only.drew (w : World) (X : Nat → Prop) : Only w w.drew X := ⟨rfl, rfl, rfl, Nat.le_refl _, fun _ _ _ => rfl⟩
theorem Only.drewN (w : World) (n : Nat) (X : Nat → Prop) : Only w (w.drewN n) X := ⟨rfl, rfl, rfl, Nat.le_refl _, fun _ _ _ => rfl⟩
theorem Only.kept {S : Nat → Prop} (h : Only w w' X) (hS : ∀ b, S b → ¬ X b) : Kept S w w' := fun p u hp hu => by
 rw [World.cell?_of_block (h.block p.block (cell_lt hu) (hS _ hp))]; exact hu
theorem Only.set (w : World) (g i : Nat) (u : Value) {X : Nat → Prop} (hX : X g) : Only w (w.setCell ⟨g, i, none⟩ u) X := ⟨rfl, rfl, rfl, by simp [World.setCell], fun q _ hq => Below.heap_setCell w ⟨g, i, none⟩ _ q (fun e => hq (by rw [e]; exact hX))⟩
theorem Own.sameB {base sz : Nat} {E : TypeId} {v : Value} {n : Nat} {xs : List Value} (h : Own w base E sz v n xs) (hk : ∀ g, rowOf v = some g → w'.heap[g]? = w.heap[g]?) : Own w' base E sz v n xs := by
 rcases h with h | h
 ·
  rcases h.2 with ⟨h1, h2⟩ | ⟨g, cap, cur, rfl, hb, hh, hnc, hr⟩
  · exact .inl ⟨h.1, .inl ⟨h1, h2⟩⟩
  cases cap with
  | zero =>
   obtain rfl : n = 0 := by omega
   exact .inr ⟨_, rfl, rfl, List.eq_nil_of_length_eq_zero (by rw [h.1, Nat.zero_mul])⟩
  | succ k => exact .inl ⟨h.1, .inr ⟨g, k + 1, cur, rfl, hb, (hk g rfl).trans hh, hnc, hr⟩⟩
 exact .inr h
theorem AMap.only {P : Program} {k : TypeId} {κ : Type} {K : KeyRep P k κ} {b : Nat} {l : List (κ × Value)} (h : AMap K w b l) (ho : Only w w' X) (hX : ¬ X b) : AMap K w' b l := h.block (ho.block b h.lt hX)
end
structure GL {α : Type} (R : Rep α) (E : TypeId) (w : World) (F : Nat → Prop) (v : Value) (l : List α) : Prop where
 own : ∃ xs, Own w 0 E R.size v l.length xs ∧ Cells R w (fun b => F b ∧ rowOf v ≠ some b) xs l
 row : ∀ g, rowOf v = some g → F g
section
variable {α : Type} {R : Rep α} {E : TypeId} {w w' : World} {F G X : Nat → Prop} {v : Value} {l : List α}
theorem GL.form (h : GL R E w F v l) : ∃ A c, v = .slice A l.length c ∧ l.length ≤ c := by
 obtain ⟨xs, h1, _⟩ := h.own
 obtain ⟨A, c, e, hc, _⟩ := h1.form
 exact ⟨A, c, e, hc⟩
theorem GL.lt (h : GL R E w F v l) {g : Nat} (hg : rowOf v = some g) : g < w.heap.size := by
 obtain ⟨xs, h1, _⟩ := h.own
 exact (h1.row hg).2
theorem GL.fit (h : GL R E w F v l) : GL R E w (fun b => F b ∧ b < w.heap.size) v l := by
 obtain ⟨xs, h1, h2⟩ := h.own
 exact ⟨⟨xs, h1, h2.fit.more fun b hb => ⟨⟨hb.1.1, hb.2⟩, hb.1.2⟩⟩, fun g e => ⟨h.row g e, (h1.row e).2⟩⟩
theorem GL.more (h : GL R E w F v l) (hF : ∀ b, F b → G b) : GL R E w G v l := by
 obtain ⟨xs, h1, h2⟩ := h.own
 exact ⟨⟨xs, h1, h2.more fun b hb => ⟨hF b hb.1, hb.2⟩⟩, fun g e => hF g (h.row g e)⟩
theorem GL.only (h : GL R E w F v l) (ho : Only w w' X) (hX : ∀ b, F b → b < w.heap.size → ¬ X b) : GL R E w' F v l := by
 obtain ⟨xs, h1, h2⟩ := h.own
 exact ⟨⟨xs, h1.sameB fun g e => ho.block g (h1.row e).2 (hX g (h.row g e) (h1.row e).2), (h2.fit.keep (ho.kept fun b hb => hX b hb.1.1 hb.2)).more fun b hb => hb.1⟩, h.row⟩
theorem GL.below (h : GL R E w F v l) (hb : Below w.heap.size w w') : GL R E w' F v l := h.only (X := fun _ => False) (.of_below hb (Nat.le_refl _) _) fun _ _ _ => id
theorem GL.nil (w : World) (F : Nat → Prop) : GL R E w F (.slice none 0 0) [] := ⟨⟨[], Own.nil _ _ _ _ _, Cells.nil⟩, fun g e => by cases e⟩
theorem Own.rowRd {base n c sz : Nat} {A : Option Addr} {xs : List Value} (h : Own w base E sz (.slice A n c) n xs) (hF : ∀ g, rowOf (.slice A n c) = some g → F g) (hc : n ≤ c) : Rd w F sz A n xs := by
 refine ⟨h.rd.1, fun hn => ?_⟩
 obtain ⟨b, off, rfl, _, hc'⟩ := h.rd.2 hn
 refine ⟨b, off, rfl, hF b ?_, hc'⟩
 obtain ⟨c0, rfl⟩ : ∃ c0, c = c0 + 1 := ⟨c - 1, by omega⟩
 rfl
theorem GL.sl {A : Option Addr} {n c : Nat} (h : GL R E w F (.slice A n c) l) : Sl R w F A n c l := by
 obtain ⟨xs, h1, h2⟩ := h.own
 obtain ⟨A', c', e, hc, _⟩ := h1.form
 injection e with e1 e2 e3
 subst e1
 subst e2
 subst e3
 exact ⟨xs, rfl, hc, h1.rowRd h.row hc, h2.more fun b hb => hb.1⟩
theorem GL.push {P : Program} {T s bytes : Nat} {z : Value} (hT : SlType P T E s bytes z) (hs : R.size = s) (h : GL R E w F v l) {x : α} {ys : List Value} (hx : R.ok w G ys x) (hG : ∀ b, G b → rowOf v ≠ some b) (hl : l.length ≤ 1000000) (hby : bytes ≤ 100) (ty : TypeId) :
    ∃ A' c' w', (Builtin.append_ #[T, T] ty #[v, .slice (some ⟨w.heap.size, 0, none⟩) 1 1]).run P (w.alloc (.cells ys.toArray E)) = .ok (.slice A' (l.length + 1) c') w' ∧
     GL R E w' (fun b => F b ∨ G b ∨ b = w.heap.size + 1) (.slice A' (l.length + 1) c') (l ++ [x]) ∧ (w.alloc (.cells ys.toArray E)).grownBy w' (rowOf v) ∧ (rowOf (.slice A' (l.length + 1) c') = rowOf v ∨ rowOf (.slice A' (l.length + 1) c') = some (w.heap.size + 1)) := by
 subst hs
 obtain ⟨xs, h1, h2⟩ := h.own
 have hc1 : Cells R w G ys [x] := Cells.single hx
 have hr : Rd (w.alloc (.cells ys.toArray E)) (fun _ => True) R.size (some ⟨w.heap.size, 0, none⟩) 1 ys := by
  refine ⟨by rw [R.len hx, Nat.one_mul], fun _ => ⟨w.heap.size, 0, rfl, trivial, fun j u hu => ?_⟩⟩
  rw [World.cell?_alloc_at _ _ _ _ rfl]
  simpa using hu
 obtain ⟨v', w', hrun, ho, hg, hrow⟩ := run_append_Own hT (w.alloc (.cells ys.toArray E)) ty 0 v l.length xs (h1.alloc _) _ _ 1 1 ys hr (R.one hx) (by unfold maxLen; omega) (by
  have : (l.length + 1) * bytes ≤ 1000001 * 100 := Nat.mul_le_mul (by omega) hby
  omega) (Nat.zero_le _)
 obtain ⟨A', c', rfl, _, _⟩ := ho.form
 have hrow' : rowOf (.slice A' (l.length + 1) c') = rowOf v ∨ rowOf (.slice A' (l.length + 1) c') = some (w.heap.size + 1) := by
  rcases hrow with e | e
  · exact .inl e
  exact .inr (by rw [e]; simp)
 have hcx : Cells R w (fun b => (F b ∨ G b) ∧ rowOf v ≠ some b) (xs ++ ys) (l ++ [x]) :=
  (h2.more fun b hb => ⟨.inl hb.1, hb.2⟩).append (hc1.more fun b hb => ⟨.inr hb, hG b hb⟩)
 have hcx' := ((hcx.fit).keep (.alloc _ _ (.cells ys.toArray E))).keep (w' := w') (Kept.grown hg fun b hb => hb.1.2)
 have hout : Cells R w' (fun b => (F b ∨ G b ∨ b = w.heap.size + 1) ∧ rowOf (.slice A' (l.length + 1) c') ≠ some b) (xs ++ ys) (l ++ [x]) := by
  refine hcx'.more fun b hb => ⟨?_, ?_⟩
  ·
   rcases hb.1.1 with h | h
   · exact .inl h
   exact .inr (.inl h)
  rcases hrow' with e | e
  · rw [e]; exact hb.1.2
  rw [e]
  intro e2
  injection e2 with e2
  have := hb.2
  omega
 refine ⟨A', c', w', hrun, ⟨⟨_, by simpa using ho, hout⟩, fun g e => ?_⟩, hg, hrow'⟩
 rcases hrow' with e2 | e2
 ·
  rw [e2] at e
  exact .inl (h.row g e)
 rw [e2] at e
 injection e with e
 exact .inr (.inr e.symm)
end
end Go.Proofs.YtjnbjdbndbbanaaGreatDoor
namespace Go.Proofs.YtjnbjdbndbbanaaGreatDoor
open Go.RowKit Go.Maps
mutual
def ptOk (w : World) (S : Nat → Prop) : List Value → TreeD → Prop
 | cs, .node r t ks => ∃ b A n c xs, cs = [.pointer (some ⟨b, 0, none⟩)] ∧ S b ∧ w.cell? ⟨b, 0, none⟩ = some (.int .i64 r) ∧ w.cell? ⟨b, 1, none⟩ = some (.int .i64 t) ∧ w.cell? ⟨b, 2, none⟩ = some (.int .i64 (sizeT (.node r t ks) : Int)) ∧ w.cell? ⟨b, 3, none⟩ = some (.slice A n c) ∧ n = ks.length ∧ n ≤ c ∧ Rd w S 1 A n xs ∧ ptsOk w S xs ks
def ptsOk (w : World) (S : Nat → Prop) : List Value → List TreeD → Prop
 | xs, [] => xs = []
 | xs, t :: ts => ∃ cs rest, xs = cs ++ rest ∧ ptOk w S cs t ∧ ptsOk w S rest ts
end
section
variable {w w' : World} {S S' : Nat → Prop}
theorem ptOk.len {cs : List Value} : ∀ {t : TreeD}, ptOk w S cs t → cs.length = 1
 | .node r t ks, h => by
  unfold ptOk at h
  obtain ⟨b, A, n, c, xs, rfl, _⟩ := h
  rfl
theorem ptOk.one {cs : List Value} : ∀ {t : TreeD}, ptOk w S cs t → ∀ u ∈ cs, u.oneCell' = true
 | .node r t ks, h => by
  unfold ptOk at h
  obtain ⟨b, A, n, c, xs, rfl, _⟩ := h
  intro u hu
  obtain rfl := List.mem_singleton.1 hu
  rfl
mutual
theorem ptOk.keep (hk : Kept S w w') : ∀ {t : TreeD} {cs : List Value}, ptOk w S cs t → ptOk w' S cs t
 | .node r t ks, cs, h => by
  unfold ptOk at h ⊢
  obtain ⟨b, A, n, c, xs, rfl, hb, k0, k1, k2, k3, h1, h2, h3, h4⟩ := h
  exact ⟨b, A, n, c, xs, rfl, hb, hk _ _ hb k0, hk _ _ hb k1, hk _ _ hb k2, hk _ _ hb k3, h1, h2, h3.keep hk, ptsOk.keep hk h4⟩
theorem ptsOk.keep (hk : Kept S w w') : ∀ {ts : List TreeD} {xs : List Value}, ptsOk w S xs ts → ptsOk w' S xs ts
 | [], xs, h => by
  unfold ptsOk at h ⊢
  exact h
 | t :: ts, xs, h => by
  unfold ptsOk at h ⊢
  obtain ⟨cs, rest, rfl, h1, h2⟩ := h
  exact ⟨cs, rest, rfl, ptOk.keep hk h1, ptsOk.keep hk h2⟩
end
mutual
theorem ptOk.more (hS : ∀ b, S b → S' b) : ∀ {t : TreeD} {cs : List Value}, ptOk w S cs t → ptOk w S' cs t
 | .node r t ks, cs, h => by
  unfold ptOk at h ⊢
  obtain ⟨b, A, n, c, xs, rfl, hb, k0, k1, k2, k3, h1, h2, h3, h4⟩ := h
  exact ⟨b, A, n, c, xs, rfl, hS b hb, k0, k1, k2, k3, h1, h2, h3.more hS, ptsOk.more hS h4⟩
theorem ptsOk.more (hS : ∀ b, S b → S' b) : ∀ {ts : List TreeD} {xs : List Value}, ptsOk w S xs ts → ptsOk w S' xs ts
 | [], xs, h => by
  unfold ptsOk at h ⊢
  exact h
 | t :: ts, xs, h => by
  unfold ptsOk at h ⊢
  obtain ⟨cs, rest, rfl, h1, h2⟩ := h
  exact ⟨cs, rest, rfl, ptOk.more hS h1, ptsOk.more hS h2⟩
end
mutual
theorem ptOk.fit : ∀ {t : TreeD} {cs : List Value}, ptOk w S cs t → ptOk w (fun b => S b ∧ b < w.heap.size) cs t
 | .node r t ks, cs, h => by
  unfold ptOk at h ⊢
  obtain ⟨b, A, n, c, xs, rfl, hb, k0, k1, k2, k3, h1, h2, h3, h4⟩ := h
  exact ⟨b, A, n, c, xs, rfl, ⟨hb, cell_lt k0⟩, k0, k1, k2, k3, h1, h2, h3.fit (by decide), ptsOk.fit h4⟩
theorem ptsOk.fit : ∀ {ts : List TreeD} {xs : List Value}, ptsOk w S xs ts → ptsOk w (fun b => S b ∧ b < w.heap.size) xs ts
 | [], xs, h => by
  unfold ptsOk at h ⊢
  exact h
 | t :: ts, xs, h => by
  unfold ptsOk at h ⊢
  obtain ⟨cs, rest, rfl, h1, h2⟩ := h
  exact ⟨cs, rest, rfl, ptOk.fit h1, ptsOk.fit h2⟩
end
end
def RPt : Rep TreeD where
 size := 1
 ok := ptOk
 pos := by decide
 len := ptOk.len
 keep := fun h hk => ptOk.keep hk h
 more := fun h hS => ptOk.more hS h
 fit := ptOk.fit
 one := ptOk.one
section
variable {w : World} {S : Nat → Prop}
theorem ptsOk.cells : ∀ {ts : List TreeD} {xs : List Value}, ptsOk w S xs ts ↔ Cells RPt w S xs ts
 | [], xs => by unfold ptsOk Cells; exact Iff.rfl
 | t :: ts, xs => by
  unfold ptsOk Cells
  constructor
  · rintro ⟨cs, rest, e, h1, h2⟩; exact ⟨cs, rest, e, h1, ptsOk.cells.1 h2⟩
  rintro ⟨cs, rest, e, h1, h2⟩; exact ⟨cs, rest, e, h1, ptsOk.cells.2 h2⟩
theorem RPt.cells {t : TreeD} {cs : List Value} : RPt.ok w S cs t ↔ ∃ b A n c, cs = [.pointer (some ⟨b, 0, none⟩)] ∧ S b ∧ w.cell? ⟨b, 0, none⟩ = some (.int .i64 t.rule) ∧ w.cell? ⟨b, 1, none⟩ = some (.int .i64 t.term) ∧ w.cell? ⟨b, 2, none⟩ = some (.int .i64 (sizeT t : Int)) ∧ w.cell? ⟨b, 3, none⟩ = some (.slice A n c) ∧ Sl RPt w S A n c t.kids := by
 obtain ⟨r, x, ks⟩ := t
 show ptOk w S cs (.node r x ks) ↔ _
 unfold ptOk
 constructor
 ·
  rintro ⟨b, A, n, c, xs, rfl, hb, k0, k1, k2, k3, h1, h2, h3, h4⟩
  exact ⟨b, A, n, c, rfl, hb, k0, k1, k2, k3, xs, h1, h2, h3, ptsOk.cells.1 h4⟩
 rintro ⟨b, A, n, c, rfl, hb, k0, k1, k2, k3, xs, h1, h2, h3, h4⟩
 exact ⟨b, A, n, c, xs, rfl, hb, k0, k1, k2, k3, h1, h2, h3, ptsOk.cells.2 h4⟩
theorem pt_at {A : Option Addr} {n c k : Nat} {l : List TreeD} (h : Sl RPt w S A n c l) (hk : k < n) :
    ∃ (b off B : Nat) (t : TreeD), A = some ⟨b, off, none⟩ ∧ S b ∧ l[k]? = some t ∧ w.cell? ⟨b, off + k, none⟩ = some (.pointer (some ⟨B, 0, none⟩)) ∧ RPt.ok w S [.pointer (some ⟨B, 0, none⟩)] t := by
 obtain ⟨b, off, u, t, e, hS, hx, hok, hc⟩ := h.at_ rfl hk
 obtain ⟨B, _, _, _, e2, _⟩ := RPt.cells.1 hok
 injection e2 with e2 _
 subst e2
 exact ⟨b, off, B, t, e, hS, hx, hc, hok⟩
end
def UnfT (w : World) (S : Nat → Prop) : Prop := ∀ b, S b → ∃ cs ty, w.heap[b]? = some (.cells cs ty (0, 0))
theorem Own.drop {w : World} {base : Nat} {E : TypeId} {sz : Nat} {A : Option Addr} {n c : Nat} {xs : List Value} (h : Own w base E sz (.slice A (n + 1) c) (n + 1) xs) : Own w base E sz (.slice A n c) n (xs.take (n * sz)) := by
 rcases h with ⟨h1, h2⟩ | ⟨A', _, h2, _⟩
 ·
  rcases h2 with ⟨_, h2⟩ | ⟨g, cap, cur, e, hb, hh, hc, hm, hs, hx⟩
  · omega
  injection e with e1 e2 e3
  subst e1
  subst e3
  refine .inl ⟨by rw [List.length_take, h1]; have : n * sz ≤ (n + 1) * sz := Nat.mul_le_mul_right _ (by omega); omega, .inr ⟨g, c, cur, rfl, hb, hh, by omega, hm, hs, ?_⟩⟩
  rw [← hx, List.take_take]
  congr 1
  have : n * sz ≤ (n + 1) * sz := Nat.mul_le_mul_right _ (by omega)
  omega
 omega
theorem Cells.front {α : Type} {R : Rep α} {w : World} {S : Nat → Prop} {x : α} : ∀ {l : List α} {xs : List Value}, Cells R w S xs (l ++ [x]) → Cells R w S (xs.take (l.length * R.size)) l
 | [], xs, h => by
  rw [List.length_nil, Nat.zero_mul, List.take_zero]
  exact Cells.nil
 | a :: l, xs, h => by
  obtain ⟨cs, rest, rfl, h1, h2⟩ := h
  refine ⟨cs, rest.take (l.length * R.size), ?_, h1, Cells.front h2⟩
  rw [List.take_append, List.length_cons, Nat.succ_mul, R.len h1, List.take_of_length_le (by rw [R.len h1]; omega)]
  congr 1
  congr 1
  omega
end Go.Proofs.YtjnbjdbndbbanaaGreatDoor
namespace Go.Proofs.YtjnbjdbndbbanaaGreatDoor
open Go.RowKit
def cmpI (x y : Int) : Int := if x < y then -1 else if y < x then 1 else 0
set_option maxHeartbeats 1000000 in
theorem cmpIntC (x y : Int) (w : World) : Calls Tryz.prog 37 #[.int .i64 x, .int .i64 y] w fun e w' => e = .returned (.int .i64 (cmpI x y)) ∧ w = w' := by
 by_cases h1 : x < y
 ·
  go_enter Tryz.func37, Tryz.ntmps37
  go_wp2
  go_ret
  exact ⟨ret_int (by simp [cmpI, h1]), rfl⟩
 by_cases h2 : y < x
 ·
  go_enter Tryz.func37, Tryz.ntmps37
  go_wp2
  go_ret
  exact ⟨ret_int (by simp [cmpI, h1, h2]), rfl⟩
 go_enter Tryz.func37, Tryz.ntmps37
 go_wp2
 go_ret
 exact ⟨ret_int (by unfold cmpI; rw [if_neg (by omega), if_neg (by omega)]), rfl⟩
def cmpL : List Int → List Int → Int
 | [], [] => 0
 | [], _ :: _ => -1
 | _ :: _, [] => 1
 | x :: l, y :: m => if cmpI x y = 0 then cmpL l m else cmpI x y
theorem cmpL_drop {l m : List Int} {k : Nat} {x y : Int} (h1 : l[k]? = some x) (h2 : m[k]? = some y) (hc : cmpI x y = 0) : cmpL (l.drop k) (m.drop k) = cmpL (l.drop (k + 1)) (m.drop (k + 1)) := by
 obtain ⟨a1, rfl⟩ := List.getElem?_eq_some_iff.1 h1
 obtain ⟨a2, rfl⟩ := List.getElem?_eq_some_iff.1 h2
 rw [List.drop_eq_getElem_cons a1, List.drop_eq_getElem_cons a2, cmpL, if_pos hc]
theorem cmpL_stop {l m : List Int} {k : Nat} {x y : Int} (h1 : l[k]? = some x) (h2 : m[k]? = some y) (hc : cmpI x y ≠ 0) : cmpL (l.drop k) (m.drop k) = cmpI x y := by
 obtain ⟨a1, rfl⟩ := List.getElem?_eq_some_iff.1 h1
 obtain ⟨a2, rfl⟩ := List.getElem?_eq_some_iff.1 h2
 rw [List.drop_eq_getElem_cons a1, List.drop_eq_getElem_cons a2, cmpL, if_neg hc]
set_option maxHeartbeats 1000000 in
theorem compareInt (A1 A2 : Option Addr) (n1 c1 n2 c2 : Nat) (S1 S2 : Nat → Prop) (l1 l2 : List Int) (w : World) (hr1 : Rd w S1 1 A1 n1 (l1.map (Value.int .i64))) (hr2 : Rd w S2 1 A2 n2 (l2.map (Value.int .i64))) (hn : n1 ≤ 1000000000000) :
    Calls Tryz.prog 38 #[.slice A1 n1 c1, .slice A2 n2 c2] w fun e w' => e = .returned (.int .i64 (cmpL l1 l2)) ∧ w = w' := by
 have hl1 : l1.length = n1 := by simpa using hr1.1
 have hl2 : l2.length = n2 := by simpa using hr2.1
 have HL1 := Lib.hid hl1
 have HL2 := Lib.hid hl2
 have HR1 := Lib.hid hr1
 have HR2 := Lib.hid hr2
 clear hl1 hl2 hr1 hr2
 go_enter Tryz.func38, Tryz.ntmps38
 go_wp2_with fail
 go_loop [11] (fun i => ∃ k : Nat, k ≤ n1 ∧ k ≤ n2 ∧ i = .int .i64 k ∧ cmpL l1 l2 = cmpL (l1.drop k) (l2.drop k)) (fun i => n1 - (intOf i).toNat)
 case atStart => exact ⟨0, Nat.zero_le _, Nat.zero_le _, rfl, rfl⟩
 case round =>
  obtain ⟨k, hk1, hk2, rfl, heq⟩ := hrel
  have HE := Lib.hid heq
  clear heq
  by_cases hlt : k < n1
  ·
   obtain ⟨b1, o1, x, rfl, _, hx, hcell1⟩ := HR1.out.int_at hlt
   have HX := Lib.hid hx
   clear hx
   by_cases hlt2 : k < n2
   ·
    obtain ⟨b2, o2, y, rfl, _, hy, hcell2⟩ := HR2.out.int_at hlt2
    have HY := Lib.hid hy
    clear hy
    by_cases hc : cmpI x y = 0
    ·
     have HC := Lib.hid hc
     clear hc
     go_wp2_with (go_at_call 37; refine (cmpIntC _ _ _).mono ?_; rintro e w' ⟨rfl, rfl⟩; rw [HC.out])
     go_round
     case rel => exact ⟨k + 1, by omega, by omega, by go_num, by rw [HE.out, cmpL_drop HX.out HY.out HC.out]⟩
     case measure => simp [intOf]; omega
    have hcb : (cmpI x y != 0) = true := by simpa using hc
    have HF := Lib.hid (cmpL_stop HX.out HY.out hc)
    go_wp2_with (go_at_call 37; refine (cmpIntC _ _ _).mono ?_; rintro e w' ⟨rfl, rfl⟩)
    go_ret
    exact ⟨ret_int (by rw [HE.out, HF.out]), rfl⟩
   have hf : cmpL (l1.drop k) (l2.drop k) = 1 := by
    obtain ⟨a1, rfl⟩ := List.getElem?_eq_some_iff.1 HX.out
    rw [List.drop_eq_getElem_cons a1, List.drop_of_length_le (l := l2) (by rw [HL2.out]; omega), cmpL]
   have HF := Lib.hid hf
   clear hf
   go_wp2_with fail
   go_ret
   exact ⟨ret_int (by rw [HE.out, HF.out]), rfl⟩
  obtain rfl : k = n1 := by omega
  have hd : l1.drop k = [] := List.drop_of_length_le (by rw [HL1.out]; omega)
  by_cases hlt2 : k < n2
  ·
   have hf : cmpL (l1.drop k) (l2.drop k) = -1 := by rw [hd, List.drop_eq_getElem_cons (by rw [HL2.out]; omega), cmpL]
   have HF := Lib.hid hf
   clear hf hd
   go_wp2_with fail
   go_ret
   exact ⟨ret_int (by rw [HE.out, HF.out]), rfl⟩
  have hf : cmpL (l1.drop k) (l2.drop k) = 0 := by rw [hd, List.drop_of_length_le (l := l2) (by rw [HL2.out]; omega), cmpL]
  have HF := Lib.hid hf
  clear hf hd
  go_wp2_with fail
  go_ret
  exact ⟨ret_int (by rw [HE.out, HF.out]), rfl⟩
theorem Below.drewN' {B : Nat} {a w : World} (h : Below B a w) (n : Nat) : Below B a (w.drewN n) := ⟨h.os, h.tape, h.output, h.size, h.block⟩
theorem drewN_below {B : Nat} (w : World) (n : Nat) : Below B w (w.drewN n) := ⟨rfl, rfl, rfl, Nat.le_refl _, fun _ _ => rfl⟩
set_option maxHeartbeats 1000000 in
theorem equalInt (A1 A2 : Option Addr) (n1 c1 n2 c2 : Nat) (S1 S2 : Nat → Prop) (l1 l2 : List Int) (w : World) (hr1 : Rd w S1 1 A1 n1 (l1.map (Value.int .i64))) (hr2 : Rd w S2 1 A2 n2 (l2.map (Value.int .i64))) (hn : n1 ≤ 1000000000000) (hn2 : n2 ≤ 1000000000000) :
    Calls Tryz.prog 96 #[.slice A1 n1 c1, .slice A2 n2 c2] w fun e w' => e = .returned (.bool (l1 == l2)) ∧ ∃ d, w' = w.drewN d := by
 have hl1 : l1.length = n1 := by simpa using hr1.1
 have hl2 : l2.length = n2 := by simpa using hr2.1
 have HL1 := Lib.hid hl1
 have HL2 := Lib.hid hl2
 have HR1 := Lib.hid hr1
 have HR2 := Lib.hid hr2
 clear hl1 hl2 hr1 hr2
 by_cases hne : n1 = n2
 ·
  subst hne
  go_enter Tryz.func96, Tryz.ntmps96
  go_wp2_with fail
  go_loopw [13] (fun i wr => ∃ k d : Nat, k ≤ n1 ∧ i = .int .i64 k ∧ wr = w.drewN d ∧ l1.take k = l2.take k) (fun i _ => n1 - (intOf i).toNat)
  case atStart => exact ⟨0, 0, Nat.zero_le _, rfl, rfl, rfl⟩
  case round =>
   obtain ⟨k, d, hk, rfl, rfl, heq⟩ := hrel
   have HE := Lib.hid heq
   clear heq
   by_cases hlt : k < n1
   ·
    obtain ⟨b1, off1, x1, rfl, _, hx1, hcell1⟩ := HR1.out.int_at hlt
    obtain ⟨b2, off2, x2, rfl, _, hx2, hcell2⟩ := HR2.out.int_at hlt
    have HX1 := Lib.hid hx1
    have HX2 := Lib.hid hx2
    have hb1 : (k : Int) < (n1 : Int) := by omega
    clear hx1 hx2
    by_cases hxe : x1 = x2
    ·
     subst hxe
     go_wp2_with fail
     go_quiet (fail)
     go_wp2_with fail
     go_roundw
     case rel => exact ⟨k + 1, _, by omega, by go_num, rfl, by rw [int_step HX1.out, int_step HX2.out, HE.out]⟩
     case measure => simp [intOf]; omega
    have hxb : (x1 != x2) = true := by simpa using hxe
    go_wp2_with fail
    go_quiet (fail)
    go_wp2_with fail
    go_ret
    have he : (l1 == l2) = false := by
     simp only [beq_eq_false_iff_ne]
     rintro rfl
     have h := HX1.out.symm.trans HX2.out
     injection h with h
     exact hxe h
    exact ⟨ret_bool he.symm, _, World.drewN_drewN _ _ _⟩
   obtain rfl : k = n1 := by omega
   go_wp2_with fail
   go_ret
   have he := HE.out
   rw [List.take_of_length_le (by rw [HL1.out]; omega), List.take_of_length_le (by rw [HL2.out]; omega)] at he
   subst he
   exact ⟨ret_bool (by simp), d, rfl⟩
 have hnb : ((n1 : Int) != (n2 : Int)) = true := by simp; omega
 go_enter Tryz.func96, Tryz.ntmps96
 go_wp2_with fail
 go_ret
 have he : (l1 == l2) = false := by
  simp only [beq_eq_false_iff_ne]
  rintro rfl
  exact hne (HL1.out.symm.trans HL2.out)
 exact ⟨ret_bool he.symm, 0, rfl⟩
end Go.Proofs.YtjnbjdbndbbanaaGreatDoor
