/- ApxOf4 -/
import Derived.Laws.EntriesVeiled
import Derived.Test.YtocbkccchnbmaaaGreatAw14
import Derived.Test.YtocbkccchnbmaaaGreatAw33
import Derived.Test.YtocbkccchnbmaaaGreatAw37
namespace Go.Proofs.YtocbkccchnbmaaaGreat
open Go.RowKit Go.Maps
theorem entersRepeat : ∀ (args : Array Value) (u : World), (callFunc 11 args).run Tryz.prog u = .ok (.enter 11 args) u := enters_of Tryz.func11 (by kernel_rfl) rfl
theorem SlType.makeS {P : Program} {T E s bytes : Nat} {z : Value} (hT : SlType P T E s bytes z) (n : Nat) (hb : bytes * n ≤ 281474976710656) (h63 : n ≤ 9223372036854775807) (w : World) :
    (Instr.makeSlice T (.int .i64 n) (.int .i64 n)).run P w = .ok (.slice (some ⟨w.heap.size, 0, none⟩) n n) (w.alloc (.cells (madeCells z.cells (n * s)) E)) := by
 obtain ⟨i, hi, hz0, hz1, hz2⟩ := info_parts hT.info
 have h := run_make (P := P) w T E i z hT.under hi hz0 .i64 .i64 n n (by omega) (by omega) (by
  rw [hz2]
  have : ((bytes * n : Nat) : Int) ≤ 281474976710656 := by omega
  rwa [Int.natCast_mul] at this) (by omega)
 rw [hz1, Int.toNat_natCast] at h
 exact h
def r4dst (i : Nat) : Nat := if i = 12 then 6 else 24 + i
structure R4 (W0 : World) (Tm N st : Int) (AR : Option Addr) (nR cR : Nat) (Nn Bg : Nat) (f : Nat → Bool) (g : Nat → Value) (w : World) : Prop where
 below : Below W0.heap.size W0 w
 o0 : f 0 = true → g 24 = .agg #[.int .i64 Tm, .int .i64 N, .int .i64 st, .slice AR nR cR]
 o1 : f 1 = true → g 25 = .pointer (some ⟨Bg, 1, none⟩)
 o2 : f 2 = true → g 26 = .int .i64 N
 o3 : f 3 = true → ∃ B, g 27 = .slice (some ⟨B, 0, none⟩) Nn Nn ∧ W0.heap.size ≤ B ∧ w.heap[B]? = some (.cells (madeCells #[.int .i64 0, .slice none 0 0] (Nn * 2)) 57 (0, 0))
 o4 : f 4 = true → ∃ B, g 28 = .slice (some ⟨B, 0, none⟩) 1 1 ∧ w.cell? ⟨B, 0, none⟩ = some (.int .i64 (-1))
 o5 : f 5 = true → g 29 = .pointer (some ⟨Bg, 1, none⟩)
 o6 : f 6 = true → g 30 = .int .i64 N
 o7 : f 7 = true → Own w W0.heap.size 3 1 (g 31) Nn ((List.replicate Nn (-1)).map (Value.int .i64))
 o8 : f 8 = true → ∃ B, g 32 = .map (some B) ∧ W0.heap.size ≤ B ∧ w.heap[B]? = some (.map #[] 0)
 o9 : f 9 = true → ∃ B, g 33 = .map (some B) ∧ W0.heap.size ≤ B ∧ w.heap[B]? = some (.map #[] 0)
 ne : f 8 = true → f 9 = true → g 32 ≠ g 33
 o10 : f 10 = true → g 34 = .agg #[.int .i64 Tm, .int .i64 N, .int .i64 st, .slice AR nR cR, g 27, g 31, .int .i64 0, g 32, g 33]
 o11 : f 11 = true → ∃ B, g 35 = .pointer (some ⟨B, 0, none⟩) ∧ W0.heap.size ≤ B ∧ w.heap[B]? = some (.cells #[.int .i64 Tm, .int .i64 N, .int .i64 st, .slice AR nR cR, g 27, g 31, .int .i64 0, g 32, g 33] 54 (0, 0))
 o12 : f 12 = true → ∃ B, g 6 = .pointer (some ⟨B, 0, none⟩) ∧ W0.heap.size ≤ B ∧ w.heap[B]? = some (.cells #[.pointer none] 48 (0, 0))
 d10 : f 10 = true → f 0 = true ∧ f 3 = true ∧ f 7 = true ∧ f 8 = true ∧ f 9 = true
 d11 : f 11 = true → f 10 = true
section
variable {W0 w w' : World} {Tm N st : Int} {AR : Option Addr} {nR cR Nn Bg : Nat} {f : Nat → Bool} {g : Nat → Value}
theorem upd_old {α : Type} {f : Nat → α} {i j : Nat} {x : α} (h : j ≠ i) : (fun q => if q = i then x else f q) j = f j := by simp [h]
theorem upd_new {α : Type} {f : Nat → α} {i : Nat} {x : α} : (fun q => if q = i then x else f q) i = x := by simp
theorem R4.step (h : R4 W0 Tm N st AR nR cR Nn Bg f g w) (i : Nat) (hi13 : i < 13) (hi : f i = false) (hb : Below w.heap.size w w') (v : Value)
    (n0 : i = 0 → v = .agg #[.int .i64 Tm, .int .i64 N, .int .i64 st, .slice AR nR cR] := by intro e; omega)
    (n1 : i = 1 → v = .pointer (some ⟨Bg, 1, none⟩) := by intro e; omega)
    (n2 : i = 2 → v = .int .i64 N := by intro e; omega)
    (n3 : i = 3 → ∃ B, v = .slice (some ⟨B, 0, none⟩) Nn Nn ∧ W0.heap.size ≤ B ∧ w'.heap[B]? = some (.cells (madeCells #[.int .i64 0, .slice none 0 0] (Nn * 2)) 57 (0, 0)) := by intro e; omega)
    (n4 : i = 4 → ∃ B, v = .slice (some ⟨B, 0, none⟩) 1 1 ∧ w'.cell? ⟨B, 0, none⟩ = some (.int .i64 (-1)) := by intro e; omega)
    (n5 : i = 5 → v = .pointer (some ⟨Bg, 1, none⟩) := by intro e; omega)
    (n6 : i = 6 → v = .int .i64 N := by intro e; omega)
    (n7 : i = 7 → Own w' W0.heap.size 3 1 v Nn ((List.replicate Nn (-1)).map (Value.int .i64)) := by intro e; omega)
    (n8 : i = 8 → v = .map (some w.heap.size) ∧ w'.heap[w.heap.size]? = some (.map #[] 0) := by intro e; omega)
    (n9 : i = 9 → v = .map (some w.heap.size) ∧ w'.heap[w.heap.size]? = some (.map #[] 0) := by intro e; omega)
    (n10 : i = 10 → (f 0 = true ∧ f 3 = true ∧ f 7 = true ∧ f 8 = true ∧ f 9 = true) ∧ v = .agg #[.int .i64 Tm, .int .i64 N, .int .i64 st, .slice AR nR cR, g 27, g 31, .int .i64 0, g 32, g 33] := by intro e; omega)
    (n11 : i = 11 → f 10 = true ∧ ∃ B, v = .pointer (some ⟨B, 0, none⟩) ∧ W0.heap.size ≤ B ∧ w'.heap[B]? = some (.cells #[.int .i64 Tm, .int .i64 N, .int .i64 st, .slice AR nR cR, g 27, g 31, .int .i64 0, g 32, g 33] 54 (0, 0)) := by intro e; omega)
    (n12 : i = 12 → ∃ B, v = .pointer (some ⟨B, 0, none⟩) ∧ W0.heap.size ≤ B ∧ w'.heap[B]? = some (.cells #[.pointer none] 48 (0, 0)) := by intro e; omega) :
    R4 W0 Tm N st AR nR cR Nn Bg (fun q => if q = i then true else f q) (fun q => if q = r4dst i then v else g q) w' := by
 have hsz := hb.size
 have hW := h.below.size
 have hne : ∀ j, j < 13 → j ≠ i → r4dst j ≠ r4dst i := fun j h1 h2 e => by
  unfold r4dst at e
  split at e <;> split at e <;> omega
 have s : ∀ j, j < 13 → j ≠ i → (fun q => if q = r4dst i then v else g q) (r4dst j) = g (r4dst j) := fun j h1 h2 => upd_old (hne j h1 h2)
 have ff : ∀ j, (fun q => if q = i then true else f q) j = true → j = i ∨ f j = true := fun j hj => by
  by_cases e : j = i
  ·
   exact .inl e
  ·
   rw [upd_old e] at hj; exact .inr hj
 have fb : ∀ j, f j = true → j ≠ i := fun j hj e => by rw [e, hi] at hj; cases hj
 have fk : ∀ j, f j = true → (fun q => if q = i then true else f q) j = true := fun j hj => by rw [upd_old (fb j hj)]; exact hj
 have nw : ∀ j, j = i → (fun q => if q = r4dst i then v else g q) (r4dst j) = v := fun j e => by subst e; exact upd_new
 have blk : ∀ {B : Nat} {o : Obj}, w.heap[B]? = some o → w'.heap[B]? = some o := fun hB => (hb.block _ (heap_lt hB)).trans hB
 generalize hf' : (fun q => if q = i then true else f q) = f' at *
 generalize hg' : (fun q => if q = r4dst i then v else g q) = g' at *
 have e27 : f 3 = true → g' 27 = g 27 := fun hj => s 3 (by omega) (fb 3 hj)
 have e31 : f 7 = true → g' 31 = g 31 := fun hj => s 7 (by omega) (fb 7 hj)
 have e32 : f 8 = true → g' 32 = g 32 := fun hj => s 8 (by omega) (fb 8 hj)
 have e33 : f 9 = true → g' 33 = g 33 := fun hj => s 9 (by omega) (fb 9 hj)
 refine ⟨h.below.trans (hb.mono hW), fun hj => ?_, fun hj => ?_, fun hj => ?_, fun hj => ?_, fun hj => ?_, fun hj => ?_, fun hj => ?_, fun hj => ?_, fun hj => ?_, fun hj => ?_, fun hj hk => ?_, fun hj => ?_, fun hj => ?_, fun hj => ?_, fun hj => ?_, fun hj => ?_⟩
 ·
  rcases ff 0 hj with e | e
  ·
   exact (nw 0 e).trans (n0 e.symm)
  ·
   exact (s 0 (by omega) (fb 0 e)).trans (h.o0 e)
 ·
  rcases ff 1 hj with e | e
  ·
   exact (nw 1 e).trans (n1 e.symm)
  ·
   exact (s 1 (by omega) (fb 1 e)).trans (h.o1 e)
 ·
  rcases ff 2 hj with e | e
  ·
   exact (nw 2 e).trans (n2 e.symm)
  ·
   exact (s 2 (by omega) (fb 2 e)).trans (h.o2 e)
 ·
  rcases ff 3 hj with e | e
  ·
   obtain ⟨B, h1, h2⟩ := n3 e.symm
   exact ⟨B, (nw 3 e).trans h1, h2⟩
  ·
   obtain ⟨B, h1, h2, h3⟩ := h.o3 e
   exact ⟨B, (e27 e).trans h1, h2, blk h3⟩
 ·
  rcases ff 4 hj with e | e
  ·
   obtain ⟨B, h1, h2⟩ := n4 e.symm
   exact ⟨B, (nw 4 e).trans h1, h2⟩
  ·
   obtain ⟨B, h1, h2⟩ := h.o4 e
   exact ⟨B, (s 4 (by omega) (fb 4 e)).trans h1, (hb.cell (cell_lt h2)).trans h2⟩
 ·
  rcases ff 5 hj with e | e
  ·
   exact (nw 5 e).trans (n5 e.symm)
  ·
   exact (s 5 (by omega) (fb 5 e)).trans (h.o5 e)
 ·
  rcases ff 6 hj with e | e
  ·
   exact (nw 6 e).trans (n6 e.symm)
  ·
   exact (s 6 (by omega) (fb 6 e)).trans (h.o6 e)
 ·
  rcases ff 7 hj with e | e
  ·
   have h1 : g' 31 = v := nw 7 e
   rw [h1]; exact n7 e.symm
  ·
   rw [e31 e]
   exact (h.o7 e).below hb (Nat.le_refl _)
 ·
  rcases ff 8 hj with e | e
  ·
   obtain ⟨h1, h2⟩ := n8 e.symm
   exact ⟨_, (nw 8 e).trans h1, hW, h2⟩
  ·
   obtain ⟨B, h1, h2, h3⟩ := h.o8 e
   exact ⟨B, (e32 e).trans h1, h2, blk h3⟩
 ·
  rcases ff 9 hj with e | e
  ·
   obtain ⟨h1, h2⟩ := n9 e.symm
   exact ⟨_, (nw 9 e).trans h1, hW, h2⟩
  ·
   obtain ⟨B, h1, h2, h3⟩ := h.o9 e
   exact ⟨B, (e33 e).trans h1, h2, blk h3⟩
 ·
  rcases ff 8 hj with e | e
  ·
   rcases ff 9 hk with e' | e'
   ·
    omega
   ·
    have h1 : g' 32 = v := nw 8 e
    obtain ⟨B, h2, _, h3⟩ := h.o9 e'
    rw [h1, (n8 e.symm).1, e33 e', h2]
    intro e2
    injection e2 with e2
    injection e2 with e2
    have := heap_lt h3
    omega
  ·
   rcases ff 9 hk with e' | e'
   ·
    have h1 : g' 33 = v := nw 9 e'
    obtain ⟨B, h2, _, h3⟩ := h.o8 e
    rw [h1, (n9 e'.symm).1, e32 e, h2]
    intro e2
    injection e2 with e2
    injection e2 with e2
    have := heap_lt h3
    omega
   ·
    rw [e32 e, e33 e']
    exact h.ne e e'
 ·
  rcases ff 10 hj with e | e
  ·
   obtain ⟨⟨_, a3, a7, a8, a9⟩, h1⟩ := n10 e.symm
   have h2 : g' 34 = v := nw 10 e
   rw [h2, h1, e27 a3, e31 a7, e32 a8, e33 a9]
  ·
   obtain ⟨_, a3, a7, a8, a9⟩ := h.d10 e
   have h2 : g' 34 = g 34 := s 10 (by omega) (fb 10 e)
   rw [h2, h.o10 e, e27 a3, e31 a7, e32 a8, e33 a9]
 ·
  rcases ff 11 hj with e | e
  ·
   obtain ⟨a10, B, h1, h2, h3⟩ := n11 e.symm
   obtain ⟨_, a3, a7, a8, a9⟩ := h.d10 a10
   rw [e27 a3, e31 a7, e32 a8, e33 a9]
   exact ⟨B, (nw 11 e).trans h1, h2, h3⟩
  ·
   obtain ⟨B, h1, h2, h3⟩ := h.o11 e
   obtain ⟨_, a3, a7, a8, a9⟩ := h.d10 (h.d11 e)
   rw [e27 a3, e31 a7, e32 a8, e33 a9]
   exact ⟨B, (s 11 (by omega) (fb 11 e)).trans h1, h2, blk h3⟩
 ·
  rcases ff 12 hj with e | e
  ·
   obtain ⟨B, h1, h2, h3⟩ := n12 e.symm
   exact ⟨B, (nw 12 e).trans h1, h2, h3⟩
  ·
   obtain ⟨B, h1, h2, h3⟩ := h.o12 e
   exact ⟨B, (s 12 (by omega) (fb 12 e)).trans h1, h2, blk h3⟩
 ·
  rcases ff 10 hj with e | e
  ·
   obtain ⟨⟨a0, a3, a7, a8, a9⟩, _⟩ := n10 e.symm
   exact ⟨fk _ a0, fk _ a3, fk _ a7, fk _ a8, fk _ a9⟩
  ·
   obtain ⟨a0, a3, a7, a8, a9⟩ := h.d10 e
   exact ⟨fk _ a0, fk _ a3, fk _ a7, fk _ a8, fk _ a9⟩
 ·
  rcases ff 11 hj with e | e
  ·
   exact fk _ (n11 e.symm).1
  ·
   exact fk _ (h.d11 e)
end
theorem dep_of {P : Region.Mode} {oi : Oper} {f : Nat → Bool} (hd : ∀ e ∈ oi.after, Region.binds P e = true → f e.on = true) (j : Nat) (h : (oi.after.any fun e => e.on == j && Region.binds P e) = true) : f j = true := by
 obtain ⟨i, hi, h2⟩ := Array.any_eq_true.1 h
 have he : oi.after[i] ∈ oi.after := Array.getElem_mem hi
 generalize oi.after[i] = e at h2 he
 simp only [Bool.and_eq_true, beq_iff_eq] at h2
 rw [← h2.1]
 exact hd e he h2.2
abbrev r4D : List Nat := [24, 25, 26, 27, 28, 29, 30, 31, 32, 33, 34, 35, 6]
def I4 (b : Act) (W0 : World) (Tm N st : Int) (AR : Option Addr) (nR cR : Nat) (Nn Bg : Nat) (f : Nat → Bool) (a : Act) (w : World) : Prop :=
 Slots b r4D a ∧ R4 W0 Tm N st AR nR cR Nn Bg f (fun j => a.tmps.getD j undef) w
theorem I4.put {b : Act} {W0 w' : World} {Tm N st : Int} {AR : Option Addr} {nR cR Nn Bg : Nat} {f' : Nat → Bool} {a : Act} {d : Nat} {v : Value} (hs : Slots b r4D a) (hsz : b.tmps.size = 138) (hd : d ∈ r4D) (h : R4 W0 Tm N st AR nR cR Nn Bg f' (fun q => if q = d then v else a.tmps.getD q undef) w') : I4 b W0 Tm N st AR nR cR Nn Bg f' (a.put (some d) v) w' := by
 have hd2 : d < 138 := by
  simp only [r4D, List.mem_cons, List.not_mem_nil, or_false] at hd
  omega
 refine ⟨hs.put hd (by omega) v, ?_⟩
 have : (fun j => (a.put (some d) v).tmps.getD j undef) = fun q => if q = d then v else a.tmps.getD q undef := by
  funext j
  exact getD_put a d v (by rw [hs.size]; omega) j
 rw [this]
 exact h
structure Mem4 (W0 : World) (Tm N st : Int) (AR : Option Addr) (nR cR : Nat) (Nn : Nat) (B3 B7 c7 B8 B9 Bb Bp : Nat) (w : World) : Prop where
 below : Below W0.heap.size W0 w
 of : w.heap[B3]? = some (.cells (madeCells #[.int .i64 0, .slice none 0 0] (Nn * 2)) 57 (0, 0))
 sz : Own w W0.heap.size 3 1 (.slice (some ⟨B7, 0, none⟩) Nn c7) Nn ((List.replicate Nn (-1)).map (Value.int .i64))
 e8 : w.heap[B8]? = some (.map #[] 0)
 e9 : w.heap[B9]? = some (.map #[] 0)
 ne : B8 ≠ B9
 bb : w.heap[Bb]? = some (.cells #[.int .i64 Tm, .int .i64 N, .int .i64 st, .slice AR nR cR, .slice (some ⟨B3, 0, none⟩) Nn Nn, .slice (some ⟨B7, 0, none⟩) Nn c7, .int .i64 0, .map (some B8), .map (some B9)] 54 (0, 0))
 bp : w.heap[Bp]? = some (.cells #[.pointer (some ⟨Bb, 0, none⟩)] 48 (0, 0))
 low : W0.heap.size ≤ B3 ∧ W0.heap.size ≤ B7 ∧ W0.heap.size ≤ B8 ∧ W0.heap.size ≤ B9 ∧ W0.heap.size ≤ Bb ∧ W0.heap.size ≤ Bp
def Fin4 (W0 : World) (Tm N st : Int) (AR : Option Addr) (nR cR : Nat) (Nn Bg : Nat) (g : Nat → Value) (w : World) : Prop :=
 ∃ B3 B4 B7 c7 B8 B9 Bb Bp : Nat, (g 24 = .agg #[.int .i64 Tm, .int .i64 N, .int .i64 st, .slice AR nR cR] ∧ g 25 = .pointer (some ⟨Bg, 1, none⟩) ∧ g 26 = .int .i64 N ∧ g 27 = .slice (some ⟨B3, 0, none⟩) Nn Nn ∧ g 28 = .slice (some ⟨B4, 0, none⟩) 1 1 ∧ g 29 = .pointer (some ⟨Bg, 1, none⟩) ∧ g 30 = .int .i64 N ∧ g 31 = .slice (some ⟨B7, 0, none⟩) Nn c7 ∧ g 32 = .map (some B8) ∧ g 33 = .map (some B9) ∧
  g 34 = .agg #[.int .i64 Tm, .int .i64 N, .int .i64 st, .slice AR nR cR, .slice (some ⟨B3, 0, none⟩) Nn Nn, .slice (some ⟨B7, 0, none⟩) Nn c7, .int .i64 0, .map (some B8), .map (some B9)] ∧ g 35 = .pointer (some ⟨Bb, 0, none⟩) ∧ g 6 = .pointer (some ⟨Bp, 0, none⟩)) ∧ Mem4 W0 Tm N st AR nR cR Nn B3 B7 c7 B8 B9 Bb Bp w
theorem R4.fin {W0 w : World} {Tm N st : Int} {AR : Option Addr} {nR cR Nn Bg : Nat} {f : Nat → Bool} {g : Nat → Value} (h : R4 W0 Tm N st AR nR cR Nn Bg f g w) (hN : 1 ≤ Nn) (hf : ∀ j, j < 13 → f j = true) :
    ∃ Bb Bp, g 35 = .pointer (some ⟨Bb, 0, none⟩) ∧ g 6 = .pointer (some ⟨Bp, 0, none⟩) ∧ w.cell? ⟨Bp, 0, none⟩ = some (.pointer none) ∧ w.frozen? ⟨Bp, 0, none⟩ = false ∧ Fin4 W0 Tm N st AR nR cR Nn Bg g (w.setCell ⟨Bp, 0, none⟩ (.pointer (some ⟨Bb, 0, none⟩))) := by
 obtain ⟨B3, h27, l3, b3⟩ := h.o3 (hf 3 (by omega))
 obtain ⟨B4, h28, _⟩ := h.o4 (hf 4 (by omega))
 have ho7 := h.o7 (hf 7 (by omega))
 obtain ⟨A7, c7, h31, _⟩ := ho7.form
 rw [h31] at ho7
 obtain ⟨B7, rfl, l7, cur, hb7⟩ : ∃ B7, A7 = some ⟨B7, 0, none⟩ ∧ W0.heap.size ≤ B7 ∧ ∃ cur, w.heap[B7]? = some (.cells cur 3 (0, 0)) := by
  rcases ho7 with ⟨_, ⟨_, h2⟩ | ⟨g', cap, cur, e, hb, hh, _⟩⟩ | ⟨_, _, h2, _⟩
  ·
   omega
  ·
   injection e with e1 _ _
   exact ⟨g', e1, hb, cur, hh⟩
  ·
   omega
 obtain ⟨B8, h32, l8, b8⟩ := h.o8 (hf 8 (by omega))
 obtain ⟨B9, h33, l9, b9⟩ := h.o9 (hf 9 (by omega))
 have hne := h.ne (hf 8 (by omega)) (hf 9 (by omega))
 have h34 := h.o10 (hf 10 (by omega))
 obtain ⟨Bb, h35, lb, bb⟩ := h.o11 (hf 11 (by omega))
 obtain ⟨Bp, h6, lp, bp⟩ := h.o12 (hf 12 (by omega))
 rw [h27, h31, h32, h33] at h34 bb
 rw [h32, h33] at hne
 have n3 : B3 ≠ Bp := fun e => by rw [e, bp] at b3; simp at b3
 have n7 : B7 ≠ Bp := fun e => by rw [e, bp] at hb7; simp at hb7
 have n8 : B8 ≠ Bp := fun e => by rw [e, bp] at b8; simp at b8
 have n9 : B9 ≠ Bp := fun e => by rw [e, bp] at b9; simp at b9
 have nb : Bb ≠ Bp := fun e => by rw [e, bp] at bb; simp at bb
 have hset : ∀ {B : Nat} {o : Obj}, B ≠ Bp → w.heap[B]? = some o → (w.setCell ⟨Bp, 0, none⟩ (.pointer (some ⟨Bb, 0, none⟩))).heap[B]? = some o := fun hn hb => (Below.heap_setCell _ _ _ _ hn).trans hb
 refine ⟨Bb, Bp, h35, h6, by simp [World.cell?, bp], by simp [World.frozen?, bp], B3, B4, B7, c7, B8, B9, Bb, Bp, ⟨h.o0 (hf 0 (by omega)), h.o1 (hf 1 (by omega)), h.o2 (hf 2 (by omega)), h27, h28, h.o5 (hf 5 (by omega)), h.o6 (hf 6 (by omega)), h31, h32, h33, h34, h35, h6⟩, ?_⟩
 refine ⟨h.below.setCell lp _, hset n3 b3, ho7.sameB fun g' e => ?_, hset n8 b8, hset n9 b9, fun e => hne (by rw [e]), hset nb bb, ?_, l3, l7, l8, l9, lb, lp⟩
 ·
  refine Below.heap_setCell _ _ _ _ fun e2 => n7 ?_
  have e3 : B7 = g' := by
   cases c7 with
   | zero => cases e
   | succ c => exact Option.some.inj e
  rw [e3]
  exact e2
 ·
  have := blk_set bp 0 (.pointer (some ⟨Bb, 0, none⟩))
  simpa using this
def I4e (b : Act) (W0 : World) (Tm N st : Int) (AR : Option Addr) (nR cR : Nat) (Nn Bg : Nat) (f : Nat → Bool) (a : Act) (w : World) : Prop :=
 (f 13 = false ∧ I4 b W0 Tm N st AR nR cR Nn Bg f a w) ∨ ((∀ j, j < 14 → f j = true) ∧ Slots b r4D a ∧ Fin4 W0 Tm N st AR nR cR Nn Bg (fun j => a.tmps.getD j undef) w)
end Go.Proofs.YtocbkccchnbmaaaGreat
