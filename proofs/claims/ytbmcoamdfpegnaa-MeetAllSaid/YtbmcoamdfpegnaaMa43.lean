/- MkProdP -/
import Derived.Test.YtbmcoamdfpegnaaMa42
namespace Go.Proofs.Ytbmcoamdfpegnaa
open Go.RowKit Go.Maps
theorem GL.pushAt {α : Type} {R : Rep α} {E : TypeId} {w : World} {F G : Nat → Prop} {v : Value} {l : List α} {P : Program} {T s bytes : Nat} {z : Value} (hT : SlType P T E s bytes z) (hs : R.size = s) (h : GL R E w F v l) {x : α} {ys : List Value} (hx : R.ok w G ys x) (hG : ∀ b, G b → rowOf v ≠ some b) {S : Nat → Prop} {A : Option Addr} (hr : Rd w S s A 1 ys) (hl : l.length ≤ 1000000) (hby : bytes ≤ 100) (ty : TypeId) :
    ∃ A' c' w', (Builtin.append_ #[T, T] ty #[v, .slice A 1 1]).run P w = .ok (.slice A' (l.length + 1) c') w' ∧
     GL R E w' (fun b => (F b ∨ G b ∨ b = w.heap.size) ∧ b < w'.heap.size) (.slice A' (l.length + 1) c') (l ++ [x]) ∧ w.grownBy w' (rowOf v) ∧ (rowOf (.slice A' (l.length + 1) c') = rowOf v ∨ rowOf (.slice A' (l.length + 1) c') = some w.heap.size) := by
 subst hs
 obtain ⟨xs, h1, h2⟩ := h.own
 have hc1 : Cells R w G ys [x] := Cells.single hx
 obtain ⟨v', w', hrun, ho, hg, hrow⟩ := run_append_Own hT w ty 0 v l.length xs h1 _ _ 1 1 ys hr (R.one hx) (by unfold maxLen; omega) (by
  have : (l.length + 1) * bytes ≤ 1000001 * 100 := Nat.mul_le_mul (by omega) hby
  omega) (Nat.zero_le _)
 obtain ⟨A', c', rfl, _, _⟩ := ho.form
 have hcx : Cells R w (fun b => (F b ∨ G b) ∧ rowOf v ≠ some b) (xs ++ ys) (l ++ [x]) :=
  (h2.more fun b hb => ⟨.inl hb.1, hb.2⟩).append (hc1.more fun b hb => ⟨.inr hb, hG b hb⟩)
 have hcx' := (hcx.fit).keep (w' := w') (Kept.grown hg fun b hb => hb.1.2)
 have hout : Cells R w' (fun b => (F b ∨ G b ∨ b = w.heap.size) ∧ rowOf (.slice A' (l.length + 1) c') ≠ some b) (xs ++ ys) (l ++ [x]) := by
  refine hcx'.more fun b hb => ⟨?_, ?_⟩
  ·
   rcases hb.1.1 with h | h
   ·
    exact .inl h
   ·
    exact .inr (.inl h)
  ·
   rcases hrow with e | e
   ·
    rw [e]; exact hb.1.2
   ·
    rw [e]
    intro e2
    injection e2 with e2
    have := hb.2
    omega
 refine ⟨A', c', w', hrun, GL.fit ⟨⟨_, by simpa using ho, hout⟩, fun g e => ?_⟩, hg, hrow⟩
 rcases hrow with e2 | e2
 ·
  rw [e2] at e
  exact .inl (h.row g e)
 ·
  rw [e2] at e
  injection e with e
  exact .inr (.inr e.symm)
theorem rd_new2 (w : World) (t : TypeId) (s : Nat) (ys : List Value) (h : ys.length = s) : Rd (w.alloc (.cells ys.toArray t)) (fun b => b = w.heap.size) s (some ⟨w.heap.size, 0, none⟩) 1 ys := by
 refine ⟨by rw [h, Nat.one_mul], fun _ => ⟨w.heap.size, 0, rfl, rfl, fun j u hu => ?_⟩⟩
 rw [World.cell?_alloc_at _ _ _ _ rfl]
 simpa using hu
theorem tRulesM : SlType Try.prog 23 40 2 32 (.agg #[.int .i64 0, .slice none 0 0]) := ⟨by kernel_rfl, by kernel_rfl, by kernel_rfl, rfl, by decide⟩
structure PrOut (w : World) (Bo : Nat) (FR FF : Nat → Prop) (vR vN vF : Value) (rs : List RuleD) (fr : List Int) : Prop where
 box : w.heap[Bo]? = some (.cells #[.int .i64 0, .int .i64 0, .int .i64 0, vR, vN, vF] 34 (0, 0))
 R : GL RRule 40 w FR vR rs
 fm : GL Rep.int 3 w FF vF fr
 ap : ∀ b, FR b → ¬ FF b
 nb : ∀ b, FR b ∨ FF b → b ≠ Bo
section
variable {w w' : World} {Bo : Nat} {FR FF : Nat → Prop} {vR vN vF : Value} {rs : List RuleD} {fr : List Int}
theorem PrOut.only {X : Nat → Prop} (h : PrOut w Bo FR FF vR vN vF rs fr) (ho : Only w w' X) (hX : ∀ b, X b → b < w.heap.size → b ≠ Bo ∧ ¬ FR b ∧ ¬ FF b) : PrOut w' Bo FR FF vR vN vF rs fr :=
 ⟨(ho.block _ (heap_lt h.box) fun hx => (hX _ hx (heap_lt h.box)).1 rfl).trans h.box, h.R.only ho fun b hb hl hx => (hX b hx hl).2.1 hb, h.fm.only ho fun b hb hl hx => (hX b hx hl).2.2 hb, h.ap, h.nb⟩
theorem PrOut.below (h : PrOut w Bo FR FF vR vN vF rs fr) (hb : Below w.heap.size w w') : PrOut w' Bo FR FF vR vN vF rs fr := h.only (X := fun _ => False) (.of_below hb (Nat.le_refl _) _) fun _ hx => hx.elim
theorem PrOut.fit (h : PrOut w Bo FR FF vR vN vF rs fr) : PrOut w Bo (fun b => FR b ∧ b < w.heap.size) (fun b => FF b ∧ b < w.heap.size) vR vN vF rs fr :=
 ⟨h.box, h.R.fit, h.fm.fit, fun b hb hf => h.ap b hb.1 hf.1, fun b hb => h.nb b (hb.imp And.left And.left)⟩
end
def PAddR (w : World) (Bo : Nat) (FR FF G : Nat → Prop) (vN : Value) (rs : List RuleD) (fr : List Int) (e : Ending) (w' : World) : Prop :=
 ∃ (FR' FF' : Nat → Prop) (vR' vF' : Value), e = .returned (.bool (decide (fr.length ≤ 4000))) ∧ PrOut w' Bo FR' FF' vR' vN vF' rs fr ∧ Only w w' (fun b => b = Bo ∨ FR b ∨ FF b) ∧ (∀ b, FR' b → FR b ∨ G b ∨ w.heap.size ≤ b) ∧ (∀ b, FF' b → FF b ∨ w.heap.size ≤ b)
end Go.Proofs.Ytbmcoamdfpegnaa
