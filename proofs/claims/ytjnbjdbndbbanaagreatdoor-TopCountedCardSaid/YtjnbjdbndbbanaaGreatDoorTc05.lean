/- MakeGram -/
import Derived.Test.YtjnbjdbndbbanaaGreatDoorTc04
namespace Go.Proofs.YtjnbjdbndbbanaaGreatDoor
open Go.RowKit
def SymOk (T N : Int) (s : SymD) : Prop := 0 ≤ s.2 ∧ s.2 < (if s.1 then T else N)
structure GValid (g : GramD) : Prop where
 t1 : 1 ≤ g.1
 t2 : g.1 ≤ 8
 n1 : 1 ≤ g.2.1
 n2 : g.2.1 ≤ 10
 st : 0 ≤ g.2.2.1 ∧ g.2.2.1 < g.2.1
 rl : g.2.2.2.length ≤ 32
 rules : ∀ r ∈ g.2.2.2, (0 ≤ r.1 ∧ r.1 < g.2.1) ∧ r.2.length ≤ 4 ∧ ∀ s ∈ r.2, SymOk g.1 g.2.1 s
 nd : g.2.2.2.Nodup
structure GSmall (g : GramD) : Prop where
 t : g.1 ≤ 3
 n : g.2.1 ≤ 4
 r1 : 1 ≤ g.2.2.2.length
 r2 : g.2.2.2.length ≤ 8
 rr : ∀ r ∈ g.2.2.2, r.2.length ≤ 3
def RulesOk (T N : Int) (s : Nat) (rules : List RuleD) : Prop :=
 rules.length ≤ s ∧ (1 ≤ s → 1 ≤ rules.length) ∧ rules.Nodup ∧ ∀ r ∈ rules, (0 ≤ r.1 ∧ r.1 < N) ∧ r.2.length ≤ 3 ∧ ∀ x ∈ r.2, SymOk T N x
def Unf (w : World) (b : Nat) : Prop := ∃ cs E, w.heap[b]? = some (.cells cs E (0, 0))
theorem Unf.lt {w : World} {b : Nat} (h : Unf w b) : b < w.heap.size := heap_lt h.choose_spec.choose_spec
theorem Unf.of {w w' : World} {b : Nat} (h : Unf w b) (e : w'.heap[b]? = w.heap[b]?) : Unf w' b := by
 obtain ⟨cs, E, h⟩ := h
 exact ⟨cs, E, e.trans h⟩
def OwnK (w : World) (base K : Nat) (vR : Value) (rules : List RuleD) : Prop :=
 ∃ xs, Own w base 60 2 vR rules.length xs ∧ Cells RRule w (fun b => Unf w b ∧ base ≤ b ∧ b < K ∧ rowOf vR ≠ some b) xs rules ∧ ∀ g, rowOf vR = some g → g < K
theorem OwnK.nil (w : World) (base K : Nat) (A : Option Addr) : OwnK w base K (.slice A 0 0) [] := ⟨[], Own.nil _ _ _ _ _, Cells.nil, fun g e => by cases A <;> cases e⟩
theorem OwnK.mono {w : World} {base base' K K' : Nat} {vR : Value} {rules : List RuleD} (h : OwnK w base K vR rules) (hb : base' ≤ base) (hK : K ≤ K') : OwnK w base' K' vR rules := by
 obtain ⟨xs, h1, h2, h3⟩ := h
 exact ⟨xs, h1.mono hb, h2.more fun b hb => ⟨hb.1, by omega, by omega, hb.2.2.2⟩, fun g e => by have := h3 g e; omega⟩
theorem OwnK.own {w : World} {base K : Nat} {vR : Value} {rules : List RuleD} (h : OwnK w base K vR rules) : OwnL RRule w (fun _ => False) base 60 vR rules := by
 obtain ⟨xs, h1, h2, _⟩ := h
 exact ⟨xs, h1, h2.more fun b hb => ⟨.inr hb.2.1, hb.2.2.2⟩⟩
theorem OwnK.grown {w w' : World} {base K : Nat} {vR : Value} {rules : List RuleD} {row : Option Nat} (h : OwnK w base K vR rules) (hg : w.grownBy w' row) (hr : ∀ g, row = some g → g < base ∨ K ≤ g) : OwnK w' base K vR rules := by
 obtain ⟨xs, h1, h2, h3⟩ := h
 refine ⟨xs, h1.kept hg fun g e e' => ?_, (h2.keep (.grown hg fun b hb e => ?_)).more fun b hb => ⟨hb.1.of (hg.block b hb.1.lt fun e => ?_), hb.2⟩, h3⟩
 ·
  have := (h1.row e').1
  have := h3 g e'
  have := hr g e
  omega
 ·
  have := hr b e
  omega
 have := hr b e.symm
 omega
theorem OwnK.below {w w' : World} {base K : Nat} {vR : Value} {rules : List RuleD} (h : OwnK w base K vR rules) (hb : Below w.heap.size w w') : OwnK w' base K vR rules := by
 obtain ⟨xs, h1, h2, h3⟩ := h
 exact ⟨xs, h1.below hb (Nat.le_refl _), (h2.keep (.belowB hb fun b hb => hb.1.lt)).more fun b hb' => ⟨hb'.1.of (hb.block b hb'.1.lt), hb'.2⟩, h3⟩
theorem symCells_any {w w' : World} {S S' : Nat → Prop} : ∀ {l : List SymD} {xs : List Value}, Cells RSym w S xs l → Cells RSym w' S' xs l
 | [], _, h => h
 | _ :: _, _, h => by
  obtain ⟨cs, rest, rfl, h1, h2⟩ := h
  exact ⟨cs, rest, rfl, RSym.cells.2 (RSym.cells.1 h1), symCells_any h2⟩
theorem OwnK.push {w : World} {base : Nat} {vR : Value} {rules : List RuleD} {r : RuleD} {ys : List Value} (h : OwnK w base w.heap.size vR rules) (hcells : Cells RRule w (fun b => Unf w b ∧ base ≤ b ∧ b < w.heap.size ∧ rowOf vR ≠ some b) ys [r]) (hl : rules.length ≤ 1000) (hbase : base ≤ w.heap.size) :
    ∃ A2 c2 w2, (Builtin.append_ #[23, 23] 23 #[vR, .slice (some ⟨w.heap.size, 0, none⟩) 1 1]).run Tryz.prog (w.alloc (.cells ys.toArray 60)) = .ok (.slice A2 (rules.length + 1) c2) w2 ∧
     OwnK w2 base w2.heap.size (.slice A2 (rules.length + 1) c2) (rules ++ [r]) ∧ (w.alloc (.cells ys.toArray 60)).grownBy w2 (rowOf vR) ∧ Below base w w2 := by
 have hr : Rd (w.alloc (.cells ys.toArray 60)) (fun _ => True) 2 (some ⟨w.heap.size, 0, none⟩) 1 ys := by
  refine ⟨by rw [hcells.len]; rfl, fun _ => ⟨w.heap.size, 0, rfl, trivial, fun j v hv => ?_⟩⟩
  rw [World.cell?_alloc_at _ _ _ _ rfl]
  simpa using hv
 obtain ⟨xs, h1, h2, h3⟩ := h
 obtain ⟨v', w', hrun, ho, hg, hrow⟩ := run_append_Own tRules (w.alloc (.cells ys.toArray 60)) 23 base vR rules.length xs (h1.alloc _) _ _ 1 1 ys hr hcells.one (by unfold maxLen; omega) (by omega) (by simp; omega)
 obtain ⟨A2, c2, rfl, _, _⟩ := ho.form
 have hz := hg.size
 simp only [World.size_alloc] at hz
 have hb : Below base w w' := ((Below.refl _ _).alloc hbase _).grown hg (by simp; omega) (fun g e => (h1.row e).1)
 have hblk : ∀ b, Unf w b → rowOf vR ≠ some b → w'.heap[b]? = w.heap[b]? := fun b hb hne => (hg.block b (by simp; have := hb.lt; omega) (fun e => hne e.symm)).trans (Below.heap_alloc _ _ _ hb.lt)
 refine ⟨A2, c2, w', hrun, ⟨xs ++ ys, by simpa using ho, ?_, fun g e => (ho.row e).2⟩, hg, hb⟩
 have hc := h2.append hcells
 refine (hc.keep (w' := w') fun p u hp hu => ?_).more fun b hb => ⟨hb.1.of (hblk b hb.1 hb.2.2.2), hb.2.1, by have := hb.2.2.1; omega, ?_⟩
 ·
  rw [World.cell?_of_block (hblk _ hp.1 hp.2.2.2)]
  exact hu
 rcases hrow with h | h
 · rw [h]; exact hb.2.2.2
 rw [h]
 intro e
 injection e with e
 have := hb.2.2.1
 simp at e
 omega
theorem OwnL.unf {w : World} {S : Nat → Prop} {base n c : Nat} {E : TypeId} {A : Option Addr} {l : List SymD} (h : OwnL RSym w S base E (.slice A n c) l) : Sl RSym w (fun b => base ≤ b ∧ Unf w b) A n c l := by
 obtain ⟨xs, h1, h2⟩ := h
 obtain ⟨A', c', e, hc, _⟩ := h1.form
 injection e with e1 e2 e3
 subst e1
 subst e2
 subst e3
 have hrd := h1.rd
 refine ⟨xs, rfl, hc, ⟨hrd.1, fun h0 => ?_⟩, symCells_any h2⟩
 obtain ⟨b, o, hA, hb, hcell⟩ := hrd.2 h0
 refine ⟨b, o, hA, ⟨hb, ?_⟩, hcell⟩
 rcases h1 with h1 | ⟨_, _, h, _⟩
 ·
  rcases h1.2 with ⟨_, h⟩ | ⟨g, cap, cur, e, _, hh, _⟩
  · omega
  injection e with e
  rw [hA] at e
  injection e with e
  injection e with e
  subst e
  exact ⟨cur, E, hh⟩
 omega
structure MidG (w : World) (S : Nat → Prop) (l : List Int) (Bg Br : Nat) (T N st : Int) (rules : List RuleD) (vR : Value) (left : Int) (right : List SymD) (vQ : Value) (wr : World) : Prop where
 str : ∃ k, StreamAt wr S (w.heap.size + 1) (l.drop k)
 hg : wr.heap[Bg]? = some (.cells #[.int .i64 T, .int .i64 N, .int .i64 st, vR] 25 (0, 0))
 hR : OwnK wr (Bg + 1) Br vR rules
 hr : wr.heap[Br]? = some (.cells #[.int .i64 left, vQ] 60 (0, 0))
 hQ : OwnL RSym wr (fun _ => False) (Br + 1) 62 vQ right
 res : wr.heap[w.heap.size]? = some (.cells #[.int .i64 0, .int .i64 0, .int .i64 0, .slice none 0 0] 25 (0, 0))
 bel : Below w.heap.size w wr
 o1 : w.heap.size + 2 ≤ Bg
 o2 : Bg + 1 ≤ Br
 o3 : Br + 1 ≤ wr.heap.size
section
variable {w wr w4 : World} {S : Nat → Prop} {l : List Int} {Bg Br : Nat} {T N st left : Int} {rules : List RuleD} {vR vQ : Value} {right : List SymD}
theorem OwnL.keepG {α : Type} {R : Rep α} {w w' : World} {base : Nat} {E : TypeId} {v : Value} {l : List α} {row : Option Nat} (h : OwnL R w (fun _ => False) base E v l) (hg : w.grownBy w' row) (hr : ∀ g, row = some g → g < base) : OwnL R w' (fun _ => False) base E v l := by
 obtain ⟨xs, h1, h2⟩ := h
 refine ⟨xs, ?_, h2.keep (.grown hg fun b hb e => ?_)⟩
 ·
  rcases h1 with h1 | h1
  ·
   rcases h1.2 with h2 | ⟨g, cap, cur, rfl, hbg, hh, hr'⟩
   · exact .inl ⟨h1.1, .inl h2⟩
   refine .inl ⟨h1.1, .inr ⟨g, cap, cur, rfl, hbg, ?_, hr'⟩⟩
   rw [hg.block g (heap_lt hh) (fun e => by have := hr g e.symm; omega)]
   exact hh
  exact .inr h1
 have h1 := hr b e
 rcases hb.1 with h | h
 · exact h
 omega
theorem MidG.next (h : MidG w (fun b => S b ∧ b < w.heap.size) l Bg Br T N st rules vR left right vQ wr) {k : Nat} (hs : StreamAt w4 (fun b => S b ∧ b < w.heap.size) (w.heap.size + 1) (l.drop k)) (hg : wr.grownBy w4 (some (w.heap.size + 1))) :
    MidG w (fun b => S b ∧ b < w.heap.size) l Bg Br T N st rules vR left right vQ w4 := by
 have h1 := h.o1
 have h2 := h.o2
 have h3 := h.o3
 have hz := hg.size
 have hblk : ∀ q, q ≠ w.heap.size + 1 → q < wr.heap.size → w4.heap[q]? = wr.heap[q]? := fun q hq hlt => hg.block q hlt fun e => hq (by injection e)
 refine ⟨⟨k, hs⟩, (hblk _ (by omega) (by omega)).trans h.hg, h.hR.grown hg (fun g e => by injection e with e; omega), (hblk _ (by omega) (by omega)).trans h.hr, h.hQ.keepG hg (fun g e => by injection e with e; omega), (hblk _ (by omega) (by omega)).trans h.res, h.bel.grown hg h.bel.size (fun q e => by injection e with e; omega), h1, h2, by omega⟩
theorem MidG.drew (h : MidG w S l Bg Br T N st rules vR left right vQ wr) : MidG w S l Bg Br T N st rules vR left right vQ wr.drew := by
 obtain ⟨⟨k, hs⟩, a1, a2, a3, a4, a5, a6, a7, a8, a9⟩ := h
 exact ⟨⟨k, hs.keep (.drew _ _) rfl⟩, a1, a2.below (Below.refl _ _).drew, a3, a4.drew, a5, a6.drew, a7, a8, a9⟩
theorem MidG.cellT (h : MidG w S l Bg Br T N st rules vR left right vQ wr) : wr.cell? ⟨Bg, 0, none⟩ = some (.int .i64 T) := by simp [World.cell?, h.hg]
theorem MidG.cellN (h : MidG w S l Bg Br T N st rules vR left right vQ wr) : wr.cell? ⟨Bg, 1, none⟩ = some (.int .i64 N) := by simp [World.cell?, h.hg]
theorem MidG.cellR (h : MidG w S l Bg Br T N st rules vR left right vQ wr) : wr.cell? ⟨Bg, 3, none⟩ = some vR := by simp [World.cell?, h.hg]
theorem MidG.cellL (h : MidG w S l Bg Br T N st rules vR left right vQ wr) : wr.cell? ⟨Br, 0, none⟩ = some (.int .i64 left) := by simp [World.cell?, h.hr]
theorem MidG.cellQ (h : MidG w S l Bg Br T N st rules vR left right vQ wr) : wr.cell? ⟨Br, 1, none⟩ = some vQ := by simp [World.cell?, h.hr]
theorem MidG.push (h : MidG w (fun b => S b ∧ b < w.heap.size) l Bg Br T N st rules vR left right vQ wr) (s : SymD) (hl : right.length ≤ 1000) :
    ∃ A2 c2 w2, (Builtin.append_ #[58, 58] 58 #[vQ, .slice (some ⟨wr.heap.size, 0, none⟩) 1 1]).run Tryz.prog (wr.alloc (.cells #[.bool s.1, .int .i64 s.2] 62)) = .ok (.slice A2 (right.length + 1) c2) w2 ∧
     w2.cell? ⟨Br, 1, none⟩ = some vQ ∧ w2.frozen? ⟨Br, 1, none⟩ = false ∧ w2.cell? ⟨Bg, 0, none⟩ = some (.int .i64 T) ∧ w2.cell? ⟨Bg, 1, none⟩ = some (.int .i64 N) ∧
     MidG w (fun b => S b ∧ b < w.heap.size) l Bg Br T N st rules vR left (right ++ [s]) (.slice A2 (right.length + 1) c2) (w2.setCell ⟨Br, 1, none⟩ (.slice A2 (right.length + 1) c2)) := by
 have h1 := h.o1
 have h2 := h.o2
 have h3 := h.o3
 obtain ⟨v2, w2, hrun, ho, hg, hb⟩ := run_append_lit (R := RSym) tSyms rfl wr 58 (Br + 1) (fun _ => False) vQ right h.hQ 1 [s] [.bool s.1, .int .i64 s.2] (Cells.single (RSym.cells.2 rfl)) rfl (by unfold maxLen; omega) (by omega) h3
 obtain ⟨A2, c2, rfl, _, _⟩ := ho.form
 rw [show (right ++ [s]).length = right.length + 1 by simp] at hrun ho
 obtain ⟨k, hs⟩ := h.str
 have hz := hg.size
 simp only [World.size_alloc] at hz
 have hrow : ∀ g, rowOf vQ = some g → Br + 1 ≤ g := fun g e => (h.hQ.row e).1
 have hblk : ∀ q, q < Br + 1 → w2.heap[q]? = wr.heap[q]? := fun q hq => hb.block q hq
 have hr2 : w2.heap[Br]? = some (.cells #[.int .i64 left, vQ] 60 (0, 0)) := (hblk _ (by omega)).trans h.hr
 have hg2 : w2.heap[Bg]? = some (.cells #[.int .i64 T, .int .i64 N, .int .i64 st, vR] 25 (0, 0)) := (hblk _ (by omega)).trans h.hg
 have hset := set_grown (Bd := Br) w2 1 (.slice A2 (right.length + 1) c2)
 have hne : ∀ q, q ≠ Br → (w2.setCell ⟨Br, 1, none⟩ (.slice A2 (right.length + 1) c2)).heap[q]? = w2.heap[q]? := fun q hq => Below.heap_setCell _ _ _ _ hq
 refine ⟨A2, c2, w2, hrun, by simp [World.cell?, hr2], by simp [World.frozen?, hr2], by simp [World.cell?, hg2], by simp [World.cell?, hg2], ⟨⟨k, ?_⟩, (hne _ (by omega)).trans hg2, ?_, ?_, ?_, ?_, ?_, h1, h2, ?_⟩⟩
 ·
  have s1 : StreamAt w2 (fun b => S b ∧ b < w.heap.size) (w.heap.size + 1) (l.drop k) := hs.keep (.belowB hb (fun b hb' => by have := hb'.2; omega)) (hblk _ (by omega))
  exact s1.grown hset (fun e => by injection e with e; omega) (fun b hb' e => by injection e with e; have := hb'.2; omega)
 ·
  have r1 : OwnK (wr.alloc (.cells #[.bool s.1, .int .i64 s.2] 62)) (Bg + 1) Br vR rules := h.hR.below ((Below.refl _ _).alloc (Nat.le_refl _) _)
  exact (r1.grown hg (fun g e => by have := hrow g e; omega)).grown hset (fun g e => by injection e with e; omega)
 ·
  have := blk_set hr2 1 (.slice A2 (right.length + 1) c2)
  simpa using this
 · exact ho.keepG hset (fun g e => by injection e with e; omega)
 · exact (hne _ (by omega)).trans ((hblk _ (by omega)).trans h.res)
 · exact ((h.bel.trans (hb.mono (by omega)))).setCell (by simp; omega) _
 have := hb.size; simp [World.setCell]; omega
theorem MidG.below (h : MidG w S l Bg Br T N st rules vR left right vQ wr) (hb : Below wr.heap.size wr w4) : MidG w S l Bg Br T N st rules vR left right vQ w4 := by
 have h1 := h.o1
 have h2 := h.o2
 have h3 := h.o3
 obtain ⟨k, hs⟩ := h.str
 refine ⟨⟨k, hs.below hb⟩, (hb.block _ (by omega)).trans h.hg, h.hR.below hb, (hb.block _ (by omega)).trans h.hr, h.hQ.below hb, (hb.block _ (by omega)).trans h.res, h.bel.trans (hb.mono h.bel.size), h1, h2, by have := hb.size; omega⟩
structure OutG (w : World) (S : Nat → Prop) (l : List Int) (Bg : Nat) (T N st : Int) (rules : List RuleD) (vR : Value) (s : Nat) (wr : World) : Prop where
 str : ∃ k, StreamAt wr S (w.heap.size + 1) (l.drop k)
 hg : wr.heap[Bg]? = some (.cells #[.int .i64 T, .int .i64 N, .int .i64 st, vR] 25 (0, 0))
 hR : OwnK wr (Bg + 1) wr.heap.size vR rules
 res : wr.heap[w.heap.size]? = some (.cells #[.int .i64 0, .int .i64 0, .int .i64 0, .slice none 0 0] 25 (0, 0))
 bel : Below w.heap.size w wr
 o1 : w.heap.size + 2 ≤ Bg
 o2 : Bg + 1 ≤ wr.heap.size
 ok : RulesOk T N s rules
theorem OutG.enter {s k : Nat} (h : OutG w (fun b => S b ∧ b < w.heap.size) l Bg T N st rules vR s wr) (hs : StreamAt w4 (fun b => S b ∧ b < w.heap.size) (w.heap.size + 1) (l.drop k)) (hg : wr.grownBy w4 (some (w.heap.size + 1))) (left : Int) :
    MidG w (fun b => S b ∧ b < w.heap.size) l Bg w4.heap.size T N st rules vR left [] (.slice none 0 0) (w4.alloc (.cells #[.int .i64 left, .slice none 0 0] 60)) := by
 have h1 := h.o1
 have h2 := h.o2
 have hz := hg.size
 have hblk : ∀ q, q ≠ w.heap.size + 1 → q < wr.heap.size → (w4.alloc (.cells #[.int .i64 left, .slice none 0 0] 60)).heap[q]? = wr.heap[q]? := fun q hq hlt => (Below.heap_alloc _ _ _ (by omega)).trans (hg.block q hlt fun e => hq (by injection e))
 have hR4 : OwnK w4 (Bg + 1) w4.heap.size vR rules := (h.hR.grown hg (fun g e => by injection e with e; exact Or.inl (by omega))).mono (Nat.le_refl _) hz
 have hb4 : Below w.heap.size w w4 := h.bel.grown hg h.bel.size (fun q e => by injection e with e; omega)
 refine ⟨⟨k, hs.alloc _⟩, (hblk _ (by omega) (by omega)).trans h.hg, hR4.below ((Below.refl _ _).alloc (Nat.le_refl _) _), heap_alloc_new w4 _, OwnL.nil _ _ _ _ _, (hblk _ (by omega) (by omega)).trans h.res, hb4.alloc hb4.size _, h1, by omega, by simp⟩
theorem RulesOk.more {s : Nat} (h : RulesOk T N s rules) (hm : (left, right) ∈ rules) : RulesOk T N (s + 1) rules :=
 ⟨by have := h.1; omega, fun _ => by cases rules with | nil => cases hm | cons => simp, h.2.2⟩
theorem RulesOk.add {s : Nat} (h : RulesOk T N s rules) (hm : (left, right) ∉ rules) (h1 : 0 ≤ left ∧ left < N) (h2 : right.length ≤ 3) (h3 : ∀ x ∈ right, SymOk T N x) : RulesOk T N (s + 1) (rules ++ [(left, right)]) := by
 obtain ⟨k1, k2, k3, k4⟩ := h
 refine ⟨by simp; omega, fun _ => by simp, ?_, fun r hr => ?_⟩
 ·
  rw [List.nodup_append]
  refine ⟨k3, by simp, fun a ha b hb e => ?_⟩
  obtain rfl := List.mem_singleton.1 hb
  exact hm (e ▸ ha)
 rcases List.mem_append.1 hr with h | h
 · exact k4 r h
 obtain rfl := List.mem_singleton.1 h
 exact ⟨h1, h2, h3⟩
theorem OutG.skip {s : Nat} (h : MidG w S l Bg Br T N st rules vR left right vQ wr) (ho : RulesOk T N s rules) : OutG w S l Bg T N st rules vR s wr :=
 ⟨h.str, h.hg, h.hR.mono (Nat.le_refl _) (by have := h.o3; omega), h.res, h.bel, h.o1, by have := h.o2; have := h.o3; omega, ho⟩
theorem OutG.add {s : Nat} (h : MidG w (fun b => S b ∧ b < w.heap.size) l Bg Br T N st rules vR left right vQ wr) (ho : RulesOk T N s (rules ++ [(left, right)])) (hl : rules.length ≤ 1000) :
    ∃ A2 c2 w2, (Builtin.append_ #[23, 23] 23 #[vR, .slice (some ⟨wr.heap.size, 0, none⟩) 1 1]).run Tryz.prog (wr.alloc (.cells #[.int .i64 left, vQ] 60)) = .ok (.slice A2 (rules.length + 1) c2) w2 ∧
     w2.cell? ⟨Bg, 3, none⟩ = some vR ∧ w2.frozen? ⟨Bg, 3, none⟩ = false ∧
     OutG w (fun b => S b ∧ b < w.heap.size) l Bg T N st (rules ++ [(left, right)]) (.slice A2 (rules.length + 1) c2) s (w2.setCell ⟨Bg, 3, none⟩ (.slice A2 (rules.length + 1) c2)) := by
 have h1 := h.o1
 have h2 := h.o2
 have h3 := h.o3
 obtain ⟨AQ, cQ, rfl, _, _⟩ := h.hQ.form
 have hsl := h.hQ.unf
 obtain ⟨_, _, _, hlow⟩ := h.hR
 have hcell : Cells RRule wr (fun b => Unf wr b ∧ Bg + 1 ≤ b ∧ b < wr.heap.size ∧ rowOf vR ≠ some b) [.int .i64 left, .slice AQ right.length cQ] [(left, right)] := by
  refine Cells.single (RRule.cells.2 ⟨AQ, right.length, cQ, rfl, hsl.more fun b hb => ⟨hb.2, ?_, hb.2.lt, fun e => ?_⟩⟩)
  · have := hb.1; omega
  have := hlow b e
  have := hb.1
  omega
 obtain ⟨A2, c2, w2, hrun, ho2, hg, hb⟩ := (h.hR.mono (Nat.le_refl _) (by omega)).push hcell hl (by omega)
 obtain ⟨k, hs⟩ := h.str
 have hz := hg.size
 simp only [World.size_alloc] at hz
 have hblk : ∀ q, q < Bg + 1 → w2.heap[q]? = wr.heap[q]? := fun q hq => hb.block q hq
 have hg2 : w2.heap[Bg]? = some (.cells #[.int .i64 T, .int .i64 N, .int .i64 st, vR] 25 (0, 0)) := (hblk _ (by omega)).trans h.hg
 have hset := set_grown (Bd := Bg) w2 3 (.slice A2 (rules.length + 1) c2)
 have hne : ∀ q, q ≠ Bg → (w2.setCell ⟨Bg, 3, none⟩ (.slice A2 (rules.length + 1) c2)).heap[q]? = w2.heap[q]? := fun q hq => Below.heap_setCell _ _ _ _ hq
 refine ⟨A2, c2, w2, hrun, by simp [World.cell?, hg2], by simp [World.frozen?, hg2], ⟨⟨k, ?_⟩, ?_, ?_, ?_, ?_, h1, ?_, ho⟩⟩
 ·
  have s1 : StreamAt w2 (fun b => S b ∧ b < w.heap.size) (w.heap.size + 1) (l.drop k) := hs.keep (.belowB hb (fun b hb' => by have := hb'.2; omega)) (hblk _ (by omega))
  exact s1.grown hset (fun e => by injection e with e; omega) (fun b hb' e => by injection e with e; have := hb'.2; omega)
 ·
  have := blk_set hg2 3 (.slice A2 (rules.length + 1) c2)
  simpa using this
 · exact (ho2.grown hset (fun g e => by injection e with e; omega)).mono (Nat.le_refl _) (by simp [World.setCell])
 · exact (hne _ (by omega)).trans ((hblk _ (by omega)).trans h.res)
 · exact ((h.bel.trans (hb.mono (by omega)))).setCell (by simp; omega) _
 have := hb.size; simp [World.setCell]; omega
theorem OutG.start {w1 w2 w3 w4 : World} {A : Option Addr} {n c k : Nat} {Ts : TypeId} (hg1 : ((w.alloc (.cells #[.int .i64 0, .int .i64 0, .int .i64 0, .slice none 0 0] 25)).alloc (.cells #[.slice A n c] Ts)).grownBy w1 (some (w.heap.size + 1)))
    (hg2 : w1.grownBy w2 (some (w.heap.size + 1))) (hg3 : (w2.alloc (.cells #[.int .i64 T, .int .i64 N, .int .i64 0, .slice none 0 0] 25)).grownBy w3 (some (w.heap.size + 1))) (hg4 : (w3.setCell ⟨w2.heap.size, 2, none⟩ (.int .i64 st)).grownBy w4 (some (w.heap.size + 1)))
    (hs : StreamAt w4 (fun b => S b ∧ b < w.heap.size) (w.heap.size + 1) (l.drop k)) : OutG w (fun b => S b ∧ b < w.heap.size) l w2.heap.size T N st [] (.slice none 0 0) 0 w4 := by
 have z1 := hg1.size
 have z2 := hg2.size
 have z3 := hg3.size
 have z4 := hg4.size
 simp only [World.size_alloc] at z1 z3
 have z4' : w3.heap.size ≤ w4.heap.size := by simpa [World.setCell] using z4
 have ne : ∀ q, q ≠ w.heap.size + 1 → some q ≠ some (w.heap.size + 1) := fun q h e => h (by injection e)
 have b1 : Below w.heap.size w w1 := (((Below.refl _ _).alloc (Nat.le_refl _) _).alloc (by simp) _).grown hg1 (by simp; omega) (fun q e => by injection e with e; omega)
 have b2 : Below w.heap.size w w2 := b1.grown hg2 b1.size (fun q e => by injection e with e; omega)
 have b3 : Below w.heap.size w w3 := (b2.alloc b2.size _).grown hg3 (by simp; omega) (fun q e => by injection e with e; omega)
 have b3' : Below w.heap.size w (w3.setCell ⟨w2.heap.size, 2, none⟩ (.int .i64 st)) := b3.setCell b2.size _
 have b4 : Below w.heap.size w w4 := b3'.grown hg4 b3'.size (fun q e => by injection e with e; omega)
 have hBg : w3.heap[w2.heap.size]? = some (.cells #[.int .i64 T, .int .i64 N, .int .i64 0, .slice none 0 0] 25 (0, 0)) := by
  rw [hg3.block _ (by simp) (ne _ (by omega))]
  exact heap_alloc_new w2 _
 refine ⟨⟨k, hs⟩, ?_, OwnK.nil _ _ _ _, ?_, b4, by omega, by omega, ⟨by simp, fun h => by omega, by simp, by simp⟩⟩
 ·
  rw [hg4.block _ (by simp [World.setCell]; omega) (ne _ (by omega))]
  have := blk_set hBg 2 (.int .i64 st)
  simpa using this
 rw [hg4.block _ (by simp [World.setCell]; omega) (ne _ (by omega)), Below.heap_setCell _ _ _ _ (by simp; omega), hg3.block _ (by simp; omega) (ne _ (by omega)), Below.heap_alloc _ _ _ (by omega), hg2.block _ (by omega) (ne _ (by omega)), hg1.block _ (by simp; omega) (ne _ (by omega)), Below.heap_alloc _ _ _ (by simp)]
 exact heap_alloc_new w _
end
set_option linter.unusedSimpArgs false in
set_option maxRecDepth 100000 in
set_option maxHeartbeats 4000000 in
theorem makeGrammarK (w : World) (A : Option Addr) (n c : Nat) (S : Nat → Prop) (l : List Int) (hr : Sl Rep.int w S A n c l) (hn : n ≤ 1000000000000000) :
    Calls Tryz.prog 4 #[.slice A n c] w fun e w' => ∃ (g : GramD) (AR : Option Addr) (cR : Nat), GValid g ∧ GSmall g ∧ e = .returned (.agg #[.int .i64 g.1, .int .i64 g.2.1, .int .i64 g.2.2.1, .slice AR g.2.2.2.length cR]) ∧
     OwnK w' w.heap.size w'.heap.size (.slice AR g.2.2.2.length cR) g.2.2.2 ∧ Below w.heap.size w w' := by
 have HR := zh hr.fit
 clear hr
 have hSB : ¬ (S (w.heap.size + 1) ∧ w.heap.size + 1 < w.heap.size) := fun h => by have := h.2; omega
 go_enter Tryz.func4, Tryz.ntmps4
 go_wp2_with fail
 refine (streamNext _ (fun b => S b ∧ b < w.heap.size) (w.heap.size + 1) 0 3 l (streamStart _ _ A n c _ _ l (HR.out.alloc _) hn (by simp)) hSB (by omega) (by omega)).mono ?_
 rintro e w1 ⟨rfl, hs1, hg1⟩
 have HS1 := zh hs1
 have HG1 := zh hg1
 clear hs1 hg1
 have hb1 := nv_range l 0 3 (by omega)
 obtain ⟨hb1a, hb1b⟩ := hb1
 generalize nv l 0 3 = x1 at *
 go_wp2_with fail
 refine (streamNext _ (fun b => S b ∧ b < w.heap.size) (w.heap.size + 1) 1 4 l HS1.out hSB (by omega) (by omega)).mono ?_
 rintro e w2 ⟨rfl, hs2, hg2⟩
 have HS2 := zh hs2
 have HG2 := zh hg2
 clear hs2 hg2
 have hb2 := nv_range l 1 4 (by omega)
 obtain ⟨hb2a, hb2b⟩ := hb2
 generalize nv l 1 4 = x2 at *
 go_wp2_with fail
 refine (streamNext _ (fun b => S b ∧ b < w.heap.size) (w.heap.size + 1) 2 (1 + x2) l (HS2.out.alloc _) hSB (by omega) (by omega)).mono ?_
 rintro e w3 ⟨rfl, hs3, hg3⟩
 have hz2 : w.heap.size + 2 ≤ w2.heap.size := by
  have := HG1.out.size
  have := HG2.out.size
  simp only [World.size_alloc] at *
  omega
 have hBg3 : w3.heap[w2.heap.size]? = some (.cells #[.int .i64 (1 + x1), .int .i64 (1 + x2), .int .i64 0, .slice none 0 0] 25 (0, 0)) := by
  rw [hg3.block _ (by simp) (fun e => by injection e with e; omega)]
  exact heap_alloc_new w2 _
 have hcS : w3.cell? ⟨w2.heap.size, 2, none⟩ = some (.int .i64 0) := by simp [World.cell?, hBg3]
 have hfS : w3.frozen? ⟨w2.heap.size, 2, none⟩ = false := by simp [World.frozen?, hBg3]
 have HS3 := zh hs3
 have HG3 := zh hg3
 clear hs3 hg3 hBg3
 have hb3 := nv_range l 2 (1 + x2) (by omega)
 obtain ⟨hb3a, hb3b⟩ := hb3
 generalize nv l 2 (1 + x2) = x3 at *
 go_wp2_with fail
 refine (streamNext _ (fun b => S b ∧ b < w.heap.size) (w.heap.size + 1) 3 8 l (HS3.out.grown (set_grown (Bd := w2.heap.size) w3 2 _) (fun e => by injection e with e; omega) (fun b hb e => by injection e with e; have := hb.2; omega)) hSB (by omega) (by omega)).mono ?_
 rintro e w4 ⟨rfl, hs4, hg4⟩
 have hb4 := nv_range l 3 8 (by omega)
 obtain ⟨hb4a, hb4b⟩ := hb4
 have hst0 := OutG.start (l := l) (S := S) HG1.out HG2.out HG3.out hg4 hs4
 have HST0 := zh hst0
 clear hs4 hg4 HS1 HG1 HS2 HG2 HS3 HG3 hcS hfS hst0
 obtain ⟨M, hM, hM1, hM8⟩ : ∃ M : Nat, (M : Int) = 1 + nv l 3 8 ∧ 1 ≤ M ∧ M ≤ 8 := ⟨(1 + nv l 3 8).toNat, by omega, by omega, by omega⟩
 obtain ⟨Bg, hBg⟩ := zE w2.heap.size
 rw [← hBg] at HST0 hz2 ⊢
 clear hBg
 go_wp2_with fail
 rw [← hM]
 clear hM
 generalize nv l 3 8 = x4 at *
 obtain ⟨T, hT1, hT3, hT⟩ : ∃ T, 1 ≤ T ∧ T ≤ 3 ∧ 1 + x1 = T := ⟨_, by omega, by omega, rfl⟩
 obtain ⟨N, hN1, hN4, hN⟩ : ∃ N, 1 ≤ N ∧ N ≤ 4 ∧ 1 + x2 = N := ⟨_, by omega, by omega, rfl⟩
 rw [hT, hN] at HST0 ⊢
 rw [hN] at hb3b
 clear hT hN hb1a hb1b hb2a hb2b hb4a hb4b
 go_loopg [24] M (fun gk i wr => ∃ (s : Nat) (rules : List RuleD) (vR : Value), s ≤ M ∧ gk = M - s ∧ i = .int .i64 s ∧ OutG w (fun b => S b ∧ b < w.heap.size) l Bg T N x3 rules vR s wr)
 case atStart => exact ⟨0, [], _, Nat.zero_le _, rfl, rfl, HST0.out⟩
 case round =>
  obtain ⟨s, rules, vR, hs, hgk, rfl, hout⟩ := hrel
  clear HST0
  have HGK := zh hgk
  have HO := zh hout
  have hcN : wr.cell? ⟨Bg, 1, none⟩ = some (.int .i64 N) := by simp [World.cell?, hout.hg]
  obtain ⟨AR, cR, rfl, hcR, _⟩ := hout.hR.own.form
  have hrl : rules.length ≤ 8 := by have := hout.ok.1; omega
  obtain ⟨k, hstr⟩ := hout.str
  have HSTR := zh hstr
  clear hgk hout hstr
  by_cases hlt : s < M
  ·
   obtain ⟨wo, rfl⟩ := zE wr
   go_wp2_with fail
   refine (streamNext _ (fun b => S b ∧ b < w.heap.size) (w.heap.size + 1) k N l HSTR.out hSB (by omega) (by omega)).mono ?_
   rintro e w5 ⟨rfl, hs5, hg5⟩
   obtain ⟨hl0, hl1⟩ := nv_range l k N (by omega)
   have hm5 := HO.out.enter hs5 hg5 (nv l k N)
   obtain ⟨k5, hstr5⟩ := hm5.str
   have HM5 := zh hm5
   have HSTR5 := zh hstr5
   generalize nv l k N = left at *
   clear hs5 hg5 hm5 hstr5 hcN
   go_wp2_with fail
   refine (streamNext _ (fun b => S b ∧ b < w.heap.size) (w.heap.size + 1) k5 4 l HSTR5.out hSB (by omega) (by omega)).mono ?_
   rintro e w6 ⟨rfl, hs6, hg6⟩
   obtain ⟨hq0, hq1⟩ := nv_range l k5 4 (by omega)
   have hm6 := HM5.out.next hs6 hg6
   have HM6 := zh hm6
   obtain ⟨Q, hQ, hQ3⟩ : ∃ Q : Nat, (Q : Int) = nv l k5 4 ∧ Q ≤ 3 := ⟨(nv l k5 4).toNat, by omega, by omega⟩
   obtain ⟨Br, hBr⟩ := zE w5.heap.size
   rw [← hBr] at HM6
   clear hs6 hg6 hm6 HM5 HSTR5 HSTR
   go_wp2_with fail
   rw [← hQ, ← hBr]
   clear hQ hBr hq0 hq1
   go_loopg [33] Q (fun gk i wr => ∃ (j : Nat) (right : List SymD) (vQ : Value), j ≤ Q ∧ gk = Q - j ∧ i = .int .i64 j ∧ right.length = j ∧ (∀ x ∈ right, SymOk T N x) ∧ MidG w (fun b => S b ∧ b < w.heap.size) l Bg Br T N x3 rules (.slice AR rules.length cR) left right vQ wr)
   case atStart => exact ⟨0, [], _, Nat.zero_le _, rfl, rfl, rfl, by simp, HM6.out⟩
   case round =>
    obtain ⟨j, right, vQ, hj, hgj, rfl, hrj, hsj, hmid⟩ := hrel
    have HGJ := zh hgj
    have HSJ := zh hsj
    have HRJ := zh hrj
    have hrl3 : right.length ≤ 3 := by omega
    have HMI := zh hmid
    have hoT := hmid.cellT
    have hoN := hmid.cellN
    have hoR := hmid.cellR
    have hoL := hmid.cellL
    have hoQ := hmid.cellQ
    have ho1 := hmid.o1
    have ho2 := hmid.o2
    have ho3 := hmid.o3
    obtain ⟨AQ, cQ, hvQ, hcQ, _⟩ := hmid.hQ.form
    obtain ⟨kj, hstj⟩ := hmid.str
    have HSTJ := zh hstj
    subst hvQ
    clear hgj hsj hrj hmid hstj HM6
    by_cases hjl : j < Q
    ·
     clear hoT hoN hoR hoL hoQ
     go_wp2_with fail
     refine (streamNext _ (fun b => S b ∧ b < w.heap.size) (w.heap.size + 1) kj 2 l HSTJ.out hSB (by omega) (by omega)).mono ?_
     rintro e w7 ⟨rfl, hs7, hg7⟩
     have HM7 := zh ((HMI.out.next hs7 hg7).drew)
     generalize nv l kj 2 = y2 at *
     clear hs7 hg7
     by_cases hy2 : y2 = 0
     ·
      subst hy2
      go_wp2_with fail
      refine wp_region_late (late := [10]) (S1 := fun u => u.cell? ⟨Bg, 0, none⟩ = some (.int .i64 T)) (S := fun u => u.cell? ⟨Br, 1, none⟩ = some (.slice AQ right.length cQ)) (by kernel_rfl) ?_
      refine zP (i := 0) rfl (fun u hu => by go_simp; try rfl) HM7.out.cellT (fun _ => HM7.out.cellQ) ?_
      simp only [Act.put, zA, zB, zC, zD, zF, zG]
      refine wpAnyL_take (i := 1) rfl (by kernel_rfl) (fun _ _ _ h => h) (Or.inl ⟨by rfl, (fun u hu => by have h2 := hu.2; go_simp; try rfl)⟩) HM7.out.cellT (fun _ => HM7.out.cellQ) ?_
      simp only [Act.put, zA, zB, zC, zD, zF, zG]
      refine zP (i := 2) rfl (fun u hu => by go_simp; try rfl) HM7.out.cellT (fun _ => HM7.out.cellQ) ?_
      simp only [Act.put, zA, zB, zC, zD, zF, zG]
      refine zP (i := 3) rfl (fun u hu => by go_simp; try rfl) HM7.out.cellT (fun _ => HM7.out.cellQ) ?_
      simp only [Act.put, zA, zB, zC, zD, zF, zG]
      refine zP (i := 4) rfl (fun u hu => by go_simp; try rfl) HM7.out.cellT (fun _ => HM7.out.cellQ) ?_
      simp only [Act.put, zA, zB, zC, zD, zF, zG]
      refine zR 5 rfl (fun K hK => ?_)
      go_simp
      obtain ⟨kk, hss⟩ := HM7.out.str
      refine (streamNext _ (fun b => S b ∧ b < w.heap.size) (w.heap.size + 1) kk T l hss hSB (by omega) (by omega)).mono ?_
      rintro e w9 ⟨rfl, hs9, hg9⟩
      have HM9 := zh (HM7.out.next hs9 hg9)
      obtain ⟨hy0, hy1⟩ := nv_range l kk T (by omega)
      generalize nv l kk T = y at *
      clear hs9 hg9 hss
      obtain ⟨A2, c2, w2x, hrun, hq1, hq2, hqT, hqN, hM2⟩ := HM9.out.push (true, y) (by omega)
      have HRUN := zh hrun
      have HM2 := zh hM2
      have HQ1 := zh hq1
      have HQ2 := zh hq2
      have HQX := zh hqT
      clear hrun hM2 hq1 hq2 hqT hqN
      refine hK.out _ _ HM9.out.cellT (fun _ => HM9.out.cellQ) ?_
      clear hK K
      refine zP (i := 6) rfl (fun u hu => by go_simp; try rfl) HM9.out.cellT (fun _ => HM9.out.cellQ) ?_
      simp only [Act.put, zA, zB, zC, zD, zF, zG]
      refine zR 7 rfl (fun K hK => ?_)
      go_simp
      refine hK.out _ _ (Kept.alloc (fun _ => True) _ _ _ _ trivial HM9.out.cellT) (fun _ => (Kept.alloc (fun _ => True) _ _ _ _ trivial HM9.out.cellQ)) ?_
      clear hK K
      refine zR 8 rfl (fun K hK => ?_)
      refine step_append_run _ (by rfl) _ _ _ _ (by rfl) _ _ (by rfl) (by rfl) _ _ HRUN.out ?_
      simp only [Act.put, zA, zB, zC, zD, zF, zG]
      refine hK.out _ _ HQX.out (fun _ => HQ1.out) ?_
      clear hK K
      refine zP (i := 9) rfl (fun u hu => by go_simp; try rfl) HQX.out (fun _ => HQ1.out) ?_
      simp only [Act.put, zA, zB, zC, zD, zF, zG]
      refine zR 10 rfl (fun K hK => ?_)
      have hc := HQ1.out
      have hf := HQ2.out
      go_simp
      clear hc hf
      refine hK.out _ _ (setOther _ (p := ⟨Br, 1, none⟩) HQX.out (by simp; omega)) (fun h => absurd (h 10 (by simp)) (by decide)) ?_
      clear hK K
      refine wpAnyL_done (by kernel_rfl) ?_ _
      go_wp2_with fail
      go_roundg (Q - (j + 1))
      case measure => rw [HGJ.out]; omega
      case rel => exact ⟨j + 1, right ++ [(true, y)], _, by omega, rfl, by go_num, by rw [List.length_append, HRJ.out]; rfl, (fun x hx => by rcases List.mem_append.1 hx with h | h; exact HSJ.out x h; obtain rfl := List.mem_singleton.1 h; exact ⟨hy0, hy1⟩), HM2.out⟩
     have hy2' : (y2 == 0) = false := by simp [hy2]
     go_wp2_with fail
     refine wp_region_late (late := [10]) (S1 := fun u => u.cell? ⟨Bg, 1, none⟩ = some (.int .i64 N)) (S := fun u => u.cell? ⟨Br, 1, none⟩ = some (.slice AQ right.length cQ)) (by kernel_rfl) ?_
     refine zP (i := 0) rfl (fun u hu => by go_simp; try rfl) HM7.out.cellN (fun _ => HM7.out.cellQ) ?_
     simp only [Act.put, zA, zB, zC, zD, zF, zG]
     refine wpAnyL_take (i := 1) rfl (by kernel_rfl) (fun _ _ _ h => h) (Or.inl ⟨by rfl, (fun u hu => by have h2 := hu.2; go_simp; try rfl)⟩) HM7.out.cellN (fun _ => HM7.out.cellQ) ?_
     simp only [Act.put, zA, zB, zC, zD, zF, zG]
     refine zP (i := 2) rfl (fun u hu => by go_simp; try rfl) HM7.out.cellN (fun _ => HM7.out.cellQ) ?_
     simp only [Act.put, zA, zB, zC, zD, zF, zG]
     refine zP (i := 3) rfl (fun u hu => by go_simp; try rfl) HM7.out.cellN (fun _ => HM7.out.cellQ) ?_
     simp only [Act.put, zA, zB, zC, zD, zF, zG]
     refine zP (i := 4) rfl (fun u hu => by go_simp; try rfl) HM7.out.cellN (fun _ => HM7.out.cellQ) ?_
     simp only [Act.put, zA, zB, zC, zD, zF, zG]
     refine zR 5 rfl (fun K hK => ?_)
     go_simp
     obtain ⟨kk, hss⟩ := HM7.out.str
     refine (streamNext _ (fun b => S b ∧ b < w.heap.size) (w.heap.size + 1) kk N l hss hSB (by omega) (by omega)).mono ?_
     rintro e w9 ⟨rfl, hs9, hg9⟩
     have HM9 := zh (HM7.out.next hs9 hg9)
     obtain ⟨hy0, hy1⟩ := nv_range l kk N (by omega)
     generalize nv l kk N = y at *
     clear hs9 hg9 hss
     obtain ⟨A2, c2, w2x, hrun, hq1, hq2, hqT, hqN, hM2⟩ := HM9.out.push (false, y) (by omega)
     have HRUN := zh hrun
     have HM2 := zh hM2
     have HQ1 := zh hq1
     have HQ2 := zh hq2
     have HQX := zh hqN
     clear hrun hM2 hq1 hq2 hqT hqN
     refine hK.out _ _ HM9.out.cellN (fun _ => HM9.out.cellQ) ?_
     clear hK K
     refine zP (i := 6) rfl (fun u hu => by go_simp; try rfl) HM9.out.cellN (fun _ => HM9.out.cellQ) ?_
     simp only [Act.put, zA, zB, zC, zD, zF, zG]
     refine zR 7 rfl (fun K hK => ?_)
     go_simp
     refine hK.out _ _ (Kept.alloc (fun _ => True) _ _ _ _ trivial HM9.out.cellN) (fun _ => (Kept.alloc (fun _ => True) _ _ _ _ trivial HM9.out.cellQ)) ?_
     clear hK K
     refine zR 8 rfl (fun K hK => ?_)
     refine step_append_run _ (by rfl) _ _ _ _ (by rfl) _ _ (by rfl) (by rfl) _ _ HRUN.out ?_
     simp only [Act.put, zA, zB, zC, zD, zF, zG]
     refine hK.out _ _ HQX.out (fun _ => HQ1.out) ?_
     clear hK K
     refine zP (i := 9) rfl (fun u hu => by go_simp; try rfl) HQX.out (fun _ => HQ1.out) ?_
     simp only [Act.put, zA, zB, zC, zD, zF, zG]
     refine zR 10 rfl (fun K hK => ?_)
     have hc := HQ1.out
     have hf := HQ2.out
     go_simp
     clear hc hf
     refine hK.out _ _ (setOther _ (p := ⟨Br, 1, none⟩) HQX.out (by simp; omega)) (fun h => absurd (h 10 (by simp)) (by decide)) ?_
     clear hK K
     refine wpAnyL_done (by kernel_rfl) ?_ _
     go_wp2_with fail
     go_roundg (Q - (j + 1))
     case measure => rw [HGJ.out]; omega
     case rel => exact ⟨j + 1, right ++ [(false, y)], _, by omega, rfl, by go_num, by rw [List.length_append, HRJ.out]; rfl, (fun x hx => by rcases List.mem_append.1 hx with h | h; exact HSJ.out x h; obtain rfl := List.mem_singleton.1 h; exact ⟨hy0, hy1⟩), HM2.out⟩
    obtain rfl : j = Q := by omega
    go_wp2_with fail
    obtain ⟨xsR, hR1, hR2, hR3⟩ := HMI.out.hR
    refine (makeHas _ _ _ _ _ _ rules (HMI.out.hR.own.sl) (by omega) _ _ _ (left, right) (HMI.out.hQ.sl) (by omega)).mono ?_
    rintro e w8 ⟨rfl, hb8⟩
    have HM8 := zh (HMI.out.below hb8)
    clear hb8 hoT hoN hoR hoL hoQ hR1 hR2 hR3
    have hoL := HM8.out.cellL
    have hoQ := HM8.out.cellQ
    have hoR := HM8.out.cellR
    have ho8 := HM8.out.o3
    by_cases hmem : (left, right) ∈ rules
    ·
     have hdec : decide ((left, right) ∈ rules) = true := by simp [hmem]
     have HMEM := zh hmem
     clear hmem
     rw [hdec]
     clear hdec
     go_wp2_with fail
     go_roundg (M - (s + 1))
     case measure => rw [HGK.out]; omega
     case rel => exact ⟨s + 1, rules, _, by omega, rfl, by go_num, OutG.skip HM8.out (HO.out.ok.more HMEM.out)⟩
    have hdec : decide ((left, right) ∈ rules) = false := by simp [hmem]
    have HMEM := zh hmem
    clear hmem
    rw [hdec]
    clear hdec
    obtain ⟨A2, c2, w2x, hrun, hc3, hf3, hout⟩ := OutG.add HM8.out (HO.out.ok.add HMEM.out ⟨hl0, hl1⟩ (by omega) HSJ.out) (by omega)
    have HRUN := zh hrun
    have HOUT := zh hout
    clear hrun hout
    have hlBg : Bg < w8.heap.size := by omega
    have hlBr : Br < w8.heap.size := by omega
    go_wp2_with (at_builtin; refine Lib.wpList_append_run (o := ⟨some 68, _, _, _, _, _⟩) _ rfl _ _ _ _ rfl _ _ rfl rfl _ _ HRUN.out ?_)
    go_roundg (M - (s + 1))
    case measure => rw [HGK.out]; omega
    case rel => exact ⟨s + 1, _, _, by omega, rfl, by go_num, HOUT.out⟩
  obtain rfl : s = M := by omega
  have hout := HO.out
  have hc0 : wr.cell? ⟨Bg, 0, none⟩ = some (.int .i64 T) := by simp [World.cell?, hout.hg]
  have hc2 : wr.cell? ⟨Bg, 2, none⟩ = some (.int .i64 x3) := by simp [World.cell?, hout.hg]
  have hc3 : wr.cell? ⟨Bg, 3, none⟩ = some (.slice AR rules.length cR) := by simp [World.cell?, hout.hg]
  obtain ⟨hr0, hr1, hr2, hr3⟩ : wr.cell? ⟨w.heap.size, 0, none⟩ = some (.int .i64 0) ∧ wr.cell? ⟨w.heap.size, 1, none⟩ = some (.int .i64 0) ∧ wr.cell? ⟨w.heap.size, 2, none⟩ = some (.int .i64 0) ∧ wr.cell? ⟨w.heap.size, 3, none⟩ = some (.slice none 0 0) := by simp [World.cell?, hout.res]
  have hf : ∀ i, wr.frozen? ⟨w.heap.size, i, none⟩ = false := fun i => by simp [World.frozen?, hout.res]
  have hf0 := hf 0
  have hf1 := hf 1
  have hf2 := hf 2
  have hf3 := hf 3
  clear hf hout
  go_wp2_with fail
  refine bodyPost_ret (v := .agg #[.int .i64 T, .int .i64 N, .int .i64 x3, .slice AR rules.length cR]) (by simp [results, Tryz.results4, go_sem, hr0, hr1, hr2, hr3]) rfl ?_
  obtain ⟨k1, k2, k3, k4⟩ := HO.out.ok
  have hset : ∀ (u : World) (i : Nat) (v : Value), u.grownBy (u.setCell ⟨w.heap.size, i, none⟩ v) (some w.heap.size) := fun u i v => set_grown u i v
  have hB1 := HO.out.o1
  have hlt' : ∀ g, some w.heap.size = some g → g < Bg + 1 ∨ wr.heap.size ≤ g := fun g e => by injection e with e; exact Or.inl (by omega)
  refine ⟨(T, N, x3, rules), AR, cR, ⟨hT1, by dsimp only; omega, hN1, by dsimp only; omega, ⟨hb3a, hb3b⟩, by dsimp only; omega, fun r hr => ?_, k3⟩, ⟨hT3, hN4, k2 hM1, by dsimp only; omega, fun r hr => (k4 r hr).2.1⟩, rfl, ((((HO.out.hR.grown (hset _ 0 _) hlt').grown (hset _ 1 _) hlt').grown (hset _ 2 _) hlt').grown (hset _ 3 _) hlt').mono (by omega) (by simp [World.setCell]), (((HO.out.bel.setCell (Nat.le_refl _) _).setCell (Nat.le_refl _) _).setCell (Nat.le_refl _) _).setCell (Nat.le_refl _) _⟩
  obtain ⟨a1, a2, a3⟩ := k4 r hr
  exact ⟨a1, by omega, a3⟩
theorem makeGrammar (w : World) (A : Option Addr) (n c : Nat) (S : Nat → Prop) (l : List Int) (hr : Sl Rep.int w S A n c l) (hn : n ≤ 1000000000000000) :
    Calls Tryz.prog 4 #[.slice A n c] w fun e w' => ∃ (g : GramD) (AR : Option Addr) (cR : Nat), GValid g ∧ GSmall g ∧ e = .returned (.agg #[.int .i64 g.1, .int .i64 g.2.1, .int .i64 g.2.2.1, .slice AR g.2.2.2.length cR]) ∧
     Sl RRule w' (fun b => w.heap.size ≤ b) AR g.2.2.2.length cR g.2.2.2 ∧ Below w.heap.size w w' := by
 refine (makeGrammarK w A n c S l hr hn).mono ?_
 rintro e w' ⟨g, AR, cR, h1, h2, h3, h4, h5⟩
 exact ⟨g, AR, cR, h1, h2, h3, (OwnL.sl h4.own).more fun b hb => hb.elim False.elim id, h5⟩
end Go.Proofs.YtjnbjdbndbbanaaGreatDoor
