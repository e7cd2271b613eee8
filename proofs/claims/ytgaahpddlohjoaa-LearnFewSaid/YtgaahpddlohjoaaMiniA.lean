/- mini.Same: its two closures, its nodes, its map of pairs of states. -/
import Derived.Test.YtgaahpddlohjoaaWordsP
import Derived.Test.YtgaahpddlohjoaaGMap
import Derived.Test.YtgaahpddlohjoaaGramHas
import Derived.Test.YtgaahpddlohjoaaDfaV
namespace Go.Proofs.Ytgaahpddlohjoaa
open Go.RowKit Go.Maps

theorem laidM : laidOutB Try.prog = true := by kernel_rfl
theorem pairKeyed : Keyed Try.prog 117 := Keyed.of_law (deep_law_laid laidM (m := 3) (by omega) (of_decide_eq_true (by kernel_rfl)) (by kernel_rfl) (by kernel_rfl))
theorem typesM : ∃ m, Try.prog.types.size + 1 = m + 2 := by
  have h : 0 < Try.prog.types.size := of_decide_eq_true (by kernel_rfl)
  exact ⟨Try.prog.types.size - 1, by omega⟩
theorem pairKey (a b : Int) (ha : -1000000 ≤ a ∧ a ≤ 1000000) (hb : -1000000 ≤ b ∧ b ≤ 1000000) : ∃ l, keyOf Try.prog 117 (.agg #[.int .i64 a, .int .i64 b]) = some l := by
  have wa : (Lit.int .i64 a).wf = true := WalkArith.wf_i64 (by omega)
  have wb : (Lit.int .i64 b).wf = true := WalkArith.wf_i64 (by omega)
  refine ⟨.string (keyBytes [.int .i64 a, .int .i64 b]), ?_⟩
  have hu := Try.underlying117
  unfold keyOf
  simp only [hu]
  have h1 : Try.prog.keyType 117 = true := by kernel_rfl
  have h2 : Try.prog.cellsOf 117 = 2 := by kernel_rfl
  obtain ⟨m, hm⟩ := typesM
  have h3 : Try.prog.cellsOf 3 = 1 := by kernel_rfl
  rw [if_pos (by simp [h1, Value.formed, hu, h2]), hm]
  unfold Program.keyLits
  simp only [hu, Value.cells]
  simp [Program.keyLits, Try.underlying3, h2, h3, wa, wb, List.range, List.range.loop, List.mapM_cons]
/-- pairs of ints as keys -/
def pairK : KeyRep Try.prog 117 (Int × Int) where
  keyed := pairKeyed
  val := fun p => .agg #[.int .i64 p.1, .int .i64 p.2]
  ok := fun p => (-1000000 ≤ p.1 ∧ p.1 ≤ 1000000) ∧ (-1000000 ≤ p.2 ∧ p.2 ≤ 1000000)
  lit := fun p h => pairKey p.1 p.2 h.1 h.2
  inj := fun p q h => by
    simp only [Value.agg.injEq, Array.mk.injEq, List.cons.injEq, Value.int.injEq, true_and, and_true] at h
    exact Prod.ext h.1 h.2
theorem mapPair : Try.prog.underlying 151 = some (.map 117 4) := by kernel_rfl
/-- a node: the two states, where it comes from, by which symbol -/
abbrev NodeD := Int × Int × Int × Int
abbrev RNode : Rep NodeD := Rep.prod Rep.int (Rep.prod Rep.int (Rep.prod Rep.int Rep.int))
theorem RNode.cells {w : World} {S : Nat → Prop} {cs : List Value} {s : NodeD} : RNode.ok w S cs s ↔ cs = [.int .i64 s.1, .int .i64 s.2.1, .int .i64 s.2.2.1, .int .i64 s.2.2.2] := by
  constructor
  · rintro ⟨c1, c2, rfl, h1, c3, c4, rfl, h3, c5, c6, rfl, h5, h6⟩
    rw [show c1 = _ from h1, show c3 = _ from h3, show c5 = _ from h5, show c6 = _ from h6]; rfl
  · rintro rfl
    exact ⟨[_], _, rfl, rfl, [_], _, rfl, rfl, [_], [_], rfl, rfl, rfl⟩
theorem tNodes : SlType Try.prog 150 149 4 32 (.agg #[.int .i64 0, .int .i64 0, .int .i64 0, .int .i64 0]) := ⟨by kernel_rfl, by kernel_rfl, by kernel_rfl, rfl, by decide⟩
/-- a node out of a slice of nodes -/
theorem node_at {w : World} {S : Nat → Prop} {A : Option Addr} {n c k : Nat} {l : List NodeD} (h : Sl RNode w S A n c l) (hk : k < n) :
    ∃ b off s, A = some ⟨b, off, none⟩ ∧ S b ∧ b < w.heap.size ∧ w.cell? ⟨b, off + k * 4, none⟩ = some (.int .i64 s.1) ∧ w.cell? ⟨b, off + k * 4 + 1, none⟩ = some (.int .i64 s.2.1) ∧ w.cell? ⟨b, off + k * 4 + 2, none⟩ = some (.int .i64 s.2.2.1) ∧ w.cell? ⟨b, off + k * 4 + 3, none⟩ = some (.int .i64 s.2.2.2) ∧ l[k]? = some s := by
  obtain ⟨xs, e1, e2, h3, h4⟩ := h
  subst e1
  have hg := h4.get hk
  have hl := h4.len
  obtain ⟨b, off, e, hS, hc⟩ := h3.2 (by omega)
  rw [show RNode.size = 4 from rfl] at hg hl
  have i1 : k * 4 < xs.length := by omega
  have i2 : k * 4 + 1 < xs.length := by omega
  have i3 : k * 4 + 1 + 1 < xs.length := by omega
  have i4 : k * 4 + 1 + 1 + 1 < xs.length := by omega
  rw [List.drop_eq_getElem_cons i1, List.drop_eq_getElem_cons i2, List.drop_eq_getElem_cons i3, List.drop_eq_getElem_cons i4] at hg
  have hg := RNode.cells.1 hg
  simp only [List.take_succ_cons, List.take_zero, List.cons.injEq, and_true] at hg
  obtain ⟨g1, g2, g3, g4⟩ := hg
  have c1 := hc _ _ (List.getElem?_eq_getElem i1)
  have c2 := hc _ _ (List.getElem?_eq_getElem i2)
  have c3 := hc _ _ (List.getElem?_eq_getElem i3)
  have c4 := hc _ _ (List.getElem?_eq_getElem i4)
  rw [g1] at c1
  rw [g2] at c2
  rw [g3] at c3
  rw [g4] at c4
  exact ⟨b, off, l[k], e, hS, cell_lt c1, c1, c2, c3, c4, List.getElem?_eq_getElem hk⟩
set_option maxHeartbeats 1000000 in
theorem sameRes (w : World) (S : Nat → Prop) (A : Option Addr) (nA cA : Nat) (N : Option Addr) (n cN : Nat) (d : DfaD) (hA : Sl Rep.int w S A nA cA d.2.1) (hv : Valid d) (s : Int) (hs : -1 ≤ s ∧ s < d.2.2.length) :
    Calls Try.prog 88 #[.agg #[.int .i64 d.1, .slice A nA cA, .slice N n cN], .int .i64 s] w fun e w' => e = .returned (.int .i64 (dat d s)) ∧ Below w.heap.size w w' := by
  by_cases h0 : s < 0
  · have hd : dat d s = -1 := by unfold dat; rw [if_pos h0]
    have HD := Lib.hid hd
    clear hA hv hs hd
    go_enter Try.func88, Try.ntmps88
    go_wp2_with fail
    go_ret
    exact ⟨ret_int HD.out.symm, (Below.refl _ _).alloc (Nat.le_refl _) _⟩
  · obtain ⟨b, off, rfl, hc1, hn⟩ := acc_at hA hv (s := s) ⟨by omega, hs.2⟩
    have l1 := cell_lt hc1
    have i1 : (0 : Int) ≤ s := by omega
    have i2 : s < (nA : Int) := by omega
    clear hA hv hs hn
    generalize dat d s = q at *
    go_enter Try.func88, Try.ntmps88
    go_wp2_with fail
    go_ret
    exact ⟨rfl, (Below.refl _ _).alloc (Nat.le_refl _) _⟩
set_option maxHeartbeats 1000000 in
theorem sameTo (w : World) (S : Nat → Prop) (A : Option Addr) (nA cA : Nat) (N : Option Addr) (n cN : Nat) (d : DfaD) (hN : Sl RI w S N n cN d.2.2) (hv : Valid d) (s c : Int) (hs : -1 ≤ s ∧ s < d.2.2.length) (hc : 0 ≤ c ∧ c < cols d) :
    Calls Try.prog 89 #[.agg #[.int .i64 d.1, .slice A nA cA, .slice N n cN], .int .i64 s, .int .i64 c] w fun e w' => e = .returned (.int .i64 (dto d s c)) ∧ Below w.heap.size w w' := by
  by_cases h0 : s < 0
  · have hd : dto d s c = -1 := by unfold dto; rw [if_pos h0]
    have HD := Lib.hid hd
    clear hN hv hs hc hd
    go_enter Try.func89, Try.ntmps89
    go_wp2_with fail
    go_ret
    exact ⟨ret_int HD.out.symm, (Below.refl _ _).alloc (Nat.le_refl _) _⟩
  · obtain ⟨b, off, b', off', m, c', rfl, hc1, hc2, hm, hn⟩ := cell_at hN hv (s := s) (c := c) ⟨by omega, hs.2⟩ hc
    have l1 := cell_lt hc1
    have l2 := cell_lt hc2
    have i1 : (0 : Int) ≤ s := by omega
    have i2 : s < (n : Int) := by omega
    have i3 : (0 : Int) ≤ c := hc.1
    have i4 : c < (m : Int) := by rw [hm]; exact hc.2
    clear hN hv hs hc hm hn
    generalize dto d s c = q at *
    go_enter Try.func89, Try.ntmps89
    go_wp2_with fail
    go_ret
    exact ⟨rfl, (Below.refl _ _).alloc (Nat.le_refl _) _⟩
theorem entersRes : ∀ (args : Array Value) (u : World), (callFunc 88 args).run Try.prog u = .ok (.enter 88 args) u := enters_of Try.func88 (by kernel_rfl) rfl
theorem entersAft : ∀ (args : Array Value) (u : World), (callFunc 89 args).run Try.prog u = .ok (.enter 89 args) u := enters_of Try.func89 (by kernel_rfl) rfl

/-- the nodes of the words found -/
def NdOk (a b : DfaD) (ws : List (List Int)) (nds : List NodeD) : Prop :=
  nds.length = ws.length ∧ ∀ (k : Nat) (w : List Int), ws[k]? = some w → ∃ f s : Int, nds[k]? = some ((prD a b w).1, (prD a b w).2, f, s) ∧
    ((w = [] ∧ f = -1) ∨ ∃ (f' : Nat) (u : List Int), f = (f' : Int) ∧ f' < k ∧ ws[f']? = some u ∧ w = u ++ [s])
theorem NdOk.start (a b : DfaD) : NdOk a b [[]] [(a.1, b.1, -1, -1)] := ⟨rfl, fun k w h => by
  rcases Nat.eq_zero_or_pos k with h0 | h0
  · subst h0
    simp at h
    subst h
    exact ⟨-1, -1, rfl, .inl ⟨rfl, rfl⟩⟩
  · rw [List.getElem?_eq_none (by simp; omega)] at h; cases h⟩
theorem NdOk.add {a b : DfaD} {ws : List (List Int)} {nds : List NodeD} (h : NdOk a b ws nds) {i : Nat} {w : List Int} (hw : ws[i]? = some w) (s : Int) :
    NdOk a b (ws ++ [w ++ [s]]) (nds ++ [((prD a b (w ++ [s])).1, (prD a b (w ++ [s])).2, (i : Int), s)]) := by
  obtain ⟨h1, h2⟩ := h
  have hi : i < ws.length := (List.getElem?_eq_some_iff.1 hw).1
  refine ⟨by simp [h1], fun k v hk => ?_⟩
  rcases Nat.lt_trichotomy k ws.length with hlt | he | hgt
  · rw [List.getElem?_append_left hlt] at hk
    obtain ⟨f, t, e1, e2⟩ := h2 k v hk
    refine ⟨f, t, by rw [List.getElem?_append_left (by omega)]; exact e1, ?_⟩
    rcases e2 with e2 | ⟨f', u, e2, e3, e4, e5⟩
    · exact .inl e2
    · exact .inr ⟨f', u, e2, e3, by rw [List.getElem?_append_left (by omega)]; exact e4, e5⟩
  · subst he
    simp at hk
    subst hk
    exact ⟨(i : Int), s, by rw [List.getElem?_append_right (by omega), h1]; simp, .inr ⟨i, w, rfl, hi, by rw [List.getElem?_append_left hi]; exact hw, rfl⟩⟩
  · rw [List.getElem?_eq_none (by simp; omega)] at hk; cases hk
/-- the pairs seen -/
def seenL (a b : DfaD) (ws : List (List Int)) : List ((Int × Int) × Value) := ws.map fun w => (prD a b w, .bool true)
theorem seenL_lk (a b : DfaD) (ws : List (List Int)) (p : Int × Int) : (lk (seenL a b ws) p).getD (.bool false) = .bool (decide (∃ u ∈ ws, prD a b u = p)) := by
  induction ws with
  | nil => simp [seenL, lk]
  | cons w ws ih =>
    show (if prD a b w = p then some (Value.bool true) else lk (seenL a b ws) p).getD (.bool false) = _
    by_cases h : prD a b w = p
    · rw [if_pos h]; simp [h]
    · rw [if_neg h, ih]; simp [h]
theorem seenL_put (a b : DfaD) (ws : List (List Int)) (v : List Int) (h : ∀ u ∈ ws, prD a b u ≠ prD a b v) : putL (seenL a b ws) (prD a b v) (.bool true) = seenL a b (ws ++ [v]) := by
  rw [putL_new]
  · simp [seenL]
  · rw [seenL, List.map_map, List.mem_map]
    rintro ⟨u, hu, e⟩
    exact h u hu e
end Go.Proofs.Ytgaahpddlohjoaa
