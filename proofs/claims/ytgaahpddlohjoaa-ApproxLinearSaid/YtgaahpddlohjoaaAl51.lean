/- MiniA SlRevI -/
import Derived.Deep.LoopGhost
import Derived.Test.YtgaahpddlohjoaaAl04
import Derived.Test.YtgaahpddlohjoaaAl06
import Derived.Test.YtgaahpddlohjoaaAl07
import Derived.Test.YtgaahpddlohjoaaAl12
import Derived.Test.YtgaahpddlohjoaaAl37
import Derived.Test.YtgaahpddlohjoaaAl50
namespace Go.Proofs.Ytgaahpddlohjoaa
open Go.RowKit Go.Maps
theorem laidM : laidOutB Try.prog = true := by kernel_rfl
theorem pairKeyed : Keyed Try.prog 117 := Keyed.of_law (deep_law_laid laidM (m := 3) (by omega) (of_decide_eq_true (by kernel_rfl)) (by kernel_rfl) (by kernel_rfl))
theorem typesM : ∃ m, Try.prog.types.size + 1 = m + 2 := by
 have h : 0 < Try.prog.types.size := of_decide_eq_true (by kernel_rfl)
 exact ⟨Try.prog.types.size - 1, by omega⟩
theorem pairKey (a b : Int) (ha : -1000000 ≤ a ∧ a ≤ 1000000) (hb : -1000000 ≤ b ∧ b ≤ 1000000) : ∃ l, keyOf Try.prog 117 (.agg #[.int .i64 a, .int .i64 b]) = some l := by
 have wa : (Lit.int .i64 a).wf = true := WalkArith.wf_i64 (by omega)
 have wb : (Lit.int .i64 b).wf = true := WalkArith.wf_i64 (by omega)
 refine ⟨.string (keyBytes [.int .i64 a, .int .i64 b]), ?_⟩
 have hu := Try.underlying117
 unfold keyOf
 simp only [hu]
 have h1 : Try.prog.keyType 117 = true := by kernel_rfl
 have h2 : Try.prog.cellsOf 117 = 2 := by kernel_rfl
 obtain ⟨m, hm⟩ := typesM
 have h3 : Try.prog.cellsOf 3 = 1 := by kernel_rfl
 rw [if_pos (by simp [h1, Value.formed, hu, h2]), hm]
 unfold Program.keyLits
 simp only [hu, Value.cells]
 simp [Program.keyLits, Try.underlying3, h2, h3, wa, wb, List.range, List.range.loop, List.mapM_cons]
def pairK : KeyRep Try.prog 117 (Int × Int) where
 keyed := pairKeyed
 val := fun p => .agg #[.int .i64 p.1, .int .i64 p.2]
 ok := fun p => (-1000000 ≤ p.1 ∧ p.1 ≤ 1000000) ∧ (-1000000 ≤ p.2 ∧ p.2 ≤ 1000000)
 lit := fun p h => pairKey p.1 p.2 h.1 h.2
 inj := fun p q h => by
  simp only [Value.agg.injEq, Array.mk.injEq, List.cons.injEq, Value.int.injEq, true_and, and_true] at h
  exact Prod.ext h.1 h.2
theorem mapPair : Try.prog.underlying 151 = some (.map 117 4) := by kernel_rfl
abbrev NodeD := Int × Int × Int × Int
abbrev RNode : Rep NodeD := Rep.prod Rep.int (Rep.prod Rep.int (Rep.prod Rep.int Rep.int))
theorem RNode.cells {w : World} {S : Nat → Prop} {cs : List Value} {s : NodeD} : RNode.ok w S cs s ↔ cs = [.int .i64 s.1, .int .i64 s.2.1, .int .i64 s.2.2.1, .int .i64 s.2.2.2] := by
 constructor
 ·
  rintro ⟨c1, c2, rfl, h1, c3, c4, rfl, h3, c5, c6, rfl, h5, h6⟩
  rw [show c1 = _ from h1, show c3 = _ from h3, show c5 = _ from h5, show c6 = _ from h6]; rfl
 ·
  rintro rfl
  exact ⟨[_], _, rfl, rfl, [_], _, rfl, rfl, [_], [_], rfl, rfl, rfl⟩
theorem tNodes : SlType Try.prog 150 149 4 32 (.agg #[.int .i64 0, .int .i64 0, .int .i64 0, .int .i64 0]) := ⟨by kernel_rfl, by kernel_rfl, by kernel_rfl, rfl, by decide⟩
theorem node_at {w : World} {S : Nat → Prop} {A : Option Addr} {n c k : Nat} {l : List NodeD} (h : Sl RNode w S A n c l) (hk : k < n) :
    ∃ b off s, A = some ⟨b, off, none⟩ ∧ S b ∧ b < w.heap.size ∧ w.cell? ⟨b, off + k * 4, none⟩ = some (.int .i64 s.1) ∧ w.cell? ⟨b, off + k * 4 + 1, none⟩ = some (.int .i64 s.2.1) ∧ w.cell? ⟨b, off + k * 4 + 2, none⟩ = some (.int .i64 s.2.2.1) ∧ w.cell? ⟨b, off + k * 4 + 3, none⟩ = some (.int .i64 s.2.2.2) ∧ l[k]? = some s := by
 obtain ⟨xs, e1, e2, h3, h4⟩ := h
 subst e1
 have hg := h4.get hk
 have hl := h4.len
 obtain ⟨b, off, e, hS, hc⟩ := h3.2 (by omega)
 rw [show RNode.size = 4 from rfl] at hg hl
 have i1 : k * 4 < xs.length := by omega
 have i2 : k * 4 + 1 < xs.length := by omega
 have i3 : k * 4 + 1 + 1 < xs.length := by omega
 have i4 : k * 4 + 1 + 1 + 1 < xs.length := by omega
 rw [List.drop_eq_getElem_cons i1, List.drop_eq_getElem_cons i2, List.drop_eq_getElem_cons i3, List.drop_eq_getElem_cons i4] at hg
 have hg := RNode.cells.1 hg
 simp only [List.take_succ_cons, List.take_zero, List.cons.injEq, and_true] at hg
 obtain ⟨g1, g2, g3, g4⟩ := hg
 have c1 := hc _ _ (List.getElem?_eq_getElem i1)
 have c2 := hc _ _ (List.getElem?_eq_getElem i2)
 have c3 := hc _ _ (List.getElem?_eq_getElem i3)
 have c4 := hc _ _ (List.getElem?_eq_getElem i4)
 rw [g1] at c1
 rw [g2] at c2
 rw [g3] at c3
 rw [g4] at c4
 exact ⟨b, off, l[k], e, hS, cell_lt c1, c1, c2, c3, c4, List.getElem?_eq_getElem hk⟩
set_option maxHeartbeats 1000000 in
theorem sameRes (w : World) (S : Nat → Prop) (A : Option Addr) (nA cA : Nat) (N : Option Addr) (n cN : Nat) (d : DfaD) (hA : Sl Rep.int w S A nA cA d.2.1) (hv : Valid d) (s : Int) (hs : -1 ≤ s ∧ s < d.2.2.length) :
    Calls Try.prog 88 #[.agg #[.int .i64 d.1, .slice A nA cA, .slice N n cN], .int .i64 s] w fun e w' => e = .returned (.int .i64 (dat d s)) ∧ Below w.heap.size w w' := by
 by_cases h0 : s < 0
 ·
  have hd : dat d s = -1 := by unfold dat; rw [if_pos h0]
  have HD := Lib.hid hd
  clear hA hv hs hd
  go_enter Try.func88, Try.ntmps88
  go_wp2_with fail
  go_ret
  exact ⟨ret_int HD.out.symm, (Below.refl _ _).alloc (Nat.le_refl _) _⟩
 ·
  obtain ⟨b, off, rfl, hc1, hn⟩ := acc_at hA hv (s := s) ⟨by omega, hs.2⟩
  have l1 := cell_lt hc1
  have i1 : (0 : Int) ≤ s := by omega
  have i2 : s < (nA : Int) := by omega
  clear hA hv hs hn
  generalize dat d s = q at *
  go_enter Try.func88, Try.ntmps88
  go_wp2_with fail
  go_ret
  exact ⟨rfl, (Below.refl _ _).alloc (Nat.le_refl _) _⟩
set_option maxHeartbeats 1000000 in
theorem sameTo (w : World) (S : Nat → Prop) (A : Option Addr) (nA cA : Nat) (N : Option Addr) (n cN : Nat) (d : DfaD) (hN : Sl RI w S N n cN d.2.2) (hv : Valid d) (s c : Int) (hs : -1 ≤ s ∧ s < d.2.2.length) (hc : 0 ≤ c ∧ c < cols d) :
    Calls Try.prog 89 #[.agg #[.int .i64 d.1, .slice A nA cA, .slice N n cN], .int .i64 s, .int .i64 c] w fun e w' => e = .returned (.int .i64 (dto d s c)) ∧ Below w.heap.size w w' := by
 by_cases h0 : s < 0
 ·
  have hd : dto d s c = -1 := by unfold dto; rw [if_pos h0]
  have HD := Lib.hid hd
  clear hN hv hs hc hd
  go_enter Try.func89, Try.ntmps89
  go_wp2_with fail
  go_ret
  exact ⟨ret_int HD.out.symm, (Below.refl _ _).alloc (Nat.le_refl _) _⟩
 ·
  obtain ⟨b, off, b', off', m, c', rfl, hc1, hc2, hm, hn⟩ := cell_at hN hv (s := s) (c := c) ⟨by omega, hs.2⟩ hc
  have l1 := cell_lt hc1
  have l2 := cell_lt hc2
  have i1 : (0 : Int) ≤ s := by omega
  have i2 : s < (n : Int) := by omega
  have i3 : (0 : Int) ≤ c := hc.1
  have i4 : c < (m : Int) := by rw [hm]; exact hc.2
  clear hN hv hs hc hm hn
  generalize dto d s c = q at *
  go_enter Try.func89, Try.ntmps89
  go_wp2_with fail
  go_ret
  exact ⟨rfl, (Below.refl _ _).alloc (Nat.le_refl _) _⟩
theorem entersRes : ∀ (args : Array Value) (u : World), (callFunc 88 args).run Try.prog u = .ok (.enter 88 args) u := enters_of Try.func88 (by kernel_rfl) rfl
theorem entersAft : ∀ (args : Array Value) (u : World), (callFunc 89 args).run Try.prog u = .ok (.enter 89 args) u := enters_of Try.func89 (by kernel_rfl) rfl
def NdOk (a b : DfaD) (ws : List (List Int)) (nds : List NodeD) : Prop :=
 nds.length = ws.length ∧ ∀ (k : Nat) (w : List Int), ws[k]? = some w → ∃ f s : Int, nds[k]? = some ((prD a b w).1, (prD a b w).2, f, s) ∧
  ((w = [] ∧ f = -1) ∨ ∃ (f' : Nat) (u : List Int), f = (f' : Int) ∧ f' < k ∧ ws[f']? = some u ∧ w = u ++ [s])
theorem NdOk.start (a b : DfaD) : NdOk a b [[]] [(a.1, b.1, -1, -1)] := ⟨rfl, fun k w h => by
 rcases Nat.eq_zero_or_pos k with h0 | h0
 ·
  subst h0
  simp at h
  subst h
  exact ⟨-1, -1, rfl, .inl ⟨rfl, rfl⟩⟩
 ·
  rw [List.getElem?_eq_none (by simp; omega)] at h; cases h⟩
theorem NdOk.add {a b : DfaD} {ws : List (List Int)} {nds : List NodeD} (h : NdOk a b ws nds) {i : Nat} {w : List Int} (hw : ws[i]? = some w) (s : Int) :
    NdOk a b (ws ++ [w ++ [s]]) (nds ++ [((prD a b (w ++ [s])).1, (prD a b (w ++ [s])).2, (i : Int), s)]) := by
 obtain ⟨h1, h2⟩ := h
 have hi : i < ws.length := (List.getElem?_eq_some_iff.1 hw).1
 refine ⟨by simp [h1], fun k v hk => ?_⟩
 rcases Nat.lt_trichotomy k ws.length with hlt | he | hgt
 ·
  rw [List.getElem?_append_left hlt] at hk
  obtain ⟨f, t, e1, e2⟩ := h2 k v hk
  refine ⟨f, t, by rw [List.getElem?_append_left (by omega)]; exact e1, ?_⟩
  rcases e2 with e2 | ⟨f', u, e2, e3, e4, e5⟩
  ·
   exact .inl e2
  ·
   exact .inr ⟨f', u, e2, e3, by rw [List.getElem?_append_left (by omega)]; exact e4, e5⟩
 ·
  subst he
  simp at hk
  subst hk
  exact ⟨(i : Int), s, by rw [List.getElem?_append_right (by omega), h1]; simp, .inr ⟨i, w, rfl, hi, by rw [List.getElem?_append_left hi]; exact hw, rfl⟩⟩
 ·
  rw [List.getElem?_eq_none (by simp; omega)] at hk; cases hk
def seenL (a b : DfaD) (ws : List (List Int)) : List ((Int × Int) × Value) := ws.map fun w => (prD a b w, .bool true)
theorem seenL_lk (a b : DfaD) (ws : List (List Int)) (p : Int × Int) : (lk (seenL a b ws) p).getD (.bool false) = .bool (decide (∃ u ∈ ws, prD a b u = p)) := by
 induction ws with
 | nil => simp [seenL, lk]
 | cons w ws ih =>
  show (if prD a b w = p then some (Value.bool true) else lk (seenL a b ws) p).getD (.bool false) = _
  by_cases h : prD a b w = p
  ·
   rw [if_pos h]; simp [h]
  ·
   rw [if_neg h, ih]; simp [h]
theorem seenL_put (a b : DfaD) (ws : List (List Int)) (v : List Int) (h : ∀ u ∈ ws, prD a b u ≠ prD a b v) : putL (seenL a b ws) (prD a b v) (.bool true) = seenL a b (ws ++ [v]) := by
 rw [putL_new]
 ·
  simp [seenL]
 ·
  rw [seenL, List.map_map, List.mem_map]
  rintro ⟨u, hu, e⟩
  exact h u hu e
end Go.Proofs.Ytgaahpddlohjoaa
namespace Go.Proofs.Ytgaahpddlohjoaa
open Go.RowKit
def Fst (w : World) (g n : Nat) (E : TypeId) (sz : Nat) (p : Nat → Value) : Prop := ∃ cur : Array Value, w.heap[g]? = some (.cells cur E (0, 0)) ∧ cur.size = sz ∧ ∀ k, k < n → cur[k]? = some (p k)
section
variable {w w' : World} {g n sz : Nat} {E : TypeId} {p : Nat → Value}
theorem Fst.at_ (h : Fst w g n E sz p) {k : Nat} (hk : k < n) : w.cell? ⟨g, k, none⟩ = some (p k) := by
 obtain ⟨cur, h1, _, h2⟩ := h
 rw [cell_of_row _ _ _ _ _ _ h1]
 exact h2 k hk
theorem Fst.fr (h : Fst w g n E sz p) (k : Nat) : w.frozen? ⟨g, k, none⟩ = false := by
 obtain ⟨cur, h1, _⟩ := h
 simp [World.frozen?, h1]
theorem Fst.set (h : Fst w g n E sz p) {k : Nat} (hk : k < n) (a : Value) : Fst (w.setCell ⟨g, k, none⟩ a) g n E sz (fun i => if i = k then a else p i) := by
 obtain ⟨cur, h1, h2, h3⟩ := h
 have hlt := (Array.getElem?_eq_some_iff.1 (h3 k hk)).1
 refine ⟨cur.setIfInBounds k a, heap_setCell_same w g _ cur E a h1, by simp [h2], fun i hi => ?_⟩
 have h4 := h3 i hi
 by_cases e : i = k
 ·
  subst e
  dsimp only
  rw [if_pos rfl, Array.getElem?_setIfInBounds, if_pos rfl, if_pos hlt]
 ·
  dsimp only
  rw [if_neg e, Array.getElem?_setIfInBounds, if_neg (by omega)]
  exact h4
theorem Fst.congr {q : Nat → Value} (h : Fst w g n E sz p) (e : ∀ k, k < n → p k = q k) : Fst w g n E sz q := by
 obtain ⟨cur, h1, h2, h3⟩ := h
 exact ⟨cur, h1, h2, fun k hk => by rw [← e k hk]; exact h3 k hk⟩
theorem Fst.drew (h : Fst w g n E sz p) : Fst w.drew g n E sz p := h
end
def revQ {α : Type} (n i : Nat) (p : Nat → α) (k : Nat) : α := if k < i ∨ n < k + i + 1 then p (n - 1 - k) else p k
theorem revQ_step {α : Type} {n i : Nat} {p : Nat → α} (h : i + i + 1 < n) (k : Nat) (hk : k < n) : (if k = n - 1 - i then revQ n i p i else if k = i then revQ n i p (n - 1 - i) else revQ n i p k) = revQ n (i + 1) p k := by
 unfold revQ
 by_cases h1 : k = n - 1 - i
 ·
  rw [if_pos h1, if_neg (by omega), if_pos (by omega)]
  congr 1
  omega
 ·
  rw [if_neg h1]
  by_cases h2 : k = i
  ·
   rw [if_pos h2, if_neg (by omega), if_pos (by omega), h2]
  ·
   rw [if_neg h2]
   by_cases h3 : k < i ∨ n < k + i + 1
   ·
    rw [if_pos h3, if_pos (by omega)]
   ·
    rw [if_neg h3, if_neg (by omega)]
theorem revQ_end {α : Type} {n i : Nat} {p : Nat → α} (h : n ≤ i + i + 1) (k : Nat) (hk : k < n) : revQ n i p k = p (n - 1 - k) := by
 unfold revQ
 split
 ·
  rfl
 ·
  congr 1
  omega
theorem setGr {g : Nat} (w2 : World) (i : Nat) (u : Value) : w2.grownBy (w2.setCell ⟨g, i, none⟩ u) (some g) := ⟨rfl, rfl, rfl, by simp [World.setCell], fun q _ hq => Below.heap_setCell w2 ⟨g, i, none⟩ _ q (fun e => hq (by rw [e]))⟩
theorem grownDr {w w' : World} {r : Option Nat} (h : w.grownBy w' r) : w.grownBy w'.drew r := ⟨h.os, h.tape, h.output, h.size, h.block⟩
set_option linter.unusedSimpArgs false in
set_option maxRecDepth 100000 in
set_option maxHeartbeats 4000000 in
theorem reverseIntF (w : World) (g n c sz : Nat) (p : Nat → Int) (hp : Fst w g n 3 sz (fun k => .int .i64 (p k))) (hn : n ≤ 1000000) :
    Calls Try.prog 90 #[.slice (some ⟨g, 0, none⟩) n c] w fun e w' => e = .returned (.tuple #[]) ∧ Fst w' g n 3 sz (fun k => .int .i64 (p (n - 1 - k))) ∧ w.grownBy w' (some g) := by
 have HP := Lib.hid hp
 clear hp
 go_enter Try.func90, Try.ntmps90
 go_wp2_with fail
 go_loopg [2, 3] n (fun gk a b wr => ∃ (i : Nat) (jj : Int), i ≤ n ∧ jj = (n : Int) - 1 - (i : Int) ∧ gk = n - i ∧ a = .int .i64 i ∧ b = .int .i64 jj ∧ Fst wr g n 3 sz (fun k => .int .i64 (revQ n i p k)) ∧ w.grownBy wr (some g))
 case atStart => exact ⟨0, _, Nat.zero_le _, rfl, rfl, rfl, by go_num, HP.out.congr (fun k hk => by unfold revQ; rw [if_neg (by omega)]), World.grownBy.refl w _⟩
 case round =>
  obtain ⟨i, jj, hi, hjj, hgk, rfl, rfl, hpr, hgr⟩ := hrel
  have HGK := Lib.hid hgk
  have HPR := Lib.hid hpr
  have HGR := Lib.hid hgr
  obtain ⟨w2, rfl⟩ : ∃ w2 : World, w2 = wr := ⟨_, rfl⟩
  clear hgk hpr hgr
  by_cases hlt : i + i + 1 < n
  ·
   obtain ⟨j, hj⟩ : ∃ j : Nat, j = n - 1 - i := ⟨_, rfl⟩
   obtain rfl : jj = (j : Int) := by omega
   have x0 := HPR.out.at_ (k := i) (by omega)
   have y0 := HPR.out.at_ (k := j) (by omega)
   obtain ⟨X, hX⟩ : ∃ X, X = revQ n i p i := ⟨_, rfl⟩
   obtain ⟨Y, hY⟩ : ∃ Y, Y = revQ n i p j := ⟨_, rfl⟩
   rw [← hX] at x0
   rw [← hY] at y0
   have HK := Lib.hid (And.intro x0 y0)
   have HF := Lib.hid (fun k => HPR.out.fr k)
   have HX := Lib.hid (And.intro hX hY)
   have HJ := Lib.hid hj
   have hijI : (i : Int) < (j : Int) := by omega
   have hjnI : (j : Int) < (n : Int) := by omega
   have hi0 : (0 : Int) ≤ (i : Int) := by omega
   have hj0 : (0 : Int) ≤ (j : Int) := by omega
   have hiI : (i : Int) < (n : Int) := by omega
   clear x0 y0 hX hY hj hjj
   go_wp2_with fail
   refine wp_region_late (late := [13, 15]) (S1 := fun _ => True) (S := fun u => u.cell? ⟨g, i, none⟩ = some (.int .i64 X) ∧ u.cell? ⟨g, j, none⟩ = some (.int .i64 Y)) (by kernel_rfl) ?_
   refine wpAnyL_pure (i := 0) rfl (by kernel_rfl) (fun _ _ _ h => h) (Or.inl ⟨by rfl, (fun u hu => by go_simp; try rfl)⟩) trivial (fun _ => HK.out) ?_
   simp only [Act.put, List.setIfInBounds_toArray, List.set_cons_zero, List.set_cons_succ, List.getElem_toArray, List.getElem_cons_zero, List.getElem_cons_succ]
   refine wpAnyL_pure (i := 1) rfl (by kernel_rfl) (fun _ _ _ h => h) (Or.inl ⟨by rfl, (fun u hu => by go_simp; try rfl)⟩) trivial (fun _ => HK.out) ?_
   simp only [Act.put, List.setIfInBounds_toArray, List.set_cons_zero, List.set_cons_succ, List.getElem_toArray, List.getElem_cons_zero, List.getElem_cons_succ]
   refine wpAnyL_pure (i := 2) rfl (by kernel_rfl) (fun _ _ _ h => h) (Or.inl ⟨by rfl, (fun u hu => by go_simp; try rfl)⟩) trivial (fun _ => HK.out) ?_
   simp only [Act.put, List.setIfInBounds_toArray, List.set_cons_zero, List.set_cons_succ, List.getElem_toArray, List.getElem_cons_zero, List.getElem_cons_succ]
   refine wpAnyL_pure (i := 3) rfl (by kernel_rfl) (fun _ _ _ h => h) (Or.inl ⟨by rfl, (fun u hu => by go_simp; try rfl)⟩) trivial (fun _ => HK.out) ?_
   simp only [Act.put, List.setIfInBounds_toArray, List.set_cons_zero, List.set_cons_succ, List.getElem_toArray, List.getElem_cons_zero, List.getElem_cons_succ]
   refine wpAnyL_pure (i := 4) rfl (by kernel_rfl) (fun _ _ _ h => h) (Or.inl ⟨by rfl, (fun u hu => by go_simp; try rfl)⟩) trivial (fun _ => HK.out) ?_
   simp only [Act.put, List.setIfInBounds_toArray, List.set_cons_zero, List.set_cons_succ, List.getElem_toArray, List.getElem_cons_zero, List.getElem_cons_succ]
   refine wpAnyL_pure (i := 5) rfl (by kernel_rfl) (fun _ _ _ h => h) (Or.inl ⟨by rfl, (fun u hu => by go_simp; try rfl)⟩) trivial (fun _ => HK.out) ?_
   simp only [Act.put, List.setIfInBounds_toArray, List.set_cons_zero, List.set_cons_succ, List.getElem_toArray, List.getElem_cons_zero, List.getElem_cons_succ]
   refine wpAnyL_pure (i := 6) rfl (by kernel_rfl) (fun _ _ _ h => h) (Or.inl ⟨by rfl, (fun u hu => by go_simp; try rfl)⟩) trivial (fun _ => HK.out) ?_
   simp only [Act.put, List.setIfInBounds_toArray, List.set_cons_zero, List.set_cons_succ, List.getElem_toArray, List.getElem_cons_zero, List.getElem_cons_succ]
   refine wpAnyL_take (i := 7) rfl (by kernel_rfl) (fun _ _ _ h => h) (Or.inl ⟨by rfl, (fun u hu => by obtain ⟨_, k0, k1⟩ := hu; go_simp; try rfl)⟩) trivial (fun _ => HK.out) ?_
   simp only [Act.put, List.setIfInBounds_toArray, List.set_cons_zero, List.set_cons_succ, List.getElem_toArray, List.getElem_cons_zero, List.getElem_cons_succ]
   refine wpAnyL_pure (i := 8) rfl (by kernel_rfl) (fun _ _ _ h => h) (Or.inl ⟨by rfl, (fun u hu => by go_simp; try rfl)⟩) trivial (fun _ => HK.out) ?_
   simp only [Act.put, List.setIfInBounds_toArray, List.set_cons_zero, List.set_cons_succ, List.getElem_toArray, List.getElem_cons_zero, List.getElem_cons_succ]
   refine wpAnyL_pure (i := 9) rfl (by kernel_rfl) (fun _ _ _ h => h) (Or.inl ⟨by rfl, (fun u hu => by go_simp; try rfl)⟩) trivial (fun _ => HK.out) ?_
   simp only [Act.put, List.setIfInBounds_toArray, List.set_cons_zero, List.set_cons_succ, List.getElem_toArray, List.getElem_cons_zero, List.getElem_cons_succ]
   refine wpAnyL_pure (i := 10) rfl (by kernel_rfl) (fun _ _ _ h => h) (Or.inl ⟨by rfl, (fun u hu => by go_simp; try rfl)⟩) trivial (fun _ => HK.out) ?_
   simp only [Act.put, List.setIfInBounds_toArray, List.set_cons_zero, List.set_cons_succ, List.getElem_toArray, List.getElem_cons_zero, List.getElem_cons_succ]
   refine wpAnyL_take (i := 11) rfl (by kernel_rfl) (fun _ _ _ h => h) (Or.inl ⟨by rfl, (fun u hu => by obtain ⟨_, k0, k1⟩ := hu; go_simp; try rfl)⟩) trivial (fun _ => HK.out) ?_
   simp only [Act.put, List.setIfInBounds_toArray, List.set_cons_zero, List.set_cons_succ, List.getElem_toArray, List.getElem_cons_zero, List.getElem_cons_succ]
   refine wpAnyL_pure (i := 12) rfl (by kernel_rfl) (fun _ _ _ h => h) (Or.inl ⟨by rfl, (fun u hu => by go_simp; try rfl)⟩) trivial (fun _ => HK.out) ?_
   simp only [Act.put, List.setIfInBounds_toArray, List.set_cons_zero, List.set_cons_succ, List.getElem_toArray, List.getElem_cons_zero, List.getElem_cons_succ]
   refine wpAnyL_ready (rs := [13]) (by kernel_rfl) (by simp) ?_
   refine AllL.cons rfl (fun K hK => ?_) ?_
   ·
    obtain ⟨c0, c1⟩ := HK.out
    have f0 := HF.out i
    have f1 := HF.out j
    have l1 := cell_lt c0
    have n1 : i ≠ j := by omega
    go_simp
    refine hK.out _ _ trivial (fun h => absurd (h 13 (by simp)) (by decide)) ?_
    clear hK K
    refine wpAnyL_pure (i := 14) rfl (by kernel_rfl) (fun _ _ _ h => h) (Or.inl ⟨by rfl, (fun u hu => by go_simp; try rfl)⟩) trivial (fun h => absurd (h 13 (by simp)) (by decide)) ?_
    simp only [Act.put, List.setIfInBounds_toArray, List.set_cons_zero, List.set_cons_succ, List.getElem_toArray, List.getElem_cons_zero, List.getElem_cons_succ]
    refine wpAnyL_ready (rs := [15]) (by kernel_rfl) (by simp) ?_
    refine AllL.cons rfl (fun K hK => ?_) ?_
    ·
     go_simp
     clear c0 c1 f0 f1 n1
     refine hK.out _ _ trivial (fun h => absurd (h 13 (by simp)) (by decide)) ?_
     clear hK K
     refine wpAnyL_done (by kernel_rfl) ?_ _
     have HST := Lib.hid ((HPR.out.set (k := i) (by omega) (.int .i64 Y)).set (k := j) (by omega) (.int .i64 X))
     have HGS := Lib.hid ((HGR.out.trans (setGr _ i (.int .i64 Y))).trans (setGr _ j (.int .i64 X)))
     go_wp2_with fail
     go_roundg (n - (i + 1))
     case measure => rw [HGK.out]; omega
     case rel =>
      refine ⟨i + 1, _, by omega, rfl, rfl, by go_num, by have := HJ.out; go_num, (HST.out.congr fun k hk => ?_).drew, grownDr HGS.out⟩
      obtain ⟨e1, e2⟩ := HX.out
      rw [← revQ_step hlt k hk, ← HJ.out, ← e1, ← e2]
      by_cases h1 : k = j
      ·
       rw [if_pos h1, if_pos h1]
      ·
       rw [if_neg h1, if_neg h1]
       by_cases h2 : k = i
       ·
        rw [if_pos h2, if_pos h2]
       ·
        rw [if_neg h2, if_neg h2]
    exact AllL.nil
   exact AllL.nil
  ·
   have hd : decide ((i : Int) < jj) = false := by simp; omega
   go_wp2_with fail
   go_end0
   exact ⟨rfl, HPR.out.congr (fun k hk => by rw [revQ_end (by omega) k hk]), HGR.out⟩
theorem reverseInt (w : World) (base : Nat) (A : Option Addr) (c : Nat) (l : List Int) (ho : Own w base 3 1 (.slice A l.length c) l.length (l.map (Value.int .i64))) (hn : l.length ≤ 1000000) :
    Calls Try.prog 90 #[.slice A l.length c] w fun e w' => e = .returned (.tuple #[]) ∧ Own w' base 3 1 (.slice A l.length c) l.length (l.reverse.map (Value.int .i64)) ∧ w.grownBy w' (rowOf (.slice A l.length c)) := by
 rcases Nat.eq_zero_or_pos l.length with h0 | h0
 ·
  have hl : l = [] := List.eq_nil_of_length_eq_zero h0
  subst hl
  have HO := Lib.hid ho
  clear ho h0 hn
  simp only [List.length_nil]
  go_enter Try.func90, Try.ntmps90
  go_wp2_with fail
  go_loop [2, 3] (fun a b => a = .int .i64 0 ∧ b = .int .i64 (-1)) (fun _ _ => 0)
  case atStart => exact ⟨rfl, rfl⟩
  case round =>
   obtain ⟨rfl, rfl⟩ := hrel
   go_wp2_with fail
   go_end0
   exact ⟨rfl, HO.out, World.grownBy.refl w _⟩
 ·
  rcases ho with ho | ⟨A', _, hz, _⟩
  ·
   rcases ho.2 with ⟨_, hz⟩ | ⟨g, cap, cur, e, hb, hh, hnc, hm, hs, ht⟩
   ·
    omega
   ·
    injection e with e1 _ e3
    subst e1
    subst e3
    rw [Nat.mul_one] at hs
    obtain ⟨c', rfl⟩ : ∃ c', c = c' + 1 := ⟨c - 1, by omega⟩
    have hcur : ∀ k, k < l.length → cur[k]? = some (.int .i64 (l.getD k 0)) := fun k hk => by
     have h1 : (cur.toList.take (l.length * 1))[k]? = (l.map (Value.int .i64))[k]? := by rw [ht]
     rw [List.getElem?_take, if_pos (by omega), List.getElem?_map, List.getElem?_eq_getElem hk] at h1
     rw [← Array.getElem?_toList, h1]
     simp [List.getD, List.getElem?_eq_getElem hk]
    refine (reverseIntF w g l.length (c' + 1) cur.size (fun k => l.getD k 0) ⟨cur, hh, rfl, hcur⟩ hn).mono ?_
    rintro e w' ⟨rfl, ⟨cur', h1, h2, h3⟩, hg⟩
    refine ⟨rfl, .inl ⟨by simp, .inr ⟨g, c' + 1, cur', rfl, hb, h1, hnc, hm, by omega, ?_⟩⟩, hg⟩
    rw [Nat.mul_one]
    apply List.ext_getElem?
    intro k
    rw [List.getElem?_take]
    by_cases hk : k < l.length
    ·
     rw [if_pos hk, Array.getElem?_toList, h3 k hk, List.getElem?_map, List.getElem?_reverse hk]
     simp [List.getD, List.getElem?_eq_getElem (show l.length - 1 - k < l.length by omega)]
    ·
     rw [if_neg hk, List.getElem?_eq_none (by simp; omega)]
  ·
   omega
end Go.Proofs.Ytgaahpddlohjoaa
