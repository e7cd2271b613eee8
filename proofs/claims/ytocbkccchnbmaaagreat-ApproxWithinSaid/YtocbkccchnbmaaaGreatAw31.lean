/- Two -/
import Derived.Test.YtocbkccchnbmaaaGreatAw04
import Derived.Test.YtocbkccchnbmaaaGreatAw06
namespace Go.Proofs.YtocbkccchnbmaaaGreat
open Go.RowKit
def Dis (a b : Value) : Prop := ∀ g, rowOf a = some g → rowOf b ≠ some g
structure Two (w : World) (base Bd : Nat) (start : Int) (acc : List Int) (rows : List (List Int)) (vA vN : Value) (xs : List Value) (r : List Int) (x : Int) (oV : Option Value) (oHN : Option Nat) (oN : Option Value) (oHA : Option Nat) (oA : Option Value) : Prop where
 blk : w.heap[Bd]? = some (.cells #[.int .i64 start, vA, vN] 29 (0, 0))
 lt : Bd < base
 le : base ≤ w.heap.size
 lowA : ∀ g, rowOf vA = some g → base ≤ g ∧ g < w.heap.size
 lowN : ∀ g, rowOf vN = some g → base ≤ g ∧ g < w.heap.size
 ne : Dis vA vN
 rown : RowsOwn w base vA vN xs rows
 xl : xs.length = rows.length
 ownA : oA = none → Own w base 3 1 vA acc.length (acc.map (Value.int .i64))
 ownN : oN = none → Own w base 22 1 vN rows.length xs
 V : ∀ v, oV = some v → Own w base 3 1 v r.length (r.map (Value.int .i64)) ∧ Dis v vA ∧ Dis v vN
 HN : ∀ H, oHN = some H → ∃ v, oV = some v ∧ w.cell? ⟨H, 0, none⟩ = some v ∧ rowOf vA ≠ some H ∧ rowOf vN ≠ some H
 N : ∀ u, oN = some u → ∃ v, oV = some v ∧ Own w base 22 1 u (rows.length + 1) (xs ++ [v]) ∧ Dis u vA ∧ Dis v u ∧ ∀ (i : Nat) (y : Value), xs[i]? = some y → Dis y u
 HA : ∀ H, oHA = some H → w.cell? ⟨H, 0, none⟩ = some (.int .i64 x) ∧ rowOf vA ≠ some H ∧ rowOf vN ≠ some H
 A : ∀ u, oA = some u → Own w base 3 1 u (acc.length + 1) ((acc ++ [x]).map (Value.int .i64)) ∧ Dis u vN ∧ (∀ v, oV = some v → Dis v u) ∧ ∀ (i : Nat) (y : Value), xs[i]? = some y → Dis y u
 NA : ∀ u u', oN = some u → oA = some u' → Dis u' u
section
variable {w w' : World} {base Bd : Nat} {start : Int} {acc : List Int} {rows : List (List Int)} {vA vN : Value} {xs : List Value} {r : List Int} {x : Int} {oV : Option Value} {oHN : Option Nat} {oN : Option Value} {oHA : Option Nat} {oA : Option Value}
theorem DfaB.two (h : DfaB w base Bd start acc rows vA vN xs) (r : List Int) (x : Int) : Two w base Bd start acc rows vA vN xs r x none none none none none :=
 ⟨h.blk, h.lt, h.le, fun g e => h.ownA.row e, fun g e => h.ownN.row e, h.ne, h.rown, by simpa using h.ownN.len, fun _ => h.ownA, fun _ => h.ownN, (fun v e => by cases e), (fun v e => by cases e), (fun v e => by cases e), (fun v e => by cases e), (fun v e => by cases e), fun v v' e => by cases e⟩
theorem DfaB.twoV (h : DfaB w base Bd start acc rows vA vN xs) (r : List Int) (x : Int) {v : Value} (hv : Own w base 3 1 v r.length (r.map (Value.int .i64))) (hA : Dis v vA) (hN : Dis v vN) : Two w base Bd start acc rows vA vN xs r x (some v) none none none none :=
 ⟨h.blk, h.lt, h.le, fun g e => h.ownA.row e, fun g e => h.ownN.row e, h.ne, h.rown, by simpa using h.ownN.len, fun _ => h.ownA, fun _ => h.ownN, (fun u e => by injection e with e; subst e; exact ⟨hv, hA, hN⟩), (fun v e => by cases e), (fun v e => by cases e), (fun v e => by cases e), (fun v e => by cases e), fun v v' e => by cases e⟩
theorem Two.cellA (h : Two w base Bd start acc rows vA vN xs r x oV oHN oN oHA oA) : w.cell? ⟨Bd, 1, none⟩ = some vA := by simp [World.cell?, h.blk]
theorem Two.cellN (h : Two w base Bd start acc rows vA vN xs r x oV oHN oN oHA oA) : w.cell? ⟨Bd, 2, none⟩ = some vN := by simp [World.cell?, h.blk]
theorem Two.fr (h : Two w base Bd start acc rows vA vN xs r x oV oHN oN oHA oA) (i : Nat) : w.frozen? ⟨Bd, i, none⟩ = false := by simp [World.frozen?, h.blk]
theorem Two.below (h : Two w base Bd start acc rows vA vN xs r x oV oHN oN oHA oA) (hb : Below w.heap.size w w') : Two w' base Bd start acc rows vA vN xs r x oV oHN oN oHA oA := by
 have hown : ∀ {E : TypeId} {v : Value} {n : Nat} {ys : List Value}, Own w base E 1 v n ys → Own w' base E 1 v n ys := fun ho => ho.below hb (Nat.le_refl _)
 have hs := hb.size
 refine ⟨(hb.block Bd (by have := h.lt; have := h.le; omega)).trans h.blk, h.lt, Nat.le_trans h.le hs, fun g e => ?_, fun g e => ?_, h.ne, ?_, h.xl, fun e => hown (h.ownA e), fun e => hown (h.ownN e), fun v e => ?_, fun H e => ?_, fun u e => ?_, fun H e => ?_, fun u e => ?_, h.NA⟩
 ·
  have := h.lowA g e; omega
 ·
  have := h.lowN g e; omega
 ·
  intro i v hv
  obtain ⟨r', h1, h2, h3⟩ := h.rown i v hv
  exact ⟨r', h1, hown h2, h3⟩
 ·
  obtain ⟨h1, h2⟩ := h.V v e
  exact ⟨hown h1, h2⟩
 ·
  obtain ⟨v, h1, h2, h3⟩ := h.HN H e
  exact ⟨v, h1, Kept.below (S := fun _ => True) hb _ _ trivial h2, h3⟩
 ·
  obtain ⟨v, h1, h2, h3⟩ := h.N u e
  exact ⟨v, h1, hown h2, h3⟩
 ·
  obtain ⟨h2, h3⟩ := h.HA H e
  exact ⟨Kept.below (S := fun _ => True) hb _ _ trivial h2, h3⟩
 ·
  obtain ⟨h2, h3⟩ := h.A u e
  exact ⟨hown h2, h3⟩
theorem Two.setV {v : Value} (h : Two w base Bd start acc rows vA vN xs r x none none none oHA oA) (hv : Own w' w.heap.size 3 1 v r.length (r.map (Value.int .i64))) (hb : Below w.heap.size w w') :
    Two w' base Bd start acc rows vA vN xs r x (some v) none none oHA oA := by
 have h' := h.below hb
 have hd : ∀ {u : Value}, (∀ g, rowOf u = some g → g < w.heap.size) → Dis v u := fun hu g e e' => by
  have := (hv.row e).1
  have := hu g e'
  omega
 refine { h' with V := fun u e => ?_, HN := (fun H e => by cases e), N := (fun u e => by cases e), A := fun u e => ?_ }
 ·
  injection e with e
  subst e
  exact ⟨hv.mono h.le, hd fun g e => (h.lowA g e).2, hd fun g e => (h.lowN g e).2⟩
 ·
  obtain ⟨h1, h2, h3, h4⟩ := h'.A u e
  refine ⟨h1, h2, fun v' e' => ?_, h4⟩
  injection e' with e'
  subst e'
  exact hd fun g e2 => (((h.A u e).1).row e2).2
theorem Two.allocN {v : Value} (h : Two w base Bd start acc rows vA vN xs r x (some v) none none oHA oA) (H : Nat) (hH : w.heap.size = H) (t : TypeId) : Two (w.alloc (.cells #[v] t)) base Bd start acc rows vA vN xs r x (some v) (some H) none oHA oA := by
 have h' := h.below ((Below.refl _ _).alloc (Nat.le_refl _) (.cells #[v] t))
 refine { h' with HN := fun K e => ?_, N := (fun u e => by cases e) }
 injection e with e
 subst e
 subst hH
 refine ⟨v, rfl, by simp, fun e => ?_, fun e => ?_⟩
 ·
  have := (h.lowA _ e).2; omega
 ·
  have := (h.lowN _ e).2; omega
theorem Two.allocA (h : Two w base Bd start acc rows vA vN xs r x oV oHN oN none none) (H : Nat) (hH : w.heap.size = H) (t : TypeId) : Two (w.alloc (.cells #[.int .i64 x] t)) base Bd start acc rows vA vN xs r x oV oHN oN (some H) none := by
 have h' := h.below ((Below.refl _ _).alloc (Nat.le_refl _) (.cells #[.int .i64 x] t))
 refine { h' with HA := fun K e => ?_, A := (fun u e => by cases e) }
 injection e with e
 subst e
 subst hH
 refine ⟨by simp, fun e => ?_, fun e => ?_⟩
 ·
  have := (h.lowA _ e).2; omega
 ·
  have := (h.lowN _ e).2; omega
theorem rd_one {w : World} {H : Nat} {v : Value} (h : w.cell? ⟨H, 0, none⟩ = some v) : Rd w (fun _ => True) 1 (some ⟨H, 0, none⟩) 1 [v] := by
 refine ⟨rfl, fun _ => ⟨H, 0, rfl, trivial, fun j u hu => ?_⟩⟩
 cases j with
 | zero => obtain rfl : v = u := by simpa using hu
           exact h
 | succ j => simp at hu
theorem Two.appN2 {v : Value} {H : Nat} (h : Two w base Bd start acc rows vA vN xs r x (some v) (some H) none oHA oA) (hl : rows.length ≤ 1000000) :
    ∃ u w2, (Builtin.append_ #[27, 27] 27 #[vN, .slice (some ⟨H, 0, none⟩) 1 1]).run Tryz.prog w = .ok u w2 ∧ (∃ A c, u = .slice A (rows.length + 1) c) ∧
     Two w2 base Bd start acc rows vA vN xs r x (some v) (some H) (some u) oHA oA ∧ Below base w w2 ∧ w.grownBy w2 (rowOf vN) ∧ (rowOf u = rowOf vN ∨ rowOf u = some w.heap.size) := by
 obtain ⟨hvo, hvA, hvN⟩ := h.V v rfl
 obtain ⟨_, e, hcell, hHA, hHN⟩ := h.HN H rfl
 injection e with e
 subst e
 have hone : v.oneCell' = true := by obtain ⟨A, c, rfl, _⟩ := hvo.form; rfl
 obtain ⟨u, w2, hrun, ho, hg, hrow⟩ := run_append_Own tIntss w 27 base vN rows.length xs (h.ownN rfl) (fun _ => True) (some ⟨H, 0, none⟩) 1 1 [v] (rd_one hcell) (by intro u hu; obtain rfl := List.mem_singleton.1 hu; exact hone) (by unfold maxLen; omega) (by omega) h.le
 have hb : Below base w w2 := Below.own (Below.refl _ _) (h.ownN rfl) hg (Nat.le_refl _) h.le
 have hs := hb.size
 have hk : ∀ {E : TypeId} {y : Value} {n : Nat} {ys : List Value}, Dis y vN → Own w base E 1 y n ys → Own w2 base E 1 y n ys := fun hd ho => ho.kept hg fun g e e' => hd g e' e
 have hd : ∀ {y : Value}, Dis y vN → (∀ g, rowOf y = some g → g < w.heap.size) → Dis y u := fun h1 h2 g e e' => by
  rcases hrow with k | k
  ·
   rw [k] at e'; exact h1 g e e'
  ·
   rw [k] at e'
   injection e' with e'
   have := h2 g e
   omega
 have hcl : ∀ {K : Nat} {y : Value}, rowOf vN ≠ some K → w.cell? ⟨K, 0, none⟩ = some y → w2.cell? ⟨K, 0, none⟩ = some y := fun {K y} h1 h2 => Kept.grown (S := fun b => b = K) hg (fun b hb => by rw [hb]; exact h1) _ _ rfl h2
 refine ⟨u, w2, hrun, ?_, ⟨(hb.block Bd h.lt).trans h.blk, h.lt, Nat.le_trans h.le hs, fun g e => ?_, fun g e => ?_, h.ne, ?_, h.xl, fun e => hk h.ne (h.ownA e), (fun e => by cases e), fun v' e => ?_, fun K e => ?_, fun u' e => ?_, fun K e => ?_, fun u' e => ?_, fun u1 u2 e1 e2 => ?_⟩, hb, hg, hrow⟩
 ·
  obtain ⟨A, c, rfl, _⟩ := ho.form
  exact ⟨A, c, rfl⟩
 ·
  have := h.lowA g e; omega
 ·
  have := h.lowN g e; omega
 ·
  intro i y hy
  obtain ⟨r', h1, h2, h3⟩ := h.rown i y hy
  exact ⟨r', h1, hk (fun g e => (h3 g e).2) h2, h3⟩
 ·
  injection e with e
  subst e
  exact ⟨hk hvN hvo, hvA, hvN⟩
 ·
  injection e with e
  subst e
  exact ⟨v, rfl, hcl hHN hcell, hHA, hHN⟩
 ·
  injection e with e
  subst e
  refine ⟨v, rfl, ho, ?_, hd hvN fun g e => (hvo.row e).2, fun i y hy => ?_⟩
  ·
   intro g e e'
   exact hd h.ne (fun g e => (h.lowA g e).2) g e' e
  ·
   obtain ⟨r', _, h2, h3⟩ := h.rown i y hy
   exact hd (fun g e => (h3 g e).2) fun g e => (h2.row e).2
 ·
  obtain ⟨h1, h2, h3⟩ := h.HA K e
  exact ⟨hcl h3 h1, h2, h3⟩
 ·
  obtain ⟨h1, h2, h3⟩ := h.A u' e
  exact ⟨hk h2 h1, h2, h3⟩
 ·
  injection e1 with e1
  subst e1
  obtain ⟨h1, h2, _⟩ := h.A u2 e2
  exact hd h2 fun g e => (h1.row e).2
theorem Two.appN {v : Value} {H : Nat} (h : Two w base Bd start acc rows vA vN xs r x (some v) (some H) none oHA oA) (hl : rows.length ≤ 1000000) :
    ∃ u w2, (Builtin.append_ #[27, 27] 27 #[vN, .slice (some ⟨H, 0, none⟩) 1 1]).run Tryz.prog w = .ok u w2 ∧ (∃ A c, u = .slice A (rows.length + 1) c) ∧
     Two w2 base Bd start acc rows vA vN xs r x (some v) (some H) (some u) oHA oA ∧ Below base w w2 := by
 obtain ⟨u, w2, h1, h2, h3, h4, _⟩ := h.appN2 hl
 exact ⟨u, w2, h1, h2, h3, h4⟩
theorem Two.appA2 {H : Nat} (h : Two w base Bd start acc rows vA vN xs r x oV oHN oN (some H) none) (hl : acc.length ≤ 1000000) :
    ∃ u w2, (Builtin.append_ #[22, 22] 22 #[vA, .slice (some ⟨H, 0, none⟩) 1 1]).run Tryz.prog w = .ok u w2 ∧ (∃ A c, u = .slice A (acc.length + 1) c) ∧
     Two w2 base Bd start acc rows vA vN xs r x oV oHN oN (some H) (some u) ∧ Below base w w2 ∧ w.grownBy w2 (rowOf vA) ∧ (rowOf u = rowOf vA ∨ rowOf u = some w.heap.size) := by
 obtain ⟨hcell, hHA, hHN⟩ := h.HA H rfl
 obtain ⟨u, w2, hrun, ho, hg, hrow⟩ := run_append_Own tInts w 22 base vA acc.length _ (h.ownA rfl) (fun _ => True) (some ⟨H, 0, none⟩) 1 1 [.int .i64 x] (rd_one hcell) (by intro u hu; obtain rfl := List.mem_singleton.1 hu; rfl) (by unfold maxLen; omega) (by omega) h.le
 have hb : Below base w w2 := Below.own (Below.refl _ _) (h.ownA rfl) hg (Nat.le_refl _) h.le
 have hs := hb.size
 have hk : ∀ {E : TypeId} {y : Value} {n : Nat} {ys : List Value}, Dis y vA → Own w base E 1 y n ys → Own w2 base E 1 y n ys := fun hd ho => ho.kept hg fun g e e' => hd g e' e
 have hd : ∀ {y : Value}, Dis y vA → (∀ g, rowOf y = some g → g < w.heap.size) → Dis y u := fun h1 h2 g e e' => by
  rcases hrow with k | k
  ·
   rw [k] at e'; exact h1 g e e'
  ·
   rw [k] at e'
   injection e' with e'
   have := h2 g e
   omega
 have hsym : Dis vN vA := fun g e e' => h.ne g e' e
 have hcl : ∀ {K : Nat} {y : Value}, rowOf vA ≠ some K → w.cell? ⟨K, 0, none⟩ = some y → w2.cell? ⟨K, 0, none⟩ = some y := fun {K y} h1 h2 => Kept.grown (S := fun b => b = K) hg (fun b hb => by rw [hb]; exact h1) _ _ rfl h2
 refine ⟨u, w2, hrun, ?_, ⟨(hb.block Bd h.lt).trans h.blk, h.lt, Nat.le_trans h.le hs, fun g e => ?_, fun g e => ?_, h.ne, ?_, h.xl, (fun e => by cases e), fun e => hk hsym (h.ownN e), fun v' e => ?_, fun K e => ?_, fun u' e => ?_, fun K e => ?_, fun u' e => ?_, fun u1 u2 e1 e2 => ?_⟩, hb, hg, hrow⟩
 ·
  obtain ⟨A, c, rfl, _⟩ := ho.form
  exact ⟨A, c, rfl⟩
 ·
  have := h.lowA g e; omega
 ·
  have := h.lowN g e; omega
 ·
  intro i y hy
  obtain ⟨r', h1, h2, h3⟩ := h.rown i y hy
  exact ⟨r', h1, hk (fun g e => (h3 g e).1) h2, h3⟩
 ·
  obtain ⟨h1, h2, h3⟩ := h.V v' e
  exact ⟨hk h2 h1, h2, h3⟩
 ·
  obtain ⟨v, h1, h2, h3, h4⟩ := h.HN K e
  exact ⟨v, h1, hcl h3 h2, h3, h4⟩
 ·
  obtain ⟨v, h1, h2, h3, h4⟩ := h.N u' e
  exact ⟨v, h1, hk h3 h2, h3, h4⟩
 ·
  injection e with e
  subst e
  exact ⟨hcl hHA hcell, hHA, hHN⟩
 ·
  injection e with e
  subst e
  refine ⟨by simpa using ho, ?_, fun v e => ?_, fun i y hy => ?_⟩
  ·
   intro g e e'
   exact hd hsym (fun g e => (h.lowN g e).2) g e' e
  ·
   obtain ⟨h1, h2, _⟩ := h.V v e
   exact hd h2 fun g e => (h1.row e).2
  ·
   obtain ⟨r', _, h2, h3⟩ := h.rown i y hy
   exact hd (fun g e => (h3 g e).1) fun g e => (h2.row e).2
 ·
  injection e2 with e2
  subst e2
  obtain ⟨v, _, h1, h2, _⟩ := h.N u1 e1
  intro g e e'
  exact hd h2 (fun g e => (h1.row e).2) g e' e
theorem Two.appA {H : Nat} (h : Two w base Bd start acc rows vA vN xs r x oV oHN oN (some H) none) (hl : acc.length ≤ 1000000) :
    ∃ u w2, (Builtin.append_ #[22, 22] 22 #[vA, .slice (some ⟨H, 0, none⟩) 1 1]).run Tryz.prog w = .ok u w2 ∧ (∃ A c, u = .slice A (acc.length + 1) c) ∧
     Two w2 base Bd start acc rows vA vN xs r x oV oHN oN (some H) (some u) ∧ Below base w w2 := by
 obtain ⟨u, w2, h1, h2, h3, h4, _⟩ := h.appA2 hl
 exact ⟨u, w2, h1, h2, h3, h4⟩
theorem Two.done {v u u' : Value} {H K : Nat} (h : Two w base Bd start acc rows vA vN xs r x (some v) (some H) (some u) (some K) (some u')) :
    DfaB ((w.setCell ⟨Bd, 2, none⟩ u).setCell ⟨Bd, 1, none⟩ u') base Bd start (acc ++ [x]) (rows ++ [r]) u' u (xs ++ [v]) := by
 obtain ⟨_, e, hN, hNA, hvu, hxu⟩ := h.N u rfl
 injection e with e
 subst e
 obtain ⟨hA, hAN, hvA, hxA⟩ := h.A u' rfl
 obtain ⟨hv, _, _⟩ := h.V v rfl
 have hin : ∀ {E : TypeId} {y : Value} {n : Nat} {ys : List Value}, Own w base E 1 y n ys → Own ((w.setCell ⟨Bd, 2, none⟩ u).setCell ⟨Bd, 1, none⟩ u') base E 1 y n ys := fun hy => by
  have hlt := h.lt
  have k1 : Own (w.setCell ⟨Bd, 2, none⟩ u) base _ 1 _ _ _ := hy.kept (set_grown (Bd := Bd) w 2 u) fun g e ev => by
   injection e with e
   have := (hy.row ev).1
   omega
  exact k1.kept (set_grown (Bd := Bd) _ 1 u') fun g e ev => by
   injection e with e
   have := (k1.row ev).1
   omega
 refine ⟨?_, hin (by simpa using hA), hin (by simpa using hN), ?_, h.lt, by simpa [World.setCell] using h.le, h.NA u u' rfl rfl⟩
 ·
  have k1 := blk_set h.blk 2 u
  have k2 := blk_set k1 1 u'
  simpa using k2
 ·
  intro i y hy
  rcases Nat.lt_or_ge i xs.length with hi | hi
  ·
   rw [List.getElem?_append_left hi] at hy
   obtain ⟨r', k1, k2, k3⟩ := h.rown i y hy
   exact ⟨r', by rw [List.getElem?_append_left (by rw [← h.xl]; omega)]; exact k1, hin k2, fun g e => ⟨hxA i y hy g e, hxu i y hy g e⟩⟩
  ·
   rw [List.getElem?_append_right hi] at hy
   have hi0 : i - xs.length = 0 := by
    rcases Nat.eq_zero_or_pos (i - xs.length) with h0 | h0
    ·
     exact h0
    ·
     rw [List.getElem?_eq_none (by simp; omega)] at hy; cases hy
   rw [hi0] at hy
   have e : v = y := by simpa using hy
   subst e
   exact ⟨r, by rw [List.getElem?_append_right (by rw [← h.xl]; omega), ← h.xl, hi0]; rfl, hin hv, fun g e => ⟨hvA v rfl g e, hvu g e⟩⟩
def ZApart (Z : Nat → Prop) (vA vN : Value) (xs : List Value) : Prop := ∀ b, Z b → rowOf vA ≠ some b ∧ rowOf vN ≠ some b ∧ ∀ (i : Nat) (v : Value), xs[i]? = some v → rowOf v ≠ some b
structure TwoZ (Z : Nat → Prop) (w0 w : World) (base Bd : Nat) (start : Int) (acc : List Int) (rows : List (List Int)) (vA vN : Value) (xs : List Value) (r : List Int) (x : Int) (oV : Option Value) (oHN : Option Nat) (oN : Option Value) (oHA : Option Nat) (oA : Option Value) : Prop where
 two : Two w base Bd start acc rows vA vN xs r x oV oHN oN oHA oA
 below : Below base w0 w
 lt : ∀ b, Z b → b < w0.heap.size ∧ b ≠ Bd
 ap : ZApart Z vA vN xs
 V : ∀ v, oV = some v → ∀ b, Z b → rowOf v ≠ some b
 N : ∀ u, oN = some u → ∀ b, Z b → rowOf u ≠ some b
 A : ∀ u, oA = some u → ∀ b, Z b → rowOf u ≠ some b
 keep : ∀ b, Z b → w.heap[b]? = w0.heap[b]?
 sz : w0.heap.size ≤ w.heap.size
section
variable {Z : Nat → Prop} {w0 : World}
theorem DfaB.twoZ (h : DfaB w base Bd start acc rows vA vN xs) (r : List Int) (x : Int) {v : Value} (hv : Own w base 3 1 v r.length (r.map (Value.int .i64))) (hA : Dis v vA) (hN : Dis v vN) (hlt : ∀ b, Z b → b < w.heap.size ∧ b ≠ Bd) (hap : ZApart Z vA vN xs) (hV : ∀ b, Z b → rowOf v ≠ some b) :
    TwoZ Z w w base Bd start acc rows vA vN xs r x (some v) none none none none :=
 ⟨h.twoV r x hv hA hN, Below.refl _ _, hlt, hap, (fun u e => by injection e with e; subst e; exact hV), (fun v e => by cases e), (fun v e => by cases e), fun _ _ => rfl, Nat.le_refl _⟩
theorem TwoZ.allocN {v : Value} (h : TwoZ Z w0 w base Bd start acc rows vA vN xs r x (some v) none none oHA oA) (H : Nat) (hH : w.heap.size = H) (t : TypeId) : TwoZ Z w0 (w.alloc (.cells #[v] t)) base Bd start acc rows vA vN xs r x (some v) (some H) none oHA oA :=
 ⟨h.two.allocN H hH t, h.below.alloc h.two.le _, h.lt, h.ap, h.V, (fun v e => by cases e), h.A, fun b hb => (Below.heap_alloc _ _ _ (Nat.lt_of_lt_of_le (h.lt b hb).1 h.sz)).trans (h.keep b hb), by have := h.sz; simp; omega⟩
theorem TwoZ.allocA (h : TwoZ Z w0 w base Bd start acc rows vA vN xs r x oV oHN oN none none) (H : Nat) (hH : w.heap.size = H) (t : TypeId) : TwoZ Z w0 (w.alloc (.cells #[.int .i64 x] t)) base Bd start acc rows vA vN xs r x oV oHN oN (some H) none :=
 ⟨h.two.allocA H hH t, h.below.alloc h.two.le _, h.lt, h.ap, h.V, h.N, (fun v e => by cases e), fun b hb => (Below.heap_alloc _ _ _ (Nat.lt_of_lt_of_le (h.lt b hb).1 h.sz)).trans (h.keep b hb), by have := h.sz; simp; omega⟩
theorem TwoZ.appN {v : Value} {H : Nat} (h : TwoZ Z w0 w base Bd start acc rows vA vN xs r x (some v) (some H) none oHA oA) (hl : rows.length ≤ 1000000) :
    ∃ u w2, (Builtin.append_ #[27, 27] 27 #[vN, .slice (some ⟨H, 0, none⟩) 1 1]).run Tryz.prog w = .ok u w2 ∧ (∃ A c, u = .slice A (rows.length + 1) c) ∧ TwoZ Z w0 w2 base Bd start acc rows vA vN xs r x (some v) (some H) (some u) oHA oA := by
 obtain ⟨u, w2, h1, h2, h3, hb, hg, hrow⟩ := h.two.appN2 hl
 refine ⟨u, w2, h1, h2, h3, h.below.trans hb, h.lt, h.ap, h.V, fun u' e b hz => ?_, h.A, fun b hz => ?_, Nat.le_trans h.sz hg.size⟩
 ·
  injection e with e
  subst e
  rcases hrow with e | e
  ·
   rw [e]; exact (h.ap b hz).2.1
  ·
   rw [e]
   intro e'
   injection e' with e'
   have := (h.lt b hz).1
   have := h.sz
   omega
 ·
  exact (hg.block b (Nat.lt_of_lt_of_le (h.lt b hz).1 h.sz) (fun e => (h.ap b hz).2.1 e.symm)).trans (h.keep b hz)
theorem TwoZ.appA {H : Nat} (h : TwoZ Z w0 w base Bd start acc rows vA vN xs r x oV oHN oN (some H) none) (hl : acc.length ≤ 1000000) :
    ∃ u w2, (Builtin.append_ #[22, 22] 22 #[vA, .slice (some ⟨H, 0, none⟩) 1 1]).run Tryz.prog w = .ok u w2 ∧ (∃ A c, u = .slice A (acc.length + 1) c) ∧ TwoZ Z w0 w2 base Bd start acc rows vA vN xs r x oV oHN oN (some H) (some u) := by
 obtain ⟨u, w2, h1, h2, h3, hb, hg, hrow⟩ := h.two.appA2 hl
 refine ⟨u, w2, h1, h2, h3, h.below.trans hb, h.lt, h.ap, h.V, h.N, fun u' e b hz => ?_, fun b hz => ?_, Nat.le_trans h.sz hg.size⟩
 ·
  injection e with e
  subst e
  rcases hrow with e | e
  ·
   rw [e]; exact (h.ap b hz).1
  ·
   rw [e]
   intro e'
   injection e' with e'
   have := (h.lt b hz).1
   have := h.sz
   omega
 ·
  exact (hg.block b (Nat.lt_of_lt_of_le (h.lt b hz).1 h.sz) (fun e => (h.ap b hz).1 e.symm)).trans (h.keep b hz)
theorem TwoZ.done {v u u' : Value} {H K : Nat} (h : TwoZ Z w0 w base Bd start acc rows vA vN xs r x (some v) (some H) (some u) (some K) (some u')) :
    DfaB ((w.setCell ⟨Bd, 2, none⟩ u).setCell ⟨Bd, 1, none⟩ u') base Bd start (acc ++ [x]) (rows ++ [r]) u' u (xs ++ [v]) ∧ ZApart Z u' u (xs ++ [v]) ∧ ∀ b, Z b → ((w.setCell ⟨Bd, 2, none⟩ u).setCell ⟨Bd, 1, none⟩ u').heap[b]? = w0.heap[b]? := by
 refine ⟨h.two.done, fun b hz => ⟨h.A u' rfl b hz, h.N u rfl b hz, fun i y hy => ?_⟩, fun b hz => ?_⟩
 ·
  rcases Nat.lt_or_ge i xs.length with hi | hi
  ·
   rw [List.getElem?_append_left hi] at hy
   exact (h.ap b hz).2.2 i y hy
  ·
   rw [List.getElem?_append_right hi] at hy
   have hi0 : i - xs.length = 0 := by
    rcases Nat.eq_zero_or_pos (i - xs.length) with h0 | h0
    ·
     exact h0
    ·
     rw [List.getElem?_eq_none (by simp; omega)] at hy; cases hy
   rw [hi0] at hy
   have e : v = y := by simpa using hy
   subst e
   exact h.V v rfl b hz
 ·
  have := (h.lt b hz).2
  rw [Below.heap_setCell _ _ _ _ this, Below.heap_setCell _ _ _ _ this]
  exact h.keep b hz
theorem DfaB.keptRow {row : Option Nat} (h : DfaB w base Bd start acc rows vA vN xs) (hg : w.grownBy w' row) (hr : ∀ g, row = some g → g ≠ Bd ∧ rowOf vA ≠ some g ∧ rowOf vN ≠ some g ∧ ∀ (i : Nat) (v : Value), xs[i]? = some v → rowOf v ≠ some g) : DfaB w' base Bd start acc rows vA vN xs := by
 refine ⟨(hg.block Bd (by have := h.lt; have := h.le; omega) (fun e => (hr Bd e.symm).1 rfl)).trans h.blk, h.ownA.kept hg fun g e => (hr g e).2.1, h.ownN.kept hg fun g e => (hr g e).2.2.1, ?_, h.lt, Nat.le_trans h.le hg.size, h.ne⟩
 intro i v hv
 obtain ⟨r, h1, h2, h3⟩ := h.rown i v hv
 exact ⟨r, h1, h2.kept hg fun g e => (hr g e).2.2.2 i v hv, h3⟩
end
end
end Go.Proofs.YtocbkccchnbmaaaGreat
