/- MiniSame -/
import Derived.BigQuiet
import Derived.Deep.LoopGhost
import Derived.Deep.QuietTactic
import Derived.Test.YtgaahpddlohjoaaAl07
import Derived.Test.YtgaahpddlohjoaaAl24
import Derived.Test.YtgaahpddlohjoaaAl51
namespace Go.Proofs.Ytgaahpddlohjoaa
open Go.RowKit
theorem wpList_amap_insertB {P : Program} {k : TypeId} {κ : Type} [DecidableEq κ] {K : KeyRep P k κ} (w : World) {ops : Array Oper} {rest : List Oper} {o : Oper} {a : Act} {Q : Exit → Act → World → Prop} (hg : o.guard = none) (m x v : Operand) (t : TypeId) (hop : o.op = Op.insert t m x v) (e : TypeId) (ht : P.underlying t = some (.map k e))
    (b : Nat) (l : List (κ × Value)) (hm : a.eval m = .map (some b)) (hown : AMap K w b l) (q : κ) (hx : a.eval x = K.val q) (hq : K.ok q) (u : Value) (hv : a.eval v = u) (hl : l.length < maxLen)
    (hK : ∀ w', AMap K w' b (putL l q u) → w.grownBy w' (some b) → wpList P ops Q rest (a.put o.dst undef) w') : wpList P ops Q (o :: rest) a w := by
 refine wpList_plain hg fun K' hK' => ?_
 obtain ⟨w', hrun, r1, r2⟩ := hown.put ht hq u hl
 unfold Oper.wp
 simp [execOp, hop, hm, hx, hv, hrun, Result.andThen]
 exact hK' _ _ (hK w' r1 r2)
theorem run_append_litQ {α : Type} {R : Rep α} {P : Program} {T E s bytes : Nat} {z : Value} (hT : SlType P T E s bytes z) (hs : R.size = s) (w : World) (ty base : Nat) (S : Nat → Prop) (v : Value) (l : List α)
    (hown : OwnL R w S base E v l) (m : Nat) (l' : List α) (ys : List Value) (hcells : Cells R w (Off S base v) ys l') (hm : m = l'.length)
    (h63 : l.length + m ≤ maxLen) (hbytes : (l.length + m) * bytes ≤ 140737488355328) (hbase : base ≤ w.heap.size) :
    ∃ v' w', (Builtin.append_ #[T, T] ty #[v, .slice (some ⟨w.heap.size, 0, none⟩) m m]).run P (w.alloc (.cells ys.toArray E)) = .ok v' w' ∧ OwnL R w' S base E v' (l ++ l') ∧ (w.alloc (.cells ys.toArray E)).grownBy w' (rowOf v) ∧ Below base w w' ∧ (rowOf v' = rowOf v ∨ ∀ b, rowOf v' = some b → w.heap.size ≤ b) := by
 subst hs
 subst hm
 have hr : Rd (w.alloc (.cells ys.toArray E)) (fun _ => True) R.size (some ⟨w.heap.size, 0, none⟩) l'.length ys := by
  refine ⟨by rw [hcells.len], fun _ => ⟨w.heap.size, 0, rfl, trivial, fun j v hv => ?_⟩⟩
  rw [World.cell?_alloc_at _ _ _ _ rfl]
  simpa using hv
 obtain ⟨xs, ho, hc⟩ := hown.alloc (.cells ys.toArray E)
 have hcells' := Cells.keep (.alloc (Off S base v) w (.cells ys.toArray E)) hcells
 have hbase' : base ≤ (w.alloc (.cells ys.toArray E)).heap.size := by simp; omega
 obtain ⟨v', w', hrun, ho', hg, hrow⟩ := run_append_Own hT _ ty base v l.length xs ho _ _ l'.length _ ys hr hcells'.one h63 hbytes hbase'
 have hb : Below base (w.alloc (.cells ys.toArray E)) w' := Below.own (Below.refl _ _) ho hg (Nat.le_refl _) hbase'
 refine ⟨v', w', hrun, ⟨xs ++ ys, by simpa using ho', ?_⟩, hg, ((Below.refl _ _).alloc hbase _).trans hb, ?_⟩
 ·
  have h1 := (hc.append hcells').fit
  have h2 := h1.keep (w' := w') (Kept.grown hg fun b hb => hb.1.2)
  refine h2.more fun b hb => ⟨hb.1.1, ?_⟩
  rcases hrow with h | h
  ·
   rw [h]; exact hb.1.2
  ·
   rw [h]
   intro e
   injection e with e
   have := hb.2
   omega
 ·
  rcases hrow with h | h
  ·
   exact Or.inl h
  ·
   refine Or.inr fun b hb => ?_
   rw [h] at hb
   injection hb with hb
   subst hb
   simp
theorem Cells.of_nodes {w w' : World} {S : Nat → Prop} : ∀ {l : List NodeD} {xs : List Value}, Cells RNode w S xs l → Cells RNode w' S xs l
 | [], _, h => h
 | _ :: _, _, h => by
  obtain ⟨cs, rest, rfl, h1, h2⟩ := h
  exact ⟨cs, rest, rfl, RNode.cells.2 (RNode.cells.1 h1), Cells.of_nodes h2⟩
def Bfs (a b : DfaD) (wr : World) (base BM : Nat) (ws : List (List Int)) (v : Value) : Prop :=
 ∃ nds, NdOk a b ws nds ∧ OwnL RNode wr (fun _ => False) base 149 v nds ∧ AMap pairK wr BM (seenL a b ws) ∧ rowOf v ≠ some BM
section
variable {a b : DfaD} {wr w' : World} {base BM : Nat} {ws : List (List Int)} {v : Value}
theorem Bfs.below (h : Bfs a b wr base BM ws v) (hb : Below wr.heap.size wr w') : Bfs a b w' base BM ws v := by
 obtain ⟨nds, h1, h2, h3, h4⟩ := h
 exact ⟨nds, h1, h2.below hb, h3.below hb, h4⟩
theorem Bfs.form (h : Bfs a b wr base BM ws v) : ∃ A c, v = .slice A ws.length c := by
 obtain ⟨nds, h1, h2, h3⟩ := h
 obtain ⟨A, c, e, _⟩ := h2.form
 exact ⟨A, c, by rw [e, h1.1]⟩
theorem Bfs.map (h : Bfs a b wr base BM ws v) : AMap pairK wr BM (seenL a b ws) := by
 obtain ⟨nds, h1, h2, h3, _⟩ := h
 exact h3
theorem Bfs.node {A : Option Addr} {n c k : Nat} (h : Bfs a b wr base BM ws (.slice A n c)) (hk : k < ws.length) :
    ∃ g off f s w, A = some ⟨g, off, none⟩ ∧ base ≤ g ∧ g < wr.heap.size ∧ wr.cell? ⟨g, off + k * 4, none⟩ = some (.int .i64 (prD a b w).1) ∧ wr.cell? ⟨g, off + k * 4 + 1, none⟩ = some (.int .i64 (prD a b w).2) ∧ wr.cell? ⟨g, off + k * 4 + 2, none⟩ = some (.int .i64 f) ∧ wr.cell? ⟨g, off + k * 4 + 3, none⟩ = some (.int .i64 s) ∧
     ws[k]? = some w ∧ ((w = [] ∧ f = -1) ∨ ∃ (f' : Nat) (u : List Int), f = (f' : Int) ∧ f' < k ∧ ws[f']? = some u ∧ w = u ++ [s]) := by
 obtain ⟨nds, ⟨h0, h1⟩, h2, h3, _⟩ := h
 obtain ⟨g, off, x, e, hS, hlt, c1, c2, c3, c4, hx⟩ := node_at h2.sl (k := k) (by have := h2.sl.len; omega)
 obtain ⟨f, s, e1, e2⟩ := h1 k _ (List.getElem?_eq_getElem hk)
 rw [e1] at hx
 injection hx with hx
 subst hx
 exact ⟨g, off, f, s, ws[k], e, by rcases hS with hS | hS; exact hS.elim; exact hS, hlt, c1, c2, c3, c4, List.getElem?_eq_getElem hk, e2⟩
theorem Bfs.push (h : Bfs a b wr base BM ws v) (hbase : base ≤ BM) {i : Nat} {w : List Int} (hw : ws[i]? = some w) (s : Int) (hnew : ∀ u ∈ ws, prD a b u ≠ prD a b (w ++ [s])) {w2 : World} (hm : AMap pairK w2 BM (putL (seenL a b ws) (prD a b (w ++ [s])) (.bool true))) (hg : wr.grownBy w2 (some BM)) (hl : ws.length ≤ 100000) :
    ∃ v' w', (Builtin.append_ #[150, 150] 150 #[v, .slice (some ⟨w2.heap.size, 0, none⟩) 1 1]).run Try.prog (w2.alloc (.cells #[.int .i64 (prD a b (w ++ [s])).1, .int .i64 (prD a b (w ++ [s])).2, .int .i64 (i : Int), .int .i64 s] 149)) = .ok v' w' ∧ Bfs a b w' base BM (ws ++ [w ++ [s]]) v' ∧ Below base wr w' ∧ (∀ q, q < wr.heap.size → q ≠ BM → rowOf v ≠ some q → w'.heap[q]? = wr.heap[q]?) ∧ (rowOf v' = rowOf v ∨ ∀ g, rowOf v' = some g → wr.heap.size ≤ g) := by
 obtain ⟨nds, h1, ⟨xs, h2, h2'⟩, h3, h4⟩ := h
 have hsz := hg.size
 have hBM := h3.lt
 have ho : OwnL RNode w2 (fun _ => False) base 149 v nds :=
  ⟨xs, h2.kept hg (fun g e e2 => by injection e with e; exact h4 (by rw [e]; exact e2)), Cells.of_nodes h2'⟩
 have hlen := h1.1
 obtain ⟨v', w', hrun, ho', hg', hb', hrow⟩ := run_append_litQ (R := RNode) tNodes rfl w2 150 base (fun _ => False) v nds ho 1 [((prD a b (w ++ [s])).1, (prD a b (w ++ [s])).2, (i : Int), s)] [.int .i64 (prD a b (w ++ [s])).1, .int .i64 (prD a b (w ++ [s])).2, .int .i64 (i : Int), .int .i64 s] (Cells.single (RNode.cells.2 rfl)) rfl (by unfold maxLen; omega) (by omega) (by omega)
 refine ⟨v', w', hrun, ⟨_, h1.add hw s, ho', ?_, ?_⟩, ((Below.refl _ _).grown hg (by omega) (fun g e => by injection e with e; omega)).trans hb', (fun q hq hqB hqr => ?_), ?_⟩
 ·
  rw [seenL_put a b ws _ hnew] at hm
  exact (hm.alloc _).grown hg' h4
 ·
  rcases hrow with e | e
  ·
   rw [e]; exact h4
  ·
   intro e2
   have := e _ e2
   omega
 ·
  rw [hg'.block q (by simp; omega) (fun e => hqr e.symm), Below.heap_alloc _ _ _ (by omega)]
  exact hg.block q hq (fun e => by injection e with e; exact hqB e)
 ·
  rcases hrow with e | e
  ·
   exact .inl e
  ·
   exact .inr fun g hgg => by have := e g hgg; omega
theorem Bfs.row (h : Bfs a b wr base BM ws v) : (∀ g, rowOf v = some g → g < wr.heap.size) ∧ BM < wr.heap.size := by
 obtain ⟨nds, h1, h2, h3, _⟩ := h
 exact ⟨fun g e => (h2.row e).2, h3.lt⟩
theorem Bfs.low {K : Nat} {row : Option Nat} (h : Bfs a b wr base BM ws v) (hg : wr.grownBy w' row) (hK : (∀ g, rowOf v = some g → g < K) ∧ BM < K) (hr : ∀ g, row = some g → K ≤ g) (_ : True) : Bfs a b w' base BM ws v := by
 obtain ⟨nds, h1, ⟨xs, h2, h2'⟩, h3, h4⟩ := h
 exact ⟨nds, h1, ⟨xs, h2.kept hg (fun g e e2 => by have := hK.1 g e2; have := hr g e; omega), Cells.of_nodes h2'⟩, h3.grown hg (fun e => by have := hr _ e; omega), h4⟩
theorem zeroBool (u : World) : (zeroValue 4).run Try.prog u = .ok (.bool false) u := by
 have := tBools.info
 obtain ⟨i, hi, hz0, _, _⟩ := info_parts this
 simp [zeroValue, typeInfo, hi, hz0]
theorem Bfs.start (a b : DfaD) {w0 w2 : World} (hm : AMap pairK w2 (w0.heap.size + 1) (seenL a b [[]])) (hb : w2.heap[w0.heap.size]? = some (.cells #[.int .i64 a.1, .int .i64 b.1, .int .i64 (-1), .int .i64 (-1)] 149 (0, 0))) : Bfs a b w2 w0.heap.size (w0.heap.size + 1) [[]] (.slice (some ⟨w0.heap.size, 0, none⟩) 1 1) := by
 refine ⟨_, NdOk.start a b, ⟨[.int .i64 a.1, .int .i64 b.1, .int .i64 (-1), .int .i64 (-1)], .inl ⟨rfl, .inr ⟨w0.heap.size, 1, _, rfl, Nat.le_refl _, hb, by simp, by simp [maxLen], rfl, rfl⟩⟩, Cells.single (RNode.cells.2 rfl)⟩, hm, fun e => ?_⟩
 injection e with e
 simp only at e
 omega
end
def SameR (a b : DfaD) (base : Nat) (e : Ending) (w' : World) : Prop :=
 (e = .returned (.tuple #[.bool true, .slice none 0 0, .int .i64 0]) ∧ ∀ v, WOk a v → dval a a.1 v = dval b b.1 v) ∨
 (∃ A c l, e = .returned (.tuple #[.bool false, .slice A l.length c, .int .i64 0]) ∧ Sl Rep.int w' (fun b => base ≤ b) A l.length c l ∧ WOk a l ∧ l.length ≤ (a.2.2.length + 1) * (b.2.2.length + 1) ∧ dval a a.1 l ≠ dval b b.1 l ∧ ∀ v, WOk a v → SLt v l → dval a a.1 v = dval b b.1 v)
set_option linter.unusedSimpArgs false in
set_option maxRecDepth 1000000 in
set_option maxHeartbeats 8000000 in
theorem miniSame (w : World) (S S' : Nat → Prop) (A : Option Addr) (nA cA : Nat) (N : Option Addr) (n cN : Nat) (a : DfaD) (hA : Sl Rep.int w S A nA cA a.2.1) (hN : Sl RI w S N n cN a.2.2) (hv : Valid a)
    (A' : Option Addr) (nA' cA' : Nat) (N' : Option Addr) (n' cN' : Nat) (b : DfaD) (hA' : Sl Rep.int w S' A' nA' cA' b.2.1) (hN' : Sl RI w S' N' n' cN' b.2.2) (hv' : Valid b) (hcc : cols a = cols b) :
    Calls Try.prog 50 #[.agg #[.int .i64 a.1, .slice A nA cA, .slice N n cN], .agg #[.int .i64 b.1, .slice A' nA' cA', .slice N' n' cN']] w fun e w' => SameR a b w.heap.size e w' ∧ Below w.heap.size w w' := by
 obtain ⟨C, hC⟩ : ∃ C, C = cols a := ⟨_, rfl⟩
 have hC1 : 1 ≤ C := by rw [hC]; exact hv.c1
 have hC2 : C ≤ 16 := by rw [hC]; exact hv.c2
 obtain ⟨w1, hw1⟩ : ∃ w1 : World, w1 = (w.alloc (.cells #[.int .i64 a.1, .slice A nA cA, .slice N n cN] 25)).alloc (.cells #[.int .i64 b.1, .slice A' nA' cA', .slice N' n' cN'] 25) := ⟨_, rfl⟩
 have hb1 : Below w.heap.size w w1 := by rw [hw1]; exact ((Below.refl _ _).alloc (Nat.le_refl _) _).alloc (by simp) _
 have hz1 : w1.heap.size = w.heap.size + 2 := by rw [hw1]; simp
 have hg1 : w1.heap[w.heap.size]? = some (.cells #[.int .i64 a.1, .slice A nA cA, .slice N n cN] 25 (0, 0)) := by rw [hw1, Below.heap_alloc _ _ _ (by simp)]; exact heap_alloc_new w _
 have hg2 : w1.heap[w.heap.size + 1]? = some (.cells #[.int .i64 b.1, .slice A' nA' cA', .slice N' n' cN'] 25 (0, 0)) := by rw [hw1]; exact heap_new _ _ _ (by simp)
 have HBOX := Lib.hid (show ∀ u : World, Below w1.heap.size w1 u → (u.cell? ⟨w.heap.size, 0, none⟩ = some (.int .i64 a.1) ∧ u.cell? ⟨w.heap.size, 1, none⟩ = some (.slice A nA cA) ∧ u.cell? ⟨w.heap.size, 2, none⟩ = some (.slice N n cN)) ∧ (u.cell? ⟨w.heap.size + 1, 0, none⟩ = some (.int .i64 b.1) ∧ u.cell? ⟨w.heap.size + 1, 1, none⟩ = some (.slice A' nA' cA') ∧ u.cell? ⟨w.heap.size + 1, 2, none⟩ = some (.slice N' n' cN')) from fun u hu => by
  have e := (hu.block _ (by omega)).trans hg1
  have e' := (hu.block _ (by omega)).trans hg2
  exact ⟨by simp [World.cell?, e], by simp [World.cell?, e']⟩)
 have HKEEP := Lib.hid (show ∀ u : World, Below w1.heap.size w1 u → Below w.heap.size w u from fun u hu => hb1.trans (hu.mono (by omega)))
 have HSA := Lib.hid (show ∀ u : World, Below w1.heap.size w1 u → Sl Rep.int u (fun b => S b ∧ b < w.heap.size) A nA cA a.2.1 from fun u hu => hA.fit.below (hb1.trans (hu.mono (by omega))))
 have HSN := Lib.hid (show ∀ u : World, Below w1.heap.size w1 u → Sl RI u (fun b => S b ∧ b < w.heap.size) N n cN a.2.2 from fun u hu => hN.fit.below (hb1.trans (hu.mono (by omega))))
 have HSA' := Lib.hid (show ∀ u : World, Below w1.heap.size w1 u → Sl Rep.int u (fun b => S' b ∧ b < w.heap.size) A' nA' cA' b.2.1 from fun u hu => hA'.fit.below (hb1.trans (hu.mono (by omega))))
 have HSN' := Lib.hid (show ∀ u : World, Below w1.heap.size w1 u → Sl RI u (fun b => S' b ∧ b < w.heap.size) N' n' cN' b.2.2 from fun u hu => hN'.fit.below (hb1.trans (hu.mono (by omega))))
 have hn1 : 1 ≤ n := by rw [hN.len]; exact hv.n1
 have hn1' : 1 ≤ n' := by rw [hN'.len]; exact hv'.n1
 have HC := Lib.hid hC
 have HV := Lib.hid hv
 have HV' := Lib.hid hv'
 have HCC := Lib.hid hcc
 have HW1 := Lib.hid hw1
 have hz1' : w1.heap.size ≤ w.heap.size + 2 ∧ w.heap.size + 2 ≤ w1.heap.size := by omega
 clear hA hN hA' hN' hv hv' hC hcc hw1 hz1 hb1 hg1 hg2
 obtain ⟨⟨k0, k1, k2⟩, k3, k4, k5⟩ := HBOX.out w1 (Below.refl _ _)
 go_enter Try.func50, Try.ntmps50
 go_upto_block 1 with fail
 rw [← HW1.out]
 go_wp2_with fail
 refine (dfaCheck _ _ _ _ _ _ _ _ a (HSA.out _ (Below.refl _ _)) (HSN.out _ (Below.refl _ _)) HV.out).mono ?_
 rintro e w2 ⟨rfl, hb2⟩
 have HB2 := Lib.hid hb2
 clear k0 k1 k2 k3 k4 k5
 obtain ⟨⟨k0, k1, k2⟩, k3, k4, k5⟩ := HBOX.out w2 hb2
 clear hb2
 go_wp2_with fail
 refine (dfaCheck _ _ _ _ _ _ _ _ b (HSA'.out _ HB2.out) (HSN'.out _ HB2.out) HV'.out).mono ?_
 rintro e w3 ⟨rfl, hb3⟩
 have HB3 := Lib.hid (HB2.out.trans (hb3.mono HB2.out.size))
 clear k0 k1 k2 k3 k4 k5 hb3
 obtain ⟨⟨k0, k1, k2⟩, k3, k4, k5⟩ := HBOX.out w3 HB3.out
 obtain ⟨bN, oN, AR, m, cR, row, hNe, _, _, hcR, hr, hsr⟩ := row_at (HSN.out _ HB3.out) (k := 0) (by omega)
 obtain ⟨bN', oN', AR', m', cR', row', hNe', _, _, hcR', hr', hsr'⟩ := row_at (HSN'.out _ HB3.out) (k := 0) (by omega)
 have hm : m = C := by rw [hsr.len, HC.out]; exact (HV.out.rows row (List.mem_of_getElem? hr)).1
 have hm' : m' = C := by rw [hsr'.len, HC.out, HCC.out]; exact (HV'.out.rows row' (List.mem_of_getElem? hr')).1
 rw [hm] at hcR
 rw [hm'] at hcR'
 subst hNe
 subst hNe'
 have hnI : (0 : Int) < (n : Int) := by omega
 have hnI' : (0 : Int) < (n' : Int) := by omega
 simp only [Nat.add_zero] at hcR hcR'
 clear hr hsr hr' hsr' hm hm'
 go_wp2_with fail
 go_quiet (fail)
 obtain ⟨w4, hw4⟩ : ∃ w4 : World, w4 = w3.drewN nq := ⟨_, rfl⟩
 have HB4 := Lib.hid (show Below w1.heap.size w1 w4 by rw [hw4]; exact belowN HB3.out nq)
 rw [← hw4]
 clear k0 k1 k2 k3 k4 k5 hw4 hcR hcR'
 obtain ⟨⟨k0, k1, k2⟩, k3, k4, k5⟩ := HBOX.out w4 HB4.out
 have hmm := @run_makeMap Try.prog
 have hHz : w1.heap.size ≤ w4.heap.size := HB4.out.size
 have HM := Lib.hid (AMap.made pairK (w4.alloc (.cells #[.int .i64 a.1, .int .i64 b.1, .int .i64 (-1), .int .i64 (-1)] 149)))
 have HOKS := Lib.hid (show pairK.ok (a.1, b.1) from by have h1 := HV.out.st; have h2 := HV.out.n2; have h3 := HV'.out.st; have h4 := HV'.out.n2; show (_ ∧ _) ∧ (_ ∧ _); refine ⟨⟨?_, ?_⟩, ?_, ?_⟩ <;> simp only <;> omega)
 have hl1 : w.heap.size < w4.heap.size := by omega
 have hl2 : w.heap.size + 1 < w4.heap.size := by omega
 go_wp2_with (refine wpList_amap_insertB _ rfl _ _ _ 151 rfl 4 mapPair (w4.heap.size + 1) [] rfl (by simpa using HM.out) (a.1, b.1) rfl HOKS.out (.bool true) rfl (by simp [maxLen]) ?_
              intro w5 hm5 hg5
              have HM5 := Lib.hid hm5
              have HG5 := Lib.hid hg5
              clear hm5 hg5)
 have HBF := Lib.hid (show Bfs a b w5 w4.heap.size (w4.heap.size + 1) [[]] (.slice (some ⟨w4.heap.size, 0, none⟩) 1 1) by
  refine Bfs.start a b (w0 := w4) HM5.out ?_
  rw [HG5.out.block _ (by simp; omega) (by simp), Below.heap_alloc _ _ _ (by simp)]
  exact heap_alloc_new _ _)
 have HB5 := Lib.hid (show Below w4.heap.size w4 w5 from (((Below.refl _ _).alloc (Nat.le_refl _) _).alloc (by simp) _).grown HG5.out (by simp; omega) (fun g e => by injection e with e; omega))
 have HALLW := Lib.hid (show ∀ u : World, Below w4.heap.size w4 u → Below w1.heap.size w1 u from fun u hu => HB4.out.trans (hu.mono hHz))
 obtain ⟨K, hK⟩ : ∃ K, K = (a.2.2.length + 1) * (b.2.2.length + 1) := ⟨_, rfl⟩
 have hKb : K ≤ 50000 := by
  rw [hK]
  have h1 := HV.out.n2
  have h2 := HV'.out.n2
  exact Nat.le_trans (Nat.mul_le_mul (show _ ≤ 201 by omega) (show _ ≤ 201 by omega)) (by omega)
 have HKK := Lib.hid hK
 clear hK k0 k1 k2 k3 k4 k5 hmm HM
 go_loopg [11, 13, 14, 15, 16, 17, 18] K (fun gk vL vi va vb vc vd ve wr => ∃ (i : Nat) (ws : List (List Int)), i ≤ ws.length ∧ ws.length ≤ K ∧ gk = K - i ∧ vi = .int .i64 i ∧
  BInv a b i 0 ws ∧ (∀ (j : Nat) (u : List Int), j < i → ws[j]? = some u → agD a b (prD a b u)) ∧ Bfs a b wr w4.heap.size (w4.heap.size + 1) ws vL ∧ Below w4.heap.size w4 wr)
 case atStart =>
  refine ⟨0, [[]], Nat.zero_le _, ?_, rfl, rfl, BInv.start, (fun j u hj => by omega), HBF.out, HB5.out⟩
  rw [HKK.out]
  exact BInv.few BInv.start HV.out HV'.out HCC.out
 case round =>
  obtain ⟨i, ws, hi, hwk, hgk, rfl, hinv, hag, hbf, hb6⟩ := hrel
  obtain ⟨w6, rfl⟩ : ∃ w6 : World, w6 = wr := ⟨_, rfl⟩
  have HGK := Lib.hid hgk
  have HINV := Lib.hid hinv
  have HAG := Lib.hid hag
  have HBF6 := Lib.hid hbf
  have HB6 := Lib.hid hb6
  obtain ⟨AL, cL, rfl⟩ := hbf.form
  have hz46 := hb6.size
  have hBMl := hbf.map.lt
  by_cases hlt : i < ws.length
  ·
   obtain ⟨g, off, f, sy, u, rfl, hgH, hgl, c0, c1, c2, c3, hu, hfs⟩ := hbf.node hlt
   have HU := Lib.hid hu
   have HFS := Lib.hid hfs
   have hsI : (i : Int) < (ws.length : Int) := by omega
   have hr := HINV.out.range HV.out HV'.out HCC.out (List.mem_of_getElem? hu)
   have HR := Lib.hid hr
   obtain ⟨px, hpx⟩ : ∃ px, px = (prD a b u).1 := ⟨_, rfl⟩
   obtain ⟨py, hpy⟩ : ∃ py, py = (prD a b u).2 := ⟨_, rfl⟩
   rw [← hpx] at c0
   rw [← hpy] at c1
   have HPX := Lib.hid hpx
   have HPY := Lib.hid hpy
   clear hgk hinv hag hbf hb6 hu hfs hr hpx hpy
   go_upto_block 1 with fail
   go_wp2_with fail
   obtain ⟨w7, hw7⟩ : ∃ w7 : World, w7 = w6.alloc (.cells #[.int .i64 px, .int .i64 py, .int .i64 f, .int .i64 sy] 149) := ⟨_, rfl⟩
   rw [← hw7]
   have hb67 : Below w6.heap.size w6 w7 := by rw [hw7]; exact (Below.refl _ _).alloc (Nat.le_refl _) _
   have hz7 : w6.heap.size < w7.heap.size := by rw [hw7]; simp
   have HND := Lib.hid (show w7.heap[w6.heap.size]? = some (.cells #[.int .i64 px, .int .i64 py, .int .i64 f, .int .i64 sy] 149 (0, 0)) by rw [hw7]; exact heap_alloc_new _ _)
   have HB7 := Lib.hid (show Below w4.heap.size w4 w7 from HB6.out.trans (hb67.mono hz46))
   have HBF7 := Lib.hid (HBF6.out.below hb67)
   have HCELL := Lib.hid (show ∀ v : World, Below w4.heap.size w4 v → v.heap[w6.heap.size]? = some (.cells #[.int .i64 px, .int .i64 py, .int .i64 f, .int .i64 sy] 149 (0, 0)) → ((v.cell? ⟨w.heap.size, 0, none⟩ = some (.int .i64 a.1) ∧ v.cell? ⟨w.heap.size, 1, none⟩ = some (.slice A nA cA) ∧ v.cell? ⟨w.heap.size, 2, none⟩ = some (.slice (some ⟨bN, oN, none⟩) n cN)) ∧ (v.cell? ⟨w.heap.size + 1, 0, none⟩ = some (.int .i64 b.1) ∧ v.cell? ⟨w.heap.size + 1, 1, none⟩ = some (.slice A' nA' cA') ∧ v.cell? ⟨w.heap.size + 1, 2, none⟩ = some (.slice (some ⟨bN', oN', none⟩) n' cN'))) ∧ v.cell? ⟨w6.heap.size, 0, none⟩ = some (.int .i64 px) ∧ v.cell? ⟨w6.heap.size, 1, none⟩ = some (.int .i64 py) from fun v hv h1 =>
    ⟨HBOX.out v (HALLW.out v hv), by simp [World.cell?, h1], by simp [World.cell?, h1]⟩)
   have HK0 := Lib.hid (HCELL.out _ HB7.out.drew HND.out)
   have he1 := entersRes
   clear hb67 hw7 c0 c1 c2 c3
   refine wp_region_late (late := []) (S1 := fun v => ((v.cell? ⟨w.heap.size, 0, none⟩ = some (.int .i64 a.1) ∧ v.cell? ⟨w.heap.size, 1, none⟩ = some (.slice A nA cA) ∧ v.cell? ⟨w.heap.size, 2, none⟩ = some (.slice (some ⟨bN, oN, none⟩) n cN)) ∧ (v.cell? ⟨w.heap.size + 1, 0, none⟩ = some (.int .i64 b.1) ∧ v.cell? ⟨w.heap.size + 1, 1, none⟩ = some (.slice A' nA' cA') ∧ v.cell? ⟨w.heap.size + 1, 2, none⟩ = some (.slice (some ⟨bN', oN', none⟩) n' cN'))) ∧ v.cell? ⟨w6.heap.size, 0, none⟩ = some (.int .i64 px) ∧ v.cell? ⟨w6.heap.size, 1, none⟩ = some (.int .i64 py)) (S := fun _ => True) (by kernel_rfl) ?_
   refine wpAnyL_pure (i := 0) rfl (by kernel_rfl) (fun _ _ _ h => h) (Or.inl ⟨by rfl, (fun u hu => by obtain ⟨⟨⟨k0, k1, k2⟩, k3, k4, k5⟩, k6, k7⟩ := hu; go_simp; try rfl)⟩) HK0.out (fun _ => trivial) ?_
   simp only [Act.put, List.setIfInBounds_toArray, List.set_cons_zero, List.set_cons_succ, List.getElem_toArray, List.getElem_cons_zero, List.getElem_cons_succ]
   refine wpAnyL_pure (i := 1) rfl (by kernel_rfl) (fun _ _ _ h => h) (Or.inl ⟨by rfl, (fun u hu => by obtain ⟨⟨⟨k0, k1, k2⟩, k3, k4, k5⟩, k6, k7⟩ := hu; go_simp; try rfl)⟩) HK0.out (fun _ => trivial) ?_
   simp only [Act.put, List.setIfInBounds_toArray, List.set_cons_zero, List.set_cons_succ, List.getElem_toArray, List.getElem_cons_zero, List.getElem_cons_succ]
   refine wpAnyL_pure (i := 2) rfl (by kernel_rfl) (fun _ _ _ h => h) (Or.inl ⟨by rfl, (fun u hu => by obtain ⟨⟨⟨k0, k1, k2⟩, k3, k4, k5⟩, k6, k7⟩ := hu; go_simp; try rfl)⟩) HK0.out (fun _ => trivial) ?_
   simp only [Act.put, List.setIfInBounds_toArray, List.set_cons_zero, List.set_cons_succ, List.getElem_toArray, List.getElem_cons_zero, List.getElem_cons_succ]
   refine wpAnyL_pure (i := 3) rfl (by kernel_rfl) (fun _ _ _ h => h) (Or.inl ⟨by rfl, (fun u hu => by obtain ⟨⟨⟨k0, k1, k2⟩, k3, k4, k5⟩, k6, k7⟩ := hu; go_simp; try rfl)⟩) HK0.out (fun _ => trivial) ?_
   simp only [Act.put, List.setIfInBounds_toArray, List.set_cons_zero, List.set_cons_succ, List.getElem_toArray, List.getElem_cons_zero, List.getElem_cons_succ]
   refine wpAnyL_pure (i := 5) rfl (by kernel_rfl) (fun _ _ _ h => h) (Or.inl ⟨by rfl, (fun u hu => by obtain ⟨⟨⟨k0, k1, k2⟩, k3, k4, k5⟩, k6, k7⟩ := hu; go_simp; try rfl)⟩) HK0.out (fun _ => trivial) ?_
   simp only [Act.put, List.setIfInBounds_toArray, List.set_cons_zero, List.set_cons_succ, List.getElem_toArray, List.getElem_cons_zero, List.getElem_cons_succ]
   refine wpAnyL_pure (i := 6) rfl (by kernel_rfl) (fun _ _ _ h => h) (Or.inl ⟨by rfl, (fun u hu => by obtain ⟨⟨⟨k0, k1, k2⟩, k3, k4, k5⟩, k6, k7⟩ := hu; go_simp; try rfl)⟩) HK0.out (fun _ => trivial) ?_
   simp only [Act.put, List.setIfInBounds_toArray, List.set_cons_zero, List.set_cons_succ, List.getElem_toArray, List.getElem_cons_zero, List.getElem_cons_succ]
   refine wpAnyL_pure (i := 7) rfl (by kernel_rfl) (fun _ _ _ h => h) (Or.inl ⟨by rfl, (fun u hu => by obtain ⟨⟨⟨k0, k1, k2⟩, k3, k4, k5⟩, k6, k7⟩ := hu; go_simp; try rfl)⟩) HK0.out (fun _ => trivial) ?_
   simp only [Act.put, List.setIfInBounds_toArray, List.set_cons_zero, List.set_cons_succ, List.getElem_toArray, List.getElem_cons_zero, List.getElem_cons_succ]
   refine wpAnyL_pure (i := 8) rfl (by kernel_rfl) (fun _ _ _ h => h) (Or.inl ⟨by rfl, (fun u hu => by obtain ⟨⟨⟨k0, k1, k2⟩, k3, k4, k5⟩, k6, k7⟩ := hu; go_simp; try rfl)⟩) HK0.out (fun _ => trivial) ?_
   simp only [Act.put, List.setIfInBounds_toArray, List.set_cons_zero, List.set_cons_succ, List.getElem_toArray, List.getElem_cons_zero, List.getElem_cons_succ]
   refine wpAnyL_ready (rs := [4]) (by kernel_rfl) (by simp) ?_
   refine AllL.cons rfl (fun K hK => ?_) ?_
   ·
    go_simp
    refine (sameRes _ _ _ _ _ _ _ _ a (HSA.out _ (HALLW.out _ HB7.out.drew)) HV.out px (by rw [HPX.out]; exact HR.out.2.1)).mono ?_
    rintro e w8 ⟨rfl, hb8⟩
    have HB8 := Lib.hid (HB7.out.drew.trans (hb8.mono HB7.out.size))
    have HND8 := Lib.hid ((hb8.block _ hz7).trans HND.out)
    have HBF8 := Lib.hid (HBF7.out.below ((Below.refl _ _).drew.trans hb8))
    have hz8 : w6.heap.size < w8.heap.size := Nat.lt_of_lt_of_le hz7 hb8.size
    have HK1 := Lib.hid (HCELL.out _ HB8.out HND8.out)
    clear hb8
    refine hK.out _ _ HK1.out (fun _ => trivial) ?_
    clear hK K
    refine wpAnyL_ready (rs := [9]) (by kernel_rfl) (by simp) ?_
    refine AllL.cons rfl (fun K hK => ?_) ?_
    ·
     go_simp
     refine (sameRes _ _ _ _ _ _ _ _ b (HSA'.out _ (HALLW.out _ HB8.out)) HV'.out py (by rw [HPY.out]; exact HR.out.2.2)).mono ?_
     rintro e w9 ⟨rfl, hb9⟩
     have HB9 := Lib.hid (HB8.out.trans (hb9.mono HB8.out.size))
     have HND9 := Lib.hid ((hb9.block _ hz8).trans HND8.out)
     have HBF9 := Lib.hid (HBF8.out.below hb9)
     have hz9 : w6.heap.size < w9.heap.size := Nat.lt_of_lt_of_le hz8 hb9.size
     have HK2 := Lib.hid (HCELL.out _ HB9.out HND9.out)
     clear hb9 HB8 HND8 HBF8 HK1 HB7 HND HBF7 hz8
     refine hK.out _ _ HK2.out (fun _ => trivial) ?_
     clear hK K
     refine wpAnyL_pure (i := 10) rfl (by kernel_rfl) (fun _ _ _ h => h) (Or.inl ⟨by rfl, (fun u hu => by obtain ⟨⟨⟨k0, k1, k2⟩, k3, k4, k5⟩, k6, k7⟩ := hu; go_simp; try rfl)⟩) HK2.out (fun _ => trivial) ?_
     simp only [Act.put, List.setIfInBounds_toArray, List.set_cons_zero, List.set_cons_succ, List.getElem_toArray, List.getElem_cons_zero, List.getElem_cons_succ]
     refine wpAnyL_done (by kernel_rfl) ?_ _
     clear HK0 HK2 he1
     by_cases hagr : dat a px = dat b py
     ·
      have hne : (dat a px != dat b py) = false := by simpa using hagr
      have HAGR := Lib.hid hagr
      rw [hne]
      clear hagr hne
      obtain ⟨⟨⟨k0, k1, k2⟩, k3, k4, k5⟩, k6, k7⟩ := HCELL.out _ HB9.out HND9.out
      obtain ⟨bN2, oN2, AR2, m2, cR2, row2', hNe2, _, _, hcR2, hr2, hsr2⟩ := row_at (HSN.out _ (HALLW.out _ HB9.out)) (k := 0) (by omega)
      injection hNe2 with hNe2
      injection hNe2 with e1 e2
      subst e1
      subst e2
      have hm2 : m2 = C := by rw [hsr2.len, HC.out]; exact (HV.out.rows row2' (List.mem_of_getElem? hr2)).1
      rw [hm2] at hcR2
      simp only [Nat.add_zero] at hcR2
      clear hr2 hsr2 hm2
      go_wp2_with fail
      clear k0 k1 k2 k3 k4 k5 k6 k7
      have hrow6 : rowOf (.slice (some ⟨g, off, none⟩) ws.length cL) ≠ some w6.heap.size := fun e => by
       cases cL with
       | zero => cases e
       | succ c => injection e with e; simp only at e; omega
      have hws : ws <+: ws := List.prefix_rfl
      have HR6 := Lib.hid hrow6
      clear hrow6
      go_loopg [11, 17, 18, 102] C (fun gk vL vc vk vj wr => ∃ (j : Nat) (ws' : List (List Int)), j ≤ C ∧ gk = C - j ∧ vj = .int .i64 j ∧ BInv a b i j ws' ∧ ws <+: ws' ∧ Bfs a b wr w4.heap.size (w4.heap.size + 1) ws' vL ∧ rowOf vL ≠ some w6.heap.size ∧
       Below w4.heap.size w4 wr ∧ wr.heap[w6.heap.size]? = some (.cells #[.int .i64 px, .int .i64 py, .int .i64 f, .int .i64 sy] 149 (0, 0)))
      case atStart => exact ⟨0, ws, Nat.zero_le _, rfl, rfl, HINV.out, hws, HBF9.out, HR6.out, HB9.out, HND9.out⟩
      case round =>
       obtain ⟨j, ws', hj, hgj, rfl, hinv', hpre, hbf', hrow', hb', hnd'⟩ := hrel
       obtain ⟨w10, rfl⟩ : ∃ w10 : World, w10 = wr := ⟨_, rfl⟩
       obtain ⟨A5, c5, rfl⟩ := hbf'.form
       have hfew := hinv'.few HV.out HV'.out HCC.out
       rw [← HKK.out] at hfew
       have HFEW := Lib.hid hfew
       have HGJ := Lib.hid hgj
       have HINV' := Lib.hid hinv'
       have HPRE := Lib.hid hpre
       have HBF' := Lib.hid hbf'
       have HROW' := Lib.hid hrow'
       have HB' := Lib.hid hb'
       have HND' := Lib.hid hnd'
       have HU' := Lib.hid (show ws'[i]? = some u by
        obtain ⟨r, hr⟩ := hpre
        rw [← hr, List.getElem?_append_left hlt]
        exact HU.out)
       have hz' : w6.heap.size < w10.heap.size := heap_lt hnd'
       clear hws hgj hinv' hpre hbf' hrow' hb' hnd' hfew
       by_cases hjl : j < C
       ·
        have he2 := entersAft
        obtain ⟨wd, hwd⟩ : ∃ wd, wd = w10.drew := ⟨_, rfl⟩
        have hzd : w10.heap.size ≤ wd.heap.size ∧ wd.heap.size ≤ w10.heap.size := by rw [hwd]; exact ⟨Nat.le_refl _, Nat.le_refl _⟩
        have HBd := Lib.hid (show Below w4.heap.size w4 wd by rw [hwd]; exact HB'.out.drew)
        have HNDd := Lib.hid (show wd.heap[w6.heap.size]? = some (.cells #[.int .i64 px, .int .i64 py, .int .i64 f, .int .i64 sy] 149 (0, 0)) by rw [hwd]; exact HND'.out)
        have HBFd := Lib.hid (show Bfs a b wd w4.heap.size (w4.heap.size + 1) ws' (.slice A5 ws'.length c5) by rw [hwd]; exact HBF'.out.below (Below.refl _ _).drew)
        have HK3 := Lib.hid (HCELL.out _ HBd.out HNDd.out)
        have hjC : (0 : Int) ≤ (j : Int) ∧ (j : Int) < cols a := by rw [← HC.out]; omega
        have HJC := Lib.hid hjC
        clear hjC
        go_wp2_with fail
        refine wp_region_late (late := []) (S1 := fun v => ((v.cell? ⟨w.heap.size, 0, none⟩ = some (.int .i64 a.1) ∧ v.cell? ⟨w.heap.size, 1, none⟩ = some (.slice A nA cA) ∧ v.cell? ⟨w.heap.size, 2, none⟩ = some (.slice (some ⟨bN, oN, none⟩) n cN)) ∧ (v.cell? ⟨w.heap.size + 1, 0, none⟩ = some (.int .i64 b.1) ∧ v.cell? ⟨w.heap.size + 1, 1, none⟩ = some (.slice A' nA' cA') ∧ v.cell? ⟨w.heap.size + 1, 2, none⟩ = some (.slice (some ⟨bN', oN', none⟩) n' cN'))) ∧ v.cell? ⟨w6.heap.size, 0, none⟩ = some (.int .i64 px) ∧ v.cell? ⟨w6.heap.size, 1, none⟩ = some (.int .i64 py)) (S := fun _ => True) (by kernel_rfl) ?_
        rw [← hwd]
        clear hwd
        refine wpAnyL_pure (i := 0) rfl (by kernel_rfl) (fun _ _ _ h => h) (Or.inl ⟨by rfl, (fun u hu => by obtain ⟨⟨⟨k0, k1, k2⟩, k3, k4, k5⟩, k6, k7⟩ := hu; go_simp; try rfl)⟩) HK3.out (fun _ => trivial) ?_
        simp only [Act.put, List.setIfInBounds_toArray, List.set_cons_zero, List.set_cons_succ, List.getElem_toArray, List.getElem_cons_zero, List.getElem_cons_succ]
        refine wpAnyL_pure (i := 1) rfl (by kernel_rfl) (fun _ _ _ h => h) (Or.inl ⟨by rfl, (fun u hu => by obtain ⟨⟨⟨k0, k1, k2⟩, k3, k4, k5⟩, k6, k7⟩ := hu; go_simp; try rfl)⟩) HK3.out (fun _ => trivial) ?_
        simp only [Act.put, List.setIfInBounds_toArray, List.set_cons_zero, List.set_cons_succ, List.getElem_toArray, List.getElem_cons_zero, List.getElem_cons_succ]
        refine wpAnyL_pure (i := 2) rfl (by kernel_rfl) (fun _ _ _ h => h) (Or.inl ⟨by rfl, (fun u hu => by obtain ⟨⟨⟨k0, k1, k2⟩, k3, k4, k5⟩, k6, k7⟩ := hu; go_simp; try rfl)⟩) HK3.out (fun _ => trivial) ?_
        simp only [Act.put, List.setIfInBounds_toArray, List.set_cons_zero, List.set_cons_succ, List.getElem_toArray, List.getElem_cons_zero, List.getElem_cons_succ]
        refine wpAnyL_pure (i := 3) rfl (by kernel_rfl) (fun _ _ _ h => h) (Or.inl ⟨by rfl, (fun u hu => by obtain ⟨⟨⟨k0, k1, k2⟩, k3, k4, k5⟩, k6, k7⟩ := hu; go_simp; try rfl)⟩) HK3.out (fun _ => trivial) ?_
        simp only [Act.put, List.setIfInBounds_toArray, List.set_cons_zero, List.set_cons_succ, List.getElem_toArray, List.getElem_cons_zero, List.getElem_cons_succ]
        refine wpAnyL_pure (i := 4) rfl (by kernel_rfl) (fun _ _ _ h => h) (Or.inl ⟨by rfl, (fun u hu => by obtain ⟨⟨⟨k0, k1, k2⟩, k3, k4, k5⟩, k6, k7⟩ := hu; go_simp; try rfl)⟩) HK3.out (fun _ => trivial) ?_
        simp only [Act.put, List.setIfInBounds_toArray, List.set_cons_zero, List.set_cons_succ, List.getElem_toArray, List.getElem_cons_zero, List.getElem_cons_succ]
        refine wpAnyL_pure (i := 6) rfl (by kernel_rfl) (fun _ _ _ h => h) (Or.inl ⟨by rfl, (fun u hu => by obtain ⟨⟨⟨k0, k1, k2⟩, k3, k4, k5⟩, k6, k7⟩ := hu; go_simp; try rfl)⟩) HK3.out (fun _ => trivial) ?_
        simp only [Act.put, List.setIfInBounds_toArray, List.set_cons_zero, List.set_cons_succ, List.getElem_toArray, List.getElem_cons_zero, List.getElem_cons_succ]
        refine wpAnyL_pure (i := 7) rfl (by kernel_rfl) (fun _ _ _ h => h) (Or.inl ⟨by rfl, (fun u hu => by obtain ⟨⟨⟨k0, k1, k2⟩, k3, k4, k5⟩, k6, k7⟩ := hu; go_simp; try rfl)⟩) HK3.out (fun _ => trivial) ?_
        simp only [Act.put, List.setIfInBounds_toArray, List.set_cons_zero, List.set_cons_succ, List.getElem_toArray, List.getElem_cons_zero, List.getElem_cons_succ]
        refine wpAnyL_pure (i := 8) rfl (by kernel_rfl) (fun _ _ _ h => h) (Or.inl ⟨by rfl, (fun u hu => by obtain ⟨⟨⟨k0, k1, k2⟩, k3, k4, k5⟩, k6, k7⟩ := hu; go_simp; try rfl)⟩) HK3.out (fun _ => trivial) ?_
        simp only [Act.put, List.setIfInBounds_toArray, List.set_cons_zero, List.set_cons_succ, List.getElem_toArray, List.getElem_cons_zero, List.getElem_cons_succ]
        refine wpAnyL_pure (i := 9) rfl (by kernel_rfl) (fun _ _ _ h => h) (Or.inl ⟨by rfl, (fun u hu => by obtain ⟨⟨⟨k0, k1, k2⟩, k3, k4, k5⟩, k6, k7⟩ := hu; go_simp; try rfl)⟩) HK3.out (fun _ => trivial) ?_
        simp only [Act.put, List.setIfInBounds_toArray, List.set_cons_zero, List.set_cons_succ, List.getElem_toArray, List.getElem_cons_zero, List.getElem_cons_succ]
        refine wpAnyL_pure (i := 10) rfl (by kernel_rfl) (fun _ _ _ h => h) (Or.inl ⟨by rfl, (fun u hu => by obtain ⟨⟨⟨k0, k1, k2⟩, k3, k4, k5⟩, k6, k7⟩ := hu; go_simp; try rfl)⟩) HK3.out (fun _ => trivial) ?_
        simp only [Act.put, List.setIfInBounds_toArray, List.set_cons_zero, List.set_cons_succ, List.getElem_toArray, List.getElem_cons_zero, List.getElem_cons_succ]
        refine wpAnyL_ready (rs := [5, 13]) (by kernel_rfl) (by simp) ?_
        refine AllL.cons rfl (fun K hK => ?_) ?_
        ·
         go_simp
         refine (sameTo wd _ _ _ _ _ _ _ a (HSN.out _ (HALLW.out _ HBd.out)) HV.out px (j : Int) (by rw [HPX.out]; exact HR.out.2.1) (HJC.out)).mono ?_
         rintro e w11 ⟨rfl, hb11⟩
         have HB11 := Lib.hid (HBd.out.trans (hb11.mono HBd.out.size))
         have hz11 := hb11.size
         have HND11 := Lib.hid ((hb11.block _ (by omega)).trans HNDd.out)
         have HBF11 := Lib.hid (HBFd.out.below hb11)
         have HK11 := Lib.hid (HCELL.out _ HB11.out HND11.out)
         clear hb11
         refine hK.out _ _ HK11.out (fun _ => trivial) ?_
         clear hK K
         refine wpAnyL_ready (rs := [11, 13]) (by kernel_rfl) (by simp) ?_
         refine AllL.cons rfl (fun K hK => ?_) ?_
         ·
          go_simp
          refine (sameTo w11 _ _ _ _ _ _ _ b (HSN'.out _ (HALLW.out _ HB11.out)) HV'.out py (j : Int) (by rw [HPY.out]; exact HR.out.2.2) (by rw [← HCC.out]; exact HJC.out)).mono ?_
          rintro e w12 ⟨rfl, hb12⟩
          have HB12 := Lib.hid (HB11.out.trans (hb12.mono HB11.out.size))
          have hz12 := hb12.size
          have HND12 := Lib.hid ((hb12.block _ (by omega)).trans HND11.out)
          have HBF12 := Lib.hid (HBF11.out.below hb12)
          have HK12 := Lib.hid (HCELL.out _ HB12.out HND12.out)
          clear hb12
          refine hK.out _ _ HK12.out (fun _ => trivial) ?_
          clear hK K
          refine wpAnyL_pure (i := 12) rfl (by kernel_rfl) (fun _ _ _ h => h) (Or.inl ⟨by rfl, (fun u hu => by obtain ⟨⟨⟨k0, k1, k2⟩, k3, k4, k5⟩, k6, k7⟩ := hu; go_simp; try rfl)⟩) HK12.out (fun _ => trivial) ?_
          simp only [Act.put, List.setIfInBounds_toArray, List.set_cons_zero, List.set_cons_succ, List.getElem_toArray, List.getElem_cons_zero, List.getElem_cons_succ]
          refine wpAnyL_ready (rs := [13]) (by kernel_rfl) (by simp) ?_
          refine AllL.cons rfl (fun K hK => ?_) ?_
          ·
           go_simp
           obtain ⟨w13, hw13⟩ : ∃ w13 : World, w13 = w12.alloc (.cells #[.int .i64 0, .int .i64 0] 117) := ⟨_, rfl⟩
           rw [← hw13]
           obtain ⟨bk, hbk0⟩ : ∃ bk, bk = w12.heap.size := ⟨_, rfl⟩
           try rw [← hbk0]
           have hb13 : Below w12.heap.size w12 w13 := by rw [hw13]; exact (Below.refl _ _).alloc (Nat.le_refl _) _
           have HBK13 := Lib.hid (show w13.heap[bk]? = some (.cells #[.int .i64 0, .int .i64 0] 117 (0, 0)) by rw [hw13, hbk0]; exact heap_alloc_new _ _)
           have hbk : bk < w13.heap.size := by rw [hw13, hbk0]; simp
           have hbk6 : w6.heap.size < bk ∧ w4.heap.size + 1 < bk ∧ w10.heap.size ≤ bk := by have := HBF12.out.map.lt; rw [hbk0]; omega
           have HB13 := Lib.hid (HB12.out.trans (hb13.mono HB12.out.size))
           have hz13 := hb13.size
           have HND13 := Lib.hid ((hb13.block _ (by omega)).trans HND12.out)
           have HBF13 := Lib.hid (HBF12.out.below hb13)
           have HK13 := Lib.hid (HCELL.out _ HB13.out HND13.out)
           clear hb13 hw13 hbk0
           refine hK.out _ _ HK13.out (fun _ => trivial) ?_
           clear hK K
           refine wpAnyL_ready (rs := [14]) (by kernel_rfl) (by simp) ?_
           refine AllL.cons rfl (fun K hK => ?_) ?_
           ·
            have c0 : w13.cell? ⟨bk, 0, none⟩ = some (.int .i64 0) := by simp [World.cell?, HBK13.out]
            have c1 : w13.cell? ⟨bk, 1, none⟩ = some (.int .i64 0) := by simp [World.cell?, HBK13.out]
            have df0 : w13.frozen? ⟨bk, 0, none⟩ = false := by simp [World.frozen?, HBK13.out]
            have df1 : w13.frozen? ⟨bk, 1, none⟩ = false := by simp [World.frozen?, HBK13.out]
            go_simp
            obtain ⟨wz, hwz⟩ : ∃ wz : World, wz = (w13.setCell ⟨bk, 0, none⟩ (.int .i64 (dto a px (j : Int)))).setCell ⟨bk, 1, none⟩ (.int .i64 (dto b py (j : Int))) := ⟨_, rfl⟩
            rw [← hwz]
            have hgz : w13.grownBy wz (some bk) := by rw [hwz]; exact (setGr (g := bk) w13 0 _).trans (setGr (g := bk) _ 1 _)
            have HKZ := Lib.hid (show wz.heap[bk]? = some (.cells #[.int .i64 (dto a px (j : Int)), .int .i64 (dto b py (j : Int))] 117 (0, 0)) by rw [hwz]; have := blk_set (blk_set HBK13.out 0 (.int .i64 (dto a px (j : Int)))) 1 (.int .i64 (dto b py (j : Int))); simpa using this)
            have HBZ := Lib.hid (HB13.out.grown hgz (by omega) (fun g e => by injection e with e; omega))
            have HNDZ := Lib.hid ((hgz.block _ (heap_lt HND13.out) (fun e => by injection e with e; omega)).trans HND13.out)
            have HBFZ := Lib.hid (HBF13.out.low hgz (K := w10.heap.size) HBF'.out.row (fun g e => by injection e with e; omega) (by omega))
            have HKZ1 := Lib.hid (HCELL.out _ HBZ.out HNDZ.out)
            have hbz : bk < wz.heap.size := heap_lt HKZ.out
            clear c0 c1 df0 df1 hwz hgz
            refine hK.out _ _ HKZ1.out (fun _ => trivial) ?_
            clear hK K
            refine wpAnyL_done (by kernel_rfl) ?_ _
            have HQ := Lib.hid (show prD a b (u ++ [(j : Int)]) = (dto a px (j : Int), dto b py (j : Int)) by rw [prD_snoc, ← HPX.out, ← HPY.out])
            obtain ⟨qx, hqx⟩ : ∃ qx, qx = dto a px (j : Int) := ⟨_, rfl⟩
            obtain ⟨qy, hqy⟩ : ∃ qy, qy = dto b py (j : Int) := ⟨_, rfl⟩
            have HOKQ := Lib.hid (show pairK.ok (qx, qy) from by
             have h1 := dto_range HV.out (s := px) (c := (j : Int)) (by rw [HPX.out]; exact HR.out.2.1) HJC.out
             have h2 := dto_range HV'.out (s := py) (c := (j : Int)) (by rw [HPY.out]; exact HR.out.2.2) (by rw [← HCC.out]; exact HJC.out)
             have h3 := HV.out.n2
             have h4 := HV'.out.n2
             rw [← hqx] at h1
             rw [← hqy] at h2
             show (_ ∧ _) ∧ (_ ∧ _)
             refine ⟨⟨?_, ?_⟩, ?_, ?_⟩ <;> simp only <;> omega)
            rw [← hqx, ← hqy] at HQ HKZ
            rw [← hqx, ← hqy]
            have q0 : wz.cell? ⟨bk, 0, none⟩ = some (.int .i64 qx) := by simp [World.cell?, HKZ.out]
            have q1 : wz.cell? ⟨bk, 1, none⟩ = some (.int .i64 qy) := by simp [World.cell?, HKZ.out]
            clear hqx hqy HKZ1
            by_cases hmem : ∃ v ∈ ws', prD a b v = prD a b (u ++ [(j : Int)])
            ·
             have HLK := Lib.hid (show (lk (seenL a b ws') (qx, qy)).getD (.bool false) = .bool true by rw [← HQ.out, seenL_lk]; simp only [decide_eq_true hmem])
             have HMEM := Lib.hid hmem
             clear hmem
             go_wp2_with (at_lookup; refine wpList_amap _ rfl _ _ 151 rfl 4 mapPair zeroBool (w4.heap.size + 1) _ rfl HBFZ.out.map (qx, qy) rfl HOKQ.out ?_; rw [HLK.out])
             go_roundg (C - (j + 1))
             case measure => rw [HGJ.out]; omega
             case rel => exact ⟨j + 1, ws', by omega, rfl, by go_num, HINV'.out.old HU'.out HMEM.out, HPRE.out, HBFZ.out, HROW'.out, HBZ.out, HNDZ.out⟩
            ·
             have HLK := Lib.hid (show (lk (seenL a b ws') (qx, qy)).getD (.bool false) = .bool false by rw [← HQ.out, seenL_lk]; simp only [decide_eq_false hmem])
             have HNEW := Lib.hid (show ∀ v ∈ ws', prD a b v ≠ prD a b (u ++ [(j : Int)]) from fun v hv e => hmem ⟨v, hv, e⟩)
             have HSL := Lib.hid (show (seenL a b ws').length < maxLen by simp [seenL]; unfold maxLen; have := HFEW.out; omega)
             clear hmem
             go_wp2_with (first
              | (at_lookup; refine wpList_amap _ rfl _ _ 151 rfl 4 mapPair zeroBool (w4.heap.size + 1) _ rfl HBFZ.out.map (qx, qy) rfl HOKQ.out ?_; rw [HLK.out])
              | (at_mapUpdate
                 go_loud ((
                  refine wpList_amap_put _ rfl _ _ _ 151 rfl 4 mapPair (w4.heap.size + 1) _ rfl HBFZ.out.map (qx, qy) rfl HOKQ.out (.bool true) rfl HSL.out ?_
                  intro wy hmy hgy
                  have hly := hgy.size
                  have r0 : wy.cell? ⟨bk, 0, none⟩ = some (.int .i64 qx) := by rw [World.cell?_of_block (hgy.block bk hbz (fun e => by injection e with e; omega))]; exact q0
                  have r1 : wy.cell? ⟨bk, 1, none⟩ = some (.int .i64 qy) := by rw [World.cell?_of_block (hgy.block bk hbz (fun e => by injection e with e; omega))]; exact q1
                  have hlk := Nat.lt_of_lt_of_le hbz hly
                  rw [← HQ.out] at hmy
                  obtain ⟨v20, w20, hrun, hbf20, hb20, hq20, hr20⟩ := HBFZ.out.push (by omega) HU'.out (j : Int) HNEW.out hmy hgy (by have := HFEW.out; omega)
                  rw [HQ.out] at hrun
                  have HRUN := Lib.hid hrun
                  have HBF20 := Lib.hid hbf20
                  have HB20 := Lib.hid (HBZ.out.trans hb20)
                  have HND20 := Lib.hid ((hq20 _ (heap_lt HNDZ.out) (by omega) HROW'.out).trans HNDZ.out)
                  have HR20 := Lib.hid (show rowOf v20 ≠ some w6.heap.size from fun e => by
                   rcases hr20 with h | h
                   ·
                    rw [h] at e; exact HROW'.out e
                   ·
                    have := h _ e; omega)
                  clear hrun hbf20 hb20 hq20 hr20 hmy hgy)))
              | (at_builtin; refine Lib.wpList_append_run _ rfl _ _ _ _ rfl _ _ rfl rfl _ _ HRUN.out ?_))
             go_roundg (C - (j + 1))
             case measure => rw [HGJ.out]; omega
             case rel => exact ⟨j + 1, ws' ++ [u ++ [(j : Int)]], by omega, rfl, by go_num, HINV'.out.new HU'.out (by rw [← HC.out]; exact hjl) HNEW.out, HPRE.out.trans (List.prefix_append _ _), HBF20.out, HR20.out, HB20.out, HND20.out⟩
           exact AllL.nil
          exact AllL.nil
         refine AllL.cons rfl (fun K hK => ?_) ?_
         ·
          go_simp
          obtain ⟨w14, hw14⟩ : ∃ w14 : World, w14 = w11.alloc (.cells #[.int .i64 0, .int .i64 0] 117) := ⟨_, rfl⟩
          rw [← hw14]
          obtain ⟨bk, hbk0⟩ : ∃ bk, bk = w11.heap.size := ⟨_, rfl⟩
          try rw [← hbk0]
          have hb14 : Below w11.heap.size w11 w14 := by rw [hw14]; exact (Below.refl _ _).alloc (Nat.le_refl _) _
          have HBK14 := Lib.hid (show w14.heap[bk]? = some (.cells #[.int .i64 0, .int .i64 0] 117 (0, 0)) by rw [hw14, hbk0]; exact heap_alloc_new _ _)
          have hbk : bk < w14.heap.size := by rw [hw14, hbk0]; simp
          have hbk6 : w6.heap.size < bk ∧ w4.heap.size + 1 < bk ∧ w10.heap.size ≤ bk := by have := HBF11.out.map.lt; rw [hbk0]; omega
          have HB14 := Lib.hid (HB11.out.trans (hb14.mono HB11.out.size))
          have hz14 := hb14.size
          have HND14 := Lib.hid ((hb14.block _ (by omega)).trans HND11.out)
          have HBF14 := Lib.hid (HBF11.out.below hb14)
          have HK14 := Lib.hid (HCELL.out _ HB14.out HND14.out)
          clear hb14 hw14 hbk0
          refine hK.out _ _ HK14.out (fun _ => trivial) ?_
          clear hK K
          refine wpAnyL_ready (rs := [11]) (by kernel_rfl) (by simp) ?_
          refine AllL.cons rfl (fun K hK => ?_) ?_
          ·
           go_simp
           refine (sameTo w14 _ _ _ _ _ _ _ b (HSN'.out _ (HALLW.out _ HB14.out)) HV'.out py (j : Int) (by rw [HPY.out]; exact HR.out.2.2) (by rw [← HCC.out]; exact HJC.out)).mono ?_
           rintro e w15 ⟨rfl, hb15⟩
           have HB15 := Lib.hid (HB14.out.trans (hb15.mono HB14.out.size))
           have hz15 := hb15.size
           have HND15 := Lib.hid ((hb15.block _ (by omega)).trans HND14.out)
           have HBF15 := Lib.hid (HBF14.out.below hb15)
           have HK15 := Lib.hid (HCELL.out _ HB15.out HND15.out)
           have HBK15 := Lib.hid ((hb15.block _ (by omega)).trans HBK14.out)
           have hbk := Nat.lt_of_lt_of_le hbk (by omega : _ ≤ w15.heap.size)
           clear hb15
           refine hK.out _ _ HK15.out (fun _ => trivial) ?_
           clear hK K
           refine wpAnyL_pure (i := 12) rfl (by kernel_rfl) (fun _ _ _ h => h) (Or.inl ⟨by rfl, (fun u hu => by obtain ⟨⟨⟨k0, k1, k2⟩, k3, k4, k5⟩, k6, k7⟩ := hu; go_simp; try rfl)⟩) HK15.out (fun _ => trivial) ?_
           simp only [Act.put, List.setIfInBounds_toArray, List.set_cons_zero, List.set_cons_succ, List.getElem_toArray, List.getElem_cons_zero, List.getElem_cons_succ]
           refine wpAnyL_ready (rs := [14]) (by kernel_rfl) (by simp) ?_
           refine AllL.cons rfl (fun K hK => ?_) ?_
           ·
            have c0 : w15.cell? ⟨bk, 0, none⟩ = some (.int .i64 0) := by simp [World.cell?, HBK15.out]
            have c1 : w15.cell? ⟨bk, 1, none⟩ = some (.int .i64 0) := by simp [World.cell?, HBK15.out]
            have df0 : w15.frozen? ⟨bk, 0, none⟩ = false := by simp [World.frozen?, HBK15.out]
            have df1 : w15.frozen? ⟨bk, 1, none⟩ = false := by simp [World.frozen?, HBK15.out]
            go_simp
            obtain ⟨wz, hwz⟩ : ∃ wz : World, wz = (w15.setCell ⟨bk, 0, none⟩ (.int .i64 (dto a px (j : Int)))).setCell ⟨bk, 1, none⟩ (.int .i64 (dto b py (j : Int))) := ⟨_, rfl⟩
            rw [← hwz]
            have hgz : w15.grownBy wz (some bk) := by rw [hwz]; exact (setGr (g := bk) w15 0 _).trans (setGr (g := bk) _ 1 _)
            have HKZ := Lib.hid (show wz.heap[bk]? = some (.cells #[.int .i64 (dto a px (j : Int)), .int .i64 (dto b py (j : Int))] 117 (0, 0)) by rw [hwz]; have := blk_set (blk_set HBK15.out 0 (.int .i64 (dto a px (j : Int)))) 1 (.int .i64 (dto b py (j : Int))); simpa using this)
            have HBZ := Lib.hid (HB15.out.grown hgz (by omega) (fun g e => by injection e with e; omega))
            have HNDZ := Lib.hid ((hgz.block _ (heap_lt HND15.out) (fun e => by injection e with e; omega)).trans HND15.out)
            have HBFZ := Lib.hid (HBF15.out.low hgz (K := w10.heap.size) HBF'.out.row (fun g e => by injection e with e; omega) (by omega))
            have HKZ1 := Lib.hid (HCELL.out _ HBZ.out HNDZ.out)
            have hbz : bk < wz.heap.size := heap_lt HKZ.out
            clear c0 c1 df0 df1 hwz hgz
            refine hK.out _ _ HKZ1.out (fun _ => trivial) ?_
            clear hK K
            refine wpAnyL_done (by kernel_rfl) ?_ _
            have HQ := Lib.hid (show prD a b (u ++ [(j : Int)]) = (dto a px (j : Int), dto b py (j : Int)) by rw [prD_snoc, ← HPX.out, ← HPY.out])
            obtain ⟨qx, hqx⟩ : ∃ qx, qx = dto a px (j : Int) := ⟨_, rfl⟩
            obtain ⟨qy, hqy⟩ : ∃ qy, qy = dto b py (j : Int) := ⟨_, rfl⟩
            have HOKQ := Lib.hid (show pairK.ok (qx, qy) from by
             have h1 := dto_range HV.out (s := px) (c := (j : Int)) (by rw [HPX.out]; exact HR.out.2.1) HJC.out
             have h2 := dto_range HV'.out (s := py) (c := (j : Int)) (by rw [HPY.out]; exact HR.out.2.2) (by rw [← HCC.out]; exact HJC.out)
             have h3 := HV.out.n2
             have h4 := HV'.out.n2
             rw [← hqx] at h1
             rw [← hqy] at h2
             show (_ ∧ _) ∧ (_ ∧ _)
             refine ⟨⟨?_, ?_⟩, ?_, ?_⟩ <;> simp only <;> omega)
            rw [← hqx, ← hqy] at HQ HKZ
            rw [← hqx, ← hqy]
            have q0 : wz.cell? ⟨bk, 0, none⟩ = some (.int .i64 qx) := by simp [World.cell?, HKZ.out]
            have q1 : wz.cell? ⟨bk, 1, none⟩ = some (.int .i64 qy) := by simp [World.cell?, HKZ.out]
            clear hqx hqy HKZ1
            by_cases hmem : ∃ v ∈ ws', prD a b v = prD a b (u ++ [(j : Int)])
            ·
             have HLK := Lib.hid (show (lk (seenL a b ws') (qx, qy)).getD (.bool false) = .bool true by rw [← HQ.out, seenL_lk]; simp only [decide_eq_true hmem])
             have HMEM := Lib.hid hmem
             clear hmem
             go_wp2_with (at_lookup; refine wpList_amap _ rfl _ _ 151 rfl 4 mapPair zeroBool (w4.heap.size + 1) _ rfl HBFZ.out.map (qx, qy) rfl HOKQ.out ?_; rw [HLK.out])
             go_roundg (C - (j + 1))
             case measure => rw [HGJ.out]; omega
             case rel => exact ⟨j + 1, ws', by omega, rfl, by go_num, HINV'.out.old HU'.out HMEM.out, HPRE.out, HBFZ.out, HROW'.out, HBZ.out, HNDZ.out⟩
            ·
             have HLK := Lib.hid (show (lk (seenL a b ws') (qx, qy)).getD (.bool false) = .bool false by rw [← HQ.out, seenL_lk]; simp only [decide_eq_false hmem])
             have HNEW := Lib.hid (show ∀ v ∈ ws', prD a b v ≠ prD a b (u ++ [(j : Int)]) from fun v hv e => hmem ⟨v, hv, e⟩)
             have HSL := Lib.hid (show (seenL a b ws').length < maxLen by simp [seenL]; unfold maxLen; have := HFEW.out; omega)
             clear hmem
             go_wp2_with (first
              | (at_lookup; refine wpList_amap _ rfl _ _ 151 rfl 4 mapPair zeroBool (w4.heap.size + 1) _ rfl HBFZ.out.map (qx, qy) rfl HOKQ.out ?_; rw [HLK.out])
              | (at_mapUpdate
                 go_loud ((
                  refine wpList_amap_put _ rfl _ _ _ 151 rfl 4 mapPair (w4.heap.size + 1) _ rfl HBFZ.out.map (qx, qy) rfl HOKQ.out (.bool true) rfl HSL.out ?_
                  intro wy hmy hgy
                  have hly := hgy.size
                  have r0 : wy.cell? ⟨bk, 0, none⟩ = some (.int .i64 qx) := by rw [World.cell?_of_block (hgy.block bk hbz (fun e => by injection e with e; omega))]; exact q0
                  have r1 : wy.cell? ⟨bk, 1, none⟩ = some (.int .i64 qy) := by rw [World.cell?_of_block (hgy.block bk hbz (fun e => by injection e with e; omega))]; exact q1
                  have hlk := Nat.lt_of_lt_of_le hbz hly
                  rw [← HQ.out] at hmy
                  obtain ⟨v20, w20, hrun, hbf20, hb20, hq20, hr20⟩ := HBFZ.out.push (by omega) HU'.out (j : Int) HNEW.out hmy hgy (by have := HFEW.out; omega)
                  rw [HQ.out] at hrun
                  have HRUN := Lib.hid hrun
                  have HBF20 := Lib.hid hbf20
                  have HB20 := Lib.hid (HBZ.out.trans hb20)
                  have HND20 := Lib.hid ((hq20 _ (heap_lt HNDZ.out) (by omega) HROW'.out).trans HNDZ.out)
                  have HR20 := Lib.hid (show rowOf v20 ≠ some w6.heap.size from fun e => by
                   rcases hr20 with h | h
                   ·
                    rw [h] at e; exact HROW'.out e
                   ·
                    have := h _ e; omega)
                  clear hrun hbf20 hb20 hq20 hr20 hmy hgy)))
              | (at_builtin; refine Lib.wpList_append_run _ rfl _ _ _ _ rfl _ _ rfl rfl _ _ HRUN.out ?_))
             go_roundg (C - (j + 1))
             case measure => rw [HGJ.out]; omega
             case rel => exact ⟨j + 1, ws' ++ [u ++ [(j : Int)]], by omega, rfl, by go_num, HINV'.out.new HU'.out (by rw [← HC.out]; exact hjl) HNEW.out, HPRE.out.trans (List.prefix_append _ _), HBF20.out, HR20.out, HB20.out, HND20.out⟩
           exact AllL.nil
          exact AllL.nil
         exact AllL.nil
        refine AllL.cons rfl (fun K hK => ?_) ?_
        ·
         go_simp
         obtain ⟨w16, hw16⟩ : ∃ w16 : World, w16 = wd.alloc (.cells #[.int .i64 0, .int .i64 0] 117) := ⟨_, rfl⟩
         rw [← hw16]
         obtain ⟨bk, hbk0⟩ : ∃ bk, bk = wd.heap.size := ⟨_, rfl⟩
         try rw [← hbk0]
         have hb16 : Below wd.heap.size wd w16 := by rw [hw16]; exact (Below.refl _ _).alloc (Nat.le_refl _) _
         have HBK16 := Lib.hid (show w16.heap[bk]? = some (.cells #[.int .i64 0, .int .i64 0] 117 (0, 0)) by rw [hw16, hbk0]; exact heap_alloc_new _ _)
         have hbk : bk < w16.heap.size := by rw [hw16, hbk0]; simp
         have hbk6 : w6.heap.size < bk ∧ w4.heap.size + 1 < bk ∧ w10.heap.size ≤ bk := by have := HBFd.out.map.lt; rw [hbk0]; omega
         have HB16 := Lib.hid (HBd.out.trans (hb16.mono HBd.out.size))
         have hz16 := hb16.size
         have HND16 := Lib.hid ((hb16.block _ (by omega)).trans HNDd.out)
         have HBF16 := Lib.hid (HBFd.out.below hb16)
         have HK16 := Lib.hid (HCELL.out _ HB16.out HND16.out)
         clear hb16 hw16 hbk0
         refine hK.out _ _ HK16.out (fun _ => trivial) ?_
         clear hK K
         refine wpAnyL_ready (rs := [5]) (by kernel_rfl) (by simp) ?_
         refine AllL.cons rfl (fun K hK => ?_) ?_
         ·
          go_simp
          refine (sameTo w16 _ _ _ _ _ _ _ a (HSN.out _ (HALLW.out _ HB16.out)) HV.out px (j : Int) (by rw [HPX.out]; exact HR.out.2.1) (HJC.out)).mono ?_
          rintro e w17 ⟨rfl, hb17⟩
          have HB17 := Lib.hid (HB16.out.trans (hb17.mono HB16.out.size))
          have hz17 := hb17.size
          have HND17 := Lib.hid ((hb17.block _ (by omega)).trans HND16.out)
          have HBF17 := Lib.hid (HBF16.out.below hb17)
          have HK17 := Lib.hid (HCELL.out _ HB17.out HND17.out)
          have HBK17 := Lib.hid ((hb17.block _ (by omega)).trans HBK16.out)
          have hbk := Nat.lt_of_lt_of_le hbk (by omega : _ ≤ w17.heap.size)
          clear hb17
          refine hK.out _ _ HK17.out (fun _ => trivial) ?_
          clear hK K
          refine wpAnyL_ready (rs := [11]) (by kernel_rfl) (by simp) ?_
          refine AllL.cons rfl (fun K hK => ?_) ?_
          ·
           go_simp
           refine (sameTo w17 _ _ _ _ _ _ _ b (HSN'.out _ (HALLW.out _ HB17.out)) HV'.out py (j : Int) (by rw [HPY.out]; exact HR.out.2.2) (by rw [← HCC.out]; exact HJC.out)).mono ?_
           rintro e w18 ⟨rfl, hb18⟩
           have HB18 := Lib.hid (HB17.out.trans (hb18.mono HB17.out.size))
           have hz18 := hb18.size
           have HND18 := Lib.hid ((hb18.block _ (by omega)).trans HND17.out)
           have HBF18 := Lib.hid (HBF17.out.below hb18)
           have HK18 := Lib.hid (HCELL.out _ HB18.out HND18.out)
           have HBK18 := Lib.hid ((hb18.block _ (by omega)).trans HBK17.out)
           have hbk := Nat.lt_of_lt_of_le hbk (by omega : _ ≤ w18.heap.size)
           clear hb18
           refine hK.out _ _ HK18.out (fun _ => trivial) ?_
           clear hK K
           refine wpAnyL_pure (i := 12) rfl (by kernel_rfl) (fun _ _ _ h => h) (Or.inl ⟨by rfl, (fun u hu => by obtain ⟨⟨⟨k0, k1, k2⟩, k3, k4, k5⟩, k6, k7⟩ := hu; go_simp; try rfl)⟩) HK18.out (fun _ => trivial) ?_
           simp only [Act.put, List.setIfInBounds_toArray, List.set_cons_zero, List.set_cons_succ, List.getElem_toArray, List.getElem_cons_zero, List.getElem_cons_succ]
           refine wpAnyL_ready (rs := [14]) (by kernel_rfl) (by simp) ?_
           refine AllL.cons rfl (fun K hK => ?_) ?_
           ·
            have c0 : w18.cell? ⟨bk, 0, none⟩ = some (.int .i64 0) := by simp [World.cell?, HBK18.out]
            have c1 : w18.cell? ⟨bk, 1, none⟩ = some (.int .i64 0) := by simp [World.cell?, HBK18.out]
            have df0 : w18.frozen? ⟨bk, 0, none⟩ = false := by simp [World.frozen?, HBK18.out]
            have df1 : w18.frozen? ⟨bk, 1, none⟩ = false := by simp [World.frozen?, HBK18.out]
            go_simp
            obtain ⟨wz, hwz⟩ : ∃ wz : World, wz = (w18.setCell ⟨bk, 0, none⟩ (.int .i64 (dto a px (j : Int)))).setCell ⟨bk, 1, none⟩ (.int .i64 (dto b py (j : Int))) := ⟨_, rfl⟩
            rw [← hwz]
            have hgz : w18.grownBy wz (some bk) := by rw [hwz]; exact (setGr (g := bk) w18 0 _).trans (setGr (g := bk) _ 1 _)
            have HKZ := Lib.hid (show wz.heap[bk]? = some (.cells #[.int .i64 (dto a px (j : Int)), .int .i64 (dto b py (j : Int))] 117 (0, 0)) by rw [hwz]; have := blk_set (blk_set HBK18.out 0 (.int .i64 (dto a px (j : Int)))) 1 (.int .i64 (dto b py (j : Int))); simpa using this)
            have HBZ := Lib.hid (HB18.out.grown hgz (by omega) (fun g e => by injection e with e; omega))
            have HNDZ := Lib.hid ((hgz.block _ (heap_lt HND18.out) (fun e => by injection e with e; omega)).trans HND18.out)
            have HBFZ := Lib.hid (HBF18.out.low hgz (K := w10.heap.size) HBF'.out.row (fun g e => by injection e with e; omega) (by omega))
            have HKZ1 := Lib.hid (HCELL.out _ HBZ.out HNDZ.out)
            have hbz : bk < wz.heap.size := heap_lt HKZ.out
            clear c0 c1 df0 df1 hwz hgz
            refine hK.out _ _ HKZ1.out (fun _ => trivial) ?_
            clear hK K
            refine wpAnyL_done (by kernel_rfl) ?_ _
            have HQ := Lib.hid (show prD a b (u ++ [(j : Int)]) = (dto a px (j : Int), dto b py (j : Int)) by rw [prD_snoc, ← HPX.out, ← HPY.out])
            obtain ⟨qx, hqx⟩ : ∃ qx, qx = dto a px (j : Int) := ⟨_, rfl⟩
            obtain ⟨qy, hqy⟩ : ∃ qy, qy = dto b py (j : Int) := ⟨_, rfl⟩
            have HOKQ := Lib.hid (show pairK.ok (qx, qy) from by
             have h1 := dto_range HV.out (s := px) (c := (j : Int)) (by rw [HPX.out]; exact HR.out.2.1) HJC.out
             have h2 := dto_range HV'.out (s := py) (c := (j : Int)) (by rw [HPY.out]; exact HR.out.2.2) (by rw [← HCC.out]; exact HJC.out)
             have h3 := HV.out.n2
             have h4 := HV'.out.n2
             rw [← hqx] at h1
             rw [← hqy] at h2
             show (_ ∧ _) ∧ (_ ∧ _)
             refine ⟨⟨?_, ?_⟩, ?_, ?_⟩ <;> simp only <;> omega)
            rw [← hqx, ← hqy] at HQ HKZ
            rw [← hqx, ← hqy]
            have q0 : wz.cell? ⟨bk, 0, none⟩ = some (.int .i64 qx) := by simp [World.cell?, HKZ.out]
            have q1 : wz.cell? ⟨bk, 1, none⟩ = some (.int .i64 qy) := by simp [World.cell?, HKZ.out]
            clear hqx hqy HKZ1
            by_cases hmem : ∃ v ∈ ws', prD a b v = prD a b (u ++ [(j : Int)])
            ·
             have HLK := Lib.hid (show (lk (seenL a b ws') (qx, qy)).getD (.bool false) = .bool true by rw [← HQ.out, seenL_lk]; simp only [decide_eq_true hmem])
             have HMEM := Lib.hid hmem
             clear hmem
             go_wp2_with (at_lookup; refine wpList_amap _ rfl _ _ 151 rfl 4 mapPair zeroBool (w4.heap.size + 1) _ rfl HBFZ.out.map (qx, qy) rfl HOKQ.out ?_; rw [HLK.out])
             go_roundg (C - (j + 1))
             case measure => rw [HGJ.out]; omega
             case rel => exact ⟨j + 1, ws', by omega, rfl, by go_num, HINV'.out.old HU'.out HMEM.out, HPRE.out, HBFZ.out, HROW'.out, HBZ.out, HNDZ.out⟩
            ·
             have HLK := Lib.hid (show (lk (seenL a b ws') (qx, qy)).getD (.bool false) = .bool false by rw [← HQ.out, seenL_lk]; simp only [decide_eq_false hmem])
             have HNEW := Lib.hid (show ∀ v ∈ ws', prD a b v ≠ prD a b (u ++ [(j : Int)]) from fun v hv e => hmem ⟨v, hv, e⟩)
             have HSL := Lib.hid (show (seenL a b ws').length < maxLen by simp [seenL]; unfold maxLen; have := HFEW.out; omega)
             clear hmem
             go_wp2_with (first
              | (at_lookup; refine wpList_amap _ rfl _ _ 151 rfl 4 mapPair zeroBool (w4.heap.size + 1) _ rfl HBFZ.out.map (qx, qy) rfl HOKQ.out ?_; rw [HLK.out])
              | (at_mapUpdate
                 go_loud ((
                  refine wpList_amap_put _ rfl _ _ _ 151 rfl 4 mapPair (w4.heap.size + 1) _ rfl HBFZ.out.map (qx, qy) rfl HOKQ.out (.bool true) rfl HSL.out ?_
                  intro wy hmy hgy
                  have hly := hgy.size
                  have r0 : wy.cell? ⟨bk, 0, none⟩ = some (.int .i64 qx) := by rw [World.cell?_of_block (hgy.block bk hbz (fun e => by injection e with e; omega))]; exact q0
                  have r1 : wy.cell? ⟨bk, 1, none⟩ = some (.int .i64 qy) := by rw [World.cell?_of_block (hgy.block bk hbz (fun e => by injection e with e; omega))]; exact q1
                  have hlk := Nat.lt_of_lt_of_le hbz hly
                  rw [← HQ.out] at hmy
                  obtain ⟨v20, w20, hrun, hbf20, hb20, hq20, hr20⟩ := HBFZ.out.push (by omega) HU'.out (j : Int) HNEW.out hmy hgy (by have := HFEW.out; omega)
                  rw [HQ.out] at hrun
                  have HRUN := Lib.hid hrun
                  have HBF20 := Lib.hid hbf20
                  have HB20 := Lib.hid (HBZ.out.trans hb20)
                  have HND20 := Lib.hid ((hq20 _ (heap_lt HNDZ.out) (by omega) HROW'.out).trans HNDZ.out)
                  have HR20 := Lib.hid (show rowOf v20 ≠ some w6.heap.size from fun e => by
                   rcases hr20 with h | h
                   ·
                    rw [h] at e; exact HROW'.out e
                   ·
                    have := h _ e; omega)
                  clear hrun hbf20 hb20 hq20 hr20 hmy hgy)))
              | (at_builtin; refine Lib.wpList_append_run _ rfl _ _ _ _ rfl _ _ rfl rfl _ _ HRUN.out ?_))
             go_roundg (C - (j + 1))
             case measure => rw [HGJ.out]; omega
             case rel => exact ⟨j + 1, ws' ++ [u ++ [(j : Int)]], by omega, rfl, by go_num, HINV'.out.new HU'.out (by rw [← HC.out]; exact hjl) HNEW.out, HPRE.out.trans (List.prefix_append _ _), HBF20.out, HR20.out, HB20.out, HND20.out⟩
           exact AllL.nil
          exact AllL.nil
         exact AllL.nil
        exact AllL.nil
       ·
        obtain rfl : j = C := by omega
        go_wp2_with fail
        go_roundg (K - (i + 1))
        case measure => rw [HGK.out]; omega
        case rel =>
         refine ⟨i + 1, ws', by have := HPRE.out.length_le; omega, HFEW.out, rfl, by go_num, HINV'.out.next HC.out, (fun q v hq hv => ?_), HBF'.out, HB'.out⟩
         rcases Nat.lt_or_ge q i with h1 | h1
         ·
          refine HAG.out q v h1 ?_
          obtain ⟨r, hr⟩ := HPRE.out
          rw [← hr, List.getElem?_append_left (by omega)] at hv
          exact hv
         ·
          obtain rfl : q = i := by omega
          rw [HU'.out] at hv
          injection hv with hv
          subst hv
          show dat a (prD a b u).1 = dat b (prD a b u).2
          rw [← HPX.out, ← HPY.out]
          exact HAGR.out
     ·
      have hne : (dat a px != dat b py) = true := by simpa using hagr
      have HNE := Lib.hid hagr
      obtain ⟨B9, hB9⟩ : ∃ B9, B9 = w9.heap.size := ⟨_, rfl⟩
      have HB9E := Lib.hid hB9
      rw [hne]
      clear hagr hB9 hne
      go_wp2_with fail
      go_loopg [15, 16] i (fun gk vo vk wr => ∃ (k : Nat) (u' acc : List Int) (Ao : Option Addr) (co : Nat), gk = k ∧ vk = .int .i64 k ∧ ws[k]? = some u' ∧ u = u' ++ acc ∧ vo = .slice Ao acc.length co ∧ Own wr w9.heap.size 3 1 (.slice Ao acc.length co) acc.length (acc.reverse.map (Value.int .i64)) ∧ Below w9.heap.size w9 wr)
      case atStart => exact ⟨i, u, [], none, 0, rfl, rfl, HU.out, by simp, rfl, Own.nil _ _ _ _ _, Below.refl _ _⟩
      case round =>
       obtain ⟨k, u', acc, Ao, co, hgk2, rfl, hu', huu, rfl, ho, hbr⟩ := hrel
       obtain ⟨w10, rfl⟩ : ∃ w10 : World, w10 = wr := ⟨_, rfl⟩
       have hkw : k < ws.length := (List.getElem?_eq_some_iff.1 hu').1
       have hbfr := HBF9.out.below hbr
       obtain ⟨g2, off2, f2, sy2, u2, e2, _, hgl2, _, _, d2, d3, hu2, hfs2⟩ := hbfr.node hkw
       injection e2 with e2
       injection e2 with e2 e3
       subst e2
       subst e3
       rw [hu'] at hu2
       injection hu2 with hu2
       subst hu2
       have hkI : (k : Int) < (ws.length : Int) := by omega
       have HGK2 := Lib.hid hgk2
       have HUU := Lib.hid huu
       have HO := Lib.hid ho
       have HBR := Lib.hid hbr
       have hul : u'.length ≤ k := HINV.out.short k u' hu'
       have huk : acc.length ≤ i := by
        have h1 := HINV.out.short i u HU.out
        rw [huu] at h1
        simp at h1
        omega
       rcases hfs2 with ⟨rfl, rfl⟩ | ⟨f', u3, rfl, hf', hu3, rfl⟩
       ·
        have HW := Lib.hid (show u = acc by rw [huu]; rfl)
        clear hgk2 huu ho hbr hbfr hu' hgl2 hul
        go_wp2_with fail
        have hrv := reverseInt w10 w9.heap.size Ao co acc.reverse (by rw [List.length_reverse]; exact HO.out) (by rw [List.length_reverse]; omega)
        rw [List.length_reverse, List.reverse_reverse] at hrv
        refine hrv.mono ?_
        rintro e w11 ⟨rfl, ho11, hg11⟩
        have HO11 := Lib.hid ho11
        have HB11 := Lib.hid (show Below w9.heap.size w10 w11 from Below.own (Below.refl _ _) HO.out hg11 (Nat.le_refl _) HBR.out.size)
        clear hrv ho11 hg11 d2 d3
        go_wp2_with fail
        go_ret3
        have hbe := HKEEP.out _ (HALLW.out _ (HB9.out.trans ((HBR.out.trans HB11.out).mono HB9.out.size)))
        have hsz9 : w.heap.size ≤ w9.heap.size := (HKEEP.out _ (HALLW.out _ HB9.out)).size
        have hcap : acc.length ≤ co := by
         obtain ⟨A1, c1, e, hc, _⟩ := HO11.out.form
         injection e with _ _ e
         rw [e]; exact hc
        refine ⟨.inr ⟨Ao, co, acc, rfl, ?_, ?_⟩, hbe⟩
        ·
         exact (Rd.slInts HO11.out.rd hcap).more fun b hb => by omega
        ·
         rw [← HW.out]
         refine ⟨HR.out.1, ?_, ?_, HINV.out.least HAG.out HU.out⟩
         ·
          rw [HW.out, ← HKK.out]; omega
         ·
          intro e
          refine HNE.out ?_
          rw [HPX.out, HPY.out]
          exact e
       ·
        have hf0 : (0 : Int) ≤ (f' : Int) := by omega
        have HU3 := Lib.hid hu3
        have hoL : OwnL Rep.int w10 (fun _ => False) w9.heap.size 3 (.slice Ao acc.length co) acc.reverse := Own.ints ho _
        obtain ⟨v11, w11, hrun, ho11, hg11, hb11⟩ := run_append_lit (R := Rep.int) tInts rfl w10 22 w9.heap.size (fun _ => False) (.slice Ao acc.length co) acc.reverse hoL 1 [sy2] [.int .i64 sy2] (Cells.single rfl) rfl (by simp; unfold maxLen; omega) (by simp; omega) hbr.size
        have hbf11 := HBF9.out.below (hbr.trans hb11)
        obtain ⟨g4, off4, f4, sy4, u4, e4, _, hgl4, _, _, d4, _, hu4, hfs4⟩ := hbf11.node hkw
        injection e4 with e4
        injection e4 with e4 e5
        subst e4
        subst e5
        have hd4 : w11.cell? ⟨g, off + k * 4 + 2, none⟩ = some (.int .i64 (f' : Int)) := by
         have := (hb11.cell (p := ⟨g, off + k * 4 + 2, none⟩) (by have := (HBF9.out.node hkw).choose_spec.choose_spec.choose_spec.choose_spec.choose_spec; obtain ⟨e, _, hl, _⟩ := this; injection e with e; injection e with e; rw [← e] at hl; exact hl)).trans d2
         exact this
        have HRUN := Lib.hid hrun
        have HO11 := Lib.hid ho11
        have HB11 := Lib.hid (hbr.trans hb11)
        have hgw : g < w10.heap.size := hgl2
        clear hgk2 huu ho hbr hbfr hu' hul hoL hrun ho11 hg11 hb11 hbf11 hgl4 d4 hu4 hfs4 hu3
        go_wp2_with (at_builtin; refine Lib.wpList_append_run (o := ⟨some 93, _, _, _, _, _⟩) _ rfl _ _ _ _ rfl _ _ rfl rfl _ _ HRUN.out ?_)
        go_roundg f'
        case measure => rw [HGK2.out]; omega
        case rel =>
         obtain ⟨A12, c12, e12, hc12, _⟩ := HO11.out.form
         obtain ⟨xs12, ho12, hx12⟩ := HO11.out
         rw [Cells.ints.1 hx12] at ho12
         simp only [List.length_append, List.length_reverse, List.length_cons, List.length_nil, Nat.zero_add] at e12 ho12
         refine ⟨f', u3, sy2 :: acc, A12, c12, rfl, rfl, HU3.out, by rw [HUU.out]; simp, by rw [e12]; rfl, ?_, HB11.out⟩
         rw [e12, show Rep.int.size = 1 from rfl] at ho12
         simpa using ho12
    exact AllL.nil
   exact AllL.nil
  ·
   obtain rfl : i = ws.length := by omega
   have HNO := Lib.hid (HINV.out.none HAG.out (Nat.le_refl _))
   have HBE := Lib.hid (HKEEP.out _ (HALLW.out _ HB6.out))
   clear hgk hinv hag hbf hb6
   go_wp2_with fail
   go_ret3
   exact ⟨.inl ⟨rfl, HNO.out⟩, HBE.out⟩
end Go.Proofs.Ytgaahpddlohjoaa
