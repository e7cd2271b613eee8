/- Tri Mkr MeetR MkStep -/
import Derived.BigQuiet
import Derived.Deep.LoopGhost
import Derived.Test.YtocbkccchnbmaaaGreatAw08
import Derived.Test.YtocbkccchnbmaaaGreatAw12
import Derived.Test.YtocbkccchnbmaaaGreatAw13
import Derived.Test.YtocbkccchnbmaaaGreatAw24
import Derived.Test.YtocbkccchnbmaaaGreatAw44
namespace Go.Proofs.YtocbkccchnbmaaaGreat
open Go.RowKit Go.Maps
theorem laidT : laidOutB Tryz.prog = true := by kernel_rfl
theorem triKeyed : Keyed Tryz.prog 141 := Keyed.of_law (deep_law_laid laidT (m := 3) (by omega) (of_decide_eq_true (by kernel_rfl)) (by kernel_rfl) (by kernel_rfl))
theorem triSize : ∃ m, Tryz.prog.types.size + 1 = m + 2 := by
 have h : 0 < Tryz.prog.types.size := of_decide_eq_true (by kernel_rfl)
 exact ⟨Tryz.prog.types.size - 1, by omega⟩
theorem triKey (a b c : Int) (ha : -1000000 ≤ a ∧ a ≤ 1000000) (hb : -1000000 ≤ b ∧ b ≤ 1000000) (hc : -1000000 ≤ c ∧ c ≤ 1000000) : ∃ l, keyOf Tryz.prog 141 (.agg #[.int .i64 a, .int .i64 b, .int .i64 c]) = some l := by
 have wa : (Lit.int .i64 a).wf = true := WalkArith.wf_i64 (by omega)
 have wb : (Lit.int .i64 b).wf = true := WalkArith.wf_i64 (by omega)
 have wc : (Lit.int .i64 c).wf = true := WalkArith.wf_i64 (by omega)
 refine ⟨.string (keyBytes [.int .i64 a, .int .i64 b, .int .i64 c]), ?_⟩
 have hu := Tryz.underlying141
 unfold keyOf
 simp only [hu]
 have h1 : Tryz.prog.keyType 141 = true := by kernel_rfl
 have h2 : Tryz.prog.cellsOf 141 = 3 := by kernel_rfl
 obtain ⟨m, hm⟩ := triSize
 have h3 : Tryz.prog.cellsOf 3 = 1 := by kernel_rfl
 rw [if_pos (by simp [h1, Value.formed, hu, h2]), hm]
 unfold Program.keyLits
 simp only [hu, Value.cells]
 simp [Program.keyLits, Tryz.underlying3, h2, h3, wa, wb, wc]
abbrev KTri : KeyRep Tryz.prog 141 (Int × Int × Int) where
 keyed := triKeyed
 val := fun p => .agg #[.int .i64 p.1, .int .i64 p.2.1, .int .i64 p.2.2]
 ok := fun p => (-1000000 ≤ p.1 ∧ p.1 ≤ 1000000) ∧ (-1000000 ≤ p.2.1 ∧ p.2.1 ≤ 1000000) ∧ (-1000000 ≤ p.2.2 ∧ p.2.2 ≤ 1000000)
 lit := fun p h => triKey p.1 p.2.1 p.2.2 h.1 h.2.1 h.2.2
 inj := fun x y h => by
  obtain ⟨a, b, c⟩ := x
  obtain ⟨a', b', c'⟩ := y
  simp only [Value.agg.injEq, Array.mk.injEq, List.cons.injEq, Value.int.injEq, true_and, and_true] at h
  obtain ⟨rfl, rfl, rfl⟩ := h
  rfl
def triZ (t : TriD) : Int × Int × Int := ((t.1 : Int), (t.2.1 : Int), (t.2.2 : Int))
theorem triZ_inj {t u : TriD} (h : triZ t = triZ u) : t = u := by
 obtain ⟨a, b, c⟩ := t
 obtain ⟨a', b', c'⟩ := u
 simp only [triZ, Prod.mk.injEq] at h
 obtain ⟨h1, h2, h3⟩ := h
 have e1 : a = a' := by omega
 have e2 : b = b' := by omega
 have e3 : c = c' := by omega
 rw [e1, e2, e3]
structure TMap (w : World) (b : Nat) (W : List TriD) : Prop where
 map : AMap KTri w b (W.map fun t => (triZ t, Value.bool true))
 nodup : W.Nodup
section
variable {w w' : World} {b : Nat} {W : List TriD}
theorem lk_tri (W : List TriD) (t : TriD) : lk (W.map fun t => (triZ t, Value.bool true)) (triZ t) = if t ∈ W then some (.bool true) else none := by
 induction W with
 | nil => rfl
 | cons u W ih =>
  rw [List.map_cons]
  unfold lk
  by_cases h : u = t
  ·
   subst h
   rw [if_pos rfl, if_pos List.mem_cons_self]
  ·
   rw [if_neg (fun e => h (triZ_inj e)), ih]
   by_cases h2 : t ∈ W
   ·
    rw [if_pos h2, if_pos (List.mem_cons_of_mem _ h2)]
   ·
    rw [if_neg h2, if_neg (fun h3 => (List.mem_cons.1 h3).elim (fun e => h e.symm) h2)]
theorem lk_triB (W : List TriD) (t : TriD) : (lk (W.map fun t => (triZ t, Value.bool true)) (triZ t)).getD (.bool false) = .bool (decide (t ∈ W)) := by
 rw [lk_tri]
 by_cases h : t ∈ W
 ·
  rw [if_pos h]; simp [h]
 ·
  rw [if_neg h]; simp [h]
theorem putL_tri {t : TriD} (h : t ∉ W) : putL (W.map fun t => (triZ t, Value.bool true)) (triZ t) (.bool true) = (W ++ [t]).map fun t => (triZ t, Value.bool true) := by
 rw [putL_new, List.map_append]
 ·
  rfl
 ·
  intro h2
  rw [List.map_map] at h2
  obtain ⟨u, h3, h4⟩ := List.mem_map.1 h2
  exact h (by rw [← triZ_inj h4]; exact h3)
theorem TMap.made (w : World) : TMap (w.alloc (.map #[] 0)) w.heap.size [] := ⟨AMap.made KTri w, List.nodup_nil⟩
theorem TMap.block (h : TMap w b W) (hb : w'.heap[b]? = w.heap[b]?) : TMap w' b W := ⟨h.map.block hb, h.nodup⟩
end
theorem zeroB (u : World) : (zeroValue 4).run Tryz.prog u = .ok (.bool false) u := by
 have := tBools.info
 obtain ⟨i, hi, hz0, _, _⟩ := info_parts this
 simp [zeroValue, typeInfo, hi, hz0]
theorem triOk (q a p : Nat) (h1 : q ≤ 1000) (h2 : a ≤ 1000) (h3 : p ≤ 1000) : KTri.ok (triZ (q, a, p)) := ⟨⟨by show (-1000000 : Int) ≤ (q : Int); omega, by show (q : Int) ≤ 1000000; omega⟩, ⟨by show (-1000000 : Int) ≤ (a : Int); omega, by show (a : Int) ≤ 1000000; omega⟩, ⟨by show (-1000000 : Int) ≤ (p : Int); omega, by show (p : Int) ≤ 1000000; omega⟩⟩
end Go.Proofs.YtocbkccchnbmaaaGreat
namespace Go.Proofs.YtocbkccchnbmaaaGreat
open Go.RowKit Go.Maps
structure Mkr where
 Bm : Nat
 Bw : Nat
 AR : Option Addr
 nR : Nat
 cR : Nat
 T : Nat
 N : Nat
 st : Nat
 R : List RuleD
 A : Option Addr
 n : Nat
 cA : Nat
 NN : Option Addr
 cN : Nat
 d : DfaD
 S : Nat → Prop
structure Mkr.Ok (M : Mkr) : Prop where
 val : Valid M.d
 cl : cols M.d = M.T
 n : M.n = M.d.2.2.length
 n12 : M.n ≤ 12
 g : GValid ((M.T : Int), (M.N : Int), (M.st : Int), M.R)
 nR : M.nR = M.R.length
 apart : ∀ b, M.S b → b ≠ M.Bm ∧ b ≠ M.Bw
 ne : M.Bm ≠ M.Bw
abbrev Mkr.box (M : Mkr) : Array Value := #[.int .i64 (M.T : Int), .int .i64 (M.N : Int), .int .i64 (M.st : Int), .slice M.AR M.nR M.cR, .int .i64 M.d.1, .slice M.A M.n M.cA, .slice M.NN M.n M.cN, .map (some M.Bw)]
def inW (W : List TriD) : TriD → Bool := fun t => decide (t ∈ W)
def Mkr.Tri (M : Mkr) (t : TriD) : Prop := t.1 < M.n ∧ t.2.1 < M.N ∧ t.2.2 < M.n
structure Mkr.In (M : Mkr) (w : World) (W : List TriD) : Prop where
 box : w.heap[M.Bm]? = some (.cells M.box 135 (0, 0))
 rules : Sl RRule w M.S M.AR M.nR M.cR M.R
 acc : Sl Rep.int w M.S M.A M.n M.cA M.d.2.1
 nxt : Sl RI w M.S M.NN M.n M.cN M.d.2.2
 words : TMap w M.Bw W
 fit : ∀ b, M.S b → b < w.heap.size
 rng : ∀ t ∈ W, M.Tri t
section
variable {M : Mkr} {w w' : World} {W : List TriD} {X : Nat → Prop}
theorem Mkr.In.only (h : M.In w W) (ho : Only w w' X) (hX : ∀ b, X b → b ≠ M.Bm ∧ b ≠ M.Bw ∧ ¬ M.S b) : M.In w' W :=
 ⟨(ho.block _ (heap_lt h.box) fun hx => (hX _ hx).1 rfl).trans h.box, h.rules.keep (ho.kept fun b hb hx => (hX b hx).2.2 hb), h.acc.keep (ho.kept fun b hb hx => (hX b hx).2.2 hb), h.nxt.keep (ho.kept fun b hb hx => (hX b hx).2.2 hb),
  h.words.block (ho.block _ h.words.map.lt fun hx => (hX _ hx).2.1 rfl), fun b hb => Nat.lt_of_lt_of_le (h.fit b hb) ho.size, h.rng⟩
theorem Mkr.In.below (h : M.In w W) (hb : Below w.heap.size w w') : M.In w' W := h.only (X := fun _ => False) (.of_below hb (Nat.le_refl _) _) fun _ hx => hx.elim
theorem Mkr.In.low (h : M.In w W) : M.Bm < w.heap.size ∧ M.Bw < w.heap.size ∧ ∀ b, M.S b → b < w.heap.size := ⟨heap_lt h.box, h.words.map.lt, h.fit⟩
theorem Mkr.In.cells (h : M.In w W) : w.cell? ⟨M.Bm, 0, none⟩ = some (.int .i64 (M.T : Int)) ∧ w.cell? ⟨M.Bm, 1, none⟩ = some (.int .i64 (M.N : Int)) ∧ w.cell? ⟨M.Bm, 2, none⟩ = some (.int .i64 (M.st : Int)) ∧ w.cell? ⟨M.Bm, 3, none⟩ = some (.slice M.AR M.nR M.cR) ∧
    w.cell? ⟨M.Bm, 4, none⟩ = some (.int .i64 M.d.1) ∧ w.cell? ⟨M.Bm, 5, none⟩ = some (.slice M.A M.n M.cA) ∧ w.cell? ⟨M.Bm, 6, none⟩ = some (.slice M.NN M.n M.cN) ∧ w.cell? ⟨M.Bm, 7, none⟩ = some (.map (some M.Bw)) := by
 have := h.box
 refine ⟨?_, ?_, ?_, ?_, ?_, ?_, ?_, ?_⟩ <;> simp [World.cell?, this]
end
abbrev nsV (l : List Nat) : List Value := l.map fun x : Nat => Value.int .i64 (x : Int)
theorem nsV_append (a b : List Nat) : nsV (a ++ b) = nsV a ++ nsV b := by simp [nsV]
theorem mapTri : Tryz.prog.underlying 133 = some (.map 141 4) := by kernel_rfl
end Go.Proofs.YtocbkccchnbmaaaGreat
namespace Go.Proofs.YtocbkccchnbmaaaGreat
def codeT (t : TriD) : Nat := (t.1 * 10 + t.2.1) * 12 + t.2.2
theorem codeT_inj {t u : TriD} (h1 : t.2.1 < 10) (h2 : t.2.2 < 12) (h3 : u.2.1 < 10) (h4 : u.2.2 < 12) (h : codeT t = codeT u) : t = u := by
 obtain ⟨a, b, c⟩ := t
 obtain ⟨a', b', c'⟩ := u
 unfold codeT at h
 simp only at h1 h2 h3 h4 h
 have e1 : a = a' := by omega
 have e2 : b = b' := by omega
 have e3 : c = c' := by omega
 rw [e1, e2, e3]
theorem tri_few {n N : Nat} (hn : n ≤ 12) (hN : N ≤ 10) {L : List TriD} (hd : L.Nodup) (h : ∀ t ∈ L, t.1 < n ∧ t.2.1 < N ∧ t.2.2 < n) : L.length ≤ 1440 := by
 have h1 : (L.map codeT).Nodup := by
  unfold List.Nodup
  rw [List.pairwise_map]
  refine hd.imp_of_mem fun ha hb hne e => hne (codeT_inj ?_ ?_ ?_ ?_ e)
  ·
   have := h _ ha; omega
  ·
   have := h _ ha; omega
  ·
   have := h _ hb; omega
  ·
   have := h _ hb; omega
 have h2 := pigeon (n := 1440) h1 fun x hx => by
  obtain ⟨t, ht, rfl⟩ := List.mem_map.1 hx
  have := h t ht
  unfold codeT
  omega
 rw [List.length_map] at h2
 exact h2
theorem markL_set {n : Nat} {xs : List Nat} {x : Nat} : (markL n xs).set x true = markL n (xs ++ [x]) := by
 refine List.ext_getElem? fun i => ?_
 by_cases hi : i < n
 ·
  rw [List.getElem?_set, markL_at hi]
  by_cases e : x = i
  ·
   subst e
   rw [if_pos rfl, if_pos (by rw [markL_len]; exact hi), markL_at hi]
   congr 1
   exact (List.contains_iff_mem.2 (List.mem_append_right _ (List.mem_singleton.2 rfl))).symm
  ·
   rw [if_neg e, markL_at hi]
   congr 1
   rw [Bool.eq_iff_iff]
   rw [List.contains_iff_mem, List.contains_iff_mem, List.mem_append, List.mem_singleton]
   exact ⟨.inl, fun h => h.elim id fun h => absurd h.symm e⟩
 ·
  rw [List.getElem?_eq_none (by rw [List.length_set, markL_len]; omega), List.getElem?_eq_none (by rw [markL_len]; omega)]
theorem nxtU_succ (d : DfaD) (W : TriD → Bool) (s : SymD) (l : List Bool) (i : Nat) : nxtU d W s l (i + 1) = nxtU d W s l i ++ if l[i]? = some true then stpL d W s i else [] := by
 unfold nxtU
 rw [List.range_succ, List.flatMap_append, List.flatMap_singleton]
theorem markL_nil (n : Nat) : markL n [] = List.replicate n false := by
 unfold markL
 refine List.ext_getElem? fun i => ?_
 rw [List.getElem?_map, List.getElem?_replicate]
 by_cases hi : i < n
 ·
  rw [List.getElem?_range hi, if_pos hi]; rfl
 ·
  rw [List.getElem?_eq_none (by simp; omega), if_neg hi]; rfl
end Go.Proofs.YtocbkccchnbmaaaGreat
namespace Go.Proofs.YtocbkccchnbmaaaGreat
open Go.RowKit Go.Maps
def StepL (l : List Nat) (base : Nat) (e : Ending) (w' : World) : Prop := ∃ (A : Option Addr) (c : Nat), e = .returned (.slice A l.length c) ∧ Sl Rep.int w' (fun b => base ≤ b) A l.length c (l.map fun x : Nat => (x : Int))
def stpU (V : TriD → Bool) (x q i : Nat) : List Nat := (List.range i).filter fun p => V (q, x, p)
theorem stpU_succ (V : TriD → Bool) (x q i : Nat) : stpU V x q (i + 1) = stpU V x q i ++ if V (q, x, i) = true then [i] else [] := by
 unfold stpU
 rw [List.range_succ, List.filter_append]
 by_cases h : V (q, x, i) = true
 ·
  rw [if_pos h]; simp [h]
 ·
  rw [if_neg h]; simp [h]
theorem below_drewN (B : Nat) (w : World) (k : Nat) : Below B w (w.drewN k) := ⟨rfl, rfl, rfl, Nat.le_refl _, fun _ _ => rfl⟩
theorem nsV_ints (l : List Nat) : nsV l = (l.map fun x : Nat => (x : Int)).map (Value.int .i64) := by simp [nsV]
theorem stpU_len (V : TriD → Bool) (x q i : Nat) : (stpU V x q i).length ≤ i := by
 unfold stpU
 have := List.length_filter_le (fun p => V (q, x, p)) (List.range i)
 rwa [List.length_range] at this
set_option linter.unusedSimpArgs false in
set_option maxRecDepth 100000 in
set_option maxHeartbeats 4000000 in
theorem mkStep (M : Mkr) (hM : M.Ok) (w : World) (W : List TriD) (h : M.In w W) (s : SymD) (q : Nat) (hq : q < M.n) (hs1 : s.1 = true → 0 ≤ s.2 ∧ s.2 < (cols M.d : Int)) (hs2 : s.1 = false → 0 ≤ s.2 ∧ s.2 < (M.N : Int)) :
    Calls Tryz.prog 86 #[.pointer (some ⟨M.Bm, 0, none⟩), .agg #[.bool s.1, .int .i64 s.2], .int .i64 (q : Int)] w fun e w' => StepL (stpL M.d (inW W) s q) w.heap.size e w' ∧ Below w.heap.size w w' := by
 have HI := Lib.hid h
 have HN := Lib.hid hM.n
 have hn12 := hM.n12
 obtain ⟨w1, hw1⟩ : ∃ w1 : World, w1 = w.alloc (.cells #[.bool s.1, .int .i64 s.2] 45) := ⟨_, rfl⟩
 have hb1 : Below w.heap.size w w1 := by rw [hw1]; exact (Below.refl _ _).alloc (Nat.le_refl _) _
 have hbx : w1.heap[w.heap.size]? = some (.cells #[.bool s.1, .int .i64 s.2] 45 (0, 0)) := by rw [hw1]; exact heap_alloc_new _ _
 have HI1 := Lib.hid (h.below hb1)
 have HB1 := Lib.hid hb1
 have HBX := Lib.hid hbx
 have HALL := Lib.hid (show ∀ u : World, Below w1.heap.size w1 u → (u.cell? ⟨M.Bm, 6, none⟩ = some (.slice M.NN M.n M.cN) ∧ u.cell? ⟨M.Bm, 7, none⟩ = some (.map (some M.Bw))) ∧ u.cell? ⟨w.heap.size, 0, none⟩ = some (.bool s.1) ∧ u.cell? ⟨w.heap.size, 1, none⟩ = some (.int .i64 s.2) from fun u hu => by
  have h1 := (HI1.out.below hu).cells
  have h2 := (hu.block _ (heap_lt HBX.out)).trans HBX.out
  exact ⟨⟨h1.2.2.2.2.2.2.1, h1.2.2.2.2.2.2.2⟩, by simp [World.cell?, h2], by simp [World.cell?, h2]⟩)
 obtain ⟨⟨k6, k7⟩, b0, b1⟩ := HALL.out w1 (.refl _ _)
 rw [hw1] at k6 k7 b0 b1
 have hqI : (q : Int) < (M.n : Int) := by omega
 have hq0 : (0 : Int) ≤ (q : Int) := by omega
 obtain ⟨b, x⟩ := s
 simp only at hs1 hs2 b0 b1 hw1 HBX HALL ⊢
 clear h hb1 hbx
 go_enter Tryz.func86, Tryz.ntmps86
 cases b with
 | true =>
  obtain ⟨hx0, hx1⟩ := hs1 rfl
  obtain ⟨bN, oN, b', o', m, c', hNN, hc1, hc2, hm, _⟩ := cell_at (d := M.d) HI1.out.nxt hM.val (s := (q : Int)) (c := x) ⟨by omega, by rw [← HN.out]; omega⟩ ⟨hx0, hx1⟩
  rw [hNN] at k6
  rw [Int.toNat_natCast] at hc1
  obtain ⟨y, hy⟩ : ∃ y, y = dto M.d (q : Int) x := ⟨_, rfl⟩
  rw [← hy] at hc2
  have hxm : x < (m : Int) := by rw [hm]; exact hx1
  rw [hw1] at hc1 hc2
  have HY := Lib.hid hy
  clear hs1 hs2 hm hy
  by_cases h0 : 0 ≤ y
  ·
   have hd0 : decide ((0 : Int) ≤ y) = true := by simpa using h0
   have HL := Lib.hid (show stpL M.d (inW W) (true, x) q = [y.toNat] from by
    unfold stpL
    rw [if_pos rfl, ← HY.out, if_pos h0])
   have hyn : ((y.toNat : Nat) : Int) = y := by omega
   have HYN := Lib.hid hyn
   clear hyn
   go_wp2_with fail
   go_quiet (fail)
   go_wp2_with fail
   go_ret
   rw [HL.out]
   exact ⟨⟨_, _, rfl, Rd.slInts (by show Rd _ _ 1 _ 1 [.int .i64 ((y.toNat : Nat) : Int)]; rw [HYN.out]; exact Rd.new _ _ _ [.int .i64 y] _ (by simp) (by simp)) (Nat.le_refl _)⟩, (((Below.refl _ _).alloc (Nat.le_refl _) _).trans (below_drewN _ _ _)).alloc (by simp) _⟩
  ·
   have hd0 : decide ((0 : Int) ≤ y) = false := by simpa using h0
   have HL := Lib.hid (show stpL M.d (inW W) (true, x) q = [] from by
    unfold stpL
    rw [if_pos rfl, ← HY.out, if_neg h0])
   go_wp2_with fail
   go_quiet (fail)
   go_wp2_with fail
   go_ret
   rw [HL.out]
   exact ⟨⟨_, _, rfl, Sl.nil _ _ _ _⟩, ((Below.refl _ _).alloc (Nat.le_refl _) _).trans (below_drewN _ _ _)⟩
 | false =>
  obtain ⟨hx0, hx1⟩ := hs2 rfl
  have hxN := hM.g
  obtain ⟨xn, rfl⟩ : ∃ xn : Nat, x = (xn : Int) := ⟨x.toNat, by omega⟩
  have hN10 : M.N ≤ 10 := by have := hM.g.n2; simp only at this; omega
  clear hs1 hs2 hxN
  go_wp2_with fail
  clear k6 k7 b0 b1
  go_loopg [8, 34] M.n (fun gk v8 v34 wr => ∃ i : Nat, i ≤ M.n ∧ gk = M.n - i ∧ v34 = .int .i64 i ∧ Own wr w1.heap.size 3 1 v8 (stpU (inW W) xn q i).length (nsV (stpU (inW W) xn q i)) ∧ Below w1.heap.size w1 wr)
  case atStart => exact ⟨0, Nat.zero_le _, rfl, rfl, Own.nil _ _ _ _ _, by rw [hw1]; exact .refl _ _⟩
  case round =>
   obtain ⟨i, hi, hgk, rfl, how, hb1⟩ := hrel
   obtain ⟨w2, rfl⟩ : ∃ w2 : World, w2 = wr := ⟨_, rfl⟩
   obtain ⟨A, c1, hv, hc1, _⟩ := how.form
   subst hv
   have HGK := Lib.hid hgk
   have HO1 := Lib.hid how
   have HB2 := Lib.hid (HB1.out.trans (hb1.mono HB1.out.size))
   have HB12 := Lib.hid hb1
   have hlen := stpU_len (inW W) xn q i
   obtain ⟨nl, hnl⟩ : ∃ nl, nl = stpU (inW W) xn q i := ⟨_, rfl⟩
   rw [← hnl] at hlen
   rw [← hnl] at HO1
   have HNL := Lib.hid hnl
   rw [← hnl]
   clear hgk how hb1 hnl
   by_cases hil : i < M.n
   ·
    have hiI : (i : Int) < (M.n : Int) := by omega
    have hi0 : (0 : Int) ≤ (i : Int) := by omega
    obtain ⟨⟨k6, k7⟩, b0, b1⟩ := HALL.out w2 HB12.out
    clear k6
    have hlk : ∀ n, (Instr.lookup 133 (.map (some M.Bw)) (.agg #[.int .i64 (q : Int), .int .i64 (xn : Int), .int .i64 (i : Int)]) false).run Tryz.prog (w2.drewN n) = .ok (.bool (decide ((q, xn, i) ∈ W))) (w2.drewN n) := fun n => by
     have h1 := (HI.out.below HB2.out).words
     have h2 := AMap.look (w := w2.drewN n) (h1.map.below ⟨rfl, rfl, rfl, Nat.le_refl _, fun _ _ => rfl⟩) mapTri zeroB (triOk q xn i (by omega) (by omega) (by omega))
     rw [lk_triB] at h2
     exact h2
    have HS := Lib.hid (stpU_succ (inW W) xn q i)
    by_cases hin : (q, xn, i) ∈ W
    ·
     have e : decide ((q, xn, i) ∈ W) = true := by simpa using hin
     rw [e] at hlk
     go_wp2_with fail
     go_quiet (fail)
     obtain ⟨w3, hw3⟩ : ∃ w3 : World, w3 = w2.drewN nq := ⟨_, rfl⟩
     have hb23 : Below w2.heap.size w2 w3 := by rw [hw3]; exact below_drewN _ _ _
     have hz3 : w3.heap.size = w2.heap.size := by rw [hw3]; rfl
     have hb3 := HB2.out.trans (hb23.mono HB2.out.size)
     have hb13 := HB12.out.trans (hb23.mono HB12.out.size)
     have ho3 := HO1.out.below hb23 (Nat.le_refl _)
     obtain ⟨v4, w4, hrun, ho4, hg4, hrow4⟩ := run_append_Own tInts (w3.alloc (.cells #[.int .i64 (i : Int)] 3)) 22 w1.heap.size _ _ _ (ho3.alloc _) (fun _ => True) (some ⟨w3.heap.size, 0, none⟩) 1 1 [.int .i64 (i : Int)] (Rd.new w3 _ _ [.int .i64 (i : Int)] _ rfl trivial) (by intro u hu; obtain rfl := List.mem_singleton.1 hu; rfl) (by unfold maxLen; omega) (by omega) (by have := hb13.size; simp; omega)
     obtain ⟨A4, c4, rfl, _, _⟩ := ho4.form
     have hb34' : Below w1.heap.size w3 w4 := ((Below.refl _ _).alloc hb13.size _).trans (Below.own (Below.refl _ _) (ho3.alloc _) hg4 (Nat.le_refl _) (by have := hb13.size; simp; omega))
     have HB14 := Lib.hid (hb13.trans hb34')
     have HO4 := Lib.hid (show Own w4 w1.heap.size 3 1 (.slice A4 (nl.length + 1) c4) (stpU (inW W) xn q (i + 1)).length (nsV (stpU (inW W) xn q (i + 1))) by
      rw [HS.out, if_pos (show inW W (q, xn, i) = true from e), ← HNL.out, nsV_append, List.length_append]
      exact ho4)
     rw [← hw3]
     have HRUN := Lib.hid hrun
     clear hrun ho4 hg4 hrow4 hb34' hb3 hb13 ho3 hb23 hz3 hw3 hlk
     go_wp2_with (at_builtin; refine Lib.wpList_append_run (o := ⟨some 50, _, _, _, _, _⟩) _ rfl _ _ _ _ rfl _ _ rfl rfl _ _ HRUN.out ?_)
     go_roundg (M.n - (i + 1))
     case measure => rw [HGK.out]; omega
     case rel => exact ⟨i + 1, by omega, rfl, by go_num, HO4.out, HB14.out⟩
    ·
     have e : decide ((q, xn, i) ∈ W) = false := by simpa using hin
     rw [e] at hlk
     go_wp2_with fail
     go_quiet (fail)
     have hb23 : Below w2.heap.size w2 (w2.drewN nq) := below_drewN _ _ _
     have HO3 := Lib.hid (show Own (w2.drewN nq) w1.heap.size 3 1 (.slice A nl.length c1) (stpU (inW W) xn q (i + 1)).length (nsV (stpU (inW W) xn q (i + 1))) by
      rw [HS.out, if_neg (show ¬ inW W (q, xn, i) = true by unfold inW; simpa using hin), List.append_nil, ← HNL.out]
      exact HO1.out.below hb23 (Nat.le_refl _))
     have HB13 := Lib.hid (HB12.out.trans (hb23.mono HB12.out.size))
     clear hb23 hlk
     go_wp2_with fail
     go_roundg (M.n - (i + 1))
     case measure => rw [HGK.out]; omega
     case rel => exact ⟨i + 1, by omega, rfl, by go_num, HO3.out, HB13.out⟩
   ·
    obtain rfl : M.n = i := by omega
    have HL := Lib.hid (show stpL M.d (inW W) (false, (xn : Int)) q = nl from by
     rw [HNL.out]
     unfold stpL stpU
     rw [if_neg (by simp), ← HN.out]
     rfl)
    go_wp2_with fail
    go_ret
    rw [HL.out]
    refine ⟨⟨_, _, rfl, ?_⟩, HB2.out⟩
    have h1 := HO1.out.rd.more (S' := fun b => w.heap.size ≤ b) fun b hb => Nat.le_trans HB1.out.size hb
    rw [nsV_ints] at h1
    exact h1.slInts (by rw [HNL.out]; exact hc1)
end Go.Proofs.YtocbkccchnbmaaaGreat
