/- Mkr MeetR -/
import Derived.Test.YtbmcoamdfpegnaaMn13
import Derived.Test.YtbmcoamdfpegnaaMn14
import Derived.Test.YtbmcoamdfpegnaaMn15
import Derived.Test.YtbmcoamdfpegnaaMn18
namespace Go.Proofs.Ytbmcoamdfpegnaa
open Go.RowKit Go.Maps
structure Mkr where
 Bm : Nat
 Bw : Nat
 AR : Option Addr
 nR : Nat
 cR : Nat
 T : Nat
 N : Nat
 st : Nat
 R : List RuleD
 A : Option Addr
 n : Nat
 cA : Nat
 NN : Option Addr
 cN : Nat
 d : DfaD
 S : Nat → Prop
structure Mkr.Ok (M : Mkr) : Prop where
 val : Valid M.d
 cl : cols M.d = M.T
 n : M.n = M.d.2.2.length
 n12 : M.n ≤ 12
 g : GValid ((M.T : Int), (M.N : Int), (M.st : Int), M.R)
 nR : M.nR = M.R.length
 apart : ∀ b, M.S b → b ≠ M.Bm ∧ b ≠ M.Bw
 ne : M.Bm ≠ M.Bw
abbrev Mkr.box (M : Mkr) : Array Value := #[.int .i64 (M.T : Int), .int .i64 (M.N : Int), .int .i64 (M.st : Int), .slice M.AR M.nR M.cR, .int .i64 M.d.1, .slice M.A M.n M.cA, .slice M.NN M.n M.cN, .map (some M.Bw)]
def inW (W : List TriD) : TriD → Bool := fun t => decide (t ∈ W)
def Mkr.Tri (M : Mkr) (t : TriD) : Prop := t.1 < M.n ∧ t.2.1 < M.N ∧ t.2.2 < M.n
structure Mkr.In (M : Mkr) (w : World) (W : List TriD) : Prop where
 box : w.heap[M.Bm]? = some (.cells M.box 106 (0, 0))
 rules : Sl RRule w M.S M.AR M.nR M.cR M.R
 acc : Sl Rep.int w M.S M.A M.n M.cA M.d.2.1
 nxt : Sl RI w M.S M.NN M.n M.cN M.d.2.2
 words : TMap w M.Bw W
 fit : ∀ b, M.S b → b < w.heap.size
 rng : ∀ t ∈ W, M.Tri t
section
variable {M : Mkr} {w w' : World} {W : List TriD} {X : Nat → Prop}
theorem Mkr.In.only (h : M.In w W) (ho : Only w w' X) (hX : ∀ b, X b → b ≠ M.Bm ∧ b ≠ M.Bw ∧ ¬ M.S b) : M.In w' W :=
 ⟨(ho.block _ (heap_lt h.box) fun hx => (hX _ hx).1 rfl).trans h.box, h.rules.keep (ho.kept fun b hb hx => (hX b hx).2.2 hb), h.acc.keep (ho.kept fun b hb hx => (hX b hx).2.2 hb), h.nxt.keep (ho.kept fun b hb hx => (hX b hx).2.2 hb),
  h.words.block (ho.block _ h.words.map.lt fun hx => (hX _ hx).2.1 rfl), fun b hb => Nat.lt_of_lt_of_le (h.fit b hb) ho.size, h.rng⟩
theorem Mkr.In.below (h : M.In w W) (hb : Below w.heap.size w w') : M.In w' W := h.only (X := fun _ => False) (.of_below hb (Nat.le_refl _) _) fun _ hx => hx.elim
theorem Mkr.In.low (h : M.In w W) : M.Bm < w.heap.size ∧ M.Bw < w.heap.size ∧ ∀ b, M.S b → b < w.heap.size := ⟨heap_lt h.box, h.words.map.lt, h.fit⟩
theorem Mkr.In.belowK {K : Nat} (h : M.In w W) (hb : Below K w w') (h1 : M.Bm < K) (h2 : M.Bw < K) (h3 : ∀ b, M.S b → b < K) : M.In w' W :=
 h.only (X := fun b => K ≤ b) ⟨hb.os, hb.tape, hb.output, hb.size, fun b _ hx => hb.block b (by omega)⟩ fun b hx => ⟨by omega, by omega, fun hs => by have := h3 b hs; omega⟩
theorem Mkr.In.cells (h : M.In w W) : w.cell? ⟨M.Bm, 0, none⟩ = some (.int .i64 (M.T : Int)) ∧ w.cell? ⟨M.Bm, 1, none⟩ = some (.int .i64 (M.N : Int)) ∧ w.cell? ⟨M.Bm, 2, none⟩ = some (.int .i64 (M.st : Int)) ∧ w.cell? ⟨M.Bm, 3, none⟩ = some (.slice M.AR M.nR M.cR) ∧
    w.cell? ⟨M.Bm, 4, none⟩ = some (.int .i64 M.d.1) ∧ w.cell? ⟨M.Bm, 5, none⟩ = some (.slice M.A M.n M.cA) ∧ w.cell? ⟨M.Bm, 6, none⟩ = some (.slice M.NN M.n M.cN) ∧ w.cell? ⟨M.Bm, 7, none⟩ = some (.map (some M.Bw)) := by
 have := h.box
 refine ⟨?_, ?_, ?_, ?_, ?_, ?_, ?_, ?_⟩ <;> simp [World.cell?, this]
end
abbrev nsV (l : List Nat) : List Value := l.map fun x : Nat => Value.int .i64 (x : Int)
theorem nsV_append (a b : List Nat) : nsV (a ++ b) = nsV a ++ nsV b := by simp [nsV]
theorem mapTri : Try.prog.underlying 104 = some (.map 92 4) := by kernel_rfl
end Go.Proofs.Ytbmcoamdfpegnaa
namespace Go.Proofs.Ytbmcoamdfpegnaa
def codeT (t : TriD) : Nat := (t.1 * 10 + t.2.1) * 12 + t.2.2
theorem codeT_inj {t u : TriD} (h1 : t.2.1 < 10) (h2 : t.2.2 < 12) (h3 : u.2.1 < 10) (h4 : u.2.2 < 12) (h : codeT t = codeT u) : t = u := by
 obtain ⟨a, b, c⟩ := t
 obtain ⟨a', b', c'⟩ := u
 unfold codeT at h
 simp only at h1 h2 h3 h4 h
 have e1 : a = a' := by omega
 have e2 : b = b' := by omega
 have e3 : c = c' := by omega
 rw [e1, e2, e3]
theorem tri_few {n N : Nat} (hn : n ≤ 12) (hN : N ≤ 10) {L : List TriD} (hd : L.Nodup) (h : ∀ t ∈ L, t.1 < n ∧ t.2.1 < N ∧ t.2.2 < n) : L.length ≤ 1440 := by
 have h1 : (L.map codeT).Nodup := by
  unfold List.Nodup
  rw [List.pairwise_map]
  refine hd.imp_of_mem fun ha hb hne e => hne (codeT_inj ?_ ?_ ?_ ?_ e)
  ·
   have := h _ ha; omega
  ·
   have := h _ ha; omega
  ·
   have := h _ hb; omega
  ·
   have := h _ hb; omega
 have h2 := pigeon (n := 1440) h1 fun x hx => by
  obtain ⟨t, ht, rfl⟩ := List.mem_map.1 hx
  have := h t ht
  unfold codeT
  omega
 rw [List.length_map] at h2
 exact h2
theorem markL_set {n : Nat} {xs : List Nat} {x : Nat} : (markL n xs).set x true = markL n (xs ++ [x]) := by
 refine List.ext_getElem? fun i => ?_
 by_cases hi : i < n
 ·
  rw [List.getElem?_set, markL_at hi]
  by_cases e : x = i
  ·
   subst e
   rw [if_pos rfl, if_pos (by rw [markL_len]; exact hi), markL_at hi]
   congr 1
   exact (List.contains_iff_mem.2 (List.mem_append_right _ (List.mem_singleton.2 rfl))).symm
  ·
   rw [if_neg e, markL_at hi]
   congr 1
   rw [Bool.eq_iff_iff]
   rw [List.contains_iff_mem, List.contains_iff_mem, List.mem_append, List.mem_singleton]
   exact ⟨.inl, fun h => h.elim id fun h => absurd h.symm e⟩
 ·
  rw [List.getElem?_eq_none (by rw [List.length_set, markL_len]; omega), List.getElem?_eq_none (by rw [markL_len]; omega)]
theorem nxtU_succ (d : DfaD) (W : TriD → Bool) (s : SymD) (l : List Bool) (i : Nat) : nxtU d W s l (i + 1) = nxtU d W s l i ++ if l[i]? = some true then stpL d W s i else [] := by
 unfold nxtU
 rw [List.range_succ, List.flatMap_append, List.flatMap_singleton]
theorem markL_nil (n : Nat) : markL n [] = List.replicate n false := by
 unfold markL
 refine List.ext_getElem? fun i => ?_
 rw [List.getElem?_map, List.getElem?_replicate]
 by_cases hi : i < n
 ·
  rw [List.getElem?_range hi, if_pos hi]; rfl
 ·
  rw [List.getElem?_eq_none (by simp; omega), if_neg hi]; rfl
end Go.Proofs.Ytbmcoamdfpegnaa
