/- ApxBd -/
import Derived.Test.YtocbkccchnbmaaaGreatAw16
import Derived.Test.YtocbkccchnbmaaaGreatAw17
namespace Go.Proofs.YtocbkccchnbmaaaGreat
open Go.RowKit
structure Bdr where
 Bb : Nat
 BS : Nat
 BE : Nat
 BD : Nat
 AR : Option Addr
 nR : Nat
 cR : Nat
 Tm : Int
 N : Nat
 st : Int
 R : List RuleD
 AC : Option Addr
 cC : Nat
 cs : List CompD
 cS : Nat
 S : Nat → Prop
 rk : Int → Nat
def Bdr.cf (L : Bdr) (n : Int) : CompD := (L.cs[n.toNat]?).getD (0, [])
structure Bdr.Ok (L : Bdr) : Prop where
 net : NetOk L.R L.cf L.N L.rk
 len : ∀ r ∈ L.R, r.2.length ≤ 4
 nR : L.nR ≤ 64
 rl : L.R.length = L.nR
 n : L.N ≤ 10
 cs : L.cs.length = L.N
 kind : ∀ c ∈ L.cs, c.1 = 0 ∨ c.1 = 1 ∨ c.1 = 2
 few : ∀ c ∈ L.cs, c.2.length ≤ 10
 cap : L.N ≤ L.cS
 apart : ∀ b, L.S b → b ≠ L.Bb ∧ b ≠ L.BS ∧ b ≠ L.BE ∧ b ≠ L.BD
 sep : L.Bb ≠ L.BS ∧ L.Bb ≠ L.BE ∧ L.Bb ≠ L.BD ∧ L.BS ≠ L.BE ∧ L.BS ≠ L.BD ∧ L.BE ≠ L.BD
abbrev Bdr.box (L : Bdr) (nd : Int) : Array Value := #[.int .i64 L.Tm, .int .i64 (L.N : Int), .int .i64 L.st, .slice L.AR L.nR L.cR, .slice L.AC L.N L.cC, .slice (some ⟨L.BS, 0, none⟩) L.N L.cS, .int .i64 nd, .map (some L.BE), .map (some L.BD)]
structure Bdr.In (L : Bdr) (w : World) (nd : Int) : Prop where
 box : w.heap[L.Bb]? = some (.cells (L.box nd) 54 (0, 0))
 rules : Sl RRule w L.S L.AR L.nR L.cR L.R
 of : Sl RComp w L.S L.AC L.N L.cC L.cs
 fit : ∀ b, L.S b → b < w.heap.size
def Memo (w : World) (BS N : Nat) (f : Int → Nat) : Prop := ∃ (xs : Array Value) (T : TypeId), w.heap[BS]? = some (.cells xs T (0, 0)) ∧ N ≤ xs.size ∧ ∀ i, i < N → xs[i]? = some (.int .i64 (-1)) ∨ xs[i]? = some (.int .i64 (f (i : Int) : Int))
section
variable {w w' : World} {L : Bdr} {nd : Int} {X : Nat → Prop}
theorem Bdr.In.only (h : L.In w nd) (ho : Only w w' X) (hX : ∀ b, X b → b ≠ L.Bb ∧ ¬ L.S b) : L.In w' nd :=
 ⟨(ho.block _ (heap_lt h.box) fun hx => (hX _ hx).1 rfl).trans h.box, h.rules.keep (ho.kept fun b hb hx => (hX b hx).2 hb), h.of.keep (ho.kept fun b hb hx => (hX b hx).2 hb), fun b hb => Nat.lt_of_lt_of_le (h.fit b hb) ho.size⟩
theorem Bdr.In.below (h : L.In w nd) (hb : Below w.heap.size w w') : L.In w' nd := h.only (X := fun _ => False) (.of_below hb (Nat.le_refl _) _) fun _ hx => hx.elim
theorem Memo.only {BS N : Nat} {f : Int → Nat} (h : Memo w BS N f) (ho : Only w w' X) (hX : ¬ X BS) : Memo w' BS N f := by
 obtain ⟨xs, T, h1, h2⟩ := h
 exact ⟨xs, T, (ho.block _ (heap_lt h1) hX).trans h1, h2⟩
theorem Memo.below {BS N : Nat} {f : Int → Nat} (h : Memo w BS N f) (hb : Below w.heap.size w w') : Memo w' BS N f := h.only (X := fun _ => False) (.of_below hb (Nat.le_refl _) _) id
theorem Memo.at_ {BS N : Nat} {f : Int → Nat} (h : Memo w BS N f) {i : Nat} (hi : i < N) : w.cell? ⟨BS, i, none⟩ = some (.int .i64 (-1)) ∨ w.cell? ⟨BS, i, none⟩ = some (.int .i64 (f (i : Int) : Int)) := by
 obtain ⟨xs, T, h1, _, h2⟩ := h
 refine (h2 i hi).imp (fun e => ?_) fun e => ?_
 ·
  simp [World.cell?, h1, e]
 ·
  simp [World.cell?, h1, e]
theorem Memo.set {BS N : Nat} {f : Int → Nat} (h : Memo w BS N f) {i : Nat} (hi : i < N) : w.frozen? ⟨BS, i, none⟩ = false ∧ (∃ v, w.cell? ⟨BS, i, none⟩ = some (.int .i64 v)) ∧ Memo (w.setCell ⟨BS, i, none⟩ (.int .i64 (f (i : Int) : Int))) BS N f := by
 have ha := h.at_ hi
 obtain ⟨xs, T, h1, h3, h2⟩ := h
 refine ⟨by simp [World.frozen?, h1], ?_, _, T, blk_set h1 i _, by simpa using h3, fun j hj => ?_⟩
 ·
  rcases ha with e | e
  ·
   exact ⟨_, e⟩
  ·
   exact ⟨_, e⟩
 ·
  rw [Array.getElem?_setIfInBounds]
  by_cases e : i = j
  ·
   subst e
   right
   have h5 : i < xs.size := by omega
   simp [h5]
  ·
   simp only [e, if_false]
   exact h2 j hj
end
theorem path_at {w : World} {S : Nat → Prop} {A : Option Addr} {n c k : Nat} {l : List PathD} (h : Sl RPath w S A n c l) (hk : k < n) :
    ∃ b off A' m c' p, A = some ⟨b, off, none⟩ ∧ S b ∧ b < w.heap.size ∧ w.cell? ⟨b, off + k * 3, none⟩ = some (.int .i64 p.1) ∧ w.cell? ⟨b, off + k * 3 + 1, none⟩ = some (.int .i64 p.2.1) ∧ w.cell? ⟨b, off + k * 3 + 2, none⟩ = some (.slice A' m c') ∧ l[k]? = some p ∧ Sl RSym w S A' m c' p.2.2 := by
 obtain ⟨xs, e1, e2, h3, h4⟩ := h
 subst e1
 have hg := h4.get hk
 have hl := h4.len
 obtain ⟨b, off, e, hS, hc⟩ := h3.2 (by omega)
 rw [show RPath.size = 3 from rfl] at hg hl
 have i1 : k * 3 < xs.length := by omega
 have i2 : k * 3 + 1 < xs.length := by omega
 have i3 : k * 3 + 1 + 1 < xs.length := by omega
 rw [List.drop_eq_getElem_cons i1, List.drop_eq_getElem_cons i2, List.drop_eq_getElem_cons i3] at hg
 obtain ⟨A', m, c', e2, hs⟩ := RPath.cells.1 hg
 simp only [List.take_succ_cons, List.take_zero, List.cons.injEq, and_true] at e2
 obtain ⟨d1, d2, d3⟩ := e2
 have q1 := hc _ _ (List.getElem?_eq_getElem i1)
 have q2 := hc _ _ (List.getElem?_eq_getElem i2)
 have q3 := hc _ _ (List.getElem?_eq_getElem i3)
 rw [d1] at q1
 rw [d2] at q2
 rw [d3] at q3
 exact ⟨b, off, A', m, c', l[k], e, hS, cell_lt q1, q1, q2, q3, List.getElem?_eq_getElem hk, hs⟩
theorem symSz_le {f : Int → Nat} : ∀ {l : List SymD} {a : Nat}, l.foldl (symSz f) a ≤ max a 2000
 | [], a => by simp; omega
 | s :: l, a => by
  rw [List.foldl_cons]
  have := symSz_le (f := f) (l := l) (a := symSz f a s)
  have h2 : symSz f a s ≤ max a 2000 := by
   unfold symSz
   split <;> omega
  omega
theorem pathSz_le {f : Int → Nat} : ∀ {l : List PathD} {a : Nat}, (∀ p ∈ l, p.2.2.length ≤ 4) → l.foldl (pathSz f) a ≤ max a 2000 + 4 * l.length
 | [], a, _ => by simp; omega
 | p :: l, a, h => by
  rw [List.foldl_cons, List.length_cons]
  have h1 := pathSz_le (f := f) (l := l) (a := pathSz f a p) fun q hq => h q (List.mem_cons_of_mem _ hq)
  have h2 : pathSz f a p ≤ max (a + (p.2.2.length - 1)) 2000 := symSz_le
  have h3 := h p List.mem_cons_self
  omega
theorem selfP_short {c : List Int} {own : Int} {l : List SymD} {p : PathD} : ∀ {i : Nat}, p ∈ (selfP c own l i).1 → p.2.2.length ≤ l.length
 | 0, h => by cases h
 | i + 1, h => by
  unfold selfP at h
  split at h
  ·
   exact selfP_short h
  ·
   split at h
   ·
    rcases List.mem_append.1 h with h | h
    ·
     exact selfP_short h
    ·
     rw [List.mem_singleton.1 h]
     simp only [List.length_drop, List.length_take]
     omega
   ·
    exact selfP_short h
theorem netRule_short {c : CompD} {r : RuleD} {p : PathD} (h : p ∈ netRule c r) : p.2.2.length ≤ r.2.length := by
 unfold netRule at h
 split at h
 ·
  split at h
  ·
   rw [List.mem_singleton.1 h]; exact Nat.le_refl _
  ·
   split at h
   ·
    rw [List.mem_singleton.1 h]; simp only [List.length_take]; omega
   ·
    rw [List.mem_singleton.1 h]; exact Nat.le_refl _
 ·
  split at h
  ·
   split at h
   ·
    rw [List.mem_singleton.1 h]; exact Nat.le_refl _
   ·
    split at h
    ·
     rw [List.mem_singleton.1 h]; simp only [List.length_drop]; omega
    ·
     rw [List.mem_singleton.1 h]; exact Nat.le_refl _
  ·
   rcases List.mem_append.1 h with h | h
   ·
    exact selfP_short h
   ·
    rw [List.mem_singleton.1 h]; simp only [List.length_drop]; omega
theorem netP_short {R : List RuleD} (hlen : ∀ r ∈ R, r.2.length ≤ 4) {c : CompD} {x : Int} {p : PathD} (h : p ∈ netP R c x) : p.2.2.length ≤ 4 := by
 rcases netP_mem h with h | ⟨r, hr, _, h⟩
 ·
  rw [netStart_syms h]; simp
 ·
  exact Nat.le_trans (netRule_short h) (hlen r hr)
theorem netP_few {R : List RuleD} (hlen : ∀ r ∈ R, r.2.length ≤ 4) {c : CompD} {x : Int} : (netP R c x).length ≤ 2 + 5 * R.length := netU_len hlen _
theorem netN_le (c : CompD) : netN c ≤ c.2.length * 2 := by
 unfold netN
 split <;> omega
theorem sizeF_le {L : Bdr} (hL : L.Ok) : ∀ (f : Nat) (n : Int), sizeF L.R L.cf f n ≤ 4000
 | 0, n => by simp [sizeF]
 | f + 1, n => by
  unfold sizeF netSz
  have h1 := pathSz_le (f := sizeF L.R L.cf f) (l := netP L.R (L.cf n) n) (a := netN (L.cf n)) fun p hp => netP_short hL.len hp
  have h2 := netP_few hL.len (c := L.cf n) (x := n)
  have h3 := netN_le (L.cf n)
  have h4 : (L.cf n).2.length ≤ 10 := by
   unfold Bdr.cf
   cases hc : L.cs[n.toNat]? with
   | none => simp
   | some c => exact hL.few c (List.mem_of_getElem? hc)
  have := hL.rl
  have := hL.nR
  omega
theorem sizeN_le {L : Bdr} (hL : L.Ok) (n : Int) : sizeN L.R L.cf L.N n ≤ 4000 := sizeF_le hL _ n
theorem Bdr.cf_at {L : Bdr} {m : Nat} {c : CompD} (h : L.cs[m]? = some c) : L.cf (m : Int) = c := by
 unfold Bdr.cf
 rw [Int.toNat_natCast, h]
 rfl
end Go.Proofs.YtocbkccchnbmaaaGreat
