/- CanonSt DfaSl -/
import Derived.Test.YtocbkccchnbmaaaGreatAw06
import Derived.Test.YtocbkccchnbmaaaGreatAw24
import Derived.Test.YtocbkccchnbmaaaGreatAw32
import Derived.Test.YtocbkccchnbmaaaGreatAw33
namespace Go.Proofs.YtocbkccchnbmaaaGreat
open Go.RowKit
section
variable {d : DfaD} {p : List Int}
theorem numOf_live (hp : PartOk d p) {t : Int} (ht : t < d.2.2.length) (hl : LiveP d t) : ∃ m : Nat, m < d.2.2.length ∧ p[t.toNat]? = some (m : Int) ∧ numPt p t = m := by
 have h0 := hl.nonneg
 obtain ⟨m, h1, h2⟩ := hp.live t.toNat (by omega) (by unfold LvN; rwa [show ((t.toNat : Nat) : Int) = t by omega])
 exact ⟨m, h1, h2, by unfold numPt; rw [if_neg (by omega), h2]; rfl⟩
theorem numOf_dead (hp : PartOk d p) {t : Int} (h0 : 0 ≤ t) (ht : t < d.2.2.length) (hl : ¬ LiveP d t) : p[t.toNat]? = some (-1) := hp.dead t.toNat (by omega) (by unfold LvN; rwa [show ((t.toNat : Nat) : Int) = t by omega])
theorem numOf_same (hp : PartOk d p) {s t : Int} (hs : s < d.2.2.length) (ht : t < d.2.2.length) (hls : LiveP d s) (hlt : LiveP d t) : numPt p s = numPt p t ↔ EqvP d s t := by
 have h1 := hls.nonneg
 have h2 := hlt.nonneg
 have := hp.same s.toNat t.toNat (by omega) (by omega) (by unfold LvN; rwa [show ((s.toNat : Nat) : Int) = s by omega]) (by unfold LvN; rwa [show ((t.toNat : Nat) : Int) = t by omega])
 rw [show ((s.toNat : Nat) : Int) = s by omega, show ((t.toNat : Nat) : Int) = t by omega] at this
 rw [← this]
 obtain ⟨m, _, e1, e2⟩ := numOf_live hp hs hls
 obtain ⟨m', _, e3, e4⟩ := numOf_live hp ht hlt
 rw [e1, e2, e3, e4]
 constructor
 ·
  intro h; rw [h]
 ·
  intro h; injection h
theorem cls_idx (hp : PartOk d p) {t : Int} (ht : t < d.2.2.length) (hl : LiveP d t) : ∀ {sts : List Int}, (∀ s ∈ sts, s < d.2.2.length ∧ LiveP d s) → clsIdx d sts t = (sts.map (numPt p)).idxOf (numPt p t)
 | [], _ => rfl
 | a :: l, h => by
  have ih := cls_idx hp ht hl (sts := l) (fun s hs => h s (List.mem_cons_of_mem _ hs))
  obtain ⟨h1, h2⟩ := h a List.mem_cons_self
  have hs := numOf_same hp ht h1 hl h2
  unfold clsIdx at ih ⊢
  rw [List.findIdx_cons, List.map_cons, List.idxOf_cons, ih]
  by_cases he : EqvP d t a
  ·
   rw [show (numPt p a == numPt p t) = true by rw [beq_iff_eq]; exact (hs.2 he).symm]
   simp [he]
  ·
   rw [show (numPt p a == numPt p t) = false by rw [beq_eq_false_iff_ne]; exact fun e => he (hs.1 e.symm)]
   simp [he]
def keysC (p : List Int) (sts : List Int) : List Int := sts.map (numPt p)
theorem step_dead {sts : List Int} {t : Int} (hl : ¬ LiveP d t) : numC d sts t = -1 ∧ addC d sts t = sts := by
 unfold numC addC
 rw [if_neg hl, if_neg (fun h => hl h.1)]
 exact ⟨rfl, rfl⟩
theorem step_old (hp : PartOk d p) {sts : List Int} (hs : ∀ s ∈ sts, s < d.2.2.length ∧ LiveP d s) {t : Int} (ht : t < d.2.2.length) (hl : LiveP d t) (hm : numPt p t ∈ keysC p sts) : numC d sts t = (((keysC p sts).idxOf (numPt p t) : Nat) : Int) ∧ addC d sts t = sts := by
 have hi := cls_idx hp ht hl hs
 have hlt : clsIdx d sts t < sts.length := by
  rw [hi]
  have := List.idxOf_lt_length_iff.2 hm
  simpa [keysC] using this
 unfold numC addC
 rw [if_pos hl, if_neg (fun h => by omega)]
 exact ⟨by rw [hi]; rfl, rfl⟩
theorem step_new (hp : PartOk d p) {sts : List Int} (hs : ∀ s ∈ sts, s < d.2.2.length ∧ LiveP d s) {t : Int} (ht : t < d.2.2.length) (hl : LiveP d t) (hm : numPt p t ∉ keysC p sts) : numC d sts t = (sts.length : Int) ∧ addC d sts t = sts ++ [t] := by
 have hi := cls_idx hp ht hl hs
 have he : clsIdx d sts t = sts.length := by
  rw [hi]
  have : (keysC p sts).idxOf (numPt p t) = (keysC p sts).length := by
   rcases Nat.lt_or_ge ((keysC p sts).idxOf (numPt p t)) (keysC p sts).length with h | h
   ·
    exact absurd (List.idxOf_lt_length_iff.1 h) hm
   ·
    exact Nat.le_antisymm List.idxOf_le_length h
  simpa [keysC] using this
 unfold numC addC
 rw [if_pos hl, if_pos ⟨hl, he⟩]
 exact ⟨by rw [he], rfl⟩
theorem keysC_snoc (sts : List Int) (t : Int) : keysC p (sts ++ [t]) = keysC p sts ++ [numPt p t] := by simp [keysC]
theorem keysC_len (sts : List Int) : (keysC p sts).length = sts.length := by simp [keysC]
end
def halfRow (C : Nat) (l : List Int) : List Int := l ++ List.replicate (C - l.length) 0
theorem halfRow_set {C : Nat} {l : List Int} (h : l.length < C) (x : Int) : (halfRow C l).set l.length x = halfRow C (l ++ [x]) := by
 unfold halfRow
 rw [List.set_append, if_neg (Nat.lt_irrefl _), Nat.sub_self, List.length_append, List.length_singleton, List.append_assoc]
 obtain ⟨k, hk⟩ : ∃ k, C - l.length = k + 1 := ⟨C - l.length - 1, by omega⟩
 rw [hk, List.replicate_succ, List.set_cons_zero, show C - (l.length + 1) = k by omega]
 rfl
theorem halfRow_len {C : Nat} {l : List Int} (h : l.length ≤ C) : (halfRow C l).length = C := by
 unfold halfRow
 rw [List.length_append, List.length_replicate]
 omega
theorem halfRow_full {C : Nat} {l : List Int} (h : l.length = C) : halfRow C l = l := by
 unfold halfRow
 rw [h, Nat.sub_self]
 simp
theorem Own.same {w w' : World} {base : Nat} {e : TypeId} {size n : Nat} {v : Value} {xs : List Value} (h : Own w base e size v n xs) (hk : ∀ g, rowOf v = some g → w'.heap[g]? = w.heap[g]?) : Own w' base e size v n xs := by
 rcases h with h | h
 ·
  rcases h.2 with ⟨h1, h2⟩ | ⟨g, cap, cur, rfl, hb, hh, hnc, hr⟩
  ·
   exact .inl ⟨h.1, .inl ⟨h1, h2⟩⟩
  ·
   cases cap with
   | zero =>
    obtain rfl : n = 0 := by omega
    exact .inr ⟨_, rfl, rfl, List.eq_nil_of_length_eq_zero (by rw [h.1, Nat.zero_mul])⟩
   | succ k => exact .inl ⟨h.1, .inr ⟨g, k + 1, cur, rfl, hb, (hk g rfl).trans hh, hnc, hr⟩⟩
 ·
  exact .inr h
abbrev KI : KeyRep Tryz.prog 3 Int := intKeys' Tryz.underlying3
structure CnOut (wr : World) (base Bo BM : Nat) (acc : List Int) (rows : List (List Int)) (vA vN : Value) (xs : List Value) (vS : Value) (sts : List Int) (keys : List (Int × Value)) : Prop where
 df : DfaB wr base Bo 0 acc rows vA vN xs
 st : Own wr base 3 1 vS sts.length (sts.map (Value.int .i64))
 ds : ∀ g, rowOf vS = some g → rowOf vA ≠ some g ∧ rowOf vN ≠ some g ∧ ∀ (i : Nat) (v : Value), xs[i]? = some v → rowOf v ≠ some g
 mp : AMap KI wr BM keys
 bm : BM < base ∧ BM ≠ Bo
structure CnIn (wr : World) (base Bo BM BR : Nat) (acc : List Int) (rows : List (List Int)) (vA vN : Value) (xs : List Value) (vS : Value) (sts : List Int) (keys : List (Int × Value)) (L : List Int) : Prop where
 o : CnOut wr base Bo BM acc rows vA vN xs vS sts keys
 low : DfaLow BR vA vN xs
 rw_ : InB wr BR L
 sr : rowOf vS ≠ some BR
 br : base ≤ BR
section
variable {wr w' : World} {base Bo BM BR : Nat} {acc : List Int} {rows : List (List Int)} {vA vN vS : Value} {xs : List Value} {sts : List Int} {keys keys' : List (Int × Value)} {L : List Int}
theorem CnOut.below (h : CnOut wr base Bo BM acc rows vA vN xs vS sts keys) (hb : Below wr.heap.size wr w') : CnOut w' base Bo BM acc rows vA vN xs vS sts keys :=
 ⟨h.df.below hb, h.st.below hb (Nat.le_refl _), h.ds, h.mp.below hb, h.bm⟩
theorem CnOut.row (h : CnOut wr base Bo BM acc rows vA vN xs vS sts keys) (C : Nat) : CnIn (wr.alloc (.cells (Array.replicate C (Value.int .i64 0)) 3)) base Bo BM wr.heap.size acc rows vA vN xs vS sts keys (halfRow C []) := by
 refine ⟨h.below ((Below.refl _ _).alloc (Nat.le_refl _) _), h.df.low, ?_, fun e => ?_, h.df.le⟩
 ·
  unfold InB halfRow
  have e : ((([] : List Int) ++ List.replicate (C - ([] : List Int).length) (0 : Int)).map (Value.int .i64)).toArray = Array.replicate C (Value.int .i64 0) := by simp
  rw [e]
  exact heap_alloc_new _ _
 ·
  have := (h.st.row e).2
  omega
theorem CnIn.drew (h : CnIn wr base Bo BM BR acc rows vA vN xs vS sts keys L) : CnIn wr.drew base Bo BM BR acc rows vA vN xs vS sts keys L :=
 ⟨h.o.below (Below.refl _ _).drew, h.low, h.rw_, h.sr, h.br⟩
theorem CnIn.setRow (h : CnIn wr base Bo BM BR acc rows vA vN xs vS sts keys L) (i : Nat) (x : Int) : CnIn (wr.setCell ⟨BR, i, none⟩ (.int .i64 x)) base Bo BM BR acc rows vA vN xs vS sts keys (L.set i x) := by
 have hbr := h.br
 have hset := set_grown (Bd := BR) wr i (.int .i64 x)
 have hlt := h.o.df.lt
 refine ⟨⟨h.o.df.keptRow hset fun g e => ?_, h.o.st.kept hset fun g e e' => ?_, h.o.ds, h.o.mp.setCell (by have := h.o.bm; simp; omega) _, h.o.bm⟩, h.low, h.rw_.set i x, h.sr, h.br⟩
 ·
  injection e with e
  subst e
  refine ⟨by omega, fun e => ?_, fun e => ?_, fun j v hv e => ?_⟩
  ·
   have := h.low.1 _ e; omega
  ·
   have := h.low.2.1 _ e; omega
  ·
   have := h.low.2.2 j v _ hv e; omega
 ·
  injection e with e
  subst e
  exact h.sr e'
theorem CnIn.putMap (h : CnIn wr base Bo BM BR acc rows vA vN xs vS sts keys L) (hm : AMap KI w' BM keys') (hg : wr.grownBy w' (some BM)) : CnIn w' base Bo BM BR acc rows vA vN xs vS sts keys' L := by
 have hbm := h.o.bm
 have hbr := h.br
 refine ⟨⟨h.o.df.grown hg fun g e => ?_, h.o.st.kept hg fun g e e' => ?_, h.o.ds, hm, h.o.bm⟩, h.low, ?_, h.sr, h.br⟩
 ·
  injection e with e
  subst e
  exact ⟨hbm.2, hbm.1⟩
 ·
  injection e with e
  subst e
  have := (h.o.st.row e').1
  omega
 ·
  exact (hg.block BR (heap_lt h.rw_) (by simp; omega)).trans h.rw_
theorem CnIn.pushS {A : Option Addr} {n c : Nat} (h : CnIn wr base Bo BM BR acc rows vA vN xs (.slice A n c) sts keys L) (t : Int) (hl : sts.length ≤ 1000000) :
    ∃ A2 c2 w2, (Builtin.append_ #[22, 22] 22 #[.slice A n c, .slice (some ⟨wr.heap.size, 0, none⟩) 1 1]).run Tryz.prog (wr.alloc (.cells #[.int .i64 t] 3)) = .ok (.slice A2 (n + 1) c2) w2 ∧
     CnIn w2 base Bo BM BR acc rows vA vN xs (.slice A2 (n + 1) c2) (sts ++ [t]) keys L ∧ Below base wr w2 := by
 obtain ⟨A0, c0, e0, _, _⟩ := h.o.st.form
 injection e0 with _ hn _
 subst hn
 have hle := h.o.df.le
 have h1 := h.o.below ((Below.refl _ _).alloc (Nat.le_refl _) (.cells #[.int .i64 t] 3))
 obtain ⟨v2, w2, hrun, ho, hg, hrow⟩ := run_append_Own tInts (wr.alloc (.cells #[.int .i64 t] 3)) 22 base (.slice A sts.length c) sts.length (sts.map (Value.int .i64)) h1.st (fun _ => True) (some ⟨wr.heap.size, 0, none⟩) 1 1 [.int .i64 t]
  (Rd.new wr _ _ [.int .i64 t] _ rfl trivial) (by intro u hu; obtain rfl := List.mem_singleton.1 hu; rfl) (by unfold maxLen; omega) (by omega) (by simp; omega)
 obtain ⟨A2, c2, rfl, _, _⟩ := ho.form
 have hb : Below base wr w2 := ((Below.refl _ _).alloc hle _).trans (Below.own (Below.refl _ _) h1.st hg (Nat.le_refl _) h1.df.le)
 have hrow2 : ∀ b, b < wr.heap.size → rowOf (.slice A sts.length c) ≠ some b → rowOf (.slice A2 (sts.length + 1) c2) ≠ some b := fun b h2 h3 e => by
  rcases hrow with e2 | e2
  ·
   rw [e2] at e; exact h3 e
  ·
   rw [e2] at e
   injection e with e
   simp at e
   omega
 have hin : InB (wr.alloc (.cells #[.int .i64 t] 3)) BR L := h.rw_.below ((Below.refl _ _).alloc (Nat.le_refl _) _)
 have hbl := heap_lt h.rw_
 have hlow := h.low
 refine ⟨A2, c2, w2, hrun, ⟨⟨h1.df.keptRow hg fun g e => ?_, by simpa using ho, fun g e => ?_, h1.mp.grown hg fun e => ?_, h.o.bm⟩, h.low, ?_, hrow2 BR hbl h.sr, h.br⟩, hb⟩
 ·
  have hb1 := (h.o.st.row e).1
  have hd := h.o.df.lt
  obtain ⟨k1, k2, k3⟩ := h.o.ds g e
  exact ⟨by omega, k1, k2, k3⟩
 ·
  rcases hrow with e2 | e2
  ·
   rw [e2] at e
   exact h.o.ds g e
  ·
   rw [e2] at e
   injection e with e
   simp at e
   refine ⟨fun e3 => ?_, fun e3 => ?_, fun i v hv e3 => ?_⟩
   ·
    have := hlow.1 g e3; omega
   ·
    have := hlow.2.1 g e3; omega
   ·
    have := hlow.2.2 i v g hv e3; omega
 ·
  have := (h.o.st.row e).1
  have := h.o.bm
  omega
 ·
  exact (hg.block BR (heap_lt hin) (fun e => h.sr e.symm)).trans hin
theorem CnIn.outer {w6 wk : World} {g7 H K : Nat} {r : List Int} {x : Int} {v u u' : Value} (h : CnIn w6 base Bo BM BR acc rows vA vN xs vS sts keys L)
    (ht : TwoZ (fun b => b = BM ∨ b = g7) w6.drew wk base Bo 0 acc rows vA vN xs r x (some v) (some H) (some u) (some K) (some u')) (hg : ∀ g, rowOf vS = some g → g = g7) :
    CnOut ((wk.setCell ⟨Bo, 2, none⟩ u).setCell ⟨Bo, 1, none⟩ u') base Bo BM (acc ++ [x]) (rows ++ [r]) u' u (xs ++ [v]) vS sts keys := by
 obtain ⟨h1, h2, h3⟩ := ht.done
 refine ⟨h1, h.o.st.drew.same fun g hg' => ?_, fun g hg' => ?_, h.o.mp.drew.block (h3 BM (.inl rfl)), h.o.bm⟩
 ·
  rw [hg g hg']
  exact h3 g7 (.inr rfl)
 ·
  rw [hg g hg']
  exact h2 g7 (.inr rfl)
end
end Go.Proofs.YtocbkccchnbmaaaGreat
namespace Go.Proofs.YtocbkccchnbmaaaGreat
open Go.RowKit
theorem DfaB.sl {w : World} {base Bd : Nat} {start : Int} {acc : List Int} {rows : List (List Int)} {A N : Option Addr} {nA cA n cN : Nat} {xs : List Value} (h : DfaB w base Bd start acc rows (.slice A nA cA) (.slice N n cN) xs) :
    Sl Rep.int w (fun b => base ≤ b) A nA cA acc ∧ Sl RI w (fun b => base ≤ b) N n cN rows := by
 obtain ⟨A4, n4, c4, A5, n5, c5, e, h1, h2⟩ := RDfa.cells.1 h.rep
 simp only [List.cons.injEq, Value.slice.injEq, and_true] at e
 obtain ⟨_, ⟨rfl, rfl, rfl⟩, ⟨rfl, rfl, rfl⟩⟩ := e
 exact ⟨h1, h2⟩
end Go.Proofs.YtocbkccchnbmaaaGreat
