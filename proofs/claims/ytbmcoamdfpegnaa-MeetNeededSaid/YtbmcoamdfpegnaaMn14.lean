/- Tri MeetQ -/
import Derived.Test.YtbmcoamdfpegnaaMn08
import Derived.Test.YtbmcoamdfpegnaaMn13
namespace Go.Proofs.Ytbmcoamdfpegnaa
open Go.RowKit Go.Maps
theorem laidT : laidOutB Try.prog = true := by kernel_rfl
theorem triKeyed : Keyed Try.prog 92 := Keyed.of_law (deep_law_laid laidT (m := 3) (by omega) (of_decide_eq_true (by kernel_rfl)) (by kernel_rfl) (by kernel_rfl))
theorem triSize : ∃ m, Try.prog.types.size + 1 = m + 2 := by
 have h : 0 < Try.prog.types.size := of_decide_eq_true (by kernel_rfl)
 exact ⟨Try.prog.types.size - 1, by omega⟩
theorem triKey (a b c : Int) (ha : -1000000 ≤ a ∧ a ≤ 1000000) (hb : -1000000 ≤ b ∧ b ≤ 1000000) (hc : -1000000 ≤ c ∧ c ≤ 1000000) : ∃ l, keyOf Try.prog 92 (.agg #[.int .i64 a, .int .i64 b, .int .i64 c]) = some l := by
 have wa : (Lit.int .i64 a).wf = true := WalkArith.wf_i64 (by omega)
 have wb : (Lit.int .i64 b).wf = true := WalkArith.wf_i64 (by omega)
 have wc : (Lit.int .i64 c).wf = true := WalkArith.wf_i64 (by omega)
 refine ⟨.string (keyBytes [.int .i64 a, .int .i64 b, .int .i64 c]), ?_⟩
 have hu := Try.underlying92
 unfold keyOf
 simp only [hu]
 have h1 : Try.prog.keyType 92 = true := by kernel_rfl
 have h2 : Try.prog.cellsOf 92 = 3 := by kernel_rfl
 obtain ⟨m, hm⟩ := triSize
 have h3 : Try.prog.cellsOf 3 = 1 := by kernel_rfl
 rw [if_pos (by simp [h1, Value.formed, hu, h2]), hm]
 unfold Program.keyLits
 simp only [hu, Value.cells]
 simp [Program.keyLits, Try.underlying3, h2, h3, wa, wb, wc]
abbrev KTri : KeyRep Try.prog 92 (Int × Int × Int) where
 keyed := triKeyed
 val := fun p => .agg #[.int .i64 p.1, .int .i64 p.2.1, .int .i64 p.2.2]
 ok := fun p => (-1000000 ≤ p.1 ∧ p.1 ≤ 1000000) ∧ (-1000000 ≤ p.2.1 ∧ p.2.1 ≤ 1000000) ∧ (-1000000 ≤ p.2.2 ∧ p.2.2 ≤ 1000000)
 lit := fun p h => triKey p.1 p.2.1 p.2.2 h.1 h.2.1 h.2.2
 inj := fun x y h => by
  obtain ⟨a, b, c⟩ := x
  obtain ⟨a', b', c'⟩ := y
  simp only [Value.agg.injEq, Array.mk.injEq, List.cons.injEq, Value.int.injEq, true_and, and_true] at h
  obtain ⟨rfl, rfl, rfl⟩ := h
  rfl
def triZ (t : TriD) : Int × Int × Int := ((t.1 : Int), (t.2.1 : Int), (t.2.2 : Int))
theorem triZ_inj {t u : TriD} (h : triZ t = triZ u) : t = u := by
 obtain ⟨a, b, c⟩ := t
 obtain ⟨a', b', c'⟩ := u
 simp only [triZ, Prod.mk.injEq] at h
 obtain ⟨h1, h2, h3⟩ := h
 have e1 : a = a' := by omega
 have e2 : b = b' := by omega
 have e3 : c = c' := by omega
 rw [e1, e2, e3]
structure TMap (w : World) (b : Nat) (W : List TriD) : Prop where
 map : AMap KTri w b (W.map fun t => (triZ t, Value.bool true))
 nodup : W.Nodup
section
variable {w w' : World} {b : Nat} {W : List TriD}
theorem lk_tri (W : List TriD) (t : TriD) : lk (W.map fun t => (triZ t, Value.bool true)) (triZ t) = if t ∈ W then some (.bool true) else none := by
 induction W with
 | nil => rfl
 | cons u W ih =>
  rw [List.map_cons]
  unfold lk
  by_cases h : u = t
  ·
   subst h
   rw [if_pos rfl, if_pos List.mem_cons_self]
  ·
   rw [if_neg (fun e => h (triZ_inj e)), ih]
   by_cases h2 : t ∈ W
   ·
    rw [if_pos h2, if_pos (List.mem_cons_of_mem _ h2)]
   ·
    rw [if_neg h2, if_neg (fun h3 => (List.mem_cons.1 h3).elim (fun e => h e.symm) h2)]
theorem lk_triB (W : List TriD) (t : TriD) : (lk (W.map fun t => (triZ t, Value.bool true)) (triZ t)).getD (.bool false) = .bool (decide (t ∈ W)) := by
 rw [lk_tri]
 by_cases h : t ∈ W
 ·
  rw [if_pos h]; simp [h]
 ·
  rw [if_neg h]; simp [h]
theorem putL_tri {t : TriD} (h : t ∉ W) : putL (W.map fun t => (triZ t, Value.bool true)) (triZ t) (.bool true) = (W ++ [t]).map fun t => (triZ t, Value.bool true) := by
 rw [putL_new, List.map_append]
 ·
  rfl
 ·
  intro h2
  rw [List.map_map] at h2
  obtain ⟨u, h3, h4⟩ := List.mem_map.1 h2
  exact h (by rw [← triZ_inj h4]; exact h3)
theorem TMap.made (w : World) : TMap (w.alloc (.map #[] 0)) w.heap.size [] := ⟨AMap.made KTri w, List.nodup_nil⟩
theorem TMap.block (h : TMap w b W) (hb : w'.heap[b]? = w.heap[b]?) : TMap w' b W := ⟨h.map.block hb, h.nodup⟩
theorem TMap.below (h : TMap w b W) (hb : Below w.heap.size w w') : TMap w' b W := h.block (hb.block _ h.map.lt)
end
theorem zeroB (u : World) : (zeroValue 4).run Try.prog u = .ok (.bool false) u := by
 have := tBools.info
 obtain ⟨i, hi, hz0, _, _⟩ := info_parts this
 simp [zeroValue, typeInfo, hi, hz0]
theorem triOk (q a p : Nat) (h1 : q ≤ 1000) (h2 : a ≤ 1000) (h3 : p ≤ 1000) : KTri.ok (triZ (q, a, p)) := ⟨⟨by show (-1000000 : Int) ≤ (q : Int); omega, by show (q : Int) ≤ 1000000; omega⟩, ⟨by show (-1000000 : Int) ≤ (a : Int); omega, by show (a : Int) ≤ 1000000; omega⟩, ⟨by show (-1000000 : Int) ≤ (p : Int); omega, by show (p : Int) ≤ 1000000; omega⟩⟩
end Go.Proofs.Ytbmcoamdfpegnaa
namespace Go.Proofs.Ytbmcoamdfpegnaa
section
variable (d : DfaD) (R : List RuleD) (W : TriD → Bool)
def NeedP (t x : TriD) : Prop := ∃ r ∈ R, r.1 = (t.2.1 : Int) ∧ ∃ l c m, r.2 = l ++ (false, c) :: m ∧ RchW d W l t.1 x.1 ∧ x.2.1 = c.toNat ∧ x.2.2 ∈ stpL d W (false, c) x.1 ∧ RchW d W m x.2.2 t.2.2
inductive NdP (st : Nat) : TriD → Prop
 | start {p : Nat} : p < d.2.2.length → 0 ≤ dat d (p : Int) → W (d.1.toNat, st, p) = true → NdP st (d.1.toNat, st, p)
 | next {t x : TriD} : NdP st t → NeedP d R W t x → NdP st x
def instL (tz : Nat) : List SymD → Nat → List (List Nat)
 | [], q => if q = tz then [[q]] else []
 | s :: l, q => (stpL d W s q).flatMap fun p => (instL tz l p).map (q :: ·)
def numT (L : List TriD) (t : TriD) : Nat := if t ∈ L then L.idxOf t + 1 else 0
def instS (L : List TriD) : List SymD → List Nat → List SymD
 | s :: l, q :: p :: qs => (if s.1 = true then s else (false, (numT L (q, s.2.toNat, p) : Int))) :: instS L l (p :: qs)
 | _, _ => []
def instR (L : List TriD) (i : Nat) (t : TriD) (r : RuleD) : List RuleD := if r.1 = (t.2.1 : Int) then (instL d W t.2.2 r.2 t.1).map fun qs => (((i + 1 : Nat) : Int), instS L r.2 qs) else []
def startR (L : List TriD) (st : Nat) : List RuleD := (List.range d.2.2.length).filterMap fun (p : Nat) => if 0 ≤ dat d (p : Int) ∧ 0 < numT L ((d.1.toNat, st, p) : TriD) then some ((0, [(false, (numT L ((d.1.toNat, st, p) : TriD) : Int))]) : RuleD) else none
def prodR (L : List TriD) (st : Nat) : List RuleD := startR d L st ++ L.zipIdx.flatMap fun p => R.flatMap fun r => instR d W L p.2 p.1 r
end
section
variable {d : DfaD} {R : List RuleD} {W : TriD → Bool} {L : List TriD} {st : Nat}
theorem NdP.told {t : TriD} (h : NdP d R W st t) : W t = true := by
 cases h with
 | start _ _ h => exact h
 | next _ h =>
  obtain ⟨r, _, _, l, c, m, _, _, e, h1, _⟩ := h
  unfold stpL at h1
  rw [if_neg (by simp), List.mem_filter] at h1
  rw [← e] at h1
  exact h1.2
theorem instL_mem {tz : Nat} : ∀ {l : List SymD} {q : Nat} {qs : List Nat}, qs ∈ instL d W tz l q → ∃ qs', qs = q :: qs' ∧ qs'.length = l.length
 | [], q, qs, h => by
  unfold instL at h
  by_cases e : q = tz
  ·
   rw [if_pos e, List.mem_singleton] at h
   exact ⟨[], h, rfl⟩
  ·
   rw [if_neg e] at h
   cases h
 | s :: l, q, qs, h => by
  unfold instL at h
  obtain ⟨p, hp, h1⟩ := List.mem_flatMap.1 h
  obtain ⟨qs1, h2, rfl⟩ := List.mem_map.1 h1
  obtain ⟨qs2, rfl, h3⟩ := instL_mem h2
  exact ⟨_, rfl, by simp [h3]⟩
theorem instL_rch {tz : Nat} : ∀ {l : List SymD} {q : Nat} {qs : List Nat}, qs ∈ instL d W tz l q → RchW d W l q tz
 | [], q, qs, h => by
  unfold instL at h
  by_cases e : q = tz
  ·
   rw [e]; exact .nil
  ·
   rw [if_neg e] at h
   cases h
 | s :: l, q, qs, h => by
  unfold instL at h
  obtain ⟨p, hp, h1⟩ := List.mem_flatMap.1 h
  obtain ⟨qs1, h2, _⟩ := List.mem_map.1 h1
  exact .cons hp (instL_rch h2)
def Listed (d : DfaD) (W : TriD → Bool) (L : List TriD) (l : List SymD) (q tz : Nat) : Prop := ∀ (l1 : List SymD) (c : Int) (l2 : List SymD) (x p : Nat), l = l1 ++ (false, c) :: l2 → RchW d W l1 q x → p ∈ stpL d W (false, c) x → RchW d W l2 p tz → (x, c.toNat, p) ∈ L
theorem numT_in {t : TriD} (h : t ∈ L) : numT L t = L.idxOf t + 1 := by unfold numT; rw [if_pos h]
theorem numT_at (hd : L.Nodup) {i : Nat} {t : TriD} (h : L[i]? = some t) : numT L t = i + 1 := by
 obtain ⟨hi, rfl⟩ := List.getElem?_eq_some_iff.1 h
 rw [numT_in (List.getElem_mem hi), hd.idxOf_getElem]
theorem prodR_mem {r' : RuleD} : r' ∈ prodR d R W L st ↔ r' ∈ startR d L st ∨ ∃ i t r, L[i]? = some t ∧ r ∈ R ∧ r' ∈ instR d W L i t r := by
 unfold prodR
 rw [List.mem_append, List.mem_flatMap]
 refine or_congr Iff.rfl ⟨?_, ?_⟩
 ·
  rintro ⟨⟨t, i⟩, h1, h2⟩
  obtain ⟨r, h3, h4⟩ := List.mem_flatMap.1 h2
  exact ⟨i, t, r, List.mem_zipIdx_iff_getElem?.1 h1, h3, h4⟩
 ·
  rintro ⟨i, t, r, h1, h2, h3⟩
  exact ⟨(t, i), List.mem_zipIdx_iff_getElem?.2 h1, List.mem_flatMap.2 ⟨r, h2, h3⟩⟩
theorem instR_mem {i : Nat} {t : TriD} {r r' : RuleD} : r' ∈ instR d W L i t r ↔ r.1 = (t.2.1 : Int) ∧ ∃ qs ∈ instL d W t.2.2 r.2 t.1, r' = (((i + 1 : Nat) : Int), instS L r.2 qs) := by
 unfold instR
 by_cases h : r.1 = (t.2.1 : Int)
 ·
  rw [if_pos h, List.mem_map]
  constructor
  ·
   rintro ⟨qs, h1, rfl⟩
   exact ⟨h, qs, h1, rfl⟩
  ·
   rintro ⟨_, qs, h1, rfl⟩
   exact ⟨qs, h1, rfl⟩
 ·
  rw [if_neg h]
  exact ⟨fun h => (by cases h), fun h1 => absurd h1.1 h⟩
theorem startR_mem {r' : RuleD} : r' ∈ startR d L st ↔ ∃ p : Nat, p < d.2.2.length ∧ 0 ≤ dat d (p : Int) ∧ 0 < numT L (d.1.toNat, st, p) ∧ r' = (0, [(false, (numT L (d.1.toNat, st, p) : Int))]) := by
 unfold startR
 rw [List.mem_filterMap]
 constructor
 ·
  rintro ⟨p, hp, h⟩
  by_cases h1 : 0 ≤ dat d (p : Int) ∧ 0 < numT L ((d.1.toNat, st, p) : TriD)
  ·
   rw [if_pos h1] at h
   injection h with h
   exact ⟨p, List.mem_range.1 hp, h1.1, h1.2, h.symm⟩
  ·
   rw [if_neg h1] at h
   cases h
 ·
  rintro ⟨p, hp, h1, h2, rfl⟩
  exact ⟨p, List.mem_range.2 hp, by rw [if_pos ⟨h1, h2⟩]⟩
theorem inst_of (hv : Valid d) (hC : ClosedT d R W) (hT : ∀ r ∈ R, TermsL d r.2) {tz : Nat} {R' : List RuleD} : ∀ {l : List SymD} {ts : List TreeD} {q : Nat}, q < d.2.2.length → TermsL d l → (∀ s ∈ l, 0 ≤ s.2) → TVL R l ts → (wordTs ts).foldl (dto d) (q : Int) = (tz : Int) → Listed d W L l q tz →
    (∀ y ∈ ts, ∀ t ∈ L, TV R (false, (t.2.1 : Int)) y → (wordT y).foldl (dto d) (t.1 : Int) = (t.2.2 : Int) → LgS R' (false, (numT L t : Int)) (wordT y)) → ∃ qs ∈ instL d W tz l q, LgL R' (instS L l qs) (wordTs ts)
 | [], ts, q, _, _, _, h, hz, _, _ => by
  have h1 : ts = [] := TVL.inv_nil h
  rw [h1, wordTs_nil] at hz
  rw [h1, wordTs_nil]
  have e : q = tz := by simp only [List.foldl_nil] at hz; omega
  exact ⟨[q], by unfold instL; rw [if_pos e]; simp, LgL.nil.2 rfl⟩
 | s :: l, ts, q, hq, ht, hs, h, hz, hL, hw => by
  obtain ⟨x, ts', rfl, h1, h2⟩ := h.inv
  rw [wordTs_cons, List.foldl_append] at hz
  have hx : 0 ≤ (wordT x).foldl (dto d) (q : Int) := by
   rcases Int.lt_or_le ((wordT x).foldl (dto d) (q : Int)) 0 with h | h
   ·
    have := dto_bad d h (wordTs ts')
    omega
   ·
    exact h
  obtain ⟨p, hp⟩ : ∃ p : Nat, (wordT x).foldl (dto d) (q : Int) = (p : Int) := ⟨_, (Int.toNat_of_nonneg hx).symm⟩
  rw [hp] at hz
  have ht0 := ht s List.mem_cons_self
  have htl : TermsL d l := fun s' hs' => ht s' (List.mem_cons_of_mem _ hs')
  have h3 := TV.told hv hC hT h1 ht0 q p hq hp
  have hpl := stpL_lt hv hq ht0 h3
  have hrest := TVL.told hv hC hT h2 htl p tz hpl hz
  obtain ⟨qs, h4, h5⟩ := inst_of hv hC hT (R' := R') hpl htl (fun s' hs' => hs s' (List.mem_cons_of_mem _ hs')) h2 hz (fun l1 c l2 z p' e h7 h8 h9 => hL (s :: l1) c l2 z p' (by rw [e]; rfl) (.cons h3 h7) h8 h9) (fun y hy => hw y (List.mem_cons_of_mem _ hy))
  obtain ⟨qs2, rfl, _⟩ := instL_mem h4
  refine ⟨q :: p :: qs2, ?_, ?_⟩
  ·
   unfold instL
   exact List.mem_flatMap.2 ⟨p, h3, List.mem_map.2 ⟨_, h4, rfl⟩⟩
  ·
   show LgL R' ((if s.1 = true then s else (false, (numT L (q, s.2.toNat, p) : Int))) :: instS L l (p :: qs2)) _
   rw [wordTs_cons]
   refine LgL.cons.2 ⟨_, _, rfl, ?_, h5⟩
   have h0 := hs s List.mem_cons_self
   obtain ⟨b, c⟩ := s
   cases b with
   | true =>
    rw [if_pos rfl]
    rw [LgS.term.1 ⟨x, h1, rfl⟩]
    exact LgS.term.2 rfl
   | false =>
    rw [if_neg (by simp)]
    simp only at h0 ⊢
    refine hw x List.mem_cons_self _ (hL [] c l q p rfl .nil h3 hrest) ?_ hp
    simp only
    rw [Int.toNat_of_nonneg h0]
    exact h1
theorem prod_complete (hv : Valid d) (hC : ClosedT d R W) (hT : ∀ r ∈ R, TermsL d r.2) (hd : L.Nodup) (hR : ∀ r ∈ R, ∀ s ∈ r.2, 0 ≤ s.2) (hq : ∀ t ∈ L, t.1 < d.2.2.length) (hL : ∀ t ∈ L, ∀ x, NeedP d R W t x → x ∈ L) : ∀ (m : Nat) (x : TreeD) (t : TriD), sizeT x ≤ m → t ∈ L → TV R (false, (t.2.1 : Int)) x → (wordT x).foldl (dto d) (t.1 : Int) = (t.2.2 : Int) → LgS (prodR d R W L st) (false, (numT L t : Int)) (wordT x)
 | 0, x, t, hm, _, _, _ => by rw [sizeT_eq] at hm; omega
 | m + 1, x, t, hm, ht, h, hz => by
  rcases h.inv with ⟨c, e, _⟩ | ⟨k, r, ts, e, rfl, h1, h2⟩
  ·
   cases e
  ·
   injection e with _ e
   rw [wordT_node] at hz ⊢
   have hr := List.mem_of_getElem? h1
   obtain ⟨qs, h3, h4⟩ := inst_of hv hC hT (R' := prodR d R W L st) (hq t ht) (hT r hr) (hR r hr) h2 hz (fun l1 c l2 z p e1 h9 h10 h11 => hL t ht (z, c.toNat, p) ⟨r, hr, e.symm, l1, c, l2, e1, h9, rfl, h10, h11⟩)
    (fun y hy t' ht' hy' hz' => prod_complete hv hC hT hd hR hq hL m y t' (by have h12 := sizeT_kid (t := .node (k : Int) 0 ts) (x := y) hy; omega) ht' hy' hz')
   obtain ⟨i, hi⟩ := List.getElem?_of_mem ht
   exact LgS.non.2 ⟨_, prodR_mem.2 (.inr ⟨i, t, r, hi, hr, instR_mem.2 ⟨e.symm, qs, h3, rfl⟩⟩), by rw [numT_at hd hi], h4⟩
end
end Go.Proofs.Ytbmcoamdfpegnaa
