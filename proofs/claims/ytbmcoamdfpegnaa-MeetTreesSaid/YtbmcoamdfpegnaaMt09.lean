/- MeetP Tri MeetQ -/
import Derived.Test.YtbmcoamdfpegnaaMt02
import Derived.Test.YtbmcoamdfpegnaaMt05
import Derived.Test.YtbmcoamdfpegnaaMt08
namespace Go.Proofs.Ytbmcoamdfpegnaa
abbrev TriD := Nat × Nat × Nat
section
variable (d : DfaD) (W : TriD → Bool)
def stpL (s : SymD) (q : Nat) : List Nat :=
 if s.1 = true then (if 0 ≤ dto d (q : Int) s.2 then [(dto d (q : Int) s.2).toNat] else [])
 else (List.range d.2.2.length).filter fun p => W (q, s.2.toNat, p)
inductive RchW : List SymD → Nat → Nat → Prop
 | nil {q : Nat} : RchW [] q q
 | cons {s : SymD} {l : List SymD} {q x p : Nat} : x ∈ stpL d W s q → RchW l x p → RchW (s :: l) q p
def nxtU (s : SymD) (l : List Bool) (i : Nat) : List Nat := (List.range i).flatMap fun p => if l[p]? = some true then stpL d W s p else []
def markL (n : Nat) (xs : List Nat) : List Bool := (List.range n).map fun x => xs.contains x
def rchL (l : List SymD) (q : Nat) : List Bool := l.foldl (fun at_ s => markL d.2.2.length (nxtU d W s at_ d.2.2.length)) (markL d.2.2.length [q])
end
section
variable {d : DfaD} {W W' : TriD → Bool} {R : List RuleD}
theorem markL_len (n : Nat) (xs : List Nat) : (markL n xs).length = n := by simp [markL]
theorem markL_at {n : Nat} {xs : List Nat} {x : Nat} (hx : x < n) : (markL n xs)[x]? = some (xs.contains x) := by
 unfold markL
 rw [List.getElem?_map, List.getElem?_range hx]
 rfl
theorem markL_yes {n : Nat} {xs : List Nat} {x : Nat} : (markL n xs)[x]? = some true ↔ x < n ∧ x ∈ xs := by
 constructor
 ·
  intro h
  have hx : x < n := by
   have := (List.getElem?_eq_some_iff.1 h).1
   rwa [markL_len] at this
  rw [markL_at hx] at h
  exact ⟨hx, by simpa using h⟩
 ·
  rintro ⟨hx, h⟩
  rw [markL_at hx]
  simpa using h
theorem rchL_snoc (l : List SymD) (s : SymD) (q : Nat) : rchL d W (l ++ [s]) q = markL d.2.2.length (nxtU d W s (rchL d W l q) d.2.2.length) := by
 unfold rchL
 rw [List.foldl_append]
 rfl
theorem rchL_len (l : List SymD) (q : Nat) : (rchL d W l q).length = d.2.2.length := by
 rcases List.eq_nil_or_concat l with rfl | ⟨l', s, rfl⟩
 ·
  exact markL_len _ _
 ·
  rw [List.concat_eq_append, rchL_snoc]
  exact markL_len _ _
theorem stpL_lt (hv : Valid d) {s : SymD} {q x : Nat} (hq : q < d.2.2.length) (hs : s.1 = true → 0 ≤ s.2 ∧ s.2 < (cols d : Int)) (h : x ∈ stpL d W s q) : x < d.2.2.length := by
 unfold stpL at h
 by_cases h1 : s.1 = true
 ·
  rw [if_pos h1] at h
  by_cases h2 : 0 ≤ dto d (q : Int) s.2
  ·
   rw [if_pos h2] at h
   rw [List.mem_singleton.1 h]
   have := dto_range hv (s := (q : Int)) (c := s.2) ⟨by omega, by omega⟩ (hs h1)
   omega
  ·
   rw [if_neg h2] at h
   cases h
 ·
  rw [if_neg h1] at h
  exact List.mem_range.1 (List.mem_filter.1 h).1
theorem RchW.snoc {l : List SymD} {s : SymD} {q x p : Nat} (h : RchW d W l q x) (hp : p ∈ stpL d W s x) : RchW d W (l ++ [s]) q p := by
 induction h with
 | nil => exact .cons hp .nil
 | cons h1 _ ih => exact .cons h1 (ih hp)
theorem RchW.split {m : List SymD} : ∀ {l : List SymD} {q p : Nat}, RchW d W (l ++ m) q p → ∃ x, RchW d W l q x ∧ RchW d W m x p
 | [], q, p, h => ⟨q, .nil, h⟩
 | s :: l, q, p, h => by
  cases h with
  | cons h1 h2 =>
   obtain ⟨x, h3, h4⟩ := RchW.split h2
   exact ⟨x, .cons h1 h3, h4⟩
def TermsL (d : DfaD) (l : List SymD) : Prop := ∀ s ∈ l, s.1 = true → 0 ≤ s.2 ∧ s.2 < (cols d : Int)
theorem RchW.lt (hv : Valid d) {l : List SymD} {q p : Nat} (h : RchW d W l q p) : TermsL d l → q < d.2.2.length → p < d.2.2.length := by
 induction h with
 | nil => exact fun _ h => h
 | @cons s l q x p h1 _ ih => exact fun ht hq => ih (fun s' hs' => ht s' (List.mem_cons_of_mem _ hs')) (stpL_lt hv hq (ht s List.mem_cons_self) h1)
theorem snoc_ind {α : Type} {P : List α → Prop} (h0 : P []) (h1 : ∀ l x, P l → P (l ++ [x])) (l : List α) : P l := by
 have gen : ∀ (n : Nat) (l : List α), l.length = n → P l := by
  intro n
  induction n with
  | zero => intro l hl; rw [List.eq_nil_of_length_eq_zero hl]; exact h0
  | succ n ih =>
   intro l hl
   rcases List.eq_nil_or_concat l with rfl | ⟨l', x, rfl⟩
   ·
    exact h0
   ·
    rw [List.concat_eq_append] at hl ⊢
    exact h1 l' x (ih l' (by simpa using hl))
 exact gen _ l rfl
theorem rchL_iff (hv : Valid d) {q : Nat} (hq : q < d.2.2.length) : ∀ {l : List SymD} {p : Nat}, TermsL d l → ((rchL d W l q)[p]? = some true ↔ RchW d W l q p) := by
 intro l
 refine snoc_ind (P := fun l => ∀ {p : Nat}, TermsL d l → ((rchL d W l q)[p]? = some true ↔ RchW d W l q p)) ?_ ?_ l
 ·
  intro p _
  show (markL d.2.2.length [q])[p]? = some true ↔ _
  rw [markL_yes, List.mem_singleton]
  constructor
  ·
   rintro ⟨_, rfl⟩
   exact .nil
  ·
   intro h
   cases h
   exact ⟨hq, rfl⟩
 ·
  intro l s ih p ht
  have ht1 : TermsL d l := fun s' hs' => ht s' (List.mem_append_left _ hs')
  rw [rchL_snoc, markL_yes]
  constructor
  ·
   rintro ⟨_, h⟩
   unfold nxtU at h
   obtain ⟨x, hx, hp⟩ := List.mem_flatMap.1 h
   by_cases hx1 : (rchL d W l q)[x]? = some true
   ·
    rw [if_pos hx1] at hp
    exact ((ih ht1).1 hx1).snoc hp
   ·
    rw [if_neg hx1] at hp
    cases hp
  ·
   intro h
   have hlt := h.lt hv ht hq
   obtain ⟨x, h1, h2⟩ := h.split
   cases h2 with
   | cons h2 h3 =>
    cases h3
    refine ⟨hlt, ?_⟩
    unfold nxtU
    exact List.mem_flatMap.2 ⟨x, List.mem_range.2 (h1.lt hv ht1 hq), by rw [if_pos ((ih ht1).2 h1)]; exact h2⟩
def Wd (d : DfaD) (R : List RuleD) (t : TriD) : Prop := ∃ w, LgS R (false, (t.2.1 : Int)) w ∧ w.foldl (dto d) (t.1 : Int) = (t.2.2 : Int)
theorem dto_neg (d : DfaD) : ∀ w : List Int, w.foldl (dto d) (-1) = -1
 | [] => rfl
 | x :: w => by rw [List.foldl_cons, show dto d (-1) x = -1 from rfl]; exact dto_neg d w
theorem dto_bad (d : DfaD) {s : Int} (hs : s < 0) : ∀ w : List Int, w.foldl (dto d) s < 0
 | [] => hs
 | x :: w => by
  rw [List.foldl_cons]
  refine dto_bad d ?_ w
  unfold dto
  rw [if_pos hs]
  decide
theorem rch_word (hW : ∀ t, W t = true → Wd d R t) {l : List SymD} {q p : Nat} (h : RchW d W l q p) : (∀ s ∈ l, 0 ≤ s.2) → ∃ w, LgL R l w ∧ w.foldl (dto d) (q : Int) = (p : Int) := by
 induction h with
 | nil => exact fun _ => ⟨[], LgL.nil.2 rfl, rfl⟩
 | @cons s l q x p h1 _ ih =>
  intro hs
  obtain ⟨v, h3, h4⟩ := ih fun s' hs' => hs s' (List.mem_cons_of_mem _ hs')
  have h0 := hs s List.mem_cons_self
  obtain ⟨b, c⟩ := s
  unfold stpL at h1
  cases b with
  | true =>
   rw [if_pos rfl] at h1
   simp only at h1 h0
   by_cases h5 : 0 ≤ dto d (q : Int) c
   ·
    rw [if_pos h5] at h1
    have h6 := List.mem_singleton.1 h1
    refine ⟨c :: v, LgL.cons.2 ⟨[c], v, rfl, LgS.term.2 rfl, h3⟩, ?_⟩
    rw [List.foldl_cons, show dto d (q : Int) c = (x : Int) by omega]
    exact h4
   ·
    rw [if_neg h5] at h1
    cases h1
  | false =>
   rw [if_neg (by simp)] at h1
   simp only at h1 h0
   obtain ⟨w, h6, h7⟩ := hW _ (List.mem_filter.1 h1).2
   simp only at h6 h7
   rw [Int.toNat_of_nonneg h0] at h6
   refine ⟨w ++ v, LgL.cons.2 ⟨w, v, rfl, h6, h3⟩, ?_⟩
   rw [List.foldl_append, h7]
   exact h4
def ClosedT (d : DfaD) (R : List RuleD) (W : TriD → Bool) : Prop := ∀ r ∈ R, ∀ q p : Nat, q < d.2.2.length → RchW d W r.2 q p → W (q, r.1.toNat, p) = true
mutual
theorem TV.told (hv : Valid d) (hC : ClosedT d R W) (ht : ∀ r ∈ R, TermsL d r.2) {s : SymD} {t : TreeD} (h : TV R s t) (hs : s.1 = true → 0 ≤ s.2 ∧ s.2 < (cols d : Int)) : ∀ q p : Nat, q < d.2.2.length → (wordT t).foldl (dto d) (q : Int) = (p : Int) → p ∈ stpL d W s q := by
 intro q p hq hp
 match h with
 | .leaf (c := c) =>
  rw [wordT_leaf] at hp
  simp only [List.foldl_cons, List.foldl_nil] at hp
  unfold stpL
  rw [if_pos rfl, hp, if_pos (by omega)]
  simp
 | .node (k := k) (r := r) h1 h2 =>
  rw [wordT_node] at hp
  have hr := List.mem_of_getElem? h1
  have h3 := TVL.told hv hC ht h2 (ht r hr) q p hq hp
  have h4 := hC r hr q p hq h3
  have h5 := h3.lt hv (ht r hr) hq
  unfold stpL
  rw [if_neg (by simp), List.mem_filter]
  exact ⟨List.mem_range.2 h5, h4⟩
theorem TVL.told (hv : Valid d) (hC : ClosedT d R W) (ht : ∀ r ∈ R, TermsL d r.2) {l : List SymD} {ts : List TreeD} (h : TVL R l ts) (hl : TermsL d l) : ∀ q p : Nat, q < d.2.2.length → (wordTs ts).foldl (dto d) (q : Int) = (p : Int) → RchW d W l q p := by
 intro q p hq hp
 match h with
 | .nil =>
  rw [wordTs_nil] at hp
  obtain rfl : q = p := by simp only [List.foldl_nil] at hp; omega
  exact .nil
 | .cons (s := s) (l := l) (t := t) (ts := ts) h1 h2 =>
  rw [wordTs_cons, List.foldl_append] at hp
  have hx : 0 ≤ (wordT t).foldl (dto d) (q : Int) := by
   rcases Int.lt_or_le ((wordT t).foldl (dto d) (q : Int)) 0 with h | h
   ·
    have := dto_bad d h (wordTs ts)
    omega
   ·
    exact h
  obtain ⟨x, hx⟩ : ∃ x : Nat, (wordT t).foldl (dto d) (q : Int) = (x : Int) := ⟨_, (Int.toNat_of_nonneg hx).symm⟩
  rw [hx] at hp
  have h3 := TV.told hv hC ht h1 (hl s List.mem_cons_self) q x hq hx
  exact .cons h3 (TVL.told hv hC ht h2 (fun s' hs' => hl s' (List.mem_cons_of_mem _ hs')) x p (stpL_lt hv hq (hl s List.mem_cons_self) h3) hp)
end
theorem closed_told (hv : Valid d) (hC : ClosedT d R W) (ht : ∀ r ∈ R, TermsL d r.2) {q a p : Nat} (hq : q < d.2.2.length) (h : Wd d R (q, a, p)) : W (q, a, p) = true := by
 obtain ⟨w, ⟨t, h1, rfl⟩, h2⟩ := h
 have h3 := TV.told hv hC ht h1 (fun h => by cases h) q p hq h2
 unfold stpL at h3
 rw [if_neg (by simp)] at h3
 simpa using (List.mem_filter.1 h3).2
end
end Go.Proofs.Ytbmcoamdfpegnaa
namespace Go.Proofs.Ytbmcoamdfpegnaa
open Go.RowKit Go.Maps
theorem laidT : laidOutB Try.prog = true := by kernel_rfl
theorem triKeyed : Keyed Try.prog 92 := Keyed.of_law (deep_law_laid laidT (m := 3) (by omega) (of_decide_eq_true (by kernel_rfl)) (by kernel_rfl) (by kernel_rfl))
theorem triSize : ∃ m, Try.prog.types.size + 1 = m + 2 := by
 have h : 0 < Try.prog.types.size := of_decide_eq_true (by kernel_rfl)
 exact ⟨Try.prog.types.size - 1, by omega⟩
theorem triKey (a b c : Int) (ha : -1000000 ≤ a ∧ a ≤ 1000000) (hb : -1000000 ≤ b ∧ b ≤ 1000000) (hc : -1000000 ≤ c ∧ c ≤ 1000000) : ∃ l, keyOf Try.prog 92 (.agg #[.int .i64 a, .int .i64 b, .int .i64 c]) = some l := by
 have wa : (Lit.int .i64 a).wf = true := WalkArith.wf_i64 (by omega)
 have wb : (Lit.int .i64 b).wf = true := WalkArith.wf_i64 (by omega)
 have wc : (Lit.int .i64 c).wf = true := WalkArith.wf_i64 (by omega)
 refine ⟨.string (keyBytes [.int .i64 a, .int .i64 b, .int .i64 c]), ?_⟩
 have hu := Try.underlying92
 unfold keyOf
 simp only [hu]
 have h1 : Try.prog.keyType 92 = true := by kernel_rfl
 have h2 : Try.prog.cellsOf 92 = 3 := by kernel_rfl
 obtain ⟨m, hm⟩ := triSize
 have h3 : Try.prog.cellsOf 3 = 1 := by kernel_rfl
 rw [if_pos (by simp [h1, Value.formed, hu, h2]), hm]
 unfold Program.keyLits
 simp only [hu, Value.cells]
 simp [Program.keyLits, Try.underlying3, h2, h3, wa, wb, wc]
abbrev KTri : KeyRep Try.prog 92 (Int × Int × Int) where
 keyed := triKeyed
 val := fun p => .agg #[.int .i64 p.1, .int .i64 p.2.1, .int .i64 p.2.2]
 ok := fun p => (-1000000 ≤ p.1 ∧ p.1 ≤ 1000000) ∧ (-1000000 ≤ p.2.1 ∧ p.2.1 ≤ 1000000) ∧ (-1000000 ≤ p.2.2 ∧ p.2.2 ≤ 1000000)
 lit := fun p h => triKey p.1 p.2.1 p.2.2 h.1 h.2.1 h.2.2
 inj := fun x y h => by
  obtain ⟨a, b, c⟩ := x
  obtain ⟨a', b', c'⟩ := y
  simp only [Value.agg.injEq, Array.mk.injEq, List.cons.injEq, Value.int.injEq, true_and, and_true] at h
  obtain ⟨rfl, rfl, rfl⟩ := h
  rfl
def triZ (t : TriD) : Int × Int × Int := ((t.1 : Int), (t.2.1 : Int), (t.2.2 : Int))
theorem triZ_inj {t u : TriD} (h : triZ t = triZ u) : t = u := by
 obtain ⟨a, b, c⟩ := t
 obtain ⟨a', b', c'⟩ := u
 simp only [triZ, Prod.mk.injEq] at h
 obtain ⟨h1, h2, h3⟩ := h
 have e1 : a = a' := by omega
 have e2 : b = b' := by omega
 have e3 : c = c' := by omega
 rw [e1, e2, e3]
structure TMap (w : World) (b : Nat) (W : List TriD) : Prop where
 map : AMap KTri w b (W.map fun t => (triZ t, Value.bool true))
 nodup : W.Nodup
section
variable {w w' : World} {b : Nat} {W : List TriD}
theorem lk_tri (W : List TriD) (t : TriD) : lk (W.map fun t => (triZ t, Value.bool true)) (triZ t) = if t ∈ W then some (.bool true) else none := by
 induction W with
 | nil => rfl
 | cons u W ih =>
  rw [List.map_cons]
  unfold lk
  by_cases h : u = t
  ·
   subst h
   rw [if_pos rfl, if_pos List.mem_cons_self]
  ·
   rw [if_neg (fun e => h (triZ_inj e)), ih]
   by_cases h2 : t ∈ W
   ·
    rw [if_pos h2, if_pos (List.mem_cons_of_mem _ h2)]
   ·
    rw [if_neg h2, if_neg (fun h3 => (List.mem_cons.1 h3).elim (fun e => h e.symm) h2)]
theorem lk_triB (W : List TriD) (t : TriD) : (lk (W.map fun t => (triZ t, Value.bool true)) (triZ t)).getD (.bool false) = .bool (decide (t ∈ W)) := by
 rw [lk_tri]
 by_cases h : t ∈ W
 ·
  rw [if_pos h]; simp [h]
 ·
  rw [if_neg h]; simp [h]
theorem putL_tri {t : TriD} (h : t ∉ W) : putL (W.map fun t => (triZ t, Value.bool true)) (triZ t) (.bool true) = (W ++ [t]).map fun t => (triZ t, Value.bool true) := by
 rw [putL_new, List.map_append]
 ·
  rfl
 ·
  intro h2
  rw [List.map_map] at h2
  obtain ⟨u, h3, h4⟩ := List.mem_map.1 h2
  exact h (by rw [← triZ_inj h4]; exact h3)
theorem TMap.made (w : World) : TMap (w.alloc (.map #[] 0)) w.heap.size [] := ⟨AMap.made KTri w, List.nodup_nil⟩
theorem TMap.block (h : TMap w b W) (hb : w'.heap[b]? = w.heap[b]?) : TMap w' b W := ⟨h.map.block hb, h.nodup⟩
theorem TMap.below (h : TMap w b W) (hb : Below w.heap.size w w') : TMap w' b W := h.block (hb.block _ h.map.lt)
end
theorem zeroB (u : World) : (zeroValue 4).run Try.prog u = .ok (.bool false) u := by
 have := tBools.info
 obtain ⟨i, hi, hz0, _, _⟩ := info_parts this
 simp [zeroValue, typeInfo, hi, hz0]
theorem triOk (q a p : Nat) (h1 : q ≤ 1000) (h2 : a ≤ 1000) (h3 : p ≤ 1000) : KTri.ok (triZ (q, a, p)) := ⟨⟨by show (-1000000 : Int) ≤ (q : Int); omega, by show (q : Int) ≤ 1000000; omega⟩, ⟨by show (-1000000 : Int) ≤ (a : Int); omega, by show (a : Int) ≤ 1000000; omega⟩, ⟨by show (-1000000 : Int) ≤ (p : Int); omega, by show (p : Int) ≤ 1000000; omega⟩⟩
end Go.Proofs.Ytbmcoamdfpegnaa
namespace Go.Proofs.Ytbmcoamdfpegnaa
section
variable (d : DfaD) (R : List RuleD) (W : TriD → Bool)
def NeedP (t x : TriD) : Prop := ∃ r ∈ R, r.1 = (t.2.1 : Int) ∧ ∃ l c m, r.2 = l ++ (false, c) :: m ∧ RchW d W l t.1 x.1 ∧ x.2.1 = c.toNat ∧ x.2.2 ∈ stpL d W (false, c) x.1 ∧ RchW d W m x.2.2 t.2.2
inductive NdP (st : Nat) : TriD → Prop
 | start {p : Nat} : p < d.2.2.length → 0 ≤ dat d (p : Int) → W (d.1.toNat, st, p) = true → NdP st (d.1.toNat, st, p)
 | next {t x : TriD} : NdP st t → NeedP d R W t x → NdP st x
def instL (tz : Nat) : List SymD → Nat → List (List Nat)
 | [], q => if q = tz then [[q]] else []
 | s :: l, q => (stpL d W s q).flatMap fun p => (instL tz l p).map (q :: ·)
def numT (L : List TriD) (t : TriD) : Nat := if t ∈ L then L.idxOf t + 1 else 0
def instS (L : List TriD) : List SymD → List Nat → List SymD
 | s :: l, q :: p :: qs => (if s.1 = true then s else (false, (numT L (q, s.2.toNat, p) : Int))) :: instS L l (p :: qs)
 | _, _ => []
end
section
variable {d : DfaD} {R : List RuleD} {W : TriD → Bool} {L : List TriD} {st : Nat}
theorem instL_mem {tz : Nat} : ∀ {l : List SymD} {q : Nat} {qs : List Nat}, qs ∈ instL d W tz l q → ∃ qs', qs = q :: qs' ∧ qs'.length = l.length
 | [], q, qs, h => by
  unfold instL at h
  by_cases e : q = tz
  ·
   rw [if_pos e, List.mem_singleton] at h
   exact ⟨[], h, rfl⟩
  ·
   rw [if_neg e] at h
   cases h
 | s :: l, q, qs, h => by
  unfold instL at h
  obtain ⟨p, hp, h1⟩ := List.mem_flatMap.1 h
  obtain ⟨qs1, h2, rfl⟩ := List.mem_map.1 h1
  obtain ⟨qs2, rfl, h3⟩ := instL_mem h2
  exact ⟨_, rfl, by simp [h3]⟩
theorem instL_rch {tz : Nat} : ∀ {l : List SymD} {q : Nat} {qs : List Nat}, qs ∈ instL d W tz l q → RchW d W l q tz
 | [], q, qs, h => by
  unfold instL at h
  by_cases e : q = tz
  ·
   rw [e]; exact .nil
  ·
   rw [if_neg e] at h
   cases h
 | s :: l, q, qs, h => by
  unfold instL at h
  obtain ⟨p, hp, h1⟩ := List.mem_flatMap.1 h
  obtain ⟨qs1, h2, _⟩ := List.mem_map.1 h1
  exact .cons hp (instL_rch h2)
theorem numT_in {t : TriD} (h : t ∈ L) : numT L t = L.idxOf t + 1 := by unfold numT; rw [if_pos h]
theorem numT_at (hd : L.Nodup) {i : Nat} {t : TriD} (h : L[i]? = some t) : numT L t = i + 1 := by
 obtain ⟨hi, rfl⟩ := List.getElem?_eq_some_iff.1 h
 rw [numT_in (List.getElem_mem hi), hd.idxOf_getElem]
end
end Go.Proofs.Ytbmcoamdfpegnaa
