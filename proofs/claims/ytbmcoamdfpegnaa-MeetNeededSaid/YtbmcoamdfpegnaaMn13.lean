/- LgS DfaRun MeetP -/
import Derived.Shelf.Abstract
import Derived.Test.YtbmcoamdfpegnaaMn04
import Derived.Test.YtbmcoamdfpegnaaMn06
import Derived.Test.YtbmcoamdfpegnaaMn12
namespace Go.Proofs.Ytbmcoamdfpegnaa
def LgS (R : List RuleD) (s : SymD) (w : List Int) : Prop := ∃ t, TV R s t ∧ wordT t = w
def LgL (R : List RuleD) (l : List SymD) (w : List Int) : Prop := ∃ ts, TVL R l ts ∧ wordTs ts = w
section
variable {R : List RuleD}
theorem LgS.term {c : Int} {w : List Int} : LgS R (true, c) w ↔ w = [c] := by
 constructor
 ·
  rintro ⟨t, h, rfl⟩
  rcases h.inv with ⟨c', e, rfl⟩ | ⟨k, r, ts, e, _⟩
  ·
   injection e with _ e
   rw [e, wordT_leaf]
  ·
   cases e
 ·
  rintro rfl
  exact ⟨_, .leaf, wordT_leaf c⟩
theorem LgS.non {a : Int} {w : List Int} : LgS R (false, a) w ↔ ∃ r ∈ R, r.1 = a ∧ LgL R r.2 w := by
 constructor
 ·
  rintro ⟨t, h, rfl⟩
  rcases h.inv with ⟨c', e, rfl⟩ | ⟨k, r, ts, e, rfl, hk, ht⟩
  ·
   cases e
  ·
   injection e with _ e
   exact ⟨r, List.mem_of_getElem? hk, e.symm, ts, ht, (wordT_node k 0 ts).symm⟩
 ·
  rintro ⟨r, hr, rfl, ts, ht, rfl⟩
  obtain ⟨k, hk⟩ := List.getElem?_of_mem hr
  exact ⟨_, .node hk ht, wordT_node k 0 ts⟩
theorem LgL.nil {w : List Int} : LgL R [] w ↔ w = [] := by
 constructor
 ·
  rintro ⟨ts, h, rfl⟩
  rw [h.inv_nil, wordTs_nil]
 ·
  rintro rfl
  exact ⟨[], .nil, wordTs_nil⟩
theorem LgL.cons {s : SymD} {l : List SymD} {w : List Int} : LgL R (s :: l) w ↔ ∃ u v, w = u ++ v ∧ LgS R s u ∧ LgL R l v := by
 constructor
 ·
  rintro ⟨ts, h, rfl⟩
  obtain ⟨t, ts', rfl, h1, h2⟩ := h.inv
  exact ⟨_, _, wordTs_cons t ts', ⟨t, h1, rfl⟩, ⟨ts', h2, rfl⟩⟩
 ·
  rintro ⟨u, v, rfl, ⟨t, h1, rfl⟩, ⟨ts, h2, rfl⟩⟩
  exact ⟨t :: ts, .cons h1 h2, wordTs_cons t ts⟩
theorem LgL.append : ∀ {l m : List SymD} {w : List Int}, LgL R (l ++ m) w ↔ ∃ u v, w = u ++ v ∧ LgL R l u ∧ LgL R m v
 | [], m, w => by
  constructor
  ·
   exact fun h => ⟨[], w, rfl, LgL.nil.2 rfl, h⟩
  ·
   rintro ⟨u, v, rfl, h1, h2⟩
   rw [LgL.nil.1 h1]
   exact h2
 | s :: l, m, w => by
  rw [List.cons_append, LgL.cons]
  constructor
  ·
   rintro ⟨u, v, rfl, h1, h2⟩
   obtain ⟨u2, v2, rfl, h3, h4⟩ := LgL.append.1 h2
   exact ⟨u ++ u2, v2, (List.append_assoc _ _ _).symm, LgL.cons.2 ⟨u, u2, rfl, h1, h3⟩, h4⟩
  ·
   rintro ⟨u, v, rfl, h1, h2⟩
   obtain ⟨u1, u2, rfl, h3, h4⟩ := LgL.cons.1 h1
   exact ⟨u1, u2 ++ v, List.append_assoc _ _ _, h3, LgL.append.2 ⟨u2, v, rfl, h4, h2⟩⟩
theorem LgL.one {s : SymD} {w : List Int} : LgL R [s] w ↔ LgS R s w := by
 rw [LgL.cons]
 constructor
 ·
  rintro ⟨u, v, rfl, h1, h2⟩
  rw [LgL.nil.1 h2, List.append_nil]
  exact h1
 ·
  exact fun h => ⟨w, [], (List.append_nil w).symm, h, LgL.nil.2 rfl⟩
theorem LgL.snoc {l : List SymD} {s : SymD} {w : List Int} : LgL R (l ++ [s]) w ↔ ∃ u v, w = u ++ v ∧ LgL R l u ∧ LgS R s v := by
 rw [LgL.append]
 simp only [LgL.one]
theorem LgL.succ {l : List SymD} {i : Nat} {s : SymD} (h : l[i]? = some s) {w : List Int} : LgL R (l.take (i + 1)) w ↔ ∃ u v, w = u ++ v ∧ LgL R (l.take i) u ∧ LgS R s v := by
 rw [List.take_add_one, h]
 exact LgL.snoc
end
end Go.Proofs.Ytbmcoamdfpegnaa
namespace Go.Proofs.Ytbmcoamdfpegnaa
open Go.RowKit
def dto (d : DfaD) (s c : Int) : Int := if s < 0 then -1 else ((d.2.2[s.toNat]?.getD [])[c.toNat]?).getD 0
def dat (d : DfaD) (s : Int) : Int := if s < 0 then -1 else (d.2.1[s.toNat]?).getD 0
theorem dto_range {d : DfaD} (hv : Valid d) {s c : Int} (hs : -1 ≤ s ∧ s < d.2.2.length) (hc : 0 ≤ c ∧ c < cols d) : -1 ≤ dto d s c ∧ dto d s c < d.2.2.length := by
 unfold dto
 split
 ·
  have := hv.n1; omega
 ·
  have h1 : s.toNat < d.2.2.length := by omega
  rw [List.getElem?_eq_getElem h1]
  obtain ⟨hl, hx⟩ := hv.rows _ (List.getElem_mem h1)
  have h2 : c.toNat < (d.2.2[s.toNat]).length := by omega
  simp only [Option.getD_some, List.getElem?_eq_getElem h2]
  exact hx _ (List.getElem_mem h2)
theorem cell_at {w : World} {S : Nat → Prop} {N : Option Addr} {n cN : Nat} {d : DfaD} (hN : Sl RI w S N n cN d.2.2) (hv : Valid d) {s c : Int} (hs : 0 ≤ s ∧ s < d.2.2.length) (hc : 0 ≤ c ∧ c < cols d) :
    ∃ b off b' off' m c', N = some ⟨b, off, none⟩ ∧ w.cell? ⟨b, off + s.toNat, none⟩ = some (.slice (some ⟨b', off', none⟩) m c') ∧ w.cell? ⟨b', off' + c.toNat, none⟩ = some (.int .i64 (dto d s c)) ∧ m = cols d ∧ n = d.2.2.length := by
 have hn := hN.len
 obtain ⟨b, off, A', m, c', r, e, _, _, hc1, hr, hs'⟩ := row_at hN (k := s.toNat) (by omega)
 obtain ⟨hl, _⟩ := hv.rows r (List.mem_of_getElem? hr)
 have hm := hs'.len
 obtain ⟨b', off', x, rfl, _, hx, hc2⟩ := hs'.ints.int_at (k := c.toNat) (by omega)
 refine ⟨b, off, b', off', m, c', e, hc1, ?_, by omega, hn⟩
 have : dto d s c = x := by
  unfold dto
  rw [if_neg (by omega), hr]
  simp [hx]
 rw [this]
 exact hc2
end Go.Proofs.Ytbmcoamdfpegnaa
namespace Go.Proofs.Ytbmcoamdfpegnaa
abbrev TriD := Nat × Nat × Nat
section
variable (d : DfaD) (W : TriD → Bool)
def stpL (s : SymD) (q : Nat) : List Nat :=
 if s.1 = true then (if 0 ≤ dto d (q : Int) s.2 then [(dto d (q : Int) s.2).toNat] else [])
 else (List.range d.2.2.length).filter fun p => W (q, s.2.toNat, p)
inductive RchW : List SymD → Nat → Nat → Prop
 | nil {q : Nat} : RchW [] q q
 | cons {s : SymD} {l : List SymD} {q x p : Nat} : x ∈ stpL d W s q → RchW l x p → RchW (s :: l) q p
def nxtU (s : SymD) (l : List Bool) (i : Nat) : List Nat := (List.range i).flatMap fun p => if l[p]? = some true then stpL d W s p else []
def markL (n : Nat) (xs : List Nat) : List Bool := (List.range n).map fun x => xs.contains x
def rchL (l : List SymD) (q : Nat) : List Bool := l.foldl (fun at_ s => markL d.2.2.length (nxtU d W s at_ d.2.2.length)) (markL d.2.2.length [q])
end
section
variable {d : DfaD} {W W' : TriD → Bool} {R : List RuleD}
theorem markL_len (n : Nat) (xs : List Nat) : (markL n xs).length = n := by simp [markL]
theorem markL_at {n : Nat} {xs : List Nat} {x : Nat} (hx : x < n) : (markL n xs)[x]? = some (xs.contains x) := by
 unfold markL
 rw [List.getElem?_map, List.getElem?_range hx]
 rfl
theorem markL_yes {n : Nat} {xs : List Nat} {x : Nat} : (markL n xs)[x]? = some true ↔ x < n ∧ x ∈ xs := by
 constructor
 ·
  intro h
  have hx : x < n := by
   have := (List.getElem?_eq_some_iff.1 h).1
   rwa [markL_len] at this
  rw [markL_at hx] at h
  exact ⟨hx, by simpa using h⟩
 ·
  rintro ⟨hx, h⟩
  rw [markL_at hx]
  simpa using h
theorem rchL_snoc (l : List SymD) (s : SymD) (q : Nat) : rchL d W (l ++ [s]) q = markL d.2.2.length (nxtU d W s (rchL d W l q) d.2.2.length) := by
 unfold rchL
 rw [List.foldl_append]
 rfl
theorem rchL_len (l : List SymD) (q : Nat) : (rchL d W l q).length = d.2.2.length := by
 rcases List.eq_nil_or_concat l with rfl | ⟨l', s, rfl⟩
 ·
  exact markL_len _ _
 ·
  rw [List.concat_eq_append, rchL_snoc]
  exact markL_len _ _
theorem stpL_lt (hv : Valid d) {s : SymD} {q x : Nat} (hq : q < d.2.2.length) (hs : s.1 = true → 0 ≤ s.2 ∧ s.2 < (cols d : Int)) (h : x ∈ stpL d W s q) : x < d.2.2.length := by
 unfold stpL at h
 by_cases h1 : s.1 = true
 ·
  rw [if_pos h1] at h
  by_cases h2 : 0 ≤ dto d (q : Int) s.2
  ·
   rw [if_pos h2] at h
   rw [List.mem_singleton.1 h]
   have := dto_range hv (s := (q : Int)) (c := s.2) ⟨by omega, by omega⟩ (hs h1)
   omega
  ·
   rw [if_neg h2] at h
   cases h
 ·
  rw [if_neg h1] at h
  exact List.mem_range.1 (List.mem_filter.1 h).1
theorem RchW.snoc {l : List SymD} {s : SymD} {q x p : Nat} (h : RchW d W l q x) (hp : p ∈ stpL d W s x) : RchW d W (l ++ [s]) q p := by
 induction h with
 | nil => exact .cons hp .nil
 | cons h1 _ ih => exact .cons h1 (ih hp)
theorem RchW.append {l m : List SymD} {q x p : Nat} (h : RchW d W l q x) (h' : RchW d W m x p) : RchW d W (l ++ m) q p := by
 induction h with
 | nil => exact h'
 | cons h1 _ ih => exact .cons h1 (ih h')
theorem RchW.split {m : List SymD} : ∀ {l : List SymD} {q p : Nat}, RchW d W (l ++ m) q p → ∃ x, RchW d W l q x ∧ RchW d W m x p
 | [], q, p, h => ⟨q, .nil, h⟩
 | s :: l, q, p, h => by
  cases h with
  | cons h1 h2 =>
   obtain ⟨x, h3, h4⟩ := RchW.split h2
   exact ⟨x, .cons h1 h3, h4⟩
theorem RchW.mono (hW : ∀ t, W t = true → W' t = true) {l : List SymD} {q p : Nat} (h : RchW d W l q p) : RchW d W' l q p := by
 induction h with
 | nil => exact .nil
 | @cons s l q x p h1 _ ih =>
  refine .cons ?_ ih
  unfold stpL at h1 ⊢
  by_cases h2 : s.1 = true
  ·
   rw [if_pos h2] at h1 ⊢; exact h1
  ·
   rw [if_neg h2, List.mem_filter] at h1 ⊢
   exact ⟨h1.1, hW _ h1.2⟩
def TermsL (d : DfaD) (l : List SymD) : Prop := ∀ s ∈ l, s.1 = true → 0 ≤ s.2 ∧ s.2 < (cols d : Int)
theorem RchW.lt (hv : Valid d) {l : List SymD} {q p : Nat} (h : RchW d W l q p) : TermsL d l → q < d.2.2.length → p < d.2.2.length := by
 induction h with
 | nil => exact fun _ h => h
 | @cons s l q x p h1 _ ih => exact fun ht hq => ih (fun s' hs' => ht s' (List.mem_cons_of_mem _ hs')) (stpL_lt hv hq (ht s List.mem_cons_self) h1)
theorem snoc_ind {α : Type} {P : List α → Prop} (h0 : P []) (h1 : ∀ l x, P l → P (l ++ [x])) (l : List α) : P l := by
 have gen : ∀ (n : Nat) (l : List α), l.length = n → P l := by
  intro n
  induction n with
  | zero => intro l hl; rw [List.eq_nil_of_length_eq_zero hl]; exact h0
  | succ n ih =>
   intro l hl
   rcases List.eq_nil_or_concat l with rfl | ⟨l', x, rfl⟩
   ·
    exact h0
   ·
    rw [List.concat_eq_append] at hl ⊢
    exact h1 l' x (ih l' (by simpa using hl))
 exact gen _ l rfl
theorem rchL_iff (hv : Valid d) {q : Nat} (hq : q < d.2.2.length) : ∀ {l : List SymD} {p : Nat}, TermsL d l → ((rchL d W l q)[p]? = some true ↔ RchW d W l q p) := by
 intro l
 refine snoc_ind (P := fun l => ∀ {p : Nat}, TermsL d l → ((rchL d W l q)[p]? = some true ↔ RchW d W l q p)) ?_ ?_ l
 ·
  intro p _
  show (markL d.2.2.length [q])[p]? = some true ↔ _
  rw [markL_yes, List.mem_singleton]
  constructor
  ·
   rintro ⟨_, rfl⟩
   exact .nil
  ·
   intro h
   cases h
   exact ⟨hq, rfl⟩
 ·
  intro l s ih p ht
  have ht1 : TermsL d l := fun s' hs' => ht s' (List.mem_append_left _ hs')
  rw [rchL_snoc, markL_yes]
  constructor
  ·
   rintro ⟨_, h⟩
   unfold nxtU at h
   obtain ⟨x, hx, hp⟩ := List.mem_flatMap.1 h
   by_cases hx1 : (rchL d W l q)[x]? = some true
   ·
    rw [if_pos hx1] at hp
    exact ((ih ht1).1 hx1).snoc hp
   ·
    rw [if_neg hx1] at hp
    cases hp
  ·
   intro h
   have hlt := h.lt hv ht hq
   obtain ⟨x, h1, h2⟩ := h.split
   cases h2 with
   | cons h2 h3 =>
    cases h3
    refine ⟨hlt, ?_⟩
    unfold nxtU
    exact List.mem_flatMap.2 ⟨x, List.mem_range.2 (h1.lt hv ht1 hq), by rw [if_pos ((ih ht1).2 h1)]; exact h2⟩
def Wd (d : DfaD) (R : List RuleD) (t : TriD) : Prop := ∃ w, LgS R (false, (t.2.1 : Int)) w ∧ w.foldl (dto d) (t.1 : Int) = (t.2.2 : Int)
theorem dto_bad (d : DfaD) {s : Int} (hs : s < 0) : ∀ w : List Int, w.foldl (dto d) s < 0
 | [] => hs
 | x :: w => by
  rw [List.foldl_cons]
  refine dto_bad d ?_ w
  unfold dto
  rw [if_pos hs]
  decide
theorem rch_word (hW : ∀ t, W t = true → Wd d R t) {l : List SymD} {q p : Nat} (h : RchW d W l q p) : (∀ s ∈ l, 0 ≤ s.2) → ∃ w, LgL R l w ∧ w.foldl (dto d) (q : Int) = (p : Int) := by
 induction h with
 | nil => exact fun _ => ⟨[], LgL.nil.2 rfl, rfl⟩
 | @cons s l q x p h1 _ ih =>
  intro hs
  obtain ⟨v, h3, h4⟩ := ih fun s' hs' => hs s' (List.mem_cons_of_mem _ hs')
  have h0 := hs s List.mem_cons_self
  obtain ⟨b, c⟩ := s
  unfold stpL at h1
  cases b with
  | true =>
   rw [if_pos rfl] at h1
   simp only at h1 h0
   by_cases h5 : 0 ≤ dto d (q : Int) c
   ·
    rw [if_pos h5] at h1
    have h6 := List.mem_singleton.1 h1
    refine ⟨c :: v, LgL.cons.2 ⟨[c], v, rfl, LgS.term.2 rfl, h3⟩, ?_⟩
    rw [List.foldl_cons, show dto d (q : Int) c = (x : Int) by omega]
    exact h4
   ·
    rw [if_neg h5] at h1
    cases h1
  | false =>
   rw [if_neg (by simp)] at h1
   simp only at h1 h0
   obtain ⟨w, h6, h7⟩ := hW _ (List.mem_filter.1 h1).2
   simp only at h6 h7
   rw [Int.toNat_of_nonneg h0] at h6
   refine ⟨w ++ v, LgL.cons.2 ⟨w, v, rfl, h6, h3⟩, ?_⟩
   rw [List.foldl_append, h7]
   exact h4
def ClosedT (d : DfaD) (R : List RuleD) (W : TriD → Bool) : Prop := ∀ r ∈ R, ∀ q p : Nat, q < d.2.2.length → RchW d W r.2 q p → W (q, r.1.toNat, p) = true
mutual
theorem TV.told (hv : Valid d) (hC : ClosedT d R W) (ht : ∀ r ∈ R, TermsL d r.2) {s : SymD} {t : TreeD} (h : TV R s t) (hs : s.1 = true → 0 ≤ s.2 ∧ s.2 < (cols d : Int)) : ∀ q p : Nat, q < d.2.2.length → (wordT t).foldl (dto d) (q : Int) = (p : Int) → p ∈ stpL d W s q := by
 intro q p hq hp
 match h with
 | .leaf (c := c) =>
  rw [wordT_leaf] at hp
  simp only [List.foldl_cons, List.foldl_nil] at hp
  unfold stpL
  rw [if_pos rfl, hp, if_pos (by omega)]
  simp
 | .node (k := k) (r := r) h1 h2 =>
  rw [wordT_node] at hp
  have hr := List.mem_of_getElem? h1
  have h3 := TVL.told hv hC ht h2 (ht r hr) q p hq hp
  have h4 := hC r hr q p hq h3
  have h5 := h3.lt hv (ht r hr) hq
  unfold stpL
  rw [if_neg (by simp), List.mem_filter]
  exact ⟨List.mem_range.2 h5, h4⟩
theorem TVL.told (hv : Valid d) (hC : ClosedT d R W) (ht : ∀ r ∈ R, TermsL d r.2) {l : List SymD} {ts : List TreeD} (h : TVL R l ts) (hl : TermsL d l) : ∀ q p : Nat, q < d.2.2.length → (wordTs ts).foldl (dto d) (q : Int) = (p : Int) → RchW d W l q p := by
 intro q p hq hp
 match h with
 | .nil =>
  rw [wordTs_nil] at hp
  obtain rfl : q = p := by simp only [List.foldl_nil] at hp; omega
  exact .nil
 | .cons (s := s) (l := l) (t := t) (ts := ts) h1 h2 =>
  rw [wordTs_cons, List.foldl_append] at hp
  have hx : 0 ≤ (wordT t).foldl (dto d) (q : Int) := by
   rcases Int.lt_or_le ((wordT t).foldl (dto d) (q : Int)) 0 with h | h
   ·
    have := dto_bad d h (wordTs ts)
    omega
   ·
    exact h
  obtain ⟨x, hx⟩ : ∃ x : Nat, (wordT t).foldl (dto d) (q : Int) = (x : Int) := ⟨_, (Int.toNat_of_nonneg hx).symm⟩
  rw [hx] at hp
  have h3 := TV.told hv hC ht h1 (hl s List.mem_cons_self) q x hq hx
  exact .cons h3 (TVL.told hv hC ht h2 (fun s' hs' => hl s' (List.mem_cons_of_mem _ hs')) x p (stpL_lt hv hq (hl s List.mem_cons_self) h3) hp)
end
end
end Go.Proofs.Ytbmcoamdfpegnaa
