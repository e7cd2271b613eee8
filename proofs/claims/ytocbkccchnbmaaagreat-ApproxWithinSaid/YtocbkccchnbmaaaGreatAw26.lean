/- LivePlain Bins -/
import Derived.Test.YtocbkccchnbmaaaGreatAw04
import Derived.Test.YtocbkccchnbmaaaGreatAw06
import Derived.Test.YtocbkccchnbmaaaGreatAw24
namespace Go.Proofs.YtocbkccchnbmaaaGreat
def InOk (d : DfaD) (ls : List (List Int)) (k j : Nat) : Prop :=
 ls.length = d.2.2.length ∧ ∀ (t : Nat) (l : List Int), ls[t]? = some l → l.length ≤ k * cols d + j ∧ (∀ s ∈ l, 0 ≤ s ∧ s < d.2.2.length) ∧ ∀ s : Nat, (s : Int) ∈ l ↔ ∃ c : Nat, c < cols d ∧ (s < k ∨ (s = k ∧ c < j)) ∧ dto d s c = t
theorem InOk.start (d : DfaD) : InOk d (List.replicate d.2.2.length []) 0 0 := by
 refine ⟨by simp, fun t l h => ?_⟩
 rw [List.getElem?_replicate] at h
 split at h
 ·
  injection h with h
  subst h
  refine ⟨by simp, by simp, fun s => ?_⟩
  constructor
  ·
   intro h; cases h
  ·
   rintro ⟨c, _, h | h, _⟩ <;> omega
 ·
  cases h
theorem InOk.next {d : DfaD} {ls : List (List Int)} {k : Nat} (h : InOk d ls k (cols d)) : InOk d ls (k + 1) 0 := by
 refine ⟨h.1, fun t l ht => ?_⟩
 obtain ⟨h0, h1, h2⟩ := h.2 t l ht
 refine ⟨by rw [Nat.succ_mul]; omega, h1, fun s => ?_⟩
 rw [h2 s]
 constructor
 ·
  rintro ⟨c, h3, h4, h5⟩; exact ⟨c, h3, by omega, h5⟩
 ·
  rintro ⟨c, h3, h4, h5⟩; exact ⟨c, h3, by omega, h5⟩
theorem InOk.skip {d : DfaD} {ls : List (List Int)} {k j : Nat} (h : InOk d ls k j) (hc : dto d k j < 0) : InOk d ls k (j + 1) := by
 refine ⟨h.1, fun t l ht => ?_⟩
 obtain ⟨h0, h1, h2⟩ := h.2 t l ht
 refine ⟨by omega, h1, fun s => ?_⟩
 rw [h2 s]
 constructor
 ·
  rintro ⟨c, h3, h4, h5⟩; exact ⟨c, h3, by omega, h5⟩
 ·
  rintro ⟨c, h3, h4, h5⟩
  refine ⟨c, h3, ?_, h5⟩
  rcases h4 with h4 | ⟨h4, h6⟩
  ·
   exact .inl h4
  ·
   refine .inr ⟨h4, ?_⟩
   by_cases e : c = j
   ·
    subst e; subst h4; omega
   ·
    omega
theorem InOk.push {d : DfaD} {ls : List (List Int)} {k j : Nat} (h : InOk d ls k j) (hk : k < d.2.2.length) (hj : j < cols d) {t : Nat} (hc : dto d k j = t) {l : List Int} (hl : ls[t]? = some l) : InOk d (ls.set t (l ++ [(k : Int)])) k (j + 1) := by
 refine ⟨by rw [List.length_set]; exact h.1, fun t' l' ht' => ?_⟩
 obtain ⟨htl, _⟩ := List.getElem?_eq_some_iff.1 hl
 by_cases e : t' = t
 ·
  subst e
  rw [List.getElem?_set_self htl] at ht'
  injection ht' with ht'
  subst ht'
  obtain ⟨h0, h1, h2⟩ := h.2 t' l hl
  refine ⟨by simp; omega, fun s hs => ?_, fun s => ?_⟩
  ·
   rcases List.mem_append.1 hs with hs | hs
   ·
    exact h1 s hs
   ·
    obtain rfl := List.mem_singleton.1 hs; omega
  ·
   rw [List.mem_append, List.mem_singleton, h2 s]
   constructor
   ·
    rintro (⟨c, h3, h4, h5⟩ | h3)
    ·
     exact ⟨c, h3, by omega, h5⟩
    ·
     obtain rfl : s = k := by omega
     exact ⟨j, hj, by omega, hc⟩
   ·
    rintro ⟨c, h3, h4, h5⟩
    rcases h4 with h4 | ⟨h4, h6⟩
    ·
     exact .inl ⟨c, h3, .inl h4, h5⟩
    ·
     by_cases e : c = j
     ·
      right; omega
     ·
      exact .inl ⟨c, h3, by omega, h5⟩
 ·
  rw [List.getElem?_set_ne (Ne.symm e)] at ht'
  obtain ⟨h0, h1, h2⟩ := h.2 t' l' ht'
  refine ⟨by omega, h1, fun s => ?_⟩
  rw [h2 s]
  constructor
  ·
   rintro ⟨c, h3, h4, h5⟩; exact ⟨c, h3, by omega, h5⟩
  ·
   rintro ⟨c, h3, h4, h5⟩
   refine ⟨c, h3, ?_, h5⟩
   rcases h4 with h4 | ⟨h4, h6⟩
   ·
    exact .inl h4
   ·
    refine .inr ⟨h4, ?_⟩
    by_cases e2 : c = j
    ·
     subst e2; subst h4; rw [hc] at h5; omega
    ·
     omega
structure LvP (d : DfaD) (ls : List (List Int)) (L : List Bool) (W : List Int) (X : Nat → Prop) : Prop where
 len : L.length = d.2.2.length
 acc : ∀ s : Nat, s < d.2.2.length → 0 ≤ dat d s → L[s]? = some true
 sound : ∀ s : Nat, L[s]? = some true → LiveP d s
 work : ∀ t ∈ W, 0 ≤ t ∧ t < d.2.2.length ∧ L[t.toNat]? = some true
 clos : ∀ t : Nat, L[t]? = some true → (t : Int) ∈ W ∨ X t ∨ ∀ l, ls[t]? = some l → ∀ s ∈ l, L[s.toNat]? = some true
def unm (L : List Bool) : Nat := (L.filter not).length
theorem unm_set : ∀ {L : List Bool} {s : Nat}, L[s]? = some false → unm (L.set s true) + 1 = unm L
 | [], s, h => by simp at h
 | b :: L, 0, h => by
  simp at h
  subst h
  simp [unm]
 | b :: L, s + 1, h => by
  have := unm_set (L := L) (s := s) (by simpa using h)
  unfold unm at this ⊢
  simp only [List.set_cons_succ]
  cases b <;> simp only [List.filter_cons, Bool.not_true, Bool.not_false, if_true, Bool.false_eq_true, if_false, List.length_cons] <;> omega
section
variable {d : DfaD} {ls : List (List Int)} {L : List Bool} {W : List Int} {X : Nat → Prop}
theorem LvP.mark (h : LvP d ls L W X) (hi : InOk d ls d.2.2.length 0) {t0 : Nat} (ht : LiveP d t0) {l : List Int} (hl : ls[t0]? = some l) {s : Int} (hs : s ∈ l) : LvP d ls (L.set s.toNat true) (W ++ [s]) X := by
 obtain ⟨_, h1, h2⟩ := hi.2 t0 l hl
 have hs1 := h1 s hs
 have hlt : s.toNat < L.length := by have := h.len; omega
 have hset : ∀ u : Nat, L[u]? = some true → (L.set s.toNat true)[u]? = some true := fun u hu => by
  by_cases e : s.toNat = u
  ·
   subst e; exact List.getElem?_set_self hlt
  ·
   rw [List.getElem?_set_ne e]; exact hu
 refine ⟨by rw [List.length_set]; exact h.len, fun u hu ha => hset u (h.acc u hu ha), fun u hu => ?_, fun u hu => ?_, fun u hu => ?_⟩
 ·
  by_cases e : s.toNat = u
  ·
   obtain ⟨c, h3, _, h4⟩ := (h2 u).1 (by rw [← e]; rw [show ((s.toNat : Nat) : Int) = s by omega]; exact hs)
   exact LiveP.of_to (c := c) ⟨by omega, by omega⟩ (by rw [h4]; exact ht)
  ·
   rw [List.getElem?_set_ne e] at hu; exact h.sound u hu
 ·
  rcases List.mem_append.1 hu with hu | hu
  ·
   have := h.work u hu
   exact ⟨this.1, this.2.1, hset _ this.2.2⟩
  ·
   obtain rfl := List.mem_singleton.1 hu
   exact ⟨hs1.1, hs1.2, List.getElem?_set_self hlt⟩
 ·
  by_cases e : s.toNat = u
  ·
   left
   rw [List.mem_append, List.mem_singleton]
   right
   omega
  ·
   rw [List.getElem?_set_ne e] at hu
   rcases h.clos u hu with h3 | h3 | h3
   ·
    left; exact List.mem_append_left _ h3
   ·
    exact .inr (.inl h3)
   ·
    exact .inr (.inr fun l hl s hs => hset _ (h3 l hl s hs))
theorem LvP.pop {t : Int} (h : LvP d ls L (W ++ [t]) X) : LvP d ls L W (fun u => X u ∨ (u : Int) = t) := by
 refine ⟨h.len, h.acc, h.sound, fun u hu => h.work u (List.mem_append_left _ hu), fun u hu => ?_⟩
 rcases h.clos u hu with h3 | h3 | h3
 ·
  rcases List.mem_append.1 h3 with h3 | h3
  ·
   exact .inl h3
  ·
   exact .inr (.inl (.inr (List.mem_singleton.1 h3)))
 ·
  exact .inr (.inl (.inl h3))
 ·
  exact .inr (.inr h3)
theorem LvP.done {t : Nat} {l : List Int} (h : LvP d ls L W (fun u => X u ∨ (u : Int) = (t : Int))) (hl : ls[t]? = some l) (ha : ∀ s ∈ l, L[s.toNat]? = some true) : LvP d ls L W X := by
 refine ⟨h.len, h.acc, h.sound, h.work, fun u hu => ?_⟩
 rcases h.clos u hu with h3 | (h3 | h3) | h3
 ·
  exact .inl h3
 ·
  exact .inr (.inl h3)
 ·
  obtain rfl : u = t := by omega
  exact .inr (.inr fun l' hl' s hs => by rw [hl] at hl'; injection hl' with e; subst e; exact ha s hs)
 ·
  exact .inr (.inr h3)
theorem LvP.out (h : LvP d ls L [] (fun _ => False)) (hv : Valid d) (hi : InOk d ls d.2.2.length 0) {s : Nat} (hs : s < d.2.2.length) : L[s]? = some true ↔ LiveP d s := by
 refine ⟨h.sound s, ?_⟩
 rintro ⟨w, hw, h0⟩
 have key : ∀ (w : List Int) (s : Int), WOk d w → 0 ≤ s ∧ s < d.2.2.length → 0 ≤ dval d s w → L[s.toNat]? = some true := by
  intro w
  induction w with
  | nil =>
   intro s _ hs h0
   refine h.acc s.toNat (by omega) ?_
   rw [show ((s.toNat : Nat) : Int) = s by omega]
   exact h0
  | cons c w ih =>
   intro s hw hs h0
   rw [dval_cons] at h0
   have hc := hw.head
   have hto := dto_range hv (s := s) (c := c) ⟨by omega, hs.2⟩ hc
   have hp : 0 ≤ dto d s c := by
    rcases Int.lt_or_le (dto d s c) 0 with h' | h'
    ·
     rw [dval_neg h'] at h0; omega
    ·
     exact h'
   have hL := ih (dto d s c) hw.tail ⟨hp, hto.2⟩ h0
   rcases h.clos _ hL with h3 | h3 | h3
   ·
    cases h3
   ·
    exact h3.elim
   ·
    have hlt : (dto d s c).toNat < ls.length := by rw [hi.1]; omega
    have hl := List.getElem?_eq_getElem hlt
    obtain ⟨_, _, h5⟩ := hi.2 _ _ hl
    refine h3 _ hl s ?_
    have := (h5 s.toNat).2 ⟨c.toNat, by omega, .inl (by omega), by
     rw [show ((s.toNat : Nat) : Int) = s by omega, show ((c.toNat : Nat) : Int) = c by omega]
     omega⟩
    rwa [show ((s.toNat : Nat) : Int) = s by omega] at this
 have := key w s hw ⟨by omega, by omega⟩ h0
 simpa using this
def lv0 (d : DfaD) (k : Nat) : List Bool := (List.range d.2.2.length).map fun s : Nat => decide (s < k) && decide (0 ≤ dat d s)
def wk0 (d : DfaD) (k : Nat) : List Int := ((List.range k).filter fun s : Nat => decide (0 ≤ dat d (s : Int))).map Int.ofNat
theorem lv0_get {k s : Nat} (hs : s < d.2.2.length) : (lv0 d k)[s]? = some (decide (s < k) && decide (0 ≤ dat d s)) := by
 unfold lv0
 rw [List.getElem?_map, List.getElem?_range hs]
 rfl
theorem lv0_len (d : DfaD) (k : Nat) : (lv0 d k).length = d.2.2.length := by simp [lv0]
theorem wk0_len (d : DfaD) (k : Nat) : (wk0 d k).length ≤ k := by
 unfold wk0
 rw [List.length_map]
 exact Nat.le_trans (List.length_filter_le _ _) (by simp)
theorem lv0_zero (d : DfaD) : lv0 d 0 = List.replicate d.2.2.length false := by
 apply List.ext_getElem?
 intro i
 rw [List.getElem?_replicate]
 split
 ·
  rename_i h; rw [lv0_get h]; simp
 ·
  rename_i h; rw [List.getElem?_eq_none (by rw [lv0_len]; omega)]
theorem lv0_yes {k : Nat} (ha : 0 ≤ dat d k) : lv0 d (k + 1) = (lv0 d k).set k true ∧ wk0 d (k + 1) = wk0 d k ++ [(k : Int)] := by
 constructor
 ·
  apply List.ext_getElem?
  intro i
  by_cases hi : i < d.2.2.length
  ·
   by_cases e : k = i
   ·
    subst e
    rw [List.getElem?_set_self (by rw [lv0_len]; exact hi), lv0_get hi]
    simp [ha]
   ·
    rw [List.getElem?_set_ne e, lv0_get hi, lv0_get hi]
    congr 1
    rw [show decide (i < k + 1) = decide (i < k) by rw [decide_eq_decide]; omega]
  ·
   rw [List.getElem?_eq_none (by rw [lv0_len]; omega), List.getElem?_eq_none (by rw [List.length_set, lv0_len]; omega)]
 ·
  unfold wk0
  rw [List.range_succ, List.filter_append]
  simp [ha]
theorem lv0_no {k : Nat} (ha : ¬ 0 ≤ dat d k) : lv0 d (k + 1) = lv0 d k ∧ wk0 d (k + 1) = wk0 d k := by
 constructor
 ·
  apply List.ext_getElem?
  intro i
  by_cases hi : i < d.2.2.length
  ·
   rw [lv0_get hi, lv0_get hi]
   congr 1
   by_cases e : i = k
   ·
    subst e; simp [ha]
   ·
    rw [show decide (i < k + 1) = decide (i < k) by rw [decide_eq_decide]; omega]
  ·
   rw [List.getElem?_eq_none (by rw [lv0_len]; omega), List.getElem?_eq_none (by rw [lv0_len]; omega)]
 ·
  unfold wk0
  rw [List.range_succ, List.filter_append]
  simp [ha]
theorem LvP.start (d : DfaD) (ls : List (List Int)) : LvP d ls (lv0 d d.2.2.length) (wk0 d d.2.2.length) (fun _ => False) := by
 have hy : ∀ s : Nat, (lv0 d d.2.2.length)[s]? = some true → s < d.2.2.length ∧ 0 ≤ dat d s := fun s h => by
  have hlt := (List.getElem?_eq_some_iff.1 h).1
  rw [lv0_len] at hlt
  rw [lv0_get hlt] at h
  simp only [Option.some.injEq, Bool.and_eq_true, decide_eq_true_eq] at h
  exact ⟨hlt, h.2⟩
 have hw : ∀ s : Nat, s < d.2.2.length → 0 ≤ dat d s → (s : Int) ∈ wk0 d d.2.2.length := fun s hs ha => by
  unfold wk0
  exact List.mem_map.2 ⟨s, List.mem_filter.2 ⟨List.mem_range.2 hs, by simpa using ha⟩, rfl⟩
 refine ⟨lv0_len _ _, fun s hs ha => by rw [lv0_get hs]; simp [hs, ha], fun s hs => ⟨[], .nil, (hy s hs).2⟩, fun t ht => ?_, fun t ht => .inl (hw t (hy t ht).1 (hy t ht).2)⟩
 obtain ⟨s, hs, rfl⟩ := List.mem_map.1 (show t ∈ List.map Int.ofNat _ from ht)
 obtain ⟨h1, h2⟩ := List.mem_filter.1 hs
 have h1 := List.mem_range.1 h1
 refine ⟨by simp, by simpa using h1, ?_⟩
 show (lv0 d d.2.2.length)[s]? = some true
 rw [lv0_get h1]
 simp only [decide_eq_true_eq] at h2
 simp [h1, h2]
end
end Go.Proofs.YtocbkccchnbmaaaGreat
namespace Go.Proofs.YtocbkccchnbmaaaGreat
open Go.RowKit
structure Bins (w : World) (base BI : Nat) (ls : List (List Int)) (vs : List Value) : Prop where
 blk : w.heap[BI]? = some (.cells vs.toArray 22 (0, 0))
 len : vs.length = ls.length
 own : ∀ (i : Nat) (v : Value), vs[i]? = some v → ∃ l, ls[i]? = some l ∧ Own w base 3 1 v l.length (l.map (Value.int .i64))
 ap : ∀ (i j : Nat) (vi vj : Value) (g : Nat), i ≠ j → vs[i]? = some vi → vs[j]? = some vj → rowOf vi = some g → rowOf vj ≠ some g
 lt : BI < base
 le : base ≤ w.heap.size
section
variable {w w' : World} {base BI : Nat} {ls : List (List Int)} {vs : List Value}
theorem made_rows (n : Nat) : madeCells #[Value.slice none 0 0] n = (List.replicate n (Value.slice none 0 0)).toArray := by
 apply Array.ext'
 rw [toList_madeCells_one]
theorem made_rowsA (n : Nat) : madeCells #[Value.slice none 0 0] n = Array.replicate n (Value.slice none 0 0) := by rw [made_rows, List.toArray_replicate]
theorem made_boolsA (n : Nat) : madeCells #[Value.bool false] n = Array.replicate n (Value.bool false) := by
 apply Array.ext'
 rw [toList_madeCells_one]
 simp
theorem made_intsA (n : Nat) : madeCells #[Value.int .i64 0] n = Array.replicate n (Value.int .i64 0) := by
 apply Array.ext'
 rw [toList_madeCells_one]
 simp
theorem set_map {α : Type} (f : α → Value) (L : List α) (i : Nat) (x : α) : (L.map f).toArray.setIfInBounds i (f x) = ((L.set i x).map f).toArray := by
 rw [List.setIfInBounds_toArray, List.map_set]
theorem Bins.start (w : World) (n : Nat) : Bins (w.alloc (.cells (List.replicate n (Value.slice none 0 0)).toArray 22)) (w.heap.size + 1) w.heap.size (List.replicate n []) (List.replicate n (.slice none 0 0)) := by
 have hv : ∀ {i : Nat} {v : Value}, (List.replicate n (Value.slice none 0 0))[i]? = some v → i < n ∧ v = .slice none 0 0 := fun {i v} h => by
  rw [List.getElem?_replicate] at h
  split at h
  ·
   rename_i hi; exact ⟨hi, by injection h with h; exact h.symm⟩
  ·
   cases h
 refine ⟨heap_alloc_new w _, by simp, fun i v h => ?_, fun i j vi vj g _ h1 h2 h3 => ?_, Nat.lt_succ_self _, by simp⟩
 ·
  obtain ⟨hi, rfl⟩ := hv h
  exact ⟨[], by rw [List.getElem?_replicate, if_pos hi], Own.nil _ _ _ _ _⟩
 ·
  obtain ⟨_, rfl⟩ := hv h1
  cases h3
theorem Bins.below (h : Bins w base BI ls vs) (hb : Below w.heap.size w w') : Bins w' base BI ls vs := by
 refine ⟨(hb.block _ (heap_lt h.blk)).trans h.blk, h.len, fun i v hi => ?_, h.ap, h.lt, Nat.le_trans h.le hb.size⟩
 obtain ⟨l, h1, h2⟩ := h.own i v hi
 exact ⟨l, h1, h2.below hb (Nat.le_refl _)⟩
theorem Bins.at_ (h : Bins w base BI ls vs) {i : Nat} (hi : i < ls.length) : ∃ A n c l, vs[i]? = some (.slice A n c) ∧ ls[i]? = some l ∧ n = l.length ∧ n ≤ c ∧ w.cell? ⟨BI, i, none⟩ = some (.slice A n c) ∧ w.frozen? ⟨BI, i, none⟩ = false ∧ Rd w (fun b => base ≤ b) 1 A n (l.map (Value.int .i64)) := by
 have hlt : i < vs.length := by rw [h.len]; exact hi
 have hv := List.getElem?_eq_getElem hlt
 obtain ⟨l, h1, h2⟩ := h.own i _ hv
 obtain ⟨A, c, e, hc, _⟩ := h2.form
 rw [e] at hv h2
 exact ⟨A, l.length, c, l, hv, h1, rfl, hc, by rw [cell_of_row _ _ i _ _ _ h.blk]; simpa using hv, by simp [World.frozen?, h.blk], h2.rd⟩
theorem Bins.push (h : Bins w base BI ls vs) {i : Nat} {A : Option Addr} {n c : Nat} {l : List Int} (hv : vs[i]? = some (.slice A n c)) (hl : ls[i]? = some l) (x : Int) (hlen : l.length ≤ 1000000) :
    ∃ A2 c2 w2, (Builtin.append_ #[22, 22] 22 #[.slice A n c, .slice (some ⟨w.heap.size, 0, none⟩) 1 1]).run Tryz.prog (w.alloc (.cells #[.int .i64 x] 3)) = .ok (.slice A2 (n + 1) c2) w2 ∧
     w2.cell? ⟨BI, i, none⟩ = some (.slice A n c) ∧ w2.frozen? ⟨BI, i, none⟩ = false ∧ Bins (w2.setCell ⟨BI, i, none⟩ (.slice A2 (n + 1) c2)) base BI (ls.set i (l ++ [x])) (vs.set i (.slice A2 (n + 1) c2)) ∧ Below base w w2 := by
 obtain ⟨l', h1, ho⟩ := h.own i _ hv
 rw [hl] at h1
 injection h1 with h1
 subst h1
 obtain ⟨v2, w2, hrun, ho2, hg, hrow⟩ := run_append_Own tInts (w.alloc (.cells #[.int .i64 x] 3)) 22 base (.slice A n c) l.length (l.map (Value.int .i64)) (ho.alloc _) (fun _ => True) (some ⟨w.heap.size, 0, none⟩) 1 1 [.int .i64 x]
  (Rd.new w _ _ [.int .i64 x] _ rfl trivial) (by intro u hu; obtain rfl := List.mem_singleton.1 hu; rfl) (by unfold maxLen; omega) (by omega) (by have := h.le; simp; omega)
 obtain ⟨A2, c2, rfl, _, _⟩ := ho2.form
 have hn : n = l.length := by
  obtain ⟨A', c', e, _, _⟩ := ho.form
  injection e with _ e
 subst hn
 have ha := h.below ((Below.refl _ _).alloc (Nat.le_refl _) (.cells #[.int .i64 x] 3))
 have hb : Below base w w2 := ((Below.refl _ _).alloc h.le _).trans (Below.own (Below.refl _ _) (ho.alloc _) hg (Nat.le_refl _) ha.le)
 have hblk : w2.heap[BI]? = some (.cells vs.toArray 22 (0, 0)) := (hb.block BI h.lt).trans h.blk
 have hset := set_grown (Bd := BI) w2 i (.slice A2 (l.length + 1) c2)
 have hin : ∀ {E : TypeId} {v : Value} {m : Nat} {ys : List Value}, Own w2 base E 1 v m ys → Own (w2.setCell ⟨BI, i, none⟩ (.slice A2 (l.length + 1) c2)) base E 1 v m ys := fun hv => by
  refine hv.kept hset fun g e ev => ?_
  injection e with e
  have := (hv.row ev).1
  have := h.lt
  omega
 have hi : i < vs.length := (List.getElem?_eq_some_iff.1 hv).1
 have hil : i < ls.length := by rw [← h.len]; exact hi
 refine ⟨A2, c2, w2, hrun, by rw [cell_of_row _ _ i _ _ _ hblk]; simpa using hv, by simp [World.frozen?, hblk], ⟨?_, by simp [h.len], fun j v hj => ?_, fun j k vj vk g hjk hj hk hgj => ?_, h.lt, ?_⟩, hb⟩
 ·
  have := blk_set hblk i (.slice A2 (l.length + 1) c2)
  rwa [List.setIfInBounds_toArray] at this
 ·
  by_cases e : i = j
  ·
   subst e
   rw [List.getElem?_set_self hi] at hj
   injection hj with hj
   subst hj
   exact ⟨l ++ [x], List.getElem?_set_self hil, hin (by simpa using ho2)⟩
  ·
   rw [List.getElem?_set_ne e] at hj
   obtain ⟨l', k1, k2⟩ := ha.own j v hj
   refine ⟨l', by rw [List.getElem?_set_ne e]; exact k1, hin (k2.kept hg fun g e1 e2 => ?_)⟩
   exact h.ap i j _ _ g e hv hj e1 e2
 ·
  have hold : ∀ (k : Nat) (v : Value), vs[k]? = some v → i ≠ k → rowOf (.slice A2 (l.length + 1) c2) = some g → rowOf v ≠ some g := fun k v hk hne hg2 e => by
   rcases hrow with e2 | e2
   ·
    rw [e2] at hg2
    exact h.ap i k _ _ g hne hv hk hg2 e
   ·
    rw [e2] at hg2
    injection hg2 with hg2
    obtain ⟨l', _, k2⟩ := h.own k v hk
    have := (k2.row e).2
    simp at hg2
    omega
  by_cases e1 : i = j
  ·
   subst e1
   rw [List.getElem?_set_self hi] at hj
   injection hj with hj
   subst hj
   rw [List.getElem?_set_ne hjk] at hk
   exact hold k vk hk hjk hgj
  ·
   rw [List.getElem?_set_ne e1] at hj
   by_cases e2 : i = k
   ·
    subst e2
    rw [List.getElem?_set_self hi] at hk
    injection hk with hk
    subst hk
    intro e3
    exact hold j vj hj e1 e3 hgj
   ·
    rw [List.getElem?_set_ne e2] at hk
    exact h.ap j k vj vk g hjk hj hk hgj
 ·
  have := hb.size
  have := h.le
  simp [World.setCell]; omega
end
end Go.Proofs.YtocbkccchnbmaaaGreat
