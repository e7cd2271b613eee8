/- MeetQ -/
import Derived.Test.YtbmcoamdfpegnaaMa24
namespace Go.Proofs.Ytbmcoamdfpegnaa
section
variable (d : DfaD) (R : List RuleD) (W : TriD → Bool)
def NeedP (t x : TriD) : Prop := ∃ r ∈ R, r.1 = (t.2.1 : Int) ∧ ∃ l c m, r.2 = l ++ (false, c) :: m ∧ RchW d W l t.1 x.1 ∧ x.2.1 = c.toNat ∧ x.2.2 ∈ stpL d W (false, c) x.1 ∧ RchW d W m x.2.2 t.2.2
inductive NdP (st : Nat) : TriD → Prop
 | start {p : Nat} : p < d.2.2.length → 0 ≤ dat d (p : Int) → W (d.1.toNat, st, p) = true → NdP st (d.1.toNat, st, p)
 | next {t x : TriD} : NdP st t → NeedP d R W t x → NdP st x
def instL (tz : Nat) : List SymD → Nat → List (List Nat)
 | [], q => if q = tz then [[q]] else []
 | s :: l, q => (stpL d W s q).flatMap fun p => (instL tz l p).map (q :: ·)
def numT (L : List TriD) (t : TriD) : Nat := if t ∈ L then L.idxOf t + 1 else 0
def instS (L : List TriD) : List SymD → List Nat → List SymD
 | s :: l, q :: p :: qs => (if s.1 = true then s else (false, (numT L (q, s.2.toNat, p) : Int))) :: instS L l (p :: qs)
 | _, _ => []
def instR (L : List TriD) (i : Nat) (t : TriD) (r : RuleD) : List RuleD := if r.1 = (t.2.1 : Int) then (instL d W t.2.2 r.2 t.1).map fun qs => (((i + 1 : Nat) : Int), instS L r.2 qs) else []
def startR (L : List TriD) (st : Nat) : List RuleD := (List.range d.2.2.length).filterMap fun (p : Nat) => if 0 ≤ dat d (p : Int) ∧ 0 < numT L ((d.1.toNat, st, p) : TriD) then some ((0, [(false, (numT L ((d.1.toNat, st, p) : TriD) : Int))]) : RuleD) else none
def prodR (L : List TriD) (st : Nat) : List RuleD := startR d L st ++ L.zipIdx.flatMap fun p => R.flatMap fun r => instR d W L p.2 p.1 r
end
section
variable {d : DfaD} {R : List RuleD} {W : TriD → Bool} {L : List TriD} {st : Nat}
theorem instL_mem {tz : Nat} : ∀ {l : List SymD} {q : Nat} {qs : List Nat}, qs ∈ instL d W tz l q → ∃ qs', qs = q :: qs' ∧ qs'.length = l.length
 | [], q, qs, h => by
  unfold instL at h
  by_cases e : q = tz
  ·
   rw [if_pos e, List.mem_singleton] at h
   exact ⟨[], h, rfl⟩
  ·
   rw [if_neg e] at h
   cases h
 | s :: l, q, qs, h => by
  unfold instL at h
  obtain ⟨p, hp, h1⟩ := List.mem_flatMap.1 h
  obtain ⟨qs1, h2, rfl⟩ := List.mem_map.1 h1
  obtain ⟨qs2, rfl, h3⟩ := instL_mem h2
  exact ⟨_, rfl, by simp [h3]⟩
theorem instL_rch {tz : Nat} : ∀ {l : List SymD} {q : Nat} {qs : List Nat}, qs ∈ instL d W tz l q → RchW d W l q tz
 | [], q, qs, h => by
  unfold instL at h
  by_cases e : q = tz
  ·
   rw [e]; exact .nil
  ·
   rw [if_neg e] at h
   cases h
 | s :: l, q, qs, h => by
  unfold instL at h
  obtain ⟨p, hp, h1⟩ := List.mem_flatMap.1 h
  obtain ⟨qs1, h2, _⟩ := List.mem_map.1 h1
  exact .cons hp (instL_rch h2)
def Listed (d : DfaD) (W : TriD → Bool) (L : List TriD) (l : List SymD) (q tz : Nat) : Prop := ∀ (l1 : List SymD) (c : Int) (l2 : List SymD) (x p : Nat), l = l1 ++ (false, c) :: l2 → RchW d W l1 q x → p ∈ stpL d W (false, c) x → RchW d W l2 p tz → (x, c.toNat, p) ∈ L
theorem instS_words {tz : Nat} {R' : List RuleD} : ∀ {l : List SymD} {ts : List TreeD} {q : Nat} {qs : List Nat}, (∀ x ∈ ts, ∀ t ∈ L, TV R' (false, (numT L t : Int)) x → LgS R (false, (t.2.1 : Int)) (wordT x) ∧ (wordT x).foldl (dto d) (t.1 : Int) = (t.2.2 : Int)) →
    qs ∈ instL d W tz l q → (∀ s ∈ l, 0 ≤ s.2) → Listed d W L l q tz → TVL R' (instS L l qs) ts → LgL R l (wordTs ts) ∧ (wordTs ts).foldl (dto d) (q : Int) = (tz : Int)
 | [], ts, q, qs, _, h, _, _, hv => by
  unfold instL at h
  by_cases e : q = tz
  ·
   rw [if_pos e, List.mem_singleton] at h
   subst h
   have h1 : ts = [] := TVL.inv_nil hv
   rw [h1, e, wordTs_nil]
   exact ⟨LgL.nil.2 rfl, rfl⟩
  ·
   rw [if_neg e] at h
   cases h
 | s :: l, ts, q, qs, hw, h, hs, hL, hv => by
  unfold instL at h
  obtain ⟨p, hp, h1⟩ := List.mem_flatMap.1 h
  obtain ⟨qs1, h2, rfl⟩ := List.mem_map.1 h1
  obtain ⟨qs2, rfl, _⟩ := instL_mem h2
  have hv2 : TVL R' ((if s.1 = true then s else (false, (numT L (q, s.2.toNat, p) : Int))) :: instS L l (p :: qs2)) ts := hv
  obtain ⟨x, ts', rfl, h3, h4⟩ := hv2.inv
  obtain ⟨h5, h6⟩ := instS_words (fun y hy => hw y (List.mem_cons_of_mem _ hy)) h2 (fun s' hs' => hs s' (List.mem_cons_of_mem _ hs')) (fun l1 c l2 z p' e h7 h8 h9 => hL (s :: l1) c l2 z p' (by rw [e]; rfl) (.cons hp h7) h8 h9) h4
  have h0 := hs s List.mem_cons_self
  rw [wordTs_cons, List.foldl_append]
  obtain ⟨b, c⟩ := s
  cases b with
  | true =>
   rw [if_pos rfl] at h3
   have h7 := LgS.term.1 ⟨x, h3, rfl⟩
   rw [h7]
   refine ⟨LgL.cons.2 ⟨[c], _, rfl, LgS.term.2 rfl, h5⟩, ?_⟩
   unfold stpL at hp
   rw [if_pos rfl] at hp
   simp only at hp
   by_cases h8 : 0 ≤ dto d (q : Int) c
   ·
    rw [if_pos h8] at hp
    have h9 := List.mem_singleton.1 hp
    rw [List.foldl_cons, List.foldl_nil, show dto d (q : Int) c = (p : Int) by omega]
    exact h6
   ·
    rw [if_neg h8] at hp
    cases hp
  | false =>
   rw [if_neg (by simp)] at h3
   simp only at h0 h3
   obtain ⟨h7, h8⟩ := hw x List.mem_cons_self _ (hL [] c l q p rfl .nil hp (instL_rch h2)) h3
   simp only at h7 h8
   rw [Int.toNat_of_nonneg h0] at h7
   refine ⟨LgL.cons.2 ⟨_, _, rfl, h7, h5⟩, ?_⟩
   rw [h8]
   exact h6
theorem numT_in {t : TriD} (h : t ∈ L) : numT L t = L.idxOf t + 1 := by unfold numT; rw [if_pos h]
theorem numT_at (hd : L.Nodup) {i : Nat} {t : TriD} (h : L[i]? = some t) : numT L t = i + 1 := by
 obtain ⟨hi, rfl⟩ := List.getElem?_eq_some_iff.1 h
 rw [numT_in (List.getElem_mem hi), hd.idxOf_getElem]
theorem prodR_mem {r' : RuleD} : r' ∈ prodR d R W L st ↔ r' ∈ startR d L st ∨ ∃ i t r, L[i]? = some t ∧ r ∈ R ∧ r' ∈ instR d W L i t r := by
 unfold prodR
 rw [List.mem_append, List.mem_flatMap]
 refine or_congr Iff.rfl ⟨?_, ?_⟩
 ·
  rintro ⟨⟨t, i⟩, h1, h2⟩
  obtain ⟨r, h3, h4⟩ := List.mem_flatMap.1 h2
  exact ⟨i, t, r, List.mem_zipIdx_iff_getElem?.1 h1, h3, h4⟩
 ·
  rintro ⟨i, t, r, h1, h2, h3⟩
  exact ⟨(t, i), List.mem_zipIdx_iff_getElem?.2 h1, List.mem_flatMap.2 ⟨r, h2, h3⟩⟩
theorem instR_mem {i : Nat} {t : TriD} {r r' : RuleD} : r' ∈ instR d W L i t r ↔ r.1 = (t.2.1 : Int) ∧ ∃ qs ∈ instL d W t.2.2 r.2 t.1, r' = (((i + 1 : Nat) : Int), instS L r.2 qs) := by
 unfold instR
 by_cases h : r.1 = (t.2.1 : Int)
 ·
  rw [if_pos h, List.mem_map]
  constructor
  ·
   rintro ⟨qs, h1, rfl⟩
   exact ⟨h, qs, h1, rfl⟩
  ·
   rintro ⟨_, qs, h1, rfl⟩
   exact ⟨qs, h1, rfl⟩
 ·
  rw [if_neg h]
  exact ⟨fun h => (by cases h), fun h1 => absurd h1.1 h⟩
theorem startR_mem {r' : RuleD} : r' ∈ startR d L st ↔ ∃ p : Nat, p < d.2.2.length ∧ 0 ≤ dat d (p : Int) ∧ 0 < numT L (d.1.toNat, st, p) ∧ r' = (0, [(false, (numT L (d.1.toNat, st, p) : Int))]) := by
 unfold startR
 rw [List.mem_filterMap]
 constructor
 ·
  rintro ⟨p, hp, h⟩
  by_cases h1 : 0 ≤ dat d (p : Int) ∧ 0 < numT L ((d.1.toNat, st, p) : TriD)
  ·
   rw [if_pos h1] at h
   injection h with h
   exact ⟨p, List.mem_range.1 hp, h1.1, h1.2, h.symm⟩
  ·
   rw [if_neg h1] at h
   cases h
 ·
  rintro ⟨p, hp, h1, h2, rfl⟩
  exact ⟨p, List.mem_range.2 hp, by rw [if_pos ⟨h1, h2⟩]⟩
theorem prod_sound (hd : L.Nodup) (hR : ∀ r ∈ R, ∀ s ∈ r.2, 0 ≤ s.2) (hL : ∀ t ∈ L, ∀ x, NeedP d R W t x → x ∈ L) : ∀ (m : Nat) (x : TreeD) (t : TriD), sizeT x ≤ m → t ∈ L → TV (prodR d R W L st) (false, (numT L t : Int)) x → LgS R (false, (t.2.1 : Int)) (wordT x) ∧ (wordT x).foldl (dto d) (t.1 : Int) = (t.2.2 : Int)
 | 0, x, t, hm, _, _ => by rw [sizeT_eq] at hm; omega
 | m + 1, x, t, hm, ht, h => by
  rcases h.inv with ⟨c, e, _⟩ | ⟨k, r', ts, e, rfl, h1, h2⟩
  ·
   cases e
  ·
   injection e with _ e
   rw [wordT_node]
   rcases prodR_mem.1 (List.mem_of_getElem? h1) with h3 | ⟨i, t', r, h3, h4, h5⟩
   ·
    obtain ⟨p, _, _, _, h6⟩ := startR_mem.1 h3
    rw [h6, numT_in ht] at e
    simp only at e
    omega
   ·
    obtain ⟨h6, qs, h7, h8⟩ := instR_mem.1 h5
    rw [h8] at e
    simp only at e
    obtain ⟨j, hj⟩ := List.getElem?_of_mem ht
    rw [numT_at hd hj] at e
    obtain rfl : i = j := by omega
    rw [hj] at h3
    injection h3 with h3
    subst h3
    rw [h8] at h2
    simp only at h2
    obtain ⟨h9, h10⟩ := instS_words (R := R) (fun y hy t' ht' hy' => prod_sound hd hR hL m y t' (by have h12 := sizeT_kid (t := .node (k : Int) 0 ts) (x := y) hy; omega) ht' hy') h7 (hR r h4) (fun l1 c l2 z p e h9 h10 h11 => hL t ht (z, c.toNat, p) ⟨r, h4, h6, l1, c, l2, e, h9, rfl, h10, h11⟩) h2
    exact ⟨LgS.non.2 ⟨r, h4, h6, h9⟩, h10⟩
theorem inst_of (hv : Valid d) (hC : ClosedT d R W) (hT : ∀ r ∈ R, TermsL d r.2) {tz : Nat} {R' : List RuleD} : ∀ {l : List SymD} {ts : List TreeD} {q : Nat}, q < d.2.2.length → TermsL d l → (∀ s ∈ l, 0 ≤ s.2) → TVL R l ts → (wordTs ts).foldl (dto d) (q : Int) = (tz : Int) → Listed d W L l q tz →
    (∀ y ∈ ts, ∀ t ∈ L, TV R (false, (t.2.1 : Int)) y → (wordT y).foldl (dto d) (t.1 : Int) = (t.2.2 : Int) → LgS R' (false, (numT L t : Int)) (wordT y)) → ∃ qs ∈ instL d W tz l q, LgL R' (instS L l qs) (wordTs ts)
 | [], ts, q, _, _, _, h, hz, _, _ => by
  have h1 : ts = [] := TVL.inv_nil h
  rw [h1, wordTs_nil] at hz
  rw [h1, wordTs_nil]
  have e : q = tz := by simp only [List.foldl_nil] at hz; omega
  exact ⟨[q], by unfold instL; rw [if_pos e]; simp, LgL.nil.2 rfl⟩
 | s :: l, ts, q, hq, ht, hs, h, hz, hL, hw => by
  obtain ⟨x, ts', rfl, h1, h2⟩ := h.inv
  rw [wordTs_cons, List.foldl_append] at hz
  have hx : 0 ≤ (wordT x).foldl (dto d) (q : Int) := by
   rcases Int.lt_or_le ((wordT x).foldl (dto d) (q : Int)) 0 with h | h
   ·
    have := dto_bad d h (wordTs ts')
    omega
   ·
    exact h
  obtain ⟨p, hp⟩ : ∃ p : Nat, (wordT x).foldl (dto d) (q : Int) = (p : Int) := ⟨_, (Int.toNat_of_nonneg hx).symm⟩
  rw [hp] at hz
  have ht0 := ht s List.mem_cons_self
  have htl : TermsL d l := fun s' hs' => ht s' (List.mem_cons_of_mem _ hs')
  have h3 := TV.told hv hC hT h1 ht0 q p hq hp
  have hpl := stpL_lt hv hq ht0 h3
  have hrest := TVL.told hv hC hT h2 htl p tz hpl hz
  obtain ⟨qs, h4, h5⟩ := inst_of hv hC hT (R' := R') hpl htl (fun s' hs' => hs s' (List.mem_cons_of_mem _ hs')) h2 hz (fun l1 c l2 z p' e h7 h8 h9 => hL (s :: l1) c l2 z p' (by rw [e]; rfl) (.cons h3 h7) h8 h9) (fun y hy => hw y (List.mem_cons_of_mem _ hy))
  obtain ⟨qs2, rfl, _⟩ := instL_mem h4
  refine ⟨q :: p :: qs2, ?_, ?_⟩
  ·
   unfold instL
   exact List.mem_flatMap.2 ⟨p, h3, List.mem_map.2 ⟨_, h4, rfl⟩⟩
  ·
   show LgL R' ((if s.1 = true then s else (false, (numT L (q, s.2.toNat, p) : Int))) :: instS L l (p :: qs2)) _
   rw [wordTs_cons]
   refine LgL.cons.2 ⟨_, _, rfl, ?_, h5⟩
   have h0 := hs s List.mem_cons_self
   obtain ⟨b, c⟩ := s
   cases b with
   | true =>
    rw [if_pos rfl]
    rw [LgS.term.1 ⟨x, h1, rfl⟩]
    exact LgS.term.2 rfl
   | false =>
    rw [if_neg (by simp)]
    simp only at h0 ⊢
    refine hw x List.mem_cons_self _ (hL [] c l q p rfl .nil h3 hrest) ?_ hp
    simp only
    rw [Int.toNat_of_nonneg h0]
    exact h1
theorem prod_complete (hv : Valid d) (hC : ClosedT d R W) (hT : ∀ r ∈ R, TermsL d r.2) (hd : L.Nodup) (hR : ∀ r ∈ R, ∀ s ∈ r.2, 0 ≤ s.2) (hq : ∀ t ∈ L, t.1 < d.2.2.length) (hL : ∀ t ∈ L, ∀ x, NeedP d R W t x → x ∈ L) : ∀ (m : Nat) (x : TreeD) (t : TriD), sizeT x ≤ m → t ∈ L → TV R (false, (t.2.1 : Int)) x → (wordT x).foldl (dto d) (t.1 : Int) = (t.2.2 : Int) → LgS (prodR d R W L st) (false, (numT L t : Int)) (wordT x)
 | 0, x, t, hm, _, _, _ => by rw [sizeT_eq] at hm; omega
 | m + 1, x, t, hm, ht, h, hz => by
  rcases h.inv with ⟨c, e, _⟩ | ⟨k, r, ts, e, rfl, h1, h2⟩
  ·
   cases e
  ·
   injection e with _ e
   rw [wordT_node] at hz ⊢
   have hr := List.mem_of_getElem? h1
   obtain ⟨qs, h3, h4⟩ := inst_of hv hC hT (R' := prodR d R W L st) (hq t ht) (hT r hr) (hR r hr) h2 hz (fun l1 c l2 z p e1 h9 h10 h11 => hL t ht (z, c.toNat, p) ⟨r, hr, e.symm, l1, c, l2, e1, h9, rfl, h10, h11⟩)
    (fun y hy t' ht' hy' hz' => prod_complete hv hC hT hd hR hq hL m y t' (by have h12 := sizeT_kid (t := .node (k : Int) 0 ts) (x := y) hy; omega) ht' hy' hz')
   obtain ⟨i, hi⟩ := List.getElem?_of_mem ht
   exact LgS.non.2 ⟨_, prodR_mem.2 (.inr ⟨i, t, r, hi, hr, instR_mem.2 ⟨e.symm, qs, h3, rfl⟩⟩), by rw [numT_at hd hi], h4⟩
theorem prod_words (hv : Valid d) (hC : ClosedT d R W) (hT : ∀ r ∈ R, TermsL d r.2) (hd : L.Nodup) (hR : ∀ r ∈ R, ∀ s ∈ r.2, 0 ≤ s.2) (hq : ∀ t ∈ L, t.1 < d.2.2.length) (hL : ∀ t ∈ L, ∀ x, NeedP d R W t x → x ∈ L) (hS : ∀ p : Nat, p < d.2.2.length → 0 ≤ dat d (p : Int) → W (d.1.toNat, st, p) = true → (d.1.toNat, st, p) ∈ L) {w : List Int} :
    LgS (prodR d R W L st) (false, 0) w ↔ LgS R (false, (st : Int)) w ∧ 0 ≤ dat d (w.foldl (dto d) d.1) := by
 have hst := hv.st
 constructor
 ·
  rintro ⟨x, h, rfl⟩
  rcases h.inv with ⟨c, e, _⟩ | ⟨k, r', ts, e, rfl, h1, h2⟩
  ·
   cases e
  ·
   injection e with _ e
   rcases prodR_mem.1 (List.mem_of_getElem? h1) with h3 | ⟨i, t', r, h3, h4, h5⟩
   ·
    obtain ⟨p, hp, ha, hn, h6⟩ := startR_mem.1 h3
    rw [h6] at h2
    simp only at h2
    obtain ⟨y, ts', rfl, h7, h8⟩ := h2.inv
    have h9 : ts' = [] := TVL.inv_nil h8
    subst h9
    have hin : ((d.1.toNat, st, p) : TriD) ∈ L := by
     unfold numT at hn
     by_cases h : ((d.1.toNat, st, p) : TriD) ∈ L
     ·
      exact h
     ·
      rw [if_neg h] at hn
      omega
    obtain ⟨h10, h11⟩ := prod_sound hd hR hL (sizeT y) y _ (Nat.le_refl _) hin h7
    simp only at h10 h11
    rw [wordT_node, wordTs_cons, wordTs_nil, List.append_nil]
    refine ⟨h10, ?_⟩
    rw [show d.1 = ((d.1.toNat : Nat) : Int) by omega, h11]
    exact ha
   ·
    obtain ⟨_, qs, _, h8⟩ := instR_mem.1 h5
    rw [h8] at e
    simp only at e
    omega
 ·
  rintro ⟨⟨x, h, rfl⟩, ha⟩
  have h0 : 0 ≤ (wordT x).foldl (dto d) d.1 := by
   rcases Int.lt_or_le ((wordT x).foldl (dto d) d.1) 0 with h | h
   ·
    unfold dat at ha
    rw [if_pos h] at ha
    omega
   ·
    exact h
  obtain ⟨p, hp⟩ : ∃ p : Nat, (wordT x).foldl (dto d) d.1 = (p : Int) := ⟨_, (Int.toNat_of_nonneg h0).symm⟩
  rw [hp] at ha
  rw [show d.1 = ((d.1.toNat : Nat) : Int) by omega] at hp
  have hql : d.1.toNat < d.2.2.length := by omega
  have h1 := TV.told hv hC hT h (fun h => by cases h) d.1.toNat p hql hp
  have hpl := stpL_lt hv hql (s := (false, (st : Int))) (fun h => by cases h) h1
  have hW : W (d.1.toNat, st, p) = true := by
   unfold stpL at h1
   rw [if_neg (by simp)] at h1
   simpa using (List.mem_filter.1 h1).2
  have hin := hS p hpl ha hW
  have h2 := prod_complete (st := st) hv hC hT hd hR hq hL (sizeT x) x _ (Nat.le_refl _) hin h hp
  have hn : 0 < numT L (d.1.toNat, st, p) := by rw [numT_in hin]; omega
  exact LgS.non.2 ⟨_, prodR_mem.2 (.inl (startR_mem.2 ⟨p, hpl, ha, hn, rfl⟩)), rfl, LgL.one.2 h2⟩
end
end Go.Proofs.Ytbmcoamdfpegnaa
