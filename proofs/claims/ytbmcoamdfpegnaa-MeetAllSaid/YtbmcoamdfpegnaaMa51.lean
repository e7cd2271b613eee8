/- MkLawP MkLawQ MaP -/
import Derived.Test.YtbmcoamdfpegnaaMa05
import Derived.Test.YtbmcoamdfpegnaaMa26
import Derived.Test.YtbmcoamdfpegnaaMa50
namespace Go.Proofs.Ytbmcoamdfpegnaa
section
variable {P : List RuleD} {n : Nat}
def Fit (n : Nat) (P : List RuleD) : Prop := ∀ r ∈ P, (0 ≤ r.1 ∧ r.1 < (n : Int)) ∧ ∀ s ∈ r.2, s.1 = false → 0 ≤ s.2 ∧ s.2 < (n : Int)
end
end Go.Proofs.Ytbmcoamdfpegnaa
namespace Go.Proofs.Ytbmcoamdfpegnaa
section
variable {d : DfaD} {R : List RuleD} {V : TriD → Bool} {L : List TriD} {st : Nat}
theorem numT_le (t : TriD) : numT L t ≤ L.length := by
 unfold numT
 split
 ·
  rename_i h
  have := List.idxOf_lt_length_of_mem h
  omega
 ·
  omega
theorem instS_fit : ∀ {l : List SymD} {qs : List Nat} {s : SymD}, s ∈ instS L l qs → s.1 = false → 0 ≤ s.2 ∧ s.2 < ((L.length + 1 : Nat) : Int)
 | [], qs, s, h, _ => by cases qs <;> simp [instS] at h
 | a :: l, [], s, h, _ => by simp [instS] at h
 | a :: l, [q], s, h, _ => by simp [instS] at h
 | a :: l, q :: p :: qs, s, h, hn => by
  have h : s ∈ (if a.1 = true then a else (false, (numT L (q, a.2.toNat, p) : Int))) :: instS L l (p :: qs) := h
  rcases List.mem_cons.1 h with h | h
  ·
   split at h
   ·
    rename_i e
    rw [h, e] at hn
    cases hn
   ·
    rw [h]
    have := numT_le (L := L) (q, a.2.toNat, p)
    simp only
    omega
  ·
   exact instS_fit h hn
theorem instS_len : ∀ {l : List SymD} {qs : List Nat}, qs.length = l.length + 1 → (instS L l qs).length = l.length
 | [], [], h => by simp at h
 | [], [_], _ => rfl
 | [], _ :: _ :: _, h => by simp at h
 | a :: l, [], h => by simp at h
 | a :: l, [q], h => by simp at h
 | a :: l, q :: p :: qs, h => by
  show ((if a.1 = true then a else (false, (numT L (q, a.2.toNat, p) : Int))) :: instS L l (p :: qs)).length = _
  rw [List.length_cons, instS_len (l := l) (qs := p :: qs) (by simpa using h), List.length_cons]
end
section
variable {M : Mkr} {W L : List TriD}
theorem allPR_mem {x : PR} : x ∈ allPR M W L ↔ (∃ p : Nat, p < M.n ∧ 0 ≤ dat M.d (p : Int) ∧ 0 < numT L (M.d.1.toNat, M.st, p) ∧ x = ((0, [(false, (numT L (M.d.1.toNat, M.st, p) : Int))]), -1, keyD (M.d.1.toNat, M.st, p) 255 [])) ∨
    ∃ (i : Nat) (t : TriD) (k : Nat) (r : RuleD) (qs : List Nat), L[i]? = some t ∧ M.R[k]? = some r ∧ r.1 = (t.2.1 : Int) ∧ qs ∈ instL M.d (inW W) t.2.2 r.2 t.1 ∧ x = mkPR L i t k r.2 qs := by
 unfold allPR
 rw [List.mem_append]
 refine or_congr ?_ ?_
 ·
  unfold startPR
  rw [List.mem_flatMap]
  constructor
  ·
   rintro ⟨p, hp, h⟩
   rw [List.mem_range] at hp
   split at h
   ·
    rename_i hc
    exact ⟨p, hp, hc.1, hc.2, List.mem_singleton.1 h⟩
   ·
    cases h
  ·
   rintro ⟨p, hp, h1, h2, h3⟩
   refine ⟨p, List.mem_range.2 hp, ?_⟩
   rw [if_pos ⟨h1, h2⟩]
   exact List.mem_singleton.2 h3
 ·
  unfold restPR
  rw [show L.zipIdx.take L.length = L.zipIdx from List.take_of_length_le (by simp), List.mem_flatMap]
  constructor
  ·
   rintro ⟨p, hp, h⟩
   unfold tripPR at h
   rw [show M.R.zipIdx.take M.R.length = M.R.zipIdx from List.take_of_length_le (by simp), List.mem_flatMap] at h
   obtain ⟨z, hz, h⟩ := h
   unfold instPR at h
   split at h
   ·
    rename_i hc
    obtain ⟨qs, h1, h2⟩ := List.mem_map.1 h
    exact ⟨p.2, p.1, z.2, z.1, qs, List.mem_zipIdx_iff_getElem?.1 hp, List.mem_zipIdx_iff_getElem?.1 hz, hc, h1, h2.symm⟩
   ·
    cases h
  ·
   rintro ⟨i, t, k, r, qs, h1, h2, h3, h4, h5⟩
   refine ⟨(t, i), List.mem_zipIdx_iff_getElem?.2 h1, ?_⟩
   unfold tripPR
   rw [show M.R.zipIdx.take M.R.length = M.R.zipIdx from List.take_of_length_le (by simp), List.mem_flatMap]
   refine ⟨(r, k), List.mem_zipIdx_iff_getElem?.2 h2, ?_⟩
   unfold instPR
   rw [if_pos h3]
   exact List.mem_map.2 ⟨qs, h4, h5.symm⟩
theorem allPR_rules (hn : M.n = M.d.2.2.length) {r' : RuleD} : r' ∈ (allPR M W L).map (fun x => x.1) ↔ r' ∈ prodR M.d M.R (inW W) L M.st := by
 rw [List.mem_map, prodR_mem]
 constructor
 ·
  rintro ⟨x, hx, rfl⟩
  rcases allPR_mem.1 hx with ⟨p, h1, h2, h3, rfl⟩ | ⟨i, t, k, r, qs, h1, h2, h3, h4, rfl⟩
  ·
   exact .inl (startR_mem.2 ⟨p, by omega, h2, h3, rfl⟩)
  ·
   exact .inr ⟨i, t, r, h1, List.mem_of_getElem? h2, instR_mem.2 ⟨h3, qs, h4, rfl⟩⟩
 ·
  rintro (h | ⟨i, t, r, h1, h2, h3⟩)
  ·
   obtain ⟨p, h1, h2, h3, h4⟩ := startR_mem.1 h
   exact ⟨_, allPR_mem.2 (.inl ⟨p, by omega, h2, h3, rfl⟩), h4.symm⟩
  ·
   obtain ⟨h4, qs, h5, h6⟩ := instR_mem.1 h3
   obtain ⟨k, hk⟩ := List.getElem?_of_mem h2
   exact ⟨_, allPR_mem.2 (.inr ⟨i, t, k, r, qs, h1, hk, h4, h5, rfl⟩), h6.symm⟩
theorem allPR_fit : Fit (L.length + 1) ((allPR M W L).map fun x => x.1) := by
 intro r' hr
 obtain ⟨x, hx, rfl⟩ := List.mem_map.1 hr
 rcases allPR_mem.1 hx with ⟨p, h1, h2, h3, rfl⟩ | ⟨i, t, k, r, qs, h1, h2, h3, h4, rfl⟩
 ·
  refine ⟨⟨by show (0 : Int) ≤ 0; omega, by dsimp only; omega⟩, fun s hs _ => ?_⟩
  rw [List.mem_singleton.1 hs]
  have := numT_le (L := L) (M.d.1.toNat, M.st, p)
  dsimp only
  omega
 ·
  have hi := (List.getElem?_eq_some_iff.1 h1).1
  exact ⟨⟨by unfold mkPR; dsimp only; omega, by unfold mkPR; dsimp only; omega⟩, fun s hs hn => instS_fit hs hn⟩
end
end Go.Proofs.Ytbmcoamdfpegnaa
namespace Go.Proofs.Ytbmcoamdfpegnaa
theorem der_lg {R : List RuleD} {l : List SymD} {k : Nat} (h : Der R l k) : ∃ w, LgL R l w ∧ w.length = k := by
 induction h with
 | nil => exact ⟨[], LgL.nil.2 rfl, rfl⟩
 | @term x l k _ ih =>
  obtain ⟨w, h1, h2⟩ := ih
  exact ⟨x :: w, LgL.cons.2 ⟨[x], w, rfl, LgS.term.2 rfl, h1⟩, by rw [List.length_cons, h2]⟩
 | @non A r l i j hm _ _ ih1 ih2 =>
  obtain ⟨u, h1, h2⟩ := ih1
  obtain ⟨v, h3, h4⟩ := ih2
  exact ⟨u ++ v, LgL.cons.2 ⟨u, v, rfl, LgS.non.2 ⟨(A, r), hm, rfl, h1⟩, h3⟩, by rw [List.length_append, h2, h4]⟩
theorem der_iff_lg {R : List RuleD} {a : Int} {k : Nat} : Der R [(false, a)] k ↔ ∃ w, LgS R (false, a) w ∧ w.length = k := by
 constructor
 ·
  intro h
  obtain ⟨w, h1, h2⟩ := der_lg h
  exact ⟨w, LgL.one.1 h1, h2⟩
 ·
  rintro ⟨w, ⟨t, h, rfl⟩, rfl⟩
  exact h.der
theorem LgS.mem {R R' : List RuleD} (h : ∀ r, r ∈ R ↔ r ∈ R') {a : Int} {w : List Int} : LgS R (false, a) w ↔ LgS R' (false, a) w := by
 have key : ∀ {R R' : List RuleD}, (∀ r, r ∈ R → r ∈ R') → ∀ (m : Nat) (t : TreeD) (s : SymD), sizeT t ≤ m → TV R s t → LgS R' s (wordT t) := by
  intro R R' h m
  induction m with
  | zero => intro t s hm _; rw [sizeT_eq] at hm; omega
  | succ m ih =>
   intro t s hm ht
   rcases ht.inv with ⟨c, e, rfl⟩ | ⟨k, r, ts, e, rfl, h1, h2⟩
   ·
    rw [e]
    exact LgS.term.2 (wordT_leaf c)
   ·
    rw [e, wordT_node]
    refine LgS.non.2 ⟨r, h r (List.mem_of_getElem? h1), rfl, ?_⟩
    have hk : ∀ x ∈ ts, sizeT x ≤ m := fun x hx => by have := sizeT_kid (t := .node (k : Int) 0 ts) (x := x) hx; omega
    clear e h1 hm ht
    generalize r.2 = l at h2 ⊢
    induction l generalizing ts with
    | nil => rw [TVL.inv_nil h2, wordTs_nil]; exact LgL.nil.2 rfl
    | cons s l ihl =>
     obtain ⟨x, ts', rfl, h3, h4⟩ := h2.inv
     rw [wordTs_cons]
     exact LgL.cons.2 ⟨_, _, rfl, ih x s (hk x List.mem_cons_self) h3, ihl ts' (fun y hy => hk y (List.mem_cons_of_mem _ hy)) h4⟩
 constructor
 ·
  rintro ⟨t, ht, rfl⟩
  exact key (fun r hr => (h r).1 hr) (sizeT t) t _ (Nat.le_refl _) ht
 ·
  rintro ⟨t, ht, rfl⟩
  exact key (fun r hr => (h r).2 hr) (sizeT t) t _ (Nat.le_refl _) ht
section
variable {M : Mkr} {W L : List TriD}
theorem all_words (hM : M.Ok) (hc : ClosedT M.d M.R (inW W)) (hp : L.Pairwise TLt) (hL : ∀ t, t ∈ L ↔ NdP M.d M.R (inW W) M.st t) (hT : ∀ t ∈ L, M.Tri t) {w : List Int} :
    LgS ((allPR M W L).map fun x => x.1) (false, 0) w ↔ LgS M.R (false, (M.st : Int)) w ∧ 0 ≤ dat M.d (w.foldl (dto M.d) M.d.1) := by
 have hd : L.Nodup := hp.imp fun {a b} h e => by subst e; unfold TLt at h; omega
 have hsyn : ∀ r ∈ M.R, ∀ s ∈ r.2, 0 ≤ s.2 := fun r hr s hs => by
  obtain ⟨_, _, h3⟩ := hM.rule hr
  have h4 := h3 s hs
  cases e : s.1 with
  | true => exact (h4.1 e).1
  | false => exact (h4.2 e).1
 have hterm : ∀ r ∈ M.R, TermsL M.d r.2 := fun r hr s hs e => by
  obtain ⟨_, _, h3⟩ := hM.rule hr
  exact (h3 s hs).1 e
 have hq : ∀ t ∈ L, t.1 < M.d.2.2.length := fun t ht => by have := (hT t ht).1; rw [← hM.n]; exact this
 have hneed : ∀ t ∈ L, ∀ x, NeedP M.d M.R (inW W) t x → x ∈ L := fun t ht x hx => (hL x).2 (.next ((hL t).1 ht) hx)
 rw [← prod_words (L := L) hM.val hc hterm hd hsyn hq hneed (fun p h1 h2 h3 => (hL _).2 (.start h1 h2 h3))]
 exact LgS.mem fun r => allPR_rules hM.n
theorem instS_term {L : List TriD} : ∀ {l : List SymD} {qs : List Nat} {s : SymD}, s ∈ instS L l qs → s.1 = true → s ∈ l
 | [], qs, s, h, _ => by cases qs <;> simp [instS] at h
 | a :: l, [], s, h, _ => by simp [instS] at h
 | a :: l, [q], s, h, _ => by simp [instS] at h
 | a :: l, q :: p :: qs, s, h, ht => by
  have h : s ∈ (if a.1 = true then a else (false, (numT L (q, a.2.toNat, p) : Int))) :: instS L l (p :: qs) := h
  rcases List.mem_cons.1 h with h | h
  ·
   split at h
   ·
    rw [h]; exact List.mem_cons_self
   ·
    rw [h] at ht; cases ht
  ·
   exact List.mem_cons_of_mem _ (instS_term h ht)
structure LstIn (T N : Nat) (P : List RuleD) : Prop where
 r4 : ∀ r ∈ P, r.2.length ≤ 4
 rn : RulesN N P
 so : ∀ r ∈ P, ∀ s ∈ r.2, SymOk (T : Int) (N : Int) s
theorem all_in (hM : M.Ok) : LstIn M.T (L.length + 1) ((allPR M W L).map fun x => x.1) := by
 have hfit := allPR_fit (M := M) (W := W) (L := L)
 refine ⟨fun r' hr => ?_, fun r hr => ⟨⟨(hfit r hr).1.1, by have := (hfit r hr).1; omega⟩, fun s hs hb => by have := (hfit r hr).2 s hs hb; exact ⟨this.1, by omega⟩⟩, fun r' hr s hs => ?_⟩
 ·
  obtain ⟨x, hx, rfl⟩ := List.mem_map.1 hr
  rcases allPR_mem.1 hx with ⟨p, h1, h2, h3, rfl⟩ | ⟨i, t, k, r, qs, h1, h2, h3, h4, rfl⟩
  ·
   exact (by decide : 1 ≤ 4)
  ·
   obtain ⟨qs', rfl, hq⟩ := instL_mem h4
   show (instS L r.2 (t.1 :: qs')).length ≤ 4
   rw [instS_len (by simp [hq])]
   exact (hM.rule (List.mem_of_getElem? h2)).2.1
 ·
  unfold SymOk
  cases hb : s.1 with
  | false =>
   have := (hfit r' hr).2 s hs hb
   simp only [Bool.false_eq_true, if_false]
   exact this
  | true =>
   simp only [if_true]
   obtain ⟨x, hx, rfl⟩ := List.mem_map.1 hr
   rcases allPR_mem.1 hx with ⟨p, h1, h2, h3, rfl⟩ | ⟨i, t, k, r, qs, h1, h2, h3, h4, rfl⟩
   ·
    rw [List.mem_singleton.1 hs] at hb
    cases hb
   ·
    have h5 := (hM.rule (List.mem_of_getElem? h2)).2.2 s (instS_term hs hb)
    have h6 := h5.1 hb
    rw [hM.cl] at h6
    exact h6
theorem all_none (hw : ∀ t ∈ W, Wd M.d M.R t) (hL : ∀ t, t ∈ L ↔ NdP M.d M.R (inW W) M.st t) (hM : M.Ok) (h0 : ∀ w, ¬ (LgS M.R (false, (M.st : Int)) w ∧ 0 ≤ dat M.d (w.foldl (dto M.d) M.d.1))) : L = [] := by
 have hst := hM.val.st
 have key : ∀ t, ¬ NdP M.d M.R (inW W) M.st t := by
  intro t h
  induction h with
  | @start p hp ha hW =>
   have hin : (M.d.1.toNat, M.st, p) ∈ W := by unfold inW at hW; exact of_decide_eq_true hW
   obtain ⟨w, h1, h2⟩ := hw _ hin
   refine h0 w ⟨h1, ?_⟩
   simp only at h2
   rw [Int.toNat_of_nonneg hst.1] at h2
   rw [h2]
   exact ha
  | next _ _ ih => exact ih
 exact List.eq_nil_iff_forall_not_mem.2 fun t ht => key t ((hL t).1 ht)
end
def oneD (T : Nat) : DfaD := (0, [0], [List.replicate T 0])
theorem oneD_valid {T : Nat} (h1 : 1 ≤ T) (h2 : T ≤ 8) : Valid (oneD T) := by
 have hc : cols (oneD T) = T := by simp [cols, oneD]
 refine ⟨by simp [oneD], by simp [oneD], rfl, by omega, by omega, fun r hr => ?_, ⟨by simp [oneD], by simp [oneD]⟩, fun x hx => ?_⟩
 ·
  have hr : r ∈ [List.replicate T (0 : Int)] := hr
  rw [List.mem_singleton.1 hr, hc]
  refine ⟨by simp, fun x hx => ?_⟩
  rw [(List.mem_replicate.1 hx).2]
  simp [oneD]
 ·
  have hx : x ∈ [(0 : Int)] := hx
  rw [List.mem_singleton.1 hx]
  omega
theorem oneD_to (T : Nat) (c : Int) : dto (oneD T) 0 c = 0 := by
 unfold dto oneD
 simp only [Int.lt_irrefl, if_false, Int.toNat_zero, List.getElem?_cons_zero, Option.getD_some, List.getElem?_replicate]
 split <;> rfl
theorem oneD_word (T : Nat) : ∀ w : List Int, w.foldl (dto (oneD T)) 0 = 0
 | [] => rfl
 | c :: w => by rw [List.foldl_cons, oneD_to]; exact oneD_word T w
theorem flatMap_le {α β : Type} {f : α → List β} {c : Nat} : ∀ (l : List α), (∀ x ∈ l, (f x).length ≤ c) → (l.flatMap f).length ≤ c * l.length
 | [], _ => by simp
 | a :: l, h => by
  have h1 := flatMap_le l fun x hx => h x (List.mem_cons_of_mem _ hx)
  have h2 := h a List.mem_cons_self
  rw [List.flatMap_cons, List.length_append, List.length_cons, Nat.mul_succ]
  omega
theorem instL_one {d : DfaD} {V : TriD → Bool} (hn : d.2.2.length = 1) {tz : Nat} : ∀ (l : List SymD) (q : Nat), (instL d V tz l q).length ≤ 1
 | [], q => by unfold instL; split <;> simp
 | s :: l, q => by
  unfold instL
  refine Nat.le_trans (flatMap_le (c := 1) _ fun p _ => ?_) ?_
  ·
   rw [List.length_map]; exact instL_one hn l p
  ·
   rw [Nat.one_mul]
   unfold stpL
   split
   ·
    split <;> simp
   ·
    exact Nat.le_trans (List.length_filter_le _ _) (by rw [List.length_range, hn]; exact Nat.le_refl 1)
theorem one_few {M : Mkr} {W L : List TriD} (hM : M.Ok) (hn : M.n = 1) (hp : L.Pairwise TLt) (hT : ∀ t ∈ L, M.Tri t) : L.length ≤ M.N ∧ (allPR M W L).length ≤ 1 + 32 * M.N := by
 have hL : L.length ≤ M.N := by
  have h1 : (L.map fun t => t.2.1).Nodup := by
   unfold List.Nodup
   rw [List.pairwise_map]
   refine hp.imp_of_mem fun {a b} ha hb h e => ?_
   have h2 := hT a ha
   have h3 := hT b hb
   unfold Mkr.Tri at h2 h3
   unfold TLt at h
   omega
  have h2 := pigeon (n := M.N) h1 fun x hx => by
   obtain ⟨t, ht, rfl⟩ := List.mem_map.1 hx
   exact (hT t ht).2.1
  rwa [List.length_map] at h2
 refine ⟨hL, ?_⟩
 unfold allPR
 rw [List.length_append]
 have h1 : (startPR M L M.n).length ≤ 1 := by
  unfold startPR
  refine Nat.le_trans (flatMap_le (c := 1) _ fun p _ => ?_) (by rw [List.length_range, hn]; exact Nat.le_refl 1)
  split <;> simp
 have h2 : (restPR M W L L.length).length ≤ 32 * L.length := by
  unfold restPR
  refine Nat.le_trans (flatMap_le (c := 32) _ fun p _ => ?_) (Nat.mul_le_mul_left _ (by rw [List.length_take, List.length_zipIdx]; omega))
  unfold tripPR
  refine Nat.le_trans (flatMap_le (c := 1) _ fun z _ => ?_) (by have h3 := hM.g.rl; simp only at h3; rw [Nat.one_mul, List.length_take, List.length_zipIdx]; omega)
  unfold instPR
  split
  ·
   rw [List.length_map]
   exact instL_one (by rw [← hM.n]; exact hn) _ _
  ·
   simp
 have h3 : 32 * L.length ≤ 32 * M.N := Nat.mul_le_mul_left _ hL
 omega
end Go.Proofs.Ytbmcoamdfpegnaa
