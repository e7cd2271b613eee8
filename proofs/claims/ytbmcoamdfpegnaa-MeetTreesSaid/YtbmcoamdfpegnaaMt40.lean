/- IntoP -/
import Derived.Test.YtbmcoamdfpegnaaMt38
namespace Go.Proofs.Ytbmcoamdfpegnaa
open Go.RowKit Go.Maps
theorem natL_inj : ∀ {a b : List Nat}, (a.map fun x : Nat => (x : Int)) = (b.map fun x : Nat => (x : Int)) → a = b
 | [], [], _ => rfl
 | [], _ :: _, h => by simp at h
 | _ :: _, [], h => by simp at h
 | x :: a, y :: b, h => by
  rw [List.map_cons, List.map_cons] at h
  injection h with h1 h2
  rw [natL_inj h2, show x = y by omega]
theorem lk_km (ps : List PR) : ∀ x ∈ ps, ∃ (j : Nat) (y : PR), lk (kmOf ps) (strOf x.2.2) = some (.int .i64 (j : Int)) ∧ ps[j]? = some y ∧ strOf y.2.2 = strOf x.2.2 := by
 refine snoc_ind (P := fun ps => ∀ x ∈ ps, ∃ (j : Nat) (y : PR), lk (kmOf ps) (strOf x.2.2) = some (.int .i64 (j : Int)) ∧ ps[j]? = some y ∧ strOf y.2.2 = strOf x.2.2) (fun x h => by cases h) (fun l z ih x hx => ?_) ps
 rw [kmOf_snoc, lk_putL]
 by_cases e : strOf z.2.2 = strOf x.2.2
 ·
  rw [if_pos e]
  exact ⟨l.length, z, rfl, by rw [List.getElem?_append_right (Nat.le_refl _)]; simp, e⟩
 ·
  rw [if_neg e]
  rcases List.mem_append.1 hx with h | h
  ·
   obtain ⟨j, y, h1, h2, h3⟩ := ih x h
   exact ⟨j, y, h1, by rw [List.getElem?_append_left (List.getElem?_eq_some_iff.1 h2).1]; exact h2, h3⟩
  ·
   exact absurd (by rw [List.mem_singleton.1 h]) e
section
variable (M : Mkr) (W L : List TriD)
mutual
inductive Img : Nat → TreeD → TreeD → Nat → Prop
 | leaf {q z : Nat} {c : Int} : dto M.d (q : Int) c = (z : Int) → Img q (.node (-1) c []) (.node (-1) c []) z
 | node {q z k j i : Nat} {r : RuleD} {ts xs : List TreeD} {qs : List Nat} : M.R[k]? = some r → L[i]? = some (q, r.1.toNat, z) → (allPR M W L)[j]? = some (mkPR L i (q, r.1.toNat, z) k r.2 (q :: qs)) → lk (kmOf (allPR M W L)) (strOf (keyD (q, r.1.toNat, z) k (q :: qs))) = some (.int .i64 (j : Int)) → ImgL q ts xs qs z → Img q (.node (k : Int) 0 ts) (.node (j : Int) 0 xs) z
inductive ImgL : Nat → List TreeD → List TreeD → List Nat → Nat → Prop
 | nil {q : Nat} : ImgL q [] [] [] q
 | cons {q p z : Nat} {t x : TreeD} {ts xs : List TreeD} {qs : List Nat} : Img q t x p → ImgL p ts xs qs z → ImgL q (t :: ts) (x :: xs) (p :: qs) z
end
end
section
variable {M : Mkr} {W L : List TriD}
theorem Img.inv {q z : Nat} {t x : TreeD} (h : Img M W L q t x z) : (∃ c, t = .node (-1) c [] ∧ x = .node (-1) c [] ∧ dto M.d (q : Int) c = (z : Int)) ∨
    ∃ (k j i : Nat) (r : RuleD) (ts xs : List TreeD) (qs : List Nat), t = .node (k : Int) 0 ts ∧ x = .node (j : Int) 0 xs ∧ M.R[k]? = some r ∧ L[i]? = some (q, r.1.toNat, z) ∧ (allPR M W L)[j]? = some (mkPR L i (q, r.1.toNat, z) k r.2 (q :: qs)) ∧ lk (kmOf (allPR M W L)) (strOf (keyD (q, r.1.toNat, z) k (q :: qs))) = some (.int .i64 (j : Int)) ∧ ImgL M W L q ts xs qs z := by
 cases h with
 | leaf h => exact .inl ⟨_, rfl, rfl, h⟩
 | node h1 h2 h3 h4 h5 => exact .inr ⟨_, _, _, _, _, _, _, rfl, rfl, h1, h2, h3, h4, h5⟩
theorem ImgL.inv {q z : Nat} {t : TreeD} {ts xs : List TreeD} {qs : List Nat} (h : ImgL M W L q (t :: ts) xs qs z) : ∃ x xs' p qs', xs = x :: xs' ∧ qs = p :: qs' ∧ Img M W L q t x p ∧ ImgL M W L p ts xs' qs' z := by
 cases h with
 | cons h1 h2 => exact ⟨_, _, _, _, rfl, rfl, h1, h2⟩
theorem ImgL.inv_nil {q z : Nat} {xs : List TreeD} {qs : List Nat} (h : ImgL M W L q [] xs qs z) : xs = [] ∧ qs = [] ∧ q = z := by
 cases h with
 | nil => exact ⟨rfl, rfl, rfl⟩
theorem ImgL.len : ∀ {ts xs : List TreeD} {qs : List Nat} {q z : Nat}, ImgL M W L q ts xs qs z → xs.length = ts.length ∧ qs.length = ts.length
 | [], xs, qs, q, z, h => by obtain ⟨rfl, rfl, _⟩ := h.inv_nil; exact ⟨rfl, rfl⟩
 | t :: ts, xs, qs, q, z, h => by
  obtain ⟨x, xs', p, qs', rfl, rfl, _, h2⟩ := h.inv
  have := h2.len
  simp [this.1, this.2]
theorem Img.word : ∀ (m : Nat) {q z : Nat} {t x : TreeD}, sizeT t ≤ m → Img M W L q t x z → wordT x = wordT t ∧ sizeT x = sizeT t
 | 0, q, z, t, x, hm, _ => by rw [sizeT_eq] at hm; omega
 | m + 1, q, z, t, x, hm, h => by
  rcases h.inv with ⟨c, rfl, rfl, _⟩ | ⟨k, j, i, r, ts, xs, qs, rfl, rfl, _, _, _, _, h5⟩
  ·
   exact ⟨rfl, rfl⟩
  ·
   rw [wordT_node, wordT_node, sizeT_eq, sizeT_eq]
   have hk : ∀ x ∈ ts, sizeT x ≤ m := fun x hx => by have := sizeT_kid (t := .node (k : Int) 0 ts) (x := x) hx; omega
   have key : ∀ (ts xs : List TreeD) (qs : List Nat) (q : Nat), (∀ x ∈ ts, sizeT x ≤ m) → ImgL M W L q ts xs qs z → wordTs xs = wordTs ts ∧ sizeTs xs = sizeTs ts := by
    intro ts
    induction ts with
    | nil => intro xs qs q _ h; obtain ⟨rfl, _⟩ := h.inv_nil; exact ⟨rfl, rfl⟩
    | cons t ts ih =>
     intro xs qs q hk h
     obtain ⟨x, xs', p, qs', rfl, rfl, h1, h2⟩ := h.inv
     obtain ⟨e1, e2⟩ := Img.word m (hk t List.mem_cons_self) h1
     obtain ⟨e3, e4⟩ := ih xs' qs' p (fun y hy => hk y (List.mem_cons_of_mem _ hy)) h2
     rw [wordTs_cons, wordTs_cons, sizeTs_cons, sizeTs_cons, e1, e2, e3, e4]
     exact ⟨rfl, rfl⟩
   obtain ⟨e1, e2⟩ := key ts xs qs q hk h5
   exact ⟨e1, by rw [show (TreeD.node (j : Int) 0 xs).kids = xs from rfl, show (TreeD.node (k : Int) 0 ts).kids = ts from rfl, e2]⟩
def imgS (L : List TriD) (s : SymD) (q z : Nat) : SymD := if s.1 = true then s else (false, (numT L (q, s.2.toNat, z) : Int))
theorem Img.tv (hd : L.Nodup) : ∀ (m : Nat) {q z : Nat} {t x : TreeD} {s : SymD}, sizeT t ≤ m → TV M.R s t → Img M W L q t x z → TV ((allPR M W L).map fun x => x.1) (imgS L s q z) x
 | 0, q, z, t, x, s, hm, _, _ => by rw [sizeT_eq] at hm; omega
 | m + 1, q, z, t, x, s, hm, ht, h => by
  rcases h.inv with ⟨c, rfl, rfl, _⟩ | ⟨k, j, i, r, ts, xs, qs, rfl, rfl, h1, h2, h3, _, h5⟩
  ·
   rcases ht.inv with ⟨c', rfl, e⟩ | ⟨k, r, ts, rfl, e, _⟩
   ·
    injection e with _ e _
    subst e
    exact .leaf
   ·
    injection e with e
    omega
  ·
   rcases ht.inv with ⟨c', rfl, e⟩ | ⟨k', r', ts', rfl, e, g1, g2⟩
   ·
    injection e with e
    omega
   ·
    injection e with e1 _ e2
    have e1 : k = k' := by omega
    subst e1
    subst e2
    rw [h1] at g1
    obtain rfl : r = r' := Option.some.inj g1
    have hk : ∀ x ∈ ts, sizeT x ≤ m := fun x hx => by have := sizeT_kid (t := .node (k : Int) 0 ts) (x := x) hx; omega
    have key : ∀ (l : List SymD) (ts xs : List TreeD) (qs : List Nat) (q : Nat), (∀ x ∈ ts, sizeT x ≤ m) → TVL M.R l ts → ImgL M W L q ts xs qs z → TVL ((allPR M W L).map fun x => x.1) (instS L l (q :: qs)) xs := by
     intro l
     induction l with
     | nil =>
      intro ts xs qs q _ g h
      have := g.inv_nil
      subst this
      obtain ⟨rfl, rfl, _⟩ := h.inv_nil
      exact .nil
     | cons s l ih =>
      intro ts xs qs q hk g h
      obtain ⟨t, ts', rfl, g3, g4⟩ := g.inv
      obtain ⟨x, xs', p, qs', rfl, rfl, h1, h2⟩ := h.inv
      exact .cons (Img.tv hd m (hk t List.mem_cons_self) g3 h1) (ih ts' xs' qs' p (fun y hy => hk y (List.mem_cons_of_mem _ hy)) g4 h2)
    have hP : ((allPR M W L).map fun x => x.1)[j]? = some (((i + 1 : Nat) : Int), instS L r.2 (q :: qs)) := by rw [List.getElem?_map, h3]; rfl
    have := TV.node hP (key r.2 ts xs qs q hk g2 h5)
    unfold imgS
    rw [if_neg (by simp)]
    simp only
    rw [numT_at hd h2]
    exact this
mutual
def backT (F : List Int) : TreeD → TreeD
 | .node r c ks => if r < 0 then .node (-1) c [] else .node (F.getD r.toNat 0) 0 (backTs F ks)
def backTs (F : List Int) : List TreeD → List TreeD
 | [] => []
 | t :: ts => backT F t :: backTs F ts
end
theorem backTs_map (F : List Int) : ∀ l : List TreeD, backTs F l = l.map (backT F)
 | [] => by rw [backTs]; rfl
 | t :: l => by rw [backTs, backTs_map F l, List.map_cons]
theorem backT_node (F : List Int) (j : Nat) (xs : List TreeD) : backT F (.node (j : Int) 0 xs) = .node (F.getD j 0) 0 (xs.map (backT F)) := by
 rw [backT, if_neg (by omega), backTs_map, Int.toNat_natCast]
theorem backT_leaf (F : List Int) (c : Int) : backT F (.node (-1) c []) = .node (-1) c [] := by rw [backT, if_pos (by omega)]
theorem Img.back : ∀ (m : Nat) {q z : Nat} {t x : TreeD}, sizeT t ≤ m → Img M W L q t x z → backT ((allPR M W L).map fun x => x.2.1) x = t
 | 0, q, z, t, x, hm, _ => by rw [sizeT_eq] at hm; omega
 | m + 1, q, z, t, x, hm, h => by
  rcases h.inv with ⟨c, rfl, rfl, _⟩ | ⟨k, j, i, r, ts, xs, qs, rfl, rfl, _, _, h3, _, h5⟩
  ·
   exact backT_leaf _ c
  ·
   have hk : ∀ x ∈ ts, sizeT x ≤ m := fun x hx => by have := sizeT_kid (t := .node (k : Int) 0 ts) (x := x) hx; omega
   have key : ∀ (ts xs : List TreeD) (qs : List Nat) (q : Nat), (∀ x ∈ ts, sizeT x ≤ m) → ImgL M W L q ts xs qs z → xs.map (backT ((allPR M W L).map fun x => x.2.1)) = ts := by
    intro ts
    induction ts with
    | nil => intro xs qs q _ h; obtain ⟨rfl, _⟩ := h.inv_nil; rfl
    | cons t ts ih =>
     intro xs qs q hk h
     obtain ⟨x, xs', p, qs', rfl, rfl, h1, h2⟩ := h.inv
     rw [List.map_cons, Img.back m (hk t List.mem_cons_self) h1, ih xs' qs' p (fun y hy => hk y (List.mem_cons_of_mem _ hy)) h2]
   rw [backT_node, key ts xs qs q hk h5, List.getD_eq_getElem?_getD, List.getElem?_map, h3]
   rfl
theorem key_same (hM : M.Ok) (hp : L.Pairwise TLt) (hT : ∀ t ∈ L, M.Tri t) {i k : Nat} {t : TriD} {r : RuleD} {qs : List Nat} (h1 : L[i]? = some t) (h2 : M.R[k]? = some r) (h3 : r.1 = (t.2.1 : Int)) (h4 : qs ∈ instL M.d (inW W) t.2.2 r.2 t.1) (h5 : ∀ x ∈ qs, x < 256) :
    ∃ j : Nat, (allPR M W L)[j]? = some (mkPR L i t k r.2 qs) ∧ lk (kmOf (allPR M W L)) (strOf (keyD t k qs)) = some (.int .i64 (j : Int)) := by
 have hd : L.Nodup := hp.imp fun {a b} h e => by subst e; unfold TLt at h; omega
 have hmem : mkPR L i t k r.2 qs ∈ allPR M W L := allPR_mem.2 (.inr ⟨i, t, k, r, qs, h1, h2, h3, h4, rfl⟩)
 obtain ⟨j, y, g1, g2, g3⟩ := lk_km (allPR M W L) _ hmem
 refine ⟨j, ?_, g1⟩
 have hn12 := hM.n12
 have hN := hM.g.n2
 have hrl := hM.g.rl
 simp only at hN hrl
 have hk : k < 32 := by have := (List.getElem?_eq_some_iff.1 h2).1; omega
 have htt := hT t (List.mem_of_getElem? h1)
 unfold Mkr.Tri at htt
 have hok : BytesOk (keyD t k qs) := keyD_ok (by omega) (by omega) (by omega) (by omega) h5
 have hval := hM.val
 rcases allPR_mem.1 (List.mem_of_getElem? g2) with ⟨p, p1, p2, p3, rfl⟩ | ⟨i', t', k', r', qs', p1, p2, p3, p4, rfl⟩
 ·
  exfalso
  have hin : ((M.d.1.toNat, M.st, p) : TriD) ∈ L := by
   unfold numT at p3
   by_cases h : ((M.d.1.toNat, M.st, p) : TriD) ∈ L
   ·
    exact h
   ·
    rw [if_neg h] at p3; omega
  have ht2 := hT _ hin
  unfold Mkr.Tri at ht2
  simp only at ht2
  have e := strOf_inj (keyD_ok (t := (M.d.1.toNat, M.st, p)) (rule := 255) (st := []) (by simp only; omega) (by simp only; omega) (by simp only; omega) (by omega) (fun x hx => by cases hx)) hok g3
  unfold keyD at e
  simp only [List.cons_append, List.nil_append, List.cons.injEq] at e
  omega
 ·
  have ht2 := hT _ (List.mem_of_getElem? p1)
  unfold Mkr.Tri at ht2
  have hk' : k' < 32 := by have := (List.getElem?_eq_some_iff.1 p2).1; omega
  have hterm : TermsL M.d r'.2 := fun s hs e => by
   obtain ⟨_, _, h3⟩ := hM.rule (List.mem_of_getElem? p2)
   exact (h3 s hs).1 e
  have hq' : ∀ x ∈ qs', x < 256 := by
   have key : ∀ (l : List SymD) (q : Nat) (qs : List Nat), TermsL M.d l → q < M.d.2.2.length → qs ∈ instL M.d (inW W) t'.2.2 l q → ∀ x ∈ qs, x < M.d.2.2.length := by
    intro l
    induction l with
    | nil =>
     intro q qs _ hq h x hx
     unfold instL at h
     split at h
     ·
      rw [List.mem_singleton.1 h] at hx
      rw [List.mem_singleton.1 hx]
      exact hq
     ·
      cases h
    | cons s l ih =>
     intro q qs hl hq h x hx
     unfold instL at h
     obtain ⟨p, hp1, hp2⟩ := List.mem_flatMap.1 h
     obtain ⟨qs2, hp3, rfl⟩ := List.mem_map.1 hp2
     rcases List.mem_cons.1 hx with rfl | hx
     ·
      exact hq
     ·
      exact ih p qs2 (fun s' hs' => hl s' (List.mem_cons_of_mem _ hs')) (stpL_lt hval hq (hl s List.mem_cons_self) hp1) hp3 x hx
   intro x hx
   have := key r'.2 t'.1 qs' hterm (by rw [← hM.n]; exact ht2.1) p4 x hx
   rw [← hM.n] at this
   omega
  have e := strOf_inj (keyD_ok (t := t') (rule := k') (st := qs') (by omega) (by omega) (by omega) (by omega) hq') hok g3
  unfold keyD at e
  simp only [List.cons_append, List.nil_append, List.cons.injEq] at e
  obtain ⟨e1, e2, e3, e4, e5⟩ := e
  have et : t' = t := by
   obtain ⟨a, b, c⟩ := t
   obtain ⟨a', b', c'⟩ := t'
   simp only at e1 e2 e3
   have e1 : a' = a := by omega
   have e2 : b' = b := by omega
   have e3 : c' = c := by omega
   rw [e1, e2, e3]
  subst et
  have ek : k' = k := by omega
  subst ek
  have eq : qs' = qs := natL_inj e5
  subst eq
  rw [p2] at h2
  obtain rfl : r' = r := Option.some.inj h2
  have ei : i' = i := by
   have h6 := numT_at hd p1
   have h7 := numT_at hd h1
   omega
  subst ei
  exact g2
end
end Go.Proofs.Ytbmcoamdfpegnaa
