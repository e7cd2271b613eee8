/- MkNeedP -/
import Derived.Test.YtbmcoamdfpegnaaMt16
namespace Go.Proofs.Ytbmcoamdfpegnaa
open Go.RowKit Go.Maps
def NAt (M : Mkr) (W : List TriD) (t : TriD) (k i q p : Nat) (x : TriD) : Prop := ∃ (r : RuleD) (c : Int), M.R[k]? = some r ∧ r.1 = (t.2.1 : Int) ∧ r.2[i]? = some (false, c) ∧ x = (q, c.toNat, p) ∧ RchW M.d (inW W) (r.2.take i) t.1 q ∧ p ∈ stpL M.d (inW W) (false, c) q ∧ RchW M.d (inW W) (r.2.drop (i + 1)) p t.2.2
def NInv (M : Mkr) (W : List TriD) (t : TriD) (L : List TriD) (k i q : Nat) (ps : List Nat) : Prop := ∀ x, x ∈ L ↔ ∃ k' i' q' p, NAt M W t k' i' q' p x ∧ (k' < k ∨ (k' = k ∧ (i' < i ∨ (i' = i ∧ (q' < q ∨ (q' = q ∧ p ∈ ps))))))
def insT (L : List TriD) (t : TriD) : List TriD := if t ∈ L then L else L ++ [t]
theorem mem_insT {L : List TriD} {t x : TriD} : x ∈ insT L t ↔ x ∈ L ∨ x = t := by
 unfold insT
 by_cases h : t ∈ L
 ·
  rw [if_pos h]
  exact ⟨.inl, fun h1 => h1.elim id fun e => e ▸ h⟩
 ·
  rw [if_neg h, List.mem_append, List.mem_singleton]
theorem insT_nodup {L : List TriD} (hd : L.Nodup) (t : TriD) : (insT L t).Nodup := by
 unfold insT
 by_cases h : t ∈ L
 ·
  rw [if_pos h]; exact hd
 ·
  rw [if_neg h]
  exact List.nodup_append.2 ⟨hd, by simp, fun x hx y hy e => h (by rw [← List.mem_singleton.1 hy, ← e]; exact hx)⟩
theorem putL_same {κ α : Type} [DecidableEq κ] {x : κ} {v : α} : ∀ {l : List (κ × α)}, (x, v) ∈ l → (l.map Prod.fst).Nodup → putL l x v = l
 | [], h, _ => by cases h
 | p :: l, h, hd => by
  unfold putL
  rw [List.map_cons, List.nodup_cons] at hd
  rcases List.mem_cons.1 h with e | e
  ·
   subst e
   rw [if_pos rfl]
  ·
   rw [if_neg (fun e2 => hd.1 (by rw [e2]; exact List.mem_map.2 ⟨_, e, rfl⟩)), putL_same e hd.2]
theorem putL_ins {L : List TriD} (hd : L.Nodup) (t : TriD) : putL (L.map fun t => (triZ t, Value.bool true)) (triZ t) (.bool true) = (insT L t).map fun t => (triZ t, Value.bool true) := by
 unfold insT
 by_cases h : t ∈ L
 ·
  rw [if_pos h]
  refine putL_same (List.mem_map.2 ⟨t, h, rfl⟩) ?_
  rw [List.map_map]
  exact hd.map _ fun a b hab e => hab (triZ_inj e)
 ·
  rw [if_neg h, putL_tri h]
section
variable {M : Mkr} {W : List TriD} {t : TriD} {L : List TriD} {k i q : Nat} {ps : List Nat}
theorem NInv.zero : NInv M W t [] 0 0 0 [] := fun x => by
 refine ⟨fun h => by simp at h, ?_⟩
 rintro ⟨k', i', q', p, _, h⟩
 rcases h with h | ⟨_, h | ⟨_, h | ⟨_, h⟩⟩⟩
 ·
  omega
 ·
  omega
 ·
  omega
 ·
  cases h
theorem NInv.add (h : NInv M W t L k i q ps) {p : Nat} {x : TriD} (hx : NAt M W t k i q p x) : NInv M W t (insT L x) k i q (ps ++ [p]) := fun y => by
 rw [mem_insT, h y]
 constructor
 ·
  rintro (⟨k', i', q', p', h1, h2⟩ | rfl)
  ·
   refine ⟨k', i', q', p', h1, ?_⟩
   rcases h2 with h2 | ⟨e1, h2 | ⟨e2, h2 | ⟨e3, h2⟩⟩⟩
   ·
    exact .inl h2
   ·
    exact .inr ⟨e1, .inl h2⟩
   ·
    exact .inr ⟨e1, .inr ⟨e2, .inl h2⟩⟩
   ·
    exact .inr ⟨e1, .inr ⟨e2, .inr ⟨e3, List.mem_append_left _ h2⟩⟩⟩
  ·
   exact ⟨k, i, q, p, hx, .inr ⟨rfl, .inr ⟨rfl, .inr ⟨rfl, by simp⟩⟩⟩⟩
 ·
  rintro ⟨k', i', q', p', h1, h2⟩
  rcases h2 with h2 | ⟨e1, h2 | ⟨e2, h2 | ⟨e3, h2⟩⟩⟩
  ·
   exact .inl ⟨k', i', q', p', h1, .inl h2⟩
  ·
   exact .inl ⟨k', i', q', p', h1, .inr ⟨e1, .inl h2⟩⟩
  ·
   exact .inl ⟨k', i', q', p', h1, .inr ⟨e1, .inr ⟨e2, .inl h2⟩⟩⟩
  ·
   rcases List.mem_append.1 h2 with h2 | h2
   ·
    exact .inl ⟨k', i', q', p', h1, .inr ⟨e1, .inr ⟨e2, .inr ⟨e3, h2⟩⟩⟩⟩
   ·
    refine .inr ?_
    subst e1; subst e2; subst e3
    obtain rfl := List.mem_singleton.1 h2
    obtain ⟨r, c, a1, _, a3, a4, _⟩ := h1
    obtain ⟨r', c', b1, _, b3, b4, _⟩ := hx
    rw [a1] at b1
    injection b1 with b1
    subst b1
    rw [a3] at b3
    injection b3 with b3
    injection b3 with _ b3
    rw [a4, b4, b3]
theorem NInv.pass (h : NInv M W t L k i q ps) {p : Nat} (hx : ∀ x, ¬ NAt M W t k i q p x) : NInv M W t L k i q (ps ++ [p]) := fun y => by
 rw [h y]
 constructor
 ·
  rintro ⟨k', i', q', p', h1, h2⟩
  refine ⟨k', i', q', p', h1, ?_⟩
  rcases h2 with h2 | ⟨e1, h2 | ⟨e2, h2 | ⟨e3, h2⟩⟩⟩
  ·
   exact .inl h2
  ·
   exact .inr ⟨e1, .inl h2⟩
  ·
   exact .inr ⟨e1, .inr ⟨e2, .inl h2⟩⟩
  ·
   exact .inr ⟨e1, .inr ⟨e2, .inr ⟨e3, List.mem_append_left _ h2⟩⟩⟩
 ·
  rintro ⟨k', i', q', p', h1, h2⟩
  rcases h2 with h2 | ⟨e1, h2 | ⟨e2, h2 | ⟨e3, h2⟩⟩⟩
  ·
   exact ⟨k', i', q', p', h1, .inl h2⟩
  ·
   exact ⟨k', i', q', p', h1, .inr ⟨e1, .inl h2⟩⟩
  ·
   exact ⟨k', i', q', p', h1, .inr ⟨e1, .inr ⟨e2, .inl h2⟩⟩⟩
  ·
   rcases List.mem_append.1 h2 with h2 | h2
   ·
    exact ⟨k', i', q', p', h1, .inr ⟨e1, .inr ⟨e2, .inr ⟨e3, h2⟩⟩⟩⟩
   ·
    subst e1; subst e2; subst e3
    obtain rfl := List.mem_singleton.1 h2
    exact absurd h1 (hx y)
theorem NInv.nextQ (h : NInv M W t L k i q ps) (hp : ∀ x p, NAt M W t k i q p x → p ∈ ps) : NInv M W t L k i (q + 1) [] := fun y => by
 rw [h y]
 constructor
 ·
  rintro ⟨k', i', q', p', h1, h2⟩
  refine ⟨k', i', q', p', h1, ?_⟩
  rcases h2 with h2 | ⟨e1, h2 | ⟨e2, h2 | ⟨e3, h2⟩⟩⟩
  ·
   exact .inl h2
  ·
   exact .inr ⟨e1, .inl h2⟩
  ·
   exact .inr ⟨e1, .inr ⟨e2, .inl (by omega)⟩⟩
  ·
   exact .inr ⟨e1, .inr ⟨e2, .inl (by omega)⟩⟩
 ·
  rintro ⟨k', i', q', p', h1, h2⟩
  refine ⟨k', i', q', p', h1, ?_⟩
  rcases h2 with h2 | ⟨e1, h2 | ⟨e2, h2 | ⟨e3, h2⟩⟩⟩
  ·
   exact .inl h2
  ·
   exact .inr ⟨e1, .inl h2⟩
  ·
   by_cases e : q' = q
   ·
    subst e; subst e1; subst e2
    exact .inr ⟨rfl, .inr ⟨rfl, .inr ⟨rfl, hp _ _ h1⟩⟩⟩
   ·
    exact .inr ⟨e1, .inr ⟨e2, .inl (by omega)⟩⟩
  ·
   cases h2
theorem NInv.nextI (h : NInv M W t L k i q []) (hq : ∀ x q' p, NAt M W t k i q' p x → q' < q) : NInv M W t L k (i + 1) 0 [] := fun y => by
 rw [h y]
 constructor
 ·
  rintro ⟨k', i', q', p', h1, h2⟩
  refine ⟨k', i', q', p', h1, ?_⟩
  rcases h2 with h2 | ⟨e1, h2 | ⟨e2, h2 | ⟨e3, h2⟩⟩⟩
  ·
   exact .inl h2
  ·
   exact .inr ⟨e1, .inl (by omega)⟩
  ·
   exact .inr ⟨e1, .inl (by omega)⟩
  ·
   cases h2
 ·
  rintro ⟨k', i', q', p', h1, h2⟩
  refine ⟨k', i', q', p', h1, ?_⟩
  rcases h2 with h2 | ⟨e1, h2 | ⟨e2, h2 | ⟨e3, h2⟩⟩⟩
  ·
   exact .inl h2
  ·
   by_cases e : i' = i
   ·
    subst e; subst e1
    exact .inr ⟨rfl, .inr ⟨rfl, .inl (hq _ _ _ h1)⟩⟩
   ·
    exact .inr ⟨e1, .inl (by omega)⟩
  ·
   omega
  ·
   cases h2
theorem NInv.nextK (h : NInv M W t L k i 0 []) (hi : ∀ x i' q' p, NAt M W t k i' q' p x → i' < i) : NInv M W t L (k + 1) 0 0 [] := fun y => by
 rw [h y]
 constructor
 ·
  rintro ⟨k', i', q', p', h1, h2⟩
  refine ⟨k', i', q', p', h1, ?_⟩
  rcases h2 with h2 | ⟨e1, h2 | ⟨e2, h2 | ⟨e3, h2⟩⟩⟩
  ·
   exact .inl (by omega)
  ·
   exact .inl (by omega)
  ·
   omega
  ·
   cases h2
 ·
  rintro ⟨k', i', q', p', h1, h2⟩
  refine ⟨k', i', q', p', h1, ?_⟩
  rcases h2 with h2 | ⟨e1, h2 | ⟨e2, h2 | ⟨e3, h2⟩⟩⟩
  ·
   by_cases e : k' = k
   ·
    subst e
    exact .inr ⟨rfl, .inl (hi _ _ _ _ h1)⟩
   ·
    exact .inl (by omega)
  ·
   omega
  ·
   omega
  ·
   cases h2
theorem NAt.eq {p : Nat} {x : TriD} {r : RuleD} {c : Int} (h : NAt M W t k i q p x) (hr : M.R[k]? = some r) (hc : r.2[i]? = some (false, c)) : x = (q, c.toNat, p) := by
 obtain ⟨r', c', a1, _, a3, a4, _⟩ := h
 rw [hr] at a1
 injection a1 with a1
 subst a1
 rw [hc] at a3
 injection a3 with a3
 injection a3 with _ a3
 rw [a4, a3]
theorem NAt.need {p : Nat} {x : TriD} (h : NAt M W t k i q p x) : NeedP M.d M.R (inW W) t x := by
 obtain ⟨r, c, h1, h2, h3, rfl, h4, h5, h6⟩ := h
 refine ⟨r, List.mem_of_getElem? h1, h2, r.2.take i, c, r.2.drop (i + 1), ?_, h4, rfl, h5, h6⟩
 obtain ⟨hi, e⟩ := List.getElem?_eq_some_iff.1 h3
 rw [← e, ← List.drop_eq_getElem_cons hi, List.take_append_drop]
theorem NInv.all (h : NInv M W t L M.R.length 0 0 []) (x : TriD) : x ∈ L ↔ NeedP M.d M.R (inW W) t x := by
 rw [h x]
 constructor
 ·
  rintro ⟨k', i', q', p', h1, _⟩
  exact h1.need
 ·
  rintro ⟨r, h1, h2, l, c, m, h3, h4, h5, h6, h7⟩
  obtain ⟨k, hk⟩ := List.getElem?_of_mem h1
  refine ⟨k, l.length, x.1, x.2.2, ⟨r, c, hk, h2, ?_, ?_, ?_, h6, ?_⟩, .inl (List.getElem?_eq_some_iff.1 hk).1⟩
  ·
   rw [h3]; simp
  ·
   obtain ⟨a, b, e⟩ := x
   simp only at h5
   rw [h5]
  ·
   rw [h3]; simpa using h4
  ·
   rw [h3]; simpa using h7
theorem NInv.rng (hM : M.Ok) (ht : t.1 < M.n) (h : NInv M W t L k i q ps) : ∀ x ∈ L, M.Tri x := fun x hx => by
 obtain ⟨k', i', q', p', ⟨r, c, h1, h2, h3, rfl, h4, h5, h6⟩, _⟩ := (h x).1 hx
 have hr := (hM.rule (List.mem_of_getElem? h1)).2.2
 have hc := (hr _ (List.mem_of_getElem? h3)).2 rfl
 have hq := h4.lt hM.val (fun s hs => (hr s (List.mem_of_mem_take hs)).1) (by rw [← hM.n]; exact ht)
 rw [← hM.n] at hq
 exact ⟨hq, by show c.toNat < M.N; simp only at hc; omega, hM.syms_lt hr (List.mem_of_getElem? h3) hq h5⟩
theorem NInv.few (hM : M.Ok) (ht : t.1 < M.n) (h : NInv M W t L k i q ps) (hd : L.Nodup) : L.length ≤ 1440 :=
 tri_few (n := M.n) (N := M.N) hM.n12 (by have := hM.g.n2; simp only at this; omega) hd (h.rng hM ht)
end
theorem cutM {α : Type} {R : Rep α} {P : Program} {T E s bytes : Nat} {z : Value} (hT : SlType P T E s bytes z) (hs : R.size = s) {w : World} {S : Nat → Prop} {A : Option Addr} {n c : Nat} {l : List α} (h : Sl R w S A n c l) (k : Nat) (hk : k ≤ n) :
    ∃ A', (∀ u, (Instr.slice T (.slice A n c) (some (.int .i64 (k : Int))) none none).run P u = .ok (.slice A' (n - k) (c - k)) u) ∧ Sl R w S A' (n - k) (c - k) (l.drop k) := by
 subst hs
 obtain ⟨xs, h1, h2, h3, h4⟩ := h
 obtain ⟨A', hrun, hr⟩ := hT.cutl (c := c) h3 (k : Int) (by omega) (by omega) h2
 rw [Int.toNat_natCast] at hr
 refine ⟨A', fun u => by rw [hrun u, Int.toNat_natCast], xs.drop (k * R.size), by rw [List.length_drop]; omega, by omega, hr, h4.drop⟩
end Go.Proofs.Ytbmcoamdfpegnaa
