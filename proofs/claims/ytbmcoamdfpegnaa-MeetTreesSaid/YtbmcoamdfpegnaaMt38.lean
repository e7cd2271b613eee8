/- TreeB MkLawP MkLawQ SzP MaP -/
import Derived.Test.YtbmcoamdfpegnaaMt04
import Derived.Test.YtbmcoamdfpegnaaMt05
import Derived.Test.YtbmcoamdfpegnaaMt10
import Derived.Test.YtbmcoamdfpegnaaMt14
import Derived.Test.YtbmcoamdfpegnaaMt34
namespace Go.Proofs.Ytbmcoamdfpegnaa
open Go.RowKit
theorem tTreesB : SlType Try.prog 53 55 3 40 (.agg #[.int .i64 0, .int .i64 0, .slice none 0 0]) := ⟨by kernel_rfl, by kernel_rfl, by kernel_rfl, rfl, by decide⟩
theorem tree_cells' {w : World} {B : Nat} {a b c : Value} {T : TypeId} (h : w.heap[B]? = some (.cells #[a, b, c] T (0, 0))) :
    w.cell? ⟨B, 0, none⟩ = some a ∧ w.cell? ⟨B, 1, none⟩ = some b ∧ w.cell? ⟨B, 2, none⟩ = some c ∧ w.frozen? ⟨B, 0, none⟩ = false ∧ w.frozen? ⟨B, 1, none⟩ = false ∧ w.frozen? ⟨B, 2, none⟩ = false := by
 simp [World.cell?, World.frozen?, h]
theorem OwnL.formK {α : Type} {R : Rep α} {w : World} {S : Nat → Prop} {base : Nat} {E : TypeId} {v : Value} {l : List α} (h : OwnL R w S base E v l) {a : Nat} (ha : l.length = a) : ∃ A c, v = .slice A a c ∧ a ≤ c := by
 obtain ⟨A, c, e, h1, _⟩ := h.form
 subst ha
 exact ⟨A, c, e, h1⟩
end Go.Proofs.Ytbmcoamdfpegnaa
namespace Go.Proofs.Ytbmcoamdfpegnaa
section
variable {P : List RuleD} {n : Nat}
def Fit (n : Nat) (P : List RuleD) : Prop := ∀ r ∈ P, (0 ≤ r.1 ∧ r.1 < (n : Int)) ∧ ∀ s ∈ r.2, s.1 = false → 0 ≤ s.2 ∧ s.2 < (n : Int)
end
end Go.Proofs.Ytbmcoamdfpegnaa
namespace Go.Proofs.Ytbmcoamdfpegnaa
section
variable {d : DfaD} {R : List RuleD} {V : TriD → Bool} {L : List TriD} {st : Nat}
theorem numT_le (t : TriD) : numT L t ≤ L.length := by
 unfold numT
 split
 ·
  rename_i h
  have := List.idxOf_lt_length_of_mem h
  omega
 ·
  omega
theorem instS_fit : ∀ {l : List SymD} {qs : List Nat} {s : SymD}, s ∈ instS L l qs → s.1 = false → 0 ≤ s.2 ∧ s.2 < ((L.length + 1 : Nat) : Int)
 | [], qs, s, h, _ => by cases qs <;> simp [instS] at h
 | a :: l, [], s, h, _ => by simp [instS] at h
 | a :: l, [q], s, h, _ => by simp [instS] at h
 | a :: l, q :: p :: qs, s, h, hn => by
  have h : s ∈ (if a.1 = true then a else (false, (numT L (q, a.2.toNat, p) : Int))) :: instS L l (p :: qs) := h
  rcases List.mem_cons.1 h with h | h
  ·
   split at h
   ·
    rename_i e
    rw [h, e] at hn
    cases hn
   ·
    rw [h]
    have := numT_le (L := L) (q, a.2.toNat, p)
    simp only
    omega
  ·
   exact instS_fit h hn
theorem instS_len : ∀ {l : List SymD} {qs : List Nat}, qs.length = l.length + 1 → (instS L l qs).length = l.length
 | [], [], h => by simp at h
 | [], [_], _ => rfl
 | [], _ :: _ :: _, h => by simp at h
 | a :: l, [], h => by simp at h
 | a :: l, [q], h => by simp at h
 | a :: l, q :: p :: qs, h => by
  show ((if a.1 = true then a else (false, (numT L (q, a.2.toNat, p) : Int))) :: instS L l (p :: qs)).length = _
  rw [List.length_cons, instS_len (l := l) (qs := p :: qs) (by simpa using h), List.length_cons]
end
section
variable {M : Mkr} {W L : List TriD}
theorem allPR_mem {x : PR} : x ∈ allPR M W L ↔ (∃ p : Nat, p < M.n ∧ 0 ≤ dat M.d (p : Int) ∧ 0 < numT L (M.d.1.toNat, M.st, p) ∧ x = ((0, [(false, (numT L (M.d.1.toNat, M.st, p) : Int))]), -1, keyD (M.d.1.toNat, M.st, p) 255 [])) ∨
    ∃ (i : Nat) (t : TriD) (k : Nat) (r : RuleD) (qs : List Nat), L[i]? = some t ∧ M.R[k]? = some r ∧ r.1 = (t.2.1 : Int) ∧ qs ∈ instL M.d (inW W) t.2.2 r.2 t.1 ∧ x = mkPR L i t k r.2 qs := by
 unfold allPR
 rw [List.mem_append]
 refine or_congr ?_ ?_
 ·
  unfold startPR
  rw [List.mem_flatMap]
  constructor
  ·
   rintro ⟨p, hp, h⟩
   rw [List.mem_range] at hp
   split at h
   ·
    rename_i hc
    exact ⟨p, hp, hc.1, hc.2, List.mem_singleton.1 h⟩
   ·
    cases h
  ·
   rintro ⟨p, hp, h1, h2, h3⟩
   refine ⟨p, List.mem_range.2 hp, ?_⟩
   rw [if_pos ⟨h1, h2⟩]
   exact List.mem_singleton.2 h3
 ·
  unfold restPR
  rw [show L.zipIdx.take L.length = L.zipIdx from List.take_of_length_le (by simp), List.mem_flatMap]
  constructor
  ·
   rintro ⟨p, hp, h⟩
   unfold tripPR at h
   rw [show M.R.zipIdx.take M.R.length = M.R.zipIdx from List.take_of_length_le (by simp), List.mem_flatMap] at h
   obtain ⟨z, hz, h⟩ := h
   unfold instPR at h
   split at h
   ·
    rename_i hc
    obtain ⟨qs, h1, h2⟩ := List.mem_map.1 h
    exact ⟨p.2, p.1, z.2, z.1, qs, List.mem_zipIdx_iff_getElem?.1 hp, List.mem_zipIdx_iff_getElem?.1 hz, hc, h1, h2.symm⟩
   ·
    cases h
  ·
   rintro ⟨i, t, k, r, qs, h1, h2, h3, h4, h5⟩
   refine ⟨(t, i), List.mem_zipIdx_iff_getElem?.2 h1, ?_⟩
   unfold tripPR
   rw [show M.R.zipIdx.take M.R.length = M.R.zipIdx from List.take_of_length_le (by simp), List.mem_flatMap]
   refine ⟨(r, k), List.mem_zipIdx_iff_getElem?.2 h2, ?_⟩
   unfold instPR
   rw [if_pos h3]
   exact List.mem_map.2 ⟨qs, h4, h5.symm⟩
theorem allPR_fit : Fit (L.length + 1) ((allPR M W L).map fun x => x.1) := by
 intro r' hr
 obtain ⟨x, hx, rfl⟩ := List.mem_map.1 hr
 rcases allPR_mem.1 hx with ⟨p, h1, h2, h3, rfl⟩ | ⟨i, t, k, r, qs, h1, h2, h3, h4, rfl⟩
 ·
  refine ⟨⟨by show (0 : Int) ≤ 0; omega, by dsimp only; omega⟩, fun s hs _ => ?_⟩
  rw [List.mem_singleton.1 hs]
  have := numT_le (L := L) (M.d.1.toNat, M.st, p)
  dsimp only
  omega
 ·
  have hi := (List.getElem?_eq_some_iff.1 h1).1
  exact ⟨⟨by unfold mkPR; dsimp only; omega, by unfold mkPR; dsimp only; omega⟩, fun s hs hn => instS_fit hs hn⟩
end
end Go.Proofs.Ytbmcoamdfpegnaa
namespace Go.Proofs.Ytbmcoamdfpegnaa
def farZ : Int := 1099511627776
section
variable {P : List RuleD} {o : List Int} {N : Nat}
variable {u : List (List Int)} {k j : Nat}
def q0 (P : List RuleD) (N : Nat) : List Int × List Int := (List.replicate N farZ, (List.range P.length).map fun i : Nat => (i : Int))
end
end Go.Proofs.Ytbmcoamdfpegnaa
namespace Go.Proofs.Ytbmcoamdfpegnaa
section
variable {M : Mkr} {W L : List TriD}
theorem instS_term {L : List TriD} : ∀ {l : List SymD} {qs : List Nat} {s : SymD}, s ∈ instS L l qs → s.1 = true → s ∈ l
 | [], qs, s, h, _ => by cases qs <;> simp [instS] at h
 | a :: l, [], s, h, _ => by simp [instS] at h
 | a :: l, [q], s, h, _ => by simp [instS] at h
 | a :: l, q :: p :: qs, s, h, ht => by
  have h : s ∈ (if a.1 = true then a else (false, (numT L (q, a.2.toNat, p) : Int))) :: instS L l (p :: qs) := h
  rcases List.mem_cons.1 h with h | h
  ·
   split at h
   ·
    rw [h]; exact List.mem_cons_self
   ·
    rw [h] at ht; cases ht
  ·
   exact List.mem_cons_of_mem _ (instS_term h ht)
structure LstIn (T N : Nat) (P : List RuleD) : Prop where
 r4 : ∀ r ∈ P, r.2.length ≤ 4
 rn : RulesN N P
 so : ∀ r ∈ P, ∀ s ∈ r.2, SymOk (T : Int) (N : Int) s
theorem all_in (hM : M.Ok) : LstIn M.T (L.length + 1) ((allPR M W L).map fun x => x.1) := by
 have hfit := allPR_fit (M := M) (W := W) (L := L)
 refine ⟨fun r' hr => ?_, fun r hr => ⟨⟨(hfit r hr).1.1, by have := (hfit r hr).1; omega⟩, fun s hs hb => by have := (hfit r hr).2 s hs hb; exact ⟨this.1, by omega⟩⟩, fun r' hr s hs => ?_⟩
 ·
  obtain ⟨x, hx, rfl⟩ := List.mem_map.1 hr
  rcases allPR_mem.1 hx with ⟨p, h1, h2, h3, rfl⟩ | ⟨i, t, k, r, qs, h1, h2, h3, h4, rfl⟩
  ·
   exact (by decide : 1 ≤ 4)
  ·
   obtain ⟨qs', rfl, hq⟩ := instL_mem h4
   show (instS L r.2 (t.1 :: qs')).length ≤ 4
   rw [instS_len (by simp [hq])]
   exact (hM.rule (List.mem_of_getElem? h2)).2.1
 ·
  unfold SymOk
  cases hb : s.1 with
  | false =>
   have := (hfit r' hr).2 s hs hb
   simp only [Bool.false_eq_true, if_false]
   exact this
  | true =>
   simp only [if_true]
   obtain ⟨x, hx, rfl⟩ := List.mem_map.1 hr
   rcases allPR_mem.1 hx with ⟨p, h1, h2, h3, rfl⟩ | ⟨i, t, k, r, qs, h1, h2, h3, h4, rfl⟩
   ·
    rw [List.mem_singleton.1 hs] at hb
    cases hb
   ·
    have h5 := (hM.rule (List.mem_of_getElem? h2)).2.2 s (instS_term hs hb)
    have h6 := h5.1 hb
    rw [hM.cl] at h6
    exact h6
end
end Go.Proofs.Ytbmcoamdfpegnaa
