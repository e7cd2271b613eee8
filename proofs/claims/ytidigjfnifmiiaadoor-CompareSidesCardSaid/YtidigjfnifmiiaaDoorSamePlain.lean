/- CompareSame: plain laws. -/
import Derived.Test.YtidigjfnifmiiaaDoorLeastWPlain
import Derived.Test.YtidigjfnifmiiaaDoorPlainG
import Derived.Test.YtidigjfnifmiiaaDoorSlRev
import Derived.Test.YtidigjfnifmiiaaDoorGBase
namespace Go.Proofs.YtidigjfnifmiiaaDoor
open Go.RowKit

theorem accD_empty (st : Int) (w : List Int) : accD [] st w = false := by
  rw [Bool.eq_false_iff, Ne, accD_iff]
  intro h
  cases h with
  | non h1 _ _ => cases h1
theorem plain_no : accD plainR 0 [] = false := by
  rw [Bool.eq_false_iff, Ne, accD_iff]
  intro h
  have := plain_der1 h.der
  simp at this
theorem plain_yes : accD plainR 0 [0] = true := by
  rw [accD_iff]
  exact .non (r := [(true, 0)]) (by simp [plainR]) (.term rfl .nil) .nil
theorem plain_leastW : leastW 2 2 plainR 0 [] 0 = some [0] := by
  unfold leastW
  have e : meaB 2 2 [[]] = 7 := by decide
  rw [e]
  show bfs 2 2 _ 8 [[]] = some [0]
  rw [bfs, plain_no, accD_empty, if_neg (by simp)]
  show bfs 2 2 _ 7 ([] ++ (if ([] : List Int).length < 2 then kidsW 2 [] else [])) = some [0]
  rw [if_pos (by decide), List.nil_append]
  show bfs 2 2 _ 7 ([(0 : Int)] :: [[(1 : Int)]]) = some [0]
  rw [bfs, plain_yes, accD_empty, if_pos (by simp)]
theorem same_none {T n : Nat} {R R' : List RuleD} (h : ∀ r, r ∈ R ↔ r ∈ R') (st : Int) : leastW T n R st R' st = none := by
  unfold leastW
  exact bfs_none (fun w => by rw [accD_perm h]; simp) _ _
theorem GValid.turn {g : GramD} (h : GValid g) : GValid (g.1, g.2.1, g.2.2.1, g.2.2.2.reverse) :=
  ⟨h.t1, h.t2, h.n1, h.n2, h.st, by simpa using h.rl, fun r hr => h.rules r (by simpa using hr), List.pairwise_reverse.2 (h.nd.imp fun hne e => hne e.symm)⟩
theorem empty_valid : GValid (2, 1, 0, []) := ⟨by decide, by decide, by decide, by decide, ⟨by decide, by decide⟩, by decide, (fun r hr => by cases hr), by decide⟩
theorem Cells.of_get {α : Type} {R : Rep α} {w : World} {S : Nat → Prop} : ∀ {l : List α} {xs : List Value}, xs.length = l.length * R.size → (∀ (k : Nat) (x : α), l[k]? = some x → R.ok w S ((xs.drop (k * R.size)).take R.size) x) → Cells R w S xs l
  | [], xs, hl, _ => by
    rw [List.length_nil, Nat.zero_mul] at hl
    exact List.eq_nil_of_length_eq_zero hl
  | x :: l, xs, hl, h => by
    have h0 := h 0 x rfl
    rw [Nat.zero_mul, List.drop_zero] at h0
    refine ⟨xs.take R.size, xs.drop R.size, (List.take_append_drop _ _).symm, h0, Cells.of_get ?_ fun k y hk => ?_⟩
    · rw [List.length_drop, hl, List.length_cons, Nat.add_mul]; omega
    · have := h (k + 1) y (by simpa using hk)
      rw [List.drop_drop, show R.size + k * R.size = (k + 1) * R.size by rw [Nat.add_mul]; omega]
      exact this
/-- pairs that read as rules -/
theorem pairs_sl {w : World} {g n c sz : Nat} {E : TypeId} {p : Nat → RuleC} {S : Nat → Prop} {l : List RuleD} (h : Pairs w g n E sz (fun k => encR (p k))) (hl : l.length = n) (hc : n ≤ c) (hS : S g)
    (hp : ∀ (k : Nat) (r : RuleD), l[k]? = some r → (p k).1 = r.1 ∧ Sl RSym w S (p k).2.1 (p k).2.2.1 (p k).2.2.2 r.2) : Sl RRule w S (some ⟨g, 0, none⟩) n c l := by
  obtain ⟨cur, h1, h2, h3⟩ := h
  have hsz : n * 2 ≤ cur.toList.length := by
    rcases Nat.eq_zero_or_pos n with h0 | h0
    · omega
    · have := (Array.getElem?_eq_some_iff.1 (h3 (n - 1) (by omega)).2).1
      rw [Array.length_toList]
      omega
  refine ⟨cur.toList.take (n * 2), hl.symm, hc, ⟨by rw [List.length_take]; show min (n * 2) _ = n * 2; omega, fun _ => ⟨g, 0, rfl, hS, fun j v hv => ?_⟩⟩, Cells.of_get (by rw [List.length_take, hl]; show min (n * 2) _ = n * 2; omega) fun k r hk => ?_⟩
  · rw [List.getElem?_take] at hv
    split at hv
    · rw [Nat.zero_add, cell_of_row _ _ _ _ _ _ h1, ← Array.getElem?_toList]
      exact hv
    · cases hv
  · have hkn : k < n := by have := (List.getElem?_eq_some_iff.1 hk).1; omega
    obtain ⟨h4, h5⟩ := h3 k hkn
    obtain ⟨e1, e2⟩ := hp k r hk
    rw [← Array.getElem?_toList] at h4 h5
    obtain ⟨l4, h4⟩ := List.getElem?_eq_some_iff.1 h4
    obtain ⟨l5, h5⟩ := List.getElem?_eq_some_iff.1 h5
    refine RRule.cells.2 ⟨(p k).2.1, (p k).2.2.1, (p k).2.2.2, ?_, e2⟩
    show ((cur.toList.take (n * 2)).drop (k * 2)).take 2 = _
    rw [List.drop_take, List.take_take, Nat.min_eq_left (by omega), List.drop_eq_getElem_cons l4, List.drop_eq_getElem_cons l5, h4, h5, ← e1]
    rfl
end Go.Proofs.YtidigjfnifmiiaaDoor
