/- Structs as data: cells one behind the other; symbols, rules, grammars, automata. -/
import Derived.Test.YtgaahpddlohjoaaRep
namespace Go.Proofs.Ytgaahpddlohjoaa
open Go.RowKit

def Rep.prod {α β : Type} (R : Rep α) (Q : Rep β) : Rep (α × β) where
  size := R.size + Q.size
  ok := fun w S cs p => ∃ c1 c2, cs = c1 ++ c2 ∧ R.ok w S c1 p.1 ∧ Q.ok w S c2 p.2
  pos := by have := R.pos; omega
  len := by rintro _ _ _ _ ⟨c1, c2, rfl, h1, h2⟩; rw [List.length_append, R.len h1, Q.len h2]
  keep := by rintro _ _ _ _ _ ⟨c1, c2, rfl, h1, h2⟩ hk; exact ⟨c1, c2, rfl, R.keep h1 hk, Q.keep h2 hk⟩
  more := by rintro _ _ _ _ _ ⟨c1, c2, rfl, h1, h2⟩ hS; exact ⟨c1, c2, rfl, R.more h1 hS, Q.more h2 hS⟩
  fit := by rintro _ _ _ _ ⟨c1, c2, rfl, h1, h2⟩; exact ⟨c1, c2, rfl, R.fit h1, Q.fit h2⟩
  one := by
    rintro _ _ _ _ ⟨c1, c2, rfl, h1, h2⟩ u hu
    rcases List.mem_append.1 hu with h | h
    · exact R.one h1 u h
    · exact Q.one h2 u h
/-- a symbol: whether it is a terminal, its number -/
abbrev SymD := Bool × Int
/-- a rule: its left side, its right side -/
abbrev RuleD := Int × List SymD
/-- a grammar: terminals, nonterminals, the start, the rules -/
abbrev GramD := Int × Int × Int × List RuleD
/-- an automaton: the start, what is accepted, the rows -/
abbrev DfaD := Int × List Int × List (List Int)
abbrev RSym : Rep SymD := Rep.prod Rep.bool Rep.int
abbrev RRule : Rep RuleD := Rep.prod Rep.int (Rep.slice RSym)
abbrev RGram : Rep GramD := Rep.prod Rep.int (Rep.prod Rep.int (Rep.prod Rep.int (Rep.slice RRule)))
abbrev RDfa : Rep DfaD := Rep.prod Rep.int (Rep.prod (Rep.slice Rep.int) (Rep.slice (Rep.slice Rep.int)))
section
variable {w : World} {S : Nat → Prop} {cs : List Value}
theorem RSym.cells {s : SymD} : RSym.ok w S cs s ↔ cs = [.bool s.1, .int .i64 s.2] := by
  constructor
  · rintro ⟨c1, c2, rfl, h1, h2⟩
    rw [show c1 = _ from h1, show c2 = _ from h2]; rfl
  · rintro rfl
    exact ⟨[_], [_], rfl, rfl, rfl⟩
theorem RRule.cells {r : RuleD} : RRule.ok w S cs r ↔ ∃ A n c, cs = [.int .i64 r.1, .slice A n c] ∧ Sl RSym w S A n c r.2 := by
  constructor
  · rintro ⟨c1, c2, rfl, h1, A, n, c, rfl, h2⟩
    rw [show c1 = _ from h1]
    exact ⟨A, n, c, rfl, h2⟩
  · rintro ⟨A, n, c, rfl, h⟩
    exact ⟨[_], [_], rfl, rfl, A, n, c, rfl, h⟩
theorem RGram.cells {g : GramD} : RGram.ok w S cs g ↔ ∃ A n c, cs = [.int .i64 g.1, .int .i64 g.2.1, .int .i64 g.2.2.1, .slice A n c] ∧ Sl RRule w S A n c g.2.2.2 := by
  constructor
  · rintro ⟨c1, c2, rfl, h1, c3, c4, rfl, h3, c5, c6, rfl, h5, A, n, c, rfl, h⟩
    rw [show c1 = _ from h1, show c3 = _ from h3, show c5 = _ from h5]
    exact ⟨A, n, c, rfl, h⟩
  · rintro ⟨A, n, c, rfl, h⟩
    exact ⟨[_], _, rfl, rfl, [_], _, rfl, rfl, [_], [_], rfl, rfl, A, n, c, rfl, h⟩
theorem RDfa.cells {d : DfaD} : RDfa.ok w S cs d ↔ ∃ A n c A' n' c', cs = [.int .i64 d.1, .slice A n c, .slice A' n' c'] ∧ Sl Rep.int w S A n c d.2.1 ∧ Sl (Rep.slice Rep.int) w S A' n' c' d.2.2 := by
  constructor
  · rintro ⟨c1, c2, rfl, h1, c3, c4, rfl, ⟨A, n, c, rfl, h⟩, A', n', c', rfl, h'⟩
    rw [show c1 = _ from h1]
    exact ⟨A, n, c, A', n', c', rfl, h, h'⟩
  · rintro ⟨A, n, c, A', n', c', rfl, h, h'⟩
    exact ⟨[_], _, rfl, rfl, [_], [_], rfl, ⟨A, n, c, rfl, h⟩, A', n', c', rfl, h'⟩
end
/-- the k-th element of a slice whose elements are two cells -/
theorem Sl.at2 {α : Type} {R : Rep α} {w : World} {S : Nat → Prop} {A : Option Addr} {n c : Nat} {l : List α} (h : Sl R w S A n c l) (h2 : R.size = 2) {k : Nat} (hk : k < n) :
    ∃ (b off : Nat) (u v : Value) (a : α), A = some ⟨b, off, none⟩ ∧ S b ∧ l[k]? = some a ∧ R.ok w S [u, v] a ∧ w.cell? ⟨b, off + k * 2, none⟩ = some u ∧ w.cell? ⟨b, off + (k * 2 + 1), none⟩ = some v := by
  obtain ⟨xs, e1, e2, h3, h4⟩ := h
  subst e1
  have hg := h4.get hk
  have hl := h4.len
  rw [h2] at hg hl h3
  obtain ⟨b, off, e, hS, hc⟩ := h3.2 (by omega)
  have i1 : k * 2 < xs.length := by omega
  have i2 : k * 2 + 1 < xs.length := by omega
  refine ⟨b, off, xs[k * 2], xs[k * 2 + 1], l[k], e, hS, List.getElem?_eq_getElem hk, ?_, hc _ _ (List.getElem?_eq_getElem i1), hc _ _ (List.getElem?_eq_getElem i2)⟩
  rw [List.drop_eq_getElem_cons i1, List.drop_eq_getElem_cons i2] at hg
  exact hg
end Go.Proofs.Ytgaahpddlohjoaa
