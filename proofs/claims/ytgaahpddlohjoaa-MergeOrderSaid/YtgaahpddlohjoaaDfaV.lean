/- The automaton that parlmake.Dfa makes is well made; its rows read as lists. -/
import Derived.Test.YtgaahpddlohjoaaMakeDfa
import Derived.Test.YtgaahpddlohjoaaDfaCheck
namespace Go.Proofs.Ytgaahpddlohjoaa
open Go.RowKit

theorem dfaOf_valid (l : List Int) : Valid (dfaOf l) := by
  obtain ⟨n1, n2, _⟩ := dfaN_range l
  obtain ⟨c1, c2, _⟩ := dfaC_range l
  have hc : cols (dfaOf l) = dfaC l := by
    have : (dfaOf l).2.2[0]? = some (dfaRow l 0) := by
      show ((List.range (dfaN l)).map (dfaRow l))[0]? = _
      rw [List.getElem?_map, List.getElem?_range (by omega)]; rfl
    unfold cols
    rw [this]
    simp [dfaRow]
  have hl : (dfaOf l).2.2.length = dfaN l := by simp [dfaOf]
  refine ⟨by omega, by omega, by simp [dfaOf], by omega, by omega, ?_, ?_, ?_⟩
  · intro r hr
    obtain ⟨s, _, rfl⟩ := List.mem_map.1 (show r ∈ (List.range (dfaN l)).map (dfaRow l) from hr)
    refine ⟨by rw [hc]; simp [dfaRow], fun x hx => ?_⟩
    obtain ⟨j, _, rfl⟩ := List.mem_map.1 (show x ∈ (List.range (dfaC l)).map (dfaCell l s) from hx)
    have := nv_range l (3 + s * (dfaC l + 1) + 1 + j) ((dfaN l : Int) + 1) (by omega)
    rw [hl]
    unfold dfaCell
    omega
  · have := nv_range l 2 (dfaN l) (by omega)
    rw [hl]
    exact this
  · intro x hx
    obtain ⟨j, _, rfl⟩ := List.mem_map.1 (show x ∈ (List.range (dfaN l)).map (dfaAcc l) from hx)
    have := nv_range l (3 + j * (dfaC l + 1)) 3 (by omega)
    unfold dfaAcc
    omega
theorem DfaB.sl {w : World} {base Bd : Nat} {start : Int} {acc : List Int} {rows : List (List Int)} {A N : Option Addr} {nA cA n cN : Nat} {xs : List Value} (h : DfaB w base Bd start acc rows (.slice A nA cA) (.slice N n cN) xs) :
    Sl Rep.int w (fun b => base ≤ b) A nA cA acc ∧ Sl RI w (fun b => base ≤ b) N n cN rows := by
  obtain ⟨A4, n4, c4, A5, n5, c5, e, h1, h2⟩ := RDfa.cells.1 h.rep
  simp only [List.cons.injEq, Value.slice.injEq, and_true] at e
  obtain ⟨_, ⟨rfl, rfl, rfl⟩, ⟨rfl, rfl, rfl⟩⟩ := e
  exact ⟨h1, h2⟩
end Go.Proofs.Ytgaahpddlohjoaa
