/- GMapE -/
import Derived.Test.YtbmcoamdfpegnaaMn08
import Derived.WideKeyEntry
namespace Go.Proofs.Ytbmcoamdfpegnaa
open Go.RowKit Go.Maps Go.ChangeMaps
theorem grown_setBlock {w : World} {b : Nat} {es : Array MapEntry} {clock : Nat} {o' : Obj} (h : w.heap[b]? = some (.map es clock)) : w.grownBy (setBlock w b o') (some b) :=
 ⟨rfl, rfl, rfl, by simp [setBlock], fun i _ hi => heap_setBlock_other h _ (fun e => hi (by rw [e]))⟩
section
variable {P : Program} {k : TypeId} {κ : Type} [DecidableEq κ] {K : KeyRep P k κ} {w : World} {b : Nat} {l : List (κ × Value)}
theorem AMap.entry {t e : TypeId} (h : AMap K w b l) (KL : WideMaps.KeyLaw P k) (ht : P.underlying t = some (.map k e)) {z : Value} (hz : ∀ u : World, (zeroValue e).run P u = .ok z u) {x : κ} (hx : K.ok x) (v : Value) (hl : l.length < maxLen) :
    ∃ (v0 : Value) (st : Nat) (w1 : World), (Instr.mapEntry t (.map (some b)) (K.val x)).run P w = .ok (.tuple #[v0, .int .i64 (st : Int)]) w1 ∧ w.grownBy w1 (some b) ∧
     ∀ w2 : World, w2.heap[b]? = w1.heap[b]? → ∃ w3, (Instr.entryStore t (.map (some b)) (.int .i64 (st : Int)) v).run P w2 = .ok () w3 ∧ AMap K w3 b (putL l x v) ∧ w2.grownBy w3 (some b) := by
 obtain ⟨w', hrun, hm, _⟩ := h.put ht hx v hl
 obtain ⟨D, ⟨es, clock, hb, F, hs, hD⟩, _⟩ := h
 obtain ⟨kl, hk⟩ := K.lit x hx
 obtain ⟨v0, st, es1, clock1, h1, _, h2⟩ := WideElems.entry_then_store KL ht hz hb F hk
 refine ⟨v0, st, _, h1, grown_setBlock hb, fun w2 hw2 => ?_⟩
 rw [heap_setBlock_same hb] at hw2
 obtain ⟨es', clock', h3, h4⟩ := h2 w2 v hw2
 rw [hrun] at h4
 injection h4 with _ h4
 subst h4
 exact ⟨_, h3, hm.block (by rw [heap_setBlock_same hw2, heap_setBlock_same hb]), grown_setBlock hw2⟩
end
end Go.Proofs.Ytbmcoamdfpegnaa
