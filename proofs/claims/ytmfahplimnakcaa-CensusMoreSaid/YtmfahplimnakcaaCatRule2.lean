/- slices.Concat of two lists of rules, as data. -/
import Derived.Test.YtmfahplimnakcaaCatRule
import Derived.Test.YtmfahplimnakcaaMakeGram
namespace Go.Proofs.Ytmfahplimnakcaa
open Go.RowKit

theorem concatRule2 (u : World) (S0 S : Nat → Prop) (H : Nat) (A A' : Option Addr) (i c m c' : Nat) (l l' : List RuleD) (h0 : Rd u S0 1 (some ⟨H, 0, none⟩) 2 [.slice A i c, .slice A' m c'])
    (h1 : Sl RRule u S A i c l) (h2 : Sl RRule u S A' m c' l') (hn : i + m ≤ 1000) :
    Calls Try.prog 36 #[.slice (some ⟨H, 0, none⟩) 2 2] u
      fun e w' => ∃ A3 c3, e = .returned (.slice A3 (i + m) c3) ∧ Sl RRule w' (fun b => S b ∨ u.heap.size ≤ b) A3 (i + m) c3 (l ++ l') ∧ Below u.heap.size u w' := by
  obtain ⟨xs, e1, hc1, r1, k1⟩ := h1
  obtain ⟨ys, e2, hc2, r2, k2⟩ := h2
  have hlen : partsLen [⟨A, i, c, xs⟩, ⟨A', m, c', ys⟩] = i + m := by simp [partsLen]
  have hall : partsAll [⟨A, i, c, xs⟩, ⟨A', m, c', ys⟩] = xs ++ ys := by simp [partsAll]
  refine (concatRule H 0 2 (fun _ => True) [⟨A, i, c, xs⟩, ⟨A', m, c', ys⟩] u (h0.more fun _ _ => trivial) ?_ (by simp) (by rw [hlen]; omega)).mono ?_
  · intro p hp
    rcases List.mem_cons.1 hp with rfl | hp
    · exact ⟨r1.more fun _ _ => trivial, hc1, k1.one⟩
    · obtain rfl := List.mem_singleton.1 hp
      exact ⟨r2.more fun _ _ => trivial, hc2, k2.one⟩
  · rintro e w' ⟨v, rfl, ho, hb⟩
    rw [hlen, hall] at ho
    obtain ⟨A3, c3, rfl, hc3, _⟩ := ho.form
    exact ⟨A3, c3, rfl, ⟨xs ++ ys, by simp; omega, hc3, ho.rd.more fun b hb => Or.inr hb, ((k1.append k2).keep (.below hb)).more fun b hb => Or.inl hb⟩, hb⟩
theorem GValid.sub {g : GramD} (h : GValid g) {R : List RuleD} (hs : R.Sublist g.2.2.2) : GValid (g.1, g.2.1, g.2.2.1, R) :=
  ⟨h.t1, h.t2, h.n1, h.n2, h.st, Nat.le_trans hs.length_le h.rl, fun r hr => h.rules r (hs.subset hr), h.nd.sublist hs⟩
end Go.Proofs.Ytmfahplimnakcaa
