/- Plain: a number has one tree. -/
import Derived.Test.YthanhegomgbgbaaTreePlain
import Derived.Test.YthanhegomgbgbaaPlainG
namespace Go.Proofs.Ythanhegomgbgbaa

section
variable {R : List RuleD}
theorem sumTo_pick {f : Nat → Nat} {k k' x x' : Nat} (h : sumTo f k + x = sumTo f k' + x') (hx : x < f k) (hx' : x' < f k') : k = k' ∧ x = x' := by
  rcases Nat.lt_trichotomy k k' with h1 | h1 | h1
  · have := sumTo_mono (f := f) (show k + 1 ≤ k' from h1)
    rw [sumTo_succ] at this
    omega
  · subst h1
    exact ⟨rfl, by omega⟩
  · have := sumTo_mono (f := f) (show k' + 1 ≤ k from h1)
    rw [sumTo_succ] at this
    omega
theorem div_pick {q q' l i i' : Nat} (h : q * l + i = q' * l + i') (hi : i < l) (hi' : i' < l) : q = q' ∧ i = i' := by
  have h1 : (q * l + i) / l = q := by rw [Nat.mul_comm, Nat.mul_add_div (by omega), Nat.div_eq_of_lt hi, Nat.add_zero]
  have h2 : (q' * l + i') / l = q' := by rw [Nat.mul_comm, Nat.mul_add_div (by omega), Nat.div_eq_of_lt hi', Nat.add_zero]
  have h3 : q = q' := by rw [← h1, ← h2, h]
  subst h3
  exact ⟨rfl, by omega⟩
theorem Unr.det : ∀ (m : Nat) {s : SymD} {n i : Nat} {t t' : TreeD}, sizeT t ≤ m → Unr R s n i t → Unr R s n i t' → t = t'
  | 0, s, n, i, t, t', hm, _, _ => by rw [sizeT_eq] at hm; omega
  | m + 1, s, n, i, t, t', hm, h, h' => by
    have hl : ∀ {l : List SymD} {ts ts' : List TreeD} {n i : Nat}, sizeTs ts ≤ m → UnrL R l n i ts → UnrL R l n i ts' → ts = ts' := by
      intro l
      induction l with
      | nil =>
        intro ts ts' n i _ h1 h2
        rw [h1.tv.inv_nil, h2.tv.inv_nil]
      | cons s l ih =>
        intro ts ts' n i hs h1 h2
        obtain ⟨k, q, p, t, u, a1, a2, a3, a4, a5, rfl, rfl⟩ := h1.inv
        obtain ⟨k', q', p', t', u', b1, b2, b3, b4, b5, e, rfl⟩ := h2.inv
        rw [sizeTs_cons] at hs
        have hw : ∀ {q k p : Nat}, q < oN R s k → p < lN R l (n - k) → q * lN R l (n - k) + p < wOf R s l n k := by
          intro q k p h1 h2
          have h3 : (q + 1) * lN R l (n - k) ≤ wOf R s l n k := Nat.mul_le_mul_right _ h1
          rw [Nat.add_mul, Nat.one_mul] at h3
          omega
        rw [Nat.add_assoc, Nat.add_assoc] at e
        obtain ⟨rfl, e2⟩ := sumTo_pick e (hw a2 a3) (hw b2 b3)
        obtain ⟨rfl, rfl⟩ := div_pick e2 a3 b3
        rw [Unr.det m (by omega) a4 b4, ih (by omega) a5 b5]
    rcases h.inv with ⟨c, rfl, rfl, rfl, rfl⟩ | ⟨a, k, r, ts, p, rfl, h1, h2, h3, h4, rfl, rfl⟩
    · rcases h'.inv with ⟨c', e, _, _, rfl⟩ | ⟨_, _, _, _, _, e, _⟩
      · injection e with _ e
        rw [e]
      · cases e
    · rcases h'.inv with ⟨_, e, _⟩ | ⟨a', k', r', ts', p', e, g1, g2, g3, g4, e', rfl⟩
      · cases e
      · injection e with _ e
        obtain rfl : a = a' := by omega
        have hk : k = k' := by
          rcases Nat.lt_trichotomy k k' with hlt | h5 | hlt
          · have := preR_mono (R := R) (a := a) (n := n) (show k + 1 ≤ k' from hlt)
            rw [preR_succ h1, if_pos h2] at this
            omega
          · exact h5
          · have := preR_mono (R := R) (a := a) (n := n) (show k' + 1 ≤ k from hlt)
            rw [preR_succ g1, if_pos g2] at this
            omega
        subst hk
        rw [h1] at g1
        injection g1 with g1
        subst g1
        obtain rfl : p = p' := by omega
        rw [sizeT_eq] at hm
        simp only [TreeD.kids] at hm
        rw [hl (by omega) h4 g4]
end
/-- the only tree of one terminal -/
theorem plain_kids {i : Nat} {t : TreeD} (h : Unr plainR (false, ((0 : Nat) : Int)) 1 i t) : t.kids.length = 1 := by
  rcases h.inv with ⟨c, e, _⟩ | ⟨a, k, r, ts, j, _, h1, _, _, h4, _, rfl⟩
  · cases e
  · have hl := h4.tv.len
    have hd := h4.tv.der
    rw [h4.word] at hd
    have hr := List.mem_of_getElem? h1
    simp only [plainR, List.mem_cons, List.not_mem_nil, or_false] at hr
    rcases hr with rfl | rfl
    · exact hl
    · exfalso
      obtain ⟨p, hp, d1, d2⟩ := Der.cons_iff.1 hd
      have e1 := Der.term_iff.1 d1
      have := plain_der1 d2
      omega
end Go.Proofs.Ythanhegomgbgbaa
