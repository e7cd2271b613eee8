/- Plain laws of LensLonger: a terminal in front of the start symbol. -/
import Derived.Test.YtfkapijfjihiiaaGrPlain
namespace Go.Proofs.Ytfkapijfjihiiaa

def longR (R : List RuleD) (N : Nat) (st : Int) : List RuleD := R ++ [((N : Int), [(true, 0), (false, st)])]
section
variable {R : List RuleD} {N : Nat} {st : Int}
theorem long_back (hR : RulesN N R) {l : List SymD} {k : Nat} (h : Der (longR R N st) l k) : NonOk N l → Der R l k := by
  induction h with
  | nil => intro _; exact .nil
  | term _ ih => intro hl; exact .term (ih hl.tail)
  | @non A r l i j hm _ _ ih1 ih2 =>
    intro hl
    rcases List.mem_append.1 hm with hm | hm
    · exact .non hm (ih1 (hR _ hm).2) (ih2 hl.tail)
    · obtain e := List.mem_singleton.1 hm
      injection e with e _
      have := (hl (false, A) List.mem_cons_self rfl).2
      simp only [e, Int.toNat_natCast] at this
      omega
theorem long_der (hR : RulesN N R) (hst : 0 ≤ st ∧ st.toNat < N) {k : Nat} : Der (longR R N st) [(false, (N : Int))] k ↔ ∃ j, k = j + 1 ∧ Der R [(false, st)] j := by
  have hok : NonOk N [(false, st)] := fun s hs _ => by
    obtain rfl := List.mem_singleton.1 hs
    exact hst
  rw [Der.non_iff]
  constructor
  · rintro ⟨r, hm, h⟩
    rcases List.mem_append.1 hm with hm | hm
    · have := (hR _ hm).1.2
      simp only [Int.toNat_natCast] at this
      omega
    · obtain e := List.mem_singleton.1 hm
      injection e with _ e
      subst e
      cases h with
      | term h => exact ⟨_, rfl, long_back hR h hok⟩
  · rintro ⟨j, rfl, h⟩
    exact ⟨_, List.mem_append_right _ (List.mem_singleton.2 rfl), .term (h.mono fun r hr => List.mem_append_left _ hr)⟩
theorem long_great (hR : RulesN N R) {s : Nat} (hs : s < N) {a b : Int} (ha : GreatR R s a) (hb : GreatR (longR R N (s : Int)) N b) : (if 0 ≤ a then a + 1 else a) = b := by
  have hk : ∀ k, Der (longR R N (s : Int)) [(false, (N : Int))] k ↔ ∃ j, k = j + 1 ∧ Der R [(false, (s : Int))] j := fun k => long_der hR ⟨by omega, by simpa using hs⟩
  refine GreatR.unique (R := longR R N (s : Int)) (st := N) ?_ hb
  rcases ha with ⟨rfl, h2⟩ | ⟨rfl, h2⟩ | ⟨h1, h2, h3⟩
  · refine .inl ⟨by simp, fun k hd => ?_⟩
    obtain ⟨j, _, hj⟩ := (hk k).1 hd
    exact h2 j hj
  · refine .inr (.inl ⟨by simp, fun m => ?_⟩)
    obtain ⟨k, h3, h4⟩ := h2 m
    exact ⟨k + 1, by omega, (hk _).2 ⟨k, rfl, h4⟩⟩
  · rw [if_pos h1]
    refine .inr (.inr ⟨by omega, (hk _).2 ⟨a.toNat, by omega, h2⟩, fun k hd => ?_⟩)
    obtain ⟨j, rfl, hj⟩ := (hk k).1 hd
    have := h3 j hj
    omega
theorem long_lenD (hR : RulesN N R) {s : Nat} (hs : s < N) (k : Nat) : lenD (longR R N (s : Int)) N (k + 1) = lenD R s k := by
  rw [Bool.eq_iff_iff, lenD_iff, lenD_iff, long_der hR ⟨by omega, by simpa using hs⟩]
  constructor
  · rintro ⟨j, h1, h2⟩
    obtain rfl : k = j := by omega
    exact h2
  · intro h; exact ⟨k, rfl, h⟩
theorem long_len0 (hR : RulesN N R) {s : Nat} (hs : s < N) : lenD (longR R N (s : Int)) N 0 = false := by
  cases h : lenD (longR R N (s : Int)) N 0 with
  | false => rfl
  | true =>
    obtain ⟨j, h1, _⟩ := (long_der hR ⟨by omega, by simpa using hs⟩).1 (lenD_iff.1 h)
    omega
theorem long_rules (hR : RulesN N R) (hst : 0 ≤ st ∧ st.toNat < N) : RulesN (N + 1) (longR R N st) := fun r hr => by
  rcases List.mem_append.1 hr with hr | hr
  · obtain ⟨⟨h1, h2⟩, h3⟩ := hR r hr
    exact ⟨⟨h1, by omega⟩, fun s hs hf => ⟨(h3 s hs hf).1, by have := (h3 s hs hf).2; omega⟩⟩
  · obtain rfl := List.mem_singleton.1 hr
    refine ⟨⟨by simp, by simp⟩, fun s hs hf => ?_⟩
    simp only [List.mem_cons, List.not_mem_nil, or_false] at hs
    rcases hs with rfl | rfl
    · cases hf
    · exact ⟨hst.1, by have := hst.2; simp only; omega⟩
end
end Go.Proofs.Ytfkapijfjihiiaa
