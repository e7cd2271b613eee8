/- Plain laws of useful.Trim: what is left has the same words. -/
import Derived.Test.YtfkapijfjihiiaaGrPlain
import Derived.Test.YtfkapijfjihiiaaLeastPlain
namespace Go.Proofs.Ytfkapijfjihiiaa

def rnk (inn : Nat → Bool) (a : Nat) : Nat := (List.range a).countP inn
theorem rnk_succ (inn : Nat → Bool) (a : Nat) : rnk inn (a + 1) = rnk inn a + (if inn a = true then 1 else 0) := by
  unfold rnk
  rw [List.range_succ, List.countP_append, List.countP_singleton]
theorem rnk_mono {inn : Nat → Bool} {a b : Nat} (h : a ≤ b) : rnk inn a ≤ rnk inn b := by
  induction b with
  | zero => obtain rfl : a = 0 := by omega
            exact Nat.le_refl _
  | succ b ih =>
    rcases Nat.lt_or_ge b a with h1 | h1
    · obtain rfl : a = b + 1 := by omega
      exact Nat.le_refl _
    · rw [rnk_succ]
      have := ih h1
      omega
theorem rnk_lt {inn : Nat → Bool} {a b : Nat} (h : a < b) (ha : inn a = true) : rnk inn a < rnk inn b := by
  have h1 := rnk_mono (inn := inn) (show a + 1 ≤ b by omega)
  rw [rnk_succ, if_pos ha] at h1
  omega
theorem rnk_inj {inn : Nat → Bool} {a b : Nat} (ha : inn a = true) (hb : inn b = true) (h : rnk inn a = rnk inn b) : a = b := by
  rcases Nat.lt_trichotomy a b with h1 | h1 | h1
  · have := rnk_lt h1 ha; omega
  · exact h1
  · have := rnk_lt h1 hb; omega
theorem rnk_surj {inn : Nat → Bool} : ∀ {N c : Nat}, c < rnk inn N → ∃ a, a < N ∧ inn a = true ∧ rnk inn a = c
  | 0, c, h => by simp [rnk] at h
  | N + 1, c, h => by
    rw [rnk_succ] at h
    rcases Nat.lt_or_ge c (rnk inn N) with h1 | h1
    · obtain ⟨a, h2, h3, h4⟩ := rnk_surj h1
      exact ⟨a, by omega, h3, h4⟩
    · cases hi : inn N with
      | true => rw [if_pos hi] at h; exact ⟨N, by omega, hi, by omega⟩
      | false => rw [hi] at h; simp at h; omega
theorem rnk_le (inn : Nat → Bool) (a : Nat) : rnk inn a ≤ a := by
  have := List.countP_le_length (p := inn) (l := List.range a)
  rwa [List.length_range] at this
def toT (inn : Nat → Bool) (a : Nat) : Nat := if inn a = true then rnk inn a else 0
def renT (inn : Nat → Bool) (s : SymD) : SymD := if s.1 = true then s else (false, (toT inn s.2.toNat : Int))
def useT (ls : List Int) (r : RuleD) : Bool := !r.2.any fun s => !s.1 && decide (ls.getD s.2.toNat (-1) < 0)
def trimR (inn : Nat → Bool) (ls : List Int) (R : List RuleD) : List RuleD := (R.filter fun r => inn r.1.toNat && useT ls r).map fun r => ((toT inn r.1.toNat : Int), r.2.map (renT inn))
/-- what is reached by rules that are of use -/
structure InnOk (R : List RuleD) (N : Nat) (ls : List Int) (st : Nat) (inn : Nat → Bool) : Prop where
  start : inn st = true
  lt : ∀ a, inn a = true → a < N
  closed : ∀ r ∈ R, inn r.1.toNat = true → useT ls r = true → ∀ s ∈ r.2, s.1 = false → inn s.2.toNat = true
  sound : ∀ a, inn a = true → st = a ∨ Reach (fun i j => edgN (R.filter (useT ls)) i j = true) st a
section
variable {R : List RuleD} {N st : Nat} {ls : List Int} {inn : Nat → Bool}
theorem use_iff {r : RuleD} : useT ls r = true ↔ ∀ s ∈ r.2, s.1 = false → 0 ≤ ls.getD s.2.toNat (-1) := by
  unfold useT
  rw [Bool.not_eq_true', List.any_eq_false]
  constructor
  · intro h s hs hf
    have := h s hs
    simp only [Bool.and_eq_true, decide_eq_true_eq, not_and, hf, Bool.not_false, true_implies] at this
    omega
  · intro h s hs hc
    simp only [Bool.and_eq_true, decide_eq_true_eq, Bool.not_eq_true'] at hc
    have := h s hs hc.1
    omega
theorem least_prod (hL : LeastOk R ls) (hl : ls.length = N) {a : Nat} (ha : a < N) : 0 ≤ ls.getD a (-1) ↔ Prod1 R a := by
  have hg : ls[a]? = some (ls.getD a (-1)) := by rw [List.getD_eq_getElem?_getD, List.getElem?_eq_getElem (by omega)]; rfl
  rcases hL a _ hg with ⟨h1, h2⟩ | ⟨h1, h2, _⟩
  · exact ⟨fun h => by omega, fun ⟨k, hk⟩ => absurd hk (h2 k)⟩
  · exact ⟨fun _ => ⟨_, h2⟩, fun _ => h1⟩
theorem der_prod {l : List SymD} {k : Nat} (h : Der R l k) : ∀ s ∈ l, ∃ k, Der R [s] k := by
  induction h with
  | nil => intro s hs; cases hs
  | term _ ih =>
    intro s hs
    rcases List.mem_cons.1 hs with rfl | hs
    · exact ⟨1, .term .nil⟩
    · exact ih s hs
  | non hm h1 _ _ ih2 =>
    intro s hs
    rcases List.mem_cons.1 hs with rfl | hs
    · exact ⟨_, Der.non_iff.2 ⟨_, hm, h1⟩⟩
    · exact ih2 s hs
theorem der_use (hL : LeastOk R ls) (hl : ls.length = N) (hR : RulesN N R) {r : RuleD} (hr : r ∈ R) {k : Nat} (h : Der R r.2 k) : useT ls r = true :=
  use_iff.2 fun s hs hf => by
    obtain ⟨h0, h1⟩ := (hR r hr).2 s hs hf
    obtain ⟨k', hk'⟩ := der_prod h s hs
    refine (least_prod hL hl h1).2 ⟨k', ?_⟩
    rw [show ((s.2.toNat : Nat) : Int) = s.2 by omega]
    obtain ⟨t, x⟩ := s
    subst hf
    exact hk'
/-- all that is reached has words -/
theorem inn_prod (hI : InnOk R N ls st inn) (hL : LeastOk R ls) (hl : ls.length = N) (hst : Prod1 R st) {a : Nat} (ha : inn a = true) : Prod1 R a := by
  have hlast : ∀ {i j : Nat}, Reach (fun i j => edgN (R.filter (useT ls)) i j = true) i j → ∃ r ∈ R, useT ls r = true ∧ (false, (j : Int)) ∈ r.2 := by
    intro i j h
    induction h with
    | one h =>
      obtain ⟨r, hr, _, hm⟩ := edgN_iff.1 h
      obtain ⟨h1, h2⟩ := List.mem_filter.1 hr
      exact ⟨r, h1, h2, hm⟩
    | step _ _ ih => exact ih
  rcases hI.sound a ha with h | h
  · exact h ▸ hst
  · obtain ⟨r, hr, hu, hm⟩ := hlast h
    have := use_iff.1 hu _ hm rfl
    exact (least_prod hL hl (hI.lt a ha)).1 (by simpa using this)
theorem trim_mem {r : RuleD} (hr : r ∈ R) (h1 : inn r.1.toNat = true) (h2 : useT ls r = true) : ((toT inn r.1.toNat : Int), r.2.map (renT inn)) ∈ trimR inn ls R :=
  List.mem_map.2 ⟨r, List.mem_filter.2 ⟨hr, by simp [h1, h2]⟩, rfl⟩
theorem trim_of_mem {r : RuleD} (h : r ∈ trimR inn ls R) : ∃ r0 ∈ R, inn r0.1.toNat = true ∧ useT ls r0 = true ∧ r = ((toT inn r0.1.toNat : Int), r0.2.map (renT inn)) := by
  obtain ⟨r0, h1, rfl⟩ := List.mem_map.1 h
  obtain ⟨h2, h3⟩ := List.mem_filter.1 h1
  rw [Bool.and_eq_true] at h3
  exact ⟨r0, h2, h3.1, h3.2, rfl⟩
theorem trim_fw (hI : InnOk R N ls st inn) (hL : LeastOk R ls) (hl : ls.length = N) (hR : RulesN N R) {l : List SymD} {k : Nat} (h : Der R l k) : (∀ s ∈ l, s.1 = false → inn s.2.toNat = true) → Der (trimR inn ls R) (l.map (renT inn)) k := by
  induction h with
  | nil => intro _; exact .nil
  | @term x l k _ ih =>
    intro hin
    rw [List.map_cons, renT, if_pos rfl]
    exact .term (ih fun s hs => hin s (List.mem_cons_of_mem _ hs))
  | @non A r l i j hm h1 _ ih1 ih2 =>
    intro hin
    have hA : inn A.toNat = true := hin (false, A) List.mem_cons_self rfl
    have hu := der_use hL hl hR hm h1
    rw [List.map_cons, renT, if_neg (by simp)]
    exact .non (trim_mem hm hA hu) (ih1 fun s hs hf => hI.closed _ hm hA hu s hs hf) (ih2 fun s hs => hin s (List.mem_cons_of_mem _ hs))
theorem trim_bw (hI : InnOk R N ls st inn) (hR : RulesN N R) {l' : List SymD} {k : Nat} (h : Der (trimR inn ls R) l' k) : ∀ l : List SymD, l' = l.map (renT inn) → (∀ s ∈ l, s.1 = false → 0 ≤ s.2 ∧ inn s.2.toNat = true) → Der R l k := by
  induction h with
  | nil =>
    intro l e _
    cases l with
    | nil => exact .nil
    | cons => cases e
  | @term x m k _ ih =>
    intro l e hin
    cases l with
    | nil => cases e
    | cons s l =>
      rw [List.map_cons] at e
      injection e with e1 e2
      obtain ⟨t, y⟩ := s
      cases t with
      | true =>
        exact .term (ih l e2 fun s hs => hin s (List.mem_cons_of_mem _ hs))
      | false => rw [renT, if_neg (by simp)] at e1; injection e1 with e1 _; cases e1
  | @non A r m i j hm _ _ ih1 ih2 =>
    intro l e hin
    cases l with
    | nil => cases e
    | cons s l =>
      rw [List.map_cons] at e
      injection e with e1 e2
      obtain ⟨t, y⟩ := s
      cases t with
      | true => rw [renT, if_pos rfl] at e1; injection e1 with e1 _; cases e1
      | false =>
        rw [renT, if_neg (by simp)] at e1
        injection e1 with _ e1
        obtain ⟨r0, hr0, hi0, hu0, e3⟩ := trim_of_mem hm
        obtain ⟨hy0, hyi⟩ := hin (false, y) List.mem_cons_self rfl
        simp only at hy0 hyi e1
        injection e3 with e3 e4
        have hB : r0.1.toNat = y.toNat := by
          refine rnk_inj hi0 hyi ?_
          rw [e1] at e3
          unfold toT at e3
          rw [if_pos hi0, if_pos hyi] at e3
          omega
        have hr00 := (hR r0 hr0).1.1
        have e5 : r0.1 = y := by omega
        refine .non (r := r0.2) ?_ (ih1 r0.2 e4 fun s hs hf => ⟨((hR r0 hr0).2 s hs hf).1, hI.closed r0 hr0 hi0 hu0 s hs hf⟩) (ih2 l e2 fun s hs => hin s (List.mem_cons_of_mem _ hs))
        rw [← e5]
        exact hr0
/-- a nonterminal that is left has the same lengths -/
theorem trim_der (hI : InnOk R N ls st inn) (hL : LeastOk R ls) (hl : ls.length = N) (hR : RulesN N R) {a : Nat} (ha : inn a = true) {k : Nat} : Der (trimR inn ls R) [(false, (rnk inn a : Int))] k ↔ Der R [(false, (a : Int))] k := by
  have e : [(false, (a : Int))].map (renT inn) = [(false, (rnk inn a : Int))] := by
    rw [List.map_cons, List.map_nil, renT, if_neg (by simp), toT]
    simp [ha]
  constructor
  · intro h
    refine trim_bw hI hR h _ e.symm fun s hs _ => ?_
    obtain rfl := List.mem_singleton.1 hs
    exact ⟨by simp, by simpa using ha⟩
  · intro h
    rw [← e]
    refine trim_fw hI hL hl hR h fun s hs _ => ?_
    obtain rfl := List.mem_singleton.1 hs
    simpa using ha
theorem trim_great (hI : InnOk R N ls st inn) (hL : LeastOk R ls) (hl : ls.length = N) (hR : RulesN N R) {v : Int} (h : GreatR (trimR inn ls R) (rnk inn st) v) : GreatR R st v := by
  have hk : ∀ k, Der (trimR inn ls R) [(false, (rnk inn st : Int))] k ↔ Der R [(false, (st : Int))] k := fun k => trim_der hI hL hl hR hI.start
  rcases h with ⟨h1, h2⟩ | ⟨h1, h2⟩ | ⟨h1, h2, h3⟩
  · exact .inl ⟨h1, fun k hd => h2 k ((hk k).2 hd)⟩
  · refine .inr (.inl ⟨h1, fun m => ?_⟩)
    obtain ⟨k, h3, h4⟩ := h2 m
    exact ⟨k, h3, (hk k).1 h4⟩
  · exact .inr (.inr ⟨h1, (hk _).1 h2, fun k hd => h3 k ((hk k).2 hd)⟩)
/-- what is left is a grammar where all is of use -/
theorem trim_rules (hI : InnOk R N ls st inn) : RulesN (rnk inn N) (trimR inn ls R) := fun r hr => by
  obtain ⟨r0, hr0, hi0, hu0, rfl⟩ := trim_of_mem hr
  refine ⟨⟨by simp, ?_⟩, fun s hs hf => ?_⟩
  · simp only [toT, if_pos hi0, Int.toNat_natCast]
    exact rnk_lt (hI.lt _ hi0) hi0
  · obtain ⟨s0, hs0, rfl⟩ := List.mem_map.1 hs
    obtain ⟨t, x⟩ := s0
    cases t with
    | true => rw [renT, if_pos rfl] at hf; cases hf
    | false =>
      have hx := hI.closed r0 hr0 hi0 hu0 _ hs0 rfl
      rw [renT, if_neg (by simp)]
      simp only at hx
      simp only [toT, if_pos hx, Int.toNat_natCast]
      exact ⟨by omega, rnk_lt (hI.lt _ hx) hx⟩
theorem trim_len {m : Nat} (h : ∀ r ∈ R, r.2.length ≤ m) : ∀ r ∈ trimR inn ls R, r.2.length ≤ m := fun r hr => by
  obtain ⟨r0, hr0, _, _, rfl⟩ := trim_of_mem hr
  simpa using h r0 hr0
theorem trim_prod (hI : InnOk R N ls st inn) (hL : LeastOk R ls) (hl : ls.length = N) (hR : RulesN N R) (hst : Prod1 R st) : ∀ c, c < rnk inn N → Prod1 (trimR inn ls R) c := fun c hc => by
  obtain ⟨a, h1, h2, rfl⟩ := rnk_surj hc
  obtain ⟨k, hk⟩ := inn_prod hI hL hl hst h2
  exact ⟨k, (trim_der hI hL hl hR h2).2 hk⟩
theorem Reach.snoc' {α : Type} {E : α → α → Prop} {a b c : α} (h : Reach E a b) (h' : E b c) : Reach E a c := h.trans (.one h')
theorem trim_edge {i j : Nat} (hI : InnOk R N ls st inn) (hi : inn i = true) (h : edgN (R.filter (useT ls)) i j = true) : inn j = true ∧ edgN (trimR inn ls R) (rnk inn i) (rnk inn j) = true := by
  obtain ⟨r, hr, hri, hm⟩ := edgN_iff.1 h
  obtain ⟨h1, h2⟩ := List.mem_filter.1 hr
  have hri' : inn r.1.toNat = true := by rw [hri]; simpa using hi
  have hj : inn j = true := by simpa using hI.closed r h1 hri' h2 _ hm rfl
  refine ⟨hj, edgN_iff.2 ⟨_, trim_mem h1 hri' h2, ?_, ?_⟩⟩
  · show (toT inn r.1.toNat : Int) = (rnk inn i : Int)
    rw [hri, Int.toNat_natCast, toT, if_pos hi]
  · refine List.mem_map.2 ⟨_, hm, ?_⟩
    rw [renT, if_neg (by simp)]
    simp only [toT, Int.toNat_natCast, if_pos hj]
theorem trim_reach (hI : InnOk R N ls st inn) : ∀ c, c < rnk inn N → rnk inn st = c ∨ Reach (fun i j => edgN (trimR inn ls R) i j = true) (rnk inn st) c := fun c hc => by
  have hpath : ∀ {i j : Nat}, Reach (fun i j => edgN (R.filter (useT ls)) i j = true) i j → inn i = true → inn j = true ∧ Reach (fun i j => edgN (trimR inn ls R) i j = true) (rnk inn i) (rnk inn j) := by
    intro i j h
    induction h with
    | one h =>
      intro hi
      obtain ⟨h1, h2⟩ := trim_edge hI hi h
      exact ⟨h1, .one h2⟩
    | step h _ ih =>
      intro hi
      obtain ⟨h1, h2⟩ := trim_edge hI hi h
      obtain ⟨h3, h4⟩ := ih h1
      exact ⟨h3, .step h2 h4⟩
  obtain ⟨a, h1, h2, rfl⟩ := rnk_surj hc
  rcases hI.sound a h2 with h | h
  · exact .inl (by rw [h])
  · exact .inr (hpath h hI.start).2
end
end Go.Proofs.Ytfkapijfjihiiaa
