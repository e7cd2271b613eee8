/- CensusPlain2 GrPlain -/
import Derived.Test.YtgaahpddlohjoaaAh06
namespace Go.Proofs.Ytgaahpddlohjoaa
inductive Reach {α : Type} (E : α → α → Prop) : α → α → Prop
 | one {a b : α} : E a b → Reach E a b
 | step {a b c : α} : E a b → Reach E b c → Reach E a c
theorem Reach.trans {α : Type} {E : α → α → Prop} {a b c : α} (h : Reach E a b) (h' : Reach E b c) : Reach E a c := by
 induction h with
 | one h => exact .step h h'
 | step h _ ih => exact .step h (ih h')
theorem Reach.mono {α : Type} {E E' : α → α → Prop} (hE : ∀ a b, E a b → E' a b) {a b : α} (h : Reach E a b) : Reach E' a b := by
 induction h with
 | one h => exact .one (hE _ _ h)
 | step h _ ih => exact .step (hE _ _ h) ih
def Edge (R : List RuleD) (x y : Nat × Nat) : Prop :=
 ∃ r ∈ R, r.1 = (x.1 : Int) ∧ ∃ a b, r.2 = a ++ (false, (y.1 : Int)) :: b ∧ ∃ p q, p + y.2 + q = x.2 ∧ Der R a p ∧ Der R b q ∧ Der R [(false, (y.1 : Int))] y.2
theorem Edge.mono {R R' : List RuleD} (hR : ∀ r ∈ R, r ∈ R') {x y : Nat × Nat} (h : Edge R x y) : Edge R' x y := by
 obtain ⟨r, hr, h1, a, b, h2, p, q, h3, h4, h5, h6⟩ := h
 exact ⟨r, hR r hr, h1, a, b, h2, p, q, h3, h4.mono hR, h5.mono hR, h6.mono hR⟩
theorem Edge.le {R : List RuleD} {x y : Nat × Nat} (h : Edge R x y) : y.2 ≤ x.2 := by
 obtain ⟨r, hr, h1, a, b, h2, p, q, h3, _⟩ := h
 omega
theorem Edge.lt {R : List RuleD} {N : Nat} (hR : RulesN N R) {x y : Nat × Nat} (h : Edge R x y) : y.1 < N := by
 obtain ⟨r, hr, h1, a, b, h2, _⟩ := h
 have := (hR r hr).2 (false, (y.1 : Int)) (by rw [h2]; simp) rfl
 simpa using this.2
def Many (R : List RuleD) (x : Nat × Nat) : Prop := ∃ y, (x = y ∨ Reach (Edge R) x y) ∧ Reach (Edge R) y y
theorem Many.mono {R R' : List RuleD} (hR : ∀ r ∈ R, r ∈ R') {x : Nat × Nat} (h : Many R x) : Many R' x := by
 obtain ⟨y, h1, h2⟩ := h
 exact ⟨y, h1.imp id (·.mono fun _ _ => Edge.mono hR), h2.mono fun _ _ => Edge.mono hR⟩
theorem Many.back {R : List RuleD} {x y : Nat × Nat} (h : Edge R x y) (hm : Many R y) : Many R x := by
 obtain ⟨z, h1, h2⟩ := hm
 rcases h1 with rfl | h1
 ·
  exact ⟨y, .inr (.one h), h2⟩
 ·
  exact ⟨z, .inr (.step h h1), h2⟩
def war (e : Nat → Nat → Bool) : Nat → Nat → Nat → Bool
 | 0 => e
 | k + 1 => fun i j => war e k i j || (war e k i k && war e k k j)
theorem war_mono {e : Nat → Nat → Bool} {k i j : Nat} (h : war e k i j = true) : war e (k + 1) i j = true := by simp [war, h]
theorem war_base {e : Nat → Nat → Bool} {i j : Nat} (h : e i j = true) : ∀ k, war e k i j = true
 | 0 => h
 | k + 1 => war_mono (war_base h k)
theorem war_sound {e : Nat → Nat → Bool} : ∀ {k i j : Nat}, war e k i j = true → Reach (fun i j => e i j = true) i j
 | 0, _, _, h => .one h
 | k + 1, i, j, h => by
  simp only [war, Bool.or_eq_true, Bool.and_eq_true] at h
  rcases h with h | ⟨h1, h2⟩
  ·
   exact war_sound h
  ·
   exact (war_sound h1).trans (war_sound h2)
theorem war_trans {e : Nat → Nat → Bool} : ∀ {k m i j : Nat}, m < k → war e k i m = true → war e k m j = true → war e k i j = true
 | 0, _, _, _, h, _, _ => by omega
 | k + 1, m, i, j, hm, h1, h2 => by
  simp only [war, Bool.or_eq_true, Bool.and_eq_true] at h1 h2 ⊢
  rcases Nat.lt_succ_iff_lt_or_eq.1 hm with hm | rfl
  ·
   rcases h1 with h1 | ⟨h1, h1'⟩ <;> rcases h2 with h2 | ⟨h2, h2'⟩
   ·
    exact .inl (war_trans hm h1 h2)
   ·
    exact .inr ⟨war_trans hm h1 h2, h2'⟩
   ·
    exact .inr ⟨h1, war_trans hm h1' h2⟩
   ·
    exact .inr ⟨h1, h2'⟩
  ·
   have h1' : war e m i m = true := by rcases h1 with h1 | ⟨h1, _⟩ <;> exact h1
   have h2' : war e m m j = true := by rcases h2 with h2 | ⟨_, h2⟩ <;> exact h2
   exact .inr ⟨h1', h2'⟩
theorem war_complete {e : Nat → Nat → Bool} {n : Nat} (he : ∀ i j, e i j = true → j < n) {i j : Nat} (h : Reach (fun i j => e i j = true) i j) : war e n i j = true := by
 induction h with
 | one h => exact war_base h n
 | step h _ ih => exact war_trans (he _ _ h) (war_base h n) ih
theorem war_iff {e : Nat → Nat → Bool} {n : Nat} (he : ∀ i j, e i j = true → j < n) {i j : Nat} : war e n i j = true ↔ Reach (fun i j => e i j = true) i j := ⟨war_sound, war_complete he⟩
def nodeOf (n i : Nat) : Nat × Nat := (i / (n + 1), i % (n + 1))
def numOf (n : Nat) (x : Nat × Nat) : Nat := x.1 * (n + 1) + x.2
theorem nodeOf_num {n : Nat} {x : Nat × Nat} (h : x.2 ≤ n) : nodeOf n (numOf n x) = x := by
 unfold nodeOf numOf
 rw [Nat.mul_comm, Nat.mul_add_div (by omega), Nat.div_eq_of_lt (by omega), Nat.mul_add_mod, Nat.mod_eq_of_lt (by omega)]
 simp
theorem numOf_lt {n N : Nat} {x : Nat × Nat} (h1 : x.1 < N) (h2 : x.2 ≤ n) : numOf n x < N * (n + 1) := by
 unfold numOf
 have : (x.1 + 1) * (n + 1) ≤ N * (n + 1) := Nat.mul_le_mul_right _ (by omega)
 rw [Nat.add_mul] at this
 omega
theorem pigeon : ∀ {n : Nat} {l : List Nat}, l.Nodup → (∀ x ∈ l, x < n) → l.length ≤ n
 | 0, [], _, _ => Nat.le_refl _
 | 0, x :: _, _, h => absurd (h x (by simp)) (by omega)
 | n + 1, l, hd, h => by
  have h1 : (l.erase n).length ≤ n := pigeon (hd.erase n) fun x hx => by
   have h2 := h x (List.mem_of_mem_erase hx)
   have h3 : x ≠ n := fun e => by subst e; exact (List.Nodup.not_mem_erase hd) hx
   omega
  have := List.length_erase (a := n) (l := l)
  split at this <;> omega
theorem acc_of_few {R : List RuleD} {N n : Nat} (hR : RulesN N R) : ∀ (m : Nat) (vis : List (Nat × Nat)) (x : Nat × Nat), vis.Nodup → (∀ v ∈ vis, (v.1 < N ∧ v.2 ≤ n) ∧ Reach (Edge R) v x) → x.1 < N → x.2 ≤ n → ¬ Many R x → N * (n + 1) - vis.length ≤ m →
    Acc (fun y x => Edge R x y) x
 | m, vis, x, hd, hv, h1, h2, hm, hle => by
  have hx : x ∉ vis := fun h => hm ⟨x, .inl rfl, (hv x h).2⟩
  have hlen : (x :: vis).length ≤ N * (n + 1) := by
   have := pigeon (n := N * (n + 1)) (l := (x :: vis).map (numOf n)) (by
    rw [List.nodup_iff_pairwise_ne, List.pairwise_map]
    refine List.Pairwise.imp_of_mem (R := (· ≠ ·)) ?_ (List.nodup_cons.2 ⟨hx, hd⟩)
    intro a b ha hb hne e
    have ha2 : a.2 ≤ n := by rcases List.mem_cons.1 ha with rfl | h; exact h2; exact (hv a h).1.2
    have hb2 : b.2 ≤ n := by rcases List.mem_cons.1 hb with rfl | h; exact h2; exact (hv b h).1.2
    have := congrArg (nodeOf n) e
    rw [nodeOf_num ha2, nodeOf_num hb2] at this
    exact hne this) (by
    intro q hq
    obtain ⟨v, hv', rfl⟩ := List.mem_map.1 hq
    rcases List.mem_cons.1 hv' with rfl | h
    ·
     exact numOf_lt h1 h2
    ·
     exact numOf_lt (hv v h).1.1 (hv v h).1.2)
   simpa using this
  refine Acc.intro x fun y hy => ?_
  match m with
  | 0 => simp only [List.length_cons] at hlen; omega
  | m + 1 =>
   refine acc_of_few hR m (x :: vis) y (List.nodup_cons.2 ⟨hx, hd⟩) ?_ (hy.lt hR) (Nat.le_trans hy.le h2) (fun h => hm (h.back hy)) (by simp only [List.length_cons]; omega)
   intro v hv'
   rcases List.mem_cons.1 hv' with rfl | h
   ·
    exact ⟨⟨h1, h2⟩, .one hy⟩
   ·
    exact ⟨(hv v h).1, (hv v h).2.trans (.one hy)⟩
theorem acc_few {R : List RuleD} {N : Nat} (hR : RulesN N R) {x : Nat × Nat} (h1 : x.1 < N) (hm : ¬ Many R x) : Acc (fun y x => Edge R x y) x :=
 acc_of_few (n := x.2) hR (N * (x.2 + 1)) [] x .nil (by simp) h1 (Nat.le_refl _) hm (by simp)
end Go.Proofs.Ytgaahpddlohjoaa
namespace Go.Proofs.Ytgaahpddlohjoaa
def edgN (R : List RuleD) (i j : Nat) : Bool := R.any fun r => decide (r.1 = (i : Int)) && r.2.contains (false, (j : Int))
theorem edgN_iff {R : List RuleD} {i j : Nat} : edgN R i j = true ↔ ∃ r ∈ R, r.1 = (i : Int) ∧ (false, (j : Int)) ∈ r.2 := by
 simp only [edgN, List.any_eq_true, Bool.and_eq_true, decide_eq_true_eq, List.contains_iff_mem]
section
variable {R : List RuleD} {N : Nat} {G : Nat → Bool}
theorem edg_lt (hR : RulesN N R) {i j : Nat} (h : edgN R i j = true) : j < N := by
 obtain ⟨r, hr, _, hm⟩ := edgN_iff.1 h
 have := ((hR r hr).2 _ hm rfl).2
 simpa using this
theorem countP_le {α : Type} {p q : α → Bool} : ∀ {l : List α}, (∀ x ∈ l, p x = true → q x = true) → l.countP p ≤ l.countP q
 | [], _ => Nat.le_refl _
 | a :: l, h => by
  have ih := countP_le (l := l) fun x hx => h x (List.mem_cons_of_mem _ hx)
  rw [List.countP_cons, List.countP_cons]
  have := h a List.mem_cons_self
  cases hp : p a with
  | true => rw [this hp]; simp; exact ih
  | false => simp; omega
theorem countP_lt {α : Type} {p q : α → Bool} : ∀ {l : List α}, (∀ x ∈ l, p x = true → q x = true) → ∀ {y : α}, y ∈ l → q y = true → p y = false → l.countP p < l.countP q
 | [], _, y, hy, _, _ => by cases hy
 | a :: l, h, y, hy, hq, hp => by
  rw [List.countP_cons, List.countP_cons]
  rcases List.mem_cons.1 hy with rfl | hy
  ·
   have ih := countP_le (l := l) fun x hx => h x (List.mem_cons_of_mem _ hx)
   rw [hq, hp]
   simp; omega
  ·
   have ih := countP_lt (l := l) (fun x hx => h x (List.mem_cons_of_mem _ hx)) hy hq hp
   have := h a List.mem_cons_self
   cases hp : p a with
   | true => rw [this hp]; simp; exact ih
   | false => simp; omega
def cntN (R : List RuleD) (N a : Nat) : Nat := (List.range N).countP fun b => decide (a = b) || war (edgN R) N a b
theorem cntN_le (a : Nat) : cntN R N a ≤ N := by
 have := List.countP_le_length (p := fun b => decide (a = b) || war (edgN R) N a b) (l := List.range N)
 rwa [List.length_range] at this
theorem war_edg (hR : RulesN N R) {a b c : Nat} (h : edgN R a b = true) (h2 : (decide (b = c) || war (edgN R) N b c) = true) : war (edgN R) N a c = true := by
 rw [war_iff fun i j h => edg_lt hR h]
 rcases Bool.or_eq_true_iff.1 h2 with h3 | h3
 ·
  rw [← of_decide_eq_true h3]; exact .one h
 ·
  exact .step h (war_sound h3)
theorem cntN_mono (hR : RulesN N R) {a b : Nat} (h : edgN R a b = true) : cntN R N b ≤ cntN R N a :=
 countP_le fun c _ hc => by
  show (decide (a = c) || war (edgN R) N a c) = true
  rw [war_edg hR h hc, Bool.or_true]
theorem cntN_lt (hR : RulesN N R) {a b : Nat} (ha : a < N) (h : edgN R a b = true) (hne : b ≠ a) (hw : war (edgN R) N b a = false) : cntN R N b < cntN R N a :=
 countP_lt (fun c _ hc => by
  show (decide (a = c) || war (edgN R) N a c) = true
  rw [war_edg hR h hc, Bool.or_true]) (List.mem_range.2 ha) (by simp) (by simp [hne, hw])
theorem cntN_pos {a : Nat} (ha : a < N) : 1 ≤ cntN R N a := List.countP_pos_iff.2 ⟨a, List.mem_range.2 ha, by simp⟩
end
end Go.Proofs.Ytgaahpddlohjoaa
