/- CensusPlain CensusPlain2 -/
import Derived.Test.YtbmcoamdfpegnaaMn04
namespace Go.Proofs.Ytbmcoamdfpegnaa
inductive Der (R : List RuleD) : List SymD → Nat → Prop
 | nil : Der R [] 0
 | term {x : Int} {l : List SymD} {k : Nat} : Der R l k → Der R ((true, x) :: l) (k + 1)
 | non {A : Int} {r l : List SymD} {i j : Nat} : (A, r) ∈ R → Der R r i → Der R l j → Der R ((false, A) :: l) (i + j)
section
variable {R R' : List RuleD}
theorem Der.mono (hR : ∀ r ∈ R, r ∈ R') {l : List SymD} {k : Nat} (h : Der R l k) : Der R' l k := by
 induction h with
 | nil => exact .nil
 | term _ ih => exact .term ih
 | non hm _ _ h1 h2 => exact .non (hR _ hm) h1 h2
theorem Der.nil_iff {k : Nat} : Der R [] k ↔ k = 0 := ⟨fun h => by cases h; rfl, fun h => by subst h; exact .nil⟩
theorem Der.term_iff {x : Int} {k : Nat} : Der R [(true, x)] k ↔ k = 1 := by
 constructor
 ·
  intro h
  cases h with
  | term h => rw [Der.nil_iff] at h; omega
 ·
  rintro rfl
  exact .term .nil
theorem Der.non_iff {A : Int} {k : Nat} : Der R [(false, A)] k ↔ ∃ r, (A, r) ∈ R ∧ Der R r k := by
 constructor
 ·
  intro h
  cases h with
  | non hm h1 h2 =>
   rw [Der.nil_iff] at h2
   subst h2
   exact ⟨_, hm, h1⟩
 ·
  rintro ⟨r, hm, h⟩
  have := Der.non hm h .nil
  simpa using this
theorem Der.append {l m : List SymD} {i j : Nat} (h : Der R l i) (h' : Der R m j) : Der R (l ++ m) (i + j) := by
 induction h with
 | nil => simpa using h'
 | term _ ih => rw [List.cons_append, Nat.add_right_comm]; exact .term ih
 | non hm h1 _ _ ih => rw [List.cons_append, Nat.add_assoc]; exact .non hm h1 ih
theorem Der.cons_iff {s : SymD} {l : List SymD} {k : Nat} : Der R (s :: l) k ↔ ∃ i, i ≤ k ∧ Der R [s] i ∧ Der R l (k - i) := by
 constructor
 ·
  intro h
  cases h with
  | term h => exact ⟨1, by omega, .term .nil, by simpa using h⟩
  | non hm h1 h2 => exact ⟨_, by omega, Der.non_iff.2 ⟨_, hm, h1⟩, by simpa using h2⟩
 ·
  rintro ⟨i, hi, h1, h2⟩
  have := Der.append h1 h2
  rwa [List.singleton_append, show i + (k - i) = k by omega] at this
end
def hasT (S : Nat → Nat → Bool) (s : SymD) (k : Nat) : Bool := if s.1 then k == 1 else S s.2.toNat k
def canT (S : Nat → Nat → Bool) : List SymD → Nat → Bool
 | [], k => k == 0
 | s :: l, k => (List.range (k + 1)).any fun i => hasT S s i && canT S l (k - i)
theorem canT_cons {S : Nat → Nat → Bool} {s : SymD} {l : List SymD} {k : Nat} : canT S (s :: l) k = true ↔ ∃ i, i ≤ k ∧ hasT S s i = true ∧ canT S l (k - i) = true := by
 simp only [canT, List.any_eq_true, List.mem_range, Bool.and_eq_true]
 exact ⟨fun ⟨i, h1, h2, h3⟩ => ⟨i, by omega, h2, h3⟩, fun ⟨i, h1, h2, h3⟩ => ⟨i, by omega, h2, h3⟩⟩
def NonOk (N : Nat) (l : List SymD) : Prop := ∀ s ∈ l, s.1 = false → 0 ≤ s.2 ∧ s.2.toNat < N
theorem NonOk.tail {N : Nat} {s : SymD} {l : List SymD} (h : NonOk N (s :: l)) : NonOk N l := fun x hx => h x (by simp [hx])
theorem NonOk.head {N : Nat} {s : SymD} {l : List SymD} (h : NonOk N (s :: l)) : NonOk N [s] := fun x hx => h x (by simp at hx; simp [hx])
theorem NonOk.take {N : Nat} {l : List SymD} (h : NonOk N l) (k : Nat) : NonOk N (l.take k) := fun x hx => h x (List.mem_of_mem_take hx)
theorem NonOk.drop {N : Nat} {l : List SymD} (h : NonOk N l) (k : Nat) : NonOk N (l.drop k) := fun x hx => h x (List.mem_of_mem_drop hx)
def RulesN (N : Nat) (R : List RuleD) : Prop := ∀ r ∈ R, (0 ≤ r.1 ∧ r.1.toNat < N) ∧ NonOk N r.2
def Sound (R : List RuleD) (N n : Nat) (S : Nat → Nat → Bool) : Prop := ∀ a k, a < N → k ≤ n → S a k = true → Der R [(false, (a : Int))] k
theorem canT_sound {R : List RuleD} {N n : Nat} {S : Nat → Nat → Bool} (hS : Sound R N n S) : ∀ {l : List SymD} {k : Nat}, NonOk N l → k ≤ n → canT S l k = true → Der R l k
 | [], k, _, _, h => by
  have : k = 0 := by simpa [canT] using h
  subst this
  exact .nil
 | (t, x) :: l, k, hl, hk, h => by
  obtain ⟨i, hi, h1, h2⟩ := canT_cons.1 h
  refine Der.cons_iff.2 ⟨i, hi, ?_, canT_sound hS hl.tail (by omega) h2⟩
  cases t with
  | true => exact Der.term_iff.2 (by simpa [hasT] using h1)
  | false =>
   obtain ⟨h3, h4⟩ := hl (false, x) (by simp) rfl
   have := hS x.toNat i h4 (by omega) (by simpa [hasT] using h1)
   rwa [Int.toNat_of_nonneg h3] at this
def Closed (R : List RuleD) (n : Nat) (S : Nat → Nat → Bool) : Prop := ∀ r ∈ R, ∀ k, k ≤ n → canT S r.2 k = true → S r.1.toNat k = true
theorem canT_complete {R : List RuleD} {n : Nat} {S : Nat → Nat → Bool} (hC : Closed R n S) {l : List SymD} {k : Nat} (h : Der R l k) : k ≤ n → canT S l k = true := by
 induction h with
 | nil => intro _; rfl
 | term _ ih => intro hk; exact canT_cons.2 ⟨1, by omega, rfl, by simpa using ih (by omega)⟩
 | @non A r l i j hm _ _ h1 h2 =>
  intro hk
  refine canT_cons.2 ⟨i, by omega, ?_, by rw [Nat.add_sub_cancel_left]; exact h2 (by omega)⟩
  exact hC _ hm i (by omega) (h1 (by omega))
open Classical in
noncomputable def lenD (R : List RuleD) (a k : Nat) : Bool := decide (Der R [(false, (a : Int))] k)
theorem lenD_iff {R : List RuleD} {a k : Nat} : lenD R a k = true ↔ Der R [(false, (a : Int))] k := by simp [lenD]
theorem lenD_sound (R : List RuleD) (N n : Nat) : Sound R N n (lenD R) := fun _ _ _ _ h => lenD_iff.1 h
theorem canD_iff {R : List RuleD} {N : Nat} {l : List SymD} {k : Nat} (hl : NonOk N l) (hR : RulesN N R) : canT (lenD R) l k = true ↔ Der R l k := by
 constructor
 ·
  exact canT_sound (lenD_sound R N k) hl (Nat.le_refl _)
 ·
  intro h
  refine canT_complete (n := k) (S := lenD R) (fun r hr j hj hc => ?_) h (Nat.le_refl _)
  obtain ⟨⟨h1, h2⟩, h3⟩ := hR r hr
  rw [lenD_iff, Int.toNat_of_nonneg h1]
  exact Der.non_iff.2 ⟨r.2, hr, canT_sound (lenD_sound R N k) h3 hj hc⟩
theorem hasD_iff {R : List RuleD} {N : Nat} {s : SymD} {k : Nat} (hs : NonOk N [s]) : hasT (lenD R) s k = true ↔ Der R [s] k := by
 obtain ⟨t, x⟩ := s
 cases t with
 | true => simp [hasT, Der.term_iff]
 | false =>
  have := hs (false, x) (by simp) rfl
  have e : hasT (lenD R) (false, x) k = lenD R x.toNat k := by simp [hasT]
  rw [e, lenD_iff, Int.toNat_of_nonneg this.1]
end Go.Proofs.Ytbmcoamdfpegnaa
namespace Go.Proofs.Ytbmcoamdfpegnaa
inductive Reach {α : Type} (E : α → α → Prop) : α → α → Prop
 | one {a b : α} : E a b → Reach E a b
 | step {a b c : α} : E a b → Reach E b c → Reach E a c
theorem Reach.trans {α : Type} {E : α → α → Prop} {a b c : α} (h : Reach E a b) (h' : Reach E b c) : Reach E a c := by
 induction h with
 | one h => exact .step h h'
 | step h _ ih => exact .step h (ih h')
theorem Reach.mono {α : Type} {E E' : α → α → Prop} (hE : ∀ a b, E a b → E' a b) {a b : α} (h : Reach E a b) : Reach E' a b := by
 induction h with
 | one h => exact .one (hE _ _ h)
 | step h _ ih => exact .step (hE _ _ h) ih
def Edge (R : List RuleD) (x y : Nat × Nat) : Prop :=
 ∃ r ∈ R, r.1 = (x.1 : Int) ∧ ∃ a b, r.2 = a ++ (false, (y.1 : Int)) :: b ∧ ∃ p q, p + y.2 + q = x.2 ∧ Der R a p ∧ Der R b q ∧ Der R [(false, (y.1 : Int))] y.2
theorem Edge.mono {R R' : List RuleD} (hR : ∀ r ∈ R, r ∈ R') {x y : Nat × Nat} (h : Edge R x y) : Edge R' x y := by
 obtain ⟨r, hr, h1, a, b, h2, p, q, h3, h4, h5, h6⟩ := h
 exact ⟨r, hR r hr, h1, a, b, h2, p, q, h3, h4.mono hR, h5.mono hR, h6.mono hR⟩
theorem Edge.le {R : List RuleD} {x y : Nat × Nat} (h : Edge R x y) : y.2 ≤ x.2 := by
 obtain ⟨r, hr, h1, a, b, h2, p, q, h3, _⟩ := h
 omega
theorem Edge.lt {R : List RuleD} {N : Nat} (hR : RulesN N R) {x y : Nat × Nat} (h : Edge R x y) : y.1 < N := by
 obtain ⟨r, hr, h1, a, b, h2, _⟩ := h
 have := (hR r hr).2 (false, (y.1 : Int)) (by rw [h2]; simp) rfl
 simpa using this.2
def Many (R : List RuleD) (x : Nat × Nat) : Prop := ∃ y, (x = y ∨ Reach (Edge R) x y) ∧ Reach (Edge R) y y
theorem Many.mono {R R' : List RuleD} (hR : ∀ r ∈ R, r ∈ R') {x : Nat × Nat} (h : Many R x) : Many R' x := by
 obtain ⟨y, h1, h2⟩ := h
 exact ⟨y, h1.imp id (·.mono fun _ _ => Edge.mono hR), h2.mono fun _ _ => Edge.mono hR⟩
theorem Many.back {R : List RuleD} {x y : Nat × Nat} (h : Edge R x y) (hm : Many R y) : Many R x := by
 obtain ⟨z, h1, h2⟩ := hm
 rcases h1 with rfl | h1
 ·
  exact ⟨y, .inr (.one h), h2⟩
 ·
  exact ⟨z, .inr (.step h h1), h2⟩
def nodeOf (n i : Nat) : Nat × Nat := (i / (n + 1), i % (n + 1))
def numOf (n : Nat) (x : Nat × Nat) : Nat := x.1 * (n + 1) + x.2
theorem nodeOf_num {n : Nat} {x : Nat × Nat} (h : x.2 ≤ n) : nodeOf n (numOf n x) = x := by
 unfold nodeOf numOf
 rw [Nat.mul_comm, Nat.mul_add_div (by omega), Nat.div_eq_of_lt (by omega), Nat.mul_add_mod, Nat.mod_eq_of_lt (by omega)]
 simp
theorem numOf_lt {n N : Nat} {x : Nat × Nat} (h1 : x.1 < N) (h2 : x.2 ≤ n) : numOf n x < N * (n + 1) := by
 unfold numOf
 have : (x.1 + 1) * (n + 1) ≤ N * (n + 1) := Nat.mul_le_mul_right _ (by omega)
 rw [Nat.add_mul] at this
 omega
theorem pigeon : ∀ {n : Nat} {l : List Nat}, l.Nodup → (∀ x ∈ l, x < n) → l.length ≤ n
 | 0, [], _, _ => Nat.le_refl _
 | 0, x :: _, _, h => absurd (h x (by simp)) (by omega)
 | n + 1, l, hd, h => by
  have h1 : (l.erase n).length ≤ n := pigeon (hd.erase n) fun x hx => by
   have h2 := h x (List.mem_of_mem_erase hx)
   have h3 : x ≠ n := fun e => by subst e; exact (List.Nodup.not_mem_erase hd) hx
   omega
  have := List.length_erase (a := n) (l := l)
  split at this <;> omega
theorem acc_of_few {R : List RuleD} {N n : Nat} (hR : RulesN N R) : ∀ (m : Nat) (vis : List (Nat × Nat)) (x : Nat × Nat), vis.Nodup → (∀ v ∈ vis, (v.1 < N ∧ v.2 ≤ n) ∧ Reach (Edge R) v x) → x.1 < N → x.2 ≤ n → ¬ Many R x → N * (n + 1) - vis.length ≤ m →
    Acc (fun y x => Edge R x y) x
 | m, vis, x, hd, hv, h1, h2, hm, hle => by
  have hx : x ∉ vis := fun h => hm ⟨x, .inl rfl, (hv x h).2⟩
  have hlen : (x :: vis).length ≤ N * (n + 1) := by
   have := pigeon (n := N * (n + 1)) (l := (x :: vis).map (numOf n)) (by
    rw [List.nodup_iff_pairwise_ne, List.pairwise_map]
    refine List.Pairwise.imp_of_mem (R := (· ≠ ·)) ?_ (List.nodup_cons.2 ⟨hx, hd⟩)
    intro a b ha hb hne e
    have ha2 : a.2 ≤ n := by rcases List.mem_cons.1 ha with rfl | h; exact h2; exact (hv a h).1.2
    have hb2 : b.2 ≤ n := by rcases List.mem_cons.1 hb with rfl | h; exact h2; exact (hv b h).1.2
    have := congrArg (nodeOf n) e
    rw [nodeOf_num ha2, nodeOf_num hb2] at this
    exact hne this) (by
    intro q hq
    obtain ⟨v, hv', rfl⟩ := List.mem_map.1 hq
    rcases List.mem_cons.1 hv' with rfl | h
    ·
     exact numOf_lt h1 h2
    ·
     exact numOf_lt (hv v h).1.1 (hv v h).1.2)
   simpa using this
  refine Acc.intro x fun y hy => ?_
  match m with
  | 0 => simp only [List.length_cons] at hlen; omega
  | m + 1 =>
   refine acc_of_few hR m (x :: vis) y (List.nodup_cons.2 ⟨hx, hd⟩) ?_ (hy.lt hR) (Nat.le_trans hy.le h2) (fun h => hm (h.back hy)) (by simp only [List.length_cons]; omega)
   intro v hv'
   rcases List.mem_cons.1 hv' with rfl | h
   ·
    exact ⟨⟨h1, h2⟩, .one hy⟩
   ·
    exact ⟨(hv v h).1, (hv v h).2.trans (.one hy)⟩
theorem acc_few {R : List RuleD} {N : Nat} (hR : RulesN N R) {x : Nat × Nat} (h1 : x.1 < N) (hm : ¬ Many R x) : Acc (fun y x => Edge R x y) x :=
 acc_of_few (n := x.2) hR (N * (x.2 + 1)) [] x .nil (by simp) h1 (Nat.le_refl _) hm (by simp)
end Go.Proofs.Ytbmcoamdfpegnaa
