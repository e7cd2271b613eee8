/- Plain laws of the longest word: where there are infinitely many words, and how long the longest one is. -/
import Derived.Test.YtfkapijfjihiiaaCensusPlain2
namespace Go.Proofs.Ytfkapijfjihiiaa

/-- what lens.Greatest tells -/
def GreatR (R : List RuleD) (st : Nat) (v : Int) : Prop :=
  (v = -1 ∧ ∀ k, ¬ Der R [(false, (st : Int))] k) ∨ (v = -2 ∧ ∀ m, ∃ k, m ≤ k ∧ Der R [(false, (st : Int))] k) ∨ (0 ≤ v ∧ Der R [(false, (st : Int))] v.toNat ∧ ∀ k, Der R [(false, (st : Int))] k → k ≤ v.toNat)
def Prod1 (R : List RuleD) (a : Nat) : Prop := ∃ k, Der R [(false, (a : Int))] k
theorem prod_list {R : List RuleD} {N : Nat} (hp : ∀ a, a < N → Prod1 R a) : ∀ {l : List SymD}, NonOk N l → ∃ k, Der R l k
  | [], _ => ⟨0, .nil⟩
  | s :: l, h => by
    obtain ⟨k, hk⟩ := prod_list hp h.tail
    obtain ⟨t, x⟩ := s
    cases t with
    | true => exact ⟨k + 1, .term hk⟩
    | false =>
      obtain ⟨h0, h1⟩ := h (false, x) (by simp) rfl
      obtain ⟨i, hi⟩ := hp _ h1
      rw [show ((x.toNat : Nat) : Int) = x by omega] at hi
      have := Der.append hi hk
      exact ⟨_, this⟩
/-- a symbol out of a list -/
theorem der_put {R : List RuleD} {l : List SymD} {p : Nat} {s : SymD} (h : l[p]? = some s) {m k : Nat} (h1 : Der R [s] m) (h2 : Der R (l.eraseIdx p) k) : Der R l (m + k) := by
  have hp := (List.getElem?_eq_some_iff.1 h).1
  have e : l = l.take p ++ ([s] ++ l.drop (p + 1)) := by
    conv => lhs; rw [← List.take_append_drop p l, List.drop_eq_getElem_cons hp]
    rw [(List.getElem?_eq_some_iff.1 h).2]
    rfl
  rw [List.eraseIdx_eq_take_drop_succ, Der.append_iff] at h2
  obtain ⟨i, hi, h3, h4⟩ := h2
  rw [e]
  have := Der.append h3 (Der.append h1 h4)
  rwa [show i + (m + (k - i)) = m + k by omega] at this
def growS (G : Nat → Bool) (s : SymD) : Bool := s.1 || G s.2.toNat
/-- what has a word that is not empty, in a grammar where all have words -/
theorem grow_der {R : List RuleD} {N : Nat} (hp : ∀ a, a < N → Prod1 R a) {G : Nat → Bool} (hs : ∀ a, a < N → G a = true → ∃ k, 1 ≤ k ∧ Der R [(false, (a : Int))] k) {l : List SymD} (hl : NonOk N l) (h : l.any (growS G) = true) : ∃ k, 1 ≤ k ∧ Der R l k := by
  obtain ⟨s, hs1, hs2⟩ := List.any_eq_true.1 h
  obtain ⟨p, hp1⟩ := List.getElem?_of_mem hs1
  obtain ⟨k, hk⟩ := prod_list hp (l := l.eraseIdx p) (fun x hx => hl x (List.mem_of_mem_eraseIdx hx))
  obtain ⟨t, x⟩ := s
  cases t with
  | true => exact ⟨1 + k, by omega, der_put hp1 (.term .nil) hk⟩
  | false =>
    obtain ⟨h0, h1⟩ := hl (false, x) hs1 rfl
    obtain ⟨m, hm, hd⟩ := hs _ h1 (by simpa [growS] using hs2)
    rw [show ((x.toNat : Nat) : Int) = x by omega] at hd
    exact ⟨m + k, by omega, der_put hp1 hd hk⟩
theorem der_grow {R : List RuleD} {G : Nat → Bool} (hc : ∀ r ∈ R, r.2.any (growS G) = true → G r.1.toNat = true) {l : List SymD} {k : Nat} (h : Der R l k) (hk : 1 ≤ k) : l.any (growS G) = true := by
  induction h with
  | nil => omega
  | term _ _ => simp [growS]
  | @non A r l i j hm _ _ ih1 ih2 =>
    rw [List.any_cons]
    rcases Nat.eq_zero_or_pos i with h0 | h0
    · rw [ih2 (by omega), Bool.or_true]
    · have := hc _ hm (ih1 h0)
      simp [growS, this]
/-- the nonterminals of right sides -/
def edgN (R : List RuleD) (i j : Nat) : Bool := R.any fun r => decide (r.1 = (i : Int)) && r.2.contains (false, (j : Int))
theorem edgN_iff {R : List RuleD} {i j : Nat} : edgN R i j = true ↔ ∃ r ∈ R, r.1 = (i : Int) ∧ (false, (j : Int)) ∈ r.2 := by
  simp only [edgN, List.any_eq_true, Bool.and_eq_true, decide_eq_true_eq, List.contains_iff_mem]
/-- a nonterminal beside something that has a word that is not empty -/
def More (R : List RuleD) (G : Nat → Bool) (i j : Nat) : Prop := ∃ r ∈ R, r.1 = (i : Int) ∧ ∃ p, r.2[p]? = some (false, (j : Int)) ∧ (r.2.eraseIdx p).any (growS G) = true
def EndlessP (R : List RuleD) (G : Nat → Bool) (N : Nat) : Prop := ∃ i j, More R G i j ∧ (i = j ∨ war (edgN R) N j i = true)
section
variable {R : List RuleD} {N : Nat} {G : Nat → Bool}
theorem edg_lt (hR : RulesN N R) {i j : Nat} (h : edgN R i j = true) : j < N := by
  obtain ⟨r, hr, _, hm⟩ := edgN_iff.1 h
  have := ((hR r hr).2 _ hm rfl).2
  simpa using this
theorem edg_ge (hR : RulesN N R) (hp : ∀ a, a < N → Prod1 R a) {i j k : Nat} (h : edgN R i j = true) (hd : Der R [(false, (j : Int))] k) : ∃ k', k ≤ k' ∧ Der R [(false, (i : Int))] k' := by
  obtain ⟨r, hr, hi, hm⟩ := edgN_iff.1 h
  obtain ⟨p, hp1⟩ := List.getElem?_of_mem hm
  obtain ⟨q, hq⟩ := prod_list hp (l := r.2.eraseIdx p) (fun x hx => (hR r hr).2 x (List.mem_of_mem_eraseIdx hx))
  refine ⟨k + q, by omega, Der.non_iff.2 ⟨r.2, ?_, der_put hp1 hd hq⟩⟩
  rw [← hi]
  exact hr
theorem reach_ge (hR : RulesN N R) (hp : ∀ a, a < N → Prod1 R a) {i j k : Nat} (h : Reach (fun i j => edgN R i j = true) i j) (hd : Der R [(false, (j : Int))] k) : ∃ k', k ≤ k' ∧ Der R [(false, (i : Int))] k' := by
  induction h with
  | one h => exact edg_ge hR hp h hd
  | step h _ ih =>
    obtain ⟨k1, h1, h2⟩ := ih hd
    obtain ⟨k2, h3, h4⟩ := edg_ge hR hp h h2
    exact ⟨k2, by omega, h4⟩
theorem endless_many (hR : RulesN N R) (hp : ∀ a, a < N → Prod1 R a) (hs : ∀ a, a < N → G a = true → ∃ k, 1 ≤ k ∧ Der R [(false, (a : Int))] k) {st : Nat} (hreach : ∀ a, a < N → st = a ∨ Reach (fun i j => edgN R i j = true) st a) (he : EndlessP R G N) :
    ∀ m, ∃ k, m ≤ k ∧ Der R [(false, (st : Int))] k := by
  obtain ⟨i, j, ⟨r, hr, hi, p, hp1, hp2⟩, hij⟩ := he
  have hiN : i < N := by have := (hR r hr).1.2; rw [hi] at this; simpa using this
  obtain ⟨q, hq1, hq⟩ := grow_der hp hs (fun x hx => (hR r hr).2 x (List.mem_of_mem_eraseIdx hx)) hp2
  have hloop : ∀ m, ∃ k, m ≤ k ∧ Der R [(false, (i : Int))] k := by
    intro m
    induction m with
    | zero =>
      obtain ⟨k, hk⟩ := hp i hiN
      exact ⟨k, Nat.zero_le _, hk⟩
    | succ m ih =>
      obtain ⟨k, hk, hd⟩ := ih
      obtain ⟨k1, hk1, hd1⟩ : ∃ k1, k ≤ k1 ∧ Der R [(false, (j : Int))] k1 := by
        rcases hij with h | h
        · exact ⟨k, Nat.le_refl _, h ▸ hd⟩
        · exact reach_ge hR hp (war_sound h) hd
      refine ⟨k1 + q, by omega, Der.non_iff.2 ⟨r.2, ?_, der_put hp1 hd1 hq⟩⟩
      rw [← hi]
      exact hr
  intro m
  obtain ⟨k, hk, hd⟩ := hloop m
  rcases hreach i hiN with h | h
  · exact ⟨k, hk, h ▸ hd⟩
  · obtain ⟨k1, hk1, hd1⟩ := reach_ge hR hp h hd
    exact ⟨k1, by omega, hd1⟩
theorem countP_le {α : Type} {p q : α → Bool} : ∀ {l : List α}, (∀ x ∈ l, p x = true → q x = true) → l.countP p ≤ l.countP q
  | [], _ => Nat.le_refl _
  | a :: l, h => by
    have ih := countP_le (l := l) fun x hx => h x (List.mem_cons_of_mem _ hx)
    rw [List.countP_cons, List.countP_cons]
    have := h a List.mem_cons_self
    cases hp : p a with
    | true => rw [this hp]; simp; exact ih
    | false => simp; omega
theorem countP_lt {α : Type} {p q : α → Bool} : ∀ {l : List α}, (∀ x ∈ l, p x = true → q x = true) → ∀ {y : α}, y ∈ l → q y = true → p y = false → l.countP p < l.countP q
  | [], _, y, hy, _, _ => by cases hy
  | a :: l, h, y, hy, hq, hp => by
    rw [List.countP_cons, List.countP_cons]
    rcases List.mem_cons.1 hy with rfl | hy
    · have ih := countP_le (l := l) fun x hx => h x (List.mem_cons_of_mem _ hx)
      rw [hq, hp]
      simp; omega
    · have ih := countP_lt (l := l) (fun x hx => h x (List.mem_cons_of_mem _ hx)) hy hq hp
      have := h a List.mem_cons_self
      cases hp : p a with
      | true => rw [this hp]; simp; exact ih
      | false => simp; omega
/-- how many nonterminals are reached -/
def cntN (R : List RuleD) (N a : Nat) : Nat := (List.range N).countP fun b => decide (a = b) || war (edgN R) N a b
theorem cntN_le (a : Nat) : cntN R N a ≤ N := by
  have := List.countP_le_length (p := fun b => decide (a = b) || war (edgN R) N a b) (l := List.range N)
  rwa [List.length_range] at this
theorem war_edg (hR : RulesN N R) {a b c : Nat} (h : edgN R a b = true) (h2 : (decide (b = c) || war (edgN R) N b c) = true) : war (edgN R) N a c = true := by
  rw [war_iff fun i j h => edg_lt hR h]
  rcases Bool.or_eq_true_iff.1 h2 with h3 | h3
  · rw [← of_decide_eq_true h3]; exact .one h
  · exact .step h (war_sound h3)
theorem cntN_mono (hR : RulesN N R) {a b : Nat} (h : edgN R a b = true) : cntN R N b ≤ cntN R N a :=
  countP_le fun c _ hc => by
    show (decide (a = c) || war (edgN R) N a c) = true
    rw [war_edg hR h hc, Bool.or_true]
theorem cntN_lt (hR : RulesN N R) {a b : Nat} (ha : a < N) (h : edgN R a b = true) (hne : b ≠ a) (hw : war (edgN R) N b a = false) : cntN R N b < cntN R N a :=
  countP_lt (fun c _ hc => by
    show (decide (a = c) || war (edgN R) N a c) = true
    rw [war_edg hR h hc, Bool.or_true]) (List.mem_range.2 ha) (by simp) (by simp [hne, hw])
theorem cntN_pos {a : Nat} (ha : a < N) : 1 ≤ cntN R N a := List.countP_pos_iff.2 ⟨a, List.mem_range.2 ha, by simp⟩
/-- a bound of the words' lengths, where there are not infinitely many -/
def bndS (R : List RuleD) (G : Nat → Bool) (N : Nat) (s : SymD) : Nat := if s.1 = true then 1 else if G s.2.toNat = true then 4 ^ cntN R N s.2.toNat else 0
def bndL (R : List RuleD) (G : Nat → Bool) (N : Nat) (l : List SymD) : Nat := (l.map (bndS R G N)).sum
theorem sum_erase (f : SymD → Nat) : ∀ {l : List SymD} {p : Nat} {s : SymD}, l[p]? = some s → (l.map f).sum = f s + ((l.eraseIdx p).map f).sum
  | [], p, s, h => by simp at h
  | a :: l, 0, s, h => by
    injection h with h
    subst h
    simp
  | a :: l, p + 1, s, h => by
    rw [List.getElem?_cons_succ] at h
    have := sum_erase f h
    simp only [List.map_cons, List.sum_cons, List.eraseIdx_cons_succ, this]
    omega
theorem sum_leB {f : SymD → Nat} {B : Nat} : ∀ {l : List SymD}, (∀ s ∈ l, f s ≤ B) → (l.map f).sum ≤ l.length * B
  | [], _ => by simp
  | a :: l, h => by
    have h1 := h a List.mem_cons_self
    have h2 := sum_leB (l := l) fun s hs => h s (List.mem_cons_of_mem _ hs)
    simp only [List.map_cons, List.sum_cons, List.length_cons, Nat.add_mul]
    omega
theorem bnd_zero {l : List SymD} (h : l.any (growS G) = false) : bndL R G N l = 0 := by
  have := sum_leB (f := bndS R G N) (B := 0) (l := l) fun s hs => by
    have h1 := List.any_eq_false.1 h s hs
    simp only [growS, Bool.or_eq_true, not_or] at h1
    unfold bndS
    rw [if_neg h1.1, if_neg h1.2]
    exact Nat.le_refl _
  simpa [bndL] using this
theorem bnd_rule (hR : RulesN N R) (hlen : ∀ r ∈ R, r.2.length ≤ 4) (hc : ∀ r ∈ R, r.2.any (growS G) = true → G r.1.toNat = true) (hne : ¬ EndlessP R G N) {r : RuleD} (hr : r ∈ R) : bndL R G N r.2 ≤ bndS R G N (false, r.1) := by
  obtain ⟨⟨ha0, haN⟩, hok⟩ := hR r hr
  cases hany : r.2.any (growS G) with
  | false => rw [bnd_zero hany]; exact Nat.zero_le _
  | true =>
    have hg := hc r hr hany
    have hA : bndS R G N (false, r.1) = 4 ^ cntN R N r.1.toNat := by unfold bndS; rw [if_neg (by simp), if_pos hg]
    rw [hA]
    by_cases hself : ∃ (p : Nat) (b : Int), r.2[p]? = some (false, b) ∧ G b.toNat = true ∧ (b.toNat = r.1.toNat ∨ war (edgN R) N b.toNat r.1.toNat = true)
    · obtain ⟨p, b, hp, hgb, hb⟩ := hself
      have hmem := List.mem_of_getElem? hp
      have hb0 := (hok _ hmem rfl).1
      have hed : edgN R r.1.toNat b.toNat = true := edgN_iff.2 ⟨r, hr, by omega, by rw [show ((b.toNat : Nat) : Int) = b by omega]; exact hmem⟩
      have hno : (r.2.eraseIdx p).any (growS G) = false := by
        cases hh : (r.2.eraseIdx p).any (growS G) with
        | false => rfl
        | true =>
          exact absurd ⟨r.1.toNat, b.toNat, ⟨r, hr, by omega, p, by rw [show ((b.toNat : Nat) : Int) = b by omega]; exact hp, hh⟩, hb.imp Eq.symm id⟩ hne
      rw [bndL, sum_erase _ hp, show ((r.2.eraseIdx p).map (bndS R G N)).sum = 0 from bnd_zero hno]
      unfold bndS
      rw [if_neg (by simp), if_pos hgb]
      exact Nat.pow_le_pow_right (by omega) (cntN_mono hR hed)
    · have hpos := cntN_pos (R := R) haN
      obtain ⟨c, hcn⟩ : ∃ c, cntN R N r.1.toNat = c + 1 := ⟨cntN R N r.1.toNat - 1, by omega⟩
      have h1 : bndL R G N r.2 ≤ r.2.length * 4 ^ c := sum_leB fun s hs => by
        obtain ⟨t, b⟩ := s
        unfold bndS
        have hpow : 1 ≤ 4 ^ c := Nat.pos_of_ne_zero (by simp)
        cases t with
        | true => rw [if_pos rfl]; exact hpow
        | false =>
          rw [if_neg (by simp)]
          split
          · rename_i hgb
            obtain ⟨hb0, hbN⟩ := hok _ hs rfl
            obtain ⟨p, hp⟩ := List.getElem?_of_mem hs
            have hed : edgN R r.1.toNat b.toNat = true := edgN_iff.2 ⟨r, hr, by omega, by rw [show ((b.toNat : Nat) : Int) = b by omega]; exact hs⟩
            have hlt := cntN_lt hR haN hed (fun e => hself ⟨p, b, hp, hgb, .inl e⟩) (by
              cases hw : war (edgN R) N b.toNat r.1.toNat with
              | false => rfl
              | true => exact absurd ⟨p, b, hp, hgb, .inr hw⟩ hself)
            exact Nat.pow_le_pow_right (by omega) (by show cntN R N b.toNat ≤ c; omega)
          · exact Nat.zero_le _
      have h4 := hlen r hr
      have h2 : r.2.length * 4 ^ c ≤ 4 * 4 ^ c := Nat.mul_le_mul_right _ h4
      rw [hcn, Nat.pow_succ, Nat.mul_comm]
      omega
theorem der_bnd (hR : RulesN N R) (hlen : ∀ r ∈ R, r.2.length ≤ 4) (hc : ∀ r ∈ R, r.2.any (growS G) = true → G r.1.toNat = true) (hne : ¬ EndlessP R G N) {l : List SymD} {k : Nat} (h : Der R l k) : k ≤ bndL R G N l := by
  induction h with
  | nil => exact Nat.zero_le _
  | term _ ih =>
    simp only [bndL, List.map_cons, List.sum_cons] at ih ⊢
    have : ∀ x, bndS R G N (true, x) = 1 := fun x => by unfold bndS; rw [if_pos rfl]
    rw [this]
    omega
  | non hm _ _ ih1 ih2 =>
    have := bnd_rule hR hlen hc hne hm
    simp only [bndL, List.map_cons, List.sum_cons] at ih1 ih2 this ⊢
    omega
theorem der_le (hR : RulesN N R) (hN : N ≤ 10) (hlen : ∀ r ∈ R, r.2.length ≤ 4) (hc : ∀ r ∈ R, r.2.any (growS G) = true → G r.1.toNat = true) (hne : ¬ EndlessP R G N) {a k : Nat} (h : Der R [(false, (a : Int))] k) : k ≤ 1048576 := by
  have h1 := der_bnd hR hlen hc hne h
  have h2 : bndS R G N (false, (a : Int)) ≤ 1048576 := by
    unfold bndS
    rw [if_neg (by simp)]
    split
    · have h3 : 4 ^ cntN R N ((a : Int).toNat) ≤ 4 ^ 10 := Nat.pow_le_pow_right (by omega) (Nat.le_trans (cntN_le _) hN)
      exact Nat.le_trans h3 (by decide)
    · exact Nat.zero_le _
  simp only [bndL, List.map_cons, List.map_nil, List.sum_cons, List.sum_nil] at h1
  omega
/-- the lengths found so far -/
def addM (ms : List Int) (n : Int) (s : SymD) : Int := if s.1 = true then n + 1 else n + ms.getD s.2.toNat 0
def ruleM (ms : List Int) (l : List SymD) : Int := l.foldl (addM ms) 0
def SoundM (R : List RuleD) (ms : List Int) : Prop := ∀ (a : Nat) (x : Int), ms[a]? = some x → 0 ≤ x ∧ ∃ k : Nat, x.toNat ≤ k ∧ Der R [(false, (a : Int))] k
def ClosedM (R : List RuleD) (ms : List Int) : Prop := ∀ r ∈ R, ruleM ms r.2 ≤ ms.getD r.1.toNat 0
theorem getD_in {ms : List Int} {a : Nat} (h : a < ms.length) : ms[a]? = some (ms.getD a 0) := by
  rw [List.getD_eq_getElem?_getD, List.getElem?_eq_getElem h]; rfl
theorem fold_soundM {ms : List Int} (hS : SoundM R ms) (hl : ms.length = N) : ∀ {l : List SymD} {n : Int}, NonOk N l → 0 ≤ n → n ≤ l.foldl (addM ms) n ∧ ∃ k : Nat, l.foldl (addM ms) n - n ≤ (k : Int) ∧ Der R l k
  | [], n, _, hn => ⟨Int.le_refl _, 0, by simp, .nil⟩
  | s :: l, n, h, hn => by
    obtain ⟨t, x⟩ := s
    cases t with
    | true =>
      obtain ⟨h1, k, h2, h3⟩ := fold_soundM hS hl (l := l) (n := n + 1) h.tail (by omega)
      refine ⟨?_, k + 1, ?_, .term h3⟩
      · simp only [List.foldl_cons, addM, if_pos]; omega
      · simp only [List.foldl_cons, addM, if_pos]; omega
    | false =>
      obtain ⟨hx0, hxN⟩ := h (false, x) (by simp) rfl
      have hx0' : 0 ≤ x := hx0
      have hxN' : x.toNat < N := hxN
      obtain ⟨hm0, k0, hk0, hd0⟩ := hS _ _ (getD_in (ms := ms) (a := x.toNat) (by omega))
      obtain ⟨h1, k, h2, h3⟩ := fold_soundM hS hl (l := l) (n := n + ms.getD x.toNat 0) h.tail (by omega)
      rw [show ((x.toNat : Nat) : Int) = x by omega] at hd0
      have hE : addM ms n (false, x) = n + ms.getD x.toNat 0 := by unfold addM; rw [if_neg (by simp)]
      refine ⟨?_, k0 + k, ?_, Der.append hd0 h3⟩
      · rw [List.foldl_cons, hE]; omega
      · rw [List.foldl_cons, hE]; omega
theorem fold_closedM {ms : List Int} (hC : ClosedM R ms) {l : List SymD} {k : Nat} (h : Der R l k) : ∀ {n : Int}, n + k ≤ l.foldl (addM ms) n := by
  induction h with
  | nil => intro n; simp
  | term _ ih =>
    intro n
    rw [List.foldl_cons, addM, if_pos rfl]
    have := ih (n := n + 1)
    omega
  | @non A r l i j hm _ _ ih1 ih2 =>
    intro n
    rw [List.foldl_cons, addM, if_neg (by simp)]
    have h1 := ih1 (n := 0)
    have h2 := hC _ hm
    have h3 := ih2 (n := n + ms.getD A.toNat 0)
    unfold ruleM at h2
    simp only at h2 h3 ⊢
    omega
theorem great_of {ms : List Int} (hS : SoundM R ms) (hC : ClosedM R ms) {st : Nat} (hst : st < ms.length) : GreatR R st (ms.getD st 0) := by
  have h0 : ∀ a, 0 ≤ ms.getD a 0 := fun a => by
    rcases Nat.lt_or_ge a ms.length with h | h
    · exact (hS a _ (getD_in h)).1
    · rw [List.getD_eq_getElem?_getD, List.getElem?_eq_none h]; exact Int.le_refl _
  have hle : ∀ k, Der R [(false, (st : Int))] k → k ≤ (ms.getD st 0).toNat := fun k hk => by
    have h1 := fold_closedM hC hk (n := 0)
    have h2 : [(false, (st : Int))].foldl (addM ms) 0 = ms.getD st 0 := by
      rw [List.foldl_cons, List.foldl_nil, addM, if_neg (by simp), Int.zero_add]; rfl
    rw [h2] at h1
    have := h0 st
    omega
  obtain ⟨h1, k, h2, h3⟩ := hS st _ (getD_in hst)
  refine .inr (.inr ⟨h1, ?_, hle⟩)
  have h4 := hle k h3
  obtain rfl : k = (ms.getD st 0).toNat := by omega
  exact h3
/-- the words found grow -/
theorem great_up {ms : List Int} (hS : SoundM R ms) (hR : RulesN N R) (hl : ms.length = N) {r : RuleD} (hr : r ∈ R) : SoundM R (ms.set r.1.toNat (ruleM ms r.2)) := by
  intro a x hx
  obtain ⟨h1, k, h2, h3⟩ := fold_soundM hS hl (hR r hr).2 (Int.le_refl 0)
  rw [List.getElem?_set] at hx
  split at hx
  · rename_i e
    subst e
    split at hx
    · injection hx with hx
      subst hx
      have h4 := (hR r hr).1.1
      refine ⟨h1, k, by unfold ruleM; omega, Der.non_iff.2 ⟨r.2, ?_, h3⟩⟩
      rw [show ((r.1.toNat : Nat) : Int) = r.1 by omega]
      exact hr
    · cases hx
  · exact hS a x hx
end
theorem GreatR.unique {R : List RuleD} {st : Nat} {v v' : Int} (h : GreatR R st v) (h' : GreatR R st v') : v = v' := by
  rcases h with ⟨h1, h2⟩ | ⟨h1, h2⟩ | ⟨h1, h2, h3⟩ <;> rcases h' with ⟨k1, k2⟩ | ⟨k1, k2⟩ | ⟨k1, k2, k3⟩
  · omega
  · obtain ⟨k, _, hk⟩ := k2 0; exact absurd hk (h2 k)
  · exact absurd k2 (h2 _)
  · obtain ⟨k, _, hk⟩ := h2 0; exact absurd hk (k2 k)
  · omega
  · obtain ⟨k, hk1, hk⟩ := h2 (v'.toNat + 1); have := k3 k hk; omega
  · exact absurd h2 (k2 _)
  · obtain ⟨k, hk1, hk⟩ := k2 (v.toNat + 1); have := h3 k hk; omega
  · have := h3 _ k2; have := k3 _ h2; omega
end Go.Proofs.Ytfkapijfjihiiaa
