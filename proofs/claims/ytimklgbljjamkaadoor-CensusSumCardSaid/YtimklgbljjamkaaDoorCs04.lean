/- Rep2 CensusPlain -/
import Derived.Test.YtimklgbljjamkaaDoorCs03
namespace Go.Proofs.YtimklgbljjamkaaDoor
open Go.RowKit
def Rep.prod {α β : Type} (R : Rep α) (Q : Rep β) : Rep (α × β) where
 size := R.size + Q.size
 ok := fun w S cs p => ∃ c1 c2, cs = c1 ++ c2 ∧ R.ok w S c1 p.1 ∧ Q.ok w S c2 p.2
 pos := by have := R.pos; omega
 len := by rintro _ _ _ _ ⟨c1, c2, rfl, h1, h2⟩; rw [List.length_append, R.len h1, Q.len h2]
 keep := by rintro _ _ _ _ _ ⟨c1, c2, rfl, h1, h2⟩ hk; exact ⟨c1, c2, rfl, R.keep h1 hk, Q.keep h2 hk⟩
 more := by rintro _ _ _ _ _ ⟨c1, c2, rfl, h1, h2⟩ hS; exact ⟨c1, c2, rfl, R.more h1 hS, Q.more h2 hS⟩
 fit := by rintro _ _ _ _ ⟨c1, c2, rfl, h1, h2⟩; exact ⟨c1, c2, rfl, R.fit h1, Q.fit h2⟩
 one := by
  rintro _ _ _ _ ⟨c1, c2, rfl, h1, h2⟩ u hu
  rcases List.mem_append.1 hu with h | h
  ·
   exact R.one h1 u h
  ·
   exact Q.one h2 u h
abbrev SymD := Bool × Int
abbrev RuleD := Int × List SymD
abbrev GramD := Int × Int × Int × List RuleD
abbrev RSym : Rep SymD := Rep.prod Rep.bool Rep.int
abbrev RRule : Rep RuleD := Rep.prod Rep.int (Rep.slice RSym)
section
variable {w : World} {S : Nat → Prop} {cs : List Value}
theorem RSym.cells {s : SymD} : RSym.ok w S cs s ↔ cs = [.bool s.1, .int .i64 s.2] := by
 constructor
 ·
  rintro ⟨c1, c2, rfl, h1, h2⟩
  rw [show c1 = _ from h1, show c2 = _ from h2]; rfl
 ·
  rintro rfl
  exact ⟨[_], [_], rfl, rfl, rfl⟩
theorem RRule.cells {r : RuleD} : RRule.ok w S cs r ↔ ∃ A n c, cs = [.int .i64 r.1, .slice A n c] ∧ Sl RSym w S A n c r.2 := by
 constructor
 ·
  rintro ⟨c1, c2, rfl, h1, A, n, c, rfl, h2⟩
  rw [show c1 = _ from h1]
  exact ⟨A, n, c, rfl, h2⟩
 ·
  rintro ⟨A, n, c, rfl, h⟩
  exact ⟨[_], [_], rfl, rfl, A, n, c, rfl, h⟩
end
theorem Sl.at2 {α : Type} {R : Rep α} {w : World} {S : Nat → Prop} {A : Option Addr} {n c : Nat} {l : List α} (h : Sl R w S A n c l) (h2 : R.size = 2) {k : Nat} (hk : k < n) :
    ∃ (b off : Nat) (u v : Value) (a : α), A = some ⟨b, off, none⟩ ∧ S b ∧ l[k]? = some a ∧ R.ok w S [u, v] a ∧ w.cell? ⟨b, off + k * 2, none⟩ = some u ∧ w.cell? ⟨b, off + (k * 2 + 1), none⟩ = some v := by
 obtain ⟨xs, e1, e2, h3, h4⟩ := h
 subst e1
 have hg := h4.get hk
 have hl := h4.len
 rw [h2] at hg hl h3
 obtain ⟨b, off, e, hS, hc⟩ := h3.2 (by omega)
 have i1 : k * 2 < xs.length := by omega
 have i2 : k * 2 + 1 < xs.length := by omega
 refine ⟨b, off, xs[k * 2], xs[k * 2 + 1], l[k], e, hS, List.getElem?_eq_getElem hk, ?_, hc _ _ (List.getElem?_eq_getElem i1), hc _ _ (List.getElem?_eq_getElem i2)⟩
 rw [List.drop_eq_getElem_cons i1, List.drop_eq_getElem_cons i2] at hg
 exact hg
end Go.Proofs.YtimklgbljjamkaaDoor
namespace Go.Proofs.YtimklgbljjamkaaDoor
inductive Der (R : List RuleD) : List SymD → Nat → Prop
 | nil : Der R [] 0
 | term {x : Int} {l : List SymD} {k : Nat} : Der R l k → Der R ((true, x) :: l) (k + 1)
 | non {A : Int} {r l : List SymD} {i j : Nat} : (A, r) ∈ R → Der R r i → Der R l j → Der R ((false, A) :: l) (i + j)
section
variable {R R' : List RuleD}
theorem Der.nil_iff {k : Nat} : Der R [] k ↔ k = 0 := ⟨fun h => by cases h; rfl, fun h => by subst h; exact .nil⟩
theorem Der.term_iff {x : Int} {k : Nat} : Der R [(true, x)] k ↔ k = 1 := by
 constructor
 ·
  intro h
  cases h with
  | term h => rw [Der.nil_iff] at h; omega
 ·
  rintro rfl
  exact .term .nil
theorem Der.non_iff {A : Int} {k : Nat} : Der R [(false, A)] k ↔ ∃ r, (A, r) ∈ R ∧ Der R r k := by
 constructor
 ·
  intro h
  cases h with
  | non hm h1 h2 =>
   rw [Der.nil_iff] at h2
   subst h2
   exact ⟨_, hm, h1⟩
 ·
  rintro ⟨r, hm, h⟩
  have := Der.non hm h .nil
  simpa using this
theorem Der.append {l m : List SymD} {i j : Nat} (h : Der R l i) (h' : Der R m j) : Der R (l ++ m) (i + j) := by
 induction h with
 | nil => simpa using h'
 | term _ ih => rw [List.cons_append, Nat.add_right_comm]; exact .term ih
 | non hm h1 _ _ ih => rw [List.cons_append, Nat.add_assoc]; exact .non hm h1 ih
theorem Der.cons_iff {s : SymD} {l : List SymD} {k : Nat} : Der R (s :: l) k ↔ ∃ i, i ≤ k ∧ Der R [s] i ∧ Der R l (k - i) := by
 constructor
 ·
  intro h
  cases h with
  | term h => exact ⟨1, by omega, .term .nil, by simpa using h⟩
  | non hm h1 h2 => exact ⟨_, by omega, Der.non_iff.2 ⟨_, hm, h1⟩, by simpa using h2⟩
 ·
  rintro ⟨i, hi, h1, h2⟩
  have := Der.append h1 h2
  rwa [List.singleton_append, show i + (k - i) = k by omega] at this
theorem Der.append_iff : ∀ {l m : List SymD} {k : Nat}, Der R (l ++ m) k ↔ ∃ i, i ≤ k ∧ Der R l i ∧ Der R m (k - i)
 | [], m, k => by
  constructor
  ·
   intro h; exact ⟨0, by omega, .nil, by simpa using h⟩
  ·
   rintro ⟨i, _, h1, h2⟩
   rw [Der.nil_iff] at h1
   subst h1
   simpa using h2
 | s :: l, m, k => by
  constructor
  ·
   intro h
   rw [List.cons_append, Der.cons_iff] at h
   obtain ⟨i, hi, h1, h2⟩ := h
   obtain ⟨j, hj, h3, h4⟩ := Der.append_iff.1 h2
   refine ⟨i + j, by omega, Der.cons_iff.2 ⟨i, by omega, h1, by rw [Nat.add_sub_cancel_left]; exact h3⟩, by rw [Nat.sub_add_eq]; exact h4⟩
  ·
   rintro ⟨i, hi, h1, h2⟩
   have := h1.append h2
   rwa [show i + (k - i) = k by omega] at this
end
def hasT (S : Nat → Nat → Bool) (s : SymD) (k : Nat) : Bool := if s.1 then k == 1 else S s.2.toNat k
def canT (S : Nat → Nat → Bool) : List SymD → Nat → Bool
 | [], k => k == 0
 | s :: l, k => (List.range (k + 1)).any fun i => hasT S s i && canT S l (k - i)
def splitT (S : Nat → Nat → Bool) (a b : List SymD) (k : Nat) : Bool := (List.range (k + 1)).any fun i => canT S a i && canT S b (k - i)
theorem canT_cons {S : Nat → Nat → Bool} {s : SymD} {l : List SymD} {k : Nat} : canT S (s :: l) k = true ↔ ∃ i, i ≤ k ∧ hasT S s i = true ∧ canT S l (k - i) = true := by
 simp only [canT, List.any_eq_true, List.mem_range, Bool.and_eq_true]
 exact ⟨fun ⟨i, h1, h2, h3⟩ => ⟨i, by omega, h2, h3⟩, fun ⟨i, h1, h2, h3⟩ => ⟨i, by omega, h2, h3⟩⟩
theorem splitT_iff {S : Nat → Nat → Bool} {a b : List SymD} {k : Nat} : splitT S a b k = true ↔ ∃ i, i ≤ k ∧ canT S a i = true ∧ canT S b (k - i) = true := by
 simp only [splitT, List.any_eq_true, List.mem_range, Bool.and_eq_true]
 exact ⟨fun ⟨i, h1, h2, h3⟩ => ⟨i, by omega, h2, h3⟩, fun ⟨i, h1, h2, h3⟩ => ⟨i, by omega, h2, h3⟩⟩
def NonOk (N : Nat) (l : List SymD) : Prop := ∀ s ∈ l, s.1 = false → 0 ≤ s.2 ∧ s.2.toNat < N
theorem NonOk.tail {N : Nat} {s : SymD} {l : List SymD} (h : NonOk N (s :: l)) : NonOk N l := fun x hx => h x (by simp [hx])
theorem NonOk.head {N : Nat} {s : SymD} {l : List SymD} (h : NonOk N (s :: l)) : NonOk N [s] := fun x hx => h x (by simp at hx; simp [hx])
theorem NonOk.take {N : Nat} {l : List SymD} (h : NonOk N l) (k : Nat) : NonOk N (l.take k) := fun x hx => h x (List.mem_of_mem_take hx)
theorem NonOk.drop {N : Nat} {l : List SymD} (h : NonOk N l) (k : Nat) : NonOk N (l.drop k) := fun x hx => h x (List.mem_of_mem_drop hx)
def RulesN (N : Nat) (R : List RuleD) : Prop := ∀ r ∈ R, (0 ≤ r.1 ∧ r.1.toNat < N) ∧ NonOk N r.2
theorem canT_congr {S S' : Nat → Nat → Bool} {N n : Nat} (hS : ∀ a k, a < N → k ≤ n → S a k = S' a k) : ∀ {l : List SymD} {k : Nat}, NonOk N l → k ≤ n → canT S l k = canT S' l k
 | [], _, _, _ => rfl
 | s :: l, k, hl, hk => by
  have h1 : ∀ i, i ≤ k → hasT S s i = hasT S' s i := fun i hi => by
   unfold hasT
   split
   ·
    rfl
   ·
    rename_i h
    exact hS _ _ (hl s (by simp) (by simpa using h)).2 (by omega)
  have h2 : ∀ i, canT S l (k - i) = canT S' l (k - i) := fun i => canT_congr hS hl.tail (by omega)
  rw [Bool.eq_iff_iff, canT_cons, canT_cons]
  constructor
  ·
   rintro ⟨i, hi, a, b⟩; exact ⟨i, hi, by rw [← h1 i hi]; exact a, by rw [← h2 i]; exact b⟩
  ·
   rintro ⟨i, hi, a, b⟩; exact ⟨i, hi, by rw [h1 i hi]; exact a, by rw [h2 i]; exact b⟩
theorem splitT_congr {S S' : Nat → Nat → Bool} {N n : Nat} (hS : ∀ a k, a < N → k ≤ n → S a k = S' a k) {a b : List SymD} {k : Nat} (ha : NonOk N a) (hb : NonOk N b) (hk : k ≤ n) : splitT S a b k = splitT S' a b k := by
 rw [Bool.eq_iff_iff, splitT_iff, splitT_iff]
 constructor
 ·
  rintro ⟨i, hi, x, y⟩; exact ⟨i, hi, by rw [← canT_congr hS ha (by omega)]; exact x, by rw [← canT_congr hS hb (by omega)]; exact y⟩
 ·
  rintro ⟨i, hi, x, y⟩; exact ⟨i, hi, by rw [canT_congr hS ha (by omega)]; exact x, by rw [canT_congr hS hb (by omega)]; exact y⟩
def Sound (R : List RuleD) (N n : Nat) (S : Nat → Nat → Bool) : Prop := ∀ a k, a < N → k ≤ n → S a k = true → Der R [(false, (a : Int))] k
theorem canT_sound {R : List RuleD} {N n : Nat} {S : Nat → Nat → Bool} (hS : Sound R N n S) : ∀ {l : List SymD} {k : Nat}, NonOk N l → k ≤ n → canT S l k = true → Der R l k
 | [], k, _, _, h => by
  have : k = 0 := by simpa [canT] using h
  subst this
  exact .nil
 | (t, x) :: l, k, hl, hk, h => by
  obtain ⟨i, hi, h1, h2⟩ := canT_cons.1 h
  refine Der.cons_iff.2 ⟨i, hi, ?_, canT_sound hS hl.tail (by omega) h2⟩
  cases t with
  | true => exact Der.term_iff.2 (by simpa [hasT] using h1)
  | false =>
   obtain ⟨h3, h4⟩ := hl (false, x) (by simp) rfl
   have := hS x.toNat i h4 (by omega) (by simpa [hasT] using h1)
   rwa [Int.toNat_of_nonneg h3] at this
def Closed (R : List RuleD) (n : Nat) (S : Nat → Nat → Bool) : Prop := ∀ r ∈ R, ∀ k, k ≤ n → canT S r.2 k = true → S r.1.toNat k = true
theorem canT_complete {R : List RuleD} {n : Nat} {S : Nat → Nat → Bool} (hC : Closed R n S) {l : List SymD} {k : Nat} (h : Der R l k) : k ≤ n → canT S l k = true := by
 induction h with
 | nil => intro _; rfl
 | term _ ih => intro hk; exact canT_cons.2 ⟨1, by omega, rfl, by simpa using ih (by omega)⟩
 | @non A r l i j hm _ _ h1 h2 =>
  intro hk
  refine canT_cons.2 ⟨i, by omega, ?_, by rw [Nat.add_sub_cancel_left]; exact h2 (by omega)⟩
  exact hC _ hm i (by omega) (h1 (by omega))
open Classical in
noncomputable def lenD (R : List RuleD) (a k : Nat) : Bool := decide (Der R [(false, (a : Int))] k)
theorem lenD_iff {R : List RuleD} {a k : Nat} : lenD R a k = true ↔ Der R [(false, (a : Int))] k := by simp [lenD]
theorem table_eq {R : List RuleD} {N n : Nat} {S : Nat → Nat → Bool} (hS : Sound R N n S) (hC : Closed R n S) (a k : Nat) (ha : a < N) (hk : k ≤ n) : S a k = lenD R a k := by
 rw [Bool.eq_iff_iff, lenD_iff]
 constructor
 ·
  exact hS a k ha hk
 ·
  intro h
  obtain ⟨r, hm, h1⟩ := Der.non_iff.1 h
  have := hC _ hm k hk (canT_complete hC h1 hk)
  simpa using this
theorem lenD_sound (R : List RuleD) (N n : Nat) : Sound R N n (lenD R) := fun _ _ _ _ h => lenD_iff.1 h
theorem canD_iff {R : List RuleD} {N : Nat} {l : List SymD} {k : Nat} (hl : NonOk N l) (hR : RulesN N R) : canT (lenD R) l k = true ↔ Der R l k := by
 constructor
 ·
  exact canT_sound (lenD_sound R N k) hl (Nat.le_refl _)
 ·
  intro h
  refine canT_complete (n := k) (S := lenD R) (fun r hr j hj hc => ?_) h (Nat.le_refl _)
  obtain ⟨⟨h1, h2⟩, h3⟩ := hR r hr
  rw [lenD_iff, Int.toNat_of_nonneg h1]
  exact Der.non_iff.2 ⟨r.2, hr, canT_sound (lenD_sound R N k) h3 hj hc⟩
theorem hasD_iff {R : List RuleD} {N : Nat} {s : SymD} {k : Nat} (hs : NonOk N [s]) : hasT (lenD R) s k = true ↔ Der R [s] k := by
 obtain ⟨t, x⟩ := s
 cases t with
 | true => simp [hasT, Der.term_iff]
 | false =>
  have := hs (false, x) (by simp) rfl
  have e : hasT (lenD R) (false, x) k = lenD R x.toNat k := by simp [hasT]
  rw [e, lenD_iff, Int.toNat_of_nonneg this.1]
end Go.Proofs.YtimklgbljjamkaaDoor
