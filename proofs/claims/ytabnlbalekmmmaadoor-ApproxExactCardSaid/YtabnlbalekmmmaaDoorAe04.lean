/- Rep2 CensusPlain Mask Tz TabLaid -/
import Derived.FnData
import Derived.LaidHandle
import Derived.LaidLaws
import Derived.LaidMore
import Derived.Laws.BitsAll
import Derived.MakeChecks
import Derived.ProofKit
import Derived.Test.YtabnlbalekmmmaaDoorAe01
import Derived.Test.YtabnlbalekmmmaaDoorAe03
import Derived.WalkKit
namespace Go.Proofs.YtabnlbalekmmmaaDoor
open Go.RowKit
def Rep.prod {α β : Type} (R : Rep α) (Q : Rep β) : Rep (α × β) where
 size := R.size + Q.size
 ok := fun w S cs p => ∃ c1 c2, cs = c1 ++ c2 ∧ R.ok w S c1 p.1 ∧ Q.ok w S c2 p.2
 pos := by have := R.pos; omega
 len := by rintro _ _ _ _ ⟨c1, c2, rfl, h1, h2⟩; rw [List.length_append, R.len h1, Q.len h2]
 keep := by rintro _ _ _ _ _ ⟨c1, c2, rfl, h1, h2⟩ hk; exact ⟨c1, c2, rfl, R.keep h1 hk, Q.keep h2 hk⟩
 more := by rintro _ _ _ _ _ ⟨c1, c2, rfl, h1, h2⟩ hS; exact ⟨c1, c2, rfl, R.more h1 hS, Q.more h2 hS⟩
 fit := by rintro _ _ _ _ ⟨c1, c2, rfl, h1, h2⟩; exact ⟨c1, c2, rfl, R.fit h1, Q.fit h2⟩
 one := by
  rintro _ _ _ _ ⟨c1, c2, rfl, h1, h2⟩ u hu
  rcases List.mem_append.1 hu with h | h
  ·
   exact R.one h1 u h
  ·
   exact Q.one h2 u h
abbrev SymD := Bool × Int
abbrev RuleD := Int × List SymD
abbrev GramD := Int × Int × Int × List RuleD
abbrev DfaD := Int × List Int × List (List Int)
abbrev RSym : Rep SymD := Rep.prod Rep.bool Rep.int
abbrev RRule : Rep RuleD := Rep.prod Rep.int (Rep.slice RSym)
abbrev RGram : Rep GramD := Rep.prod Rep.int (Rep.prod Rep.int (Rep.prod Rep.int (Rep.slice RRule)))
abbrev RDfa : Rep DfaD := Rep.prod Rep.int (Rep.prod (Rep.slice Rep.int) (Rep.slice (Rep.slice Rep.int)))
section
variable {w : World} {S : Nat → Prop} {cs : List Value}
theorem RSym.cells {s : SymD} : RSym.ok w S cs s ↔ cs = [.bool s.1, .int .i64 s.2] := by
 constructor
 ·
  rintro ⟨c1, c2, rfl, h1, h2⟩
  rw [show c1 = _ from h1, show c2 = _ from h2]; rfl
 ·
  rintro rfl
  exact ⟨[_], [_], rfl, rfl, rfl⟩
theorem RRule.cells {r : RuleD} : RRule.ok w S cs r ↔ ∃ A n c, cs = [.int .i64 r.1, .slice A n c] ∧ Sl RSym w S A n c r.2 := by
 constructor
 ·
  rintro ⟨c1, c2, rfl, h1, A, n, c, rfl, h2⟩
  rw [show c1 = _ from h1]
  exact ⟨A, n, c, rfl, h2⟩
 ·
  rintro ⟨A, n, c, rfl, h⟩
  exact ⟨[_], [_], rfl, rfl, A, n, c, rfl, h⟩
theorem RGram.cells {g : GramD} : RGram.ok w S cs g ↔ ∃ A n c, cs = [.int .i64 g.1, .int .i64 g.2.1, .int .i64 g.2.2.1, .slice A n c] ∧ Sl RRule w S A n c g.2.2.2 := by
 constructor
 ·
  rintro ⟨c1, c2, rfl, h1, c3, c4, rfl, h3, c5, c6, rfl, h5, A, n, c, rfl, h⟩
  rw [show c1 = _ from h1, show c3 = _ from h3, show c5 = _ from h5]
  exact ⟨A, n, c, rfl, h⟩
 ·
  rintro ⟨A, n, c, rfl, h⟩
  exact ⟨[_], _, rfl, rfl, [_], _, rfl, rfl, [_], [_], rfl, rfl, A, n, c, rfl, h⟩
theorem RDfa.cells {d : DfaD} : RDfa.ok w S cs d ↔ ∃ A n c A' n' c', cs = [.int .i64 d.1, .slice A n c, .slice A' n' c'] ∧ Sl Rep.int w S A n c d.2.1 ∧ Sl (Rep.slice Rep.int) w S A' n' c' d.2.2 := by
 constructor
 ·
  rintro ⟨c1, c2, rfl, h1, c3, c4, rfl, ⟨A, n, c, rfl, h⟩, A', n', c', rfl, h'⟩
  rw [show c1 = _ from h1]
  exact ⟨A, n, c, A', n', c', rfl, h, h'⟩
 ·
  rintro ⟨A, n, c, A', n', c', rfl, h, h'⟩
  exact ⟨[_], _, rfl, rfl, [_], [_], rfl, ⟨A, n, c, rfl, h⟩, A', n', c', rfl, h'⟩
end
theorem Sl.at2 {α : Type} {R : Rep α} {w : World} {S : Nat → Prop} {A : Option Addr} {n c : Nat} {l : List α} (h : Sl R w S A n c l) (h2 : R.size = 2) {k : Nat} (hk : k < n) :
    ∃ (b off : Nat) (u v : Value) (a : α), A = some ⟨b, off, none⟩ ∧ S b ∧ l[k]? = some a ∧ R.ok w S [u, v] a ∧ w.cell? ⟨b, off + k * 2, none⟩ = some u ∧ w.cell? ⟨b, off + (k * 2 + 1), none⟩ = some v := by
 obtain ⟨xs, e1, e2, h3, h4⟩ := h
 subst e1
 have hg := h4.get hk
 have hl := h4.len
 rw [h2] at hg hl h3
 obtain ⟨b, off, e, hS, hc⟩ := h3.2 (by omega)
 have i1 : k * 2 < xs.length := by omega
 have i2 : k * 2 + 1 < xs.length := by omega
 refine ⟨b, off, xs[k * 2], xs[k * 2 + 1], l[k], e, hS, List.getElem?_eq_getElem hk, ?_, hc _ _ (List.getElem?_eq_getElem i1), hc _ _ (List.getElem?_eq_getElem i2)⟩
 rw [List.drop_eq_getElem_cons i1, List.drop_eq_getElem_cons i2] at hg
 exact hg
end Go.Proofs.YtabnlbalekmmmaaDoor
namespace Go.Proofs.YtabnlbalekmmmaaDoor
inductive Der (R : List RuleD) : List SymD → Nat → Prop
 | nil : Der R [] 0
 | term {x : Int} {l : List SymD} {k : Nat} : Der R l k → Der R ((true, x) :: l) (k + 1)
 | non {A : Int} {r l : List SymD} {i j : Nat} : (A, r) ∈ R → Der R r i → Der R l j → Der R ((false, A) :: l) (i + j)
section
variable {R R' : List RuleD}
theorem Der.mono (hR : ∀ r ∈ R, r ∈ R') {l : List SymD} {k : Nat} (h : Der R l k) : Der R' l k := by
 induction h with
 | nil => exact .nil
 | term _ ih => exact .term ih
 | non hm _ _ h1 h2 => exact .non (hR _ hm) h1 h2
theorem Der.nil_iff {k : Nat} : Der R [] k ↔ k = 0 := ⟨fun h => by cases h; rfl, fun h => by subst h; exact .nil⟩
theorem Der.term_iff {x : Int} {k : Nat} : Der R [(true, x)] k ↔ k = 1 := by
 constructor
 ·
  intro h
  cases h with
  | term h => rw [Der.nil_iff] at h; omega
 ·
  rintro rfl
  exact .term .nil
theorem Der.non_iff {A : Int} {k : Nat} : Der R [(false, A)] k ↔ ∃ r, (A, r) ∈ R ∧ Der R r k := by
 constructor
 ·
  intro h
  cases h with
  | non hm h1 h2 =>
   rw [Der.nil_iff] at h2
   subst h2
   exact ⟨_, hm, h1⟩
 ·
  rintro ⟨r, hm, h⟩
  have := Der.non hm h .nil
  simpa using this
theorem Der.append {l m : List SymD} {i j : Nat} (h : Der R l i) (h' : Der R m j) : Der R (l ++ m) (i + j) := by
 induction h with
 | nil => simpa using h'
 | term _ ih => rw [List.cons_append, Nat.add_right_comm]; exact .term ih
 | non hm h1 _ _ ih => rw [List.cons_append, Nat.add_assoc]; exact .non hm h1 ih
theorem Der.cons_iff {s : SymD} {l : List SymD} {k : Nat} : Der R (s :: l) k ↔ ∃ i, i ≤ k ∧ Der R [s] i ∧ Der R l (k - i) := by
 constructor
 ·
  intro h
  cases h with
  | term h => exact ⟨1, by omega, .term .nil, by simpa using h⟩
  | non hm h1 h2 => exact ⟨_, by omega, Der.non_iff.2 ⟨_, hm, h1⟩, by simpa using h2⟩
 ·
  rintro ⟨i, hi, h1, h2⟩
  have := Der.append h1 h2
  rwa [List.singleton_append, show i + (k - i) = k by omega] at this
end
def hasT (S : Nat → Nat → Bool) (s : SymD) (k : Nat) : Bool := if s.1 then k == 1 else S s.2.toNat k
def canT (S : Nat → Nat → Bool) : List SymD → Nat → Bool
 | [], k => k == 0
 | s :: l, k => (List.range (k + 1)).any fun i => hasT S s i && canT S l (k - i)
theorem canT_cons {S : Nat → Nat → Bool} {s : SymD} {l : List SymD} {k : Nat} : canT S (s :: l) k = true ↔ ∃ i, i ≤ k ∧ hasT S s i = true ∧ canT S l (k - i) = true := by
 simp only [canT, List.any_eq_true, List.mem_range, Bool.and_eq_true]
 exact ⟨fun ⟨i, h1, h2, h3⟩ => ⟨i, by omega, h2, h3⟩, fun ⟨i, h1, h2, h3⟩ => ⟨i, by omega, h2, h3⟩⟩
def NonOk (N : Nat) (l : List SymD) : Prop := ∀ s ∈ l, s.1 = false → 0 ≤ s.2 ∧ s.2.toNat < N
theorem NonOk.tail {N : Nat} {s : SymD} {l : List SymD} (h : NonOk N (s :: l)) : NonOk N l := fun x hx => h x (by simp [hx])
theorem NonOk.head {N : Nat} {s : SymD} {l : List SymD} (h : NonOk N (s :: l)) : NonOk N [s] := fun x hx => h x (by simp at hx; simp [hx])
theorem NonOk.take {N : Nat} {l : List SymD} (h : NonOk N l) (k : Nat) : NonOk N (l.take k) := fun x hx => h x (List.mem_of_mem_take hx)
theorem NonOk.drop {N : Nat} {l : List SymD} (h : NonOk N l) (k : Nat) : NonOk N (l.drop k) := fun x hx => h x (List.mem_of_mem_drop hx)
def RulesN (N : Nat) (R : List RuleD) : Prop := ∀ r ∈ R, (0 ≤ r.1 ∧ r.1.toNat < N) ∧ NonOk N r.2
def Sound (R : List RuleD) (N n : Nat) (S : Nat → Nat → Bool) : Prop := ∀ a k, a < N → k ≤ n → S a k = true → Der R [(false, (a : Int))] k
theorem canT_sound {R : List RuleD} {N n : Nat} {S : Nat → Nat → Bool} (hS : Sound R N n S) : ∀ {l : List SymD} {k : Nat}, NonOk N l → k ≤ n → canT S l k = true → Der R l k
 | [], k, _, _, h => by
  have : k = 0 := by simpa [canT] using h
  subst this
  exact .nil
 | (t, x) :: l, k, hl, hk, h => by
  obtain ⟨i, hi, h1, h2⟩ := canT_cons.1 h
  refine Der.cons_iff.2 ⟨i, hi, ?_, canT_sound hS hl.tail (by omega) h2⟩
  cases t with
  | true => exact Der.term_iff.2 (by simpa [hasT] using h1)
  | false =>
   obtain ⟨h3, h4⟩ := hl (false, x) (by simp) rfl
   have := hS x.toNat i h4 (by omega) (by simpa [hasT] using h1)
   rwa [Int.toNat_of_nonneg h3] at this
def Closed (R : List RuleD) (n : Nat) (S : Nat → Nat → Bool) : Prop := ∀ r ∈ R, ∀ k, k ≤ n → canT S r.2 k = true → S r.1.toNat k = true
theorem canT_complete {R : List RuleD} {n : Nat} {S : Nat → Nat → Bool} (hC : Closed R n S) {l : List SymD} {k : Nat} (h : Der R l k) : k ≤ n → canT S l k = true := by
 induction h with
 | nil => intro _; rfl
 | term _ ih => intro hk; exact canT_cons.2 ⟨1, by omega, rfl, by simpa using ih (by omega)⟩
 | @non A r l i j hm _ _ h1 h2 =>
  intro hk
  refine canT_cons.2 ⟨i, by omega, ?_, by rw [Nat.add_sub_cancel_left]; exact h2 (by omega)⟩
  exact hC _ hm i (by omega) (h1 (by omega))
open Classical in
noncomputable def lenD (R : List RuleD) (a k : Nat) : Bool := decide (Der R [(false, (a : Int))] k)
theorem lenD_iff {R : List RuleD} {a k : Nat} : lenD R a k = true ↔ Der R [(false, (a : Int))] k := by simp [lenD]
theorem lenD_sound (R : List RuleD) (N n : Nat) : Sound R N n (lenD R) := fun _ _ _ _ h => lenD_iff.1 h
theorem canD_iff {R : List RuleD} {N : Nat} {l : List SymD} {k : Nat} (hl : NonOk N l) (hR : RulesN N R) : canT (lenD R) l k = true ↔ Der R l k := by
 constructor
 ·
  exact canT_sound (lenD_sound R N k) hl (Nat.le_refl _)
 ·
  intro h
  refine canT_complete (n := k) (S := lenD R) (fun r hr j hj hc => ?_) h (Nat.le_refl _)
  obtain ⟨⟨h1, h2⟩, h3⟩ := hR r hr
  rw [lenD_iff, Int.toNat_of_nonneg h1]
  exact Der.non_iff.2 ⟨r.2, hr, canT_sound (lenD_sound R N k) h3 hj hc⟩
theorem hasD_iff {R : List RuleD} {N : Nat} {s : SymD} {k : Nat} (hs : NonOk N [s]) : hasT (lenD R) s k = true ↔ Der R [s] k := by
 obtain ⟨t, x⟩ := s
 cases t with
 | true => simp [hasT, Der.term_iff]
 | false =>
  have := hs (false, x) (by simp) rfl
  have e : hasT (lenD R) (false, x) k = lenD R x.toNat k := by simp [hasT]
  rw [e, lenD_iff, Int.toNat_of_nonneg this.1]
end Go.Proofs.YtabnlbalekmmmaaDoor
namespace Go.Proofs.YtabnlbalekmmmaaDoor
theorem low_split : ∀ (x : Nat), x ≠ 0 → ∃ p m, x = 2 ^ p * (2 * m + 1)
 | x, h => by
  by_cases ho : x % 2 = 1
  ·
   exact ⟨0, x / 2, by omega⟩
  ·
   have hlt : x / 2 < x := by omega
   obtain ⟨p, m, e⟩ := low_split (x / 2) (by omega)
   refine ⟨p + 1, m, ?_⟩
   rw [Nat.pow_succ, Nat.mul_comm (2 ^ p) 2, Nat.mul_assoc, ← e]
   omega
termination_by x => x
theorem odd_bit (m i : Nat) : (2 * m + 1).testBit i = if i = 0 then true else m.testBit (i - 1) := by
 cases i with
 | zero => simp [Nat.testBit_zero]
 | succ i =>
  rw [Nat.testBit_succ, if_neg (by omega), Nat.add_sub_cancel]
  congr 1
  omega
theorem even_bit (m i : Nat) : (2 * m).testBit i = if i = 0 then false else m.testBit (i - 1) := by
 cases i with
 | zero => simp [Nat.testBit_zero]
 | succ i =>
  rw [Nat.testBit_succ, if_neg (by omega), Nat.add_sub_cancel]
  congr 1
  omega
theorem low_bit (p m i : Nat) : (2 ^ p * (2 * m + 1)).testBit i = if i < p then false else if i = p then true else m.testBit (i - p - 1) := by
 rw [Nat.testBit_two_pow_mul, odd_bit]
 by_cases h1 : i < p
 ·
  rw [if_pos h1, decide_eq_false (by omega)]; rfl
 ·
  rw [if_neg h1, decide_eq_true (by omega)]
  by_cases h2 : i = p
  ·
   rw [if_pos (by omega), if_pos h2]; rfl
  ·
   rw [if_neg (by omega), if_neg h2]; rfl
theorem pred_bit (p m i : Nat) : (2 ^ p * (2 * m + 1) - 1).testBit i = if i < p then true else if i = p then false else m.testBit (i - p - 1) := by
 have hp : 0 < 2 ^ p := Nat.two_pow_pos p
 have e : 2 ^ p * (2 * m + 1) - 1 = 2 ^ p * (2 * m) + (2 ^ p - 1) := by
  rw [Nat.mul_add, Nat.mul_one]
  omega
 rw [e, Nat.testBit_two_pow_mul_add _ (by omega)]
 by_cases h1 : i < p
 ·
  rw [if_pos h1, if_pos h1, Nat.testBit_two_pow_sub_one, decide_eq_true h1]
 ·
  rw [if_neg h1, if_neg h1, even_bit]
  by_cases h2 : i = p
  ·
   rw [if_pos (by omega), if_pos h2]
  ·
   rw [if_neg (by omega), if_neg h2]
theorem low_of {x : Nat} (h : x ≠ 0) : ∃ p, x.testBit p = true ∧ (∀ i, (x &&& (x - 1)).testBit i = (x.testBit i && !decide (i = p))) ∧ x &&& (x - 1) < x ∧ ∀ n, x < 2 ^ n → p < n ∧ x &&& (2 ^ n - x) = 2 ^ p := by
 obtain ⟨p, m, rfl⟩ := low_split x h
 have hp : 0 < 2 ^ p := Nat.two_pow_pos p
 refine ⟨p, by rw [low_bit, if_neg (by omega), if_pos rfl], fun i => ?_, Nat.lt_of_le_of_lt Nat.and_le_right (by omega), fun n hn => ?_⟩
 ·
  rw [Nat.testBit_and, low_bit, pred_bit]
  by_cases h1 : i < p
  ·
   rw [if_pos h1]; rfl
  ·
   rw [if_neg h1, if_neg h1]
   by_cases h2 : i = p
   ·
    rw [if_pos h2, if_pos h2, decide_eq_true h2]; rfl
   ·
    rw [if_neg h2, if_neg h2, decide_eq_false h2]; simp
 ·
  have hpn : p < n := by
   rcases Nat.lt_or_ge p n with hlt | hge
   ·
    exact hlt
   ·
    have h1 := Nat.pow_le_pow_right (by omega : 0 < 2) hge
    have h2 : 2 ^ p ≤ 2 ^ p * (2 * m + 1) := Nat.le_mul_of_pos_right _ (by omega)
    omega
  refine ⟨hpn, Nat.eq_of_testBit_eq fun i => ?_⟩
  have e : 2 ^ n - 2 ^ p * (2 * m + 1) = 2 ^ n - ((2 ^ p * (2 * m + 1) - 1) + 1) := by omega
  rw [Nat.testBit_and, e, Nat.testBit_two_pow_sub_succ (by omega), low_bit, pred_bit, Nat.testBit_two_pow]
  by_cases h1 : i < p
  ·
   rw [if_pos h1, decide_eq_false (by omega : ¬ p = i)]; simp
  ·
   rw [if_neg h1, if_neg h1]
   by_cases h2 : i = p
   ·
    subst h2
    rw [if_pos rfl, if_pos rfl]
    simp [hpn]
   ·
    rw [if_neg h2, if_neg h2, decide_eq_false (by omega : ¬ p = i)]
    cases m.testBit (i - p - 1) <;> simp
theorem bit_lt {x n i : Nat} (h : x < 2 ^ n) (hb : x.testBit i = true) : i < n := by
 rcases Nat.lt_or_ge i n with hlt | hge
 ·
  exact hlt
 ·
  rw [Nat.testBit_lt_two_pow (Nat.lt_of_lt_of_le h (Nat.pow_le_pow_right (by omega) hge))] at hb; cases hb
theorem or_grows {x y : Nat} (h : ∃ i, x.testBit i = true ∧ y.testBit i = false) : y < y ||| x := by
 obtain ⟨i, h1, h2⟩ := h
 rcases Nat.lt_or_ge y (y ||| x) with hlt | hge
 ·
  exact hlt
 ·
  exfalso
  have e : y ||| x = y := Nat.le_antisymm hge Nat.left_le_or
  have : (y ||| x).testBit i = true := by rw [Nat.testBit_or, h1, Bool.or_true]
  rw [e, h2] at this
  cases this
end Go.Proofs.YtabnlbalekmmmaaDoor
namespace Go.Proofs.YtabnlbalekmmmaaDoor
open Go.RowKit
def tzTab : List Nat := [0, 1, 28, 2, 29, 14, 24, 3, 30, 22, 20, 15, 25, 17, 4, 8, 31, 27, 13, 23, 21, 19, 16, 7, 26, 12, 18, 6, 11, 5, 10, 9]
def Tab (w : World) : Prop := 0 < w.heap.size ∧ ∀ j, j < 32 → w.cell? ⟨0, j, none⟩ = some (.int .u8 ((tzTab.getD j 0 : Nat) : Int))
theorem Tab.below {w w' : World} {B : Nat} (h : Tab w) (hb : Below B w w') (hB : 0 < B) : Tab w' :=
 ⟨Nat.lt_of_lt_of_le h.1 hb.size, fun j hj => (hb.cell (p := ⟨0, j, none⟩) hB).trans (h.2 j hj)⟩
theorem tz_index : ∀ p, p < 32 → (2 ^ p * 125613361 % 4294967296) / 134217728 < 32 ∧ tzTab.getD ((2 ^ p * 125613361 % 4294967296) / 134217728) 0 = p := by decide +kernel
set_option linter.unusedSimpArgs false in
set_option maxRecDepth 100000 in
set_option maxHeartbeats 2000000 in
theorem trailingZeros (w : World) (hT : Tab w) (x p : Nat) (hx0 : x ≠ 0) (hx : x < 4294967296) (hp : p < 32) (hlow : x &&& (4294967296 - x) = 2 ^ p) :
    Calls Tryd.prog 102 #[.int .u32 x] w fun e w' => e = .returned (.int .i64 (p : Int)) ∧ w = w' := by
 obtain ⟨h1, h2⟩ := tz_index p hp
 obtain ⟨j, hj⟩ : ∃ j, j = (2 ^ p * 125613361 % 4294967296) / 134217728 := ⟨_, rfl⟩
 rw [← hj] at h1 h2
 have hc := hT.2 j h1
 rw [h2] at hc
 have hne : ((x : Int) == 0) = false := by simp; omega
 have hE : bits .and .u32 (x : Int) (-(x : Int) % 4294967296) * 125613361 % 4294967296 / 134217728 = (j : Int) := by
  have e1 : -(x : Int) % 4294967296 = ((4294967296 - x : Nat) : Int) := by omega
  rw [e1, u32_and_nat _ _ hx (by omega), hlow, hj]
  generalize 2 ^ p = Q
  omega
 have hj0 : (0 : Int) ≤ (j : Int) := by omega
 have hj32 : (j : Int) < 32 := by omega
 clear hT h2 hlow hj hx hx0
 go_enter Tryd.func102, Tryd.ntmps102
 go_wp2_with fail
 go_ret
 exact ⟨rfl, rfl⟩
end Go.Proofs.YtabnlbalekmmmaaDoor
namespace Go.Proofs.YtabnlbalekmmmaaDoor
open Go.ChangeShapes Go.WideShapes Go.ChangeAt Go.RowKit
theorem gTab : Tryd.prog.globalNamed "math/bits.deBruijn32tab" = some 0 := by kernel_rfl
theorem tTab : (Tryd.prog.globals[0]?).map (·.type) = some 192 := by kernel_rfl
theorem cellsU8 : Tryd.prog.cellsOf 5 = 1 := by kernel_rfl
abbrev tabLaid : List (String × DataW Unit) := [("math/bits.deBruijn32tab", Rows.laid_math_bits_deBruijn32tab)]
set_option maxRecDepth 100000 in
theorem tab_of_laid {W : World} (h : laidMetH Tryd.prog tabLaid W) : Tab W := by
 rw [MakeChecks.laidMetH_plain _ _ _ (by kernel_rfl)] at h
 obtain ⟨ps, ⟨g0, t0, cs0, f0, p0, q0, hg0, ht0, hv0, hd0, _, _⟩, _, _⟩ := h
 obtain rfl := Option.some.inj (gTab.symm.trans hg0)
 obtain rfl := Option.some.inj (tTab.symm.trans ht0)
 obtain ⟨xs, m1, rfl, hx1, _, hn, hel⟩ := DataW.trod_array Tryd.underlying192 hd0
 simp only [Prod.mk.injEq] at hx1
 have hx2 := hx1.1
 have hlist : xs.map (·.1) = tzTab.map fun n : Nat => DataW.lit (.int .u8 (n : Int)) := by
  have e : Rows.laid_math_bits_deBruijn32tab (H := Unit) = .agg (tzTab.map fun n : Nat => DataW.lit (.int .u8 (n : Int))) := rfl
  rw [e] at hx2
  injection hx2 with hx2
  exact hx2.symm
 have hcell : ∀ j, j < 32 → W.cell? ⟨0, j, none⟩ = some (.int .u8 ((tzTab.getD j 0 : Nat) : Int)) := fun j hj => by
  have hlen : j < xs.length := by omega
  have e1 := hel j hj
  rw [List.getElem?_eq_getElem hlen] at e1
  obtain ⟨k, ec, ex, _⟩ := DataW.trod_int Tryd.underlying5 e1
  have hk : (xs.map (·.1))[j]? = some (.lit (.int .u8 k)) := by
   rw [List.getElem?_map, List.getElem?_eq_getElem hlen, Option.map_some, ex]
  rw [hlist, List.getElem?_map, List.getElem?_eq_getElem (show j < tzTab.length from hj), Option.map_some] at hk
  simp only [Option.some.injEq, DataW.lit.injEq, Lit.int.injEq, true_and] at hk
  rw [cellsU8, Nat.mul_one] at ec
  have hcj : cs0.toList[j]? = some (.int .u8 k) := by
   have := congrArg (fun l => l[0]?) ec
   simpa [List.getElem?_take, List.getElem?_drop] using this
  rw [World.var?_cell gTab hv0 j, ← Array.getElem?_toList, hcj, ← hk, List.getD_eq_getElem?_getD, List.getElem?_eq_getElem (show j < tzTab.length from hj)]
  rfl
 exact ⟨by
  have h0 := hcell 0 (by decide)
  exact cell_lt h0, hcell⟩
theorem door_met (os : Os) (args : Array Value) : laidMetH Tryd.prog tabLaid ((World.doorLaid Tryd.prog 100 os).forCall (fun _ _ => 0) ⟨#[], args, []⟩).memory :=
 laidMetH_of_parts3 (fuel := 8) (laidMet_of_run' 8 (by kernel_rfl) (by kernel_rfl)) (by kernel_rfl) (by kernel_rfl)
end Go.Proofs.YtabnlbalekmmmaaDoor
