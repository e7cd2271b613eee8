/- Plain: what a grammar derives in a word, and the table of where the parts end. -/
import Derived.Test.YtidigjfnifmiiaaDoorCensusPlain
import Derived.Test.YtidigjfnifmiiaaDoorMask
namespace Go.Proofs.YtidigjfnifmiiaaDoor

inductive DerW (R : List RuleD) (w : List Int) : List SymD → Nat → Nat → Prop
  | nil {i : Nat} : DerW R w [] i i
  | term {c : Int} {l : List SymD} {i j : Nat} : w[i]? = some c → DerW R w l (i + 1) j → DerW R w ((true, c) :: l) i j
  | non {A : Int} {r l : List SymD} {i k j : Nat} : (A, r) ∈ R → DerW R w r i k → DerW R w l k j → DerW R w ((false, A) :: l) i j
theorem DerW.mono {R R' : List RuleD} {w : List Int} (hR : ∀ r ∈ R, r ∈ R') {l : List SymD} {i j : Nat} (h : DerW R w l i j) : DerW R' w l i j := by
  induction h with
  | nil => exact .nil
  | term h1 _ ih => exact .term h1 ih
  | non h1 _ _ ih1 ih2 => exact .non (hR _ h1) ih1 ih2
theorem DerW.cons {R : List RuleD} {w : List Int} {s : SymD} {l : List SymD} {i k j : Nat} (h : DerW R w [s] i k) (h' : DerW R w l k j) : DerW R w (s :: l) i j := by
  cases h with
  | term h1 h2 => cases h2; exact .term h1 h'
  | non h1 h2 h3 => cases h3; exact .non h1 h2 h'
theorem DerW.le {R : List RuleD} {w : List Int} {l : List SymD} {i j : Nat} (h : DerW R w l i j) : i ≤ j ∧ (i ≤ w.length → j ≤ w.length) := by
  induction h with
  | nil => exact ⟨Nat.le_refl _, id⟩
  | term h1 _ ih =>
    have := (List.getElem?_eq_some_iff.1 h1).1
    exact ⟨by omega, fun _ => ih.2 (by omega)⟩
  | non _ _ _ ih1 ih2 => exact ⟨by omega, fun h => ih2.2 (ih1.2 h)⟩
/-- a derivation of a word has the word's length -/
theorem DerW.der {R : List RuleD} {w : List Int} {l : List SymD} {i j : Nat} (h : DerW R w l i j) : Der R l (j - i) := by
  induction h with
  | nil => rw [Nat.sub_self]; exact .nil
  | @term c l i j h1 h2 ih =>
    have := h2.le.1
    have h3 := Der.append (Der.term_iff (R := R) (x := c).2 rfl) ih
    rw [show j - i = 1 + (j - (i + 1)) by omega]
    exact h3
  | @non A r l i k j h1 h2 h3 ih1 ih2 =>
    have := h2.le.1
    have := h3.le.1
    have h4 := Der.append (Der.non_iff.2 ⟨r, h1, ih1⟩) ih2
    rw [show j - i = (k - i) + (j - k) by omega]
    exact h4
/-- one symbol leads from i to k -/
def Stp (E : Nat → Nat → Nat) (w : List Int) (s : SymD) (i k : Nat) : Prop := if s.1 = true then w[i]? = some s.2 ∧ k = i + 1 else (E s.2.toNat i).testBit k = true
def Rch (E : Nat → Nat → Nat) (w : List Int) : List SymD → Nat → Nat → Prop
  | [], i, j => i = j
  | s :: l, i, j => ∃ k, Stp E w s i k ∧ Rch E w l k j
theorem Rch.snoc {E : Nat → Nat → Nat} {w : List Int} {s : SymD} : ∀ {l : List SymD} {i j : Nat}, Rch E w (l ++ [s]) i j ↔ ∃ k, Rch E w l i k ∧ Stp E w s k j
  | [], i, j => by
    constructor
    · rintro ⟨k, h1, rfl⟩; exact ⟨i, rfl, h1⟩
    · rintro ⟨k, rfl, h1⟩; exact ⟨j, h1, rfl⟩
  | x :: l, i, j => by
    rw [List.cons_append]
    constructor
    · rintro ⟨k, h1, h2⟩
      obtain ⟨m, h3, h4⟩ := Rch.snoc.1 h2
      exact ⟨m, ⟨k, h1, h3⟩, h4⟩
    · rintro ⟨m, ⟨k, h1, h3⟩, h4⟩
      exact ⟨k, h1, Rch.snoc.2 ⟨m, h3, h4⟩⟩
section
variable {R : List RuleD} {w : List Int} {N n : Nat} {E : Nat → Nat → Nat}
def SoundW (R : List RuleD) (w : List Int) (N : Nat) (E : Nat → Nat → Nat) : Prop := ∀ a i j, a < N → (E a i).testBit j = true → DerW R w [(false, (a : Int))] i j
theorem rch_sound (hS : SoundW R w N E) : ∀ {l : List SymD} {i j : Nat}, NonOk N l → Rch E w l i j → DerW R w l i j
  | [], i, j, _, h => by obtain rfl : i = j := h; exact .nil
  | s :: l, i, j, hl, ⟨k, h1, h2⟩ => by
    have ih := rch_sound hS hl.tail h2
    obtain ⟨b, c⟩ := s
    unfold Stp at h1
    cases b with
    | true =>
      rw [if_pos rfl] at h1
      obtain ⟨h3, rfl⟩ := h1
      exact .term h3 ih
    | false =>
      rw [if_neg (by simp)] at h1
      obtain ⟨h0, h4⟩ := hl (false, c) (by simp) rfl
      have h5 := hS _ _ _ h4 h1
      rw [Int.toNat_of_nonneg h0] at h5
      exact h5.cons ih
def ClosedW (R : List RuleD) (w : List Int) (E : Nat → Nat → Nat) : Prop := ∀ r ∈ R, ∀ i, i ≤ w.length → ∀ j, Rch E w r.2 i j → (E r.1.toNat i).testBit j = true
theorem rch_complete (hC : ClosedW R w E) {l : List SymD} {i j : Nat} (h : DerW R w l i j) : i ≤ w.length → Rch E w l i j := by
  induction h with
  | nil => intro _; rfl
  | @term c l i j h1 h2 ih =>
    intro hi
    have := (List.getElem?_eq_some_iff.1 h1).1
    exact ⟨i + 1, by unfold Stp; rw [if_pos rfl]; exact ⟨h1, rfl⟩, ih (by omega)⟩
  | @non A r l i k j h1 h2 h3 ih1 ih2 =>
    intro hi
    have hk := h2.le.2 hi
    exact ⟨k, by unfold Stp; rw [if_neg (by simp)]; exact hC _ h1 i hi k (ih1 hi), ih2 hk⟩
/-- the table says what is so -/
theorem ends_eq (hS : SoundW R w N E) (hC : ClosedW R w E) {a i j : Nat} (ha : a < N) (hi : i ≤ w.length) : (E a i).testBit j = true ↔ DerW R w [(false, (a : Int))] i j := by
  constructor
  · exact hS a i j ha
  · intro h
    obtain ⟨k, h1, rfl⟩ := rch_complete hC h hi
    unfold Stp at h1
    rw [if_neg (by simp)] at h1
    simpa using h1
/-- something new is found -/
theorem soundW_or (hS : SoundW R w N E) {r : RuleD} (hr : r ∈ R) (hr0 : 0 ≤ r.1) (hrN : NonOk N r.2) {i X : Nat} (hX : ∀ j, X.testBit j = true ↔ Rch E w r.2 i j) :
    SoundW R w N (fun b k => if b = r.1.toNat ∧ k = i then E b k ||| X else E b k) := by
  intro a k j ha h
  by_cases hc : a = r.1.toNat ∧ k = i
  · obtain ⟨rfl, rfl⟩ := hc
    simp only [and_self, if_true, Nat.testBit_or, Bool.or_eq_true] at h
    rcases h with h | h
    · exact hS _ _ _ ha h
    · have h1 := rch_sound hS hrN ((hX j).1 h)
      rw [Int.toNat_of_nonneg hr0]
      exact .non (r := r.2) hr h1 .nil
  · simp only [hc, if_false] at h
    exact hS _ _ _ ha h
/-- how much there is still to find -/
def sumN (f : Nat → Nat) : Nat → Nat
  | 0 => 0
  | n + 1 => sumN f n + f n
theorem sumN_le {f g : Nat → Nat} : ∀ {n : Nat}, (∀ i, i < n → g i ≤ f i) → sumN g n ≤ sumN f n
  | 0, _ => Nat.le_refl _
  | n + 1, h => by
    have h1 := sumN_le (n := n) fun i hi => h i (by omega)
    have h2 := h n (by omega)
    unfold sumN
    omega
theorem sumN_lt {f g : Nat → Nat} {k : Nat} : ∀ {n : Nat}, (∀ i, i < n → g i ≤ f i) → k < n → g k < f k → sumN g n < sumN f n
  | 0, _, hk, _ => by omega
  | n + 1, h, hk, hlt => by
    have h2 := h n (by omega)
    by_cases e : k = n
    · subst e
      have h1 := sumN_le (n := k) fun i hi => h i (by omega)
      unfold sumN
      omega
    · have h1 := sumN_lt (n := n) (fun i hi => h i (by omega)) (by omega) hlt
      unfold sumN
      omega
def meaW (N n : Nat) (E : Nat → Nat → Nat) : Nat := sumN (fun a => sumN (fun i => 8192 - E a i) (n + 1)) N
theorem meaW_lt {E' : Nat → Nat → Nat} {a i : Nat} (ha : a < N) (hi : i ≤ n) (h : ∀ b k, E b k ≤ E' b k) (hlt : E a i < E' a i) (h8 : E' a i < 8192) : meaW N n E' < meaW N n E :=
  sumN_lt (k := a) (fun b _ => sumN_le fun k _ => by have := h b k; omega) ha (sumN_lt (k := i) (fun k _ => by have := h a k; omega) (by omega) (by omega))
open Classical in
noncomputable def accD (R : List RuleD) (st : Int) (w : List Int) : Bool := decide (DerW R w [(false, st)] 0 w.length)
theorem accD_iff {st : Int} : accD R st w = true ↔ DerW R w [(false, st)] 0 w.length := by simp [accD]
theorem accD_perm {R' : List RuleD} (h : ∀ r, r ∈ R ↔ r ∈ R') (st : Int) (w : List Int) : accD R st w = accD R' st w := by
  rw [Bool.eq_iff_iff, accD_iff, accD_iff]
  exact ⟨fun x => DerW.mono (fun r hr => (h r).1 hr) x, fun x => DerW.mono (fun r hr => (h r).2 hr) x⟩
end
end Go.Proofs.YtidigjfnifmiiaaDoor
