/- WordPlain FoP1 -/
import Derived.Test.YtjnbjdbndbbanaaGreatDoorTc07
namespace Go.Proofs.YtjnbjdbndbbanaaGreatDoor
inductive DerW (R : List RuleD) (w : List Int) : List SymD → Nat → Nat → Prop
 | nil {i : Nat} : DerW R w [] i i
 | term {c : Int} {l : List SymD} {i j : Nat} : w[i]? = some c → DerW R w l (i + 1) j → DerW R w ((true, c) :: l) i j
 | non {A : Int} {r l : List SymD} {i k j : Nat} : (A, r) ∈ R → DerW R w r i k → DerW R w l k j → DerW R w ((false, A) :: l) i j
theorem DerW.cons {R : List RuleD} {w : List Int} {s : SymD} {l : List SymD} {i k j : Nat} (h : DerW R w [s] i k) (h' : DerW R w l k j) : DerW R w (s :: l) i j := by
 cases h with
 | term h1 h2 => cases h2; exact .term h1 h'
 | non h1 h2 h3 => cases h3; exact .non h1 h2 h'
theorem DerW.le {R : List RuleD} {w : List Int} {l : List SymD} {i j : Nat} (h : DerW R w l i j) : i ≤ j ∧ (i ≤ w.length → j ≤ w.length) := by
 induction h with
 | nil => exact ⟨Nat.le_refl _, id⟩
 | term h1 _ ih =>
  have := (List.getElem?_eq_some_iff.1 h1).1
  exact ⟨by omega, fun _ => ih.2 (by omega)⟩
 | non _ _ _ ih1 ih2 => exact ⟨by omega, fun h => ih2.2 (ih1.2 h)⟩
theorem DerW.der {R : List RuleD} {w : List Int} {l : List SymD} {i j : Nat} (h : DerW R w l i j) : Der R l (j - i) := by
 induction h with
 | nil => rw [Nat.sub_self]; exact .nil
 | @term c l i j h1 h2 ih =>
  have := h2.le.1
  have h3 := Der.append (Der.term_iff (R := R) (x := c).2 rfl) ih
  rw [show j - i = 1 + (j - (i + 1)) by omega]
  exact h3
 | @non A r l i k j h1 h2 h3 ih1 ih2 =>
  have := h2.le.1
  have := h3.le.1
  have h4 := Der.append (Der.non_iff.2 ⟨r, h1, ih1⟩) ih2
  rw [show j - i = (k - i) + (j - k) by omega]
  exact h4
def StpD (E : Nat → Nat → Nat) (w : List Int) (s : SymD) (i k : Nat) : Prop := if s.1 = true then w[i]? = some s.2 ∧ k = i + 1 else (E s.2.toNat i).testBit k = true
def Rch (E : Nat → Nat → Nat) (w : List Int) : List SymD → Nat → Nat → Prop
 | [], i, j => i = j
 | s :: l, i, j => ∃ k, StpD E w s i k ∧ Rch E w l k j
theorem Rch.snoc {E : Nat → Nat → Nat} {w : List Int} {s : SymD} : ∀ {l : List SymD} {i j : Nat}, Rch E w (l ++ [s]) i j ↔ ∃ k, Rch E w l i k ∧ StpD E w s k j
 | [], i, j => by
  constructor
  · rintro ⟨k, h1, rfl⟩; exact ⟨i, rfl, h1⟩
  rintro ⟨k, rfl, h1⟩; exact ⟨j, h1, rfl⟩
 | x :: l, i, j => by
  rw [List.cons_append]
  constructor
  ·
   rintro ⟨k, h1, h2⟩
   obtain ⟨m, h3, h4⟩ := Rch.snoc.1 h2
   exact ⟨m, ⟨k, h1, h3⟩, h4⟩
  rintro ⟨m, ⟨k, h1, h3⟩, h4⟩
  exact ⟨k, h1, Rch.snoc.2 ⟨m, h3, h4⟩⟩
section
variable {R : List RuleD} {w : List Int} {N n : Nat} {E : Nat → Nat → Nat}
def SoundW (R : List RuleD) (w : List Int) (N : Nat) (E : Nat → Nat → Nat) : Prop := ∀ a i j, a < N → (E a i).testBit j = true → DerW R w [(false, (a : Int))] i j
theorem rch_sound (hS : SoundW R w N E) : ∀ {l : List SymD} {i j : Nat}, NonOk N l → Rch E w l i j → DerW R w l i j
 | [], i, j, _, h => by obtain rfl : i = j := h; exact .nil
 | s :: l, i, j, hl, ⟨k, h1, h2⟩ => by
  have ih := rch_sound hS hl.tail h2
  obtain ⟨b, c⟩ := s
  unfold StpD at h1
  cases b with
  | true =>
   rw [if_pos rfl] at h1
   obtain ⟨h3, rfl⟩ := h1
   exact .term h3 ih
  | false =>
   rw [if_neg (by simp)] at h1
   obtain ⟨h0, h4⟩ := hl (false, c) (by simp) rfl
   have h5 := hS _ _ _ h4 h1
   rw [Int.toNat_of_nonneg h0] at h5
   exact h5.cons ih
def ClosedW (R : List RuleD) (w : List Int) (E : Nat → Nat → Nat) : Prop := ∀ r ∈ R, ∀ i, i ≤ w.length → ∀ j, Rch E w r.2 i j → (E r.1.toNat i).testBit j = true
theorem rch_complete (hC : ClosedW R w E) {l : List SymD} {i j : Nat} (h : DerW R w l i j) : i ≤ w.length → Rch E w l i j := by
 induction h with
 | nil => intro _; rfl
 | @term c l i j h1 h2 ih =>
  intro hi
  have := (List.getElem?_eq_some_iff.1 h1).1
  exact ⟨i + 1, by unfold StpD; rw [if_pos rfl]; exact ⟨h1, rfl⟩, ih (by omega)⟩
 | @non A r l i k j h1 h2 h3 ih1 ih2 =>
  intro hi
  have hk := h2.le.2 hi
  exact ⟨k, by unfold StpD; rw [if_neg (by simp)]; exact hC _ h1 i hi k (ih1 hi), ih2 hk⟩
theorem ends_eq (hS : SoundW R w N E) (hC : ClosedW R w E) {a i j : Nat} (ha : a < N) (hi : i ≤ w.length) : (E a i).testBit j = true ↔ DerW R w [(false, (a : Int))] i j := by
 constructor
 · exact hS a i j ha
 intro h
 obtain ⟨k, h1, rfl⟩ := rch_complete hC h hi
 unfold StpD at h1
 rw [if_neg (by simp)] at h1
 simpa using h1
theorem soundW_or (hS : SoundW R w N E) {r : RuleD} (hr : r ∈ R) (hr0 : 0 ≤ r.1) (hrN : NonOk N r.2) {i X : Nat} (hX : ∀ j, X.testBit j = true ↔ Rch E w r.2 i j) :
    SoundW R w N (fun b k => if b = r.1.toNat ∧ k = i then E b k ||| X else E b k) := by
 intro a k j ha h
 by_cases hc : a = r.1.toNat ∧ k = i
 ·
  obtain ⟨rfl, rfl⟩ := hc
  simp only [and_self, if_true, Nat.testBit_or, Bool.or_eq_true] at h
  rcases h with h | h
  · exact hS _ _ _ ha h
  have h1 := rch_sound hS hrN ((hX j).1 h)
  rw [Int.toNat_of_nonneg hr0]
  exact .non (r := r.2) hr h1 .nil
 simp only [hc, if_false] at h
 exact hS _ _ _ ha h
def sumN (f : Nat → Nat) : Nat → Nat
 | 0 => 0
 | n + 1 => sumN f n + f n
theorem sumN_le {f g : Nat → Nat} : ∀ {n : Nat}, (∀ i, i < n → g i ≤ f i) → sumN g n ≤ sumN f n
 | 0, _ => Nat.le_refl _
 | n + 1, h => by
  have h1 := sumN_le (n := n) fun i hi => h i (by omega)
  have h2 := h n (by omega)
  unfold sumN
  omega
theorem sumN_lt {f g : Nat → Nat} {k : Nat} : ∀ {n : Nat}, (∀ i, i < n → g i ≤ f i) → k < n → g k < f k → sumN g n < sumN f n
 | 0, _, hk, _ => by omega
 | n + 1, h, hk, hlt => by
  have h2 := h n (by omega)
  by_cases e : k = n
  ·
   subst e
   have h1 := sumN_le (n := k) fun i hi => h i (by omega)
   unfold sumN
   omega
  have h1 := sumN_lt (n := n) (fun i hi => h i (by omega)) (by omega) hlt
  unfold sumN
  omega
def meaW (N n : Nat) (E : Nat → Nat → Nat) : Nat := sumN (fun a => sumN (fun i => 8192 - E a i) (n + 1)) N
theorem meaW_lt {E' : Nat → Nat → Nat} {a i : Nat} (ha : a < N) (hi : i ≤ n) (h : ∀ b k, E b k ≤ E' b k) (hlt : E a i < E' a i) (h8 : E' a i < 8192) : meaW N n E' < meaW N n E :=
 sumN_lt (k := a) (fun b _ => sumN_le fun k _ => by have := h b k; omega) ha (sumN_lt (k := i) (fun k _ => by have := h a k; omega) (by omega) (by omega))
open Classical in
noncomputable def accD (R : List RuleD) (st : Int) (w : List Int) : Bool := decide (DerW R w [(false, st)] 0 w.length)
theorem accD_iff {st : Int} : accD R st w = true ↔ DerW R w [(false, st)] 0 w.length := by simp [accD]
end
abbrev KeyD := SymD × Nat × Nat
abbrev cp (x : Nat) : Nat := min x MC
theorem cp_add (a b : Nat) : cp (a + b) = cp (cp a + cp b) := by
 unfold cp MC
 omega
theorem cp_cp (a : Nat) : cp (cp a) = cp a := by
 unfold cp
 omega
theorem cp_mul (a b : Nat) : cp (a * b) = cp (cp a * cp b) := by
 unfold cp
 by_cases ha : a ≤ MC
 ·
  rw [Nat.min_eq_left ha]
  by_cases hb : b ≤ MC
  · rw [Nat.min_eq_left hb]
  rw [Nat.min_eq_right (by omega : MC ≤ b)]
  rcases Nat.eq_zero_or_pos a with h | h
  · rw [h, Nat.zero_mul, Nat.zero_mul]
  have h1 : MC ≤ a * MC := Nat.le_mul_of_pos_left MC h
  have h2 : a * MC ≤ a * b := Nat.mul_le_mul_left a (by omega)
  rw [Nat.min_eq_right h1, Nat.min_eq_right (Nat.le_trans h1 h2)]
 rw [Nat.min_eq_right (by omega : MC ≤ a)]
 rcases Nat.eq_zero_or_pos b with h | h
 ·
  rw [h]
  simp
 have h3 : 0 < min b MC := by unfold MC; omega
 have h1 : MC ≤ MC * min b MC := Nat.le_mul_of_pos_right MC h3
 have h2 : MC ≤ a * b := Nat.le_trans (by omega : MC ≤ a) (Nat.le_mul_of_pos_right a h)
 rw [Nat.min_eq_right h1, Nat.min_eq_right h2]
theorem cp_sum {α : Type} {f g : α → Nat} : ∀ {l : List α}, (∀ x ∈ l, cp (f x) = cp (g x)) → cp ((l.map f).sum) = cp ((l.map g).sum)
 | [], _ => rfl
 | x :: l, h => by
  rw [List.map_cons, List.map_cons, List.sum_cons, List.sum_cons, cp_add, h x (by simp), cp_sum (l := l) fun y hy => h y (by simp [hy]), ← cp_add]
theorem cp_fold {α : Type} (f : α → Nat) : ∀ (l : List α) (s : Nat), l.foldl (fun sum x => cp (sum + f x)) (cp s) = cp (s + (l.map f).sum)
 | [], s => by simp
 | x :: l, s => by
  rw [List.foldl_cons, show cp (cp s + f x) = cp (s + f x) by unfold cp MC; omega, cp_fold f l (s + f x), List.map_cons, List.sum_cons, Nat.add_assoc]
def prodN {α : Type} (c : α → Nat) : List α → Nat
 | [] => 1
 | k :: l => c k * prodN c l
theorem prodN_cons {α : Type} (c : α → Nat) (k : α) (l : List α) : prodN c (k :: l) = c k * prodN c l := rfl
theorem cp_prod {α : Type} (c : α → Nat) : ∀ (l : List α) (s : Nat), l.foldl (fun x k => cp (x * c k)) (cp s) = cp (s * prodN c l)
 | [], s => by simp [prodN]
 | k :: l, s => by
  rw [List.foldl_cons, show cp (cp s * c k) = cp (s * c k) by rw [cp_mul, cp_cp, ← cp_mul], cp_prod c l (s * c k), prodN_cons, Nat.mul_assoc]
section
variable (R : List RuleD) (ws : List Int)
open Classical in
noncomputable def splP : List SymD → Nat → Nat → List (List KeyD)
 | [], i, j => if i = j then [[]] else []
 | s :: l, i, j => ((List.range (j + 1)).filter fun k => decide (DerW R ws [s] i k ∧ DerW R ws l k j)).flatMap fun k => (splP l k j).map fun ks => (s, i, k) :: ks
noncomputable def packsP (x : KeyD) : List (Nat × List KeyD) :=
 if x.1.1 = true then [] else R.zipIdx.flatMap fun p => if p.1.1 = x.1.2 then (splP R ws p.1.2 x.2.1 x.2.2).map fun ks => (p.2, ks) else []
def FEdge (x y : KeyD) : Prop := ∃ p ∈ packsP R ws x, y ∈ p.2
end
section
variable {R : List RuleD} {ws : List Int}
theorem DerW.uncons {s : SymD} {l : List SymD} {i j : Nat} (h : DerW R ws (s :: l) i j) : ∃ k, DerW R ws [s] i k ∧ DerW R ws l k j := by
 cases h with
 | term h1 h2 => exact ⟨_, .term h1 .nil, h2⟩
 | non h1 h2 h3 => exact ⟨_, .non h1 h2 .nil, h3⟩
theorem DerW.append {m : List SymD} {k j : Nat} (h' : DerW R ws m k j) : ∀ {l : List SymD} {i : Nat}, DerW R ws l i k → DerW R ws (l ++ m) i j
 | [], i, h => by cases h; exact h'
 | s :: l, i, h => by
  obtain ⟨q, h1, h2⟩ := h.uncons
  exact h1.cons (DerW.append h' h2)
theorem DerW.nil_eq {i j : Nat} (h : DerW R ws [] i j) : i = j := by cases h; rfl
open Classical in
theorem splP_nil (i j : Nat) : splP R ws [] i j = if i = j then [[]] else [] := rfl
open Classical in
theorem splP_cons (s : SymD) (l : List SymD) (i j : Nat) : splP R ws (s :: l) i j = ((List.range (j + 1)).filter fun k => decide (DerW R ws [s] i k ∧ DerW R ws l k j)).flatMap fun k => (splP R ws l k j).map fun ks => (s, i, k) :: ks := rfl
theorem mem_splP_cons {s : SymD} {l : List SymD} {i j : Nat} {ks : List KeyD} : ks ∈ splP R ws (s :: l) i j ↔ ∃ k ks', k ≤ j ∧ DerW R ws [s] i k ∧ DerW R ws l k j ∧ ks' ∈ splP R ws l k j ∧ ks = (s, i, k) :: ks' := by
 rw [splP_cons]
 simp only [List.mem_flatMap, List.mem_filter, List.mem_range, List.mem_map, decide_eq_true_eq]
 constructor
 ·
  rintro ⟨k, ⟨h1, h2, h3⟩, ks', h4, rfl⟩
  exact ⟨k, ks', by omega, h2, h3, h4, rfl⟩
 rintro ⟨k, ks', h1, h2, h3, h4, rfl⟩
 exact ⟨k, ⟨by omega, h2, h3⟩, ks', h4, rfl⟩
theorem splP_some : ∀ {l : List SymD} {i j : Nat}, DerW R ws l i j → ∃ ks, ks ∈ splP R ws l i j
 | [], i, j, h => by
  obtain rfl := h.nil_eq
  exact ⟨[], by unfold splP; simp⟩
 | s :: l, i, j, h => by
  obtain ⟨k, h1, h2⟩ := h.uncons
  obtain ⟨ks, hk⟩ := splP_some h2
  exact ⟨_, mem_splP_cons.2 ⟨k, ks, h2.le.1, h1, h2, hk, rfl⟩⟩
theorem splP_kid : ∀ {l : List SymD} {i j : Nat} {ks : List KeyD} {y : KeyD}, ks ∈ splP R ws l i j → y ∈ ks → ∃ a b, l = a ++ y.1 :: b ∧ DerW R ws a i y.2.1 ∧ DerW R ws [y.1] y.2.1 y.2.2 ∧ DerW R ws b y.2.2 j
 | [], i, j, ks, y, h, hy => by
  unfold splP at h
  split at h
  · rw [List.mem_singleton.1 h] at hy; cases hy
  cases h
 | s :: l, i, j, ks, y, h, hy => by
  obtain ⟨k, ks', _, h1, h2, h3, rfl⟩ := mem_splP_cons.1 h
  rcases List.mem_cons.1 hy with rfl | hy
  · exact ⟨[], l, rfl, .nil, h1, h2⟩
  obtain ⟨a, b, rfl, h4, h5, h6⟩ := splP_kid h3 hy
  exact ⟨s :: a, b, rfl, h1.cons h4, h5, h6⟩
theorem splP_has {s : SymD} {b : List SymD} {p q j : Nat} (hs : DerW R ws [s] p q) (hb : DerW R ws b q j) : ∀ {a : List SymD} {i : Nat}, DerW R ws a i p → ∃ ks ∈ splP R ws (a ++ s :: b) i j, (s, p, q) ∈ ks
 | [], i, h => by
  obtain rfl := h.nil_eq
  obtain ⟨ks, hk⟩ := splP_some hb
  exact ⟨_, mem_splP_cons.2 ⟨q, ks, hb.le.1, hs, hb, hk, rfl⟩, by simp⟩
 | c :: a, i, h => by
  obtain ⟨k, h1, h2⟩ := h.uncons
  obtain ⟨ks, hk, hm⟩ := splP_has hs hb h2
  have h3 : DerW R ws (a ++ s :: b) k j := DerW.append (hs.cons hb) h2
  exact ⟨_, mem_splP_cons.2 ⟨k, ks, h3.le.1, h1, h3, hk, rfl⟩, by simp [hm]⟩
theorem mem_packsP {x : KeyD} {p : Nat × List KeyD} : p ∈ packsP R ws x ↔ x.1.1 = false ∧ ∃ r, R[p.1]? = some r ∧ r.1 = x.1.2 ∧ p.2 ∈ splP R ws r.2 x.2.1 x.2.2 := by
 unfold packsP
 by_cases h : x.1.1 = true
 ·
  rw [if_pos h]
  simp [h]
 rw [if_neg h]
 have h' : x.1.1 = false := by simpa using h
 simp only [List.mem_flatMap, h', true_and]
 constructor
 ·
  rintro ⟨⟨r, k⟩, h1, h2⟩
  rw [List.mem_zipIdx_iff_getElem?] at h1
  split at h2
  ·
   next e =>
   obtain ⟨ks, h3, rfl⟩ := List.mem_map.1 h2
   exact ⟨r, h1, e, h3⟩
  cases h2
 rintro ⟨r, h1, h2, h3⟩
 refine ⟨(r, p.1), List.mem_zipIdx_iff_getElem?.2 h1, ?_⟩
 rw [if_pos h2]
 exact List.mem_map.2 ⟨p.2, h3, rfl⟩
theorem fEdge_iff {x y : KeyD} : FEdge R ws x y ↔ x.1.1 = false ∧ ∃ r ∈ R, r.1 = x.1.2 ∧ ∃ a b, r.2 = a ++ y.1 :: b ∧ DerW R ws a x.2.1 y.2.1 ∧ DerW R ws [y.1] y.2.1 y.2.2 ∧ DerW R ws b y.2.2 x.2.2 := by
 constructor
 ·
  rintro ⟨p, hp, hy⟩
  obtain ⟨h1, r, h2, h3, h4⟩ := mem_packsP.1 hp
  exact ⟨h1, r, List.mem_of_getElem? h2, h3, splP_kid h4 hy⟩
 rintro ⟨h1, r, hr, h2, a, b, h3, h4, h5, h6⟩
 obtain ⟨k, hk⟩ := List.getElem?_of_mem hr
 obtain ⟨ks, h7, h8⟩ := splP_has h5 h6 h4
 rw [← h3] at h7
 exact ⟨(k, ks), mem_packsP.2 ⟨h1, r, hk, h2, h7⟩, h8⟩
end
noncomputable def nodeC (R : List RuleD) (ws : List Int) (c : KeyD → Nat) (x : KeyD) : Nat :=
 if x.1.1 = true then 1 else (packsP R ws x).foldl (fun sum p => cp (sum + p.2.foldl (fun z k => cp (z * c k)) 1)) 0
section
variable {R : List RuleD} {ws : List Int}
theorem nodeC_eq {c : KeyD → Nat} {x : KeyD} (h : x.1.1 = false) : nodeC R ws c x = cp (((packsP R ws x).map fun p => prodN c p.2).sum) := by
 unfold nodeC
 rw [if_neg (by rw [h]; decide)]
 have h1 : (fun (sum : Nat) (p : Nat × List KeyD) => cp (sum + p.2.foldl (fun z k => cp (z * c k)) 1)) = fun sum p => cp (sum + cp (prodN c p.2)) := by
  funext sum p
  have h2 := cp_prod c p.2 1
  rw [Nat.one_mul] at h2
  rw [show cp 1 = 1 from rfl] at h2
  rw [h2]
 rw [h1]
 have h3 := cp_fold (fun p : Nat × List KeyD => cp (prodN c p.2)) (packsP R ws x) 0
 rw [show cp 0 = 0 from rfl, Nat.zero_add] at h3
 rw [h3]
 exact cp_sum fun p _ => cp_cp _
theorem prodN_congr {c c' : KeyD → Nat} : ∀ {l : List KeyD}, (∀ k ∈ l, c k = c' k) → prodN c l = prodN c' l
 | [], _ => rfl
 | k :: l, h => by
  rw [prodN_cons, prodN_cons, h k (by simp), prodN_congr fun y hy => h y (by simp [hy])]
theorem nodeC_congr {c c' : KeyD → Nat} {x : KeyD} (h : ∀ y, FEdge R ws x y → c y = c' y) : nodeC R ws c x = nodeC R ws c' x := by
 by_cases h1 : x.1.1 = true
 ·
  unfold nodeC
  rw [if_pos h1, if_pos h1]
 have h2 : x.1.1 = false := by simpa using h1
 rw [nodeC_eq h2, nodeC_eq h2]
 congr 1
 exact sum_congr fun p hp => prodN_congr fun k hk => h k ⟨p, hp, hk⟩
theorem nodeC_le (c : KeyD → Nat) (x : KeyD) : nodeC R ws c x ≤ MC := by
 by_cases h1 : x.1.1 = true
 ·
  unfold nodeC
  rw [if_pos h1]
  decide
 rw [nodeC_eq (by simpa using h1)]
 exact Nat.min_le_right _ _
end
section
variable (R : List RuleD) (ws : List Int)
open Classical in
noncomputable def fAcc (x : KeyD) (h : Acc (fun y x => FEdge R ws x y) x) : Nat :=
 Acc.rec (motive := fun _ _ => Nat) (fun x _ ih => nodeC R ws (fun y => if h : FEdge R ws x y then ih y h else 0) x) h
open Classical in
noncomputable def fC (x : KeyD) : Nat := if h : Acc (fun y x => FEdge R ws x y) x then fAcc R ws x h else 0
end
open Classical in
theorem fC_eq {R : List RuleD} {ws : List Int} {x : KeyD} (h : Acc (fun y x => FEdge R ws x y) x) : fC R ws x = nodeC R ws (fC R ws) x := by
 have e : fC R ws x = fAcc R ws x h := by unfold fC; rw [dif_pos h]
 rw [e]
 have hu : fAcc R ws x h = nodeC R ws (fun y => if h' : FEdge R ws x y then fAcc R ws y (h.inv h') else 0) x := by
  cases h
  rfl
 rw [hu]
 refine nodeC_congr fun y hy => ?_
 rw [dif_pos hy]
 unfold fC
 rw [dif_pos (h.inv hy)]
end Go.Proofs.YtjnbjdbndbbanaaGreatDoor
