/- MkLawP -/
import Derived.Test.YtbmcoamdfpegnaaMn48
namespace Go.Proofs.Ytbmcoamdfpegnaa
def LeB (E F : List Bool) : Prop := E.length = F.length ∧ ∀ x : Nat, E[x]? = some true → F[x]? = some true
theorem LeB.refl (E : List Bool) : LeB E E := ⟨rfl, fun _ h => h⟩
theorem LeB.trans {E F G : List Bool} (h : LeB E F) (h' : LeB F G) : LeB E G := ⟨h.1.trans h'.1, fun x hx => h'.2 x (h.2 x hx)⟩
theorem LeB.cnt : ∀ {E F : List Bool}, LeB E F → E.countP id ≤ F.countP id ∧ (E.countP id = F.countP id → E = F)
 | [], [], _ => ⟨Nat.le_refl _, fun _ => rfl⟩
 | [], _ :: _, h => by have := h.1; simp at this
 | _ :: _, [], h => by have := h.1; simp at this
 | a :: E, b :: F, h => by
  obtain ⟨h1, h2⟩ := LeB.cnt (E := E) (F := F) ⟨by have := h.1; simpa using this, fun x hx => by have := h.2 (x + 1) (by simpa using hx); simpa using this⟩
  have h0 : a = true → b = true := fun e => by have := h.2 0 (by simp [e]); simpa using this
  rw [List.countP_cons, List.countP_cons]
  cases a with
  | true =>
   rw [h0 rfl]
   exact ⟨by omega, fun e => by rw [h2 (by omega)]⟩
  | false =>
   cases b with
   | true => exact ⟨by simp; omega, fun e => by simp at e; omega⟩
   | false => exact ⟨by omega, fun e => by rw [h2 (by omega)]⟩
theorem LeB.antisymm {E F : List Bool} (h : LeB E F) (h' : LeB F E) : E = F := h.cnt.2 (by have := h.cnt.1; have := h'.cnt.1; omega)
theorem LeB.set {E : List Bool} (i : Nat) {b : Bool} (hb : E[i]? = some true → b = true) : LeB E (E.set i b) := by
 refine ⟨by simp, fun x hx => ?_⟩
 by_cases e : i = x
 ·
  subst e
  have hl := (List.getElem?_eq_some_iff.1 hx).1
  rw [List.getElem?_set_self hl, hb hx]
 ·
  rw [List.getElem?_set_ne e]
  exact hx
theorem foldl_le {α : Type} {g : List Bool → α → List Bool} (hg : ∀ E r, LeB E (g E r)) : ∀ (P : List α) (E : List Bool), LeB E (P.foldl g E)
 | [], E => .refl E
 | r :: P, E => (hg E r).trans (foldl_le hg P _)
theorem foldl_fixed {α : Type} {g : List Bool → α → List Bool} (hg : ∀ E r, LeB E (g E r)) : ∀ (P : List α) (E : List Bool), P.foldl g E = E → ∀ r ∈ P, g E r = E
 | [], _, _, _, h => by cases h
 | a :: P, E, h, r, hr => by
  rw [List.foldl_cons] at h
  have h1 : g E a = E := (LeB.antisymm (hg E a) (by have := foldl_le hg P (g E a); rw [h] at this; exact this)).symm
  rw [h1] at h
  rcases List.mem_cons.1 hr with rfl | hr
  ·
   exact h1
  ·
   exact foldl_fixed hg P E h r hr
def rounds (f : List Bool → List Bool) : Nat → List Bool → List Bool
 | 0, E => E
 | k + 1, E => f (rounds f k E)
theorem rounds_le {f : List Bool → List Bool} (hf : ∀ E, LeB E (f E)) (E : List Bool) : ∀ k, LeB E (rounds f k E)
 | 0 => .refl E
 | k + 1 => (rounds_le hf E k).trans (hf _)
theorem rounds_fixed {f : List Bool → List Bool} (hf : ∀ E, LeB E (f E)) (E : List Bool) : f (rounds f (E.length + 1) E) = rounds f (E.length + 1) E := by
 have key : ∀ k, f (rounds f k E) = rounds f k E ∨ k + 1 ≤ (rounds f (k + 1) E).countP id := by
  intro k
  induction k with
  | zero =>
   by_cases h : f E = E
   ·
    exact .inl h
   ·
    have h1 := (hf E).cnt
    refine .inr ?_
    show 0 + 1 ≤ (f E).countP id
    by_cases e : E.countP id = (f E).countP id
    ·
     exact absurd (h1.2 e).symm h
    ·
     omega
  | succ k ih =>
   rcases ih with h | h
   ·
    refine .inl ?_
    show f (f (rounds f k E)) = f (rounds f k E)
    rw [h]
    exact h
   ·
    by_cases h2 : f (rounds f (k + 1) E) = rounds f (k + 1) E
    ·
     exact .inl h2
    ·
     have h1 := (hf (rounds f (k + 1) E)).cnt
     refine .inr ?_
     show k + 1 + 1 ≤ (f (rounds f (k + 1) E)).countP id
     by_cases e : (rounds f (k + 1) E).countP id = (f (rounds f (k + 1) E)).countP id
     ·
      exact absurd (h1.2 e).symm h2
     ·
      omega
 rcases key (E.length + 1) with h | h
 ·
  exact h
 ·
  have h1 := List.countP_le_length (p := id) (l := rounds f (E.length + 1 + 1) E)
  have h2 := (rounds_le hf E (E.length + 1 + 1)).1
  omega
def atB (E : List Bool) (x : Int) : Bool := (E[x.toNat]?).getD false
theorem atB_true {E : List Bool} {x : Int} : atB E x = true ↔ E[x.toNat]? = some true := by
 unfold atB
 cases h : E[x.toNat]? with
 | none => simp
 | some b => simp
def endR (E : List Bool) (r : RuleD) : List Bool := E.set r.1.toNat (atB E r.1 || r.2.all fun s => s.1 || atB E s.2)
def rchS (left : Int) (c : List Bool) (s : SymD) : List Bool := if atB c left = true ∧ s.1 = false then c.set s.2.toNat true else c
def rchR (c : List Bool) (r : RuleD) : List Bool := r.2.foldl (rchS r.1) c
theorem endR_le (E : List Bool) (r : RuleD) : LeB E (endR E r) := LeB.set _ fun h => by
 have h1 : atB E r.1 = true := atB_true.2 h
 rw [h1]
 rfl
theorem rchS_le (left : Int) (c : List Bool) (s : SymD) : LeB c (rchS left c s) := by
 unfold rchS
 split
 ·
  exact LeB.set _ fun _ => rfl
 ·
  exact .refl c
theorem rchR_le (c : List Bool) (r : RuleD) : LeB c (rchR c r) := foldl_le (rchS_le r.1) r.2 c
def endRound (P : List RuleD) (E : List Bool) : List Bool := P.foldl endR E
def rchRound (P : List RuleD) (E : List Bool) : List Bool := P.foldl rchR E
theorem endRound_le (P : List RuleD) (E : List Bool) : LeB E (endRound P E) := foldl_le endR_le P E
theorem rchRound_le (P : List RuleD) (E : List Bool) : LeB E (rchRound P E) := foldl_le rchR_le P E
section
variable {P : List RuleD} {n : Nat}
def Fit (n : Nat) (P : List RuleD) : Prop := ∀ r ∈ P, (0 ≤ r.1 ∧ r.1 < (n : Int)) ∧ ∀ s ∈ r.2, s.1 = false → 0 ≤ s.2 ∧ s.2 < (n : Int)
theorem end_closed (hP : Fit n P) {E0 : List Bool} (h0 : E0.length = n) {r : RuleD} (hr : r ∈ P) (hall : ∀ s ∈ r.2, s.1 = true ∨ atB (rounds (endRound P) (n + 1) E0) s.2 = true) : atB (rounds (endRound P) (n + 1) E0) r.1 = true := by
 have h1 := rounds_fixed (endRound_le P) E0
 rw [h0] at h1
 have hl := (rounds_le (endRound_le P) E0 (n + 1)).1
 obtain ⟨E, hE⟩ : ∃ E, E = rounds (endRound P) (n + 1) E0 := ⟨_, rfl⟩
 rw [← hE] at h1 hall hl ⊢
 have h2 := foldl_fixed endR_le P E h1 r hr
 have h3 := (hP r hr).1
 rw [← h2]
 refine atB_true.2 ?_
 unfold endR
 rw [List.getElem?_set_self (by omega)]
 congr 1
 rw [Bool.or_eq_true]
 refine .inr (List.all_eq_true.2 fun s hs => ?_)
 rw [Bool.or_eq_true]
 exact hall s hs
theorem rch_closed (hP : Fit n P) {E0 : List Bool} (h0 : E0.length = n) {r : RuleD} (hr : r ∈ P) (hl : atB (rounds (rchRound P) (n + 1) E0) r.1 = true) {s : SymD} (hs : s ∈ r.2) (hn : s.1 = false) : atB (rounds (rchRound P) (n + 1) E0) s.2 = true := by
 have h1 := rounds_fixed (rchRound_le P) E0
 rw [h0] at h1
 have hle := (rounds_le (rchRound_le P) E0 (n + 1)).1
 obtain ⟨E, hE⟩ : ∃ E, E = rounds (rchRound P) (n + 1) E0 := ⟨_, rfl⟩
 rw [← hE] at h1 hl hle ⊢
 have h2 := foldl_fixed rchR_le P E h1 r hr
 have h3 := foldl_fixed (rchS_le r.1) r.2 E h2 s hs
 have h4 := (hP r hr).2 s hs hn
 rw [← h3]
 unfold rchS
 rw [if_pos ⟨hl, hn⟩]
 refine atB_true.2 ?_
 rw [List.getElem?_set_self (by omega)]
theorem rch_start {E0 : List Bool} (k : Nat) {x : Int} (h : atB E0 x = true) : atB (rounds (rchRound P) k E0) x = true := atB_true.2 ((rounds_le (rchRound_le P) E0 k).2 _ (atB_true.1 h))
end
theorem TVL.of_mem {R : List RuleD} : ∀ {l : List SymD} {ts : List TreeD}, TVL R l ts → ∀ s ∈ l, ∃ y ∈ ts, TV R s y
 | [], _, _, _, h => by cases h
 | a :: l, ts, h, s, hs => by
  obtain ⟨x, ts', rfl, h1, h2⟩ := h.inv
  rcases List.mem_cons.1 hs with rfl | hs
  ·
   exact ⟨x, List.mem_cons_self, h1⟩
  ·
   obtain ⟨y, hy, h3⟩ := TVL.of_mem h2 s hs
   exact ⟨y, List.mem_cons_of_mem _ hy, h3⟩
theorem closed_tv {P : List RuleD} {G : Int → Prop} (hG : ∀ r ∈ P, (∀ s ∈ r.2, s.1 = true ∨ G s.2) → G r.1) : ∀ (m : Nat) (x : TreeD) (a : Int), sizeT x ≤ m → TV P (false, a) x → G a
 | 0, x, a, hm, _ => by rw [sizeT_eq] at hm; omega
 | m + 1, x, a, hm, h => by
  rcases h.inv with ⟨c, e, _⟩ | ⟨k, r, ts, e, rfl, h1, h2⟩
  ·
   cases e
  ·
   injection e with _ e
   rw [e]
   refine hG r (List.mem_of_getElem? h1) fun s hs => ?_
   obtain ⟨b, c⟩ := s
   cases b with
   | true => exact .inl rfl
   | false =>
    obtain ⟨y, hy, h3⟩ := TVL.of_mem h2 _ hs
    exact .inr (closed_tv hG m y c (by have h12 := sizeT_kid (t := .node (k : Int) 0 ts) (x := y) hy; omega) h3)
end Go.Proofs.Ytbmcoamdfpegnaa
