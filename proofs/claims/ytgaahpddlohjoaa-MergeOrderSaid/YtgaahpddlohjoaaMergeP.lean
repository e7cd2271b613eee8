/- Machines whose states become one (plain): which state a state was merged into, how two rows become one, what a merge comes to; its laws. Merging (plain): one state after the other is merged into the first one that it can be one with; the automaton that is left. Merging (plain): the machine of all beginnings of words; what the automaton of the merged machine accepts, how many states it has, and that it hangs on the sets of words alone. -/
import Derived.Test.YtgaahpddlohjoaaCanonLaws
import Derived.Test.YtgaahpddlohjoaaMiniPlain
namespace Go.Proofs.Ytgaahpddlohjoaa

structure MM where
  into : List Nat
  next : List (List Int)
  mark : List Nat
def up (l : List Nat) (s : Nat) : Nat := (l[s]?).getD s
def findP (l : List Nat) (s : Nat) : Nat := if up l s < s then findP l (up l s) else s
termination_by s
def Dn (l : List Nat) : Prop := ∀ s, up l s ≤ s
section
variable {l : List Nat}
theorem findP_root {s : Nat} (h : ¬ up l s < s) : findP l s = s := by rw [findP, if_neg h]
theorem findP_up {s : Nat} (h : up l s < s) : findP l s = findP l (up l s) := by rw [findP, if_pos h]
theorem findP_le : ∀ s : Nat, findP l s ≤ s := by
  intro s
  induction s using Nat.strongRecOn with
  | _ s ih =>
    by_cases h : up l s < s
    · rw [findP_up h]; have := ih _ h; omega
    · rw [findP_root h]; exact Nat.le_refl _
theorem findP_fix (hd : Dn l) : ∀ s : Nat, up l (findP l s) = findP l s := by
  intro s
  induction s using Nat.strongRecOn with
  | _ s ih =>
    by_cases h : up l s < s
    · rw [findP_up h]; exact ih _ h
    · rw [findP_root h]; have := hd s; omega
theorem findP_of {s : Nat} (h : up l s = s) : findP l s = s := findP_root (by omega)
theorem up_lt (hd : Dn l) {s n : Nat} (h : s < n) : up l s < n := by have := hd s; omega
theorem up_set {a b : Nat} (hb : b < l.length) (x : Nat) : up (l.set b a) x = if x = b then a else up l x := by
  unfold up
  by_cases h : x = b
  · subst h; rw [List.getElem?_set_self hb, if_pos rfl]; rfl
  · rw [List.getElem?_set_ne (fun e => h e.symm), if_neg h]
theorem dn_set (hd : Dn l) {a b : Nat} (hb : b < l.length) (hab : a < b) : Dn (l.set b a) := fun s => by
  rw [up_set hb]
  split
  · omega
  · exact hd s
theorem findP_set (_ : Dn l) {a b : Nat} (hb : b < l.length) (hab : a < b) (ha : up l a = a) (hr : up l b = b) : ∀ x : Nat, findP (l.set b a) x = if findP l x = b then a else findP l x := by
  intro x
  induction x using Nat.strongRecOn with
  | _ x ih =>
    by_cases h : x = b
    · subst h
      have h1 : up (l.set x a) x = a := by rw [up_set hb, if_pos rfl]
      rw [findP_of hr, if_pos rfl, findP_up (by rw [h1]; exact hab), h1]
      exact findP_of (by rw [up_set hb, if_neg (by omega)]; exact ha)
    · have h1 : up (l.set b a) x = up l x := by rw [up_set hb, if_neg h]
      by_cases h2 : up l x < x
      · rw [findP_up (by rw [h1]; exact h2), h1, ih _ h2, findP_up h2]
      · rw [findP_root (by rw [h1]; exact h2), findP_root h2, if_neg h]
/-- what holds of each step upwards holds of all -/
theorem findP_rel {E : Nat → Nat → Prop} (hrefl : ∀ x, E x x) (htrans : ∀ x y z, E x y → E y z → E x z) (hup : ∀ x, E x (up l x)) : ∀ x : Nat, E x (findP l x) := by
  intro x
  induction x using Nat.strongRecOn with
  | _ x ih =>
    by_cases h : up l x < x
    · rw [findP_up h]; exact htrans _ _ _ (hup x) (ih _ h)
    · rw [findP_root h]; exact hrefl x
end

def joinC (x y : Int) : Int := if y < 0 then x else if x < 0 then y else x
def joinRow (ra rb : List Int) : List Int := List.zipWith joinC ra rb
def joinWork : List Int → List Int → List (Nat × Nat)
  | x :: ra, y :: rb => (if y < 0 ∨ x < 0 then [] else [(x.toNat, y.toNat)]) ++ joinWork ra rb
  | _, _ => []
theorem joinRow_get {ra rb : List Int} {c : Nat} {x y : Int} (hx : ra[c]? = some x) (hy : rb[c]? = some y) : (joinRow ra rb)[c]? = some (joinC x y) := by
  unfold joinRow
  rw [List.getElem?_zipWith, hx, hy]
theorem joinWork_mem : ∀ {ra rb : List Int} {c : Nat} {x y : Int}, ra[c]? = some x → rb[c]? = some y → 0 ≤ x → 0 ≤ y → (x.toNat, y.toNat) ∈ joinWork ra rb
  | [], _, c, x, y, h, _, _, _ => by simp at h
  | _ :: _, [], c, x, y, _, h, _, _ => by simp at h
  | p :: ra, q :: rb, 0, x, y, hx, hy, h1, h2 => by
    simp only [List.getElem?_cons_zero, Option.some.injEq] at hx hy
    subst hx hy
    unfold joinWork
    rw [if_neg (by omega)]
    simp
  | p :: ra, q :: rb, c + 1, x, y, hx, hy, h1, h2 => by
    simp only [List.getElem?_cons_succ] at hx hy
    unfold joinWork
    exact List.mem_append_right _ (joinWork_mem hx hy h1 h2)
theorem joinWork_snoc : ∀ {ra rb : List Int} {c : Nat} {x y : Int}, ra[c]? = some x → rb[c]? = some y → joinWork (ra.take (c + 1)) (rb.take (c + 1)) = joinWork (ra.take c) (rb.take c) ++ (if y < 0 ∨ x < 0 then [] else [(x.toNat, y.toNat)])
  | [], _, c, x, y, h, _ => by simp at h
  | _ :: _, [], c, x, y, _, h => by simp at h
  | p :: ra, q :: rb, 0, x, y, hx, hy => by
    simp only [List.getElem?_cons_zero, Option.some.injEq] at hx hy
    subst hx hy
    simp [joinWork]
  | p :: ra, q :: rb, c + 1, x, y, hx, hy => by
    simp only [List.getElem?_cons_succ] at hx hy
    rw [List.take_succ_cons, List.take_succ_cons, List.take_succ_cons, List.take_succ_cons]
    unfold joinWork
    rw [joinWork_snoc hx hy, List.append_assoc]
theorem joinWork_len : ∀ ra rb : List Int, (joinWork ra rb).length ≤ ra.length
  | [], _ => by simp [joinWork]
  | _ :: _, [] => by simp [joinWork]
  | p :: ra, q :: rb => by
    unfold joinWork
    have := joinWork_len ra rb
    split <;> simp <;> omega
theorem joinWork_lt {n : Nat} : ∀ {ra rb : List Int}, (∀ x ∈ ra, x < n) → (∀ x ∈ rb, x < n) → ∀ p ∈ joinWork ra rb, p.1 < n ∧ p.2 < n
  | [], _, _, _, p, h => by simp [joinWork] at h
  | _ :: _, [], _, _, p, h => by simp [joinWork] at h
  | x :: ra, y :: rb, h1, h2, p, h => by
    unfold joinWork at h
    rcases List.mem_append.1 h with h | h
    · split at h
      · cases h
      · rename_i hn
        obtain rfl := List.mem_singleton.1 h
        have := h1 x (by simp)
        have := h2 y (by simp)
        exact ⟨by show x.toNat < n; omega, by show y.toNat < n; omega⟩
    · exact joinWork_lt (fun z hz => h1 z (by simp [hz])) (fun z hz => h2 z (by simp [hz])) p h

def MM.row (m : MM) (a : Nat) : List Int := (m.next[a]?).getD []
def MM.mk1 (m : MM) (a : Nat) : Nat := (m.mark[a]?).getD 0
def MM.join (m : MM) (a b : Nat) : MM := ⟨m.into.set b a, m.next.set a (joinRow (m.row a) (m.row b)), m.mark.set a (m.mk1 a ||| m.mk1 b)⟩
structure MM.Ok (T : Nat) (m : MM) : Prop where
  nx : m.next.length = m.into.length
  mks : m.mark.length = m.into.length
  dn : Dn m.into
  row : ∀ r ∈ m.next, r.length = T ∧ ∀ x ∈ r, -1 ≤ x ∧ x < m.into.length
  m4 : ∀ x ∈ m.mark, x < 4
  len : m.into.length ≤ 1000
section
variable {T : Nat} {m : MM}
theorem MM.Ok.rowAt (h : m.Ok T) {a : Nat} (ha : a < m.into.length) : m.next[a]? = some (m.row a) ∧ (m.row a).length = T ∧ ∀ x ∈ m.row a, -1 ≤ x ∧ x < m.into.length := by
  have h1 : m.next[a]? = some (m.next[a]'(by rw [h.nx]; exact ha)) := List.getElem?_eq_getElem _
  have h2 : m.row a = m.next[a]'(by rw [h.nx]; exact ha) := by unfold MM.row; rw [h1]; rfl
  rw [h2]
  exact ⟨h1, h.row _ (List.getElem_mem _)⟩
theorem MM.Ok.markAt (h : m.Ok T) {a : Nat} (ha : a < m.into.length) : m.mark[a]? = some (m.mk1 a) ∧ m.mk1 a < 4 := by
  have h1 : m.mark[a]? = some (m.mark[a]'(by rw [h.mks]; exact ha)) := List.getElem?_eq_getElem _
  have h2 : m.mk1 a = m.mark[a]'(by rw [h.mks]; exact ha) := by unfold MM.mk1; rw [h1]; rfl
  rw [h2]
  exact ⟨h1, h.m4 _ (List.getElem_mem _)⟩
theorem MM.Ok.intoAt (_ : m.Ok T) {a : Nat} (ha : a < m.into.length) : m.into[a]? = some (up m.into a) := by
  unfold up
  rw [List.getElem?_eq_getElem ha]; rfl
theorem joinC_range {x y : Int} {n : Nat} (hx : -1 ≤ x ∧ x < n) (hy : -1 ≤ y ∧ y < n) : -1 ≤ joinC x y ∧ joinC x y < n := by
  unfold joinC
  split
  · exact hx
  · split
    · exact hy
    · exact hx
theorem joinRow_ok {ra rb : List Int} {n : Nat} (ha : ra.length = T ∧ ∀ x ∈ ra, -1 ≤ x ∧ x < n) (hb : rb.length = T ∧ ∀ x ∈ rb, -1 ≤ x ∧ x < n) : (joinRow ra rb).length = T ∧ ∀ x ∈ joinRow ra rb, -1 ≤ x ∧ x < n := by
  unfold joinRow
  refine ⟨by rw [List.length_zipWith]; omega, fun x hx => ?_⟩
  obtain ⟨i, hi⟩ := List.mem_iff_getElem?.1 hx
  rw [List.getElem?_zipWith] at hi
  cases h1 : ra[i]? with
  | none => rw [h1] at hi; simp at hi
  | some p =>
    cases h2 : rb[i]? with
    | none => rw [h1, h2] at hi; simp at hi
    | some q =>
      rw [h1, h2] at hi
      simp only [Option.some.injEq] at hi
      subst hi
      exact joinC_range (ha.2 p (List.mem_of_getElem? h1)) (hb.2 q (List.mem_of_getElem? h2))
theorem or4 {a b : Nat} (ha : a < 4) (hb : b < 4) : a ||| b < 4 := Nat.or_lt_two_pow (n := 2) ha hb
theorem MM.Ok.join (h : m.Ok T) {a b : Nat} (hab : a < b) (hb : b < m.into.length) : (m.join a b).Ok T := by
  have ha : a < m.into.length := by omega
  refine ⟨by simp [MM.join, h.nx], by simp [MM.join, h.mks], dn_set h.dn hb hab, fun r hr => ?_, fun x hx => ?_, by simp [MM.join, h.len]⟩
  · simp only [MM.join, List.length_set] at hr ⊢
    rcases List.mem_or_eq_of_mem_set hr with h1 | h1
    · exact h.row r h1
    · rw [h1]
      exact joinRow_ok (h.rowAt ha).2 (h.rowAt hb).2
  · rcases List.mem_or_eq_of_mem_set hx with h1 | h1
    · exact h.m4 x h1
    · rw [h1]
      exact or4 (h.markAt ha).2 (h.markAt hb).2
theorem MM.join_row (h : m.Ok T) {a b x : Nat} (ha : a < m.into.length) : (m.join a b).row x = if x = a then joinRow (m.row a) (m.row b) else m.row x := by
  unfold MM.row MM.join
  dsimp only
  by_cases e : x = a
  · subst e; rw [List.getElem?_set_self (by rw [h.nx]; exact ha), if_pos rfl]; rfl
  · rw [List.getElem?_set_ne (fun e' => e e'.symm), if_neg e]
theorem MM.join_mark (h : m.Ok T) {a b x : Nat} (ha : a < m.into.length) : (m.join a b).mk1 x = if x = a then m.mk1 a ||| m.mk1 b else m.mk1 x := by
  unfold MM.mk1 MM.join
  dsimp only
  by_cases e : x = a
  · subst e; rw [List.getElem?_set_self (by rw [h.mks]; exact ha), if_pos rfl]; rfl
  · rw [List.getElem?_set_ne (fun e' => e e'.symm), if_neg e]
end

/-- the pair's two states: the earlier one, the later one -/
def loP (m : MM) (p : Nat × Nat) : Nat := min (findP m.into p.1) (findP m.into p.2)
def hiP (m : MM) (p : Nat × Nat) : Nat := max (findP m.into p.1) (findP m.into p.2)
/-- what merging the pairs of a list comes to -/
inductive MRun : List (Nat × Nat) → MM → Option MM → Prop
  | nil (m : MM) : MRun [] m (some m)
  | same {p W m r} : findP m.into p.1 = findP m.into p.2 → MRun W m r → MRun (p :: W) m r
  | bad {p W m} : findP m.into p.1 ≠ findP m.into p.2 → m.mk1 (loP m p) ||| m.mk1 (hiP m p) = 3 → MRun (p :: W) m none
  | step {p W m r} : findP m.into p.1 ≠ findP m.into p.2 → m.mk1 (loP m p) ||| m.mk1 (hiP m p) ≠ 3 →
      MRun (W ++ joinWork (m.row (loP m p)) (m.row (hiP m p))) (m.join (loP m p) (hiP m p)) r → MRun (p :: W) m r
theorem MRun.det {W : List (Nat × Nat)} {m : MM} {r r' : Option MM} (h : MRun W m r) : MRun W m r' → r = r' := by
  induction h with
  | nil m => intro h'; cases h'; rfl
  | same h1 _ ih =>
    intro h'
    cases h' with
    | same _ h2 => exact ih h2
    | bad h2 _ => exact absurd h1 h2
    | step h2 _ _ => exact absurd h1 h2
  | bad h1 h2 =>
    intro h'
    cases h' with
    | same h3 _ => exact absurd h3 h1
    | bad _ _ => rfl
    | step _ h3 _ => exact absurd h2 h3
  | step h1 h2 _ ih =>
    intro h'
    cases h' with
    | same h3 _ => exact absurd h3 h1
    | bad _ h3 => exact absurd h3 h2
    | step _ _ h3 => exact ih h3
/-- all pairs are of states -/
def WLt (n : Nat) (W : List (Nat × Nat)) : Prop := ∀ p ∈ W, p.1 < n ∧ p.2 < n
structure LoHi (m : MM) (p : Nat × Nat) : Prop where
  lt : loP m p < hiP m p
  hi : hiP m p < m.into.length
  rl : up m.into (loP m p) = loP m p
  rh : up m.into (hiP m p) = hiP m p
section
variable {T : Nat} {m : MM}
theorem loHi (h : m.Ok T) {p : Nat × Nat} (hp : p.1 < m.into.length ∧ p.2 < m.into.length) (hne : findP m.into p.1 ≠ findP m.into p.2) : LoHi m p := by
  have h1 := findP_le (l := m.into) p.1
  have h2 := findP_le (l := m.into) p.2
  have h3 := findP_fix h.dn p.1
  have h4 := findP_fix h.dn p.2
  have hlo : loP m p = findP m.into p.1 ∧ hiP m p = findP m.into p.2 ∨ loP m p = findP m.into p.2 ∧ hiP m p = findP m.into p.1 := by unfold loP hiP; omega
  refine ⟨by unfold loP hiP; omega, by unfold hiP; omega, ?_, ?_⟩
  · rcases hlo with ⟨e, _⟩ | ⟨e, _⟩ <;> rw [e] <;> assumption
  · rcases hlo with ⟨_, e⟩ | ⟨_, e⟩ <;> rw [e] <;> assumption
theorem WLt.next (h : m.Ok T) {W : List (Nat × Nat)} {p : Nat × Nat} (hW : WLt m.into.length (p :: W)) (hl : LoHi m p) : WLt (m.join (loP m p) (hiP m p)).into.length (W ++ joinWork (m.row (loP m p)) (m.row (hiP m p))) := by
  intro q hq
  rw [show (m.join (loP m p) (hiP m p)).into.length = m.into.length by simp [MM.join]]
  rcases List.mem_append.1 hq with hq | hq
  · exact hW q (by simp [hq])
  · have hb := hl.hi
    have ha : loP m p < m.into.length := by have := hl.lt; omega
    exact joinWork_lt (fun x hx => ((h.rowAt ha).2.2 x hx).2) (fun x hx => ((h.rowAt hb).2.2 x hx).2) q hq
theorem findP_join (h : m.Ok T) {p : Nat × Nat} (hl : LoHi m p) (x : Nat) : findP (m.join (loP m p) (hiP m p)).into x = if findP m.into x = hiP m p then loP m p else findP m.into x :=
  findP_set h.dn hl.hi hl.lt hl.rl hl.rh x
/-- a property that each step keeps holds at the end -/
theorem MRun.keep {I : List (Nat × Nat) → MM → Prop} (hsame : ∀ p W m, m.Ok T → WLt m.into.length (p :: W) → findP m.into p.1 = findP m.into p.2 → I (p :: W) m → I W m)
    (hstep : ∀ p W m, m.Ok T → WLt m.into.length (p :: W) → findP m.into p.1 ≠ findP m.into p.2 → LoHi m p → m.mk1 (loP m p) ||| m.mk1 (hiP m p) ≠ 3 → I (p :: W) m → I (W ++ joinWork (m.row (loP m p)) (m.row (hiP m p))) (m.join (loP m p) (hiP m p)))
    {W : List (Nat × Nat)} {m : MM} {r : Option MM} (hr : MRun W m r) : m.Ok T → WLt m.into.length W → I W m → ∀ m', r = some m' → I [] m' ∧ m'.Ok T ∧ m'.into.length = m.into.length := by
  induction hr with
  | nil m => intro h _ hI m' e; injection e with e; subst e; exact ⟨hI, h, rfl⟩
  | same h1 _ ih => intro h hW hI m' e; exact ih h (fun q hq => hW q (by simp [hq])) (hsame _ _ _ h hW h1 hI) m' e
  | bad _ _ => intro _ _ _ m' e; cases e
  | step h1 h2 _ ih =>
    intro h hW hI m' e
    have hl := loHi h (hW _ (by simp)) h1
    obtain ⟨i1, i2, i3⟩ := ih (h.join hl.lt hl.hi) (hW.next h hl) (hstep _ _ _ h hW h1 hl h2 hI) m' e
    exact ⟨i1, i2, i3.trans (by simp [MM.join])⟩
end

/-- an equivalence that joins each state with the one it was merged into, and each pair that is still to be merged -/
structure Eqs (m : MM) (W : List (Nat × Nat)) (E : Nat → Nat → Prop) : Prop where
  refl : ∀ x, E x x
  symm : ∀ x y, E x y → E y x
  trans : ∀ x y z, E x y → E y z → E x z
  up : ∀ x, E x (up m.into x)
  work : ∀ p ∈ W, E p.1 p.2
theorem Eqs.find {m : MM} {W : List (Nat × Nat)} {E : Nat → Nat → Prop} (h : Eqs m W E) (x : Nat) : E x (findP m.into x) := findP_rel h.refl h.trans h.up x
theorem Eqs.self {m : MM} (hd : Dn m.into) : Eqs m [] (fun x y => findP m.into x = findP m.into y) where
  refl _ := rfl
  symm _ _ h := h.symm
  trans _ _ _ h h' := h.trans h'
  up x := by
    by_cases h : Go.Proofs.Ytgaahpddlohjoaa.up m.into x < x
    · exact findP_up h
    · rw [show Go.Proofs.Ytgaahpddlohjoaa.up m.into x = x by have := hd x; omega]
  work p hp := by cases hp
section
variable {T : Nat} {m : MM}
theorem Eqs.same {p : Nat × Nat} {W : List (Nat × Nat)} {E : Nat → Nat → Prop} (he : findP m.into p.1 = findP m.into p.2) (h : Eqs m W E) : Eqs m (p :: W) E :=
  ⟨h.refl, h.symm, h.trans, h.up, fun q hq => by
    rcases List.mem_cons.1 hq with rfl | hq
    · refine h.trans _ _ _ (h.find q.1) ?_
      rw [he]
      exact h.symm _ _ (h.find q.2)
    · exact h.work q hq⟩
theorem Eqs.back (_ : m.Ok T) {p : Nat × Nat} {W V : List (Nat × Nat)} {E : Nat → Nat → Prop} (hl : LoHi m p) (h : Eqs (m.join (loP m p) (hiP m p)) (W ++ V) E) : Eqs m (p :: W) E := by
  have hup : ∀ x, E x (Go.Proofs.Ytgaahpddlohjoaa.up m.into x) := fun x => by
    have := h.up x
    rw [show (m.join (loP m p) (hiP m p)).into = m.into.set (hiP m p) (loP m p) from rfl, up_set hl.hi] at this
    by_cases e : x = hiP m p
    · subst e; rw [hl.rh]; exact h.refl _
    · rwa [if_neg e] at this
  have hfind : ∀ x, E x (findP m.into x) := findP_rel h.refl h.trans hup
  have hlh : E (hiP m p) (loP m p) := by
    have := h.up (hiP m p)
    rwa [show (m.join (loP m p) (hiP m p)).into = m.into.set (hiP m p) (loP m p) from rfl, up_set hl.hi, if_pos rfl] at this
  refine ⟨h.refl, h.symm, h.trans, hup, fun q hq => ?_⟩
  rcases List.mem_cons.1 hq with rfl | hq
  · have h1 := hfind q.1
    have h2 := hfind q.2
    have hlo : loP m q = findP m.into q.1 ∧ hiP m q = findP m.into q.2 ∨ loP m q = findP m.into q.2 ∧ hiP m q = findP m.into q.1 := by unfold loP hiP; omega
    refine h.trans _ _ _ h1 (h.trans _ _ _ ?_ (h.symm _ _ h2))
    rcases hlo with ⟨e1, e2⟩ | ⟨e1, e2⟩
    · rw [← e1, ← e2]; exact h.symm _ _ hlh
    · rw [← e1, ← e2]; exact hlh
  · exact h.work q (List.mem_append_left _ hq)
end

/-- the machine still reads each step of 'tr' -/
def Reads (tr : Nat → Nat → Option Nat) (W : List (Nat × Nat)) (m : MM) : Prop :=
  ∀ s c t, tr s c = some t → ∃ u : Nat, (m.row (findP m.into s))[c]? = some (u : Int) ∧ ∀ E, Eqs m W E → E u t
/-- each state's marks are among those of the state into which it was merged; no state has both -/
def Marked (mk0 : Nat → Nat) (m : MM) : Prop := (∀ s i, (mk0 s).testBit i = true → (m.mk1 (findP m.into s)).testBit i = true) ∧ ∀ s, up m.into s = s → m.mk1 s ≠ 3
section
variable {T n : Nat} {tr : Nat → Nat → Option Nat}
theorem Reads.same {p : Nat × Nat} {W : List (Nat × Nat)} {m : MM} (he : findP m.into p.1 = findP m.into p.2) (h : Reads tr (p :: W) m) : Reads tr W m := fun s c t hs => by
  obtain ⟨u, h1, h2⟩ := h s c t hs
  exact ⟨u, h1, fun E hE => h2 E (hE.same he)⟩
theorem Reads.step (htr : ∀ s c t, tr s c = some t → s < n ∧ c < T) {p : Nat × Nat} {W : List (Nat × Nat)} {m : MM} (hok : m.Ok T) (hl : LoHi m p) (h : Reads tr (p :: W) m) : Reads tr (W ++ joinWork (m.row (loP m p)) (m.row (hiP m p))) (m.join (loP m p) (hiP m p)) := fun s c t hs => by
  obtain ⟨u, h1, h2⟩ := h s c t hs
  have hlo : loP m p < m.into.length := by have := hl.lt; have := hl.hi; omega
  have hra := hok.rowAt hlo
  have hrb := hok.rowAt hl.hi
  have hc := (htr s c t hs).2
  rw [findP_join hok hl, MM.join_row hok hlo]
  by_cases e : findP m.into s = hiP m p
  · rw [if_pos e, if_pos rfl]
    rw [e] at h1
    have hx : (m.row (loP m p))[c]? = some ((m.row (loP m p))[c]'(by rw [hra.2.1]; exact hc)) := List.getElem?_eq_getElem _
    obtain ⟨x, hxe⟩ : ∃ x, x = (m.row (loP m p))[c]'(by rw [hra.2.1]; exact hc) := ⟨_, rfl⟩
    rw [← hxe] at hx
    rw [joinRow_get hx h1]
    by_cases hx0 : x < 0
    · refine ⟨u, by unfold joinC; rw [if_neg (by omega), if_pos hx0], fun E hE => h2 E (hE.back hok hl)⟩
    · refine ⟨x.toNat, by unfold joinC; rw [if_neg (by omega), if_neg hx0]; congr 1; omega, fun E hE => ?_⟩
      have := hE.work _ (List.mem_append_right _ (joinWork_mem hx h1 (by omega) (by omega)))
      exact hE.trans _ _ _ this (h2 E (hE.back hok hl))
  · rw [if_neg e]
    by_cases e2 : findP m.into s = loP m p
    · rw [if_pos e2]
      rw [e2] at h1
      have hx : (m.row (hiP m p))[c]? = some ((m.row (hiP m p))[c]'(by rw [hrb.2.1]; exact hc)) := List.getElem?_eq_getElem _
      refine ⟨u, ?_, fun E hE => h2 E (hE.back hok hl)⟩
      rw [joinRow_get h1 hx]
      unfold joinC
      split
      · rfl
      · rw [if_neg (by omega)]
    · rw [if_neg e2]
      exact ⟨u, h1, fun E hE => h2 E (hE.back hok hl)⟩
end
section
variable {T : Nat} {mk0 : Nat → Nat}
theorem Marked.step {p : Nat × Nat} {m : MM} (hok : m.Ok T) (hl : LoHi m p) (h3 : m.mk1 (loP m p) ||| m.mk1 (hiP m p) ≠ 3) (h : Marked mk0 m) : Marked mk0 (m.join (loP m p) (hiP m p)) := by
  have hlo : loP m p < m.into.length := by have := hl.lt; have := hl.hi; omega
  refine ⟨fun s i hs => ?_, fun s hs => ?_⟩
  · have h1 := h.1 s i hs
    rw [findP_join hok hl, MM.join_mark hok hlo]
    by_cases e : findP m.into s = hiP m p
    · rw [if_pos e, if_pos rfl, Nat.testBit_or, ← e, h1, Bool.or_true]
    · rw [if_neg e]
      by_cases e2 : findP m.into s = loP m p
      · rw [if_pos e2, Nat.testBit_or, ← e2, h1, Bool.true_or]
      · rw [if_neg e2]; exact h1
  · rw [MM.join_mark hok hlo]
    split
    · exact h3
    · rename_i hne
      refine h.2 s ?_
      rw [show (m.join (loP m p) (hiP m p)).into = m.into.set (hiP m p) (loP m p) from rfl, up_set hl.hi] at hs
      split at hs
      · rename_i e
        exact absurd hs.symm hne
      · exact hs
end
/-- what a merge that is possible leaves -/
structure MOk (T n : Nat) (tr : Nat → Nat → Option Nat) (mk0 : Nat → Nat) (m : MM) : Prop where
  ok : m.Ok T
  len : m.into.length = n
  reads : Reads tr [] m
  marked : Marked mk0 m
theorem MOk.merge {T n : Nat} {tr : Nat → Nat → Option Nat} {mk0 : Nat → Nat} (htr : ∀ s c t, tr s c = some t → s < n ∧ c < T) {m m' : MM} {W : List (Nat × Nat)} (h : MOk T n tr mk0 m) (hW : WLt n W) (hr : MRun W m (some m')) : MOk T n tr mk0 m' := by
  have hk := MRun.keep (T := T) (I := fun W m => m.into.length = n ∧ Reads tr W m ∧ Marked mk0 m)
    (fun p W m _ _ he ⟨i1, i2, i3⟩ => ⟨i1, i2.same he, i3⟩)
    (fun p W m hok _ _ hl h3 ⟨i1, i2, i3⟩ => ⟨by simpa [MM.join] using i1, Reads.step htr hok hl i2, i3.step hok hl h3⟩) hr h.ok (by rw [h.len]; exact hW)
    ⟨h.len, fun s c t hs => by
      obtain ⟨u, h1, h2⟩ := h.reads s c t hs
      exact ⟨u, h1, fun E hE => h2 E ⟨hE.refl, hE.symm, hE.trans, hE.up, fun p hp => by cases hp⟩⟩, h.marked⟩ m' rfl
  exact ⟨hk.2.1, hk.1.1, hk.1.2.1, hk.1.2.2⟩
section
variable {T : Nat}
theorem MRun.find {W : List (Nat × Nat)} {m m' : MM} (hr : MRun W m (some m')) (h : m.Ok T) (hW : WLt m.into.length W) {x y : Nat} (he : findP m.into x = findP m.into y) : findP m'.into x = findP m'.into y :=
  (MRun.keep (T := T) (I := fun _ m => findP m.into x = findP m.into y) (fun _ _ _ _ _ _ i => i) (fun p W m hok _ _ hl _ i => by rw [findP_join hok hl, findP_join hok hl, i]) hr h hW he m' rfl).1
theorem MRun.pairs {W : List (Nat × Nat)} {m m' : MM} (hr : MRun W m (some m')) (h : m.Ok T) (hW : WLt m.into.length W) {p : Nat × Nat} (hp : p ∈ W) : findP m'.into p.1 = findP m'.into p.2 := by
  have := (MRun.keep (T := T) (I := fun W m => findP m.into p.1 = findP m.into p.2 ∨ p ∈ W) (fun q W m _ _ he i => by
      rcases i with i | i
      · exact .inl i
      · rcases List.mem_cons.1 i with rfl | i
        · exact .inl he
        · exact .inr i) (fun q W m hok _ _ hl _ i => by
      rcases i with i | i
      · left; rw [findP_join hok hl, findP_join hok hl, i]
      · rcases List.mem_cons.1 i with rfl | i
        · left
          rw [findP_join hok hl, findP_join hok hl]
          have hlo : loP m p = findP m.into p.1 ∧ hiP m p = findP m.into p.2 ∨ loP m p = findP m.into p.2 ∧ hiP m p = findP m.into p.1 := by unfold loP hiP; omega
          have := hl.lt
          rcases hlo with ⟨e1, e2⟩ | ⟨e1, e2⟩
          · rw [if_neg (by omega), if_pos e2.symm]; exact e1.symm
          · rw [if_pos e2.symm, if_neg (by omega)]; exact e1
        · exact .inr (List.mem_append_left _ i)) hr h hW (.inr hp) m' rfl).1
  rcases this with h | h
  · exact h
  · cases h
theorem MRun.non {W : List (Nat × Nat)} {m m' : MM} (hr : MRun W m (some m')) (h : m.Ok T) (hW : WLt m.into.length W) {x : Nat} (he : up m.into x ≠ x) : up m'.into x ≠ x :=
  (MRun.keep (T := T) (I := fun _ m => up m.into x ≠ x) (fun _ _ _ _ _ _ i => i) (fun p W m hok _ _ hl _ i => by
    rw [show (m.join (loP m p) (hiP m p)).into = m.into.set (hiP m p) (loP m p) from rfl, up_set hl.hi]
    have := hl.lt
    split
    · omega
    · exact i) hr h hW he m' rfl).1
theorem MRun.ok' {W : List (Nat × Nat)} {m m' : MM} (hr : MRun W m (some m')) (h : m.Ok T) (hW : WLt m.into.length W) : m'.Ok T ∧ m'.into.length = m.into.length :=
  (MRun.keep (T := T) (I := fun _ _ => True) (fun _ _ _ _ _ _ i => i) (fun _ _ _ _ _ _ _ _ i => i) hr h hW trivial m' rfl).2
end
/-- no state rejects -/
def Low (m : MM) : Prop := ∀ x ∈ m.mark, x < 2
theorem Low.mk1 {m : MM} (h : Low m) (a : Nat) : m.mk1 a < 2 := by
  unfold MM.mk1
  cases e : m.mark[a]? with
  | none => simp
  | some x => exact h x (List.mem_of_getElem? e)
theorem MRun.low {W : List (Nat × Nat)} {m : MM} {r : Option MM} (hr : MRun W m r) : Low m → ∃ m', r = some m' ∧ Low m' := by
  induction hr with
  | nil m => exact fun h => ⟨m, rfl, h⟩
  | same _ _ ih => exact ih
  | @bad p W m _ h3 =>
    intro h
    have := Nat.or_lt_two_pow (n := 1) (h.mk1 (loP m p)) (h.mk1 (hiP m p))
    rw [h3] at this
    omega
  | @step p W m r _ h3 _ ih =>
    intro h
    refine ih fun x hx => ?_
    rcases List.mem_or_eq_of_mem_set hx with h1 | h1
    · exact h x h1
    · rw [h1]
      exact Nat.or_lt_two_pow (n := 1) (h.mk1 (loP m p)) (h.mk1 (hiP m p))

/-- state s is merged into the first state from r on that it can be one with -/
inductive MIn (s : Nat) : Nat → MM → MM → Prop
  | done {r m} : ¬ (r < s ∧ up m.into s = s) → MIn s r m m
  | skip {r m m'} : r < s → up m.into s = s → up m.into r ≠ r → MIn s (r + 1) m m' → MIn s r m m'
  | yes {r m x m'} : r < s → up m.into s = s → up m.into r = r → MRun [(r, s)] m (some x) → MIn s (r + 1) x m' → MIn s r m m'
  | no {r m m'} : r < s → up m.into s = s → up m.into r = r → MRun [(r, s)] m none → MIn s (r + 1) m m' → MIn s r m m'
inductive MOut (n : Nat) : Nat → MM → MM → Prop
  | done {s m} : n ≤ s → MOut n s m m
  | step {s m m1 m'} : s < n → MIn s 0 m m1 → MOut n (s + 1) m1 m' → MOut n s m m'
theorem MIn.det {s r : Nat} {m a : MM} (h : MIn s r m a) : ∀ {b : MM}, MIn s r m b → a = b := by
  induction h with
  | done h1 =>
    intro b h'
    cases h' with
    | done _ => rfl
    | skip h2 h3 _ _ => exact absurd ⟨h2, h3⟩ h1
    | yes h2 h3 _ _ _ => exact absurd ⟨h2, h3⟩ h1
    | no h2 h3 _ _ _ => exact absurd ⟨h2, h3⟩ h1
  | skip h1 h2 h3 _ ih =>
    intro b h'
    cases h' with
    | done h4 => exact absurd ⟨h1, h2⟩ h4
    | skip _ _ _ h4 => exact ih h4
    | yes _ _ h4 _ _ => exact absurd h4 h3
    | no _ _ h4 _ _ => exact absurd h4 h3
  | yes h1 h2 h3 h4 _ ih =>
    intro b h'
    cases h' with
    | done h5 => exact absurd ⟨h1, h2⟩ h5
    | skip _ _ h5 _ => exact absurd h3 h5
    | yes _ _ _ h5 h6 =>
      have := h4.det h5
      injection this with this
      subst this
      exact ih h6
    | no _ _ _ h5 _ => cases h4.det h5
  | no h1 h2 h3 h4 _ ih =>
    intro b h'
    cases h' with
    | done h5 => exact absurd ⟨h1, h2⟩ h5
    | skip _ _ h5 _ => exact absurd h3 h5
    | yes _ _ _ h5 h6 => cases h4.det h5
    | no _ _ _ _ h5 => exact ih h5
theorem MOut.det {n s : Nat} {m a : MM} (h : MOut n s m a) : ∀ {b : MM}, MOut n s m b → a = b := by
  induction h with
  | done h1 =>
    intro b h'
    cases h' with
    | done _ => rfl
    | step h2 _ _ => omega
  | step h1 h2 _ ih =>
    intro b h'
    cases h' with
    | done h3 => omega
    | step _ h3 h4 =>
      obtain rfl := h2.det h3
      exact ih h4
section
variable {T n : Nat} {tr : Nat → Nat → Option Nat} {mk0 : Nat → Nat} (htr : ∀ s c t, tr s c = some t → s < n ∧ c < T)
theorem wlt_one {r s n : Nat} (h : r < s) (hs : s < n) : WLt n [(r, s)] := fun p hp => by
  obtain rfl := List.mem_singleton.1 hp
  exact ⟨by show r < n; omega, hs⟩
include htr in
theorem MIn.mok {s r : Nat} {m m' : MM} (h : MIn s r m m') (hs : s < n) : MOk T n tr mk0 m → MOk T n tr mk0 m' := by
  induction h with
  | done _ => exact id
  | skip _ _ _ _ ih => exact ih
  | yes h1 _ _ h4 _ ih => exact fun hm => ih (hm.merge htr (wlt_one h1 hs) h4)
  | no _ _ _ _ _ ih => exact ih
include htr in
theorem MOut.mok {s : Nat} {m m' : MM} (h : MOut n s m m') : MOk T n tr mk0 m → MOk T n tr mk0 m' := by
  induction h with
  | done _ => exact id
  | step h1 h2 _ ih => exact fun hm => ih (h2.mok htr h1 hm)
theorem MIn.non {s r : Nat} {m m' : MM} (h : MIn s r m m') (hs : s < n) {x : Nat} : m.Ok T → m.into.length = n → Low m → up m.into x ≠ x → up m'.into x ≠ x := by
  induction h with
  | done _ => exact fun _ _ _ h => h
  | skip _ _ _ _ ih => exact ih
  | @yes r m x1 m1 h1 _ _ h4 _ ih =>
    intro hm hn hl hx
    have hw := wlt_one h1 (show s < m.into.length by rw [hn]; exact hs)
    obtain ⟨m2, e, hl2⟩ := h4.low hl
    injection e with e
    subst e
    exact ih (h4.ok' hm hw).1 ((h4.ok' hm hw).2.trans hn) hl2 (h4.non hm hw hx)
  | no _ _ _ _ _ ih => exact ih
theorem MIn.first {s : Nat} {m m' : MM} (h : MIn s 0 m m') (hs : s < n) (h1 : 1 ≤ s) (hm : m.Ok T) (hn : m.into.length = n) (hl : Low m) : up m'.into s ≠ s ∧ m'.Ok T ∧ m'.into.length = n ∧ Low m' := by
  have h0 : up m.into 0 = 0 := by have := hm.dn 0; omega
  cases h with
  | done h2 => exact ⟨fun e => h2 ⟨h1, e⟩, hm, hn, hl⟩
  | skip _ _ h2 _ => exact absurd h0 h2
  | no _ _ _ h2 _ => obtain ⟨_, e, _⟩ := h2.low hl; cases e
  | @yes _ _ x _ _ h2 _ h3 h4 =>
    have hw := wlt_one (show 0 < s by omega) (show s < m.into.length by rw [hn]; exact hs)
    obtain ⟨hx, hxn⟩ := h3.ok' hm hw
    obtain ⟨m2, e, hl2⟩ := h3.low hl
    injection e with e
    subst e
    have h5 := h3.pairs hm hw (p := (0, s)) (by simp)
    have h6 : findP x.into 0 = 0 := by have := findP_le (l := x.into) 0; omega
    have h7 : up x.into s ≠ s := fun e => by
      have := findP_of e
      dsimp only at h5
      omega
    cases h4 with
    | done _ => exact ⟨h7, hx, hxn.trans hn, hl2⟩
    | skip _ h8 _ _ => exact absurd h8 h7
    | yes _ h8 _ _ _ => exact absurd h8 h7
    | no _ h8 _ _ _ => exact absurd h8 h7
theorem MOut.one {s : Nat} {m m' : MM} (h : MOut n s m m') : m.Ok T → m.into.length = n → Low m → (∀ t, 1 ≤ t → t < s → up m.into t ≠ t) → (∀ t, 1 ≤ t → t < n → up m'.into t ≠ t) ∧ m'.Ok T ∧ m'.into.length = n ∧ Low m' := by
  induction h with
  | done h1 => exact fun hm hn hl ht => ⟨fun t a b => ht t a (by omega), hm, hn, hl⟩
  | @step s m m1 m' h1 h2 _ ih =>
    intro hm hn hl ht
    rcases Nat.eq_zero_or_pos s with h0 | h0
    · subst h0
      have : m1 = m := by
        cases h2 with
        | done _ => rfl
        | skip h3 _ _ _ => omega
        | yes h3 _ _ _ _ => omega
        | no h3 _ _ _ _ => omega
      subst this
      exact ih hm hn hl (fun t a b => by omega)
    · obtain ⟨i1, i2, i3, i4⟩ := h2.first h1 h0 hm hn hl
      refine ih i2 i3 i4 fun t a b => ?_
      by_cases e : t = s
      · subst e; exact i1
      · exact h2.non h1 hm hn hl (ht t a (by omega))
end
theorem findP_zero {l : List Nat} (hd : Dn l) {n : Nat} (h : ∀ t, 1 ≤ t → t < n → up l t ≠ t) : ∀ s : Nat, s < n → findP l s = 0 := by
  intro s
  induction s using Nat.strongRecOn with
  | _ s ih =>
    intro hs
    rcases Nat.eq_zero_or_pos s with h0 | h0
    · have := findP_le (l := l) s; omega
    · have h1 := h s h0 hs
      have h2 := hd s
      rw [findP_up (by omega)]
      exact ih _ (by omega) (by omega)

/-- the automaton of a machine -/
def endRow (l : List Nat) (r : List Int) : List Int := r.map fun t => if t < 0 then t else (findP l t.toNat : Int)
def endAcc (x : Nat) : Int := ((x % 2 : Nat) : Int) - 1
def endM (m : MM) : DfaD := (0, m.mark.map endAcc, m.next.map (endRow m.into))
theorem endM_valid {T : Nat} {m : MM} (h : m.Ok T) (h1 : 1 ≤ m.into.length) (h2 : m.into.length ≤ 200) (hT : 1 ≤ T) (hT2 : T ≤ 16) : Valid (endM m) ∧ cols (endM m) = T := by
  have hc : cols (endM m) = T := by
    show ((m.next.map (endRow m.into))[0]?.getD []).length = T
    rw [List.getElem?_map, (h.rowAt (a := 0) (by omega)).1]
    show (endRow m.into (m.row 0)).length = T
    rw [show (endRow m.into (m.row 0)).length = (m.row 0).length from List.length_map _]
    exact (h.rowAt (a := 0) (by omega)).2.1
  have hl : (endM m).2.2.length = m.into.length := by show (m.next.map _).length = _; rw [List.length_map, h.nx]
  refine ⟨⟨by omega, by omega, ?_, by omega, by omega, ?_, ?_, ?_⟩, hc⟩
  · rw [hl]; show (m.mark.map _).length = _; rw [List.length_map, h.mks]
  · intro r hr
    obtain ⟨r0, hr0, rfl⟩ := List.mem_map.1 hr
    obtain ⟨k1, k2⟩ := h.row r0 hr0
    refine ⟨by rw [hc]; show (List.map _ r0).length = _; rw [List.length_map, k1], fun x hx => ?_⟩
    obtain ⟨y, hy, rfl⟩ := List.mem_map.1 hx
    have := k2 y hy
    rw [hl]
    split
    · omega
    · have := findP_le (l := m.into) y.toNat
      omega
  · rw [hl]; exact ⟨Int.le_refl _, by show (0 : Int) < _; omega⟩
  · intro x hx
    obtain ⟨y, hy, rfl⟩ := List.mem_map.1 hx
    unfold endAcc
    omega
theorem endM_to {T : Nat} {m : MM} (h : m.Ok T) {s c : Nat} (hs : s < m.into.length) {u : Nat} (hu : (m.row s)[c]? = some (u : Int)) : dto (endM m) (s : Int) (c : Int) = (findP m.into u : Int) := by
  unfold dto
  rw [if_neg (by omega), Int.toNat_natCast, Int.toNat_natCast]
  rw [show (endM m).2.2[s]? = some (endRow m.into (m.row s)) by show (m.next.map _)[s]? = _; rw [List.getElem?_map, (h.rowAt hs).1]; rfl]
  show ((endRow m.into (m.row s))[c]?).getD 0 = _
  unfold endRow
  rw [List.getElem?_map, hu]
  simp only [Option.map_some, Option.getD_some]
  rw [if_neg (by omega), Int.toNat_natCast]
theorem endM_at {T : Nat} {m : MM} (h : m.Ok T) {s : Nat} (hs : s < m.into.length) : dat (endM m) (s : Int) = endAcc (m.mk1 s) := by
  unfold dat
  rw [if_neg (by omega), Int.toNat_natCast]
  rw [show (endM m).2.1[s]? = some (endAcc (m.mk1 s)) by show (m.mark.map _)[s]? = _; rw [List.getElem?_map, (h.markAt hs).1]; rfl]
  rfl
/-- all beginnings of the words of a list, in order, each once -/
structure PreL (L ws : List (List Int)) : Prop where
  srt : L.Pairwise SLt
  mem : ∀ v, v ∈ L ↔ v = [] ∨ ∃ w ∈ ws, v <+: w
theorem sorted_uniq : ∀ {L M : List (List Int)}, L.Pairwise SLt → M.Pairwise SLt → (∀ v, v ∈ L ↔ v ∈ M) → L = M
  | [], [], _, _, _ => rfl
  | [], b :: M, _, _, h => by have := (h b).2 (by simp); cases this
  | a :: L, [], _, _, h => by have := (h a).1 (by simp); cases this
  | a :: L, b :: M, h1, h2, h => by
    obtain ⟨h3, h4⟩ := List.pairwise_cons.1 h1
    obtain ⟨h5, h6⟩ := List.pairwise_cons.1 h2
    have hab : a = b := by
      rcases List.mem_cons.1 ((h a).1 (by simp)) with e | e
      · exact e
      rcases List.mem_cons.1 ((h b).2 (by simp)) with e' | e'
      · exact e'.symm
      exact absurd ((h3 b e').trans (h5 a e)) (SLt.irrefl _)
    subst hab
    rw [sorted_uniq h4 h6 fun v => ?_]
    constructor
    · intro hv
      rcases List.mem_cons.1 ((h v).1 (List.mem_cons_of_mem _ hv)) with e | e
      · subst e; exact absurd (h3 v hv) (SLt.irrefl _)
      · exact e
    · intro hv
      rcases List.mem_cons.1 ((h v).2 (List.mem_cons_of_mem _ hv)) with e | e
      · subst e; exact absurd (h5 v hv) (SLt.irrefl _)
      · exact e
theorem PreL.uniq {L M ws us : List (List Int)} (h : PreL L ws) (h' : PreL M us) (hw : ∀ v, v ∈ ws ↔ v ∈ us) : L = M :=
  sorted_uniq h.srt h'.srt fun v => by
    rw [h.mem, h'.mem]
    constructor
    · rintro (e | ⟨w, hv, hp⟩)
      · exact .inl e
      · exact .inr ⟨w, (hw w).1 hv, hp⟩
    · rintro (e | ⟨w, hv, hp⟩)
      · exact .inl e
      · exact .inr ⟨w, (hw w).2 hv, hp⟩
theorem SLt.ne {u v : List Int} (h : SLt u v) : u ≠ v := fun e => by subst e; exact SLt.irrefl _ h
theorem PreL.nodup {L ws : List (List Int)} (h : PreL L ws) : L.Nodup := h.srt.imp fun h => h.ne
theorem nodup_sub_len {α : Type} [DecidableEq α] : ∀ {l m : List α}, l.Nodup → (∀ x ∈ l, x ∈ m) → l.length ≤ m.length
  | [], _, _, _ => Nat.zero_le _
  | a :: l, m, hd, h => by
    obtain ⟨h1, h2⟩ := List.nodup_cons.1 hd
    have h3 := h a (by simp)
    have h4 := nodup_sub_len (m := m.erase a) h2 fun x hx => (List.mem_erase_of_ne (fun e => h1 (by subst e; exact hx))).2 (h x (by simp [hx]))
    rw [List.length_erase_of_mem h3] at h4
    have := List.length_pos_of_mem h3
    simp only [List.length_cons]
    omega
/-- the words whose beginnings are all beginnings -/
def rawP (ws : List (List Int)) : List (List Int) := [] :: ws.flatMap fun w => (List.range w.length).map fun n => w.take (n + 1)
def sumLen (ws : List (List Int)) : Nat := (ws.map List.length).sum
theorem rawP_len (ws : List (List Int)) : (rawP ws).length = 1 + sumLen ws := by
  unfold rawP sumLen
  rw [List.length_cons, List.length_flatMap]
  simp only [List.length_map, List.length_range]
  rw [Nat.add_comm]
theorem rawP_mem {ws : List (List Int)} {v : List Int} : v ∈ rawP ws ↔ v = [] ∨ ∃ w ∈ ws, v <+: w := by
  unfold rawP
  rw [List.mem_cons, List.mem_flatMap]
  constructor
  · rintro (e | ⟨w, hw, hv⟩)
    · exact .inl e
    · obtain ⟨n, _, rfl⟩ := List.mem_map.1 hv
      exact .inr ⟨w, hw, List.take_prefix _ _⟩
  · rintro (e | ⟨w, hw, hp⟩)
    · exact .inl e
    · by_cases hv : v = []
      · exact .inl hv
      · refine .inr ⟨w, hw, List.mem_map.2 ⟨v.length - 1, ?_, ?_⟩⟩
        · have h1 := hp.length_le
          have h2 : 0 < v.length := List.length_pos_iff.2 hv
          rw [List.mem_range]
          omega
        · have h2 : 0 < v.length := List.length_pos_iff.2 hv
          rw [show v.length - 1 + 1 = v.length by omega]
          exact (List.prefix_iff_eq_take.1 hp).symm
theorem PreL.len {L ws : List (List Int)} (h : PreL L ws) : L.length ≤ 1 + sumLen ws := by
  rw [← rawP_len]
  exact nodup_sub_len h.nodup fun v hv => rawP_mem.2 ((h.mem v).1 hv)
theorem PreL.pre {L ws : List (List Int)} (h : PreL L ws) {v : List Int} {c : Int} (hv : v ++ [c] ∈ L) : v ∈ L := by
  rcases (h.mem _).1 hv with e | ⟨w, hw, hp⟩
  · simp at e
  · exact (h.mem v).2 (.inr ⟨w, hw, List.IsPrefix.trans (List.prefix_append _ _) hp⟩)
theorem PreL.word {L ws : List (List Int)} (h : PreL L ws) {w : List Int} (hw : w ∈ ws) : w ∈ L := (h.mem w).2 (.inr ⟨w, hw, List.prefix_refl _⟩)
theorem PreL.nil {L ws : List (List Int)} (h : PreL L ws) : L[0]? = some [] := by
  have h1 : ([] : List Int) ∈ L := (h.mem _).2 (.inl rfl)
  cases L with
  | nil => cases h1
  | cons a L =>
    rcases List.mem_cons.1 h1 with e | e
    · rw [← e]; rfl
    · have := (List.pairwise_cons.1 h.srt).1 [] e
      rcases this with h2 | ⟨_, h2⟩
      · simp at h2
      · exact absurd h2 (lexLt_nil_right _)
theorem PreL.rng {L ws : List (List Int)} (h : PreL L ws) {T : Nat} (hw : ∀ w ∈ ws, ∀ c ∈ w, 0 ≤ c ∧ c < (T : Int)) {v : List Int} (hv : v ∈ L) : ∀ c ∈ v, 0 ≤ c ∧ c < (T : Int) := by
  rcases (h.mem _).1 hv with e | ⟨w, h1, hp⟩
  · subst e; intro c hc; cases hc
  · exact fun c hc => hw w h1 c (hp.subset hc)

def wAt (L : List (List Int)) (s : Nat) : List Int := (L[s]?).getD []
def posW (L : List (List Int)) (v : List Int) : Nat := L.findIdx fun u => decide (u = v)
theorem posW_le (L : List (List Int)) (v : List Int) : posW L v ≤ L.length := List.findIdx_le_length
theorem posW_at {L : List (List Int)} {v : List Int} (h : posW L v < L.length) : L[posW L v]? = some v := by
  have h1 : decide (L[posW L v] = v) = true := List.findIdx_getElem (p := fun u => decide (u = v)) (w := h)
  rw [List.getElem?_eq_getElem h, of_decide_eq_true h1]
theorem posW_mem {L : List (List Int)} {v : List Int} (h : v ∈ L) : posW L v < L.length := List.findIdx_lt_length_of_exists ⟨v, h, by simp⟩
theorem posW_of {L : List (List Int)} (hd : L.Nodup) {v : List Int} {i : Nat} (h : L[i]? = some v) : posW L v = i := by
  have h1 := posW_mem (List.mem_of_getElem? h)
  have h2 := posW_at h1
  obtain ⟨hi, e⟩ := List.getElem?_eq_some_iff.1 h
  obtain ⟨hj, e'⟩ := List.getElem?_eq_some_iff.1 h2
  exact (List.getElem_inj hd).1 (e'.trans e.symm)
theorem wAt_of {L : List (List Int)} {v : List Int} {i : Nat} (h : L[i]? = some v) : wAt L i = v := by unfold wAt; rw [h]; rfl
def markW (ys ns : List (List Int)) (w : List Int) : Nat := (if w ∈ ys then 1 else 0) + (if w ∈ ns then 2 else 0)
/-- the steps of the tree of all beginnings -/
def trW (L : List (List Int)) (T : Nat) (s c : Nat) : Option Nat := if s < L.length ∧ c < T ∧ posW L (wAt L s ++ [(c : Int)]) < L.length then some (posW L (wAt L s ++ [(c : Int)])) else none
/-- the rows where the states before i have been put in -/
def cellW (L : List (List Int)) (i s c : Nat) : Int := if posW L (wAt L s ++ [(c : Int)]) < i then (posW L (wAt L s ++ [(c : Int)]) : Int) else -1
def nextW (L : List (List Int)) (T i : Nat) : List (List Int) := (List.range L.length).map fun s => (List.range T).map fun c => cellW L i s c
def startM (L : List (List Int)) (T : Nat) (ys ns : List (List Int)) : MM := ⟨List.range L.length, nextW L T L.length, L.map (markW ys ns)⟩
theorem up_range (n s : Nat) : up (List.range n) s = s := by
  unfold up
  by_cases h : s < n
  · rw [List.getElem?_range h]; rfl
  · rw [List.getElem?_eq_none (by simp; omega)]; rfl
theorem nextW_row (L : List (List Int)) (T i : Nat) {s : Nat} (hs : s < L.length) : (nextW L T i)[s]? = some ((List.range T).map fun c => cellW L i s c) := by
  unfold nextW
  rw [List.getElem?_map, List.getElem?_range hs]
  rfl
theorem startM_ok (L : List (List Int)) (T : Nat) (ys ns : List (List Int)) (hn : L.length ≤ 1000) (hd : ∀ w ∈ ys, w ∉ ns) : MOk T L.length (trW L T) (fun s => if s < L.length then markW ys ns (wAt L s) else 0) (startM L T ys ns) := by
  have hfind : ∀ s, findP (startM L T ys ns).into s = s := fun s => findP_of (up_range _ _)
  refine ⟨⟨by simp [startM, nextW], by simp [startM], fun s => by rw [show (startM L T ys ns).into = List.range L.length from rfl, up_range]; exact Nat.le_refl _, fun r hr => ?_, fun x hx => ?_, by simpa [startM] using hn⟩, by simp [startM], fun s c t hs => ?_, fun s i hs => ?_, fun s hs => ?_⟩
  · obtain ⟨s, _, rfl⟩ := List.mem_map.1 hr
    refine ⟨by simp, fun x hx => ?_⟩
    obtain ⟨c, _, rfl⟩ := List.mem_map.1 hx
    have := posW_le L (wAt L s ++ [(c : Int)])
    rw [show (startM L T ys ns).into.length = L.length by simp [startM]]
    unfold cellW
    split <;> omega
  · obtain ⟨w, _, rfl⟩ := List.mem_map.1 hx
    unfold markW
    split <;> split <;> omega
  · unfold trW at hs
    split at hs
    · rename_i hc
      injection hs with hs
      refine ⟨t, ?_, fun E hE => hE.refl t⟩
      rw [hfind]
      unfold MM.row
      rw [show (startM L T ys ns).next[s]? = _ from nextW_row L T L.length hc.1]
      simp only [Option.getD_some]
      rw [List.getElem?_map, List.getElem?_range hc.2.1]
      show some (cellW L L.length s c) = _
      unfold cellW
      rw [if_pos hc.2.2, hs]
    · cases hs
  · rw [hfind]
    dsimp only at hs
    split at hs
    · rename_i hlt
      unfold MM.mk1
      rw [show (startM L T ys ns).mark[s]? = some (markW ys ns (wAt L s)) by
        show (L.map _)[s]? = _
        rw [List.getElem?_map, List.getElem?_eq_getElem hlt]
        unfold wAt
        rw [List.getElem?_eq_getElem hlt]
        rfl]
      exact hs
    · simp at hs
  · unfold MM.mk1
    rw [show (startM L T ys ns).mark = L.map (markW ys ns) from rfl, List.getElem?_map]
    cases e : L[s]? with
    | none => simp
    | some w =>
      show markW ys ns w ≠ 3
      unfold markW
      by_cases h1 : w ∈ ys
      · rw [if_pos h1, if_neg (hd w h1)]; omega
      · rw [if_neg h1]; split <;> omega

/-- what merging comes to -/
def MergeP (T : Nat) (ys ns : List (List Int)) (L : List (List Int)) (m : MM) : Prop := PreL L (ys ++ ns) ∧ MOut L.length 0 (startM L T ys ns) m
section
variable {T : Nat} {ys ns L : List (List Int)} {m : MM} (h : MergeP T ys ns L m) (hn : L.length ≤ 200) (hd : ∀ w ∈ ys, w ∉ ns) (hw : ∀ w ∈ ys ++ ns, ∀ c ∈ w, 0 ≤ c ∧ c < (T : Int)) (hT : 1 ≤ T) (hT2 : T ≤ 16)
include h hn hd
theorem MergeP.mok : MOk T L.length (trW L T) (fun s => if s < L.length then markW ys ns (wAt L s) else 0) m :=
  h.2.mok (fun s c t hs => by
    unfold trW at hs
    split at hs
    · rename_i hc
      exact ⟨hc.1, hc.2.1⟩
    · cases hs) (startM_ok L T ys ns (by omega) hd)
theorem MergeP.pos : 1 ≤ m.into.length := by
  rw [(h.mok hn hd).len]
  have := (List.getElem?_eq_some_iff.1 h.1.nil).1
  omega
include hw
theorem MergeP.run {w : List Int} (hwL : w ∈ L) : drun (endM m) w = (findP m.into (posW L w) : Int) := by
  have hm := h.mok hn hd
  refine list_snoc_ind (P := fun w => w ∈ L → drun (endM m) w = (findP m.into (posW L w) : Int)) ?_ ?_ w hwL
  · intro _
    rw [posW_of h.1.nodup h.1.nil]
    have := findP_le (l := m.into) 0
    rw [show findP m.into 0 = 0 by omega]
    rfl
  · intro l x ih hx
    have hl := h.1.pre hx
    have hs := posW_mem hl
    have hrx := h.1.rng hw hx x (by simp)
    obtain ⟨c, rfl⟩ : ∃ c : Nat, x = (c : Int) := ⟨x.toNat, by omega⟩
    rw [drun_snoc, ih hl]
    have htr : trW L T (posW L l) c = some (posW L (l ++ [(c : Int)])) := by
      unfold trW
      rw [wAt_of (posW_at hs), if_pos ⟨hs, by omega, posW_mem hx⟩]
    obtain ⟨u, h1, h2⟩ := hm.reads _ _ _ htr
    rw [endM_to hm.ok (by have := findP_le (l := m.into) (posW L l); rw [hm.len]; omega) h1]
    have := h2 _ (Eqs.self hm.ok.dn)
    rw [this]
theorem MergeP.val {w : List Int} (hwL : w ∈ L) : dat (endM m) (drun (endM m) w) = endAcc (m.mk1 (findP m.into (posW L w))) := by
  rw [h.run hn hd hw hwL, endM_at (h.mok hn hd).ok (by have := findP_le (l := m.into) (posW L w); have := posW_mem hwL; rw [(h.mok hn hd).len]; omega)]
theorem MergeP.yes {w : List Int} (hy : w ∈ ys) : daccept (endM m) w = true := by
  have hwL := h.1.word (List.mem_append_left ns hy)
  have hm := h.mok hn hd
  unfold daccept
  rw [h.val hn hd hw hwL]
  have h1 := hm.marked.1 (posW L w) 0 (by
    dsimp only
    rw [if_pos (posW_mem hwL), wAt_of (posW_at (posW_mem hwL))]
    unfold markW
    rw [if_pos hy, if_neg (hd w hy)]
    rfl)
  rw [Nat.testBit_zero] at h1
  have h2 := of_decide_eq_true h1
  unfold endAcc
  rw [h2]
  rfl
theorem MergeP.no {w : List Int} (hy : w ∈ ns) : daccept (endM m) w = false := by
  have hwL := h.1.word (List.mem_append_right ys hy)
  have hm := h.mok hn hd
  unfold daccept
  rw [h.val hn hd hw hwL]
  have h1 := hm.marked.1 (posW L w) 1 (by
    dsimp only
    rw [if_pos (posW_mem hwL), wAt_of (posW_at (posW_mem hwL))]
    unfold markW
    rw [if_pos hy]
    by_cases h3 : w ∈ ys
    · exact absurd hy (hd w h3)
    · rw [if_neg h3]; rfl)
  have h3 := hm.marked.2 _ (findP_fix hm.ok.dn (posW L w))
  have h4 := (hm.ok.markAt (a := findP m.into (posW L w)) (by have := findP_le (l := m.into) (posW L w); have := posW_mem hwL; rw [hm.len]; omega)).2
  generalize m.mk1 (findP m.into (posW L w)) = x at h1 h3 h4
  have : x = 0 ∨ x = 1 ∨ x = 2 := by omega
  rcases this with rfl | rfl | rfl
  · simp at h1
  · simp [Nat.testBit] at h1
  · rfl
end
theorem MergeP.valid {T : Nat} {ys ns L : List (List Int)} {m : MM} (h : MergeP T ys ns L m) (hn : L.length ≤ 200) (hd : ∀ w ∈ ys, w ∉ ns) (hT : 1 ≤ T) (hT2 : T ≤ 16) : Valid (endM m) ∧ cols (endM m) = T := endM_valid (h.mok hn hd).ok (h.pos hn hd) (by rw [(h.mok hn hd).len]; exact hn) hT hT2
/-- no counterexamples: one state -/
theorem MergeP.one {T : Nat} {ys L : List (List Int)} {m : MM} (h : MergeP T ys [] L m) (hn : L.length ≤ 200) (hw : ∀ w ∈ ys, ∀ c ∈ w, 0 ≤ c ∧ c < (T : Int)) (hT : 1 ≤ T) (hT2 : T ≤ 16) :
    (canonD (endM m)).2.2.length = 1 ∧ ((canonD (endM m)).2.1[0]? = some 0 ↔ ys ≠ []) ∧ ∃ x, (canonD (endM m)).2.1[0]? = some x := by
  have hd : ∀ w ∈ ys, w ∉ ([] : List (List Int)) := fun _ _ h => by cases h
  have hm := h.mok hn hd
  have hwa : ∀ w ∈ ys ++ [], ∀ c ∈ w, 0 ≤ c ∧ c < (T : Int) := by simpa using hw
  obtain ⟨hv, hc⟩ := h.valid hn hd hT hT2
  have hlow : Low (startM L T ys []) := fun x hx => by
    obtain ⟨w, _, rfl⟩ := List.mem_map.1 hx
    unfold markW
    simp only [List.not_mem_nil, if_false]
    split <;> omega
  have hst := startM_ok L T ys [] (by omega) hd
  obtain ⟨h1, h2, h3, h4⟩ := h.2.one hst.ok hst.len hlow (fun t a b => by omega)
  have hz := findP_zero h2.dn h1
  obtain ⟨e, he⟩ : ∃ e : DfaD, e = (0, [endAcc (m.mk1 0)], [endRow m.into (m.row 0)]) := ⟨_, rfl⟩
  have hp := h.pos hn hd
  have hr0 := h2.rowAt (a := 0) hp
  have hrow : ∀ x ∈ endRow m.into (m.row 0), x = -1 ∨ x = 0 := fun x hx => by
    obtain ⟨y, hy, rfl⟩ := List.mem_map.1 hx
    have := hr0.2.2 y hy
    split
    · omega
    · right; rw [hz y.toNat (by omega)]; rfl
  have hce : cols e = T := by rw [he]; show (endRow m.into (m.row 0)).length = T; rw [show (endRow m.into (m.row 0)).length = (m.row 0).length from List.length_map _]; exact hr0.2.1
  have hve : Valid e := by
    refine ⟨by rw [he]; exact Nat.le_refl 1, by rw [he]; show 1 ≤ 200; omega, by rw [he]; rfl, by omega, by omega, fun r hr => ?_, by rw [he]; exact ⟨Int.le_refl _, by show (0 : Int) < 1; omega⟩, fun x hx => ?_⟩
    · rw [hce]
      rw [he] at hr ⊢
      obtain rfl := List.mem_singleton.1 hr
      refine ⟨by rw [show (endRow m.into (m.row 0)).length = (m.row 0).length from List.length_map _]; exact hr0.2.1, fun x hx => ?_⟩
      show -1 ≤ x ∧ x < 1
      rcases hrow x hx with e | e <;> omega
    · rw [he] at hx
      obtain rfl := List.mem_singleton.1 hx
      unfold endAcc; omega
  have hto : ∀ c : Int, 0 ≤ c → c < (T : Int) → dto (endM m) 0 c = dto e 0 c ∧ (dto e 0 c = -1 ∨ dto e 0 c = 0) := fun c hc0 hcT => by
    have e1 : (endM m).2.2[(0 : Int).toNat]? = some (endRow m.into (m.row 0)) := by show (m.next.map _)[0]? = _; rw [List.getElem?_map, hr0.1]; rfl
    have e2 : e.2.2[(0 : Int).toNat]? = some (endRow m.into (m.row 0)) := by rw [he]; rfl
    unfold dto
    rw [if_neg (by omega), if_neg (by omega), e1, e2]
    refine ⟨rfl, ?_⟩
    have hlt : c.toNat < (endRow m.into (m.row 0)).length := by rw [show (endRow m.into (m.row 0)).length = (m.row 0).length from List.length_map _, hr0.2.1]; omega
    simp only [Option.getD_some]
    rw [List.getElem?_eq_getElem hlt]
    exact hrow _ (List.getElem_mem hlt)
  have hat : dat (endM m) 0 = dat e 0 := by
    have := endM_at h2 (s := 0) hp
    rw [show ((0 : Nat) : Int) = 0 from rfl] at this
    rw [this, he]
    rfl
  have hval : ∀ l, WOk (endM m) l → dval (endM m) 0 l = dval e 0 l ∧ True := by
    intro l
    induction l with
    | nil => intro _; exact ⟨hat, trivial⟩
    | cons c l ih =>
      intro hl
      have hh := hl.head
      rw [hc] at hh
      obtain ⟨a1, a2⟩ := hto c hh.1 hh.2
      rw [dval_cons, dval_cons, a1]
      rcases a2 with e1 | e1
      · rw [e1, dval_neg (by omega), dval_neg (by omega)]; exact ⟨rfl, trivial⟩
      · rw [e1]; exact ih hl.tail
  have hcan : canonD (endM m) = canonD e := canon_uniq (hc.trans hce.symm) hv hve (by rw [show (endM m).1 = 0 from rfl, show e.1 = 0 by rw [he]]; exact fun l hl => (hval l hl).1)
  have hl1 : (canonD (endM m)).2.2.length = 1 := by
    have h5 := (canon_valid hv).n1
    have h6 := canon_le hve
    rw [← hcan] at h6
    have h7 : e.2.2.length = 1 := by rw [he]; rfl
    omega
  have hna := (canon_valid hv).na
  have hx : (canonD (endM m)).2.1[0]? = some (dat (endM m) 0) := by
    have h5 := canon_val hv (l := []) (WOk.nil)
    rw [canon_start hv] at h5
    have h6 : dat (canonD (endM m)) 0 = dat (endM m) 0 := h5
    unfold dat at h6
    rw [if_neg (by omega)] at h6
    have h7 : 0 < (canonD (endM m)).2.1.length := by rw [hna, hl1]; omega
    rw [List.getElem?_eq_getElem h7]
    rw [show (0 : Int).toNat = 0 from rfl, List.getElem?_eq_getElem h7] at h6
    congr 1
  refine ⟨hl1, ?_, _, hx⟩
  rw [hx]
  have h0 := endM_at h2 (s := 0) hp
  rw [show ((0 : Nat) : Int) = 0 from rfl] at h0
  rw [h0]
  constructor
  · intro hx1 hys
    subst hys
    have hL : L = [[]] := by
      have hu : PreL [[]] [] := ⟨by simp, fun v => by simp⟩
      exact h.1.uniq hu fun v => by simp
    subst hL
    have : m = startM [[]] T [] [] := by
      have h5 := h.2
      cases h5 with
      | done h6 => simp at h6
      | @step _ _ m1 _ _ h6 h7 =>
        have e1 : startM [[]] T [] [] = m1 := by
          cases h6 with
          | done _ => rfl
          | skip h8 _ _ _ => omega
          | yes h8 _ _ _ _ => omega
          | no h8 _ _ _ _ => omega
        cases h7 with
        | done _ => exact e1.symm
        | step h8 _ _ => simp at h8
    rw [this] at hx1
    cases hx1
  · intro hys
    obtain ⟨w, hwy⟩ := List.exists_mem_of_ne_nil ys hys
    have h5 := h.yes hn hd hwa hwy
    have hwL := h.1.word (List.mem_append_left [] hwy)
    have h6 := h.val hn hd hwa hwL
    rw [hz _ (by exact posW_mem hwL)] at h6
    unfold daccept at h5
    have h7 := of_decide_eq_true h5
    rw [h6] at h7
    unfold endAcc at h7 ⊢
    congr 1
    omega
theorem MergeP.same {T : Nat} {ys ns ys' ns' L L' : List (List Int)} {m m' : MM} (h : MergeP T ys ns L m) (h' : MergeP T ys' ns' L' m') (hy : ∀ w, w ∈ ys ↔ w ∈ ys') (hn : ∀ w, w ∈ ns ↔ w ∈ ns') : m = m' := by
  have hL : L = L' := h.1.uniq h'.1 fun v => by rw [List.mem_append, List.mem_append, hy, hn]
  subst hL
  have hs : startM L T ys ns = startM L T ys' ns' := by
    unfold startM
    congr 1
    refine List.map_congr_left fun w _ => ?_
    unfold markW
    simp only [hy w, hn w]
  have := h.2
  rw [hs] at this
  exact this.det h'.2
end Go.Proofs.Ytgaahpddlohjoaa
