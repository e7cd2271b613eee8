/- Rep2 CensusPlain LeastPlain -/
import Derived.Test.YtbmcoamdfpegnaaMa03
namespace Go.Proofs.Ytbmcoamdfpegnaa
open Go.RowKit
def Rep.prod {α β : Type} (R : Rep α) (Q : Rep β) : Rep (α × β) where
 size := R.size + Q.size
 ok := fun w S cs p => ∃ c1 c2, cs = c1 ++ c2 ∧ R.ok w S c1 p.1 ∧ Q.ok w S c2 p.2
 pos := by have := R.pos; omega
 len := by rintro _ _ _ _ ⟨c1, c2, rfl, h1, h2⟩; rw [List.length_append, R.len h1, Q.len h2]
 keep := by rintro _ _ _ _ _ ⟨c1, c2, rfl, h1, h2⟩ hk; exact ⟨c1, c2, rfl, R.keep h1 hk, Q.keep h2 hk⟩
 more := by rintro _ _ _ _ _ ⟨c1, c2, rfl, h1, h2⟩ hS; exact ⟨c1, c2, rfl, R.more h1 hS, Q.more h2 hS⟩
 fit := by rintro _ _ _ _ ⟨c1, c2, rfl, h1, h2⟩; exact ⟨c1, c2, rfl, R.fit h1, Q.fit h2⟩
 one := by
  rintro _ _ _ _ ⟨c1, c2, rfl, h1, h2⟩ u hu
  rcases List.mem_append.1 hu with h | h
  ·
   exact R.one h1 u h
  ·
   exact Q.one h2 u h
abbrev SymD := Bool × Int
abbrev RuleD := Int × List SymD
abbrev GramD := Int × Int × Int × List RuleD
abbrev DfaD := Int × List Int × List (List Int)
abbrev RSym : Rep SymD := Rep.prod Rep.bool Rep.int
abbrev RRule : Rep RuleD := Rep.prod Rep.int (Rep.slice RSym)
section
variable {w : World} {S : Nat → Prop} {cs : List Value}
theorem RSym.cells {s : SymD} : RSym.ok w S cs s ↔ cs = [.bool s.1, .int .i64 s.2] := by
 constructor
 ·
  rintro ⟨c1, c2, rfl, h1, h2⟩
  rw [show c1 = _ from h1, show c2 = _ from h2]; rfl
 ·
  rintro rfl
  exact ⟨[_], [_], rfl, rfl, rfl⟩
theorem RRule.cells {r : RuleD} : RRule.ok w S cs r ↔ ∃ A n c, cs = [.int .i64 r.1, .slice A n c] ∧ Sl RSym w S A n c r.2 := by
 constructor
 ·
  rintro ⟨c1, c2, rfl, h1, A, n, c, rfl, h2⟩
  rw [show c1 = _ from h1]
  exact ⟨A, n, c, rfl, h2⟩
 ·
  rintro ⟨A, n, c, rfl, h⟩
  exact ⟨[_], [_], rfl, rfl, A, n, c, rfl, h⟩
end
theorem Sl.at2 {α : Type} {R : Rep α} {w : World} {S : Nat → Prop} {A : Option Addr} {n c : Nat} {l : List α} (h : Sl R w S A n c l) (h2 : R.size = 2) {k : Nat} (hk : k < n) :
    ∃ (b off : Nat) (u v : Value) (a : α), A = some ⟨b, off, none⟩ ∧ S b ∧ l[k]? = some a ∧ R.ok w S [u, v] a ∧ w.cell? ⟨b, off + k * 2, none⟩ = some u ∧ w.cell? ⟨b, off + (k * 2 + 1), none⟩ = some v := by
 obtain ⟨xs, e1, e2, h3, h4⟩ := h
 subst e1
 have hg := h4.get hk
 have hl := h4.len
 rw [h2] at hg hl h3
 obtain ⟨b, off, e, hS, hc⟩ := h3.2 (by omega)
 have i1 : k * 2 < xs.length := by omega
 have i2 : k * 2 + 1 < xs.length := by omega
 refine ⟨b, off, xs[k * 2], xs[k * 2 + 1], l[k], e, hS, List.getElem?_eq_getElem hk, ?_, hc _ _ (List.getElem?_eq_getElem i1), hc _ _ (List.getElem?_eq_getElem i2)⟩
 rw [List.drop_eq_getElem_cons i1, List.drop_eq_getElem_cons i2] at hg
 exact hg
end Go.Proofs.Ytbmcoamdfpegnaa
namespace Go.Proofs.Ytbmcoamdfpegnaa
inductive Der (R : List RuleD) : List SymD → Nat → Prop
 | nil : Der R [] 0
 | term {x : Int} {l : List SymD} {k : Nat} : Der R l k → Der R ((true, x) :: l) (k + 1)
 | non {A : Int} {r l : List SymD} {i j : Nat} : (A, r) ∈ R → Der R r i → Der R l j → Der R ((false, A) :: l) (i + j)
section
variable {R R' : List RuleD}
theorem Der.nil_iff {k : Nat} : Der R [] k ↔ k = 0 := ⟨fun h => by cases h; rfl, fun h => by subst h; exact .nil⟩
theorem Der.non_iff {A : Int} {k : Nat} : Der R [(false, A)] k ↔ ∃ r, (A, r) ∈ R ∧ Der R r k := by
 constructor
 ·
  intro h
  cases h with
  | non hm h1 h2 =>
   rw [Der.nil_iff] at h2
   subst h2
   exact ⟨_, hm, h1⟩
 ·
  rintro ⟨r, hm, h⟩
  have := Der.non hm h .nil
  simpa using this
theorem Der.append {l m : List SymD} {i j : Nat} (h : Der R l i) (h' : Der R m j) : Der R (l ++ m) (i + j) := by
 induction h with
 | nil => simpa using h'
 | term _ ih => rw [List.cons_append, Nat.add_right_comm]; exact .term ih
 | non hm h1 _ _ ih => rw [List.cons_append, Nat.add_assoc]; exact .non hm h1 ih
end
def hasT (S : Nat → Nat → Bool) (s : SymD) (k : Nat) : Bool := if s.1 then k == 1 else S s.2.toNat k
def canT (S : Nat → Nat → Bool) : List SymD → Nat → Bool
 | [], k => k == 0
 | s :: l, k => (List.range (k + 1)).any fun i => hasT S s i && canT S l (k - i)
def NonOk (N : Nat) (l : List SymD) : Prop := ∀ s ∈ l, s.1 = false → 0 ≤ s.2 ∧ s.2.toNat < N
theorem NonOk.tail {N : Nat} {s : SymD} {l : List SymD} (h : NonOk N (s :: l)) : NonOk N l := fun x hx => h x (by simp [hx])
def RulesN (N : Nat) (R : List RuleD) : Prop := ∀ r ∈ R, (0 ≤ r.1 ∧ r.1.toNat < N) ∧ NonOk N r.2
open Classical in
noncomputable def lenD (R : List RuleD) (a k : Nat) : Bool := decide (Der R [(false, (a : Int))] k)
end Go.Proofs.Ytbmcoamdfpegnaa
namespace Go.Proofs.Ytbmcoamdfpegnaa
def addW (ls : List Int) (sum : Int) (s : SymD) : Int := if s.1 = true ∧ 0 ≤ sum then sum + 1 else if 0 ≤ sum ∧ 0 ≤ ls.getD s.2.toNat (-1) then sum + ls.getD s.2.toNat (-1) else -1
def ruleW (ls : List Int) (l : List SymD) : Int := l.foldl (addW ls) 0
def SoundL (R : List RuleD) (ls : List Int) : Prop := ∀ (a : Nat) (x : Int), ls[a]? = some x → -1 ≤ x ∧ (0 ≤ x → Der R [(false, (a : Int))] x.toNat)
def ClosedL (R : List RuleD) (ls : List Int) : Prop := ∀ r ∈ R, 0 ≤ ruleW ls r.2 → 0 ≤ ls.getD r.1.toNat (-1) ∧ ls.getD r.1.toNat (-1) ≤ ruleW ls r.2
def LeastOk (R : List RuleD) (ls : List Int) : Prop := ∀ (a : Nat) (x : Int), ls[a]? = some x → (x = -1 ∧ ∀ k, ¬ Der R [(false, (a : Int))] k) ∨ (0 ≤ x ∧ Der R [(false, (a : Int))] x.toNat ∧ ∀ k : Nat, Der R [(false, (a : Int))] k → x ≤ (k : Int))
section
variable {R : List RuleD} {ls : List Int}
theorem addW_neg {s : SymD} {sum : Int} (h : sum < 0) : addW ls sum s = -1 := by
 unfold addW
 rw [if_neg (by omega), if_neg (by omega)]
theorem addW_term {x sum : Int} (h : 0 ≤ sum) : addW ls sum (true, x) = sum + 1 := by unfold addW; rw [if_pos ⟨rfl, h⟩]
theorem addW_non {x sum : Int} (h : 0 ≤ sum) (h2 : 0 ≤ ls.getD x.toNat (-1)) : addW ls sum (false, x) = sum + ls.getD x.toNat (-1) := by
 unfold addW
 rw [if_neg (by simp), if_pos ⟨h, h2⟩]
theorem addW_no {x sum : Int} (h2 : ls.getD x.toNat (-1) < 0) : addW ls sum (false, x) = -1 := by
 unfold addW
 rw [if_neg (by simp), if_neg (fun h => by have h1 : 0 ≤ ls.getD x.toNat (-1) := h.2; omega)]
theorem fold_neg : ∀ (l : List SymD) {sum : Int}, sum < 0 → l.foldl (addW ls) sum < 0
 | [], sum, h => h
 | s :: l, sum, h => by
  rw [List.foldl_cons]
  exact fold_neg l (by rw [addW_neg h]; omega)
theorem getD_some {a : Nat} (h : 0 ≤ ls.getD a (-1)) : ls[a]? = some (ls.getD a (-1)) := by
 rw [List.getD_eq_getElem?_getD] at h ⊢
 cases hx : ls[a]? with
 | none => rw [hx] at h; simp at h
 | some x => rfl
theorem fold_sound (hS : SoundL R ls) {N : Nat} : ∀ (l : List SymD) {sum : Int}, NonOk N l → 0 ≤ sum → 0 ≤ l.foldl (addW ls) sum → ∃ k : Nat, Der R l k ∧ l.foldl (addW ls) sum = sum + k
 | [], sum, _, _, _ => ⟨0, .nil, by simp⟩
 | (true, x) :: l, sum, ho, h0, h => by
  rw [List.foldl_cons, addW_term h0] at h ⊢
  obtain ⟨k, hk, e⟩ := fold_sound hS l ho.tail (by omega) h
  exact ⟨k + 1, .term hk, by rw [e]; omega⟩
 | (false, x) :: l, sum, ho, h0, h => by
  have hx := ho (false, x) (by simp) rfl
  by_cases h2 : 0 ≤ ls.getD x.toNat (-1)
  ·
   rw [List.foldl_cons, addW_non h0 h2] at h ⊢
   obtain ⟨k, hk, e⟩ := fold_sound hS l ho.tail (by omega) h
   have hd := (hS _ _ (getD_some h2)).2 h2
   rw [show ((x.toNat : Nat) : Int) = x from Int.toNat_of_nonneg hx.1] at hd
   refine ⟨(ls.getD x.toNat (-1)).toNat + k, hd.append hk, ?_⟩
   rw [e]
   omega
  ·
   rw [List.foldl_cons, addW_no (by omega)] at h
   have := fold_neg (ls := ls) l (sum := -1) (by omega)
   omega
theorem fold_complete (hC : ClosedL R ls) {l : List SymD} {k : Nat} (h : Der R l k) : ∀ {sum : Int}, 0 ≤ sum → 0 ≤ l.foldl (addW ls) sum ∧ l.foldl (addW ls) sum ≤ sum + k := by
 induction h with
 | nil => intro sum h; simp; omega
 | term _ ih =>
  intro sum h
  rw [List.foldl_cons, addW_term h]
  have := ih (sum := sum + 1) (by omega)
  omega
 | @non A r l i j hm h1 h2 ih1 ih2 =>
  intro sum h
  have h3 := ih1 (sum := 0) (by omega)
  obtain ⟨h4, h5⟩ := hC (A, r) hm h3.1
  dsimp only at h4 h5
  have h6 : ruleW ls r = r.foldl (addW ls) 0 := rfl
  rw [List.foldl_cons, addW_non h h4]
  have := ih2 (sum := sum + ls.getD A.toNat (-1)) (by omega)
  omega
theorem least_of (hS : SoundL R ls) (hC : ClosedL R ls) : LeastOk R ls := by
 intro a x hx
 have hg : ls.getD a (-1) = x := by rw [List.getD_eq_getElem?_getD, hx]; rfl
 have hall : ∀ k, Der R [(false, (a : Int))] k → 0 ≤ x ∧ x ≤ (k : Int) := by
  intro k hd
  obtain ⟨r, hm, h1⟩ := Der.non_iff.1 hd
  have h3 := fold_complete hC h1 (sum := 0) (by omega)
  obtain ⟨h4, h5⟩ := hC _ hm h3.1
  have h6 : ruleW ls r = r.foldl (addW ls) 0 := rfl
  dsimp only at h4 h5
  rw [Int.toNat_natCast, hg] at h4 h5
  omega
 obtain ⟨h1, h2⟩ := hS a x hx
 by_cases h0 : 0 ≤ x
 ·
  exact Or.inr ⟨h0, h2 h0, fun k hk => (hall k hk).2⟩
 ·
  exact Or.inl ⟨by omega, fun k hk => h0 (hall k hk).1⟩
def cntL (ls : List Int) : Nat := ls.countP (fun x => decide (0 ≤ x))
def BoundL (ls : List Int) : Prop := ∀ x ∈ ls, x ≤ ((4 ^ cntL ls : Nat) : Int)
theorem four_le {c : Nat} (h : c ≤ 10) : 4 ^ c ≤ 1048576 := Nat.le_trans (Nat.pow_le_pow_right (by omega) h) (by decide)
theorem four_pos (c : Nat) : 1 ≤ 4 ^ c := Nat.pos_of_ne_zero (by simp)
theorem fold_le {B : Nat} (hB : 1 ≤ B) (hb : ∀ x ∈ ls, x ≤ (B : Int)) : ∀ (l : List SymD) {sum : Int} {j : Nat}, sum ≤ ((j * B : Nat) : Int) → l.foldl (addW ls) sum ≤ (((j + l.length) * B : Nat) : Int)
 | [], sum, j, h => by simpa using h
 | s :: l, sum, j, h => by
  rw [List.foldl_cons, List.length_cons]
  have h1 : (j + 1) * B = j * B + B := by rw [Nat.add_mul, Nat.one_mul]
  have h2 : addW ls sum s ≤ (((j + 1) * B : Nat) : Int) := by
   rw [h1]
   unfold addW
   split
   ·
    omega
   ·
    split
    ·
     rename_i h3 h4
     have := hb _ (List.mem_of_getElem? (getD_some h4.2))
     omega
    ·
     omega
  have := fold_le hB hb l h2
  rw [show j + (l.length + 1) = j + 1 + l.length by omega]
  exact this
def mea (ls : List Int) : Nat := (ls.map fun x => if x < 0 then 4194305 else x.toNat).sum
theorem sum_set {f : Int → Nat} : ∀ {l : List Int} {i : Nat} {x v : Int}, l[i]? = some x → f v < f x → ((l.set i v).map f).sum < (l.map f).sum
 | [], i, x, v, h, _ => by simp at h
 | y :: l, 0, x, v, h, hlt => by
  simp only [List.getElem?_cons_zero, Option.some.injEq] at h
  subst h
  simp only [List.set_cons_zero, List.map_cons, List.sum_cons]
  omega
 | y :: l, i + 1, x, v, h, hlt => by
  simp only [List.getElem?_cons_succ] at h
  have := sum_set (l := l) h hlt
  simp only [List.set_cons_succ, List.map_cons, List.sum_cons]
  omega
theorem cnt_set : ∀ {l : List Int} {i : Nat} {x v : Int}, l[i]? = some x → 0 ≤ v → cntL (l.set i v) = cntL l + (if 0 ≤ x then 0 else 1)
 | [], i, x, v, h, _ => by simp at h
 | y :: l, 0, x, v, h, h0 => by
  simp only [List.getElem?_cons_zero, Option.some.injEq] at h
  subst h
  unfold cntL
  rw [List.set_cons_zero, List.countP_cons, List.countP_cons]
  by_cases hy : 0 ≤ y <;> simp [hy, h0]
 | y :: l, i + 1, x, v, h, h0 => by
  simp only [List.getElem?_cons_succ] at h
  have := cnt_set (l := l) h h0
  unfold cntL at this ⊢
  rw [List.set_cons_succ, List.countP_cons, List.countP_cons, this]
  omega
theorem cnt_le (l : List Int) : cntL l ≤ l.length := List.countP_le_length
theorem better {N a : Nat} {old v : Int} {r : RuleD} (hS : SoundL R ls) (hB : BoundL ls) (hN : N ≤ 10) (hlen : ls.length = N) (hr : r ∈ R) (hra : r.1 = (a : Int)) (hr4 : r.2.length ≤ 4) (ho : NonOk N r.2) (hold : ls[a]? = some old) (hv : v = ruleW ls r.2) (h0 : 0 ≤ v) (hlt : old < 0 ∨ v < old) :
    SoundL R (ls.set a v) ∧ BoundL (ls.set a v) ∧ mea (ls.set a v) < mea ls := by
 have hc : cntL ls ≤ 10 := by have := cnt_le ls; omega
 have hp := four_pos (cntL ls)
 have hq := four_le hc
 have hle : v ≤ ((4 * 4 ^ cntL ls : Nat) : Int) := by
  have := fold_le (B := 4 ^ cntL ls) hp hB r.2 (sum := 0) (j := 0) (by simp)
  have h4 : (0 + r.2.length) * 4 ^ cntL ls ≤ 4 * 4 ^ cntL ls := Nat.mul_le_mul_right _ (by omega)
  have h5 : ruleW ls r.2 = r.2.foldl (addW ls) 0 := rfl
  omega
 refine ⟨?_, ?_, ?_⟩
 ·
  intro b x hx
  by_cases hba : b = a
  ·
   subst hba
   rw [List.getElem?_set_self (List.getElem?_eq_some_iff.1 hold).1] at hx
   injection hx with hx
   subst hx
   refine ⟨by omega, fun _ => ?_⟩
   obtain ⟨k, hk, e⟩ := fold_sound hS r.2 ho (sum := 0) (by omega) (by rw [hv] at h0; exact h0)
   have : v.toNat = k := by rw [hv]; unfold ruleW; omega
   rw [this]
   exact Der.non_iff.2 ⟨r.2, by rw [← hra]; exact hr, hk⟩
  ·
   rw [List.getElem?_set_ne (fun e => hba e.symm)] at hx
   exact hS b x hx
 ·
  intro x hx
  rw [cnt_set hold h0]
  rcases List.mem_or_eq_of_mem_set hx with h | h
  ·
   have := hB x h
   split
   ·
    exact this
   ·
    rw [Nat.pow_succ]; omega
  ·
   subst h
   split
   ·
    rename_i h1
    have := hB old (List.mem_of_getElem? hold)
    rw [Nat.add_zero]
    omega
   ·
    rw [Nat.pow_succ]; omega
 ·
  unfold mea
  refine sum_set hold ?_
  rcases hlt with h | h
  ·
   rw [if_pos h, if_neg (by omega)]
   omega
  ·
   rw [if_neg (by omega), if_neg (by omega)]
   omega
end
end Go.Proofs.Ytbmcoamdfpegnaa
