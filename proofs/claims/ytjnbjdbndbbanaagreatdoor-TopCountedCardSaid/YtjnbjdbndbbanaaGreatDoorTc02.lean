/- Rep Rep2 CensusPlain -/
import Derived.Test.YtjnbjdbndbbanaaGreatDoorTc01
namespace Go.Proofs.YtjnbjdbndbbanaaGreatDoor
open Go.RowKit
structure Rep (α : Type) where
 size : Nat
 ok : World → (Nat → Prop) → List Value → α → Prop
 pos : 0 < size
 len : ∀ {w S cs a}, ok w S cs a → cs.length = size
 keep : ∀ {w w' S cs a}, ok w S cs a → Kept S w w' → ok w' S cs a
 more : ∀ {w S cs a} {S' : Nat → Prop}, ok w S cs a → (∀ b, S b → S' b) → ok w S' cs a
 fit : ∀ {w S cs a}, ok w S cs a → ok w (fun b => S b ∧ b < w.heap.size) cs a
 one : ∀ {w S cs a}, ok w S cs a → ∀ u ∈ cs, u.oneCell' = true
def Rep.int : Rep Int where
 size := 1
 ok := fun _ _ cs a => cs = [.int .i64 a]
 pos := by decide
 len := by rintro _ _ _ _ rfl; rfl
 keep := fun h _ => h
 more := fun h _ => h
 fit := fun h => h
 one := by rintro _ _ _ _ rfl u hu; obtain rfl := List.mem_singleton.1 hu; rfl
def Rep.bool : Rep Bool where
 size := 1
 ok := fun _ _ cs a => cs = [.bool a]
 pos := by decide
 len := by rintro _ _ _ _ rfl; rfl
 keep := fun h _ => h
 more := fun h _ => h
 fit := fun h => h
 one := by rintro _ _ _ _ rfl u hu; obtain rfl := List.mem_singleton.1 hu; rfl
def Cells {α : Type} (R : Rep α) (w : World) (S : Nat → Prop) : List Value → List α → Prop
 | xs, [] => xs = []
 | xs, a :: l => ∃ cs rest, xs = cs ++ rest ∧ R.ok w S cs a ∧ Cells R w S rest l
section
variable {α : Type} {R : Rep α} {w w' : World} {S S' : Nat → Prop}
theorem Cells.nil : Cells R w S [] [] := rfl
theorem Cells.len : ∀ {l : List α} {xs : List Value}, Cells R w S xs l → xs.length = l.length * R.size
 | [], _, h => by rw [show _ = [] from h]; simp
 | a :: l, _, h => by
  obtain ⟨cs, rest, rfl, h1, h2⟩ := h
  rw [List.length_append, R.len h1, Cells.len h2, List.length_cons, Nat.add_mul]; omega
theorem Cells.keep (hk : Kept S w w') : ∀ {l : List α} {xs : List Value}, Cells R w S xs l → Cells R w' S xs l
 | [], _, h => h
 | a :: l, _, h => by
  obtain ⟨cs, rest, rfl, h1, h2⟩ := h
  exact ⟨cs, rest, rfl, R.keep h1 hk, Cells.keep hk h2⟩
theorem Cells.more (hS : ∀ b, S b → S' b) : ∀ {l : List α} {xs : List Value}, Cells R w S xs l → Cells R w S' xs l
 | [], _, h => h
 | a :: l, _, h => by
  obtain ⟨cs, rest, rfl, h1, h2⟩ := h
  exact ⟨cs, rest, rfl, R.more h1 hS, Cells.more hS h2⟩
theorem Cells.fit : ∀ {l : List α} {xs : List Value}, Cells R w S xs l → Cells R w (fun b => S b ∧ b < w.heap.size) xs l
 | [], _, h => h
 | a :: l, _, h => by
  obtain ⟨cs, rest, rfl, h1, h2⟩ := h
  exact ⟨cs, rest, rfl, R.fit h1, Cells.fit h2⟩
theorem Cells.one : ∀ {l : List α} {xs : List Value}, Cells R w S xs l → ∀ u ∈ xs, u.oneCell' = true
 | [], _, h => by rw [show _ = [] from h]; intro u hu; cases hu
 | a :: l, _, h => by
  obtain ⟨cs, rest, rfl, h1, h2⟩ := h
  intro u hu
  rcases List.mem_append.1 hu with h | h
  · exact R.one h1 u h
  exact Cells.one h2 u h
theorem Cells.append : ∀ {l m : List α} {xs ys : List Value}, Cells R w S xs l → Cells R w S ys m → Cells R w S (xs ++ ys) (l ++ m)
 | [], _, _, _, h, h' => by rw [show _ = [] from h]; exact h'
 | a :: l, m, _, ys, h, h' => by
  obtain ⟨cs, rest, rfl, h1, h2⟩ := h
  exact ⟨cs, rest ++ ys, by rw [List.append_assoc], h1, Cells.append h2 h'⟩
theorem Cells.single {cs : List Value} {a : α} (h : R.ok w S cs a) : Cells R w S cs [a] := ⟨cs, [], by simp, h, rfl⟩
theorem Cells.drop : ∀ {k : Nat} {l : List α} {xs : List Value}, Cells R w S xs l → Cells R w S (xs.drop (k * R.size)) (l.drop k)
 | 0, l, xs, h => by simpa using h
 | k + 1, [], xs, h => by rw [show xs = [] from h]; simp; exact Cells.nil
 | k + 1, a :: l, xs, h => by
  obtain ⟨cs, rest, rfl, h1, h2⟩ := h
  rw [List.drop_succ_cons, show (k + 1) * R.size = cs.length + k * R.size by rw [R.len h1, Nat.add_mul]; omega, ← List.drop_drop, List.drop_left]
  exact Cells.drop h2
theorem Cells.take : ∀ {k : Nat} {l : List α} {xs : List Value}, Cells R w S xs l → Cells R w S (xs.take (k * R.size)) (l.take k)
 | 0, l, xs, h => by simp; exact Cells.nil
 | k + 1, [], xs, h => by rw [show xs = [] from h]; simp; exact Cells.nil
 | k + 1, a :: l, xs, h => by
  obtain ⟨cs, rest, rfl, h1, h2⟩ := h
  rw [List.take_succ_cons, show (k + 1) * R.size = cs.length + k * R.size by rw [R.len h1, Nat.add_mul]; omega, List.take_append, List.take_of_length_le (by omega), Nat.add_sub_cancel_left]
  exact ⟨cs, _, rfl, h1, Cells.take h2⟩
theorem Cells.get {l : List α} {xs : List Value} (h : Cells R w S xs l) {k : Nat} (hk : k < l.length) : R.ok w S ((xs.drop (k * R.size)).take R.size) l[k] := by
 have h1 := h.drop (k := k)
 rw [List.drop_eq_getElem_cons hk] at h1
 obtain ⟨cs, rest, e, h2, _⟩ := h1
 rw [e, ← R.len h2, List.take_left]
 exact h2
theorem Cells.get1 {l : List α} {xs : List Value} (h : Cells R w S xs l) (h1 : R.size = 1) {k : Nat} (hk : k < l.length) : ∃ u, xs[k]? = some u ∧ R.ok w S [u] l[k] := by
 have h2 := h.get hk
 have hl := h.len
 rw [h1] at h2 hl
 have hx : k < xs.length := by omega
 refine ⟨xs[k], List.getElem?_eq_getElem hx, ?_⟩
 rw [Nat.mul_one, List.drop_eq_getElem_cons hx] at h2
 exact h2
end
def Sl {α : Type} (R : Rep α) (w : World) (S : Nat → Prop) (A : Option Addr) (n c : Nat) (l : List α) : Prop :=
 ∃ xs, n = l.length ∧ n ≤ c ∧ Rd w S R.size A n xs ∧ Cells R w S xs l
section
variable {α : Type} {R : Rep α} {w w' : World} {S S' : Nat → Prop} {n c : Nat} {A : Option Addr} {l : List α}
theorem Sl.len (h : Sl R w S A n c l) : n = l.length := h.choose_spec.1
theorem Sl.cap (h : Sl R w S A n c l) : n ≤ c := h.choose_spec.2.1
theorem Sl.nil (w : World) (S : Nat → Prop) (A : Option Addr) (c : Nat) : Sl R w S A 0 c [] := ⟨[], rfl, Nat.zero_le _, Rd.nil, Cells.nil⟩
theorem Sl.keep (h : Sl R w S A n c l) (hk : Kept S w w') : Sl R w' S A n c l := by
 obtain ⟨xs, h1, h2, h3, h4⟩ := h
 exact ⟨xs, h1, h2, h3.keep hk, h4.keep hk⟩
theorem Sl.more (h : Sl R w S A n c l) (hS : ∀ b, S b → S' b) : Sl R w S' A n c l := by
 obtain ⟨xs, h1, h2, h3, h4⟩ := h
 exact ⟨xs, h1, h2, h3.more hS, h4.more hS⟩
theorem Sl.fit (h : Sl R w S A n c l) : Sl R w (fun b => S b ∧ b < w.heap.size) A n c l := by
 obtain ⟨xs, h1, h2, h3, h4⟩ := h
 exact ⟨xs, h1, h2, h3.fit R.pos, h4.fit⟩
theorem Sl.below (h : Sl R w S A n c l) (hb : Below w.heap.size w w') : Sl R w' S A n c l := h.keep (.below hb)
theorem Sl.alloc (h : Sl R w S A n c l) (o : Obj) : Sl R (w.alloc o) S A n c l := h.keep (.alloc _ _ _)
theorem Sl.drew (h : Sl R w S A n c l) : Sl R w.drew S A n c l := h.keep (.drew _ _)
theorem Sl.take (h : Sl R w S A n c l) (k : Nat) (hk : k ≤ n) : Sl R w S A k c (l.take k) := by
 obtain ⟨xs, h1, h2, h3, h4⟩ := h
 exact ⟨_, by rw [List.length_take]; omega, by omega, h3.cuth k hk, h4.take⟩
theorem Sl.at_ (h : Sl R w S A n c l) (h1 : R.size = 1) {k : Nat} (hk : k < n) : ∃ (b off : Nat) (u : Value) (a : α), A = some ⟨b, off, none⟩ ∧ S b ∧ l[k]? = some a ∧ R.ok w S [u] a ∧ w.cell? ⟨b, off + k, none⟩ = some u := by
 obtain ⟨xs, e1, e2, h3, h4⟩ := h
 subst e1
 obtain ⟨u, hu, hok⟩ := h4.get1 h1 hk
 rw [h1] at h3
 obtain ⟨b, off, u', e, hb, hx, hc⟩ := h3.at_ hk
 rw [hu] at hx
 injection hx with hx
 subst hx
 exact ⟨b, off, u, l[k], e, hb, List.getElem?_eq_getElem hk, hok, hc⟩
end
def Rep.slice {α : Type} (R : Rep α) : Rep (List α) where
 size := 1
 ok := fun w S cs l => ∃ A n c, cs = [.slice A n c] ∧ Sl R w S A n c l
 pos := by decide
 len := by rintro _ _ _ _ ⟨A, n, c, rfl, _⟩; rfl
 keep := by rintro _ _ _ _ _ ⟨A, n, c, rfl, h⟩ hk; exact ⟨A, n, c, rfl, h.keep hk⟩
 more := by rintro _ _ _ _ _ ⟨A, n, c, rfl, h⟩ hB; exact ⟨A, n, c, rfl, h.more hB⟩
 fit := by rintro _ _ _ _ ⟨A, n, c, rfl, h⟩; exact ⟨A, n, c, rfl, h.fit⟩
 one := by rintro _ _ _ _ ⟨A, n, c, rfl, _⟩ u hu; obtain rfl := List.mem_singleton.1 hu; rfl
theorem Cells.ints {w : World} {S : Nat → Prop} : ∀ {l : List Int} {xs : List Value}, Cells Rep.int w S xs l ↔ xs = l.map (Value.int .i64)
 | [], xs => Iff.rfl
 | a :: l, xs => by
  constructor
  ·
   rintro ⟨cs, rest, rfl, h1, h2⟩
   rw [show cs = [.int .i64 a] from h1, Cells.ints.1 h2]; rfl
  rintro rfl
  exact ⟨[.int .i64 a], l.map (Value.int .i64), rfl, rfl, Cells.ints.2 rfl⟩
section
variable {w : World} {S : Nat → Prop} {n c : Nat} {A : Option Addr}
theorem Sl.ints {l : List Int} (h : Sl Rep.int w S A n c l) : Rd w S 1 A n (l.map (Value.int .i64)) := by
 obtain ⟨xs, _, _, h3, h4⟩ := h
 rw [Cells.ints.1 h4] at h3
 exact h3
theorem Rd.slInts {l : List Int} (h : Rd w S 1 A n (l.map (Value.int .i64))) (hc : n ≤ c) : Sl Rep.int w S A n c l :=
 ⟨_, by have := h.1; simpa using this.symm, hc, h, Cells.ints.2 rfl⟩
end
def Off (S : Nat → Prop) (base : Nat) (v : Value) : Nat → Prop := fun b => (S b ∨ base ≤ b) ∧ rowOf v ≠ some b
def OwnL {α : Type} (R : Rep α) (w : World) (S : Nat → Prop) (base : Nat) (E : TypeId) (v : Value) (l : List α) : Prop :=
 ∃ xs, Own w base E R.size v l.length xs ∧ Cells R w (Off S base v) xs l
section
variable {α : Type} {R : Rep α} {w w' : World} {S : Nat → Prop} {base : Nat} {E : TypeId} {v : Value} {l : List α}
theorem OwnL.nil (w : World) (S : Nat → Prop) (base : Nat) (E : TypeId) (A : Option Addr) : OwnL R w S base E (.slice A 0 0) [] := ⟨[], Own.nil _ _ _ _ _, Cells.nil⟩
theorem OwnL.form (h : OwnL R w S base E v l) : ∃ A c, v = .slice A l.length c ∧ l.length ≤ c ∧ c ≤ maxLen := h.choose_spec.1.form
theorem OwnL.row (h : OwnL R w S base E v l) {g : Nat} (hg : rowOf v = some g) : base ≤ g ∧ g < w.heap.size := h.choose_spec.1.row hg
theorem OwnL.sl {A : Option Addr} {n c : Nat} (h : OwnL R w S base E (.slice A n c) l) : Sl R w (fun b => S b ∨ base ≤ b) A n c l := by
 obtain ⟨xs, h1, h2⟩ := h
 obtain ⟨A', c', e, hc, _⟩ := h1.form
 injection e with e1 e2 e3
 subst e1
 subst e2
 subst e3
 exact ⟨xs, rfl, hc, h1.rd.more fun b hb => .inr hb, h2.more fun b hb => hb.1⟩
theorem OwnL.below (h : OwnL R w S base E v l) (hb : Below w.heap.size w w') : OwnL R w' S base E v l := by
 obtain ⟨xs, h1, h2⟩ := h
 exact ⟨xs, h1.below hb (Nat.le_refl _), h2.keep (.below hb)⟩
theorem OwnL.alloc (h : OwnL R w S base E v l) (o : Obj) : OwnL R (w.alloc o) S base E v l := by
 obtain ⟨xs, h1, h2⟩ := h
 exact ⟨xs, h1.alloc o, h2.keep (.alloc _ _ _)⟩
theorem OwnL.drew (h : OwnL R w S base E v l) : OwnL R w.drew S base E v l := by
 obtain ⟨xs, h1, h2⟩ := h
 exact ⟨xs, h1.drew, h2.keep (.drew _ _)⟩
theorem Own.ints {base n : Nat} {zs : List Int} (h : Own w base E 1 v n (zs.map (Value.int .i64))) (S : Nat → Prop) : OwnL Rep.int w S base E v zs := by
 have hl := h.len
 refine ⟨_, ?_, Cells.ints.2 rfl⟩
 obtain rfl : n = zs.length := by simpa using hl.symm
 exact h
end
theorem run_append_OwnL {α : Type} {R : Rep α} {P : Program} {T E s bytes : Nat} {z : Value} (hT : SlType P T E s bytes z) (hs : R.size = s) (w : World) (ty base : Nat) (S : Nat → Prop) (v : Value) (l : List α)
    (hown : OwnL R w S base E v l) (S1 : Nat → Prop) (A : Option Addr) (m c : Nat) (l' : List α) (ys : List Value) (hr : Rd w S1 s A m ys) (hcells : Cells R w (Off S base v) ys l') (hm : m = l'.length)
    (h63 : l.length + m ≤ maxLen) (hbytes : (l.length + m) * bytes ≤ 140737488355328) (hbase : base ≤ w.heap.size) :
    ∃ v' w', (Builtin.append_ #[T, T] ty #[v, .slice A m c]).run P w = .ok v' w' ∧ OwnL R w' S base E v' (l ++ l') ∧ w.grownBy w' (rowOf v) ∧ Below base w w' := by
 subst hs
 subst hm
 obtain ⟨xs, ho, hc⟩ := hown
 obtain ⟨v', w', hrun, ho', hg, hrow⟩ := run_append_Own hT w ty base v l.length xs ho S1 A l'.length c ys hr hcells.one h63 hbytes hbase
 have hb : Below base w w' := Below.own (Below.refl _ _) ho hg (Nat.le_refl _) hbase
 refine ⟨v', w', hrun, ⟨xs ++ ys, by simpa using ho', ?_⟩, hg, hb⟩
 have h1 := (hc.append hcells).fit
 have h2 := h1.keep (w' := w') (Kept.grown hg fun b hb => hb.1.2)
 refine h2.more fun b hb => ⟨hb.1.1, ?_⟩
 rcases hrow with h | h
 · rw [h]; exact hb.1.2
 rw [h]
 intro e
 injection e with e
 have := hb.2
 omega
theorem SlType.make {P : Program} {T E bytes : Nat} {z : Value} (hT : SlType P T E 1 bytes z) (hz : z.cells = #[z]) (n : Nat) (hb : bytes * n ≤ 281474976710656) (h63 : n ≤ 9223372036854775807) (w : World) :
    (Instr.makeSlice T (.int .i64 n) (.int .i64 n)).run P w = .ok (.slice (some ⟨w.heap.size, 0, none⟩) n n) (w.alloc (.cells (madeCells #[z] n) E)) := by
 obtain ⟨i, hi, hz0, hz1, hz2⟩ := info_parts hT.info
 have h := run_make (P := P) w T E i z hT.under hi hz0 .i64 .i64 n n (by omega) (by omega) (by
  rw [hz2]
  have : ((bytes * n : Nat) : Int) ≤ 281474976710656 := by omega
  rwa [Int.natCast_mul] at this) (by omega)
 rw [hz1, hz, Nat.mul_one, Int.toNat_natCast] at h
 exact h
theorem run_append_lit {α : Type} {R : Rep α} {P : Program} {T E s bytes : Nat} {z : Value} (hT : SlType P T E s bytes z) (hs : R.size = s) (w : World) (ty base : Nat) (S : Nat → Prop) (v : Value) (l : List α)
    (hown : OwnL R w S base E v l) (m : Nat) (l' : List α) (ys : List Value) (hcells : Cells R w (Off S base v) ys l') (hm : m = l'.length)
    (h63 : l.length + m ≤ maxLen) (hbytes : (l.length + m) * bytes ≤ 140737488355328) (hbase : base ≤ w.heap.size) :
    ∃ v' w', (Builtin.append_ #[T, T] ty #[v, .slice (some ⟨w.heap.size, 0, none⟩) m m]).run P (w.alloc (.cells ys.toArray E)) = .ok v' w' ∧ OwnL R w' S base E v' (l ++ l') ∧ (w.alloc (.cells ys.toArray E)).grownBy w' (rowOf v) ∧ Below base w w' := by
 have hr : Rd (w.alloc (.cells ys.toArray E)) (fun _ => True) s (some ⟨w.heap.size, 0, none⟩) m ys := by
  refine ⟨by rw [hcells.len, hm, hs], fun _ => ⟨w.heap.size, 0, rfl, trivial, fun j v hv => ?_⟩⟩
  rw [World.cell?_alloc_at _ _ _ _ rfl]
  simpa using hv
 obtain ⟨v', w', hrun, ho, hg, hb⟩ := run_append_OwnL hT hs (w.alloc (.cells ys.toArray E)) ty base S v l (hown.alloc _) _ _ m m l' ys hr (hcells.keep (.alloc _ _ _)) hm h63 hbytes (by simp; omega)
 exact ⟨v', w', hrun, ho, hg, ((Below.refl _ _).alloc hbase _).trans hb⟩
def Rep.prod {α β : Type} (R : Rep α) (Q : Rep β) : Rep (α × β) where
 size := R.size + Q.size
 ok := fun w S cs p => ∃ c1 c2, cs = c1 ++ c2 ∧ R.ok w S c1 p.1 ∧ Q.ok w S c2 p.2
 pos := by have := R.pos; omega
 len := by rintro _ _ _ _ ⟨c1, c2, rfl, h1, h2⟩; rw [List.length_append, R.len h1, Q.len h2]
 keep := by rintro _ _ _ _ _ ⟨c1, c2, rfl, h1, h2⟩ hk; exact ⟨c1, c2, rfl, R.keep h1 hk, Q.keep h2 hk⟩
 more := by rintro _ _ _ _ _ ⟨c1, c2, rfl, h1, h2⟩ hS; exact ⟨c1, c2, rfl, R.more h1 hS, Q.more h2 hS⟩
 fit := by rintro _ _ _ _ ⟨c1, c2, rfl, h1, h2⟩; exact ⟨c1, c2, rfl, R.fit h1, Q.fit h2⟩
 one := by
  rintro _ _ _ _ ⟨c1, c2, rfl, h1, h2⟩ u hu
  rcases List.mem_append.1 hu with h | h
  · exact R.one h1 u h
  exact Q.one h2 u h
abbrev SymD := Bool × Int
abbrev RuleD := Int × List SymD
abbrev GramD := Int × Int × Int × List RuleD
abbrev RSym : Rep SymD := Rep.prod Rep.bool Rep.int
abbrev RRule : Rep RuleD := Rep.prod Rep.int (Rep.slice RSym)
section
variable {w : World} {S : Nat → Prop} {cs : List Value}
theorem RSym.cells {s : SymD} : RSym.ok w S cs s ↔ cs = [.bool s.1, .int .i64 s.2] := by
 constructor
 ·
  rintro ⟨c1, c2, rfl, h1, h2⟩
  rw [show c1 = _ from h1, show c2 = _ from h2]; rfl
 rintro rfl
 exact ⟨[_], [_], rfl, rfl, rfl⟩
theorem RRule.cells {r : RuleD} : RRule.ok w S cs r ↔ ∃ A n c, cs = [.int .i64 r.1, .slice A n c] ∧ Sl RSym w S A n c r.2 := by
 constructor
 ·
  rintro ⟨c1, c2, rfl, h1, A, n, c, rfl, h2⟩
  rw [show c1 = _ from h1]
  exact ⟨A, n, c, rfl, h2⟩
 rintro ⟨A, n, c, rfl, h⟩
 exact ⟨[_], [_], rfl, rfl, A, n, c, rfl, h⟩
end
theorem Sl.at2 {α : Type} {R : Rep α} {w : World} {S : Nat → Prop} {A : Option Addr} {n c : Nat} {l : List α} (h : Sl R w S A n c l) (h2 : R.size = 2) {k : Nat} (hk : k < n) :
    ∃ (b off : Nat) (u v : Value) (a : α), A = some ⟨b, off, none⟩ ∧ S b ∧ l[k]? = some a ∧ R.ok w S [u, v] a ∧ w.cell? ⟨b, off + k * 2, none⟩ = some u ∧ w.cell? ⟨b, off + (k * 2 + 1), none⟩ = some v := by
 obtain ⟨xs, e1, e2, h3, h4⟩ := h
 subst e1
 have hg := h4.get hk
 have hl := h4.len
 rw [h2] at hg hl h3
 obtain ⟨b, off, e, hS, hc⟩ := h3.2 (by omega)
 have i1 : k * 2 < xs.length := by omega
 have i2 : k * 2 + 1 < xs.length := by omega
 refine ⟨b, off, xs[k * 2], xs[k * 2 + 1], l[k], e, hS, List.getElem?_eq_getElem hk, ?_, hc _ _ (List.getElem?_eq_getElem i1), hc _ _ (List.getElem?_eq_getElem i2)⟩
 rw [List.drop_eq_getElem_cons i1, List.drop_eq_getElem_cons i2] at hg
 exact hg
end Go.Proofs.YtjnbjdbndbbanaaGreatDoor
namespace Go.Proofs.YtjnbjdbndbbanaaGreatDoor
inductive Der (R : List RuleD) : List SymD → Nat → Prop
 | nil : Der R [] 0
 | term {x : Int} {l : List SymD} {k : Nat} : Der R l k → Der R ((true, x) :: l) (k + 1)
 | non {A : Int} {r l : List SymD} {i j : Nat} : (A, r) ∈ R → Der R r i → Der R l j → Der R ((false, A) :: l) (i + j)
section
variable {R R' : List RuleD}
theorem Der.nil_iff {k : Nat} : Der R [] k ↔ k = 0 := ⟨fun h => by cases h; rfl, fun h => by subst h; exact .nil⟩
theorem Der.term_iff {x : Int} {k : Nat} : Der R [(true, x)] k ↔ k = 1 := by
 constructor
 ·
  intro h
  cases h with
  | term h => rw [Der.nil_iff] at h; omega
 rintro rfl
 exact .term .nil
theorem Der.non_iff {A : Int} {k : Nat} : Der R [(false, A)] k ↔ ∃ r, (A, r) ∈ R ∧ Der R r k := by
 constructor
 ·
  intro h
  cases h with
  | non hm h1 h2 =>
   rw [Der.nil_iff] at h2
   subst h2
   exact ⟨_, hm, h1⟩
 rintro ⟨r, hm, h⟩
 have := Der.non hm h .nil
 simpa using this
theorem Der.append {l m : List SymD} {i j : Nat} (h : Der R l i) (h' : Der R m j) : Der R (l ++ m) (i + j) := by
 induction h with
 | nil => simpa using h'
 | term _ ih => rw [List.cons_append, Nat.add_right_comm]; exact .term ih
 | non hm h1 _ _ ih => rw [List.cons_append, Nat.add_assoc]; exact .non hm h1 ih
theorem Der.cons_iff {s : SymD} {l : List SymD} {k : Nat} : Der R (s :: l) k ↔ ∃ i, i ≤ k ∧ Der R [s] i ∧ Der R l (k - i) := by
 constructor
 ·
  intro h
  cases h with
  | term h => exact ⟨1, by omega, .term .nil, by simpa using h⟩
  | non hm h1 h2 => exact ⟨_, by omega, Der.non_iff.2 ⟨_, hm, h1⟩, by simpa using h2⟩
 rintro ⟨i, hi, h1, h2⟩
 have := Der.append h1 h2
 rwa [List.singleton_append, show i + (k - i) = k by omega] at this
theorem Der.append_iff : ∀ {l m : List SymD} {k : Nat}, Der R (l ++ m) k ↔ ∃ i, i ≤ k ∧ Der R l i ∧ Der R m (k - i)
 | [], m, k => by
  constructor
  · intro h; exact ⟨0, by omega, .nil, by simpa using h⟩
  rintro ⟨i, _, h1, h2⟩
  rw [Der.nil_iff] at h1
  subst h1
  simpa using h2
 | s :: l, m, k => by
  constructor
  ·
   intro h
   rw [List.cons_append, Der.cons_iff] at h
   obtain ⟨i, hi, h1, h2⟩ := h
   obtain ⟨j, hj, h3, h4⟩ := Der.append_iff.1 h2
   refine ⟨i + j, by omega, Der.cons_iff.2 ⟨i, by omega, h1, by rw [Nat.add_sub_cancel_left]; exact h3⟩, by rw [Nat.sub_add_eq]; exact h4⟩
  rintro ⟨i, hi, h1, h2⟩
  have := h1.append h2
  rwa [show i + (k - i) = k by omega] at this
end
def hasT (S : Nat → Nat → Bool) (s : SymD) (k : Nat) : Bool := if s.1 then k == 1 else S s.2.toNat k
def canT (S : Nat → Nat → Bool) : List SymD → Nat → Bool
 | [], k => k == 0
 | s :: l, k => (List.range (k + 1)).any fun i => hasT S s i && canT S l (k - i)
def splitT (S : Nat → Nat → Bool) (a b : List SymD) (k : Nat) : Bool := (List.range (k + 1)).any fun i => canT S a i && canT S b (k - i)
theorem canT_cons {S : Nat → Nat → Bool} {s : SymD} {l : List SymD} {k : Nat} : canT S (s :: l) k = true ↔ ∃ i, i ≤ k ∧ hasT S s i = true ∧ canT S l (k - i) = true := by
 simp only [canT, List.any_eq_true, List.mem_range, Bool.and_eq_true]
 exact ⟨fun ⟨i, h1, h2, h3⟩ => ⟨i, by omega, h2, h3⟩, fun ⟨i, h1, h2, h3⟩ => ⟨i, by omega, h2, h3⟩⟩
theorem splitT_iff {S : Nat → Nat → Bool} {a b : List SymD} {k : Nat} : splitT S a b k = true ↔ ∃ i, i ≤ k ∧ canT S a i = true ∧ canT S b (k - i) = true := by
 simp only [splitT, List.any_eq_true, List.mem_range, Bool.and_eq_true]
 exact ⟨fun ⟨i, h1, h2, h3⟩ => ⟨i, by omega, h2, h3⟩, fun ⟨i, h1, h2, h3⟩ => ⟨i, by omega, h2, h3⟩⟩
def NonOk (N : Nat) (l : List SymD) : Prop := ∀ s ∈ l, s.1 = false → 0 ≤ s.2 ∧ s.2.toNat < N
theorem NonOk.tail {N : Nat} {s : SymD} {l : List SymD} (h : NonOk N (s :: l)) : NonOk N l := fun x hx => h x (by simp [hx])
theorem NonOk.head {N : Nat} {s : SymD} {l : List SymD} (h : NonOk N (s :: l)) : NonOk N [s] := fun x hx => h x (by simp at hx; simp [hx])
theorem NonOk.take {N : Nat} {l : List SymD} (h : NonOk N l) (k : Nat) : NonOk N (l.take k) := fun x hx => h x (List.mem_of_mem_take hx)
theorem NonOk.drop {N : Nat} {l : List SymD} (h : NonOk N l) (k : Nat) : NonOk N (l.drop k) := fun x hx => h x (List.mem_of_mem_drop hx)
def RulesN (N : Nat) (R : List RuleD) : Prop := ∀ r ∈ R, (0 ≤ r.1 ∧ r.1.toNat < N) ∧ NonOk N r.2
theorem canT_congr {S S' : Nat → Nat → Bool} {N n : Nat} (hS : ∀ a k, a < N → k ≤ n → S a k = S' a k) : ∀ {l : List SymD} {k : Nat}, NonOk N l → k ≤ n → canT S l k = canT S' l k
 | [], _, _, _ => rfl
 | s :: l, k, hl, hk => by
  have h1 : ∀ i, i ≤ k → hasT S s i = hasT S' s i := fun i hi => by
   unfold hasT
   split
   · rfl
   rename_i h
   exact hS _ _ (hl s (by simp) (by simpa using h)).2 (by omega)
  have h2 : ∀ i, canT S l (k - i) = canT S' l (k - i) := fun i => canT_congr hS hl.tail (by omega)
  rw [Bool.eq_iff_iff, canT_cons, canT_cons]
  constructor
  · rintro ⟨i, hi, a, b⟩; exact ⟨i, hi, by rw [← h1 i hi]; exact a, by rw [← h2 i]; exact b⟩
  rintro ⟨i, hi, a, b⟩; exact ⟨i, hi, by rw [h1 i hi]; exact a, by rw [h2 i]; exact b⟩
theorem splitT_congr {S S' : Nat → Nat → Bool} {N n : Nat} (hS : ∀ a k, a < N → k ≤ n → S a k = S' a k) {a b : List SymD} {k : Nat} (ha : NonOk N a) (hb : NonOk N b) (hk : k ≤ n) : splitT S a b k = splitT S' a b k := by
 rw [Bool.eq_iff_iff, splitT_iff, splitT_iff]
 constructor
 · rintro ⟨i, hi, x, y⟩; exact ⟨i, hi, by rw [← canT_congr hS ha (by omega)]; exact x, by rw [← canT_congr hS hb (by omega)]; exact y⟩
 rintro ⟨i, hi, x, y⟩; exact ⟨i, hi, by rw [canT_congr hS ha (by omega)]; exact x, by rw [canT_congr hS hb (by omega)]; exact y⟩
def Sound (R : List RuleD) (N n : Nat) (S : Nat → Nat → Bool) : Prop := ∀ a k, a < N → k ≤ n → S a k = true → Der R [(false, (a : Int))] k
theorem canT_sound {R : List RuleD} {N n : Nat} {S : Nat → Nat → Bool} (hS : Sound R N n S) : ∀ {l : List SymD} {k : Nat}, NonOk N l → k ≤ n → canT S l k = true → Der R l k
 | [], k, _, _, h => by
  have : k = 0 := by simpa [canT] using h
  subst this
  exact .nil
 | (t, x) :: l, k, hl, hk, h => by
  obtain ⟨i, hi, h1, h2⟩ := canT_cons.1 h
  refine Der.cons_iff.2 ⟨i, hi, ?_, canT_sound hS hl.tail (by omega) h2⟩
  cases t with
  | true => exact Der.term_iff.2 (by simpa [hasT] using h1)
  | false =>
   obtain ⟨h3, h4⟩ := hl (false, x) (by simp) rfl
   have := hS x.toNat i h4 (by omega) (by simpa [hasT] using h1)
   rwa [Int.toNat_of_nonneg h3] at this
def Closed (R : List RuleD) (n : Nat) (S : Nat → Nat → Bool) : Prop := ∀ r ∈ R, ∀ k, k ≤ n → canT S r.2 k = true → S r.1.toNat k = true
theorem canT_complete {R : List RuleD} {n : Nat} {S : Nat → Nat → Bool} (hC : Closed R n S) {l : List SymD} {k : Nat} (h : Der R l k) : k ≤ n → canT S l k = true := by
 induction h with
 | nil => intro _; rfl
 | term _ ih => intro hk; exact canT_cons.2 ⟨1, by omega, rfl, by simpa using ih (by omega)⟩
 | @non A r l i j hm _ _ h1 h2 =>
  intro hk
  refine canT_cons.2 ⟨i, by omega, ?_, by rw [Nat.add_sub_cancel_left]; exact h2 (by omega)⟩
  exact hC _ hm i (by omega) (h1 (by omega))
open Classical in
noncomputable def lenD (R : List RuleD) (a k : Nat) : Bool := decide (Der R [(false, (a : Int))] k)
theorem lenD_iff {R : List RuleD} {a k : Nat} : lenD R a k = true ↔ Der R [(false, (a : Int))] k := by simp [lenD]
theorem table_eq {R : List RuleD} {N n : Nat} {S : Nat → Nat → Bool} (hS : Sound R N n S) (hC : Closed R n S) (a k : Nat) (ha : a < N) (hk : k ≤ n) : S a k = lenD R a k := by
 rw [Bool.eq_iff_iff, lenD_iff]
 constructor
 · exact hS a k ha hk
 intro h
 obtain ⟨r, hm, h1⟩ := Der.non_iff.1 h
 have := hC _ hm k hk (canT_complete hC h1 hk)
 simpa using this
theorem lenD_sound (R : List RuleD) (N n : Nat) : Sound R N n (lenD R) := fun _ _ _ _ h => lenD_iff.1 h
theorem canD_iff {R : List RuleD} {N : Nat} {l : List SymD} {k : Nat} (hl : NonOk N l) (hR : RulesN N R) : canT (lenD R) l k = true ↔ Der R l k := by
 constructor
 · exact canT_sound (lenD_sound R N k) hl (Nat.le_refl _)
 intro h
 refine canT_complete (n := k) (S := lenD R) (fun r hr j hj hc => ?_) h (Nat.le_refl _)
 obtain ⟨⟨h1, h2⟩, h3⟩ := hR r hr
 rw [lenD_iff, Int.toNat_of_nonneg h1]
 exact Der.non_iff.2 ⟨r.2, hr, canT_sound (lenD_sound R N k) h3 hj hc⟩
theorem hasD_iff {R : List RuleD} {N : Nat} {s : SymD} {k : Nat} (hs : NonOk N [s]) : hasT (lenD R) s k = true ↔ Der R [s] k := by
 obtain ⟨t, x⟩ := s
 cases t with
 | true => simp [hasT, Der.term_iff]
 | false =>
  have := hs (false, x) (by simp) rfl
  have e : hasT (lenD R) (false, x) k = lenD R x.toNat k := by simp [hasT]
  rw [e, lenD_iff, Int.toNat_of_nonneg this.1]
end Go.Proofs.YtjnbjdbndbbanaaGreatDoor
