/- Rep Rep2 CensusPlain CensusPlain2 CensusPlain3 -/
import Derived.Test.YtbmcoamdfpegnaaMt03
namespace Go.Proofs.Ytbmcoamdfpegnaa
open Go.RowKit
structure Rep (α : Type) where
 size : Nat
 ok : World → (Nat → Prop) → List Value → α → Prop
 pos : 0 < size
 len : ∀ {w S cs a}, ok w S cs a → cs.length = size
 keep : ∀ {w w' S cs a}, ok w S cs a → Kept S w w' → ok w' S cs a
 more : ∀ {w S cs a} {S' : Nat → Prop}, ok w S cs a → (∀ b, S b → S' b) → ok w S' cs a
 fit : ∀ {w S cs a}, ok w S cs a → ok w (fun b => S b ∧ b < w.heap.size) cs a
 one : ∀ {w S cs a}, ok w S cs a → ∀ u ∈ cs, u.oneCell' = true
def Rep.int : Rep Int where
 size := 1
 ok := fun _ _ cs a => cs = [.int .i64 a]
 pos := by decide
 len := by rintro _ _ _ _ rfl; rfl
 keep := fun h _ => h
 more := fun h _ => h
 fit := fun h => h
 one := by rintro _ _ _ _ rfl u hu; obtain rfl := List.mem_singleton.1 hu; rfl
def Rep.bool : Rep Bool where
 size := 1
 ok := fun _ _ cs a => cs = [.bool a]
 pos := by decide
 len := by rintro _ _ _ _ rfl; rfl
 keep := fun h _ => h
 more := fun h _ => h
 fit := fun h => h
 one := by rintro _ _ _ _ rfl u hu; obtain rfl := List.mem_singleton.1 hu; rfl
def Cells {α : Type} (R : Rep α) (w : World) (S : Nat → Prop) : List Value → List α → Prop
 | xs, [] => xs = []
 | xs, a :: l => ∃ cs rest, xs = cs ++ rest ∧ R.ok w S cs a ∧ Cells R w S rest l
section
variable {α : Type} {R : Rep α} {w w' : World} {S S' : Nat → Prop}
theorem Cells.nil : Cells R w S [] [] := rfl
theorem Cells.len : ∀ {l : List α} {xs : List Value}, Cells R w S xs l → xs.length = l.length * R.size
 | [], _, h => by rw [show _ = [] from h]; simp
 | a :: l, _, h => by
  obtain ⟨cs, rest, rfl, h1, h2⟩ := h
  rw [List.length_append, R.len h1, Cells.len h2, List.length_cons, Nat.add_mul]; omega
theorem Cells.keep (hk : Kept S w w') : ∀ {l : List α} {xs : List Value}, Cells R w S xs l → Cells R w' S xs l
 | [], _, h => h
 | a :: l, _, h => by
  obtain ⟨cs, rest, rfl, h1, h2⟩ := h
  exact ⟨cs, rest, rfl, R.keep h1 hk, Cells.keep hk h2⟩
theorem Cells.more (hS : ∀ b, S b → S' b) : ∀ {l : List α} {xs : List Value}, Cells R w S xs l → Cells R w S' xs l
 | [], _, h => h
 | a :: l, _, h => by
  obtain ⟨cs, rest, rfl, h1, h2⟩ := h
  exact ⟨cs, rest, rfl, R.more h1 hS, Cells.more hS h2⟩
theorem Cells.fit : ∀ {l : List α} {xs : List Value}, Cells R w S xs l → Cells R w (fun b => S b ∧ b < w.heap.size) xs l
 | [], _, h => h
 | a :: l, _, h => by
  obtain ⟨cs, rest, rfl, h1, h2⟩ := h
  exact ⟨cs, rest, rfl, R.fit h1, Cells.fit h2⟩
theorem Cells.one : ∀ {l : List α} {xs : List Value}, Cells R w S xs l → ∀ u ∈ xs, u.oneCell' = true
 | [], _, h => by rw [show _ = [] from h]; intro u hu; cases hu
 | a :: l, _, h => by
  obtain ⟨cs, rest, rfl, h1, h2⟩ := h
  intro u hu
  rcases List.mem_append.1 hu with h | h
  ·
   exact R.one h1 u h
  ·
   exact Cells.one h2 u h
theorem Cells.append : ∀ {l m : List α} {xs ys : List Value}, Cells R w S xs l → Cells R w S ys m → Cells R w S (xs ++ ys) (l ++ m)
 | [], _, _, _, h, h' => by rw [show _ = [] from h]; exact h'
 | a :: l, m, _, ys, h, h' => by
  obtain ⟨cs, rest, rfl, h1, h2⟩ := h
  exact ⟨cs, rest ++ ys, by rw [List.append_assoc], h1, Cells.append h2 h'⟩
theorem Cells.single {cs : List Value} {a : α} (h : R.ok w S cs a) : Cells R w S cs [a] := ⟨cs, [], by simp, h, rfl⟩
theorem Cells.drop : ∀ {k : Nat} {l : List α} {xs : List Value}, Cells R w S xs l → Cells R w S (xs.drop (k * R.size)) (l.drop k)
 | 0, l, xs, h => by simpa using h
 | k + 1, [], xs, h => by rw [show xs = [] from h]; simp; exact Cells.nil
 | k + 1, a :: l, xs, h => by
  obtain ⟨cs, rest, rfl, h1, h2⟩ := h
  rw [List.drop_succ_cons, show (k + 1) * R.size = cs.length + k * R.size by rw [R.len h1, Nat.add_mul]; omega, ← List.drop_drop, List.drop_left]
  exact Cells.drop h2
theorem Cells.take : ∀ {k : Nat} {l : List α} {xs : List Value}, Cells R w S xs l → Cells R w S (xs.take (k * R.size)) (l.take k)
 | 0, l, xs, h => by simp; exact Cells.nil
 | k + 1, [], xs, h => by rw [show xs = [] from h]; simp; exact Cells.nil
 | k + 1, a :: l, xs, h => by
  obtain ⟨cs, rest, rfl, h1, h2⟩ := h
  rw [List.take_succ_cons, show (k + 1) * R.size = cs.length + k * R.size by rw [R.len h1, Nat.add_mul]; omega, List.take_append, List.take_of_length_le (by omega), Nat.add_sub_cancel_left]
  exact ⟨cs, _, rfl, h1, Cells.take h2⟩
theorem Cells.get {l : List α} {xs : List Value} (h : Cells R w S xs l) {k : Nat} (hk : k < l.length) : R.ok w S ((xs.drop (k * R.size)).take R.size) l[k] := by
 have h1 := h.drop (k := k)
 rw [List.drop_eq_getElem_cons hk] at h1
 obtain ⟨cs, rest, e, h2, _⟩ := h1
 rw [e, ← R.len h2, List.take_left]
 exact h2
theorem Cells.get1 {l : List α} {xs : List Value} (h : Cells R w S xs l) (h1 : R.size = 1) {k : Nat} (hk : k < l.length) : ∃ u, xs[k]? = some u ∧ R.ok w S [u] l[k] := by
 have h2 := h.get hk
 have hl := h.len
 rw [h1] at h2 hl
 have hx : k < xs.length := by omega
 refine ⟨xs[k], List.getElem?_eq_getElem hx, ?_⟩
 rw [Nat.mul_one, List.drop_eq_getElem_cons hx] at h2
 exact h2
end
def Sl {α : Type} (R : Rep α) (w : World) (S : Nat → Prop) (A : Option Addr) (n c : Nat) (l : List α) : Prop :=
 ∃ xs, n = l.length ∧ n ≤ c ∧ Rd w S R.size A n xs ∧ Cells R w S xs l
section
variable {α : Type} {R : Rep α} {w w' : World} {S S' : Nat → Prop} {n c : Nat} {A : Option Addr} {l : List α}
theorem Sl.len (h : Sl R w S A n c l) : n = l.length := h.choose_spec.1
theorem Sl.cap (h : Sl R w S A n c l) : n ≤ c := h.choose_spec.2.1
theorem Sl.nil (w : World) (S : Nat → Prop) (A : Option Addr) (c : Nat) : Sl R w S A 0 c [] := ⟨[], rfl, Nat.zero_le _, Rd.nil, Cells.nil⟩
theorem Sl.keep (h : Sl R w S A n c l) (hk : Kept S w w') : Sl R w' S A n c l := by
 obtain ⟨xs, h1, h2, h3, h4⟩ := h
 exact ⟨xs, h1, h2, h3.keep hk, h4.keep hk⟩
theorem Sl.more (h : Sl R w S A n c l) (hS : ∀ b, S b → S' b) : Sl R w S' A n c l := by
 obtain ⟨xs, h1, h2, h3, h4⟩ := h
 exact ⟨xs, h1, h2, h3.more hS, h4.more hS⟩
theorem Sl.fit (h : Sl R w S A n c l) : Sl R w (fun b => S b ∧ b < w.heap.size) A n c l := by
 obtain ⟨xs, h1, h2, h3, h4⟩ := h
 exact ⟨xs, h1, h2, h3.fit R.pos, h4.fit⟩
theorem Sl.below (h : Sl R w S A n c l) (hb : Below w.heap.size w w') : Sl R w' S A n c l := h.keep (.below hb)
theorem Sl.alloc (h : Sl R w S A n c l) (o : Obj) : Sl R (w.alloc o) S A n c l := h.keep (.alloc _ _ _)
theorem Sl.drew (h : Sl R w S A n c l) : Sl R w.drew S A n c l := h.keep (.drew _ _)
theorem Sl.take (h : Sl R w S A n c l) (k : Nat) (hk : k ≤ n) : Sl R w S A k c (l.take k) := by
 obtain ⟨xs, h1, h2, h3, h4⟩ := h
 exact ⟨_, by rw [List.length_take]; omega, by omega, h3.cuth k hk, h4.take⟩
theorem Sl.at_ (h : Sl R w S A n c l) (h1 : R.size = 1) {k : Nat} (hk : k < n) : ∃ (b off : Nat) (u : Value) (a : α), A = some ⟨b, off, none⟩ ∧ S b ∧ l[k]? = some a ∧ R.ok w S [u] a ∧ w.cell? ⟨b, off + k, none⟩ = some u := by
 obtain ⟨xs, e1, e2, h3, h4⟩ := h
 subst e1
 obtain ⟨u, hu, hok⟩ := h4.get1 h1 hk
 rw [h1] at h3
 obtain ⟨b, off, u', e, hb, hx, hc⟩ := h3.at_ hk
 rw [hu] at hx
 injection hx with hx
 subst hx
 exact ⟨b, off, u, l[k], e, hb, List.getElem?_eq_getElem hk, hok, hc⟩
end
def Rep.slice {α : Type} (R : Rep α) : Rep (List α) where
 size := 1
 ok := fun w S cs l => ∃ A n c, cs = [.slice A n c] ∧ Sl R w S A n c l
 pos := by decide
 len := by rintro _ _ _ _ ⟨A, n, c, rfl, _⟩; rfl
 keep := by rintro _ _ _ _ _ ⟨A, n, c, rfl, h⟩ hk; exact ⟨A, n, c, rfl, h.keep hk⟩
 more := by rintro _ _ _ _ _ ⟨A, n, c, rfl, h⟩ hB; exact ⟨A, n, c, rfl, h.more hB⟩
 fit := by rintro _ _ _ _ ⟨A, n, c, rfl, h⟩; exact ⟨A, n, c, rfl, h.fit⟩
 one := by rintro _ _ _ _ ⟨A, n, c, rfl, _⟩ u hu; obtain rfl := List.mem_singleton.1 hu; rfl
theorem Cells.ints {w : World} {S : Nat → Prop} : ∀ {l : List Int} {xs : List Value}, Cells Rep.int w S xs l ↔ xs = l.map (Value.int .i64)
 | [], xs => Iff.rfl
 | a :: l, xs => by
  constructor
  ·
   rintro ⟨cs, rest, rfl, h1, h2⟩
   rw [show cs = [.int .i64 a] from h1, Cells.ints.1 h2]; rfl
  ·
   rintro rfl
   exact ⟨[.int .i64 a], l.map (Value.int .i64), rfl, rfl, Cells.ints.2 rfl⟩
section
variable {w : World} {S : Nat → Prop} {n c : Nat} {A : Option Addr}
theorem Sl.ints {l : List Int} (h : Sl Rep.int w S A n c l) : Rd w S 1 A n (l.map (Value.int .i64)) := by
 obtain ⟨xs, _, _, h3, h4⟩ := h
 rw [Cells.ints.1 h4] at h3
 exact h3
theorem Rd.slInts {l : List Int} (h : Rd w S 1 A n (l.map (Value.int .i64))) (hc : n ≤ c) : Sl Rep.int w S A n c l :=
 ⟨_, by have := h.1; simpa using this.symm, hc, h, Cells.ints.2 rfl⟩
end
def Off (S : Nat → Prop) (base : Nat) (v : Value) : Nat → Prop := fun b => (S b ∨ base ≤ b) ∧ rowOf v ≠ some b
def OwnL {α : Type} (R : Rep α) (w : World) (S : Nat → Prop) (base : Nat) (E : TypeId) (v : Value) (l : List α) : Prop :=
 ∃ xs, Own w base E R.size v l.length xs ∧ Cells R w (Off S base v) xs l
section
variable {α : Type} {R : Rep α} {w w' : World} {S : Nat → Prop} {base : Nat} {E : TypeId} {v : Value} {l : List α}
theorem OwnL.nil (w : World) (S : Nat → Prop) (base : Nat) (E : TypeId) (A : Option Addr) : OwnL R w S base E (.slice A 0 0) [] := ⟨[], Own.nil _ _ _ _ _, Cells.nil⟩
theorem OwnL.form (h : OwnL R w S base E v l) : ∃ A c, v = .slice A l.length c ∧ l.length ≤ c ∧ c ≤ maxLen := h.choose_spec.1.form
theorem OwnL.row (h : OwnL R w S base E v l) {g : Nat} (hg : rowOf v = some g) : base ≤ g ∧ g < w.heap.size := h.choose_spec.1.row hg
theorem OwnL.sl {A : Option Addr} {n c : Nat} (h : OwnL R w S base E (.slice A n c) l) : Sl R w (fun b => S b ∨ base ≤ b) A n c l := by
 obtain ⟨xs, h1, h2⟩ := h
 obtain ⟨A', c', e, hc, _⟩ := h1.form
 injection e with e1 e2 e3
 subst e1
 subst e2
 subst e3
 exact ⟨xs, rfl, hc, h1.rd.more fun b hb => .inr hb, h2.more fun b hb => hb.1⟩
theorem OwnL.below (h : OwnL R w S base E v l) (hb : Below w.heap.size w w') : OwnL R w' S base E v l := by
 obtain ⟨xs, h1, h2⟩ := h
 exact ⟨xs, h1.below hb (Nat.le_refl _), h2.keep (.below hb)⟩
theorem OwnL.alloc (h : OwnL R w S base E v l) (o : Obj) : OwnL R (w.alloc o) S base E v l := by
 obtain ⟨xs, h1, h2⟩ := h
 exact ⟨xs, h1.alloc o, h2.keep (.alloc _ _ _)⟩
theorem OwnL.drew (h : OwnL R w S base E v l) : OwnL R w.drew S base E v l := by
 obtain ⟨xs, h1, h2⟩ := h
 exact ⟨xs, h1.drew, h2.keep (.drew _ _)⟩
end
theorem run_append_OwnL {α : Type} {R : Rep α} {P : Program} {T E s bytes : Nat} {z : Value} (hT : SlType P T E s bytes z) (hs : R.size = s) (w : World) (ty base : Nat) (S : Nat → Prop) (v : Value) (l : List α)
    (hown : OwnL R w S base E v l) (S1 : Nat → Prop) (A : Option Addr) (m c : Nat) (l' : List α) (ys : List Value) (hr : Rd w S1 s A m ys) (hcells : Cells R w (Off S base v) ys l') (hm : m = l'.length)
    (h63 : l.length + m ≤ maxLen) (hbytes : (l.length + m) * bytes ≤ 140737488355328) (hbase : base ≤ w.heap.size) :
    ∃ v' w', (Builtin.append_ #[T, T] ty #[v, .slice A m c]).run P w = .ok v' w' ∧ OwnL R w' S base E v' (l ++ l') ∧ w.grownBy w' (rowOf v) ∧ Below base w w' := by
 subst hs
 subst hm
 obtain ⟨xs, ho, hc⟩ := hown
 obtain ⟨v', w', hrun, ho', hg, hrow⟩ := run_append_Own hT w ty base v l.length xs ho S1 A l'.length c ys hr hcells.one h63 hbytes hbase
 have hb : Below base w w' := Below.own (Below.refl _ _) ho hg (Nat.le_refl _) hbase
 refine ⟨v', w', hrun, ⟨xs ++ ys, by simpa using ho', ?_⟩, hg, hb⟩
 have h1 := (hc.append hcells).fit
 have h2 := h1.keep (w' := w') (Kept.grown hg fun b hb => hb.1.2)
 refine h2.more fun b hb => ⟨hb.1.1, ?_⟩
 rcases hrow with h | h
 ·
  rw [h]; exact hb.1.2
 ·
  rw [h]
  intro e
  injection e with e
  have := hb.2
  omega
theorem SlType.make {P : Program} {T E bytes : Nat} {z : Value} (hT : SlType P T E 1 bytes z) (hz : z.cells = #[z]) (n : Nat) (hb : bytes * n ≤ 281474976710656) (h63 : n ≤ 9223372036854775807) (w : World) :
    (Instr.makeSlice T (.int .i64 n) (.int .i64 n)).run P w = .ok (.slice (some ⟨w.heap.size, 0, none⟩) n n) (w.alloc (.cells (madeCells #[z] n) E)) := by
 obtain ⟨i, hi, hz0, hz1, hz2⟩ := info_parts hT.info
 have h := run_make (P := P) w T E i z hT.under hi hz0 .i64 .i64 n n (by omega) (by omega) (by
  rw [hz2]
  have : ((bytes * n : Nat) : Int) ≤ 281474976710656 := by omega
  rwa [Int.natCast_mul] at this) (by omega)
 rw [hz1, hz, Nat.mul_one, Int.toNat_natCast] at h
 exact h
theorem run_append_lit {α : Type} {R : Rep α} {P : Program} {T E s bytes : Nat} {z : Value} (hT : SlType P T E s bytes z) (hs : R.size = s) (w : World) (ty base : Nat) (S : Nat → Prop) (v : Value) (l : List α)
    (hown : OwnL R w S base E v l) (m : Nat) (l' : List α) (ys : List Value) (hcells : Cells R w (Off S base v) ys l') (hm : m = l'.length)
    (h63 : l.length + m ≤ maxLen) (hbytes : (l.length + m) * bytes ≤ 140737488355328) (hbase : base ≤ w.heap.size) :
    ∃ v' w', (Builtin.append_ #[T, T] ty #[v, .slice (some ⟨w.heap.size, 0, none⟩) m m]).run P (w.alloc (.cells ys.toArray E)) = .ok v' w' ∧ OwnL R w' S base E v' (l ++ l') ∧ (w.alloc (.cells ys.toArray E)).grownBy w' (rowOf v) ∧ Below base w w' := by
 have hr : Rd (w.alloc (.cells ys.toArray E)) (fun _ => True) s (some ⟨w.heap.size, 0, none⟩) m ys := by
  refine ⟨by rw [hcells.len, hm, hs], fun _ => ⟨w.heap.size, 0, rfl, trivial, fun j v hv => ?_⟩⟩
  rw [World.cell?_alloc_at _ _ _ _ rfl]
  simpa using hv
 obtain ⟨v', w', hrun, ho, hg, hb⟩ := run_append_OwnL hT hs (w.alloc (.cells ys.toArray E)) ty base S v l (hown.alloc _) _ _ m m l' ys hr (hcells.keep (.alloc _ _ _)) hm h63 hbytes (by simp; omega)
 exact ⟨v', w', hrun, ho, hg, ((Below.refl _ _).alloc hbase _).trans hb⟩
end Go.Proofs.Ytbmcoamdfpegnaa
namespace Go.Proofs.Ytbmcoamdfpegnaa
open Go.RowKit
def Rep.prod {α β : Type} (R : Rep α) (Q : Rep β) : Rep (α × β) where
 size := R.size + Q.size
 ok := fun w S cs p => ∃ c1 c2, cs = c1 ++ c2 ∧ R.ok w S c1 p.1 ∧ Q.ok w S c2 p.2
 pos := by have := R.pos; omega
 len := by rintro _ _ _ _ ⟨c1, c2, rfl, h1, h2⟩; rw [List.length_append, R.len h1, Q.len h2]
 keep := by rintro _ _ _ _ _ ⟨c1, c2, rfl, h1, h2⟩ hk; exact ⟨c1, c2, rfl, R.keep h1 hk, Q.keep h2 hk⟩
 more := by rintro _ _ _ _ _ ⟨c1, c2, rfl, h1, h2⟩ hS; exact ⟨c1, c2, rfl, R.more h1 hS, Q.more h2 hS⟩
 fit := by rintro _ _ _ _ ⟨c1, c2, rfl, h1, h2⟩; exact ⟨c1, c2, rfl, R.fit h1, Q.fit h2⟩
 one := by
  rintro _ _ _ _ ⟨c1, c2, rfl, h1, h2⟩ u hu
  rcases List.mem_append.1 hu with h | h
  ·
   exact R.one h1 u h
  ·
   exact Q.one h2 u h
abbrev SymD := Bool × Int
abbrev RuleD := Int × List SymD
abbrev GramD := Int × Int × Int × List RuleD
abbrev DfaD := Int × List Int × List (List Int)
abbrev RSym : Rep SymD := Rep.prod Rep.bool Rep.int
abbrev RRule : Rep RuleD := Rep.prod Rep.int (Rep.slice RSym)
section
variable {w : World} {S : Nat → Prop} {cs : List Value}
theorem RSym.cells {s : SymD} : RSym.ok w S cs s ↔ cs = [.bool s.1, .int .i64 s.2] := by
 constructor
 ·
  rintro ⟨c1, c2, rfl, h1, h2⟩
  rw [show c1 = _ from h1, show c2 = _ from h2]; rfl
 ·
  rintro rfl
  exact ⟨[_], [_], rfl, rfl, rfl⟩
theorem RRule.cells {r : RuleD} : RRule.ok w S cs r ↔ ∃ A n c, cs = [.int .i64 r.1, .slice A n c] ∧ Sl RSym w S A n c r.2 := by
 constructor
 ·
  rintro ⟨c1, c2, rfl, h1, A, n, c, rfl, h2⟩
  rw [show c1 = _ from h1]
  exact ⟨A, n, c, rfl, h2⟩
 ·
  rintro ⟨A, n, c, rfl, h⟩
  exact ⟨[_], [_], rfl, rfl, A, n, c, rfl, h⟩
end
theorem Sl.at2 {α : Type} {R : Rep α} {w : World} {S : Nat → Prop} {A : Option Addr} {n c : Nat} {l : List α} (h : Sl R w S A n c l) (h2 : R.size = 2) {k : Nat} (hk : k < n) :
    ∃ (b off : Nat) (u v : Value) (a : α), A = some ⟨b, off, none⟩ ∧ S b ∧ l[k]? = some a ∧ R.ok w S [u, v] a ∧ w.cell? ⟨b, off + k * 2, none⟩ = some u ∧ w.cell? ⟨b, off + (k * 2 + 1), none⟩ = some v := by
 obtain ⟨xs, e1, e2, h3, h4⟩ := h
 subst e1
 have hg := h4.get hk
 have hl := h4.len
 rw [h2] at hg hl h3
 obtain ⟨b, off, e, hS, hc⟩ := h3.2 (by omega)
 have i1 : k * 2 < xs.length := by omega
 have i2 : k * 2 + 1 < xs.length := by omega
 refine ⟨b, off, xs[k * 2], xs[k * 2 + 1], l[k], e, hS, List.getElem?_eq_getElem hk, ?_, hc _ _ (List.getElem?_eq_getElem i1), hc _ _ (List.getElem?_eq_getElem i2)⟩
 rw [List.drop_eq_getElem_cons i1, List.drop_eq_getElem_cons i2] at hg
 exact hg
end Go.Proofs.Ytbmcoamdfpegnaa
namespace Go.Proofs.Ytbmcoamdfpegnaa
inductive Der (R : List RuleD) : List SymD → Nat → Prop
 | nil : Der R [] 0
 | term {x : Int} {l : List SymD} {k : Nat} : Der R l k → Der R ((true, x) :: l) (k + 1)
 | non {A : Int} {r l : List SymD} {i j : Nat} : (A, r) ∈ R → Der R r i → Der R l j → Der R ((false, A) :: l) (i + j)
section
variable {R R' : List RuleD}
end
def hasT (S : Nat → Nat → Bool) (s : SymD) (k : Nat) : Bool := if s.1 then k == 1 else S s.2.toNat k
def canT (S : Nat → Nat → Bool) : List SymD → Nat → Bool
 | [], k => k == 0
 | s :: l, k => (List.range (k + 1)).any fun i => hasT S s i && canT S l (k - i)
def NonOk (N : Nat) (l : List SymD) : Prop := ∀ s ∈ l, s.1 = false → 0 ≤ s.2 ∧ s.2.toNat < N
def RulesN (N : Nat) (R : List RuleD) : Prop := ∀ r ∈ R, (0 ≤ r.1 ∧ r.1.toNat < N) ∧ NonOk N r.2
open Classical in
noncomputable def lenD (R : List RuleD) (a k : Nat) : Bool := decide (Der R [(false, (a : Int))] k)
end Go.Proofs.Ytbmcoamdfpegnaa
namespace Go.Proofs.Ytbmcoamdfpegnaa
def Edge (R : List RuleD) (x y : Nat × Nat) : Prop :=
 ∃ r ∈ R, r.1 = (x.1 : Int) ∧ ∃ a b, r.2 = a ++ (false, (y.1 : Int)) :: b ∧ ∃ p q, p + y.2 + q = x.2 ∧ Der R a p ∧ Der R b q ∧ Der R [(false, (y.1 : Int))] y.2
def war (e : Nat → Nat → Bool) : Nat → Nat → Nat → Bool
 | 0 => e
 | k + 1 => fun i j => war e k i j || (war e k i k && war e k k j)
theorem war_trans {e : Nat → Nat → Bool} : ∀ {k m i j : Nat}, m < k → war e k i m = true → war e k m j = true → war e k i j = true
 | 0, _, _, _, h, _, _ => by omega
 | k + 1, m, i, j, hm, h1, h2 => by
  simp only [war, Bool.or_eq_true, Bool.and_eq_true] at h1 h2 ⊢
  rcases Nat.lt_succ_iff_lt_or_eq.1 hm with hm | rfl
  ·
   rcases h1 with h1 | ⟨h1, h1'⟩ <;> rcases h2 with h2 | ⟨h2, h2'⟩
   ·
    exact .inl (war_trans hm h1 h2)
   ·
    exact .inr ⟨war_trans hm h1 h2, h2'⟩
   ·
    exact .inr ⟨h1, war_trans hm h1' h2⟩
   ·
    exact .inr ⟨h1, h2'⟩
  ·
   have h1' : war e m i m = true := by rcases h1 with h1 | ⟨h1, _⟩ <;> exact h1
   have h2' : war e m m j = true := by rcases h2 with h2 | ⟨_, h2⟩ <;> exact h2
   exact .inr ⟨h1', h2'⟩
theorem pigeon : ∀ {n : Nat} {l : List Nat}, l.Nodup → (∀ x ∈ l, x < n) → l.length ≤ n
 | 0, [], _, _ => Nat.le_refl _
 | 0, x :: _, _, h => absurd (h x (by simp)) (by omega)
 | n + 1, l, hd, h => by
  have h1 : (l.erase n).length ≤ n := pigeon (hd.erase n) fun x hx => by
   have h2 := h x (List.mem_of_mem_erase hx)
   have h3 : x ≠ n := fun e => by subst e; exact (List.Nodup.not_mem_erase hd) hx
   omega
  have := List.length_erase (a := n) (l := l)
  split at this <;> omega
end Go.Proofs.Ytbmcoamdfpegnaa
namespace Go.Proofs.Ytbmcoamdfpegnaa
abbrev MC : Nat := 1000000000
def ofC (S : Nat → Nat → Bool) (c : Nat → Nat → Nat) (s : SymD) (i : Nat) : Nat := if hasT S s i then (if s.1 then 1 else c s.2.toNat i) else 0
def listC (S : Nat → Nat → Bool) (c : Nat → Nat → Nat) : List SymD → Nat → Nat
 | [], k => if k = 0 then 1 else 0
 | s :: l, k => (List.range (k + 1)).foldl (fun sum i => if hasT S s i && canT S l (k - i) then min (sum + ofC S c s i * listC S c l (k - i)) MC else sum) 0
def ruleC (S : Nat → Nat → Bool) (c : Nat → Nat → Nat) (R : List RuleD) (a : Nat) (k : Nat) : Nat := R.foldl (fun sum r => if r.1 = (a : Int) then min (sum + listC S c r.2 k) MC else sum) 0
section
variable {R : List RuleD} {N : Nat}
open Classical in
noncomputable def cAcc (R : List RuleD) (x : Nat × Nat) (h : Acc (fun y x => Edge R x y) x) : Nat :=
 Acc.rec (motive := fun _ _ => Nat) (fun x _ ih => ruleC (lenD R) (fun b j => if h : Edge R x (b, j) then ih (b, j) h else 0) R x.1 x.2) h
open Classical in
noncomputable def cN (R : List RuleD) (a k : Nat) : Nat := if h : Acc (fun y x => Edge R x y) (a, k) then cAcc R (a, k) h else 0
end
end Go.Proofs.Ytbmcoamdfpegnaa
