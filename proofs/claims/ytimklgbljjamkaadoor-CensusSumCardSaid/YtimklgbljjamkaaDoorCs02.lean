/- App -/
import Derived.Lib.AppendZerosOnto
import Derived.Test.YtimklgbljjamkaaDoorCs01
namespace Go.Proofs.YtimklgbljjamkaaDoor
open Go.RowKit
def Own (w : World) (base : Nat) (e : TypeId) (size : Nat) (v : Value) (n : Nat) (xs : List Value) : Prop :=
 w.ownsRow base e size v n xs ∨ ∃ A, v = .slice A 0 0 ∧ n = 0 ∧ xs = []
def rowOf : Value → Option Nat
 | .slice (some a) _ (_ + 1) => some a.block
 | _ => none
section
variable {w w' : World} {base base' : Nat} {e : TypeId} {size n c : Nat} {v : Value} {xs : List Value} {A : Option Addr}
theorem Own.nil (w : World) (base : Nat) (e : TypeId) (size : Nat) (A : Option Addr) : Own w base e size (.slice A 0 0) 0 [] := .inr ⟨A, rfl, rfl, rfl⟩
theorem Own.len (h : Own w base e size v n xs) : xs.length = n * size := by
 rcases h with h | ⟨A, _, rfl, rfl⟩
 ·
  exact h.1
 ·
  simp
theorem Own.form (h : Own w base e size v n xs) : ∃ A c, v = .slice A n c ∧ n ≤ c ∧ c ≤ maxLen := by
 rcases h with h | ⟨A, rfl, rfl, rfl⟩
 ·
  rcases h.2 with ⟨rfl, rfl⟩ | ⟨g, cap, cur, rfl, _, _, hc, hm, _⟩
  ·
   exact ⟨none, 0, rfl, Nat.le_refl _, Nat.zero_le _⟩
  ·
   exact ⟨_, cap, rfl, hc, hm⟩
 ·
  exact ⟨A, 0, rfl, Nat.le_refl _, Nat.zero_le _⟩
theorem Own.row (h : Own w base e size v n xs) {g : Nat} (hg : rowOf v = some g) : base ≤ g ∧ g < w.heap.size := by
 rcases h with h | ⟨A, rfl, rfl, rfl⟩
 ·
  rcases h.2 with ⟨rfl, rfl⟩ | ⟨g', cap, cur, rfl, hb, hh, _⟩
  ·
   cases hg
  ·
   cases cap with
   | zero => cases hg
   | succ k =>
    have : g' = g := by simpa [rowOf] using hg
    subst this
    refine ⟨hb, ?_⟩
    rcases Nat.lt_or_ge g' w.heap.size with hlt | hge
    ·
     exact hlt
    ·
     rw [Array.getElem?_eq_none hge] at hh; cases hh
 ·
  cases A <;> cases hg
theorem Own.kept {row : Option Nat} (h : Own w base e size v n xs) (hg : w.grownBy w' row) (hne : ∀ g, row = some g → rowOf v ≠ some g) : Own w' base e size v n xs := by
 rcases h with h | h
 ·
  rcases h.2 with ⟨h1, h2⟩ | ⟨g, cap, cur, rfl, hb, hh, hnc, hr⟩
  ·
   exact .inl ⟨h.1, .inl ⟨h1, h2⟩⟩
  ·
   cases cap with
   | zero =>
    obtain rfl : n = 0 := by omega
    exact .inr ⟨_, rfl, rfl, List.eq_nil_of_length_eq_zero (by rw [h.1, Nat.zero_mul])⟩
   | succ k =>
    refine .inl ⟨h.1, .inr ⟨g, k + 1, cur, rfl, hb, ?_, hnc, hr⟩⟩
    rw [hg.block g ?_ ?_]
    ·
     exact hh
    ·
     rcases Nat.lt_or_ge g w.heap.size with hlt | hge
     ·
      exact hlt
     ·
      rw [Array.getElem?_eq_none hge] at hh; cases hh
    ·
     intro e
     exact hne g e.symm rfl
 ·
  exact .inr h
theorem Own.below {B : Nat} (h : Own w base e size v n xs) (hb : Below B w w') (hB : w.heap.size ≤ B) : Own w' base e size v n xs := by
 rcases h with h | h
 ·
  left
  refine ⟨h.1, ?_⟩
  rcases h.2 with h2 | ⟨g, cap, cur, rfl, hbg, hh, hr⟩
  ·
   exact .inl h2
  ·
   refine .inr ⟨g, cap, cur, rfl, hbg, ?_, hr⟩
   rw [hb.block g ?_]
   ·
    exact hh
   ·
    rcases Nat.lt_or_ge g w.heap.size with hlt | hge
    ·
     omega
    ·
     rw [Array.getElem?_eq_none hge] at hh; cases hh
 ·
  exact .inr h
theorem Own.alloc (h : Own w base e size v n xs) (o : Obj) : Own (w.alloc o) base e size v n xs := by
 rcases h with h | h
 ·
  exact .inl (h.alloc o)
 ·
  exact .inr h
theorem Own.drew (h : Own w base e size v n xs) : Own w.drew base e size v n xs := h
theorem Own.mono (h : Own w base e size v n xs) (hb : base' ≤ base) : Own w base' e size v n xs := by
 rcases h with h | h
 ·
  refine .inl ⟨h.1, ?_⟩
  rcases h.2 with h2 | ⟨g, cap, cur, rfl, hbg, hr⟩
  ·
   exact .inl h2
  ·
   exact .inr ⟨g, cap, cur, rfl, by omega, hr⟩
 ·
  exact .inr h
theorem Own.rd (h : Own w base e size (.slice A n c) n xs) : Rd w (fun b => base ≤ b) size A n xs := by
 rcases h with h | ⟨A', h, rfl, rfl⟩
 ·
  exact Rd.of_own h
 ·
  exact Rd.nil
end
theorem Own.addr {w : World} {base n c : Nat} {E : TypeId} {A : Option Addr} {xs : List Value} (h : Own w base E 1 (.slice A n c) n xs) (h0 : 0 < n) : ∃ g, A = some ⟨g, 0, none⟩ ∧ base ≤ g ∧ w.ownsRow base E 1 (.slice (some ⟨g, 0, none⟩) n c) n xs := by
 rcases h with h | ⟨A', _, rfl, _⟩
 ·
  obtain ⟨g, cap, e, hb, _⟩ := h.form h0
  injection e with e1 e2 e3
  subst e1
  exact ⟨g, rfl, hb, h⟩
 ·
  omega
section
variable {P : Program} {T E s bytes : Nat} {z : Value}
theorem grownBy_none_alloc (w : World) (o : Obj) (row : Option Nat) : w.grownBy (w.drew.alloc o) row :=
 ⟨rfl, rfl, rfl, by simp, fun k hk _ => Below.heap_alloc w.drew o k hk⟩
theorem run_append_fresh (hT : SlType P T E s bytes z) (w : World) (ty base : Nat) (A0 : Option Addr) (S : Nat → Prop) (A : Option Addr) (m c : Nat) (news : List Value) (hr : Rd w S s A m news)
    (h63 : m ≤ maxLen) (hbytes : m * bytes ≤ 281474976710656) (hbase : base ≤ w.heap.size) :
    ∃ v' w', (Builtin.append_ #[T, T] ty #[.slice A0 0 0, .slice A m c]).run P w = .ok v' w' ∧ Own w' base E s v' m news ∧ w.grownBy w' none ∧
     (rowOf v' = none ∨ rowOf v' = some w.heap.size) := by
 obtain ⟨i, hi, hz0, hz1, hz2⟩ := info_parts hT.info
 subst hz1
 subst hz2
 rcases Nat.eq_zero_or_pos m with hm | hm
 ·
  subst hm
  have hn : news = [] := List.eq_nil_of_length_eq_zero (by simpa using hr.1)
  subst hn
  refine ⟨.slice A0 0 0, w, ?_, Own.nil _ _ _ _ _, World.grownBy.refl w _, .inl (by cases A0 <;> rfl)⟩
  cases A <;> cases A0 <;> simp [Builtin.append_, run_underlying hT.under, Go.sizeOf, typeInfo, hi, Builtin.lenOf, Builtin.firstCells, storeCells, loadCells, loadCellsFrom]
 ·
  obtain ⟨b, off, rfl, hb, hc⟩ := hr.2 hm
  have hcells : ∀ j u, news[j]? = some u → w.cell? ((⟨b, off, none⟩ : Addr).add j) = some u := by
   intro j u hu
   have := hc j u hu
   by_cases hj : j = 0
   ·
    subst hj; exact this
   ·
    simpa [Addr.add, hj] using this
  have h63' : ((0 + m : Nat) : Int) ≤ 9223372036854775807 := by unfold maxLen at h63; omega
  have hge := grownCap_ge w m 0 E
  have hcm := grownCap_le_maxLen w m 0 E h63
  have hlen := hr.1
  refine ⟨.slice (some ⟨w.heap.size, 0, none⟩) m (grownCap w m 0 E), w.drew.alloc (.cells (news.toArray ++ Builtin.zeroCells z.cells (grownCap w m 0 E - m)) E), ?_, ?_, grownBy_none_alloc w _ _, ?_⟩
  ·
   cases A0 with
   | none => exact run_append_nil w T ty E i z hT.under hi hz0 _ m c news hlen hcells hm (by omega) hbytes
   | some a0 =>
    have := run_append_grow (P := P) w T ty E i z hT.under hi hz0 a0 0 0 [] (by simp) (by simp) ⟨b, off, none⟩ m c news hlen hcells (by omega) h63' (by rw [Nat.zero_add, nextslicecap_zero hm]; exact hbytes)
    simpa using this
  ·
   refine .inl ⟨hlen, .inr ⟨w.heap.size, _, _, rfl, hbase, heap_alloc_new w.drew _, hge, hcm, ?_, ?_⟩⟩
   ·
    simp only [Array.size_append, List.size_toArray, size_zeroCells, hT.zero, hlen, ← Nat.add_mul]
    congr 1
    omega
   ·
    simp only [Array.toList_append, ← hlen]
    exact List.take_left
  ·
   right
   cases hg : grownCap w m 0 E with
   | zero => omega
   | succ k => rfl
theorem run_append_roomy (hT : SlType P T E s bytes z) (w : World) (ty base g n cap : Nat) (xs : List Value) (hown : w.ownsRow base E s (.slice (some ⟨g, 0, none⟩) n cap) n xs)
    (S : Nat → Prop) (A : Option Addr) (m c : Nat) (news : List Value) (hr : Rd w S s A m news) (h1 : ∀ u ∈ news, u.oneCell' = true) (hroom : n + m ≤ cap) :
    ∃ w', (Builtin.append_ #[T, T] ty #[.slice (some ⟨g, 0, none⟩) n cap, .slice A m c]).run P w = .ok (.slice (some ⟨g, 0, none⟩) (n + m) cap) w' ∧
     w'.ownsRow base E s (.slice (some ⟨g, 0, none⟩) (n + m) cap) (n + m) (xs ++ news) ∧ w.grownBy w' (some g) := by
 obtain ⟨i, hi, hz0, hz1, hz2⟩ := info_parts hT.info
 cases A with
 | none =>
  have hm : m = 0 := by
   rcases Nat.eq_zero_or_pos m with h0 | h0
   ·
    exact h0
   ·
    obtain ⟨b, off, h, _⟩ := hr.2 h0
    cases h
  subst hm
  have hn : news = [] := List.eq_nil_of_length_eq_zero (by simpa using hr.1)
  subst hn
  refine ⟨w, ?_, by simpa using hown, World.grownBy.refl w _⟩
  simp [Builtin.append_, run_underlying hT.under, Go.sizeOf, typeInfo, hi, Builtin.lenOf, Builtin.firstCells, storeCells, show n ≤ cap by omega]
 | some a =>
  refine run_append_fits (P := P) w base T ty E i s hT.under hi hz1 g n cap xs hown a m c news hr.1 ?_ h1 hroom
  intro j u hu
  rcases Nat.eq_zero_or_pos m with h0 | h0
  ·
   subst h0
   have hn : news = [] := List.eq_nil_of_length_eq_zero (by simpa using hr.1)
   subst hn
   simp at hu
  ·
   obtain ⟨b, off, h, _, hc⟩ := hr.2 h0
   injection h with h
   subst h
   have := hc j u hu
   by_cases hj : j = 0
   ·
    subst hj; exact this
   ·
    simpa [Addr.add, hj] using this
theorem run_append_Own (hT : SlType P T E s bytes z) (w : World) (ty base : Nat) (v : Value) (n : Nat) (xs : List Value) (hown : Own w base E s v n xs)
    (S : Nat → Prop) (A : Option Addr) (m c : Nat) (news : List Value) (hr : Rd w S s A m news) (h1 : ∀ u ∈ news, u.oneCell' = true)
    (h63 : n + m ≤ maxLen) (hbytes : (n + m) * bytes ≤ 140737488355328) (hbase : base ≤ w.heap.size) :
    ∃ v' w', (Builtin.append_ #[T, T] ty #[v, .slice A m c]).run P w = .ok v' w' ∧ Own w' base E s v' (n + m) (xs ++ news) ∧ w.grownBy w' (rowOf v) ∧
     (rowOf v' = rowOf v ∨ rowOf v' = some w.heap.size) := by
 have hfresh : ∀ A0, v = .slice A0 0 0 → n = 0 → xs = [] → ∃ v' w', (Builtin.append_ #[T, T] ty #[v, .slice A m c]).run P w = .ok v' w' ∧ Own w' base E s v' (n + m) (xs ++ news) ∧ w.grownBy w' (rowOf v) ∧
     (rowOf v' = rowOf v ∨ rowOf v' = some w.heap.size) := by
  rintro A0 rfl rfl rfl
  obtain ⟨v', w', hrun, ho, hg, hrow⟩ := run_append_fresh hT w ty base A0 S A m c news hr (by omega) (by simp only [Nat.zero_add] at hbytes; omega) hbase
  refine ⟨v', w', hrun, by simpa using ho, ?_, ?_⟩
  ·
   cases A0 <;> exact hg
  ·
   rcases hrow with h | h
   ·
    left; rw [h]; cases A0 <;> rfl
   ·
    exact .inr h
 rcases hown with hown | ⟨A0, h1, h2, h3⟩
 ·
  rcases hown.2 with ⟨h2, h3⟩ | ⟨g, cap, cur, rfl, hbg, hh, hnc, hcm, hcs, ht⟩
  ·
   have hx : xs = [] := List.eq_nil_of_length_eq_zero (by rw [hown.1, h3, Nat.zero_mul])
   exact hfresh none h2 h3 hx
  ·
   cases cap with
   | zero =>
    obtain rfl : n = 0 := by omega
    have hx : xs = [] := List.eq_nil_of_length_eq_zero (by rw [hown.1, Nat.zero_mul])
    exact hfresh _ rfl rfl hx
   | succ k =>
    obtain ⟨i, hi, hz0, hz1, hz2⟩ := info_parts hT.info
    by_cases hA : A = none
    ·
     have hm : m = 0 := by
      rcases Nat.eq_zero_or_pos m with h0 | h0
      ·
       exact h0
      ·
       obtain ⟨b, off, h, _⟩ := hr.2 h0
       rw [hA] at h
       cases h
     obtain ⟨w', hrun, ho, hg⟩ := run_append_roomy hT w ty base g n (k + 1) xs hown S A m c news hr h1 (by omega)
     exact ⟨_, w', hrun, .inl ho, hg, .inl rfl⟩
    ·
     obtain ⟨a, rfl⟩ := Option.ne_none_iff_exists'.1 hA
     have hcells : ∀ j u, news[j]? = some u → w.cell? (a.add j) = some u := by
      intro j u hu
      rcases Nat.eq_zero_or_pos m with h0 | h0
      ·
       subst h0
       have hn : news = [] := List.eq_nil_of_length_eq_zero (by simpa using hr.1)
       subst hn
       simp at hu
      ·
       obtain ⟨b, off, h, _, hc⟩ := hr.2 h0
       injection h with h
       subst h
       have := hc j u hu
       by_cases hj : j = 0
       ·
        subst hj; exact this
       ·
        simpa [Addr.add, hj] using this
     obtain ⟨v', w', hrun, ho, hg, _, hat⟩ := run_append_own_at (P := P) w base T ty E i z s bytes hT.under hi hz0 hz1 hz2 hT.zero hT.pos _ n xs hown a m c news hr.1 hcells h1 h63 hbytes hbase
     refine ⟨v', w', hrun, .inl ho, hg, ?_⟩
     rcases ho.2 with ⟨rfl, h0⟩ | ⟨g', cap', cur', rfl, _, _, hnc', _⟩
     ·
      rcases hat with h | h <;> cases h
     ·
      cases cap' with
      | zero =>
       exfalso
       have hmn : n = 0 ∧ m = 0 := by omega
       obtain ⟨rfl, rfl⟩ := hmn
       obtain ⟨w2, hrun2, _⟩ := run_append_roomy hT w ty base g 0 (k + 1) xs hown S (some a) 0 c news hr h1 (by omega)
       rw [hrun] at hrun2
       cases hrun2
      | succ k' =>
       rcases hat with h | h
       ·
        left; simpa [rowOf, Value.ownBlock] using h
       ·
        right; simpa [rowOf, Value.ownBlock] using h
 ·
  exact hfresh A0 h1 h2 h3
end
theorem Below.own {B : Nat} {a w w' : World} {base : Nat} {e : TypeId} {size n : Nat} {v : Value} {xs : List Value} (h : Below B a w) (ho : Own w base e size v n xs) (hg : w.grownBy w' (rowOf v)) (hB : B ≤ base) (hs : B ≤ w.heap.size) : Below B a w' :=
 h.grown hg hs fun k hk => by have := ho.row hk; omega
end Go.Proofs.YtimklgbljjamkaaDoor
