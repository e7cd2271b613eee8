/- A machine of package merge in memory: what lies where; find. Rows of numbers that are put behind each other; a machine out of its parts. A queue of pairs of numbers: cut at its head and appended to. -/
import Derived.Test.YtgaahpddlohjoaaMergeP
import Derived.Test.YtgaahpddlohjoaaSlRevI
import Derived.Test.YtgaahpddlohjoaaDfaB
import Derived.Deep.LoopGhost
import Derived.Test.YtgaahpddlohjoaaCloInt
import Derived.Test.YtgaahpddlohjoaaRep2
import Derived.ArgAppend
import Derived.Laws.IdiomCopy
namespace Go.Proofs.Ytgaahpddlohjoaa
open Go.RowKit

/-- a block that begins with these numbers -/
def RowI (w : World) (g : Nat) (l : List Int) : Prop := ∃ cur : Array Value, w.heap[g]? = some (.cells cur 3 (0, 0)) ∧ l.length ≤ cur.size ∧ ∀ (k : Nat) (v : Int), l[k]? = some v → cur[k]? = some (.int .i64 v)
section
variable {w w' : World} {g : Nat} {l : List Int}
theorem RowI.at_ (h : RowI w g l) {k : Nat} {v : Int} (hk : l[k]? = some v) : w.cell? ⟨g, k, none⟩ = some (.int .i64 v) := by
  obtain ⟨cur, h1, _, h2⟩ := h
  rw [cell_of_row _ _ _ _ _ _ h1]
  exact h2 k v hk
theorem RowI.fr (h : RowI w g l) (k : Nat) : w.frozen? ⟨g, k, none⟩ = false := by
  obtain ⟨cur, h1, _⟩ := h
  simp [World.frozen?, h1]
theorem RowI.lt (h : RowI w g l) : g < w.heap.size := by
  obtain ⟨cur, h1, _⟩ := h
  exact (Array.getElem?_eq_some_iff.1 h1).1
theorem RowI.same (h : RowI w g l) (e : w'.heap[g]? = w.heap[g]?) : RowI w' g l := by
  obtain ⟨cur, h1, h2⟩ := h
  exact ⟨cur, e.trans h1, h2⟩
theorem RowI.set (h : RowI w g l) {k : Nat} (hk : k < l.length) (x : Int) : RowI (w.setCell ⟨g, k, none⟩ (.int .i64 x)) g (l.set k x) := by
  obtain ⟨cur, h1, h2, h3⟩ := h
  refine ⟨cur.setIfInBounds k (.int .i64 x), heap_setCell_same w g _ cur 3 _ h1, by simpa using h2, fun i v hi => ?_⟩
  rw [Array.getElem?_setIfInBounds]
  by_cases e : k = i
  · subst e
    rw [List.getElem?_set_self hk] at hi
    injection hi with hi
    subst hi
    rw [if_pos rfl, if_pos (by omega)]
  · rw [List.getElem?_set_ne e] at hi
    rw [if_neg e]
    exact h3 i v hi
end

/-- where a machine's parts lie -/
structure Adr where
  I : Nat
  N : Nat
  M : Nat
  cI : Nat
  cN : Nat
  cM : Nat
  g : Nat → Nat
  c : Nat → Nat
/-- the parts lie in blocks of their own -/
structure Adr.Apart (a : Adr) (Bm n : Nat) : Prop where
  bi : Bm ≠ a.I
  bn : Bm ≠ a.N
  bm : Bm ≠ a.M
  i_n : a.I ≠ a.N
  im : a.I ≠ a.M
  nm : a.N ≠ a.M
  gb : ∀ i, i < n → a.g i ≠ Bm ∧ a.g i ≠ a.I ∧ a.g i ≠ a.N ∧ a.g i ≠ a.M
  gg : ∀ i j, i < n → j < n → i ≠ j → a.g i ≠ a.g j
structure Adr.From (a : Adr) (Bm n lo : Nat) : Prop where
  b : lo ≤ Bm
  i : lo ≤ a.I
  n_ : lo ≤ a.N
  m : lo ≤ a.M
  g_ : ∀ i, i < n → lo ≤ a.g i
structure Adr.Room (a : Adr) (n T : Nat) : Prop where
  i : n ≤ a.cI
  n_ : n ≤ a.cN
  m : n ≤ a.cM
  g_ : ∀ i, i < n → T ≤ a.c i
abbrev natI (l : List Nat) : List Int := l.map fun (x : Nat) => (x : Int)
structure Mach (w : World) (Bm : Nat) (a : Adr) (T : Nat) (m : MM) : Prop where
  ok : m.Ok T
  n1 : 1 ≤ m.into.length
  T1 : 1 ≤ T
  T2 : T ≤ 16
  blk : w.heap[Bm]? = some (.cells #[.slice (some ⟨a.I, 0, none⟩) m.into.length a.cI, .slice (some ⟨a.N, 0, none⟩) m.into.length a.cN, .slice (some ⟨a.M, 0, none⟩) m.into.length a.cM] 132 (0, 0))
  I : RowI w a.I (natI m.into)
  M : RowI w a.M (natI m.mark)
  N : ∃ cur : Array Value, w.heap[a.N]? = some (.cells cur 22 (0, 0)) ∧ ∀ i, i < m.into.length → cur[i]? = some (.slice (some ⟨a.g i, 0, none⟩) T (a.c i))
  rows : ∀ i, i < m.into.length → RowI w (a.g i) (m.row i)
  apart : a.Apart Bm m.into.length
  room : a.Room m.into.length T
section
variable {w w' : World} {Bm T : Nat} {a : Adr} {m : MM}
theorem Mach.lt (h : Mach w Bm a T m) : a.From Bm m.into.length 0 ∧ Bm < w.heap.size ∧ a.I < w.heap.size ∧ a.N < w.heap.size ∧ a.M < w.heap.size ∧ ∀ i, i < m.into.length → a.g i < w.heap.size := by
  refine ⟨⟨Nat.zero_le _, Nat.zero_le _, Nat.zero_le _, Nat.zero_le _, fun _ _ => Nat.zero_le _⟩, (Array.getElem?_eq_some_iff.1 h.blk).1, h.I.lt, ?_, h.M.lt, fun i hi => (h.rows i hi).lt⟩
  obtain ⟨cur, h1, _⟩ := h.N
  exact (Array.getElem?_eq_some_iff.1 h1).1
theorem Mach.same (h : Mach w Bm a T m) (hb : w'.heap[Bm]? = w.heap[Bm]?) (hi : w'.heap[a.I]? = w.heap[a.I]?) (hn : w'.heap[a.N]? = w.heap[a.N]?) (hm : w'.heap[a.M]? = w.heap[a.M]?) (hg : ∀ i, i < m.into.length → w'.heap[a.g i]? = w.heap[a.g i]?) : Mach w' Bm a T m :=
  ⟨h.ok, h.n1, h.T1, h.T2, hb.trans h.blk, h.I.same hi, h.M.same hm, by
    obtain ⟨cur, h1, h2⟩ := h.N
    exact ⟨cur, hn.trans h1, h2⟩, fun i hi => (h.rows i hi).same (hg i hi), h.apart, h.room⟩
theorem Mach.below (h : Mach w Bm a T m) (hb : Below w.heap.size w w') : Mach w' Bm a T m := by
  obtain ⟨_, h1, h2, h3, h4, h5⟩ := h.lt
  exact h.same (hb.block _ h1) (hb.block _ h2) (hb.block _ h3) (hb.block _ h4) fun i hi => hb.block _ (h5 i hi)
theorem Mach.cells (h : Mach w Bm a T m) : w.cell? ⟨Bm, 0, none⟩ = some (.slice (some ⟨a.I, 0, none⟩) m.into.length a.cI) ∧ w.cell? ⟨Bm, 1, none⟩ = some (.slice (some ⟨a.N, 0, none⟩) m.into.length a.cN) ∧ w.cell? ⟨Bm, 2, none⟩ = some (.slice (some ⟨a.M, 0, none⟩) m.into.length a.cM) := by
  simp [World.cell?, h.blk]
theorem Mach.into_ (h : Mach w Bm a T m) {s : Nat} (hs : s < m.into.length) : w.cell? ⟨a.I, s, none⟩ = some (.int .i64 (up m.into s : Int)) :=
  h.I.at_ (by rw [List.getElem?_map, h.ok.intoAt hs]; rfl)
theorem Mach.mark_ (h : Mach w Bm a T m) {s : Nat} (hs : s < m.into.length) : w.cell? ⟨a.M, s, none⟩ = some (.int .i64 (m.mk1 s : Int)) :=
  h.M.at_ (by rw [List.getElem?_map, (h.ok.markAt hs).1]; rfl)
theorem Mach.row_ (h : Mach w Bm a T m) {s : Nat} (hs : s < m.into.length) : w.cell? ⟨a.N, s, none⟩ = some (.slice (some ⟨a.g s, 0, none⟩) T (a.c s)) := by
  obtain ⟨cur, h1, h2⟩ := h.N
  rw [cell_of_row _ _ _ _ _ _ h1]
  exact h2 s hs
theorem Mach.at_ (h : Mach w Bm a T m) {s c : Nat} {x : Int} (hs : s < m.into.length) (hx : (m.row s)[c]? = some x) : w.cell? ⟨a.g s, c, none⟩ = some (.int .i64 x) := (h.rows s hs).at_ hx
end
def MM.setInto (m : MM) (b a : Nat) : MM := { m with into := m.into.set b a }
def MM.setMark (m : MM) (a x : Nat) : MM := { m with mark := m.mark.set a x }
def MM.setRow (m : MM) (a : Nat) (r : List Int) : MM := { m with next := m.next.set a r }
theorem MM.row_setRow {T : Nat} {m : MM} (h : m.Ok T) {a x : Nat} {r : List Int} (ha : a < m.into.length) : (m.setRow a r).row x = if x = a then r else m.row x := by
  unfold MM.row MM.setRow
  dsimp only
  by_cases e : x = a
  · subst e; rw [List.getElem?_set_self (by rw [h.nx]; exact ha), if_pos rfl]; rfl
  · rw [List.getElem?_set_ne (fun e' => e e'.symm), if_neg e]
theorem setCell_blk (w : World) {g k q : Nat} (v : Value) (h : q ≠ g) : (w.setCell ⟨g, k, none⟩ v).heap[q]? = w.heap[q]? := Below.heap_setCell w ⟨g, k, none⟩ v q (fun e => h e)
theorem natI_set (l : List Nat) (k x : Nat) : natI (l.set k x) = (natI l).set k (x : Int) := by
  show (l.set k x).map _ = (l.map _).set k _
  rw [List.map_set]
section
variable {w : World} {Bm T : Nat} {a : Adr} {m : MM}
theorem Mach.setInto (h : Mach w Bm a T m) {b c : Nat} (hb : b < m.into.length) (hc : c < b) : Mach (w.setCell ⟨a.I, b, none⟩ (.int .i64 (c : Int))) Bm a T (m.setInto b c) := by
  have hl : (m.setInto b c).into.length = m.into.length := by simp [MM.setInto]
  have hp := h.apart
  refine ⟨⟨h.ok.nx.trans hl.symm, h.ok.mks.trans hl.symm, dn_set h.ok.dn hb hc, fun r hr => by rw [hl]; exact h.ok.row r hr, h.ok.m4, by rw [hl]; exact h.ok.len⟩, by rw [hl]; exact h.n1, h.T1, h.T2, ?_, ?_, ?_, ?_, fun i hi => ?_, by rw [hl]; exact hp, by rw [hl]; exact h.room⟩
  · rw [hl, setCell_blk _ _ hp.bi]; exact h.blk
  · rw [show natI (m.setInto b c).into = (natI m.into).set b (c : Int) from natI_set _ _ _]
    exact h.I.set (by simpa using hb) _
  · exact h.M.same (setCell_blk _ _ (Ne.symm hp.im))
  · obtain ⟨cur, h1, h2⟩ := h.N
    exact ⟨cur, (setCell_blk _ _ (Ne.symm hp.i_n)).trans h1, by rw [hl]; exact h2⟩
  · rw [hl] at hi
    exact (h.rows i hi).same (setCell_blk _ _ (hp.gb i hi).2.1)
theorem Mach.setMark (h : Mach w Bm a T m) {s x : Nat} (hs : s < m.into.length) (hx : x < 4) : Mach (w.setCell ⟨a.M, s, none⟩ (.int .i64 (x : Int))) Bm a T (m.setMark s x) := by
  have hp := h.apart
  refine ⟨⟨h.ok.nx, by simp [MM.setMark, h.ok.mks], h.ok.dn, h.ok.row, fun y hy => ?_, h.ok.len⟩, h.n1, h.T1, h.T2, ?_, ?_, ?_, ?_, fun i hi => ?_, hp, h.room⟩
  · rcases List.mem_or_eq_of_mem_set hy with h1 | h1
    · exact h.ok.m4 y h1
    · rw [h1]; exact hx
  · rw [setCell_blk _ _ hp.bm]; exact h.blk
  · exact h.I.same (setCell_blk _ _ hp.im)
  · rw [show natI (m.setMark s x).mark = (natI m.mark).set s (x : Int) from natI_set _ _ _]
    exact h.M.set (by simpa [h.ok.mks] using hs) _
  · obtain ⟨cur, h1, h2⟩ := h.N
    exact ⟨cur, (setCell_blk _ _ hp.nm).trans h1, h2⟩
  · exact (h.rows i hi).same (setCell_blk _ _ (hp.gb i hi).2.2.2)
theorem Mach.setAt (h : Mach w Bm a T m) {s c : Nat} {x : Int} (hs : s < m.into.length) (hc : c < T) (hx : -1 ≤ x ∧ x < m.into.length) : Mach (w.setCell ⟨a.g s, c, none⟩ (.int .i64 x)) Bm a T (m.setRow s ((m.row s).set c x)) := by
  have hp := h.apart
  have hr := h.ok.rowAt hs
  have hg := hp.gb s hs
  refine ⟨⟨by simp [MM.setRow, h.ok.nx], h.ok.mks, h.ok.dn, fun r hr' => ?_, h.ok.m4, h.ok.len⟩, h.n1, h.T1, h.T2, ?_, ?_, ?_, ?_, fun i hi => ?_, hp, h.room⟩
  · rcases List.mem_or_eq_of_mem_set hr' with h1 | h1
    · exact h.ok.row r h1
    · rw [h1]
      refine ⟨by rw [List.length_set]; exact hr.2.1, fun y hy => ?_⟩
      rcases List.mem_or_eq_of_mem_set hy with h2 | h2
      · exact hr.2.2 y h2
      · rw [h2]; exact hx
  · rw [setCell_blk _ _ (Ne.symm hg.1)]; exact h.blk
  · exact h.I.same (setCell_blk _ _ (Ne.symm hg.2.1))
  · exact h.M.same (setCell_blk _ _ (Ne.symm hg.2.2.2))
  · obtain ⟨cur, h1, h2⟩ := h.N
    exact ⟨cur, (setCell_blk _ _ (Ne.symm hg.2.2.1)).trans h1, h2⟩
  · rw [MM.row_setRow h.ok hs]
    by_cases e : i = s
    · subst e
      rw [if_pos rfl]
      exact (h.rows i hi).set (by rw [hr.2.1]; exact hc) _
    · rw [if_neg e]
      exact (h.rows i hi).same (setCell_blk _ _ (hp.gg i s hi hs e))
end
set_option maxRecDepth 100000 in
set_option maxHeartbeats 1000000 in
theorem machFind (w : World) (Bm : Nat) (a : Adr) (T : Nat) (m : MM) (h : Mach w Bm a T m) (s : Nat) (hs : s < m.into.length) :
    Calls Try.prog 72 #[.pointer (some ⟨Bm, 0, none⟩), .int .i64 (s : Int)] w fun e w' => e = .returned (.int .i64 (findP m.into s : Int)) ∧ w = w' := by
  have H := Lib.hid h
  obtain ⟨n, hn⟩ : ∃ n, n = m.into.length := ⟨_, rfl⟩
  have HN := Lib.hid hn
  have hsn : s < n := by omega
  clear h hn hs
  go_enter Try.func72, Try.ntmps72
  go_wp2_with fail
  go_loopg [1] s (fun gk vs wr => gk < n ∧ vs = .int .i64 (gk : Int) ∧ findP m.into gk = findP m.into s ∧ wr = w)
  case atStart => exact ⟨hsn, rfl, rfl, rfl⟩
  case round =>
    obtain ⟨hgk, rfl, he, rfl⟩ := hrel
    have HE := Lib.hid he
    have k0 := H.out.cells.1
    rw [← HN.out] at k0
    have k1 := H.out.into_ (s := gk) (by rw [← HN.out]; exact hgk)
    obtain ⟨u, hu⟩ : ∃ u, u = up m.into gk := ⟨_, rfl⟩
    have hule : u ≤ gk := by rw [hu]; exact H.out.ok.dn gk
    rw [← hu] at k1
    have HU := Lib.hid hu
    clear he hu
    by_cases hne : u = gk
    · have i1 : ((u : Int) != (gk : Int)) = false := by simp [hne]
      go_wp2_with fail
      go_ret
      refine ⟨?_, rfl⟩
      rw [← HE.out, findP_of (by rw [← HU.out]; exact hne)]
      rfl
    · have i1 : ((u : Int) != (gk : Int)) = true := by simp; omega
      go_wp2_with fail
      go_roundg u
      case measure => omega
      case rel =>
        refine ⟨by omega, rfl, ?_, rfl⟩
        rw [← HE.out, findP_up (s := gk) (by rw [← HU.out]; omega), ← HU.out]
/-- a row of the call's own with numbers in it: its block -/
theorem Own.rowI {w : World} {base n c : Nat} {A : Option Addr} {l : List Int} (h : Own w base 3 1 (.slice A n c) n (l.map (Value.int .i64))) (h0 : 0 < n) :
    ∃ g, A = some ⟨g, 0, none⟩ ∧ base ≤ g ∧ RowI w g l ∧ n ≤ c ∧ l.length = n := by
  obtain ⟨g, rfl, hb, ho⟩ := h.addr h0
  have hl : l.length = n := by have := ho.1; simpa using this
  rcases ho.2 with ⟨e, _⟩ | ⟨g', cap, cur, e, _, hh, hn, hm, hs, ht⟩
  · cases e
  · injection e with e1 e2 e3
    injection e1 with e1
    injection e1 with e1
    subst e1 e3
    refine ⟨g, rfl, hb, ⟨cur, hh, by omega, fun k v hk => ?_⟩, hn, hl⟩
    rw [← Array.getElem?_toList]
    have h1 : (l.map (Value.int .i64))[k]? = some (.int .i64 v) := by rw [List.getElem?_map, hk]; rfl
    rw [← ht, List.getElem?_take] at h1
    split at h1
    · exact h1
    · cases h1
theorem Own.blkS {w : World} {base n c : Nat} {E : TypeId} {A : Option Addr} {xs : List Value} (h : Own w base E 1 (.slice A n c) n xs) (h0 : 0 < n) :
    ∃ g cur, A = some ⟨g, 0, none⟩ ∧ base ≤ g ∧ w.heap[g]? = some (.cells cur E (0, 0)) ∧ n ≤ c ∧ rowOf (.slice A n c) = some g ∧ ∀ (k : Nat) (v : Value), xs[k]? = some v → cur[k]? = some v := by
  obtain ⟨g, rfl, hb, ho⟩ := h.addr h0
  rcases ho.2 with ⟨e, _⟩ | ⟨g', cap, cur, e, _, hh, hn, hm, hs, ht⟩
  · cases e
  · injection e with e1 e2 e3
    injection e1 with e1
    injection e1 with e1
    subst e1 e3
    refine ⟨g, cur, rfl, hb, hh, hn, ?_, fun k v hk => ?_⟩
    · obtain ⟨c', rfl⟩ : ∃ c', c = c' + 1 := ⟨c - 1, by omega⟩
      rfl
    · rw [← Array.getElem?_toList]
      rw [← ht, List.getElem?_take] at hk
      split at hk
      · exact hk
      · cases hk
abbrev rowV (T : Nat) (p : Nat × Nat) : Value := .slice (some ⟨p.1, 0, none⟩) T p.2
/-- rows behind each other: each in a block of its own, none of them among X -/
structure NextW (w : World) (base : Nat) (X : Nat → Prop) (T : Nat) (vN : Value) (adr : List (Nat × Nat)) (rows : List (List Int)) : Prop where
  own : Own w base 22 1 vN adr.length (adr.map (rowV T))
  len : adr.length = rows.length
  row : ∀ (i : Nat) (p : Nat × Nat), adr[i]? = some p → ∃ r, rows[i]? = some r ∧ r.length = T ∧ RowI w p.1 r ∧ T ≤ p.2 ∧ base ≤ p.1 ∧ rowOf vN ≠ some p.1 ∧ ¬ X p.1
  dis : ∀ (i j : Nat) (p q : Nat × Nat), i ≠ j → adr[i]? = some p → adr[j]? = some q → p.1 ≠ q.1
  nx : ∀ g, rowOf vN = some g → ¬ X g
section
variable {w w' : World} {base T : Nat} {X : Nat → Prop} {vN : Value} {adr : List (Nat × Nat)} {rows : List (List Int)}
theorem NextW.nil (w : World) (base : Nat) (X : Nat → Prop) (T : Nat) : NextW w base X T (.slice none 0 0) [] [] :=
  ⟨Own.nil _ _ _ _ _, rfl, fun i p h => by simp at h, fun i j p q _ h => by simp at h, fun g e => by cases e⟩
theorem NextW.kept {row : Option Nat} (h : NextW w base X T vN adr rows) (hg : w.grownBy w' row) (hr : ∀ g, row = some g → rowOf vN ≠ some g ∧ ∀ p ∈ adr, p.1 ≠ g) : NextW w' base X T vN adr rows := by
  refine ⟨h.own.kept hg fun g e => (hr g e).1, h.len, fun i p hp => ?_, h.dis, h.nx⟩
  obtain ⟨r, h1, h2, h3, h4⟩ := h.row i p hp
  exact ⟨r, h1, h2, h3.same (hg.block p.1 h3.lt (fun e => (hr p.1 e.symm).2 p (List.mem_of_getElem? hp) rfl)), h4⟩
theorem NextW.below (h : NextW w base X T vN adr rows) (hb : Below w.heap.size w w') : NextW w' base X T vN adr rows := by
  refine ⟨h.own.below hb (Nat.le_refl _), h.len, fun i p hp => ?_, h.dis, h.nx⟩
  obtain ⟨r, h1, h2, h3, h4⟩ := h.row i p hp
  exact ⟨r, h1, h2, h3.same (hb.block p.1 h3.lt), h4⟩
theorem NextW.form (h : NextW w base X T vN adr rows) : ∃ A c, vN = .slice A adr.length c ∧ adr.length ≤ c := by
  obtain ⟨A, c, e, hc, _⟩ := h.own.form
  exact ⟨A, c, e, hc⟩
/-- 'append(v, row)', the row's value in a new block -/
theorem NextW.push (h : NextW w base X T vN adr rows) {p : Nat × Nat} {r : List Int} (hr : RowI w p.1 r) (hT : r.length = T) (hc : T ≤ p.2) (hb : base ≤ p.1) (hn : rowOf vN ≠ some p.1) (hx : ¬ X p.1) (hd : ∀ q ∈ adr, q.1 ≠ p.1)
    (hX : ∀ b, X b → b < w.heap.size) (hl : adr.length ≤ 1000000) (hbase : base ≤ w.heap.size) :
    ∃ v' w', (Builtin.append_ #[23, 23] 23 #[vN, .slice (some ⟨w.heap.size, 0, none⟩) 1 1]).run Try.prog (w.alloc (.cells #[rowV T p] 22)) = .ok v' w' ∧
      NextW w' base X T v' (adr ++ [p]) (rows ++ [r]) ∧ (w.alloc (.cells #[rowV T p] 22)).grownBy w' (rowOf vN) ∧ Below base w w' ∧ (rowOf v' = rowOf vN ∨ ∃ g, rowOf v' = some g ∧ w.heap.size < g) := by
  obtain ⟨v2, w2, hrun, ho, hg, hrow⟩ := run_append_Own tIntss (w.alloc (.cells #[rowV T p] 22)) 23 base vN adr.length (adr.map (rowV T)) (h.own.alloc _) (fun _ => True) (some ⟨w.heap.size, 0, none⟩) 1 1 [rowV T p]
    (Rd.new w _ _ [rowV T p] _ rfl trivial) (by intro u hu; obtain rfl := List.mem_singleton.1 hu; rfl) (by unfold maxLen; omega) (by omega) (by simp; omega)
  have hz := hg.size
  rw [World.size_alloc] at hz hrow
  have h1 := h.below ((Below.refl _ _).alloc (Nat.le_refl _) (.cells #[rowV T p] 22))
  have hb2 : Below base w w2 := ((Below.refl _ _).alloc hbase _).trans (Below.own (Below.refl _ _) h1.own hg (Nat.le_refl _) (by simp; omega))
  have hr2 : RowI w2 p.1 r := (hr.same (Below.heap_alloc w (.cells #[rowV T p] 22) p.1 hr.lt)).same (hg.block p.1 (by simp; have := hr.lt; omega) (fun e => hn e.symm))
  have hrowN : ∀ b, rowOf vN ≠ some b → b < w.heap.size + 1 → rowOf v2 ≠ some b := fun b h1 h2 => by
    rcases hrow with e | e
    · rw [e]; exact h1
    · rw [e]; intro e'; injection e' with e'; omega
  refine ⟨v2, w2, hrun, ⟨by simpa using ho, by simp [h.len], fun i q hq => ?_, fun i j q q' hij hq hq' => ?_, fun g e => ?_⟩, hg, hb2, ?_⟩
  · rcases Nat.lt_or_ge i adr.length with hi | hi
    · rw [List.getElem?_append_left hi] at hq
      obtain ⟨r', k1, k2, k3, k4, k5, k6, k7⟩ := h1.row i q hq
      have k8 := k3.lt
      rw [World.size_alloc] at k8
      exact ⟨r', by rw [List.getElem?_append_left (by rw [← h.len]; exact hi)]; exact k1, k2, k3.same (hg.block q.1 k3.lt (fun e => k6 e.symm)), k4, k5, hrowN _ k6 k8, k7⟩
    · rw [List.getElem?_append_right hi] at hq
      have hi0 : i - adr.length = 0 := by
        rcases Nat.eq_zero_or_pos (i - adr.length) with h0 | h0
        · exact h0
        · rw [List.getElem?_eq_none (by simp; omega)] at hq; cases hq
      rw [hi0] at hq
      have e : p = q := by simpa using hq
      subst e
      exact ⟨r, by rw [List.getElem?_append_right (by rw [← h.len]; exact hi), ← h.len, hi0]; rfl, hT, hr2, hc, hb, hrowN _ hn (by have := hr.lt; omega), hx⟩
  · have hlast : ∀ k, adr.length ≤ k → ∀ z, (adr ++ [p])[k]? = some z → k = adr.length ∧ z = p := fun k hk z hz => by
      rw [List.getElem?_append_right hk] at hz
      have hi0 : k - adr.length = 0 := by
        rcases Nat.eq_zero_or_pos (k - adr.length) with h0 | h0
        · exact h0
        · rw [List.getElem?_eq_none (by simp; omega)] at hz; cases hz
      rw [hi0] at hz
      exact ⟨by omega, by simpa using hz.symm⟩
    rcases Nat.lt_or_ge i adr.length with hi | hi
    · rw [List.getElem?_append_left hi] at hq
      rcases Nat.lt_or_ge j adr.length with hj | hj
      · rw [List.getElem?_append_left hj] at hq'
        exact h.dis i j q q' hij hq hq'
      · obtain ⟨_, rfl⟩ := hlast j hj q' hq'
        exact hd q (List.mem_of_getElem? hq)
    · obtain ⟨ei, rfl⟩ := hlast i hi q hq
      rcases Nat.lt_or_ge j adr.length with hj | hj
      · rw [List.getElem?_append_left hj] at hq'
        exact fun e => hd q' (List.mem_of_getElem? hq') e.symm
      · obtain ⟨ej, _⟩ := hlast j hj q' hq'
        omega
  · rcases hrow with e2 | e2
    · rw [e2] at e; exact h.nx g e
    · rw [e2] at e
      injection e with e
      intro hxg
      have := hX g hxg
      omega
  · rcases hrow with e | e
    · exact .inl e
    · exact .inr ⟨_, e, by omega⟩
end
/-- a machine out of its parts -/
theorem Mach.of {w : World} {Bm T : Nat} {m : MM} {base : Nat} {vI vN vM : Value} {adr : List (Nat × Nat)} (hok : m.Ok T) (n1 : 1 ≤ m.into.length) (T1 : 1 ≤ T) (T2 : T ≤ 16)
    (hblk : w.heap[Bm]? = some (.cells #[vI, vN, vM] 132 (0, 0))) (hI : Own w base 3 1 vI m.into.length ((natI m.into).map (Value.int .i64))) (hM : Own w base 3 1 vM m.mark.length ((natI m.mark).map (Value.int .i64)))
    (hN : NextW w base (fun b => b = Bm ∨ rowOf vI = some b ∨ rowOf vM = some b) T vN adr m.next) (hb : base ≤ Bm) (hBI : rowOf vI ≠ some Bm) (hBM : rowOf vM ≠ some Bm) (hIM : ∀ g, rowOf vI = some g → rowOf vM ≠ some g) :
    ∃ ad, Mach w Bm ad T m ∧ ad.From Bm m.into.length base := by
  have hlN : adr.length = m.into.length := hN.len.trans hok.nx
  rw [hok.mks] at hM
  obtain ⟨AI, cI, rfl, hcI, _⟩ := hI.form
  obtain ⟨AM, cM, rfl, hcM, _⟩ := hM.form
  have hNo := hN.own
  obtain ⟨AN, cN, rfl, hcN, _⟩ := hNo.form
  rw [hlN] at hNo hcN
  obtain ⟨gI, rfl, bI, rI, _, _⟩ := hI.rowI (by omega)
  obtain ⟨gM, rfl, bM, rM, _, _⟩ := hM.rowI (by omega)
  obtain ⟨gN, cur, rfl, bN, hhN, _, hrN, hcur⟩ := hNo.blkS (by omega)
  have eI : rowOf (.slice (some ⟨gI, 0, none⟩) m.into.length cI) = some gI := by
    obtain ⟨c', rfl⟩ : ∃ c', cI = c' + 1 := ⟨cI - 1, by omega⟩
    rfl
  have eM : rowOf (.slice (some ⟨gM, 0, none⟩) m.into.length cM) = some gM := by
    obtain ⟨c', rfl⟩ : ∃ c', cM = c' + 1 := ⟨cM - 1, by omega⟩
    rfl
  rw [eI] at hBI
  rw [eM] at hBM
  have hnx := hN.nx gN (by rw [hlN]; exact hrN)
  rw [eI, eM] at hnx
  have hgg : ∀ i, i < m.into.length → ∃ p, adr[i]? = some p ∧ (adr[i]?.getD (0, 0)) = p := fun i hi => ⟨adr[i]'(by omega), List.getElem?_eq_getElem _, by rw [List.getElem?_eq_getElem (by omega)]; rfl⟩
  refine ⟨⟨gI, gN, gM, cI, cN, cM, fun i => (adr[i]?.getD (0, 0)).1, fun i => (adr[i]?.getD (0, 0)).2⟩, ⟨hok, n1, T1, T2, by rw [hlN] at hblk; exact hblk, rI, rM, ⟨cur, hhN, fun i hi => ?_⟩, fun i hi => ?_, ⟨?_, ?_, ?_, ?_, ?_, ?_, fun i hi => ?_, fun i j hi hj hij => ?_⟩, ⟨hcI, hcN, hcM, fun i hi => ?_⟩⟩, ⟨hb, bI, bN, bM, fun i hi => ?_⟩⟩
  · obtain ⟨p, hp, e⟩ := hgg i hi
    dsimp only
    rw [e]
    exact hcur i _ (by rw [List.getElem?_map, hp]; rfl)
  · obtain ⟨p, hp, e⟩ := hgg i hi
    dsimp only
    rw [e]
    obtain ⟨r, h1, _, h3, _⟩ := hN.row i p hp
    unfold MM.row
    rw [h1]
    exact h3
  · exact fun e => hBI (by rw [e])
  · exact fun e => hnx (.inl e.symm)
  · exact fun e => hBM (by rw [e])
  · exact fun e => hnx (.inr (.inl (by show some gI = some gN; rw [show gI = gN from e])))
  · exact fun e => hIM gI eI (by rw [eM]; show some gM = some gI; rw [show gI = gM from e])
  · exact fun e => hnx (.inr (.inr (by show some gM = some gN; rw [show gN = gM from e])))
  · obtain ⟨p, hp, e⟩ := hgg i hi
    dsimp only
    rw [e]
    obtain ⟨r, _, _, _, _, _, h6, h7⟩ := hN.row i p hp
    rw [hlN, hrN] at h6
    rw [eI, eM] at h7
    exact ⟨fun e => h7 (.inl e), fun e => h7 (.inr (.inl (by rw [e]))), fun e => h6 (by rw [e]), fun e => h7 (.inr (.inr (by rw [e])))⟩
  · obtain ⟨p, hp, e⟩ := hgg i hi
    obtain ⟨q, hq, e'⟩ := hgg j hj
    dsimp only
    rw [e, e']
    exact hN.dis i j p q hij hp hq
  · obtain ⟨p, hp, e⟩ := hgg i hi
    dsimp only
    rw [e]
    obtain ⟨r, _, _, _, h4, _⟩ := hN.row i p hp
    exact h4
  · obtain ⟨p, hp, e⟩ := hgg i hi
    dsimp only
    rw [e]
    obtain ⟨r, _, _, _, _, h5, _⟩ := hN.row i p hp
    exact h5
theorem tPairs : SlType Try.prog 116 117 2 16 (.agg #[.int .i64 0, .int .i64 0]) := ⟨by kernel_rfl, by kernel_rfl, by kernel_rfl, rfl, by decide⟩
def flatP (l : List (Nat × Nat)) : List Value := l.flatMap fun p => [Value.int .i64 (p.1 : Int), .int .i64 (p.2 : Int)]
theorem flatP_len : ∀ l : List (Nat × Nat), (flatP l).length = l.length * 2
  | [] => rfl
  | p :: l => by
    have := flatP_len l
    unfold flatP at this ⊢
    rw [List.flatMap_cons, List.length_append, this]
    simp only [List.length_cons, List.length_nil]
    omega
theorem flatP_get : ∀ {l : List (Nat × Nat)} {j : Nat} {p : Nat × Nat}, l[j]? = some p → (flatP l)[j * 2]? = some (.int .i64 (p.1 : Int)) ∧ (flatP l)[j * 2 + 1]? = some (.int .i64 (p.2 : Int))
  | [], _, _, h => by simp at h
  | q :: l, 0, p, h => by
    simp only [List.getElem?_cons_zero, Option.some.injEq] at h
    subst h
    exact ⟨rfl, rfl⟩
  | q :: l, j + 1, p, h => by
    simp only [List.getElem?_cons_succ] at h
    obtain ⟨h1, h2⟩ := flatP_get h
    unfold flatP at h1 h2 ⊢
    rw [List.flatMap_cons, show (j + 1) * 2 = j * 2 + 1 + 1 by omega]
    exact ⟨h1, h2⟩
theorem flatP_append (l m : List (Nat × Nat)) : flatP (l ++ m) = flatP l ++ flatP m := by simp [flatP]
def QP (w : World) (base : Nat) (v : Value) (l : List (Nat × Nat)) : Prop :=
  ∃ (g off cap : Nat) (cur : Array Value), v = .slice (some ⟨g, off, none⟩) l.length cap ∧ base ≤ g ∧ w.heap[g]? = some (.cells cur 117 (0, 0)) ∧ l.length ≤ cap ∧ cap ≤ maxLen ∧ off + cap * 2 ≤ cur.size ∧
    ∀ (j : Nat) (p : Nat × Nat), l[j]? = some p → cur[off + j * 2]? = some (.int .i64 (p.1 : Int)) ∧ cur[off + (j * 2 + 1)]? = some (.int .i64 (p.2 : Int))
def qpBlk : Value → Option Nat
  | .slice (some a) _ _ => some a.block
  | _ => none
section
variable {w w' : World} {base : Nat} {v : Value} {l : List (Nat × Nat)}
theorem QP.blk (h : QP w base v l) : ∃ g, qpBlk v = some g ∧ base ≤ g ∧ g < w.heap.size := by
  obtain ⟨g, off, cap, cur, rfl, hb, hh, _⟩ := h
  exact ⟨g, rfl, hb, (Array.getElem?_eq_some_iff.1 hh).1⟩
theorem QP.form (h : QP w base v l) : ∃ (g off cap : Nat), v = .slice (some ⟨g, off, none⟩) l.length cap ∧ l.length ≤ cap := by
  obtain ⟨g, off, cap, cur, rfl, hb, hh, hc, _⟩ := h
  exact ⟨g, off, cap, rfl, hc⟩
theorem QP.same (h : QP w base v l) (hk : ∀ g, qpBlk v = some g → w'.heap[g]? = w.heap[g]?) : QP w' base v l := by
  obtain ⟨g, off, cap, cur, rfl, hb, hh, hr⟩ := h
  exact ⟨g, off, cap, cur, rfl, hb, (hk g rfl).trans hh, hr⟩
theorem QP.below (h : QP w base v l) (hb : Below w.heap.size w w') : QP w' base v l := h.same fun g hg => by
  obtain ⟨g', e, _, hlt⟩ := h.blk
  rw [hg] at e
  injection e with e
  subst e
  exact hb.block _ hlt
theorem QP.start (w : World) (base a b : Nat) (hb : base ≤ w.heap.size) : QP (w.alloc (.cells #[.int .i64 (a : Int), .int .i64 (b : Int)] 117)) base (.slice (some ⟨w.heap.size, 0, none⟩) 1 1) [(a, b)] := by
  refine ⟨w.heap.size, 0, 1, #[.int .i64 (a : Int), .int .i64 (b : Int)], rfl, hb, heap_alloc_new w _, by simp, by unfold maxLen; omega, by simp, fun j p hp => ?_⟩
  cases j with
  | zero =>
    simp only [List.getElem?_cons_zero, Option.some.injEq] at hp
    subst hp
    exact ⟨rfl, rfl⟩
  | succ j => simp at hp
/-- the head, and what is left -/
theorem QP.pop {p : Nat × Nat} (h : QP w base v (p :: l)) :
    ∃ (g off off' cap : Nat), v = .slice (some ⟨g, off, none⟩) (l.length + 1) cap ∧ l.length + 1 ≤ cap ∧ w.cell? ⟨g, off, none⟩ = some (.int .i64 (p.1 : Int)) ∧ w.cell? ⟨g, off + 1, none⟩ = some (.int .i64 (p.2 : Int)) ∧
      (∀ w' : World, (Instr.slice 116 (.slice (some ⟨g, off, none⟩) (l.length + 1) cap) (some (.int .i64 1)) none none).run Try.prog w' = .ok (.slice (some ⟨g, off', none⟩) l.length (cap - 1)) w') ∧
      QP w base (.slice (some ⟨g, off', none⟩) l.length (cap - 1)) l := by
  obtain ⟨g, off, cap, cur, rfl, hb, hh, hc, hm, hs, hx⟩ := h
  simp only [List.length_cons] at hc ⊢
  obtain ⟨c0, c1⟩ := hx 0 p rfl
  rw [Nat.zero_mul, Nat.add_zero] at c0
  rw [Nat.zero_mul, Nat.zero_add] at c1
  by_cases hcap : cap = 1
  · subst hcap
    obtain rfl : l = [] := List.eq_nil_of_length_eq_zero (by omega)
    refine ⟨g, off, off, 1, rfl, hc, by rw [cell_of_row _ _ _ _ _ _ hh]; exact c0, by rw [cell_of_row _ _ _ _ _ _ hh]; exact c1, fun w' => ?_, ⟨g, off, 0, cur, rfl, hb, hh, Nat.le_refl _, Nat.zero_le _, by omega, fun j u hu => by simp at hu⟩⟩
    have := tPairs.ll (some ⟨g, off, none⟩) 1 1 1 (by decide) (by decide) w'
    simpa using this
  · refine ⟨g, off, off + 2, cap, rfl, hc, by rw [cell_of_row _ _ _ _ _ _ hh]; exact c0, by rw [cell_of_row _ _ _ _ _ _ hh]; exact c1, fun w' => ?_, ⟨g, off + 2, cap - 1, cur, rfl, hb, hh, by omega, by omega, by omega, fun j q hq => ?_⟩⟩
    · have := tPairs.ll (some ⟨g, off, none⟩) (l.length + 1) cap 1 (by decide) (by omega) w'
      rw [this, show (1 : Int).toNat = 1 from rfl, if_neg hcap]
      simp [Addr.add]
    · obtain ⟨d0, d1⟩ := hx (j + 1) q (by simpa using hq)
      rw [show off + 2 + j * 2 = off + (j + 1) * 2 by omega, show off + 2 + (j * 2 + 1) = off + ((j + 1) * 2 + 1) by omega]
      exact ⟨d0, d1⟩
/-- 'append(v, [2]int{x, y})', the new pair in a new block -/
theorem QP.push (h : QP w base v l) (ty : Nat) (x y : Nat) (hl : l.length + 1 ≤ 1000000) :
    ∃ v' w', (Builtin.append_ #[116, 116] ty #[v, .slice (some ⟨w.heap.size, 0, none⟩) 1 1]).run Try.prog (w.alloc (.cells #[.int .i64 (x : Int), .int .i64 (y : Int)] 117)) = .ok v' w' ∧ QP w' base v' (l ++ [(x, y)]) ∧ (w.alloc (.cells #[.int .i64 (x : Int), .int .i64 (y : Int)] 117)).grownBy w' (qpBlk v) ∧ Below base w w' ∧ (qpBlk v' = qpBlk v ∨ ∀ b, qpBlk v' = some b → w.heap.size ≤ b) := by
  obtain ⟨g, off, cap, cur, rfl, hb, hh, hc, hm, hs, hxs⟩ := h
  have hlt : g < w.heap.size := (Array.getElem?_eq_some_iff.1 hh).1
  obtain ⟨i, hi, hz0, hz1, hz2⟩ := info_parts tPairs.info
  obtain ⟨w1, hw1⟩ : ∃ w1, w1 = w.alloc (.cells #[.int .i64 (x : Int), .int .i64 (y : Int)] 117) := ⟨_, rfl⟩
  have hh1 : w1.heap[g]? = some (.cells cur 117 (0, 0)) := by rw [hw1, Below.heap_alloc _ _ _ hlt]; exact hh
  have hnew : ∀ (j : Nat) (u' : Value), [Value.int .i64 (x : Int), .int .i64 (y : Int)][j]? = some u' → w1.cell? ((⟨w.heap.size, 0, none⟩ : Addr).add j) = some u' := fun j u' hu => by
    rw [hw1, Addr.add_lit, World.cell?_alloc_at _ _ _ _ rfl]
    simpa using hu
  have hone : ∀ u ∈ [Value.int .i64 (x : Int), .int .i64 (y : Int)], u.oneCell' = true := fun u hu => by
    simp only [List.mem_cons, List.not_mem_nil, or_false] at hu
    rcases hu with rfl | rfl <;> rfl
  have hgw : w.grownBy w1 none := by rw [hw1]; exact World.grownBy_alloc w _ none
  rw [← hw1]
  by_cases hroom : l.length + 1 ≤ cap
  · have hfr : ∀ k, w1.frozen? ⟨g, k, none⟩ = false := fun k => by simp [World.frozen?, hh1]
    have hrun := run_append_room_cells (P := Try.prog) w1 116 ty 117 i tPairs.under hi g off l.length cap ⟨w.heap.size, 0, none⟩ 1 1 [.int .i64 (x : Int), .int .i64 (y : Int)] (by simp [hz1]) hnew hone hroom
      (fun j hj => by
        have hj2 : j < 2 := by simpa using hj
        rw [hz1, cell_of_row _ _ _ _ _ _ hh1, Array.getElem?_eq_getElem (by omega)]
        rfl)
      (fun j hj => hfr _)
    rw [hz1] at hrun
    have hset : w1.setCells g (off + l.length * 2) [.int .i64 (x : Int), .int .i64 (y : Int)] = (w1.setCell ⟨g, off + l.length * 2, none⟩ (.int .i64 (x : Int))).setCell ⟨g, off + l.length * 2 + 1, none⟩ (.int .i64 (y : Int)) := by simp [World.setCells]
    rw [hset] at hrun
    obtain ⟨w2, hw2⟩ : ∃ w2, w2 = w1.setCell ⟨g, off + l.length * 2, none⟩ (.int .i64 (x : Int)) := ⟨_, rfl⟩
    have hh2 : w2.heap[g]? = some (.cells (cur.setIfInBounds (off + l.length * 2) (.int .i64 (x : Int))) 117 (0, 0)) := by rw [hw2]; exact heap_setCell_same w1 g _ cur 117 _ hh1
    have hg2 : w1.grownBy w2 (some g) := by rw [hw2]; exact set_grown w1 _ _
    rw [← hw2] at hrun
    have hh3 := heap_setCell_same w2 g (off + l.length * 2 + 1) _ 117 (.int .i64 (y : Int)) hh2
    have hg3 : w1.grownBy (w2.setCell ⟨g, off + l.length * 2 + 1, none⟩ (.int .i64 (y : Int))) (some g) := hg2.trans (set_grown w2 _ _)
    refine ⟨_, _, hrun, ⟨g, off, cap, _, by rw [List.length_append]; rfl, hb, hh3, by rw [List.length_append]; exact hroom, hm, by simpa using hs, fun j p hp => ?_⟩, hg3, ?_, Or.inl rfl⟩
    · simp only [Array.getElem?_setIfInBounds, Array.size_setIfInBounds]
      by_cases hj : j < l.length
      · rw [List.getElem?_append_left hj] at hp
        rw [if_neg (by omega), if_neg (by omega), if_neg (by omega), if_neg (by omega)]
        exact hxs j p hp
      · rw [List.getElem?_append_right (by omega)] at hp
        have hj2 : j = l.length := by
          have := (List.getElem?_eq_some_iff.1 hp).1
          simp at this
          omega
        subst hj2
        simp only [Nat.sub_self, List.getElem?_cons_zero, Option.some.injEq] at hp
        subst hp
        refine ⟨?_, ?_⟩
        · rw [if_neg (by omega), if_pos rfl, if_pos (by omega)]
        · rw [if_pos (by omega), if_pos (by omega)]
    · exact (((Below.refl _ _).grown hgw (Nat.le_trans hb (Nat.le_of_lt hlt)) (fun g' hg' => by cases hg'))).grown hg3 (by have := hgw.size; omega) (fun g' hg' => by injection hg' with e; omega)
  · have hflat : ∀ (j : Nat) (u : Value), (flatP l)[j]? = some u → cur[off + j]? = some u := fun j u hu => by
      have hlj := (List.getElem?_eq_some_iff.1 hu).1
      rw [flatP_len] at hlj
      have hp : l[j / 2]? = some (l[j / 2]'(by omega)) := List.getElem?_eq_getElem _
      obtain ⟨h1, h2⟩ := flatP_get hp
      obtain ⟨d0, d1⟩ := hxs _ _ hp
      rcases Nat.mod_two_eq_zero_or_one j with e | e
      · rw [show j / 2 * 2 = j by omega] at h1 d0
        rw [d0, ← h1, hu]
      · rw [show j / 2 * 2 + 1 = j by omega] at h2 d1
        rw [d1, ← h2, hu]
    obtain ⟨v', w', hrun, ho, hg2⟩ := run_append_arg_grows (P := Try.prog) w1 116 ty 117 i (.agg #[.int .i64 0, .int .i64 0]) 2 16 tPairs.under hi hz0 hz1 hz2 tPairs.zero tPairs.pos ⟨g, off, none⟩ l.length cap (flatP l) (flatP_len l) (fun j u' hu => by
        rw [Addr.add_lit, cell_of_row _ _ _ _ _ _ hh1]
        exact hflat j u' hu) ⟨w.heap.size, 0, none⟩ 1 1 [.int .i64 (x : Int), .int .i64 (y : Int)] rfl hnew (by omega) (by unfold maxLen; omega) (by omega)
    have hz := hgw.size
    rcases ho.2 with ⟨_, h0⟩ | ⟨g', cap', cur', rfl, hb', hh', hnc, hcm, hcs, ht⟩
    · omega
    refine ⟨_, w', hrun, ⟨g', 0, cap', cur', by rw [List.length_append]; rfl, by omega, hh', by rw [List.length_append]; exact hnc, hcm, by omega, fun j p hp => ?_⟩, ⟨hg2.os, hg2.tape, hg2.output, hg2.size, fun k hk _ => hg2.block k hk (by simp)⟩, ?_, Or.inr fun b e => by injection e with e; have e' : g' = b := e; omega⟩
    · have ht' : List.take ((l ++ [(x, y)]).length * 2) cur'.toList = flatP (l ++ [(x, y)]) := by
        rw [flatP_append]
        have := ht
        simp only [List.length_append, List.length_cons, List.length_nil] at this ⊢
        exact this
      obtain ⟨h1, h2⟩ := flatP_get hp
      have hj := (List.getElem?_eq_some_iff.1 hp).1
      rw [← ht', List.getElem?_take, if_pos (by omega), Array.getElem?_toList] at h1 h2
      rw [Nat.zero_add, Nat.zero_add]
      exact ⟨h1, h2⟩
    · exact (((Below.refl _ _).grown hgw (Nat.le_trans hb (Nat.le_of_lt hlt)) (fun g' hg' => by cases hg'))).grown hg2 (by omega) (fun g' hg' => by cases hg')
end
end Go.Proofs.Ytgaahpddlohjoaa
