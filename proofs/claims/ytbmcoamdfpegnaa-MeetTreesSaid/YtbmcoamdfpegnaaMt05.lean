/- TreeD RankPlain TreePlain LgS MinMax -/
import Derived.LoopTactic
import Derived.Outline
import Derived.Test.YtbmcoamdfpegnaaMt04
import Derived.WalkLawsBesides
namespace Go.Proofs.Ytbmcoamdfpegnaa
open Go.RowKit
inductive TreeD where
 | node (rule term : Int) (kids : List TreeD) : TreeD
def TreeD.rule : TreeD → Int
 | .node r _ _ => r
def TreeD.term : TreeD → Int
 | .node _ t _ => t
def TreeD.kids : TreeD → List TreeD
 | .node _ _ k => k
mutual
def treeOk (w : World) (S : Nat → Prop) : List Value → TreeD → Prop
 | cs, .node r t ks => ∃ A n c xs, cs = [.int .i64 r, .int .i64 t, .slice A n c] ∧ n = ks.length ∧ n ≤ c ∧ Rd w S 3 A n xs ∧ treesOk w S xs ks
def treesOk (w : World) (S : Nat → Prop) : List Value → List TreeD → Prop
 | xs, [] => xs = []
 | xs, t :: ts => ∃ cs rest, xs = cs ++ rest ∧ treeOk w S cs t ∧ treesOk w S rest ts
end
section
variable {w w' : World} {S S' : Nat → Prop}
theorem treeOk.len {cs : List Value} : ∀ {t : TreeD}, treeOk w S cs t → cs.length = 3
 | .node r t ks, h => by
  unfold treeOk at h
  obtain ⟨A, n, c, xs, rfl, _⟩ := h
  rfl
theorem treeOk.one {cs : List Value} : ∀ {t : TreeD}, treeOk w S cs t → ∀ u ∈ cs, u.oneCell' = true
 | .node r t ks, h => by
  unfold treeOk at h
  obtain ⟨A, n, c, xs, rfl, _⟩ := h
  intro u hu
  simp only [List.mem_cons, List.not_mem_nil, or_false] at hu
  rcases hu with rfl | rfl | rfl <;> rfl
mutual
theorem treeOk.keep (hk : Kept S w w') : ∀ {t : TreeD} {cs : List Value}, treeOk w S cs t → treeOk w' S cs t
 | .node r t ks, cs, h => by
  unfold treeOk at h ⊢
  obtain ⟨A, n, c, xs, rfl, h1, h2, h3, h4⟩ := h
  exact ⟨A, n, c, xs, rfl, h1, h2, h3.keep hk, treesOk.keep hk h4⟩
theorem treesOk.keep (hk : Kept S w w') : ∀ {ts : List TreeD} {xs : List Value}, treesOk w S xs ts → treesOk w' S xs ts
 | [], xs, h => by
  unfold treesOk at h ⊢
  exact h
 | t :: ts, xs, h => by
  unfold treesOk at h ⊢
  obtain ⟨cs, rest, rfl, h1, h2⟩ := h
  exact ⟨cs, rest, rfl, treeOk.keep hk h1, treesOk.keep hk h2⟩
end
mutual
theorem treeOk.more (hS : ∀ b, S b → S' b) : ∀ {t : TreeD} {cs : List Value}, treeOk w S cs t → treeOk w S' cs t
 | .node r t ks, cs, h => by
  unfold treeOk at h ⊢
  obtain ⟨A, n, c, xs, rfl, h1, h2, h3, h4⟩ := h
  exact ⟨A, n, c, xs, rfl, h1, h2, h3.more hS, treesOk.more hS h4⟩
theorem treesOk.more (hS : ∀ b, S b → S' b) : ∀ {ts : List TreeD} {xs : List Value}, treesOk w S xs ts → treesOk w S' xs ts
 | [], xs, h => by
  unfold treesOk at h ⊢
  exact h
 | t :: ts, xs, h => by
  unfold treesOk at h ⊢
  obtain ⟨cs, rest, rfl, h1, h2⟩ := h
  exact ⟨cs, rest, rfl, treeOk.more hS h1, treesOk.more hS h2⟩
end
mutual
theorem treeOk.fit : ∀ {t : TreeD} {cs : List Value}, treeOk w S cs t → treeOk w (fun b => S b ∧ b < w.heap.size) cs t
 | .node r t ks, cs, h => by
  unfold treeOk at h ⊢
  obtain ⟨A, n, c, xs, rfl, h1, h2, h3, h4⟩ := h
  exact ⟨A, n, c, xs, rfl, h1, h2, h3.fit (by decide), treesOk.fit h4⟩
theorem treesOk.fit : ∀ {ts : List TreeD} {xs : List Value}, treesOk w S xs ts → treesOk w (fun b => S b ∧ b < w.heap.size) xs ts
 | [], xs, h => by
  unfold treesOk at h ⊢
  exact h
 | t :: ts, xs, h => by
  unfold treesOk at h ⊢
  obtain ⟨cs, rest, rfl, h1, h2⟩ := h
  exact ⟨cs, rest, rfl, treeOk.fit h1, treesOk.fit h2⟩
end
end
def RTree : Rep TreeD where
 size := 3
 ok := treeOk
 pos := by decide
 len := treeOk.len
 keep := fun h hk => treeOk.keep hk h
 more := fun h hS => treeOk.more hS h
 fit := treeOk.fit
 one := treeOk.one
section
variable {w : World} {S : Nat → Prop}
theorem treesOk.cells : ∀ {ts : List TreeD} {xs : List Value}, treesOk w S xs ts ↔ Cells RTree w S xs ts
 | [], xs => by unfold treesOk Cells; exact Iff.rfl
 | t :: ts, xs => by
  unfold treesOk Cells
  constructor
  ·
   rintro ⟨cs, rest, e, h1, h2⟩; exact ⟨cs, rest, e, h1, treesOk.cells.1 h2⟩
  ·
   rintro ⟨cs, rest, e, h1, h2⟩; exact ⟨cs, rest, e, h1, treesOk.cells.2 h2⟩
theorem RTree.cells {t : TreeD} {cs : List Value} : RTree.ok w S cs t ↔ ∃ A n c, cs = [.int .i64 t.rule, .int .i64 t.term, .slice A n c] ∧ Sl RTree w S A n c t.kids := by
 obtain ⟨r, x, ks⟩ := t
 show treeOk w S cs (.node r x ks) ↔ _
 unfold treeOk
 constructor
 ·
  rintro ⟨A, n, c, xs, rfl, h1, h2, h3, h4⟩
  exact ⟨A, n, c, rfl, xs, h1, h2, h3, treesOk.cells.1 h4⟩
 ·
  rintro ⟨A, n, c, rfl, xs, h1, h2, h3, h4⟩
  exact ⟨A, n, c, xs, rfl, h1, h2, h3, treesOk.cells.2 h4⟩
theorem tree_at {A : Option Addr} {n c k : Nat} {l : List TreeD} (h : Sl RTree w S A n c l) (hk : k < n) :
    ∃ b off A' m c' t, A = some ⟨b, off, none⟩ ∧ S b ∧ b < w.heap.size ∧ w.cell? ⟨b, off + k * 3, none⟩ = some (.int .i64 t.rule) ∧ w.cell? ⟨b, off + k * 3 + 1, none⟩ = some (.int .i64 t.term) ∧ w.cell? ⟨b, off + k * 3 + 2, none⟩ = some (.slice A' m c') ∧ l[k]? = some t ∧ Sl RTree w S A' m c' t.kids := by
 obtain ⟨xs, e1, e2, h3, h4⟩ := h
 subst e1
 have hg := h4.get hk
 have hl := h4.len
 rw [show RTree.size = 3 from rfl] at hg hl h3
 obtain ⟨b, off, e, hS, hc⟩ := h3.2 (by omega)
 have i1 : k * 3 < xs.length := by omega
 have i2 : k * 3 + 1 < xs.length := by omega
 have i3 : k * 3 + 2 < xs.length := by omega
 rw [List.drop_eq_getElem_cons i1, List.drop_eq_getElem_cons i2, List.drop_eq_getElem_cons i3] at hg
 obtain ⟨A', m, c', e2', hs⟩ := RTree.cells.1 hg
 simp only [List.take_succ_cons, List.take_zero, List.cons.injEq, and_true] at e2'
 obtain ⟨e3, e4, e5⟩ := e2'
 have c1 := hc _ _ (List.getElem?_eq_getElem i1)
 have c2 := hc _ _ (List.getElem?_eq_getElem i2)
 have c3 := hc _ _ (List.getElem?_eq_getElem i3)
 rw [e3] at c1
 rw [e4] at c2
 rw [e5] at c3
 exact ⟨b, off, A', m, c', l[k], e, hS, cell_lt c1, c1, by rw [Nat.add_assoc]; exact c2, by rw [Nat.add_assoc]; exact c3, List.getElem?_eq_getElem hk, hs⟩
end
end Go.Proofs.Ytbmcoamdfpegnaa
namespace Go.Proofs.Ytbmcoamdfpegnaa
section
variable {R : List RuleD} {N : Nat}
noncomputable def oN (R : List RuleD) (s : SymD) (n : Nat) : Nat := ofC (lenD R) (cN R) s n
end
end Go.Proofs.Ytbmcoamdfpegnaa
namespace Go.Proofs.Ytbmcoamdfpegnaa
mutual
def nodesT : TreeD → List TreeD
 | .node r x ks => .node r x ks :: nodesTs ks
def nodesTs : List TreeD → List TreeD
 | [] => []
 | t :: ts => nodesT t ++ nodesTs ts
end
theorem nodesT_eq (t : TreeD) : nodesT t = t :: nodesTs t.kids := by
 cases t
 rw [nodesT]
 rfl
theorem nodesTs_nil : nodesTs [] = [] := by rw [nodesTs]
theorem nodesTs_cons (t : TreeD) (ts : List TreeD) : nodesTs (t :: ts) = nodesT t ++ nodesTs ts := by rw [nodesTs]
theorem nodesTs_append : ∀ (l m : List TreeD), nodesTs (l ++ m) = nodesTs l ++ nodesTs m
 | [], m => by rw [nodesTs_nil]; rfl
 | t :: l, m => by rw [List.cons_append, nodesTs_cons, nodesTs_cons, nodesTs_append l m, List.append_assoc]
theorem nodesTs_step {l : List TreeD} {k : Nat} {x : TreeD} (h : l[k]? = some x) : nodesTs (l.take (k + 1)) = nodesTs (l.take k) ++ nodesT x := by
 obtain ⟨hk, rfl⟩ := List.getElem?_eq_some_iff.1 h
 rw [List.take_succ_eq_append_getElem hk, nodesTs_append, nodesTs_cons, nodesTs_nil, List.append_nil]
def sizeT (t : TreeD) : Nat := (nodesT t).length
def sizeTs (l : List TreeD) : Nat := (nodesTs l).length
theorem sizeT_eq (t : TreeD) : sizeT t = 1 + sizeTs t.kids := by
 unfold sizeT sizeTs
 rw [nodesT_eq, List.length_cons]
 omega
theorem sizeTs_nil : sizeTs [] = 0 := by unfold sizeTs; rw [nodesTs_nil]; rfl
theorem sizeTs_cons (t : TreeD) (l : List TreeD) : sizeTs (t :: l) = sizeT t + sizeTs l := by unfold sizeTs sizeT; rw [nodesTs_cons, List.length_append]
theorem sizeT_mem : ∀ {l : List TreeD} {x : TreeD}, x ∈ l → sizeT x ≤ sizeTs l
 | y :: l, x, h => by
  rw [sizeTs_cons]
  rcases List.mem_cons.1 h with rfl | h
  ·
   omega
  ·
   have := sizeT_mem h; omega
theorem sizeT_kid {t x : TreeD} (h : x ∈ t.kids) : sizeT x < sizeT t := by
 rw [sizeT_eq t]
 have := sizeT_mem h
 omega
def wordOf (l : List TreeD) : List Int := (l.filter fun x => decide (x.rule = -1)).map TreeD.term
theorem wordOf_append (l m : List TreeD) : wordOf (l ++ m) = wordOf l ++ wordOf m := by unfold wordOf; rw [List.filter_append, List.map_append]
def rulesT (t : TreeD) : List Int := (nodesT t).map TreeD.rule
def wordT (t : TreeD) : List Int := wordOf (nodesT t)
def wordTs (l : List TreeD) : List Int := wordOf (nodesTs l)
theorem wordTs_nil : wordTs [] = [] := by unfold wordTs; rw [nodesTs_nil]; rfl
theorem wordTs_cons (t : TreeD) (l : List TreeD) : wordTs (t :: l) = wordT t ++ wordTs l := by unfold wordTs wordT; rw [nodesTs_cons, wordOf_append]
theorem wordT_leaf (c : Int) : wordT (.node (-1) c []) = [c] := by unfold wordT; rw [nodesT, nodesTs]; rfl
theorem wordT_node (k : Nat) (x : Int) (ts : List TreeD) : wordT (.node (k : Int) x ts) = wordTs ts := by
 unfold wordT wordTs
 rw [nodesT]
 unfold wordOf
 rw [List.filter_cons_of_neg]
 intro h
 have h2 : (k : Int) = -1 := of_decide_eq_true h
 omega
mutual
inductive TV (R : List RuleD) : SymD → TreeD → Prop
 | leaf {c : Int} : TV R (true, c) (.node (-1) c [])
 | node {k : Nat} {r : RuleD} {ts : List TreeD} : R[k]? = some r → TVL R r.2 ts → TV R (false, r.1) (.node (k : Int) 0 ts)
inductive TVL (R : List RuleD) : List SymD → List TreeD → Prop
 | nil : TVL R [] []
 | cons {s : SymD} {l : List SymD} {t : TreeD} {ts : List TreeD} : TV R s t → TVL R l ts → TVL R (s :: l) (t :: ts)
end
section
variable {R : List RuleD} {N : Nat}
theorem TV.inv {s : SymD} {t : TreeD} (h : TV R s t) : (∃ c, s = (true, c) ∧ t = .node (-1) c []) ∨ ∃ (k : Nat) (r : RuleD) (ts : List TreeD), s = (false, r.1) ∧ t = .node (k : Int) 0 ts ∧ R[k]? = some r ∧ TVL R r.2 ts := by
 cases h with
 | leaf => exact Or.inl ⟨_, rfl, rfl⟩
 | node h1 h2 => exact Or.inr ⟨_, _, _, rfl, rfl, h1, h2⟩
theorem TVL.inv {s : SymD} {l : List SymD} {ts : List TreeD} (h : TVL R (s :: l) ts) : ∃ t ts', ts = t :: ts' ∧ TV R s t ∧ TVL R l ts' := by
 cases h with
 | cons h1 h2 => exact ⟨_, _, rfl, h1, h2⟩
theorem TVL.inv_nil {ts : List TreeD} (h : TVL R [] ts) : ts = [] := by
 cases h
 rfl
theorem TVL.len : ∀ {l : List SymD} {ts : List TreeD}, TVL R l ts → ts.length = l.length
 | [], ts, h => by rw [h.inv_nil]; rfl
 | s :: l, ts, h => by
  obtain ⟨t, ts', rfl, _, h2⟩ := h.inv
  rw [List.length_cons, List.length_cons, TVL.len h2]
theorem TVL.get : ∀ {l : List SymD} {ts : List TreeD} {k : Nat} {t : TreeD}, TVL R l ts → ts[k]? = some t → ∃ s, l[k]? = some s ∧ TV R s t
 | [], ts, k, t, h, hk => by rw [h.inv_nil] at hk; simp at hk
 | s :: l, ts, k, t, h, hk => by
  obtain ⟨t', ts', rfl, h1, h2⟩ := h.inv
  cases k with
  | zero => exact ⟨s, rfl, by simp only [List.getElem?_cons_zero, Option.some.injEq] at hk; rw [← hk]; exact h1⟩
  | succ k => exact TVL.get (k := k) h2 (by simpa using hk)
theorem TVL.mem {l : List SymD} {ts : List TreeD} {t : TreeD} (h : TVL R l ts) (ht : t ∈ ts) : ∃ s, s ∈ l ∧ TV R s t := by
 obtain ⟨k, hk⟩ := List.getElem?_of_mem ht
 obtain ⟨s, h1, h2⟩ := h.get hk
 exact ⟨s, List.mem_of_getElem? h1, h2⟩
theorem TV.kid {s : SymD} {t x : TreeD} (h : TV R s t) (hx : x ∈ t.kids) : ∃ s', TV R s' x := by
 rcases h.inv with ⟨c, rfl, rfl⟩ | ⟨k, r, ts, rfl, rfl, h1, h2⟩
 ·
  cases hx
 ·
  obtain ⟨s', _, h3⟩ := h2.mem hx
  exact ⟨s', h3⟩
theorem TV.leafy {s : SymD} {t : TreeD} (h : TV R s t) (hr : t.rule = -1) : t.kids = [] := by
 rcases h.inv with ⟨c, rfl, rfl⟩ | ⟨k, r, ts, rfl, rfl, h1, h2⟩
 ·
  rfl
 ·
  exfalso
  have : (k : Int) = -1 := hr
  omega
end
end Go.Proofs.Ytbmcoamdfpegnaa
namespace Go.Proofs.Ytbmcoamdfpegnaa
def LgS (R : List RuleD) (s : SymD) (w : List Int) : Prop := ∃ t, TV R s t ∧ wordT t = w
def LgL (R : List RuleD) (l : List SymD) (w : List Int) : Prop := ∃ ts, TVL R l ts ∧ wordTs ts = w
section
variable {R : List RuleD}
theorem LgS.term {c : Int} {w : List Int} : LgS R (true, c) w ↔ w = [c] := by
 constructor
 ·
  rintro ⟨t, h, rfl⟩
  rcases h.inv with ⟨c', e, rfl⟩ | ⟨k, r, ts, e, _⟩
  ·
   injection e with _ e
   rw [e, wordT_leaf]
  ·
   cases e
 ·
  rintro rfl
  exact ⟨_, .leaf, wordT_leaf c⟩
theorem LgS.non {a : Int} {w : List Int} : LgS R (false, a) w ↔ ∃ r ∈ R, r.1 = a ∧ LgL R r.2 w := by
 constructor
 ·
  rintro ⟨t, h, rfl⟩
  rcases h.inv with ⟨c', e, rfl⟩ | ⟨k, r, ts, e, rfl, hk, ht⟩
  ·
   cases e
  ·
   injection e with _ e
   exact ⟨r, List.mem_of_getElem? hk, e.symm, ts, ht, (wordT_node k 0 ts).symm⟩
 ·
  rintro ⟨r, hr, rfl, ts, ht, rfl⟩
  obtain ⟨k, hk⟩ := List.getElem?_of_mem hr
  exact ⟨_, .node hk ht, wordT_node k 0 ts⟩
theorem LgL.nil {w : List Int} : LgL R [] w ↔ w = [] := by
 constructor
 ·
  rintro ⟨ts, h, rfl⟩
  rw [h.inv_nil, wordTs_nil]
 ·
  rintro rfl
  exact ⟨[], .nil, wordTs_nil⟩
theorem LgL.cons {s : SymD} {l : List SymD} {w : List Int} : LgL R (s :: l) w ↔ ∃ u v, w = u ++ v ∧ LgS R s u ∧ LgL R l v := by
 constructor
 ·
  rintro ⟨ts, h, rfl⟩
  obtain ⟨t, ts', rfl, h1, h2⟩ := h.inv
  exact ⟨_, _, wordTs_cons t ts', ⟨t, h1, rfl⟩, ⟨ts', h2, rfl⟩⟩
 ·
  rintro ⟨u, v, rfl, ⟨t, h1, rfl⟩, ⟨ts, h2, rfl⟩⟩
  exact ⟨t :: ts, .cons h1 h2, wordTs_cons t ts⟩
theorem LgL.one {s : SymD} {w : List Int} : LgL R [s] w ↔ LgS R s w := by
 rw [LgL.cons]
 constructor
 ·
  rintro ⟨u, v, rfl, h1, h2⟩
  rw [LgL.nil.1 h2, List.append_nil]
  exact h1
 ·
  exact fun h => ⟨w, [], (List.append_nil w).symm, h, LgL.nil.2 rfl⟩
end
end Go.Proofs.Ytbmcoamdfpegnaa
namespace Go.Proofs.Ytbmcoamdfpegnaa
open Go.RowKit
def lmin : List Int → Int
 | [] => 0
 | a :: r => r.foldl min a
def lmax : List Int → Int
 | [] => 0
 | a :: r => r.foldl max a
theorem lmin_snoc (l : List Int) (x : Int) (h : 1 ≤ l.length) : lmin (l ++ [x]) = min (lmin l) x := by
 cases l with
 | nil => simp at h
 | cons a r => simp [lmin]
theorem lmax_snoc (l : List Int) (x : Int) (h : 1 ≤ l.length) : lmax (l ++ [x]) = max (lmax l) x := by
 cases l with
 | nil => simp at h
 | cons a r => simp [lmax]
theorem int_step {l : List Int} {k : Nat} {x : Int} (h : l[k]? = some x) : l.take (k + 1) = l.take k ++ [x] := by
 obtain ⟨hk, rfl⟩ := List.getElem?_eq_some_iff.1 h
 exact List.take_succ_eq_append_getElem hk
theorem Rd.int_at {w : World} {S : Nat → Prop} {A : Option Addr} {n k : Nat} {l : List Int} (h : Rd w S 1 A n (l.map (Value.int .i64))) (hk : k < n) :
    ∃ b off x, A = some ⟨b, off, none⟩ ∧ S b ∧ l[k]? = some x ∧ w.cell? ⟨b, off + k, none⟩ = some (.int .i64 x) := by
 obtain ⟨b, off, u, e, hb, hx, hc⟩ := h.at_ hk
 rw [List.getElem?_map] at hx
 obtain ⟨x, h1, rfl⟩ := Option.map_eq_some_iff.1 hx
 exact ⟨b, off, x, e, hb, h1, hc⟩
set_option maxHeartbeats 1000000 in
theorem minInt (A : Option Addr) (n c : Nat) (S : Nat → Prop) (l : List Int) (w : World) (hr : Rd w S 1 A n (l.map (Value.int .i64))) (h0 : 0 < n) (hn : n ≤ 1000000000000) :
    Calls Try.prog 76 #[.slice A n c] w fun e w' => e = .returned (.int .i64 (lmin l)) ∧ w = w' := by
 obtain ⟨b, off, x, rfl, _, hx, hcell⟩ := hr.int_at h0
 have hl : l.length = n := by simpa using hr.1
 have h1 : lmin (l.take 1) = x := by rw [int_step hx]; rfl
 have HR := Lib.hid hr
 have HL := Lib.hid hl
 have H1 := Lib.hid h1
 rw [Nat.add_zero] at hcell
 clear hr hl hx h1
 go_enter Try.func76, Try.ntmps76
 go_wp2_with fail
 go_loop [3, 4] (fun t i => ∃ k : Nat, 1 ≤ k ∧ k ≤ n ∧ i = .int .i64 k ∧ t = .int .i64 (lmin (l.take k))) (fun _ i => n - (intOf i).toNat)
 case atStart => exact ⟨1, by omega, by omega, by go_num, by rw [H1.out]⟩
 case round =>
  obtain ⟨k, hk1, hk, rfl, rfl⟩ := hrel
  clear hcell
  by_cases hlt : k < n
  ·
   obtain ⟨b', off', y, e, _, hy, hcell⟩ := HR.out.int_at hlt
   injection e with e
   injection e with e1 e2
   subst e1
   subst e2
   have hs : lmin (l.take (k + 1)) = min (lmin (l.take k)) y := by rw [int_step hy, lmin_snoc _ _ (by rw [List.length_take, HL.out]; omega)]
   have HS := Lib.hid hs
   clear hs hy
   generalize lmin (l.take k) = q at *
   go_wp2_with fail
   go_round
   case rel => exact ⟨k + 1, by omega, by omega, by go_num, by rw [HS.out]; congr 1; split <;> omega⟩
   case measure => simp [intOf]; omega
  ·
   obtain rfl : k = n := by omega
   go_wp2_with fail
   go_ret
   exact ⟨ret_int (by rw [List.take_of_length_le (by rw [HL.out]; omega)]), rfl⟩
set_option maxHeartbeats 1000000 in
theorem maxInt (A : Option Addr) (n c : Nat) (S : Nat → Prop) (l : List Int) (w : World) (hr : Rd w S 1 A n (l.map (Value.int .i64))) (h0 : 0 < n) (hn : n ≤ 1000000000000) :
    Calls Try.prog 77 #[.slice A n c] w fun e w' => e = .returned (.int .i64 (lmax l)) ∧ w = w' := by
 obtain ⟨b, off, x, rfl, _, hx, hcell⟩ := hr.int_at h0
 have hl : l.length = n := by simpa using hr.1
 have h1 : lmax (l.take 1) = x := by rw [int_step hx]; rfl
 have HR := Lib.hid hr
 have HL := Lib.hid hl
 have H1 := Lib.hid h1
 rw [Nat.add_zero] at hcell
 clear hr hl hx h1
 go_enter Try.func77, Try.ntmps77
 go_wp2_with fail
 go_loop [3, 4] (fun t i => ∃ k : Nat, 1 ≤ k ∧ k ≤ n ∧ i = .int .i64 k ∧ t = .int .i64 (lmax (l.take k))) (fun _ i => n - (intOf i).toNat)
 case atStart => exact ⟨1, by omega, by omega, by go_num, by rw [H1.out]⟩
 case round =>
  obtain ⟨k, hk1, hk, rfl, rfl⟩ := hrel
  clear hcell
  by_cases hlt : k < n
  ·
   obtain ⟨b', off', y, e, _, hy, hcell⟩ := HR.out.int_at hlt
   injection e with e
   injection e with e1 e2
   subst e1
   subst e2
   have hs : lmax (l.take (k + 1)) = max (lmax (l.take k)) y := by rw [int_step hy, lmax_snoc _ _ (by rw [List.length_take, HL.out]; omega)]
   have HS := Lib.hid hs
   clear hs hy
   generalize lmax (l.take k) = q at *
   go_wp2_with fail
   go_round
   case rel => exact ⟨k + 1, by omega, by omega, by go_num, by rw [HS.out]; congr 1; split <;> omega⟩
   case measure => simp [intOf]; omega
  ·
   obtain rfl : k = n := by omega
   go_wp2_with fail
   go_ret
   exact ⟨ret_int (by rw [List.take_of_length_le (by rw [HL.out]; omega)]), rfl⟩
end Go.Proofs.Ytbmcoamdfpegnaa
