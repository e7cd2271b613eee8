/- Derivation trees as data. -/
import Derived.Test.YtfkapijfjihiiaaRep2
namespace Go.Proofs.Ytfkapijfjihiiaa
open Go.RowKit

/-- a tree: its rule, its terminal, its subtrees -/
inductive TreeD where
  | node (rule term : Int) (kids : List TreeD) : TreeD
def TreeD.rule : TreeD → Int
  | .node r _ _ => r
def TreeD.term : TreeD → Int
  | .node _ t _ => t
def TreeD.kids : TreeD → List TreeD
  | .node _ _ k => k
mutual
def treeOk (w : World) (S : Nat → Prop) : List Value → TreeD → Prop
  | cs, .node r t ks => ∃ A n c xs, cs = [.int .i64 r, .int .i64 t, .slice A n c] ∧ n = ks.length ∧ n ≤ c ∧ Rd w S 3 A n xs ∧ treesOk w S xs ks
def treesOk (w : World) (S : Nat → Prop) : List Value → List TreeD → Prop
  | xs, [] => xs = []
  | xs, t :: ts => ∃ cs rest, xs = cs ++ rest ∧ treeOk w S cs t ∧ treesOk w S rest ts
end
section
variable {w w' : World} {S S' : Nat → Prop}
theorem treeOk.len {cs : List Value} : ∀ {t : TreeD}, treeOk w S cs t → cs.length = 3
  | .node r t ks, h => by
    unfold treeOk at h
    obtain ⟨A, n, c, xs, rfl, _⟩ := h
    rfl
theorem treeOk.one {cs : List Value} : ∀ {t : TreeD}, treeOk w S cs t → ∀ u ∈ cs, u.oneCell' = true
  | .node r t ks, h => by
    unfold treeOk at h
    obtain ⟨A, n, c, xs, rfl, _⟩ := h
    intro u hu
    simp only [List.mem_cons, List.not_mem_nil, or_false] at hu
    rcases hu with rfl | rfl | rfl <;> rfl
mutual
theorem treeOk.keep (hk : Kept S w w') : ∀ {t : TreeD} {cs : List Value}, treeOk w S cs t → treeOk w' S cs t
  | .node r t ks, cs, h => by
    unfold treeOk at h ⊢
    obtain ⟨A, n, c, xs, rfl, h1, h2, h3, h4⟩ := h
    exact ⟨A, n, c, xs, rfl, h1, h2, h3.keep hk, treesOk.keep hk h4⟩
theorem treesOk.keep (hk : Kept S w w') : ∀ {ts : List TreeD} {xs : List Value}, treesOk w S xs ts → treesOk w' S xs ts
  | [], xs, h => by
    unfold treesOk at h ⊢
    exact h
  | t :: ts, xs, h => by
    unfold treesOk at h ⊢
    obtain ⟨cs, rest, rfl, h1, h2⟩ := h
    exact ⟨cs, rest, rfl, treeOk.keep hk h1, treesOk.keep hk h2⟩
end
mutual
theorem treeOk.more (hS : ∀ b, S b → S' b) : ∀ {t : TreeD} {cs : List Value}, treeOk w S cs t → treeOk w S' cs t
  | .node r t ks, cs, h => by
    unfold treeOk at h ⊢
    obtain ⟨A, n, c, xs, rfl, h1, h2, h3, h4⟩ := h
    exact ⟨A, n, c, xs, rfl, h1, h2, h3.more hS, treesOk.more hS h4⟩
theorem treesOk.more (hS : ∀ b, S b → S' b) : ∀ {ts : List TreeD} {xs : List Value}, treesOk w S xs ts → treesOk w S' xs ts
  | [], xs, h => by
    unfold treesOk at h ⊢
    exact h
  | t :: ts, xs, h => by
    unfold treesOk at h ⊢
    obtain ⟨cs, rest, rfl, h1, h2⟩ := h
    exact ⟨cs, rest, rfl, treeOk.more hS h1, treesOk.more hS h2⟩
end
mutual
theorem treeOk.fit : ∀ {t : TreeD} {cs : List Value}, treeOk w S cs t → treeOk w (fun b => S b ∧ b < w.heap.size) cs t
  | .node r t ks, cs, h => by
    unfold treeOk at h ⊢
    obtain ⟨A, n, c, xs, rfl, h1, h2, h3, h4⟩ := h
    exact ⟨A, n, c, xs, rfl, h1, h2, h3.fit (by decide), treesOk.fit h4⟩
theorem treesOk.fit : ∀ {ts : List TreeD} {xs : List Value}, treesOk w S xs ts → treesOk w (fun b => S b ∧ b < w.heap.size) xs ts
  | [], xs, h => by
    unfold treesOk at h ⊢
    exact h
  | t :: ts, xs, h => by
    unfold treesOk at h ⊢
    obtain ⟨cs, rest, rfl, h1, h2⟩ := h
    exact ⟨cs, rest, rfl, treeOk.fit h1, treesOk.fit h2⟩
end
end
/-- a tree in memory -/
def RTree : Rep TreeD where
  size := 3
  ok := treeOk
  pos := by decide
  len := treeOk.len
  keep := fun h hk => treeOk.keep hk h
  more := fun h hS => treeOk.more hS h
  fit := treeOk.fit
  one := treeOk.one
section
variable {w : World} {S : Nat → Prop}
theorem treesOk.cells : ∀ {ts : List TreeD} {xs : List Value}, treesOk w S xs ts ↔ Cells RTree w S xs ts
  | [], xs => by unfold treesOk Cells; exact Iff.rfl
  | t :: ts, xs => by
    unfold treesOk Cells
    constructor
    · rintro ⟨cs, rest, e, h1, h2⟩; exact ⟨cs, rest, e, h1, treesOk.cells.1 h2⟩
    · rintro ⟨cs, rest, e, h1, h2⟩; exact ⟨cs, rest, e, h1, treesOk.cells.2 h2⟩
theorem RTree.cells {t : TreeD} {cs : List Value} : RTree.ok w S cs t ↔ ∃ A n c, cs = [.int .i64 t.rule, .int .i64 t.term, .slice A n c] ∧ Sl RTree w S A n c t.kids := by
  obtain ⟨r, x, ks⟩ := t
  show treeOk w S cs (.node r x ks) ↔ _
  unfold treeOk
  constructor
  · rintro ⟨A, n, c, xs, rfl, h1, h2, h3, h4⟩
    exact ⟨A, n, c, rfl, xs, h1, h2, h3, treesOk.cells.1 h4⟩
  · rintro ⟨A, n, c, rfl, xs, h1, h2, h3, h4⟩
    exact ⟨A, n, c, xs, rfl, h1, h2, h3, treesOk.cells.2 h4⟩
/-- the k-th element of a slice of trees -/
theorem tree_at {A : Option Addr} {n c k : Nat} {l : List TreeD} (h : Sl RTree w S A n c l) (hk : k < n) :
    ∃ b off A' m c' t, A = some ⟨b, off, none⟩ ∧ S b ∧ b < w.heap.size ∧ w.cell? ⟨b, off + k * 3, none⟩ = some (.int .i64 t.rule) ∧ w.cell? ⟨b, off + k * 3 + 1, none⟩ = some (.int .i64 t.term) ∧ w.cell? ⟨b, off + k * 3 + 2, none⟩ = some (.slice A' m c') ∧ l[k]? = some t ∧ Sl RTree w S A' m c' t.kids := by
  obtain ⟨xs, e1, e2, h3, h4⟩ := h
  subst e1
  have hg := h4.get hk
  have hl := h4.len
  rw [show RTree.size = 3 from rfl] at hg hl h3
  obtain ⟨b, off, e, hS, hc⟩ := h3.2 (by omega)
  have i1 : k * 3 < xs.length := by omega
  have i2 : k * 3 + 1 < xs.length := by omega
  have i3 : k * 3 + 2 < xs.length := by omega
  rw [List.drop_eq_getElem_cons i1, List.drop_eq_getElem_cons i2, List.drop_eq_getElem_cons i3] at hg
  obtain ⟨A', m, c', e2', hs⟩ := RTree.cells.1 hg
  simp only [List.take_succ_cons, List.take_zero, List.cons.injEq, and_true] at e2'
  obtain ⟨e3, e4, e5⟩ := e2'
  have c1 := hc _ _ (List.getElem?_eq_getElem i1)
  have c2 := hc _ _ (List.getElem?_eq_getElem i2)
  have c3 := hc _ _ (List.getElem?_eq_getElem i3)
  rw [e3] at c1
  rw [e4] at c2
  rw [e5] at c3
  exact ⟨b, off, A', m, c', l[k], e, hS, cell_lt c1, c1, by rw [Nat.add_assoc]; exact c2, by rw [Nat.add_assoc]; exact c3, List.getElem?_eq_getElem hk, hs⟩
end
end Go.Proofs.Ytfkapijfjihiiaa
