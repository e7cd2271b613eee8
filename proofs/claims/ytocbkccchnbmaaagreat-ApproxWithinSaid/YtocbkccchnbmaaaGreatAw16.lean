/- ApxNf -/
import Derived.Test.YtocbkccchnbmaaaGreatAw13
import Derived.Test.YtocbkccchnbmaaaGreatAw14
import Derived.Test.YtocbkccchnbmaaaGreatAw15
namespace Go.Proofs.YtocbkccchnbmaaaGreat
structure NfD where
 nodes : Nat
 eps : List (Nat × Nat)
 edges : List (Nat × Int × Nat)
structure NetOk (R : List RuleD) (cf : Int → CompD) (N : Nat) (rk : Int → Nat) : Prop where
 low : ∀ (n : Int) (p : PathD) (s : SymD), 0 ≤ n ∧ n < N → p ∈ netP R (cf n) n → s ∈ p.2.2 → s.1 = false → (0 ≤ s.2 ∧ s.2 < N) ∧ rk s.2 < rk n
 rk1 : ∀ n : Int, 0 ≤ n ∧ n < N → 1 ≤ rk n ∧ rk n ≤ N
 frm : ∀ (n : Int) (p : PathD), 0 ≤ n ∧ n < N → p ∈ netP R (cf n) n → p.1 = -1 ∨ (0 ≤ p.1 ∧ p.1 < netN (cf n))
 dst : ∀ (n : Int) (p : PathD), 0 ≤ n ∧ n < N → p ∈ netP R (cf n) n → p.2.1 = -2 ∨ (0 ≤ p.2.1 ∧ p.2.1 < netN (cf n))
 pos : ∀ n : Int, 0 ≤ n ∧ n < N → 1 ≤ netN (cf n)
def symSz (rec : Int → Nat) (n : Nat) (s : SymD) : Nat := if s.1 then n else min (n + rec s.2) 2000
def pathSz (rec : Int → Nat) (n : Nat) (p : PathD) : Nat := p.2.2.foldl (symSz rec) (n + (p.2.2.length - 1))
def netSz (R : List RuleD) (cf : Int → CompD) (rec : Int → Nat) (n : Int) : Nat := (netP R (cf n) n).foldl (pathSz rec) (netN (cf n))
def sizeF (R : List RuleD) (cf : Int → CompD) : Nat → Int → Nat
 | 0, _ => 0
 | f + 1, n => netSz R cf (sizeF R cf f) n
abbrev RecB := Int → Nat → Nat → NfD → NfD
def putB (rec : RecB) (x y : Nat) (s : SymD) (st : NfD) : NfD := if s.1 then { st with edges := st.edges ++ [(x, s.2, y)] } else rec s.2 x y st
def symB (rec : RecB) (m last : Nat) (a : Nat × NfD) (i : Nat) (s : SymD) : Nat × NfD :=
 if i + 1 < m then (a.2.nodes, putB rec a.1 a.2.nodes s { a.2 with nodes := a.2.nodes + 1 }) else (last, putB rec a.1 last s a.2)
def symsB (rec : RecB) (last : Nat) (l : List SymD) (a : Nat × NfD) : Nat → Nat × NfD
 | 0 => a
 | i + 1 => match l[i]? with
  | none => symsB rec last l a i
  | some s => symB rec l.length last (symsB rec last l a i) i s
def ndAt (first frm dst : Nat) (x : Int) : Nat := if x = -1 then frm else if x = -2 then dst else first + x.toNat
def pathB (rec : RecB) (first frm dst : Nat) (st : NfD) (p : PathD) : NfD :=
 if p.2.2 = [] then { st with eps := st.eps ++ [(ndAt first frm dst p.1, ndAt first frm dst p.2.1)] } else (symsB rec (ndAt first frm dst p.2.1) p.2.2 (ndAt first frm dst p.1, st) p.2.2.length).2
def netB (R : List RuleD) (cf : Int → CompD) (rec : RecB) : RecB := fun n frm dst st => (netP R (cf n) n).foldl (pathB rec st.nodes frm dst) { st with nodes := st.nodes + netN (cf n) }
def buildF (R : List RuleD) (cf : Int → CompD) : Nat → RecB
 | 0 => fun _ _ _ st => st
 | f + 1 => netB R cf (buildF R cf f)
theorem foldl_same {α β : Type} {f g : α → β → α} : ∀ {l : List β} {a : α}, (∀ a x, x ∈ l → f a x = g a x) → l.foldl f a = l.foldl g a
 | [], _, _ => rfl
 | x :: l, a, h => by
  rw [List.foldl_cons, List.foldl_cons, h a x List.mem_cons_self]
  exact foldl_same fun a y hy => h a y (List.mem_cons_of_mem _ hy)
theorem pathSz_same {g h : Int → Nat} {n : Nat} {p : PathD} (e : ∀ s ∈ p.2.2, s.1 = false → g s.2 = h s.2) : pathSz g n p = pathSz h n p := by
 unfold pathSz
 refine foldl_same fun a s hs => ?_
 unfold symSz
 by_cases h1 : s.1 = true
 ·
  rw [if_pos h1, if_pos h1]
 ·
  rw [if_neg h1, if_neg h1, e s hs (by simpa using h1)]
theorem symsB_same {g h : RecB} {last : Nat} {l : List SymD} (e : ∀ s ∈ l, s.1 = false → g s.2 = h s.2) (a : Nat × NfD) : ∀ i, symsB g last l a i = symsB h last l a i
 | 0 => rfl
 | i + 1 => by
  unfold symsB
  rw [symsB_same e a i]
  cases hs : l[i]? with
  | none => rfl
  | some s =>
   have hp : ∀ x y st, putB g x y s st = putB h x y s st := fun x y st => by
    unfold putB
    by_cases h1 : s.1 = true
    ·
     rw [if_pos h1, if_pos h1]
    ·
     rw [if_neg h1, if_neg h1, e s (List.mem_of_getElem? hs) (by simpa using h1)]
   simp only [symB, hp]
theorem pathB_same {g h : RecB} {first frm dst : Nat} {st : NfD} {p : PathD} (e : ∀ s ∈ p.2.2, s.1 = false → g s.2 = h s.2) : pathB g first frm dst st p = pathB h first frm dst st p := by
 unfold pathB
 rw [symsB_same e]
section
variable {R : List RuleD} {cf : Int → CompD} {N : Nat} {rk : Int → Nat}
theorem sizeF_same (H : NetOk R cf N rk) : ∀ (f f' : Nat) (n : Int), 0 ≤ n ∧ n < N → rk n ≤ f → rk n ≤ f' → sizeF R cf f n = sizeF R cf f' n
 | 0, _, n, hn, h, _ => by have := (H.rk1 n hn).1; omega
 | _, 0, n, hn, _, h => by have := (H.rk1 n hn).1; omega
 | f + 1, f' + 1, n, hn, h, h' => by
  unfold sizeF netSz
  refine foldl_same fun a p hp => pathSz_same fun s hs h1 => ?_
  obtain ⟨hr, hl⟩ := H.low n p s hn hp hs h1
  exact sizeF_same H f f' s.2 hr (by omega) (by omega)
theorem buildF_same (H : NetOk R cf N rk) : ∀ (f f' : Nat) (n : Int), 0 ≤ n ∧ n < N → rk n ≤ f → rk n ≤ f' → buildF R cf f n = buildF R cf f' n
 | 0, _, n, hn, h, _ => by have := (H.rk1 n hn).1; omega
 | _, 0, n, hn, _, h => by have := (H.rk1 n hn).1; omega
 | f + 1, f' + 1, n, hn, h, h' => by
  unfold buildF netB
  funext frm dst st
  refine foldl_same fun a p hp => pathB_same fun s hs h1 => ?_
  obtain ⟨hr, hl⟩ := H.low n p s hn hp hs h1
  exact buildF_same H f f' s.2 hr (by omega) (by omega)
def sizeN (R : List RuleD) (cf : Int → CompD) (N : Nat) (n : Int) : Nat := sizeF R cf N n
def buildN (R : List RuleD) (cf : Int → CompD) (N : Nat) : RecB := buildF R cf N
theorem sizeN_eq (H : NetOk R cf N rk) {n : Int} (hn : 0 ≤ n ∧ n < N) : sizeN R cf N n = netSz R cf (sizeN R cf N) n := by
 have h1 := H.rk1 n hn
 unfold sizeN
 obtain ⟨M, rfl⟩ : ∃ M, N = M + 1 := ⟨N - 1, by omega⟩
 conv => lhs; unfold sizeF
 unfold netSz
 refine foldl_same fun a p hp => pathSz_same fun s hs h2 => ?_
 obtain ⟨hr, hl⟩ := H.low n p s hn hp hs h2
 have := H.rk1 s.2 hr
 exact sizeF_same H _ _ s.2 hr (by omega) (by omega)
theorem buildN_eq (H : NetOk R cf N rk) {n : Int} (hn : 0 ≤ n ∧ n < N) : buildN R cf N n = netB R cf (buildN R cf N) n := by
 have h1 := H.rk1 n hn
 unfold buildN
 obtain ⟨M, rfl⟩ : ∃ M, N = M + 1 := ⟨N - 1, by omega⟩
 conv => lhs; unfold buildF
 unfold netB
 funext frm dst st
 refine foldl_same fun a p hp => pathB_same fun s hs h2 => ?_
 obtain ⟨hr, hl⟩ := H.low n p s hn hp hs h2
 have := H.rk1 s.2 hr
 exact buildF_same H _ _ s.2 hr (by omega) (by omega)
end
structure Ext (a b : NfD) : Prop where
 nodes : a.nodes ≤ b.nodes
 eps : ∀ x ∈ a.eps, x ∈ b.eps
 edges : ∀ x ∈ a.edges, x ∈ b.edges
theorem Ext.refl (a : NfD) : Ext a a := ⟨Nat.le_refl _, fun _ h => h, fun _ h => h⟩
theorem Ext.trans {a b c : NfD} (h : Ext a b) (h' : Ext b c) : Ext a c := ⟨Nat.le_trans h.nodes h'.nodes, fun x hx => h'.eps x (h.eps x hx), fun x hx => h'.edges x (h.edges x hx)⟩
structure NfOk (T : Nat) (a : NfD) : Prop where
 eps : ∀ x ∈ a.eps, x.1 < a.nodes ∧ x.2 < a.nodes
 edges : ∀ x ∈ a.edges, x.1 < a.nodes ∧ x.2.2 < a.nodes ∧ 0 ≤ x.2.1 ∧ x.2.1 < T
structure Adds (T k z : Nat) (a b : NfD) : Prop where
 ext : Ext a b
 ok : NfOk T a → NfOk T b
 few : b.eps.length + b.edges.length + 600 * a.nodes ≤ a.eps.length + a.edges.length + 600 * b.nodes + k
 size : z < 2000 → b.nodes = a.nodes + z
section
variable {T k k' z z' : Nat} {a b c : NfD}
theorem Adds.refl (T : Nat) (a : NfD) : Adds T 0 0 a a := ⟨.refl a, id, by omega, fun _ => rfl⟩
theorem Adds.trans (h : Adds T k z a b) (h' : Adds T k' z' b c) : Adds T (k + k') (z + z') a c :=
 ⟨h.ext.trans h'.ext, fun x => h'.ok (h.ok x), by have := h.few; have := h'.few; omega, fun hz => by rw [h'.size (by omega), h.size (by omega)]; omega⟩
theorem Adds.more (h : Adds T k z a b) (hk : k ≤ k') (hz : z' < 2000 → z = z') : Adds T k' z' a b := ⟨h.ext, h.ok, by have := h.few; omega, fun e => by have := hz e; rw [h.size (by omega), this]⟩
theorem Adds.nodes (T : Nat) (a : NfD) (n : Nat) : Adds T 0 n a { a with nodes := a.nodes + n } :=
 ⟨⟨by simp, fun _ h => h, fun _ h => h⟩, fun h => ⟨fun x hx => by have := h.eps x hx; simp; omega, fun x hx => by have := h.edges x hx; simp; omega⟩, by simp; omega, fun _ => rfl⟩
theorem Adds.edge {x y : Nat} {s : Int} (hx : x < a.nodes) (hy : y < a.nodes) (hs : 0 ≤ s ∧ s < T) : Adds T 1 0 a { a with edges := a.edges ++ [(x, s, y)] } :=
 ⟨⟨Nat.le_refl _, fun _ h => h, fun _ h => List.mem_append_left _ h⟩, fun h => ⟨h.eps, fun e he => by
  rcases List.mem_append.1 he with he | he
  ·
   exact h.edges e he
  ·
   rw [List.mem_singleton.1 he]; exact ⟨hx, hy, hs⟩⟩, by simp; omega, fun _ => rfl⟩
theorem Adds.empty {x y : Nat} (hx : x < a.nodes) (hy : y < a.nodes) : Adds T 1 0 a { a with eps := a.eps ++ [(x, y)] } :=
 ⟨⟨Nat.le_refl _, fun _ h => List.mem_append_left _ h, fun _ h => h⟩, fun h => ⟨fun e he => by
  rcases List.mem_append.1 he with he | he
  ·
   exact h.eps e he
  ·
   rw [List.mem_singleton.1 he]; exact ⟨hx, hy⟩, h.edges⟩, by simp; omega, fun _ => rfl⟩
end
def addSz (rec : Int → Nat) (l : List SymD) : Nat := (l.map fun s => if s.1 then 0 else rec s.2).sum
theorem addSz_cons (rec : Int → Nat) (s : SymD) (l : List SymD) : addSz rec (s :: l) = (if s.1 then 0 else rec s.2) + addSz rec l := by simp [addSz]
theorem addSz_succ {rec : Int → Nat} {l : List SymD} {i : Nat} {s : SymD} (h : l[i]? = some s) : addSz rec (l.take (i + 1)) = addSz rec (l.take i) + if s.1 then 0 else rec s.2 := by
 unfold addSz
 rw [List.take_add_one, h, List.map_append, List.sum_append]
 simp
theorem symSz_ge {rec : Int → Nat} : ∀ {l : List SymD} {a : Nat}, 2000 ≤ a → 2000 ≤ l.foldl (symSz rec) a
 | [], _, h => h
 | s :: l, a, h => by
  refine symSz_ge (l := l) ?_
  unfold symSz
  split <;> omega
theorem symSz_fold {rec : Int → Nat} : ∀ {l : List SymD} {a : Nat}, l.foldl (symSz rec) a < 2000 → l.foldl (symSz rec) a = a + addSz rec l
 | [], _, _ => rfl
 | s :: l, a, h => by
  rw [List.foldl_cons] at h ⊢
  rw [symSz_fold h, addSz_cons]
  have hlt : symSz rec a s < 2000 := by
   have := fun e => symSz_ge (rec := rec) (l := l) (a := symSz rec a s) e
   omega
  unfold symSz at hlt ⊢
  split
  ·
   omega
  ·
   rename_i h1
   rw [if_neg h1] at hlt
   omega
def pathZ (rec : Int → Nat) (p : PathD) : Nat := p.2.2.length - 1 + addSz rec p.2.2
theorem pathSz_ge {rec : Int → Nat} : ∀ {l : List PathD} {a : Nat}, 2000 ≤ a → 2000 ≤ l.foldl (pathSz rec) a
 | [], _, h => h
 | p :: l, a, h => pathSz_ge (l := l) (symSz_ge (by omega))
theorem pathSz_fold {rec : Int → Nat} : ∀ {l : List PathD} {a : Nat}, l.foldl (pathSz rec) a < 2000 → l.foldl (pathSz rec) a = a + (l.map (pathZ rec)).sum
 | [], _, _ => rfl
 | p :: l, a, h => by
  rw [List.foldl_cons] at h ⊢
  rw [pathSz_fold h]
  have hlt : pathSz rec a p < 2000 := by
   have := fun e => pathSz_ge (rec := rec) (l := l) (a := pathSz rec a p) e
   omega
  unfold pathSz at hlt ⊢
  rw [symSz_fold hlt, List.map_cons, List.sum_cons]
  unfold pathZ
  omega
def pathE (p : PathD) : Nat := p.2.2.length + 1
theorem selfP_tot (c : List Int) (own : Int) (l : List SymD) : ∀ i, i ≤ l.length → ((selfP c own l i).1.map pathE).sum ≤ 2 * (selfP c own l i).2.2
 | 0, _ => Nat.le_refl _
 | i + 1, hi => by
  have ih := selfP_tot c own l i (by omega)
  have hl := (selfP_len c own l i).2
  unfold selfP
  rw [List.getElem?_eq_getElem (by omega)]
  simp only
  split
  ·
   rw [List.map_append, List.sum_append]
   simp only [List.map_cons, List.map_nil, List.sum_cons, List.sum_nil, pathE, List.length_drop, List.length_take]
   omega
  ·
   exact ih
theorem netRule_tot (c : CompD) (r : RuleD) : ((netRule c r).map pathE).sum ≤ 2 * r.2.length + 1 := by
 unfold netRule
 split
 ·
  split
  ·
   simp [pathE]; omega
  ·
   split
   ·
    simp [pathE]; omega
   ·
    simp [pathE]; omega
 ·
  split
  ·
   split
   ·
    simp [pathE]; omega
   ·
    split
    ·
     simp [pathE]; omega
    ·
     simp [pathE]; omega
  ·
   have h1 := selfP_tot c.2 (plC c.2 r.1) r.2 r.2.length (Nat.le_refl _)
   have h2 := (selfP_len c.2 (plC c.2 r.1) r.2 r.2.length).2
   rw [List.map_append, List.sum_append]
   simp only [List.map_cons, List.map_nil, List.sum_cons, List.sum_nil, pathE, List.length_drop]
   omega
theorem netU_tot {R : List RuleD} {c : CompD} {x : Int} (hlen : ∀ r ∈ R, r.2.length ≤ 4) : ∀ k, ((netU R c x k).map pathE).sum ≤ 2 + 9 * k
 | 0 => by
  unfold netU netStart
  split
  ·
   simp [pathE]
  ·
   split <;> simp [pathE]
 | k + 1 => by
  have ih := netU_tot (c := c) (x := x) hlen k
  cases hr : R[k]? with
  | none =>
   have : netU R c x (k + 1) = netU R c x k := by unfold netU; rw [List.take_add_one, hr]; simp
   rw [this]; omega
  | some r =>
   rw [netU_succ hr, List.map_append, List.sum_append]
   have h1 := netRule_tot c r
   have h2 := hlen r (List.mem_of_getElem? hr)
   split
   ·
    omega
   ·
    simp; omega
def RecOk (T : Nat) (sz : Int → Nat) (rec : RecB) (l : List SymD) : Prop := ∀ s ∈ l, (s.1 = true → 0 ≤ s.2 ∧ s.2 < T) ∧ (s.1 = false → ∀ x y st, x < st.nodes → y < st.nodes → Adds T 0 (sz s.2) st (rec s.2 x y st))
theorem putB_adds {T : Nat} {sz : Int → Nat} {rec : RecB} {l : List SymD} (H : RecOk T sz rec l) {s : SymD} (hs : s ∈ l) {x y : Nat} {st : NfD} (hx : x < st.nodes) (hy : y < st.nodes) :
    Adds T 1 (if s.1 then 0 else sz s.2) st (putB rec x y s st) := by
 unfold putB
 cases h1 : s.1 with
 | true => exact Adds.edge hx hy ((H s hs).1 h1)
 | false => exact ((H s hs).2 h1 x y st hx hy).more (by omega) fun _ => rfl
theorem symsB_adds {T : Nat} {sz : Int → Nat} {rec : RecB} {l : List SymD} (H : RecOk T sz rec l) {x last : Nat} {st : NfD} (hx : x < st.nodes) (hl : last < st.nodes) :
    ∀ i, i ≤ l.length → (symsB rec last l (x, st) i).1 < (symsB rec last l (x, st) i).2.nodes ∧ Adds T i (min i (l.length - 1) + addSz sz (l.take i)) st (symsB rec last l (x, st) i).2
 | 0, _ => ⟨hx, (Adds.refl T st).more (Nat.le_refl _) fun _ => by simp [addSz]⟩
 | i + 1, hi => by
  obtain ⟨ih1, ih2⟩ := symsB_adds H hx hl i (by omega)
  have hs : l[i]? = some l[i] := List.getElem?_eq_getElem (by omega)
  have hm : l[i] ∈ l := List.getElem_mem _
  rw [addSz_succ hs]
  unfold symsB
  rw [hs]
  simp only
  generalize symsB rec last l (x, st) i = a at ih1 ih2
  generalize l[i] = s at hs hm
  unfold symB
  by_cases h1 : i + 1 < l.length
  ·
   rw [if_pos h1]
   have h2 := Adds.nodes T a.2 1
   have h3 := putB_adds H hm (x := a.1) (y := a.2.nodes) (st := { a.2 with nodes := a.2.nodes + 1 }) (by simp; omega) (by simp)
   refine ⟨?_, ((ih2.trans h2).trans h3).more (by omega) fun _ => by omega⟩
   have := h3.ext.nodes
   simp only at this ⊢
   omega
  ·
   rw [if_neg h1]
   have hlt : last < a.2.nodes := Nat.lt_of_lt_of_le hl ih2.ext.nodes
   have h3 := putB_adds H hm (x := a.1) (y := last) (st := a.2) ih1 hlt
   exact ⟨Nat.lt_of_lt_of_le hlt h3.ext.nodes, (ih2.trans h3).more (by omega) fun _ => by omega⟩
theorem ndAt_lt {first frm dst m n : Nat} {x : Int} (h1 : frm < n) (h2 : dst < n) (h3 : first + m ≤ n) (h : (x = -1 ∨ x = -2) ∨ (0 ≤ x ∧ x < m)) : ndAt first frm dst x < n := by
 unfold ndAt
 split
 ·
  exact h1
 ·
  split
  ·
   exact h2
  ·
   omega
theorem pathB_adds {T : Nat} {sz : Int → Nat} {rec : RecB} {first frm dst : Nat} {st : NfD} {p : PathD} (H : RecOk T sz rec p.2.2) (hx : ndAt first frm dst p.1 < st.nodes) (hy : ndAt first frm dst p.2.1 < st.nodes) :
    Adds T (pathE p) (pathZ sz p) st (pathB rec first frm dst st p) := by
 unfold pathB
 by_cases h : p.2.2 = []
 ·
  rw [if_pos h]
  exact (Adds.empty hx hy).more (by unfold pathE; omega) fun _ => by simp [pathZ, h, addSz]
 ·
  rw [if_neg h]
  refine ((symsB_adds H hx hy p.2.2.length (Nat.le_refl _)).2).more (by unfold pathE; omega) fun _ => ?_
  unfold pathZ
  rw [List.take_length]
  omega
theorem pathsB_adds {T : Nat} {sz : Int → Nat} {rec : RecB} {first frm dst m : Nat} (ps : List PathD) (hp : ∀ p ∈ ps, RecOk T sz rec p.2.2 ∧ ((p.1 = -1 ∨ p.1 = -2) ∨ (0 ≤ p.1 ∧ p.1 < m)) ∧ ((p.2.1 = -1 ∨ p.2.1 = -2) ∨ (0 ≤ p.2.1 ∧ p.2.1 < m))) :
    ∀ (st : NfD), frm < st.nodes → dst < st.nodes → first + m ≤ st.nodes → Adds T (ps.map pathE).sum (ps.map (pathZ sz)).sum st (ps.foldl (pathB rec first frm dst) st) := by
 induction ps with
 | nil => exact fun st _ _ _ => .refl T st
 | cons p ps ih =>
  intro st h1 h2 h3
  obtain ⟨e1, e2, e3⟩ := hp p List.mem_cons_self
  have h := pathB_adds (st := st) (first := first) (frm := frm) (dst := dst) e1 (ndAt_lt h1 h2 h3 e2) (ndAt_lt h1 h2 h3 e3)
  have hn := h.ext.nodes
  rw [List.foldl_cons]
  exact (h.trans (ih (fun q hq => hp q (List.mem_cons_of_mem _ hq)) _ (by omega) (by omega) (by omega))).more (by simp) fun _ => by simp
def TermsOk (R : List RuleD) (T : Nat) : Prop := ∀ r ∈ R, ∀ s ∈ r.2, s.1 = true → 0 ≤ s.2 ∧ s.2 < T
theorem selfP_syms {c : List Int} {own : Int} {l : List SymD} {p : PathD} : ∀ {i : Nat}, p ∈ (selfP c own l i).1 → ∀ s ∈ p.2.2, s ∈ l
 | 0, h => by cases h
 | i + 1, h => by
  unfold selfP at h
  split at h
  ·
   exact selfP_syms h
  ·
   split at h
   ·
    rcases List.mem_append.1 h with h | h
    ·
     exact selfP_syms h
    ·
     rw [List.mem_singleton.1 h]
     intro s hs
     exact List.mem_of_mem_take (List.mem_of_mem_drop hs)
   ·
    exact selfP_syms h
theorem netRule_syms {c : CompD} {r : RuleD} {p : PathD} (h : p ∈ netRule c r) : ∀ s ∈ p.2.2, s ∈ r.2 := by
 unfold netRule at h
 split at h
 ·
  split at h
  ·
   rw [List.mem_singleton.1 h]; exact fun s hs => hs
  ·
   split at h
   ·
    rw [List.mem_singleton.1 h]; exact fun s hs => List.mem_of_mem_take hs
   ·
    rw [List.mem_singleton.1 h]; exact fun s hs => hs
 ·
  split at h
  ·
   split at h
   ·
    rw [List.mem_singleton.1 h]; exact fun s hs => hs
   ·
    split at h
    ·
     rw [List.mem_singleton.1 h]; exact fun s hs => List.mem_of_mem_drop hs
    ·
     rw [List.mem_singleton.1 h]; exact fun s hs => hs
  ·
   rcases List.mem_append.1 h with h | h
   ·
    exact selfP_syms h
   ·
    rw [List.mem_singleton.1 h]; exact fun s hs => List.mem_of_mem_drop hs
theorem netP_mem {R : List RuleD} {c : CompD} {x : Int} {p : PathD} (h : p ∈ netP R c x) : p ∈ netStart c x ∨ ∃ r ∈ R, c.2.contains r.1 = true ∧ p ∈ netRule c r := by
 unfold netP netU at h
 rw [List.take_length] at h
 rcases List.mem_append.1 h with h | h
 ·
  exact .inl h
 ·
  obtain ⟨r, hr, h⟩ := List.mem_flatMap.1 h
  by_cases hc : c.2.contains r.1 = true
  ·
   rw [if_pos hc] at h
   exact .inr ⟨r, hr, hc, h⟩
  ·
   rw [if_neg hc] at h
   cases h
theorem netStart_syms {c : CompD} {x : Int} {p : PathD} (h : p ∈ netStart c x) : p.2.2 = [] := by
 unfold netStart at h
 split at h
 ·
  rw [List.mem_singleton.1 h]
 ·
  split at h
  ·
   rw [List.mem_singleton.1 h]
  ·
   rcases List.mem_cons.1 h with rfl | h
   ·
    rfl
   ·
    rw [List.mem_singleton.1 h]
theorem netP_syms {R : List RuleD} {c : CompD} {x : Int} {p : PathD} (h : p ∈ netP R c x) {s : SymD} (hs : s ∈ p.2.2) : ∃ r ∈ R, c.2.contains r.1 = true ∧ s ∈ r.2 := by
 rcases netP_mem h with h | ⟨r, hr, hc, h⟩
 ·
  rw [netStart_syms h] at hs
  cases hs
 ·
  exact ⟨r, hr, hc, netRule_syms h s hs⟩
section
variable {R : List RuleD} {cf : Int → CompD} {N T : Nat} {rk : Int → Nat}
theorem buildF_adds (H : NetOk R cf N rk) (hT : TermsOk R T) (hlen : ∀ r ∈ R, r.2.length ≤ 4) (hR : R.length ≤ 64) : ∀ (f : Nat) (n : Int), 0 ≤ n ∧ n < N → rk n ≤ f → ∀ frm dst st, frm < st.nodes → dst < st.nodes → Adds T 0 (sizeF R cf f n) st (buildF R cf f n frm dst st)
 | 0, n, hn, h => by have := (H.rk1 n hn).1; omega
 | f + 1, n, hn, h => by
  intro frm dst st h1 h2
  have hp := pathsB_adds (T := T) (sz := sizeF R cf f) (rec := buildF R cf f) (first := st.nodes) (frm := frm) (dst := dst) (m := netN (cf n)) (netP R (cf n) n) (fun p hp => ⟨fun s hs => ⟨fun h1 => by
   obtain ⟨r, hr, _, hm⟩ := netP_syms hp hs
   exact hT r hr s hm h1, fun h1 => by
   obtain ⟨hr, hl⟩ := H.low n p s hn hp hs h1
   exact buildF_adds H hT hlen hR f s.2 hr (by omega)⟩, (H.frm n p hn hp).imp (fun e => .inl e) id, (H.dst n p hn hp).imp (fun e => .inr e) id⟩) { st with nodes := st.nodes + netN (cf n) } (by simp; omega) (by simp; omega) (by simp)
  have h0 := Adds.nodes T st (netN (cf n))
  have h4 := h0.trans hp
  have htot : ((netP R (cf n) n).map pathE).sum ≤ 600 := by
   have := netU_tot (c := cf n) (x := n) hlen R.length
   unfold netP
   omega
  have hpos := H.pos n hn
  unfold buildF
  show Adds T 0 (netSz R cf (sizeF R cf f) n) st (netB R cf (buildF R cf f) n frm dst st)
  unfold netB
  refine ⟨h4.ext, h4.ok, ?_, fun hz => ?_⟩
  ·
   have := hp.few
   simp only at this ⊢
   omega
  ·
   unfold netSz at hz ⊢
   have e := pathSz_fold hz
   rw [e]
   exact h4.size (by omega)
theorem buildN_adds (H : NetOk R cf N rk) (hT : TermsOk R T) (hlen : ∀ r ∈ R, r.2.length ≤ 4) (hR : R.length ≤ 64) {n : Int} (hn : 0 ≤ n ∧ n < N) {frm dst : Nat} {st : NfD} (h1 : frm < st.nodes) (h2 : dst < st.nodes) : Adds T 0 (sizeN R cf N n) st (buildN R cf N n frm dst st) :=
 buildF_adds H hT hlen hR N n hn (H.rk1 n hn).2 frm dst st h1 h2
end
end Go.Proofs.YtocbkccchnbmaaaGreat
