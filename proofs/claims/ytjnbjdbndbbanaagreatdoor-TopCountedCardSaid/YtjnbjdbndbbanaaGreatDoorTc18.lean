/- TreePlain GMap -/
import Derived.Test.YtjnbjdbndbbanaaGreatDoorTc15
namespace Go.Proofs.YtjnbjdbndbbanaaGreatDoor
mutual
def nodesT : TreeD → List TreeD
 | .node r x ks => .node r x ks :: nodesTs ks
def nodesTs : List TreeD → List TreeD
 | [] => []
 | t :: ts => nodesT t ++ nodesTs ts
end
theorem nodesT_eq (t : TreeD) : nodesT t = t :: nodesTs t.kids := by
 cases t
 rw [nodesT]
 rfl
theorem nodesTs_nil : nodesTs [] = [] := by rw [nodesTs]
theorem nodesTs_cons (t : TreeD) (ts : List TreeD) : nodesTs (t :: ts) = nodesT t ++ nodesTs ts := by rw [nodesTs]
theorem nodesTs_append : ∀ (l m : List TreeD), nodesTs (l ++ m) = nodesTs l ++ nodesTs m
 | [], m => by rw [nodesTs_nil]; rfl
 | t :: l, m => by rw [List.cons_append, nodesTs_cons, nodesTs_cons, nodesTs_append l m, List.append_assoc]
theorem nodesTs_step {l : List TreeD} {k : Nat} {x : TreeD} (h : l[k]? = some x) : nodesTs (l.take (k + 1)) = nodesTs (l.take k) ++ nodesT x := by
 obtain ⟨hk, rfl⟩ := List.getElem?_eq_some_iff.1 h
 rw [List.take_succ_eq_append_getElem hk, nodesTs_append, nodesTs_cons, nodesTs_nil, List.append_nil]
def sizeT (t : TreeD) : Nat := (nodesT t).length
def sizeTs (l : List TreeD) : Nat := (nodesTs l).length
theorem sizeT_eq (t : TreeD) : sizeT t = 1 + sizeTs t.kids := by
 unfold sizeT sizeTs
 rw [nodesT_eq, List.length_cons]
 omega
theorem sizeTs_nil : sizeTs [] = 0 := by unfold sizeTs; rw [nodesTs_nil]; rfl
theorem sizeTs_cons (t : TreeD) (l : List TreeD) : sizeTs (t :: l) = sizeT t + sizeTs l := by unfold sizeTs sizeT; rw [nodesTs_cons, List.length_append]
theorem sizeT_mem : ∀ {l : List TreeD} {x : TreeD}, x ∈ l → sizeT x ≤ sizeTs l
 | y :: l, x, h => by
  rw [sizeTs_cons]
  rcases List.mem_cons.1 h with rfl | h
  · omega
  have := sizeT_mem h; omega
theorem sizeT_kid {t x : TreeD} (h : x ∈ t.kids) : sizeT x < sizeT t := by
 rw [sizeT_eq t]
 have := sizeT_mem h
 omega
def wordOf (l : List TreeD) : List Int := (l.filter fun x => decide (x.rule = -1)).map TreeD.term
theorem wordOf_append (l m : List TreeD) : wordOf (l ++ m) = wordOf l ++ wordOf m := by unfold wordOf; rw [List.filter_append, List.map_append]
def rulesT (t : TreeD) : List Int := (nodesT t).map TreeD.rule
def wordT (t : TreeD) : List Int := wordOf (nodesT t)
def wordTs (l : List TreeD) : List Int := wordOf (nodesTs l)
theorem wordTs_nil : wordTs [] = [] := by unfold wordTs; rw [nodesTs_nil]; rfl
theorem wordTs_cons (t : TreeD) (l : List TreeD) : wordTs (t :: l) = wordT t ++ wordTs l := by unfold wordTs wordT; rw [nodesTs_cons, wordOf_append]
theorem wordT_leaf (c : Int) : wordT (.node (-1) c []) = [c] := by unfold wordT; rw [nodesT, nodesTs]; rfl
theorem wordT_node (k : Nat) (x : Int) (ts : List TreeD) : wordT (.node (k : Int) x ts) = wordTs ts := by
 unfold wordT wordTs
 rw [nodesT]
 unfold wordOf
 rw [List.filter_cons_of_neg]
 intro h
 have h2 : (k : Int) = -1 := of_decide_eq_true h
 omega
mutual
inductive TV (R : List RuleD) : SymD → TreeD → Prop
 | leaf {c : Int} : TV R (true, c) (.node (-1) c [])
 | node {k : Nat} {r : RuleD} {ts : List TreeD} : R[k]? = some r → TVL R r.2 ts → TV R (false, r.1) (.node (k : Int) 0 ts)
inductive TVL (R : List RuleD) : List SymD → List TreeD → Prop
 | nil : TVL R [] []
 | cons {s : SymD} {l : List SymD} {t : TreeD} {ts : List TreeD} : TV R s t → TVL R l ts → TVL R (s :: l) (t :: ts)
end
section
variable {R : List RuleD} {N : Nat}
theorem TV.inv {s : SymD} {t : TreeD} (h : TV R s t) : (∃ c, s = (true, c) ∧ t = .node (-1) c []) ∨ ∃ (k : Nat) (r : RuleD) (ts : List TreeD), s = (false, r.1) ∧ t = .node (k : Int) 0 ts ∧ R[k]? = some r ∧ TVL R r.2 ts := by
 cases h with
 | leaf => exact Or.inl ⟨_, rfl, rfl⟩
 | node h1 h2 => exact Or.inr ⟨_, _, _, rfl, rfl, h1, h2⟩
theorem TVL.inv {s : SymD} {l : List SymD} {ts : List TreeD} (h : TVL R (s :: l) ts) : ∃ t ts', ts = t :: ts' ∧ TV R s t ∧ TVL R l ts' := by
 cases h with
 | cons h1 h2 => exact ⟨_, _, rfl, h1, h2⟩
theorem TVL.inv_nil {ts : List TreeD} (h : TVL R [] ts) : ts = [] := by
 cases h
 rfl
theorem TVL.len : ∀ {l : List SymD} {ts : List TreeD}, TVL R l ts → ts.length = l.length
 | [], ts, h => by rw [h.inv_nil]; rfl
 | s :: l, ts, h => by
  obtain ⟨t, ts', rfl, _, h2⟩ := h.inv
  rw [List.length_cons, List.length_cons, TVL.len h2]
theorem TVL.get : ∀ {l : List SymD} {ts : List TreeD} {k : Nat} {t : TreeD}, TVL R l ts → ts[k]? = some t → ∃ s, l[k]? = some s ∧ TV R s t
 | [], ts, k, t, h, hk => by rw [h.inv_nil] at hk; simp at hk
 | s :: l, ts, k, t, h, hk => by
  obtain ⟨t', ts', rfl, h1, h2⟩ := h.inv
  cases k with
  | zero => exact ⟨s, rfl, by simp only [List.getElem?_cons_zero, Option.some.injEq] at hk; rw [← hk]; exact h1⟩
  | succ k => exact TVL.get (k := k) h2 (by simpa using hk)
theorem TVL.mem {l : List SymD} {ts : List TreeD} {t : TreeD} (h : TVL R l ts) (ht : t ∈ ts) : ∃ s, s ∈ l ∧ TV R s t := by
 obtain ⟨k, hk⟩ := List.getElem?_of_mem ht
 obtain ⟨s, h1, h2⟩ := h.get hk
 exact ⟨s, List.mem_of_getElem? h1, h2⟩
theorem TV.leafy {s : SymD} {t : TreeD} (h : TV R s t) (hr : t.rule = -1) : t.kids = [] := by
 rcases h.inv with ⟨c, rfl, rfl⟩ | ⟨k, r, ts, rfl, rfl, h1, h2⟩
 · rfl
 exfalso
 have : (k : Int) = -1 := hr
 omega
mutual
theorem Unr.tv {s : SymD} {n i : Nat} {t : TreeD} : Unr R s n i t → TV R s t
 | .leaf => .leaf
 | .node h1 h2 _ h4 => by rw [← h2]; exact .node h1 (UnrL.tv h4)
theorem UnrL.tv {l : List SymD} {n i : Nat} {ts : List TreeD} : UnrL R l n i ts → TVL R l ts
 | .nil => .nil
 | .cons _ _ _ h4 h5 => .cons (Unr.tv h4) (UnrL.tv h5)
end
mutual
theorem Unr.word {s : SymD} {n i : Nat} {t : TreeD} : Unr R s n i t → (wordT t).length = n
 | .leaf => by rw [wordT_leaf]; rfl
 | .node _ _ _ h4 => by rw [wordT_node]; exact UnrL.word h4
theorem UnrL.word {l : List SymD} {n i : Nat} {ts : List TreeD} : UnrL R l n i ts → (wordTs ts).length = n
 | .nil => by rw [wordTs_nil]; rfl
 | .cons h1 _ _ h4 h5 => by rw [wordTs_cons, List.length_append, Unr.word h4, UnrL.word h5]; omega
end
mutual
theorem TV.der {s : SymD} {t : TreeD} : TV R s t → Der R [s] (wordT t).length
 | .leaf => by rw [wordT_leaf]; exact .term .nil
 | .node h1 h2 => by rw [wordT_node]; exact Der.non_iff.2 ⟨_, List.mem_of_getElem? h1, TVL.der h2⟩
theorem TVL.der {l : List SymD} {ts : List TreeD} : TVL R l ts → Der R l (wordTs ts).length
 | .nil => by rw [wordTs_nil]; exact .nil
 | .cons h1 h2 => by
  rw [wordTs_cons, List.length_append]
  exact Der.append (TV.der h1) (TVL.der h2)
end
end
end Go.Proofs.YtjnbjdbndbbanaaGreatDoor
namespace Go.Proofs.YtjnbjdbndbbanaaGreatDoor
open Go.RowKit Go.Maps
structure KeyRep (P : Program) (k : TypeId) (κ : Type) where
 keyed : Keyed P k
 val : κ → Value
 ok : κ → Prop
 lit : ∀ x, ok x → ∃ l, keyOf P k (val x) = some l
 inj : ∀ x y, val x = val y → x = y
abbrev hvR (v : Value) : Option (DataW Value × List MemPlace) := some (.held v, [])
def lk {κ α : Type} [DecidableEq κ] : List (κ × α) → κ → Option α
 | [], _ => none
 | p :: l, x => if p.1 = x then some p.2 else lk l x
def putL {κ α : Type} [DecidableEq κ] : List (κ × α) → κ → α → List (κ × α)
 | [], x, v => [(x, v)]
 | p :: l, x, v => if p.1 = x then (x, v) :: l else p :: putL l x v
section
variable {κ α : Type} [DecidableEq κ]
theorem lk_none {l : List (κ × α)} {x : κ} : lk l x = none ↔ x ∉ l.map Prod.fst := by
 induction l with
 | nil => simp [lk]
 | cons p l ih =>
  unfold lk
  by_cases h : p.1 = x
  · rw [if_pos h]; simp [h]
  rw [if_neg h, ih]; simp [Ne.symm h]
theorem lk_mem {l : List (κ × α)} {x : κ} {v : α} (h : lk l x = some v) : (x, v) ∈ l := by
 induction l with
 | nil => simp [lk] at h
 | cons p l ih =>
  unfold lk at h
  by_cases hp : p.1 = x
  ·
   rw [if_pos hp] at h
   injection h with h
   subst hp; subst h
   exact List.mem_cons_self
  rw [if_neg hp] at h
  exact List.mem_cons_of_mem _ (ih h)
theorem lk_of_mem {l : List (κ × α)} (hd : (l.map Prod.fst).Nodup) {x : κ} {v : α} (h : (x, v) ∈ l) : lk l x = some v := by
 induction l with
 | nil => cases h
 | cons p l ih =>
  unfold lk
  rw [List.map_cons, List.nodup_cons] at hd
  rcases List.mem_cons.1 h with h | h
  ·
   subst h
   rw [if_pos rfl]
  rw [if_neg (fun e => hd.1 (by rw [e]; exact List.mem_map.2 ⟨_, h, rfl⟩))]
  exact ih hd.2 h
theorem putL_new {l : List (κ × α)} {x : κ} {v : α} (h : x ∉ l.map Prod.fst) : putL l x v = l ++ [(x, v)] := by
 induction l with
 | nil => rfl
 | cons p l ih =>
  unfold putL
  rw [List.map_cons, List.mem_cons, not_or] at h
  rw [if_neg (Ne.symm h.1), ih h.2]
  rfl
theorem putL_keys (l : List (κ × α)) (x : κ) (v : α) : (putL l x v).map Prod.fst = if x ∈ l.map Prod.fst then l.map Prod.fst else l.map Prod.fst ++ [x] := by
 induction l with
 | nil => rfl
 | cons p l ih =>
  unfold putL
  by_cases h : p.1 = x
  · rw [if_pos h]; subst h; simp
  rw [if_neg h, List.map_cons, ih]
  by_cases h2 : x ∈ l.map Prod.fst
  · rw [if_pos h2, if_pos (by simp only [List.map_cons, List.mem_cons]; exact Or.inr h2)]; rfl
  rw [if_neg h2, if_neg (by simp only [List.map_cons, List.mem_cons, not_or]; exact ⟨Ne.symm h, h2⟩)]; rfl
theorem lk_putL (l : List (κ × α)) (x y : κ) (v : α) : lk (putL l x v) y = if x = y then some v else lk l y := by
 induction l with
 | nil => rfl
 | cons p l ih =>
  unfold putL
  by_cases h : p.1 = x
  ·
   rw [if_pos h]
   unfold lk
   subst h
   by_cases h2 : p.1 = y
   · simp [h2]
   simp [h2]
  rw [if_neg h]
  unfold lk
  rw [ih]
  by_cases h2 : p.1 = y
  · rw [if_pos h2, if_neg (fun e => h (h2.trans e.symm)), if_pos h2]
  rw [if_neg h2, if_neg h2]
end
def AMap {P : Program} {k : TypeId} {κ : Type} (K : KeyRep P k κ) (w : World) (b : Nat) (l : List (κ × Value)) : Prop :=
 ∃ D : DataW Value, w.ownsMap P k hvR b l.length D ∧ Maps.size D = l.length ∧ (l.map Prod.fst).Nodup ∧ (∀ p ∈ l, K.ok p.1) ∧
  (∀ p ∈ l, ∃ kl, keyOf P k (K.val p.1) = some kl ∧ Maps.has D kl = true ∧ ∀ z, D.atKey kl z = .held p.2) ∧
  (∀ kl, Maps.has D kl = true → ∃ p ∈ l, keyOf P k (K.val p.1) = some kl)
section
variable {P : Program} {k : TypeId} {κ : Type} {K : KeyRep P k κ} {w w' : World} {b : Nat} {l : List (κ × Value)}
theorem AMap.made (K : KeyRep P k κ) (w : World) : AMap K (w.alloc (.map #[] 0)) w.heap.size [] :=
 ⟨_, World.ownsMap_made _ _ _ _, rfl, List.nodup_nil, by simp, by simp, fun kl h => by simp [Maps.has] at h⟩
theorem AMap.block (h : AMap K w b l) (hb : w'.heap[b]? = w.heap[b]?) : AMap K w' b l := by
 obtain ⟨D, ⟨es, clock, h1, F, hs, hD⟩, h2⟩ := h
 exact ⟨D, ⟨es, clock, hb.trans h1, F, hs, hD⟩, h2⟩
theorem AMap.lt (h : AMap K w b l) : b < w.heap.size := by
 obtain ⟨D, h1, _⟩ := h
 exact h1.lt
theorem AMap.below (h : AMap K w b l) (hb : Below w.heap.size w w') : AMap K w' b l := h.block (hb.block b h.lt)
theorem AMap.drew (h : AMap K w b l) : AMap K w.drew b l := h
theorem AMap.alloc (h : AMap K w b l) (o : Obj) : AMap K (w.alloc o) b l := h.below ((Below.refl _ _).alloc (Nat.le_refl _) o)
variable [DecidableEq κ]
theorem AMap.at_ {D : DataW Value} (h1 : ∀ p ∈ l, ∃ kl, keyOf P k (K.val p.1) = some kl ∧ Maps.has D kl = true ∧ ∀ z, D.atKey kl z = .held p.2)
    (h2 : ∀ kl, Maps.has D kl = true → ∃ p ∈ l, keyOf P k (K.val p.1) = some kl) {x : κ} {kl : Lit} (hk : keyOf P k (K.val x) = some kl) :
    (∃ v, lk l x = some v ∧ Maps.has D kl = true ∧ ∀ z, D.atKey kl z = .held v) ∨ (lk l x = none ∧ Maps.has D kl = false ∧ ∀ z, D.atKey kl z = z) := by
 cases hx : lk l x with
 | some v =>
  obtain ⟨kl', e, e2, e3⟩ := h1 _ (lk_mem hx)
  rw [hk] at e
  injection e with e
  subst e
  exact .inl ⟨v, rfl, e2, e3⟩
 | none =>
  have hf : Maps.has D kl = false := by
   cases hh : Maps.has D kl with
   | false => rfl
   | true =>
    obtain ⟨p, hp, e⟩ := h2 kl hh
    have := K.inj _ _ (K.keyed.inj e hk)
    exact absurd (List.mem_map.2 ⟨p, hp, this⟩) (lk_none.1 hx)
  exact .inr ⟨rfl, hf, fun z => atKey_of_not_has hf z⟩
theorem AMap.look_ok {t e : TypeId} (h : AMap K w b l) (ht : P.underlying t = some (.map k e)) {z : Value} (hz : ∀ u : World, (zeroValue e).run P u = .ok z u) {x : κ} (hx : K.ok x) :
    (Instr.lookup t (.map (some b)) (K.val x) true).run P w = .ok (.tuple #[(lk l x).getD z, .bool (lk l x).isSome]) w := by
 obtain ⟨D, h1, _, _, _, h4, h5⟩ := h
 obtain ⟨kl, hk⟩ := K.lit x hx
 obtain ⟨v, ps, hrun, hv⟩ := h1.look_ok K.keyed ht (hz w) (zd := .held z) (zp := []) rfl hk
 rw [hrun]
 have hv' : v = match D.atKey kl (.held z) with | .held v => v | _ => z := by
  simp only [hvR, Option.some.injEq, Prod.mk.injEq] at hv
  rw [← hv.1]
 rcases AMap.at_ h4 h5 hk with ⟨u, e1, e2, e3⟩ | ⟨e1, e2, e3⟩
 · rw [hv', e1, e2, e3]; rfl
 rw [hv', e1, e2, e3]; rfl
theorem AMap.look {t e : TypeId} (h : AMap K w b l) (ht : P.underlying t = some (.map k e)) {z : Value} (hz : ∀ u : World, (zeroValue e).run P u = .ok z u) {x : κ} (hx : K.ok x) :
    (Instr.lookup t (.map (some b)) (K.val x) false).run P w = .ok ((lk l x).getD z) w := by
 obtain ⟨D, h1, _, _, _, h4, h5⟩ := h
 obtain ⟨kl, hk⟩ := K.lit x hx
 obtain ⟨v, ps, hrun, hv⟩ := h1.lookup K.keyed ht (hz w) (zd := .held z) (zp := []) rfl hk
 rw [hrun]
 have hv' : v = match D.atKey kl (.held z) with | .held v => v | _ => z := by
  simp only [hvR, Option.some.injEq, Prod.mk.injEq] at hv
  rw [← hv.1]
 rcases AMap.at_ h4 h5 hk with ⟨u, e1, e2, e3⟩ | ⟨e1, e2, e3⟩
 · rw [hv', e1, e3]; rfl
 rw [hv', e1, e3]; rfl
theorem putL_length (l : List (κ × Value)) (x : κ) (v : Value) : (putL l x v).length = if x ∈ l.map Prod.fst then l.length else l.length + 1 := by
 have := congrArg List.length (putL_keys l x v)
 rw [List.length_map] at this
 rw [this]
 split <;> simp
theorem mem_putL {l : List (κ × Value)} (hd : (l.map Prod.fst).Nodup) {x : κ} {v : Value} {p : κ × Value} (h : p ∈ putL l x v) : p = (x, v) ∨ (p ∈ l ∧ p.1 ≠ x) := by
 have hd' : ((putL l x v).map Prod.fst).Nodup := by
  rw [putL_keys]
  split
  · exact hd
  rename_i hx
  rw [List.nodup_append]
  exact ⟨hd, by simp, fun a ha c hc => by obtain rfl := List.mem_singleton.1 hc; exact fun e => hx (e ▸ ha)⟩
 have h1 := lk_of_mem hd' (x := p.1) (v := p.2) h
 rw [lk_putL] at h1
 by_cases e : x = p.1
 ·
  rw [if_pos e] at h1
  injection h1 with h1
  exact .inl (Prod.ext e.symm h1.symm)
 rw [if_neg e] at h1
 exact .inr ⟨lk_mem h1, Ne.symm e⟩
theorem AMap.put {t e : TypeId} (h : AMap K w b l) (ht : P.underlying t = some (.map k e)) {x : κ} (hx : K.ok x) (v : Value) (hl : l.length < maxLen) :
    ∃ w', (Instr.mapUpdate t (.map (some b)) (K.val x) v).run P w = .ok () w' ∧ AMap K w' b (putL l x v) ∧ w.grownBy w' (some b) := by
 obtain ⟨D, h1, h2, hd, hok, h4, h5⟩ := h
 obtain ⟨kl, hk⟩ := K.lit x hx
 obtain ⟨w', hrun, hown, hg⟩ := h1.update K.keyed ht hl (d := .held v) (ps := []) hk rfl
 have hm := h1.isMap
 have ht' := h1.tidy K.keyed
 have hkl := K.keyed.key hk
 have hhas : Maps.has D kl = true ↔ x ∈ l.map Prod.fst := by
  rcases AMap.at_ h4 h5 hk with ⟨u, e1, e2, _⟩ | ⟨e1, e2, _⟩
  · exact ⟨fun _ => List.mem_map.2 ⟨_, lk_mem e1, rfl⟩, fun _ => e2⟩
  exact ⟨fun h => (by rw [e2] at h; cases h), fun h => absurd h (lk_none.1 e1)⟩
 have hsz : Maps.size (D.put kl (.held v)) = (putL l x v).length := by
  rw [size_put ht', putL_length]
  by_cases hx' : x ∈ l.map Prod.fst
  · rw [if_pos hx', if_pos (hhas.2 hx'), h2]
  rw [if_neg hx', if_neg (fun h => hx' (hhas.1 h)), h2]
 have hown' : w'.ownsMap P k hvR b (putL l x v).length (D.put kl (.held v)) := by
  obtain ⟨es, clock, e1, F, e2, e3⟩ := hown
  refine ⟨es, clock, e1, F, ?_, e3⟩
  rw [← hsz, e3]
  simp [Maps.size, length_sorted]
 have hne : ∀ p ∈ l, p.1 ≠ x → ∀ kl', keyOf P k (K.val p.1) = some kl' → kl' ≠ kl := fun p _ hp kl' hk' e => hp (K.inj _ _ (K.keyed.inj (e ▸ hk') hk))
 refine ⟨w', hrun, ⟨_, hown', hsz, ?_, ?_, ?_, ?_⟩, hg⟩
 ·
  rw [putL_keys]
  split
  · exact hd
  rename_i hx'
  rw [List.nodup_append]
  exact ⟨hd, by simp, fun a ha c hc => by obtain rfl := List.mem_singleton.1 hc; exact fun e => hx' (e ▸ ha)⟩
 ·
  intro p hp
  rcases mem_putL hd hp with rfl | ⟨hp, _⟩
  · exact hx
  exact hok p hp
 ·
  intro p hp
  rcases mem_putL hd hp with rfl | ⟨hp, hpx⟩
  · exact ⟨kl, hk, has_put_same hm hkl _, fun z => atKey_put_same hm hkl _ z⟩
  obtain ⟨kl', e1, e2, e3⟩ := h4 p hp
  have := hne p hp hpx kl' e1
  exact ⟨kl', e1, by rw [has_put_other this]; exact e2, fun z => by rw [atKey_put_other this]; exact e3 z⟩
 intro kl' h'
 by_cases e : kl' = kl
 ·
  subst e
  exact ⟨(x, v), lk_mem (by rw [lk_putL, if_pos rfl]), hk⟩
 rw [has_put_other e] at h'
 obtain ⟨p, hp, e1⟩ := h5 kl' h'
 have hpx : p.1 ≠ x := fun e2 => e (by rw [e2, hk] at e1; injection e1 with e1; exact e1.symm)
 refine ⟨p, lk_mem (x := p.1) (v := p.2) ?_, e1⟩
 rw [lk_putL, if_neg (Ne.symm hpx)]
 exact lk_of_mem hd hp
end
section
variable {P : Program} {k : TypeId} {κ : Type} {K : KeyRep P k κ} (w : World) {ops : Array Oper} {rest : List Oper} {o : Oper} {a : Act} {Q : Exit → Act → World → Prop}
variable [DecidableEq κ]
theorem wpList_amap_put (hg : o.guard = none) (m x v : Operand) (t : TypeId) (hop : o.op = Op.mapUpdate t m x v) (e : TypeId) (ht : P.underlying t = some (.map k e))
    (b : Nat) (l : List (κ × Value)) (hm : a.eval m = .map (some b)) (hown : AMap K w b l) (q : κ) (hx : a.eval x = K.val q) (hq : K.ok q) (u : Value) (hv : a.eval v = u) (hl : l.length < maxLen)
    (hK : ∀ w', AMap K w' b (putL l q u) → w.grownBy w' (some b) → wpList P ops Q rest (a.put o.dst undef) w') : wpList P ops Q (o :: rest) a w := by
 refine wpList_plain hg fun K' hK' => ?_
 obtain ⟨w', hrun, r1, r2⟩ := hown.put ht hq u hl
 unfold Oper.wp
 simp [execOp, hop, hm, hx, hv, hrun, Result.andThen]
 exact hK' _ _ (hK w' r1 r2)
end
end Go.Proofs.YtjnbjdbndbbanaaGreatDoor
