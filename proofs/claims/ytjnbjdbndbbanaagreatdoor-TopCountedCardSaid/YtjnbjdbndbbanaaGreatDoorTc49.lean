/- TopP1 TopP2 ForTr TopP3 -/
import Derived.Test.YtjnbjdbndbbanaaGreatDoorTc43
import Derived.Test.YtjnbjdbndbbanaaGreatDoorTc48
namespace Go.Proofs.YtjnbjdbndbbanaaGreatDoor
open Go.RowKit
inductive KT (R : List RuleD) (ws : List Int) : KeyD → TreeD → Prop
 | leaf {x : KeyD} : x.1.1 = true → DerW R ws [x.1] x.2.1 x.2.2 → KT R ws x (.node (-1) x.1.2 [])
 | node {x : KeyD} {p : Nat × List KeyD} {ts : List TreeD} : p ∈ packsP R ws x → ts.length = p.2.length → (∀ (i : Nat) (y : KeyD) (t : TreeD), p.2[i]? = some y → ts[i]? = some t → KT R ws y t) → KT R ws x (.node p.1 0 ts)
section
variable {R : List RuleD} {ws : List Int}
theorem DerW.oneT {s : SymD} {i j : Nat} (hs : s.1 = true) (h : DerW R ws [s] i j) : j = i + 1 := by
 cases h with
 | term h1 h2 => exact (DerW.nil_eq h2).symm
 | non h1 h2 h3 => cases hs
theorem spl_uniq : ∀ {l : List SymD} {i j j' : Nat} {ks ks' : List KeyD} {ts : List TreeD}, ks ∈ splP R ws l i j → ks' ∈ splP R ws l i j' → ts.length = ks.length → ts.length = ks'.length →
    (∀ (a : Nat) (y y' : KeyD) (t : TreeD), ks[a]? = some y → ks'[a]? = some y' → ts[a]? = some t → y.2.1 = y'.2.1 → y.2.2 = y'.2.2) → ks = ks' ∧ j = j'
 | [], i, j, j', ks, ks', ts, h, h', _, _, _ => by
  rw [splP_nil] at h h'
  by_cases e : i = j
  ·
   by_cases e' : i = j'
   ·
    rw [if_pos e] at h
    rw [if_pos e'] at h'
    rw [List.mem_singleton.1 h, List.mem_singleton.1 h']
    exact ⟨rfl, by omega⟩
   rw [if_neg e'] at h'; cases h'
  rw [if_neg e] at h; cases h
 | s :: l, i, j, j', ks, ks', ts, h, h', hl, hl', hu => by
  obtain ⟨k, k1, _, _, _, h1, rfl⟩ := mem_splP_cons.1 h
  obtain ⟨k', k1', _, _, _, h1', rfl⟩ := mem_splP_cons.1 h'
  cases ts with
  | nil => cases hl
  | cons t ts =>
   obtain rfl : k = k' := hu 0 _ _ t rfl rfl rfl rfl
   obtain ⟨e1, e2⟩ := spl_uniq h1 h1' (by simpa using hl) (by simpa using hl') fun a y y' t' ha ha' ht => hu (a + 1) y y' t' (by simpa using ha) (by simpa using ha') (by simpa using ht)
   exact ⟨by rw [e1], e2⟩
theorem KT.end_ {x : KeyD} {t : TreeD} (h : KT R ws x t) : ∀ {x' : KeyD}, KT R ws x' t → x.2.1 = x'.2.1 → x.2.2 = x'.2.2 := by
 induction h with
 | @leaf x h1 h2 =>
  intro x' h' e
  have e1 := DerW.oneT h1 h2
  generalize ht : TreeD.node (-1) x.1.2 [] = t at h'
  cases h' with
  | leaf h3 h4 => have := DerW.oneT h3 h4; omega
  | @node _ p ts h3 h4 h5 =>
   injection ht with e2 _ _
   omega
 | @node x p ts h1 h2 h3 ih =>
  intro x' h' e
  generalize ht : TreeD.node (p.1 : Int) 0 ts = t at h'
  cases h' with
  | leaf h3 h4 =>
   injection ht with e2 _ _
   omega
  | @node _ p' ts' g1 g2 g3 =>
   injection ht with e2 _ e3
   subst e3
   obtain ⟨_, r, f1, _, f2⟩ := mem_packsP.1 h1
   obtain ⟨_, r', f1', _, f2'⟩ := mem_packsP.1 g1
   have e4 : p.1 = p'.1 := by omega
   rw [e4, f1'] at f1
   obtain rfl := Option.some.inj f1
   rw [← e] at f2'
   exact (spl_uniq f2 f2' h2 g2 fun a y y' t ha ha' ht' he => ih a y t ha ht' (g3 a y' t ha' ht') he).2
theorem pack_uniq {x : KeyD} {p p' : Nat × List KeyD} {ts : List TreeD} (hp : p ∈ packsP R ws x) (hp' : p' ∈ packsP R ws x) (e : p.1 = p'.1) (hl : ts.length = p.2.length) (hl' : ts.length = p'.2.length) (hk : ∀ (i : Nat) (y : KeyD) (t : TreeD), p.2[i]? = some y → ts[i]? = some t → KT R ws y t) (hk' : ∀ (i : Nat) (y : KeyD) (t : TreeD), p'.2[i]? = some y → ts[i]? = some t → KT R ws y t) : p = p' := by
 obtain ⟨_, r, f1, _, f2⟩ := mem_packsP.1 hp
 obtain ⟨_, r', f1', _, f2'⟩ := mem_packsP.1 hp'
 rw [e, f1'] at f1
 obtain rfl := Option.some.inj f1
 have := (spl_uniq f2 f2' hl hl' fun a y y' t ha ha' ht' he => (hk a y t ha ht').end_ (hk' a y' t ha' ht') he).1
 exact Prod.ext e this
theorem nodup_flatMap {α β : Type} {f : α → List β} : ∀ {l : List α}, l.Nodup → (∀ x ∈ l, (f x).Nodup) → (∀ x ∈ l, ∀ y ∈ l, ∀ z, z ∈ f x → z ∈ f y → x = y) → (l.flatMap f).Nodup
 | [], _, _, _ => List.nodup_nil
 | a :: l, h, h1, h2 => by
  rw [List.flatMap_cons, List.nodup_append]
  obtain ⟨h3, h4⟩ := List.nodup_cons.1 h
  refine ⟨h1 a (by simp), nodup_flatMap h4 (fun x hx => h1 x (by simp [hx])) fun x hx y hy => h2 x (by simp [hx]) y (by simp [hy]), fun u hu v hv e => ?_⟩
  subst e
  obtain ⟨b, hb, hb2⟩ := List.mem_flatMap.1 hv
  obtain rfl := h2 a (by simp) b (by simp [hb]) u hu hb2
  exact h3 hb
theorem nodup_map {α β : Type} {f : α → β} (hf : ∀ a b, f a = f b → a = b) {l : List α} (h : l.Nodup) : (l.map f).Nodup := by
 rw [List.nodup_iff_pairwise_ne] at h ⊢
 exact List.pairwise_map.2 (h.imp fun hne e => hne (hf _ _ e))
theorem splP_nodup : ∀ (l : List SymD) (i j : Nat), (splP R ws l i j).Nodup
 | [], i, j => by
  rw [splP_nil]
  split
  · simp
  exact List.nodup_nil
 | s :: l, i, j => by
  rw [splP_cons]
  refine nodup_flatMap (List.nodup_range.filter _) (fun k _ => ?_) fun k _ k' _ z hz hz' => ?_
  · exact nodup_map (fun a b e => (List.cons.inj e).2) (splP_nodup l k j)
  obtain ⟨a, _, rfl⟩ := List.mem_map.1 hz
  obtain ⟨b, _, e⟩ := List.mem_map.1 hz'
  have h1 := (List.cons.inj e).1
  injection h1 with _ h1
  injection h1 with _ h1
  exact h1.symm
theorem packsP_nodup (x : KeyD) : (packsP R ws x).Nodup := by
 unfold packsP
 split
 · exact List.nodup_nil
 refine nodup_flatMap ?_ (fun p _ => ?_) fun p hp q hq z hz hz' => ?_
 ·
  rw [List.nodup_iff_pairwise_ne, List.pairwise_iff_getElem]
  intro i j hi hj hij e
  simp only [List.getElem_zipIdx, Prod.mk.injEq] at e
  omega
 ·
  split
  · exact nodup_map (fun a b e => (Prod.mk.inj e).2) (splP_nodup _ _ _)
  exact List.nodup_nil
 split at hz
 ·
  split at hz'
  ·
   obtain ⟨a, _, rfl⟩ := List.mem_map.1 hz
   obtain ⟨b, _, e⟩ := List.mem_map.1 hz'
   have e1 := (Prod.mk.inj e).1
   obtain ⟨r, k⟩ := p
   obtain ⟨r', k'⟩ := q
   simp only at e1
   subst e1
   rw [List.mem_zipIdx_iff_getElem?] at hp hq
   exact Prod.ext (Option.some.inj (hp.symm.trans hq)) rfl
  cases hz'
 cases hz
def prodL : List (List TreeD) → List (List TreeD)
 | [] => [[]]
 | T :: Ts => T.flatMap fun t => (prodL Ts).map (t :: ·)
theorem mem_prodL : ∀ {Ts : List (List TreeD)} {ts : List TreeD}, ts.length = Ts.length → (∀ (i : Nat) (t : TreeD) (T : List TreeD), ts[i]? = some t → Ts[i]? = some T → t ∈ T) → ts ∈ prodL Ts
 | [], [], _, _ => by simp [prodL]
 | T :: Ts, t :: ts, hl, h => by
  unfold prodL
  refine List.mem_flatMap.2 ⟨t, h 0 t T rfl rfl, List.mem_map.2 ⟨ts, mem_prodL (by simpa using hl) fun i t' T' h1 h2 => h (i + 1) t' T' (by simpa using h1) (by simpa using h2), rfl⟩⟩
theorem prodL_len (f : KeyD → List TreeD) : ∀ ks : List KeyD, (prodL (ks.map f)).length = prodN (fun k => (f k).length) ks
 | [] => rfl
 | k :: ks => by
  rw [List.map_cons, prodN_cons, ← prodL_len f ks]
  show ((f k).flatMap fun t => (prodL (ks.map f)).map (t :: ·)).length = _
  rw [List.length_flatMap]
  simp only [List.length_map]
  rw [List.map_const', List.sum_replicate_nat]
theorem cp_prodN {c c' : KeyD → Nat} : ∀ {l : List KeyD}, (∀ k ∈ l, cp (c k) = cp (c' k)) → cp (prodN c l) = cp (prodN c' l)
 | [], _ => rfl
 | k :: l, h => by
  rw [prodN_cons, prodN_cons, cp_mul, h k (by simp), cp_prodN fun y hy => h y (by simp [hy]), ← cp_mul]
open Classical in
theorem all_trees {x : KeyD} (h : Acc (fun y x => FEdge R ws x y) x) : ∃ T : List TreeD, cp T.length = fC R ws x ∧ ∀ t, KT R ws x t → t ∈ T := by
 induction h with
 | intro x hx ih =>
  have hacc : Acc (fun y x => FEdge R ws x y) x := ⟨x, hx⟩
  by_cases h1 : x.1.1 = true
  ·
   refine ⟨[.node (-1) x.1.2 []], ?_, fun t ht => ?_⟩
   ·
    rw [fC_eq hacc]
    unfold nodeC
    rw [if_pos h1]
    rfl
   cases ht with
   | leaf _ _ => simp
   | node h2 _ _ => have := (mem_packsP.1 h2).1; rw [h1] at this; cases this
  have h2 : x.1.1 = false := by simpa using h1
  obtain ⟨f, hf⟩ : ∃ f : KeyD → List TreeD, ∀ y, FEdge R ws x y → cp (f y).length = fC R ws y ∧ ∀ t, KT R ws y t → t ∈ f y := by
   refine ⟨fun y => if h : FEdge R ws x y then Classical.choose (ih y h) else [], fun y hy => ?_⟩
   simp only [dif_pos hy]
   exact Classical.choose_spec (ih y hy)
  refine ⟨(packsP R ws x).flatMap fun p => (prodL (p.2.map f)).map (TreeD.node p.1 0), ?_, fun t ht => ?_⟩
  ·
   rw [fC_eq hacc, nodeC_eq h2, List.length_flatMap]
   refine cp_sum fun p hp => ?_
   rw [List.length_map, prodL_len]
   refine cp_prodN fun k hk => ?_
   rw [(hf k ⟨p, hp, hk⟩).1, ← (hf k ⟨p, hp, hk⟩).1, cp_cp]
  cases ht with
  | leaf h3 _ => rw [h2] at h3; cases h3
  | @node _ p ts h3 h4 h5 =>
   refine List.mem_flatMap.2 ⟨p, h3, List.mem_map.2 ⟨ts, mem_prodL (by rw [List.length_map]; exact h4) fun i t T hi hT => ?_, rfl⟩⟩
   rw [List.getElem?_map] at hT
   obtain ⟨y, hy, rfl⟩ := Option.map_eq_some_iff.1 hT
   exact (hf y ⟨p, h3, List.mem_of_getElem? hy⟩).2 t (h5 i y t hy hi)
open Classical in
theorem nodup_len {α : Type} : ∀ {l m : List α}, l.Nodup → (∀ x ∈ l, x ∈ m) → l.length ≤ m.length
 | [], _, _, _ => Nat.zero_le _
 | a :: l, m, h, hs => by
  obtain ⟨h1, h2⟩ := List.nodup_cons.1 h
  have h3 := hs a (by simp)
  have h4 := nodup_len (m := m.erase a) h2 fun x hx => (List.mem_erase_of_ne (fun e => h1 (by subst e; exact hx))).2 (hs x (by simp [hx]))
  rw [List.length_erase_of_mem h3] at h4
  have := List.length_pos_of_mem h3
  rw [List.length_cons]
  omega
theorem trees_all {x : KeyD} (h : Acc (fun y x => FEdge R ws x y) x) {l : List TreeD} (hd : l.Nodup) (hl : ∀ t ∈ l, KT R ws x t) (hn : fC R ws x ≤ l.length) (hm : l.length < MC) {t : TreeD} (ht : KT R ws x t) : t ∈ l := by
 obtain ⟨T, h1, h2⟩ := all_trees h
 refine Classical.byContradiction fun e => ?_
 have h3 := nodup_len (l := t :: l) (m := T) (List.nodup_cons.2 ⟨e, hd⟩) fun y hy => by
  rcases List.mem_cons.1 hy with rfl | hy
  · exact h2 _ ht
  exact h2 _ (hl y hy)
 rw [List.length_cons] at h3
 unfold cp at h1
 omega
end
end Go.Proofs.YtjnbjdbndbbanaaGreatDoor
namespace Go.Proofs.YtjnbjdbndbbanaaGreatDoor
open Go.RowKit Go.Maps
section
variable {R : List RuleD} {ws : List Int} {root : KeyD} {L : List KeyD} {most : Nat} {hist : List (List CKey)} {X : List CKey} {D : LD}
theorem nodes_at {v : Nat} {nd : NodeD} (h : (L.map (nodeZ R ws L))[v]? = some nd) : ∃ x, L[v]? = some x ∧ nd = nodeZ R ws L x := by
 rw [List.getElem?_map] at h
 obtain ⟨x, h1, h2⟩ := Option.map_eq_some_iff.1 h
 exact ⟨x, h1, h2.symm⟩
theorem made_key (hL : FoL R ws L) {ls : List (List TreeD)} {k : CKey} {t : TreeD} (h : MadeT (L.map (nodeZ R ws L)) ls k t) :
    ∃ x p ts, L[k.1]? = some x ∧ (packsP R ws x)[k.2.1]? = some p ∧ t = .node (p.1 : Int) 0 ts ∧ ts.length = p.2.length ∧ ∀ (a : Nat) (y : KeyD), p.2[a]? = some y → y ∈ L ∧ ∃ r l t', (rkL k)[a]? = some r ∧ ls[ixK L y]? = some l ∧ l[r]? = some t' ∧ ts[a]? = some t' := by
 obtain ⟨nd, p0, ts, h1, h2, rfl, h3, h4⟩ := h
 obtain ⟨x, hx, rfl⟩ := nodes_at h1
 change ((packsP R ws x).map (pkZ L))[k.2.1]? = some p0 at h2
 rw [List.getElem?_map] at h2
 obtain ⟨p, hp, rfl⟩ := Option.map_eq_some_iff.1 h2
 refine ⟨x, p, ts, hx, hp, rfl, by rw [h3]; exact List.length_map _, fun a y hy => ?_⟩
 refine ⟨hL.cl x (List.mem_of_getElem? hx) y ⟨p, List.mem_of_getElem? hp, List.mem_of_getElem? hy⟩, ?_⟩
 have h5 := h4 a (ixK L y : Int) (by show (p.2.map fun y => (ixK L y : Int))[a]? = _; rw [List.getElem?_map, hy]; rfl)
 rw [Int.toNat_natCast] at h5
 exact h5
theorem LI.valid (hL : FoX R ws root L) (h : LI (L.map (nodeZ R ws L)) most hist X D) : ∀ (n v : Nat) (l : List TreeD) (t : TreeD) (x : KeyD), sizeT t ≤ n → D.ls[v]? = some l → t ∈ l → L[v]? = some x → KT R ws x t
 | 0, _, _, _, _, hs, _, _, _ => by rw [sizeT_eq] at hs; omega
 | n + 1, v, l, t, x, hs, hl, ht, hx => by
  obtain ⟨nd, hnd, hc⟩ := h.from hl ht
  obtain ⟨x', hx', rfl⟩ := nodes_at hnd
  obtain rfl : x' = x := Option.some.inj (hx'.symm.trans hx)
  rcases hc with ⟨h1, rfl⟩ | ⟨_, k, rfl, hk⟩
  · exact .leaf h1 (hL.der _ (List.mem_of_getElem? hx)).1
  obtain ⟨x2, p, ts, h1, h2, rfl, h3, h4⟩ := made_key hL.toFoL hk
  obtain rfl : x2 = x' := Option.some.inj (h1.symm.trans hx)
  refine .node (List.mem_of_getElem? h2) h3 fun i y t' hy ht' => ?_
  obtain ⟨hyL, r, l', t2, _, e2, e3, e4⟩ := h4 i y hy
  obtain rfl : t2 = t' := Option.some.inj (e4.symm.trans ht')
  have := sizeT_kid (t := .node (p.1 : Int) 0 ts) (x := t2) (List.mem_of_getElem? ht')
  exact h.valid hL n _ l' t2 y (by omega) e2 (List.mem_of_getElem? e3) (ixK_at hyL)
theorem ck_ext {k k' : CKey} (h1 : k.1 = k'.1) (h2 : k.2.1 = k'.2.1) (h3 : ∀ (a r r' : Nat), (rkL k)[a]? = some r → (rkL k')[a]? = some r' → r = r') : k = k' := by
 obtain ⟨a0, a1, r0, r1, r2, r3⟩ := k
 obtain ⟨b0, b1, s0, s1, s2, s3⟩ := k'
 obtain rfl : a0 = b0 := h1
 obtain rfl : a1 = b1 := h2
 obtain rfl : r0 = s0 := h3 0 _ _ rfl rfl
 obtain rfl : r1 = s1 := h3 1 _ _ rfl rfl
 obtain rfl : r2 = s2 := h3 2 _ _ rfl rfl
 obtain rfl : r3 = s3 := h3 3 _ _ rfl rfl
 rfl
theorem nodup_of_flat {α : Type} {ls : List (List α)} {l : List α} (h : ls.flatten.Nodup) (hl : l ∈ ls) : l.Nodup := by
 obtain ⟨a, b, rfl⟩ := List.append_of_mem hl
 rw [List.flatten_append, List.flatten_cons] at h
 exact (List.nodup_append.1 (List.nodup_append.1 h).2.1).1
theorem LI.uniq (hL : FoX R ws root L) (h : LI (L.map (nodeZ R ws L)) most hist X D) : ∀ (n v : Nat) (l : List TreeD) (i j : Nat) (t : TreeD), sizeT t ≤ n → D.ls[v]? = some l → l[i]? = some t → l[j]? = some t → i = j
 | 0, _, _, _, _, _, hs, _, _, _ => by rw [sizeT_eq] at hs; omega
 | n + 1, v, l, i, j, t, hs, hl, hi, hj => by
  have hv := (List.getElem?_eq_some_iff.1 hl).1
  obtain ⟨nd, hnd⟩ : ∃ nd, (L.map (nodeZ R ws L))[v]? = some nd := ⟨_, List.getElem?_eq_getElem (by rw [← h.ll]; exact hv)⟩
  obtain ⟨hh, hhh⟩ : ∃ hh, hist[v]? = some hh := ⟨_, List.getElem?_eq_getElem (by rw [h.hl, ← h.ll]; exact hv)⟩
  obtain ⟨g1, g2⟩ := h.at_ v nd l hh hnd hl hhh
  cases e : nd.1.1 with
  | true =>
   obtain ⟨e1, _⟩ := g1 e
   rw [e1] at hi hj
   have h1 := (List.getElem?_eq_some_iff.1 hi).1
   have h2 := (List.getElem?_eq_some_iff.1 hj).1
   rw [List.length_singleton] at h1 h2
   omega
  | false =>
   obtain ⟨e1, e2⟩ := g2 e
   obtain ⟨ki, hki⟩ : ∃ k, hh[i]? = some k := ⟨_, List.getElem?_eq_getElem (by rw [← e1]; exact (List.getElem?_eq_some_iff.1 hi).1)⟩
   obtain ⟨kj, hkj⟩ : ∃ k, hh[j]? = some k := ⟨_, List.getElem?_eq_getElem (by rw [← e1]; exact (List.getElem?_eq_some_iff.1 hj).1)⟩
   obtain ⟨a1, a2⟩ := e2 i ki t hki hi
   obtain ⟨b1, b2⟩ := e2 j kj t hkj hj
   obtain ⟨x, p, ts, c1, c2, rfl, c3, c4⟩ := made_key hL.toFoL a2
   obtain ⟨x', p', ts', d1, d2, d0, d3, d4⟩ := made_key hL.toFoL b2
   rw [a1] at c1
   rw [b1] at d1
   obtain rfl : x = x' := Option.some.inj (c1.symm.trans d1)
   injection d0 with d5 _ d6
   subst d6
   have hval : ∀ (q : Nat × List KeyD) (k : CKey), (∀ (a : Nat) (y : KeyD), q.2[a]? = some y → y ∈ L ∧ ∃ r l t', (rkL k)[a]? = some r ∧ D.ls[ixK L y]? = some l ∧ l[r]? = some t' ∧ ts[a]? = some t') → ∀ (i : Nat) (y : KeyD) (t : TreeD), q.2[i]? = some y → ts[i]? = some t → KT R ws y t := fun q k hq i y t hy ht => by
    obtain ⟨hyL, r, l', t2, _, f2, f3, f4⟩ := hq i y hy
    obtain rfl : t2 = t := Option.some.inj (f4.symm.trans ht)
    exact h.valid hL (sizeT t2) _ l' t2 y (Nat.le_refl _) f2 (List.mem_of_getElem? f3) (ixK_at hyL)
   obtain rfl : p = p' := pack_uniq (List.mem_of_getElem? c2) (List.mem_of_getElem? d2) (by omega) c3 d3 (hval p ki c4) (hval p' kj d4)
   have hmi : ki ∈ hist.flatten := List.mem_flatten.2 ⟨hh, List.mem_of_getElem? hhh, List.mem_of_getElem? hki⟩
   have hmj : kj ∈ hist.flatten := List.mem_flatten.2 ⟨hh, List.mem_of_getElem? hhh, List.mem_of_getElem? hkj⟩
   have hcb : ∀ k, k ∈ hist.flatten → k.1 = v → (packsP R ws x)[k.2.1]? = some p → ∀ a r, (rkL k)[a]? = some r → p.2.length ≤ a → r = 0 := fun k hk hkv hkp a r hr ha => by
    obtain ⟨nd', p', f1, f2, f3⟩ := h.cb k (h.sub k (List.mem_append_right _ hk))
    obtain ⟨x', f4, rfl⟩ := nodes_at f1
    rw [hkv] at f4
    obtain rfl : x' = x := Option.some.inj (f4.symm.trans c1)
    change ((packsP R ws x').map (pkZ L))[k.2.1]? = some p' at f2
    rw [List.getElem?_map, hkp] at f2
    obtain rfl := Option.some.inj f2
    exact (f3 a r hr).2 (by show (p.2.map _).length ≤ a; rw [List.length_map]; exact ha)
   obtain rfl : ki = kj := by
    refine ck_ext (by rw [a1, b1]) (nodup_at (packsP_nodup x) c2 d2) fun a r r' hr hr' => ?_
    by_cases ha : a < p.2.length
    ·
     obtain ⟨y, hy⟩ : ∃ y, p.2[a]? = some y := ⟨_, List.getElem?_eq_getElem ha⟩
     obtain ⟨_, s1, l1, t1, f1, f2, f3, f4⟩ := c4 a y hy
     obtain ⟨_, s2, l2, t2, g1, g2, g3, g4⟩ := d4 a y hy
     obtain rfl := Option.some.inj (f1.symm.trans hr)
     obtain rfl := Option.some.inj (g1.symm.trans hr')
     obtain rfl := Option.some.inj (f2.symm.trans g2)
     obtain rfl := Option.some.inj (f4.symm.trans g4)
     have := sizeT_kid (t := .node (p.1 : Int) 0 ts) (x := t1) (List.mem_of_getElem? f4)
     exact h.uniq hL n _ l1 s1 s2 t1 (by omega) f2 f3 g3
    rw [hcb ki hmi a1 c2 a r hr (by omega), hcb kj hmj b1 d2 a r' hr' (by omega)]
   exact nodup_at (nodup_of_flat (List.nodup_append.1 h.nd).2.1 (List.mem_of_getElem? hhh)) hki hkj
theorem LI.all_ (hL : FoX R ws root L) (h : LI (L.map (nodeZ R ws L)) most hist X D) {v : Nat} {l : List TreeD} {x : KeyD} (hx : L[v]? = some x) (hl : D.ls[v]? = some l) (h1 : cntK (L.map (nodeZ R ws L)) (v : Int) ≠ -1) (h2 : cntK (L.map (nodeZ R ws L)) (v : Int) ≤ (l.length : Int)) (hm : l.length < MC) {t : TreeD} (ht : KT R ws x t) : t ∈ l := by
 have hv : v = ixK L x := (ixK_eq hL.nd hx).symm
 subst hv
 rw [hL.toFoL.cnt (List.mem_of_getElem? hx)] at h1 h2
 by_cases ha : Acc (fun y x => FEdge R ws x y) x
 ·
  rw [if_pos ha] at h2
  refine trees_all ha ?_ (fun t' ht' => h.valid hL (sizeT t') _ l t' x (Nat.le_refl _) hl ht' hx) (by omega) hm ht
  rw [List.nodup_iff_pairwise_ne, List.pairwise_iff_getElem]
  intro i j hi hj hij e
  have := h.uniq hL (sizeT l[i]) _ l i j l[i] (Nat.le_refl _) hl (List.getElem?_eq_getElem hi) (by rw [e]; exact List.getElem?_eq_getElem hj)
  omega
 rw [if_neg ha] at h1
 exact absurd rfl h1
end
theorem splP_each {R : List RuleD} {ws : List Int} : ∀ {l : List SymD} {i j : Nat} {ks : List KeyD}, ks ∈ splP R ws l i j → ks.length = l.length
 | [], i, j, ks, h => by
  rw [splP_nil] at h
  split at h
  · rw [List.mem_singleton.1 h]; rfl
  cases h
 | s :: l, i, j, ks, h => by
  obtain ⟨k, k1, _, _, _, h1, rfl⟩ := mem_splP_cons.1 h
  rw [List.length_cons, List.length_cons, splP_each h1]
theorem nsOk {R : List RuleD} {ws : List Int} {root : KeyD} {L : List KeyD} (hL : FoX R ws root L) (hn : ws.length ≤ 12) (hR : ∀ r ∈ R, r.2.length ≤ 4) (hl : R.length ≤ 32) (hf : L.length ≤ 1000000) : NsOk (L.map (nodeZ R ws L)) := by
 refine ⟨⟨by rw [List.length_map]; exact hf, fun nd hnd => (nodes_ok hn hR hl nd hnd).1⟩, fun nd hnd => ?_⟩
 obtain ⟨x, hx, rfl⟩ := List.mem_map.1 hnd
 refine ⟨fun e => ?_, fun p hp => ?_⟩
 ·
  show (packsP R ws x).map (pkZ L) = []
  rw [show packsP R ws x = [] by unfold packsP; rw [if_pos (show x.1.1 = true from e)]]
  rfl
 obtain ⟨q, hq, rfl⟩ := List.mem_map.1 (show p ∈ (packsP R ws x).map (pkZ L) from hp)
 obtain ⟨_, r, h1, _, h2⟩ := mem_packsP.1 hq
 refine ⟨Int.natCast_nonneg _, ?_, fun y hy => ?_⟩
 ·
  show (q.2.map _).length ≤ 4
  rw [List.length_map, splP_each h2]
  exact hR r (List.mem_of_getElem? h1)
 obtain ⟨k, hk, rfl⟩ := List.mem_map.1 (show y ∈ q.2.map fun y => (ixK L y : Int) from hy)
 have := ixK_lt (hL.cl x hx k ⟨q, hq, hk⟩)
 rw [List.length_map]
 omega
theorem packsN_sum {R : List RuleD} {ws : List Int} {L : List KeyD} : ∀ M : List KeyD, packsN (M.map (nodeZ R ws L)) = sumPk R ws M
 | [] => rfl
 | x :: M => by
  have := packsN_sum (R := R) (ws := ws) (L := L) M
  unfold packsN sumPk at this ⊢
  rw [List.map_cons, List.map_cons, List.sum_cons, this, List.map_cons, List.sum_cons]
  congr 1
  show ((packsP R ws x).map (pkZ L)).length = _
  rw [List.length_map]
theorem forTrees (w : World) (hTb : Tab w) (Sg : Nat → Prop) (AR : Option Addr) (nR cR : Nat) (g : GramD) (hg : Sl RRule w Sg AR nR cR g.2.2.2) (hv : GValid g) (n : Nat) (ws : List Int) (hwl : ws.length = n) (hT : ∀ x ∈ ws, 0 ≤ x ∧ x < g.1) (hn : n ≤ 12)
    (hfew : ∀ L : List KeyD, L.Nodup → (∀ x ∈ L, DerK g.2.2.2 ws x) → sumPk g.2.2.2 ws L ≤ 20000) (A1 : Option Addr) (m1 c1 z : Nat) (x1 : Int) (hf : MfD g.2.2.2 g.2.2.1.toNat n ws z w A1 m1 c1 x1) (hd : DerW g.2.2.2 ws [(false, (g.2.2.1.toNat : Int))] 0 n) :
    Calls Tryz.prog 14 #[.agg #[.int .i64 g.1, .int .i64 g.2.1, .int .i64 g.2.2.1, .slice AR nR cR], .agg #[.slice A1 m1 c1, .int .i64 x1], .int .i64 100] w fun e w' => Below w.heap.size w w' ∧ (e = .returned (.tuple #[.slice none 0 0, .int .i64 2]) ∨ ∃ (Ao : Option Addr) (no co : Nat) (lt : List TreeD), e = .returned (.tuple #[.slice Ao no co, .int .i64 0]) ∧ Sl RTree w' (fun b => w.heap.size ≤ b) Ao no co lt ∧ lt.length ≤ 100 ∧ (∀ t ∈ lt, CSh t ∧ sizeT t ≤ 5000) ∧ (lt.length < 100 → ∀ t, KT g.2.2.2 ws ((false, (g.2.2.1.toNat : Int)), 0, n) t → t ∈ lt)) := by
 obtain ⟨w1, hw1⟩ : ∃ w1 : World, w1 = (w.alloc (.cells #[.int .i64 g.1, .int .i64 g.2.1, .int .i64 g.2.2.1, .slice AR nR cR] 25)).alloc (.cells #[.slice A1 m1 c1, .int .i64 x1] 38) := ⟨_, rfl⟩
 have hb1 : Below w.heap.size w w1 := by rw [hw1]; exact ((Below.refl _ _).alloc (Nat.le_refl _) _).alloc (by simp) _
 have hf1 : w1.heap[w.heap.size + 1]? = some (.cells #[.slice A1 m1 c1, .int .i64 x1] 38 (0, 0)) := by rw [hw1]; exact heap_new _ _ _ (by simp)
 have HF1 := zh hf1
 have HB1 := zh hb1
 have HG := zh (hg.below hb1)
 have HV := zh hv
 have HTB := zh (hTb.below hb1 (by have := hTb.1; omega))
 have HT := zh hT
 have HF := zh (hf.below hb1)
 have HFEW := zh hfew
 have HWL := zh hwl
 have HW1 := zh hw1
 have HD := zh hd
 clear hb1 hg hv hTb hw1 hT hf hfew hf1 hwl hd
 go_enter Tryz.func14, Tryz.ntmps14
 go_wp2_with fail
 rw [← HW1.out]
 refine (forValid w1 HTB.out _ AR nR cR g HG.out HV.out n ws HWL.out HT.out hn HFEW.out A1 m1 c1 _ x1 HF.out).mono ?_
 rintro e w2 ⟨rfl, hb2⟩
 have hk := (hb2.block _ (heap_lt HF1.out)).trans HF1.out
 have r0 : w2.cell? ⟨w.heap.size + 1, 0, none⟩ = some (.slice A1 m1 c1) := by simp [World.cell?, hk]
 have r1 : w2.cell? ⟨w.heap.size + 1, 1, none⟩ = some (.int .i64 x1) := by simp [World.cell?, hk]
 have HB2 := zh hb2
 clear hb2 hk
 go_wp2_with fail
 rcases HF.out.below HB2.out with ⟨h0, _⟩ | ⟨_, S, L, hx1, hsl, hL, hlen, _⟩
 · exact absurd HD.out h0
 have hml : m1 = L.length := by rw [hsl.len, List.length_map]
 have hix := ixK_lt hL.rt
 have hlx := ixK_at hL.rt
 rw [hx1] at r1 ⊢
 refine (coreTrees w2 S A1 m1 c1 (ixK L ((false, (g.2.2.1.toNat : Int)), 0, n)) 100 (L.map (nodeZ g.2.2.2 ws L)) hsl (nsOk hL (by rw [HWL.out]; exact hn) (fun r hr => (HV.out.rules r hr).2.1) HV.out.rl (by omega)) (by omega) (by omega) (by omega) (by
  rw [packsN_sum]
  have := HFEW.out L hL.nd hL.der
  omega)).mono ?_
 rintro e w3 ⟨hb3, hres⟩
 have HB3 := zh (HB1.out.trans ((HB2.out.trans (hb3.mono HB2.out.size)).mono HB1.out.size))
 have HZ := zh (show w.heap.size ≤ w2.heap.size from Nat.le_trans HB1.out.size HB2.out.size)
 have HL := zh hL
 have HLX := zh hlx
 have HLEN := zh hlen
 clear hb3 hsl hL hlen hml hix hx1 hlx
 rcases hres with rfl | ⟨Ao, no, co, lt, hist, D, rfl, hs, hI, hl, hc⟩
 ·
  --@3
  go_wp2_with fail
  go_ret2
  exact ⟨HB3.out, .inl rfl⟩
 have HS := zh hs
 have HRES := zh (show lt.length ≤ 100 ∧ (∀ t ∈ lt, CSh t ∧ sizeT t ≤ 5000) ∧ (lt.length < 100 → ∀ t, KT g.2.2.2 ws ((false, (g.2.2.1.toNat : Int)), 0, n) t → t ∈ lt) from by
  have hz := hI.lz lt (List.mem_of_getElem? hl)
  refine ⟨hz.1, fun t ht => ⟨hI.csh (nsOk HL.out (by rw [HWL.out]; exact hn) (fun r hr => (HV.out.rules r hr).2.1) HV.out.rl (by have := HLEN.out; omega)) (sizeT t) _ lt t (Nat.le_refl _) hl ht, hz.2 t ht⟩, fun hlt t ht => ?_⟩
  obtain ⟨h1, h2⟩ := hc hlt
  exact hI.all_ HL.out HLX.out hl h1 h2 (by unfold MC; omega) ht)
 clear hs hI hl hc
 go_wp2_with fail
 go_ret2
 exact ⟨HB3.out, .inr ⟨Ao, no, co, lt, rfl, HS.out.more fun b hb => Nat.le_trans HZ.out hb, HRES.out⟩⟩
section
variable {R : List RuleD} {ws : List Int}
mutual
theorem TV.kt {s : SymD} {t : TreeD} : TV R s t → ∀ (i j : Nat) (p q : List Int), ws = p ++ wordT t ++ q → p.length = i → i + (wordT t).length = j → KT R ws (s, i, j) t ∧ DerW R ws [s] i j
 | @TV.leaf _ c, i, j, p, q, e, hi, hj => by
  rw [wordT_leaf] at e hj
  have hd : DerW R ws [(true, c)] i j := by
   refine .term ?_ (by rw [← hj]; exact .nil)
   rw [e, ← hi, List.append_assoc, List.getElem?_append_right (Nat.le_refl _), Nat.sub_self]
   rfl
  exact ⟨.leaf (x := ((true, c), i, j)) rfl hd, hd⟩
 | @TV.node _ k r ts h1 h2, i, j, p, q, e, hi, hj => by
  rw [wordT_node] at e hj
  obtain ⟨hd, ks, hk, hl, ht⟩ := TVL.kt h2 i j p q e hi hj
  exact ⟨.node (x := ((false, r.1), i, j)) (p := (k, ks)) (mem_packsP.2 ⟨rfl, r, h1, rfl, hk⟩) hl ht, .non (List.mem_of_getElem? h1) hd .nil⟩
theorem TVL.kt {l : List SymD} {ts : List TreeD} : TVL R l ts → ∀ (i j : Nat) (p q : List Int), ws = p ++ wordTs ts ++ q → p.length = i → i + (wordTs ts).length = j → DerW R ws l i j ∧ ∃ ks ∈ splP R ws l i j, ts.length = ks.length ∧ ∀ (a : Nat) (y : KeyD) (t : TreeD), ks[a]? = some y → ts[a]? = some t → KT R ws y t
 | .nil, i, j, p, q, e, hi, hj => by
  rw [wordTs_nil] at hj
  obtain rfl : i = j := by rw [← hj]; rfl
  exact ⟨.nil, [], by rw [splP_nil, if_pos rfl]; simp, rfl, fun a y t ha _ => by simp at ha⟩
 | @TVL.cons _ s l t ts h1 h2, i, j, p, q, e, hi, hj => by
  rw [wordTs_cons] at e hj
  rw [List.length_append] at hj
  obtain ⟨g1, g2⟩ := TV.kt h1 i (i + (wordT t).length) p (wordTs ts ++ q) (by rw [e]; simp) hi rfl
  obtain ⟨d, ks, k1, k2, k3⟩ := TVL.kt h2 (i + (wordT t).length) j (p ++ wordT t) q (by rw [e]; simp) (by rw [List.length_append, hi]) (by omega)
  refine ⟨(DerW.append d g2 : DerW R ws ([s] ++ l) i j), (s, i, i + (wordT t).length) :: ks, mem_splP_cons.2 ⟨_, ks, by omega, g2, d, k1, rfl⟩, by rw [List.length_cons, List.length_cons, k2], fun a y t' ha ht => ?_⟩
  cases a with
  | zero =>
   obtain rfl := Option.some.inj ha
   obtain rfl := Option.some.inj ht
   exact g1
  | succ a => exact k3 a y t' (by simpa using ha) (by simpa using ht)
end
mutual
theorem TV.lets {T : Nat} (hT : TermsR R T) {s : SymD} {t : TreeD} : TV R s t → (s.1 = true → 0 ≤ s.2 ∧ s.2 < (T : Int)) → ∀ x ∈ wordT t, 0 ≤ x ∧ x < (T : Int)
 | .leaf, h, x, hx => by
  rw [wordT_leaf] at hx
  rw [List.mem_singleton.1 hx]
  exact h rfl
 | .node h1 h2, _, x, hx => by
  rw [wordT_node] at hx
  exact TVL.lets hT h2 (fun s hs e => hT _ (List.mem_of_getElem? h1) s hs e) x hx
theorem TVL.lets {T : Nat} (hT : TermsR R T) {l : List SymD} {ts : List TreeD} : TVL R l ts → (∀ s ∈ l, s.1 = true → 0 ≤ s.2 ∧ s.2 < (T : Int)) → ∀ x ∈ wordTs ts, 0 ≤ x ∧ x < (T : Int)
 | .nil, _, x, hx => by rw [wordTs_nil] at hx; cases hx
 | .cons h1 h2, h, x, hx => by
  rw [wordTs_cons] at hx
  rcases List.mem_append.1 hx with e | e
  · exact TV.lets hT h1 (h _ (by simp)) x e
  exact TVL.lets hT h2 (fun s hs => h s (by simp [hs])) x e
end
theorem Unr.kt {a n i : Nat} {t : TreeD} (h : Unr R (false, (a : Int)) n i t) : KT R (wordT t) ((false, (a : Int)), 0, n) t ∧ DerW R (wordT t) [(false, (a : Int))] 0 n :=
 h.tv.kt 0 n [] [] (by simp) rfl (by rw [h.word]; omega)
def cS : Nat → Nat → Nat → Nat
 | 0, i, j => if i = j then 1 else 0
 | m + 1, i, j => ((List.range (j + 1)).map fun k => if i ≤ k then cS m k j else 0).sum
open Classical in
theorem splP_cS : ∀ (l : List SymD) (i j : Nat), (splP R ws l i j).length ≤ cS l.length i j
 | [], i, j => by
  rw [splP_nil]
  show _ ≤ if i = j then 1 else 0
  by_cases e : i = j
  · rw [if_pos e, if_pos e]; exact Nat.le_refl _
  rw [if_neg e, if_neg e]; exact Nat.le_refl _
 | s :: l, i, j => by
  rw [splP_cons, List.length_flatMap]
  simp only [List.length_map]
  rw [sum_ifs]
  show _ ≤ ((List.range (j + 1)).map fun k => if i ≤ k then cS l.length k j else 0).sum
  refine sum_le fun k _ => ?_
  by_cases e : DerW R ws [s] i k ∧ DerW R ws l k j
  ·
   rw [if_pos (decide_eq_true e), if_pos e.1.le.1]
   exact splP_cS l k j
  rw [if_neg (by simpa using e)]
  exact Nat.zero_le _
theorem cS_few : ∀ m, m < 4 → ∀ i, i < 4 → ∀ j, j < 4 → cS m i j ≤ 10 := by decide
theorem sum_each {α : Type} {f : α → Nat} {c : Nat} : ∀ {l : List α}, (∀ x ∈ l, f x ≤ c) → (l.map f).sum ≤ l.length * c
 | [], _ => by simp
 | x :: l, h => by
  have h1 := h x (by simp)
  have h2 := sum_each (l := l) fun y hy => h y (by simp [hy])
  rw [List.map_cons, List.sum_cons, List.length_cons, Nat.succ_mul]
  omega
theorem packs_few3 (hR : ∀ r ∈ R, r.2.length ≤ 3) (hl : R.length ≤ 8) {x : KeyD} (h1 : x.2.1 < 4) (h2 : x.2.2 < 4) : (packsP R ws x).length ≤ 80 := by
 unfold packsP
 split
 · exact Nat.zero_le _
 rw [List.length_flatMap]
 refine Nat.le_trans (sum_each (c := 10) fun p hp => ?_) ?_
 ·
  split
  ·
   rw [List.length_map]
   refine Nat.le_trans (splP_cS _ _ _) (cS_few _ ?_ _ h1 _ h2)
   obtain ⟨r, k⟩ := p
   rw [List.mem_zipIdx_iff_getElem?] at hp
   have := hR r (List.mem_of_getElem? hp)
   show r.2.length < 4
   omega
  exact Nat.zero_le _
 rw [List.length_zipIdx]
 omega
end
theorem pigeon3 {n : Nat} {l : List Nat} (hd : l.Nodup) (h : ∀ x ∈ l, x < n) : l.length ≤ n := by
 have := nodup_len (m := List.range n) hd fun x hx => List.mem_range.2 (h x hx)
 rwa [List.length_range] at this
theorem few3 {g : GramD} (hv : GValid g) (hs : GSmall g) {ws : List Int} (hw : ws.length ≤ 3) (L : List KeyD) (hd : L.Nodup) (hL : ∀ x ∈ L, DerK g.2.2.2 ws x) : sumPk g.2.2.2 ws L ≤ 20000 := by
 have hb : ∀ x ∈ L, x.2.1 < 4 ∧ x.2.2 < 4 := fun x hx => by
  obtain ⟨h1, h2⟩ := hL x hx
  have := h1.le.1
  omega
 have hN : ∀ x ∈ L, x.1.1 = false → 0 ≤ x.1.2 ∧ x.1.2 < 4 := fun x hx hf => by
  obtain ⟨h1, _⟩ := hL x hx
  obtain ⟨⟨b, A⟩, i, j⟩ := x
  obtain rfl : b = false := hf
  cases h1 with
  | non h3 _ _ =>
   have := (hv.rules _ h3).1
   have := hs.n
   exact ⟨by show 0 ≤ A; omega, by show A < 4; omega⟩
 unfold sumPk
 rw [← sum_filter_all (p := fun x : KeyD => !x.1.1) (f := fun x => (packsP g.2.2.2 ws x).length) (l := L) fun x _ e => by
  unfold packsP
  rw [if_pos (by simpa using e)]
  rfl]
 refine Nat.le_trans (sum_each (c := 80) fun x hx => ?_) ?_
 ·
  have hx' := (List.mem_filter.1 hx).1
  exact packs_few3 hs.rr hs.r2 (hb x hx').1 (hb x hx').2
 have hc : ((L.filter fun x : KeyD => !x.1.1).map fun x => x.1.2.toNat * 16 + x.2.1 * 4 + x.2.2).length ≤ 64 := by
  refine pigeon3 ?_ fun y hy => ?_
  ·
   rw [List.nodup_iff_pairwise_ne] at hd ⊢
   rw [List.pairwise_map]
   refine (hd.filter _).imp_of_mem fun {a b} ha hb' hne e => hne ?_
   obtain ⟨ha1, ha2⟩ := List.mem_filter.1 ha
   obtain ⟨hb1, hb2⟩ := List.mem_filter.1 hb'
   have e1 := hb a ha1
   have e2 := hb b hb1
   have e3 := hN a ha1 (by simpa using ha2)
   have e4 := hN b hb1 (by simpa using hb2)
   obtain ⟨⟨xa, ya⟩, ia, ja⟩ := a
   obtain ⟨⟨xb, yb⟩, ib, jb⟩ := b
   simp only [Bool.not_eq_eq_eq_not, Bool.not_true] at ha2 hb2
   simp only at e e1 e2 e3 e4
   subst ha2 hb2
   have h1 : ya = yb := by omega
   have h2 : ia = ib := by omega
   have h3 : ja = jb := by omega
   rw [h1, h2, h3]
  obtain ⟨x, hx, rfl⟩ := List.mem_map.1 hy
  obtain ⟨hx1, hx2⟩ := List.mem_filter.1 hx
  have e1 := hb x hx1
  have e3 := hN x hx1 (by simpa using hx2)
  omega
 rw [List.length_map] at hc
 omega
end Go.Proofs.YtjnbjdbndbbanaaGreatDoor
