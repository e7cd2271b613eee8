/- Plain laws of learn.Of: words that lead to different states, and words that distinguish them. -/
import Derived.Test.YtgaahpddlohjoaaCanonLaws
namespace Go.Proofs.Ytgaahpddlohjoaa

/-- words over so many symbols -/
def WOkT (T : Nat) (l : List Int) : Prop := ∀ x ∈ l, 0 ≤ x ∧ x < (T : Int)
theorem WOkT.app {T : Nat} {l m : List Int} (h : WOkT T l) (h' : WOkT T m) : WOkT T (l ++ m) := fun x hx => by
  rcases List.mem_append.1 hx with hx | hx
  · exact h x hx
  · exact h' x hx
theorem WOkT.one {T c : Nat} (hc : c < T) : WOkT T [(c : Int)] := fun x hx => by
  obtain rfl := List.mem_singleton.1 hx
  omega
theorem WOkT.nil {T : Nat} : WOkT T [] := fun x hx => by cases hx
theorem WOkT.take {T : Nat} {l : List Int} (h : WOkT T l) (k : Nat) : WOkT T (l.take k) := fun x hx => h x (List.mem_of_mem_take hx)
theorem WOkT.drop {T : Nat} {l : List Int} (h : WOkT T l) (k : Nat) : WOkT T (l.drop k) := fun x hx => h x (List.mem_of_mem_drop hx)
/-- what the tests say after a word -/
def lrow (acc : List Int → Bool) (tests : List (List Int)) (w : List Int) : List Bool := tests.map fun t => acc (w ++ t)
/-- the words lead to different states -/
def RDist (acc : List Int → Bool) (tests access : List (List Int)) : Prop := ∀ (j k : Nat) (u v : List Int), j < k → access[j]? = some u → access[k]? = some v → lrow acc tests u ≠ lrow acc tests v
section
variable {acc : List Int → Bool} {T : Nat} {tests access : List (List Int)}
theorem lrow_len (w : List Int) : (lrow acc tests w).length = tests.length := by simp [lrow]
theorem lrow_snoc (t w : List Int) : lrow acc (tests ++ [t]) w = lrow acc tests w ++ [acc (w ++ t)] := by simp [lrow]
theorem RDist.more (h : RDist acc tests access) (t : List Int) : RDist acc (tests ++ [t]) access := fun j k u v hjk hj hk e => by
  rw [lrow_snoc, lrow_snoc] at e
  exact h j k u v hjk hj hk (List.append_inj e (by rw [lrow_len, lrow_len])).1
theorem RDist.inj (h : RDist acc tests access) {j k : Nat} {u v : List Int} (hj : access[j]? = some u) (hk : access[k]? = some v) (e : lrow acc tests u = lrow acc tests v) : j = k := by
  rcases Nat.lt_trichotomy j k with h1 | h1 | h1
  · exact absurd e (h j k u v h1 hj hk)
  · exact h1
  · exact absurd e.symm (h k j v u h1 hk hj)
theorem RDist.push (h : RDist acc tests access) {x : List Int} (hx : ∀ v ∈ access, lrow acc tests v ≠ lrow acc tests x) : RDist acc tests (access ++ [x]) := fun j k u v hjk hj hk => by
  rcases Nat.lt_trichotomy k access.length with h1 | h1 | h1
  · rw [List.getElem?_append_left (by omega)] at hj
    rw [List.getElem?_append_left h1] at hk
    exact h j k u v hjk hj hk
  · subst h1
    rw [List.getElem?_append_left hjk] at hj
    simp at hk
    subst hk
    exact hx u (List.mem_of_getElem? hj)
  · rw [List.getElem?_eq_none (by simp; omega)] at hk
    cases hk
/-- no more words than states, and one for none -/
theorem RDist.few (h : RDist acc tests access) {d : DfaD} (hv : Valid d) (hT : cols d = T) (ha : ∀ l, WOkT T l → daccept d l = acc l) (ht : ∀ t ∈ tests, WOkT T t) (hw : ∀ w ∈ access, WOkT T w) : access.length ≤ d.2.2.length + 1 := by
  have hr : ∀ w ∈ access, -1 ≤ drun d w ∧ drun d w < d.2.2.length := fun w hm => drun_range hv (fun x hx => by have := hw w hm x hx; rw [← hT] at this; exact this) (by have := hv.st; omega)
  have h1 : (access.map fun w => (drun d w + 1).toNat).Nodup := by
    rw [List.nodup_iff_pairwise_ne, List.pairwise_iff_getElem]
    intro i j hi hj hij e
    simp only [List.length_map] at hi hj
    simp only [List.getElem_map] at e
    have r1 := hr _ (List.getElem_mem hi)
    have r2 := hr _ (List.getElem_mem hj)
    have e' : drun d access[i] = drun d access[j] := by omega
    refine h i j _ _ hij (List.getElem?_eq_getElem hi) (List.getElem?_eq_getElem hj) ?_
    unfold lrow
    refine List.map_congr_left fun t htm => ?_
    rw [← ha _ ((hw _ (List.getElem_mem hi)).app (ht t htm)), ← ha _ ((hw _ (List.getElem_mem hj)).app (ht t htm))]
    unfold daccept drun at *
    rw [List.foldl_append, List.foldl_append, e']
  have h2 := pigeonD h1 (n := d.2.2.length + 1) fun x hx => by
    obtain ⟨w, hm, rfl⟩ := List.mem_map.1 hx
    have := hr w hm
    omega
  simpa using h2
/-- a cell of a row: the number of the word that leads to the same state -/
def CellT (acc : List Int → Bool) (tests access : List (List Int)) (u : List Int) (c : Nat) (x : Int) : Prop := ∃ (n : Nat) (v : List Int), x = (n : Int) ∧ access[n]? = some v ∧ lrow acc tests v = lrow acc tests (u ++ [(c : Int)])
theorem pre_get {α : Type} {l m : List α} (h : l <+: m) {k : Nat} {x : α} (hk : l[k]? = some x) : m[k]? = some x := by
  obtain ⟨r, rfl⟩ := h
  rw [List.getElem?_append_left (List.getElem?_eq_some_iff.1 hk).1]
  exact hk
theorem CellT.pre {access' : List (List Int)} {u : List Int} {c : Nat} {x : Int} (h : CellT acc tests access u c x) (hp : access <+: access') : CellT acc tests access' u c x := by
  obtain ⟨n, v, h1, h2, h3⟩ := h
  exact ⟨n, v, h1, pre_get hp h2, h3⟩
/-- the words -/
structure AccW (acc : List Int → Bool) (T : Nat) (tests access : List (List Int)) : Prop where
  dist : RDist acc tests access
  hd : access[0]? = some []
  ok : ∀ w ∈ access, WOkT T w
  short : ∀ (k : Nat) (w : List Int), access[k]? = some w → w.length ≤ k
theorem AccW.push (h : AccW acc T tests access) {i c : Nat} {u : List Int} (hu : access[i]? = some u) (hc : c < T) (hx : ∀ v ∈ access, lrow acc tests v ≠ lrow acc tests (u ++ [(c : Int)])) : AccW acc T tests (access ++ [u ++ [(c : Int)]]) := by
  have hi := (List.getElem?_eq_some_iff.1 hu).1
  refine ⟨h.dist.push hx, pre_get (List.prefix_append _ _) h.hd, fun w hw => ?_, fun k w hk => ?_⟩
  · rcases List.mem_append.1 hw with hw | hw
    · exact h.ok w hw
    · obtain rfl := List.mem_singleton.1 hw
      exact (h.ok u (List.mem_of_getElem? hu)).app (.one hc)
  · rcases Nat.lt_trichotomy k access.length with h1 | h1 | h1
    · rw [List.getElem?_append_left h1] at hk
      exact h.short k w hk
    · subst h1
      simp at hk
      subst hk
      have := h.short i u hu
      simp
      omega
    · rw [List.getElem?_eq_none (by simp; omega)] at hk
      cases hk
/-- the rows and the results made of the first i words -/
structure MadeT (acc : List Int → Bool) (T : Nat) (tests access : List (List Int)) (i : Nat) (accs : List Int) (rows : List (List Int)) : Prop where
  rl : rows.length = i
  al : accs.length = i
  row : ∀ (j : Nat) (r u : List Int), rows[j]? = some r → access[j]? = some u → r.length = T ∧ ∀ (c : Nat) (x : Int), r[c]? = some x → CellT acc tests access u c x
  acc : ∀ (j : Nat) (x : Int) (u : List Int), accs[j]? = some x → access[j]? = some u → x = if acc u = true then 0 else -1
theorem MadeT.nil : MadeT acc T tests access 0 [] [] := ⟨rfl, rfl, fun j r u h => by simp at h, fun j x u h => by simp at h⟩
theorem MadeT.pre {access' : List (List Int)} {i : Nat} {accs : List Int} {rows : List (List Int)} (h : MadeT acc T tests access i accs rows) (hi : i ≤ access.length) (hp : access <+: access') : MadeT acc T tests access' i accs rows := by
  have hat : ∀ (j : Nat) (u : List Int), j < i → access'[j]? = some u → access[j]? = some u := fun j u hj hu => by
    have h1 := pre_get hp (List.getElem?_eq_getElem (show j < access.length by omega))
    rw [h1] at hu
    injection hu with hu
    rw [List.getElem?_eq_getElem (by omega), hu]
  refine ⟨h.rl, h.al, fun j r u hr hu => ?_, fun j x u hx hu => ?_⟩
  · have hj : j < i := by rw [← h.rl]; exact (List.getElem?_eq_some_iff.1 hr).1
    obtain ⟨h1, h2⟩ := h.row j r u hr (hat j u hj hu)
    exact ⟨h1, fun c x hx => (h2 c x hx).pre hp⟩
  · have hj : j < i := by rw [← h.al]; exact (List.getElem?_eq_some_iff.1 hx).1
    exact h.acc j x u hx (hat j u hj hu)
theorem MadeT.push {i : Nat} {accs : List Int} {rows : List (List Int)} (h : MadeT acc T tests access i accs rows) {u r : List Int} (hu : access[i]? = some u) (hr : r.length = T) (hc : ∀ (c : Nat) (x : Int), r[c]? = some x → CellT acc tests access u c x) :
    MadeT acc T tests access (i + 1) (accs ++ [if acc u = true then 0 else -1]) (rows ++ [r]) := by
  refine ⟨by simp [h.rl], by simp [h.al], fun j r' u' hj hu' => ?_, fun j x u' hj hu' => ?_⟩
  · rcases Nat.lt_trichotomy j rows.length with h1 | h1 | h1
    · rw [List.getElem?_append_left h1] at hj
      exact h.row j r' u' hj hu'
    · subst h1
      simp at hj
      subst hj
      rw [h.rl, hu] at hu'
      injection hu' with hu'
      subst hu'
      exact ⟨hr, hc⟩
    · rw [List.getElem?_eq_none (by simp; omega)] at hj
      cases hj
  · rcases Nat.lt_trichotomy j accs.length with h1 | h1 | h1
    · rw [List.getElem?_append_left h1] at hj
      exact h.acc j x u' hj hu'
    · subst h1
      simp at hj
      subst hj
      rw [h.al, hu] at hu'
      injection hu' with hu'
      subst hu'
      rfl
    · rw [List.getElem?_eq_none (by simp; omega)] at hj
      cases hj
/-- the automaton that close makes -/
structure Closed (acc : List Int → Bool) (T : Nat) (tests access : List (List Int)) (d : DfaD) : Prop where
  w : AccW acc T tests access
  st : d.1 = 0
  made : MadeT acc T tests access access.length d.2.1 d.2.2
section
variable {d : DfaD}
theorem AccW.pos (h : AccW acc T tests access) : 0 < access.length := (List.getElem?_eq_some_iff.1 h.hd).1
theorem Closed.cols (h : Closed acc T tests access d) : cols d = T := by
  have hp := h.w.pos
  have h0 : 0 < d.2.2.length := by rw [h.made.rl]; exact hp
  have := (h.made.row 0 _ _ (List.getElem?_eq_getElem h0) (List.getElem?_eq_getElem hp)).1
  unfold Go.Proofs.Ytgaahpddlohjoaa.cols
  rw [List.getElem?_eq_getElem h0]
  exact this
theorem Closed.valid (h : Closed acc T tests access d) (hT : 1 ≤ T ∧ T ≤ 16) (hl : access.length ≤ 200) : Valid d := by
  have hp := h.w.pos
  have hrl := h.made.rl
  have hal := h.made.al
  refine ⟨by omega, by omega, by omega, by rw [h.cols]; exact hT.1, by rw [h.cols]; exact hT.2, fun r hr => ?_, by rw [h.st]; omega, fun x hx => ?_⟩
  · obtain ⟨j, hj⟩ := List.getElem?_of_mem hr
    have hjl := (List.getElem?_eq_some_iff.1 hj).1
    obtain ⟨h1, h2⟩ := h.made.row j r _ hj (List.getElem?_eq_getElem (by omega))
    refine ⟨by rw [h.cols]; exact h1, fun x hx => ?_⟩
    obtain ⟨c, hc⟩ := List.getElem?_of_mem hx
    obtain ⟨n, v, rfl, hn, _⟩ := h2 c x hc
    have := (List.getElem?_eq_some_iff.1 hn).1
    omega
  · obtain ⟨j, hj⟩ := List.getElem?_of_mem hx
    have hjl := (List.getElem?_eq_some_iff.1 hj).1
    rw [h.made.acc j x _ hj (List.getElem?_eq_getElem (by omega))]
    split <;> omega
/-- a step of the automaton -/
theorem Closed.to (h : Closed acc T tests access d) {k : Nat} {u : List Int} (hk : access[k]? = some u) {c : Nat} (hc : c < T) : ∃ (n : Nat) (v : List Int), dto d (k : Int) (c : Int) = (n : Int) ∧ access[n]? = some v ∧ lrow acc tests v = lrow acc tests (u ++ [(c : Int)]) := by
  have hkl := (List.getElem?_eq_some_iff.1 hk).1
  have hrl := h.made.rl
  have hk2 : k < d.2.2.length := by omega
  obtain ⟨h1, h2⟩ := h.made.row k _ u (List.getElem?_eq_getElem hk2) hk
  obtain ⟨n, v, e, hn, hv⟩ := h2 c _ (List.getElem?_eq_getElem (by omega))
  refine ⟨n, v, ?_, hn, hv⟩
  unfold dto
  rw [if_neg (by omega), Int.toNat_natCast, Int.toNat_natCast, List.getElem?_eq_getElem hk2, Option.getD_some, List.getElem?_eq_getElem (by omega), Option.getD_some, e]
/-- the state after a word -/
theorem Closed.run (h : Closed acc T tests access d) : ∀ l : List Int, WOkT T l → ∃ (k : Nat) (u : List Int), drun d l = (k : Int) ∧ access[k]? = some u := by
  refine list_snoc_ind (fun _ => ⟨0, [], h.st, h.w.hd⟩) fun l x ih hl => ?_
  obtain ⟨k, u, e, hk⟩ := ih fun y hy => hl y (List.mem_append_left _ hy)
  have hx := hl x (by simp)
  obtain ⟨c, rfl⟩ : ∃ c : Nat, x = (c : Int) := ⟨x.toNat, by omega⟩
  obtain ⟨n, v, e', hn, _⟩ := h.to hk (c := c) (by omega)
  exact ⟨n, v, by rw [drun_snoc, e]; exact e', hn⟩
theorem Closed.res (h : Closed acc T tests access d) {l : List Int} {k : Nat} {u : List Int} (e : drun d l = (k : Int)) (hk : access[k]? = some u) : daccept d l = acc u := by
  have hkl := (List.getElem?_eq_some_iff.1 hk).1
  have hal := h.made.al
  have hk2 : k < d.2.1.length := by omega
  have := h.made.acc k _ u (List.getElem?_eq_getElem hk2) hk
  unfold daccept dat
  rw [e, if_neg (by omega), Int.toNat_natCast, List.getElem?_eq_getElem hk2, Option.getD_some, this]
  cases acc u <;> simp
/-- words whose states are missing -/
def NeedNew (acc : List Int → Bool) (T : Nat) (tests access : List (List Int)) : Prop := ∃ (u : List Int) (c : Nat), u ∈ access ∧ c < T ∧ ∀ v ∈ access, lrow acc tests v ≠ lrow acc tests (u ++ [(c : Int)])
theorem Closed.grow {access0 : List (List Int)} (h : Closed acc T tests access d) (hp : access0 <+: access) (hn : NeedNew acc T tests access0) : access0.length < access.length := by
  rcases Nat.lt_or_ge access0.length access.length with h1 | h1
  · exact h1
  · obtain rfl : access0 = access := hp.eq_of_length (Nat.le_antisymm hp.length_le h1)
    obtain ⟨u, c, hu, hc, hv⟩ := hn
    obtain ⟨k, hk⟩ := List.getElem?_of_mem hu
    obtain ⟨n, v, _, h2, h3⟩ := h.to hk hc
    exact absurd h3 (hv v (List.mem_of_getElem? h2))
/-- whether the word's end says the same behind the state that its beginning leads to -/
def sameP (acc : List Int → Bool) (access : List (List Int)) (d : DfaD) (w : List Int) (i : Nat) : Bool := acc ((access.getD (drun d (w.take i)).toNat []) ++ w.drop i) == acc w
theorem Closed.at_ (h : Closed acc T tests access d) {w : List Int} (hw : WOkT T w) (i : Nat) : ∃ (k : Nat) (u : List Int), drun d (w.take i) = (k : Int) ∧ access[k]? = some u ∧ access.getD (drun d (w.take i)).toNat [] = u := by
  obtain ⟨k, u, e, hk⟩ := h.run _ (hw.take i)
  exact ⟨k, u, e, hk, by rw [e, Int.toNat_natCast]; simp [hk]⟩
theorem Closed.same0 (h : Closed acc T tests access d) (w : List Int) : sameP acc access d w 0 = true := by
  have e : drun d (w.take 0) = 0 := by rw [List.take_zero]; exact h.st
  have hh := h.w.hd
  unfold sameP
  rw [e]
  simp [hh]
theorem Closed.sameN (h : Closed acc T tests access d) {w : List Int} (hw : WOkT T w) (hd : daccept d w ≠ acc w) : sameP acc access d w w.length = false := by
  obtain ⟨k, u, e, hk, hu⟩ := h.at_ hw w.length
  unfold sameP
  rw [hu, List.drop_length, List.append_nil]
  rw [List.take_length] at e
  have := h.res e hk
  rw [← this]
  simpa using hd
/-- the test that a counterexample gives shows that a state is missing -/
theorem Closed.split (h : Closed acc T tests access d) {w : List Int} (hw : WOkT T w) {i : Nat} (hi : i < w.length) (h1 : sameP acc access d w i = true) (h2 : sameP acc access d w (i + 1) = false) : NeedNew acc T (tests ++ [w.drop (i + 1)]) access := by
  obtain ⟨k, u, e, hk, hu⟩ := h.at_ hw i
  obtain ⟨k', u', e', hk', hu'⟩ := h.at_ hw (i + 1)
  have hx := hw w[i] (List.getElem_mem hi)
  obtain ⟨c, hc⟩ : ∃ c : Nat, w[i] = (c : Int) := ⟨w[i].toNat, by omega⟩
  have hcT : c < T := by omega
  obtain ⟨n, v, e2, hn, hv⟩ := h.to hk hcT
  have hrun : drun d (w.take (i + 1)) = (n : Int) := by
    rw [List.take_succ_eq_append_getElem hi, drun_snoc, e, hc]; exact e2
  have hkn : k' = n := by rw [hrun] at e'; omega
  subst hkn
  rw [hk'] at hn
  injection hn with hn
  subst hn
  refine ⟨u, c, List.mem_of_getElem? hk, hcT, fun y hy e3 => ?_⟩
  rw [lrow_snoc, lrow_snoc] at e3
  obtain ⟨e4, e5⟩ := List.append_inj e3 (by rw [lrow_len, lrow_len])
  obtain ⟨j, hj⟩ := List.getElem?_of_mem hy
  have hjn := h.w.dist.inj hj hk' (e4.trans hv.symm)
  subst hjn
  rw [hk'] at hj
  injection hj with hj
  subst hj
  injection e5 with e5
  unfold sameP at h1 h2
  rw [hu] at h1
  rw [hu'] at h2
  rw [List.drop_eq_getElem_cons hi, hc] at h1
  rw [List.append_assoc, List.singleton_append] at e5
  rw [← e5] at h1
  rw [h1] at h2
  cases h2
end
end
end Go.Proofs.Ytgaahpddlohjoaa
