/- ApxKind -/
import Derived.Test.YtocbkccchnbmaaaGreatAw20
namespace Go.Proofs.YtocbkccchnbmaaaGreat
theorem selfP_next {c : List Int} {own : Int} {l : List SymD} {i : Nat} {s : SymD} (h : l[i]? = some s) : selfP c own l (i + 1) = if inC c s = true then ((selfP c own l i).1 ++ [((selfP c own l i).2.1, plC c s.2, (l.take i).drop (selfP c own l i).2.2)], exC c s.2, i + 1) else selfP c own l i := by
 conv => lhs; unfold selfP
 rw [h]
structure CfOk (R : List RuleD) (N : Nat) (cf : Int → CompD) : Prop where
 rules : RulesN N R
 set : ∀ n : Nat, n < N → (cf (n : Int)).2 = compK (war (edgN R) N) n N
 kind : ∀ n : Nat, n < N → KindP R (cf (n : Int)).2 (cf (n : Int)).1
section
variable {R : List RuleD} {c : List Int}
theorem getLast?_at {α : Type} {l : List α} {s : α} (h : l.getLast? = some s) : 0 < l.length ∧ l[l.length - 1]? = some s := by
 rw [List.getLast?_eq_getElem?] at h
 refine ⟨?_, h⟩
 have := (List.getElem?_eq_some_iff.1 h).1
 omega
theorem only_last (h : OnlyP R c plLast) {r : RuleD} (hr : r ∈ R) (hc : c.contains r.1 = true) {i : Nat} {s : SymD} (hi : r.2[i]? = some s) (hs : inC c s = true) : i = r.2.length - 1 := by
 have hlt := (List.getElem?_eq_some_iff.1 hi).1
 have := h r hr hc i s hlt hi hs
 unfold plLast at this
 have := of_decide_eq_true this
 omega
theorem only_first (h : OnlyP R c plFirst) {r : RuleD} (hr : r ∈ R) (hc : c.contains r.1 = true) {i : Nat} {s : SymD} (hi : r.2[i]? = some s) (hs : inC c s = true) : i = 0 := by
 have hlt := (List.getElem?_eq_some_iff.1 hi).1
 have := h r hr hc i s hlt hi hs
 unfold plFirst at this
 have := of_decide_eq_true this
 omega
theorem mem_at {α : Type} {l : List α} {s : α} (h : s ∈ l) : ∃ i, i < l.length ∧ l[i]? = some s := by
 obtain ⟨i, hi⟩ := List.getElem?_of_mem h
 exact ⟨i, (List.getElem?_eq_some_iff.1 hi).1, hi⟩
theorem selfP_gap {own : Int} {l : List SymD} : ∀ {i : Nat} {j : Nat} {s : SymD}, (selfP c own l i).2.2 ≤ j → j < i → l[j]? = some s → inC c s = false
 | 0, j, s, _, h, _ => by omega
 | i + 1, j, s, h1, h2, h3 => by
  unfold selfP at h1
  split at h1
  ·
   rename_i hn
   by_cases e : j = i
   ·
    subst e; rw [hn] at h3; cases h3
   ·
    exact selfP_gap (i := i) h1 (by omega) h3
  ·
   rename_i y hy
   split at h1
   ·
    simp only at h1; omega
   ·
    rename_i hin
    by_cases e : j = i
    ·
     subst e
     rw [hy] at h3
     injection h3 with h3
     rw [← h3]
     simpa using hin
    ·
     exact selfP_gap (i := i) h1 (by omega) h3
theorem selfP_out {own : Int} {l : List SymD} {p : PathD} : ∀ {i : Nat}, p ∈ (selfP c own l i).1 → ∀ s ∈ p.2.2, inC c s = false
 | 0, h => by cases h
 | i + 1, h => by
  unfold selfP at h
  split at h
  ·
   exact selfP_out h
  ·
   split at h
   ·
    rcases List.mem_append.1 h with h | h
    ·
     exact selfP_out h
    ·
     rw [List.mem_singleton.1 h]
     intro s hs
     obtain ⟨k, hk, hks⟩ := mem_at hs
     simp only [List.length_drop, List.length_take] at hk
     simp only [List.getElem?_drop, List.getElem?_take] at hks
     split at hks
     ·
      exact selfP_gap (own := own) (i := i) (by omega) (by omega) hks
     ·
      cases hks
   ·
    exact selfP_out h
theorem netRule_out {k : Int} (hk : KindP R c k) {r : RuleD} (hr : r ∈ R) (hc : c.contains r.1 = true) {p : PathD} (hp : p ∈ netRule (k, c) r) : ∀ s ∈ p.2.2, inC c s = false := by
 have no : ∀ {x : Bool}, ¬ x = true → x = false := fun h => by simpa using h
 unfold netRule at hp
 rcases hk with ⟨rfl, ho⟩ | ⟨rfl, _, ho⟩ | ⟨rfl, _, _⟩
 ·
  rw [if_pos rfl] at hp
  split at hp
  ·
   rename_i hl
   rw [List.mem_singleton.1 hp]
   intro s hs
   rw [List.getLast?_eq_none_iff.1 hl] at hs
   cases hs
  ·
   rename_i y hy
   obtain ⟨h0, hy⟩ := getLast?_at hy
   split at hp
   ·
    rw [List.mem_singleton.1 hp]
    intro s hs
    obtain ⟨i, hi, his⟩ := mem_at hs
    simp only [List.length_take] at hi
    simp only [List.getElem?_take] at his
    split at his
    ·
     refine no fun e => ?_
     have := only_last ho hr hc his e
     omega
    ·
     cases his
   ·
    rename_i hin
    rw [List.mem_singleton.1 hp]
    intro s hs
    obtain ⟨i, hi, his⟩ := mem_at hs
    refine no fun e => hin ?_
    have := only_last ho hr hc his e
    subst this
    rw [hy] at his
    injection his with his
    rw [his]; exact e
 ·
  rw [if_neg (show ¬ ((1 : Int) = 0) by decide), if_pos rfl] at hp
  split at hp
  ·
   rename_i hl
   rw [List.mem_singleton.1 hp]
   intro s hs
   rw [List.head?_eq_none_iff.1 hl] at hs
   cases hs
  ·
   rename_i y hy
   rw [List.head?_eq_getElem?] at hy
   split at hp
   ·
    rw [List.mem_singleton.1 hp]
    intro s hs
    obtain ⟨i, hi, his⟩ := mem_at hs
    simp only [List.getElem?_drop] at his
    refine no fun e => ?_
    have := only_first ho hr hc his e
    omega
   ·
    rename_i hin
    rw [List.mem_singleton.1 hp]
    intro s hs
    obtain ⟨i, hi, his⟩ := mem_at hs
    refine no fun e => hin ?_
    have := only_first ho hr hc his e
    subst this
    rw [hy] at his
    injection his with his
    rw [his]; exact e
 ·
  rw [if_neg (show ¬ ((2 : Int) = 0) by decide), if_neg (show ¬ ((2 : Int) = 1) by decide)] at hp
  rcases List.mem_append.1 hp with hp | hp
  ·
   exact selfP_out hp
  ·
   rw [List.mem_singleton.1 hp]
   intro s hs
   obtain ⟨k, hk, hks⟩ := mem_at hs
   simp only [List.length_drop] at hk
   simp only [List.getElem?_drop] at hks
   exact selfP_gap (own := plC c r.1) (i := r.2.length) (by omega) (by omega) hks
theorem netP_out {k : Int} (hk : KindP R c k) {x : Int} {p : PathD} (hp : p ∈ netP R (k, c) x) : ∀ s ∈ p.2.2, inC c s = false := by
 rcases netP_mem hp with h | ⟨r, hr, hc, h⟩
 ·
  rw [netStart_syms h]
  intro s hs
  cases hs
 ·
  exact netRule_out hk hr hc h
theorem idxInt_ge {x : Int} (h : c.contains x = true) : 0 ≤ idxInt c x ∧ idxInt c x < c.length := by
 refine ⟨?_, (idxInt_bd c x).2⟩
 unfold idxInt
 rw [if_pos h]
 omega
theorem idxInt_inj {x y : Int} (hx : c.contains x = true) (hy : c.contains y = true) (h : idxInt c x = idxInt c y) : x = y := by
 unfold idxInt at h
 rw [if_pos hx, if_pos hy] at h
 have h1 := List.idxOf_lt_length_of_mem (List.contains_iff_mem.1 hx)
 have h2 := List.idxOf_lt_length_of_mem (List.contains_iff_mem.1 hy)
 have e1 := List.getElem_idxOf h1
 have e2 := List.getElem_idxOf h2
 have e3 : c.idxOf x = c.idxOf y := by omega
 rw [← e1, ← e2]
 simp only [e3]
theorem inC_has {s : SymD} (h : inC c s = true) : s.1 = false ∧ c.contains s.2 = true := by
 unfold inC at h
 simp only [Bool.and_eq_true, Bool.not_eq_true'] at h
 exact h
def PlRange (c : List Int) (x : Int) : Prop := 0 ≤ x ∧ x < ((c.length * 2 : Nat) : Int)
theorem plC_range {x : Int} (h : c.contains x = true) : PlRange c (plC c x) := by
 have := idxInt_ge h
 unfold PlRange plC
 omega
theorem exC_range {x : Int} (h : c.contains x = true) : PlRange c (exC c x) := by
 have := idxInt_ge h
 unfold PlRange exC
 omega
theorem selfP_range {own : Int} (ho : PlRange c own) {l : List SymD} : ∀ i, PlRange c (selfP c own l i).2.1 ∧ ∀ p ∈ (selfP c own l i).1, PlRange c p.1 ∧ PlRange c p.2.1
 | 0 => ⟨ho, fun p h => by cases h⟩
 | i + 1 => by
  obtain ⟨h1, h2⟩ := selfP_range ho (l := l) i
  unfold selfP
  split
  ·
   exact ⟨h1, h2⟩
  ·
   rename_i s hs
   split
   ·
    rename_i hin
    obtain ⟨_, hc⟩ := inC_has hin
    refine ⟨exC_range hc, fun p hp => ?_⟩
    rcases List.mem_append.1 hp with hp | hp
    ·
     exact h2 p hp
    ·
     rw [List.mem_singleton.1 hp]
     exact ⟨h1, plC_range hc⟩
   ·
    exact ⟨h1, h2⟩
theorem netP_ends {k : Int} (hk : k = 0 ∨ k = 1 ∨ k = 2) {x : Int} (hx : c.contains x = true) {p : PathD} (hp : p ∈ netP R (k, c) x) :
    (p.1 = -1 ∨ (0 ≤ p.1 ∧ p.1 < netN (k, c))) ∧ (p.2.1 = -2 ∨ (0 ≤ p.2.1 ∧ p.2.1 < netN (k, c))) := by
 have hpx := idxInt_ge hx
 rcases hk with rfl | rfl | rfl
 ·
  have hn : (netN ((0 : Int), c) : Int) = c.length := by simp [netN]
  rw [hn]
  rcases netP_mem hp with h | ⟨r, hr, hc, h⟩
  ·
   unfold netStart at h
   rw [if_pos rfl] at h
   rw [List.mem_singleton.1 h]
   exact ⟨.inl rfl, .inr hpx⟩
  ·
   have hpr := idxInt_ge hc
   unfold netRule at h
   rw [if_pos rfl] at h
   split at h
   ·
    rw [List.mem_singleton.1 h]; exact ⟨.inr hpr, .inl rfl⟩
   ·
    split at h
    ·
     rename_i hin
     rw [List.mem_singleton.1 h]
     exact ⟨.inr hpr, .inr (idxInt_ge (inC_has hin).2)⟩
    ·
     rw [List.mem_singleton.1 h]; exact ⟨.inr hpr, .inl rfl⟩
 ·
  have hn : (netN ((1 : Int), c) : Int) = c.length := by simp [netN]
  rw [hn]
  rcases netP_mem hp with h | ⟨r, hr, hc, h⟩
  ·
   unfold netStart at h
   rw [if_neg (show ¬ ((1 : Int) = 0) by decide), if_pos rfl] at h
   rw [List.mem_singleton.1 h]
   exact ⟨.inr hpx, .inl rfl⟩
  ·
   have hpr := idxInt_ge hc
   unfold netRule at h
   rw [if_neg (show ¬ ((1 : Int) = 0) by decide), if_pos rfl] at h
   split at h
   ·
    rw [List.mem_singleton.1 h]; exact ⟨.inl rfl, .inr hpr⟩
   ·
    split at h
    ·
     rename_i hin
     rw [List.mem_singleton.1 h]
     exact ⟨.inr (idxInt_ge (inC_has hin).2), .inr hpr⟩
    ·
     rw [List.mem_singleton.1 h]; exact ⟨.inl rfl, .inr hpr⟩
 ·
  have hn : (netN ((2 : Int), c) : Int) = ((c.length * 2 : Nat) : Int) := by simp [netN]
  rw [hn]
  rcases netP_mem hp with h | ⟨r, hr, hc, h⟩
  ·
   unfold netStart at h
   rw [if_neg (show ¬ ((2 : Int) = 0) by decide), if_neg (show ¬ ((2 : Int) = 1) by decide)] at h
   rcases List.mem_cons.1 h with rfl | h
   ·
    exact ⟨.inl rfl, .inr (plC_range hx)⟩
   ·
    rw [List.mem_singleton.1 h]
    exact ⟨.inr (exC_range hx), .inl rfl⟩
  ·
   unfold netRule at h
   rw [if_neg (show ¬ ((2 : Int) = 0) by decide), if_neg (show ¬ ((2 : Int) = 1) by decide)] at h
   obtain ⟨h1, h2⟩ := selfP_range (plC_range hc) (l := r.2) r.2.length
   rcases List.mem_append.1 h with h | h
   ·
    exact ⟨.inr (h2 p h).1, .inr (h2 p h).2⟩
   ·
    rw [List.mem_singleton.1 h]
    exact ⟨.inr h1, .inr (exC_range hc)⟩
end
section
variable {R : List RuleD} {N : Nat} {cf : Int → CompD}
theorem KindP.three {c : List Int} {k : Int} (h : KindP R c k) : k = 0 ∨ k = 1 ∨ k = 2 := by
 rcases h with ⟨h, _⟩ | ⟨h, _⟩ | ⟨h, _⟩
 ·
  exact .inl h
 ·
  exact .inr (.inl h)
 ·
  exact .inr (.inr h)
theorem CfOk.self (H : CfOk R N cf) {n : Nat} (hn : n < N) : (cf (n : Int)).2.contains (n : Int) = true := by
 rw [H.set n hn]
 exact List.contains_iff_mem.2 (compK_mem.2 ⟨n, hn, rfl, .inl rfl⟩)
theorem reach_cnt (hR : RulesN N R) {a b : Nat} (h : Reach (fun i j => edgN R i j = true) a b) : cntN R N b ≤ cntN R N a := by
 induction h with
 | one h => exact cntN_mono hR h
 | step h _ ih => exact Nat.le_trans ih (cntN_mono hR h)
theorem reach_step {α : Type} {E : α → α → Prop} {a b c : α} (h : Reach E a b) (h' : E b c) : Reach E a c := h.trans (.one h')
theorem CfOk.low (H : CfOk R N cf) {n : Nat} (hn : n < N) {p : PathD} (hp : p ∈ netP R (cf (n : Int)) (n : Int)) {s : SymD} (hs : s ∈ p.2.2) (h1 : s.1 = false) :
    ∃ b : Nat, b < N ∧ s.2 = (b : Int) ∧ Reach (fun i j => edgN R i j = true) n b ∧ cntN R N b < cntN R N n := by
 have he : ∀ i j, edgN R i j = true → j < N := fun i j => edg_lt H.rules
 have hout := netP_out (H.kind n hn) hp s hs
 obtain ⟨r, hr, hc, hm⟩ := netP_syms hp hs
 obtain ⟨⟨hl0, hl1⟩, hno⟩ := H.rules r hr
 obtain ⟨hb0, hb1⟩ := hno s hm h1
 rw [H.set n hn] at hc
 obtain ⟨m, hmN, hrm, hmn⟩ := compK_mem.1 (List.contains_iff_mem.1 hc)
 obtain ⟨b, hb⟩ : ∃ b : Nat, s.2 = (b : Int) := ⟨s.2.toNat, by omega⟩
 have hbN : b < N := by omega
 have hedge : edgN R m b = true := edgN_iff.2 ⟨r, hr, hrm, by rw [← hb, ← h1]; exact hm⟩
 have hnb : Reach (fun i j => edgN R i j = true) n b := by
  rcases hmn with rfl | h
  ·
   exact .one hedge
  ·
   exact reach_step (war_sound h.1) hedge
 have hnot : ¬ (b = n ∨ Reach (fun i j => edgN R i j = true) b n) := fun h => by
  have : inC (cf (n : Int)).2 s = true := by
   unfold inC
   rw [h1, hb, H.set n hn]
   simp only [Bool.not_false, Bool.true_and]
   refine List.contains_iff_mem.2 (compK_mem.2 ⟨b, hbN, rfl, ?_⟩)
   rcases h with h | h
   ·
    exact .inl h
   ·
    exact .inr ⟨(war_iff he).2 hnb, (war_iff he).2 h⟩
  rw [this] at hout
  cases hout
 refine ⟨b, hbN, hb, hnb, ?_⟩
 have hbm : b ≠ m := fun e => hnot (by
  rcases hmn with h | h
  ·
   exact .inl (e.trans h)
  ·
   rw [e]; exact .inr (war_sound h.2))
 have hwm : war (edgN R) N b m = false := by
  cases hw : war (edgN R) N b m with
  | false => rfl
  | true =>
   exact absurd (by
    rcases hmn with h | h
    ·
     rw [← h]; exact Or.inr (war_sound hw)
    ·
     exact Or.inr ((war_sound hw).trans (war_sound h.2))) hnot
 have hlt := cntN_lt H.rules hmN hedge hbm hwm
 rcases hmn with rfl | h
 ·
  exact hlt
 ·
  exact Nat.lt_of_lt_of_le hlt (reach_cnt H.rules (war_sound h.1))
theorem CfOk.net (H : CfOk R N cf) : NetOk R cf N (fun x => cntN R N x.toNat) where
 low := fun n p s hn hp hs h1 => by
  obtain ⟨m, rfl⟩ : ∃ m : Nat, n = (m : Int) := ⟨n.toNat, by omega⟩
  obtain ⟨b, hb, e, _, h⟩ := H.low (by omega) hp hs h1
  rw [e]
  simp only [Int.toNat_natCast]
  exact ⟨by omega, h⟩
 rk1 := fun n hn => ⟨cntN_pos (by omega), cntN_le _⟩
 frm := fun n p hn hp => by
  obtain ⟨m, rfl⟩ : ∃ m : Nat, n = (m : Int) := ⟨n.toNat, by omega⟩
  exact (netP_ends (H.kind m (by omega)).three (H.self (by omega)) hp).1
 dst := fun n p hn hp => by
  obtain ⟨m, rfl⟩ : ∃ m : Nat, n = (m : Int) := ⟨n.toNat, by omega⟩
  exact (netP_ends (H.kind m (by omega)).three (H.self (by omega)) hp).2
 pos := fun n hn => by
  obtain ⟨m, rfl⟩ : ∃ m : Nat, n = (m : Int) := ⟨n.toNat, by omega⟩
  have := List.contains_iff_mem.1 (H.self (n := m) (by omega))
  have := List.length_pos_of_mem this
  unfold netN
  split <;> omega
end
theorem netRule_run {R : List RuleD} {c : CompD} {x : Int} {r : RuleD} (hr : r ∈ R) (hc : c.2.contains r.1 = true) {p : PathD} (hp : p ∈ netRule c r) : p ∈ netP R c x := by
 unfold netP netU
 rw [List.take_length]
 refine List.mem_append_right _ (List.mem_flatMap.2 ⟨r, hr, ?_⟩)
 rw [if_pos hc]
 exact hp
theorem netStart_run {R : List RuleD} {c : CompD} {x : Int} {p : PathD} (hp : p ∈ netStart c x) : p ∈ netP R c x := by
 unfold netP netU
 exact List.mem_append_left _ hp
section
variable {R : List RuleD} {c : List Int} {x : Int}
theorem run_step {ps : List PathD} {a b : Int} {l : List SymD} (h : (a, b, l) ∈ ps) {v : List Int} (hv : LgL R l v) : PRun R ps a v b := PRun.one (p := (a, b, l)) h hv
theorem last_split {α : Type} {l : List α} {s : α} (h : l.getLast? = some s) : l = l.take (l.length - 1) ++ [s] := by
 obtain ⟨h0, hs⟩ := getLast?_at h
 have : l.take (l.length - 1 + 1) = l.take (l.length - 1) ++ [s] := by rw [List.take_add_one, hs]; rfl
 rw [← this, List.take_of_length_le (by omega)]
theorem head_split {α : Type} {l : List α} {s : α} (h : l.head? = some s) : l = s :: l.drop 1 := by
 cases l with
 | nil => cases h
 | cons a l => injection h with h; subst h; rfl
theorem right_sound : ∀ (k : Nat) (t : TreeD) (a : Int), sizeT t ≤ k → TV R (false, a) t → c.contains a = true → PRun R (netP R ((0 : Int), c) x) (plC c a) (wordT t) (-2)
 | 0, t, a, h, _, _ => by rw [sizeT_eq] at h; omega
 | k + 1, t, a, hk, ht, ha => by
  rcases ht.inv with ⟨_, e, _⟩ | ⟨i, r, ts, e, rfl, hi, hts⟩
  ·
   cases e
  ·
   injection e with _ e
   subst e
   have hr := List.mem_of_getElem? hi
   rw [wordT_node]
   have hmem := fun p hp => netRule_run (R := R) (c := ((0 : Int), c)) (x := x) hr ha (p := p) hp
   unfold netRule at hmem
   rw [if_pos rfl] at hmem
   cases hl : r.2.getLast? with
   | none =>
    rw [hl] at hmem
    exact run_step (hmem _ (List.mem_singleton.2 rfl)) ⟨ts, hts, rfl⟩
   | some s =>
    rw [hl] at hmem
    simp only at hmem
    cases hin : inC c s with
    | false =>
     rw [hin] at hmem
     exact run_step (hmem _ (List.mem_singleton.2 rfl)) ⟨ts, hts, rfl⟩
    | true =>
     rw [hin] at hmem
     simp only [if_true] at hmem
     obtain ⟨h1, h2⟩ := inC_has hin
     have hsp := last_split hl
     have hlg : LgL R (r.2.take (r.2.length - 1) ++ [s]) (wordTs ts) := by rw [← hsp]; exact ⟨ts, hts, rfl⟩
     have hlen := hts.len
     obtain ⟨h0, _⟩ := getLast?_at hl
     have hlast : ts[r.2.length - 1]? = some (ts[r.2.length - 1]'(by omega)) := List.getElem?_eq_getElem _
     generalize ts[r.2.length - 1]'(by omega) = tl at hlast
     obtain ⟨s', hs', htv⟩ := hts.get hlast
     rw [(getLast?_at hl).2] at hs'
     injection hs' with hs'
     subst hs'
     have hts2 : ts = ts.take (r.2.length - 1) ++ [tl] := by
      have : ts.take (r.2.length - 1 + 1) = ts.take (r.2.length - 1) ++ [tl] := by rw [List.take_add_one, hlast]; rfl
      rw [← this, List.take_of_length_le (by omega)]
     have hw : wordTs ts = wordTs (ts.take (r.2.length - 1)) ++ wordT tl := by
      conv => lhs; rw [hts2]
      unfold wordTs wordT
      rw [nodesTs_append, wordOf_append, nodesTs_cons, nodesTs_nil, List.append_nil]
     have htk : TVL R (r.2.take (r.2.length - 1)) (ts.take (r.2.length - 1)) := by
      have gen : ∀ {l : List SymD} {us : List TreeD}, TVL R l us → ∀ j, TVL R (l.take j) (us.take j) := by
       intro l
       induction l with
       | nil => intro us h j; rw [h.inv_nil]; simp; exact .nil
       | cons y l ih =>
        intro us h j
        obtain ⟨u, us', rfl, h1, h2⟩ := h.inv
        cases j with
        | zero => exact .nil
        | succ j => exact .cons h1 (ih h2 j)
      exact gen hts _
     have hsz : sizeT tl ≤ k := by
      have := sizeT_mem (List.mem_of_getElem? hlast)
      rw [sizeT_eq] at hk
      have h5 : (TreeD.node (i : Int) 0 ts).kids = ts := rfl
      rw [h5] at hk
      omega
     rw [hw]
     obtain ⟨st, sn⟩ := s
     simp only at h1 h2
     subst h1
     exact (run_step (hmem _ (List.mem_singleton.2 rfl)) ⟨_, htk, rfl⟩).trans (right_sound k tl sn hsz htv h2)
theorem left_sound : ∀ (k : Nat) (t : TreeD) (a : Int), sizeT t ≤ k → TV R (false, a) t → c.contains a = true → PRun R (netP R ((1 : Int), c) x) (-1) (wordT t) (plC c a)
 | 0, t, a, h, _, _ => by rw [sizeT_eq] at h; omega
 | k + 1, t, a, hk, ht, ha => by
  rcases ht.inv with ⟨_, e, _⟩ | ⟨i, r, ts, e, rfl, hi, hts⟩
  ·
   cases e
  ·
   injection e with _ e
   subst e
   have hr := List.mem_of_getElem? hi
   rw [wordT_node]
   have hmem := fun p hp => netRule_run (R := R) (c := ((1 : Int), c)) (x := x) hr ha (p := p) hp
   unfold netRule at hmem
   rw [if_neg (show ¬ ((1 : Int) = 0) by decide), if_pos rfl] at hmem
   cases hl : r.2.head? with
   | none =>
    rw [hl] at hmem
    exact run_step (hmem _ (List.mem_singleton.2 rfl)) ⟨ts, hts, rfl⟩
   | some s =>
    rw [hl] at hmem
    simp only at hmem
    cases hin : inC c s with
    | false =>
     rw [hin] at hmem
     exact run_step (hmem _ (List.mem_singleton.2 rfl)) ⟨ts, hts, rfl⟩
    | true =>
     rw [hin] at hmem
     simp only [if_true] at hmem
     obtain ⟨h1, h2⟩ := inC_has hin
     have hsp := head_split hl
     have hts' := hts
     rw [hsp] at hts'
     obtain ⟨t0, ts', rfl, htv, htl⟩ := hts'.inv
     have hsz : sizeT t0 ≤ k := by
      rw [sizeT_eq] at hk
      have h5 : (TreeD.node (i : Int) 0 (t0 :: ts')).kids = t0 :: ts' := rfl
      rw [h5, sizeTs_cons] at hk
      omega
     rw [wordTs_cons]
     obtain ⟨st, sn⟩ := s
     simp only at h1 h2
     subst h1
     exact (left_sound k t0 sn hsz htv h2).trans (run_step (hmem _ (List.mem_singleton.2 rfl)) ⟨_, htl, rfl⟩)
theorem selfP_grow {own : Int} {l : List SymD} {p : PathD} {i : Nat} : ∀ {j : Nat}, i ≤ j → p ∈ (selfP c own l i).1 → p ∈ (selfP c own l j).1
 | 0, h, hp => by obtain rfl : i = 0 := by omega
                  exact hp
 | j + 1, h, hp => by
  by_cases e : i = j + 1
  ·
   subst e; exact hp
  ·
   have ih := selfP_grow (j := j) (by omega) hp
   unfold selfP
   split
   ·
    exact ih
   ·
    split
    ·
     exact List.mem_append_left _ ih
    ·
     exact ih
theorem wordTs_cut (ts : List TreeD) {a b : Nat} (h : a ≤ b) : wordTs (ts.take b) = wordTs (ts.take a) ++ wordTs ((ts.take b).drop a) := by
 have e : ts.take b = ts.take a ++ (ts.take b).drop a := by
  conv => lhs; rw [← List.take_append_drop a (ts.take b)]
  rw [List.take_take, Nat.min_eq_left h]
 conv => lhs; rw [e]
 unfold wordTs
 rw [nodesTs_append, wordOf_append]
theorem TVL.takeL : ∀ {l : List SymD} {us : List TreeD}, TVL R l us → ∀ j, TVL R (l.take j) (us.take j)
 | [], us, h, j => by rw [h.inv_nil]; simp; exact .nil
 | y :: l, us, h, j => by
  obtain ⟨u, us', rfl, h1, h2⟩ := h.inv
  cases j with
  | zero => exact .nil
  | succ j => exact .cons h1 (TVL.takeL h2 j)
theorem TVL.dropL : ∀ {l : List SymD} {us : List TreeD}, TVL R l us → ∀ j, TVL R (l.drop j) (us.drop j)
 | [], us, h, j => by rw [h.inv_nil]; simp; exact .nil
 | y :: l, us, h, j => by
  obtain ⟨u, us', rfl, h1, h2⟩ := h.inv
  cases j with
  | zero => exact .cons h1 h2
  | succ j => exact TVL.dropL h2 j
theorem self_sound : ∀ (k : Nat) (t : TreeD) (a : Int), sizeT t ≤ k → TV R (false, a) t → c.contains a = true → PRun R (netP R ((2 : Int), c) x) (plC c a) (wordT t) (exC c a)
 | 0, t, a, h, _, _ => by rw [sizeT_eq] at h; omega
 | k + 1, t, a, hk, ht, ha => by
  rcases ht.inv with ⟨_, e, _⟩ | ⟨i, r, ts, e, rfl, hi, hts⟩
  ·
   cases e
  ·
   injection e with _ e
   subst e
   have hr := List.mem_of_getElem? hi
   rw [wordT_node]
   have hmem := fun p hp => netRule_run (R := R) (c := ((2 : Int), c)) (x := x) hr ha (p := p) hp
   unfold netRule at hmem
   rw [if_neg (show ¬ ((2 : Int) = 0) by decide), if_neg (show ¬ ((2 : Int) = 1) by decide)] at hmem
   have hlen := hts.len
   have main : ∀ q, q ≤ r.2.length → PRun R (netP R ((2 : Int), c) x) (plC c r.1) (wordTs (ts.take (selfP c (plC c r.1) r.2 q).2.2)) (selfP c (plC c r.1) r.2 q).2.1 := by
    intro q
    induction q with
    | zero =>
     intro _
     show PRun R _ (plC c r.1) (wordTs (ts.take 0)) (plC c r.1)
     rw [List.take_zero, wordTs_nil]
     exact .nil
    | succ q ih =>
     intro hq
     have ih := ih (by omega)
     have hs : r.2[q]? = some r.2[q] := List.getElem?_eq_getElem (by omega)
     generalize r.2[q] = s at hs
     have hpm : ∀ p, p ∈ (selfP c (plC c r.1) r.2 (q + 1)).1 → p ∈ netP R ((2 : Int), c) x := fun p hp => hmem p (List.mem_append_left _ (selfP_grow hq hp))
     rw [selfP_next hs] at hpm ⊢
     cases hin : inC c s with
     | false => simpa [hin] using ih
     | true =>
      rw [hin] at hpm
      simp only [if_true] at hpm ⊢
      obtain ⟨h1, h2⟩ := inC_has hin
      have hfq := (selfP_len c (plC c r.1) r.2 q).2
      have hp := hpm _ (List.mem_append_right _ (List.mem_singleton.2 rfl))
      have hqt : ts[q]? = some (ts[q]'(by omega)) := List.getElem?_eq_getElem _
      generalize ts[q]'(by omega) = tq at hqt
      obtain ⟨s', hs', htv⟩ := hts.get hqt
      rw [hs] at hs'
      injection hs' with hs'
      subst hs'
      have hsz : sizeT tq ≤ k := by
       have := sizeT_mem (List.mem_of_getElem? hqt)
       rw [sizeT_eq] at hk
       have h5 : (TreeD.node (i : Int) 0 ts).kids = ts := rfl
       rw [h5] at hk
       omega
      have hw : wordTs (ts.take (q + 1)) = (wordTs (ts.take (selfP c (plC c r.1) r.2 q).2.2) ++ wordTs ((ts.take q).drop (selfP c (plC c r.1) r.2 q).2.2)) ++ wordT tq := by
       rw [← wordTs_cut ts hfq, List.take_add_one, hqt]
       unfold wordTs wordT
       rw [nodesTs_append, wordOf_append]
       simp only [Option.toList_some]
       rw [nodesTs_cons, nodesTs_nil, List.append_nil]
      rw [hw]
      obtain ⟨st, sn⟩ := s
      simp only at h1 h2 hp ⊢
      subst h1
      exact (ih.trans (run_step hp ⟨_, ((hts.takeL q).dropL _), rfl⟩)).trans (self_sound k tq sn hsz htv h2)
   have hm := main r.2.length (Nat.le_refl _)
   have hfq := (selfP_len c (plC c r.1) r.2 r.2.length).2
   have hw : wordTs ts = wordTs (ts.take (selfP c (plC c r.1) r.2 r.2.length).2.2) ++ wordTs (ts.drop (selfP c (plC c r.1) r.2 r.2.length).2.2) := by
    have := wordTs_cut ts hfq
    rwa [List.take_of_length_le (show ts.length ≤ r.2.length by omega)] at this
   rw [hw]
   exact hm.trans (run_step (hmem _ (List.mem_append_right _ (List.mem_singleton.2 rfl))) ⟨_, hts.dropL _, rfl⟩)
end
section
variable {R : List RuleD} {N : Nat} {cf : Int → CompD}
theorem CfOk.sound (H : CfOk R N cf) : NetSound R cf N := by
 intro n w hn ⟨t, ht, hw⟩
 subst hw
 obtain ⟨m, rfl⟩ : ∃ m : Nat, n = (m : Int) := ⟨n.toNat, by omega⟩
 have hs := H.self (n := m) (by omega)
 have hk := (H.kind m (by omega)).three
 generalize cf (m : Int) = cc at hs hk ⊢
 obtain ⟨k, c⟩ := cc
 simp only at hs hk
 rcases hk with rfl | rfl | rfl
 ·
  have h1 : PRun R (netP R ((0 : Int), c) (m : Int)) (-1) [] (plC c (m : Int)) := run_step (l := []) (netStart_run (by unfold netStart; rw [if_pos rfl]; exact List.mem_singleton.2 rfl)) (LgL.nil.2 rfl)
  have := h1.trans (right_sound (x := (m : Int)) (sizeT t) t (m : Int) (Nat.le_refl _) ht hs)
  simpa using this
 ·
  have h1 : PRun R (netP R ((1 : Int), c) (m : Int)) (plC c (m : Int)) [] (-2) := run_step (l := []) (netStart_run (by unfold netStart; rw [if_neg (show ¬ ((1 : Int) = 0) by decide), if_pos rfl]; exact List.mem_singleton.2 rfl)) (LgL.nil.2 rfl)
  have := (left_sound (x := (m : Int)) (sizeT t) t (m : Int) (Nat.le_refl _) ht hs).trans h1
  simpa using this
 ·
  have hst : ∀ p, p ∈ [((-1 : Int), plC c (m : Int), ([] : List SymD)), (exC c (m : Int), -2, [])] → p ∈ netP R ((2 : Int), c) (m : Int) := fun p hp => netStart_run (by unfold netStart; rw [if_neg (show ¬ ((2 : Int) = 0) by decide), if_neg (show ¬ ((2 : Int) = 1) by decide)]; exact hp)
  have h1 : PRun R (netP R ((2 : Int), c) (m : Int)) (-1) [] (plC c (m : Int)) := run_step (l := []) (hst _ (by simp)) (LgL.nil.2 rfl)
  have h2 : PRun R (netP R ((2 : Int), c) (m : Int)) (exC c (m : Int)) [] (-2) := run_step (l := []) (hst _ (by simp)) (LgL.nil.2 rfl)
  have := (h1.trans (self_sound (x := (m : Int)) (sizeT t) t (m : Int) (Nat.le_refl _) ht hs)).trans h2
  simpa using this
end
end Go.Proofs.YtocbkccchnbmaaaGreat
