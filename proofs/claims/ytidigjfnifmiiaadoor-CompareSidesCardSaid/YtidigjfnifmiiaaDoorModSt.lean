/- CompareSides: the terminals of a grammar's rules are made smaller in place. -/
import Derived.Test.YtidigjfnifmiiaaDoorMakeGram
import Derived.Test.YtidigjfnifmiiaaDoorSlRev
import Derived.Test.YtidigjfnifmiiaaDoorSamePlain
import Derived.Test.YtidigjfnifmiiaaDoorDistinct
namespace Go.Proofs.YtidigjfnifmiiaaDoor
open Go.RowKit

def mS (T : Int) (s : SymD) : SymD := (s.1, if s.1 then s.2 % T else s.2)
def mR (T : Int) (r : RuleD) : RuleD := (r.1, r.2.map (mS T))
theorem mS_mod {T : Int} {s : SymD} (h : s.1 = true) : (mS T s).2 = s.2 % T := by simp [mS, h]
theorem mS_no {T : Int} {s : SymD} (h : s.1 = false) : (mS T s).2 = s.2 := by simp [mS, h]
/-- rows with their addresses -/
theorem OwnK.rows {w : World} {base K n c : Nat} {A : Option Addr} {rules : List RuleD} (h : OwnK w base K (.slice A n c) rules) (h0 : 0 < rules.length) :
    n = rules.length ∧ ∃ (gr : Nat) (P : Nat → RuleC), A = some ⟨gr, 0, none⟩ ∧ base ≤ gr ∧ gr < K ∧ Pairs w gr n 29 (c * 2) (fun k => encR (P k)) ∧ n ≤ c ∧
      ∀ k r, rules[k]? = some r → (P k).1 = r.1 ∧ Sl RSym w (fun b => Unf w b ∧ base ≤ b ∧ b < K ∧ b ≠ gr) (P k).2.1 (P k).2.2.1 (P k).2.2.2 r.2 := by
  obtain ⟨xs, h1, h2, h3⟩ := h
  rcases h1 with h1 | ⟨_, _, h, _⟩
  case inr => omega
  have hl := h1.1
  rcases h1.2 with ⟨_, h⟩ | ⟨gr, cap, cur, e, hb, hh, hnc, hcm, hcs, ht⟩
  · omega
  injection e with e1 e2 e3
  subst e1
  subst e2
  subst e3
  obtain ⟨c', rfl⟩ : ∃ c', c = c' + 1 := ⟨c - 1, by omega⟩
  have hxk : ∀ k, ∃ q : RuleC, k < rules.length → xs[k * 2]? = some (encR q).1 ∧ xs[k * 2 + 1]? = some (encR q).2 ∧ ∃ r, rules[k]? = some r ∧ q.1 = r.1 ∧ Sl RSym w (fun b => Unf w b ∧ base ≤ b ∧ b < K ∧ b ≠ gr) q.2.1 q.2.2.1 q.2.2.2 r.2 := by
    intro k
    by_cases hk : k < rules.length
    · obtain ⟨r, hr⟩ : ∃ r, rules[k]? = some r := ⟨_, List.getElem?_eq_getElem hk⟩
      have hok := h2.get (k := k) hk
      rw [(List.getElem?_eq_some_iff.1 hr).2] at hok
      obtain ⟨A, m, c, e, hs⟩ := RRule.cells.1 hok
      have e' : (xs.drop (k * 2)).take 2 = [.int .i64 r.1, .slice A m c] := e
      have i1 : k * 2 < xs.length := by omega
      have i2 : k * 2 + 1 < xs.length := by omega
      rw [List.drop_eq_getElem_cons i1, List.drop_eq_getElem_cons i2] at e'
      simp only [List.take_succ_cons, List.take_zero, List.cons.injEq, and_true] at e'
      exact ⟨(r.1, A, m, c), fun _ => ⟨by rw [List.getElem?_eq_getElem i1, e'.1]; rfl, by rw [List.getElem?_eq_getElem i2, e'.2]; rfl, r, hr, rfl, hs.more fun b hb => ⟨hb.1, hb.2.1, hb.2.2.1, fun e => hb.2.2.2 (by rw [e]; rfl)⟩⟩⟩
    · exact ⟨(0, none, 0, 0), fun h => absurd h hk⟩
  obtain ⟨P, hP⟩ : ∃ P : Nat → RuleC, ∀ k, k < rules.length → xs[k * 2]? = some (encR (P k)).1 ∧ xs[k * 2 + 1]? = some (encR (P k)).2 ∧ ∃ r, rules[k]? = some r ∧ (P k).1 = r.1 ∧ Sl RSym w (fun b => Unf w b ∧ base ≤ b ∧ b < K ∧ b ≠ gr) (P k).2.1 (P k).2.2.1 (P k).2.2.2 r.2 := ⟨fun k => Classical.choose (hxk k), fun k => Classical.choose_spec (hxk k)⟩
  refine ⟨rfl, gr, P, rfl, hb, h3 gr rfl, ⟨cur, hh, hcs, fun k hk => ?_⟩, hnc, fun k r hr => ?_⟩
  · obtain ⟨a1, a2, _⟩ := hP k hk
    rw [← ht, List.getElem?_take, if_pos (by omega), Array.getElem?_toList] at a1 a2
    exact ⟨a1, a2⟩
  · obtain ⟨_, _, r', e1, e2, e3⟩ := hP k (List.getElem?_eq_some_iff.1 hr).1
    rw [hr] at e1
    injection e1 with e1
    subst e1
    exact ⟨e2, e3⟩
theorem Unf.set {w : World} {b : Nat} (h : Unf w b) (g i : Nat) (v : Value) : Unf (w.setCell ⟨g, i, none⟩ v) b := by
  by_cases e : b = g
  · subst e
    obtain ⟨cs, E, h⟩ := h
    exact ⟨_, E, blk_set h i v⟩
  · exact h.of (Below.heap_setCell _ _ _ _ e)
def HalfAt (u : World) (T : Int) (A : Option Addr) (i : Nat) (s : SymD) (d : Prop) : Prop :=
  ∀ b o, A = some ⟨b, o, none⟩ → u.cell? ⟨b, o + i * 2, none⟩ = some (.bool s.1) ∧ ∃ x, u.cell? ⟨b, o + i * 2 + 1, none⟩ = some (.int .i64 x) ∧ (x = s.2 ∨ x = (mS T s).2) ∧ (d → x = (mS T s).2)
def SymsAt (w3 : World) (lo hi gr : Nat) (rules : List RuleD) (P : Nat → RuleC) : Prop :=
  ∀ k r, rules[k]? = some r → (P k).1 = r.1 ∧ Sl RSym w3 (fun b => Unf w3 b ∧ lo ≤ b ∧ b < hi ∧ b ≠ gr) (P k).2.1 (P k).2.2.1 (P k).2.2.2 r.2
/-- inside the loops: D is done -/
structure ModSt (w3 : World) (lo hi gr : Nat) (T : Int) (rules : List RuleD) (P : Nat → RuleC) (D : Nat → Nat → Prop) (u : World) : Prop where
  st : ∀ k r, rules[k]? = some r → ∀ i s, r.2[i]? = some s → HalfAt u T (P k).2.1 i s (D k i)
  uk : ∀ b, Unf w3 b → Unf u b
  rest : ∀ b, b < w3.heap.size → ¬ (lo ≤ b ∧ b < hi ∧ b ≠ gr) → u.heap[b]? = w3.heap[b]?
  bel : Below lo w3 u
section
variable {w3 u u' : World} {lo hi gr : Nat} {T : Int} {rules : List RuleD} {P : Nat → RuleC} {D D' : Nat → Nat → Prop}
theorem SymsAt.get (h : SymsAt w3 lo hi gr rules P) {k i b o : Nat} {r : RuleD} {s : SymD} (hr : rules[k]? = some r) (hs : r.2[i]? = some s) (hA : (P k).2.1 = some ⟨b, o, none⟩) :
    w3.cell? ⟨b, o + i * 2, none⟩ = some (.bool s.1) ∧ w3.cell? ⟨b, o + i * 2 + 1, none⟩ = some (.int .i64 s.2) ∧ Unf w3 b ∧ lo ≤ b ∧ b < hi ∧ b ≠ gr := by
  have hsl := (h k r hr).2
  have hi' : i < (P k).2.2.1 := by have := hsl.len; have := (List.getElem?_eq_some_iff.1 hs).1; omega
  obtain ⟨b', o', s', e, hS, _, h1, h2, h3⟩ := sym_at hsl hi'
  rw [hA] at e
  injection e with e
  injection e with e1 e2
  subst e1
  subst e2
  rw [hs] at h3
  injection h3 with h3
  subst h3
  exact ⟨h1, h2, hS⟩
theorem ModSt.start (h : SymsAt w3 lo hi gr rules P) : ModSt w3 lo hi gr T rules P (fun _ _ => False) w3 :=
  ⟨fun _ _ hr _ _ hs _ _ hA => by
    obtain ⟨h1, h2, _⟩ := h.get hr hs hA
    exact ⟨h1, _, h2, .inl rfl, fun h => h.elim⟩, fun _ h => h, fun _ _ _ => rfl, Below.refl _ _⟩
theorem ModSt.weak (h : ModSt w3 lo hi gr T rules P D u) (hD : ∀ k i r s, rules[k]? = some r → r.2[i]? = some s → D' k i → D k i) : ModSt w3 lo hi gr T rules P D' u :=
  ⟨fun k r hr i s hs b o hA => by
    obtain ⟨h1, x, h2, h3, h4⟩ := h.st k r hr i s hs b o hA
    exact ⟨h1, x, h2, h3, fun hd => h4 (hD k i r s hr hs hd)⟩, h.uk, h.rest, h.bel⟩
theorem ModSt.skip (h : ModSt w3 lo hi gr T rules P D u) {k i : Nat} {r : RuleD} {s : SymD} (hr : rules[k]? = some r) (hs : r.2[i]? = some s) (hf : s.1 = false) : ModSt w3 lo hi gr T rules P (fun k' i' => D k' i' ∨ (k' = k ∧ i' = i)) u :=
  ⟨fun k' r' hr' i' s' hs' b o hA => by
    obtain ⟨h1, x, h2, h3, h4⟩ := h.st k' r' hr' i' s' hs' b o hA
    refine ⟨h1, x, h2, h3, fun hd => ?_⟩
    rcases hd with hd | ⟨rfl, rfl⟩
    · exact h4 hd
    · rw [hr] at hr'
      injection hr' with hr'
      subst hr'
      rw [hs] at hs'
      injection hs' with hs'
      subst hs'
      rcases h3 with h3 | h3
      · rw [h3, mS_no hf]
      · exact h3, h.uk, h.rest, h.bel⟩
theorem ModSt.below (h : ModSt w3 lo hi gr T rules P D u) (hb : Below u.heap.size u u') (hlo : lo ≤ u.heap.size) : ModSt w3 lo hi gr T rules P D u' :=
  ⟨fun k r hr i s hs b o hA => by
    obtain ⟨h1, x, h2, h3, h4⟩ := h.st k r hr i s hs b o hA
    exact ⟨(hb.cell (cell_lt h1)).trans h1, x, (hb.cell (cell_lt h2)).trans h2, h3, h4⟩, fun b hu => (h.uk b hu).of (hb.block b (h.uk b hu).lt),
    fun b h1 h2 => (hb.block b (by have := h.bel.size; omega)).trans (h.rest b h1 h2), h.bel.trans (hb.mono hlo)⟩
theorem ModSt.set (h : ModSt w3 lo hi gr T rules P D u) (hS : SymsAt w3 lo hi gr rules P) {k i b o : Nat} {r : RuleD} {s : SymD} (hr : rules[k]? = some r) (hs : r.2[i]? = some s) (hA : (P k).2.1 = some ⟨b, o, none⟩) :
    ModSt w3 lo hi gr T rules P (fun k' i' => D k' i' ∨ (k' = k ∧ i' = i)) (u.setCell ⟨b, o + i * 2 + 1, none⟩ (.int .i64 (mS T s).2)) := by
  obtain ⟨a1, a2, a3, a4, a5, a6⟩ := hS.get hr hs hA
  obtain ⟨_, y, c2, _, _⟩ := h.st k r hr i s hs b o hA
  refine ⟨fun k' r' hr' i' s' hs' b' o' hA' => ?_, fun b' hu => (h.uk b' hu).set _ _ _, fun b' h1 h2 => ?_, h.bel.setCell a4 _⟩
  · obtain ⟨h1, x, h2, h3, h4⟩ := h.st k' r' hr' i' s' hs' b' o' hA'
    obtain ⟨e1, e2, _⟩ := hS.get hr' hs' hA'
    refine ⟨?_, ?_⟩
    · rw [World.cell?_setCell_other]
      · exact h1
      · intro e
        rw [← e, c2] at h1
        cases h1
    · by_cases e : (⟨b', o' + i' * 2 + 1, none⟩ : Addr) = ⟨b, o + i * 2 + 1, none⟩
      · injection e with eb eo
        have eo' : o' + i' * 2 = o + i * 2 := by omega
        subst eb
        rw [eo', a2] at e2
        rw [eo', a1] at e1
        injection e1 with e1
        injection e1 with e1
        injection e2 with e2
        injection e2 with _ e2
        have es : s' = s := Prod.ext e1.symm e2.symm
        subst es
        rw [eo']
        exact ⟨_, World.cell?_setCell_same _ _ _ c2, .inr rfl, fun _ => rfl⟩
      · refine ⟨x, ?_, h3, fun hd => ?_⟩
        · rw [World.cell?_setCell_other _ _ _ _ (fun e' => e e'.symm)]
          exact h2
        · rcases hd with hd | ⟨rfl, rfl⟩
          · exact h4 hd
          · exfalso
            rw [hA] at hA'
            injection hA' with hA'
            injection hA' with q1 q2
            subst q1
            subst q2
            exact e rfl
  · rw [Below.heap_setCell _ _ _ _ (fun e => h2 (by have e' : b' = b := e; subst e'; exact ⟨a4, a5, a6⟩))]
    exact h.rest b' h1 h2
def encS (s : SymD) : List Value := [.bool s.1, .int .i64 s.2]
theorem encS_cells {w : World} {S : Nat → Prop} : ∀ (l : List SymD), Cells RSym w S (l.flatMap encS) l
  | [] => Cells.nil
  | s :: l => ⟨encS s, l.flatMap encS, rfl, RSym.cells.2 rfl, encS_cells l⟩
theorem encS_get : ∀ {l : List SymD} {j : Nat} {v : Value}, (l.flatMap encS)[j]? = some v → ∃ i s, l[i]? = some s ∧ (j = i * 2 ∧ v = .bool s.1 ∨ j = i * 2 + 1 ∧ v = .int .i64 s.2)
  | [], _, _, h => by cases h
  | s :: l, j, v, h => by
    match j, h with
    | 0, h => exact ⟨0, s, rfl, .inl ⟨rfl, by injection h with h; exact h.symm⟩⟩
    | 1, h => exact ⟨0, s, rfl, .inr ⟨rfl, by injection h with h; exact h.symm⟩⟩
    | j + 2, h =>
      obtain ⟨i, s', h1, h2⟩ := encS_get (l := l) (j := j) (v := v) h
      rcases h2 with ⟨h2, h3⟩ | ⟨h2, h3⟩
      · exact ⟨i + 1, s', h1, .inl ⟨by omega, h3⟩⟩
      · exact ⟨i + 1, s', h1, .inr ⟨by omega, h3⟩⟩
theorem ModSt.fin (h : ModSt w3 lo hi gr T rules P D u) (hS : SymsAt w3 lo hi gr rules P) {k : Nat} {r : RuleD} (hr : rules[k]? = some r) (hD : ∀ i s, r.2[i]? = some s → D k i) :
    Sl RSym u (fun b => lo ≤ b ∧ b < hi ∧ b ≠ gr) (P k).2.1 (P k).2.2.1 (P k).2.2.2 (mR T r).2 := by
  have hsl := (hS k r hr).2
  obtain ⟨xs, e1, e2, hrd, hc⟩ := hsl
  refine ⟨((mR T r).2).flatMap encS, by show _ = (r.2.map (mS T)).length; rw [List.length_map]; exact e1, e2, ⟨?_, fun h0 => ?_⟩, encS_cells _⟩
  · rw [(encS_cells (w := u) (S := fun _ => True) (mR T r).2).len]
    show (r.2.map (mS T)).length * _ = _
    rw [List.length_map, e1]
  · obtain ⟨b, o, hA, hb, _⟩ := hrd.2 h0
    refine ⟨b, o, hA, hb.2, fun j v hv => ?_⟩
    obtain ⟨i, s, hs, hj⟩ := encS_get hv
    have hs' : (r.2.map (mS T))[i]? = some s := hs
    rw [List.getElem?_map] at hs'
    cases hq : r.2[i]? with
    | none => rw [hq] at hs'; cases hs'
    | some s0 =>
      rw [hq] at hs'
      injection hs' with hs'
      subst hs'
      obtain ⟨h1, x, h2, _, h4⟩ := h.st k r hr i s0 hq b o hA
      rcases hj with ⟨rfl, rfl⟩ | ⟨rfl, rfl⟩
      · exact h1
      · rw [← h4 (hD i s0 hq)]
        exact h2
end
/-- what is left is a grammar -/
theorem GValid.dist {g h : GramD} (hg : GValid g) (hh : GValid h) (hs : GSmall h) : GValid (g.1, h.2.1, h.2.2.1, dist [] (h.2.2.2.map (mR g.1))) := by
  refine ⟨hg.t1, hg.t2, hh.n1, hh.n2, hh.st, ?_, fun r hr => ?_, dist_nodup _ _ List.nodup_nil⟩
  · have := dist_len (h.2.2.2.map (mR g.1)) []
    have := hs.r2
    simp only [List.length_map, List.length_nil] at *
    omega
  · rw [dist_mem] at hr
    rcases hr with hr | hr
    · cases hr
    · obtain ⟨r0, h0, rfl⟩ := List.mem_map.1 hr
      obtain ⟨a1, a2, a3⟩ := hh.rules r0 h0
      refine ⟨a1, by simpa [mR] using a2, fun s hs' => ?_⟩
      obtain ⟨s0, hs0, rfl⟩ := List.mem_map.1 hs'
      obtain ⟨b1, b2⟩ := a3 s0 hs0
      have ht := hg.t1
      obtain ⟨f, x⟩ := s0
      cases f with
      | false => exact ⟨b1, by simpa [mS] using b2⟩
      | true =>
        refine ⟨?_, ?_⟩
        · show 0 ≤ x % g.1
          exact Int.emod_nonneg _ (by omega)
        · show x % g.1 < g.1
          exact Int.emod_lt_of_pos _ (by omega)
end Go.Proofs.YtidigjfnifmiiaaDoor
