/- Bins -/
import Derived.Test.YtbmcoamdfpegnaaMn04
import Derived.Test.YtbmcoamdfpegnaaMn05
namespace Go.Proofs.Ytbmcoamdfpegnaa
open Go.RowKit
structure Bins (w : World) (base BI : Nat) (ls : List (List Int)) (vs : List Value) : Prop where
 blk : w.heap[BI]? = some (.cells vs.toArray 22 (0, 0))
 len : vs.length = ls.length
 own : ∀ (i : Nat) (v : Value), vs[i]? = some v → ∃ l, ls[i]? = some l ∧ Own w base 3 1 v l.length (l.map (Value.int .i64))
 ap : ∀ (i j : Nat) (vi vj : Value) (g : Nat), i ≠ j → vs[i]? = some vi → vs[j]? = some vj → rowOf vi = some g → rowOf vj ≠ some g
 lt : BI < base
 le : base ≤ w.heap.size
section
variable {w w' : World} {base BI : Nat} {ls : List (List Int)} {vs : List Value}
theorem made_boolsA (n : Nat) : madeCells #[Value.bool false] n = Array.replicate n (Value.bool false) := by
 apply Array.ext'
 rw [toList_madeCells_one]
 simp
theorem set_map {α : Type} (f : α → Value) (L : List α) (i : Nat) (x : α) : (L.map f).toArray.setIfInBounds i (f x) = ((L.set i x).map f).toArray := by
 rw [List.setIfInBounds_toArray, List.map_set]
theorem Bins.start (w : World) (n : Nat) : Bins (w.alloc (.cells (List.replicate n (Value.slice none 0 0)).toArray 22)) (w.heap.size + 1) w.heap.size (List.replicate n []) (List.replicate n (.slice none 0 0)) := by
 have hv : ∀ {i : Nat} {v : Value}, (List.replicate n (Value.slice none 0 0))[i]? = some v → i < n ∧ v = .slice none 0 0 := fun {i v} h => by
  rw [List.getElem?_replicate] at h
  split at h
  ·
   rename_i hi; exact ⟨hi, by injection h with h; exact h.symm⟩
  ·
   cases h
 refine ⟨heap_alloc_new w _, by simp, fun i v h => ?_, fun i j vi vj g _ h1 h2 h3 => ?_, Nat.lt_succ_self _, by simp⟩
 ·
  obtain ⟨hi, rfl⟩ := hv h
  exact ⟨[], by rw [List.getElem?_replicate, if_pos hi], Own.nil _ _ _ _ _⟩
 ·
  obtain ⟨_, rfl⟩ := hv h1
  cases h3
theorem Bins.below (h : Bins w base BI ls vs) (hb : Below w.heap.size w w') : Bins w' base BI ls vs := by
 refine ⟨(hb.block _ (heap_lt h.blk)).trans h.blk, h.len, fun i v hi => ?_, h.ap, h.lt, Nat.le_trans h.le hb.size⟩
 obtain ⟨l, h1, h2⟩ := h.own i v hi
 exact ⟨l, h1, h2.below hb (Nat.le_refl _)⟩
theorem Bins.at_ (h : Bins w base BI ls vs) {i : Nat} (hi : i < ls.length) : ∃ A n c l, vs[i]? = some (.slice A n c) ∧ ls[i]? = some l ∧ n = l.length ∧ n ≤ c ∧ w.cell? ⟨BI, i, none⟩ = some (.slice A n c) ∧ w.frozen? ⟨BI, i, none⟩ = false ∧ Rd w (fun b => base ≤ b) 1 A n (l.map (Value.int .i64)) := by
 have hlt : i < vs.length := by rw [h.len]; exact hi
 have hv := List.getElem?_eq_getElem hlt
 obtain ⟨l, h1, h2⟩ := h.own i _ hv
 obtain ⟨A, c, e, hc, _⟩ := h2.form
 rw [e] at hv h2
 exact ⟨A, l.length, c, l, hv, h1, rfl, hc, by rw [cell_of_row _ _ i _ _ _ h.blk]; simpa using hv, by simp [World.frozen?, h.blk], h2.rd⟩
theorem Bins.sl (h : Bins w base BI ls vs) : Sl RI w (fun b => BI ≤ b) (some ⟨BI, 0, none⟩) ls.length ls.length ls := by
 refine ⟨vs, rfl, Nat.le_refl _, ⟨by rw [h.len]; simp [RI, Rep.slice], fun _ => ⟨BI, 0, rfl, Nat.le_refl _, fun j u hu => ?_⟩⟩, ?_⟩
 ·
  rw [Nat.zero_add, cell_of_row _ _ j _ _ _ h.blk]
  simpa using hu
 ·
  exact (cells_of_rows h.len fun i v hv => h.own i v hv).more fun b hb => Nat.le_trans (Nat.le_of_lt h.lt) hb
theorem Bins.push (h : Bins w base BI ls vs) {i : Nat} {A : Option Addr} {n c : Nat} {l : List Int} (hv : vs[i]? = some (.slice A n c)) (hl : ls[i]? = some l) (x : Int) (hlen : l.length ≤ 1000000) :
    ∃ A2 c2 w2, (Builtin.append_ #[22, 22] 22 #[.slice A n c, .slice (some ⟨w.heap.size, 0, none⟩) 1 1]).run Try.prog (w.alloc (.cells #[.int .i64 x] 3)) = .ok (.slice A2 (n + 1) c2) w2 ∧
     w2.cell? ⟨BI, i, none⟩ = some (.slice A n c) ∧ w2.frozen? ⟨BI, i, none⟩ = false ∧ Bins (w2.setCell ⟨BI, i, none⟩ (.slice A2 (n + 1) c2)) base BI (ls.set i (l ++ [x])) (vs.set i (.slice A2 (n + 1) c2)) ∧ Below base w w2 := by
 obtain ⟨l', h1, ho⟩ := h.own i _ hv
 rw [hl] at h1
 injection h1 with h1
 subst h1
 obtain ⟨v2, w2, hrun, ho2, hg, hrow⟩ := run_append_Own tInts (w.alloc (.cells #[.int .i64 x] 3)) 22 base (.slice A n c) l.length (l.map (Value.int .i64)) (ho.alloc _) (fun _ => True) (some ⟨w.heap.size, 0, none⟩) 1 1 [.int .i64 x]
  (Rd.new w _ _ [.int .i64 x] _ rfl trivial) (by intro u hu; obtain rfl := List.mem_singleton.1 hu; rfl) (by unfold maxLen; omega) (by omega) (by have := h.le; simp; omega)
 obtain ⟨A2, c2, rfl, _, _⟩ := ho2.form
 have hn : n = l.length := by
  obtain ⟨A', c', e, _, _⟩ := ho.form
  injection e with _ e
 subst hn
 have ha := h.below ((Below.refl _ _).alloc (Nat.le_refl _) (.cells #[.int .i64 x] 3))
 have hb : Below base w w2 := ((Below.refl _ _).alloc h.le _).trans (Below.own (Below.refl _ _) (ho.alloc _) hg (Nat.le_refl _) ha.le)
 have hblk : w2.heap[BI]? = some (.cells vs.toArray 22 (0, 0)) := (hb.block BI h.lt).trans h.blk
 have hset := set_grown (Bd := BI) w2 i (.slice A2 (l.length + 1) c2)
 have hin : ∀ {E : TypeId} {v : Value} {m : Nat} {ys : List Value}, Own w2 base E 1 v m ys → Own (w2.setCell ⟨BI, i, none⟩ (.slice A2 (l.length + 1) c2)) base E 1 v m ys := fun hv => by
  refine hv.kept hset fun g e ev => ?_
  injection e with e
  have := (hv.row ev).1
  have := h.lt
  omega
 have hi : i < vs.length := (List.getElem?_eq_some_iff.1 hv).1
 have hil : i < ls.length := by rw [← h.len]; exact hi
 refine ⟨A2, c2, w2, hrun, by rw [cell_of_row _ _ i _ _ _ hblk]; simpa using hv, by simp [World.frozen?, hblk], ⟨?_, by simp [h.len], fun j v hj => ?_, fun j k vj vk g hjk hj hk hgj => ?_, h.lt, ?_⟩, hb⟩
 ·
  have := blk_set hblk i (.slice A2 (l.length + 1) c2)
  rwa [List.setIfInBounds_toArray] at this
 ·
  by_cases e : i = j
  ·
   subst e
   rw [List.getElem?_set_self hi] at hj
   injection hj with hj
   subst hj
   exact ⟨l ++ [x], List.getElem?_set_self hil, hin (by simpa using ho2)⟩
  ·
   rw [List.getElem?_set_ne e] at hj
   obtain ⟨l', k1, k2⟩ := ha.own j v hj
   refine ⟨l', by rw [List.getElem?_set_ne e]; exact k1, hin (k2.kept hg fun g e1 e2 => ?_)⟩
   exact h.ap i j _ _ g e hv hj e1 e2
 ·
  have hold : ∀ (k : Nat) (v : Value), vs[k]? = some v → i ≠ k → rowOf (.slice A2 (l.length + 1) c2) = some g → rowOf v ≠ some g := fun k v hk hne hg2 e => by
   rcases hrow with e2 | e2
   ·
    rw [e2] at hg2
    exact h.ap i k _ _ g hne hv hk hg2 e
   ·
    rw [e2] at hg2
    injection hg2 with hg2
    obtain ⟨l', _, k2⟩ := h.own k v hk
    have := (k2.row e).2
    simp at hg2
    omega
  by_cases e1 : i = j
  ·
   subst e1
   rw [List.getElem?_set_self hi] at hj
   injection hj with hj
   subst hj
   rw [List.getElem?_set_ne hjk] at hk
   exact hold k vk hk hjk hgj
  ·
   rw [List.getElem?_set_ne e1] at hj
   by_cases e2 : i = k
   ·
    subst e2
    rw [List.getElem?_set_self hi] at hk
    injection hk with hk
    subst hk
    intro e3
    exact hold j vj hj e1 e3 hgj
   ·
    rw [List.getElem?_set_ne e2] at hk
    exact h.ap j k vj vk g hjk hj hk hgj
 ·
  have := hb.size
  have := h.le
  simp [World.setCell]; omega
end
end Go.Proofs.Ytbmcoamdfpegnaa
