/- Qf -/
import Derived.ArgAppend
import Derived.Test.YtbmcoamdfpegnaaMa06
import Derived.Test.YtbmcoamdfpegnaaMa08
namespace Go.Proofs.Ytbmcoamdfpegnaa
open Go.RowKit
theorem setCells_heap (b : Nat) {E : TypeId} : ∀ (vs : List Value) (o : Nat) (w : World) (cur : Array Value), w.heap[b]? = some (.cells cur E (0, 0)) → o + vs.length ≤ cur.size →
    ∃ cur' : Array Value, (w.setCells b o vs).heap[b]? = some (.cells cur' E (0, 0)) ∧ cur'.size = cur.size ∧ (∀ j u, vs[j]? = some u → cur'[o + j]? = some u) ∧ (∀ i, i < o → cur'[i]? = cur[i]?)
 | [], o, w, cur, h, _ => ⟨cur, h, rfl, fun j u hu => by simp at hu, fun _ _ => rfl⟩
 | v :: vs, o, w, cur, h, hl => by
  rw [List.length_cons] at hl
  have h1 := heap_setCell_same w b o cur E v h
  obtain ⟨cur', h2, h3, h4, h5⟩ := setCells_heap b vs (o + 1) (w.setCell ⟨b, o, none⟩ v) _ h1 (by rw [Array.size_setIfInBounds]; omega)
  refine ⟨cur', h2, by rw [h3, Array.size_setIfInBounds], fun j u hu => ?_, fun i hi => ?_⟩
  ·
   cases j with
   | zero =>
    simp only [List.getElem?_cons_zero, Option.some.injEq] at hu
    subst hu
    rw [Nat.add_zero, h5 o (by omega), Array.getElem?_setIfInBounds, if_pos rfl, if_pos (by omega)]
   | succ j =>
    have := h4 j u (by simpa using hu)
    rw [show o + (j + 1) = o + 1 + j by omega]
    exact this
  ·
   rw [h5 i (by omega), Array.getElem?_setIfInBounds, if_neg (by omega)]
theorem setCells_only (b : Nat) {X : Nat → Prop} (hX : X b) : ∀ (vs : List Value) (o : Nat) (w : World), Only w (w.setCells b o vs) X
 | [], _, w => .refl w X
 | v :: vs, o, w => (Only.set w b o v hX).trans (setCells_only b hX vs (o + 1) _)
def maxQ : Nat := 1099511627776
def QF (w : World) (F : Nat → Prop) (v : Value) (l : List Int) : Prop :=
 (∃ A, v = .slice A 0 0 ∧ l = []) ∨ ∃ (g off cap : Nat) (cur : Array Value), v = .slice (some ⟨g, off, none⟩) l.length cap ∧ F g ∧ w.heap[g]? = some (.cells cur 3 (0, 0)) ∧ l.length ≤ cap ∧ cap ≤ maxLen ∧ off + cap ≤ cur.size ∧ ∀ (j : Nat) (x : Int), l[j]? = some x → cur[off + j]? = some (.int .i64 x)
section
variable {w w' : World} {F X : Nat → Prop} {v : Value} {l : List Int}
theorem QF.form (h : QF w F v l) : ∃ A c, v = .slice A l.length c ∧ l.length ≤ c := by
 rcases h with ⟨A, rfl, rfl⟩ | ⟨g, off, cap, cur, rfl, _, _, hc, _⟩
 ·
  exact ⟨A, 0, rfl, Nat.le_refl _⟩
 ·
  exact ⟨_, cap, rfl, hc⟩
theorem QF.only (h : QF w F v l) (ho : Only w w' X) (hX : ∀ b, F b → b < w.heap.size → ¬ X b) : QF w' F v l := by
 rcases h with h | ⟨g, off, cap, cur, rfl, hF, hh, hr⟩
 ·
  exact .inl h
 ·
  exact .inr ⟨g, off, cap, cur, rfl, hF, (ho.block g (heap_lt hh) (hX g hF (heap_lt hh))).trans hh, hr⟩
theorem QF.below (h : QF w F v l) (hb : Below w.heap.size w w') : QF w' F v l := h.only (X := fun _ => False) (.of_below hb (Nat.le_refl _) _) fun _ _ _ => id
theorem QF.of_own {base n : Nat} (h : Own w base 3 1 v n (l.map (Value.int .i64))) (hF : ∀ g, rowOf v = some g → F g) : QF w F v l := by
 have hn : n = l.length := by have := h.len; simpa using this.symm
 subst hn
 rcases h with h | ⟨A, rfl, _, h2⟩
 ·
  rcases h.2 with ⟨rfl, h3⟩ | ⟨g, cap, cur, rfl, _, hh, hnc, hm, hs, ht⟩
  ·
   exact .inl ⟨none, rfl, List.eq_nil_of_length_eq_zero h3⟩
  ·
   cases cap with
   | zero => exact .inl ⟨_, by rw [show l.length = 0 by omega], List.eq_nil_of_length_eq_zero (by omega)⟩
   | succ c =>
    refine .inr ⟨g, 0, c + 1, cur, rfl, hF g rfl, hh, hnc, hm, by omega, fun j x hx => ?_⟩
    have hj := (List.getElem?_eq_some_iff.1 hx).1
    have h5 : (cur.toList.take (l.length * 1))[j]? = some (.int .i64 x) := by rw [ht, List.getElem?_map, hx]; rfl
    rw [List.getElem?_take, if_pos (by omega)] at h5
    rw [Nat.zero_add, ← Array.getElem?_toList]
    exact h5
 ·
  exact .inl ⟨A, rfl, List.map_eq_nil_iff.1 h2⟩
theorem QF.of_gl (h : GL Rep.int 3 w F v l) : QF w F v l := by
 obtain ⟨xs, h1, h2⟩ := h.own
 obtain rfl := Cells.ints.1 h2
 exact QF.of_own h1 h.row
theorem QF.pop {x : Int} (h : QF w F v (x :: l)) :
    ∃ (g off off' cap : Nat), v = .slice (some ⟨g, off, none⟩) (l.length + 1) cap ∧ l.length + 1 ≤ cap ∧ F g ∧ w.cell? ⟨g, off, none⟩ = some (.int .i64 x) ∧
     (∀ w' : World, (Instr.slice 22 (.slice (some ⟨g, off, none⟩) (l.length + 1) cap) (some (.int .i64 1)) none none).run Try.prog w' = .ok (.slice (some ⟨g, off', none⟩) l.length (cap - 1)) w') ∧
     QF w F (.slice (some ⟨g, off', none⟩) l.length (cap - 1)) l := by
 rcases h with ⟨A, _, h⟩ | ⟨g, off, cap, cur, rfl, hF, hh, hc, hm, hs, hx⟩
 ·
  cases h
 ·
  have hc0 := hx 0 x rfl
  rw [Nat.add_zero] at hc0
  rw [List.length_cons] at hc ⊢
  by_cases hcap : cap = 1
  ·
   subst hcap
   obtain rfl : l = [] := List.eq_nil_of_length_eq_zero (by omega)
   refine ⟨g, off, off, 1, rfl, hc, hF, by rw [cell_of_row _ _ _ _ _ _ hh]; exact hc0, fun w' => ?_, .inl ⟨_, rfl, rfl⟩⟩
   have := tInts.ll (some ⟨g, off, none⟩) 1 1 1 (by decide) (by decide) w'
   simpa using this
  ·
   refine ⟨g, off, off + 1, cap, rfl, hc, hF, by rw [cell_of_row _ _ _ _ _ _ hh]; exact hc0, fun w' => ?_, .inr ⟨g, off + 1, cap - 1, cur, rfl, hF, hh, by omega, by omega, by omega, fun j u hu => ?_⟩⟩
   ·
    have := tInts.ll (some ⟨g, off, none⟩) (l.length + 1) cap 1 (by decide) (by omega) w'
    rw [this, show (1 : Int).toNat = 1 from rfl, if_neg hcap]
    simp [Addr.add]
   ·
    have := hx (j + 1) u (by simpa using hu)
    rw [← this]
    congr 1
    omega
set_option maxRecDepth 100000 in
theorem QF.app (h : QF w F v l) {S : Nat → Prop} {A : Option Addr} {m c : Nat} {news : List Int} (hr : Rd w S 1 A m (news.map (Value.int .i64))) (hl : l.length + m ≤ maxQ) (ty : TypeId) :
    ∃ A' c' w', (Builtin.append_ #[22, 22] ty #[v, .slice A m c]).run Try.prog w = .ok (.slice A' (l.length + m) c') w' ∧ QF w' (fun b => F b ∨ w.heap.size ≤ b) (.slice A' (l.length + m) c') (l ++ news) ∧ Only w w' F := by
 have hm : m = news.length := by have := hr.1; simpa using this.symm
 have h1 : ∀ u ∈ news.map (Value.int .i64), u.oneCell' = true := fun u hu => by
  obtain ⟨x, _, rfl⟩ := List.mem_map.1 hu
  rfl
 have hlen : (l ++ news).length = l.length + m := by rw [List.length_append, hm]
 have hb1 : l.length + m ≤ maxLen := by unfold maxQ at hl; unfold maxLen; omega
 have hb2 : (l.length + m) * 8 ≤ 140737488355328 := by unfold maxQ at hl; omega
 clear hl
 rcases h with ⟨A0, rfl, rfl⟩ | ⟨g, off, cap, cur, rfl, hF, hh, hc, hmx, hs, hx⟩
 ·
  obtain ⟨v', w', hrun, ho, hg, hrow⟩ := run_append_fresh (P := Try.prog) tInts w ty 0 A0 S A m c _ hr (Nat.le_trans (Nat.le_add_left _ _) hb1) (by simp at hb2; omega) (Nat.zero_le _)
  obtain ⟨A', c', rfl, _, _⟩ := ho.form
  refine ⟨A', c', w', by simpa using hrun, ?_, .of_grown hg fun b e => by cases e⟩
  have h2 : QF w' (fun b => F b ∨ w.heap.size ≤ b) (.slice A' m c') news := QF.of_own ho fun g hg => by
   rcases hrow with e | e
   ·
    rw [e] at hg; cases hg
   ·
    rw [e] at hg
    injection hg with hg
    exact .inr (by omega)
  simpa using h2
 ·
  obtain ⟨i, hi, hz0, hz1, hz2⟩ := info_parts tInts.info
  cases A with
  | none =>
   have hm0 : m = 0 := by
    rcases Nat.eq_zero_or_pos m with h0 | h0
    ·
     exact h0
    ·
     obtain ⟨b, off, e, _⟩ := hr.2 h0
     cases e
   subst hm0
   have hn : news = [] := List.eq_nil_of_length_eq_zero hm.symm
   subst hn
   refine ⟨some ⟨g, off, none⟩, cap, w, ?_, .inr ⟨g, off, cap, cur, by simp, .inl hF, hh, by simpa using hc, hmx, hs, by simpa using hx⟩, .refl w F⟩
   simp [Builtin.append_, run_underlying tInts.under, Go.sizeOf, typeInfo, hi, Builtin.lenOf, Builtin.firstCells, storeCells, show l.length ≤ cap by omega]
  | some a =>
   have hcells : ∀ j u, (news.map (Value.int .i64))[j]? = some u → w.cell? (a.add j) = some u := by
    intro j u hu
    have hm1 : 0 < m := by
     have := (List.getElem?_eq_some_iff.1 hu).1
     simp at this
     omega
    obtain ⟨b, off', e, _, hc'⟩ := hr.2 hm1
    obtain rfl : a = ⟨b, off', none⟩ := Option.some.inj e
    have := hc' j u hu
    by_cases hj : j = 0
    ·
     subst hj; exact this
    ·
     simpa [Addr.add, hj] using this
   by_cases hroom : l.length + m ≤ cap
   ·
    have hrun := run_append_room_cells (P := Try.prog) w 22 ty 3 i tInts.under hi g off l.length cap a m c (news.map (Value.int .i64)) (by rw [hz1, List.length_map, hm, Nat.mul_one]) hcells h1 hroom
     (fun j hj => by
      rw [List.length_map] at hj
      rw [hz1, Nat.mul_one, cell_of_row _ _ _ _ _ _ hh, Array.getElem?_eq_getElem (by omega)]
      rfl)
     (fun j _ => by simp [World.frozen?, hh])
    rw [hz1, Nat.mul_one] at hrun
    obtain ⟨cur', h2, h3, h4, h5⟩ := setCells_heap g (news.map (Value.int .i64)) (off + l.length) w cur hh (by rw [List.length_map]; omega)
    refine ⟨_, cap, _, hrun, .inr ⟨g, off, cap, cur', by rw [hlen], .inl hF, h2, by omega, hmx, by omega, fun j x hj => ?_⟩, setCells_only g hF _ _ w⟩
    by_cases hjl : j < l.length
    ·
     rw [List.getElem?_append_left hjl] at hj
     rw [h5 _ (by omega)]
     exact hx j x hj
    ·
     rw [List.getElem?_append_right (by omega)] at hj
     have := h4 (j - l.length) (.int .i64 x) (by rw [List.getElem?_map, hj]; rfl)
     rw [← this]
     congr 1
     omega
   ·
    obtain ⟨v', w', hrun, ho, hg⟩ := run_append_arg_grows (P := Try.prog) w 22 ty 3 i (.int .i64 0) 1 8 tInts.under hi hz0 hz1 hz2 (by decide) (by decide) ⟨g, off, none⟩ l.length cap (l.map (Value.int .i64)) (by simp) (fun j u hu => by
     rw [Addr.add_lit, cell_of_row _ _ _ _ _ _ hh]
     rw [List.getElem?_map] at hu
     obtain ⟨x, hx', rfl⟩ := Option.map_eq_some_iff.1 hu
     exact hx j x hx') a m c (news.map (Value.int .i64)) (by rw [List.length_map, hm, Nat.mul_one]) hcells (by omega) hb1 hb2
    rw [← List.map_append] at ho
    obtain ⟨A', c', rfl, _, _⟩ := (Own.form (.inl ho) : ∃ A c, v' = .slice A (l.length + m) c ∧ _)
    exact ⟨A', c', w', hrun, QF.of_own (.inl ho) fun g' hg' => .inr (Own.row (.inl ho) hg').1, .of_grown hg fun b e => by cases e⟩
end
structure BinsF (w : World) (G : Nat → Prop) (BI : Nat) (ls : List (List Int)) (vs : List Value) : Prop where
 blk : w.heap[BI]? = some (.cells vs.toArray 22 (0, 0))
 len : vs.length = ls.length
 own : ∀ (i : Nat) (v : Value), vs[i]? = some v → ∃ l, ls[i]? = some l ∧ Own w 0 3 1 v l.length (l.map (Value.int .i64))
 row : ∀ (i : Nat) (v : Value) (g : Nat), vs[i]? = some v → rowOf v = some g → G g
 ap : ∀ (i j : Nat) (vi vj : Value) (g : Nat), i ≠ j → vs[i]? = some vi → vs[j]? = some vj → rowOf vi = some g → rowOf vj ≠ some g
 nb : ¬ G BI
section
variable {w w' : World} {G X : Nat → Prop} {BI : Nat} {ls : List (List Int)} {vs : List Value}
theorem BinsF.start (w : World) (n : Nat) : BinsF (w.alloc (.cells (List.replicate n (Value.slice none 0 0)).toArray 22)) (fun _ => False) w.heap.size (List.replicate n []) (List.replicate n (.slice none 0 0)) := by
 have hv : ∀ {i : Nat} {v : Value}, (List.replicate n (Value.slice none 0 0))[i]? = some v → i < n ∧ v = .slice none 0 0 := fun {i v} h => by
  rw [List.getElem?_replicate] at h
  split at h
  ·
   rename_i hi; exact ⟨hi, by injection h with h; exact h.symm⟩
  ·
   cases h
 refine ⟨heap_alloc_new w _, by simp, fun i v h => ?_, fun i v g h e => ?_, fun i j vi vj g _ h1 h2 h3 => ?_, id⟩
 ·
  obtain ⟨hi, rfl⟩ := hv h
  exact ⟨[], by rw [List.getElem?_replicate, if_pos hi], Own.nil _ _ _ _ _⟩
 ·
  obtain ⟨_, rfl⟩ := hv h
  cases e
 ·
  obtain ⟨_, rfl⟩ := hv h1
  cases h3
theorem BinsF.lt (h : BinsF w G BI ls vs) {i : Nat} {v : Value} {g : Nat} (hi : vs[i]? = some v) (hg : rowOf v = some g) : g < w.heap.size := by
 obtain ⟨l, _, h2⟩ := h.own i v hi
 exact (h2.row hg).2
theorem BinsF.fit (h : BinsF w G BI ls vs) : BinsF w (fun b => G b ∧ b < w.heap.size) BI ls vs := ⟨h.blk, h.len, h.own, fun i v g hi hg => ⟨h.row i v g hi hg, h.lt hi hg⟩, h.ap, fun hx => h.nb hx.1⟩
theorem BinsF.only (h : BinsF w G BI ls vs) (ho : Only w w' X) (hX : ∀ b, G b → b < w.heap.size → ¬ X b) (hB : ¬ X BI) : BinsF w' G BI ls vs := by
 refine ⟨(ho.block _ (heap_lt h.blk) hB).trans h.blk, h.len, fun i v hi => ?_, h.row, h.ap, h.nb⟩
 obtain ⟨l, h1, h2⟩ := h.own i v hi
 exact ⟨l, h1, h2.sameB fun g hg => ho.block g (h2.row hg).2 (hX g (h.row i v g hi hg) (h2.row hg).2)⟩
theorem BinsF.below (h : BinsF w G BI ls vs) (hb : Below w.heap.size w w') : BinsF w' G BI ls vs := h.only (X := fun _ => False) (.of_below hb (Nat.le_refl _) _) (fun _ _ _ => id) id
theorem BinsF.at_ (h : BinsF w G BI ls vs) {i : Nat} (hi : i < ls.length) : ∃ A n c l, vs[i]? = some (.slice A n c) ∧ ls[i]? = some l ∧ n = l.length ∧ n ≤ c ∧ w.cell? ⟨BI, i, none⟩ = some (.slice A n c) ∧ w.frozen? ⟨BI, i, none⟩ = false ∧ Rd w G 1 A n (l.map (Value.int .i64)) := by
 have hlt : i < vs.length := by rw [h.len]; exact hi
 have hv := List.getElem?_eq_getElem hlt
 obtain ⟨l, h1, h2⟩ := h.own i _ hv
 obtain ⟨A, c, e, hc, _⟩ := h2.form
 rw [e] at hv h2
 exact ⟨A, l.length, c, l, hv, h1, rfl, hc, by rw [cell_of_row _ _ i _ _ _ h.blk]; simpa using hv, by simp [World.frozen?, h.blk], h2.rowRd (fun g hg => h.row i _ g hv hg) hc⟩
theorem BinsF.push (h : BinsF w G BI ls vs) {i : Nat} {A : Option Addr} {n c : Nat} {l : List Int} (hv : vs[i]? = some (.slice A n c)) (hl : ls[i]? = some l) (x : Int) (hlen : l.length ≤ 1000000) :
    ∃ A2 c2 w2, (Builtin.append_ #[22, 22] 22 #[.slice A n c, .slice (some ⟨w.heap.size, 0, none⟩) 1 1]).run Try.prog (w.alloc (.cells #[.int .i64 x] 3)) = .ok (.slice A2 (n + 1) c2) w2 ∧
     w2.cell? ⟨BI, i, none⟩ = some (.slice A n c) ∧ w2.frozen? ⟨BI, i, none⟩ = false ∧ BinsF (w2.setCell ⟨BI, i, none⟩ (.slice A2 (n + 1) c2)) (fun b => G b ∨ b = w.heap.size + 1) BI (ls.set i (l ++ [x])) (vs.set i (.slice A2 (n + 1) c2)) ∧ Only w w2 G := by
 obtain ⟨l', h1, ho⟩ := h.own i _ hv
 rw [hl] at h1
 injection h1 with h1
 subst h1
 obtain ⟨v2, w2, hrun, ho2, hg, hrow⟩ := run_append_Own tInts (w.alloc (.cells #[.int .i64 x] 3)) 22 0 (.slice A n c) l.length (l.map (Value.int .i64)) (ho.alloc _) (fun _ => True) (some ⟨w.heap.size, 0, none⟩) 1 1 [.int .i64 x]
  (Rd.new w _ _ [.int .i64 x] _ rfl trivial) (by intro u hu; obtain rfl := List.mem_singleton.1 hu; rfl) (by unfold maxLen; omega) (by omega) (Nat.zero_le _)
 obtain ⟨A2, c2, rfl, _, _⟩ := ho2.form
 have hn : n = l.length := by
  obtain ⟨A', c', e, _, _⟩ := ho.form
  injection e with _ e
 subst hn
 have hBlt : BI < w.heap.size := heap_lt h.blk
 have hoa : Only w (w.alloc (.cells #[.int .i64 x] 3)) G := Only.alloc _ _ _
 have hob : Only (w.alloc (.cells #[.int .i64 x] 3)) w2 G := .of_grown hg fun b e => h.row i _ b hv e
 have hoc := hoa.trans hob
 have ha := h.below ((Below.refl _ _).alloc (Nat.le_refl _) (.cells #[.int .i64 x] 3))
 have hblk : w2.heap[BI]? = some (.cells vs.toArray 22 (0, 0)) := (hoc.block BI hBlt h.nb).trans h.blk
 have hset := set_grown (Bd := BI) w2 i (.slice A2 (l.length + 1) c2)
 have hi : i < vs.length := (List.getElem?_eq_some_iff.1 hv).1
 have hil : i < ls.length := by rw [← h.len]; exact hi
 have hnew : ∀ g, rowOf (.slice A2 (l.length + 1) c2) = some g → G g ∨ g = w.heap.size + 1 := fun g hg2 => by
  rcases hrow with e2 | e2
  ·
   rw [e2] at hg2; exact .inl (h.row i _ g hv hg2)
  ·
   rw [e2] at hg2
   injection hg2 with hg2
   simp at hg2
   exact .inr hg2.symm
 have hin : ∀ {E : TypeId} {v : Value} {m : Nat} {ys : List Value}, (∀ g, rowOf v = some g → G g ∨ g = w.heap.size + 1) → Own w2 0 E 1 v m ys → Own (w2.setCell ⟨BI, i, none⟩ (.slice A2 (l.length + 1) c2)) 0 E 1 v m ys := fun hr hv => by
  refine hv.kept hset fun g e ev => ?_
  injection e with e
  rcases hr g ev with h1 | h1
  ·
   rw [← e] at h1; exact h.nb h1
  ·
   omega
 refine ⟨A2, c2, w2, hrun, by rw [cell_of_row _ _ i _ _ _ hblk]; simpa using hv, by simp [World.frozen?, hblk], ⟨?_, by simp [h.len], fun j v hj => ?_, fun j v g hj hgj => ?_, fun j k vj vk g hjk hj hk hgj => ?_, fun hx => ?_⟩, hoc⟩
 ·
  have := blk_set hblk i (.slice A2 (l.length + 1) c2)
  rwa [List.setIfInBounds_toArray] at this
 ·
  by_cases e : i = j
  ·
   subst e
   rw [List.getElem?_set_self hi] at hj
   injection hj with hj
   subst hj
   exact ⟨l ++ [x], List.getElem?_set_self hil, hin hnew (by simpa using ho2)⟩
  ·
   rw [List.getElem?_set_ne e] at hj
   obtain ⟨l', k1, k2⟩ := ha.own j v hj
   refine ⟨l', by rw [List.getElem?_set_ne e]; exact k1, hin (fun g hg => .inl (h.row j v g hj hg)) (k2.kept hg fun g e1 e2 => ?_)⟩
   exact h.ap i j _ _ g e hv hj e1 e2
 ·
  by_cases e : i = j
  ·
   subst e
   rw [List.getElem?_set_self hi] at hj
   injection hj with hj
   subst hj
   exact hnew g hgj
  ·
   rw [List.getElem?_set_ne e] at hj
   exact .inl (h.row j v g hj hgj)
 ·
  have hold : ∀ (k : Nat) (v : Value), vs[k]? = some v → i ≠ k → rowOf (.slice A2 (l.length + 1) c2) = some g → rowOf v ≠ some g := fun k v hk hne hg2 e => by
   rcases hrow with e2 | e2
   ·
    rw [e2] at hg2
    exact h.ap i k _ _ g hne hv hk hg2 e
   ·
    rw [e2] at hg2
    injection hg2 with hg2
    have := h.lt hk e
    simp at hg2
    omega
  by_cases e1 : i = j
  ·
   subst e1
   rw [List.getElem?_set_self hi] at hj
   injection hj with hj
   subst hj
   rw [List.getElem?_set_ne hjk] at hk
   exact hold k vk hk hjk hgj
  ·
   rw [List.getElem?_set_ne e1] at hj
   by_cases e2 : i = k
   ·
    subst e2
    rw [List.getElem?_set_self hi] at hk
    injection hk with hk
    subst hk
    intro e3
    exact hold j vj hj e1 e3 hgj
   ·
    rw [List.getElem?_set_ne e2] at hk
    exact h.ap j k vj vk g hjk hj hk hgj
 ·
  rcases hx with hx | hx
  ·
   exact h.nb hx
  ·
   omega
end
end Go.Proofs.Ytbmcoamdfpegnaa
