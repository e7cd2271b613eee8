/- LisH -/
import Derived.Test.YtjnbjdbndbbanaaGreatDoorTc35
namespace Go.Proofs.YtjnbjdbndbbanaaGreatDoor
open Go.RowKit Go.Maps
theorem step_mapEntry_run {P : Program} (w : World) {ops : Array Oper} {o : Oper} {a : Act} {K : Act → World → Prop} {Q : Exit → Act → World → Prop} {E : Prop} (hgd : o.guard = none) (t : TypeId) (m k : Operand)
    (ho : o.op = .mapEntry t m k) (vm vk : Value) (hm : a.eval m = vm) (hk : a.eval k = vk) (v : Value) (w' : World) (hr : (Instr.mapEntry t vm vk).run P w = .ok v w') (h : K (a.put o.dst v) w') :
    if Region.wanted o (yielded ops a.tmps) = true then Oper.wp P o a w K Q else E := by
 have hw : Region.wanted o (yielded ops a.tmps) = true := by simp [Region.wanted, hgd]
 rw [if_pos hw]
 unfold Oper.wp execOp
 simp only [ho, Sem.run_bind, Sem.run_pure, Result.andThen_ok, hm, hk, hr]
 exact h
theorem step_entryStore_run {P : Program} (w : World) {ops : Array Oper} {o : Oper} {a : Act} {K : Act → World → Prop} {Q : Exit → Act → World → Prop} {E : Prop} (hgd : o.guard = none) (t : TypeId) (m k x : Operand)
    (ho : o.op = .entryStore t m k x) (vm vk vx : Value) (hm : a.eval m = vm) (hk : a.eval k = vk) (hx : a.eval x = vx) (w' : World) (hr : (Instr.entryStore t vm vk vx).run P w = .ok () w') (h : K (a.put o.dst undef) w') :
    if Region.wanted o (yielded ops a.tmps) = true then Oper.wp P o a w K Q else E := by
 have hw : Region.wanted o (yielded ops a.tmps) = true := by simp [Region.wanted, hgd]
 rw [if_pos hw]
 unfold Oper.wp execOp
 simp only [ho, Sem.run_bind, Sem.run_pure, Result.andThen_ok, hm, hk, hx, hr]
 exact h
theorem tCand : SlType Tryz.prog 119 130 7 56 (.agg #[.int .i64 0, .int .i64 0, .int .i64 0, .int .i64 0, .int .i64 0, .int .i64 0, .pointer none]) := ⟨by kernel_rfl, by kernel_rfl, by kernel_rfl, rfl, by decide⟩
theorem tTreeP : SlType Tryz.prog 124 123 1 8 (.pointer none) := ⟨by kernel_rfl, by kernel_rfl, by kernel_rfl, rfl, by decide⟩
def addW (wl : List ((Nat × Nat) × List CKey)) (x : Nat × Nat) (k : CKey) : List ((Nat × Nat) × List CKey) := putL wl x ((lk wl x).getD [] ++ [k])
section
variable {κ α β : Type} [DecidableEq κ]
theorem lk_ix {l : List (κ × α)} {x : κ} {v : α} (h : lk l x = some v) : ∃ i : Nat, l[i]? = some (x, v) := by
 obtain ⟨i, hi, e⟩ := List.mem_iff_getElem.1 (lk_mem h)
 exact ⟨i, by rw [List.getElem?_eq_getElem hi, e]⟩
theorem lk_two {l : List (κ × α)} {m : List (κ × β)} (hn : (l.map Prod.fst).Nodup) (h : l.map Prod.fst = m.map Prod.fst) (x : κ) : (lk l x = none ∧ lk m x = none) ∨ ∃ (i : Nat) (u : α) (v : β), lk l x = some u ∧ lk m x = some v ∧ l[i]? = some (x, u) ∧ m[i]? = some (x, v) := by
 cases e : lk l x with
 | none =>
  refine .inl ⟨rfl, lk_none.2 ?_⟩
  rw [← h]
  exact lk_none.1 e
 | some u =>
  obtain ⟨i, hi⟩ := lk_ix e
  have h1 : (m.map Prod.fst)[i]? = some x := by rw [← h, List.getElem?_map, hi]; rfl
  rw [List.getElem?_map] at h1
  obtain ⟨⟨y, v⟩, h2, h3⟩ := Option.map_eq_some_iff.1 h1
  simp only at h3
  subst h3
  refine .inr ⟨i, u, v, rfl, lk_of_mem (by rw [← h]; exact hn) (List.mem_of_getElem? h2), hi, h2⟩
omit [DecidableEq κ] in
theorem set_fst {l : List (κ × α)} {i : Nat} {x : κ} {u v : α} (h : l[i]? = some (x, u)) : (l.set i (x, v)).map Prod.fst = l.map Prod.fst := by
 rw [List.map_set]
 apply List.ext_getElem?
 intro j
 rw [List.getElem?_set]
 by_cases hj : i = j
 ·
  subst hj
  simp [h]
  exact (List.getElem?_eq_some_iff.1 h).1
 rw [if_neg hj]
end
section
variable {C : LC} {tag : Nat → Nat} {w w' : World} {vq : Value} {vs : List Value} {es : List ((Nat × Nat) × Value)} {D : LD}
theorem LM.grow (h : LM C tag w vq vs es D) {F : Nat → Prop} (hF : ∀ b, F b → tag b = 0) (hu : ∀ b, F b → ∃ cs ty, w.heap[b]? = some (.cells cs ty (0, 0))) :
    ∃ tag' : Nat → Nat, (∀ b, tag b ≠ 0 → tag' b = tag b) ∧ (∀ b, tag' b ≠ 0 → tag b ≠ 0 ∨ F b) ∧ (∀ b, F b → tag' b = 8) ∧ LM C tag' w vq vs es D := by
 classical
 obtain ⟨tag', htag⟩ : ∃ tag' : Nat → Nat, tag' = fun b => if F b then 8 else tag b := ⟨_, rfl⟩
 have hle : ∀ b, tag b ≠ 0 → tag' b = tag b := fun b hb => by rw [htag]; exact if_neg fun e => hb (hF b e)
 have h8 : ∀ b, tag b = 8 → tag' b = 8 := fun b e => by rw [hle b (by omega)]; exact e
 have h9 : ∀ b, tag b = 9 → tag' b = 9 := fun b e => by rw [hle b (by omega)]; exact e
 have hor : ∀ b, tag' b ≠ 0 → tag b ≠ 0 ∨ F b := fun b hb => by
  rw [htag] at hb
  simp only at hb
  split at hb
  · next e => exact .inr e
  exact .inl hb
 have hq := h.qu
 obtain ⟨xs, q1, q2⟩ := hq.own
 refine ⟨tag', hle, hor, fun b e => by rw [htag]; exact if_pos e, h.blk, h.nd.more h9, h.bv, h.vl, h.fl.more h8, h.sn, h.wm, h.wk, h.fw.more h8, ⟨⟨xs, q1, q2.more h8⟩, fun g e e2 => ?_⟩, fun b e => ?_, (hle _ (by rw [h.tL]; decide)).trans h.tL, (hle _ (by rw [h.tV]; decide)).trans h.tV, (hle _ (by rw [h.tS]; decide)).trans h.tS, (hle _ (by rw [h.tW]; decide)).trans h.tW, fun g e => (hle g (by rw [h.rq g e]; decide)).trans (h.rq g e), fun i g v hv e => (hle g (by rw [h.rl i g v hv e]; decide)).trans (h.rl i g v hv e), fun i g v hv e => (hle g (by rw [h.rw i g v hv e]; decide)).trans (h.rw i g v hv e), fun b e => ?_⟩
 ·
  have := h.rq g e
  have h3 := hle g (by omega)
  omega
 ·
  rcases hor b (by omega) with e1 | e1
  · exact h.un b (show tag b = 8 by rw [← hle b e1]; exact e)
  exact hu b e1
 rcases hor b e with e1 | e1
 · exact h.lt b e1
 obtain ⟨cs, ty, e2⟩ := hu b e1
 exact heap_lt e2
theorem LM.wait (h : LM C tag w vq vs es D) (x : Nat × Nat) (k : CKey) (hl : ∀ y l, (y, l) ∈ D.wl → l.length ≤ 100000000) (ty : TypeId) :
    ∃ (v0 : Value) (st : Nat) (w1 w2 w3 : World) (v' : Value), (Instr.mapEntry 118 (.map (some C.BW)) (.agg (waitV x))).run Tryz.prog (w.alloc (.cells (candV k) 130)) = .ok (.tuple #[v0, .int .i64 (st : Int)]) w1 ∧
     (Builtin.append_ #[119, 119] ty #[v0, .slice (some ⟨w.heap.size, 0, none⟩) 1 1]).run Tryz.prog w1 = .ok v' w2 ∧
     (Instr.entryStore 118 (.map (some C.BW)) (.int .i64 (st : Int)) v').run Tryz.prog w2 = .ok () w3 ∧ (∃ A n c, v0 = .slice A n c) ∧
     Only w w3 (fun b => tag b = 7 ∨ tag b = 3) ∧ ∃ (tag' : Nat → Nat) (es' : List ((Nat × Nat) × Value)), (∀ b, tag b ≠ 0 → tag' b = tag b) ∧ (∀ b, tag' b ≠ 0 → tag b ≠ 0 ∨ w.heap.size ≤ b) ∧ LM C tag' w3 vq vs es' { D with wl := addW D.wl x k } := by
 obtain ⟨wL, hwL⟩ := zE (w.alloc (.cells (candV k) 130))
 have hbL : Below w.heap.size w wL := by rw [hwL]; exact (Below.refl _ _).alloc (Nat.le_refl _) _
 have hzL : wL.heap.size = w.heap.size + 1 := by rw [hwL]; simp
 have hB3 : ∀ b, tag b ≠ 0 → b < w.heap.size := h.lt
 have hltW : C.BW < w.heap.size := hB3 _ (by rw [h.tW]; decide)
 have hwm := h.wm.only (Only.of_below hbL (Nat.le_refl _) (fun _ => False)) id
 have hnd := h.wm.nodup
 obtain ⟨v0, hv0⟩ : ∃ v0, v0 = (lk es x).getD (.slice none 0 0) := ⟨_, rfl⟩
 obtain ⟨l0, hl0⟩ : ∃ l0, l0 = (lk D.wl x).getD [] := ⟨_, rfl⟩
 have hown : (∃ xs, Own w 0 130 7 v0 l0.length xs ∧ Cells RW w (fun b => tag b = 8) xs l0) ∧ (∀ g, rowOf v0 = some g → tag g = 3) ∧ l0.length ≤ 100000000 := by
  rcases lk_two hnd h.wk x with ⟨e1, e2⟩ | ⟨i, u, l, e1, e2, e3, e4⟩
  ·
   rw [e1] at hv0
   rw [e2] at hl0
   subst hv0 hl0
   exact ⟨⟨[], Own.nil _ _ _ _ _, Cells.nil⟩, fun g e => (by cases e), Nat.zero_le _⟩
  rw [e1] at hv0
  rw [e2] at hl0
  simp only [Option.getD_some] at hv0 hl0
  subst hv0 hl0
  have i1 : (es.map Prod.snd)[i]? = some v0 := by rw [List.getElem?_map, e3]; rfl
  have i2 : (D.wl.map Prod.snd)[i]? = some l0 := by rw [List.getElem?_map, e4]; rfl
  exact ⟨h.fw.own i _ _ i1 i2, fun g e => h.rw i g _ i1 e, hl _ _ (List.mem_of_getElem? e4)⟩
 obtain ⟨⟨xs, o1, o2⟩, hr3, hll⟩ := hown
 have hne : ∀ g, rowOf v0 = some g → g ≠ C.BW := fun g e e2 => by have := hr3 g e; have := h.tW; subst e2; omega
 obtain ⟨Aq, cq, hform, _, _⟩ := o1.form
 have hlit : wL.heap[w.heap.size]? = some (.cells (candV k) 130 (0, 0)) := by rw [hwL]; exact heap_alloc_new _ _
 have hcs : (candV k).toList = ckV k ++ [Value.pointer none] := rfl
 obtain ⟨v1, hv1⟩ : ∃ v1 : Value, v1 = v1 := ⟨undef, rfl⟩
 obtain ⟨st, w1, hent, hg1, hst⟩ := hwm.entry mapWaits zeroWaits x (.slice none 0 0)
 clear hst
 have o1L := o1.alloc (.cells (candV k) 130)
 rw [← hwL] at o1L
 have hG1 : ∀ b, b < wL.heap.size → b ≠ C.BW → w1.heap[b]? = wL.heap[b]? := fun b hb hne => hg1.block b hb fun e => hne (by simpa using e)
 have o11 : Own w1 0 130 7 v0 l0.length xs := o1L.sameB fun g e => hG1 g (o1L.row e).2 (hne g e)
 have hlit1 : w1.heap[w.heap.size]? = some (.cells (candV k) 130 (0, 0)) := (hG1 _ (by omega) (by omega)).trans hlit
 have hrd : Rd w1 (fun _ => True) 7 (some ⟨w.heap.size, 0, none⟩) 1 (ckV k ++ [Value.pointer none]) := by
  refine ⟨rfl, fun _ => ⟨w.heap.size, 0, rfl, trivial, fun j u hu => ?_⟩⟩
  rw [cell_of_row _ _ _ _ _ _ hlit1, Nat.zero_add, ← hu, ← hcs]
  simp
 have hone : ∀ u ∈ (ckV k ++ [Value.pointer none]), u.oneCell' = true := RW.one (w := w) (S := fun _ => True) (a := k) rfl
 obtain ⟨v', w2, hrun, ho, hg2, hrow⟩ := run_append_Own tCand w1 ty 0 v0 l0.length xs o11 _ _ 1 1 _ hrd hone (by unfold maxLen; omega) (by omega) (Nat.zero_le _)
 obtain ⟨st', w1', hent', hg1', hst'⟩ := hwm.entry mapWaits zeroWaits x v'
 rw [hent'] at hent
 injection hent with hent hw1
 injection hent with hent
 have hst1 : (st' : Int) = (st : Int) := by simpa using hent
 subst hw1
 have hz1 : wL.heap.size ≤ w1'.heap.size := hg1.size
 have hG2 : ∀ b, b < w1'.heap.size → rowOf v0 ≠ some b → w2.heap[b]? = w1'.heap[b]? := fun b hb hne => hg2.block b hb (Ne.symm hne)
 obtain ⟨w3, hr3', hm3, hg3⟩ := hst' w2 (hG2 _ (by omega) (fun e => hne _ e rfl))
 have hz2 : w1'.heap.size ≤ w2.heap.size := hg2.size
 have hon : Only w w3 (fun b => b = C.BW ∨ rowOf v0 = some b) := by
  refine (Only.of_below hbL (Nat.le_refl _) _).trans ((Only.of_grown hg1 fun b e => ?_).trans ((Only.of_grown hg2 fun b e => .inr e).trans (Only.of_grown hg3 fun b e => ?_)))
  ·
   injection e with e
   exact .inl e.symm
  injection e with e
  exact .inl e.symm
 have hX : ∀ b, tag b ≠ 0 → tag b ≠ 7 → tag b ≠ 3 → ¬ (b = C.BW ∨ rowOf v0 = some b) := fun b _ e7 e3 e => by
  rcases e with e | e
  · have := h.tW; subst e; omega
  have := hr3 b e; omega
 have hrowN : ∀ g, rowOf v' = some g → rowOf v0 = some g ∨ w1'.heap.size ≤ g := fun g e => by
  rcases hrow with e1 | e1
  · exact .inl (by rw [← e1]; exact e)
  rw [e1] at e
  injection e with e
  exact .inr (by omega)
 have ho3 : Own w3 0 130 7 v' (l0 ++ [k]).length (xs ++ (ckV k ++ [Value.pointer none])) := by
  rw [List.length_append]
  refine ho.sameB fun g e => hg3.block g (ho.row e).2 fun e2 => ?_
  injection e2 with e2
  rcases hrowN g e with e3 | e3
  · exact hne g e3 e2
  omega
 have hrg : ∀ g, rowOf v' = some g → g < w3.heap.size := fun g e => (ho3.row e).2
 obtain ⟨tag', htag⟩ : ∃ tag' : Nat → Nat, tag' = fun b => if tag b = 0 ∧ rowOf v' = some b then 3 else tag b := ⟨_, rfl⟩
 have hle : ∀ b, tag b ≠ 0 → tag' b = tag b := fun b hb => by rw [htag]; exact if_neg fun e => hb e.1
 have hor : ∀ b, tag' b ≠ 0 → tag b ≠ 0 ∨ (rowOf v' = some b ∧ w.heap.size ≤ b) := fun b hb => by
  by_cases e0 : tag b = 0
  ·
   rw [htag] at hb
   simp only at hb
   split at hb
   ·
    next e =>
    rcases hrowN b e.2 with e1 | e1
    · have := hr3 b e1; omega
    exact .inr ⟨e.2, by omega⟩
   exact absurd e0 hb
  exact .inl e0
 have h8 : ∀ b, tag' b = 8 ↔ tag b = 8 := fun b => by
  rw [htag]
  simp only
  split
  · next e => rw [e.1]; decide
  exact Iff.rfl
 have h8e : (fun b => tag' b = 8) = fun b => tag b = 8 := by funext b; exact propext (h8 b)
 have h3t : ∀ g, rowOf v' = some g → tag' g = 3 := fun g e => by
  by_cases e0 : tag g = 0
  · rw [htag]; exact if_pos ⟨e0, e⟩
  rcases hrowN g e with e1 | e1
  · rw [hle g e0]; exact hr3 g e1
  have := hB3 g e0; omega
 have hT : ∀ b, tag b = 8 → ¬ (b = C.BW ∨ rowOf v0 = some b) := fun b e => hX b (by omega) (by omega) (by omega)
 have hb : ∀ b, tag b ≠ 0 → tag b ≠ 7 → tag b ≠ 3 → w3.heap[b]? = w.heap[b]? := fun b h0 h4 h1 => hon.block b (h.lt b h0) (hX b h0 h4 h1)
 have hcx : Cells RW w3 (fun b => tag b = 8) (xs ++ (ckV k ++ [Value.pointer none])) (l0 ++ [k]) := (o2.keep (hon.kept hT)).append (Cells.single rfl)
 refine ⟨v0, st', w1', w2, w3, v', ?_, hrun, hr3', ⟨Aq, _, cq, hform⟩, hon.more fun b _ e => ?_, tag', putL es x v', hle, fun b e => (hor b e).imp id (fun e => e.2), ?_⟩
 · rw [← hwL, hv0]; exact hent'
 ·
  rcases e with e | e
  · subst e; exact .inl h.tW
  exact .inr (hr3 b e)
 have hnd9 := (h.nd.keep (hon.kept fun b e => hX b (by omega) (by omega) (by omega))).more (S' := fun b => tag' b = 9) (fun b e => by rw [hle b (by omega)]; exact e)
 have hfl := h.fl.only hon hT fun i g v hv e => hX g (by rw [h.rl i g v hv e]; decide) (by rw [h.rl i g v hv e]; decide) (by rw [h.rl i g v hv e]; decide)
 have hqu := h.qu.only hon hT fun g e => hX g (by rw [h.rq g e]; decide) (by rw [h.rq g e]; decide) (by rw [h.rq g e]; decide)
 have hun : UnfT w3 (fun b => tag b = 8) := fun b e => by obtain ⟨cs, y, e2⟩ := h.un b e; exact ⟨cs, y, (hb b (by omega) (by omega) (by omega)).trans e2⟩
 have hwk : (putL es x v').map Prod.fst = (addW D.wl x k).map Prod.fst ∧ Fam RW 130 (fun b => tag b = 8) w3 ((putL es x v').map Prod.snd) ((addW D.wl x k).map Prod.snd) ∧ ∀ (i g : Nat) (v : Value), ((putL es x v').map Prod.snd)[i]? = some v → rowOf v = some g → tag' g = 3 := by
  unfold addW
  rw [← hl0]
  rcases lk_two hnd h.wk x with ⟨e1, e2⟩ | ⟨i, u, l, e1, e2, e3, e4⟩
  ·
   have hx1 := lk_none.1 e1
   have hx2 := lk_none.1 e2
   rw [e1] at hv0
   simp only [Option.getD_none] at hv0
   rw [putL_new hx1, putL_new hx2]
   refine ⟨by rw [List.map_append, List.map_append, h.wk]; rfl, ?_, fun i g v hv e => ?_⟩
   ·
    rw [List.map_append, List.map_append]
    refine h.fw.add hon hT (fun j g u hu e => ?_) ⟨_, ho3, hcx⟩ fun g e => ?_
    ·
     rintro (e5 | e5)
     · have := h.rw j g u hu e; have := h.tW; subst e5; omega
     rw [hv0] at e5; cases e5
    rcases hrowN g e with e5 | e5
    · rw [hv0] at e5; cases e5
    omega
   rw [List.map_append] at hv
   by_cases hi : i < (es.map Prod.snd).length
   ·
    rw [List.getElem?_append_left hi] at hv
    exact (hle g (by rw [h.rw i g v hv e]; decide)).trans (h.rw i g v hv e)
   rw [List.getElem?_append_right (by omega)] at hv
   have : v = v' := by
    cases hj : i - (es.map Prod.snd).length with
    | zero => rw [hj] at hv; exact (Option.some.inj hv).symm
    | succ j => rw [hj] at hv; cases hv
   subst this
   exact h3t g e
  rw [e1] at hv0
  rw [e2] at hl0
  simp only [Option.getD_some] at hv0 hl0
  subst hv0 hl0
  rw [putL_at hnd e3, putL_at (by rw [← h.wk]; exact hnd) e4]
  have i1 : (es.map Prod.snd)[i]? = some v0 := by rw [List.getElem?_map, e3]; rfl
  refine ⟨by rw [set_fst e3, set_fst e4]; exact h.wk, ?_, fun j g v hv e => ?_⟩
  ·
   rw [List.map_set, List.map_set]
   refine h.fw.put hon hT i1 (fun j g u hj hu e => ?_) ⟨_, ho3, hcx⟩ fun g e => ?_
   ·
    rintro (e5 | e5)
    · have := h.rw j g u hu e; have := h.tW; subst e5; omega
    exact h.fw.apart i j _ _ g (Ne.symm hj) i1 hu e5 e
   rcases hrowN g e with e5 | e5
   · exact .inl e5
   exact .inr (by omega)
  rw [List.map_set] at hv
  rw [List.getElem?_set] at hv
  split at hv
  ·
   split at hv
   · obtain rfl := Option.some.inj hv; exact h3t g e
   cases hv
  exact (hle g (by rw [h.rw j g v hv e]; decide)).trans (h.rw j g v hv e)
 obtain ⟨w1a, w1b, w1c⟩ := hwk
 rw [← h8e] at hfl hqu hun w1b
 exact ⟨(hb _ (by rw [h.tL]; decide) (by rw [h.tL]; decide) (by rw [h.tL]; decide)).trans h.blk, hnd9, (hb _ (by rw [h.tV]; decide) (by rw [h.tV]; decide) (by rw [h.tV]; decide)).trans h.bv, h.vl, hfl, h.sn.only hon (hX _ (by rw [h.tS]; decide) (by rw [h.tS]; decide) (by rw [h.tS]; decide)), hm3, w1a, w1b, hqu, hun, (hle _ (by rw [h.tL]; decide)).trans h.tL, (hle _ (by rw [h.tV]; decide)).trans h.tV, (hle _ (by rw [h.tS]; decide)).trans h.tS, (hle _ (by rw [h.tW]; decide)).trans h.tW, fun g e => (hle g (by rw [h.rq g e]; decide)).trans (h.rq g e), fun i g v hv e => (hle g (by rw [h.rl i g v hv e]; decide)).trans (h.rl i g v hv e), w1c, fun b e => (by
  rcases hor b e with e1 | e1
  · exact Nat.lt_of_lt_of_le (h.lt b e1) hon.size
  exact hrg b e1.1)⟩
theorem LM.know (h : LM C tag w vq vs es D) {k : CKey} (hk : k ∉ D.sn) :
    ∃ w', (Instr.mapUpdate 117 (.map (some C.BS)) (.agg (candV k)) (.bool true)).run Tryz.prog w = .ok () w' ∧ LM C tag w' vq vs es { D with sn := D.sn ++ [k] } ∧ Only w w' (fun b => tag b = 6) := by
 obtain ⟨w', hrun, hs, hg⟩ := h.sn.put hk
 have hon : Only w w' (fun b => b = C.BS) := .of_grown hg fun b e => (Option.some.inj e).symm
 have hX : ∀ b, tag b ≠ 6 → ¬ b = C.BS := fun b hb e => hb (e ▸ h.tS)
 have hb : ∀ b, tag b ≠ 0 → tag b ≠ 6 → w'.heap[b]? = w.heap[b]? := fun b h0 h6 => hon.block b (h.lt b h0) (hX b h6)
 have hT : ∀ b, tag b = 8 → ¬ b = C.BS := fun b e => hX b (by omega)
 exact ⟨w', hrun, ⟨(hb _ (by rw [h.tL]; decide) (by rw [h.tL]; decide)).trans h.blk, h.nd.keep (hon.kept fun b e => hX b (by omega)), (hb _ (by rw [h.tV]; decide) (by rw [h.tV]; decide)).trans h.bv, h.vl, h.fl.only hon hT fun i g v hv e => hX g (by rw [h.rl i g v hv e]; decide), hs, h.wm.only hon (hX _ (by rw [h.tW]; decide)), h.wk, h.fw.only hon hT fun i g v hv e => hX g (by rw [h.rw i g v hv e]; decide), h.qu.only hon hT fun g e => hX g (by rw [h.rq g e]; decide), fun b e => (by obtain ⟨cs, ty, e2⟩ := h.un b e; exact ⟨cs, ty, (hb b (by omega) (by omega)).trans e2⟩), h.tL, h.tV, h.tS, h.tW, h.rq, h.rl, h.rw, fun b e => Nat.lt_of_lt_of_le (h.lt b e) hon.size⟩, hon.more fun b _ e => by subst e; exact h.tS⟩
end
end Go.Proofs.YtjnbjdbndbbanaaGreatDoor
