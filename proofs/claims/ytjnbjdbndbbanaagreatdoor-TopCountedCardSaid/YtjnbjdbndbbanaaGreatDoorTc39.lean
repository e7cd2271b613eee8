/- LisK -/
import Derived.Test.YtjnbjdbndbbanaaGreatDoorTc38
namespace Go.Proofs.YtjnbjdbndbbanaaGreatDoor
open Go.RowKit Go.Maps Go.ChangeMaps
theorem step_delete_run {P : Program} (w : World) {ops : Array Oper} {o : Oper} {a : Act} {K : Act → World → Prop} {Q : Exit → Act → World → Prop} {E : Prop} (hgd : o.guard = none) (s x : Operand) (t tn : TypeId)
    (ho : o.op = .call { callee := .builtin .delete, args := #[s, x], argTypes := #[t, tn] }) (vs vx : Value) (hs : a.eval s = vs) (hx : a.eval x = vx)
    (v' : Value) (w' : World) (hr : (Builtin.delete_ #[t, tn] o.type #[vs, vx]).run P w = .ok v' w') (h : K (a.put o.dst v') w') :
    if Region.wanted o (yielded ops a.tmps) = true then Oper.wp P o a w K Q else E := by
 have hw : Region.wanted o (yielded ops a.tmps) = true := by simp [Region.wanted, hgd]
 rw [if_pos hw]
 unfold Oper.wp execOp
 simp only [ho, resolve, invoke, builtin, Sem.run_bind, Sem.run_pure, Result.andThen_ok, List.map_toArray, List.map_cons, List.map_nil, hs, hx, hr]
 exact h
section
variable {C : LC} {tag : Nat → Nat} {w w' : World} {vq : Value} {vs : List Value} {es : List ((Nat × Nat) × Value)} {D : LD}
theorem LM.list (h : LM C tag w vq vs es D) {v : Nat} {vl : Value} {l : List TreeD} (hv : vs[v]? = some vl) (hl : D.ls[v]? = some l) (hll : l.length ≤ 1000000) {B : Nat} {t : TreeD} (hx : RPt.ok w (fun b => tag b = 8) [.pointer (some ⟨B, 0, none⟩)] t) (ty : TypeId) :
    ∃ A' c' w', (Builtin.append_ #[124, 124] ty #[vl, .slice (some ⟨w.heap.size, 0, none⟩) 1 1]).run Tryz.prog (w.alloc (.cells #[.pointer (some ⟨B, 0, none⟩)] 123)) = .ok (.slice A' (l.length + 1) c') w' ∧
     (w'.cell? ⟨C.BV, v, none⟩ = some vl ∧ w'.frozen? ⟨C.BV, v, none⟩ = false) ∧ Only w w' (fun b => tag b = 2) ∧ Only w (w'.setCell ⟨C.BV, v, none⟩ (.slice A' (l.length + 1) c')) (fun b => tag b = 5 ∨ tag b = 2) ∧
     ∃ tag' : Nat → Nat, (∀ b, tag b ≠ 0 → tag' b = tag b) ∧ (∀ b, tag' b ≠ 0 → tag b ≠ 0 ∨ w.heap.size ≤ b) ∧ LM C tag' (w'.setCell ⟨C.BV, v, none⟩ (.slice A' (l.length + 1) c')) vq (vs.set v (.slice A' (l.length + 1) c')) es { D with ls := D.ls.set v (l ++ [t]) } := by
 obtain ⟨xs, o1, o2⟩ := h.fl.own v vl l hv hl
 have hr2 : ∀ g, rowOf vl = some g → tag g = 2 := fun g e => h.rl v g vl hv e
 have hr : Rd (w.alloc (.cells #[.pointer (some ⟨B, 0, none⟩)] 123)) (fun _ => True) 1 (some ⟨w.heap.size, 0, none⟩) 1 [.pointer (some ⟨B, 0, none⟩)] := by
  refine ⟨rfl, fun _ => ⟨w.heap.size, 0, rfl, trivial, fun j u hu => ?_⟩⟩
  rw [World.cell?_alloc_at _ _ _ _ rfl]
  simpa using hu
 obtain ⟨v', w', hrun, ho, hg, hrow⟩ := run_append_Own tTreeP (w.alloc (.cells #[.pointer (some ⟨B, 0, none⟩)] 123)) ty 0 vl l.length xs (o1.alloc _) _ _ 1 1 _ hr (RPt.one hx) (by unfold maxLen; omega) (by omega) (Nat.zero_le _)
 obtain ⟨A', c', rfl, _, _⟩ := ho.form
 have hal : Only w w' (fun b => rowOf vl = some b) := (Only.alloc w _ _).trans (.of_grown hg fun b e => e)
 have hrowN : ∀ g, rowOf (.slice A' (l.length + 1) c') = some g → rowOf vl = some g ∨ w.heap.size ≤ g := fun g e => by
  rcases hrow with e1 | e1
  · exact .inl (by rw [← e1]; exact e)
  rw [e1] at e
  have e := Option.some.inj e
  simp at e
  exact .inr (by omega)
 have h5 : ∀ b, tag b = 5 → rowOf vl ≠ some b := fun b e e2 => by have := hr2 b e2; omega
 have hBV : w'.heap[C.BV]? = some (.cells vs.toArray 124 (0, 0)) := (hal.block _ (heap_lt h.bv) (h5 _ h.tV)).trans h.bv
 have hset := blk_set hBV v (.slice A' (l.length + 1) c')
 have hon2 : Only w' (w'.setCell ⟨C.BV, v, none⟩ (.slice A' (l.length + 1) c')) (fun b => b = C.BV) := Only.set _ _ _ _ rfl
 have hon : Only w (w'.setCell ⟨C.BV, v, none⟩ (.slice A' (l.length + 1) c')) (fun b => b = C.BV ∨ rowOf vl = some b) := (hal.more fun _ _ e => .inr e).trans (hon2.more fun _ _ e => .inl e)
 have hX : ∀ b, tag b ≠ 0 → tag b ≠ 5 → tag b ≠ 2 → ¬ (b = C.BV ∨ rowOf vl = some b) := fun b _ e5 e2 e => by
  rcases e with e | e
  · have := h.tV; subst e; omega
  have := hr2 b e; omega
 have hb : ∀ b, tag b ≠ 0 → tag b ≠ 5 → tag b ≠ 2 → (w'.setCell ⟨C.BV, v, none⟩ (.slice A' (l.length + 1) c')).heap[b]? = w.heap[b]? := fun b h0 h4 h1 => hon.block b (h.lt b h0) (hX b h0 h4 h1)
 have hT : ∀ b, tag b = 8 → ¬ (b = C.BV ∨ rowOf vl = some b) := fun b e => hX b (by omega) (by omega) (by omega)
 have hlt := h.lt
 obtain ⟨tag', htag⟩ : ∃ tag' : Nat → Nat, tag' = fun b => if tag b = 0 ∧ rowOf (.slice A' (l.length + 1) c') = some b then 2 else tag b := ⟨_, rfl⟩
 have hle : ∀ b, tag b ≠ 0 → tag' b = tag b := fun b hb => by rw [htag]; exact if_neg fun e => hb e.1
 have hor : ∀ b, tag' b ≠ 0 → tag b ≠ 0 ∨ (rowOf (.slice A' (l.length + 1) c') = some b ∧ w.heap.size ≤ b) := fun b hb => by
  by_cases e0 : tag b = 0
  ·
   rw [htag] at hb
   simp only at hb
   split at hb
   ·
    next e =>
    rcases hrowN b e.2 with e1 | e1
    · have := hr2 b e1; omega
    exact .inr ⟨e.2, e1⟩
   exact absurd e0 hb
  exact .inl e0
 have h8 : ∀ b, tag' b = 8 ↔ tag b = 8 := fun b => by
  rw [htag]
  simp only
  split
  · next e => rw [e.1]; decide
  exact Iff.rfl
 have h8e : (fun b => tag' b = 8) = fun b => tag b = 8 := by funext b; exact propext (h8 b)
 have h2t : ∀ g, rowOf (.slice A' (l.length + 1) c') = some g → tag' g = 2 := fun g e => by
  by_cases e0 : tag g = 0
  · rw [htag]; exact if_pos ⟨e0, e⟩
  rcases hrowN g e with e1 | e1
  · rw [hle g e0]; exact hr2 g e1
  have := hlt g e0; omega
 have ho3 : Own (w'.setCell ⟨C.BV, v, none⟩ (.slice A' (l.length + 1) c')) 0 123 1 (.slice A' (l.length + 1) c') (l ++ [t]).length (xs ++ [.pointer (some ⟨B, 0, none⟩)]) := by
  rw [List.length_append]
  refine ho.sameB fun g e => hon2.block g (ho.row e).2 fun e2 => ?_
  rcases hrowN g e with e3 | e3
  · exact h5 g (e2 ▸ h.tV) e3
  have := hlt C.BV (by rw [h.tV]; decide); omega
 have hcx : Cells RPt (w'.setCell ⟨C.BV, v, none⟩ (.slice A' (l.length + 1) c')) (fun b => tag b = 8) (xs ++ [.pointer (some ⟨B, 0, none⟩)]) (l ++ [t]) := (o2.append (Cells.single hx)).keep (hon.kept hT)
 have hfl := h.fl.put hon hT hv (fun j g u hj hu e => by
  rintro (e5 | e5)
  · have := h.rl j g u hu e; have := h.tV; subst e5; omega
  exact h.fl.apart v j _ _ g (Ne.symm hj) hv hu e5 e) ⟨_, ho3, hcx⟩ hrowN
 refine ⟨A', c', w', hrun, ⟨?_, by simp [World.frozen?, hBV]⟩, hal.more fun b _ e => hr2 b e, hon.more fun b _ e => ?_, tag', hle, fun b e => (hor b e).imp id (fun e => e.2), ?_⟩
 ·
  rw [cell_of_row _ _ _ _ _ _ hBV]
  simpa using hv
 ·
  rcases e with e | e
  · subst e; exact .inl h.tV
  exact .inr (hr2 b e)
 have hnd9 := (h.nd.keep (hon.kept fun b e => hX b (by omega) (by omega) (by omega))).more (S' := fun b => tag' b = 9) (fun b e => by rw [hle b (by omega)]; exact e)
 have hqu := h.qu.only hon hT fun g e => hX g (by rw [h.rq g e]; decide) (by rw [h.rq g e]; decide) (by rw [h.rq g e]; decide)
 have hfw := h.fw.only hon hT fun i g u hu e => hX g (by rw [h.rw i g u hu e]; decide) (by rw [h.rw i g u hu e]; decide) (by rw [h.rw i g u hu e]; decide)
 have hun : UnfT (w'.setCell ⟨C.BV, v, none⟩ (.slice A' (l.length + 1) c')) (fun b => tag b = 8) := fun b e => by obtain ⟨cs, y, e2⟩ := h.un b e; exact ⟨cs, y, (hb b (by omega) (by omega) (by omega)).trans e2⟩
 rw [← h8e] at hfl hqu hun hfw
 refine ⟨(hb _ (by rw [h.tL]; decide) (by rw [h.tL]; decide) (by rw [h.tL]; decide)).trans h.blk, hnd9, by simpa using hset, by rw [List.length_set]; exact h.vl, hfl, h.sn.only hon (hX _ (by rw [h.tS]; decide) (by rw [h.tS]; decide) (by rw [h.tS]; decide)), h.wm.only hon (hX _ (by rw [h.tW]; decide) (by rw [h.tW]; decide) (by rw [h.tW]; decide)), h.wk, hfw, hqu, hun, (hle _ (by rw [h.tL]; decide)).trans h.tL, (hle _ (by rw [h.tV]; decide)).trans h.tV, (hle _ (by rw [h.tS]; decide)).trans h.tS, (hle _ (by rw [h.tW]; decide)).trans h.tW, fun g e => (hle g (by rw [h.rq g e]; decide)).trans (h.rq g e), fun i g u hu e => ?_, fun i g u hu e => (hle g (by rw [h.rw i g u hu e]; decide)).trans (h.rw i g u hu e), fun b e => ?_⟩
 ·
  rw [List.getElem?_set] at hu
  split at hu
  ·
   split at hu
   · obtain rfl := Option.some.inj hu; exact h2t g e
   cases hu
  exact (hle g (by rw [h.rl i g u hu e]; decide)).trans (h.rl i g u hu e)
 rcases hor b e with e1 | e1
 · exact Nat.lt_of_lt_of_le (h.lt b e1) hon.size
 exact (ho3.row e1.1).2
theorem filter_fst {κ α : Type} [DecidableEq κ] (x : κ) : ∀ l : List (κ × α), (l.filter fun p => decide (p.1 ≠ x)).map Prod.fst = (l.map Prod.fst).filter fun y => decide (y ≠ x)
 | [] => rfl
 | p :: l => by
  rw [List.map_cons, List.filter_cons, List.filter_cons]
  split
  · rw [List.map_cons, filter_fst x l]
  exact filter_fst x l
theorem filter_same {κ α : Type} [DecidableEq κ] {x : κ} {l : List (κ × α)} (h : x ∉ l.map Prod.fst) : l.filter (fun p => decide (p.1 ≠ x)) = l := by
 rw [List.filter_eq_self]
 intro q hq
 simp only [decide_eq_true_eq]
 intro e
 exact h (List.mem_map.2 ⟨q, hq, e⟩)
theorem Fam.erase {α : Type} {R : Rep α} {E : TypeId} {T : Nat → Prop} {w : World} {vs : List Value} {ls : List (List α)} (h : Fam R E T w vs ls) (i : Nat) : Fam R E T w (vs.eraseIdx i) (ls.eraseIdx i) := by
 have hl := h.len
 refine h.sub (ix := (List.range vs.length).eraseIdx i) (List.nodup_range.sublist (List.eraseIdx_sublist _ _)) (by rw [List.length_eraseIdx, List.length_eraseIdx, List.length_range]) (by rw [List.length_eraseIdx, List.length_eraseIdx, List.length_range, hl]) fun j k hj => ?_
 rw [List.getElem?_eraseIdx] at hj
 rw [List.getElem?_eraseIdx, List.getElem?_eraseIdx]
 split at hj
 ·
  next e =>
  rw [if_pos e, if_pos e]
  obtain ⟨_, e2⟩ := List.getElem?_eq_some_iff.1 hj
  rw [List.getElem_range] at e2
  subst e2
  exact ⟨rfl, rfl⟩
 next e =>
 rw [if_neg e, if_neg e]
 obtain ⟨_, e2⟩ := List.getElem?_eq_some_iff.1 hj
 rw [List.getElem_range] at e2
 subst e2
 exact ⟨rfl, rfl⟩
theorem LM.wake (h : LM C tag w vq vs es D) (x : Nat × Nat) (ty : TypeId) {v0 : Value} (hv0 : v0 = (lk es x).getD (.slice none 0 0)) {l0 : List CKey} (hl0 : l0 = (lk D.wl x).getD []) :
    ∃ w', (Builtin.delete_ #[118, 169] ty #[.map (some C.BW), .agg (waitV x)]).run Tryz.prog w = .ok (.tuple #[]) w' ∧ Only w w' (fun b => tag b = 7) ∧
     ∃ (tag' : Nat → Nat) (es' : List ((Nat × Nat) × Value)), (∀ b, tag' b ≠ 0 → tag' b = tag b) ∧ (∀ b, tag b = 9 → tag' b = 9) ∧ LM C tag' w' vq vs es' { D with wl := D.wl.filter fun p => decide (p.1 ≠ x) } ∧
      (∃ xs, Own w' 0 130 7 v0 l0.length xs ∧ Cells RW w' (fun _ => True) xs l0) ∧ ∀ g, rowOf v0 = some g → tag' g = 0 ∧ tag g = 3 := by
 obtain ⟨w', hrun, hm, hg⟩ := h.wm.del mapWaits x ty
 have hnd := h.wm.nodup
 have hon : Only w w' (fun b => b = C.BW) := .of_grown hg fun b e => (Option.some.inj e).symm
 have hX : ∀ b, tag b ≠ 7 → ¬ b = C.BW := fun b hb e => hb (e ▸ h.tW)
 have hb : ∀ b, tag b ≠ 0 → tag b ≠ 7 → w'.heap[b]? = w.heap[b]? := fun b h0 h6 => hon.block b (h.lt b h0) (hX b h6)
 have hT : ∀ b, tag b = 8 → ¬ b = C.BW := fun b e => hX b (by omega)
 have hown : (∃ xs, Own w 0 130 7 v0 l0.length xs ∧ Cells RW w (fun b => tag b = 8) xs l0) ∧ (∀ g, rowOf v0 = some g → tag g = 3) ∧ (es.filter fun p => decide (p.1 ≠ x)).map Prod.fst = (D.wl.filter fun p => decide (p.1 ≠ x)).map Prod.fst ∧ Fam RW 130 (fun b => tag b = 8) w ((es.filter fun p => decide (p.1 ≠ x)).map Prod.snd) ((D.wl.filter fun p => decide (p.1 ≠ x)).map Prod.snd) ∧
     ∀ (i g : Nat) (v : Value), ((es.filter fun p => decide (p.1 ≠ x)).map Prod.snd)[i]? = some v → rowOf v = some g → tag g = 3 ∧ rowOf v0 ≠ some g := by
  have hkk : (es.filter fun p => decide (p.1 ≠ x)).map Prod.fst = (D.wl.filter fun p => decide (p.1 ≠ x)).map Prod.fst := by rw [filter_fst, filter_fst, h.wk]
  rcases lk_two hnd h.wk x with ⟨e1, e2⟩ | ⟨i, u, l, e1, e2, e3, e4⟩
  ·
   rw [e1] at hv0
   rw [e2] at hl0
   simp only [Option.getD_none] at hv0 hl0
   subst hv0 hl0
   rw [filter_same (lk_none.1 e1), filter_same (lk_none.1 e2)]
   exact ⟨⟨[], Own.nil _ _ _ _ _, Cells.nil⟩, fun g e => (by cases e), h.wk, h.fw, fun i g v hv e => ⟨h.rw i g v hv e, fun e => by cases e⟩⟩
  rw [e1] at hv0
  rw [e2] at hl0
  simp only [Option.getD_some] at hv0 hl0
  subst hv0 hl0
  have i1 : (es.map Prod.snd)[i]? = some v0 := by rw [List.getElem?_map, e3]; rfl
  have i2 : (D.wl.map Prod.snd)[i]? = some l0 := by rw [List.getElem?_map, e4]; rfl
  refine ⟨h.fw.own i _ _ i1 i2, fun g e => h.rw i g _ i1 e, hkk, ?_, fun j g v hv e => ?_⟩
  ·
   rw [filter_erase hnd e3, filter_erase (by rw [← h.wk]; exact hnd) e4, map_eraseIdx, map_eraseIdx]
   exact h.fw.erase i
  rw [filter_erase hnd e3, map_eraseIdx, List.getElem?_eraseIdx] at hv
  split at hv
  · exact ⟨h.rw _ g v hv e, fun e5 => h.fw.apart i j _ _ g (by omega) i1 hv e5 e⟩
  exact ⟨h.rw _ g v hv e, fun e5 => h.fw.apart i (j + 1) _ _ g (by omega) i1 hv e5 e⟩
 obtain ⟨⟨xs, o1, o2⟩, hr3, hwk, hfw, hrw⟩ := hown
 obtain ⟨tag', htag⟩ : ∃ tag' : Nat → Nat, tag' = fun b => if rowOf v0 = some b then 0 else tag b := ⟨_, rfl⟩
 have hle : ∀ b, tag b ≠ 3 → tag' b = tag b := fun b hb => by rw [htag]; exact if_neg fun e => hb (hr3 b e)
 have hor : ∀ b, tag' b ≠ 0 → tag' b = tag b := fun b hb => by
  rw [htag] at hb ⊢
  simp only at hb ⊢
  split at hb
  · exact absurd rfl hb
  next e => exact if_neg e
 have h8 : ∀ b, tag' b = 8 ↔ tag b = 8 := fun b => ⟨fun e => by rw [← hor b (by omega)]; exact e, fun e => by rw [hle b (by omega)]; exact e⟩
 have h8e : (fun b => tag' b = 8) = fun b => tag b = 8 := by funext b; exact propext (h8 b)
 refine ⟨w', hrun, hon.more fun b _ e => (by subst e; exact h.tW), tag', es.filter (fun p => decide (p.1 ≠ x)), hor, fun b e => by rw [hle b (by omega)]; exact e, ?_, ⟨xs, o1.sameB fun g e => hb g (by rw [hr3 g e]; decide) (by rw [hr3 g e]; decide), (o2.keep (hon.kept hT)).more fun _ _ => trivial⟩, fun g e => ⟨by rw [htag]; exact if_pos e, hr3 g e⟩⟩
 have hnd9 := (h.nd.keep (hon.kept fun b e => hX b (by omega))).more (S' := fun b => tag' b = 9) (fun b e => by rw [hle b (by omega)]; exact e)
 have hqu := h.qu.only hon hT fun g e => hX g (by rw [h.rq g e]; decide)
 have hfl := h.fl.only hon hT fun i g v hv e => hX g (by rw [h.rl i g v hv e]; decide)
 have hfw2 := hfw.only hon hT fun i g v hv e => hX g (by rw [(hrw i g v hv e).1]; decide)
 have hun : UnfT w' (fun b => tag b = 8) := fun b e => by obtain ⟨cs, y, e2⟩ := h.un b e; exact ⟨cs, y, (hb b (by omega) (by omega)).trans e2⟩
 rw [← h8e] at hqu hfl hfw2 hun
 exact ⟨(hb _ (by rw [h.tL]; decide) (by rw [h.tL]; decide)).trans h.blk, hnd9, (hb _ (by rw [h.tV]; decide) (by rw [h.tV]; decide)).trans h.bv, h.vl, hfl, h.sn.only hon (hX _ (by rw [h.tS]; decide)), hm, hwk, hfw2, hqu, hun, (hle _ (by rw [h.tL]; decide)).trans h.tL, (hle _ (by rw [h.tV]; decide)).trans h.tV, (hle _ (by rw [h.tS]; decide)).trans h.tS, (hle _ (by rw [h.tW]; decide)).trans h.tW, fun g e => (hle g (by rw [h.rq g e]; decide)).trans (h.rq g e), fun i g v hv e => (hle g (by rw [h.rl i g v hv e]; decide)).trans (h.rl i g v hv e), fun i g v hv e => (by rw [htag]; simp only; rw [if_neg (hrw i g v hv e).2]; exact (hrw i g v hv e).1), fun b e => Nat.lt_of_lt_of_le (h.lt b (by rw [← hor b e]; exact e)) hon.size⟩
theorem rw_at {w : World} {T : Nat → Prop} {A : Option Addr} {n c i : Nat} {xs : List Value} {l : List CKey} (h1 : Own w 0 130 7 (.slice A n c) l.length xs) (h2 : Cells RW w T xs l) (hi : i < l.length) :
    ∃ (g : Nat) (k : CKey), A = some ⟨g, 0, none⟩ ∧ l[i]? = some k ∧ rowOf (.slice A n c) = some g ∧ w.cell? ⟨g, i * 7, none⟩ = some (.int .i64 (k.1 : Int)) ∧ w.cell? ⟨g, i * 7 + 1, none⟩ = some (.int .i64 (k.2.1 : Int)) ∧ w.cell? ⟨g, i * 7 + 2, none⟩ = some (.int .i64 (k.2.2.1 : Int)) ∧ w.cell? ⟨g, i * 7 + 3, none⟩ = some (.int .i64 (k.2.2.2.1 : Int)) ∧ w.cell? ⟨g, i * 7 + 4, none⟩ = some (.int .i64 (k.2.2.2.2.1 : Int)) ∧ w.cell? ⟨g, i * 7 + 5, none⟩ = some (.int .i64 (k.2.2.2.2.2 : Int)) ∧ w.cell? ⟨g, i * 7 + 6, none⟩ = some (.pointer none) := by
 have hl := h2.len
 have hg := h2.get hi
 rw [show RW.size = 7 from rfl] at hg hl
 have hcs : (xs.drop (i * 7)).take 7 = ckV l[i] ++ [Value.pointer none] := hg
 rcases h1 with h1 | ⟨A', h1, h3, _⟩
 ·
  rcases h1.2 with ⟨h3, h4⟩ | ⟨g, cap, cur, e1, _, hh, hnc, _, hcs2, htk⟩
  · omega
  injection e1 with e1 e3 e2
  subst e1
  subst e2
  have hx : ∀ (j : Nat) (u : Value), j < 7 → ((xs.drop (i * 7)).take 7)[j]? = some u → w.cell? ⟨g, i * 7 + j, none⟩ = some u := by
   intro j u hj hu
   rw [List.getElem?_take, if_pos hj, List.getElem?_drop, ← htk, List.getElem?_take] at hu
   split at hu
   ·
    rw [cell_of_row _ _ _ _ _ _ hh]
    simpa using hu
   cases hu
  rw [hcs] at hx
  refine ⟨g, l[i], rfl, List.getElem?_eq_getElem hi, ?_, hx 0 _ (by omega) rfl, hx 1 _ (by omega) rfl, hx 2 _ (by omega) rfl, hx 3 _ (by omega) rfl, hx 4 _ (by omega) rfl, hx 5 _ (by omega) rfl, hx 6 _ (by omega) rfl⟩
  obtain ⟨c', rfl⟩ : ∃ c', c = c' + 1 := ⟨c - 1, by omega⟩
  rfl
 omega
theorem bump_set {a0 a1 r0 r1 r2 r3 i r : Nat} {p : Value} (hi : i < 4) (hr : (rkL (a0, a1, r0, r1, r2, r3))[i]? = some r) : ∃ q0 q1 q2 q3 : Nat, bump (a0, a1, r0, r1, r2, r3) i = (a0, a1, q0, q1, q2, q3) ∧ (#[.int .i64 (a0 : Int), .int .i64 (a1 : Int), .int .i64 (r0 : Int), .int .i64 (r1 : Int), .int .i64 (r2 : Int), .int .i64 (r3 : Int), p] : Array Value).setIfInBounds (2 + i) (.int .i64 ((r : Int) + 1)) = #[.int .i64 (a0 : Int), .int .i64 (a1 : Int), .int .i64 (q0 : Int), .int .i64 (q1 : Int), .int .i64 (q2 : Int), .int .i64 (q3 : Int), p] := by
 rcases i with _ | _ | _ | _ | i
 · obtain rfl := Option.some.inj hr; exact ⟨_, _, _, _, rfl, by simp⟩
 · obtain rfl := Option.some.inj hr; exact ⟨_, _, _, _, rfl, by simp⟩
 · obtain rfl := Option.some.inj hr; exact ⟨_, _, _, _, rfl, by simp⟩
 · obtain rfl := Option.some.inj hr; exact ⟨_, _, _, _, rfl, by simp⟩
 omega
end
end Go.Proofs.YtjnbjdbndbbanaaGreatDoor
