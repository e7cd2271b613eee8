/- EqMap -/
import Derived.Test.YtjnbjdbndbbanaaGreatDoorTc33
namespace Go.Proofs.YtjnbjdbndbbanaaGreatDoor
open Go.RowKit Go.Maps Go.ChangeMaps
theorem filter_erase {κ α : Type} [DecidableEq κ] : ∀ {l : List (κ × α)} {j : Nat} {x : κ} {v : α}, (l.map Prod.fst).Nodup → l[j]? = some (x, v) → l.filter (fun p => decide (p.1 ≠ x)) = l.eraseIdx j
 | [], j, x, v, _, h => by simp at h
 | p :: l, 0, x, v, hnd, h => by
  rw [List.map_cons, List.nodup_cons] at hnd
  simp only [List.getElem?_cons_zero, Option.some.injEq] at h
  subst h
  rw [List.eraseIdx_cons_zero, List.filter_cons, if_neg (by simp), List.filter_eq_self]
  intro q hq
  simp only [decide_eq_true_eq]
  intro e
  exact hnd.1 (List.mem_map.2 ⟨q, hq, e⟩)
 | p :: l, j + 1, x, v, hnd, h => by
  rw [List.map_cons, List.nodup_cons] at hnd
  have h2 : l[j]? = some (x, v) := by simpa using h
  rw [List.eraseIdx_cons_succ, List.filter_cons, if_pos (by simp only [decide_eq_true_eq]; intro e; exact hnd.1 (List.mem_map.2 ⟨_, List.mem_of_getElem? h2, e.symm⟩)), filter_erase hnd.2 h2]
structure EqKey (P : Program) (k : TypeId) (κ : Type) [DecidableEq κ] where
 val : κ → Value
 eq : ∀ (w : World) (x y : κ), (Op.equal k (val x) (val y)).run P w = .ok (decide (x = y)) w
 chk : ∀ (w : World) (e : Bool) (x : κ), (Instr.checkKey e 10000 k (val x)).run P w = .ok () w
 fn : ∀ (v : TypeDesc) (x : κ) (e : MapEntry) (es : List MapEntry), Instr.findNow v (val x) (e :: es) 0 = none
 st : ∀ (w : World) (x : κ), (Instr.keyThatStays (val x) (val x)).run P w = .ok (val x) w
 und : ∃ d, P.underlying k = some d
def EMap {P : Program} {k : TypeId} {κ : Type} [DecidableEq κ] (K : EqKey P k κ) (w : World) (b : Nat) (l : List (κ × Value)) : Prop :=
 ∃ es clock, w.heap[b]? = some (.map es clock) ∧ es.toList.map (fun e => (e.key, e.val)) = l.map (fun p => (K.val p.1, p.2)) ∧ (l.map Prod.fst).Nodup ∧ (∀ e ∈ es.toList, e.born < clock) ∧ (es.toList.map (·.born)).Nodup
section
variable {P : Program} {k : TypeId} {κ : Type} [DecidableEq κ] {K : EqKey P k κ} {w w' : World} {b : Nat} {l : List (κ × Value)}
theorem EqKey.ask (w : World) (x : κ) : ∀ (es : List MapEntry) (l : List (κ × Value)) (i : Nat), es.map (fun e => (e.key, e.val)) = l.map (fun p => (K.val p.1, p.2)) →
    (x ∉ l.map Prod.fst → (Instr.findAsking k (K.val x) es i).run P w = .ok none w) ∧ (∀ v, lk l x = some v → ∃ j, (Instr.findAsking k (K.val x) es i).run P w = .ok (some (i + j, v)) w ∧ l[j]? = some (x, v))
 | [], [], i, _ => ⟨fun _ => by simp [Instr.findAsking], fun v h => by cases h⟩
 | [], _ :: _, i, h => by simp at h
 | _ :: _, [], i, h => by simp at h
 | e :: es, p :: l, i, h => by
  simp only [List.map_cons, List.cons.injEq, Prod.mk.injEq] at h
  obtain ⟨⟨h1, h2⟩, h3⟩ := h
  obtain ⟨k1, k2⟩ := EqKey.ask w x es l (i + 1) h3
  by_cases hx : x = p.1
  ·
   subst hx
   refine ⟨fun hn => absurd (by simp) hn, fun v hv => ⟨0, ?_, ?_⟩⟩
   ·
    unfold lk at hv
    rw [if_pos rfl] at hv
    injection hv with hv
    simp [Instr.findAsking, h1, h2, K.eq, hv]
   unfold lk at hv
   rw [if_pos rfl] at hv
   injection hv with hv
   rw [← hv]
   rfl
  have hb : decide (x = p.1) = false := decide_eq_false hx
  constructor
  ·
   intro hn
   simp only [Instr.findAsking, h1, Sem.run_bind, K.eq, hb, Result.andThen_ok, Bool.false_eq_true, if_false]
   exact k1 fun h => hn (by simp only [List.map_cons, List.mem_cons]; exact .inr h)
  intro v hv
  unfold lk at hv
  rw [if_neg (Ne.symm hx)] at hv
  obtain ⟨j, hj, hl⟩ := k2 v hv
  refine ⟨j + 1, ?_, by simpa using hl⟩
  simp only [Instr.findAsking, h1, Sem.run_bind, K.eq, hb, Result.andThen_ok, Bool.false_eq_true, if_false]
  rw [hj, show i + 1 + j = i + (j + 1) by omega]
theorem EqKey.find (w : World) (x : κ) (es : List MapEntry) (l : List (κ × Value)) (h : es.map (fun e => (e.key, e.val)) = l.map fun p => (K.val p.1, p.2)) :
    (x ∉ l.map Prod.fst → (Instr.findKey k (K.val x) es).run P w = .ok none w) ∧ (∀ v, lk l x = some v → ∃ j, (Instr.findKey k (K.val x) es).run P w = .ok (some (j, v)) w ∧ l[j]? = some (x, v)) := by
 obtain ⟨d, hu⟩ := K.und
 cases es with
 | nil =>
  cases l with
  | nil => exact ⟨fun _ => by simp [Instr.findKey, run_underlying hu, Instr.findNow], fun v h => by cases h⟩
  | cons x l => simp at h
 | cons e es =>
  obtain ⟨k1, k2⟩ := EqKey.ask (K := K) w x (e :: es) l 0 h
  have hn := K.fn d x e es
  constructor
  ·
   intro h1
   simp [Instr.findKey, run_underlying hu, hn]
   exact k1 h1
  intro v h1
  obtain ⟨j, hj, hl⟩ := k2 v h1
  rw [Nat.zero_add] at hj
  exact ⟨j, by simp [Instr.findKey, run_underlying hu, hn]; exact hj, hl⟩
theorem EMap.only {X : Nat → Prop} (h : EMap K w b l) (ho : Only w w' X) (hX : ¬ X b) : EMap K w' b l := by
 obtain ⟨es, clock, hb, he⟩ := h
 exact ⟨es, clock, (ho.block b (heap_lt hb) hX).trans hb, he⟩
theorem EMap.nodup (h : EMap K w b l) : (l.map Prod.fst).Nodup := by
 obtain ⟨es, clock, _, _, h, _⟩ := h
 exact h
theorem EMap.look {t e : TypeId} (h : EMap K w b l) (ht : P.underlying t = some (.map k e)) {z : Value} (hz : (zeroValue e).run P w = .ok z w) (x : κ) : (Instr.lookup t (.map (some b)) (K.val x) false).run P w = .ok ((lk l x).getD z) w := by
 obtain ⟨es, clock, hb, he, _, _⟩ := h
 have hg : (getObj b).run P w = .ok (.map es clock) w := by simp [getObj, Sem.run, hb]
 obtain ⟨k1, k2⟩ := EqKey.find (K := K) w x es.toList l he
 cases hv : lk l x with
 | none => simp [Instr.lookup, run_underlying ht, hg, K.chk, k1 (lk_none.1 hv), hz]
 | some v =>
  obtain ⟨j, hj, _⟩ := k2 v hv
  simp [Instr.lookup, run_underlying ht, hg, K.chk, hj]
theorem set_run {es : Array MapEntry} {clock : Nat} (hb : w.heap[b]? = some (.map es clock)) (o : Obj) : (setObj b o).run P w = .ok () (setBlock w b o) := by simp [setObj, Sem.run, hb, setBlock]
theorem map_grown {es : Array MapEntry} {clock : Nat} (hb : w.heap[b]? = some (.map es clock)) (o : Obj) : w.grownBy (setBlock w b o) (some b) :=
 ⟨rfl, rfl, rfl, by simp [setBlock], fun i _ hi => heap_setBlock_other hb _ (fun e => hi (by rw [e]))⟩
theorem EMap.del {t e : TypeId} (h : EMap K w b l) (ht : P.underlying t = some (.map k e)) (x : κ) (ty : TypeId) : ∃ w', (Builtin.delete_ #[t, k] ty #[.map (some b), K.val x]).run P w = .ok (.tuple #[]) w' ∧ EMap K w' b (l.filter fun p => decide (p.1 ≠ x)) ∧ w.grownBy w' (some b) := by
 obtain ⟨es, clock, hb, he, hnd, hst, hsn⟩ := h
 have hg : (getObj b).run P w = .ok (.map es clock) w := by simp [getObj, Sem.run, hb]
 obtain ⟨k1, k2⟩ := EqKey.find (K := K) w x es.toList l he
 cases hv : lk l x with
 | none =>
  have hf : l.filter (fun p => decide (p.1 ≠ x)) = l := by
   rw [List.filter_eq_self]
   intro p hp
   simp only [decide_eq_true_eq]
   intro e
   exact lk_none.1 hv (List.mem_map.2 ⟨p, hp, e⟩)
  refine ⟨setBlock w b (.map es clock), ?_, ⟨es, clock, heap_setBlock_same hb _, by rw [hf]; exact he, by rw [hf]; exact hnd, hst, hsn⟩, map_grown hb _⟩
  simp [Builtin.delete_, run_underlying ht, hg, K.chk, k1 (lk_none.1 hv), set_run hb]
 | some v =>
  obtain ⟨j, hj, hl⟩ := k2 v hv
  obtain ⟨hjl, hjx⟩ := List.getElem?_eq_some_iff.1 hl
  have hjs : j < es.size := by
   have := congrArg List.length he
   simp at this
   omega
  have hsub : (es.eraseIdxIfInBounds j).toList = es.toList.eraseIdx j := by
   unfold Array.eraseIdxIfInBounds
   rw [dif_pos hjs]
   simp
  have hf : l.filter (fun p => decide (p.1 ≠ x)) = l.eraseIdx j := filter_erase hnd hl
  refine ⟨setBlock w b (.map (es.eraseIdxIfInBounds j) clock), ?_, ⟨es.eraseIdxIfInBounds j, clock, heap_setBlock_same hb _, ?_, ?_, ?_, ?_⟩, map_grown hb _⟩
  · simp [Builtin.delete_, run_underlying ht, hg, K.chk, hj, set_run hb]
  · rw [hf, hsub, map_eraseIdx, map_eraseIdx, he]
  ·
   rw [hf, map_eraseIdx]
   exact hnd.sublist (List.eraseIdx_sublist _ _)
  ·
   intro q hq
   rw [hsub] at hq
   exact hst q ((List.eraseIdx_sublist _ _).subset hq)
  rw [hsub, map_eraseIdx]
  exact hsn.sublist (List.eraseIdx_sublist _ _)
theorem findIdx_born {es : List MapEntry} {j : Nat} {e : MapEntry} (hn : (es.map (·.born)).Nodup) (h : es[j]? = some e) : es.findIdx? (fun x => (x.born : Int) == (e.born : Int)) = some j := by
 rw [List.findIdx?_eq_some_iff_getElem]
 obtain ⟨hj, rfl⟩ := List.getElem?_eq_some_iff.1 h
 refine ⟨hj, by simp, fun i hi => ?_⟩
 simp only [beq_iff_eq, Int.natCast_inj]
 intro e2
 have h1 : (es.map (·.born))[i]? = some (es[j]).born := by rw [List.getElem?_map, List.getElem?_eq_getElem (by omega)]; simp [e2]
 have h2 : (es.map (·.born))[j]? = some (es[j]).born := by rw [List.getElem?_map, List.getElem?_eq_getElem hj]; rfl
 have := nodup_at hn h1 h2
 omega
theorem putL_at {α : Type} : ∀ {l : List (κ × α)} {j : Nat} {x : κ} {v0 v : α}, (l.map Prod.fst).Nodup → l[j]? = some (x, v0) → putL l x v = l.set j (x, v)
 | [], j, x, v0, v, _, h => by simp at h
 | p :: l, 0, x, v0, v, _, h => by
  simp only [List.getElem?_cons_zero, Option.some.injEq] at h
  subst h
  unfold putL
  rw [if_pos rfl]
  rfl
 | p :: l, j + 1, x, v0, v, hnd, h => by
  rw [List.map_cons, List.nodup_cons] at hnd
  have h2 : l[j]? = some (x, v0) := by simpa using h
  unfold putL
  rw [if_neg (fun e => hnd.1 (List.mem_map.2 ⟨_, List.mem_of_getElem? h2, e.symm⟩)), putL_at hnd.2 h2]
  rfl
theorem modify_toList {es : Array MapEntry} {j : Nat} {f : MapEntry → MapEntry} {e : MapEntry} (h : es.toList[j]? = some e) : (es.modify j f).toList = es.toList.set j (f e) := by
 apply List.ext_getElem?
 intro i
 rw [Array.toList_modify, List.getElem?_modify, List.getElem?_set]
 by_cases hi : j = i
 ·
  subst hi
  have hl := (List.getElem?_eq_some_iff.1 h).1
  rw [if_pos rfl, if_pos hl, h]
  simp
 rw [if_neg hi]
 cases es.toList[i]? <;> simp [hi]
theorem EMap.store {t : TypeId} {es : Array MapEntry} {clock j : Nat} {e0 : MapEntry} {x : κ} {v0 : Value} (hb : w.heap[b]? = some (.map es clock)) (he : es.toList.map (fun e => (e.key, e.val)) = l.map (fun p => (K.val p.1, p.2))) (hnd : (l.map Prod.fst).Nodup) (hst : ∀ e ∈ es.toList, e.born < clock) (hsn : (es.toList.map (·.born)).Nodup) (hj : es.toList[j]? = some e0) (hl : l[j]? = some (x, v0)) (v : Value) :
    ∃ w3, (Instr.entryStore t (.map (some b)) (.int .i64 (e0.born : Int)) v).run P w = .ok () w3 ∧ EMap K w3 b (l.set j (x, v)) ∧ w.grownBy w3 (some b) := by
 have hg : (getObj b).run P w = .ok (.map es clock) w := by simp [getObj, Sem.run, hb]
 have hfi : es.findIdx? (fun e => (e.born : Int) == (e0.born : Int)) = some j := by
  have h := findIdx_born hsn hj
  rw [← List.findIdx?_toArray] at h
  simpa using h
 have hml := modify_toList (f := fun e => { e with val := v }) hj
 have hjl := (List.getElem?_eq_some_iff.1 hj).1
 refine ⟨setBlock w b (.map (es.modify j fun e => { e with val := v }) clock), ?_, ⟨_, clock, heap_setBlock_same hb _, ?_, ?_, ?_, ?_⟩, map_grown hb _⟩
 · simp [Instr.entryStore, hg, asInt, asIntOf, hfi, set_run hb]
 ·
  have hk : e0.key = K.val x := by
   have h := congrArg (fun m : List (Value × Value) => m[j]?) he
   simp only [List.getElem?_map, hj, hl, Option.map_some, Option.some.injEq, Prod.mk.injEq] at h
   exact h.1
  rw [hml, List.map_set, List.map_set, he, hk]
 ·
  have : (l.set j (x, v)).map Prod.fst = l.map Prod.fst := by
   rw [List.map_set]
   apply List.ext_getElem?
   intro i
   rw [List.getElem?_set]
   by_cases hi : j = i
   ·
    subst hi
    simp [hl]
    exact (List.getElem?_eq_some_iff.1 hl).1
   rw [if_neg hi]
  rw [this]
  exact hnd
 ·
  intro e hm
  rw [hml] at hm
  rcases List.mem_or_eq_of_mem_set hm with h | h
  · exact hst e h
  rw [h]; exact hst e0 (List.mem_of_getElem? hj)
 have : (es.toList.set j { e0 with val := v }).map (·.born) = es.toList.map (·.born) := by
  rw [List.map_set]
  apply List.ext_getElem?
  intro i
  rw [List.getElem?_set]
  by_cases hi : j = i
  ·
   subst hi
   simp [hj]
   simpa using hjl
  rw [if_neg hi]
 rw [hml, this]
 exact hsn
theorem EMap.entry {t e : TypeId} (h : EMap K w b l) (ht : P.underlying t = some (.map k e)) {z : Value} (hz : ∀ u : World, (zeroValue e).run P u = .ok z u) (x : κ) (v : Value) :
    ∃ (st : Nat) (w1 : World), (Instr.mapEntry t (.map (some b)) (K.val x)).run P w = .ok (.tuple #[(lk l x).getD z, .int .i64 (st : Int)]) w1 ∧ w.grownBy w1 (some b) ∧
     ∀ w2 : World, w2.heap[b]? = w1.heap[b]? → ∃ w3, (Instr.entryStore t (.map (some b)) (.int .i64 (st : Int)) v).run P w2 = .ok () w3 ∧ EMap K w3 b (putL l x v) ∧ w2.grownBy w3 (some b) := by
 obtain ⟨es, clock, hb, he, hnd, hst, hsn⟩ := h
 have hg : (getObj b).run P w = .ok (.map es clock) w := by simp [getObj, Sem.run, hb]
 obtain ⟨k1, k2⟩ := EqKey.find (K := K) w x es.toList l he
 have hlen : es.toList.length = l.length := by have := congrArg List.length he; simpa using this
 cases hv : lk l x with
 | none =>
  have hx := lk_none.1 hv
  obtain ⟨es1, hes1⟩ := zE (es.push { key := K.val x, val := z, born := clock })
  refine ⟨clock, setBlock w b (.map es1 (clock + 1)), ?_, map_grown hb _, fun w2 hw2 => ?_⟩
  · simp [Instr.mapEntry, run_underlying ht, hg, K.chk, k1 hx, hz, ← hes1, set_run hb, goInt]
  rw [heap_setBlock_same hb] at hw2
  have htl : es1.toList = es.toList ++ [{ key := K.val x, val := z, born := clock }] := by rw [hes1]; simp
  have hsn1 : (es1.toList.map (·.born)).Nodup := by
   rw [htl, List.map_append, List.nodup_append]
   refine ⟨hsn, by simp, fun a ha c hc => ?_⟩
   obtain ⟨q, hq, rfl⟩ := List.mem_map.1 ha
   have := hst q hq
   simp at hc
   omega
  obtain ⟨w3, h1, h2, h3⟩ := EMap.store (K := K) (t := t) (l := l ++ [(x, z)]) (j := l.length) (e0 := { key := K.val x, val := z, born := clock }) (x := x) (v0 := z) hw2 (by rw [htl, List.map_append, List.map_append, he]; rfl) (by
   rw [List.map_append, List.nodup_append]
   exact ⟨hnd, by simp, fun a ha c hc => by simp at hc; rw [hc]; exact fun e => hx (e ▸ ha)⟩) (by
   intro q hq
   rw [htl] at hq
   rcases List.mem_append.1 hq with h | h
   · have := hst q h; omega
   rw [List.mem_singleton.1 h]; simp) hsn1 (by rw [htl, ← hlen]; simp) (by simp) v
  refine ⟨w3, h1, ?_, h3⟩
  rw [putL_new hx]
  rw [List.set_append_right _ _ (Nat.le_refl _), Nat.sub_self] at h2
  exact h2
 | some v0 =>
  obtain ⟨j, hj, hl⟩ := k2 v0 hv
  have hjl : j < es.toList.length := by rw [hlen]; exact (List.getElem?_eq_some_iff.1 hl).1
  obtain ⟨e0, he0⟩ : ∃ e0, es.toList[j]? = some e0 := ⟨_, List.getElem?_eq_getElem hjl⟩
  have hkv : e0.key = K.val x ∧ e0.val = v0 := by
   have h := congrArg (fun m : List (Value × Value) => m[j]?) he
   simp only [List.getElem?_map, he0, hl, Option.map_some, Option.some.injEq, Prod.mk.injEq] at h
   exact h
  have hml := modify_toList (f := fun e => { e with key := K.val x }) he0
  have hsame : (es.modify j fun e => { e with key := K.val x }).toList = es.toList := by
   rw [hml]
   apply List.ext_getElem?
   intro i
   rw [List.getElem?_set]
   by_cases hi : j = i
   ·
    subst hi
    rw [if_pos rfl, if_pos hjl, he0, ← hkv.1]
   rw [if_neg hi]
  have hes : es[j]? = some e0 := by rw [← Array.getElem?_toList]; exact he0
  refine ⟨e0.born, setBlock w b (.map (es.modify j fun e => { e with key := K.val x }) clock), ?_, map_grown hb _, fun w2 hw2 => ?_⟩
  · simp [Instr.mapEntry, run_underlying ht, hg, K.chk, hj, hes, hkv.1, K.st, set_run hb, goInt]
  rw [heap_setBlock_same hb] at hw2
  obtain ⟨w3, h1, h2, h3⟩ := EMap.store (K := K) (t := t) (l := l) (j := j) (e0 := e0) (x := x) (v0 := v0) hw2 (by rw [hsame]; exact he) hnd (by rw [hsame]; exact hst) (by rw [hsame]; exact hsn) (by rw [hsame]; exact he0) hl v
  exact ⟨w3, h1, by rw [putL_at hnd hl]; exact h2, h3⟩
end
def waitV (k : Nat × Nat) : Array Value := #[.int .i64 (k.1 : Int), .int .i64 (k.2 : Int)]
theorem wpart0 (k : Nat × Nat) (w : World) : (part 3 (waitV k) 0).run Tryz.prog w = .ok (.int .i64 (k.1 : Int)) w := by kernel_rfl
theorem wpart1 (k : Nat × Nat) (w : World) : (part 3 (waitV k) 1).run Tryz.prog w = .ok (.int .i64 (k.2 : Int)) w := by kernel_rfl
set_option linter.unusedSimpArgs false in
set_option maxRecDepth 100000 in
theorem waitEqIn (w : World) (d : Nat) (x y : Nat × Nat) : (Op.equalIn (d + 3) 169 (.agg (waitV x)) (.agg (waitV y))).run Tryz.prog w = .ok (x == y) w := by
 have hu := Tryz.underlying169
 have hs : Tryz.prog.stoodInHeld 169 = false := by kernel_rfl
 have hf : Tryz.prog.underlying 169 = some (.struct (Tryz.prog.fieldsOf 169)) := by kernel_rfl
 have h0 := run_equalIn_struct (P := Tryz.prog) w (d + 2) 169 (waitV x) (waitV y) hf hs
 refine h0.trans ?_
 have hf2 := hu.symm.trans hf
 simp only [Option.some.injEq, TypeDesc.struct.injEq] at hf2
 rw [← hf2]
 have hI := fun (n : Nat) (a b : Int) => run_equalIn_int (P := Tryz.prog) w n 3 .i64 .i64 a b Tryz.underlying3
 obtain ⟨a1, a2⟩ := x
 obtain ⟨b1, b2⟩ := y
 simp only [Op.eqFields, Sem.run_bind, wpart0, wpart1, Result.andThen_ok]
 by_cases e1 : a1 = b1
 ·
  by_cases e2 : a2 = b2
  ·
   subst e1 e2
   simp [hI, wpart0, wpart1]
  have e : ((a1, a2) == (b1, b2)) = false := by
   rw [beq_eq_false_iff_ne]
   intro h
   simp only [Prod.mk.injEq] at h
   exact e2 h.2
  have e' : ((a2 : Int) == (b2 : Int)) = false := by simp; omega
  rw [e]
  subst e1
  simp [hI, e', wpart0, wpart1]
 have e : ((a1, a2) == (b1, b2)) = false := by
  rw [beq_eq_false_iff_ne]
  intro h
  simp only [Prod.mk.injEq] at h
  exact e1 h.1
 have e' : ((a1 : Int) == (b1 : Int)) = false := by simp; omega
 rw [e]
 simp [hI, e', wpart0, wpart1]
theorem sameBits_wait (k : Nat × Nat) : Instr.sameBits 10000 (.agg (waitV k)) (.agg (waitV k)) = true := by
 simp [Instr.sameBits, waitV]
abbrev KWait : EqKey Tryz.prog 169 (Nat × Nat) where
 val := fun k => .agg (waitV k)
 eq := fun w x y => by
  have h := waitEqIn w 9997 x y
  rw [show (x == y) = decide (x = y) by rw [Bool.eq_iff_iff]; simp] at h
  exact h
 chk := fun w e x => by kernel_rfl
 fn := fun v x e es => by cases v <;> rfl
 st := fun w x => by
  unfold Instr.keyThatStays
  rw [if_pos (sameBits_wait x)]
  rfl
 und := ⟨_, Tryz.underlying169⟩
theorem mapWaits : Tryz.prog.underlying 118 = some (.map 169 119) := by kernel_rfl
theorem zeroWaits (u : World) : (zeroValue 119).run Tryz.prog u = .ok (.slice none 0 0) u := by kernel_rfl
end Go.Proofs.YtjnbjdbndbbanaaGreatDoor
