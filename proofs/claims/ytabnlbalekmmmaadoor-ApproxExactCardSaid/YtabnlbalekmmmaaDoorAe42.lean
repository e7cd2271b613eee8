/- Inv -/
import Derived.Test.YtabnlbalekmmmaaDoorAe08
namespace Go.Proofs.YtabnlbalekmmmaaDoor
def lis (listed : Array Bool) (j : Nat) : Bool := listed.getD j false
def StepI (P : Program) (ops : Array Oper) (Q : Exit → Act → World → Prop) (oi : Oper) (a : Act) (w : World) (K : Act → World → Prop) : Prop :=
 ∀ K' : Act → World → Prop, Shut (∀ a' w', K a' w' → K' a' w') → if Region.wanted oi (yielded ops a.tmps) = true then Oper.wp P oi a w K' Q else K' (a.put oi.dst undef) w
section
variable {P : Program} {ops : Array Oper} {Q : Exit → Act → World → Prop} {md : Region.Mode}
theorem lis_set {listed : Array Bool} {i : Nat} (hi : i < listed.size) : lis (listed.setIfInBounds i true) = fun j => if j = i then true else lis listed j := by
 funext j
 unfold lis
 by_cases h : j = i
 ·
  subst h
  simp [hi]
 ·
  rw [if_neg h]
  simp [Ne.symm h]
theorem count_set : ∀ {l : List Bool} {i : Nat}, l[i]? = some false → (l.set i true).countP (! ·) + 1 = l.countP (! ·)
 | [], i, h => by simp at h
 | b :: l, 0, h => by
  simp only [List.getElem?_cons_zero, Option.some.injEq] at h
  subst h
  simp
 | b :: l, i + 1, h => by
  have := count_set (l := l) (i := i) (by simpa using h)
  simp only [List.set_cons_succ, List.countP_cons]
  omega
theorem ready_mem {listed : Array Bool} {i : Nat} (hs : listed.size = ops.size) : i ∈ Region.ready md ops listed ↔ ∃ oi, ops[i]? = some oi ∧ lis listed i = false ∧ ∀ e ∈ oi.after, Region.binds md e = true → lis listed e.on = true := by
 unfold Region.ready lis
 rw [List.mem_filter, List.mem_range]
 constructor
 ·
  rintro ⟨h1, h2⟩
  obtain ⟨oi, ho⟩ : ∃ oi, ops[i]? = some oi := ⟨_, Array.getElem?_eq_getElem h1⟩
  rw [ho] at h2
  simp only [Bool.and_eq_true, Option.map_some, Option.getD_some, Bool.not_eq_true', Array.all_eq_true_iff_forall_mem, Bool.or_eq_true] at h2
  refine ⟨oi, ho, ?_, fun e he hb => ?_⟩
  ·
   have h3 := h2.1
   rw [Array.getD_eq_getD_getElem?, Array.getElem?_eq_getElem (by omega)] at h3 ⊢
   exact h3
  ·
   rcases h2.2 e he with h4 | h4
   ·
    rw [hb] at h4; cases h4
   ·
    exact h4
 ·
  rintro ⟨oi, ho, h3, h4⟩
  have h1 : i < ops.size := by
   rcases Nat.lt_or_ge i ops.size with h | h
   ·
    exact h
   ·
    rw [Array.getElem?_eq_none h] at ho; cases ho
  refine ⟨h1, ?_⟩
  rw [ho]
  simp only [Bool.and_eq_true, Option.map_some, Option.getD_some, Bool.not_eq_true', Array.all_eq_true_iff_forall_mem, Bool.or_eq_true]
  refine ⟨?_, fun e he => ?_⟩
  ·
   rw [Array.getD_eq_getD_getElem?, Array.getElem?_eq_getElem (by omega)] at h3 ⊢
   exact h3
  ·
   cases hb : Region.binds md e with
   | false => exact .inl rfl
   | true => exact .inr (h4 e he hb)
theorem all_listed {listed : Array Bool} (hs : listed.size = ops.size) (hdeps : ∀ i oi, ops[i]? = some oi → ∀ e ∈ oi.after, Region.binds md e = true → e.on < i) (hr : Region.ready md ops listed = []) : ∀ i, i < ops.size → lis listed i = true := by
 intro i
 induction i using Nat.strongRecOn with
 | _ i ih =>
  intro hi
  cases hl : lis listed i with
  | true => rfl
  | false =>
   exfalso
   have ho := Array.getElem?_eq_getElem hi
   have : i ∈ Region.ready md ops listed := (ready_mem hs).2 ⟨_, ho, hl, fun e he hb => ih e.on (hdeps i _ ho e he hb) (by have := hdeps i _ ho e he hb; omega)⟩
   rw [hr] at this
   cases this
theorem wpAny_inv (I : (Nat → Bool) → Act → World → Prop)
    (hstep : ∀ (f : Nat → Bool) (a : Act) (w : World) (i : Nat) (oi : Oper), I f a w → ops[i]? = some oi → f i = false → (∀ e ∈ oi.after, Region.binds md e = true → f e.on = true) → StepI P ops Q oi a w (I fun j => if j = i then true else f j))
    (hend : ∀ (f : Nat → Bool) (a : Act) (w : World), I f a w → (∀ j, j < ops.size → f j = true) → Q .normal a w)
    (hdeps : ∀ i oi, ops[i]? = some oi → ∀ e ∈ oi.after, Region.binds md e = true → e.on < i) :
    ∀ (fuel : Nat) (listed : Array Bool) (a : Act) (w : World), listed.size = ops.size → I (lis listed) a w → listed.toList.countP (! ·) ≤ fuel → wpAny P md ops Q fuel listed a w
 | 0, listed, a, w, hs, hI, hc => by
  have hall : ∀ i, i < ops.size → lis listed i = true := fun i hi => by
   cases hl : lis listed i with
   | true => rfl
   | false =>
    exfalso
    have h0 : listed.toList.countP (! ·) = 0 := by omega
    rw [List.countP_eq_zero] at h0
    have hm : listed[i]'(by omega) ∈ listed.toList := by simp
    have := h0 _ hm
    unfold lis at hl
    rw [Array.getD_eq_getD_getElem?, Array.getElem?_eq_getElem (by omega)] at hl
    simp only [Option.getD_some] at hl
    rw [hl] at this
    simp at this
  refine ⟨?_, hend _ a w hI hall⟩
  rw [List.eq_nil_iff_forall_not_mem]
  intro i hi
  obtain ⟨oi, ho, hl, _⟩ := (ready_mem hs).1 hi
  have h1 : i < ops.size := by
   rcases Nat.lt_or_ge i ops.size with h | h
   ·
    exact h
   ·
    rw [Array.getElem?_eq_none h] at ho; cases ho
  rw [hall i h1] at hl
  cases hl
 | fuel + 1, listed, a, w, hs, hI, hc => by
  refine ⟨fun hr => hend _ a w hI (all_listed hs hdeps hr), fun i hi => ?_⟩
  obtain ⟨oi, ho, hl, hd⟩ := (ready_mem hs).1 hi
  have h1 : i < ops.size := by
   rcases Nat.lt_or_ge i ops.size with h | h
   ·
    exact h
   ·
    rw [Array.getElem?_eq_none h] at ho; cases ho
  refine wpOp_step ho fun K' hK => hstep _ a w i oi hI ho hl hd K' ?_
  refine fun a' w' h' => hK a' w' (wpAny_inv I hstep hend hdeps fuel _ a' w' (by simp [hs]) (by rw [lis_set (by omega)]; exact h') ?_)
  have h2 : listed.toList[i]? = some false := by
   unfold lis at hl
   rw [Array.getD_eq_getD_getElem?, Array.getElem?_eq_getElem (by omega)] at hl
   simp only [Option.getD_some] at hl
   simp [Array.getElem?_eq_getElem (show i < listed.size by omega), hl]
  have h3 := count_set h2
  rw [Array.toList_setIfInBounds]
  omega
theorem wp_region_inv {id : Nat} {a : Act} {w : World} (hm : P.follows .mixedOrders = true) (I : (Nat → Bool) → Act → World → Prop) (h0 : I (fun _ => false) a w.drew)
    (hstep : ∀ (f : Nat → Bool) (a : Act) (w : World) (i : Nat) (oi : Oper), I f a w → ops[i]? = some oi → f i = false → (∀ e ∈ oi.after, Region.binds .any e = true → f e.on = true) → StepI P ops Q oi a w (I fun j => if j = i then true else f j))
    (hend : ∀ (f : Nat → Bool) (a : Act) (w : World), I f a w → (∀ j, j < ops.size → f j = true) → Q .normal a w)
    (hdeps : ∀ i oi, ops[i]? = some oi → ∀ e ∈ oi.after, Region.binds .any e = true → e.on < i) : (Code.region id ops true).wp P Q a w := by
 refine wp_region_any hm (wpAny_inv I hstep hend hdeps _ _ a _ (by simp) ?_ ?_)
 ·
  have : lis (Array.replicate ops.size false) = fun _ => false := by
   funext j
   unfold lis
   rw [Array.getD_eq_getD_getElem?, Array.getElem?_replicate]
   split <;> rfl
  rw [this]
  exact h0
 ·
  refine Nat.le_trans List.countP_le_length ?_
  simp
theorem deps_of (h : ((List.range ops.size).all fun i => ((ops[i]?).map fun oi => oi.after.all fun e => !Region.binds md e || decide (e.on < i)).getD true) = true) : ∀ i oi, ops[i]? = some oi → ∀ e ∈ oi.after, Region.binds md e = true → e.on < i := by
 intro i oi ho e he hb
 have h1 : i < ops.size := by
  rcases Nat.lt_or_ge i ops.size with h | h
  ·
   exact h
  ·
   rw [Array.getElem?_eq_none h] at ho; cases ho
 have h2 := List.all_eq_true.1 h i (List.mem_range.2 h1)
 rw [ho] at h2
 simp only [Option.map_some, Option.getD_some, Array.all_eq_true_iff_forall_mem] at h2
 have h3 := h2 e he
 rw [hb] at h3
 simpa using h3
theorem StepI.run {oi : Oper} {a : Act} {w w2 : World} {K : Act → World → Prop} {v : Value} (hg : oi.guard = none) (hrun : (execOp a.eval oi).run P w = .ok (.value v) w2) (hK : K (a.put oi.dst v) w2) : StepI P ops Q oi a w K := by
 intro K' hK'
 rw [if_pos (by simp [Region.wanted, hg])]
 unfold Oper.wp
 rw [hrun]
 exact hK'.out _ _ hK
theorem StepI.call {oi : Oper} {a : Act} {w w2 : World} {K : Act → World → Prop} {F : FuncId} {args : Array Value} {R : Ending → World → Prop} (hg : oi.guard = none) (hrun : (execOp a.eval oi).run P w = .ok (.enter F args) w2) (hc : Calls P F args w2 R) (hK : ∀ e w', R e w' → ∃ v, e = .returned v ∧ K (a.put oi.dst v) w') : StepI P ops Q oi a w K := by
 intro K' hK'
 rw [if_pos (by simp [Region.wanted, hg])]
 unfold Oper.wp
 rw [hrun]
 refine Calls.mono hc fun e w' he => ?_
 obtain ⟨v, rfl, h⟩ := hK e w' he
 exact hK'.out _ _ h
end
structure Slots (b : Act) (D : List Nat) (a : Act) : Prop where
 defers : a.defers = b.defers
 size : a.tmps.size = b.tmps.size
 old : ∀ j, j ∉ D → a.tmps.getD j undef = b.tmps.getD j undef
theorem getD_put (a : Act) (d : Nat) (v : Value) (hd : d < a.tmps.size) (j : Nat) : (a.put (some d) v).tmps.getD j undef = if j = d then v else a.tmps.getD j undef := by
 show (a.tmps.setIfInBounds d v).getD j undef = _
 by_cases h : j = d
 ·
  subst h
  simp [hd]
 ·
  rw [if_neg h]
  simp [Ne.symm h]
theorem Slots.refl (b : Act) (D : List Nat) : Slots b D b := ⟨rfl, rfl, fun _ _ => rfl⟩
theorem Slots.put {b : Act} {D : List Nat} {a : Act} (h : Slots b D a) {d : Nat} (hd : d ∈ D) (hs : d < b.tmps.size) (v : Value) : Slots b D (a.put (some d) v) :=
 ⟨h.defers, by show (a.tmps.setIfInBounds d v).size = _; rw [Array.size_setIfInBounds]; exact h.size, fun j hj => by
  rw [getD_put a d v (by rw [h.size]; exact hs), if_neg (show ¬ j = d by rintro rfl; exact hj hd)]
  exact h.old j hj⟩
theorem fold_size (g : Nat → Value) : ∀ (D : List Nat) (b : Act), (D.foldl (fun x d => x.put (some d) (g d)) b).tmps.size = b.tmps.size ∧ (D.foldl (fun x d => x.put (some d) (g d)) b).defers = b.defers
 | [], _ => ⟨rfl, rfl⟩
 | d :: D, b => by
  obtain ⟨h1, h2⟩ := fold_size g D (b.put (some d) (g d))
  refine ⟨h1.trans ?_, h2⟩
  show (b.tmps.setIfInBounds d (g d)).size = _
  rw [Array.size_setIfInBounds]
theorem fold_get (g : Nat → Value) : ∀ (D : List Nat) (b : Act), (∀ d ∈ D, d < b.tmps.size) → ∀ j, (D.foldl (fun x d => x.put (some d) (g d)) b).tmps.getD j undef = if j ∈ D then g j else b.tmps.getD j undef
 | [], _, _, j => by simp
 | d :: D, b, hD, j => by
  have hs : (b.put (some d) (g d)).tmps.size = b.tmps.size := by
   show (b.tmps.setIfInBounds d (g d)).size = _
   rw [Array.size_setIfInBounds]
  rw [List.foldl_cons, fold_get g D _ (fun x hx => by rw [hs]; exact hD x (List.mem_cons_of_mem _ hx)), getD_put b d (g d) (hD d List.mem_cons_self)]
  by_cases h1 : j ∈ D
  ·
   rw [if_pos h1, if_pos (List.mem_cons_of_mem _ h1)]
  ·
   rw [if_neg h1]
   by_cases h2 : j = d
   ·
    subst h2
    rw [if_pos rfl, if_pos List.mem_cons_self]
   ·
    rw [if_neg h2, if_neg (by simp [h1, h2])]
theorem Slots.eq {b : Act} {D : List Nat} {a : Act} (h : Slots b D a) (hD : ∀ d ∈ D, d < b.tmps.size) : a = D.foldl (fun x d => x.put (some d) (a.tmps.getD d undef)) b := by
 obtain ⟨h1, h2⟩ := fold_size (fun d => a.tmps.getD d undef) D b
 have h3 := fold_get (fun d => a.tmps.getD d undef) D b hD
 generalize D.foldl (fun x d => x.put (some d) (a.tmps.getD d undef)) b = c at h1 h2 h3
 have e1 : a.tmps = c.tmps := by
  refine Array.ext (by rw [h1, h.size]) fun j hj hj2 => ?_
  have h4 := h3 j
  rw [Array.getD_eq_getD_getElem?, Array.getElem?_eq_getElem hj2] at h4
  have h5 : a.tmps.getD j undef = a.tmps[j] := by rw [Array.getD_eq_getD_getElem?, Array.getElem?_eq_getElem hj]; rfl
  by_cases hd : j ∈ D
  ·
   rw [if_pos hd, h5] at h4
   exact h4.symm
  ·
   rw [if_neg hd, ← h.old j hd, h5] at h4
   exact h4.symm
 have e2 : a.defers = c.defers := h.defers.trans h2.symm
 cases a
 cases c
 simp only at e1 e2
 rw [e1, e2]
end Go.Proofs.YtabnlbalekmmmaaDoor
