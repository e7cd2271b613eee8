/- Late -/
import Derived.Deep.RegionHeld
import Derived.OrdersHeld
import Derived.Test.YtimklgbljjamkaaDoorCs01
namespace Go.Proofs.YtimklgbljjamkaaDoor
def Pend (late : List Nat) (listed : Array Bool) : Prop := ∀ k ∈ late, listed.getD k true = false
def wpAnyL (P : Program) (md : Region.Mode) (ops : Array Oper) (Q : Exit → Act → World → Prop) (late : List Nat) (S1 S : World → Prop) : Nat → Array Bool → Act → World → Prop
 | 0, listed, a, w => Region.ready md ops listed = [] ∧ Q .normal a w
 | fuel + 1, listed, a, w =>
  (Region.ready md ops listed = [] → Q .normal a w) ∧
  ∀ i ∈ Region.ready md ops listed, wpOp P ops Q i (fun a' w' => S1 w' ∧ (Pend late (listed.setIfInBounds i true) → S w') ∧ wpAnyL P md ops Q late S1 S fuel (listed.setIfInBounds i true) a' w') a w
section
variable {P : Program} {ops : Array Oper} {Q : Exit → Act → World → Prop} {md : Region.Mode} {S1 S : World → Prop} {late : List Nat}
theorem wpAny_of_late : ∀ (fuel : Nat) (listed : Array Bool) (a : Act) (w : World), wpAnyL P md ops Q late S1 S fuel listed a w → wpAny P md ops Q fuel listed a w
 | 0, _, _, _, h => h
 | fuel + 1, _, _, _, h => ⟨h.1, fun i hi => wpOp_mono (fun a' w' h' => wpAny_of_late fuel _ a' w' h'.2.2) (h.2 i hi)⟩
theorem pend_set {listed : Array Bool} {j : Nat} (h : Pend late listed) (hj : j ∉ late) : Pend late (listed.setIfInBounds j true) := fun k hk => by
 have hne : j ≠ k := fun e => hj (e ▸ hk)
 rw [getD_set_ne true hne]
 exact h k hk
theorem wpAnyL_first {i : Nat} {oi : Oper} {v : Value} (hi : ops[i]? = some oi) (hsel : ∀ (j : Nat) (o : Oper) cs b, ops[j]? = some o → o.op ≠ .select cs b)
    (hQ : ∀ c a w, Q (.panic c) (a.put oi.dst v) w → Q (.panic c) a w) (hil : i ∉ late) (hwait : ∀ k ∈ late, ∀ ok, ops[k]? = some ok → ∃ e ∈ ok.after, Region.binds md e = true ∧ e.on = i) :
    ∀ (fuel : Nat) (listed : Array Bool) (a : Act) (w : World),
     (∀ j oj, ops[j]? = some oj → j ≠ i → listed.getD j true = false → (∀ e ∈ oj.after, Region.binds md e = true → e.on ≠ i) → oi.apart ops oj = true) →
     i ∈ Region.ready md ops listed → YieldsIf P ops (fun w => S1 w ∧ S w) oi v a → Pend late listed → S1 w → S w →
     wpAnyL P md ops Q late S1 S fuel (listed.setIfInBounds i true) (a.put oi.dst v) w → wpAnyL P md ops Q late S1 S (fuel + 1) listed a w := by
 intro fuel
 induction fuel with
 | zero =>
  intro listed a w _ hr hy hp hS1 hS H
  refine ⟨fun h => (by rw [h] at hr; cases hr), fun j hj => ?_⟩
  by_cases hji : j = i
  ·
   subst hji; exact hy.wpOp hi ⟨hS1, hS⟩ ⟨hS1, fun _ => hS, H⟩
  ·
   have := ready_mono hj hji
   rw [H.1] at this
   cases this
 | succ fuel ih =>
  intro listed a w hfree hr hy hp hS1 hS H
  refine ⟨fun h => (by rw [h] at hr; cases hr), fun j hj => ?_⟩
  by_cases hji : j = i
  ·
   subst hji; exact hy.wpOp hi ⟨hS1, hS⟩ ⟨hS1, fun _ => hS, H⟩
  ·
   have h1 := H.2 j (ready_mono hj hji)
   obtain ⟨hjun, oj, hoj, hall⟩ := mem_ready.1 hj
   have hnot : ∀ e ∈ oj.after, Region.binds md e = true → e.on ≠ i := fun e he hb heq => by
    have h1 := hall e he hb
    have h0 := (mem_ready.1 hr).1
    rw [heq] at h1
    rcases Nat.lt_or_ge i listed.size with h' | h'
    ·
     simp [h'] at h0 h1; rw [h0] at h1; cases h1
    ·
     simp [Array.getElem?_eq_none h'] at h1
   have hjl : j ∉ late := fun hm => by
    obtain ⟨e, he, hb, ho⟩ := hwait j hm oj hoj
    exact hnot e he hb ho
   have hp' := pend_set hp hjl
   have h2 := wpOp_putIf hoj (hfree j oj hoj hji hjun hnot) (fun cs b => hsel i oi cs b hi) (fun cs b => hsel j oj cs b hoj) hQ hy h1
   have hfree' : ∀ k ok, ops[k]? = some ok → k ≠ i → (listed.setIfInBounds j true).getD k true = false →
       (∀ e ∈ ok.after, Region.binds md e = true → e.on ≠ i) → oi.apart ops ok = true := fun k ok hk hki hun hno => by
    refine hfree k ok hk hki ?_ hno
    by_cases hjk : j = k
    ·
     subst hjk; exact hjun
    ·
     rw [getD_set_ne true hjk] at hun; exact hun
   have hp2 : Pend late ((listed.setIfInBounds i true).setIfInBounds j true) := pend_set (pend_set hp hil) hjl
   refine wpOp_mono (fun a' w' h3 => ⟨h3.2.1, fun _ => h3.2.2.1 hp2, ih (listed.setIfInBounds j true) a' w' hfree' (ready_mono hr (Ne.symm hji)) h3.1 hp' h3.2.1 (h3.2.2.1 hp2) ?_⟩) h2
   rw [Array.setIfInBounds_comm _ _ hji]
   exact h3.2.2.2
def pendB (late : List Nat) (listed : Array Bool) : Bool := late.all fun k => !listed.getD k true
theorem pendB_spec {listed : Array Bool} (h : pendB late listed = true) : Pend late listed := fun k hk => by
 have := List.all_eq_true.1 h k hk
 simpa using this
def lateB (md : Region.Mode) (ops : Array Oper) (late : List Nat) (i : Nat) : Bool := late.all fun k => k != i && match ops[k]? with
 | some o => o.after.any fun e => Region.binds md e && e.on == i
 | none => true
theorem lateB_spec {i : Nat} (h : lateB md ops late i = true) : i ∉ late ∧ ∀ k ∈ late, ∀ ok, ops[k]? = some ok → ∃ e ∈ ok.after, Region.binds md e = true ∧ e.on = i := by
 refine ⟨fun hm => ?_, fun k hk ok ho => ?_⟩
 ·
  have := List.all_eq_true.1 h i hm
  simp at this
 ·
  have := List.all_eq_true.1 h k hk
  rw [ho] at this
  simp only [Bool.and_eq_true, Array.any_eq_true, beq_iff_eq] at this
  obtain ⟨_, n, hn, h1, h2⟩ := this
  exact ⟨ok.after[n], Array.getElem_mem hn, h1, h2⟩
theorem wpAnyL_take {i : Nat} {oi : Oper} {v : Value} {fuel : Nat} {listed : Array Bool} {a : Act} {w : World} (hi : ops[i]? = some oi)
    (hs : (Region.noSelect ops && Region.free md ops listed i && (Region.ready md ops listed).contains i && pendB late listed && lateB md ops late i) = true)
    (hQ : ∀ c a w, Q (.panic c) (a.put oi.dst v) w → Q (.panic c) a w) (hy : YieldsIf P ops (fun w => S1 w ∧ S w) oi v a) (hS1 : S1 w) (hS : Pend late listed → S w)
    (h : wpAnyL P md ops Q late S1 S fuel (listed.setIfInBounds i true) (a.put oi.dst v) w) : wpAnyL P md ops Q late S1 S (fuel + 1) listed a w := by
 simp only [Bool.and_eq_true] at hs
 obtain ⟨⟨⟨⟨h1, h2⟩, h3⟩, h4⟩, h5⟩ := hs
 obtain ⟨h6, h7⟩ := lateB_spec h5
 exact wpAnyL_first hi (Region.noSelect_spec h1) hQ h6 h7 fuel listed a w (Region.free_spec hi h2) (by simpa using h3) hy (pendB_spec h4) hS1 (hS (pendB_spec h4)) h
theorem wpAnyL_pure_first {i : Nat} {oi : Oper} {v : Value} (hi : ops[i]? = some oi) (hsel : ∀ (j : Nat) (o : Oper) cs b, ops[j]? = some o → o.op ≠ .select cs b)
    (hQ : ∀ c a w, Q (.panic c) (a.put oi.dst v) w → Q (.panic c) a w) (hil : i ∉ late) :
    ∀ (fuel : Nat) (listed : Array Bool) (a : Act) (w : World),
     (∀ j oj, ops[j]? = some oj → j ≠ i → listed.getD j true = false → (∀ e ∈ oj.after, Region.binds md e = true → e.on ≠ i) → oi.apart ops oj = true) →
     i ∈ Region.ready md ops listed → YieldsIf P ops S1 oi v a → S1 w → (Pend late listed → S w) →
     wpAnyL P md ops Q late S1 S fuel (listed.setIfInBounds i true) (a.put oi.dst v) w → wpAnyL P md ops Q late S1 S (fuel + 1) listed a w := by
 have hpi : ∀ {listed : Array Bool}, Pend late listed → Pend late (listed.setIfInBounds i true) := fun h => pend_set h hil
 intro fuel
 induction fuel with
 | zero =>
  intro listed a w _ hr hy hS1 hS H
  refine ⟨fun h => (by rw [h] at hr; cases hr), fun j hj => ?_⟩
  by_cases hji : j = i
  ·
   subst hji
   refine hy.wpOp hi hS1 ⟨hS1, fun hp => hS fun k hk => ?_, H⟩
   have := hp k hk
   rwa [getD_set_ne true (fun e => hil (by rw [e]; exact hk))] at this
  ·
   have := ready_mono hj hji
   rw [H.1] at this
   cases this
 | succ fuel ih =>
  intro listed a w hfree hr hy hS1 hS H
  refine ⟨fun h => (by rw [h] at hr; cases hr), fun j hj => ?_⟩
  by_cases hji : j = i
  ·
   subst hji
   refine hy.wpOp hi hS1 ⟨hS1, fun hp => hS fun k hk => ?_, H⟩
   have := hp k hk
   rwa [getD_set_ne true (fun e => hil (by rw [e]; exact hk))] at this
  ·
   have h1 := H.2 j (ready_mono hj hji)
   obtain ⟨hjun, oj, hoj, hall⟩ := mem_ready.1 hj
   have hnot : ∀ e ∈ oj.after, Region.binds md e = true → e.on ≠ i := fun e he hb heq => by
    have h1 := hall e he hb
    have h0 := (mem_ready.1 hr).1
    rw [heq] at h1
    rcases Nat.lt_or_ge i listed.size with h' | h'
    ·
     simp [h'] at h0 h1; rw [h0] at h1; cases h1
    ·
     simp [Array.getElem?_eq_none h'] at h1
   have h2 := wpOp_putIf hoj (hfree j oj hoj hji hjun hnot) (fun cs b => hsel i oi cs b hi) (fun cs b => hsel j oj cs b hoj) hQ hy h1
   have hfree' : ∀ k ok, ops[k]? = some ok → k ≠ i → (listed.setIfInBounds j true).getD k true = false →
       (∀ e ∈ ok.after, Region.binds md e = true → e.on ≠ i) → oi.apart ops ok = true := fun k ok hk hki hun hno => by
    refine hfree k ok hk hki ?_ hno
    by_cases hjk : j = k
    ·
     subst hjk; exact hjun
    ·
     rw [getD_set_ne true hjk] at hun; exact hun
   have hcomm : (listed.setIfInBounds i true).setIfInBounds j true = (listed.setIfInBounds j true).setIfInBounds i true := by rw [Array.setIfInBounds_comm _ _ hji]
   refine wpOp_mono (fun a' w' h3 => ⟨h3.2.1, fun hp => h3.2.2.1 (by rw [hcomm]; exact hpi hp), ih (listed.setIfInBounds j true) a' w' hfree' (ready_mono hr (Ne.symm hji)) h3.1 h3.2.1 (fun hp => h3.2.2.1 (by rw [hcomm]; exact hpi hp)) ?_⟩) h2
   rw [← hcomm]
   exact h3.2.2.2
theorem wpAnyL_pure {i : Nat} {oi : Oper} {v : Value} {fuel : Nat} {listed : Array Bool} {a : Act} {w : World} (hi : ops[i]? = some oi)
    (hs : (Region.noSelect ops && Region.free md ops listed i && (Region.ready md ops listed).contains i && !late.contains i) = true)
    (hQ : ∀ c a w, Q (.panic c) (a.put oi.dst v) w → Q (.panic c) a w) (hy : YieldsIf P ops S1 oi v a) (hS1 : S1 w) (hS : Pend late listed → S w)
    (h : wpAnyL P md ops Q late S1 S fuel (listed.setIfInBounds i true) (a.put oi.dst v) w) : wpAnyL P md ops Q late S1 S (fuel + 1) listed a w := by
 simp only [Bool.and_eq_true] at hs
 obtain ⟨⟨⟨h1, h2⟩, h3⟩, h4⟩ := hs
 exact wpAnyL_pure_first hi (Region.noSelect_spec h1) hQ (by simpa using h4) fuel listed a w (Region.free_spec hi h2) (by simpa using h3) hy hS1 hS h
def AllL (P : Program) (md : Region.Mode) (ops : Array Oper) (Q : Exit → Act → World → Prop) (late : List Nat) (S1 S : World → Prop) (fuel : Nat) (listed : Array Bool) (a : Act) (w : World) (rs : List Nat) : Prop :=
 ∀ i ∈ rs, wpOp P ops Q i (fun a' w' => S1 w' ∧ (Pend late (listed.setIfInBounds i true) → S w') ∧ wpAnyL P md ops Q late S1 S fuel (listed.setIfInBounds i true) a' w') a w
theorem AllL.nil {fuel : Nat} {listed : Array Bool} {a : Act} {w : World} : AllL P md ops Q late S1 S fuel listed a w [] := fun _ h => by cases h
theorem AllL.cons {fuel : Nat} {listed : Array Bool} {a : Act} {w : World} {i : Nat} {o : Oper} {rs : List Nat} (ho : ops[i]? = some o)
    (h : ∀ K' : Act → World → Prop, Shut (∀ a w, S1 w → (Pend late (listed.setIfInBounds i true) → S w) → wpAnyL P md ops Q late S1 S fuel (listed.setIfInBounds i true) a w → K' a w) → if Region.wanted o (yielded ops a.tmps) = true then Oper.wp P o a w K' Q else K' (a.put o.dst undef) w)
    (hs : AllL P md ops Q late S1 S fuel listed a w rs) : AllL P md ops Q late S1 S fuel listed a w (i :: rs) := fun j hj => by
 rcases List.mem_cons.1 hj with rfl | hj
 ·
  exact wpOp_step ho (fun K' hK => h K' (fun a w h1 h2 h3 => hK a w ⟨h1, h2, h3⟩))
 ·
  exact hs j hj
theorem wpAnyL_ready {rs : List Nat} {fuel : Nat} {listed : Array Bool} {a : Act} {w : World} (hr : Region.ready md ops listed = rs) (hne : rs ≠ [])
    (h : AllL P md ops Q late S1 S fuel listed a w rs) : wpAnyL P md ops Q late S1 S (fuel + 1) listed a w := ⟨fun h0 => absurd (hr ▸ h0) hne, hr ▸ h⟩
theorem wpAnyL_done {listed : Array Bool} {a : Act} {w : World} (hr : Region.ready md ops listed = []) (h : Q .normal a w) :
    ∀ fuel, wpAnyL P md ops Q late S1 S fuel listed a w
 | 0 => ⟨hr, h⟩
 | _ + 1 => ⟨fun _ => h, by rw [hr]; simp⟩
theorem wp_region_late {id : Nat} {a : Act} {w : World} (hm : P.follows .mixedOrders = true) (h : wpAnyL P .any ops Q late S1 S ops.size (Array.replicate ops.size false) a w.drew) : (Code.region id ops true).wp P Q a w :=
 wp_region_any hm (wpAny_of_late _ _ _ _ h)
end
open Go.RowKit
theorem setOther {w : World} {q : Addr} {v : Value} (u : Value) {p : Addr} (h : w.cell? q = some v) (hq : q.block ≠ p.block) : (w.setCell p u).cell? q = some v := by
 rw [World.cell?_setCell_other w p q u (fun e => hq (by rw [e]))]; exact h
end Go.Proofs.YtimklgbljjamkaaDoor
