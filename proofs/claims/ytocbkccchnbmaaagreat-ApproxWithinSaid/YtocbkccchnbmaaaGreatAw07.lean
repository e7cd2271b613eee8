/- Late GramCmp -/
import Derived.Deep.RegionHeld
import Derived.OrdersHeld
import Derived.Shelf.Abstract
import Derived.Test.YtocbkccchnbmaaaGreatAw01
import Derived.Test.YtocbkccchnbmaaaGreatAw04
namespace Go.Proofs.YtocbkccchnbmaaaGreat
def Pend (late : List Nat) (listed : Array Bool) : Prop := ∀ k ∈ late, listed.getD k true = false
def wpAnyL (P : Program) (md : Region.Mode) (ops : Array Oper) (Q : Exit → Act → World → Prop) (late : List Nat) (S1 S : World → Prop) : Nat → Array Bool → Act → World → Prop
 | 0, listed, a, w => Region.ready md ops listed = [] ∧ Q .normal a w
 | fuel + 1, listed, a, w =>
  (Region.ready md ops listed = [] → Q .normal a w) ∧
  ∀ i ∈ Region.ready md ops listed, wpOp P ops Q i (fun a' w' => S1 w' ∧ (Pend late (listed.setIfInBounds i true) → S w') ∧ wpAnyL P md ops Q late S1 S fuel (listed.setIfInBounds i true) a' w') a w
section
variable {P : Program} {ops : Array Oper} {Q : Exit → Act → World → Prop} {md : Region.Mode} {S1 S : World → Prop} {late : List Nat}
theorem wpAny_of_late : ∀ (fuel : Nat) (listed : Array Bool) (a : Act) (w : World), wpAnyL P md ops Q late S1 S fuel listed a w → wpAny P md ops Q fuel listed a w
 | 0, _, _, _, h => h
 | fuel + 1, _, _, _, h => ⟨h.1, fun i hi => wpOp_mono (fun a' w' h' => wpAny_of_late fuel _ a' w' h'.2.2) (h.2 i hi)⟩
theorem pend_set {listed : Array Bool} {j : Nat} (h : Pend late listed) (hj : j ∉ late) : Pend late (listed.setIfInBounds j true) := fun k hk => by
 have hne : j ≠ k := fun e => hj (e ▸ hk)
 rw [getD_set_ne true hne]
 exact h k hk
theorem wpAnyL_first {i : Nat} {oi : Oper} {v : Value} (hi : ops[i]? = some oi) (hsel : ∀ (j : Nat) (o : Oper) cs b, ops[j]? = some o → o.op ≠ .select cs b)
    (hQ : ∀ c a w, Q (.panic c) (a.put oi.dst v) w → Q (.panic c) a w) (hil : i ∉ late) (hwait : ∀ k ∈ late, ∀ ok, ops[k]? = some ok → ∃ e ∈ ok.after, Region.binds md e = true ∧ e.on = i) :
    ∀ (fuel : Nat) (listed : Array Bool) (a : Act) (w : World),
     (∀ j oj, ops[j]? = some oj → j ≠ i → listed.getD j true = false → (∀ e ∈ oj.after, Region.binds md e = true → e.on ≠ i) → oi.apart ops oj = true) →
     i ∈ Region.ready md ops listed → YieldsIf P ops (fun w => S1 w ∧ S w) oi v a → Pend late listed → S1 w → S w →
     wpAnyL P md ops Q late S1 S fuel (listed.setIfInBounds i true) (a.put oi.dst v) w → wpAnyL P md ops Q late S1 S (fuel + 1) listed a w := by
 intro fuel
 induction fuel with
 | zero =>
  intro listed a w _ hr hy hp hS1 hS H
  refine ⟨fun h => (by rw [h] at hr; cases hr), fun j hj => ?_⟩
  by_cases hji : j = i
  ·
   subst hji; exact hy.wpOp hi ⟨hS1, hS⟩ ⟨hS1, fun _ => hS, H⟩
  ·
   have := ready_mono hj hji
   rw [H.1] at this
   cases this
 | succ fuel ih =>
  intro listed a w hfree hr hy hp hS1 hS H
  refine ⟨fun h => (by rw [h] at hr; cases hr), fun j hj => ?_⟩
  by_cases hji : j = i
  ·
   subst hji; exact hy.wpOp hi ⟨hS1, hS⟩ ⟨hS1, fun _ => hS, H⟩
  ·
   have h1 := H.2 j (ready_mono hj hji)
   obtain ⟨hjun, oj, hoj, hall⟩ := mem_ready.1 hj
   have hnot : ∀ e ∈ oj.after, Region.binds md e = true → e.on ≠ i := fun e he hb heq => by
    have h1 := hall e he hb
    have h0 := (mem_ready.1 hr).1
    rw [heq] at h1
    rcases Nat.lt_or_ge i listed.size with h' | h'
    ·
     simp [h'] at h0 h1; rw [h0] at h1; cases h1
    ·
     simp [Array.getElem?_eq_none h'] at h1
   have hjl : j ∉ late := fun hm => by
    obtain ⟨e, he, hb, ho⟩ := hwait j hm oj hoj
    exact hnot e he hb ho
   have hp' := pend_set hp hjl
   have h2 := wpOp_putIf hoj (hfree j oj hoj hji hjun hnot) (fun cs b => hsel i oi cs b hi) (fun cs b => hsel j oj cs b hoj) hQ hy h1
   have hfree' : ∀ k ok, ops[k]? = some ok → k ≠ i → (listed.setIfInBounds j true).getD k true = false →
       (∀ e ∈ ok.after, Region.binds md e = true → e.on ≠ i) → oi.apart ops ok = true := fun k ok hk hki hun hno => by
    refine hfree k ok hk hki ?_ hno
    by_cases hjk : j = k
    ·
     subst hjk; exact hjun
    ·
     rw [getD_set_ne true hjk] at hun; exact hun
   have hp2 : Pend late ((listed.setIfInBounds i true).setIfInBounds j true) := pend_set (pend_set hp hil) hjl
   refine wpOp_mono (fun a' w' h3 => ⟨h3.2.1, fun _ => h3.2.2.1 hp2, ih (listed.setIfInBounds j true) a' w' hfree' (ready_mono hr (Ne.symm hji)) h3.1 hp' h3.2.1 (h3.2.2.1 hp2) ?_⟩) h2
   rw [Array.setIfInBounds_comm _ _ hji]
   exact h3.2.2.2
def pendB (late : List Nat) (listed : Array Bool) : Bool := late.all fun k => !listed.getD k true
theorem pendB_spec {listed : Array Bool} (h : pendB late listed = true) : Pend late listed := fun k hk => by
 have := List.all_eq_true.1 h k hk
 simpa using this
def lateB (md : Region.Mode) (ops : Array Oper) (late : List Nat) (i : Nat) : Bool := late.all fun k => k != i && match ops[k]? with
 | some o => o.after.any fun e => Region.binds md e && e.on == i
 | none => true
theorem lateB_spec {i : Nat} (h : lateB md ops late i = true) : i ∉ late ∧ ∀ k ∈ late, ∀ ok, ops[k]? = some ok → ∃ e ∈ ok.after, Region.binds md e = true ∧ e.on = i := by
 refine ⟨fun hm => ?_, fun k hk ok ho => ?_⟩
 ·
  have := List.all_eq_true.1 h i hm
  simp at this
 ·
  have := List.all_eq_true.1 h k hk
  rw [ho] at this
  simp only [Bool.and_eq_true, Array.any_eq_true, beq_iff_eq] at this
  obtain ⟨_, n, hn, h1, h2⟩ := this
  exact ⟨ok.after[n], Array.getElem_mem hn, h1, h2⟩
theorem wpAnyL_take {i : Nat} {oi : Oper} {v : Value} {fuel : Nat} {listed : Array Bool} {a : Act} {w : World} (hi : ops[i]? = some oi)
    (hs : (Region.noSelect ops && Region.free md ops listed i && (Region.ready md ops listed).contains i && pendB late listed && lateB md ops late i) = true)
    (hQ : ∀ c a w, Q (.panic c) (a.put oi.dst v) w → Q (.panic c) a w) (hy : YieldsIf P ops (fun w => S1 w ∧ S w) oi v a) (hS1 : S1 w) (hS : Pend late listed → S w)
    (h : wpAnyL P md ops Q late S1 S fuel (listed.setIfInBounds i true) (a.put oi.dst v) w) : wpAnyL P md ops Q late S1 S (fuel + 1) listed a w := by
 simp only [Bool.and_eq_true] at hs
 obtain ⟨⟨⟨⟨h1, h2⟩, h3⟩, h4⟩, h5⟩ := hs
 obtain ⟨h6, h7⟩ := lateB_spec h5
 exact wpAnyL_first hi (Region.noSelect_spec h1) hQ h6 h7 fuel listed a w (Region.free_spec hi h2) (by simpa using h3) hy (pendB_spec h4) hS1 (hS (pendB_spec h4)) h
theorem wpAnyL_pure_first {i : Nat} {oi : Oper} {v : Value} (hi : ops[i]? = some oi) (hsel : ∀ (j : Nat) (o : Oper) cs b, ops[j]? = some o → o.op ≠ .select cs b)
    (hQ : ∀ c a w, Q (.panic c) (a.put oi.dst v) w → Q (.panic c) a w) (hil : i ∉ late) :
    ∀ (fuel : Nat) (listed : Array Bool) (a : Act) (w : World),
     (∀ j oj, ops[j]? = some oj → j ≠ i → listed.getD j true = false → (∀ e ∈ oj.after, Region.binds md e = true → e.on ≠ i) → oi.apart ops oj = true) →
     i ∈ Region.ready md ops listed → YieldsIf P ops S1 oi v a → S1 w → (Pend late listed → S w) →
     wpAnyL P md ops Q late S1 S fuel (listed.setIfInBounds i true) (a.put oi.dst v) w → wpAnyL P md ops Q late S1 S (fuel + 1) listed a w := by
 have hpi : ∀ {listed : Array Bool}, Pend late listed → Pend late (listed.setIfInBounds i true) := fun h => pend_set h hil
 intro fuel
 induction fuel with
 | zero =>
  intro listed a w _ hr hy hS1 hS H
  refine ⟨fun h => (by rw [h] at hr; cases hr), fun j hj => ?_⟩
  by_cases hji : j = i
  ·
   subst hji
   refine hy.wpOp hi hS1 ⟨hS1, fun hp => hS fun k hk => ?_, H⟩
   have := hp k hk
   rwa [getD_set_ne true (fun e => hil (by rw [e]; exact hk))] at this
  ·
   have := ready_mono hj hji
   rw [H.1] at this
   cases this
 | succ fuel ih =>
  intro listed a w hfree hr hy hS1 hS H
  refine ⟨fun h => (by rw [h] at hr; cases hr), fun j hj => ?_⟩
  by_cases hji : j = i
  ·
   subst hji
   refine hy.wpOp hi hS1 ⟨hS1, fun hp => hS fun k hk => ?_, H⟩
   have := hp k hk
   rwa [getD_set_ne true (fun e => hil (by rw [e]; exact hk))] at this
  ·
   have h1 := H.2 j (ready_mono hj hji)
   obtain ⟨hjun, oj, hoj, hall⟩ := mem_ready.1 hj
   have hnot : ∀ e ∈ oj.after, Region.binds md e = true → e.on ≠ i := fun e he hb heq => by
    have h1 := hall e he hb
    have h0 := (mem_ready.1 hr).1
    rw [heq] at h1
    rcases Nat.lt_or_ge i listed.size with h' | h'
    ·
     simp [h'] at h0 h1; rw [h0] at h1; cases h1
    ·
     simp [Array.getElem?_eq_none h'] at h1
   have h2 := wpOp_putIf hoj (hfree j oj hoj hji hjun hnot) (fun cs b => hsel i oi cs b hi) (fun cs b => hsel j oj cs b hoj) hQ hy h1
   have hfree' : ∀ k ok, ops[k]? = some ok → k ≠ i → (listed.setIfInBounds j true).getD k true = false →
       (∀ e ∈ ok.after, Region.binds md e = true → e.on ≠ i) → oi.apart ops ok = true := fun k ok hk hki hun hno => by
    refine hfree k ok hk hki ?_ hno
    by_cases hjk : j = k
    ·
     subst hjk; exact hjun
    ·
     rw [getD_set_ne true hjk] at hun; exact hun
   have hcomm : (listed.setIfInBounds i true).setIfInBounds j true = (listed.setIfInBounds j true).setIfInBounds i true := by rw [Array.setIfInBounds_comm _ _ hji]
   refine wpOp_mono (fun a' w' h3 => ⟨h3.2.1, fun hp => h3.2.2.1 (by rw [hcomm]; exact hpi hp), ih (listed.setIfInBounds j true) a' w' hfree' (ready_mono hr (Ne.symm hji)) h3.1 h3.2.1 (fun hp => h3.2.2.1 (by rw [hcomm]; exact hpi hp)) ?_⟩) h2
   rw [← hcomm]
   exact h3.2.2.2
theorem wpAnyL_pure {i : Nat} {oi : Oper} {v : Value} {fuel : Nat} {listed : Array Bool} {a : Act} {w : World} (hi : ops[i]? = some oi)
    (hs : (Region.noSelect ops && Region.free md ops listed i && (Region.ready md ops listed).contains i && !late.contains i) = true)
    (hQ : ∀ c a w, Q (.panic c) (a.put oi.dst v) w → Q (.panic c) a w) (hy : YieldsIf P ops S1 oi v a) (hS1 : S1 w) (hS : Pend late listed → S w)
    (h : wpAnyL P md ops Q late S1 S fuel (listed.setIfInBounds i true) (a.put oi.dst v) w) : wpAnyL P md ops Q late S1 S (fuel + 1) listed a w := by
 simp only [Bool.and_eq_true] at hs
 obtain ⟨⟨⟨h1, h2⟩, h3⟩, h4⟩ := hs
 exact wpAnyL_pure_first hi (Region.noSelect_spec h1) hQ (by simpa using h4) fuel listed a w (Region.free_spec hi h2) (by simpa using h3) hy hS1 hS h
def AllL (P : Program) (md : Region.Mode) (ops : Array Oper) (Q : Exit → Act → World → Prop) (late : List Nat) (S1 S : World → Prop) (fuel : Nat) (listed : Array Bool) (a : Act) (w : World) (rs : List Nat) : Prop :=
 ∀ i ∈ rs, wpOp P ops Q i (fun a' w' => S1 w' ∧ (Pend late (listed.setIfInBounds i true) → S w') ∧ wpAnyL P md ops Q late S1 S fuel (listed.setIfInBounds i true) a' w') a w
theorem AllL.nil {fuel : Nat} {listed : Array Bool} {a : Act} {w : World} : AllL P md ops Q late S1 S fuel listed a w [] := fun _ h => by cases h
theorem AllL.cons {fuel : Nat} {listed : Array Bool} {a : Act} {w : World} {i : Nat} {o : Oper} {rs : List Nat} (ho : ops[i]? = some o)
    (h : ∀ K' : Act → World → Prop, Shut (∀ a w, S1 w → (Pend late (listed.setIfInBounds i true) → S w) → wpAnyL P md ops Q late S1 S fuel (listed.setIfInBounds i true) a w → K' a w) → if Region.wanted o (yielded ops a.tmps) = true then Oper.wp P o a w K' Q else K' (a.put o.dst undef) w)
    (hs : AllL P md ops Q late S1 S fuel listed a w rs) : AllL P md ops Q late S1 S fuel listed a w (i :: rs) := fun j hj => by
 rcases List.mem_cons.1 hj with rfl | hj
 ·
  exact wpOp_step ho (fun K' hK => h K' (fun a w h1 h2 h3 => hK a w ⟨h1, h2, h3⟩))
 ·
  exact hs j hj
theorem wpAnyL_ready {rs : List Nat} {fuel : Nat} {listed : Array Bool} {a : Act} {w : World} (hr : Region.ready md ops listed = rs) (hne : rs ≠ [])
    (h : AllL P md ops Q late S1 S fuel listed a w rs) : wpAnyL P md ops Q late S1 S (fuel + 1) listed a w := ⟨fun h0 => absurd (hr ▸ h0) hne, hr ▸ h⟩
theorem wpAnyL_done {listed : Array Bool} {a : Act} {w : World} (hr : Region.ready md ops listed = []) (h : Q .normal a w) :
    ∀ fuel, wpAnyL P md ops Q late S1 S fuel listed a w
 | 0 => ⟨hr, h⟩
 | _ + 1 => ⟨fun _ => h, by rw [hr]; simp⟩
theorem wp_region_late {id : Nat} {a : Act} {w : World} (hm : P.follows .mixedOrders = true) (h : wpAnyL P .any ops Q late S1 S ops.size (Array.replicate ops.size false) a w.drew) : (Code.region id ops true).wp P Q a w :=
 wp_region_any hm (wpAny_of_late _ _ _ _ h)
end
open Go.RowKit
theorem setOther {w : World} {q : Addr} {v : Value} (u : Value) {p : Addr} (h : w.cell? q = some v) (hq : q.block ≠ p.block) : (w.setCell p u).cell? q = some v := by
 rw [World.cell?_setCell_other w p q u (fun e => hq (by rw [e]))]; exact h
theorem setOther0 {w : World} {b : Nat} {v u : Value} (h : w.cell? ⟨b, 1, none⟩ = some v) (hf : w.frozen? ⟨b, 1, none⟩ = false) : (w.setCell ⟨b, 2, none⟩ u).cell? ⟨b, 1, none⟩ = some v ∧ (w.setCell ⟨b, 2, none⟩ u).frozen? ⟨b, 1, none⟩ = false := by
 rw [World.cell?_setCell_other w _ _ u (fun e => by cases e), World.frozen?_setCell]
 exact ⟨h, hf⟩
end Go.Proofs.YtocbkccchnbmaaaGreat
namespace Go.Proofs.YtocbkccchnbmaaaGreat
open Go.RowKit
def cmpInt (a b : Int) : Int := if a < b then -1 else if b < a then 1 else 0
def orderSym (a b : SymD) : Int := if a.1 != b.1 then (if a.1 then -1 else 1) else cmpInt a.2 b.2
def cmpSyms : List SymD → List SymD → Int
 | [], [] => 0
 | [], _ :: _ => -1
 | _ :: _, [] => 1
 | a :: l, b :: m => if orderSym a b = 0 then cmpSyms l m else orderSym a b
def cmpRule (a b : RuleD) : Int := if cmpInt a.1 b.1 = 0 then cmpSyms a.2 b.2 else cmpInt a.1 b.1
theorem cmpInt_zero {a b : Int} : cmpInt a b = 0 ↔ a = b := by unfold cmpInt; split <;> (try split) <;> omega
theorem orderSym_zero {a b : SymD} : orderSym a b = 0 ↔ a = b := by
 obtain ⟨a1, a2⟩ := a
 obtain ⟨b1, b2⟩ := b
 cases a1 <;> cases b1 <;> simp [orderSym, cmpInt_zero]
theorem cmpSyms_zero : ∀ {l m : List SymD}, cmpSyms l m = 0 ↔ l = m
 | [], [] => by simp [cmpSyms]
 | [], _ :: _ => by simp [cmpSyms]
 | _ :: _, [] => by simp [cmpSyms]
 | a :: l, b :: m => by
  unfold cmpSyms
  by_cases h : orderSym a b = 0
  ·
   rw [if_pos h, cmpSyms_zero]
   rw [orderSym_zero] at h
   simp [h]
  ·
   rw [if_neg h]
   have h2 : a ≠ b := fun e => h (orderSym_zero.2 e)
   simp [h, h2]
theorem cmpRule_zero {a b : RuleD} : cmpRule a b = 0 ↔ a = b := by
 unfold cmpRule
 by_cases h : cmpInt a.1 b.1 = 0
 ·
  rw [if_pos h, cmpSyms_zero]
  rw [cmpInt_zero] at h
  exact ⟨fun e => Prod.ext h e, fun e => by rw [e]⟩
 ·
  rw [if_neg h]
  exact ⟨fun e => absurd e h, fun e => absurd (cmpInt_zero.2 (by rw [e])) h⟩
theorem cmpSyms_drop {l m : List SymD} {k : Nat} {a b : SymD} (ha : l[k]? = some a) (hb : m[k]? = some b) : cmpSyms (l.drop k) (m.drop k) = if orderSym a b = 0 then cmpSyms (l.drop (k + 1)) (m.drop (k + 1)) else orderSym a b := by
 obtain ⟨h1, rfl⟩ := List.getElem?_eq_some_iff.1 ha
 obtain ⟨h2, rfl⟩ := List.getElem?_eq_some_iff.1 hb
 rw [List.drop_eq_getElem_cons h1, List.drop_eq_getElem_cons h2]
 rfl
theorem isNaN_ (x : Int) (w : World) : Calls Tryz.prog 79 #[.int .i64 x] w fun e w' => e = .returned (.bool false) ∧ w = w' := by
 go_enter Tryz.func79, Tryz.ntmps79
 go_wp2_with fail
 go_ret
 exact ⟨ret_bool (by simp), rfl⟩
theorem cmpCompare (a b : Int) (w : World) : Calls Tryz.prog 53 #[.int .i64 a, .int .i64 b] w fun e w' => e = .returned (.int .i64 (cmpInt a b)) ∧ w = w' := by
 have hd : cmpInt a b = if a < b then -1 else if b < a then 1 else 0 := rfl
 have HD := Lib.hid hd
 clear hd
 go_enter Tryz.func53, Tryz.ntmps53
 go_wp2_with (go_at_call 79; refine (isNaN_ _ _).mono ?_; rintro e w' ⟨rfl, rfl⟩)
 all_goals
  go_ret
  exact ⟨ret_int (by rw [HD.out]; split <;> (try split) <;> omega), rfl⟩
set_option maxHeartbeats 1000000 in
theorem gramOrder (a b : SymD) (w : World) : Calls Tryz.prog 55 #[.agg #[.bool a.1, .int .i64 a.2], .agg #[.bool b.1, .int .i64 b.2]] w fun e w' => e = .returned (.int .i64 (orderSym a b)) ∧ Below w.heap.size w w' := by
 have hb : Below w.heap.size w ((w.alloc (.cells #[.bool a.1, .int .i64 a.2] 45)).alloc (.cells #[.bool b.1, .int .i64 b.2] 45)) := ((Below.refl _ _).alloc (Nat.le_refl _) _).alloc (by simp) _
 have HB := Lib.hid hb
 clear hb
 obtain ⟨a1, a2⟩ := a
 obtain ⟨b1, b2⟩ := b
 dsimp only at *
 cases a1 <;> cases b1
 all_goals
  go_enter Tryz.func55, Tryz.ntmps55
  go_wp2_with (go_at_call 53; refine (cmpCompare _ _ _).mono ?_; rintro e w' ⟨rfl, rfl⟩)
  go_ret
  exact ⟨ret_int (by simp [orderSym]), HB.out⟩
theorem entersOrder : ∀ (args : Array Value) (u : World), (callFunc 55 args).run Tryz.prog u = .ok (.enter 55 args) u := enters_of Tryz.func55 (by kernel_rfl) rfl
set_option maxRecDepth 100000 in
set_option maxHeartbeats 1000000 in
theorem compareSyms (w : World) (S S' : Nat → Prop) (A : Option Addr) (n c : Nat) (l : List SymD) (hl : Sl RSym w S A n c l) (A' : Option Addr) (n' c' : Nat) (m : List SymD) (hm : Sl RSym w S' A' n' c' m) (hn : n ≤ 1000) (hn' : n' ≤ 1000) :
    Calls Tryz.prog 54 #[.slice A n c, .slice A' n' c', .func (.func 55) #[] #[]] w fun e w' => e = .returned (.int .i64 (cmpSyms l m)) ∧ Below w.heap.size w w' := by
 have HLL := Lib.hid hl.len
 have HLM := Lib.hid hm.len
 have HL := Lib.hid hl
 have HM := Lib.hid hm
 have he := entersOrder
 clear hl hm
 go_enter Tryz.func54, Tryz.ntmps54
 go_wp2_with fail
 go_loopg [13] n (fun gk i wr => ∃ k : Nat, k ≤ n ∧ k ≤ n' ∧ gk = n - k ∧ i = .int .i64 k ∧ cmpSyms l m = cmpSyms (l.drop k) (m.drop k) ∧ Below w.heap.size w wr)
 case atStart => exact ⟨0, Nat.zero_le _, Nat.zero_le _, rfl, rfl, rfl, Below.refl _ _⟩
 case round =>
  obtain ⟨k, hk, hk', hgk, rfl, heq, hb⟩ := hrel
  have HGK := Lib.hid hgk
  have HEQ := Lib.hid heq
  have HB := Lib.hid hb
  clear hgk heq hb
  by_cases hlt : k < n
  ·
   obtain ⟨b1, o1, s1, rfl, _, _, h1, h2, hs1⟩ := sym_at HL.out hlt
   replace h1 := Kept.below (S := fun _ => True) HB.out _ _ trivial h1
   replace h2 := Kept.below (S := fun _ => True) HB.out _ _ trivial h2
   by_cases hlt' : k < n'
   ·
    obtain ⟨b2, o2, s2, rfl, _, hb2, g1, g2, hs2⟩ := sym_at HM.out hlt'
    replace g1 := Kept.below (S := fun _ => True) HB.out _ _ trivial g1
    replace g2 := Kept.below (S := fun _ => True) HB.out _ _ trivial g2
    have hlb : b2 < wr.heap.size := cell_lt g1
    have hstep := cmpSyms_drop hs1 hs2
    have HSTEP := Lib.hid hstep
    clear hstep hs1 hs2
    go_wp2_with fail
    refine (gramOrder s1 s2 _).mono ?_
    rintro e w1 ⟨rfl, hb1⟩
    have hB1 : Below w.heap.size w w1 := (((HB.out.alloc HB.out.size _).alloc (by have := HB.out.size; simp; omega) _)).trans (hb1.mono (by have := HB.out.size; simp; omega))
    have HB1 := Lib.hid hB1
    clear hb1 hB1
    by_cases h0 : orderSym s1 s2 = 0
    ·
     have h0' : (orderSym s1 s2 != 0) = false := by simp [h0]
     have H0 := Lib.hid h0
     clear h0
     go_wp2_with fail
     go_roundg (n - (k + 1))
     case measure => rw [HGK.out]; omega
     case rel => exact ⟨k + 1, by omega, by omega, rfl, by go_num, by rw [HEQ.out, HSTEP.out, if_pos H0.out], HB1.out⟩
    ·
     have h0' : (orderSym s1 s2 != 0) = true := by simp [h0]
     have H0 := Lib.hid h0
     clear h0
     go_wp2_with fail
     go_ret
     exact ⟨ret_int (by rw [HEQ.out, HSTEP.out, if_neg H0.out]), HB1.out⟩
   ·
    obtain rfl : k = n' := by omega
    have hfin : cmpSyms (l.drop k) (m.drop k) = 1 := by
     rw [List.drop_of_length_le (l := m) (by rw [← HLM.out]; omega)]
     obtain ⟨h, _⟩ := List.getElem?_eq_some_iff.1 hs1
     rw [List.drop_eq_getElem_cons h]
     rfl
    have HF := Lib.hid hfin
    clear hfin hs1
    go_wp2_with fail
    go_ret
    exact ⟨ret_int (by rw [HEQ.out, HF.out]), HB.out.alloc HB.out.size _⟩
  ·
   obtain rfl : k = n := by omega
   by_cases hlt' : k < n'
   ·
    have hfin : cmpSyms (l.drop k) (m.drop k) = -1 := by
     rw [List.drop_of_length_le (l := l) (by rw [← HLL.out]; omega), List.drop_eq_getElem_cons (by rw [← HLM.out]; exact hlt')]
     rfl
    have HF := Lib.hid hfin
    clear hfin
    go_wp2_with fail
    go_ret
    exact ⟨ret_int (by rw [HEQ.out, HF.out]), HB.out⟩
   ·
    have hfin : cmpSyms (l.drop k) (m.drop k) = 0 := by
     rw [List.drop_of_length_le (l := l) (by rw [← HLL.out]; omega), List.drop_of_length_le (l := m) (by rw [← HLM.out]; omega)]
     rfl
    have HF := Lib.hid hfin
    clear hfin
    go_wp2_with fail
    go_ret
    exact ⟨ret_int (by rw [HEQ.out, HF.out]), HB.out⟩
end Go.Proofs.YtocbkccchnbmaaaGreat
