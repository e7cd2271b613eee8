/- SlIdxGr -/
import Derived.Shelf.Abstract
import Derived.Test.YtimklgbljjamkaaDoorCs07
namespace Go.Proofs.YtimklgbljjamkaaDoor
open Go.RowKit
def idxA {α : Type} (q : α → Bool) (l : List α) : Int := match l.findIdx? q with
 | some i => (i : Int)
 | none => -1
theorem idxA_hit {α : Type} {q : α → Bool} {l : List α} {k : Nat} {x : α} (h : l[k]? = some x) (hq : q x = true) (hno : ∀ j y, j < k → l[j]? = some y → q y = false) : idxA q l = k := by
 have : l.findIdx? q = some k := by
  rw [List.findIdx?_eq_some_iff_getElem]
  obtain ⟨hk, rfl⟩ := List.getElem?_eq_some_iff.1 h
  refine ⟨hk, hq, fun j hj => ?_⟩
  rw [hno j l[j] hj (List.getElem?_eq_getElem (by omega))]
  simp
 rw [idxA, this]
theorem idxA_none {α : Type} {q : α → Bool} {l : List α} (hno : ∀ (j : Nat) (y : α), l[j]? = some y → q y = false) : idxA q l = -1 := by
 have : l.findIdx? q = none := by
  rw [List.findIdx?_eq_none_iff]
  intro x hx
  obtain ⟨j, hj⟩ := List.getElem?_of_mem hx
  exact hno j x hj
 rw [idxA, this]
theorem idxA_any {α : Type} (q : α → Bool) (l : List α) : decide (0 ≤ idxA q l) = l.any q := by
 unfold idxA
 cases h : l.findIdx? q with
 | none =>
  rw [List.findIdx?_eq_none_iff] at h
  have : l.any q = false := by rw [List.any_eq_false]; intro x hx; simp [h x hx]
  rw [this]; simp
 | some i =>
  rw [List.findIdx?_eq_some_iff_getElem] at h
  obtain ⟨hi, hq, _⟩ := h
  have : l.any q = true := List.any_eq_true.2 ⟨_, List.getElem_mem hi, hq⟩
  rw [this]; simp
def TellsS (P : Program) (w0 : World) (G : SymD → Prop) (q : SymD → Bool) (F : FuncId) (caps : Array Value) : Prop :=
 ∀ (w : World), Below w0.heap.size w0 w → ∀ x : SymD, G x → Calls P F (#[.agg #[.bool x.1, .int .i64 x.2]] ++ caps) w fun e w' => e = .returned (.bool (q x)) ∧ Below w.heap.size w w'
set_option maxHeartbeats 1000000 in
theorem indexFnS (w : World) (F : FuncId) (caps : Array Value) (G : SymD → Prop) (q : SymD → Bool) (A : Option Addr) (n c : Nat) (S : Nat → Prop) (l : List SymD)
    (he : ∀ (args : Array Value) (u : World), (callFunc F args).run Tryd.prog u = .ok (.enter F args) u) (hF : TellsS Tryd.prog w G q F caps) (hr : Sl RSym w S A n c l) (hG : ∀ x ∈ l, G x) (hn : n ≤ 1000000000000) :
    Calls Tryd.prog 89 #[.slice A n c, .func (.func F) #[] caps] w fun e w' => e = .returned (.int .i64 (idxA q l)) ∧ Below w.heap.size w w' := by
 have HL := Lib.hid hr.len
 have HR := Lib.hid hr
 have HF := Lib.hid hF
 have HG := Lib.hid hG
 clear hr hF hG
 go_enter Tryd.func89, Tryd.ntmps89
 go_wp2_with fail
 go_loopw [8] (fun i wr => ∃ k : Nat, k ≤ n ∧ i = .int .i64 k ∧ (∀ j y, j < k → l[j]? = some y → q y = false) ∧ Below w.heap.size w wr) (fun i _ => n - (intOf i).toNat)
 case atStart => exact ⟨0, Nat.zero_le _, rfl, (fun j y hj _ => absurd hj (by omega)), Below.refl _ _⟩
 case round =>
  obtain ⟨k, hk, rfl, hno, hb⟩ := hrel
  have HNO := Lib.hid hno
  have HB := Lib.hid hb
  clear hno hb
  by_cases hlt : k < n
  ·
   obtain ⟨b, off, x, rfl, _, _, hc1, hc2, hx⟩ := sym_at HR.out hlt
   replace hc1 := Kept.below (S := fun _ => True) HB.out _ _ trivial hc1
   replace hc2 := Kept.below (S := fun _ => True) HB.out _ _ trivial hc2
   have HX := Lib.hid hx
   clear hx
   go_wp2_with fail
   refine (HF.out wr HB.out x (HG.out x (List.mem_of_getElem? HX.out))).mono ?_
   rintro e w1 ⟨rfl, hb1⟩
   have HB1 := Lib.hid (HB.out.trans (hb1.mono HB.out.size))
   clear hb1
   cases hq : q x with
   | true =>
    have HH := Lib.hid (idxA_hit HX.out hq HNO.out)
    clear hq
    go_wp2_with fail
    go_ret
    exact ⟨ret_int HH.out.symm, HB1.out⟩
   | false =>
    have HQ := Lib.hid hq
    clear hq
    go_wp2_with fail
    go_roundw
    case rel =>
     refine ⟨k + 1, by omega, by go_num, ?_, HB1.out⟩
     intro j y hj hy
     rcases Nat.lt_succ_iff_lt_or_eq.1 hj with h | rfl
     ·
      exact HNO.out j y h hy
     ·
      rw [HX.out] at hy
      injection hy with hy
      rw [← hy]
      exact HQ.out
    case measure => simp [intOf]; omega
  ·
   go_wp2_with fail
   go_ret
   refine ⟨ret_int ?_, HB.out⟩
   rw [idxA_none]
   intro j y hy
   have hj := (List.getElem?_eq_some_iff.1 hy).1
   exact HNO.out j y (by have := HL.out; omega) hy
set_option maxHeartbeats 1000000 in
theorem containsFnS (w : World) (F : FuncId) (caps : Array Value) (G : SymD → Prop) (q : SymD → Bool) (A : Option Addr) (n c : Nat) (S : Nat → Prop) (l : List SymD)
    (he : ∀ (args : Array Value) (u : World), (callFunc F args).run Tryd.prog u = .ok (.enter F args) u) (hF : TellsS Tryd.prog w G q F caps) (hr : Sl RSym w S A n c l) (hG : ∀ x ∈ l, G x) (hn : n ≤ 1000000000000) :
    Calls Tryd.prog 55 #[.slice A n c, .func (.func F) #[] caps] w fun e w' => e = .returned (.bool (l.any q)) ∧ Below w.heap.size w w' := by
 have HR := Lib.hid hr
 have HF := Lib.hid hF
 have HG := Lib.hid hG
 have HE := Lib.hid he
 have HAN := Lib.hid (idxA_any q l)
 clear hr hF hG he
 go_enter Tryd.func55, Tryd.ntmps55
 go_wp2_with (go_at_call 89; refine (indexFnS _ F caps G q _ _ _ _ _ HE.out HF.out HR.out HG.out hn).mono ?_; rintro e w1 ⟨rfl, hb1⟩; have HB1 := Lib.hid hb1; clear hb1)
 go_ret
 exact ⟨ret_bool HAN.out, HB1.out⟩
def TellsR (P : Program) (w0 : World) (G : RuleD → Prop) (q : RuleD → Bool) (F : FuncId) (caps : Array Value) : Prop :=
 ∀ (w : World), Below w0.heap.size w0 w → ∀ (x : RuleD) (A : Option Addr) (m c : Nat) (S : Nat → Prop), Sl RSym w S A m c x.2 → G x → Calls P F (#[.agg #[.int .i64 x.1, .slice A m c]] ++ caps) w fun e w' => e = .returned (.bool (q x)) ∧ Below w.heap.size w w'
set_option maxHeartbeats 1000000 in
theorem indexFnR (w : World) (F : FuncId) (caps : Array Value) (G : RuleD → Prop) (q : RuleD → Bool) (A : Option Addr) (n c : Nat) (S : Nat → Prop) (l : List RuleD)
    (he : ∀ (args : Array Value) (u : World), (callFunc F args).run Tryd.prog u = .ok (.enter F args) u) (hF : TellsR Tryd.prog w G q F caps) (hr : Sl RRule w S A n c l) (hG : ∀ x ∈ l, G x) (hn : n ≤ 1000000000000) :
    Calls Tryd.prog 92 #[.slice A n c, .func (.func F) #[] caps] w fun e w' => e = .returned (.int .i64 (idxA q l)) ∧ Below w.heap.size w w' := by
 have HL := Lib.hid hr.len
 have HR := Lib.hid hr
 have HF := Lib.hid hF
 have HG := Lib.hid hG
 clear hr hF hG
 go_enter Tryd.func92, Tryd.ntmps92
 go_wp2_with fail
 go_loopw [8] (fun i wr => ∃ k : Nat, k ≤ n ∧ i = .int .i64 k ∧ (∀ j y, j < k → l[j]? = some y → q y = false) ∧ Below w.heap.size w wr) (fun i _ => n - (intOf i).toNat)
 case atStart => exact ⟨0, Nat.zero_le _, rfl, (fun j y hj _ => absurd hj (by omega)), Below.refl _ _⟩
 case round =>
  obtain ⟨k, hk, rfl, hno, hb⟩ := hrel
  have HNO := Lib.hid hno
  have HB := Lib.hid hb
  clear hno hb
  by_cases hlt : k < n
  ·
   obtain ⟨b, off, A2, m2, c2, x, rfl, _, _, hc1, hc2, hx, hxs⟩ := rule_at HR.out hlt
   have HXS := Lib.hid (hxs.below HB.out)
   clear hxs
   replace hc1 := Kept.below (S := fun _ => True) HB.out _ _ trivial hc1
   replace hc2 := Kept.below (S := fun _ => True) HB.out _ _ trivial hc2
   have HX := Lib.hid hx
   clear hx
   go_wp2_with fail
   refine (HF.out wr HB.out x _ _ _ _ HXS.out (HG.out x (List.mem_of_getElem? HX.out))).mono ?_
   rintro e w1 ⟨rfl, hb1⟩
   have HB1 := Lib.hid (HB.out.trans (hb1.mono HB.out.size))
   clear hb1
   cases hq : q x with
   | true =>
    have HH := Lib.hid (idxA_hit HX.out hq HNO.out)
    clear hq
    go_wp2_with fail
    go_ret
    exact ⟨ret_int HH.out.symm, HB1.out⟩
   | false =>
    have HQ := Lib.hid hq
    clear hq
    go_wp2_with fail
    go_roundw
    case rel =>
     refine ⟨k + 1, by omega, by go_num, ?_, HB1.out⟩
     intro j y hj hy
     rcases Nat.lt_succ_iff_lt_or_eq.1 hj with h | rfl
     ·
      exact HNO.out j y h hy
     ·
      rw [HX.out] at hy
      injection hy with hy
      rw [← hy]
      exact HQ.out
    case measure => simp [intOf]; omega
  ·
   go_wp2_with fail
   go_ret
   refine ⟨ret_int ?_, HB.out⟩
   rw [idxA_none]
   intro j y hy
   have hj := (List.getElem?_eq_some_iff.1 hy).1
   exact HNO.out j y (by have := HL.out; omega) hy
set_option maxHeartbeats 1000000 in
theorem containsFnR (w : World) (F : FuncId) (caps : Array Value) (G : RuleD → Prop) (q : RuleD → Bool) (A : Option Addr) (n c : Nat) (S : Nat → Prop) (l : List RuleD)
    (he : ∀ (args : Array Value) (u : World), (callFunc F args).run Tryd.prog u = .ok (.enter F args) u) (hF : TellsR Tryd.prog w G q F caps) (hr : Sl RRule w S A n c l) (hG : ∀ x ∈ l, G x) (hn : n ≤ 1000000000000) :
    Calls Tryd.prog 67 #[.slice A n c, .func (.func F) #[] caps] w fun e w' => e = .returned (.bool (l.any q)) ∧ Below w.heap.size w w' := by
 have HR := Lib.hid hr
 have HF := Lib.hid hF
 have HG := Lib.hid hG
 have HE := Lib.hid he
 have HAN := Lib.hid (idxA_any q l)
 clear hr hF hG he
 go_enter Tryd.func67, Tryd.ntmps67
 go_wp2_with (go_at_call 92; refine (indexFnR _ F caps G q _ _ _ _ _ HE.out HF.out HR.out HG.out hn).mono ?_; rintro e w1 ⟨rfl, hb1⟩; have HB1 := Lib.hid hb1; clear hb1)
 go_ret
 exact ⟨ret_bool HAN.out, HB1.out⟩
end Go.Proofs.YtimklgbljjamkaaDoor
