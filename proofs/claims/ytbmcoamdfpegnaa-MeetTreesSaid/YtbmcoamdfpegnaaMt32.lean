/- GramCmp SlIdxGr -/
import Derived.Shelf.Abstract
import Derived.Test.YtbmcoamdfpegnaaMt11
import Derived.Test.YtbmcoamdfpegnaaMt12
namespace Go.Proofs.Ytbmcoamdfpegnaa
open Go.RowKit
def cmpInt (a b : Int) : Int := if a < b then -1 else if b < a then 1 else 0
def orderSym (a b : SymD) : Int := if a.1 != b.1 then (if a.1 then -1 else 1) else cmpInt a.2 b.2
def cmpSyms : List SymD → List SymD → Int
 | [], [] => 0
 | [], _ :: _ => -1
 | _ :: _, [] => 1
 | a :: l, b :: m => if orderSym a b = 0 then cmpSyms l m else orderSym a b
def cmpRule (a b : RuleD) : Int := if cmpInt a.1 b.1 = 0 then cmpSyms a.2 b.2 else cmpInt a.1 b.1
theorem cmpInt_zero {a b : Int} : cmpInt a b = 0 ↔ a = b := by unfold cmpInt; split <;> (try split) <;> omega
theorem orderSym_zero {a b : SymD} : orderSym a b = 0 ↔ a = b := by
 obtain ⟨a1, a2⟩ := a
 obtain ⟨b1, b2⟩ := b
 cases a1 <;> cases b1 <;> simp [orderSym, cmpInt_zero]
theorem cmpSyms_zero : ∀ {l m : List SymD}, cmpSyms l m = 0 ↔ l = m
 | [], [] => by simp [cmpSyms]
 | [], _ :: _ => by simp [cmpSyms]
 | _ :: _, [] => by simp [cmpSyms]
 | a :: l, b :: m => by
  unfold cmpSyms
  by_cases h : orderSym a b = 0
  ·
   rw [if_pos h, cmpSyms_zero]
   rw [orderSym_zero] at h
   simp [h]
  ·
   rw [if_neg h]
   have h2 : a ≠ b := fun e => h (orderSym_zero.2 e)
   simp [h, h2]
theorem cmpRule_zero {a b : RuleD} : cmpRule a b = 0 ↔ a = b := by
 unfold cmpRule
 by_cases h : cmpInt a.1 b.1 = 0
 ·
  rw [if_pos h, cmpSyms_zero]
  rw [cmpInt_zero] at h
  exact ⟨fun e => Prod.ext h e, fun e => by rw [e]⟩
 ·
  rw [if_neg h]
  exact ⟨fun e => absurd e h, fun e => absurd (cmpInt_zero.2 (by rw [e])) h⟩
theorem cmpSyms_drop {l m : List SymD} {k : Nat} {a b : SymD} (ha : l[k]? = some a) (hb : m[k]? = some b) : cmpSyms (l.drop k) (m.drop k) = if orderSym a b = 0 then cmpSyms (l.drop (k + 1)) (m.drop (k + 1)) else orderSym a b := by
 obtain ⟨h1, rfl⟩ := List.getElem?_eq_some_iff.1 ha
 obtain ⟨h2, rfl⟩ := List.getElem?_eq_some_iff.1 hb
 rw [List.drop_eq_getElem_cons h1, List.drop_eq_getElem_cons h2]
 rfl
theorem isNaN_ (x : Int) (w : World) : Calls Try.prog 71 #[.int .i64 x] w fun e w' => e = .returned (.bool false) ∧ w = w' := by
 go_enter Try.func71, Try.ntmps71
 go_wp2_with fail
 go_ret
 exact ⟨ret_bool (by simp), rfl⟩
theorem cmpCompare (a b : Int) (w : World) : Calls Try.prog 50 #[.int .i64 a, .int .i64 b] w fun e w' => e = .returned (.int .i64 (cmpInt a b)) ∧ w = w' := by
 have hd : cmpInt a b = if a < b then -1 else if b < a then 1 else 0 := rfl
 have HD := Lib.hid hd
 clear hd
 go_enter Try.func50, Try.ntmps50
 go_wp2_with (go_at_call 71; refine (isNaN_ _ _).mono ?_; rintro e w' ⟨rfl, rfl⟩)
 all_goals
  go_ret
  exact ⟨ret_int (by rw [HD.out]; split <;> (try split) <;> omega), rfl⟩
set_option maxHeartbeats 1000000 in
theorem gramOrder (a b : SymD) (w : World) : Calls Try.prog 93 #[.agg #[.bool a.1, .int .i64 a.2], .agg #[.bool b.1, .int .i64 b.2]] w fun e w' => e = .returned (.int .i64 (orderSym a b)) ∧ Below w.heap.size w w' := by
 have hb : Below w.heap.size w ((w.alloc (.cells #[.bool a.1, .int .i64 a.2] 42)).alloc (.cells #[.bool b.1, .int .i64 b.2] 42)) := ((Below.refl _ _).alloc (Nat.le_refl _) _).alloc (by simp) _
 have HB := Lib.hid hb
 clear hb
 obtain ⟨a1, a2⟩ := a
 obtain ⟨b1, b2⟩ := b
 dsimp only at *
 cases a1 <;> cases b1
 all_goals
  go_enter Try.func93, Try.ntmps93
  go_wp2_with (go_at_call 50; refine (cmpCompare _ _ _).mono ?_; rintro e w' ⟨rfl, rfl⟩)
  go_ret
  exact ⟨ret_int (by simp [orderSym]), HB.out⟩
theorem entersOrder : ∀ (args : Array Value) (u : World), (callFunc 93 args).run Try.prog u = .ok (.enter 93 args) u := enters_of Try.func93 (by kernel_rfl) rfl
set_option maxRecDepth 100000 in
set_option maxHeartbeats 1000000 in
theorem compareSyms (w : World) (S S' : Nat → Prop) (A : Option Addr) (n c : Nat) (l : List SymD) (hl : Sl RSym w S A n c l) (A' : Option Addr) (n' c' : Nat) (m : List SymD) (hm : Sl RSym w S' A' n' c' m) (hn : n ≤ 1000) (hn' : n' ≤ 1000) :
    Calls Try.prog 92 #[.slice A n c, .slice A' n' c', .func (.func 93) #[] #[]] w fun e w' => e = .returned (.int .i64 (cmpSyms l m)) ∧ Below w.heap.size w w' := by
 have HLL := Lib.hid hl.len
 have HLM := Lib.hid hm.len
 have HL := Lib.hid hl
 have HM := Lib.hid hm
 have he := entersOrder
 clear hl hm
 go_enter Try.func92, Try.ntmps92
 go_wp2_with fail
 go_loopg [13] n (fun gk i wr => ∃ k : Nat, k ≤ n ∧ k ≤ n' ∧ gk = n - k ∧ i = .int .i64 k ∧ cmpSyms l m = cmpSyms (l.drop k) (m.drop k) ∧ Below w.heap.size w wr)
 case atStart => exact ⟨0, Nat.zero_le _, Nat.zero_le _, rfl, rfl, rfl, Below.refl _ _⟩
 case round =>
  obtain ⟨k, hk, hk', hgk, rfl, heq, hb⟩ := hrel
  have HGK := Lib.hid hgk
  have HEQ := Lib.hid heq
  have HB := Lib.hid hb
  clear hgk heq hb
  by_cases hlt : k < n
  ·
   obtain ⟨b1, o1, s1, rfl, _, _, h1, h2, hs1⟩ := sym_at HL.out hlt
   replace h1 := Kept.below (S := fun _ => True) HB.out _ _ trivial h1
   replace h2 := Kept.below (S := fun _ => True) HB.out _ _ trivial h2
   by_cases hlt' : k < n'
   ·
    obtain ⟨b2, o2, s2, rfl, _, hb2, g1, g2, hs2⟩ := sym_at HM.out hlt'
    replace g1 := Kept.below (S := fun _ => True) HB.out _ _ trivial g1
    replace g2 := Kept.below (S := fun _ => True) HB.out _ _ trivial g2
    have hlb : b2 < wr.heap.size := cell_lt g1
    have hstep := cmpSyms_drop hs1 hs2
    have HSTEP := Lib.hid hstep
    clear hstep hs1 hs2
    go_wp2_with fail
    refine (gramOrder s1 s2 _).mono ?_
    rintro e w1 ⟨rfl, hb1⟩
    have hB1 : Below w.heap.size w w1 := (((HB.out.alloc HB.out.size _).alloc (by have := HB.out.size; simp; omega) _)).trans (hb1.mono (by have := HB.out.size; simp; omega))
    have HB1 := Lib.hid hB1
    clear hb1 hB1
    by_cases h0 : orderSym s1 s2 = 0
    ·
     have h0' : (orderSym s1 s2 != 0) = false := by simp [h0]
     have H0 := Lib.hid h0
     clear h0
     go_wp2_with fail
     go_roundg (n - (k + 1))
     case measure => rw [HGK.out]; omega
     case rel => exact ⟨k + 1, by omega, by omega, rfl, by go_num, by rw [HEQ.out, HSTEP.out, if_pos H0.out], HB1.out⟩
    ·
     have h0' : (orderSym s1 s2 != 0) = true := by simp [h0]
     have H0 := Lib.hid h0
     clear h0
     go_wp2_with fail
     go_ret
     exact ⟨ret_int (by rw [HEQ.out, HSTEP.out, if_neg H0.out]), HB1.out⟩
   ·
    obtain rfl : k = n' := by omega
    have hfin : cmpSyms (l.drop k) (m.drop k) = 1 := by
     rw [List.drop_of_length_le (l := m) (by rw [← HLM.out]; omega)]
     obtain ⟨h, _⟩ := List.getElem?_eq_some_iff.1 hs1
     rw [List.drop_eq_getElem_cons h]
     rfl
    have HF := Lib.hid hfin
    clear hfin hs1
    go_wp2_with fail
    go_ret
    exact ⟨ret_int (by rw [HEQ.out, HF.out]), HB.out.alloc HB.out.size _⟩
  ·
   obtain rfl : k = n := by omega
   by_cases hlt' : k < n'
   ·
    have hfin : cmpSyms (l.drop k) (m.drop k) = -1 := by
     rw [List.drop_of_length_le (l := l) (by rw [← HLL.out]; omega), List.drop_eq_getElem_cons (by rw [← HLM.out]; exact hlt')]
     rfl
    have HF := Lib.hid hfin
    clear hfin
    go_wp2_with fail
    go_ret
    exact ⟨ret_int (by rw [HEQ.out, HF.out]), HB.out⟩
   ·
    have hfin : cmpSyms (l.drop k) (m.drop k) = 0 := by
     rw [List.drop_of_length_le (l := l) (by rw [← HLL.out]; omega), List.drop_of_length_le (l := m) (by rw [← HLM.out]; omega)]
     rfl
    have HF := Lib.hid hfin
    clear hfin
    go_wp2_with fail
    go_ret
    exact ⟨ret_int (by rw [HEQ.out, HF.out]), HB.out⟩
end Go.Proofs.Ytbmcoamdfpegnaa
namespace Go.Proofs.Ytbmcoamdfpegnaa
open Go.RowKit
def idxA {α : Type} (q : α → Bool) (l : List α) : Int := match l.findIdx? q with
 | some i => (i : Int)
 | none => -1
theorem idxA_hit {α : Type} {q : α → Bool} {l : List α} {k : Nat} {x : α} (h : l[k]? = some x) (hq : q x = true) (hno : ∀ j y, j < k → l[j]? = some y → q y = false) : idxA q l = k := by
 have : l.findIdx? q = some k := by
  rw [List.findIdx?_eq_some_iff_getElem]
  obtain ⟨hk, rfl⟩ := List.getElem?_eq_some_iff.1 h
  refine ⟨hk, hq, fun j hj => ?_⟩
  rw [hno j l[j] hj (List.getElem?_eq_getElem (by omega))]
  simp
 rw [idxA, this]
theorem idxA_none {α : Type} {q : α → Bool} {l : List α} (hno : ∀ (j : Nat) (y : α), l[j]? = some y → q y = false) : idxA q l = -1 := by
 have : l.findIdx? q = none := by
  rw [List.findIdx?_eq_none_iff]
  intro x hx
  obtain ⟨j, hj⟩ := List.getElem?_of_mem hx
  exact hno j x hj
 rw [idxA, this]
theorem idxA_any {α : Type} (q : α → Bool) (l : List α) : decide (0 ≤ idxA q l) = l.any q := by
 unfold idxA
 cases h : l.findIdx? q with
 | none =>
  rw [List.findIdx?_eq_none_iff] at h
  have : l.any q = false := by rw [List.any_eq_false]; intro x hx; simp [h x hx]
  rw [this]; simp
 | some i =>
  rw [List.findIdx?_eq_some_iff_getElem] at h
  obtain ⟨hi, hq, _⟩ := h
  have : l.any q = true := List.any_eq_true.2 ⟨_, List.getElem_mem hi, hq⟩
  rw [this]; simp
def TellsS (P : Program) (w0 : World) (G : SymD → Prop) (q : SymD → Bool) (F : FuncId) (caps : Array Value) : Prop :=
 ∀ (w : World), Below w0.heap.size w0 w → ∀ x : SymD, G x → Calls P F (#[.agg #[.bool x.1, .int .i64 x.2]] ++ caps) w fun e w' => e = .returned (.bool (q x)) ∧ Below w.heap.size w w'
set_option maxHeartbeats 1000000 in
theorem indexFnS (w : World) (F : FuncId) (caps : Array Value) (G : SymD → Prop) (q : SymD → Bool) (A : Option Addr) (n c : Nat) (S : Nat → Prop) (l : List SymD)
    (he : ∀ (args : Array Value) (u : World), (callFunc F args).run Try.prog u = .ok (.enter F args) u) (hF : TellsS Try.prog w G q F caps) (hr : Sl RSym w S A n c l) (hG : ∀ x ∈ l, G x) (hn : n ≤ 1000000000000) :
    Calls Try.prog 27 #[.slice A n c, .func (.func F) #[] caps] w fun e w' => e = .returned (.int .i64 (idxA q l)) ∧ Below w.heap.size w w' := by
 have HL := Lib.hid hr.len
 have HR := Lib.hid hr
 have HF := Lib.hid hF
 have HG := Lib.hid hG
 clear hr hF hG
 go_enter Try.func27, Try.ntmps27
 go_wp2_with fail
 go_loopw [8] (fun i wr => ∃ k : Nat, k ≤ n ∧ i = .int .i64 k ∧ (∀ j y, j < k → l[j]? = some y → q y = false) ∧ Below w.heap.size w wr) (fun i _ => n - (intOf i).toNat)
 case atStart => exact ⟨0, Nat.zero_le _, rfl, (fun j y hj _ => absurd hj (by omega)), Below.refl _ _⟩
 case round =>
  obtain ⟨k, hk, rfl, hno, hb⟩ := hrel
  have HNO := Lib.hid hno
  have HB := Lib.hid hb
  clear hno hb
  by_cases hlt : k < n
  ·
   obtain ⟨b, off, x, rfl, _, _, hc1, hc2, hx⟩ := sym_at HR.out hlt
   replace hc1 := Kept.below (S := fun _ => True) HB.out _ _ trivial hc1
   replace hc2 := Kept.below (S := fun _ => True) HB.out _ _ trivial hc2
   have HX := Lib.hid hx
   clear hx
   go_wp2_with fail
   refine (HF.out wr HB.out x (HG.out x (List.mem_of_getElem? HX.out))).mono ?_
   rintro e w1 ⟨rfl, hb1⟩
   have HB1 := Lib.hid (HB.out.trans (hb1.mono HB.out.size))
   clear hb1
   cases hq : q x with
   | true =>
    have HH := Lib.hid (idxA_hit HX.out hq HNO.out)
    clear hq
    go_wp2_with fail
    go_ret
    exact ⟨ret_int HH.out.symm, HB1.out⟩
   | false =>
    have HQ := Lib.hid hq
    clear hq
    go_wp2_with fail
    go_roundw
    case rel =>
     refine ⟨k + 1, by omega, by go_num, ?_, HB1.out⟩
     intro j y hj hy
     rcases Nat.lt_succ_iff_lt_or_eq.1 hj with h | rfl
     ·
      exact HNO.out j y h hy
     ·
      rw [HX.out] at hy
      injection hy with hy
      rw [← hy]
      exact HQ.out
    case measure => simp [intOf]; omega
  ·
   go_wp2_with fail
   go_ret
   refine ⟨ret_int ?_, HB.out⟩
   rw [idxA_none]
   intro j y hy
   have hj := (List.getElem?_eq_some_iff.1 hy).1
   exact HNO.out j y (by have := HL.out; omega) hy
set_option maxHeartbeats 1000000 in
theorem containsFnS (w : World) (F : FuncId) (caps : Array Value) (G : SymD → Prop) (q : SymD → Bool) (A : Option Addr) (n c : Nat) (S : Nat → Prop) (l : List SymD)
    (he : ∀ (args : Array Value) (u : World), (callFunc F args).run Try.prog u = .ok (.enter F args) u) (hF : TellsS Try.prog w G q F caps) (hr : Sl RSym w S A n c l) (hG : ∀ x ∈ l, G x) (hn : n ≤ 1000000000000) :
    Calls Try.prog 10 #[.slice A n c, .func (.func F) #[] caps] w fun e w' => e = .returned (.bool (l.any q)) ∧ Below w.heap.size w w' := by
 have HR := Lib.hid hr
 have HF := Lib.hid hF
 have HG := Lib.hid hG
 have HE := Lib.hid he
 have HAN := Lib.hid (idxA_any q l)
 clear hr hF hG he
 go_enter Try.func10, Try.ntmps10
 go_wp2_with (go_at_call 27; refine (indexFnS _ F caps G q _ _ _ _ _ HE.out HF.out HR.out HG.out hn).mono ?_; rintro e w1 ⟨rfl, hb1⟩; have HB1 := Lib.hid hb1; clear hb1)
 go_ret
 exact ⟨ret_bool HAN.out, HB1.out⟩
def TellsR (P : Program) (w0 : World) (G : RuleD → Prop) (q : RuleD → Bool) (F : FuncId) (caps : Array Value) : Prop :=
 ∀ (w : World), Below w0.heap.size w0 w → ∀ (x : RuleD) (A : Option Addr) (m c : Nat) (S : Nat → Prop), Sl RSym w S A m c x.2 → G x → Calls P F (#[.agg #[.int .i64 x.1, .slice A m c]] ++ caps) w fun e w' => e = .returned (.bool (q x)) ∧ Below w.heap.size w w'
set_option maxHeartbeats 1000000 in
theorem indexFnR (w : World) (F : FuncId) (caps : Array Value) (G : RuleD → Prop) (q : RuleD → Bool) (A : Option Addr) (n c : Nat) (S : Nat → Prop) (l : List RuleD)
    (he : ∀ (args : Array Value) (u : World), (callFunc F args).run Try.prog u = .ok (.enter F args) u) (hF : TellsR Try.prog w G q F caps) (hr : Sl RRule w S A n c l) (hG : ∀ x ∈ l, G x) (hn : n ≤ 1000000000000) :
    Calls Try.prog 91 #[.slice A n c, .func (.func F) #[] caps] w fun e w' => e = .returned (.int .i64 (idxA q l)) ∧ Below w.heap.size w w' := by
 have HL := Lib.hid hr.len
 have HR := Lib.hid hr
 have HF := Lib.hid hF
 have HG := Lib.hid hG
 clear hr hF hG
 go_enter Try.func91, Try.ntmps91
 go_wp2_with fail
 go_loopw [8] (fun i wr => ∃ k : Nat, k ≤ n ∧ i = .int .i64 k ∧ (∀ j y, j < k → l[j]? = some y → q y = false) ∧ Below w.heap.size w wr) (fun i _ => n - (intOf i).toNat)
 case atStart => exact ⟨0, Nat.zero_le _, rfl, (fun j y hj _ => absurd hj (by omega)), Below.refl _ _⟩
 case round =>
  obtain ⟨k, hk, rfl, hno, hb⟩ := hrel
  have HNO := Lib.hid hno
  have HB := Lib.hid hb
  clear hno hb
  by_cases hlt : k < n
  ·
   obtain ⟨b, off, A2, m2, c2, x, rfl, _, _, hc1, hc2, hx, hxs⟩ := rule_at HR.out hlt
   have HXS := Lib.hid (hxs.below HB.out)
   clear hxs
   replace hc1 := Kept.below (S := fun _ => True) HB.out _ _ trivial hc1
   replace hc2 := Kept.below (S := fun _ => True) HB.out _ _ trivial hc2
   have HX := Lib.hid hx
   clear hx
   go_wp2_with fail
   refine (HF.out wr HB.out x _ _ _ _ HXS.out (HG.out x (List.mem_of_getElem? HX.out))).mono ?_
   rintro e w1 ⟨rfl, hb1⟩
   have HB1 := Lib.hid (HB.out.trans (hb1.mono HB.out.size))
   clear hb1
   cases hq : q x with
   | true =>
    have HH := Lib.hid (idxA_hit HX.out hq HNO.out)
    clear hq
    go_wp2_with fail
    go_ret
    exact ⟨ret_int HH.out.symm, HB1.out⟩
   | false =>
    have HQ := Lib.hid hq
    clear hq
    go_wp2_with fail
    go_roundw
    case rel =>
     refine ⟨k + 1, by omega, by go_num, ?_, HB1.out⟩
     intro j y hj hy
     rcases Nat.lt_succ_iff_lt_or_eq.1 hj with h | rfl
     ·
      exact HNO.out j y h hy
     ·
      rw [HX.out] at hy
      injection hy with hy
      rw [← hy]
      exact HQ.out
    case measure => simp [intOf]; omega
  ·
   go_wp2_with fail
   go_ret
   refine ⟨ret_int ?_, HB.out⟩
   rw [idxA_none]
   intro j y hy
   have hj := (List.getElem?_eq_some_iff.1 hy).1
   exact HNO.out j y (by have := HL.out; omega) hy
set_option maxHeartbeats 1000000 in
theorem containsFnR (w : World) (F : FuncId) (caps : Array Value) (G : RuleD → Prop) (q : RuleD → Bool) (A : Option Addr) (n c : Nat) (S : Nat → Prop) (l : List RuleD)
    (he : ∀ (args : Array Value) (u : World), (callFunc F args).run Try.prog u = .ok (.enter F args) u) (hF : TellsR Try.prog w G q F caps) (hr : Sl RRule w S A n c l) (hG : ∀ x ∈ l, G x) (hn : n ≤ 1000000000000) :
    Calls Try.prog 73 #[.slice A n c, .func (.func F) #[] caps] w fun e w' => e = .returned (.bool (l.any q)) ∧ Below w.heap.size w w' := by
 have HR := Lib.hid hr
 have HF := Lib.hid hF
 have HG := Lib.hid hG
 have HE := Lib.hid he
 have HAN := Lib.hid (idxA_any q l)
 clear hr hF hG he
 go_enter Try.func73, Try.ntmps73
 go_wp2_with (go_at_call 91; refine (indexFnR _ F caps G q _ _ _ _ _ HE.out HF.out HR.out HG.out hn).mono ?_; rintro e w1 ⟨rfl, hb1⟩; have HB1 := Lib.hid hb1; clear hb1)
 go_ret
 exact ⟨ret_bool HAN.out, HB1.out⟩
end Go.Proofs.Ytbmcoamdfpegnaa
