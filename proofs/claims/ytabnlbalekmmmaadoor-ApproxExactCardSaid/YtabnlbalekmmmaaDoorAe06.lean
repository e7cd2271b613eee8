/- SlIdxGr SlIdxInt CensusPlain2 GrPlain -/
import Derived.Shelf.Abstract
import Derived.Test.YtabnlbalekmmmaaDoorAe04
import Derived.Test.YtabnlbalekmmmaaDoorAe05
namespace Go.Proofs.YtabnlbalekmmmaaDoor
open Go.RowKit
def idxA {α : Type} (q : α → Bool) (l : List α) : Int := match l.findIdx? q with
 | some i => (i : Int)
 | none => -1
theorem idxA_hit {α : Type} {q : α → Bool} {l : List α} {k : Nat} {x : α} (h : l[k]? = some x) (hq : q x = true) (hno : ∀ j y, j < k → l[j]? = some y → q y = false) : idxA q l = k := by
 have : l.findIdx? q = some k := by
  rw [List.findIdx?_eq_some_iff_getElem]
  obtain ⟨hk, rfl⟩ := List.getElem?_eq_some_iff.1 h
  refine ⟨hk, hq, fun j hj => ?_⟩
  rw [hno j l[j] hj (List.getElem?_eq_getElem (by omega))]
  simp
 rw [idxA, this]
theorem idxA_none {α : Type} {q : α → Bool} {l : List α} (hno : ∀ (j : Nat) (y : α), l[j]? = some y → q y = false) : idxA q l = -1 := by
 have : l.findIdx? q = none := by
  rw [List.findIdx?_eq_none_iff]
  intro x hx
  obtain ⟨j, hj⟩ := List.getElem?_of_mem hx
  exact hno j x hj
 rw [idxA, this]
theorem idxA_any {α : Type} (q : α → Bool) (l : List α) : decide (0 ≤ idxA q l) = l.any q := by
 unfold idxA
 cases h : l.findIdx? q with
 | none =>
  rw [List.findIdx?_eq_none_iff] at h
  have : l.any q = false := by rw [List.any_eq_false]; intro x hx; simp [h x hx]
  rw [this]; simp
 | some i =>
  rw [List.findIdx?_eq_some_iff_getElem] at h
  obtain ⟨hi, hq, _⟩ := h
  have : l.any q = true := List.any_eq_true.2 ⟨_, List.getElem_mem hi, hq⟩
  rw [this]; simp
def TellsS (P : Program) (w0 : World) (G : SymD → Prop) (q : SymD → Bool) (F : FuncId) (caps : Array Value) : Prop :=
 ∀ (w : World), Below w0.heap.size w0 w → ∀ x : SymD, G x → Calls P F (#[.agg #[.bool x.1, .int .i64 x.2]] ++ caps) w fun e w' => e = .returned (.bool (q x)) ∧ Below w.heap.size w w'
set_option maxHeartbeats 1000000 in
theorem indexFnS (w : World) (F : FuncId) (caps : Array Value) (G : SymD → Prop) (q : SymD → Bool) (A : Option Addr) (n c : Nat) (S : Nat → Prop) (l : List SymD)
    (he : ∀ (args : Array Value) (u : World), (callFunc F args).run Tryd.prog u = .ok (.enter F args) u) (hF : TellsS Tryd.prog w G q F caps) (hr : Sl RSym w S A n c l) (hG : ∀ x ∈ l, G x) (hn : n ≤ 1000000000000) :
    Calls Tryd.prog 80 #[.slice A n c, .func (.func F) #[] caps] w fun e w' => e = .returned (.int .i64 (idxA q l)) ∧ Below w.heap.size w w' := by
 have HL := Lib.hid hr.len
 have HR := Lib.hid hr
 have HF := Lib.hid hF
 have HG := Lib.hid hG
 clear hr hF hG
 go_enter Tryd.func80, Tryd.ntmps80
 go_wp2_with fail
 go_loopw [8] (fun i wr => ∃ k : Nat, k ≤ n ∧ i = .int .i64 k ∧ (∀ j y, j < k → l[j]? = some y → q y = false) ∧ Below w.heap.size w wr) (fun i _ => n - (intOf i).toNat)
 case atStart => exact ⟨0, Nat.zero_le _, rfl, (fun j y hj _ => absurd hj (by omega)), Below.refl _ _⟩
 case round =>
  obtain ⟨k, hk, rfl, hno, hb⟩ := hrel
  have HNO := Lib.hid hno
  have HB := Lib.hid hb
  clear hno hb
  by_cases hlt : k < n
  ·
   obtain ⟨b, off, x, rfl, _, _, hc1, hc2, hx⟩ := sym_at HR.out hlt
   replace hc1 := Kept.below (S := fun _ => True) HB.out _ _ trivial hc1
   replace hc2 := Kept.below (S := fun _ => True) HB.out _ _ trivial hc2
   have HX := Lib.hid hx
   clear hx
   go_wp2_with fail
   refine (HF.out wr HB.out x (HG.out x (List.mem_of_getElem? HX.out))).mono ?_
   rintro e w1 ⟨rfl, hb1⟩
   have HB1 := Lib.hid (HB.out.trans (hb1.mono HB.out.size))
   clear hb1
   cases hq : q x with
   | true =>
    have HH := Lib.hid (idxA_hit HX.out hq HNO.out)
    clear hq
    go_wp2_with fail
    go_ret
    exact ⟨ret_int HH.out.symm, HB1.out⟩
   | false =>
    have HQ := Lib.hid hq
    clear hq
    go_wp2_with fail
    go_roundw
    case rel =>
     refine ⟨k + 1, by omega, by go_num, ?_, HB1.out⟩
     intro j y hj hy
     rcases Nat.lt_succ_iff_lt_or_eq.1 hj with h | rfl
     ·
      exact HNO.out j y h hy
     ·
      rw [HX.out] at hy
      injection hy with hy
      rw [← hy]
      exact HQ.out
    case measure => simp [intOf]; omega
  ·
   go_wp2_with fail
   go_ret
   refine ⟨ret_int ?_, HB.out⟩
   rw [idxA_none]
   intro j y hy
   have hj := (List.getElem?_eq_some_iff.1 hy).1
   exact HNO.out j y (by have := HL.out; omega) hy
set_option maxHeartbeats 1000000 in
theorem containsFnS (w : World) (F : FuncId) (caps : Array Value) (G : SymD → Prop) (q : SymD → Bool) (A : Option Addr) (n c : Nat) (S : Nat → Prop) (l : List SymD)
    (he : ∀ (args : Array Value) (u : World), (callFunc F args).run Tryd.prog u = .ok (.enter F args) u) (hF : TellsS Tryd.prog w G q F caps) (hr : Sl RSym w S A n c l) (hG : ∀ x ∈ l, G x) (hn : n ≤ 1000000000000) :
    Calls Tryd.prog 42 #[.slice A n c, .func (.func F) #[] caps] w fun e w' => e = .returned (.bool (l.any q)) ∧ Below w.heap.size w w' := by
 have HR := Lib.hid hr
 have HF := Lib.hid hF
 have HG := Lib.hid hG
 have HE := Lib.hid he
 have HAN := Lib.hid (idxA_any q l)
 clear hr hF hG he
 go_enter Tryd.func42, Tryd.ntmps42
 go_wp2_with (go_at_call 80; refine (indexFnS _ F caps G q _ _ _ _ _ HE.out HF.out HR.out HG.out hn).mono ?_; rintro e w1 ⟨rfl, hb1⟩; have HB1 := Lib.hid hb1; clear hb1)
 go_ret
 exact ⟨ret_bool HAN.out, HB1.out⟩
def TellsR (P : Program) (w0 : World) (G : RuleD → Prop) (q : RuleD → Bool) (F : FuncId) (caps : Array Value) : Prop :=
 ∀ (w : World), Below w0.heap.size w0 w → ∀ (x : RuleD) (A : Option Addr) (m c : Nat) (S : Nat → Prop), Sl RSym w S A m c x.2 → G x → Calls P F (#[.agg #[.int .i64 x.1, .slice A m c]] ++ caps) w fun e w' => e = .returned (.bool (q x)) ∧ Below w.heap.size w w'
set_option maxHeartbeats 1000000 in
theorem indexFnR (w : World) (F : FuncId) (caps : Array Value) (G : RuleD → Prop) (q : RuleD → Bool) (A : Option Addr) (n c : Nat) (S : Nat → Prop) (l : List RuleD)
    (he : ∀ (args : Array Value) (u : World), (callFunc F args).run Tryd.prog u = .ok (.enter F args) u) (hF : TellsR Tryd.prog w G q F caps) (hr : Sl RRule w S A n c l) (hG : ∀ x ∈ l, G x) (hn : n ≤ 1000000000000) :
    Calls Tryd.prog 83 #[.slice A n c, .func (.func F) #[] caps] w fun e w' => e = .returned (.int .i64 (idxA q l)) ∧ Below w.heap.size w w' := by
 have HL := Lib.hid hr.len
 have HR := Lib.hid hr
 have HF := Lib.hid hF
 have HG := Lib.hid hG
 clear hr hF hG
 go_enter Tryd.func83, Tryd.ntmps83
 go_wp2_with fail
 go_loopw [8] (fun i wr => ∃ k : Nat, k ≤ n ∧ i = .int .i64 k ∧ (∀ j y, j < k → l[j]? = some y → q y = false) ∧ Below w.heap.size w wr) (fun i _ => n - (intOf i).toNat)
 case atStart => exact ⟨0, Nat.zero_le _, rfl, (fun j y hj _ => absurd hj (by omega)), Below.refl _ _⟩
 case round =>
  obtain ⟨k, hk, rfl, hno, hb⟩ := hrel
  have HNO := Lib.hid hno
  have HB := Lib.hid hb
  clear hno hb
  by_cases hlt : k < n
  ·
   obtain ⟨b, off, A2, m2, c2, x, rfl, _, _, hc1, hc2, hx, hxs⟩ := rule_at HR.out hlt
   have HXS := Lib.hid (hxs.below HB.out)
   clear hxs
   replace hc1 := Kept.below (S := fun _ => True) HB.out _ _ trivial hc1
   replace hc2 := Kept.below (S := fun _ => True) HB.out _ _ trivial hc2
   have HX := Lib.hid hx
   clear hx
   go_wp2_with fail
   refine (HF.out wr HB.out x _ _ _ _ HXS.out (HG.out x (List.mem_of_getElem? HX.out))).mono ?_
   rintro e w1 ⟨rfl, hb1⟩
   have HB1 := Lib.hid (HB.out.trans (hb1.mono HB.out.size))
   clear hb1
   cases hq : q x with
   | true =>
    have HH := Lib.hid (idxA_hit HX.out hq HNO.out)
    clear hq
    go_wp2_with fail
    go_ret
    exact ⟨ret_int HH.out.symm, HB1.out⟩
   | false =>
    have HQ := Lib.hid hq
    clear hq
    go_wp2_with fail
    go_roundw
    case rel =>
     refine ⟨k + 1, by omega, by go_num, ?_, HB1.out⟩
     intro j y hj hy
     rcases Nat.lt_succ_iff_lt_or_eq.1 hj with h | rfl
     ·
      exact HNO.out j y h hy
     ·
      rw [HX.out] at hy
      injection hy with hy
      rw [← hy]
      exact HQ.out
    case measure => simp [intOf]; omega
  ·
   go_wp2_with fail
   go_ret
   refine ⟨ret_int ?_, HB.out⟩
   rw [idxA_none]
   intro j y hy
   have hj := (List.getElem?_eq_some_iff.1 hy).1
   exact HNO.out j y (by have := HL.out; omega) hy
set_option maxHeartbeats 1000000 in
theorem containsFnR (w : World) (F : FuncId) (caps : Array Value) (G : RuleD → Prop) (q : RuleD → Bool) (A : Option Addr) (n c : Nat) (S : Nat → Prop) (l : List RuleD)
    (he : ∀ (args : Array Value) (u : World), (callFunc F args).run Tryd.prog u = .ok (.enter F args) u) (hF : TellsR Tryd.prog w G q F caps) (hr : Sl RRule w S A n c l) (hG : ∀ x ∈ l, G x) (hn : n ≤ 1000000000000) :
    Calls Tryd.prog 53 #[.slice A n c, .func (.func F) #[] caps] w fun e w' => e = .returned (.bool (l.any q)) ∧ Below w.heap.size w w' := by
 have HR := Lib.hid hr
 have HF := Lib.hid hF
 have HG := Lib.hid hG
 have HE := Lib.hid he
 have HAN := Lib.hid (idxA_any q l)
 clear hr hF hG he
 go_enter Tryd.func53, Tryd.ntmps53
 go_wp2_with (go_at_call 83; refine (indexFnR _ F caps G q _ _ _ _ _ HE.out HF.out HR.out HG.out hn).mono ?_; rintro e w1 ⟨rfl, hb1⟩; have HB1 := Lib.hid hb1; clear hb1)
 go_ret
 exact ⟨ret_bool HAN.out, HB1.out⟩
end Go.Proofs.YtabnlbalekmmmaaDoor
namespace Go.Proofs.YtabnlbalekmmmaaDoor
open Go.RowKit
def idxInt (l : List Int) (x : Int) : Int := if l.contains x then (l.idxOf x : Nat) else -1
theorem idx_hit {l : List Int} {k : Nat} {x : Int} (h : l[k]? = some x) (hn : (l.take k).contains x = false) : idxInt l x = k := by
 obtain ⟨hk, rfl⟩ := List.getElem?_eq_some_iff.1 h
 unfold idxInt
 rw [if_pos (by simp)]
 have e : l = l.take k ++ l[k] :: l.drop (k + 1) := by rw [← List.drop_eq_getElem_cons hk, List.take_append_drop]
 have hni : l[k] ∉ l.take k := by simpa using hn
 have : l.idxOf l[k] = k := by
  conv => lhs; arg 2; rw [e]
  rw [List.idxOf_append, if_neg hni, List.idxOf_cons_self, List.length_take]; omega
 rw [this]
theorem contains_snoc (l : List Int) (x y : Int) : (l ++ [y]).contains x = (l.contains x || x == y) := by
 simp
 rfl
set_option maxHeartbeats 1000000 in
theorem indexInt (A : Option Addr) (n c : Nat) (S : Nat → Prop) (l : List Int) (x : Int) (w : World) (hr : Rd w S 1 A n (l.map (Value.int .i64))) (hn : n ≤ 1000000000000) :
    Calls Tryd.prog 91 #[.slice A n c, .int .i64 x] w fun e w' => e = .returned (.int .i64 (idxInt l x)) ∧ w = w' := by
 have hl : l.length = n := by simpa using hr.1
 have HL := Lib.hid hl
 have HR := Lib.hid hr
 clear hl hr
 go_enter Tryd.func91, Tryd.ntmps91
 go_wp2_with fail
 go_loop [8] (fun i => ∃ k : Nat, k ≤ n ∧ i = .int .i64 k ∧ (l.take k).contains x = false) (fun i => n - (intOf i).toNat)
 case atStart => exact ⟨0, Nat.zero_le _, rfl, rfl⟩
 case round =>
  obtain ⟨k, hk, rfl, hno⟩ := hrel
  have HNO := Lib.hid hno
  clear hno
  by_cases hlt : k < n
  ·
   obtain ⟨b, off, y, rfl, _, hy, hcell⟩ := HR.out.int_at hlt
   have HY := Lib.hid hy
   clear hy
   by_cases hxy : x = y
   ·
    subst hxy
    have HH := Lib.hid (idx_hit HY.out HNO.out)
    go_wp2_with fail
    go_ret
    exact ⟨ret_int HH.out.symm, rfl⟩
   ·
    have hxb : (x == y) = false := by simpa using hxy
    go_wp2_with fail
    go_round
    case rel => exact ⟨k + 1, by omega, by go_num, by rw [int_step HY.out, contains_snoc, HNO.out, hxb]; rfl⟩
    case measure => simp [intOf]; omega
  ·
   obtain rfl : k = n := by omega
   go_wp2_with fail
   go_ret
   have h := HNO.out
   rw [List.take_of_length_le (by rw [HL.out]; omega)] at h
   exact ⟨ret_int (by simp [idxInt]; intro h2; simp [h2] at h), rfl⟩
set_option maxHeartbeats 1000000 in
theorem containsInt (A : Option Addr) (n c : Nat) (S : Nat → Prop) (l : List Int) (x : Int) (w : World) (hr : Rd w S 1 A n (l.map (Value.int .i64))) (hn : n ≤ 1000000000000) :
    Calls Tryd.prog 59 #[.slice A n c, .int .i64 x] w fun e w' => e = .returned (.bool (l.contains x)) ∧ w = w' := by
 have HR := Lib.hid hr
 clear hr
 cases hx : l.contains x with
 | true =>
  have h : idxInt l x = (l.idxOf x : Nat) := by unfold idxInt; rw [if_pos hx]
  have HH := Lib.hid h
  clear h hx
  go_enter Tryd.func59, Tryd.ntmps59
  go_wp2_with (go_at_call 91; refine (indexInt _ _ _ _ _ _ _ HR.out hn).mono ?_; rintro e w' ⟨rfl, rfl⟩; rw [HH.out])
  go_ret
  exact ⟨ret_bool (by simp), rfl⟩
 | false =>
  have h : idxInt l x = -1 := by unfold idxInt; rw [hx]; rfl
  have HH := Lib.hid h
  clear h hx
  go_enter Tryd.func59, Tryd.ntmps59
  go_wp2_with (go_at_call 91; refine (indexInt _ _ _ _ _ _ _ HR.out hn).mono ?_; rintro e w' ⟨rfl, rfl⟩; rw [HH.out])
  go_ret
  exact ⟨ret_bool (by simp), rfl⟩
end Go.Proofs.YtabnlbalekmmmaaDoor
namespace Go.Proofs.YtabnlbalekmmmaaDoor
inductive Reach {α : Type} (E : α → α → Prop) : α → α → Prop
 | one {a b : α} : E a b → Reach E a b
 | step {a b c : α} : E a b → Reach E b c → Reach E a c
theorem Reach.trans {α : Type} {E : α → α → Prop} {a b c : α} (h : Reach E a b) (h' : Reach E b c) : Reach E a c := by
 induction h with
 | one h => exact .step h h'
 | step h _ ih => exact .step h (ih h')
theorem Reach.mono {α : Type} {E E' : α → α → Prop} (hE : ∀ a b, E a b → E' a b) {a b : α} (h : Reach E a b) : Reach E' a b := by
 induction h with
 | one h => exact .one (hE _ _ h)
 | step h _ ih => exact .step (hE _ _ h) ih
def Edge (R : List RuleD) (x y : Nat × Nat) : Prop :=
 ∃ r ∈ R, r.1 = (x.1 : Int) ∧ ∃ a b, r.2 = a ++ (false, (y.1 : Int)) :: b ∧ ∃ p q, p + y.2 + q = x.2 ∧ Der R a p ∧ Der R b q ∧ Der R [(false, (y.1 : Int))] y.2
theorem Edge.mono {R R' : List RuleD} (hR : ∀ r ∈ R, r ∈ R') {x y : Nat × Nat} (h : Edge R x y) : Edge R' x y := by
 obtain ⟨r, hr, h1, a, b, h2, p, q, h3, h4, h5, h6⟩ := h
 exact ⟨r, hR r hr, h1, a, b, h2, p, q, h3, h4.mono hR, h5.mono hR, h6.mono hR⟩
theorem Edge.le {R : List RuleD} {x y : Nat × Nat} (h : Edge R x y) : y.2 ≤ x.2 := by
 obtain ⟨r, hr, h1, a, b, h2, p, q, h3, _⟩ := h
 omega
theorem Edge.lt {R : List RuleD} {N : Nat} (hR : RulesN N R) {x y : Nat × Nat} (h : Edge R x y) : y.1 < N := by
 obtain ⟨r, hr, h1, a, b, h2, _⟩ := h
 have := (hR r hr).2 (false, (y.1 : Int)) (by rw [h2]; simp) rfl
 simpa using this.2
def Many (R : List RuleD) (x : Nat × Nat) : Prop := ∃ y, (x = y ∨ Reach (Edge R) x y) ∧ Reach (Edge R) y y
theorem Many.mono {R R' : List RuleD} (hR : ∀ r ∈ R, r ∈ R') {x : Nat × Nat} (h : Many R x) : Many R' x := by
 obtain ⟨y, h1, h2⟩ := h
 exact ⟨y, h1.imp id (·.mono fun _ _ => Edge.mono hR), h2.mono fun _ _ => Edge.mono hR⟩
theorem Many.back {R : List RuleD} {x y : Nat × Nat} (h : Edge R x y) (hm : Many R y) : Many R x := by
 obtain ⟨z, h1, h2⟩ := hm
 rcases h1 with rfl | h1
 ·
  exact ⟨y, .inr (.one h), h2⟩
 ·
  exact ⟨z, .inr (.step h h1), h2⟩
def war (e : Nat → Nat → Bool) : Nat → Nat → Nat → Bool
 | 0 => e
 | k + 1 => fun i j => war e k i j || (war e k i k && war e k k j)
theorem war_mono {e : Nat → Nat → Bool} {k i j : Nat} (h : war e k i j = true) : war e (k + 1) i j = true := by simp [war, h]
theorem war_base {e : Nat → Nat → Bool} {i j : Nat} (h : e i j = true) : ∀ k, war e k i j = true
 | 0 => h
 | k + 1 => war_mono (war_base h k)
theorem war_sound {e : Nat → Nat → Bool} : ∀ {k i j : Nat}, war e k i j = true → Reach (fun i j => e i j = true) i j
 | 0, _, _, h => .one h
 | k + 1, i, j, h => by
  simp only [war, Bool.or_eq_true, Bool.and_eq_true] at h
  rcases h with h | ⟨h1, h2⟩
  ·
   exact war_sound h
  ·
   exact (war_sound h1).trans (war_sound h2)
theorem war_trans {e : Nat → Nat → Bool} : ∀ {k m i j : Nat}, m < k → war e k i m = true → war e k m j = true → war e k i j = true
 | 0, _, _, _, h, _, _ => by omega
 | k + 1, m, i, j, hm, h1, h2 => by
  simp only [war, Bool.or_eq_true, Bool.and_eq_true] at h1 h2 ⊢
  rcases Nat.lt_succ_iff_lt_or_eq.1 hm with hm | rfl
  ·
   rcases h1 with h1 | ⟨h1, h1'⟩ <;> rcases h2 with h2 | ⟨h2, h2'⟩
   ·
    exact .inl (war_trans hm h1 h2)
   ·
    exact .inr ⟨war_trans hm h1 h2, h2'⟩
   ·
    exact .inr ⟨h1, war_trans hm h1' h2⟩
   ·
    exact .inr ⟨h1, h2'⟩
  ·
   have h1' : war e m i m = true := by rcases h1 with h1 | ⟨h1, _⟩ <;> exact h1
   have h2' : war e m m j = true := by rcases h2 with h2 | ⟨_, h2⟩ <;> exact h2
   exact .inr ⟨h1', h2'⟩
theorem war_complete {e : Nat → Nat → Bool} {n : Nat} (he : ∀ i j, e i j = true → j < n) {i j : Nat} (h : Reach (fun i j => e i j = true) i j) : war e n i j = true := by
 induction h with
 | one h => exact war_base h n
 | step h _ ih => exact war_trans (he _ _ h) (war_base h n) ih
theorem war_iff {e : Nat → Nat → Bool} {n : Nat} (he : ∀ i j, e i j = true → j < n) {i j : Nat} : war e n i j = true ↔ Reach (fun i j => e i j = true) i j := ⟨war_sound, war_complete he⟩
def nodeOf (n i : Nat) : Nat × Nat := (i / (n + 1), i % (n + 1))
def numOf (n : Nat) (x : Nat × Nat) : Nat := x.1 * (n + 1) + x.2
theorem nodeOf_num {n : Nat} {x : Nat × Nat} (h : x.2 ≤ n) : nodeOf n (numOf n x) = x := by
 unfold nodeOf numOf
 rw [Nat.mul_comm, Nat.mul_add_div (by omega), Nat.div_eq_of_lt (by omega), Nat.mul_add_mod, Nat.mod_eq_of_lt (by omega)]
 simp
theorem numOf_lt {n N : Nat} {x : Nat × Nat} (h1 : x.1 < N) (h2 : x.2 ≤ n) : numOf n x < N * (n + 1) := by
 unfold numOf
 have : (x.1 + 1) * (n + 1) ≤ N * (n + 1) := Nat.mul_le_mul_right _ (by omega)
 rw [Nat.add_mul] at this
 omega
theorem pigeon : ∀ {n : Nat} {l : List Nat}, l.Nodup → (∀ x ∈ l, x < n) → l.length ≤ n
 | 0, [], _, _ => Nat.le_refl _
 | 0, x :: _, _, h => absurd (h x (by simp)) (by omega)
 | n + 1, l, hd, h => by
  have h1 : (l.erase n).length ≤ n := pigeon (hd.erase n) fun x hx => by
   have h2 := h x (List.mem_of_mem_erase hx)
   have h3 : x ≠ n := fun e => by subst e; exact (List.Nodup.not_mem_erase hd) hx
   omega
  have := List.length_erase (a := n) (l := l)
  split at this <;> omega
theorem acc_of_few {R : List RuleD} {N n : Nat} (hR : RulesN N R) : ∀ (m : Nat) (vis : List (Nat × Nat)) (x : Nat × Nat), vis.Nodup → (∀ v ∈ vis, (v.1 < N ∧ v.2 ≤ n) ∧ Reach (Edge R) v x) → x.1 < N → x.2 ≤ n → ¬ Many R x → N * (n + 1) - vis.length ≤ m →
    Acc (fun y x => Edge R x y) x
 | m, vis, x, hd, hv, h1, h2, hm, hle => by
  have hx : x ∉ vis := fun h => hm ⟨x, .inl rfl, (hv x h).2⟩
  have hlen : (x :: vis).length ≤ N * (n + 1) := by
   have := pigeon (n := N * (n + 1)) (l := (x :: vis).map (numOf n)) (by
    rw [List.nodup_iff_pairwise_ne, List.pairwise_map]
    refine List.Pairwise.imp_of_mem (R := (· ≠ ·)) ?_ (List.nodup_cons.2 ⟨hx, hd⟩)
    intro a b ha hb hne e
    have ha2 : a.2 ≤ n := by rcases List.mem_cons.1 ha with rfl | h; exact h2; exact (hv a h).1.2
    have hb2 : b.2 ≤ n := by rcases List.mem_cons.1 hb with rfl | h; exact h2; exact (hv b h).1.2
    have := congrArg (nodeOf n) e
    rw [nodeOf_num ha2, nodeOf_num hb2] at this
    exact hne this) (by
    intro q hq
    obtain ⟨v, hv', rfl⟩ := List.mem_map.1 hq
    rcases List.mem_cons.1 hv' with rfl | h
    ·
     exact numOf_lt h1 h2
    ·
     exact numOf_lt (hv v h).1.1 (hv v h).1.2)
   simpa using this
  refine Acc.intro x fun y hy => ?_
  match m with
  | 0 => simp only [List.length_cons] at hlen; omega
  | m + 1 =>
   refine acc_of_few hR m (x :: vis) y (List.nodup_cons.2 ⟨hx, hd⟩) ?_ (hy.lt hR) (Nat.le_trans hy.le h2) (fun h => hm (h.back hy)) (by simp only [List.length_cons]; omega)
   intro v hv'
   rcases List.mem_cons.1 hv' with rfl | h
   ·
    exact ⟨⟨h1, h2⟩, .one hy⟩
   ·
    exact ⟨(hv v h).1, (hv v h).2.trans (.one hy)⟩
theorem acc_few {R : List RuleD} {N : Nat} (hR : RulesN N R) {x : Nat × Nat} (h1 : x.1 < N) (hm : ¬ Many R x) : Acc (fun y x => Edge R x y) x :=
 acc_of_few (n := x.2) hR (N * (x.2 + 1)) [] x .nil (by simp) h1 (Nat.le_refl _) hm (by simp)
end Go.Proofs.YtabnlbalekmmmaaDoor
namespace Go.Proofs.YtabnlbalekmmmaaDoor
def edgN (R : List RuleD) (i j : Nat) : Bool := R.any fun r => decide (r.1 = (i : Int)) && r.2.contains (false, (j : Int))
theorem edgN_iff {R : List RuleD} {i j : Nat} : edgN R i j = true ↔ ∃ r ∈ R, r.1 = (i : Int) ∧ (false, (j : Int)) ∈ r.2 := by
 simp only [edgN, List.any_eq_true, Bool.and_eq_true, decide_eq_true_eq, List.contains_iff_mem]
section
variable {R : List RuleD} {N : Nat} {G : Nat → Bool}
theorem edg_lt (hR : RulesN N R) {i j : Nat} (h : edgN R i j = true) : j < N := by
 obtain ⟨r, hr, _, hm⟩ := edgN_iff.1 h
 have := ((hR r hr).2 _ hm rfl).2
 simpa using this
theorem countP_le {α : Type} {p q : α → Bool} : ∀ {l : List α}, (∀ x ∈ l, p x = true → q x = true) → l.countP p ≤ l.countP q
 | [], _ => Nat.le_refl _
 | a :: l, h => by
  have ih := countP_le (l := l) fun x hx => h x (List.mem_cons_of_mem _ hx)
  rw [List.countP_cons, List.countP_cons]
  have := h a List.mem_cons_self
  cases hp : p a with
  | true => rw [this hp]; simp; exact ih
  | false => simp; omega
theorem countP_lt {α : Type} {p q : α → Bool} : ∀ {l : List α}, (∀ x ∈ l, p x = true → q x = true) → ∀ {y : α}, y ∈ l → q y = true → p y = false → l.countP p < l.countP q
 | [], _, y, hy, _, _ => by cases hy
 | a :: l, h, y, hy, hq, hp => by
  rw [List.countP_cons, List.countP_cons]
  rcases List.mem_cons.1 hy with rfl | hy
  ·
   have ih := countP_le (l := l) fun x hx => h x (List.mem_cons_of_mem _ hx)
   rw [hq, hp]
   simp; omega
  ·
   have ih := countP_lt (l := l) (fun x hx => h x (List.mem_cons_of_mem _ hx)) hy hq hp
   have := h a List.mem_cons_self
   cases hp : p a with
   | true => rw [this hp]; simp; exact ih
   | false => simp; omega
def cntN (R : List RuleD) (N a : Nat) : Nat := (List.range N).countP fun b => decide (a = b) || war (edgN R) N a b
theorem cntN_le (a : Nat) : cntN R N a ≤ N := by
 have := List.countP_le_length (p := fun b => decide (a = b) || war (edgN R) N a b) (l := List.range N)
 rwa [List.length_range] at this
theorem war_edg (hR : RulesN N R) {a b c : Nat} (h : edgN R a b = true) (h2 : (decide (b = c) || war (edgN R) N b c) = true) : war (edgN R) N a c = true := by
 rw [war_iff fun i j h => edg_lt hR h]
 rcases Bool.or_eq_true_iff.1 h2 with h3 | h3
 ·
  rw [← of_decide_eq_true h3]; exact .one h
 ·
  exact .step h (war_sound h3)
theorem cntN_mono (hR : RulesN N R) {a b : Nat} (h : edgN R a b = true) : cntN R N b ≤ cntN R N a :=
 countP_le fun c _ hc => by
  show (decide (a = c) || war (edgN R) N a c) = true
  rw [war_edg hR h hc, Bool.or_true]
theorem cntN_lt (hR : RulesN N R) {a b : Nat} (ha : a < N) (h : edgN R a b = true) (hne : b ≠ a) (hw : war (edgN R) N b a = false) : cntN R N b < cntN R N a :=
 countP_lt (fun c _ hc => by
  show (decide (a = c) || war (edgN R) N a c) = true
  rw [war_edg hR h hc, Bool.or_true]) (List.mem_range.2 ha) (by simp) (by simp [hne, hw])
theorem cntN_pos {a : Nat} (ha : a < N) : 1 ≤ cntN R N a := List.countP_pos_iff.2 ⟨a, List.mem_range.2 ha, by simp⟩
end
end Go.Proofs.YtabnlbalekmmmaaDoor
