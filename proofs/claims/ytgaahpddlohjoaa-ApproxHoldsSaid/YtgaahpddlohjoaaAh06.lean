/- SlIdxGr SlIdxInt CensusPlain -/
import Derived.Shelf.Abstract
import Derived.Test.YtgaahpddlohjoaaAh04
import Derived.Test.YtgaahpddlohjoaaAh05
namespace Go.Proofs.Ytgaahpddlohjoaa
open Go.RowKit
def idxA {α : Type} (q : α → Bool) (l : List α) : Int := match l.findIdx? q with
 | some i => (i : Int)
 | none => -1
theorem idxA_hit {α : Type} {q : α → Bool} {l : List α} {k : Nat} {x : α} (h : l[k]? = some x) (hq : q x = true) (hno : ∀ j y, j < k → l[j]? = some y → q y = false) : idxA q l = k := by
 have : l.findIdx? q = some k := by
  rw [List.findIdx?_eq_some_iff_getElem]
  obtain ⟨hk, rfl⟩ := List.getElem?_eq_some_iff.1 h
  refine ⟨hk, hq, fun j hj => ?_⟩
  rw [hno j l[j] hj (List.getElem?_eq_getElem (by omega))]
  simp
 rw [idxA, this]
theorem idxA_none {α : Type} {q : α → Bool} {l : List α} (hno : ∀ (j : Nat) (y : α), l[j]? = some y → q y = false) : idxA q l = -1 := by
 have : l.findIdx? q = none := by
  rw [List.findIdx?_eq_none_iff]
  intro x hx
  obtain ⟨j, hj⟩ := List.getElem?_of_mem hx
  exact hno j x hj
 rw [idxA, this]
theorem idxA_any {α : Type} (q : α → Bool) (l : List α) : decide (0 ≤ idxA q l) = l.any q := by
 unfold idxA
 cases h : l.findIdx? q with
 | none =>
  rw [List.findIdx?_eq_none_iff] at h
  have : l.any q = false := by rw [List.any_eq_false]; intro x hx; simp [h x hx]
  rw [this]; simp
 | some i =>
  rw [List.findIdx?_eq_some_iff_getElem] at h
  obtain ⟨hi, hq, _⟩ := h
  have : l.any q = true := List.any_eq_true.2 ⟨_, List.getElem_mem hi, hq⟩
  rw [this]; simp
def TellsS (P : Program) (w0 : World) (G : SymD → Prop) (q : SymD → Bool) (F : FuncId) (caps : Array Value) : Prop :=
 ∀ (w : World), Below w0.heap.size w0 w → ∀ x : SymD, G x → Calls P F (#[.agg #[.bool x.1, .int .i64 x.2]] ++ caps) w fun e w' => e = .returned (.bool (q x)) ∧ Below w.heap.size w w'
set_option maxHeartbeats 1000000 in
theorem indexFnS (w : World) (F : FuncId) (caps : Array Value) (G : SymD → Prop) (q : SymD → Bool) (A : Option Addr) (n c : Nat) (S : Nat → Prop) (l : List SymD)
    (he : ∀ (args : Array Value) (u : World), (callFunc F args).run Try.prog u = .ok (.enter F args) u) (hF : TellsS Try.prog w G q F caps) (hr : Sl RSym w S A n c l) (hG : ∀ x ∈ l, G x) (hn : n ≤ 1000000000000) :
    Calls Try.prog 122 #[.slice A n c, .func (.func F) #[] caps] w fun e w' => e = .returned (.int .i64 (idxA q l)) ∧ Below w.heap.size w w' := by
 have HL := Lib.hid hr.len
 have HR := Lib.hid hr
 have HF := Lib.hid hF
 have HG := Lib.hid hG
 clear hr hF hG
 go_enter Try.func122, Try.ntmps122
 go_wp2_with fail
 go_loopw [8] (fun i wr => ∃ k : Nat, k ≤ n ∧ i = .int .i64 k ∧ (∀ j y, j < k → l[j]? = some y → q y = false) ∧ Below w.heap.size w wr) (fun i _ => n - (intOf i).toNat)
 case atStart => exact ⟨0, Nat.zero_le _, rfl, (fun j y hj _ => absurd hj (by omega)), Below.refl _ _⟩
 case round =>
  obtain ⟨k, hk, rfl, hno, hb⟩ := hrel
  have HNO := Lib.hid hno
  have HB := Lib.hid hb
  clear hno hb
  by_cases hlt : k < n
  ·
   obtain ⟨b, off, x, rfl, _, _, hc1, hc2, hx⟩ := sym_at HR.out hlt
   replace hc1 := Kept.below (S := fun _ => True) HB.out _ _ trivial hc1
   replace hc2 := Kept.below (S := fun _ => True) HB.out _ _ trivial hc2
   have HX := Lib.hid hx
   clear hx
   go_wp2_with fail
   refine (HF.out wr HB.out x (HG.out x (List.mem_of_getElem? HX.out))).mono ?_
   rintro e w1 ⟨rfl, hb1⟩
   have HB1 := Lib.hid (HB.out.trans (hb1.mono HB.out.size))
   clear hb1
   cases hq : q x with
   | true =>
    have HH := Lib.hid (idxA_hit HX.out hq HNO.out)
    clear hq
    go_wp2_with fail
    go_ret
    exact ⟨ret_int HH.out.symm, HB1.out⟩
   | false =>
    have HQ := Lib.hid hq
    clear hq
    go_wp2_with fail
    go_roundw
    case rel =>
     refine ⟨k + 1, by omega, by go_num, ?_, HB1.out⟩
     intro j y hj hy
     rcases Nat.lt_succ_iff_lt_or_eq.1 hj with h | rfl
     ·
      exact HNO.out j y h hy
     ·
      rw [HX.out] at hy
      injection hy with hy
      rw [← hy]
      exact HQ.out
    case measure => simp [intOf]; omega
  ·
   go_wp2_with fail
   go_ret
   refine ⟨ret_int ?_, HB.out⟩
   rw [idxA_none]
   intro j y hy
   have hj := (List.getElem?_eq_some_iff.1 hy).1
   exact HNO.out j y (by have := HL.out; omega) hy
set_option maxHeartbeats 1000000 in
theorem containsFnS (w : World) (F : FuncId) (caps : Array Value) (G : SymD → Prop) (q : SymD → Bool) (A : Option Addr) (n c : Nat) (S : Nat → Prop) (l : List SymD)
    (he : ∀ (args : Array Value) (u : World), (callFunc F args).run Try.prog u = .ok (.enter F args) u) (hF : TellsS Try.prog w G q F caps) (hr : Sl RSym w S A n c l) (hG : ∀ x ∈ l, G x) (hn : n ≤ 1000000000000) :
    Calls Try.prog 91 #[.slice A n c, .func (.func F) #[] caps] w fun e w' => e = .returned (.bool (l.any q)) ∧ Below w.heap.size w w' := by
 have HR := Lib.hid hr
 have HF := Lib.hid hF
 have HG := Lib.hid hG
 have HE := Lib.hid he
 have HAN := Lib.hid (idxA_any q l)
 clear hr hF hG he
 go_enter Try.func91, Try.ntmps91
 go_wp2_with (go_at_call 122; refine (indexFnS _ F caps G q _ _ _ _ _ HE.out HF.out HR.out HG.out hn).mono ?_; rintro e w1 ⟨rfl, hb1⟩; have HB1 := Lib.hid hb1; clear hb1)
 go_ret
 exact ⟨ret_bool HAN.out, HB1.out⟩
def TellsR (P : Program) (w0 : World) (G : RuleD → Prop) (q : RuleD → Bool) (F : FuncId) (caps : Array Value) : Prop :=
 ∀ (w : World), Below w0.heap.size w0 w → ∀ (x : RuleD) (A : Option Addr) (m c : Nat) (S : Nat → Prop), Sl RSym w S A m c x.2 → G x → Calls P F (#[.agg #[.int .i64 x.1, .slice A m c]] ++ caps) w fun e w' => e = .returned (.bool (q x)) ∧ Below w.heap.size w w'
set_option maxHeartbeats 1000000 in
theorem indexFnR (w : World) (F : FuncId) (caps : Array Value) (G : RuleD → Prop) (q : RuleD → Bool) (A : Option Addr) (n c : Nat) (S : Nat → Prop) (l : List RuleD)
    (he : ∀ (args : Array Value) (u : World), (callFunc F args).run Try.prog u = .ok (.enter F args) u) (hF : TellsR Try.prog w G q F caps) (hr : Sl RRule w S A n c l) (hG : ∀ x ∈ l, G x) (hn : n ≤ 1000000000000) :
    Calls Try.prog 123 #[.slice A n c, .func (.func F) #[] caps] w fun e w' => e = .returned (.int .i64 (idxA q l)) ∧ Below w.heap.size w w' := by
 have HL := Lib.hid hr.len
 have HR := Lib.hid hr
 have HF := Lib.hid hF
 have HG := Lib.hid hG
 clear hr hF hG
 go_enter Try.func123, Try.ntmps123
 go_wp2_with fail
 go_loopw [8] (fun i wr => ∃ k : Nat, k ≤ n ∧ i = .int .i64 k ∧ (∀ j y, j < k → l[j]? = some y → q y = false) ∧ Below w.heap.size w wr) (fun i _ => n - (intOf i).toNat)
 case atStart => exact ⟨0, Nat.zero_le _, rfl, (fun j y hj _ => absurd hj (by omega)), Below.refl _ _⟩
 case round =>
  obtain ⟨k, hk, rfl, hno, hb⟩ := hrel
  have HNO := Lib.hid hno
  have HB := Lib.hid hb
  clear hno hb
  by_cases hlt : k < n
  ·
   obtain ⟨b, off, A2, m2, c2, x, rfl, _, _, hc1, hc2, hx, hxs⟩ := rule_at HR.out hlt
   have HXS := Lib.hid (hxs.below HB.out)
   clear hxs
   replace hc1 := Kept.below (S := fun _ => True) HB.out _ _ trivial hc1
   replace hc2 := Kept.below (S := fun _ => True) HB.out _ _ trivial hc2
   have HX := Lib.hid hx
   clear hx
   go_wp2_with fail
   refine (HF.out wr HB.out x _ _ _ _ HXS.out (HG.out x (List.mem_of_getElem? HX.out))).mono ?_
   rintro e w1 ⟨rfl, hb1⟩
   have HB1 := Lib.hid (HB.out.trans (hb1.mono HB.out.size))
   clear hb1
   cases hq : q x with
   | true =>
    have HH := Lib.hid (idxA_hit HX.out hq HNO.out)
    clear hq
    go_wp2_with fail
    go_ret
    exact ⟨ret_int HH.out.symm, HB1.out⟩
   | false =>
    have HQ := Lib.hid hq
    clear hq
    go_wp2_with fail
    go_roundw
    case rel =>
     refine ⟨k + 1, by omega, by go_num, ?_, HB1.out⟩
     intro j y hj hy
     rcases Nat.lt_succ_iff_lt_or_eq.1 hj with h | rfl
     ·
      exact HNO.out j y h hy
     ·
      rw [HX.out] at hy
      injection hy with hy
      rw [← hy]
      exact HQ.out
    case measure => simp [intOf]; omega
  ·
   go_wp2_with fail
   go_ret
   refine ⟨ret_int ?_, HB.out⟩
   rw [idxA_none]
   intro j y hy
   have hj := (List.getElem?_eq_some_iff.1 hy).1
   exact HNO.out j y (by have := HL.out; omega) hy
set_option maxHeartbeats 1000000 in
theorem containsFnR (w : World) (F : FuncId) (caps : Array Value) (G : RuleD → Prop) (q : RuleD → Bool) (A : Option Addr) (n c : Nat) (S : Nat → Prop) (l : List RuleD)
    (he : ∀ (args : Array Value) (u : World), (callFunc F args).run Try.prog u = .ok (.enter F args) u) (hF : TellsR Try.prog w G q F caps) (hr : Sl RRule w S A n c l) (hG : ∀ x ∈ l, G x) (hn : n ≤ 1000000000000) :
    Calls Try.prog 94 #[.slice A n c, .func (.func F) #[] caps] w fun e w' => e = .returned (.bool (l.any q)) ∧ Below w.heap.size w w' := by
 have HR := Lib.hid hr
 have HF := Lib.hid hF
 have HG := Lib.hid hG
 have HE := Lib.hid he
 have HAN := Lib.hid (idxA_any q l)
 clear hr hF hG he
 go_enter Try.func94, Try.ntmps94
 go_wp2_with (go_at_call 123; refine (indexFnR _ F caps G q _ _ _ _ _ HE.out HF.out HR.out HG.out hn).mono ?_; rintro e w1 ⟨rfl, hb1⟩; have HB1 := Lib.hid hb1; clear hb1)
 go_ret
 exact ⟨ret_bool HAN.out, HB1.out⟩
end Go.Proofs.Ytgaahpddlohjoaa
namespace Go.Proofs.Ytgaahpddlohjoaa
open Go.RowKit
def idxInt (l : List Int) (x : Int) : Int := if l.contains x then (l.idxOf x : Nat) else -1
theorem idx_hit {l : List Int} {k : Nat} {x : Int} (h : l[k]? = some x) (hn : (l.take k).contains x = false) : idxInt l x = k := by
 obtain ⟨hk, rfl⟩ := List.getElem?_eq_some_iff.1 h
 unfold idxInt
 rw [if_pos (by simp)]
 have e : l = l.take k ++ l[k] :: l.drop (k + 1) := by rw [← List.drop_eq_getElem_cons hk, List.take_append_drop]
 have hni : l[k] ∉ l.take k := by simpa using hn
 have : l.idxOf l[k] = k := by
  conv => lhs; arg 2; rw [e]
  rw [List.idxOf_append, if_neg hni, List.idxOf_cons_self, List.length_take]; omega
 rw [this]
theorem contains_snoc (l : List Int) (x y : Int) : (l ++ [y]).contains x = (l.contains x || x == y) := by
 simp
 rfl
set_option maxHeartbeats 1000000 in
theorem indexInt (A : Option Addr) (n c : Nat) (S : Nat → Prop) (l : List Int) (x : Int) (w : World) (hr : Rd w S 1 A n (l.map (Value.int .i64))) (hn : n ≤ 1000000000000) :
    Calls Try.prog 131 #[.slice A n c, .int .i64 x] w fun e w' => e = .returned (.int .i64 (idxInt l x)) ∧ w = w' := by
 have hl : l.length = n := by simpa using hr.1
 have HL := Lib.hid hl
 have HR := Lib.hid hr
 clear hl hr
 go_enter Try.func131, Try.ntmps131
 go_wp2_with fail
 go_loop [8] (fun i => ∃ k : Nat, k ≤ n ∧ i = .int .i64 k ∧ (l.take k).contains x = false) (fun i => n - (intOf i).toNat)
 case atStart => exact ⟨0, Nat.zero_le _, rfl, rfl⟩
 case round =>
  obtain ⟨k, hk, rfl, hno⟩ := hrel
  have HNO := Lib.hid hno
  clear hno
  by_cases hlt : k < n
  ·
   obtain ⟨b, off, y, rfl, _, hy, hcell⟩ := HR.out.int_at hlt
   have HY := Lib.hid hy
   clear hy
   by_cases hxy : x = y
   ·
    subst hxy
    have HH := Lib.hid (idx_hit HY.out HNO.out)
    go_wp2_with fail
    go_ret
    exact ⟨ret_int HH.out.symm, rfl⟩
   ·
    have hxb : (x == y) = false := by simpa using hxy
    go_wp2_with fail
    go_round
    case rel => exact ⟨k + 1, by omega, by go_num, by rw [int_step HY.out, contains_snoc, HNO.out, hxb]; rfl⟩
    case measure => simp [intOf]; omega
  ·
   obtain rfl : k = n := by omega
   go_wp2_with fail
   go_ret
   have h := HNO.out
   rw [List.take_of_length_le (by rw [HL.out]; omega)] at h
   exact ⟨ret_int (by simp [idxInt]; intro h2; simp [h2] at h), rfl⟩
set_option maxHeartbeats 1000000 in
theorem containsInt (A : Option Addr) (n c : Nat) (S : Nat → Prop) (l : List Int) (x : Int) (w : World) (hr : Rd w S 1 A n (l.map (Value.int .i64))) (hn : n ≤ 1000000000000) :
    Calls Try.prog 100 #[.slice A n c, .int .i64 x] w fun e w' => e = .returned (.bool (l.contains x)) ∧ w = w' := by
 have HR := Lib.hid hr
 clear hr
 cases hx : l.contains x with
 | true =>
  have h : idxInt l x = (l.idxOf x : Nat) := by unfold idxInt; rw [if_pos hx]
  have HH := Lib.hid h
  clear h hx
  go_enter Try.func100, Try.ntmps100
  go_wp2_with (go_at_call 131; refine (indexInt _ _ _ _ _ _ _ HR.out hn).mono ?_; rintro e w' ⟨rfl, rfl⟩; rw [HH.out])
  go_ret
  exact ⟨ret_bool (by simp), rfl⟩
 | false =>
  have h : idxInt l x = -1 := by unfold idxInt; rw [hx]; rfl
  have HH := Lib.hid h
  clear h hx
  go_enter Try.func100, Try.ntmps100
  go_wp2_with (go_at_call 131; refine (indexInt _ _ _ _ _ _ _ HR.out hn).mono ?_; rintro e w' ⟨rfl, rfl⟩; rw [HH.out])
  go_ret
  exact ⟨ret_bool (by simp), rfl⟩
end Go.Proofs.Ytgaahpddlohjoaa
namespace Go.Proofs.Ytgaahpddlohjoaa
inductive Der (R : List RuleD) : List SymD → Nat → Prop
 | nil : Der R [] 0
 | term {x : Int} {l : List SymD} {k : Nat} : Der R l k → Der R ((true, x) :: l) (k + 1)
 | non {A : Int} {r l : List SymD} {i j : Nat} : (A, r) ∈ R → Der R r i → Der R l j → Der R ((false, A) :: l) (i + j)
section
variable {R R' : List RuleD}
theorem Der.mono (hR : ∀ r ∈ R, r ∈ R') {l : List SymD} {k : Nat} (h : Der R l k) : Der R' l k := by
 induction h with
 | nil => exact .nil
 | term _ ih => exact .term ih
 | non hm _ _ h1 h2 => exact .non (hR _ hm) h1 h2
theorem Der.nil_iff {k : Nat} : Der R [] k ↔ k = 0 := ⟨fun h => by cases h; rfl, fun h => by subst h; exact .nil⟩
theorem Der.term_iff {x : Int} {k : Nat} : Der R [(true, x)] k ↔ k = 1 := by
 constructor
 ·
  intro h
  cases h with
  | term h => rw [Der.nil_iff] at h; omega
 ·
  rintro rfl
  exact .term .nil
theorem Der.non_iff {A : Int} {k : Nat} : Der R [(false, A)] k ↔ ∃ r, (A, r) ∈ R ∧ Der R r k := by
 constructor
 ·
  intro h
  cases h with
  | non hm h1 h2 =>
   rw [Der.nil_iff] at h2
   subst h2
   exact ⟨_, hm, h1⟩
 ·
  rintro ⟨r, hm, h⟩
  have := Der.non hm h .nil
  simpa using this
theorem Der.append {l m : List SymD} {i j : Nat} (h : Der R l i) (h' : Der R m j) : Der R (l ++ m) (i + j) := by
 induction h with
 | nil => simpa using h'
 | term _ ih => rw [List.cons_append, Nat.add_right_comm]; exact .term ih
 | non hm h1 _ _ ih => rw [List.cons_append, Nat.add_assoc]; exact .non hm h1 ih
theorem Der.cons_iff {s : SymD} {l : List SymD} {k : Nat} : Der R (s :: l) k ↔ ∃ i, i ≤ k ∧ Der R [s] i ∧ Der R l (k - i) := by
 constructor
 ·
  intro h
  cases h with
  | term h => exact ⟨1, by omega, .term .nil, by simpa using h⟩
  | non hm h1 h2 => exact ⟨_, by omega, Der.non_iff.2 ⟨_, hm, h1⟩, by simpa using h2⟩
 ·
  rintro ⟨i, hi, h1, h2⟩
  have := Der.append h1 h2
  rwa [List.singleton_append, show i + (k - i) = k by omega] at this
end
def hasT (S : Nat → Nat → Bool) (s : SymD) (k : Nat) : Bool := if s.1 then k == 1 else S s.2.toNat k
def canT (S : Nat → Nat → Bool) : List SymD → Nat → Bool
 | [], k => k == 0
 | s :: l, k => (List.range (k + 1)).any fun i => hasT S s i && canT S l (k - i)
theorem canT_cons {S : Nat → Nat → Bool} {s : SymD} {l : List SymD} {k : Nat} : canT S (s :: l) k = true ↔ ∃ i, i ≤ k ∧ hasT S s i = true ∧ canT S l (k - i) = true := by
 simp only [canT, List.any_eq_true, List.mem_range, Bool.and_eq_true]
 exact ⟨fun ⟨i, h1, h2, h3⟩ => ⟨i, by omega, h2, h3⟩, fun ⟨i, h1, h2, h3⟩ => ⟨i, by omega, h2, h3⟩⟩
def NonOk (N : Nat) (l : List SymD) : Prop := ∀ s ∈ l, s.1 = false → 0 ≤ s.2 ∧ s.2.toNat < N
theorem NonOk.tail {N : Nat} {s : SymD} {l : List SymD} (h : NonOk N (s :: l)) : NonOk N l := fun x hx => h x (by simp [hx])
theorem NonOk.head {N : Nat} {s : SymD} {l : List SymD} (h : NonOk N (s :: l)) : NonOk N [s] := fun x hx => h x (by simp at hx; simp [hx])
theorem NonOk.take {N : Nat} {l : List SymD} (h : NonOk N l) (k : Nat) : NonOk N (l.take k) := fun x hx => h x (List.mem_of_mem_take hx)
theorem NonOk.drop {N : Nat} {l : List SymD} (h : NonOk N l) (k : Nat) : NonOk N (l.drop k) := fun x hx => h x (List.mem_of_mem_drop hx)
def RulesN (N : Nat) (R : List RuleD) : Prop := ∀ r ∈ R, (0 ≤ r.1 ∧ r.1.toNat < N) ∧ NonOk N r.2
def Sound (R : List RuleD) (N n : Nat) (S : Nat → Nat → Bool) : Prop := ∀ a k, a < N → k ≤ n → S a k = true → Der R [(false, (a : Int))] k
theorem canT_sound {R : List RuleD} {N n : Nat} {S : Nat → Nat → Bool} (hS : Sound R N n S) : ∀ {l : List SymD} {k : Nat}, NonOk N l → k ≤ n → canT S l k = true → Der R l k
 | [], k, _, _, h => by
  have : k = 0 := by simpa [canT] using h
  subst this
  exact .nil
 | (t, x) :: l, k, hl, hk, h => by
  obtain ⟨i, hi, h1, h2⟩ := canT_cons.1 h
  refine Der.cons_iff.2 ⟨i, hi, ?_, canT_sound hS hl.tail (by omega) h2⟩
  cases t with
  | true => exact Der.term_iff.2 (by simpa [hasT] using h1)
  | false =>
   obtain ⟨h3, h4⟩ := hl (false, x) (by simp) rfl
   have := hS x.toNat i h4 (by omega) (by simpa [hasT] using h1)
   rwa [Int.toNat_of_nonneg h3] at this
def Closed (R : List RuleD) (n : Nat) (S : Nat → Nat → Bool) : Prop := ∀ r ∈ R, ∀ k, k ≤ n → canT S r.2 k = true → S r.1.toNat k = true
theorem canT_complete {R : List RuleD} {n : Nat} {S : Nat → Nat → Bool} (hC : Closed R n S) {l : List SymD} {k : Nat} (h : Der R l k) : k ≤ n → canT S l k = true := by
 induction h with
 | nil => intro _; rfl
 | term _ ih => intro hk; exact canT_cons.2 ⟨1, by omega, rfl, by simpa using ih (by omega)⟩
 | @non A r l i j hm _ _ h1 h2 =>
  intro hk
  refine canT_cons.2 ⟨i, by omega, ?_, by rw [Nat.add_sub_cancel_left]; exact h2 (by omega)⟩
  exact hC _ hm i (by omega) (h1 (by omega))
open Classical in
noncomputable def lenD (R : List RuleD) (a k : Nat) : Bool := decide (Der R [(false, (a : Int))] k)
theorem lenD_iff {R : List RuleD} {a k : Nat} : lenD R a k = true ↔ Der R [(false, (a : Int))] k := by simp [lenD]
theorem lenD_sound (R : List RuleD) (N n : Nat) : Sound R N n (lenD R) := fun _ _ _ _ h => lenD_iff.1 h
theorem canD_iff {R : List RuleD} {N : Nat} {l : List SymD} {k : Nat} (hl : NonOk N l) (hR : RulesN N R) : canT (lenD R) l k = true ↔ Der R l k := by
 constructor
 ·
  exact canT_sound (lenD_sound R N k) hl (Nat.le_refl _)
 ·
  intro h
  refine canT_complete (n := k) (S := lenD R) (fun r hr j hj hc => ?_) h (Nat.le_refl _)
  obtain ⟨⟨h1, h2⟩, h3⟩ := hR r hr
  rw [lenD_iff, Int.toNat_of_nonneg h1]
  exact Der.non_iff.2 ⟨r.2, hr, canT_sound (lenD_sound R N k) h3 hj hc⟩
theorem hasD_iff {R : List RuleD} {N : Nat} {s : SymD} {k : Nat} (hs : NonOk N [s]) : hasT (lenD R) s k = true ↔ Der R [s] k := by
 obtain ⟨t, x⟩ := s
 cases t with
 | true => simp [hasT, Der.term_iff]
 | false =>
  have := hs (false, x) (by simp) rfl
  have e : hasT (lenD R) (false, x) k = lenD R x.toNat k := by simp [hasT]
  rw [e, lenD_iff, Int.toNat_of_nonneg this.1]
end Go.Proofs.Ytgaahpddlohjoaa
