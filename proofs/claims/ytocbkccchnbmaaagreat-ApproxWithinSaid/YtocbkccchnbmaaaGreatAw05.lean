/- SlIdxGr SlIdxInt CensusPlain CensusPlain2 GrPlain -/
import Derived.Shelf.Abstract
import Derived.Test.YtocbkccchnbmaaaGreatAw04
namespace Go.Proofs.YtocbkccchnbmaaaGreat
open Go.RowKit
def idxA {α : Type} (q : α → Bool) (l : List α) : Int := match l.findIdx? q with
 | some i => (i : Int)
 | none => -1
theorem idxA_hit {α : Type} {q : α → Bool} {l : List α} {k : Nat} {x : α} (h : l[k]? = some x) (hq : q x = true) (hno : ∀ j y, j < k → l[j]? = some y → q y = false) : idxA q l = k := by
 have : l.findIdx? q = some k := by
  rw [List.findIdx?_eq_some_iff_getElem]
  obtain ⟨hk, rfl⟩ := List.getElem?_eq_some_iff.1 h
  refine ⟨hk, hq, fun j hj => ?_⟩
  rw [hno j l[j] hj (List.getElem?_eq_getElem (by omega))]
  simp
 rw [idxA, this]
theorem idxA_none {α : Type} {q : α → Bool} {l : List α} (hno : ∀ (j : Nat) (y : α), l[j]? = some y → q y = false) : idxA q l = -1 := by
 have : l.findIdx? q = none := by
  rw [List.findIdx?_eq_none_iff]
  intro x hx
  obtain ⟨j, hj⟩ := List.getElem?_of_mem hx
  exact hno j x hj
 rw [idxA, this]
theorem idxA_any {α : Type} (q : α → Bool) (l : List α) : decide (0 ≤ idxA q l) = l.any q := by
 unfold idxA
 cases h : l.findIdx? q with
 | none =>
  rw [List.findIdx?_eq_none_iff] at h
  have : l.any q = false := by rw [List.any_eq_false]; intro x hx; simp [h x hx]
  rw [this]; simp
 | some i =>
  rw [List.findIdx?_eq_some_iff_getElem] at h
  obtain ⟨hi, hq, _⟩ := h
  have : l.any q = true := List.any_eq_true.2 ⟨_, List.getElem_mem hi, hq⟩
  rw [this]; simp
def TellsS (P : Program) (w0 : World) (G : SymD → Prop) (q : SymD → Bool) (F : FuncId) (caps : Array Value) : Prop :=
 ∀ (w : World), Below w0.heap.size w0 w → ∀ x : SymD, G x → Calls P F (#[.agg #[.bool x.1, .int .i64 x.2]] ++ caps) w fun e w' => e = .returned (.bool (q x)) ∧ Below w.heap.size w w'
set_option maxHeartbeats 1000000 in
theorem indexFnS (w : World) (F : FuncId) (caps : Array Value) (G : SymD → Prop) (q : SymD → Bool) (A : Option Addr) (n c : Nat) (S : Nat → Prop) (l : List SymD)
    (he : ∀ (args : Array Value) (u : World), (callFunc F args).run Tryz.prog u = .ok (.enter F args) u) (hF : TellsS Tryz.prog w G q F caps) (hr : Sl RSym w S A n c l) (hG : ∀ x ∈ l, G x) (hn : n ≤ 1000000000000) :
    Calls Tryz.prog 50 #[.slice A n c, .func (.func F) #[] caps] w fun e w' => e = .returned (.int .i64 (idxA q l)) ∧ Below w.heap.size w w' := by
 have HL := Lib.hid hr.len
 have HR := Lib.hid hr
 have HF := Lib.hid hF
 have HG := Lib.hid hG
 clear hr hF hG
 go_enter Tryz.func50, Tryz.ntmps50
 go_wp2_with fail
 go_loopw [8] (fun i wr => ∃ k : Nat, k ≤ n ∧ i = .int .i64 k ∧ (∀ j y, j < k → l[j]? = some y → q y = false) ∧ Below w.heap.size w wr) (fun i _ => n - (intOf i).toNat)
 case atStart => exact ⟨0, Nat.zero_le _, rfl, (fun j y hj _ => absurd hj (by omega)), Below.refl _ _⟩
 case round =>
  obtain ⟨k, hk, rfl, hno, hb⟩ := hrel
  have HNO := Lib.hid hno
  have HB := Lib.hid hb
  clear hno hb
  by_cases hlt : k < n
  ·
   obtain ⟨b, off, x, rfl, _, _, hc1, hc2, hx⟩ := sym_at HR.out hlt
   replace hc1 := Kept.below (S := fun _ => True) HB.out _ _ trivial hc1
   replace hc2 := Kept.below (S := fun _ => True) HB.out _ _ trivial hc2
   have HX := Lib.hid hx
   clear hx
   go_wp2_with fail
   refine (HF.out wr HB.out x (HG.out x (List.mem_of_getElem? HX.out))).mono ?_
   rintro e w1 ⟨rfl, hb1⟩
   have HB1 := Lib.hid (HB.out.trans (hb1.mono HB.out.size))
   clear hb1
   cases hq : q x with
   | true =>
    have HH := Lib.hid (idxA_hit HX.out hq HNO.out)
    clear hq
    go_wp2_with fail
    go_ret
    exact ⟨ret_int HH.out.symm, HB1.out⟩
   | false =>
    have HQ := Lib.hid hq
    clear hq
    go_wp2_with fail
    go_roundw
    case rel =>
     refine ⟨k + 1, by omega, by go_num, ?_, HB1.out⟩
     intro j y hj hy
     rcases Nat.lt_succ_iff_lt_or_eq.1 hj with h | rfl
     ·
      exact HNO.out j y h hy
     ·
      rw [HX.out] at hy
      injection hy with hy
      rw [← hy]
      exact HQ.out
    case measure => simp [intOf]; omega
  ·
   go_wp2_with fail
   go_ret
   refine ⟨ret_int ?_, HB.out⟩
   rw [idxA_none]
   intro j y hy
   have hj := (List.getElem?_eq_some_iff.1 hy).1
   exact HNO.out j y (by have := HL.out; omega) hy
set_option maxHeartbeats 1000000 in
theorem containsFnS (w : World) (F : FuncId) (caps : Array Value) (G : SymD → Prop) (q : SymD → Bool) (A : Option Addr) (n c : Nat) (S : Nat → Prop) (l : List SymD)
    (he : ∀ (args : Array Value) (u : World), (callFunc F args).run Tryz.prog u = .ok (.enter F args) u) (hF : TellsS Tryz.prog w G q F caps) (hr : Sl RSym w S A n c l) (hG : ∀ x ∈ l, G x) (hn : n ≤ 1000000000000) :
    Calls Tryz.prog 27 #[.slice A n c, .func (.func F) #[] caps] w fun e w' => e = .returned (.bool (l.any q)) ∧ Below w.heap.size w w' := by
 have HR := Lib.hid hr
 have HF := Lib.hid hF
 have HG := Lib.hid hG
 have HE := Lib.hid he
 have HAN := Lib.hid (idxA_any q l)
 clear hr hF hG he
 go_enter Tryz.func27, Tryz.ntmps27
 go_wp2_with (go_at_call 50; refine (indexFnS _ F caps G q _ _ _ _ _ HE.out HF.out HR.out HG.out hn).mono ?_; rintro e w1 ⟨rfl, hb1⟩; have HB1 := Lib.hid hb1; clear hb1)
 go_ret
 exact ⟨ret_bool HAN.out, HB1.out⟩
def TellsR (P : Program) (w0 : World) (G : RuleD → Prop) (q : RuleD → Bool) (F : FuncId) (caps : Array Value) : Prop :=
 ∀ (w : World), Below w0.heap.size w0 w → ∀ (x : RuleD) (A : Option Addr) (m c : Nat) (S : Nat → Prop), Sl RSym w S A m c x.2 → G x → Calls P F (#[.agg #[.int .i64 x.1, .slice A m c]] ++ caps) w fun e w' => e = .returned (.bool (q x)) ∧ Below w.heap.size w w'
set_option maxHeartbeats 1000000 in
theorem indexFnR (w : World) (F : FuncId) (caps : Array Value) (G : RuleD → Prop) (q : RuleD → Bool) (A : Option Addr) (n c : Nat) (S : Nat → Prop) (l : List RuleD)
    (he : ∀ (args : Array Value) (u : World), (callFunc F args).run Tryz.prog u = .ok (.enter F args) u) (hF : TellsR Tryz.prog w G q F caps) (hr : Sl RRule w S A n c l) (hG : ∀ x ∈ l, G x) (hn : n ≤ 1000000000000) :
    Calls Tryz.prog 51 #[.slice A n c, .func (.func F) #[] caps] w fun e w' => e = .returned (.int .i64 (idxA q l)) ∧ Below w.heap.size w w' := by
 have HL := Lib.hid hr.len
 have HR := Lib.hid hr
 have HF := Lib.hid hF
 have HG := Lib.hid hG
 clear hr hF hG
 go_enter Tryz.func51, Tryz.ntmps51
 go_wp2_with fail
 go_loopw [8] (fun i wr => ∃ k : Nat, k ≤ n ∧ i = .int .i64 k ∧ (∀ j y, j < k → l[j]? = some y → q y = false) ∧ Below w.heap.size w wr) (fun i _ => n - (intOf i).toNat)
 case atStart => exact ⟨0, Nat.zero_le _, rfl, (fun j y hj _ => absurd hj (by omega)), Below.refl _ _⟩
 case round =>
  obtain ⟨k, hk, rfl, hno, hb⟩ := hrel
  have HNO := Lib.hid hno
  have HB := Lib.hid hb
  clear hno hb
  by_cases hlt : k < n
  ·
   obtain ⟨b, off, A2, m2, c2, x, rfl, _, _, hc1, hc2, hx, hxs⟩ := rule_at HR.out hlt
   have HXS := Lib.hid (hxs.below HB.out)
   clear hxs
   replace hc1 := Kept.below (S := fun _ => True) HB.out _ _ trivial hc1
   replace hc2 := Kept.below (S := fun _ => True) HB.out _ _ trivial hc2
   have HX := Lib.hid hx
   clear hx
   go_wp2_with fail
   refine (HF.out wr HB.out x _ _ _ _ HXS.out (HG.out x (List.mem_of_getElem? HX.out))).mono ?_
   rintro e w1 ⟨rfl, hb1⟩
   have HB1 := Lib.hid (HB.out.trans (hb1.mono HB.out.size))
   clear hb1
   cases hq : q x with
   | true =>
    have HH := Lib.hid (idxA_hit HX.out hq HNO.out)
    clear hq
    go_wp2_with fail
    go_ret
    exact ⟨ret_int HH.out.symm, HB1.out⟩
   | false =>
    have HQ := Lib.hid hq
    clear hq
    go_wp2_with fail
    go_roundw
    case rel =>
     refine ⟨k + 1, by omega, by go_num, ?_, HB1.out⟩
     intro j y hj hy
     rcases Nat.lt_succ_iff_lt_or_eq.1 hj with h | rfl
     ·
      exact HNO.out j y h hy
     ·
      rw [HX.out] at hy
      injection hy with hy
      rw [← hy]
      exact HQ.out
    case measure => simp [intOf]; omega
  ·
   go_wp2_with fail
   go_ret
   refine ⟨ret_int ?_, HB.out⟩
   rw [idxA_none]
   intro j y hy
   have hj := (List.getElem?_eq_some_iff.1 hy).1
   exact HNO.out j y (by have := HL.out; omega) hy
set_option maxHeartbeats 1000000 in
theorem containsFnR (w : World) (F : FuncId) (caps : Array Value) (G : RuleD → Prop) (q : RuleD → Bool) (A : Option Addr) (n c : Nat) (S : Nat → Prop) (l : List RuleD)
    (he : ∀ (args : Array Value) (u : World), (callFunc F args).run Tryz.prog u = .ok (.enter F args) u) (hF : TellsR Tryz.prog w G q F caps) (hr : Sl RRule w S A n c l) (hG : ∀ x ∈ l, G x) (hn : n ≤ 1000000000000) :
    Calls Tryz.prog 30 #[.slice A n c, .func (.func F) #[] caps] w fun e w' => e = .returned (.bool (l.any q)) ∧ Below w.heap.size w w' := by
 have HR := Lib.hid hr
 have HF := Lib.hid hF
 have HG := Lib.hid hG
 have HE := Lib.hid he
 have HAN := Lib.hid (idxA_any q l)
 clear hr hF hG he
 go_enter Tryz.func30, Tryz.ntmps30
 go_wp2_with (go_at_call 51; refine (indexFnR _ F caps G q _ _ _ _ _ HE.out HF.out HR.out HG.out hn).mono ?_; rintro e w1 ⟨rfl, hb1⟩; have HB1 := Lib.hid hb1; clear hb1)
 go_ret
 exact ⟨ret_bool HAN.out, HB1.out⟩
end Go.Proofs.YtocbkccchnbmaaaGreat
namespace Go.Proofs.YtocbkccchnbmaaaGreat
open Go.RowKit
def idxInt (l : List Int) (x : Int) : Int := if l.contains x then (l.idxOf x : Nat) else -1
theorem idx_hit {l : List Int} {k : Nat} {x : Int} (h : l[k]? = some x) (hn : (l.take k).contains x = false) : idxInt l x = k := by
 obtain ⟨hk, rfl⟩ := List.getElem?_eq_some_iff.1 h
 unfold idxInt
 rw [if_pos (by simp)]
 have e : l = l.take k ++ l[k] :: l.drop (k + 1) := by rw [← List.drop_eq_getElem_cons hk, List.take_append_drop]
 have hni : l[k] ∉ l.take k := by simpa using hn
 have : l.idxOf l[k] = k := by
  conv => lhs; arg 2; rw [e]
  rw [List.idxOf_append, if_neg hni, List.idxOf_cons_self, List.length_take]; omega
 rw [this]
theorem contains_snoc (l : List Int) (x y : Int) : (l ++ [y]).contains x = (l.contains x || x == y) := by
 simp
 rfl
set_option maxHeartbeats 1000000 in
theorem indexInt (A : Option Addr) (n c : Nat) (S : Nat → Prop) (l : List Int) (x : Int) (w : World) (hr : Rd w S 1 A n (l.map (Value.int .i64))) (hn : n ≤ 1000000000000) :
    Calls Tryz.prog 59 #[.slice A n c, .int .i64 x] w fun e w' => e = .returned (.int .i64 (idxInt l x)) ∧ w = w' := by
 have hl : l.length = n := by simpa using hr.1
 have HL := Lib.hid hl
 have HR := Lib.hid hr
 clear hl hr
 go_enter Tryz.func59, Tryz.ntmps59
 go_wp2_with fail
 go_loop [8] (fun i => ∃ k : Nat, k ≤ n ∧ i = .int .i64 k ∧ (l.take k).contains x = false) (fun i => n - (intOf i).toNat)
 case atStart => exact ⟨0, Nat.zero_le _, rfl, rfl⟩
 case round =>
  obtain ⟨k, hk, rfl, hno⟩ := hrel
  have HNO := Lib.hid hno
  clear hno
  by_cases hlt : k < n
  ·
   obtain ⟨b, off, y, rfl, _, hy, hcell⟩ := HR.out.int_at hlt
   have HY := Lib.hid hy
   clear hy
   by_cases hxy : x = y
   ·
    subst hxy
    have HH := Lib.hid (idx_hit HY.out HNO.out)
    go_wp2_with fail
    go_ret
    exact ⟨ret_int HH.out.symm, rfl⟩
   ·
    have hxb : (x == y) = false := by simpa using hxy
    go_wp2_with fail
    go_round
    case rel => exact ⟨k + 1, by omega, by go_num, by rw [int_step HY.out, contains_snoc, HNO.out, hxb]; rfl⟩
    case measure => simp [intOf]; omega
  ·
   obtain rfl : k = n := by omega
   go_wp2_with fail
   go_ret
   have h := HNO.out
   rw [List.take_of_length_le (by rw [HL.out]; omega)] at h
   exact ⟨ret_int (by simp [idxInt]; intro h2; simp [h2] at h), rfl⟩
set_option maxHeartbeats 1000000 in
theorem containsInt (A : Option Addr) (n c : Nat) (S : Nat → Prop) (l : List Int) (x : Int) (w : World) (hr : Rd w S 1 A n (l.map (Value.int .i64))) (hn : n ≤ 1000000000000) :
    Calls Tryz.prog 36 #[.slice A n c, .int .i64 x] w fun e w' => e = .returned (.bool (l.contains x)) ∧ w = w' := by
 have HR := Lib.hid hr
 clear hr
 cases hx : l.contains x with
 | true =>
  have h : idxInt l x = (l.idxOf x : Nat) := by unfold idxInt; rw [if_pos hx]
  have HH := Lib.hid h
  clear h hx
  go_enter Tryz.func36, Tryz.ntmps36
  go_wp2_with (go_at_call 59; refine (indexInt _ _ _ _ _ _ _ HR.out hn).mono ?_; rintro e w' ⟨rfl, rfl⟩; rw [HH.out])
  go_ret
  exact ⟨ret_bool (by simp), rfl⟩
 | false =>
  have h : idxInt l x = -1 := by unfold idxInt; rw [hx]; rfl
  have HH := Lib.hid h
  clear h hx
  go_enter Tryz.func36, Tryz.ntmps36
  go_wp2_with (go_at_call 59; refine (indexInt _ _ _ _ _ _ _ HR.out hn).mono ?_; rintro e w' ⟨rfl, rfl⟩; rw [HH.out])
  go_ret
  exact ⟨ret_bool (by simp), rfl⟩
end Go.Proofs.YtocbkccchnbmaaaGreat
namespace Go.Proofs.YtocbkccchnbmaaaGreat
inductive Der (R : List RuleD) : List SymD → Nat → Prop
 | nil : Der R [] 0
 | term {x : Int} {l : List SymD} {k : Nat} : Der R l k → Der R ((true, x) :: l) (k + 1)
 | non {A : Int} {r l : List SymD} {i j : Nat} : (A, r) ∈ R → Der R r i → Der R l j → Der R ((false, A) :: l) (i + j)
section
variable {R R' : List RuleD}
end
def hasT (S : Nat → Nat → Bool) (s : SymD) (k : Nat) : Bool := if s.1 then k == 1 else S s.2.toNat k
def canT (S : Nat → Nat → Bool) : List SymD → Nat → Bool
 | [], k => k == 0
 | s :: l, k => (List.range (k + 1)).any fun i => hasT S s i && canT S l (k - i)
def NonOk (N : Nat) (l : List SymD) : Prop := ∀ s ∈ l, s.1 = false → 0 ≤ s.2 ∧ s.2.toNat < N
def RulesN (N : Nat) (R : List RuleD) : Prop := ∀ r ∈ R, (0 ≤ r.1 ∧ r.1.toNat < N) ∧ NonOk N r.2
open Classical in
noncomputable def lenD (R : List RuleD) (a k : Nat) : Bool := decide (Der R [(false, (a : Int))] k)
end Go.Proofs.YtocbkccchnbmaaaGreat
namespace Go.Proofs.YtocbkccchnbmaaaGreat
inductive Reach {α : Type} (E : α → α → Prop) : α → α → Prop
 | one {a b : α} : E a b → Reach E a b
 | step {a b c : α} : E a b → Reach E b c → Reach E a c
theorem Reach.trans {α : Type} {E : α → α → Prop} {a b c : α} (h : Reach E a b) (h' : Reach E b c) : Reach E a c := by
 induction h with
 | one h => exact .step h h'
 | step h _ ih => exact .step h (ih h')
def Edge (R : List RuleD) (x y : Nat × Nat) : Prop :=
 ∃ r ∈ R, r.1 = (x.1 : Int) ∧ ∃ a b, r.2 = a ++ (false, (y.1 : Int)) :: b ∧ ∃ p q, p + y.2 + q = x.2 ∧ Der R a p ∧ Der R b q ∧ Der R [(false, (y.1 : Int))] y.2
def war (e : Nat → Nat → Bool) : Nat → Nat → Nat → Bool
 | 0 => e
 | k + 1 => fun i j => war e k i j || (war e k i k && war e k k j)
theorem war_mono {e : Nat → Nat → Bool} {k i j : Nat} (h : war e k i j = true) : war e (k + 1) i j = true := by simp [war, h]
theorem war_base {e : Nat → Nat → Bool} {i j : Nat} (h : e i j = true) : ∀ k, war e k i j = true
 | 0 => h
 | k + 1 => war_mono (war_base h k)
theorem war_sound {e : Nat → Nat → Bool} : ∀ {k i j : Nat}, war e k i j = true → Reach (fun i j => e i j = true) i j
 | 0, _, _, h => .one h
 | k + 1, i, j, h => by
  simp only [war, Bool.or_eq_true, Bool.and_eq_true] at h
  rcases h with h | ⟨h1, h2⟩
  ·
   exact war_sound h
  ·
   exact (war_sound h1).trans (war_sound h2)
theorem war_trans {e : Nat → Nat → Bool} : ∀ {k m i j : Nat}, m < k → war e k i m = true → war e k m j = true → war e k i j = true
 | 0, _, _, _, h, _, _ => by omega
 | k + 1, m, i, j, hm, h1, h2 => by
  simp only [war, Bool.or_eq_true, Bool.and_eq_true] at h1 h2 ⊢
  rcases Nat.lt_succ_iff_lt_or_eq.1 hm with hm | rfl
  ·
   rcases h1 with h1 | ⟨h1, h1'⟩ <;> rcases h2 with h2 | ⟨h2, h2'⟩
   ·
    exact .inl (war_trans hm h1 h2)
   ·
    exact .inr ⟨war_trans hm h1 h2, h2'⟩
   ·
    exact .inr ⟨h1, war_trans hm h1' h2⟩
   ·
    exact .inr ⟨h1, h2'⟩
  ·
   have h1' : war e m i m = true := by rcases h1 with h1 | ⟨h1, _⟩ <;> exact h1
   have h2' : war e m m j = true := by rcases h2 with h2 | ⟨_, h2⟩ <;> exact h2
   exact .inr ⟨h1', h2'⟩
theorem war_complete {e : Nat → Nat → Bool} {n : Nat} (he : ∀ i j, e i j = true → j < n) {i j : Nat} (h : Reach (fun i j => e i j = true) i j) : war e n i j = true := by
 induction h with
 | one h => exact war_base h n
 | step h _ ih => exact war_trans (he _ _ h) (war_base h n) ih
theorem war_iff {e : Nat → Nat → Bool} {n : Nat} (he : ∀ i j, e i j = true → j < n) {i j : Nat} : war e n i j = true ↔ Reach (fun i j => e i j = true) i j := ⟨war_sound, war_complete he⟩
theorem pigeon : ∀ {n : Nat} {l : List Nat}, l.Nodup → (∀ x ∈ l, x < n) → l.length ≤ n
 | 0, [], _, _ => Nat.le_refl _
 | 0, x :: _, _, h => absurd (h x (by simp)) (by omega)
 | n + 1, l, hd, h => by
  have h1 : (l.erase n).length ≤ n := pigeon (hd.erase n) fun x hx => by
   have h2 := h x (List.mem_of_mem_erase hx)
   have h3 : x ≠ n := fun e => by subst e; exact (List.Nodup.not_mem_erase hd) hx
   omega
  have := List.length_erase (a := n) (l := l)
  split at this <;> omega
end Go.Proofs.YtocbkccchnbmaaaGreat
namespace Go.Proofs.YtocbkccchnbmaaaGreat
def edgN (R : List RuleD) (i j : Nat) : Bool := R.any fun r => decide (r.1 = (i : Int)) && r.2.contains (false, (j : Int))
theorem edgN_iff {R : List RuleD} {i j : Nat} : edgN R i j = true ↔ ∃ r ∈ R, r.1 = (i : Int) ∧ (false, (j : Int)) ∈ r.2 := by
 simp only [edgN, List.any_eq_true, Bool.and_eq_true, decide_eq_true_eq, List.contains_iff_mem]
section
variable {R : List RuleD} {N : Nat} {G : Nat → Bool}
theorem edg_lt (hR : RulesN N R) {i j : Nat} (h : edgN R i j = true) : j < N := by
 obtain ⟨r, hr, _, hm⟩ := edgN_iff.1 h
 have := ((hR r hr).2 _ hm rfl).2
 simpa using this
theorem countP_le {α : Type} {p q : α → Bool} : ∀ {l : List α}, (∀ x ∈ l, p x = true → q x = true) → l.countP p ≤ l.countP q
 | [], _ => Nat.le_refl _
 | a :: l, h => by
  have ih := countP_le (l := l) fun x hx => h x (List.mem_cons_of_mem _ hx)
  rw [List.countP_cons, List.countP_cons]
  have := h a List.mem_cons_self
  cases hp : p a with
  | true => rw [this hp]; simp; exact ih
  | false => simp; omega
theorem countP_lt {α : Type} {p q : α → Bool} : ∀ {l : List α}, (∀ x ∈ l, p x = true → q x = true) → ∀ {y : α}, y ∈ l → q y = true → p y = false → l.countP p < l.countP q
 | [], _, y, hy, _, _ => by cases hy
 | a :: l, h, y, hy, hq, hp => by
  rw [List.countP_cons, List.countP_cons]
  rcases List.mem_cons.1 hy with rfl | hy
  ·
   have ih := countP_le (l := l) fun x hx => h x (List.mem_cons_of_mem _ hx)
   rw [hq, hp]
   simp; omega
  ·
   have ih := countP_lt (l := l) (fun x hx => h x (List.mem_cons_of_mem _ hx)) hy hq hp
   have := h a List.mem_cons_self
   cases hp : p a with
   | true => rw [this hp]; simp; exact ih
   | false => simp; omega
def cntN (R : List RuleD) (N a : Nat) : Nat := (List.range N).countP fun b => decide (a = b) || war (edgN R) N a b
theorem cntN_le (a : Nat) : cntN R N a ≤ N := by
 have := List.countP_le_length (p := fun b => decide (a = b) || war (edgN R) N a b) (l := List.range N)
 rwa [List.length_range] at this
theorem war_edg (hR : RulesN N R) {a b c : Nat} (h : edgN R a b = true) (h2 : (decide (b = c) || war (edgN R) N b c) = true) : war (edgN R) N a c = true := by
 rw [war_iff fun i j h => edg_lt hR h]
 rcases Bool.or_eq_true_iff.1 h2 with h3 | h3
 ·
  rw [← of_decide_eq_true h3]; exact .one h
 ·
  exact .step h (war_sound h3)
theorem cntN_mono (hR : RulesN N R) {a b : Nat} (h : edgN R a b = true) : cntN R N b ≤ cntN R N a :=
 countP_le fun c _ hc => by
  show (decide (a = c) || war (edgN R) N a c) = true
  rw [war_edg hR h hc, Bool.or_true]
theorem cntN_lt (hR : RulesN N R) {a b : Nat} (ha : a < N) (h : edgN R a b = true) (hne : b ≠ a) (hw : war (edgN R) N b a = false) : cntN R N b < cntN R N a :=
 countP_lt (fun c _ hc => by
  show (decide (a = c) || war (edgN R) N a c) = true
  rw [war_edg hR h hc, Bool.or_true]) (List.mem_range.2 ha) (by simp) (by simp [hne, hw])
theorem cntN_pos {a : Nat} (ha : a < N) : 1 ≤ cntN R N a := List.countP_pos_iff.2 ⟨a, List.mem_range.2 ha, by simp⟩
end
end Go.Proofs.YtocbkccchnbmaaaGreat
