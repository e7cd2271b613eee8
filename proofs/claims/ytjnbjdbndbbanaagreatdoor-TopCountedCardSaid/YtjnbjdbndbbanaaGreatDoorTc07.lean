/- CensusPlain3 GramCmp SlIdxGr -/
import Derived.Shelf.Abstract
import Derived.Test.YtjnbjdbndbbanaaGreatDoorTc06
namespace Go.Proofs.YtjnbjdbndbbanaaGreatDoor
abbrev MC : Nat := 1000000000
def ofC (S : Nat → Nat → Bool) (c : Nat → Nat → Nat) (s : SymD) (i : Nat) : Nat := if hasT S s i then (if s.1 then 1 else c s.2.toNat i) else 0
def listC (S : Nat → Nat → Bool) (c : Nat → Nat → Nat) : List SymD → Nat → Nat
 | [], k => if k = 0 then 1 else 0
 | s :: l, k => (List.range (k + 1)).foldl (fun sum i => if hasT S s i && canT S l (k - i) then min (sum + ofC S c s i * listC S c l (k - i)) MC else sum) 0
def ruleC (S : Nat → Nat → Bool) (c : Nat → Nat → Nat) (R : List RuleD) (a : Nat) (k : Nat) : Nat := R.foldl (fun sum r => if r.1 = (a : Int) then min (sum + listC S c r.2 k) MC else sum) 0
theorem foldl_cap {α : Type} (p : α → Bool) (f : α → Nat) : ∀ (l : List α) (s : Nat), s ≤ MC → l.foldl (fun sum x => if p x then min (sum + f x) MC else sum) s = min (s + ((l.filter p).map f).sum) MC
 | [], s, hs => by simp; omega
 | x :: l, s, hs => by
  rw [List.foldl_cons]
  by_cases hp : p x
  ·
   rw [if_pos hp, foldl_cap p f l _ (Nat.min_le_right _ _), List.filter_cons_of_pos hp, List.map_cons, List.sum_cons]
   omega
  rw [if_neg hp, foldl_cap p f l s hs, List.filter_cons_of_neg hp]
theorem foldl_cap' {α : Type} (p : α → Prop) [DecidablePred p] (f : α → Nat) (l : List α) : l.foldl (fun sum x => if p x then min (sum + f x) MC else sum) 0 = min (((l.filter (fun x => decide (p x))).map f).sum) MC := by
 have := foldl_cap (fun x => decide (p x)) f l 0 (by omega)
 simpa using this
theorem listC_cons (S : Nat → Nat → Bool) (c : Nat → Nat → Nat) (s : SymD) (l : List SymD) (k : Nat) :
    listC S c (s :: l) k = min ((((List.range (k + 1)).filter (fun i => hasT S s i && canT S l (k - i))).map (fun i => ofC S c s i * listC S c l (k - i))).sum) MC := by
 have := foldl_cap (fun i => hasT S s i && canT S l (k - i)) (fun i => ofC S c s i * listC S c l (k - i)) (List.range (k + 1)) 0 (by omega)
 simpa [listC] using this
theorem ruleC_eq (S : Nat → Nat → Bool) (c : Nat → Nat → Nat) (R : List RuleD) (a k : Nat) : ruleC S c R a k = min (((R.filter (fun r => decide (r.1 = (a : Int)))).map (fun r => listC S c r.2 k)).sum) MC := foldl_cap' (fun r : RuleD => r.1 = (a : Int)) (fun r => listC S c r.2 k) R
theorem listC_le (S : Nat → Nat → Bool) (c : Nat → Nat → Nat) (l : List SymD) (k : Nat) : listC S c l k ≤ MC := by
 cases l with
 | nil => unfold listC; split <;> decide
 | cons s l => rw [listC_cons]; exact Nat.min_le_right _ _
theorem ruleC_le (S : Nat → Nat → Bool) (c : Nat → Nat → Nat) (R : List RuleD) (a k : Nat) : ruleC S c R a k ≤ MC := by rw [ruleC_eq]; exact Nat.min_le_right _ _
theorem sum_congr {α : Type} {f g : α → Nat} : ∀ {l : List α}, (∀ x ∈ l, f x = g x) → (l.map f).sum = (l.map g).sum
 | [], _ => rfl
 | x :: l, h => by rw [List.map_cons, List.map_cons, List.sum_cons, List.sum_cons, h x (by simp), sum_congr fun y hy => h y (by simp [hy])]
theorem sum_le {α : Type} {f g : α → Nat} : ∀ {l : List α}, (∀ x ∈ l, f x ≤ g x) → (l.map f).sum ≤ (l.map g).sum
 | [], _ => Nat.le_refl _
 | x :: l, h => by
  rw [List.map_cons, List.map_cons, List.sum_cons, List.sum_cons]
  have h1 := h x (by simp)
  have h2 := sum_le (l := l) fun y hy => h y (by simp [hy])
  omega
section
variable {R : List RuleD} {N : Nat}
def Suffix (R : List RuleD) (x : Nat × Nat) (l : List SymD) (k : Nat) : Prop := ∃ r ∈ R, r.1 = (x.1 : Int) ∧ ∃ a p, r.2 = a ++ l ∧ Der R a p ∧ p + k = x.2
theorem Suffix.start {x : Nat × Nat} {r : RuleD} (hr : r ∈ R) (h : r.1 = (x.1 : Int)) : Suffix R x r.2 x.2 := ⟨r, hr, h, [], 0, rfl, .nil, by omega⟩
theorem Suffix.ok (hR : RulesN N R) {x : Nat × Nat} {l : List SymD} {k : Nat} (h : Suffix R x l k) : NonOk N l := by
 obtain ⟨r, hr, _, a, p, e, _⟩ := h
 intro s hs
 exact (hR r hr).2 s (by rw [e]; simp [hs])
theorem Suffix.next {x : Nat × Nat} {s : SymD} {l : List SymD} {k i : Nat} (h : Suffix R x (s :: l) k) (hi : i ≤ k) (hd : Der R [s] i) : Suffix R x l (k - i) := by
 obtain ⟨r, hr, h1, a, p, e, h2, h3⟩ := h
 exact ⟨r, hr, h1, a ++ [s], p + i, by rw [e]; simp, h2.append hd, by omega⟩
theorem Suffix.edge {x : Nat × Nat} {b : Nat} {l : List SymD} {k i : Nat} (h : Suffix R x ((false, (b : Int)) :: l) k) (hi : i ≤ k) (hd : Der R [(false, (b : Int))] i) (hl : Der R l (k - i)) : Edge R x (b, i) := by
 obtain ⟨r, hr, h1, a, p, e, h2, h3⟩ := h
 exact ⟨r, hr, h1, a, l, e, p, k - i, by dsimp only; omega, h2, hl, hd⟩
theorem Suffix.edge' (hR : RulesN N R) {x : Nat × Nat} {y : Int} {l : List SymD} {k i : Nat} (h : Suffix R x ((false, y) :: l) k) (hi : i ≤ k) (hd : Der R [(false, y)] i) (hl : Der R l (k - i)) : Edge R x (y.toNat, i) := by
 have hy := (h.ok hR (false, y) (by simp) rfl).1
 have e : y = ((y.toNat : Nat) : Int) := (Int.toNat_of_nonneg hy).symm
 rw [e] at h hd
 exact h.edge hi hd hl
theorem listC_congr (hR : RulesN N R) {x : Nat × Nat} {c c' : Nat → Nat → Nat} (hc : ∀ b j, Edge R x (b, j) → c b j = c' b j) : ∀ {l : List SymD} {k : Nat}, Suffix R x l k → listC (lenD R) c l k = listC (lenD R) c' l k
 | [], _, _ => rfl
 | (t, y) :: l, k, hs => by
  rw [listC_cons, listC_cons]
  congr 1
  refine sum_congr fun i hi => ?_
  rw [List.mem_filter, List.mem_range, Bool.and_eq_true] at hi
  obtain ⟨hi1, hi2, hi3⟩ := hi
  have hd := (hasD_iff (hs.ok hR).head).1 hi2
  have hl := (canD_iff (hs.ok hR).tail hR).1 hi3
  have e1 : ofC (lenD R) c (t, y) i = ofC (lenD R) c' (t, y) i := by
   unfold ofC
   rw [if_pos hi2, if_pos hi2]
   cases t with
   | true => rfl
   | false => exact hc _ _ (hs.edge' hR (by omega) hd hl)
  rw [e1, listC_congr hR hc (hs.next (by omega) hd)]
open Classical in
noncomputable def cAcc (R : List RuleD) (x : Nat × Nat) (h : Acc (fun y x => Edge R x y) x) : Nat :=
 Acc.rec (motive := fun _ _ => Nat) (fun x _ ih => ruleC (lenD R) (fun b j => if h : Edge R x (b, j) then ih (b, j) h else 0) R x.1 x.2) h
open Classical in
noncomputable def cN (R : List RuleD) (a k : Nat) : Nat := if h : Acc (fun y x => Edge R x y) (a, k) then cAcc R (a, k) h else 0
open Classical in
theorem cN_eq (hR : RulesN N R) {a k : Nat} (h : Acc (fun y x => Edge R x y) (a, k)) : cN R a k = ruleC (lenD R) (cN R) R a k := by
 have e : cN R a k = cAcc R (a, k) h := by unfold cN; rw [dif_pos h]
 rw [e]
 have hu : cAcc R (a, k) h = ruleC (lenD R) (fun b j => if h' : Edge R (a, k) (b, j) then cAcc R (b, j) (h.inv h') else 0) R a k := by
  cases h
  rfl
 rw [hu, ruleC_eq, ruleC_eq]
 congr 1
 refine sum_congr fun r hr => ?_
 rw [List.mem_filter, decide_eq_true_eq] at hr
 refine listC_congr hR (x := (a, k)) (fun b j he => ?_) (Suffix.start hr.1 hr.2)
 rw [dif_pos he]
 unfold cN
 rw [dif_pos (h.inv he)]
open Classical in
noncomputable def treesN (R : List RuleD) (a k : Nat) : Int := if lenD R a k then (if Many R (a, k) then -1 else (cN R a k : Int)) else 0
theorem cN_le (hR : RulesN N R) {a k : Nat} (h : Acc (fun y x => Edge R x y) (a, k)) : cN R a k ≤ MC := by rw [cN_eq hR h]; exact ruleC_le _ _ _ _ _
end
end Go.Proofs.YtjnbjdbndbbanaaGreatDoor
namespace Go.Proofs.YtjnbjdbndbbanaaGreatDoor
open Go.RowKit
def cmpInt (a b : Int) : Int := if a < b then -1 else if b < a then 1 else 0
def orderSym (a b : SymD) : Int := if a.1 != b.1 then (if a.1 then -1 else 1) else cmpInt a.2 b.2
def cmpSyms : List SymD → List SymD → Int
 | [], [] => 0
 | [], _ :: _ => -1
 | _ :: _, [] => 1
 | a :: l, b :: m => if orderSym a b = 0 then cmpSyms l m else orderSym a b
def cmpRule (a b : RuleD) : Int := if cmpInt a.1 b.1 = 0 then cmpSyms a.2 b.2 else cmpInt a.1 b.1
theorem cmpInt_zero {a b : Int} : cmpInt a b = 0 ↔ a = b := by unfold cmpInt; split <;> (try split) <;> omega
theorem orderSym_zero {a b : SymD} : orderSym a b = 0 ↔ a = b := by
 obtain ⟨a1, a2⟩ := a
 obtain ⟨b1, b2⟩ := b
 cases a1 <;> cases b1 <;> simp [orderSym, cmpInt_zero]
theorem cmpSyms_zero : ∀ {l m : List SymD}, cmpSyms l m = 0 ↔ l = m
 | [], [] => by simp [cmpSyms]
 | [], _ :: _ => by simp [cmpSyms]
 | _ :: _, [] => by simp [cmpSyms]
 | a :: l, b :: m => by
  unfold cmpSyms
  by_cases h : orderSym a b = 0
  ·
   rw [if_pos h, cmpSyms_zero]
   rw [orderSym_zero] at h
   simp [h]
  rw [if_neg h]
  have h2 : a ≠ b := fun e => h (orderSym_zero.2 e)
  simp [h, h2]
theorem cmpRule_zero {a b : RuleD} : cmpRule a b = 0 ↔ a = b := by
 unfold cmpRule
 by_cases h : cmpInt a.1 b.1 = 0
 ·
  rw [if_pos h, cmpSyms_zero]
  rw [cmpInt_zero] at h
  exact ⟨fun e => Prod.ext h e, fun e => by rw [e]⟩
 rw [if_neg h]
 exact ⟨fun e => absurd e h, fun e => absurd (cmpInt_zero.2 (by rw [e])) h⟩
theorem cmpSyms_drop {l m : List SymD} {k : Nat} {a b : SymD} (ha : l[k]? = some a) (hb : m[k]? = some b) : cmpSyms (l.drop k) (m.drop k) = if orderSym a b = 0 then cmpSyms (l.drop (k + 1)) (m.drop (k + 1)) else orderSym a b := by
 obtain ⟨h1, rfl⟩ := List.getElem?_eq_some_iff.1 ha
 obtain ⟨h2, rfl⟩ := List.getElem?_eq_some_iff.1 hb
 rw [List.drop_eq_getElem_cons h1, List.drop_eq_getElem_cons h2]
 rfl
theorem isNaN_ (x : Int) (w : World) : Calls Tryz.prog 60 #[.int .i64 x] w fun e w' => e = .returned (.bool false) ∧ w = w' := by
 go_enter Tryz.func60, Tryz.ntmps60
 go_wp2_with fail
 go_ret
 exact ⟨ret_bool (by simp), rfl⟩
theorem cmpCompare (a b : Int) (w : World) : Calls Tryz.prog 37 #[.int .i64 a, .int .i64 b] w fun e w' => e = .returned (.int .i64 (cmpInt a b)) ∧ w = w' := by
 have hd : cmpInt a b = if a < b then -1 else if b < a then 1 else 0 := rfl
 have HD := zh hd
 clear hd
 go_enter Tryz.func37, Tryz.ntmps37
 go_wp2_with (go_at_call 60; refine (isNaN_ _ _).mono ?_; rintro e w' ⟨rfl, rfl⟩)
 all_goals
  go_ret
  exact ⟨ret_int (by rw [HD.out]; split <;> (try split) <;> omega), rfl⟩
set_option maxHeartbeats 1000000 in
theorem gramOrder (a b : SymD) (w : World) : Calls Tryz.prog 82 #[.agg #[.bool a.1, .int .i64 a.2], .agg #[.bool b.1, .int .i64 b.2]] w fun e w' => e = .returned (.int .i64 (orderSym a b)) ∧ Below w.heap.size w w' := by
 have hb : Below w.heap.size w ((w.alloc (.cells #[.bool a.1, .int .i64 a.2] 62)).alloc (.cells #[.bool b.1, .int .i64 b.2] 62)) := ((Below.refl _ _).alloc (Nat.le_refl _) _).alloc (by simp) _
 have HB := zh hb
 clear hb
 obtain ⟨a1, a2⟩ := a
 obtain ⟨b1, b2⟩ := b
 dsimp only at *
 cases a1 <;> cases b1
 all_goals
  go_enter Tryz.func82, Tryz.ntmps82
  go_wp2_with (go_at_call 37; refine (cmpCompare _ _ _).mono ?_; rintro e w' ⟨rfl, rfl⟩)
  go_ret
  exact ⟨ret_int (by simp [orderSym]), HB.out⟩
theorem entersOrder : ∀ (args : Array Value) (u : World), (callFunc 82 args).run Tryz.prog u = .ok (.enter 82 args) u := enters_of Tryz.func82 (by kernel_rfl) rfl
set_option maxRecDepth 100000 in
set_option maxHeartbeats 1000000 in
theorem compareSyms (w : World) (S S' : Nat → Prop) (A : Option Addr) (n c : Nat) (l : List SymD) (hl : Sl RSym w S A n c l) (A' : Option Addr) (n' c' : Nat) (m : List SymD) (hm : Sl RSym w S' A' n' c' m) (hn : n ≤ 1000) (hn' : n' ≤ 1000) :
    Calls Tryz.prog 81 #[.slice A n c, .slice A' n' c', .func (.func 82) #[] #[]] w fun e w' => e = .returned (.int .i64 (cmpSyms l m)) ∧ Below w.heap.size w w' := by
 have HLL := zh hl.len
 have HLM := zh hm.len
 have HL := zh hl
 have HM := zh hm
 have he := entersOrder
 clear hl hm
 go_enter Tryz.func81, Tryz.ntmps81
 go_wp2_with fail
 go_loopg [13] n (fun gk i wr => ∃ k : Nat, k ≤ n ∧ k ≤ n' ∧ gk = n - k ∧ i = .int .i64 k ∧ cmpSyms l m = cmpSyms (l.drop k) (m.drop k) ∧ Below w.heap.size w wr)
 case atStart => exact ⟨0, Nat.zero_le _, Nat.zero_le _, rfl, rfl, rfl, Below.refl _ _⟩
 case round =>
  obtain ⟨k, hk, hk', hgk, rfl, heq, hb⟩ := hrel
  have HGK := zh hgk
  have HEQ := zh heq
  have HB := zh hb
  clear hgk heq hb
  by_cases hlt : k < n
  ·
   obtain ⟨b1, o1, s1, rfl, _, _, h1, h2, hs1⟩ := sym_at HL.out hlt
   replace h1 := Kept.below (S := fun _ => True) HB.out _ _ trivial h1
   replace h2 := Kept.below (S := fun _ => True) HB.out _ _ trivial h2
   by_cases hlt' : k < n'
   ·
    obtain ⟨b2, o2, s2, rfl, _, hb2, g1, g2, hs2⟩ := sym_at HM.out hlt'
    replace g1 := Kept.below (S := fun _ => True) HB.out _ _ trivial g1
    replace g2 := Kept.below (S := fun _ => True) HB.out _ _ trivial g2
    have hlb : b2 < wr.heap.size := cell_lt g1
    have hstep := cmpSyms_drop hs1 hs2
    have HSTEP := zh hstep
    clear hstep hs1 hs2
    go_wp2_with fail
    refine (gramOrder s1 s2 _).mono ?_
    rintro e w1 ⟨rfl, hb1⟩
    have hB1 : Below w.heap.size w w1 := (((HB.out.alloc HB.out.size _).alloc (by have := HB.out.size; simp; omega) _)).trans (hb1.mono (by have := HB.out.size; simp; omega))
    have HB1 := zh hB1
    clear hb1 hB1
    by_cases h0 : orderSym s1 s2 = 0
    ·
     have h0' : (orderSym s1 s2 != 0) = false := by simp [h0]
     have H0 := zh h0
     clear h0
     go_wp2_with fail
     go_roundg (n - (k + 1))
     case measure => rw [HGK.out]; omega
     case rel => exact ⟨k + 1, by omega, by omega, rfl, by go_num, by rw [HEQ.out, HSTEP.out, if_pos H0.out], HB1.out⟩
    have h0' : (orderSym s1 s2 != 0) = true := by simp [h0]
    have H0 := zh h0
    clear h0
    go_wp2_with fail
    go_ret
    exact ⟨ret_int (by rw [HEQ.out, HSTEP.out, if_neg H0.out]), HB1.out⟩
   obtain rfl : k = n' := by omega
   have hfin : cmpSyms (l.drop k) (m.drop k) = 1 := by
    rw [List.drop_of_length_le (l := m) (by rw [← HLM.out]; omega)]
    obtain ⟨h, _⟩ := List.getElem?_eq_some_iff.1 hs1
    rw [List.drop_eq_getElem_cons h]
    rfl
   have HF := zh hfin
   clear hfin hs1
   go_wp2_with fail
   go_ret
   exact ⟨ret_int (by rw [HEQ.out, HF.out]), HB.out.alloc HB.out.size _⟩
  obtain rfl : k = n := by omega
  by_cases hlt' : k < n'
  ·
   have hfin : cmpSyms (l.drop k) (m.drop k) = -1 := by
    rw [List.drop_of_length_le (l := l) (by rw [← HLL.out]; omega), List.drop_eq_getElem_cons (by rw [← HLM.out]; exact hlt')]
    rfl
   have HF := zh hfin
   clear hfin
   go_wp2_with fail
   go_ret
   exact ⟨ret_int (by rw [HEQ.out, HF.out]), HB.out⟩
  have hfin : cmpSyms (l.drop k) (m.drop k) = 0 := by
   rw [List.drop_of_length_le (l := l) (by rw [← HLL.out]; omega), List.drop_of_length_le (l := m) (by rw [← HLM.out]; omega)]
   rfl
  have HF := zh hfin
  clear hfin
  go_wp2_with fail
  go_ret
  exact ⟨ret_int (by rw [HEQ.out, HF.out]), HB.out⟩
def idxA {α : Type} (q : α → Bool) (l : List α) : Int := match l.findIdx? q with
 | some i => (i : Int)
 | none => -1
theorem idxA_hit {α : Type} {q : α → Bool} {l : List α} {k : Nat} {x : α} (h : l[k]? = some x) (hq : q x = true) (hno : ∀ j y, j < k → l[j]? = some y → q y = false) : idxA q l = k := by
 have : l.findIdx? q = some k := by
  rw [List.findIdx?_eq_some_iff_getElem]
  obtain ⟨hk, rfl⟩ := List.getElem?_eq_some_iff.1 h
  refine ⟨hk, hq, fun j hj => ?_⟩
  rw [hno j l[j] hj (List.getElem?_eq_getElem (by omega))]
  simp
 rw [idxA, this]
theorem idxA_none {α : Type} {q : α → Bool} {l : List α} (hno : ∀ (j : Nat) (y : α), l[j]? = some y → q y = false) : idxA q l = -1 := by
 have : l.findIdx? q = none := by
  rw [List.findIdx?_eq_none_iff]
  intro x hx
  obtain ⟨j, hj⟩ := List.getElem?_of_mem hx
  exact hno j x hj
 rw [idxA, this]
theorem idxA_any {α : Type} (q : α → Bool) (l : List α) : decide (0 ≤ idxA q l) = l.any q := by
 unfold idxA
 cases h : l.findIdx? q with
 | none =>
  rw [List.findIdx?_eq_none_iff] at h
  have : l.any q = false := by rw [List.any_eq_false]; intro x hx; simp [h x hx]
  rw [this]; simp
 | some i =>
  rw [List.findIdx?_eq_some_iff_getElem] at h
  obtain ⟨hi, hq, _⟩ := h
  have : l.any q = true := List.any_eq_true.2 ⟨_, List.getElem_mem hi, hq⟩
  rw [this]; simp
def TellsS (P : Program) (w0 : World) (G : SymD → Prop) (q : SymD → Bool) (F : FuncId) (caps : Array Value) : Prop :=
 ∀ (w : World), Below w0.heap.size w0 w → ∀ x : SymD, G x → Calls P F (#[.agg #[.bool x.1, .int .i64 x.2]] ++ caps) w fun e w' => e = .returned (.bool (q x)) ∧ Below w.heap.size w w'
set_option maxHeartbeats 1000000 in
theorem indexFnS (w : World) (F : FuncId) (caps : Array Value) (G : SymD → Prop) (q : SymD → Bool) (A : Option Addr) (n c : Nat) (S : Nat → Prop) (l : List SymD)
    (he : ∀ (args : Array Value) (u : World), (callFunc F args).run Tryz.prog u = .ok (.enter F args) u) (hF : TellsS Tryz.prog w G q F caps) (hr : Sl RSym w S A n c l) (hG : ∀ x ∈ l, G x) (hn : n ≤ 1000000000000) :
    Calls Tryz.prog 79 #[.slice A n c, .func (.func F) #[] caps] w fun e w' => e = .returned (.int .i64 (idxA q l)) ∧ Below w.heap.size w w' := by
 have HL := Lib.hid hr.len
 have HR := Lib.hid hr
 have HF := Lib.hid hF
 have HG := Lib.hid hG
 clear hr hF hG
 go_enter Tryz.func79, Tryz.ntmps79
 go_wp2_with fail
 go_loopw [8] (fun i wr => ∃ k : Nat, k ≤ n ∧ i = .int .i64 k ∧ (∀ j y, j < k → l[j]? = some y → q y = false) ∧ Below w.heap.size w wr) (fun i _ => n - (intOf i).toNat)
 case atStart => exact ⟨0, Nat.zero_le _, rfl, (fun j y hj _ => absurd hj (by omega)), Below.refl _ _⟩
 case round =>
  obtain ⟨k, hk, rfl, hno, hb⟩ := hrel
  have HNO := Lib.hid hno
  have HB := Lib.hid hb
  clear hno hb
  by_cases hlt : k < n
  ·
   obtain ⟨b, off, x, rfl, _, _, hc1, hc2, hx⟩ := sym_at HR.out hlt
   replace hc1 := Kept.below (S := fun _ => True) HB.out _ _ trivial hc1
   replace hc2 := Kept.below (S := fun _ => True) HB.out _ _ trivial hc2
   have HX := Lib.hid hx
   clear hx
   go_wp2_with fail
   refine (HF.out wr HB.out x (HG.out x (List.mem_of_getElem? HX.out))).mono ?_
   rintro e w1 ⟨rfl, hb1⟩
   have HB1 := Lib.hid (HB.out.trans (hb1.mono HB.out.size))
   clear hb1
   cases hq : q x with
   | true =>
    have HH := Lib.hid (idxA_hit HX.out hq HNO.out)
    clear hq
    go_wp2_with fail
    go_ret
    exact ⟨ret_int HH.out.symm, HB1.out⟩
   | false =>
    have HQ := Lib.hid hq
    clear hq
    go_wp2_with fail
    go_roundw
    case rel =>
     refine ⟨k + 1, by omega, by go_num, ?_, HB1.out⟩
     intro j y hj hy
     rcases Nat.lt_succ_iff_lt_or_eq.1 hj with h | rfl
     · exact HNO.out j y h hy
     rw [HX.out] at hy
     injection hy with hy
     rw [← hy]
     exact HQ.out
    case measure => simp [intOf]; omega
  go_wp2_with fail
  go_ret
  refine ⟨ret_int ?_, HB.out⟩
  rw [idxA_none]
  intro j y hy
  have hj := (List.getElem?_eq_some_iff.1 hy).1
  exact HNO.out j y (by have := HL.out; omega) hy
set_option maxHeartbeats 1000000 in
theorem containsFnS (w : World) (F : FuncId) (caps : Array Value) (G : SymD → Prop) (q : SymD → Bool) (A : Option Addr) (n c : Nat) (S : Nat → Prop) (l : List SymD)
    (he : ∀ (args : Array Value) (u : World), (callFunc F args).run Tryz.prog u = .ok (.enter F args) u) (hF : TellsS Tryz.prog w G q F caps) (hr : Sl RSym w S A n c l) (hG : ∀ x ∈ l, G x) (hn : n ≤ 1000000000000) :
    Calls Tryz.prog 61 #[.slice A n c, .func (.func F) #[] caps] w fun e w' => e = .returned (.bool (l.any q)) ∧ Below w.heap.size w w' := by
 have HR := Lib.hid hr
 have HF := Lib.hid hF
 have HG := Lib.hid hG
 have HE := Lib.hid he
 have HAN := Lib.hid (idxA_any q l)
 clear hr hF hG he
 go_enter Tryz.func61, Tryz.ntmps61
 go_wp2_with (go_at_call 79; refine (indexFnS _ F caps G q _ _ _ _ _ HE.out HF.out HR.out HG.out hn).mono ?_; rintro e w1 ⟨rfl, hb1⟩; have HB1 := Lib.hid hb1; clear hb1)
 go_ret
 exact ⟨ret_bool HAN.out, HB1.out⟩
def TellsR (P : Program) (w0 : World) (G : RuleD → Prop) (q : RuleD → Bool) (F : FuncId) (caps : Array Value) : Prop :=
 ∀ (w : World), Below w0.heap.size w0 w → ∀ (x : RuleD) (A : Option Addr) (m c : Nat) (S : Nat → Prop), Sl RSym w S A m c x.2 → G x → Calls P F (#[.agg #[.int .i64 x.1, .slice A m c]] ++ caps) w fun e w' => e = .returned (.bool (q x)) ∧ Below w.heap.size w w'
set_option maxHeartbeats 1000000 in
theorem indexFnR (w : World) (F : FuncId) (caps : Array Value) (G : RuleD → Prop) (q : RuleD → Bool) (A : Option Addr) (n c : Nat) (S : Nat → Prop) (l : List RuleD)
    (he : ∀ (args : Array Value) (u : World), (callFunc F args).run Tryz.prog u = .ok (.enter F args) u) (hF : TellsR Tryz.prog w G q F caps) (hr : Sl RRule w S A n c l) (hG : ∀ x ∈ l, G x) (hn : n ≤ 1000000000000) :
    Calls Tryz.prog 80 #[.slice A n c, .func (.func F) #[] caps] w fun e w' => e = .returned (.int .i64 (idxA q l)) ∧ Below w.heap.size w w' := by
 have HL := Lib.hid hr.len
 have HR := Lib.hid hr
 have HF := Lib.hid hF
 have HG := Lib.hid hG
 clear hr hF hG
 go_enter Tryz.func80, Tryz.ntmps80
 go_wp2_with fail
 go_loopw [8] (fun i wr => ∃ k : Nat, k ≤ n ∧ i = .int .i64 k ∧ (∀ j y, j < k → l[j]? = some y → q y = false) ∧ Below w.heap.size w wr) (fun i _ => n - (intOf i).toNat)
 case atStart => exact ⟨0, Nat.zero_le _, rfl, (fun j y hj _ => absurd hj (by omega)), Below.refl _ _⟩
 case round =>
  obtain ⟨k, hk, rfl, hno, hb⟩ := hrel
  have HNO := Lib.hid hno
  have HB := Lib.hid hb
  clear hno hb
  by_cases hlt : k < n
  ·
   obtain ⟨b, off, A2, m2, c2, x, rfl, _, _, hc1, hc2, hx, hxs⟩ := rule_at HR.out hlt
   have HXS := Lib.hid (hxs.below HB.out)
   clear hxs
   replace hc1 := Kept.below (S := fun _ => True) HB.out _ _ trivial hc1
   replace hc2 := Kept.below (S := fun _ => True) HB.out _ _ trivial hc2
   have HX := Lib.hid hx
   clear hx
   go_wp2_with fail
   refine (HF.out wr HB.out x _ _ _ _ HXS.out (HG.out x (List.mem_of_getElem? HX.out))).mono ?_
   rintro e w1 ⟨rfl, hb1⟩
   have HB1 := Lib.hid (HB.out.trans (hb1.mono HB.out.size))
   clear hb1
   cases hq : q x with
   | true =>
    have HH := Lib.hid (idxA_hit HX.out hq HNO.out)
    clear hq
    go_wp2_with fail
    go_ret
    exact ⟨ret_int HH.out.symm, HB1.out⟩
   | false =>
    have HQ := Lib.hid hq
    clear hq
    go_wp2_with fail
    go_roundw
    case rel =>
     refine ⟨k + 1, by omega, by go_num, ?_, HB1.out⟩
     intro j y hj hy
     rcases Nat.lt_succ_iff_lt_or_eq.1 hj with h | rfl
     · exact HNO.out j y h hy
     rw [HX.out] at hy
     injection hy with hy
     rw [← hy]
     exact HQ.out
    case measure => simp [intOf]; omega
  go_wp2_with fail
  go_ret
  refine ⟨ret_int ?_, HB.out⟩
  rw [idxA_none]
  intro j y hy
  have hj := (List.getElem?_eq_some_iff.1 hy).1
  exact HNO.out j y (by have := HL.out; omega) hy
set_option maxHeartbeats 1000000 in
theorem containsFnR (w : World) (F : FuncId) (caps : Array Value) (G : RuleD → Prop) (q : RuleD → Bool) (A : Option Addr) (n c : Nat) (S : Nat → Prop) (l : List RuleD)
    (he : ∀ (args : Array Value) (u : World), (callFunc F args).run Tryz.prog u = .ok (.enter F args) u) (hF : TellsR Tryz.prog w G q F caps) (hr : Sl RRule w S A n c l) (hG : ∀ x ∈ l, G x) (hn : n ≤ 1000000000000) :
    Calls Tryz.prog 64 #[.slice A n c, .func (.func F) #[] caps] w fun e w' => e = .returned (.bool (l.any q)) ∧ Below w.heap.size w w' := by
 have HR := Lib.hid hr
 have HF := Lib.hid hF
 have HG := Lib.hid hG
 have HE := Lib.hid he
 have HAN := Lib.hid (idxA_any q l)
 clear hr hF hG he
 go_enter Tryz.func64, Tryz.ntmps64
 go_wp2_with (go_at_call 80; refine (indexFnR _ F caps G q _ _ _ _ _ HE.out HF.out HR.out HG.out hn).mono ?_; rintro e w1 ⟨rfl, hb1⟩; have HB1 := Lib.hid hb1; clear hb1)
 go_ret
 exact ⟨ret_bool HAN.out, HB1.out⟩
end Go.Proofs.YtjnbjdbndbbanaaGreatDoor
