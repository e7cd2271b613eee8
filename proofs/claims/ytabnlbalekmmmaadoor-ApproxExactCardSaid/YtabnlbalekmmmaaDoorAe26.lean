/- DfaCheck SlIdxFn DfaRun -/
import Derived.Shelf.Abstract
import Derived.Test.YtabnlbalekmmmaaDoorAe05
import Derived.Test.YtabnlbalekmmmaaDoorAe07
namespace Go.Proofs.YtabnlbalekmmmaaDoor
open Go.RowKit
def cols (d : DfaD) : Nat := (d.2.2[0]?.getD []).length
structure Valid (d : DfaD) : Prop where
 n1 : 1 ≤ d.2.2.length
 n2 : d.2.2.length ≤ 200
 na : d.2.1.length = d.2.2.length
 c1 : 1 ≤ cols d
 c2 : cols d ≤ 16
 rows : ∀ r ∈ d.2.2, r.length = cols d ∧ ∀ x ∈ r, -1 ≤ x ∧ x < d.2.2.length
 st : 0 ≤ d.1 ∧ d.1 < d.2.2.length
 acc : ∀ x ∈ d.2.1, -1 ≤ x
theorem lmin_ge {l : List Int} (h1 : 1 ≤ l.length) {b : Int} (h : ∀ x ∈ l, b ≤ x) : b ≤ lmin l := by
 cases l with
 | nil => simp at h1
 | cons a r =>
  have ha := h a (by simp)
  have hr : ∀ x ∈ r, b ≤ x := fun x hx => h x (by simp [hx])
  clear h h1
  show b ≤ r.foldl min a
  induction r generalizing a with
  | nil => exact ha
  | cons y r ih => exact ih (min a y) (by have := hr y (by simp); omega) (fun x hx => hr x (by simp [hx]))
theorem lmax_lt {l : List Int} (h1 : 1 ≤ l.length) {b : Int} (h : ∀ x ∈ l, x < b) : lmax l < b := by
 cases l with
 | nil => simp at h1
 | cons a r =>
  have ha := h a (by simp)
  have hr : ∀ x ∈ r, x < b := fun x hx => h x (by simp [hx])
  clear h h1
  show r.foldl max a < b
  induction r generalizing a with
  | nil => exact ha
  | cons y r ih => exact ih (max a y) (by have := hr y (by simp); omega) (fun x hx => hr x (by simp [hx]))
theorem row_at {w : World} {S : Nat → Prop} {N : Option Addr} {n c k : Nat} {rows : List (List Int)} (h : Sl RI w S N n c rows) (hk : k < n) :
    ∃ b off A' m c' r, N = some ⟨b, off, none⟩ ∧ S b ∧ b < w.heap.size ∧ w.cell? ⟨b, off + k, none⟩ = some (.slice A' m c') ∧ rows[k]? = some r ∧ Sl Rep.int w S A' m c' r := by
 obtain ⟨b, off, u, a, e, hS, hx, hok, hc⟩ := h.at_ rfl hk
 obtain ⟨A', m, c', e2, hs⟩ := hok
 injection e2 with e2 _
 subst e2
 exact ⟨b, off, A', m, c', a, e, hS, cell_lt hc, hc, hx, hs⟩
set_option maxRecDepth 100000 in
set_option maxHeartbeats 2000000 in
theorem dfaCheck (w : World) (S : Nat → Prop) (A : Option Addr) (nA cA : Nat) (N : Option Addr) (n cN : Nat) (d : DfaD) (hA : Sl Rep.int w S A nA cA d.2.1) (hN : Sl RI w S N n cN d.2.2) (hv : Valid d) :
    Calls Tryd.prog 68 #[.agg #[.int .i64 d.1, .slice A nA cA, .slice N n cN]] w fun e w' => e = .returned (.int .i64 0) ∧ Below w.heap.size w w' := by
 have e1 := hA.len
 have e2 := hN.len
 rw [hv.na, ← e2] at e1
 subst e1
 have hn1 : 1 ≤ nA := by have := hv.n1; omega
 have hn2 : nA ≤ 200 := by have := hv.n2; omega
 obtain ⟨hs1, hs2⟩ := hv.st
 rw [← e2] at hs2
 have hc1 := hv.c1
 have hc2 := hv.c2
 have hrow : ∀ k : Nat, k < nA → ∃ b off A' c' r, N = some ⟨b, off, none⟩ ∧ b < w.heap.size ∧ w.cell? ⟨b, off + k, none⟩ = some (.slice A' (cols d) c') ∧ Sl Rep.int w S A' (cols d) c' r ∧ 1 ≤ r.length ∧ ∀ x ∈ r, -1 ≤ x ∧ x < nA := by
  intro k hk
  obtain ⟨b, off, A', m, c', r, e, _, hb, hc, hr, hs⟩ := row_at hN hk
  obtain ⟨h1, h2⟩ := hv.rows r (List.mem_of_getElem? hr)
  have := hs.len
  obtain rfl : m = cols d := by omega
  exact ⟨b, off, A', c', r, e, hb, hc, hs, by omega, by rw [e2]; exact h2⟩
 obtain ⟨bN, offN, A0, c0, _, rfl, hbN, hcell0, _⟩ := hrow 0 hn1
 rw [Nat.add_zero] at hcell0
 have hmin := lmin_ge (l := d.2.1) (b := -1) (by rw [hv.na, ← e2]; exact hn1) hv.acc
 have HROW := Lib.hid hrow
 have HA := Lib.hid hA
 clear e2 hv hrow hA hN
 obtain ⟨start, acc, rows⟩ := d
 dsimp only at *
 generalize cols (start, acc, rows) = C at *
 have hne : ((nA : Int) == 0) = false := by simp; omega
 have hce : ((C : Int) == 0) = false := by simp; omega
 go_enter Tryd.func68, Tryd.ntmps68
 go_wp2_with fail
 go_loop [35] (fun i => ∃ k : Nat, k ≤ nA ∧ i = .int .i64 k) (fun i => nA - (intOf i).toNat)
 case atStart => exact ⟨0, Nat.zero_le _, rfl⟩
 case round =>
  obtain ⟨k, hk, rfl⟩ := hrel
  by_cases hlt : k < nA
  ·
   obtain ⟨b', off', A', c', r, e, _, hcell, hsr, _⟩ := HROW.out k hlt
   injection e with e
   injection e with e1 e2
   subst e1
   subst e2
   clear hsr
   go_wp2_with fail
   go_round
   case rel => exact ⟨k + 1, by omega, by go_num⟩
   case measure => simp [intOf]; omega
  ·
   obtain rfl : k = nA := by omega
   have hsb : decide (start < 0) = false := by simp; omega
   have hsb2 : decide ((k : Int) ≤ start) = false := by simp; omega
   have hmb : decide (lmin acc < -1) = false := by simp; omega
   go_wp2_with (go_at_call 103; refine (minInt _ _ _ _ _ _ (HA.out.alloc _).ints (by omega) (by omega)).mono ?_; rintro e w' ⟨rfl, rfl⟩)
   go_loop [6, 71] (fun b i => b = .bool false ∧ ∃ j : Nat, j ≤ k ∧ i = .int .i64 j) (fun _ i => k - (intOf i).toNat)
   case atStart => exact ⟨rfl, 0, Nat.zero_le _, rfl⟩
   case round =>
    obtain ⟨rfl, j, hj, rfl⟩ := hrel
    by_cases hjl : j < k
    ·
     obtain ⟨b', off', A', c', r, e, _, hcell, hsr, hr1, hrx⟩ := HROW.out j hjl
     injection e with e
     injection e with e1 e2
     subst e1
     subst e2
     have hm1 := lmin_ge hr1 (fun x hx => (hrx x hx).1)
     have hm2 := lmax_lt hr1 (fun x hx => (hrx x hx).2)
     have HSR := Lib.hid hsr
     have hb1 : decide (lmin r < -1) = false := by simp; omega
     have hb2 : decide ((k : Int) ≤ lmax r) = false := by simp; omega
     clear hsr hrx
     go_wp2_with (first
      | (go_at_call 103; refine (minInt _ _ _ _ _ _ (HSR.out.alloc _).ints (by omega) (by omega)).mono ?_; rintro e w' ⟨rfl, rfl⟩)
      | (go_at_call 104; refine (maxInt _ _ _ _ _ _ (HSR.out.alloc _).ints (by omega) (by omega)).mono ?_; rintro e w' ⟨rfl, rfl⟩))
     go_round
     case rel => exact ⟨rfl, j + 1, by omega, by go_num⟩
     case measure => simp [intOf]; omega
    ·
     obtain rfl : j = k := by omega
     go_wp2_with fail
     go_ret
     exact ⟨rfl, (Below.refl _ _).alloc (Nat.le_refl _) _⟩
end Go.Proofs.YtabnlbalekmmmaaDoor
namespace Go.Proofs.YtabnlbalekmmmaaDoor
open Go.RowKit
def TellsI (P : Program) (w0 : World) (G : Int → Prop) (q : Int → Bool) (F : FuncId) (caps : Array Value) : Prop :=
 ∀ (w : World), Below w0.heap.size w0 w → ∀ x : Int, G x → Calls P F (#[.int .i64 x] ++ caps) w fun e w' => e = .returned (.bool (q x)) ∧ Below w.heap.size w w'
def idxFn (q : Int → Bool) (l : List Int) : Int := match l.findIdx? q with
 | some i => (i : Int)
 | none => -1
theorem idxFn_hit {q : Int → Bool} {l : List Int} {k : Nat} {x : Int} (h : l[k]? = some x) (hq : q x = true) (hno : ∀ j y, j < k → l[j]? = some y → q y = false) : idxFn q l = k := by
 have : l.findIdx? q = some k := by
  rw [List.findIdx?_eq_some_iff_getElem]
  obtain ⟨hk, rfl⟩ := List.getElem?_eq_some_iff.1 h
  refine ⟨hk, hq, fun j hj => ?_⟩
  rw [hno j l[j] hj (List.getElem?_eq_getElem (by omega))]
  simp
 rw [idxFn, this]
theorem idxFn_none {q : Int → Bool} {l : List Int} (hno : ∀ (j : Nat) (y : Int), l[j]? = some y → q y = false) : idxFn q l = -1 := by
 have : l.findIdx? q = none := by
  rw [List.findIdx?_eq_none_iff]
  intro x hx
  obtain ⟨j, hj⟩ := List.getElem?_of_mem hx
  exact hno j x hj
 rw [idxFn, this]
set_option maxHeartbeats 1000000 in
theorem indexFnInt (w : World) (F : FuncId) (caps : Array Value) (G : Int → Prop) (q : Int → Bool) (A : Option Addr) (n c : Nat) (S : Nat → Prop) (l : List Int)
    (he : ∀ (args : Array Value) (u : World), (callFunc F args).run Tryd.prog u = .ok (.enter F args) u) (hF : TellsI Tryd.prog w G q F caps) (hr : Rd w S 1 A n (l.map (Value.int .i64))) (hG : ∀ x ∈ l, G x) (hn : n ≤ 1000000000000) :
    Calls Tryd.prog 105 #[.slice A n c, .func (.func F) #[] caps] w fun e w' => e = .returned (.int .i64 (idxFn q l)) ∧ Below w.heap.size w w' := by
 have hl : l.length = n := by simpa using hr.1
 have HL := Lib.hid hl
 have HR := Lib.hid hr
 have HF := Lib.hid hF
 have HG := Lib.hid hG
 clear hl hr hF hG
 go_enter Tryd.func105, Tryd.ntmps105
 go_wp2_with fail
 go_loopw [8] (fun i wr => ∃ k : Nat, k ≤ n ∧ i = .int .i64 k ∧ (∀ j y, j < k → l[j]? = some y → q y = false) ∧ Below w.heap.size w wr) (fun i _ => n - (intOf i).toNat)
 case atStart => exact ⟨0, Nat.zero_le _, rfl, (fun j y hj _ => absurd hj (by omega)), Below.refl _ _⟩
 case round =>
  obtain ⟨k, hk, rfl, hno, hb⟩ := hrel
  have HNO := Lib.hid hno
  have HB := Lib.hid hb
  clear hno hb
  by_cases hlt : k < n
  ·
   obtain ⟨b, off, x, rfl, _, hx, hcell0⟩ := HR.out.int_at hlt
   have hcell : wr.cell? ⟨b, off + k, none⟩ = some (.int .i64 x) := Kept.below (S := fun _ => True) HB.out _ _ trivial hcell0
   have HX := Lib.hid hx
   clear hx hcell0
   go_wp2_with fail
   refine (HF.out wr HB.out x (HG.out x (List.mem_of_getElem? HX.out))).mono ?_
   rintro e w1 ⟨rfl, hb1⟩
   have HB1 := Lib.hid (HB.out.trans (hb1.mono HB.out.size))
   clear hb1
   cases hq : q x with
   | true =>
    have HH := Lib.hid (idxFn_hit HX.out hq HNO.out)
    clear hq
    go_wp2_with fail
    go_ret
    exact ⟨ret_int HH.out.symm, HB1.out⟩
   | false =>
    have HQ := Lib.hid hq
    clear hq
    go_wp2_with fail
    go_roundw
    case rel =>
     refine ⟨k + 1, by omega, by go_num, ?_, HB1.out⟩
     intro j y hj hy
     rcases Nat.lt_succ_iff_lt_or_eq.1 hj with h | rfl
     ·
      exact HNO.out j y h hy
     ·
      rw [HX.out] at hy
      injection hy with hy
      rw [← hy]
      exact HQ.out
    case measure => simp [intOf]; omega
  ·
   go_wp2_with fail
   go_ret
   refine ⟨ret_int ?_, HB.out⟩
   rw [idxFn_none]
   intro j y hy
   have hj := (List.getElem?_eq_some_iff.1 hy).1
   exact HNO.out j y (by rw [HL.out] at hj; omega) hy
set_option maxHeartbeats 1000000 in
theorem containsFnInt (w : World) (F : FuncId) (caps : Array Value) (G : Int → Prop) (q : Int → Bool) (A : Option Addr) (n c : Nat) (S : Nat → Prop) (l : List Int)
    (he : ∀ (args : Array Value) (u : World), (callFunc F args).run Tryd.prog u = .ok (.enter F args) u) (hF : TellsI Tryd.prog w G q F caps) (hr : Rd w S 1 A n (l.map (Value.int .i64))) (hG : ∀ x ∈ l, G x) (hn : n ≤ 1000000000000) :
    Calls Tryd.prog 69 #[.slice A n c, .func (.func F) #[] caps] w fun e w' => e = .returned (.bool (decide (0 ≤ idxFn q l))) ∧ Below w.heap.size w w' := by
 have HR := Lib.hid hr
 have HF := Lib.hid hF
 have HG := Lib.hid hG
 have HE := Lib.hid he
 clear hr hF hG he
 go_enter Tryd.func69, Tryd.ntmps69
 go_wp2_with (go_at_call 105; refine (indexFnInt _ F caps G q _ _ _ _ _ HE.out HF.out HR.out HG.out hn).mono ?_; rintro e w1 ⟨rfl, hb1⟩; have HB1 := Lib.hid hb1; clear hb1)
 go_ret
 exact ⟨rfl, HB1.out⟩
end Go.Proofs.YtabnlbalekmmmaaDoor
namespace Go.Proofs.YtabnlbalekmmmaaDoor
open Go.RowKit
def dto (d : DfaD) (s c : Int) : Int := if s < 0 then -1 else ((d.2.2[s.toNat]?.getD [])[c.toNat]?).getD 0
def dat (d : DfaD) (s : Int) : Int := if s < 0 then -1 else (d.2.1[s.toNat]?).getD 0
def drun (d : DfaD) (l : List Int) : Int := l.foldl (dto d) d.1
def daccept (d : DfaD) (l : List Int) : Bool := decide (0 ≤ dat d (drun d l))
theorem drun_snoc (d : DfaD) (l : List Int) (c : Int) : drun d (l ++ [c]) = dto d (drun d l) c := by simp [drun]
theorem dto_range {d : DfaD} (hv : Valid d) {s c : Int} (hs : -1 ≤ s ∧ s < d.2.2.length) (hc : 0 ≤ c ∧ c < cols d) : -1 ≤ dto d s c ∧ dto d s c < d.2.2.length := by
 unfold dto
 split
 ·
  have := hv.n1; omega
 ·
  have h1 : s.toNat < d.2.2.length := by omega
  rw [List.getElem?_eq_getElem h1]
  obtain ⟨hl, hx⟩ := hv.rows _ (List.getElem_mem h1)
  have h2 : c.toNat < (d.2.2[s.toNat]).length := by omega
  simp only [Option.getD_some, List.getElem?_eq_getElem h2]
  exact hx _ (List.getElem_mem h2)
theorem drun_range {d : DfaD} (hv : Valid d) : ∀ {l : List Int}, (∀ x ∈ l, 0 ≤ x ∧ x < cols d) → ∀ {s : Int}, -1 ≤ s ∧ s < d.2.2.length → -1 ≤ l.foldl (dto d) s ∧ l.foldl (dto d) s < d.2.2.length
 | [], _, _, hs => hs
 | c :: l, h, s, hs => drun_range hv (l := l) (fun x hx => h x (by simp [hx])) (dto_range hv hs (h c (by simp)))
theorem cell_at {w : World} {S : Nat → Prop} {N : Option Addr} {n cN : Nat} {d : DfaD} (hN : Sl RI w S N n cN d.2.2) (hv : Valid d) {s c : Int} (hs : 0 ≤ s ∧ s < d.2.2.length) (hc : 0 ≤ c ∧ c < cols d) :
    ∃ b off b' off' m c', N = some ⟨b, off, none⟩ ∧ w.cell? ⟨b, off + s.toNat, none⟩ = some (.slice (some ⟨b', off', none⟩) m c') ∧ w.cell? ⟨b', off' + c.toNat, none⟩ = some (.int .i64 (dto d s c)) ∧ m = cols d ∧ n = d.2.2.length := by
 have hn := hN.len
 obtain ⟨b, off, A', m, c', r, e, _, _, hc1, hr, hs'⟩ := row_at hN (k := s.toNat) (by omega)
 obtain ⟨hl, _⟩ := hv.rows r (List.mem_of_getElem? hr)
 have hm := hs'.len
 obtain ⟨b', off', x, rfl, _, hx, hc2⟩ := hs'.ints.int_at (k := c.toNat) (by omega)
 refine ⟨b, off, b', off', m, c', e, hc1, ?_, by omega, hn⟩
 have : dto d s c = x := by
  unfold dto
  rw [if_neg (by omega), hr]
  simp [hx]
 rw [this]
 exact hc2
theorem acc_at {w : World} {S : Nat → Prop} {A : Option Addr} {n cA : Nat} {d : DfaD} (hA : Sl Rep.int w S A n cA d.2.1) (hv : Valid d) {s : Int} (hs : 0 ≤ s ∧ s < d.2.2.length) :
    ∃ b off, A = some ⟨b, off, none⟩ ∧ w.cell? ⟨b, off + s.toNat, none⟩ = some (.int .i64 (dat d s)) ∧ n = d.2.2.length := by
 have hn := hA.len
 have hna := hv.na
 obtain ⟨b, off, x, e, _, hx, hc⟩ := hA.ints.int_at (k := s.toNat) (by omega)
 refine ⟨b, off, e, ?_, by omega⟩
 have : dat d s = x := by
  unfold dat
  rw [if_neg (by omega), hx]
  rfl
 rw [this]
 exact hc
set_option maxHeartbeats 1000000 in
theorem dfaTo (w : World) (S : Nat → Prop) (A : Option Addr) (nA cA : Nat) (N : Option Addr) (n cN : Nat) (d : DfaD) (hN : Sl RI w S N n cN d.2.2) (hv : Valid d) (s c : Int) (hs : -1 ≤ s ∧ s < d.2.2.length) (hc : 0 ≤ c ∧ c < cols d) :
    Calls Tryd.prog 71 #[.agg #[.int .i64 d.1, .slice A nA cA, .slice N n cN], .int .i64 s, .int .i64 c] w fun e w' => e = .returned (.int .i64 (dto d s c)) ∧ Below w.heap.size w w' := by
 by_cases h0 : s < 0
 ·
  have hd : dto d s c = -1 := by unfold dto; rw [if_pos h0]
  have HD := Lib.hid hd
  clear hN hv hs hc hd
  go_enter Tryd.func71, Tryd.ntmps71
  go_wp2_with fail
  go_ret
  exact ⟨ret_int HD.out.symm, (Below.refl _ _).alloc (Nat.le_refl _) _⟩
 ·
  obtain ⟨b, off, b', off', m, c', rfl, hc1, hc2, hm, hn⟩ := cell_at hN hv (s := s) (c := c) ⟨by omega, hs.2⟩ hc
  have l1 := cell_lt hc1
  have l2 := cell_lt hc2
  have i1 : (0 : Int) ≤ s := by omega
  have i2 : s < (n : Int) := by omega
  have i3 : (0 : Int) ≤ c := hc.1
  have i4 : c < (m : Int) := by rw [hm]; exact hc.2
  clear hN hv hs hc hm hn
  generalize dto d s c = q at *
  go_enter Tryd.func71, Tryd.ntmps71
  go_wp2_with fail
  go_ret
  exact ⟨rfl, (Below.refl _ _).alloc (Nat.le_refl _) _⟩
set_option maxHeartbeats 1000000 in
theorem dfaAt (w : World) (S : Nat → Prop) (A : Option Addr) (nA cA : Nat) (N : Option Addr) (n cN : Nat) (d : DfaD) (hA : Sl Rep.int w S A nA cA d.2.1) (hv : Valid d) (s : Int) (hs : -1 ≤ s ∧ s < d.2.2.length) :
    Calls Tryd.prog 72 #[.agg #[.int .i64 d.1, .slice A nA cA, .slice N n cN], .int .i64 s] w fun e w' => e = .returned (.int .i64 (dat d s)) ∧ Below w.heap.size w w' := by
 by_cases h0 : s < 0
 ·
  have hd : dat d s = -1 := by unfold dat; rw [if_pos h0]
  have HD := Lib.hid hd
  clear hA hv hs hd
  go_enter Tryd.func72, Tryd.ntmps72
  go_wp2_with fail
  go_ret
  exact ⟨ret_int HD.out.symm, (Below.refl _ _).alloc (Nat.le_refl _) _⟩
 ·
  obtain ⟨b, off, rfl, hc1, hn⟩ := acc_at hA hv (s := s) ⟨by omega, hs.2⟩
  have l1 := cell_lt hc1
  have i1 : (0 : Int) ≤ s := by omega
  have i2 : s < (nA : Int) := by omega
  clear hA hv hs hn
  generalize dat d s = q at *
  go_enter Tryd.func72, Tryd.ntmps72
  go_wp2_with fail
  go_ret
  exact ⟨rfl, (Below.refl _ _).alloc (Nat.le_refl _) _⟩
theorem runFn (w : World) (S : Nat → Prop) (B : Nat) (N : Option Addr) (n cN : Nat) (d : DfaD) (hN : Sl RI w S N n cN d.2.2) (hv : Valid d) (hB : w.cell? ⟨B, 2, none⟩ = some (.slice N n cN)) (c : Int) (hc : 0 ≤ c ∧ c < cols d) :
    Calls Tryd.prog 70 #[.int .i64 c, .pointer (some ⟨B, 0, none⟩)] w fun e w' => e = .returned (.bool false) ∧ Below w.heap.size w w' := by
 obtain ⟨b, off, b', off', m, c', rfl, hc1, _, hm, hn⟩ := cell_at hN hv (s := 0) (c := c) ⟨by omega, by have := hv.n1; omega⟩ hc
 rw [show (0 : Int).toNat = 0 from rfl, Nat.add_zero] at hc1
 have i2 : (0 : Int) < (n : Int) := by have := hv.n1; omega
 have i3 : decide (c < 0) = false := by simp; omega
 have i4 : decide ((m : Int) ≤ c) = false := by rw [hm]; simp; omega
 have i5 : 0 < n := by omega
 clear hN hv hc hm hn
 go_enter Tryd.func70, Tryd.ntmps70
 go_wp2_with fail
 go_ret
 exact ⟨rfl, Below.refl _ _⟩
theorem tellsRun (w : World) (S : Nat → Prop) (B : Nat) (N : Option Addr) (n cN : Nat) (d : DfaD) (hN : Sl RI w S N n cN d.2.2) (hv : Valid d) (hB : w.cell? ⟨B, 2, none⟩ = some (.slice N n cN)) :
    TellsI Tryd.prog w (fun c => 0 ≤ c ∧ c < cols d) (fun _ => false) 70 #[.pointer (some ⟨B, 0, none⟩)] := fun w' hb x hx =>
 runFn w' S B N n cN d (hN.keep (.below hb)) hv ((hb.cell (p := ⟨B, 2, none⟩) (cell_lt hB)).trans hB) x hx
theorem entersRun : ∀ (args : Array Value) (u : World), (callFunc 70 args).run Tryd.prog u = .ok (.enter 70 args) u := enters_of Tryd.func70 (by kernel_rfl) rfl
set_option maxHeartbeats 2000000 in
theorem dfaRun (w : World) (S : Nat → Prop) (A : Option Addr) (nA cA : Nat) (N : Option Addr) (n cN : Nat) (d : DfaD) (hA : Sl Rep.int w S A nA cA d.2.1) (hN : Sl RI w S N n cN d.2.2) (hv : Valid d)
    (Sw : Nat → Prop) (Aw : Option Addr) (nw cw : Nat) (l : List Int) (hw : Sl Rep.int w Sw Aw nw cw l) (hl : nw ≤ 4000) (hx : ∀ x ∈ l, 0 ≤ x ∧ x < cols d) :
    Calls Tryd.prog 37 #[.agg #[.int .i64 d.1, .slice A nA cA, .slice N n cN], .slice Aw nw cw] w fun e w' => e = .returned (.tuple #[.int .i64 (dat d (drun d l)), .int .i64 0]) ∧ Below w.heap.size w w' := by
 have HLEN := Lib.hid hw.len
 have HA := Lib.hid hA
 have HN := Lib.hid hN
 have HV := Lib.hid hv
 have HW := Lib.hid hw
 have HX := Lib.hid hx
 clear hA hN hv hw hx
 have hq : idxFn (fun _ => false) l = -1 := idxFn_none fun _ _ _ => rfl
 have hdq : decide (0 ≤ idxFn (fun _ => false) l) = false := by rw [hq]; rfl
 clear hq
 go_enter Tryd.func37, Tryd.ntmps37
 go_wp2_with fail
 refine (dfaCheck _ S _ _ _ _ _ _ d (HA.out.alloc _) (HN.out.alloc _) HV.out).mono ?_
 rintro e w1 ⟨rfl, hb1⟩
 have HB1 := Lib.hid (((Below.refl w.heap.size w).alloc (Nat.le_refl _) _).trans (hb1.mono (by simp)))
 have hz1 : w.heap.size + 1 ≤ w1.heap.size := by have := hb1.size; simp at this; omega
 have hc0 : w1.cell? ⟨w.heap.size, 0, none⟩ = some (.int .i64 d.1) := by rw [hb1.cell (by simp)]; simp
 have hc1 : w1.cell? ⟨w.heap.size, 1, none⟩ = some (.slice A nA cA) := by rw [hb1.cell (by simp)]; simp
 have hc2 : w1.cell? ⟨w.heap.size, 2, none⟩ = some (.slice N n cN) := by rw [hb1.cell (by simp)]; simp
 clear hb1
 go_wp2_with fail
 refine (containsFnInt _ _ _ _ _ _ _ _ _ _ entersRun (tellsRun w1 S w.heap.size N n cN d (HN.out.below HB1.out) HV.out hc2) (HW.out.below HB1.out).ints HX.out (by omega)).mono ?_
 rintro e w2 ⟨rfl, hb2⟩
 have HB2 := Lib.hid (HB1.out.trans (hb2.mono (by omega)))
 have hz2 : w.heap.size + 1 ≤ w2.heap.size := by have := hb2.size; omega
 replace hc0 : w2.cell? ⟨w.heap.size, 0, none⟩ = some (.int .i64 d.1) := (hb2.cell (by simp; omega)).trans hc0
 replace hc1 : w2.cell? ⟨w.heap.size, 1, none⟩ = some (.slice A nA cA) := (hb2.cell (by simp; omega)).trans hc1
 replace hc2 : w2.cell? ⟨w.heap.size, 2, none⟩ = some (.slice N n cN) := (hb2.cell (by simp; omega)).trans hc2
 clear hb2 hz1
 go_wp2_with fail
 have hst : ∃ k : Nat, k ≤ nw ∧ drun d (l.take 0) = d.1 := ⟨0, Nat.zero_le _, rfl⟩
 have HC0 := Lib.hid hc0
 have HC1 := Lib.hid hc1
 have HC2 := Lib.hid hc2
 clear hc0 hc1 hc2 hst hdq
 go_loopw [7, 25] (fun t i wr => ∃ k : Nat, k ≤ nw ∧ i = .int .i64 k ∧ t = .int .i64 (drun d (l.take k)) ∧ Below w2.heap.size w2 wr) (fun _ i _ => nw - (intOf i).toNat)
 case atStart => exact ⟨0, Nat.zero_le _, rfl, rfl, Below.refl _ _⟩
 case round =>
  obtain ⟨k, hk, rfl, rfl, hb⟩ := hrel
  have hc0 : wr.cell? ⟨w.heap.size, 0, none⟩ = some (.int .i64 d.1) := (hb.cell (by simp; omega)).trans HC0.out
  have hc1 : wr.cell? ⟨w.heap.size, 1, none⟩ = some (.slice A nA cA) := (hb.cell (by simp; omega)).trans HC1.out
  have hc2 : wr.cell? ⟨w.heap.size, 2, none⟩ = some (.slice N n cN) := (hb.cell (by simp; omega)).trans HC2.out
  have hbw : Below w.heap.size w wr := HB2.out.trans (hb.mono (by omega))
  have hrange := drun_range HV.out (l := l.take k) (fun x hx => HX.out x (List.mem_of_mem_take hx)) (s := d.1) ⟨by have := HV.out.st; omega, HV.out.st.2⟩
  have HRG := Lib.hid hrange
  have HB := Lib.hid hb
  have HBW := Lib.hid hbw
  clear hb hbw hrange
  by_cases hlt : k < nw
  ·
   obtain ⟨b, off, x, rfl, _, hx, hcell0⟩ := HW.out.ints.int_at hlt
   have hcell : wr.cell? ⟨b, off + k, none⟩ = some (.int .i64 x) := Kept.below (S := fun _ => True) HBW.out _ _ trivial hcell0
   have HXK := Lib.hid hx
   clear hx hcell0
   go_wp2_with fail
   refine (dfaTo _ S _ _ _ _ _ _ d (HN.out.below HBW.out) HV.out _ _ HRG.out (HX.out x (List.mem_of_getElem? HXK.out))).mono ?_
   rintro e w3 ⟨rfl, hb3⟩
   have HB3 := Lib.hid (HB.out.trans (hb3.mono HB.out.size))
   clear hb3
   go_wp2_with fail
   go_roundw
   case rel => exact ⟨k + 1, by omega, by go_num, by rw [int_step HXK.out, drun_snoc]; rfl, HB3.out⟩
   case measure => simp [intOf]; omega
  ·
   obtain rfl : k = nw := by omega
   have ht : l.take k = l := List.take_of_length_le (by rw [← HLEN.out]; omega)
   rw [ht] at HRG ⊢
   clear ht
   go_wp2_with fail
   refine (dfaAt _ S _ _ _ _ _ _ d (HA.out.below HBW.out) HV.out _ HRG.out).mono ?_
   rintro e w3 ⟨rfl, hb3⟩
   have HB3 := Lib.hid (HBW.out.trans (hb3.mono HBW.out.size))
   clear hb3
   go_wp2_with fail
   go_ret2
   exact ⟨rfl, HB3.out⟩
set_option maxHeartbeats 1000000 in
theorem keepAccepts (w : World) (S : Nat → Prop) (A : Option Addr) (nA cA : Nat) (N : Option Addr) (n cN : Nat) (d : DfaD) (hA : Sl Rep.int w S A nA cA d.2.1) (hN : Sl RI w S N n cN d.2.2) (hv : Valid d)
    (Sw : Nat → Prop) (Aw : Option Addr) (nw cw : Nat) (l : List Int) (hw : Sl Rep.int w Sw Aw nw cw l) (hl : nw ≤ 4000) (hx : ∀ x ∈ l, 0 ≤ x ∧ x < cols d) :
    Calls Tryd.prog 11 #[.agg #[.int .i64 d.1, .slice A nA cA, .slice N n cN], .slice Aw nw cw] w fun e w' => e = .returned (.bool (daccept d l)) ∧ Below w.heap.size w w' := by
 have hd : daccept d l = decide (0 ≤ dat d (drun d l)) := rfl
 have HD := Lib.hid hd
 have HA := Lib.hid hA
 have HN := Lib.hid hN
 have HV := Lib.hid hv
 have HW := Lib.hid hw
 have HX := Lib.hid hx
 clear hA hN hv hw hx hd
 go_enter Tryd.func11, Tryd.ntmps11
 go_wp2_with fail
 refine (dfaRun _ S _ _ _ _ _ _ d (HA.out.alloc _) (HN.out.alloc _) HV.out Sw _ _ _ l (HW.out.alloc _) hl HX.out).mono ?_
 rintro e w1 ⟨rfl, hb1⟩
 have HB1 := Lib.hid (((Below.refl w.heap.size w).alloc (Nat.le_refl _) _).trans (hb1.mono (by simp)))
 clear hb1
 go_wp2_with fail
 go_ret
 exact ⟨ret_bool HD.out.symm, HB1.out⟩
end Go.Proofs.YtabnlbalekmmmaaDoor
