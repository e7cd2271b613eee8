/- DfaCheck SlIdxFn -/
import Derived.Shelf.Abstract
import Derived.Test.YtbmcoamdfpegnaaMt05
import Derived.Test.YtbmcoamdfpegnaaMt06
namespace Go.Proofs.Ytbmcoamdfpegnaa
open Go.RowKit
def cols (d : DfaD) : Nat := (d.2.2[0]?.getD []).length
structure Valid (d : DfaD) : Prop where
 n1 : 1 ≤ d.2.2.length
 n2 : d.2.2.length ≤ 200
 na : d.2.1.length = d.2.2.length
 c1 : 1 ≤ cols d
 c2 : cols d ≤ 16
 rows : ∀ r ∈ d.2.2, r.length = cols d ∧ ∀ x ∈ r, -1 ≤ x ∧ x < d.2.2.length
 st : 0 ≤ d.1 ∧ d.1 < d.2.2.length
 acc : ∀ x ∈ d.2.1, -1 ≤ x
theorem lmin_ge {l : List Int} (h1 : 1 ≤ l.length) {b : Int} (h : ∀ x ∈ l, b ≤ x) : b ≤ lmin l := by
 cases l with
 | nil => simp at h1
 | cons a r =>
  have ha := h a (by simp)
  have hr : ∀ x ∈ r, b ≤ x := fun x hx => h x (by simp [hx])
  clear h h1
  show b ≤ r.foldl min a
  induction r generalizing a with
  | nil => exact ha
  | cons y r ih => exact ih (min a y) (by have := hr y (by simp); omega) (fun x hx => hr x (by simp [hx]))
theorem lmax_lt {l : List Int} (h1 : 1 ≤ l.length) {b : Int} (h : ∀ x ∈ l, x < b) : lmax l < b := by
 cases l with
 | nil => simp at h1
 | cons a r =>
  have ha := h a (by simp)
  have hr : ∀ x ∈ r, x < b := fun x hx => h x (by simp [hx])
  clear h h1
  show r.foldl max a < b
  induction r generalizing a with
  | nil => exact ha
  | cons y r ih => exact ih (max a y) (by have := hr y (by simp); omega) (fun x hx => hr x (by simp [hx]))
theorem row_at {w : World} {S : Nat → Prop} {N : Option Addr} {n c k : Nat} {rows : List (List Int)} (h : Sl RI w S N n c rows) (hk : k < n) :
    ∃ b off A' m c' r, N = some ⟨b, off, none⟩ ∧ S b ∧ b < w.heap.size ∧ w.cell? ⟨b, off + k, none⟩ = some (.slice A' m c') ∧ rows[k]? = some r ∧ Sl Rep.int w S A' m c' r := by
 obtain ⟨b, off, u, a, e, hS, hx, hok, hc⟩ := h.at_ rfl hk
 obtain ⟨A', m, c', e2, hs⟩ := hok
 injection e2 with e2 _
 subst e2
 exact ⟨b, off, A', m, c', a, e, hS, cell_lt hc, hc, hx, hs⟩
set_option maxRecDepth 100000 in
set_option maxHeartbeats 2000000 in
theorem dfaCheck (w : World) (S : Nat → Prop) (A : Option Addr) (nA cA : Nat) (N : Option Addr) (n cN : Nat) (d : DfaD) (hA : Sl Rep.int w S A nA cA d.2.1) (hN : Sl RI w S N n cN d.2.2) (hv : Valid d) :
    Calls Try.prog 53 #[.agg #[.int .i64 d.1, .slice A nA cA, .slice N n cN]] w fun e w' => e = .returned (.int .i64 0) ∧ Below w.heap.size w w' := by
 have e1 := hA.len
 have e2 := hN.len
 rw [hv.na, ← e2] at e1
 subst e1
 have hn1 : 1 ≤ nA := by have := hv.n1; omega
 have hn2 : nA ≤ 200 := by have := hv.n2; omega
 obtain ⟨hs1, hs2⟩ := hv.st
 rw [← e2] at hs2
 have hc1 := hv.c1
 have hc2 := hv.c2
 have hrow : ∀ k : Nat, k < nA → ∃ b off A' c' r, N = some ⟨b, off, none⟩ ∧ b < w.heap.size ∧ w.cell? ⟨b, off + k, none⟩ = some (.slice A' (cols d) c') ∧ Sl Rep.int w S A' (cols d) c' r ∧ 1 ≤ r.length ∧ ∀ x ∈ r, -1 ≤ x ∧ x < nA := by
  intro k hk
  obtain ⟨b, off, A', m, c', r, e, _, hb, hc, hr, hs⟩ := row_at hN hk
  obtain ⟨h1, h2⟩ := hv.rows r (List.mem_of_getElem? hr)
  have := hs.len
  obtain rfl : m = cols d := by omega
  exact ⟨b, off, A', c', r, e, hb, hc, hs, by omega, by rw [e2]; exact h2⟩
 obtain ⟨bN, offN, A0, c0, _, rfl, hbN, hcell0, _⟩ := hrow 0 hn1
 rw [Nat.add_zero] at hcell0
 have hmin := lmin_ge (l := d.2.1) (b := -1) (by rw [hv.na, ← e2]; exact hn1) hv.acc
 have HROW := Lib.hid hrow
 have HA := Lib.hid hA
 clear e2 hv hrow hA hN
 obtain ⟨start, acc, rows⟩ := d
 dsimp only at *
 generalize cols (start, acc, rows) = C at *
 have hne : ((nA : Int) == 0) = false := by simp; omega
 have hce : ((C : Int) == 0) = false := by simp; omega
 go_enter Try.func53, Try.ntmps53
 go_wp2_with fail
 go_loop [35] (fun i => ∃ k : Nat, k ≤ nA ∧ i = .int .i64 k) (fun i => nA - (intOf i).toNat)
 case atStart => exact ⟨0, Nat.zero_le _, rfl⟩
 case round =>
  obtain ⟨k, hk, rfl⟩ := hrel
  by_cases hlt : k < nA
  ·
   obtain ⟨b', off', A', c', r, e, _, hcell, hsr, _⟩ := HROW.out k hlt
   injection e with e
   injection e with e1 e2
   subst e1
   subst e2
   clear hsr
   go_wp2_with fail
   go_round
   case rel => exact ⟨k + 1, by omega, by go_num⟩
   case measure => simp [intOf]; omega
  ·
   obtain rfl : k = nA := by omega
   have hsb : decide (start < 0) = false := by simp; omega
   have hsb2 : decide ((k : Int) ≤ start) = false := by simp; omega
   have hmb : decide (lmin acc < -1) = false := by simp; omega
   go_wp2_with (go_at_call 76; refine (minInt _ _ _ _ _ _ (HA.out.alloc _).ints (by omega) (by omega)).mono ?_; rintro e w' ⟨rfl, rfl⟩)
   go_loop [6, 71] (fun b i => b = .bool false ∧ ∃ j : Nat, j ≤ k ∧ i = .int .i64 j) (fun _ i => k - (intOf i).toNat)
   case atStart => exact ⟨rfl, 0, Nat.zero_le _, rfl⟩
   case round =>
    obtain ⟨rfl, j, hj, rfl⟩ := hrel
    by_cases hjl : j < k
    ·
     obtain ⟨b', off', A', c', r, e, _, hcell, hsr, hr1, hrx⟩ := HROW.out j hjl
     injection e with e
     injection e with e1 e2
     subst e1
     subst e2
     have hm1 := lmin_ge hr1 (fun x hx => (hrx x hx).1)
     have hm2 := lmax_lt hr1 (fun x hx => (hrx x hx).2)
     have HSR := Lib.hid hsr
     have hb1 : decide (lmin r < -1) = false := by simp; omega
     have hb2 : decide ((k : Int) ≤ lmax r) = false := by simp; omega
     clear hsr hrx
     go_wp2_with (first
      | (go_at_call 76; refine (minInt _ _ _ _ _ _ (HSR.out.alloc _).ints (by omega) (by omega)).mono ?_; rintro e w' ⟨rfl, rfl⟩)
      | (go_at_call 77; refine (maxInt _ _ _ _ _ _ (HSR.out.alloc _).ints (by omega) (by omega)).mono ?_; rintro e w' ⟨rfl, rfl⟩))
     go_round
     case rel => exact ⟨rfl, j + 1, by omega, by go_num⟩
     case measure => simp [intOf]; omega
    ·
     obtain rfl : j = k := by omega
     go_wp2_with fail
     go_ret
     exact ⟨rfl, (Below.refl _ _).alloc (Nat.le_refl _) _⟩
end Go.Proofs.Ytbmcoamdfpegnaa
namespace Go.Proofs.Ytbmcoamdfpegnaa
open Go.RowKit
def TellsI (P : Program) (w0 : World) (G : Int → Prop) (q : Int → Bool) (F : FuncId) (caps : Array Value) : Prop :=
 ∀ (w : World), Below w0.heap.size w0 w → ∀ x : Int, G x → Calls P F (#[.int .i64 x] ++ caps) w fun e w' => e = .returned (.bool (q x)) ∧ Below w.heap.size w w'
def idxFn (q : Int → Bool) (l : List Int) : Int := match l.findIdx? q with
 | some i => (i : Int)
 | none => -1
theorem idxFn_hit {q : Int → Bool} {l : List Int} {k : Nat} {x : Int} (h : l[k]? = some x) (hq : q x = true) (hno : ∀ j y, j < k → l[j]? = some y → q y = false) : idxFn q l = k := by
 have : l.findIdx? q = some k := by
  rw [List.findIdx?_eq_some_iff_getElem]
  obtain ⟨hk, rfl⟩ := List.getElem?_eq_some_iff.1 h
  refine ⟨hk, hq, fun j hj => ?_⟩
  rw [hno j l[j] hj (List.getElem?_eq_getElem (by omega))]
  simp
 rw [idxFn, this]
theorem idxFn_none {q : Int → Bool} {l : List Int} (hno : ∀ (j : Nat) (y : Int), l[j]? = some y → q y = false) : idxFn q l = -1 := by
 have : l.findIdx? q = none := by
  rw [List.findIdx?_eq_none_iff]
  intro x hx
  obtain ⟨j, hj⟩ := List.getElem?_of_mem hx
  exact hno j x hj
 rw [idxFn, this]
set_option maxHeartbeats 1000000 in
theorem indexFnInt (w : World) (F : FuncId) (caps : Array Value) (G : Int → Prop) (q : Int → Bool) (A : Option Addr) (n c : Nat) (S : Nat → Prop) (l : List Int)
    (he : ∀ (args : Array Value) (u : World), (callFunc F args).run Try.prog u = .ok (.enter F args) u) (hF : TellsI Try.prog w G q F caps) (hr : Rd w S 1 A n (l.map (Value.int .i64))) (hG : ∀ x ∈ l, G x) (hn : n ≤ 1000000000000) :
    Calls Try.prog 90 #[.slice A n c, .func (.func F) #[] caps] w fun e w' => e = .returned (.int .i64 (idxFn q l)) ∧ Below w.heap.size w w' := by
 have hl : l.length = n := by simpa using hr.1
 have HL := Lib.hid hl
 have HR := Lib.hid hr
 have HF := Lib.hid hF
 have HG := Lib.hid hG
 clear hl hr hF hG
 go_enter Try.func90, Try.ntmps90
 go_wp2_with fail
 go_loopw [8] (fun i wr => ∃ k : Nat, k ≤ n ∧ i = .int .i64 k ∧ (∀ j y, j < k → l[j]? = some y → q y = false) ∧ Below w.heap.size w wr) (fun i _ => n - (intOf i).toNat)
 case atStart => exact ⟨0, Nat.zero_le _, rfl, (fun j y hj _ => absurd hj (by omega)), Below.refl _ _⟩
 case round =>
  obtain ⟨k, hk, rfl, hno, hb⟩ := hrel
  have HNO := Lib.hid hno
  have HB := Lib.hid hb
  clear hno hb
  by_cases hlt : k < n
  ·
   obtain ⟨b, off, x, rfl, _, hx, hcell0⟩ := HR.out.int_at hlt
   have hcell : wr.cell? ⟨b, off + k, none⟩ = some (.int .i64 x) := Kept.below (S := fun _ => True) HB.out _ _ trivial hcell0
   have HX := Lib.hid hx
   clear hx hcell0
   go_wp2_with fail
   refine (HF.out wr HB.out x (HG.out x (List.mem_of_getElem? HX.out))).mono ?_
   rintro e w1 ⟨rfl, hb1⟩
   have HB1 := Lib.hid (HB.out.trans (hb1.mono HB.out.size))
   clear hb1
   cases hq : q x with
   | true =>
    have HH := Lib.hid (idxFn_hit HX.out hq HNO.out)
    clear hq
    go_wp2_with fail
    go_ret
    exact ⟨ret_int HH.out.symm, HB1.out⟩
   | false =>
    have HQ := Lib.hid hq
    clear hq
    go_wp2_with fail
    go_roundw
    case rel =>
     refine ⟨k + 1, by omega, by go_num, ?_, HB1.out⟩
     intro j y hj hy
     rcases Nat.lt_succ_iff_lt_or_eq.1 hj with h | rfl
     ·
      exact HNO.out j y h hy
     ·
      rw [HX.out] at hy
      injection hy with hy
      rw [← hy]
      exact HQ.out
    case measure => simp [intOf]; omega
  ·
   go_wp2_with fail
   go_ret
   refine ⟨ret_int ?_, HB.out⟩
   rw [idxFn_none]
   intro j y hy
   have hj := (List.getElem?_eq_some_iff.1 hy).1
   exact HNO.out j y (by rw [HL.out] at hj; omega) hy
set_option maxHeartbeats 1000000 in
theorem containsFnInt (w : World) (F : FuncId) (caps : Array Value) (G : Int → Prop) (q : Int → Bool) (A : Option Addr) (n c : Nat) (S : Nat → Prop) (l : List Int)
    (he : ∀ (args : Array Value) (u : World), (callFunc F args).run Try.prog u = .ok (.enter F args) u) (hF : TellsI Try.prog w G q F caps) (hr : Rd w S 1 A n (l.map (Value.int .i64))) (hG : ∀ x ∈ l, G x) (hn : n ≤ 1000000000000) :
    Calls Try.prog 64 #[.slice A n c, .func (.func F) #[] caps] w fun e w' => e = .returned (.bool (decide (0 ≤ idxFn q l))) ∧ Below w.heap.size w w' := by
 have HR := Lib.hid hr
 have HF := Lib.hid hF
 have HG := Lib.hid hG
 have HE := Lib.hid he
 clear hr hF hG he
 go_enter Try.func64, Try.ntmps64
 go_wp2_with (go_at_call 90; refine (indexFnInt _ F caps G q _ _ _ _ _ HE.out HF.out HR.out HG.out hn).mono ?_; rintro e w1 ⟨rfl, hb1⟩; have HB1 := Lib.hid hb1; clear hb1)
 go_ret
 exact ⟨rfl, HB1.out⟩
end Go.Proofs.Ytbmcoamdfpegnaa
