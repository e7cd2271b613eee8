/- SlIdxFn Accepts -/
import Derived.Shelf.Abstract
import Derived.Test.YtimklgbljjamkaaDoorCs05
import Derived.Test.YtimklgbljjamkaaDoorCs30
namespace Go.Proofs.YtimklgbljjamkaaDoor
open Go.RowKit
def TellsI (P : Program) (w0 : World) (G : Int → Prop) (q : Int → Bool) (F : FuncId) (caps : Array Value) : Prop :=
 ∀ (w : World), Below w0.heap.size w0 w → ∀ x : Int, G x → Calls P F (#[.int .i64 x] ++ caps) w fun e w' => e = .returned (.bool (q x)) ∧ Below w.heap.size w w'
def idxFn (q : Int → Bool) (l : List Int) : Int := match l.findIdx? q with
 | some i => (i : Int)
 | none => -1
theorem idxFn_hit {q : Int → Bool} {l : List Int} {k : Nat} {x : Int} (h : l[k]? = some x) (hq : q x = true) (hno : ∀ j y, j < k → l[j]? = some y → q y = false) : idxFn q l = k := by
 have : l.findIdx? q = some k := by
  rw [List.findIdx?_eq_some_iff_getElem]
  obtain ⟨hk, rfl⟩ := List.getElem?_eq_some_iff.1 h
  refine ⟨hk, hq, fun j hj => ?_⟩
  rw [hno j l[j] hj (List.getElem?_eq_getElem (by omega))]
  simp
 rw [idxFn, this]
theorem idxFn_none {q : Int → Bool} {l : List Int} (hno : ∀ (j : Nat) (y : Int), l[j]? = some y → q y = false) : idxFn q l = -1 := by
 have : l.findIdx? q = none := by
  rw [List.findIdx?_eq_none_iff]
  intro x hx
  obtain ⟨j, hj⟩ := List.getElem?_of_mem hx
  exact hno j x hj
 rw [idxFn, this]
set_option maxHeartbeats 1000000 in
theorem indexFnInt (w : World) (F : FuncId) (caps : Array Value) (G : Int → Prop) (q : Int → Bool) (A : Option Addr) (n c : Nat) (S : Nat → Prop) (l : List Int)
    (he : ∀ (args : Array Value) (u : World), (callFunc F args).run Tryd.prog u = .ok (.enter F args) u) (hF : TellsI Tryd.prog w G q F caps) (hr : Rd w S 1 A n (l.map (Value.int .i64))) (hG : ∀ x ∈ l, G x) (hn : n ≤ 1000000000000) :
    Calls Tryd.prog 90 #[.slice A n c, .func (.func F) #[] caps] w fun e w' => e = .returned (.int .i64 (idxFn q l)) ∧ Below w.heap.size w w' := by
 have hl : l.length = n := by simpa using hr.1
 have HL := Lib.hid hl
 have HR := Lib.hid hr
 have HF := Lib.hid hF
 have HG := Lib.hid hG
 clear hl hr hF hG
 go_enter Tryd.func90, Tryd.ntmps90
 go_wp2_with fail
 go_loopw [8] (fun i wr => ∃ k : Nat, k ≤ n ∧ i = .int .i64 k ∧ (∀ j y, j < k → l[j]? = some y → q y = false) ∧ Below w.heap.size w wr) (fun i _ => n - (intOf i).toNat)
 case atStart => exact ⟨0, Nat.zero_le _, rfl, (fun j y hj _ => absurd hj (by omega)), Below.refl _ _⟩
 case round =>
  obtain ⟨k, hk, rfl, hno, hb⟩ := hrel
  have HNO := Lib.hid hno
  have HB := Lib.hid hb
  clear hno hb
  by_cases hlt : k < n
  ·
   obtain ⟨b, off, x, rfl, _, hx, hcell0⟩ := HR.out.int_at hlt
   have hcell : wr.cell? ⟨b, off + k, none⟩ = some (.int .i64 x) := Kept.below (S := fun _ => True) HB.out _ _ trivial hcell0
   have HX := Lib.hid hx
   clear hx hcell0
   go_wp2_with fail
   refine (HF.out wr HB.out x (HG.out x (List.mem_of_getElem? HX.out))).mono ?_
   rintro e w1 ⟨rfl, hb1⟩
   have HB1 := Lib.hid (HB.out.trans (hb1.mono HB.out.size))
   clear hb1
   cases hq : q x with
   | true =>
    have HH := Lib.hid (idxFn_hit HX.out hq HNO.out)
    clear hq
    go_wp2_with fail
    go_ret
    exact ⟨ret_int HH.out.symm, HB1.out⟩
   | false =>
    have HQ := Lib.hid hq
    clear hq
    go_wp2_with fail
    go_roundw
    case rel =>
     refine ⟨k + 1, by omega, by go_num, ?_, HB1.out⟩
     intro j y hj hy
     rcases Nat.lt_succ_iff_lt_or_eq.1 hj with h | rfl
     ·
      exact HNO.out j y h hy
     ·
      rw [HX.out] at hy
      injection hy with hy
      rw [← hy]
      exact HQ.out
    case measure => simp [intOf]; omega
  ·
   go_wp2_with fail
   go_ret
   refine ⟨ret_int ?_, HB.out⟩
   rw [idxFn_none]
   intro j y hy
   have hj := (List.getElem?_eq_some_iff.1 hy).1
   exact HNO.out j y (by rw [HL.out] at hj; omega) hy
set_option maxHeartbeats 1000000 in
theorem containsFnInt (w : World) (F : FuncId) (caps : Array Value) (G : Int → Prop) (q : Int → Bool) (A : Option Addr) (n c : Nat) (S : Nat → Prop) (l : List Int)
    (he : ∀ (args : Array Value) (u : World), (callFunc F args).run Tryd.prog u = .ok (.enter F args) u) (hF : TellsI Tryd.prog w G q F caps) (hr : Rd w S 1 A n (l.map (Value.int .i64))) (hG : ∀ x ∈ l, G x) (hn : n ≤ 1000000000000) :
    Calls Tryd.prog 60 #[.slice A n c, .func (.func F) #[] caps] w fun e w' => e = .returned (.bool (decide (0 ≤ idxFn q l))) ∧ Below w.heap.size w w' := by
 have HR := Lib.hid hr
 have HF := Lib.hid hF
 have HG := Lib.hid hG
 have HE := Lib.hid he
 clear hr hF hG he
 go_enter Tryd.func60, Tryd.ntmps60
 go_wp2_with (go_at_call 90; refine (indexFnInt _ F caps G q _ _ _ _ _ HE.out HF.out HR.out HG.out hn).mono ?_; rintro e w1 ⟨rfl, hb1⟩; have HB1 := Lib.hid hb1; clear hb1)
 go_ret
 exact ⟨rfl, HB1.out⟩
end Go.Proofs.YtimklgbljjamkaaDoor
namespace Go.Proofs.YtimklgbljjamkaaDoor
open Go.RowKit
theorem entersWord : ∀ (args : Array Value) (u : World), (callFunc 71 args).run Tryd.prog u = .ok (.enter 71 args) u := enters_of Tryd.func71 (by kernel_rfl) rfl
set_option linter.unusedSimpArgs false in
set_option maxRecDepth 100000 in
set_option maxHeartbeats 1000000 in
theorem tellsWord (w0 : World) (Bg : Nat) (T : Int) (a b c : Value) (h : w0.heap[Bg]? = some (.cells #[.int .i64 T, a, b, c] 25 (0, 0))) : TellsI Tryd.prog w0 (fun x => 0 ≤ x ∧ x < T) (fun _ => false) 71 #[.pointer (some ⟨Bg, 0, none⟩)] := by
 intro w hb x hx
 show Calls Tryd.prog 71 #[.int .i64 x, .pointer (some ⟨Bg, 0, none⟩)] w _
 have hg := (hb.block _ (heap_lt h)).trans h
 have hc : w.cell? ⟨Bg, 0, none⟩ = some (.int .i64 T) := by simp [World.cell?, hg]
 obtain ⟨h1, h2⟩ := hx
 have e1 : decide (x < 0) = false := by simp; omega
 have e2 : decide (T ≤ x) = false := by simp; omega
 clear h hb hg
 go_enter Tryd.func71, Tryd.ntmps71
 go_wp2_with fail
 go_ret
 exact ⟨rfl, Below.refl _ _⟩
set_option linter.unusedSimpArgs false in
set_option maxRecDepth 100000 in
set_option maxHeartbeats 2000000 in
theorem gramWord (w : World) (S : Nat → Prop) (T : Int) (a b c : Value) (A : Option Addr) (n cw : Nat) (ws : List Int) (hws : Rd w S 1 A n (ws.map (Value.int .i64))) (hT : ∀ x ∈ ws, 0 ≤ x ∧ x < T) (hn : n ≤ 12) :
    Calls Tryd.prog 48 #[.agg #[.int .i64 T, a, b, c], .slice A n cw, .int .i64 12] w fun e w' => e = .returned (.int .i64 0) ∧ Below w.heap.size w w' := by
 obtain ⟨w1, hw1⟩ : ∃ w1 : World, w1 = w.alloc (.cells #[.int .i64 T, a, b, c] 25) := ⟨_, rfl⟩
 have hb1 : Below w.heap.size w w1 := by rw [hw1]; exact (Below.refl _ _).alloc (Nat.le_refl _) _
 have hg1 : w1.heap[w.heap.size]? = some (.cells #[.int .i64 T, a, b, c] 25 (0, 0)) := by rw [hw1]; exact heap_alloc_new w _
 have HB1 := Lib.hid hb1
 have HG1 := Lib.hid hg1
 have HW := Lib.hid (hws.below hb1)
 have HT := Lib.hid hT
 have hgt : decide ((12 : Int) < (n : Int)) = false := by simp; omega
 clear hb1 hg1 hws hT
 go_enter Tryd.func48, Tryd.ntmps48
 go_wp2_with fail
 rw [← hw1]
 clear hw1
 refine (containsFnInt w1 _ _ _ _ A n cw _ ws entersWord (tellsWord w1 w.heap.size T a b c HG1.out) HW.out HT.out (by omega)).mono ?_
 rintro e w2 ⟨rfl, hb2⟩
 have hix : decide (0 ≤ idxFn (fun _ => false) ws) = false := by rw [idxFn_none (fun _ _ _ => rfl)]; rfl
 rw [hix]
 have HB2 := Lib.hid (HB1.out.trans (hb2.mono HB1.out.size))
 clear hb2 hix
 go_wp2_with fail
 go_ret
 exact ⟨rfl, HB2.out⟩
set_option linter.unusedSimpArgs false in
set_option maxRecDepth 100000 in
set_option maxHeartbeats 2000000 in
theorem meanCheck (w : World) (Sg S : Nat → Prop) (AR : Option Addr) (nR cR : Nat) (g : GramD) (hg : Sl RRule w Sg AR nR cR g.2.2.2) (hv : GValid g) (A : Option Addr) (n cw : Nat) (ws : List Int) (hws : Rd w S 1 A n (ws.map (Value.int .i64))) (hT : ∀ x ∈ ws, 0 ≤ x ∧ x < g.1) (hn : n ≤ 12) :
    Calls Tryd.prog 28 #[.agg #[.int .i64 g.1, .int .i64 g.2.1, .int .i64 g.2.2.1, .slice AR nR cR], .slice A n cw] w fun e w' => e = .returned (.int .i64 0) ∧ Below w.heap.size w w' := by
 obtain ⟨w1, hw1⟩ : ∃ w1 : World, w1 = w.alloc (.cells #[.int .i64 g.1, .int .i64 g.2.1, .int .i64 g.2.2.1, .slice AR nR cR] 25) := ⟨_, rfl⟩
 have hb1 : Below w.heap.size w w1 := by rw [hw1]; exact (Below.refl _ _).alloc (Nat.le_refl _) _
 have hg1 : w1.heap[w.heap.size]? = some (.cells #[.int .i64 g.1, .int .i64 g.2.1, .int .i64 g.2.2.1, .slice AR nR cR] 25 (0, 0)) := by rw [hw1]; exact heap_alloc_new w _
 have HB1 := Lib.hid hb1
 have HG1 := Lib.hid hg1
 have HW := Lib.hid (hws.below hb1)
 have HG := Lib.hid (hg.below hb1)
 have HV := Lib.hid hv
 have HT := Lib.hid hT
 clear hb1 hg1 hws hT hg hv
 go_enter Tryd.func28, Tryd.ntmps28
 go_wp2_with fail
 rw [← hw1]
 clear hw1
 refine (gramCheck w1 _ AR nR cR g HG.out HV.out).mono ?_
 rintro e w2 ⟨rfl, hb2⟩
 have HB2 := Lib.hid hb2
 have hg2 := (hb2.block _ (heap_lt HG1.out)).trans HG1.out
 have k0 : w2.cell? ⟨w.heap.size, 0, none⟩ = some (.int .i64 g.1) := by simp [World.cell?, hg2]
 have k1 : w2.cell? ⟨w.heap.size, 1, none⟩ = some (.int .i64 g.2.1) := by simp [World.cell?, hg2]
 have k2 : w2.cell? ⟨w.heap.size, 2, none⟩ = some (.int .i64 g.2.2.1) := by simp [World.cell?, hg2]
 have k3 : w2.cell? ⟨w.heap.size, 3, none⟩ = some (.slice AR nR cR) := by simp [World.cell?, hg2]
 clear hb2 hg2
 go_wp2_with fail
 clear k0 k1 k2 k3
 refine (gramWord w2 _ g.1 _ _ _ A n cw ws (HW.out.below HB2.out) HT.out hn).mono ?_
 rintro e w3 ⟨rfl, hb3⟩
 have HB3 := Lib.hid (HB1.out.trans ((HB2.out.mono HB1.out.size).trans (hb3.mono (by have := HB1.out.size; have := HB2.out.size; omega))))
 clear hb3
 go_wp2_with fail
 go_ret
 exact ⟨rfl, HB3.out⟩
end Go.Proofs.YtimklgbljjamkaaDoor
