/- slices.IndexFunc, slices.ContainsFunc of ints, at whatever function value that tells. -/
import Derived.Test.YtgaahpddlohjoaaMinMax
import Derived.Shelf.Abstract
namespace Go.Proofs.Ytgaahpddlohjoaa
open Go.RowKit

/-- a function value that tells, of every number of G, what q says, and makes new memory at most -/
def TellsI (P : Program) (w0 : World) (G : Int → Prop) (q : Int → Bool) (F : FuncId) (caps : Array Value) : Prop :=
  ∀ (w : World), Below w0.heap.size w0 w → ∀ x : Int, G x → Calls P F (#[.int .i64 x] ++ caps) w fun e w' => e = .returned (.bool (q x)) ∧ Below w.heap.size w w'
def idxFn (q : Int → Bool) (l : List Int) : Int := match l.findIdx? q with
  | some i => (i : Int)
  | none => -1
theorem idxFn_hit {q : Int → Bool} {l : List Int} {k : Nat} {x : Int} (h : l[k]? = some x) (hq : q x = true) (hno : ∀ j y, j < k → l[j]? = some y → q y = false) : idxFn q l = k := by
  have : l.findIdx? q = some k := by
    rw [List.findIdx?_eq_some_iff_getElem]
    obtain ⟨hk, rfl⟩ := List.getElem?_eq_some_iff.1 h
    refine ⟨hk, hq, fun j hj => ?_⟩
    rw [hno j l[j] hj (List.getElem?_eq_getElem (by omega))]
    simp
  rw [idxFn, this]
theorem idxFn_none {q : Int → Bool} {l : List Int} (hno : ∀ (j : Nat) (y : Int), l[j]? = some y → q y = false) : idxFn q l = -1 := by
  have : l.findIdx? q = none := by
    rw [List.findIdx?_eq_none_iff]
    intro x hx
    obtain ⟨j, hj⟩ := List.getElem?_of_mem hx
    exact hno j x hj
  rw [idxFn, this]
set_option maxHeartbeats 1000000 in
theorem indexFnInt (w : World) (F : FuncId) (caps : Array Value) (G : Int → Prop) (q : Int → Bool) (A : Option Addr) (n c : Nat) (S : Nat → Prop) (l : List Int)
    (he : ∀ (args : Array Value) (u : World), (callFunc F args).run Try.prog u = .ok (.enter F args) u) (hF : TellsI Try.prog w G q F caps) (hr : Rd w S 1 A n (l.map (Value.int .i64))) (hG : ∀ x ∈ l, G x) (hn : n ≤ 1000000000000) :
    Calls Try.prog 119 #[.slice A n c, .func (.func F) #[] caps] w fun e w' => e = .returned (.int .i64 (idxFn q l)) ∧ Below w.heap.size w w' := by
  have hl : l.length = n := by simpa using hr.1
  have HL := Lib.hid hl
  have HR := Lib.hid hr
  have HF := Lib.hid hF
  have HG := Lib.hid hG
  clear hl hr hF hG
  go_enter Try.func119, Try.ntmps119
  go_wp2_with fail
  go_loopw [8] (fun i wr => ∃ k : Nat, k ≤ n ∧ i = .int .i64 k ∧ (∀ j y, j < k → l[j]? = some y → q y = false) ∧ Below w.heap.size w wr) (fun i _ => n - (intOf i).toNat)
  case atStart => exact ⟨0, Nat.zero_le _, rfl, (fun j y hj _ => absurd hj (by omega)), Below.refl _ _⟩
  case round =>
    obtain ⟨k, hk, rfl, hno, hb⟩ := hrel
    have HNO := Lib.hid hno
    have HB := Lib.hid hb
    clear hno hb
    by_cases hlt : k < n
    · obtain ⟨b, off, x, rfl, _, hx, hcell0⟩ := HR.out.int_at hlt
      have hcell : wr.cell? ⟨b, off + k, none⟩ = some (.int .i64 x) := Kept.below (S := fun _ => True) HB.out _ _ trivial hcell0
      have HX := Lib.hid hx
      clear hx hcell0
      go_wp2_with fail
      refine (HF.out wr HB.out x (HG.out x (List.mem_of_getElem? HX.out))).mono ?_
      rintro e w1 ⟨rfl, hb1⟩
      have HB1 := Lib.hid (HB.out.trans (hb1.mono HB.out.size))
      clear hb1
      cases hq : q x with
      | true =>
        have HH := Lib.hid (idxFn_hit HX.out hq HNO.out)
        clear hq
        go_wp2_with fail
        go_ret
        exact ⟨ret_int HH.out.symm, HB1.out⟩
      | false =>
        have HQ := Lib.hid hq
        clear hq
        go_wp2_with fail
        go_roundw
        case rel =>
          refine ⟨k + 1, by omega, by go_num, ?_, HB1.out⟩
          intro j y hj hy
          rcases Nat.lt_succ_iff_lt_or_eq.1 hj with h | rfl
          · exact HNO.out j y h hy
          · rw [HX.out] at hy
            injection hy with hy
            rw [← hy]
            exact HQ.out
        case measure => simp [intOf]; omega
    · go_wp2_with fail
      go_ret
      refine ⟨ret_int ?_, HB.out⟩
      rw [idxFn_none]
      intro j y hy
      have hj := (List.getElem?_eq_some_iff.1 hy).1
      exact HNO.out j y (by rw [HL.out] at hj; omega) hy
set_option maxHeartbeats 1000000 in
theorem containsFnInt (w : World) (F : FuncId) (caps : Array Value) (G : Int → Prop) (q : Int → Bool) (A : Option Addr) (n c : Nat) (S : Nat → Prop) (l : List Int)
    (he : ∀ (args : Array Value) (u : World), (callFunc F args).run Try.prog u = .ok (.enter F args) u) (hF : TellsI Try.prog w G q F caps) (hr : Rd w S 1 A n (l.map (Value.int .i64))) (hG : ∀ x ∈ l, G x) (hn : n ≤ 1000000000000) :
    Calls Try.prog 79 #[.slice A n c, .func (.func F) #[] caps] w fun e w' => e = .returned (.bool (decide (0 ≤ idxFn q l))) ∧ Below w.heap.size w w' := by
  have HR := Lib.hid hr
  have HF := Lib.hid hF
  have HG := Lib.hid hG
  have HE := Lib.hid he
  clear hr hF hG he
  go_enter Try.func79, Try.ntmps79
  go_wp2_with (go_at_call 119; refine (indexFnInt _ F caps G q _ _ _ _ _ HE.out HF.out HR.out HG.out hn).mono ?_; rintro e w1 ⟨rfl, hb1⟩; have HB1 := Lib.hid hb1; clear hb1)
  go_ret
  exact ⟨rfl, HB1.out⟩
end Go.Proofs.Ytgaahpddlohjoaa
