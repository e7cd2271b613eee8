/- slices.IndexFunc and ContainsFunc of words. -/
import Derived.Test.YtgaahpddlohjoaaSlIdxGr
namespace Go.Proofs.Ytgaahpddlohjoaa
open Go.RowKit

abbrev RIV : Rep (List Int) := Rep.slice Rep.int
/-- a word read out of a slice of words -/
theorem word_at {w : World} {S : Nat → Prop} {A : Option Addr} {n c k : Nat} {l : List (List Int)} (h : Sl RIV w S A n c l) (hk : k < n) :
    ∃ b off A' m c' x, A = some ⟨b, off, none⟩ ∧ S b ∧ b < w.heap.size ∧ w.cell? ⟨b, off + k, none⟩ = some (.slice A' m c') ∧ l[k]? = some x ∧ Sl Rep.int w S A' m c' x := by
  obtain ⟨b, off, u, x, e, hS, hx, hok, h1⟩ := h.at_ rfl hk
  obtain ⟨A', m, c', e2, hs⟩ := hok
  simp only [List.cons.injEq, and_true] at e2
  subst e2
  exact ⟨b, off, A', m, c', x, e, hS, cell_lt h1, h1, hx, hs⟩
/-- a function value that tells, of every word of G, what q says, and makes new memory at most -/
def TellsW (P : Program) (w0 : World) (G : List Int → Prop) (q : List Int → Bool) (F : FuncId) (caps : Array Value) : Prop :=
  ∀ (w : World), Below w0.heap.size w0 w → ∀ (x : List Int) (A : Option Addr) (m c : Nat) (S : Nat → Prop), Sl Rep.int w S A m c x → G x → Calls P F (#[.slice A m c] ++ caps) w fun e w' => e = .returned (.bool (q x)) ∧ Below w.heap.size w w'
set_option maxHeartbeats 1000000 in
theorem indexFnW (w : World) (F : FuncId) (caps : Array Value) (G : (List Int) → Prop) (q : (List Int) → Bool) (A : Option Addr) (n c : Nat) (S : Nat → Prop) (l : List (List Int))
    (he : ∀ (args : Array Value) (u : World), (callFunc F args).run Try.prog u = .ok (.enter F args) u) (hF : TellsW Try.prog w G q F caps) (hr : Sl RIV w S A n c l) (hG : ∀ x ∈ l, G x) (hn : n ≤ 1000000000000) :
    Calls Try.prog 112 #[.slice A n c, .func (.func F) #[] caps] w fun e w' => e = .returned (.int .i64 (idxA q l)) ∧ Below w.heap.size w w' := by
  have HL := Lib.hid hr.len
  have HR := Lib.hid hr
  have HF := Lib.hid hF
  have HG := Lib.hid hG
  clear hr hF hG
  go_enter Try.func112, Try.ntmps112
  go_wp2_with fail
  go_loopw [8] (fun i wr => ∃ k : Nat, k ≤ n ∧ i = .int .i64 k ∧ (∀ j y, j < k → l[j]? = some y → q y = false) ∧ Below w.heap.size w wr) (fun i _ => n - (intOf i).toNat)
  case atStart => exact ⟨0, Nat.zero_le _, rfl, (fun j y hj _ => absurd hj (by omega)), Below.refl _ _⟩
  case round =>
    obtain ⟨k, hk, rfl, hno, hb⟩ := hrel
    have HNO := Lib.hid hno
    have HB := Lib.hid hb
    clear hno hb
    by_cases hlt : k < n
    · obtain ⟨b, off, A2, m2, c2, x, rfl, _, _, hc1, hx, hxs⟩ := word_at HR.out hlt
      have HXS := Lib.hid (hxs.below HB.out)
      clear hxs
      replace hc1 := Kept.below (S := fun _ => True) HB.out _ _ trivial hc1
      have HX := Lib.hid hx
      clear hx
      go_wp2_with fail
      refine (HF.out wr HB.out x _ _ _ _ HXS.out (HG.out x (List.mem_of_getElem? HX.out))).mono ?_
      rintro e w1 ⟨rfl, hb1⟩
      have HB1 := Lib.hid (HB.out.trans (hb1.mono HB.out.size))
      clear hb1
      cases hq : q x with
      | true =>
        have HH := Lib.hid (idxA_hit HX.out hq HNO.out)
        clear hq
        go_wp2_with fail
        go_ret
        exact ⟨ret_int HH.out.symm, HB1.out⟩
      | false =>
        have HQ := Lib.hid hq
        clear hq
        go_wp2_with fail
        go_roundw
        case rel =>
          refine ⟨k + 1, by omega, by go_num, ?_, HB1.out⟩
          intro j y hj hy
          rcases Nat.lt_succ_iff_lt_or_eq.1 hj with h | rfl
          · exact HNO.out j y h hy
          · rw [HX.out] at hy
            injection hy with hy
            rw [← hy]
            exact HQ.out
        case measure => simp [intOf]; omega
    · go_wp2_with fail
      go_ret
      refine ⟨ret_int ?_, HB.out⟩
      rw [idxA_none]
      intro j y hy
      have hj := (List.getElem?_eq_some_iff.1 hy).1
      exact HNO.out j y (by have := HL.out; omega) hy
set_option maxHeartbeats 1000000 in
theorem containsFnW (w : World) (F : FuncId) (caps : Array Value) (G : (List Int) → Prop) (q : (List Int) → Bool) (A : Option Addr) (n c : Nat) (S : Nat → Prop) (l : List (List Int))
    (he : ∀ (args : Array Value) (u : World), (callFunc F args).run Try.prog u = .ok (.enter F args) u) (hF : TellsW Try.prog w G q F caps) (hr : Sl RIV w S A n c l) (hG : ∀ x ∈ l, G x) (hn : n ≤ 1000000000000) :
    Calls Try.prog 108 #[.slice A n c, .func (.func F) #[] caps] w fun e w' => e = .returned (.bool (l.any q)) ∧ Below w.heap.size w w' := by
  have HR := Lib.hid hr
  have HF := Lib.hid hF
  have HG := Lib.hid hG
  have HE := Lib.hid he
  have HAN := Lib.hid (idxA_any q l)
  clear hr hF hG he
  go_enter Try.func108, Try.ntmps108
  go_wp2_with (go_at_call 112; refine (indexFnW _ F caps G q _ _ _ _ _ HE.out HF.out HR.out HG.out hn).mono ?_; rintro e w1 ⟨rfl, hb1⟩; have HB1 := Lib.hid hb1; clear hb1)
  go_ret
  exact ⟨ret_bool HAN.out, HB1.out⟩
end Go.Proofs.Ytgaahpddlohjoaa
