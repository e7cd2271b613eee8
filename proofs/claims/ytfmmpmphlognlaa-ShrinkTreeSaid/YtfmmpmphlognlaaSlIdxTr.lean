/- slices.IndexFunc of trees. -/
import Derived.Test.YtfmmpmphlognlaaSlIdxGr
import Derived.Test.YtfmmpmphlognlaaTreeD
namespace Go.Proofs.Ytfmmpmphlognlaa
open Go.RowKit

/-- a function value that tells, of every tree of G, what q says, and makes new memory at most -/
def TellsT (P : Program) (w0 : World) (G : TreeD → Prop) (q : TreeD → Bool) (F : FuncId) (caps : Array Value) : Prop :=
  ∀ (w : World), Below w0.heap.size w0 w → ∀ (x : TreeD) (A : Option Addr) (m c : Nat) (S : Nat → Prop), Sl RTree w S A m c x.kids → G x → Calls P F (#[.agg #[.int .i64 x.rule, .int .i64 x.term, .slice A m c]] ++ caps) w fun e w' => e = .returned (.bool (q x)) ∧ Below w.heap.size w w'
set_option maxHeartbeats 1000000 in
theorem indexFnT (w : World) (F : FuncId) (caps : Array Value) (G : TreeD → Prop) (q : TreeD → Bool) (A : Option Addr) (n c : Nat) (S : Nat → Prop) (l : List TreeD)
    (he : ∀ (args : Array Value) (u : World), (callFunc F args).run Try.prog u = .ok (.enter F args) u) (hF : TellsT Try.prog w G q F caps) (hr : Sl RTree w S A n c l) (hG : ∀ x ∈ l, G x) (hn : n ≤ 1000000000000) :
    Calls Try.prog 59 #[.slice A n c, .func (.func F) #[] caps] w fun e w' => e = .returned (.int .i64 (idxA q l)) ∧ Below w.heap.size w w' := by
  have HL := Lib.hid hr.len
  have HR := Lib.hid hr
  have HF := Lib.hid hF
  have HG := Lib.hid hG
  clear hr hF hG
  go_enter Try.func59, Try.ntmps59
  go_wp2_with fail
  go_loopw [8] (fun i wr => ∃ k : Nat, k ≤ n ∧ i = .int .i64 k ∧ (∀ j y, j < k → l[j]? = some y → q y = false) ∧ Below w.heap.size w wr) (fun i _ => n - (intOf i).toNat)
  case atStart => exact ⟨0, Nat.zero_le _, rfl, (fun j y hj _ => absurd hj (by omega)), Below.refl _ _⟩
  case round =>
    obtain ⟨k, hk, rfl, hno, hb⟩ := hrel
    have HNO := Lib.hid hno
    have HB := Lib.hid hb
    clear hno hb
    by_cases hlt : k < n
    · obtain ⟨b, off, A2, m2, c2, x, rfl, _, _, hc1, hc2, hc3, hx, hxs⟩ := tree_at HR.out hlt
      have HXS := Lib.hid (hxs.below HB.out)
      clear hxs
      replace hc1 := Kept.below (S := fun _ => True) HB.out _ _ trivial hc1
      replace hc2 := Kept.below (S := fun _ => True) HB.out _ _ trivial hc2
      replace hc3 := Kept.below (S := fun _ => True) HB.out _ _ trivial hc3
      have HX := Lib.hid hx
      clear hx
      go_wp2_with fail
      refine (HF.out wr HB.out x _ _ _ _ HXS.out (HG.out x (List.mem_of_getElem? HX.out))).mono ?_
      rintro e w1 ⟨rfl, hb1⟩
      have HB1 := Lib.hid (HB.out.trans (hb1.mono HB.out.size))
      clear hb1
      cases hq : q x with
      | true =>
        have HH := Lib.hid (idxA_hit HX.out hq HNO.out)
        clear hq
        go_wp2_with fail
        go_ret
        exact ⟨ret_int HH.out.symm, HB1.out⟩
      | false =>
        have HQ := Lib.hid hq
        clear hq
        go_wp2_with fail
        go_roundw
        case rel =>
          refine ⟨k + 1, by omega, by go_num, ?_, HB1.out⟩
          intro j y hj hy
          rcases Nat.lt_succ_iff_lt_or_eq.1 hj with h | rfl
          · exact HNO.out j y h hy
          · rw [HX.out] at hy
            injection hy with hy
            rw [← hy]
            exact HQ.out
        case measure => simp [intOf]; omega
    · go_wp2_with fail
      go_ret
      refine ⟨ret_int ?_, HB.out⟩
      rw [idxA_none]
      intro j y hy
      have hj := (List.getElem?_eq_some_iff.1 hy).1
      exact HNO.out j y (by have := HL.out; omega) hy
end Go.Proofs.Ytfmmpmphlognlaa
