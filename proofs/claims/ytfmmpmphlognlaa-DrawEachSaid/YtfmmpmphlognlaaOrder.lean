/- What draw.Order computes: numbers in an order that the coins tell. -/
import Derived.Test.YtfmmpmphlognlaaNum
import Derived.Test.YtfmmpmphlognlaaSlDel
import Derived.Test.YtfmmpmphlognlaaFairPlain
import Derived.Deep.LoopGhost
namespace Go.Proofs.Ytfmmpmphlognlaa
open Go.RowKit

def orderGo (coins : List Bool) : Nat → List Int → List Int → Nat → Option (List Int × Nat)
  | 0, _, out, k => some (out, k)
  | f + 1, rem, out, k => match number rem.length (bitsOf rem.length) (coins.drop k) with
    | none => none
    | some (i, used) => orderGo coins f (rem.eraseIdx i) (out ++ [rem.getD i 0]) (k + used)
def upTo (n : Nat) : List Int := (List.range n).map fun (i : Nat) => (i : Int)
def orderOf (n : Nat) (coins : List Bool) : Option (List Int × Nat) := orderGo coins n (upTo n) [] 0
theorem upTo_succ (n : Nat) : upTo (n + 1) = upTo n ++ [(n : Int)] := by simp [upTo, List.range_succ]
theorem upTo_len (n : Nat) : (upTo n).length = n := by simp [upTo]

/-- a row of ints is kept by what leaves its block alone -/
theorem rows_kept {w w' : World} {base g n cap : Nat} {xs : List Value} {row : Option Nat} (h : w.ownsRow base 3 1 (.slice (some ⟨g, 0, none⟩) n cap) n xs) (hg : w.grownBy w' row) (hne : row ≠ some g) : w'.ownsRow base 3 1 (.slice (some ⟨g, 0, none⟩) n cap) n xs :=
  h.kept hg (.inr fun e => hne (by rw [← e]; rfl))
/-- what the second loop knows: k numbers are left, in block g -/
def OrdSt (w wo : World) (g n : Nat) (coins : List Bool) (k : Nat) (v7 v8 v10 : Value) (wr : World) : Prop :=
  ∃ (rem out : List Int) (at_ cap : Nat), v7 = .slice (some ⟨g, 0, none⟩) k cap ∧ v10 = .int .i64 (at_ : Int) ∧ rem.length = k ∧ wr.ownsRow w.heap.size 3 1 (.slice (some ⟨g, 0, none⟩) k cap) k (rem.map (Value.int .i64)) ∧
    OwnL Rep.int wr (fun _ => False) wo.heap.size 3 v8 out ∧ at_ ≤ coins.length ∧ orderGo coins k rem out at_ = orderOf n coins ∧ out.length + k = n ∧ Below w.heap.size w wr ∧ wo.heap.size ≤ wr.heap.size
set_option maxRecDepth 100000 in
set_option maxHeartbeats 4000000 in
theorem order_any (w : World) (n : Nat) (A : Option Addr) (m c : Nat) (S : Nat → Prop) (coins : List Bool) (hn : n ≤ 12) (hr : Rd w S 1 A m (coins.map Value.bool)) (hc : m ≤ c) (hm : m ≤ 281474976710656) :
    Calls Try.prog 27 #[.int .i64 n, .slice A m c] w fun e w' => ((∃ A' n' c' out k, orderOf n coins = some (out, k) ∧ e = .returned (.tuple #[.slice A' n' c', .int .i64 (k : Nat), .int .i64 0]) ∧ Sl Rep.int w' (fun b => w.heap.size ≤ b) A' n' c' out) ∨
      (orderOf n coins = none ∧ e = .returned (.tuple #[.slice none 0 0, .int .i64 0, .int .i64 5]))) ∧ Below w.heap.size w w' := by
  have hml : coins.length = m := by simpa using hr.1
  have HML := Lib.hid hml
  have HR := Lib.hid (hr.fit (by omega))
  have e1 : decide ((n : Int) < 0) = false := by simp
  have e2 : decide (100 < (n : Int)) = false := by simp; omega
  clear hml hr
  go_enter Try.func27, Try.ntmps27
  go_wp2_with fail
  go_loopw [7, 21] (fun v i wr => ∃ j : Nat, j ≤ n ∧ i = .int .i64 j ∧ OwnL Rep.int wr (fun _ => False) w.heap.size 3 v (upTo j) ∧ Below w.heap.size w wr) (fun _ i _ => n - (intOf i).toNat)
  case atStart => exact ⟨0, Nat.zero_le _, rfl, OwnL.nil _ _ _ _ _, Below.refl _ _⟩
  case round =>
    obtain ⟨j, hj, rfl, ho, hb⟩ := hrel
    have HO := Lib.hid ho
    have HB := Lib.hid hb
    clear ho hb
    by_cases hlt : j < n
    · obtain ⟨v2, w2, hrun, ho2, _, hb2⟩ := run_append_lit (R := Rep.int) tInts rfl wr 22 w.heap.size (fun _ => False) _ (upTo j) HO.out 1 [(j : Int)] [.int .i64 (j : Int)] (Cells.single rfl) rfl (by rw [upTo_len]; unfold maxLen; omega) (by rw [upTo_len]; omega) HB.out.size
      rw [← upTo_succ] at ho2
      have HRUN := Lib.hid hrun
      have HO2 := Lib.hid ho2
      have HB2 := Lib.hid hb2
      clear hrun ho2 hb2
      go_wp2_with (at_builtin; refine Lib.wpList_append_run (o := ⟨some 27, _, _, _, _, _⟩) _ rfl _ _ _ _ rfl _ _ rfl rfl _ _ HRUN.out ?_)
      go_roundw
      case rel => exact ⟨j + 1, by omega, by go_num, HO2.out, HB.out.trans HB2.out⟩
      case measure => simp [intOf]; omega
    · obtain rfl : j = n := by omega
      obtain ⟨Al, cl, rfl, hcl, _⟩ := HO.out.form
      have hO := HO.out
      rw [upTo_len] at hcl hO ⊢
      rcases Nat.eq_zero_or_pos j with h0 | h0
      · subst h0
        clear HO hO
        go_wp2_with fail
        refine wp_loop_rounds 1 ?_
        rw [rounds_succ]
        go_wp2_with fail
        go_ret3
        exact ⟨.inl ⟨_, _, _, [], 0, rfl, rfl, Sl.nil _ _ _ _⟩, HB.out⟩
      · obtain ⟨xs, hx1, hx2⟩ := hO
        rw [upTo_len] at hx1
        rw [Cells.ints.1 hx2] at hx1
        obtain ⟨g, rfl, hbg, hown⟩ := hx1.addr h0
        have hg2 : g < wr.heap.size := (hown.lt g rfl).2
        have HOWN := Lib.hid hown
        clear hx1 hx2 hown HO
        obtain ⟨wo, rfl⟩ : ∃ wo : World, wo = wr := ⟨_, rfl⟩
        go_wp2_with fail
        go_loopg [7, 8, 10] j (fun k v7 v8 v10 wr => OrdSt w wo g j coins k v7 v8 v10 wr)
        case atStart => exact ⟨upTo j, [], 0, cl, rfl, rfl, upTo_len j, HOWN.out, OwnL.nil _ _ _ _ _, Nat.zero_le _, rfl, by simp, HB.out, Nat.le_refl _⟩
        case round =>
          obtain ⟨rem, out, at_, cap, rfl, rfl, hlen, hown, hout, hat, hgo, hsum, hb, hsz⟩ := hrel
          have HLEN := Lib.hid hlen
          have HOWN2 := Lib.hid hown
          have HOUT := Lib.hid hout
          have HGO := Lib.hid hgo
          have HSUM := Lib.hid hsum
          have HB2 := Lib.hid hb
          have hat2 : at_ ≤ m := by rw [HML.out] at hat; exact hat
          have hgk : gk ≤ 12 := by omega
          clear hlen hown hout hgo hsum hb HOWN
          rcases Nat.eq_zero_or_pos gk with h1 | h1
          · subst h1
            obtain ⟨Ao, co, hvo, _, _⟩ := HOUT.out.form
            subst hvo
            have hfin : orderOf j coins = some (out, at_) := by rw [← HGO.out]; rfl
            have HFIN := Lib.hid hfin
            have hol : out.length = j := by have := HSUM.out; omega
            rw [hol] at HOUT ⊢
            clear hfin
            go_wp2_with fail
            go_ret3
            exact ⟨.inl ⟨Ao, j, co, out, at_, HFIN.out, rfl, HOUT.out.sl.more fun b hb' => by have := HB.out.size; simp at hb'; omega⟩, HB2.out⟩
          · obtain ⟨f, rfl⟩ : ∃ f, gk = f + 1 := ⟨gk - 1, by omega⟩
            have hrd : Rd wr (fun b => S b ∧ b < w.heap.size) 1 A m (coins.map Value.bool) := HR.out.keep (Kept.belowB HB2.out fun b hb' => hb'.2)
            obtain ⟨A', hcut, hrdc⟩ := tBools.cutl (c := c) hrd (at_ : Int) (by omega) (by omega) hc
            rw [Int.toNat_natCast, Nat.mul_one, ← List.map_drop] at hrdc
            rw [Int.toNat_natCast] at hcut
            obtain ⟨hk1, hk2, hk3⟩ := bitsOf_ok (f + 1) (by omega) (by omega)
            have HRD := Lib.hid hrd
            have HRDC := Lib.hid hrdc
            have HK1 := Lib.hid hk1
            have HK2 := Lib.hid hk2
            have hgo2 := HGO.out
            rw [orderGo, HLEN.out] at hgo2
            clear hrd hrdc hk1 hk2
            cases he : number (f + 1) (bitsOf (f + 1)) (coins.drop at_) with
            | none =>
              rw [he] at hgo2
              have HGO2 := Lib.hid hgo2
              have HE := Lib.hid he
              clear hgo2 he
              go_wp2_with (go_at_call 67; refine (number_no _ (f + 1) (bitsOf (f + 1)) (m - at_) (c - at_) _ A' (coins.drop at_) _ (by simp) (by omega) (by omega) (by omega) (by omega) HK1.out HK2.out hk3 HRDC.out HE.out).mono ?_; rintro e w' ⟨rfl, rfl⟩)
              go_ret3
              exact ⟨.inr ⟨HGO2.out.symm, rfl⟩, HB2.out⟩
            | some r =>
              obtain ⟨i, used⟩ := r
              rw [he] at hgo2
              obtain ⟨hu, hi, _, _⟩ := number_hit (by omega) he
              rw [List.length_drop, HML.out] at hu
              have HGO2 := Lib.hid hgo2
              have HE := Lib.hid he
              clear hgo2 he
              have hcell : wr.cell? ⟨g, i, none⟩ = some (.int .i64 (rem.getD i 0)) := by
                rw [HOWN2.out.cellAt i (by omega), List.getElem?_map, List.getElem?_eq_getElem (by rw [HLEN.out]; exact hi), List.getD_eq_getElem?_getD, List.getElem?_eq_getElem (by rw [HLEN.out]; exact hi)]
                rfl
              obtain ⟨v2, w2, hrun, ho2, hg2', hb3⟩ := run_append_lit (R := Rep.int) tInts rfl wr 22 wo.heap.size (fun _ => False) _ out HOUT.out 1 [rem.getD i 0] [.int .i64 (rem.getD i 0)] (Cells.single rfl) rfl (by have := HSUM.out; unfold maxLen; omega) (by have := HSUM.out; omega) hsz
              have hown3 : w2.ownsRow w.heap.size 3 1 (.slice (some ⟨g, 0, none⟩) (f + 1) cap) (f + 1) (rem.map (Value.int .i64)) := by
                rcases HOWN2.out.2 with ⟨h', _⟩ | ⟨g', cap', cur, h', hbb, hh, hr⟩
                · simp at h'
                · refine ⟨HOWN2.out.1, .inr ⟨g', cap', cur, h', hbb, ?_, hr⟩⟩
                  simp only [Value.slice.injEq, Option.some.injEq, Addr.mk.injEq, and_true, true_and] at h'
                  rw [hb3.block g' (by rw [← h'.1]; exact hg2)]
                  exact hh
              have HRUN := Lib.hid hrun
              have HO2 := Lib.hid ho2
              have HB3 := Lib.hid hb3
              have HOWN3 := Lib.hid hown3
              clear hrun ho2 hg2' hb3 hown3
              have hi0 : (i : Int) < ((f + 1 : Nat) : Int) := by omega
              go_wp2_with (first
                | (go_at_call 67; refine (number_yes _ (f + 1) (bitsOf (f + 1)) (m - at_) (c - at_) i used _ A' (coins.drop at_) _ (by simp) (by omega) (by omega) (by omega) (by omega) HK1.out HK2.out hk3 HRDC.out HE.out).mono ?_; rintro e w' ⟨rfl, rfl⟩)
                | (at_builtin; refine Lib.wpList_append_run (o := ⟨some 54, _, _, _, _, _⟩) _ rfl _ _ _ _ rfl _ _ rfl rfl _ _ HRUN.out ?_))
              refine (deleteInt w2 w.heap.size g (f + 1) cap i rem HOWN3.out hi (by omega)).mono ?_
              rintro e w3 ⟨rfl, hown4, hg4⟩
              rw [Nat.add_sub_cancel] at hown4 ⊢
              have hb4 : Below w.heap.size w w3 := (HB2.out.trans (HB3.out.mono HB.out.size)).grown hg4 (by have := HB2.out.size; have := HB3.out.size; omega) (fun q hq => by injection hq with hq; omega)
              have hout4 : OwnL Rep.int w3 (fun _ => False) wo.heap.size 3 v2 (out ++ [rem.getD i 0]) := by
                obtain ⟨xs2, hx1, hx2⟩ := HO2.out
                refine ⟨xs2, hx1.kept hg4 ?_, Cells.ints.2 (Cells.ints.1 hx2)⟩
                intro q hq e
                injection hq with hq
                subst hq
                have := (hx1.row e).1
                omega
              have hst : OrdSt w wo g j coins f (.slice (some ⟨g, 0, none⟩) f cap) v2 (.int .i64 ((at_ + used : Nat) : Int)) w3 :=
                ⟨rem.eraseIdx i, out ++ [rem.getD i 0], at_ + used, cap, rfl, rfl, by rw [List.length_eraseIdx_of_lt (by rw [HLEN.out]; exact hi), HLEN.out]; omega, hown4, hout4, by rw [HML.out]; omega, HGO2.out,
                  by have := HSUM.out; simp; omega, hb4, by have := hg4.size; have := HB3.out.size; omega⟩
              have HST := Lib.hid hst
              clear hown4 hg4 hb4 hout4 hst
              go_wp2_with fail
              go_roundg f
              case measure => omega
              case rel => exact HST.out
end Go.Proofs.Ytfmmpmphlognlaa
