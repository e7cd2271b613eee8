/- Mask Tz TabLaid DfaB MinMax Below -/
import Derived.Deep.RegionLaw
import Derived.FnData
import Derived.LaidHandle
import Derived.LaidLaws
import Derived.LaidMore
import Derived.Laws.BitsAll
import Derived.LoopTactic
import Derived.MakeChecks
import Derived.Outline
import Derived.ProofKit
import Derived.Test.YtimklgbljjamkaaDoorCs01
import Derived.Test.YtimklgbljjamkaaDoorCs03
import Derived.Test.YtimklgbljjamkaaDoorCs04
import Derived.WalkKit
import Derived.WalkLawsBesides
namespace Go.Proofs.YtimklgbljjamkaaDoor
theorem low_split : ∀ (x : Nat), x ≠ 0 → ∃ p m, x = 2 ^ p * (2 * m + 1)
 | x, h => by
  by_cases ho : x % 2 = 1
  ·
   exact ⟨0, x / 2, by omega⟩
  ·
   have hlt : x / 2 < x := by omega
   obtain ⟨p, m, e⟩ := low_split (x / 2) (by omega)
   refine ⟨p + 1, m, ?_⟩
   rw [Nat.pow_succ, Nat.mul_comm (2 ^ p) 2, Nat.mul_assoc, ← e]
   omega
termination_by x => x
theorem odd_bit (m i : Nat) : (2 * m + 1).testBit i = if i = 0 then true else m.testBit (i - 1) := by
 cases i with
 | zero => simp [Nat.testBit_zero]
 | succ i =>
  rw [Nat.testBit_succ, if_neg (by omega), Nat.add_sub_cancel]
  congr 1
  omega
theorem even_bit (m i : Nat) : (2 * m).testBit i = if i = 0 then false else m.testBit (i - 1) := by
 cases i with
 | zero => simp [Nat.testBit_zero]
 | succ i =>
  rw [Nat.testBit_succ, if_neg (by omega), Nat.add_sub_cancel]
  congr 1
  omega
theorem low_bit (p m i : Nat) : (2 ^ p * (2 * m + 1)).testBit i = if i < p then false else if i = p then true else m.testBit (i - p - 1) := by
 rw [Nat.testBit_two_pow_mul, odd_bit]
 by_cases h1 : i < p
 ·
  rw [if_pos h1, decide_eq_false (by omega)]; rfl
 ·
  rw [if_neg h1, decide_eq_true (by omega)]
  by_cases h2 : i = p
  ·
   rw [if_pos (by omega), if_pos h2]; rfl
  ·
   rw [if_neg (by omega), if_neg h2]; rfl
theorem pred_bit (p m i : Nat) : (2 ^ p * (2 * m + 1) - 1).testBit i = if i < p then true else if i = p then false else m.testBit (i - p - 1) := by
 have hp : 0 < 2 ^ p := Nat.two_pow_pos p
 have e : 2 ^ p * (2 * m + 1) - 1 = 2 ^ p * (2 * m) + (2 ^ p - 1) := by
  rw [Nat.mul_add, Nat.mul_one]
  omega
 rw [e, Nat.testBit_two_pow_mul_add _ (by omega)]
 by_cases h1 : i < p
 ·
  rw [if_pos h1, if_pos h1, Nat.testBit_two_pow_sub_one, decide_eq_true h1]
 ·
  rw [if_neg h1, if_neg h1, even_bit]
  by_cases h2 : i = p
  ·
   rw [if_pos (by omega), if_pos h2]
  ·
   rw [if_neg (by omega), if_neg h2]
theorem low_of {x : Nat} (h : x ≠ 0) : ∃ p, x.testBit p = true ∧ (∀ i, (x &&& (x - 1)).testBit i = (x.testBit i && !decide (i = p))) ∧ x &&& (x - 1) < x ∧ ∀ n, x < 2 ^ n → p < n ∧ x &&& (2 ^ n - x) = 2 ^ p := by
 obtain ⟨p, m, rfl⟩ := low_split x h
 have hp : 0 < 2 ^ p := Nat.two_pow_pos p
 refine ⟨p, by rw [low_bit, if_neg (by omega), if_pos rfl], fun i => ?_, Nat.lt_of_le_of_lt Nat.and_le_right (by omega), fun n hn => ?_⟩
 ·
  rw [Nat.testBit_and, low_bit, pred_bit]
  by_cases h1 : i < p
  ·
   rw [if_pos h1]; rfl
  ·
   rw [if_neg h1, if_neg h1]
   by_cases h2 : i = p
   ·
    rw [if_pos h2, if_pos h2, decide_eq_true h2]; rfl
   ·
    rw [if_neg h2, if_neg h2, decide_eq_false h2]; simp
 ·
  have hpn : p < n := by
   rcases Nat.lt_or_ge p n with hlt | hge
   ·
    exact hlt
   ·
    have h1 := Nat.pow_le_pow_right (by omega : 0 < 2) hge
    have h2 : 2 ^ p ≤ 2 ^ p * (2 * m + 1) := Nat.le_mul_of_pos_right _ (by omega)
    omega
  refine ⟨hpn, Nat.eq_of_testBit_eq fun i => ?_⟩
  have e : 2 ^ n - 2 ^ p * (2 * m + 1) = 2 ^ n - ((2 ^ p * (2 * m + 1) - 1) + 1) := by omega
  rw [Nat.testBit_and, e, Nat.testBit_two_pow_sub_succ (by omega), low_bit, pred_bit, Nat.testBit_two_pow]
  by_cases h1 : i < p
  ·
   rw [if_pos h1, decide_eq_false (by omega : ¬ p = i)]; simp
  ·
   rw [if_neg h1, if_neg h1]
   by_cases h2 : i = p
   ·
    subst h2
    rw [if_pos rfl, if_pos rfl]
    simp [hpn]
   ·
    rw [if_neg h2, if_neg h2, decide_eq_false (by omega : ¬ p = i)]
    cases m.testBit (i - p - 1) <;> simp
theorem bit_lt {x n i : Nat} (h : x < 2 ^ n) (hb : x.testBit i = true) : i < n := by
 rcases Nat.lt_or_ge i n with hlt | hge
 ·
  exact hlt
 ·
  rw [Nat.testBit_lt_two_pow (Nat.lt_of_lt_of_le h (Nat.pow_le_pow_right (by omega) hge))] at hb; cases hb
theorem or_grows {x y : Nat} (h : ∃ i, x.testBit i = true ∧ y.testBit i = false) : y < y ||| x := by
 obtain ⟨i, h1, h2⟩ := h
 rcases Nat.lt_or_ge y (y ||| x) with hlt | hge
 ·
  exact hlt
 ·
  exfalso
  have e : y ||| x = y := Nat.le_antisymm hge Nat.left_le_or
  have : (y ||| x).testBit i = true := by rw [Nat.testBit_or, h1, Bool.or_true]
  rw [e, h2] at this
  cases this
end Go.Proofs.YtimklgbljjamkaaDoor
namespace Go.Proofs.YtimklgbljjamkaaDoor
open Go.RowKit
def tzTab : List Nat := [0, 1, 28, 2, 29, 14, 24, 3, 30, 22, 20, 15, 25, 17, 4, 8, 31, 27, 13, 23, 21, 19, 16, 7, 26, 12, 18, 6, 11, 5, 10, 9]
def Tab (w : World) : Prop := 0 < w.heap.size ∧ ∀ j, j < 32 → w.cell? ⟨0, j, none⟩ = some (.int .u8 ((tzTab.getD j 0 : Nat) : Int))
theorem Tab.below {w w' : World} {B : Nat} (h : Tab w) (hb : Below B w w') (hB : 0 < B) : Tab w' :=
 ⟨Nat.lt_of_lt_of_le h.1 hb.size, fun j hj => (hb.cell (p := ⟨0, j, none⟩) hB).trans (h.2 j hj)⟩
theorem tz_index : ∀ p, p < 32 → (2 ^ p * 125613361 % 4294967296) / 134217728 < 32 ∧ tzTab.getD ((2 ^ p * 125613361 % 4294967296) / 134217728) 0 = p := by decide +kernel
set_option linter.unusedSimpArgs false in
set_option maxRecDepth 100000 in
set_option maxHeartbeats 2000000 in
theorem trailingZeros (w : World) (hT : Tab w) (x p : Nat) (hx0 : x ≠ 0) (hx : x < 4294967296) (hp : p < 32) (hlow : x &&& (4294967296 - x) = 2 ^ p) :
    Calls Tryd.prog 91 #[.int .u32 x] w fun e w' => e = .returned (.int .i64 (p : Int)) ∧ w = w' := by
 obtain ⟨h1, h2⟩ := tz_index p hp
 obtain ⟨j, hj⟩ : ∃ j, j = (2 ^ p * 125613361 % 4294967296) / 134217728 := ⟨_, rfl⟩
 rw [← hj] at h1 h2
 have hc := hT.2 j h1
 rw [h2] at hc
 have hne : ((x : Int) == 0) = false := by simp; omega
 have hE : bits .and .u32 (x : Int) (-(x : Int) % 4294967296) * 125613361 % 4294967296 / 134217728 = (j : Int) := by
  have e1 : -(x : Int) % 4294967296 = ((4294967296 - x : Nat) : Int) := by omega
  rw [e1, u32_and_nat _ _ hx (by omega), hlow, hj]
  generalize 2 ^ p = Q
  omega
 have hj0 : (0 : Int) ≤ (j : Int) := by omega
 have hj32 : (j : Int) < 32 := by omega
 clear hT h2 hlow hj hx hx0
 go_enter Tryd.func91, Tryd.ntmps91
 go_wp2_with fail
 go_ret
 exact ⟨rfl, rfl⟩
end Go.Proofs.YtimklgbljjamkaaDoor
namespace Go.Proofs.YtimklgbljjamkaaDoor
open Go.ChangeShapes Go.WideShapes Go.ChangeAt Go.RowKit
theorem gTab : Tryd.prog.globalNamed "math/bits.deBruijn32tab" = some 0 := by kernel_rfl
theorem tTab : (Tryd.prog.globals[0]?).map (·.type) = some 196 := by kernel_rfl
theorem cellsU8 : Tryd.prog.cellsOf 5 = 1 := by kernel_rfl
abbrev tabLaid : List (String × DataW Unit) := [("math/bits.deBruijn32tab", Rows.laid_math_bits_deBruijn32tab)]
set_option maxRecDepth 100000 in
theorem tab_of_laid {W : World} (h : laidMetH Tryd.prog tabLaid W) : Tab W := by
 rw [MakeChecks.laidMetH_plain _ _ _ (by kernel_rfl)] at h
 obtain ⟨ps, ⟨g0, t0, cs0, f0, p0, q0, hg0, ht0, hv0, hd0, _, _⟩, _, _⟩ := h
 obtain rfl := Option.some.inj (gTab.symm.trans hg0)
 obtain rfl := Option.some.inj (tTab.symm.trans ht0)
 obtain ⟨xs, m1, rfl, hx1, _, hn, hel⟩ := DataW.trod_array Tryd.underlying196 hd0
 simp only [Prod.mk.injEq] at hx1
 have hx2 := hx1.1
 have hlist : xs.map (·.1) = tzTab.map fun n : Nat => DataW.lit (.int .u8 (n : Int)) := by
  have e : Rows.laid_math_bits_deBruijn32tab (H := Unit) = .agg (tzTab.map fun n : Nat => DataW.lit (.int .u8 (n : Int))) := rfl
  rw [e] at hx2
  injection hx2 with hx2
  exact hx2.symm
 have hcell : ∀ j, j < 32 → W.cell? ⟨0, j, none⟩ = some (.int .u8 ((tzTab.getD j 0 : Nat) : Int)) := fun j hj => by
  have hlen : j < xs.length := by omega
  have e1 := hel j hj
  rw [List.getElem?_eq_getElem hlen] at e1
  obtain ⟨k, ec, ex, _⟩ := DataW.trod_int Tryd.underlying5 e1
  have hk : (xs.map (·.1))[j]? = some (.lit (.int .u8 k)) := by
   rw [List.getElem?_map, List.getElem?_eq_getElem hlen, Option.map_some, ex]
  rw [hlist, List.getElem?_map, List.getElem?_eq_getElem (show j < tzTab.length from hj), Option.map_some] at hk
  simp only [Option.some.injEq, DataW.lit.injEq, Lit.int.injEq, true_and] at hk
  rw [cellsU8, Nat.mul_one] at ec
  have hcj : cs0.toList[j]? = some (.int .u8 k) := by
   have := congrArg (fun l => l[0]?) ec
   simpa [List.getElem?_take, List.getElem?_drop] using this
  rw [World.var?_cell gTab hv0 j, ← Array.getElem?_toList, hcj, ← hk, List.getD_eq_getElem?_getD, List.getElem?_eq_getElem (show j < tzTab.length from hj)]
  rfl
 exact ⟨by
  have h0 := hcell 0 (by decide)
  exact cell_lt h0, hcell⟩
theorem door_met (os : Os) (args : Array Value) : laidMetH Tryd.prog tabLaid ((World.doorLaid Tryd.prog 100 os).forCall (fun _ _ => 0) ⟨#[], args, []⟩).memory :=
 laidMetH_of_parts3 (fuel := 8) (laidMet_of_run' 8 (by kernel_rfl) (by kernel_rfl)) (by kernel_rfl) (by kernel_rfl)
end Go.Proofs.YtimklgbljjamkaaDoor
namespace Go.Proofs.YtimklgbljjamkaaDoor
open Go.RowKit
theorem step_append_run {P : Program} (w : World) {ops : Array Oper} {o : Oper} {a : Act} {K : Act → World → Prop} {Q : Exit → Act → World → Prop} {E : Prop} (hgd : o.guard = none) (s x : Operand) (t tn : TypeId)
    (ho : o.op = .call { callee := .builtin .append, args := #[s, x], argTypes := #[t, tn] }) (vs vx : Value) (hs : a.eval s = vs) (hx : a.eval x = vx)
    (v' : Value) (w' : World) (hr : (Builtin.append_ #[t, tn] o.type #[vs, vx]).run P w = .ok v' w') (h : K (a.put o.dst v') w') :
    if Region.wanted o (yielded ops a.tmps) = true then Oper.wp P o a w K Q else E := by
 have hw : Region.wanted o (yielded ops a.tmps) = true := by simp [Region.wanted, hgd]
 rw [if_pos hw]
 exact Lib.wp_append_run w s x t tn ho vs vx hs hx v' w' hr h
abbrev RI : Rep (List Int) := Rep.slice Rep.int
section
variable {w w' : World} {base Bd : Nat} {start : Int} {acc : List Int} {rows : List (List Int)} {vA vN : Value} {xs : List Value}
theorem blk_set {t : TypeId} {cs : Array Value} (hh : w.heap[Bd]? = some (.cells cs t (0, 0))) (i : Nat) (u : Value) : (w.setCell ⟨Bd, i, none⟩ u).heap[Bd]? = some (.cells (cs.setIfInBounds i u) t (0, 0)) := heap_setCell_same w Bd i cs t u hh
theorem set_grown (w2 : World) (i : Nat) (u : Value) : w2.grownBy (w2.setCell ⟨Bd, i, none⟩ u) (some Bd) := ⟨rfl, rfl, rfl, by simp [World.setCell], fun q _ hq => Below.heap_setCell w2 ⟨Bd, i, none⟩ _ q (fun e => hq (by rw [e]))⟩
end
end Go.Proofs.YtimklgbljjamkaaDoor
namespace Go.Proofs.YtimklgbljjamkaaDoor
open Go.RowKit
theorem Rd.int_at {w : World} {S : Nat → Prop} {A : Option Addr} {n k : Nat} {l : List Int} (h : Rd w S 1 A n (l.map (Value.int .i64))) (hk : k < n) :
    ∃ b off x, A = some ⟨b, off, none⟩ ∧ S b ∧ l[k]? = some x ∧ w.cell? ⟨b, off + k, none⟩ = some (.int .i64 x) := by
 obtain ⟨b, off, u, e, hb, hx, hc⟩ := h.at_ hk
 rw [List.getElem?_map] at hx
 obtain ⟨x, h1, rfl⟩ := Option.map_eq_some_iff.1 hx
 exact ⟨b, off, x, e, hb, h1, hc⟩
end Go.Proofs.YtimklgbljjamkaaDoor
namespace Go.Proofs.YtimklgbljjamkaaDoor
open Go.RowKit
theorem tmod_neg (x n : Int) (hn : 1 ≤ n) (h : x.tmod n < 0) : x.tmod n + n = x % n ∧ -n < x.tmod n := by
 have e := @Int.tmod_eq_emod x n
 have h1 := Int.emod_nonneg x (by omega : n ≠ 0)
 have h2 := Int.lt_tmod_of_pos x (by omega : 0 < n)
 split at e <;> omega
theorem tmod_pos (x n : Int) (hn : 1 ≤ n) (h : 0 ≤ x.tmod n) : x.tmod n = x % n := by
 have e := @Int.tmod_eq_emod x n
 have h1 := Int.emod_lt_of_pos x (by omega : 0 < n)
 split at e <;> omega
theorem makeBelow (x n : Int) (w : World) (hn : 1 ≤ n) (hn2 : n ≤ 1000000000000) :
    Calls Tryd.prog 21 #[.int .i64 x, .int .i64 n] w fun e w' => e = .returned (.int .i64 (x % n)) ∧ w = w' := by
 go_enter Tryd.func21, Tryd.ntmps21
 go_wp2
 ·
  rename_i h
  go_ret
  obtain ⟨e1, e2⟩ := tmod_neg x n hn h
  exact ⟨ret_int (by rw [IntWalk.wrap64_in _ ⟨by omega, by omega⟩, e1]), rfl⟩
 ·
  rename_i h
  go_ret
  exact ⟨ret_int (tmod_pos x n hn h), rfl⟩
theorem keepBelow (x n : Int) (w : World) (hn : 1 ≤ n) (hn2 : n ≤ 1000000000000) :
    Calls Tryd.prog 6 #[.int .i64 x, .int .i64 n] w fun e w' => e = .returned (.int .i64 (x % n)) ∧ w = w' := by
 go_enter Tryd.func6, Tryd.ntmps6
 go_wp2_with (go_at_call 21; refine (makeBelow _ _ _ hn hn2).mono ?_; rintro e w' ⟨rfl, rfl⟩)
 go_ret
 exact ⟨rfl, rfl⟩
end Go.Proofs.YtimklgbljjamkaaDoor
