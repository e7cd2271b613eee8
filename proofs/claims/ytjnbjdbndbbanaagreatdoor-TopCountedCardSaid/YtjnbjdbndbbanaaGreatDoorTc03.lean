/- Mask Tz TabLaid RowsB IntAt Below Stream Grid -/
import Derived.Deep.RegionLaw
import Derived.LaidMore
import Derived.Test.YtjnbjdbndbbanaaGreatDoorTc02
import Derived.WalkLawsBesides
namespace Go.Proofs.YtjnbjdbndbbanaaGreatDoor
theorem low_split : ∀ (x : Nat), x ≠ 0 → ∃ p m, x = 2 ^ p * (2 * m + 1)
 | x, h => by
  by_cases ho : x % 2 = 1
  · exact ⟨0, x / 2, by omega⟩
  have hlt : x / 2 < x := by omega
  obtain ⟨p, m, e⟩ := low_split (x / 2) (by omega)
  refine ⟨p + 1, m, ?_⟩
  rw [Nat.pow_succ, Nat.mul_comm (2 ^ p) 2, Nat.mul_assoc, ← e]
  omega
termination_by x => x
theorem odd_bit (m i : Nat) : (2 * m + 1).testBit i = if i = 0 then true else m.testBit (i - 1) := by
 cases i with
 | zero => simp [Nat.testBit_zero]
 | succ i =>
  rw [Nat.testBit_succ, if_neg (by omega), Nat.add_sub_cancel]
  congr 1
  omega
theorem even_bit (m i : Nat) : (2 * m).testBit i = if i = 0 then false else m.testBit (i - 1) := by
 cases i with
 | zero => simp [Nat.testBit_zero]
 | succ i =>
  rw [Nat.testBit_succ, if_neg (by omega), Nat.add_sub_cancel]
  congr 1
  omega
theorem low_bit (p m i : Nat) : (2 ^ p * (2 * m + 1)).testBit i = if i < p then false else if i = p then true else m.testBit (i - p - 1) := by
 rw [Nat.testBit_two_pow_mul, odd_bit]
 by_cases h1 : i < p
 · rw [if_pos h1, decide_eq_false (by omega)]; rfl
 rw [if_neg h1, decide_eq_true (by omega)]
 by_cases h2 : i = p
 · rw [if_pos (by omega), if_pos h2]; rfl
 rw [if_neg (by omega), if_neg h2]; rfl
theorem pred_bit (p m i : Nat) : (2 ^ p * (2 * m + 1) - 1).testBit i = if i < p then true else if i = p then false else m.testBit (i - p - 1) := by
 have hp : 0 < 2 ^ p := Nat.two_pow_pos p
 have e : 2 ^ p * (2 * m + 1) - 1 = 2 ^ p * (2 * m) + (2 ^ p - 1) := by
  rw [Nat.mul_add, Nat.mul_one]
  omega
 rw [e, Nat.testBit_two_pow_mul_add _ (by omega)]
 by_cases h1 : i < p
 · rw [if_pos h1, if_pos h1, Nat.testBit_two_pow_sub_one, decide_eq_true h1]
 rw [if_neg h1, if_neg h1, even_bit]
 by_cases h2 : i = p
 · rw [if_pos (by omega), if_pos h2]
 rw [if_neg (by omega), if_neg h2]
theorem low_of {x : Nat} (h : x ≠ 0) : ∃ p, x.testBit p = true ∧ (∀ i, (x &&& (x - 1)).testBit i = (x.testBit i && !decide (i = p))) ∧ x &&& (x - 1) < x ∧ ∀ n, x < 2 ^ n → p < n ∧ x &&& (2 ^ n - x) = 2 ^ p := by
 obtain ⟨p, m, rfl⟩ := low_split x h
 have hp : 0 < 2 ^ p := Nat.two_pow_pos p
 refine ⟨p, by rw [low_bit, if_neg (by omega), if_pos rfl], fun i => ?_, Nat.lt_of_le_of_lt Nat.and_le_right (by omega), fun n hn => ?_⟩
 ·
  rw [Nat.testBit_and, low_bit, pred_bit]
  by_cases h1 : i < p
  · rw [if_pos h1]; rfl
  rw [if_neg h1, if_neg h1]
  by_cases h2 : i = p
  · rw [if_pos h2, if_pos h2, decide_eq_true h2]; rfl
  rw [if_neg h2, if_neg h2, decide_eq_false h2]; simp
 have hpn : p < n := by
  rcases Nat.lt_or_ge p n with hlt | hge
  · exact hlt
  have h1 := Nat.pow_le_pow_right (by omega : 0 < 2) hge
  have h2 : 2 ^ p ≤ 2 ^ p * (2 * m + 1) := Nat.le_mul_of_pos_right _ (by omega)
  omega
 refine ⟨hpn, Nat.eq_of_testBit_eq fun i => ?_⟩
 have e : 2 ^ n - 2 ^ p * (2 * m + 1) = 2 ^ n - ((2 ^ p * (2 * m + 1) - 1) + 1) := by omega
 rw [Nat.testBit_and, e, Nat.testBit_two_pow_sub_succ (by omega), low_bit, pred_bit, Nat.testBit_two_pow]
 by_cases h1 : i < p
 · rw [if_pos h1, decide_eq_false (by omega : ¬ p = i)]; simp
 rw [if_neg h1, if_neg h1]
 by_cases h2 : i = p
 ·
  subst h2
  rw [if_pos rfl, if_pos rfl]
  simp [hpn]
 rw [if_neg h2, if_neg h2, decide_eq_false (by omega : ¬ p = i)]
 cases m.testBit (i - p - 1) <;> simp
theorem bit_lt {x n i : Nat} (h : x < 2 ^ n) (hb : x.testBit i = true) : i < n := by
 rcases Nat.lt_or_ge i n with hlt | hge
 · exact hlt
 rw [Nat.testBit_lt_two_pow (Nat.lt_of_lt_of_le h (Nat.pow_le_pow_right (by omega) hge))] at hb; cases hb
theorem or_grows {x y : Nat} (h : ∃ i, x.testBit i = true ∧ y.testBit i = false) : y < y ||| x := by
 obtain ⟨i, h1, h2⟩ := h
 rcases Nat.lt_or_ge y (y ||| x) with hlt | hge
 · exact hlt
 exfalso
 have e : y ||| x = y := Nat.le_antisymm hge Nat.left_le_or
 have : (y ||| x).testBit i = true := by rw [Nat.testBit_or, h1, Bool.or_true]
 rw [e, h2] at this
 cases this
end Go.Proofs.YtjnbjdbndbbanaaGreatDoor
namespace Go.Proofs.YtjnbjdbndbbanaaGreatDoor
open Go.RowKit
def tzTab : List Nat := [0, 1, 28, 2, 29, 14, 24, 3, 30, 22, 20, 15, 25, 17, 4, 8, 31, 27, 13, 23, 21, 19, 16, 7, 26, 12, 18, 6, 11, 5, 10, 9]
def Tab (w : World) : Prop := 0 < w.heap.size ∧ ∀ j, j < 32 → w.cell? ⟨0, j, none⟩ = some (.int .u8 ((tzTab.getD j 0 : Nat) : Int))
theorem Tab.below {w w' : World} {B : Nat} (h : Tab w) (hb : Below B w w') (hB : 0 < B) : Tab w' :=
 ⟨Nat.lt_of_lt_of_le h.1 hb.size, fun j hj => (hb.cell (p := ⟨0, j, none⟩) hB).trans (h.2 j hj)⟩
theorem tz_index : ∀ p, p < 32 → (2 ^ p * 125613361 % 4294967296) / 134217728 < 32 ∧ tzTab.getD ((2 ^ p * 125613361 % 4294967296) / 134217728) 0 = p := by decide +kernel
set_option linter.unusedSimpArgs false in
set_option maxRecDepth 100000 in
set_option maxHeartbeats 2000000 in
theorem trailingZeros (w : World) (hT : Tab w) (x p : Nat) (hx0 : x ≠ 0) (hx : x < 4294967296) (hp : p < 32) (hlow : x &&& (4294967296 - x) = 2 ^ p) :
    Calls Tryz.prog 74 #[.int .u32 x] w fun e w' => e = .returned (.int .i64 (p : Int)) ∧ w = w' := by
 obtain ⟨h1, h2⟩ := tz_index p hp
 obtain ⟨j, hj⟩ : ∃ j, j = (2 ^ p * 125613361 % 4294967296) / 134217728 := ⟨_, rfl⟩
 rw [← hj] at h1 h2
 have hc := hT.2 j h1
 rw [h2] at hc
 have hne : ((x : Int) == 0) = false := by simp; omega
 have hE : bits .and .u32 (x : Int) (-(x : Int) % 4294967296) * 125613361 % 4294967296 / 134217728 = (j : Int) := by
  have e1 : -(x : Int) % 4294967296 = ((4294967296 - x : Nat) : Int) := by omega
  rw [e1, u32_and_nat _ _ hx (by omega), hlow, hj]
  generalize 2 ^ p = Q
  omega
 have hj0 : (0 : Int) ≤ (j : Int) := by omega
 have hj32 : (j : Int) < 32 := by omega
 clear hT h2 hlow hj hx hx0
 go_enter Tryz.func74, Tryz.ntmps74
 go_wp2_with fail
 go_ret
 exact ⟨rfl, rfl⟩
end Go.Proofs.YtjnbjdbndbbanaaGreatDoor
namespace Go.Proofs.YtjnbjdbndbbanaaGreatDoor
open Go.ChangeShapes Go.WideShapes Go.ChangeAt Go.RowKit
theorem gTab : Tryz.prog.globalNamed "math/bits.deBruijn32tab" = some 0 := by kernel_rfl
theorem tTab : (Tryz.prog.globals[0]?).map (·.type) = some 180 := by kernel_rfl
theorem cellsU8 : Tryz.prog.cellsOf 5 = 1 := by kernel_rfl
abbrev tabLaid : List (String × DataW Unit) := [("math/bits.deBruijn32tab", Rows.laid_math_bits_deBruijn32tab)]
set_option maxRecDepth 100000 in
theorem tab_of_laid {W : World} (h : laidMetH Tryz.prog tabLaid W) : Tab W := by
 rw [MakeChecks.laidMetH_plain _ _ _ (by kernel_rfl)] at h
 obtain ⟨ps, ⟨g0, t0, cs0, f0, p0, q0, hg0, ht0, hv0, hd0, _, _⟩, _, _⟩ := h
 obtain rfl := Option.some.inj (gTab.symm.trans hg0)
 obtain rfl := Option.some.inj (tTab.symm.trans ht0)
 obtain ⟨xs, m1, rfl, hx1, _, hn, hel⟩ := DataW.trod_array Tryz.underlying180 hd0
 simp only [Prod.mk.injEq] at hx1
 have hx2 := hx1.1
 have hlist : xs.map (·.1) = tzTab.map fun n : Nat => DataW.lit (.int .u8 (n : Int)) := by
  have e : Rows.laid_math_bits_deBruijn32tab (H := Unit) = .agg (tzTab.map fun n : Nat => DataW.lit (.int .u8 (n : Int))) := rfl
  rw [e] at hx2
  injection hx2 with hx2
  exact hx2.symm
 have hcell : ∀ j, j < 32 → W.cell? ⟨0, j, none⟩ = some (.int .u8 ((tzTab.getD j 0 : Nat) : Int)) := fun j hj => by
  have hlen : j < xs.length := by omega
  have e1 := hel j hj
  rw [List.getElem?_eq_getElem hlen] at e1
  obtain ⟨k, ec, ex, _⟩ := DataW.trod_int Tryz.underlying5 e1
  have hk : (xs.map (·.1))[j]? = some (.lit (.int .u8 k)) := by
   rw [List.getElem?_map, List.getElem?_eq_getElem hlen, Option.map_some, ex]
  rw [hlist, List.getElem?_map, List.getElem?_eq_getElem (show j < tzTab.length from hj), Option.map_some] at hk
  simp only [Option.some.injEq, DataW.lit.injEq, Lit.int.injEq, true_and] at hk
  rw [cellsU8, Nat.mul_one] at ec
  have hcj : cs0.toList[j]? = some (.int .u8 k) := by
   have := congrArg (fun l => l[0]?) ec
   simpa [List.getElem?_take, List.getElem?_drop] using this
  rw [World.var?_cell gTab hv0 j, ← Array.getElem?_toList, hcj, ← hk, List.getD_eq_getElem?_getD, List.getElem?_eq_getElem (show j < tzTab.length from hj)]
  rfl
 exact ⟨by
  have h0 := hcell 0 (by decide)
  exact cell_lt h0, hcell⟩
theorem door_met (os : Os) (args : Array Value) : laidMetH Tryz.prog tabLaid ((World.doorLaid Tryz.prog 100 os).forCall (fun _ _ => 0) ⟨#[], args, []⟩).memory :=
 laidMetH_of_parts3 (fuel := 8) (laidMet_of_run' 8 (by kernel_rfl) (by kernel_rfl)) (by kernel_rfl) (by kernel_rfl)
end Go.Proofs.YtjnbjdbndbbanaaGreatDoor
namespace Go.Proofs.YtjnbjdbndbbanaaGreatDoor
open Go.RowKit
theorem step_append_run {P : Program} (w : World) {ops : Array Oper} {o : Oper} {a : Act} {K : Act → World → Prop} {Q : Exit → Act → World → Prop} {E : Prop} (hgd : o.guard = none) (s x : Operand) (t tn : TypeId)
    (ho : o.op = .call { callee := .builtin .append, args := #[s, x], argTypes := #[t, tn] }) (vs vx : Value) (hs : a.eval s = vs) (hx : a.eval x = vx)
    (v' : Value) (w' : World) (hr : (Builtin.append_ #[t, tn] o.type #[vs, vx]).run P w = .ok v' w') (h : K (a.put o.dst v') w') :
    if Region.wanted o (yielded ops a.tmps) = true then Oper.wp P o a w K Q else E := by
 have hw : Region.wanted o (yielded ops a.tmps) = true := by simp [Region.wanted, hgd]
 rw [if_pos hw]
 exact Lib.wp_append_run w s x t tn ho vs vx hs hx v' w' hr h
abbrev RI : Rep (List Int) := Rep.slice Rep.int
section
variable {w : World} {Bd : Nat}
theorem blk_set {t : TypeId} {cs : Array Value} (hh : w.heap[Bd]? = some (.cells cs t (0, 0))) (i : Nat) (u : Value) : (w.setCell ⟨Bd, i, none⟩ u).heap[Bd]? = some (.cells (cs.setIfInBounds i u) t (0, 0)) := heap_setCell_same w Bd i cs t u hh
theorem set_grown (w2 : World) (i : Nat) (u : Value) : w2.grownBy (w2.setCell ⟨Bd, i, none⟩ u) (some Bd) := ⟨rfl, rfl, rfl, by simp [World.setCell], fun q _ hq => Below.heap_setCell w2 ⟨Bd, i, none⟩ _ q (fun e => hq (by rw [e]))⟩
end
theorem int_step {l : List Int} {k : Nat} {x : Int} (h : l[k]? = some x) : l.take (k + 1) = l.take k ++ [x] := by
 obtain ⟨hk, rfl⟩ := List.getElem?_eq_some_iff.1 h
 exact List.take_succ_eq_append_getElem hk
theorem Rd.int_at {w : World} {S : Nat → Prop} {A : Option Addr} {n k : Nat} {l : List Int} (h : Rd w S 1 A n (l.map (Value.int .i64))) (hk : k < n) :
    ∃ b off x, A = some ⟨b, off, none⟩ ∧ S b ∧ l[k]? = some x ∧ w.cell? ⟨b, off + k, none⟩ = some (.int .i64 x) := by
 obtain ⟨b, off, u, e, hb, hx, hc⟩ := h.at_ hk
 rw [List.getElem?_map] at hx
 obtain ⟨x, h1, rfl⟩ := Option.map_eq_some_iff.1 hx
 exact ⟨b, off, x, e, hb, h1, hc⟩
theorem tmod_neg (x n : Int) (hn : 1 ≤ n) (h : x.tmod n < 0) : x.tmod n + n = x % n ∧ -n < x.tmod n := by
 have e := @Int.tmod_eq_emod x n
 have h1 := Int.emod_nonneg x (by omega : n ≠ 0)
 have h2 := Int.lt_tmod_of_pos x (by omega : 0 < n)
 split at e <;> omega
theorem tmod_pos (x n : Int) (hn : 1 ≤ n) (h : 0 ≤ x.tmod n) : x.tmod n = x % n := by
 have e := @Int.tmod_eq_emod x n
 have h1 := Int.emod_lt_of_pos x (by omega : 0 < n)
 split at e <;> omega
theorem makeBelow (x n : Int) (w : World) (hn : 1 ≤ n) (hn2 : n ≤ 1000000000000) :
    Calls Tryz.prog 5 #[.int .i64 x, .int .i64 n] w fun e w' => e = .returned (.int .i64 (x % n)) ∧ w = w' := by
 go_enter Tryz.func5, Tryz.ntmps5
 go_wp2
 ·
  rename_i h
  go_ret
  obtain ⟨e1, e2⟩ := tmod_neg x n hn h
  exact ⟨ret_int (by rw [IntWalk.wrap64_in _ ⟨by omega, by omega⟩, e1]), rfl⟩
 rename_i h
 go_ret
 exact ⟨ret_int (tmod_pos x n hn h), rfl⟩
def nv (l : List Int) (k : Nat) (m : Int) : Int := match l[k]? with
 | some x => x % m
 | none => 0
theorem nv_range (l : List Int) (k : Nat) (m : Int) (hm : 1 ≤ m) : 0 ≤ nv l k m ∧ nv l k m < m := by
 unfold nv
 split
 ·
  rename_i x _
  exact ⟨Int.emod_nonneg x (by omega), Int.emod_lt_of_pos x (by omega)⟩
 omega
def StreamAt (w : World) (S : Nat → Prop) (B : Nat) (l : List Int) : Prop := ∃ A m c T, w.heap[B]? = some (.cells #[.slice A m c] T (0, 0)) ∧ Sl Rep.int w S A m c l ∧ m ≤ 1000000000000000
theorem heap_lt {w : World} {B : Nat} {o : Obj} (h : w.heap[B]? = some o) : B < w.heap.size := by
 rcases Nat.lt_or_ge B w.heap.size with hlt | hge
 · exact hlt
 rw [Array.getElem?_eq_none hge] at h; cases h
section
variable {w w' : World} {S : Nat → Prop} {B : Nat} {l : List Int}
theorem StreamAt.lt (h : StreamAt w S B l) : B < w.heap.size := by
 obtain ⟨A, m, c, T, h, _⟩ := h
 exact heap_lt h
theorem StreamAt.keep (h : StreamAt w S B l) (hk : Kept S w w') (hB : w'.heap[B]? = w.heap[B]?) : StreamAt w' S B l := by
 obtain ⟨A, m, c, T, hh, hs, hm⟩ := h
 exact ⟨A, m, c, T, hB.trans hh, hs.keep hk, hm⟩
theorem StreamAt.below (h : StreamAt w S B l) (hb : Below w.heap.size w w') : StreamAt w' S B l := h.keep (.below hb) (hb.block B h.lt)
theorem StreamAt.alloc (h : StreamAt w S B l) (o : Obj) : StreamAt (w.alloc o) S B l := h.keep (.alloc _ _ _) (Below.heap_alloc w o B h.lt)
theorem StreamAt.grown {row : Option Nat} (h : StreamAt w S B l) (hg : w.grownBy w' row) (hr : row ≠ some B) (hS : ∀ b, S b → row ≠ some b) : StreamAt w' S B l :=
 h.keep (.grown hg hS) (hg.block B h.lt fun e => hr e.symm)
end
theorem heap_new (w : World) (o : Obj) (H : Nat) (hH : w.heap.size = H) : (w.alloc o).heap[H]? = some o := by subst hH; exact heap_alloc_new w o
theorem streamStart (w : World) (S : Nat → Prop) (A : Option Addr) (n c T H : Nat) (l : List Int) (hs : Sl Rep.int w S A n c l) (hn : n ≤ 1000000000000000) (hH : w.heap.size = H) : StreamAt (w.alloc (.cells #[.slice A n c] T)) S H (l.drop 0) :=
 ⟨A, n, c, T, heap_new w _ H hH, hs.alloc _, hn⟩
set_option maxHeartbeats 1000000 in
theorem streamNext (w : World) (S : Nat → Prop) (B k : Nat) (n : Int) (l : List Int) (h : StreamAt w S B (l.drop k)) (hSB : ¬ S B) (hn : 1 ≤ n) (hn2 : n ≤ 1000000) :
    Calls Tryz.prog 18 #[.pointer (some ⟨B, 0, none⟩), .int .i64 n] w fun e w' => e = .returned (.int .i64 (nv l k n)) ∧ StreamAt w' S B (l.drop (k + 1)) ∧ w.grownBy w' (some B) := by
 have hlt := h.lt
 obtain ⟨A, m, c, T, hh, hs, hm⟩ := h
 have hlen := hs.len
 have hcap := hs.cap
 have hcell : w.cell? ⟨B, 0, none⟩ = some (.slice A m c) := by simp [World.cell?, hh]
 have hfr : w.frozen? ⟨B, 0, none⟩ = false := by simp [World.frozen?, hh]
 rw [List.length_drop] at hlen
 rcases Nat.eq_zero_or_pos m with h0 | h0
 ·
  subst h0
  have hnv : nv l k n = 0 := by unfold nv; rw [List.getElem?_eq_none (by omega)]
  have hst : StreamAt w S B (l.drop (k + 1)) := by
   rw [List.drop_of_length_le (by omega)]
   exact ⟨A, 0, c, T, hh, Sl.nil _ _ _ _, Nat.zero_le _⟩
  have HNV := Lib.hid hnv
  have HST := Lib.hid hst
  clear hh hs hnv hst hlen
  go_enter Tryz.func18, Tryz.ntmps18
  go_wp2_with fail
  go_ret
  exact ⟨ret_int HNV.out.symm, HST.out, World.grownBy.refl _ _⟩
 obtain ⟨b, off, x, rfl, hSb, hx, hc0⟩ := hs.ints.int_at h0
 rw [Nat.add_zero] at hc0
 rw [List.getElem?_drop, Nat.add_zero] at hx
 obtain ⟨A', hcut, hrd⟩ := tInts.cutl (c := c) hs.ints 1 (by omega) (by omega) hcap
 rw [show (1 : Int).toNat = 1 from rfl, Nat.one_mul, ← List.map_drop, List.drop_drop] at hrd
 rw [show (1 : Int).toNat = 1 from rfl] at hcut
 have hnv : nv l k n = x % n := by unfold nv; rw [hx]
 have hst : StreamAt (w.setCell ⟨B, 0, none⟩ (.slice A' (m - 1) (c - 1))) S B (l.drop (k + 1)) := by
  refine ⟨A', m - 1, c - 1, T, ?_, (hrd.slInts (by omega)).keep (.setCell _ _ _ _ hSB), by omega⟩
  have := heap_setCell_same w B 0 #[.slice (some ⟨b, off, none⟩) m c] T (.slice A' (m - 1) (c - 1)) hh
  simpa using this
 have hgr : w.grownBy (w.setCell ⟨B, 0, none⟩ (.slice A' (m - 1) (c - 1))) (some B) := ⟨rfl, rfl, rfl, by simp [World.setCell], fun q _ hq => Below.heap_setCell w ⟨B, 0, none⟩ _ q (fun e => hq (by rw [e]))⟩
 have HNV := Lib.hid hnv
 have HST := Lib.hid hst
 have HGR := Lib.hid hgr
 clear hh hs hnv hst hgr hrd hx hlen
 have hb1 : (1 : Int) ≤ (m : Int) := by omega
 have hme : ((m : Int) == 0) = false := by simp; omega
 go_enter Tryz.func18, Tryz.ntmps18
 go_wp2_with (go_at_call 5; refine (makeBelow _ _ _ hn (by omega)).mono ?_; rintro e w' ⟨rfl, rfl⟩)
 go_ret
 exact ⟨ret_int HNV.out.symm, HST.out, HGR.out⟩
def rowCells {α : Type} (enc : α → Value) (C : Nat) (f : Nat → α) : Array Value := ((List.range C).map (fun k => enc (f k))).toArray
theorem rowCells_at {α : Type} (enc : α → Value) (C : Nat) (f : Nat → α) (k : Nat) (hk : k < C) : (rowCells enc C f)[k]? = some (enc (f k)) := by simp [rowCells, hk]
def upd {α : Type} (f : Nat → α) (k : Nat) (x : α) : Nat → α := fun i => if i = k then x else f i
theorem rowCells_set {α : Type} (enc : α → Value) (C : Nat) (f : Nat → α) (k : Nat) (x : α) : (rowCells enc C f).setIfInBounds k (enc x) = rowCells enc C (upd f k x) := by
 apply Array.ext'
 apply List.ext_getElem?
 intro i
 simp only [rowCells, List.setIfInBounds_toArray, List.getElem?_set, List.length_map, List.length_range, List.getElem?_map, upd]
 by_cases hik : k = i
 ·
  subst hik
  by_cases hk : k < C <;> simp [hk]
 rw [if_neg hik]
 by_cases hi : i < C
 · simp [List.getElem?_range hi, Ne.symm hik]
 simp [List.getElem?_eq_none (show (List.range C).length ≤ i by simp; omega)]
theorem rowCells_congr {α : Type} (enc : α → Value) (C : Nat) {f g : Nat → α} (h : ∀ k, k < C → f k = g k) : rowCells enc C f = rowCells enc C g := by
 unfold rowCells
 congr 1
 apply List.map_congr_left
 intro k hk
 rw [h k (List.mem_range.1 hk)]
structure Grid {α : Type} (enc : α → Value) (E : TypeId) (w : World) (lo hi gN : Nat) (gs : Nat → Nat) (R C : Nat) (T : Nat → Nat → α) : Prop where
 hdr : ∀ a, a < R → w.cell? ⟨gN, a, none⟩ = some (.slice (some ⟨gs a, 0, none⟩) C C)
 row : ∀ a, a < R → w.heap[gs a]? = some (.cells (rowCells enc C (T a)) E (0, 0))
 rng : ∀ a, a < R → lo ≤ gs a ∧ gs a < hi ∧ gs a ≠ gN
 nrg : lo ≤ gN ∧ gN < hi
 inj : ∀ a b, a < R → b < R → gs a = gs b → a = b
section
variable {α : Type} {enc : α → Value} {E : TypeId} {w w' : World} {lo hi gN R C : Nat} {gs : Nat → Nat} {T T' : Nat → Nat → α}
theorem Grid.cell (h : Grid enc E w lo hi gN gs R C T) {a k : Nat} (ha : a < R) (hk : k < C) : w.cell? ⟨gs a, k, none⟩ = some (enc (T a k)) := by
 rw [cell_of_row w _ k _ _ _ (h.row a ha)]
 exact rowCells_at enc C (T a) k hk
theorem Grid.fr (h : Grid enc E w lo hi gN gs R C T) {a : Nat} (ha : a < R) (k : Nat) : w.frozen? ⟨gs a, k, none⟩ = false := by simp [World.frozen?, h.row a ha]
theorem Grid.keep (h : Grid enc E w lo hi gN gs R C T) (hk : ∀ q, lo ≤ q → q < hi → w'.heap[q]? = w.heap[q]?) : Grid enc E w' lo hi gN gs R C T := by
 refine ⟨fun a ha => ?_, fun a ha => ?_, h.rng, h.nrg, h.inj⟩
 · rw [World.cell?_of_block (hk gN h.nrg.1 h.nrg.2)]; exact h.hdr a ha
 obtain ⟨h1, h2, _⟩ := h.rng a ha
 rw [hk _ h1 h2]; exact h.row a ha
theorem Grid.below (h : Grid enc E w lo hi gN gs R C T) (hb : Below w.heap.size w w') (hh : hi ≤ w.heap.size) : Grid enc E w' lo hi gN gs R C T := h.keep fun q _ h2 => hb.block q (by omega)
theorem Grid.congr (h : Grid enc E w lo hi gN gs R C T) (hT : ∀ a k, a < R → k < C → T a k = T' a k) : Grid enc E w lo hi gN gs R C T' :=
 ⟨h.hdr, fun a ha => by rw [h.row a ha, rowCells_congr enc C (hT a · ha)], h.rng, h.nrg, h.inj⟩
theorem Grid.set (h : Grid enc E w lo hi gN gs R C T) {a : Nat} (k : Nat) (ha : a < R) (x : α) : Grid enc E (w.setCell ⟨gs a, k, none⟩ (enc x)) lo hi gN gs R C (fun b j => if b = a ∧ j = k then x else T b j) := by
 obtain ⟨h1, h2, h3⟩ := h.rng a ha
 refine ⟨fun b hb => ?_, fun b hb => ?_, h.rng, h.nrg, h.inj⟩
 · rw [World.cell?_setCell_other _ _ _ _ (fun e => h3 (by injection e))]; exact h.hdr b hb
 by_cases e : b = a
 ·
  subst e
  have hs := blk_set (h.row b hb) k (enc x)
  rw [hs, rowCells_set]
  congr 2
  apply rowCells_congr
  intro j _
  simp [upd]
 rw [Below.heap_setCell _ _ _ _ (fun e' => e (h.inj b a hb ha e')), h.row b hb]
 congr 2
 apply rowCells_congr
 intro j _
 simp [e]
end
theorem made_row (Z : Nat) : madeCells #[Value.bool false] Z = rowCells Value.bool Z (fun _ => false) := by
 apply Array.ext'
 rw [toList_madeCells_one]
 apply List.ext_getElem?
 intro i
 by_cases hi : i < Z <;> simp [rowCells, hi]
end Go.Proofs.YtjnbjdbndbbanaaGreatDoor
