/- DfaB MinMax Below Stream Bins -/
import Derived.Deep.RegionLaw
import Derived.LoopTactic
import Derived.Outline
import Derived.ProofKit
import Derived.Test.YtbmcoamdfpegnaaMa01
import Derived.Test.YtbmcoamdfpegnaaMa03
import Derived.Test.YtbmcoamdfpegnaaMa04
import Derived.WalkKit
import Derived.WalkLawsBesides
namespace Go.Proofs.Ytbmcoamdfpegnaa
open Go.RowKit
theorem step_append_run {P : Program} (w : World) {ops : Array Oper} {o : Oper} {a : Act} {K : Act → World → Prop} {Q : Exit → Act → World → Prop} {E : Prop} (hgd : o.guard = none) (s x : Operand) (t tn : TypeId)
    (ho : o.op = .call { callee := .builtin .append, args := #[s, x], argTypes := #[t, tn] }) (vs vx : Value) (hs : a.eval s = vs) (hx : a.eval x = vx)
    (v' : Value) (w' : World) (hr : (Builtin.append_ #[t, tn] o.type #[vs, vx]).run P w = .ok v' w') (h : K (a.put o.dst v') w') :
    if Region.wanted o (yielded ops a.tmps) = true then Oper.wp P o a w K Q else E := by
 have hw : Region.wanted o (yielded ops a.tmps) = true := by simp [Region.wanted, hgd]
 rw [if_pos hw]
 exact Lib.wp_append_run w s x t tn ho vs vx hs hx v' w' hr h
abbrev RI : Rep (List Int) := Rep.slice Rep.int
section
variable {w w' : World} {base Bd : Nat} {start : Int} {acc : List Int} {rows : List (List Int)} {vA vN : Value} {xs : List Value}
theorem blk_set {t : TypeId} {cs : Array Value} (hh : w.heap[Bd]? = some (.cells cs t (0, 0))) (i : Nat) (u : Value) : (w.setCell ⟨Bd, i, none⟩ u).heap[Bd]? = some (.cells (cs.setIfInBounds i u) t (0, 0)) := heap_setCell_same w Bd i cs t u hh
theorem set_grown (w2 : World) (i : Nat) (u : Value) : w2.grownBy (w2.setCell ⟨Bd, i, none⟩ u) (some Bd) := ⟨rfl, rfl, rfl, by simp [World.setCell], fun q _ hq => Below.heap_setCell w2 ⟨Bd, i, none⟩ _ q (fun e => hq (by rw [e]))⟩
end
end Go.Proofs.Ytbmcoamdfpegnaa
namespace Go.Proofs.Ytbmcoamdfpegnaa
open Go.RowKit
def lmin : List Int → Int
 | [] => 0
 | a :: r => r.foldl min a
def lmax : List Int → Int
 | [] => 0
 | a :: r => r.foldl max a
theorem lmin_snoc (l : List Int) (x : Int) (h : 1 ≤ l.length) : lmin (l ++ [x]) = min (lmin l) x := by
 cases l with
 | nil => simp at h
 | cons a r => simp [lmin]
theorem lmax_snoc (l : List Int) (x : Int) (h : 1 ≤ l.length) : lmax (l ++ [x]) = max (lmax l) x := by
 cases l with
 | nil => simp at h
 | cons a r => simp [lmax]
theorem int_step {l : List Int} {k : Nat} {x : Int} (h : l[k]? = some x) : l.take (k + 1) = l.take k ++ [x] := by
 obtain ⟨hk, rfl⟩ := List.getElem?_eq_some_iff.1 h
 exact List.take_succ_eq_append_getElem hk
theorem Rd.int_at {w : World} {S : Nat → Prop} {A : Option Addr} {n k : Nat} {l : List Int} (h : Rd w S 1 A n (l.map (Value.int .i64))) (hk : k < n) :
    ∃ b off x, A = some ⟨b, off, none⟩ ∧ S b ∧ l[k]? = some x ∧ w.cell? ⟨b, off + k, none⟩ = some (.int .i64 x) := by
 obtain ⟨b, off, u, e, hb, hx, hc⟩ := h.at_ hk
 rw [List.getElem?_map] at hx
 obtain ⟨x, h1, rfl⟩ := Option.map_eq_some_iff.1 hx
 exact ⟨b, off, x, e, hb, h1, hc⟩
set_option maxHeartbeats 1000000 in
theorem minInt (A : Option Addr) (n c : Nat) (S : Nat → Prop) (l : List Int) (w : World) (hr : Rd w S 1 A n (l.map (Value.int .i64))) (h0 : 0 < n) (hn : n ≤ 1000000000000) :
    Calls Try.prog 76 #[.slice A n c] w fun e w' => e = .returned (.int .i64 (lmin l)) ∧ w = w' := by
 obtain ⟨b, off, x, rfl, _, hx, hcell⟩ := hr.int_at h0
 have hl : l.length = n := by simpa using hr.1
 have h1 : lmin (l.take 1) = x := by rw [int_step hx]; rfl
 have HR := Lib.hid hr
 have HL := Lib.hid hl
 have H1 := Lib.hid h1
 rw [Nat.add_zero] at hcell
 clear hr hl hx h1
 go_enter Try.func76, Try.ntmps76
 go_wp2_with fail
 go_loop [3, 4] (fun t i => ∃ k : Nat, 1 ≤ k ∧ k ≤ n ∧ i = .int .i64 k ∧ t = .int .i64 (lmin (l.take k))) (fun _ i => n - (intOf i).toNat)
 case atStart => exact ⟨1, by omega, by omega, by go_num, by rw [H1.out]⟩
 case round =>
  obtain ⟨k, hk1, hk, rfl, rfl⟩ := hrel
  clear hcell
  by_cases hlt : k < n
  ·
   obtain ⟨b', off', y, e, _, hy, hcell⟩ := HR.out.int_at hlt
   injection e with e
   injection e with e1 e2
   subst e1
   subst e2
   have hs : lmin (l.take (k + 1)) = min (lmin (l.take k)) y := by rw [int_step hy, lmin_snoc _ _ (by rw [List.length_take, HL.out]; omega)]
   have HS := Lib.hid hs
   clear hs hy
   generalize lmin (l.take k) = q at *
   go_wp2_with fail
   go_round
   case rel => exact ⟨k + 1, by omega, by omega, by go_num, by rw [HS.out]; congr 1; split <;> omega⟩
   case measure => simp [intOf]; omega
  ·
   obtain rfl : k = n := by omega
   go_wp2_with fail
   go_ret
   exact ⟨ret_int (by rw [List.take_of_length_le (by rw [HL.out]; omega)]), rfl⟩
set_option maxHeartbeats 1000000 in
theorem maxInt (A : Option Addr) (n c : Nat) (S : Nat → Prop) (l : List Int) (w : World) (hr : Rd w S 1 A n (l.map (Value.int .i64))) (h0 : 0 < n) (hn : n ≤ 1000000000000) :
    Calls Try.prog 77 #[.slice A n c] w fun e w' => e = .returned (.int .i64 (lmax l)) ∧ w = w' := by
 obtain ⟨b, off, x, rfl, _, hx, hcell⟩ := hr.int_at h0
 have hl : l.length = n := by simpa using hr.1
 have h1 : lmax (l.take 1) = x := by rw [int_step hx]; rfl
 have HR := Lib.hid hr
 have HL := Lib.hid hl
 have H1 := Lib.hid h1
 rw [Nat.add_zero] at hcell
 clear hr hl hx h1
 go_enter Try.func77, Try.ntmps77
 go_wp2_with fail
 go_loop [3, 4] (fun t i => ∃ k : Nat, 1 ≤ k ∧ k ≤ n ∧ i = .int .i64 k ∧ t = .int .i64 (lmax (l.take k))) (fun _ i => n - (intOf i).toNat)
 case atStart => exact ⟨1, by omega, by omega, by go_num, by rw [H1.out]⟩
 case round =>
  obtain ⟨k, hk1, hk, rfl, rfl⟩ := hrel
  clear hcell
  by_cases hlt : k < n
  ·
   obtain ⟨b', off', y, e, _, hy, hcell⟩ := HR.out.int_at hlt
   injection e with e
   injection e with e1 e2
   subst e1
   subst e2
   have hs : lmax (l.take (k + 1)) = max (lmax (l.take k)) y := by rw [int_step hy, lmax_snoc _ _ (by rw [List.length_take, HL.out]; omega)]
   have HS := Lib.hid hs
   clear hs hy
   generalize lmax (l.take k) = q at *
   go_wp2_with fail
   go_round
   case rel => exact ⟨k + 1, by omega, by omega, by go_num, by rw [HS.out]; congr 1; split <;> omega⟩
   case measure => simp [intOf]; omega
  ·
   obtain rfl : k = n := by omega
   go_wp2_with fail
   go_ret
   exact ⟨ret_int (by rw [List.take_of_length_le (by rw [HL.out]; omega)]), rfl⟩
end Go.Proofs.Ytbmcoamdfpegnaa
namespace Go.Proofs.Ytbmcoamdfpegnaa
open Go.RowKit
theorem tmod_neg (x n : Int) (hn : 1 ≤ n) (h : x.tmod n < 0) : x.tmod n + n = x % n ∧ -n < x.tmod n := by
 have e := @Int.tmod_eq_emod x n
 have h1 := Int.emod_nonneg x (by omega : n ≠ 0)
 have h2 := Int.lt_tmod_of_pos x (by omega : 0 < n)
 split at e <;> omega
theorem tmod_pos (x n : Int) (hn : 1 ≤ n) (h : 0 ≤ x.tmod n) : x.tmod n = x % n := by
 have e := @Int.tmod_eq_emod x n
 have h1 := Int.emod_lt_of_pos x (by omega : 0 < n)
 split at e <;> omega
theorem makeBelow (x n : Int) (w : World) (hn : 1 ≤ n) (hn2 : n ≤ 1000000000000) :
    Calls Try.prog 59 #[.int .i64 x, .int .i64 n] w fun e w' => e = .returned (.int .i64 (x % n)) ∧ w = w' := by
 go_enter Try.func59, Try.ntmps59
 go_wp2
 ·
  rename_i h
  go_ret
  obtain ⟨e1, e2⟩ := tmod_neg x n hn h
  exact ⟨ret_int (by rw [IntWalk.wrap64_in _ ⟨by omega, by omega⟩, e1]), rfl⟩
 ·
  rename_i h
  go_ret
  exact ⟨ret_int (tmod_pos x n hn h), rfl⟩
end Go.Proofs.Ytbmcoamdfpegnaa
namespace Go.Proofs.Ytbmcoamdfpegnaa
open Go.RowKit
def nv (l : List Int) (k : Nat) (m : Int) : Int := match l[k]? with
 | some x => x % m
 | none => 0
theorem nv_range (l : List Int) (k : Nat) (m : Int) (hm : 1 ≤ m) : 0 ≤ nv l k m ∧ nv l k m < m := by
 unfold nv
 split
 ·
  rename_i x _
  exact ⟨Int.emod_nonneg x (by omega), Int.emod_lt_of_pos x (by omega)⟩
 ·
  omega
def StreamAt (w : World) (S : Nat → Prop) (B : Nat) (l : List Int) : Prop := ∃ A m c T, w.heap[B]? = some (.cells #[.slice A m c] T (0, 0)) ∧ Sl Rep.int w S A m c l ∧ m ≤ 1000000000000000
theorem heap_lt {w : World} {B : Nat} {o : Obj} (h : w.heap[B]? = some o) : B < w.heap.size := by
 rcases Nat.lt_or_ge B w.heap.size with hlt | hge
 ·
  exact hlt
 ·
  rw [Array.getElem?_eq_none hge] at h; cases h
section
variable {w w' : World} {S : Nat → Prop} {B : Nat} {l : List Int}
theorem StreamAt.lt (h : StreamAt w S B l) : B < w.heap.size := by
 obtain ⟨A, m, c, T, h, _⟩ := h
 exact heap_lt h
theorem StreamAt.keep (h : StreamAt w S B l) (hk : Kept S w w') (hB : w'.heap[B]? = w.heap[B]?) : StreamAt w' S B l := by
 obtain ⟨A, m, c, T, hh, hs, hm⟩ := h
 exact ⟨A, m, c, T, hB.trans hh, hs.keep hk, hm⟩
theorem StreamAt.below (h : StreamAt w S B l) (hb : Below w.heap.size w w') : StreamAt w' S B l := h.keep (.below hb) (hb.block B h.lt)
theorem StreamAt.alloc (h : StreamAt w S B l) (o : Obj) : StreamAt (w.alloc o) S B l := h.keep (.alloc _ _ _) (Below.heap_alloc w o B h.lt)
theorem StreamAt.grown {row : Option Nat} (h : StreamAt w S B l) (hg : w.grownBy w' row) (hr : row ≠ some B) (hS : ∀ b, S b → row ≠ some b) : StreamAt w' S B l :=
 h.keep (.grown hg hS) (hg.block B h.lt fun e => hr e.symm)
end
theorem heap_new (w : World) (o : Obj) (H : Nat) (hH : w.heap.size = H) : (w.alloc o).heap[H]? = some o := by subst hH; exact heap_alloc_new w o
theorem streamStart (w : World) (S : Nat → Prop) (A : Option Addr) (n c T H : Nat) (l : List Int) (hs : Sl Rep.int w S A n c l) (hn : n ≤ 1000000000000000) (hH : w.heap.size = H) : StreamAt (w.alloc (.cells #[.slice A n c] T)) S H (l.drop 0) :=
 ⟨A, n, c, T, heap_new w _ H hH, hs.alloc _, hn⟩
set_option maxHeartbeats 1000000 in
theorem streamNext (w : World) (S : Nat → Prop) (B k : Nat) (n : Int) (l : List Int) (h : StreamAt w S B (l.drop k)) (hSB : ¬ S B) (hn : 1 ≤ n) (hn2 : n ≤ 1000000) :
    Calls Try.prog 28 #[.pointer (some ⟨B, 0, none⟩), .int .i64 n] w fun e w' => e = .returned (.int .i64 (nv l k n)) ∧ StreamAt w' S B (l.drop (k + 1)) ∧ w.grownBy w' (some B) := by
 have hlt := h.lt
 obtain ⟨A, m, c, T, hh, hs, hm⟩ := h
 have hlen := hs.len
 have hcap := hs.cap
 have hcell : w.cell? ⟨B, 0, none⟩ = some (.slice A m c) := by simp [World.cell?, hh]
 have hfr : w.frozen? ⟨B, 0, none⟩ = false := by simp [World.frozen?, hh]
 rw [List.length_drop] at hlen
 rcases Nat.eq_zero_or_pos m with h0 | h0
 ·
  subst h0
  have hnv : nv l k n = 0 := by unfold nv; rw [List.getElem?_eq_none (by omega)]
  have hst : StreamAt w S B (l.drop (k + 1)) := by
   rw [List.drop_of_length_le (by omega)]
   exact ⟨A, 0, c, T, hh, Sl.nil _ _ _ _, Nat.zero_le _⟩
  have HNV := Lib.hid hnv
  have HST := Lib.hid hst
  clear hh hs hnv hst hlen
  go_enter Try.func28, Try.ntmps28
  go_wp2_with fail
  go_ret
  exact ⟨ret_int HNV.out.symm, HST.out, World.grownBy.refl _ _⟩
 ·
  obtain ⟨b, off, x, rfl, hSb, hx, hc0⟩ := hs.ints.int_at h0
  rw [Nat.add_zero] at hc0
  rw [List.getElem?_drop, Nat.add_zero] at hx
  obtain ⟨A', hcut, hrd⟩ := tInts.cutl (c := c) hs.ints 1 (by omega) (by omega) hcap
  rw [show (1 : Int).toNat = 1 from rfl, Nat.one_mul, ← List.map_drop, List.drop_drop] at hrd
  rw [show (1 : Int).toNat = 1 from rfl] at hcut
  have hnv : nv l k n = x % n := by unfold nv; rw [hx]
  have hst : StreamAt (w.setCell ⟨B, 0, none⟩ (.slice A' (m - 1) (c - 1))) S B (l.drop (k + 1)) := by
   refine ⟨A', m - 1, c - 1, T, ?_, (hrd.slInts (by omega)).keep (.setCell _ _ _ _ hSB), by omega⟩
   have := heap_setCell_same w B 0 #[.slice (some ⟨b, off, none⟩) m c] T (.slice A' (m - 1) (c - 1)) hh
   simpa using this
  have hgr : w.grownBy (w.setCell ⟨B, 0, none⟩ (.slice A' (m - 1) (c - 1))) (some B) := ⟨rfl, rfl, rfl, by simp [World.setCell], fun q _ hq => Below.heap_setCell w ⟨B, 0, none⟩ _ q (fun e => hq (by rw [e]))⟩
  have HNV := Lib.hid hnv
  have HST := Lib.hid hst
  have HGR := Lib.hid hgr
  clear hh hs hnv hst hgr hrd hx hlen
  have hb1 : (1 : Int) ≤ (m : Int) := by omega
  have hme : ((m : Int) == 0) = false := by simp; omega
  go_enter Try.func28, Try.ntmps28
  go_wp2_with (go_at_call 59; refine (makeBelow _ _ _ hn (by omega)).mono ?_; rintro e w' ⟨rfl, rfl⟩)
  go_ret
  exact ⟨ret_int HNV.out.symm, HST.out, HGR.out⟩
end Go.Proofs.Ytbmcoamdfpegnaa
namespace Go.Proofs.Ytbmcoamdfpegnaa
open Go.RowKit
section
variable {w w' : World} {base BI : Nat} {ls : List (List Int)} {vs : List Value}
theorem made_rows (n : Nat) : madeCells #[Value.slice none 0 0] n = (List.replicate n (Value.slice none 0 0)).toArray := by
 apply Array.ext'
 rw [toList_madeCells_one]
theorem made_rowsA (n : Nat) : madeCells #[Value.slice none 0 0] n = Array.replicate n (Value.slice none 0 0) := by rw [made_rows, List.toArray_replicate]
theorem made_boolsA (n : Nat) : madeCells #[Value.bool false] n = Array.replicate n (Value.bool false) := by
 apply Array.ext'
 rw [toList_madeCells_one]
 simp
theorem made_intsA (n : Nat) : madeCells #[Value.int .i64 0] n = Array.replicate n (Value.int .i64 0) := by
 apply Array.ext'
 rw [toList_madeCells_one]
 simp
theorem set_map {α : Type} (f : α → Value) (L : List α) (i : Nat) (x : α) : (L.map f).toArray.setIfInBounds i (f x) = ((L.set i x).map f).toArray := by
 rw [List.setIfInBounds_toArray, List.map_set]
end
end Go.Proofs.Ytbmcoamdfpegnaa
