/- A teacher: teach.New, its Symbols, Member, Asked. -/
import Derived.Test.YtgaahpddlohjoaaTeachPlain
import Derived.Test.YtgaahpddlohjoaaDfaRun
import Derived.BigQuiet
import Derived.Deep.QuietTactic
namespace Go.Proofs.Ytgaahpddlohjoaa
open Go.RowKit

theorem plain_valid {d : DfaD} (hv : Valid d) : Valid (plainD d) := by
  refine ⟨hv.n1, hv.n2, ?_, hv.c1, hv.c2, hv.rows, hv.st, ?_⟩
  · show (d.2.1.map _).length = d.2.2.length
    rw [List.length_map, hv.na]
  · intro x hx
    obtain ⟨y, hy, rfl⟩ := List.mem_map.1 hx
    have := hv.acc y hy
    split <;> omega
theorem plain_run (d : DfaD) (l : List Int) : drun (plainD d) l = drun d l := rfl
theorem plain_accept (d : DfaD) (l : List Int) : daccept (plainD d) l = daccept d l := by
  unfold daccept dat
  rw [plain_run]
  split
  · rfl
  · show decide (0 ≤ ((d.2.1.map (fun x => if 0 < x then 0 else x))[(drun d l).toNat]?).getD 0) = decide (0 ≤ (d.2.1[(drun d l).toNat]?).getD 0)
    rw [List.getElem?_map]
    cases h : d.2.1[(drun d l).toNat]? with
    | none => rfl
    | some x =>
      simp only [Option.map_some, Option.getD_some]
      split <;> simp <;> omega
/-- block Bt holds a teacher of the automaton d, who has been asked for m words and k automata -/
def TeachB (w : World) (S : Nat → Prop) (Bt : Nat) (d : DfaD) (m k : Int) : Prop :=
  ∃ A nA cA N n cN, w.heap[Bt]? = some (.cells #[.int .i64 d.1, .slice A nA cA, .slice N n cN, .int .i64 m, .int .i64 k] 81 (0, 0)) ∧ Sl Rep.int w S A nA cA d.2.1 ∧ Sl RI w S N n cN d.2.2
theorem TeachB.keep {w w' : World} {S : Nat → Prop} {Bt : Nat} {d : DfaD} {m k : Int} (h : TeachB w S Bt d m k) (hk : Kept S w w') (hB : w'.heap[Bt]? = w.heap[Bt]?) : TeachB w' S Bt d m k := by
  obtain ⟨A, nA, cA, N, n, cN, h1, h2, h3⟩ := h
  exact ⟨A, nA, cA, N, n, cN, hB.trans h1, h2.keep hk, h3.keep hk⟩
theorem TeachB.lt {w : World} {S : Nat → Prop} {Bt : Nat} {d : DfaD} {m k : Int} (h : TeachB w S Bt d m k) : Bt < w.heap.size := by
  obtain ⟨A, nA, cA, N, n, cN, h1, h2, h3⟩ := h
  exact heap_lt h1
theorem TeachB.below {w w' : World} {S : Nat → Prop} {Bt : Nat} {d : DfaD} {m k : Int} (h : TeachB w S Bt d m k) (hb : Below w.heap.size w w') : TeachB w' S Bt d m k := h.keep (.below hb) (hb.block _ h.lt)
set_option maxHeartbeats 1000000 in
theorem teachNew (w : World) (S : Nat → Prop) (A : Option Addr) (nA cA : Nat) (N : Option Addr) (n cN : Nat) (d : DfaD) (hA : Sl Rep.int w S A nA cA d.2.1) (hN : Sl RI w S N n cN d.2.2) (hv : Valid d) :
    Calls Try.prog 12 #[.agg #[.int .i64 d.1, .slice A nA cA, .slice N n cN]] w fun e w' => ∃ Bt, e = .returned (.tuple #[.pointer (some ⟨Bt, 0, none⟩), .int .i64 0]) ∧ w.heap.size ≤ Bt ∧ TeachB w' (fun b => w.heap.size ≤ b ∧ b < Bt) Bt (plainD d) 0 0 ∧ Below w.heap.size w w' := by
  have HA := Lib.hid hA
  have HN := Lib.hid hN
  have HV := Lib.hid hv
  clear hA hN hv
  go_enter Try.func12, Try.ntmps12
  go_wp2_with fail
  refine (dfaCheck _ S _ _ _ _ _ _ d (HA.out.alloc _) (HN.out.alloc _) HV.out).mono ?_
  rintro e w1 ⟨rfl, hb1⟩
  have HB1 := Lib.hid (((Below.refl w.heap.size w).alloc (Nat.le_refl _) _).trans (hb1.mono (by simp)))
  have hz1 : w.heap.size + 1 ≤ w1.heap.size := by have := hb1.size; simp at this; omega
  have hc0 : w1.cell? ⟨w.heap.size, 0, none⟩ = some (.int .i64 d.1) := by rw [hb1.cell (by simp)]; simp
  have hc1 : w1.cell? ⟨w.heap.size, 1, none⟩ = some (.slice A nA cA) := by rw [hb1.cell (by simp)]; simp
  have hc2 : w1.cell? ⟨w.heap.size, 2, none⟩ = some (.slice N n cN) := by rw [hb1.cell (by simp)]; simp
  clear hb1
  go_wp2_with fail
  refine (teachPlain _ S _ _ _ _ _ _ d (HA.out.below HB1.out) (HN.out.below HB1.out) HV.out).mono ?_
  rintro e w2 ⟨Bd, vA, vN, xs, hBd, rfl, hD, hb2⟩
  obtain ⟨A1, c1, rfl, _, _⟩ := hD.ownA.form
  obtain ⟨A3, c3, rfl, _, _⟩ := hD.ownN.form
  have hB2 : Below w.heap.size w w2 := HB1.out.trans (hb2.mono (by omega))
  have HB2 := Lib.hid hB2
  have HD := Lib.hid hD
  clear hb2 hD hB2
  go_wp2_with fail
  go_ret2
  refine ⟨w2.heap.size, rfl, HB2.out.size, ?_, HB2.out.alloc HB2.out.size _⟩
  obtain ⟨A4, n4, c4, A5, n5, c5, e, h1, h2⟩ := RDfa.cells.1 HD.out.rep
  simp only [List.cons.injEq, Value.slice.injEq, and_true] at e
  obtain ⟨_, ⟨rfl, rfl, rfl⟩, ⟨rfl, rfl, rfl⟩⟩ := e
  have hs : ∀ b, (Bd + 1 ≤ b ∧ b < w2.heap.size) → w.heap.size ≤ b ∧ b < w2.heap.size := fun b hb => ⟨by omega, hb.2⟩
  exact ⟨_, _, _, _, _, _, heap_alloc_new w2 _, (h1.fit.more hs).alloc _, (h2.fit.more hs).alloc _⟩
/-- the teacher's first row -/
theorem teach_row {w : World} {S : Nat → Prop} {N : Option Addr} {n cN : Nat} {d : DfaD} (h3 : Sl RI w S N n cN d.2.2) (hv : Valid d) :
    ∃ b off A' c', N = some ⟨b, off, none⟩ ∧ w.cell? ⟨b, off, none⟩ = some (.slice A' (cols d) c') ∧ (0 : Int) < n ∧ 0 < n := by
  have hn := h3.len
  have hn1 := hv.n1
  obtain ⟨b, off, A', m, c', r, e, _, _, hc, hr, hs⟩ := row_at h3 (k := 0) (by omega)
  have := (hv.rows r (List.mem_of_getElem? hr)).1
  have hm := hs.len
  obtain rfl : m = cols d := by omega
  exact ⟨b, off, A', c', e, by rw [Nat.add_zero] at hc; exact hc, by omega, by omega⟩
set_option maxHeartbeats 1000000 in
theorem teachSymbols (w : World) (S : Nat → Prop) (Bt : Nat) (d : DfaD) (m k : Int) (h : TeachB w S Bt d m k) (hv : Valid d) :
    Calls Try.prog 14 #[.pointer (some ⟨Bt, 0, none⟩)] w fun e w' => e = .returned (.int .i64 (cols d)) ∧ w = w' := by
  obtain ⟨A, nA, cA, N, n, cN, h1, h2, h3⟩ := h
  obtain ⟨b, off, A', c', rfl, hc, hn, hn'⟩ := teach_row h3 hv
  have hcell : w.cell? ⟨Bt, 2, none⟩ = some (.slice (some ⟨b, off, none⟩) n cN) := by simp [World.cell?, h1]
  have hlt := heap_lt h1
  clear h1 h2 h3 hv
  go_enter Try.func14, Try.ntmps14
  go_wp2_with fail
  go_ret
  exact ⟨rfl, rfl⟩
set_option maxHeartbeats 1000000 in
theorem teachMember (w : World) (S : Nat → Prop) (Bt : Nat) (d : DfaD) (m k : Int) (h : TeachB w S Bt d m k) (hv : Valid d) (hm : 0 ≤ m ∧ m ≤ 1000000000) (hS : ¬ S Bt)
    (Sw : Nat → Prop) (Aw : Option Addr) (nw cw : Nat) (l : List Int) (hw : Sl Rep.int w Sw Aw nw cw l) (hl : nw ≤ 2000) (hx : ∀ x ∈ l, 0 ≤ x ∧ x < cols d) :
    Calls Try.prog 25 #[.pointer (some ⟨Bt, 0, none⟩), .slice Aw nw cw] w fun e w' => e = .returned (.tuple #[.bool (daccept d l), .int .i64 0]) ∧ TeachB w' S Bt d (m + 1) k ∧ w.grownBy w' (some Bt) := by
  obtain ⟨A, nA, cA, N, n, cN, h1, h2, h3⟩ := h
  have hc0 : w.cell? ⟨Bt, 0, none⟩ = some (.int .i64 d.1) := by simp [World.cell?, h1]
  have hc1 : w.cell? ⟨Bt, 1, none⟩ = some (.slice A nA cA) := by simp [World.cell?, h1]
  have hc2 : w.cell? ⟨Bt, 2, none⟩ = some (.slice N n cN) := by simp [World.cell?, h1]
  have hlt := heap_lt h1
  have hd : daccept d l = decide (0 ≤ dat d (drun d l)) := rfl
  have HD := Lib.hid hd
  have H1 := Lib.hid h1
  have H2 := Lib.hid h2
  have H3 := Lib.hid h3
  have HV := Lib.hid hv
  have HW := Lib.hid hw
  have HX := Lib.hid hx
  clear h1 h2 h3 hv hw hx hd
  obtain ⟨hm1, hm2⟩ := hm
  go_enter Try.func25, Try.ntmps25
  go_wp2_with fail
  refine (dfaRun _ S _ _ _ _ _ _ d H2.out H3.out HV.out Sw _ _ _ l HW.out (by omega) HX.out).mono ?_
  rintro e w1 ⟨rfl, hb1⟩
  have h1 := (hb1.block Bt hlt).trans H1.out
  have hc3 : w1.cell? ⟨Bt, 3, none⟩ = some (.int .i64 m) := by simp [World.cell?, h1]
  have hf3 : w1.frozen? ⟨Bt, 3, none⟩ = false := by simp [World.frozen?, h1]
  have hlt1 := heap_lt h1
  have HB1 := Lib.hid hb1
  have HH1 := Lib.hid h1
  clear hb1 h1 hc0 hc1 hc2
  go_wp2_with fail
  go_ret2
  refine ⟨by rw [HD.out]; rfl, ⟨A, nA, cA, N, n, cN, ?_, (H2.out.below HB1.out).keep (.setCell _ _ _ _ hS), (H3.out.below HB1.out).keep (.setCell _ _ _ _ hS)⟩, ?_⟩
  · have := blk_set HH1.out 3 (.int .i64 (m + 1))
    simpa using this
  · have h := set_grown (Bd := Bt) w1 3 (.int .i64 (m + 1))
    exact ⟨h.os.trans HB1.out.os, h.tape.trans HB1.out.tape, h.output.trans HB1.out.output, Nat.le_trans HB1.out.size h.size, fun q hq hne => (h.block q (by have := HB1.out.size; omega) hne).trans (HB1.out.block q hq)⟩
set_option maxHeartbeats 1000000 in
theorem teachAsked (w : World) (S : Nat → Prop) (Bt : Nat) (d : DfaD) (m k : Int) (h : TeachB w S Bt d m k) :
    Calls Try.prog 27 #[.pointer (some ⟨Bt, 0, none⟩)] w fun e w' => e = .returned (.tuple #[.int .i64 m, .int .i64 k]) ∧ ∃ n, w' = w.drewN n := by
  obtain ⟨A, nA, cA, N, n, cN, h1, h2, h3⟩ := h
  have hc3 : w.cell? ⟨Bt, 3, none⟩ = some (.int .i64 m) := by simp [World.cell?, h1]
  have hc4 : w.cell? ⟨Bt, 4, none⟩ = some (.int .i64 k) := by simp [World.cell?, h1]
  clear h1 h2 h3
  go_enter Try.func27, Try.ntmps27
  go_wp2_with fail
  go_quiet (fail)
  go_wp2_with fail
  go_ret2
  exact ⟨rfl, _, rfl⟩
end Go.Proofs.Ytgaahpddlohjoaa
