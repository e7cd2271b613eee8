/- DfaRun -/
import Derived.Test.YtbmcoamdfpegnaaMt07
namespace Go.Proofs.Ytbmcoamdfpegnaa
open Go.RowKit
def dto (d : DfaD) (s c : Int) : Int := if s < 0 then -1 else ((d.2.2[s.toNat]?.getD [])[c.toNat]?).getD 0
def dat (d : DfaD) (s : Int) : Int := if s < 0 then -1 else (d.2.1[s.toNat]?).getD 0
def drun (d : DfaD) (l : List Int) : Int := l.foldl (dto d) d.1
def daccept (d : DfaD) (l : List Int) : Bool := decide (0 ≤ dat d (drun d l))
theorem drun_snoc (d : DfaD) (l : List Int) (c : Int) : drun d (l ++ [c]) = dto d (drun d l) c := by simp [drun]
theorem dto_range {d : DfaD} (hv : Valid d) {s c : Int} (hs : -1 ≤ s ∧ s < d.2.2.length) (hc : 0 ≤ c ∧ c < cols d) : -1 ≤ dto d s c ∧ dto d s c < d.2.2.length := by
 unfold dto
 split
 ·
  have := hv.n1; omega
 ·
  have h1 : s.toNat < d.2.2.length := by omega
  rw [List.getElem?_eq_getElem h1]
  obtain ⟨hl, hx⟩ := hv.rows _ (List.getElem_mem h1)
  have h2 : c.toNat < (d.2.2[s.toNat]).length := by omega
  simp only [Option.getD_some, List.getElem?_eq_getElem h2]
  exact hx _ (List.getElem_mem h2)
theorem drun_range {d : DfaD} (hv : Valid d) : ∀ {l : List Int}, (∀ x ∈ l, 0 ≤ x ∧ x < cols d) → ∀ {s : Int}, -1 ≤ s ∧ s < d.2.2.length → -1 ≤ l.foldl (dto d) s ∧ l.foldl (dto d) s < d.2.2.length
 | [], _, _, hs => hs
 | c :: l, h, s, hs => drun_range hv (l := l) (fun x hx => h x (by simp [hx])) (dto_range hv hs (h c (by simp)))
theorem cell_at {w : World} {S : Nat → Prop} {N : Option Addr} {n cN : Nat} {d : DfaD} (hN : Sl RI w S N n cN d.2.2) (hv : Valid d) {s c : Int} (hs : 0 ≤ s ∧ s < d.2.2.length) (hc : 0 ≤ c ∧ c < cols d) :
    ∃ b off b' off' m c', N = some ⟨b, off, none⟩ ∧ w.cell? ⟨b, off + s.toNat, none⟩ = some (.slice (some ⟨b', off', none⟩) m c') ∧ w.cell? ⟨b', off' + c.toNat, none⟩ = some (.int .i64 (dto d s c)) ∧ m = cols d ∧ n = d.2.2.length := by
 have hn := hN.len
 obtain ⟨b, off, A', m, c', r, e, _, _, hc1, hr, hs'⟩ := row_at hN (k := s.toNat) (by omega)
 obtain ⟨hl, _⟩ := hv.rows r (List.mem_of_getElem? hr)
 have hm := hs'.len
 obtain ⟨b', off', x, rfl, _, hx, hc2⟩ := hs'.ints.int_at (k := c.toNat) (by omega)
 refine ⟨b, off, b', off', m, c', e, hc1, ?_, by omega, hn⟩
 have : dto d s c = x := by
  unfold dto
  rw [if_neg (by omega), hr]
  simp [hx]
 rw [this]
 exact hc2
theorem acc_at {w : World} {S : Nat → Prop} {A : Option Addr} {n cA : Nat} {d : DfaD} (hA : Sl Rep.int w S A n cA d.2.1) (hv : Valid d) {s : Int} (hs : 0 ≤ s ∧ s < d.2.2.length) :
    ∃ b off, A = some ⟨b, off, none⟩ ∧ w.cell? ⟨b, off + s.toNat, none⟩ = some (.int .i64 (dat d s)) ∧ n = d.2.2.length := by
 have hn := hA.len
 have hna := hv.na
 obtain ⟨b, off, x, e, _, hx, hc⟩ := hA.ints.int_at (k := s.toNat) (by omega)
 refine ⟨b, off, e, ?_, by omega⟩
 have : dat d s = x := by
  unfold dat
  rw [if_neg (by omega), hx]
  rfl
 rw [this]
 exact hc
set_option maxHeartbeats 1000000 in
theorem dfaTo (w : World) (S : Nat → Prop) (A : Option Addr) (nA cA : Nat) (N : Option Addr) (n cN : Nat) (d : DfaD) (hN : Sl RI w S N n cN d.2.2) (hv : Valid d) (s c : Int) (hs : -1 ≤ s ∧ s < d.2.2.length) (hc : 0 ≤ c ∧ c < cols d) :
    Calls Try.prog 66 #[.agg #[.int .i64 d.1, .slice A nA cA, .slice N n cN], .int .i64 s, .int .i64 c] w fun e w' => e = .returned (.int .i64 (dto d s c)) ∧ Below w.heap.size w w' := by
 by_cases h0 : s < 0
 ·
  have hd : dto d s c = -1 := by unfold dto; rw [if_pos h0]
  have HD := Lib.hid hd
  clear hN hv hs hc hd
  go_enter Try.func66, Try.ntmps66
  go_wp2_with fail
  go_ret
  exact ⟨ret_int HD.out.symm, (Below.refl _ _).alloc (Nat.le_refl _) _⟩
 ·
  obtain ⟨b, off, b', off', m, c', rfl, hc1, hc2, hm, hn⟩ := cell_at hN hv (s := s) (c := c) ⟨by omega, hs.2⟩ hc
  have l1 := cell_lt hc1
  have l2 := cell_lt hc2
  have i1 : (0 : Int) ≤ s := by omega
  have i2 : s < (n : Int) := by omega
  have i3 : (0 : Int) ≤ c := hc.1
  have i4 : c < (m : Int) := by rw [hm]; exact hc.2
  clear hN hv hs hc hm hn
  generalize dto d s c = q at *
  go_enter Try.func66, Try.ntmps66
  go_wp2_with fail
  go_ret
  exact ⟨rfl, (Below.refl _ _).alloc (Nat.le_refl _) _⟩
set_option maxHeartbeats 1000000 in
theorem dfaAt (w : World) (S : Nat → Prop) (A : Option Addr) (nA cA : Nat) (N : Option Addr) (n cN : Nat) (d : DfaD) (hA : Sl Rep.int w S A nA cA d.2.1) (hv : Valid d) (s : Int) (hs : -1 ≤ s ∧ s < d.2.2.length) :
    Calls Try.prog 67 #[.agg #[.int .i64 d.1, .slice A nA cA, .slice N n cN], .int .i64 s] w fun e w' => e = .returned (.int .i64 (dat d s)) ∧ Below w.heap.size w w' := by
 by_cases h0 : s < 0
 ·
  have hd : dat d s = -1 := by unfold dat; rw [if_pos h0]
  have HD := Lib.hid hd
  clear hA hv hs hd
  go_enter Try.func67, Try.ntmps67
  go_wp2_with fail
  go_ret
  exact ⟨ret_int HD.out.symm, (Below.refl _ _).alloc (Nat.le_refl _) _⟩
 ·
  obtain ⟨b, off, rfl, hc1, hn⟩ := acc_at hA hv (s := s) ⟨by omega, hs.2⟩
  have l1 := cell_lt hc1
  have i1 : (0 : Int) ≤ s := by omega
  have i2 : s < (nA : Int) := by omega
  clear hA hv hs hn
  generalize dat d s = q at *
  go_enter Try.func67, Try.ntmps67
  go_wp2_with fail
  go_ret
  exact ⟨rfl, (Below.refl _ _).alloc (Nat.le_refl _) _⟩
theorem runFn (w : World) (S : Nat → Prop) (B : Nat) (N : Option Addr) (n cN : Nat) (d : DfaD) (hN : Sl RI w S N n cN d.2.2) (hv : Valid d) (hB : w.cell? ⟨B, 2, none⟩ = some (.slice N n cN)) (c : Int) (hc : 0 ≤ c ∧ c < cols d) :
    Calls Try.prog 65 #[.int .i64 c, .pointer (some ⟨B, 0, none⟩)] w fun e w' => e = .returned (.bool false) ∧ Below w.heap.size w w' := by
 obtain ⟨b, off, b', off', m, c', rfl, hc1, _, hm, hn⟩ := cell_at hN hv (s := 0) (c := c) ⟨by omega, by have := hv.n1; omega⟩ hc
 rw [show (0 : Int).toNat = 0 from rfl, Nat.add_zero] at hc1
 have i2 : (0 : Int) < (n : Int) := by have := hv.n1; omega
 have i3 : decide (c < 0) = false := by simp; omega
 have i4 : decide ((m : Int) ≤ c) = false := by rw [hm]; simp; omega
 have i5 : 0 < n := by omega
 clear hN hv hc hm hn
 go_enter Try.func65, Try.ntmps65
 go_wp2_with fail
 go_ret
 exact ⟨rfl, Below.refl _ _⟩
theorem tellsRun (w : World) (S : Nat → Prop) (B : Nat) (N : Option Addr) (n cN : Nat) (d : DfaD) (hN : Sl RI w S N n cN d.2.2) (hv : Valid d) (hB : w.cell? ⟨B, 2, none⟩ = some (.slice N n cN)) :
    TellsI Try.prog w (fun c => 0 ≤ c ∧ c < cols d) (fun _ => false) 65 #[.pointer (some ⟨B, 0, none⟩)] := fun w' hb x hx =>
 runFn w' S B N n cN d (hN.keep (.below hb)) hv ((hb.cell (p := ⟨B, 2, none⟩) (cell_lt hB)).trans hB) x hx
theorem entersRun : ∀ (args : Array Value) (u : World), (callFunc 65 args).run Try.prog u = .ok (.enter 65 args) u := enters_of Try.func65 (by kernel_rfl) rfl
set_option maxHeartbeats 2000000 in
theorem dfaRun (w : World) (S : Nat → Prop) (A : Option Addr) (nA cA : Nat) (N : Option Addr) (n cN : Nat) (d : DfaD) (hA : Sl Rep.int w S A nA cA d.2.1) (hN : Sl RI w S N n cN d.2.2) (hv : Valid d)
    (Sw : Nat → Prop) (Aw : Option Addr) (nw cw : Nat) (l : List Int) (hw : Sl Rep.int w Sw Aw nw cw l) (hl : nw ≤ 4000) (hx : ∀ x ∈ l, 0 ≤ x ∧ x < cols d) :
    Calls Try.prog 43 #[.agg #[.int .i64 d.1, .slice A nA cA, .slice N n cN], .slice Aw nw cw] w fun e w' => e = .returned (.tuple #[.int .i64 (dat d (drun d l)), .int .i64 0]) ∧ Below w.heap.size w w' := by
 have HLEN := Lib.hid hw.len
 have HA := Lib.hid hA
 have HN := Lib.hid hN
 have HV := Lib.hid hv
 have HW := Lib.hid hw
 have HX := Lib.hid hx
 clear hA hN hv hw hx
 have hq : idxFn (fun _ => false) l = -1 := idxFn_none fun _ _ _ => rfl
 have hdq : decide (0 ≤ idxFn (fun _ => false) l) = false := by rw [hq]; rfl
 clear hq
 go_enter Try.func43, Try.ntmps43
 go_wp2_with fail
 refine (dfaCheck _ S _ _ _ _ _ _ d (HA.out.alloc _) (HN.out.alloc _) HV.out).mono ?_
 rintro e w1 ⟨rfl, hb1⟩
 have HB1 := Lib.hid (((Below.refl w.heap.size w).alloc (Nat.le_refl _) _).trans (hb1.mono (by simp)))
 have hz1 : w.heap.size + 1 ≤ w1.heap.size := by have := hb1.size; simp at this; omega
 have hc0 : w1.cell? ⟨w.heap.size, 0, none⟩ = some (.int .i64 d.1) := by rw [hb1.cell (by simp)]; simp
 have hc1 : w1.cell? ⟨w.heap.size, 1, none⟩ = some (.slice A nA cA) := by rw [hb1.cell (by simp)]; simp
 have hc2 : w1.cell? ⟨w.heap.size, 2, none⟩ = some (.slice N n cN) := by rw [hb1.cell (by simp)]; simp
 clear hb1
 go_wp2_with fail
 refine (containsFnInt _ _ _ _ _ _ _ _ _ _ entersRun (tellsRun w1 S w.heap.size N n cN d (HN.out.below HB1.out) HV.out hc2) (HW.out.below HB1.out).ints HX.out (by omega)).mono ?_
 rintro e w2 ⟨rfl, hb2⟩
 have HB2 := Lib.hid (HB1.out.trans (hb2.mono (by omega)))
 have hz2 : w.heap.size + 1 ≤ w2.heap.size := by have := hb2.size; omega
 replace hc0 : w2.cell? ⟨w.heap.size, 0, none⟩ = some (.int .i64 d.1) := (hb2.cell (by simp; omega)).trans hc0
 replace hc1 : w2.cell? ⟨w.heap.size, 1, none⟩ = some (.slice A nA cA) := (hb2.cell (by simp; omega)).trans hc1
 replace hc2 : w2.cell? ⟨w.heap.size, 2, none⟩ = some (.slice N n cN) := (hb2.cell (by simp; omega)).trans hc2
 clear hb2 hz1
 go_wp2_with fail
 have hst : ∃ k : Nat, k ≤ nw ∧ drun d (l.take 0) = d.1 := ⟨0, Nat.zero_le _, rfl⟩
 have HC0 := Lib.hid hc0
 have HC1 := Lib.hid hc1
 have HC2 := Lib.hid hc2
 clear hc0 hc1 hc2 hst hdq
 go_loopw [7, 25] (fun t i wr => ∃ k : Nat, k ≤ nw ∧ i = .int .i64 k ∧ t = .int .i64 (drun d (l.take k)) ∧ Below w2.heap.size w2 wr) (fun _ i _ => nw - (intOf i).toNat)
 case atStart => exact ⟨0, Nat.zero_le _, rfl, rfl, Below.refl _ _⟩
 case round =>
  obtain ⟨k, hk, rfl, rfl, hb⟩ := hrel
  have hc0 : wr.cell? ⟨w.heap.size, 0, none⟩ = some (.int .i64 d.1) := (hb.cell (by simp; omega)).trans HC0.out
  have hc1 : wr.cell? ⟨w.heap.size, 1, none⟩ = some (.slice A nA cA) := (hb.cell (by simp; omega)).trans HC1.out
  have hc2 : wr.cell? ⟨w.heap.size, 2, none⟩ = some (.slice N n cN) := (hb.cell (by simp; omega)).trans HC2.out
  have hbw : Below w.heap.size w wr := HB2.out.trans (hb.mono (by omega))
  have hrange := drun_range HV.out (l := l.take k) (fun x hx => HX.out x (List.mem_of_mem_take hx)) (s := d.1) ⟨by have := HV.out.st; omega, HV.out.st.2⟩
  have HRG := Lib.hid hrange
  have HB := Lib.hid hb
  have HBW := Lib.hid hbw
  clear hb hbw hrange
  by_cases hlt : k < nw
  ·
   obtain ⟨b, off, x, rfl, _, hx, hcell0⟩ := HW.out.ints.int_at hlt
   have hcell : wr.cell? ⟨b, off + k, none⟩ = some (.int .i64 x) := Kept.below (S := fun _ => True) HBW.out _ _ trivial hcell0
   have HXK := Lib.hid hx
   clear hx hcell0
   go_wp2_with fail
   refine (dfaTo _ S _ _ _ _ _ _ d (HN.out.below HBW.out) HV.out _ _ HRG.out (HX.out x (List.mem_of_getElem? HXK.out))).mono ?_
   rintro e w3 ⟨rfl, hb3⟩
   have HB3 := Lib.hid (HB.out.trans (hb3.mono HB.out.size))
   clear hb3
   go_wp2_with fail
   go_roundw
   case rel => exact ⟨k + 1, by omega, by go_num, by rw [int_step HXK.out, drun_snoc]; rfl, HB3.out⟩
   case measure => simp [intOf]; omega
  ·
   obtain rfl : k = nw := by omega
   have ht : l.take k = l := List.take_of_length_le (by rw [← HLEN.out]; omega)
   rw [ht] at HRG ⊢
   clear ht
   go_wp2_with fail
   refine (dfaAt _ S _ _ _ _ _ _ d (HA.out.below HBW.out) HV.out _ HRG.out).mono ?_
   rintro e w3 ⟨rfl, hb3⟩
   have HB3 := Lib.hid (HBW.out.trans (hb3.mono HBW.out.size))
   clear hb3
   go_wp2_with fail
   go_ret2
   exact ⟨rfl, HB3.out⟩
set_option maxHeartbeats 1000000 in
theorem keepAccepts (w : World) (S : Nat → Prop) (A : Option Addr) (nA cA : Nat) (N : Option Addr) (n cN : Nat) (d : DfaD) (hA : Sl Rep.int w S A nA cA d.2.1) (hN : Sl RI w S N n cN d.2.2) (hv : Valid d)
    (Sw : Nat → Prop) (Aw : Option Addr) (nw cw : Nat) (l : List Int) (hw : Sl Rep.int w Sw Aw nw cw l) (hl : nw ≤ 4000) (hx : ∀ x ∈ l, 0 ≤ x ∧ x < cols d) :
    Calls Try.prog 16 #[.agg #[.int .i64 d.1, .slice A nA cA, .slice N n cN], .slice Aw nw cw] w fun e w' => e = .returned (.bool (daccept d l)) ∧ Below w.heap.size w w' := by
 have hd : daccept d l = decide (0 ≤ dat d (drun d l)) := rfl
 have HD := Lib.hid hd
 have HA := Lib.hid hA
 have HN := Lib.hid hN
 have HV := Lib.hid hv
 have HW := Lib.hid hw
 have HX := Lib.hid hx
 clear hA hN hv hw hx hd
 go_enter Try.func16, Try.ntmps16
 go_wp2_with fail
 refine (dfaRun _ S _ _ _ _ _ _ d (HA.out.alloc _) (HN.out.alloc _) HV.out Sw _ _ _ l (HW.out.alloc _) hl HX.out).mono ?_
 rintro e w1 ⟨rfl, hb1⟩
 have HB1 := Lib.hid (((Below.refl w.heap.size w).alloc (Nat.le_refl _) _).trans (hb1.mono (by simp)))
 clear hb1
 go_wp2_with fail
 go_ret
 exact ⟨ret_bool HD.out.symm, HB1.out⟩
end Go.Proofs.Ytbmcoamdfpegnaa
