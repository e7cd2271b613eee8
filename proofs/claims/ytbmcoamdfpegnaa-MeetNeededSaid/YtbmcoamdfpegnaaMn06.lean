/- MakeDfa DfaCheck DfaV -/
import Derived.Deep.CutRange
import Derived.Deep.LoopGhost
import Derived.Deep.RegionHeld3
import Derived.Test.YtbmcoamdfpegnaaMn04
import Derived.Test.YtbmcoamdfpegnaaMn05
namespace Go.Proofs.Ytbmcoamdfpegnaa
open Go.RowKit
def dfaN (l : List Int) : Nat := (1 + nv l 0 6).toNat
def dfaC (l : List Int) : Nat := (1 + nv l 1 3).toNat
def dfaAcc (l : List Int) (s : Nat) : Int := nv l (3 + s * (dfaC l + 1)) 3 - 1
def dfaCell (l : List Int) (s j : Nat) : Int := nv l (3 + s * (dfaC l + 1) + 1 + j) ((dfaN l : Int) + 1) - 1
def dfaRow (l : List Int) (s : Nat) : List Int := (List.range (dfaC l)).map (dfaCell l s)
def dfaOf (l : List Int) : DfaD := (nv l 2 (dfaN l), (List.range (dfaN l)).map (dfaAcc l), (List.range (dfaN l)).map (dfaRow l))
theorem dfaN_range (l : List Int) : 1 ≤ dfaN l ∧ dfaN l ≤ 6 ∧ (dfaN l : Int) = 1 + nv l 0 6 := by
 have := nv_range l 0 6 (by omega); unfold dfaN; omega
theorem dfaC_range (l : List Int) : 1 ≤ dfaC l ∧ dfaC l ≤ 3 ∧ (dfaC l : Int) = 1 + nv l 1 3 := by
 have := nv_range l 1 3 (by omega); unfold dfaC; omega
def MkSt (w : World) (S : Nat → Prop) (l : List Int) (Br Bs Bd base : Nat) (s : Nat) (wr : World) : Prop :=
 ∃ vA vN xs, DfaB wr base Bd (nv l 2 (dfaN l)) ((List.range s).map (dfaAcc l)) ((List.range s).map (dfaRow l)) vA vN xs ∧ StreamAt wr S Bs (l.drop (3 + s * (dfaC l + 1))) ∧
  wr.heap[Br]? = some (.cells #[.int .i64 0, .slice none 0 0, .slice none 0 0] 28 (0, 0)) ∧ Below w.heap.size w wr
theorem range_snoc {α : Type} (f : Nat → α) (s : Nat) : (List.range (s + 1)).map f = (List.range s).map f ++ [f s] := by simp [List.range_succ]
def MkMid (w : World) (S : Nat → Prop) (l : List Int) (Br Bs Bd base K : Nat) (s j : Nat) (v7 : Value) (wr : World) : Prop :=
 ∃ vA vN xs, DfaB wr base Bd (nv l 2 (dfaN l)) ((List.range (s + 1)).map (dfaAcc l)) ((List.range s).map (dfaRow l)) vA vN xs ∧ DfaLow K vA vN xs ∧ Own wr K 3 1 v7 j (((List.range j).map (dfaCell l s)).map (Value.int .i64)) ∧
  StreamAt wr S Bs (l.drop (3 + s * (dfaC l + 1) + 1 + j)) ∧
  wr.heap[Br]? = some (.cells #[.int .i64 0, .slice none 0 0, .slice none 0 0] 28 (0, 0)) ∧ Below w.heap.size w wr ∧ K ≤ wr.heap.size ∧ base ≤ K
section
variable {w wr w4 : World} {S : Nat → Prop} {l : List Int} {Bd K s j : Nat} {v7 : Value}
theorem MkMid.step (h : MkMid w (fun b => S b ∧ b < w.heap.size) l w.heap.size (w.heap.size + 1) Bd (Bd + 1) K s j v7 wr) (hBd : w.heap.size + 2 ≤ Bd) (hj : j ≤ 1000)
    (hs4 : StreamAt w4 (fun b => S b ∧ b < w.heap.size) (w.heap.size + 1) (l.drop (3 + s * (dfaC l + 1) + 1 + j + 1))) (hg : wr.grownBy w4 (some (w.heap.size + 1))) :
    ∃ A7 c7 A2 c2 w2, v7 = .slice A7 j c7 ∧ (Builtin.append_ #[22, 22] 22 #[.slice A7 j c7, .slice (some ⟨w4.heap.size, 0, none⟩) 1 1]).run Try.prog (w4.alloc (.cells #[.int .i64 (dfaCell l s j)] 3)) = .ok (.slice A2 (j + 1) c2) w2 ∧
     MkMid w (fun b => S b ∧ b < w.heap.size) l w.heap.size (w.heap.size + 1) Bd (Bd + 1) K s (j + 1) (.slice A2 (j + 1) c2) w2 := by
 obtain ⟨vA, vN, xs, hd, hlow, ho, hst, hbr, hb, hK, hKb⟩ := h
 have hne : ∀ k, k ≠ w.heap.size + 1 → some k ≠ some (w.heap.size + 1) := fun k h e => h (by injection e)
 have hd4 := hd.grown hg (fun g e => by injection e with e; omega)
 have ho4 := ho.kept hg (fun g e e2 => by
  injection e with e
  have := (ho.row e2).1
  omega)
 have hs := hg.size
 have hbr4 := (hg.block w.heap.size (by have := hb.size; omega) (hne _ (by omega))).trans hbr
 have hb4 : Below w.heap.size w w4 := hb.grown hg hb.size (fun k e => by injection e with e; omega)
 obtain ⟨v2, w2, hrun, ho2, hg2, _⟩ := run_append_Own tInts (w4.alloc (.cells #[.int .i64 (dfaCell l s j)] 3)) 22 K v7 j _ (ho4.alloc _) (fun _ => True) (some ⟨w4.heap.size, 0, none⟩) 1 1 [.int .i64 (dfaCell l s j)]
  (Rd.new w4 _ _ [.int .i64 (dfaCell l s j)] _ rfl trivial) (by intro u hu; obtain rfl := List.mem_singleton.1 hu; rfl) (by unfold maxLen; omega) (by omega) (by simp; omega)
 obtain ⟨A7, c7, rfl, _, _⟩ := ho.form
 obtain ⟨A2, c2, rfl, _, _⟩ := ho2.form
 have hrow : ∀ g, rowOf (.slice A7 j c7) = some g → g ≠ Bd ∧ K ≤ g := fun g e => by
  have := (ho.row e).1
  omega
 have hba : Below w.heap.size w (w4.alloc (.cells #[.int .i64 (dfaCell l s j)] 3)) := hb4.alloc hb4.size _
 have hs2 := hg2.size
 have hsw := hb.size
 simp only [World.size_alloc] at hs2
 refine ⟨A7, c7, A2, c2, w2, rfl, hrun, vA, vN, xs, (hd4.alloc _).grown2 hlow hg2 hrow, hlow, ?_, ?_, ?_, ?_, by omega, hKb⟩
 ·
  rw [range_snoc, List.map_append]
  exact ho2
 ·
  refine (hs4.alloc _).grown hg2 (fun e => ?_) (fun b hb' e => ?_)
  ·
   have := (hrow _ e).2
   omega
  ·
   have := (hrow _ e).2
   have := hb'.2
   omega
 ·
  rw [hg2.block w.heap.size (by simp; omega) (fun e => by have := (hrow _ e.symm).2; omega), Below.heap_alloc _ _ _ (by omega)]
  exact hbr4
 ·
  exact hba.grown hg2 hba.size (fun k e => by have := (hrow _ e).2; omega)
theorem MkMid.push (h : MkMid w (fun b => S b ∧ b < w.heap.size) l w.heap.size (w.heap.size + 1) Bd (Bd + 1) K s (dfaC l) v7 wr) (hBd : w.heap.size + 2 ≤ Bd) (hs6 : s ≤ 1000) :
    ∃ vN A2 c2 w2, wr.cell? ⟨Bd, 2, none⟩ = some vN ∧ (Builtin.append_ #[26, 26] 26 #[vN, .slice (some ⟨wr.heap.size, 0, none⟩) 1 1]).run Try.prog (wr.alloc (.cells #[v7] 22)) = .ok (.slice A2 (s + 1) c2) w2 ∧
     w2.cell? ⟨Bd, 2, none⟩ = some vN ∧ w2.frozen? ⟨Bd, 2, none⟩ = false ∧ Bd < wr.heap.size ∧
     MkSt w (fun b => S b ∧ b < w.heap.size) l w.heap.size (w.heap.size + 1) Bd (Bd + 1) (s + 1) (w2.setCell ⟨Bd, 2, none⟩ (.slice A2 (s + 1) c2)) := by
 obtain ⟨vA, vN, xs, hd, hlow, ho, hst, hbr, hb, hK, hKb⟩ := h
 have ho' : Own wr (Bd + 1) 3 1 v7 (dfaRow l s).length ((dfaRow l s).map (Value.int .i64)) := by
  have := ho.mono hKb
  simpa [dfaRow] using this
 obtain ⟨v2, w2, hrun, hc2, hf2, hd2, hb2⟩ := hd.pushN v7 (dfaRow l s) ho' (fun g e => by
  have := (ho.row e).1
  exact ⟨fun e2 => by have := hlow.1 g e2; omega, fun e2 => by have := hlow.2.1 g e2; omega⟩) (by simp; omega)
 obtain ⟨A2, c2, hv2, _, _⟩ := hd2.ownN.form
 have hl : ((List.range s).map (dfaRow l) ++ [dfaRow l s]).length = s + 1 := by simp
 rw [hl] at hv2
 subst hv2
 have hsw := hb.size
 have hs2 := hb2.size
 have hlt := hd.le
 refine ⟨vN, A2, c2, w2, hd.cellN, hrun, hc2, hf2, by omega, vA, .slice A2 (s + 1) c2, xs ++ [v7], ?_, ?_, ?_, ?_⟩
 ·
  rw [range_snoc (dfaRow l)]
  exact hd2
 ·
  have e : 3 + s * (dfaC l + 1) + 1 + dfaC l = 3 + (s + 1) * (dfaC l + 1) := by rw [Nat.add_mul]; omega
  rw [← e]
  have hset := set_grown (Bd := Bd) w2 2 (.slice A2 (s + 1) c2)
  have h1 : StreamAt w2 (fun b => S b ∧ b < w.heap.size) (w.heap.size + 1) (l.drop (3 + s * (dfaC l + 1) + 1 + dfaC l)) := hst.keep (.belowB hb2 (fun b hb' => by have := hb'.2; omega)) (hb2.block _ (by omega))
  exact h1.grown hset (fun e => by injection e with e; omega) (fun b hb' e => by injection e with e; have := hb'.2; omega)
 ·
  rw [Below.heap_setCell w2 ⟨Bd, 2, none⟩ _ _ (by simp; omega), hb2.block _ (by omega)]
  exact hbr
 ·
  exact (hb.trans (hb2.mono (by omega))).setCell (by simp; omega) _
end
end Go.Proofs.Ytbmcoamdfpegnaa
namespace Go.Proofs.Ytbmcoamdfpegnaa
open Go.RowKit
def cols (d : DfaD) : Nat := (d.2.2[0]?.getD []).length
structure Valid (d : DfaD) : Prop where
 n1 : 1 ≤ d.2.2.length
 n2 : d.2.2.length ≤ 200
 na : d.2.1.length = d.2.2.length
 c1 : 1 ≤ cols d
 c2 : cols d ≤ 16
 rows : ∀ r ∈ d.2.2, r.length = cols d ∧ ∀ x ∈ r, -1 ≤ x ∧ x < d.2.2.length
 st : 0 ≤ d.1 ∧ d.1 < d.2.2.length
 acc : ∀ x ∈ d.2.1, -1 ≤ x
theorem lmin_ge {l : List Int} (h1 : 1 ≤ l.length) {b : Int} (h : ∀ x ∈ l, b ≤ x) : b ≤ lmin l := by
 cases l with
 | nil => simp at h1
 | cons a r =>
  have ha := h a (by simp)
  have hr : ∀ x ∈ r, b ≤ x := fun x hx => h x (by simp [hx])
  clear h h1
  show b ≤ r.foldl min a
  induction r generalizing a with
  | nil => exact ha
  | cons y r ih => exact ih (min a y) (by have := hr y (by simp); omega) (fun x hx => hr x (by simp [hx]))
theorem lmax_lt {l : List Int} (h1 : 1 ≤ l.length) {b : Int} (h : ∀ x ∈ l, x < b) : lmax l < b := by
 cases l with
 | nil => simp at h1
 | cons a r =>
  have ha := h a (by simp)
  have hr : ∀ x ∈ r, x < b := fun x hx => h x (by simp [hx])
  clear h h1
  show r.foldl max a < b
  induction r generalizing a with
  | nil => exact ha
  | cons y r ih => exact ih (max a y) (by have := hr y (by simp); omega) (fun x hx => hr x (by simp [hx]))
theorem row_at {w : World} {S : Nat → Prop} {N : Option Addr} {n c k : Nat} {rows : List (List Int)} (h : Sl RI w S N n c rows) (hk : k < n) :
    ∃ b off A' m c' r, N = some ⟨b, off, none⟩ ∧ S b ∧ b < w.heap.size ∧ w.cell? ⟨b, off + k, none⟩ = some (.slice A' m c') ∧ rows[k]? = some r ∧ Sl Rep.int w S A' m c' r := by
 obtain ⟨b, off, u, a, e, hS, hx, hok, hc⟩ := h.at_ rfl hk
 obtain ⟨A', m, c', e2, hs⟩ := hok
 injection e2 with e2 _
 subst e2
 exact ⟨b, off, A', m, c', a, e, hS, cell_lt hc, hc, hx, hs⟩
set_option maxRecDepth 100000 in
set_option maxHeartbeats 2000000 in
theorem dfaCheck (w : World) (S : Nat → Prop) (A : Option Addr) (nA cA : Nat) (N : Option Addr) (n cN : Nat) (d : DfaD) (hA : Sl Rep.int w S A nA cA d.2.1) (hN : Sl RI w S N n cN d.2.2) (hv : Valid d) :
    Calls Try.prog 53 #[.agg #[.int .i64 d.1, .slice A nA cA, .slice N n cN]] w fun e w' => e = .returned (.int .i64 0) ∧ Below w.heap.size w w' := by
 have e1 := hA.len
 have e2 := hN.len
 rw [hv.na, ← e2] at e1
 subst e1
 have hn1 : 1 ≤ nA := by have := hv.n1; omega
 have hn2 : nA ≤ 200 := by have := hv.n2; omega
 obtain ⟨hs1, hs2⟩ := hv.st
 rw [← e2] at hs2
 have hc1 := hv.c1
 have hc2 := hv.c2
 have hrow : ∀ k : Nat, k < nA → ∃ b off A' c' r, N = some ⟨b, off, none⟩ ∧ b < w.heap.size ∧ w.cell? ⟨b, off + k, none⟩ = some (.slice A' (cols d) c') ∧ Sl Rep.int w S A' (cols d) c' r ∧ 1 ≤ r.length ∧ ∀ x ∈ r, -1 ≤ x ∧ x < nA := by
  intro k hk
  obtain ⟨b, off, A', m, c', r, e, _, hb, hc, hr, hs⟩ := row_at hN hk
  obtain ⟨h1, h2⟩ := hv.rows r (List.mem_of_getElem? hr)
  have := hs.len
  obtain rfl : m = cols d := by omega
  exact ⟨b, off, A', c', r, e, hb, hc, hs, by omega, by rw [e2]; exact h2⟩
 obtain ⟨bN, offN, A0, c0, _, rfl, hbN, hcell0, _⟩ := hrow 0 hn1
 rw [Nat.add_zero] at hcell0
 have hmin := lmin_ge (l := d.2.1) (b := -1) (by rw [hv.na, ← e2]; exact hn1) hv.acc
 have HROW := Lib.hid hrow
 have HA := Lib.hid hA
 clear e2 hv hrow hA hN
 obtain ⟨start, acc, rows⟩ := d
 dsimp only at *
 generalize cols (start, acc, rows) = C at *
 have hne : ((nA : Int) == 0) = false := by simp; omega
 have hce : ((C : Int) == 0) = false := by simp; omega
 go_enter Try.func53, Try.ntmps53
 go_wp2_with fail
 go_loop [35] (fun i => ∃ k : Nat, k ≤ nA ∧ i = .int .i64 k) (fun i => nA - (intOf i).toNat)
 case atStart => exact ⟨0, Nat.zero_le _, rfl⟩
 case round =>
  obtain ⟨k, hk, rfl⟩ := hrel
  by_cases hlt : k < nA
  ·
   obtain ⟨b', off', A', c', r, e, _, hcell, hsr, _⟩ := HROW.out k hlt
   injection e with e
   injection e with e1 e2
   subst e1
   subst e2
   clear hsr
   go_wp2_with fail
   go_round
   case rel => exact ⟨k + 1, by omega, by go_num⟩
   case measure => simp [intOf]; omega
  ·
   obtain rfl : k = nA := by omega
   have hsb : decide (start < 0) = false := by simp; omega
   have hsb2 : decide ((k : Int) ≤ start) = false := by simp; omega
   have hmb : decide (lmin acc < -1) = false := by simp; omega
   go_wp2_with (go_at_call 76; refine (minInt _ _ _ _ _ _ (HA.out.alloc _).ints (by omega) (by omega)).mono ?_; rintro e w' ⟨rfl, rfl⟩)
   go_loop [6, 71] (fun b i => b = .bool false ∧ ∃ j : Nat, j ≤ k ∧ i = .int .i64 j) (fun _ i => k - (intOf i).toNat)
   case atStart => exact ⟨rfl, 0, Nat.zero_le _, rfl⟩
   case round =>
    obtain ⟨rfl, j, hj, rfl⟩ := hrel
    by_cases hjl : j < k
    ·
     obtain ⟨b', off', A', c', r, e, _, hcell, hsr, hr1, hrx⟩ := HROW.out j hjl
     injection e with e
     injection e with e1 e2
     subst e1
     subst e2
     have hm1 := lmin_ge hr1 (fun x hx => (hrx x hx).1)
     have hm2 := lmax_lt hr1 (fun x hx => (hrx x hx).2)
     have HSR := Lib.hid hsr
     have hb1 : decide (lmin r < -1) = false := by simp; omega
     have hb2 : decide ((k : Int) ≤ lmax r) = false := by simp; omega
     clear hsr hrx
     go_wp2_with (first
      | (go_at_call 76; refine (minInt _ _ _ _ _ _ (HSR.out.alloc _).ints (by omega) (by omega)).mono ?_; rintro e w' ⟨rfl, rfl⟩)
      | (go_at_call 77; refine (maxInt _ _ _ _ _ _ (HSR.out.alloc _).ints (by omega) (by omega)).mono ?_; rintro e w' ⟨rfl, rfl⟩))
     go_round
     case rel => exact ⟨rfl, j + 1, by omega, by go_num⟩
     case measure => simp [intOf]; omega
    ·
     obtain rfl : j = k := by omega
     go_wp2_with fail
     go_ret
     exact ⟨rfl, (Below.refl _ _).alloc (Nat.le_refl _) _⟩
end Go.Proofs.Ytbmcoamdfpegnaa
namespace Go.Proofs.Ytbmcoamdfpegnaa
open Go.RowKit
theorem dfaOf_valid (l : List Int) : Valid (dfaOf l) := by
 obtain ⟨n1, n2, _⟩ := dfaN_range l
 obtain ⟨c1, c2, _⟩ := dfaC_range l
 have hc : cols (dfaOf l) = dfaC l := by
  have : (dfaOf l).2.2[0]? = some (dfaRow l 0) := by
   show ((List.range (dfaN l)).map (dfaRow l))[0]? = _
   rw [List.getElem?_map, List.getElem?_range (by omega)]; rfl
  unfold cols
  rw [this]
  simp [dfaRow]
 have hl : (dfaOf l).2.2.length = dfaN l := by simp [dfaOf]
 refine ⟨by omega, by omega, by simp [dfaOf], by omega, by omega, ?_, ?_, ?_⟩
 ·
  intro r hr
  obtain ⟨s, _, rfl⟩ := List.mem_map.1 (show r ∈ (List.range (dfaN l)).map (dfaRow l) from hr)
  refine ⟨by rw [hc]; simp [dfaRow], fun x hx => ?_⟩
  obtain ⟨j, _, rfl⟩ := List.mem_map.1 (show x ∈ (List.range (dfaC l)).map (dfaCell l s) from hx)
  have := nv_range l (3 + s * (dfaC l + 1) + 1 + j) ((dfaN l : Int) + 1) (by omega)
  rw [hl]
  unfold dfaCell
  omega
 ·
  have := nv_range l 2 (dfaN l) (by omega)
  rw [hl]
  exact this
 ·
  intro x hx
  obtain ⟨j, _, rfl⟩ := List.mem_map.1 (show x ∈ (List.range (dfaN l)).map (dfaAcc l) from hx)
  have := nv_range l (3 + j * (dfaC l + 1)) 3 (by omega)
  unfold dfaAcc
  omega
theorem DfaB.sl {w : World} {base Bd : Nat} {start : Int} {acc : List Int} {rows : List (List Int)} {A N : Option Addr} {nA cA n cN : Nat} {xs : List Value} (h : DfaB w base Bd start acc rows (.slice A nA cA) (.slice N n cN) xs) :
    Sl Rep.int w (fun b => base ≤ b) A nA cA acc ∧ Sl RI w (fun b => base ≤ b) N n cN rows := by
 obtain ⟨A4, n4, c4, A5, n5, c5, e, h1, h2⟩ := RDfa.cells.1 h.rep
 simp only [List.cons.injEq, Value.slice.injEq, and_true] at e
 obtain ⟨_, ⟨rfl, rfl, rfl⟩, ⟨rfl, rfl, rfl⟩⟩ := e
 exact ⟨h1, h2⟩
end Go.Proofs.Ytbmcoamdfpegnaa
