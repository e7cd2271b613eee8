/- MakeDfa DfaV -/
import Derived.Deep.CutRange
import Derived.Deep.LoopGhost
import Derived.Deep.RegionHeld3
import Derived.Test.YtabnlbalekmmmaaDoorAe05
import Derived.Test.YtabnlbalekmmmaaDoorAe07
import Derived.Test.YtabnlbalekmmmaaDoorAe26
namespace Go.Proofs.YtabnlbalekmmmaaDoor
open Go.RowKit
def dfaN (l : List Int) : Nat := (1 + nv l 0 6).toNat
def dfaC (l : List Int) : Nat := (1 + nv l 1 3).toNat
def dfaAcc (l : List Int) (s : Nat) : Int := nv l (3 + s * (dfaC l + 1)) 3 - 1
def dfaCell (l : List Int) (s j : Nat) : Int := nv l (3 + s * (dfaC l + 1) + 1 + j) ((dfaN l : Int) + 1) - 1
def dfaRow (l : List Int) (s : Nat) : List Int := (List.range (dfaC l)).map (dfaCell l s)
def MkSt (w : World) (S : Nat → Prop) (l : List Int) (Br Bs Bd base : Nat) (s : Nat) (wr : World) : Prop :=
 ∃ vA vN xs, DfaB wr base Bd (nv l 2 (dfaN l)) ((List.range s).map (dfaAcc l)) ((List.range s).map (dfaRow l)) vA vN xs ∧ StreamAt wr S Bs (l.drop (3 + s * (dfaC l + 1))) ∧
  wr.heap[Br]? = some (.cells #[.int .i64 0, .slice none 0 0, .slice none 0 0] 29 (0, 0)) ∧ Below w.heap.size w wr
theorem range_snoc {α : Type} (f : Nat → α) (s : Nat) : (List.range (s + 1)).map f = (List.range s).map f ++ [f s] := by simp [List.range_succ]
def MkMid (w : World) (S : Nat → Prop) (l : List Int) (Br Bs Bd base K : Nat) (s j : Nat) (v7 : Value) (wr : World) : Prop :=
 ∃ vA vN xs, DfaB wr base Bd (nv l 2 (dfaN l)) ((List.range (s + 1)).map (dfaAcc l)) ((List.range s).map (dfaRow l)) vA vN xs ∧ DfaLow K vA vN xs ∧ Own wr K 3 1 v7 j (((List.range j).map (dfaCell l s)).map (Value.int .i64)) ∧
  StreamAt wr S Bs (l.drop (3 + s * (dfaC l + 1) + 1 + j)) ∧
  wr.heap[Br]? = some (.cells #[.int .i64 0, .slice none 0 0, .slice none 0 0] 29 (0, 0)) ∧ Below w.heap.size w wr ∧ K ≤ wr.heap.size ∧ base ≤ K
section
variable {w wr w4 : World} {S : Nat → Prop} {l : List Int} {Bd K s j : Nat} {v7 : Value}
theorem MkMid.step (h : MkMid w (fun b => S b ∧ b < w.heap.size) l w.heap.size (w.heap.size + 1) Bd (Bd + 1) K s j v7 wr) (hBd : w.heap.size + 2 ≤ Bd) (hj : j ≤ 1000)
    (hs4 : StreamAt w4 (fun b => S b ∧ b < w.heap.size) (w.heap.size + 1) (l.drop (3 + s * (dfaC l + 1) + 1 + j + 1))) (hg : wr.grownBy w4 (some (w.heap.size + 1))) :
    ∃ A7 c7 A2 c2 w2, v7 = .slice A7 j c7 ∧ (Builtin.append_ #[22, 22] 22 #[.slice A7 j c7, .slice (some ⟨w4.heap.size, 0, none⟩) 1 1]).run Tryd.prog (w4.alloc (.cells #[.int .i64 (dfaCell l s j)] 3)) = .ok (.slice A2 (j + 1) c2) w2 ∧
     MkMid w (fun b => S b ∧ b < w.heap.size) l w.heap.size (w.heap.size + 1) Bd (Bd + 1) K s (j + 1) (.slice A2 (j + 1) c2) w2 := by
 obtain ⟨vA, vN, xs, hd, hlow, ho, hst, hbr, hb, hK, hKb⟩ := h
 have hne : ∀ k, k ≠ w.heap.size + 1 → some k ≠ some (w.heap.size + 1) := fun k h e => h (by injection e)
 have hd4 := hd.grown hg (fun g e => by injection e with e; omega)
 have ho4 := ho.kept hg (fun g e e2 => by
  injection e with e
  have := (ho.row e2).1
  omega)
 have hs := hg.size
 have hbr4 := (hg.block w.heap.size (by have := hb.size; omega) (hne _ (by omega))).trans hbr
 have hb4 : Below w.heap.size w w4 := hb.grown hg hb.size (fun k e => by injection e with e; omega)
 obtain ⟨v2, w2, hrun, ho2, hg2, _⟩ := run_append_Own tInts (w4.alloc (.cells #[.int .i64 (dfaCell l s j)] 3)) 22 K v7 j _ (ho4.alloc _) (fun _ => True) (some ⟨w4.heap.size, 0, none⟩) 1 1 [.int .i64 (dfaCell l s j)]
  (Rd.new w4 _ _ [.int .i64 (dfaCell l s j)] _ rfl trivial) (by intro u hu; obtain rfl := List.mem_singleton.1 hu; rfl) (by unfold maxLen; omega) (by omega) (by simp; omega)
 obtain ⟨A7, c7, rfl, _, _⟩ := ho.form
 obtain ⟨A2, c2, rfl, _, _⟩ := ho2.form
 have hrow : ∀ g, rowOf (.slice A7 j c7) = some g → g ≠ Bd ∧ K ≤ g := fun g e => by
  have := (ho.row e).1
  omega
 have hba : Below w.heap.size w (w4.alloc (.cells #[.int .i64 (dfaCell l s j)] 3)) := hb4.alloc hb4.size _
 have hs2 := hg2.size
 have hsw := hb.size
 simp only [World.size_alloc] at hs2
 refine ⟨A7, c7, A2, c2, w2, rfl, hrun, vA, vN, xs, (hd4.alloc _).grown2 hlow hg2 hrow, hlow, ?_, ?_, ?_, ?_, by omega, hKb⟩
 ·
  rw [range_snoc, List.map_append]
  exact ho2
 ·
  refine (hs4.alloc _).grown hg2 (fun e => ?_) (fun b hb' e => ?_)
  ·
   have := (hrow _ e).2
   omega
  ·
   have := (hrow _ e).2
   have := hb'.2
   omega
 ·
  rw [hg2.block w.heap.size (by simp; omega) (fun e => by have := (hrow _ e.symm).2; omega), Below.heap_alloc _ _ _ (by omega)]
  exact hbr4
 ·
  exact hba.grown hg2 hba.size (fun k e => by have := (hrow _ e).2; omega)
theorem MkMid.push (h : MkMid w (fun b => S b ∧ b < w.heap.size) l w.heap.size (w.heap.size + 1) Bd (Bd + 1) K s (dfaC l) v7 wr) (hBd : w.heap.size + 2 ≤ Bd) (hs6 : s ≤ 1000) :
    ∃ vN A2 c2 w2, wr.cell? ⟨Bd, 2, none⟩ = some vN ∧ (Builtin.append_ #[27, 27] 27 #[vN, .slice (some ⟨wr.heap.size, 0, none⟩) 1 1]).run Tryd.prog (wr.alloc (.cells #[v7] 22)) = .ok (.slice A2 (s + 1) c2) w2 ∧
     w2.cell? ⟨Bd, 2, none⟩ = some vN ∧ w2.frozen? ⟨Bd, 2, none⟩ = false ∧ Bd < wr.heap.size ∧
     MkSt w (fun b => S b ∧ b < w.heap.size) l w.heap.size (w.heap.size + 1) Bd (Bd + 1) (s + 1) (w2.setCell ⟨Bd, 2, none⟩ (.slice A2 (s + 1) c2)) := by
 obtain ⟨vA, vN, xs, hd, hlow, ho, hst, hbr, hb, hK, hKb⟩ := h
 have ho' : Own wr (Bd + 1) 3 1 v7 (dfaRow l s).length ((dfaRow l s).map (Value.int .i64)) := by
  have := ho.mono hKb
  simpa [dfaRow] using this
 obtain ⟨v2, w2, hrun, hc2, hf2, hd2, hb2⟩ := hd.pushN v7 (dfaRow l s) ho' (fun g e => by
  have := (ho.row e).1
  exact ⟨fun e2 => by have := hlow.1 g e2; omega, fun e2 => by have := hlow.2.1 g e2; omega⟩) (by simp; omega)
 obtain ⟨A2, c2, hv2, _, _⟩ := hd2.ownN.form
 have hl : ((List.range s).map (dfaRow l) ++ [dfaRow l s]).length = s + 1 := by simp
 rw [hl] at hv2
 subst hv2
 have hsw := hb.size
 have hs2 := hb2.size
 have hlt := hd.le
 refine ⟨vN, A2, c2, w2, hd.cellN, hrun, hc2, hf2, by omega, vA, .slice A2 (s + 1) c2, xs ++ [v7], ?_, ?_, ?_, ?_⟩
 ·
  rw [range_snoc (dfaRow l)]
  exact hd2
 ·
  have e : 3 + s * (dfaC l + 1) + 1 + dfaC l = 3 + (s + 1) * (dfaC l + 1) := by rw [Nat.add_mul]; omega
  rw [← e]
  have hset := set_grown (Bd := Bd) w2 2 (.slice A2 (s + 1) c2)
  have h1 : StreamAt w2 (fun b => S b ∧ b < w.heap.size) (w.heap.size + 1) (l.drop (3 + s * (dfaC l + 1) + 1 + dfaC l)) := hst.keep (.belowB hb2 (fun b hb' => by have := hb'.2; omega)) (hb2.block _ (by omega))
  exact h1.grown hset (fun e => by injection e with e; omega) (fun b hb' e => by injection e with e; have := hb'.2; omega)
 ·
  rw [Below.heap_setCell w2 ⟨Bd, 2, none⟩ _ _ (by simp; omega), hb2.block _ (by omega)]
  exact hbr
 ·
  exact (hb.trans (hb2.mono (by omega))).setCell (by simp; omega) _
end
end Go.Proofs.YtabnlbalekmmmaaDoor
namespace Go.Proofs.YtabnlbalekmmmaaDoor
open Go.RowKit
theorem DfaB.sl {w : World} {base Bd : Nat} {start : Int} {acc : List Int} {rows : List (List Int)} {A N : Option Addr} {nA cA n cN : Nat} {xs : List Value} (h : DfaB w base Bd start acc rows (.slice A nA cA) (.slice N n cN) xs) :
    Sl Rep.int w (fun b => base ≤ b) A nA cA acc ∧ Sl RI w (fun b => base ≤ b) N n cN rows := by
 obtain ⟨A4, n4, c4, A5, n5, c5, e, h1, h2⟩ := RDfa.cells.1 h.rep
 simp only [List.cons.injEq, Value.slice.injEq, and_true] at e
 obtain ⟨_, ⟨rfl, rfl, rfl⟩, ⟨rfl, rfl, rfl⟩⟩ := e
 exact ⟨h1, h2⟩
end Go.Proofs.YtabnlbalekmmmaaDoor
