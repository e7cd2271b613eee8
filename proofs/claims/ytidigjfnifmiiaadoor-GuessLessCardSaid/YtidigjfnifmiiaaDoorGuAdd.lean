/- guess.Rules$1: a rule is appended to those of the caller. -/
import Derived.Test.YtidigjfnifmiiaaDoorMakeGram
namespace Go.Proofs.YtidigjfnifmiiaaDoor
open Go.RowKit

/-- the caller's list of rules, in the box that the closure holds -/
structure OutS (Bo : Nat) (vO : Value) (out : List RuleD) (w : World) : Prop where
  bx : w.heap[Bo]? = some (.cells #[vO] 23 (0, 0))
  own : OwnL RRule w (fun _ => False) (Bo + 1) 29 vO out
theorem OutS.below {Bo : Nat} {vO : Value} {out : List RuleD} {w w' : World} (h : OutS Bo vO out w) (hb : Below w.heap.size w w') : OutS Bo vO out w' :=
  ⟨(hb.block _ (heap_lt h.bx)).trans h.bx, h.own.below hb⟩
set_option maxRecDepth 100000 in
set_option maxHeartbeats 1000000 in
theorem rulesAdd (w : World) (Bo Bn : Nat) (n : Int) (vO : Value) (out : List RuleD) (ho : OutS Bo vO out w) (hn : w.cell? ⟨Bn, 0, none⟩ = some (.int .i64 n)) (A : Option Addr) (m c : Nat) (l : List SymD)
    (hs : Sl RSym w (fun b => Bo + 1 ≤ b ∧ rowOf vO ≠ some b) A m c l) (hl : out.length ≤ 1000) :
    Calls Tryd.prog 49 #[.slice A m c, .pointer (some ⟨Bo, 0, none⟩), .pointer (some ⟨Bn, 0, none⟩)] w fun e w' => e = .returned (.tuple #[]) ∧
      ∃ vO', OutS Bo vO' (out ++ [(n, l)]) w' ∧ (∀ b, b ≠ Bo → b < w.heap.size → rowOf vO ≠ some b → w'.heap[b]? = w.heap[b]?) ∧ Below Bo w w' := by
  have hlt := heap_lt ho.bx
  have hc0 : w.cell? ⟨Bo, 0, none⟩ = some vO := by simp [World.cell?, ho.bx]
  obtain ⟨AO, cO, rfl, hcO, _⟩ := ho.own.form
  have hcell : Cells RRule w (Off (fun _ => False) (Bo + 1) (.slice AO out.length cO)) [.int .i64 n, .slice A m c] [(n, l)] :=
    Cells.single (RRule.cells.2 ⟨A, m, c, rfl, hs.more fun b hb => ⟨.inr hb.1, hb.2⟩⟩)
  obtain ⟨v2, w2, hrun, ho2, hg, hb⟩ := run_append_lit (R := RRule) tRules rfl w 23 (Bo + 1) (fun _ => False) _ out ho.own 1 [(n, l)] [.int .i64 n, .slice A m c] hcell rfl (by unfold maxLen; omega) (by omega) (by omega)
  have hrow : ∀ g, rowOf (.slice AO out.length cO) = some g → Bo + 1 ≤ g := fun g e => (ho.own.row e).1
  have hz := hg.size
  simp only [World.size_alloc] at hz
  have hbx2 : w2.heap[Bo]? = some (.cells #[.slice AO out.length cO] 23 (0, 0)) := (hb.block Bo (by omega)).trans ho.bx
  have d0 : w2.cell? ⟨Bo, 0, none⟩ = some (.slice AO out.length cO) := by simp [World.cell?, hbx2]
  have f0 : w2.frozen? ⟨Bo, 0, none⟩ = false := by simp [World.frozen?, hbx2]
  obtain ⟨A2, c2, rfl, _, _⟩ := ho2.form
  rw [show (out ++ [(n, l)]).length = out.length + 1 by simp] at hrun ho2
  have hset := set_grown (Bd := Bo) w2 0 (.slice A2 (out.length + 1) c2)
  have HFIN := Lib.hid (show ∃ vO', OutS Bo vO' (out ++ [(n, l)]) (w2.setCell ⟨Bo, 0, none⟩ (.slice A2 (out.length + 1) c2)) ∧ (∀ b, b ≠ Bo → b < w.heap.size → rowOf (.slice AO out.length cO) ≠ some b → (w2.setCell ⟨Bo, 0, none⟩ (.slice A2 (out.length + 1) c2)).heap[b]? = w.heap[b]?) ∧ Below Bo w (w2.setCell ⟨Bo, 0, none⟩ (.slice A2 (out.length + 1) c2)) from by
    refine ⟨.slice A2 (out.length + 1) c2, ⟨?_, ho2.keepG hset (fun g e => by injection e with e; omega)⟩, fun b h1 h2 h3 => ?_, (hb.mono (Nat.le_succ Bo)).setCell (p := ⟨Bo, 0, none⟩) (Nat.le_refl _) _⟩
    · have := blk_set hbx2 0 (.slice A2 (out.length + 1) c2)
      simpa using this
    · rw [Below.heap_setCell _ _ _ _ h1, hg.block b (by simp; omega) (fun e => h3 e.symm)]
      exact Below.heap_alloc _ _ _ h2)
  have HRUN := Lib.hid hrun
  have hlt2 : Bo < w2.heap.size := by omega
  clear ho hs hcell hrun ho2 hg hb hrow hbx2 hset
  go_enter Tryd.func49, Tryd.ntmps49
  go_wp2_with (at_builtin; refine Lib.wpList_append_run (o := ⟨some 9, _, _, _, _, _⟩) _ rfl _ _ _ _ rfl _ _ rfl rfl _ _ HRUN.out ?_)
  go_end0
  exact ⟨rfl, HFIN.out⟩
end Go.Proofs.YtidigjfnifmiiaaDoor
