/- A map's key that is a struct of two ints. -/
import Derived.Test.YtfkapijfjihiiaaWords
import Derived.DeepKeys4
import Derived.Maps.RangeWalk
import Derived.Maps.OwnOps
namespace Go.Proofs.Ytfkapijfjihiiaa
open Go.RowKit Go.Maps

theorem laidP : laidOutB Try.prog = true := by kernel_rfl
theorem edgeKeys : Keyed Try.prog 119 := Keyed.of_law (deep_law_laid laidP (m := 3) (by omega) (of_decide_eq_true (by kernel_rfl)) (by kernel_rfl) (by kernel_rfl))
theorem edgeSize : ∃ m, Try.prog.types.size + 1 = m + 2 := by
  have h : 0 < Try.prog.types.size := of_decide_eq_true (by kernel_rfl)
  exact ⟨Try.prog.types.size - 1, by omega⟩
theorem edgeKey (a b : Int) (ha : -1000000 ≤ a ∧ a ≤ 1000000) (hb : -1000000 ≤ b ∧ b ≤ 1000000) : ∃ l, keyOf Try.prog 119 (.agg #[.int .i64 a, .int .i64 b]) = some l := by
  have wa : (Lit.int .i64 a).wf = true := WalkArith.wf_i64 (by omega)
  have wb : (Lit.int .i64 b).wf = true := WalkArith.wf_i64 (by omega)
  refine ⟨.string (keyBytes [.int .i64 a, .int .i64 b]), ?_⟩
  have hu := Try.underlying119
  unfold keyOf
  simp only [hu]
  have h1 : Try.prog.keyType 119 = true := by kernel_rfl
  have h2 : Try.prog.cellsOf 119 = 2 := by kernel_rfl
  obtain ⟨m, hm⟩ := edgeSize
  have h3 : Try.prog.cellsOf 3 = 1 := by kernel_rfl
  rw [if_pos (by simp [h1, Value.formed, hu, h2]), hm]
  unfold Program.keyLits
  simp only [hu, Value.cells]
  simp [Program.keyLits, Try.underlying3, h2, h3, wa, wb]
set_option maxRecDepth 100000 in
theorem edgeInv {key : Value} {l : Lit} (h : keyOf Try.prog 119 key = some l) : ∃ p : Int × Int, key = .agg #[.int .i64 p.1, .int .i64 p.2] := by
  obtain ⟨xs, L, rfl, hl, _⟩ := keyOf_top (by kernel_rfl) h
  have hu := Try.underlying119
  obtain ⟨m, hm⟩ := edgeSize
  have h3 : Try.prog.cellsOf 3 = 1 := by kernel_rfl
  rw [hm] at hl
  unfold Program.keyLits at hl
  simp only [hu] at hl
  obtain ⟨xl⟩ := xs
  have h2 : Try.prog.cellsOf 119 = 2 := by kernel_rfl
  have hint : ∀ (c : Value) (y : List Lit), Try.prog.keyLits (m + 1) 3 [c] = some y → ∃ n, c = .int .i64 n := by
    intro c y hy
    unfold Program.keyLits at hy
    simp only [Try.underlying3] at hy
    cases c with
    | int q n =>
      simp only [Option.ite_none_right_eq_some] at hy
      exact ⟨n, by rw [hy.1.1]⟩
    | _ => cases hy
  split at hl
  · rename_i hc
    rw [h2] at hc
    match xl, hc.1 with
    | [c0, c1], _ =>
      simp only [List.mapM_cons, List.mapM_nil, h3, List.drop_zero, List.drop_succ_cons, List.take_succ_cons, List.take_zero, Option.map_eq_some_iff, Option.bind_eq_bind, Option.bind_eq_some_iff, Option.pure_def] at hl
      obtain ⟨_, ⟨y0, hy0, _, ⟨y1, hy1, _⟩, _⟩, _⟩ := hl
      obtain ⟨n0, rfl⟩ := hint c0 y0 hy0
      obtain ⟨n1, rfl⟩ := hint c1 y1 hy1
      exact ⟨(n0, n1), rfl⟩
  · cases hl
theorem boolElem {v : Value} {z : DataW Unit × List MemPlace} (h : plainElem Try.prog 4 v = some z) : ∃ c : Bool, v = .bool c := by
  have hu := Try.underlying4
  unfold plainElem at h
  simp only [hu] at h
  cases v with
  | bool c => exact ⟨c, rfl⟩
  | _ => cases h
/-- a set of pairs, as a map -/
def EMap (w : World) (b n : Nat) (M : Nat → Nat → Prop) : Prop :=
  ∃ D : DataW Unit, w.ownsMap Try.prog 119 (plainElem Try.prog 4) b n D ∧
    (∀ kl, Maps.has D kl = true → ∃ i j : Nat, M i j ∧ keyOf Try.prog 119 (.agg #[.int .i64 (i : Int), .int .i64 (j : Int)]) = some kl) ∧
    (∀ i j : Nat, M i j → ∃ kl, keyOf Try.prog 119 (.agg #[.int .i64 (i : Int), .int .i64 (j : Int)]) = some kl ∧ Maps.has D kl = true)
theorem EMap.made (w : World) : EMap (w.alloc (.map #[] 0)) w.heap.size 0 (fun _ _ => False) :=
  ⟨_, World.ownsMap_made _ _ _ _, fun kl h => by simp [Maps.has] at h, fun _ _ h => h.elim⟩
theorem EMap.block {w w' : World} {b n : Nat} {M : Nat → Nat → Prop} (h : EMap w b n M) (hb : w'.heap[b]? = w.heap[b]?) : EMap w' b n M := by
  obtain ⟨D, ⟨es, clock, h1, F, hs, hD⟩, h2⟩ := h
  exact ⟨D, ⟨es, clock, hb.trans h1, F, hs, hD⟩, h2⟩
theorem EMap.lt {w : World} {b n : Nat} {M : Nat → Nat → Prop} (h : EMap w b n M) : b < w.heap.size := by
  obtain ⟨D, h1, _⟩ := h
  exact h1.lt
theorem EMap.put {w w' : World} {b n n' : Nat} {M : Nat → Nat → Prop} {D : DataW Unit} (hown : w.ownsMap Try.prog 119 (plainElem Try.prog 4) b n D)
    (h1 : ∀ kl, Maps.has D kl = true → ∃ i j : Nat, M i j ∧ keyOf Try.prog 119 (.agg #[.int .i64 (i : Int), .int .i64 (j : Int)]) = some kl)
    (h2 : ∀ i j : Nat, M i j → ∃ kl, keyOf Try.prog 119 (.agg #[.int .i64 (i : Int), .int .i64 (j : Int)]) = some kl ∧ Maps.has D kl = true)
    {i j : Nat} {kl : Lit} (hk : keyOf Try.prog 119 (.agg #[.int .i64 (i : Int), .int .i64 (j : Int)]) = some kl) (d : DataW Unit) (hown' : w'.ownsMap Try.prog 119 (plainElem Try.prog 4) b n' (D.put kl d)) :
    EMap w' b n' (fun a c => M a c ∨ (a = i ∧ c = j)) := by
  obtain ⟨es, _, _, F, _, hD⟩ := hown
  have hm : IsMap D := ⟨_, hD⟩
  have hkl := edgeKeys.key hk
  refine ⟨_, hown', fun k h => ?_, fun a c h => ?_⟩
  · by_cases e : k = kl
    · subst e
      exact ⟨i, j, .inr ⟨rfl, rfl⟩, hk⟩
    · rw [has_put_other e] at h
      obtain ⟨a, c, h3, h4⟩ := h1 k h
      exact ⟨a, c, .inl h3, h4⟩
  · rcases h with h | ⟨rfl, rfl⟩
    · obtain ⟨k, h3, h4⟩ := h2 a c h
      refine ⟨k, h3, ?_⟩
      by_cases e : k = kl
      · rw [e]
        exact has_put_same hm hkl d
      · rw [has_put_other e]
        exact h4
    · exact ⟨kl, hk, has_put_same hm hkl d⟩
end Go.Proofs.Ytfkapijfjihiiaa
