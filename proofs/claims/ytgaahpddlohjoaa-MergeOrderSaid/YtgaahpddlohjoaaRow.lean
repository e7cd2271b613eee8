/- How a law's row is closed: it returned true, and nothing that was there has changed. -/
import Derived.Test.YtgaahpddlohjoaaRows
import Derived.Test.YtgaahpddlohjoaaWords
import Derived.OpenShut
import Derived.SizedLaws
import Derived.Carry
import Derived.JoinedCond
import Derived.Deep.Grids
import Derived.Deep.CondSized
namespace Go.Proofs.Ytgaahpddlohjoaa
open Go.ChangeShapes Go.WideShapes Go.ChangeAt Go.RowKit

theorem own : ownKnob Try.prog.godebug = none := by kernel_rfl
theorem laidOut : laidOutB Try.prog = true := by kernel_rfl

section
variable {H : Type} {enc : TypeId × Value → H} {P : Program}
theorem trodAll_below (hl : laidOutB P = true) {W W' : World} (hb : Below W.heap.size W W') : ∀ {ts : List TypeId} {vs : List Value} {ds : List (DataW H)} {ps : List MemPlace},
    (ts.all fun t => P.readableRec t && decide (t < P.types.size)) = true → (∀ x ∈ ps, x.block < W.heap.size) →
    DataW.TrodAll enc P W 0 (fun _ => true) true ts vs ds ps → DataW.TrodAll enc P W' 0 (fun b => decide (b < W.heap.size)) true ts vs ds ps
  | [], [], [], _, _, _, h => h
  | [], [], _ :: _, _, _, _, h => h.elim
  | [], _ :: _, _, _, _, _, h => h.elim
  | _ :: _, [], _, _, _, _, h => h.elim
  | _ :: _, _ :: _, [], _, _, _, h => h.elim
  | t :: ts, v :: vs, d :: ds, ps, hr, hlt, h => by
    obtain ⟨p, q, h1, h2, rfl⟩ := h
    simp only [List.all_cons, Bool.and_eq_true, decide_eq_true_eq] at hr
    exact ⟨p, q, Below.trod hl hr.1.1 hr.1.2 h1 hb (fun x hx => hlt x (by simp [hx])), trodAll_below hl hb hr.2 (fun x hx => hlt x (by simp [hx])) h2, rfl⟩

/-- a law's end -/
theorem law_post {f : Func} {s : ChangeSpec} {apart : Bool} {W W' : World} {args : Array Value} {ds gs : List (DataW H)} {before : List MemPlace} {tb : TypeId} (hl : laidOutB P = true)
    (hr : (f.params.toList.all fun t => P.readableRec t && decide (t < P.types.size)) = true) (hrt : f.resultTypes = #[tb]) (htb : P.underlying tb = some .bool)
    (hvars : s.vars = []) (hspec : (s.fn H (ds ++ gs)) = { results := [.lit (.bool true)], args := ds })
    (hW : DataW.Whole enc P f.params.toList s.vars apart W args.toList ds gs before) (hB : Below W.heap.size W W') : s.post enc P f apart true false false W args (.bool true) W' := by
  have hlt := hW.lt
  have hW0 := hW
  obtain ⟨p, q, hA, hV, rfl, _, _⟩ := hW
  rw [hvars] at hV
  refine ⟨ds, gs, p ++ q, [], p, [], hW0, ?_, ?_, ?_, hB.frame _, fun h => by cases h⟩
  · rw [hspec, hrt]
    exact trodAll_cons_mk (shut_bool htb _) trodAll_mk0
  · rw [hspec]
    exact trodAll_below hl hB hr (fun x hx => by simpa using hlt x (by simp [hx])) hA
  · rw [hspec, hvars]
    rfl

theorem rd_of_cells {w : World} {a : Addr} {n : Nat} {xs : List Value} (hl : xs.length = n) (h : ∀ i u, xs[i]? = some u → w.cell? (a.add i) = some u) : Rd w (fun _ => True) 1 (some a) n xs := by
  refine ⟨by omega, fun h0 => ?_⟩
  obtain ⟨b, off, sp⟩ := a
  have h1 := h 0 _ (List.getElem?_eq_getElem (by omega))
  have hsp : sp = none := by
    cases sp with
    | none => rfl
    | some q =>
      exfalso
      simp only [Addr.add, if_true, World.cell?] at h1
      split at h1
      · simp at h1
      · cases h1
  subst hsp
  refine ⟨b, off, rfl, trivial, fun j u hu => ?_⟩
  have := h j u hu
  by_cases hj : j = 0
  · subst hj; exact this
  · simpa [Addr.add, hj] using this

/-- a slice of ints that came in -/
theorem open_Ints {W : World} {T E base : Nat} {v : Value} {d : DataW H} {ps : List MemPlace} (ht : P.underlying T = some (.slice E)) (he : P.underlying E = some (.int .i64)) (hc : P.cellsOf E = 1)
    (hval : Value.okWide P W .any base T v) (h : DataW.Trod enc P W 0 (fun _ => true) true T v d ps) :
    ∃ (A : Option Addr) (n c : Nat) (zs : List Int), v = .slice A n c ∧ n ≤ c ∧ c ≤ maxLen ∧ Rd W (fun _ => True) 1 A n (zs.map (Value.int .i64)) ∧ (∀ z ∈ zs, -9223372036854775808 ≤ z ∧ z ≤ 9223372036854775807) ∧
      ((d = .nil ∧ c = 0) ∨ ∃ es sp, d = .slice es sp ∧ es.length + sp.length = c) := by
  obtain ⟨a0, len, cap, rfl⟩ := okWide_slice ht hval
  obtain ⟨fuel, hf⟩ := h
  rcases open_ints ht he hc hf with ⟨h1, h2⟩ | ⟨a, len', cap', zs, h1, _, h3, h4, h5, h6, h7, h8⟩
  · simp only [Value.cells] at h1
    obtain ⟨rfl, rfl, rfl⟩ : a0 = none ∧ len = 0 ∧ cap = 0 := by simpa using h1
    injection h2 with h2 _
    exact ⟨none, 0, 0, [], rfl, Nat.le_refl _, Nat.zero_le _, Rd.nil, by simp, .inl ⟨h2, rfl⟩⟩
  · simp only [Value.cells] at h1
    obtain ⟨rfl, rfl, rfl⟩ : a0 = some a ∧ len = len' ∧ cap = cap' := by simpa using h1
    simp only [if_true] at h5
    injection h6 with h6 _
    refine ⟨some a, len, cap, zs.take len, rfl, h3, h4, rd_of_cells (by simp; omega) ?_, ?_, .inr ⟨_, _, h6, by simp [lits]; omega⟩⟩
    · intro i u hu
      rw [List.getElem?_map, List.getElem?_take] at hu
      split at hu
      · rename_i hi
        have := h7 i (by omega)
        rw [this]
        rw [← hu]
        simp [List.getD, List.getElem?_eq_getElem (show i < zs.length by omega)]
      · simp at hu
    · intro z hz
      have := h8 z (List.mem_of_mem_take hz)
      have h1 : IntKind.i64.min = -9223372036854775808 := rfl
      have h2 : IntKind.i64.max = 9223372036854775807 := rfl
      simp only [Lit.wf, Bool.and_eq_true, decide_eq_true_eq] at this
      omega

/-- a slice of bools that came in -/
theorem open_Bools {W : World} {T E base : Nat} {v : Value} {d : DataW H} {ps : List MemPlace} (ht : P.underlying T = some (.slice E)) (he : P.underlying E = some .bool) (hc : P.cellsOf E = 1)
    (hval : Value.okWide P W .any base T v) (h : DataW.Trod enc P W 0 (fun _ => true) true T v d ps) :
    ∃ (A : Option Addr) (n c : Nat) (bs : List Bool), v = .slice A n c ∧ n ≤ c ∧ c ≤ maxLen ∧ Rd W (fun _ => True) 1 A n (bs.map Value.bool) ∧
      ((d = .nil ∧ c = 0) ∨ ∃ es sp, d = .slice es sp ∧ es.length + sp.length = c) := by
  obtain ⟨a0, len, cap, rfl⟩ := okWide_slice ht hval
  obtain ⟨fuel, hf⟩ := h
  rcases Go.Deep.open_bools ht he hc hf with ⟨h1, h2⟩ | ⟨a, len', cap', B, h1, _, h3, h4, h6, h7⟩
  · simp only [Value.cells] at h1
    obtain ⟨rfl, rfl, rfl⟩ : a0 = none ∧ len = 0 ∧ cap = 0 := by simpa using h1
    injection h2 with h2 _
    exact ⟨none, 0, 0, [], rfl, Nat.le_refl _, Nat.zero_le _, Rd.nil, .inl ⟨h2, rfl⟩⟩
  · simp only [Value.cells] at h1
    obtain ⟨rfl, rfl, rfl⟩ : a0 = some a ∧ len = len' ∧ cap = cap' := by simpa using h1
    injection h6 with h6 _
    refine ⟨some a, len, cap, (List.range len).map B, rfl, h3, h4, rd_of_cells (by simp) ?_, .inr ⟨_, _, h6, by simp; omega⟩⟩
    intro i u hu
    rw [List.getElem?_map, List.getElem?_map] at hu
    by_cases hi : i < len
    · rw [List.getElem?_range hi] at hu
      simp only [Option.map_some] at hu
      rw [h7 i (by omega), ← hu]
    · rw [List.getElem?_eq_none (by simp; omega)] at hu
      simp at hu
theorem open_Int {W : World} {T base : Nat} {v : Value} {d : DataW H} {ps : List MemPlace} (ht : P.underlying T = some (.int .i64))
    (hval : Value.okWide P W .any base T v) (h : DataW.Trod enc P W 0 (fun _ => true) true T v d ps) : ∃ n : Int, v = .int .i64 n ∧ -9223372036854775808 ≤ n ∧ n ≤ 9223372036854775807 := by
  obtain ⟨m, rfl, rfl, rfl, wm⟩ := open_int ht hval h
  have h1 : IntKind.i64.min = -9223372036854775808 := rfl
  have h2 : IntKind.i64.max = 9223372036854775807 := rfl
  simp only [Lit.wf, Bool.and_eq_true, decide_eq_true_eq] at wm
  exact ⟨m, rfl, by omega, by omega⟩
end
end Go.Proofs.Ytgaahpddlohjoaa
