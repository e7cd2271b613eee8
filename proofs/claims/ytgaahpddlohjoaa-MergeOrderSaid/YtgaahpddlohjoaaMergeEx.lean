/- What the laws on merge.Of share: the least examples; the examples' sums. -/
import Derived.Test.YtgaahpddlohjoaaMergeOf
import Derived.Test.YtgaahpddlohjoaaGuEx
import Derived.Test.YtgaahpddlohjoaaDfaRun
import Derived.Test.YtgaahpddlohjoaaDfaOf
namespace Go.Proofs.Ytgaahpddlohjoaa
open Go.RowKit

/-- of the examples [[0]], [[]] there are two states -/
theorem two_states {L : List (List Int)} {m : MM} (h : MergeP 1 [[0]] [[]] L m) : L.length ≤ 2 ∧ (canonD (endM m)).2.2.length = 2 := by
  have hL : L.length ≤ 2 := by
    have := h.1.len
    simpa [sumLen] using this
  refine ⟨hL, ?_⟩
  have hd : ∀ w ∈ [([0] : List Int)], w ∉ [([] : List Int)] := by simp
  have hw : ∀ w ∈ [([0] : List Int)] ++ [([] : List Int)], ∀ c ∈ w, 0 ≤ c ∧ c < ((1 : Nat) : Int) := by simp
  obtain ⟨hv, hc⟩ := h.valid (by omega) hd (by omega) (by omega)
  have hn : (endM m).2.2.length = L.length := by
    have hm := h.mok (by omega) hd
    show (m.next.map _).length = _
    rw [List.length_map, hm.ok.nx, hm.len]
  have h1 := canon_le hv
  have hcv := canon_valid hv
  have h2 := hcv.n1
  have hy := h.yes (by omega) hd hw (w := [0]) (by simp)
  have hno := h.no (by omega) hd hw (w := []) (by simp)
  have hcc := canon_cols hv
  rw [← canon_accept hv (l := [0]) (fun x hx => by rw [hc]; obtain rfl := List.mem_singleton.1 hx; exact ⟨Int.le_refl _, by decide⟩)] at hy
  rw [← canon_accept hv (l := []) WOk.nil] at hno
  rcases (show (canonD (endM m)).2.2.length = 1 ∨ (canonD (endM m)).2.2.length = 2 by omega) with h3 | h3
  · exfalso
    have hs := canon_start hv
    have hr := dto_range hcv (s := 0) (c := 0) ⟨by omega, by omega⟩ ⟨Int.le_refl _, by rw [hcc, hc]; decide⟩
    rw [h3] at hr
    unfold daccept drun at hy hno
    rw [hs] at hy hno
    have hy2 : decide (0 ≤ dat (canonD (endM m)) (dto (canonD (endM m)) 0 0)) = true := hy
    have hn2 : decide (0 ≤ dat (canonD (endM m)) 0) = false := hno
    rcases (show dto (canonD (endM m)) 0 0 = -1 ∨ dto (canonD (endM m)) 0 0 = 0 by omega) with e | e
    · rw [e] at hy2
      cases hy2
    · rw [e, hn2] at hy2
      cases hy2
  · exact h3
theorem sumLen_append (a b : List (List Int)) : sumLen (a ++ b) = sumLen a + sumLen b := by simp [sumLen]
theorem sumLen_le {ws : List (List Int)} {k : Nat} (h : ∀ w ∈ ws, w.length ≤ k) : sumLen ws ≤ ws.length * k := by
  induction ws with
  | nil => simp [sumLen]
  | cons w ws ih =>
    have h1 := ih fun v hv => h v (by simp [hv])
    have h2 := h w (by simp)
    have e : sumLen (w :: ws) = w.length + sumLen ws := by simp [sumLen]
    rw [e, List.length_cons, Nat.add_mul]
    omega
theorem ExOk.words {d : DfaD} {ys ns : List (List Int)} (h : ExOk d ys ns) : (∀ x ∈ ys ++ ns, x.length ≤ 4 ∧ ∀ y ∈ x, 0 ≤ y ∧ y < (cols d : Int)) ∧ sumLen (ys ++ ns) ≤ 48 ∧ ∀ x ∈ ys, x ∉ ns := by
  have h1 : ∀ x ∈ ys ++ ns, x.length ≤ 4 ∧ ∀ y ∈ x, 0 ≤ y ∧ y < (cols d : Int) := fun x hx => (List.mem_append.1 hx).elim (fun h' => (h.yes x h').2) (fun h' => (h.no x h').2)
  refine ⟨h1, ?_, fun x hx hn => ?_⟩
  · have h2 := sumLen_le (k := 4) fun w hw => (h1 w hw).1
    have h3 := h.len
    rw [List.length_append] at h2
    omega
  · have h2 := (h.yes x hx).1
    rw [(h.no x hn).1] at h2
    cases h2
/-- the rows of words, read -/
theorem TwoW.slY {w : World} {base : Nat} {A : Option Addr} {n c : Nat} {vn : Value} {ys ns : List (List Int)} (h : TwoW w base (.slice A n c) vn ys ns) : Sl RIV w (fun b => base ≤ b) A n c ys := by
  obtain ⟨xs, ho, hc⟩ := h.oy
  obtain ⟨A', c', e, hc', _⟩ := ho.form
  injection e with e1 e2 e3
  subst e1 e2 e3
  exact ⟨xs, rfl, hc', ho.rd, hc.more fun b hb => hb.1⟩
theorem TwoW.slN {w : World} {base : Nat} {A : Option Addr} {n c : Nat} {vy : Value} {ys ns : List (List Int)} (h : TwoW w base vy (.slice A n c) ys ns) : Sl RIV w (fun b => base ≤ b) A n c ns := h.swap.slY
theorem mergeOfI (w : World) (TI : Int) (T : Nat) (hTI : TI = (T : Int)) (hT1 : 1 ≤ T) (hT2 : T ≤ 16) (S1 : Nat → Prop) (A1 : Option Addr) (n1 c1 : Nat) (yes : List (List Int)) (hy : Sl RIV w S1 A1 n1 c1 yes) (S2 : Nat → Prop) (A2 : Option Addr) (n2 c2 : Nat) (no : List (List Int)) (hno : Sl RIV w S2 A2 n2 c2 no)
    (h12 : n1 + n2 ≤ 40) (hws : ∀ x ∈ yes ++ no, x.length ≤ 12 ∧ ∀ y ∈ x, 0 ≤ y ∧ y < (T : Int)) (hsum : 1 + sumLen (yes ++ no) ≤ 200) (hd : ∀ x ∈ yes, x ∉ no) :
    Calls Try.prog 34 #[.int .i64 TI, .slice A1 n1 c1, .slice A2 n2 c2] w fun e w' => OfM T yes no w.heap.size e w' ∧ Below w.heap.size w w' := by
  subst hTI
  exact mergeOf w T hT1 hT2 S1 A1 n1 c1 yes hy S2 A2 n2 c2 no hno h12 hws hsum hd
/-- the examples [[0]], [[]] as they are written down -/
theorem lit_wordsM {w : World} : Sl RIV ((((w.alloc (.cells #[.int .i64 0] 3)).alloc (.cells #[.slice (some ⟨w.heap.size, 0, none⟩) 1 1] 22)).alloc (.cells #[] 3)).alloc (.cells #[.slice (some ⟨w.heap.size + 1 + 1, 0, none⟩) 0 0] 22)) (fun _ => True) (some ⟨w.heap.size + 1, 0, none⟩) 1 1 [[0]] ∧
    Sl RIV ((((w.alloc (.cells #[.int .i64 0] 3)).alloc (.cells #[.slice (some ⟨w.heap.size, 0, none⟩) 1 1] 22)).alloc (.cells #[] 3)).alloc (.cells #[.slice (some ⟨w.heap.size + 1 + 1, 0, none⟩) 0 0] 22)) (fun _ => True) (some ⟨w.heap.size + 1 + 1 + 1, 0, none⟩) 1 1 [[]] := by
  have e0 : (w.alloc (.cells #[.int .i64 0] 3)).heap[w.heap.size]? = some (.cells #[.int .i64 0] 3 (0, 0)) := heap_alloc_new _ _
  have k0 : (w.alloc (.cells #[.int .i64 0] 3)).cell? ⟨w.heap.size, 0, none⟩ = some (.int .i64 0) := by simp only [World.cell?, e0]; rfl
  have e1 : ((w.alloc (.cells #[.int .i64 0] 3)).alloc (.cells #[.slice (some ⟨w.heap.size, 0, none⟩) 1 1] 22)).heap[w.heap.size + 1]? = some (.cells #[.slice (some ⟨w.heap.size, 0, none⟩) 1 1] 22 (0, 0)) := heap_new _ _ _ (by simp)
  have k1 : ((w.alloc (.cells #[.int .i64 0] 3)).alloc (.cells #[.slice (some ⟨w.heap.size, 0, none⟩) 1 1] 22)).cell? ⟨w.heap.size + 1, 0, none⟩ = some (.slice (some ⟨w.heap.size, 0, none⟩) 1 1) := by simp only [World.cell?, e1]; rfl
  have hw : Sl Rep.int (w.alloc (.cells #[.int .i64 0] 3)) (fun _ => True) (some ⟨w.heap.size, 0, none⟩) 1 1 [0] := by
    refine Rd.slInts ⟨rfl, fun _ => ⟨_, 0, rfl, trivial, fun j u hj => ?_⟩⟩ (Nat.le_refl _)
    match j, hj with
    | 0, hj => injection hj with hj; subst hj; exact k0
  have hy : Sl RIV ((w.alloc (.cells #[.int .i64 0] 3)).alloc (.cells #[.slice (some ⟨w.heap.size, 0, none⟩) 1 1] 22)) (fun _ => True) (some ⟨w.heap.size + 1, 0, none⟩) 1 1 [[0]] := by
    refine ⟨[.slice (some ⟨w.heap.size, 0, none⟩) 1 1], rfl, Nat.le_refl _, ⟨rfl, fun _ => ⟨_, 0, rfl, trivial, fun j u hj => ?_⟩⟩, Cells.single ⟨_, _, _, rfl, hw.alloc _⟩⟩
    match j, hj with
    | 0, hj => injection hj with hj; subst hj; exact k1
  refine ⟨(hy.alloc _).alloc _, ?_⟩
  have e3 : ((((w.alloc (.cells #[.int .i64 0] 3)).alloc (.cells #[.slice (some ⟨w.heap.size, 0, none⟩) 1 1] 22)).alloc (.cells #[] 3)).alloc (.cells #[.slice (some ⟨w.heap.size + 1 + 1, 0, none⟩) 0 0] 22)).heap[w.heap.size + 1 + 1 + 1]? = some (.cells #[.slice (some ⟨w.heap.size + 1 + 1, 0, none⟩) 0 0] 22 (0, 0)) := heap_new _ _ _ (by simp)
  refine ⟨[.slice (some ⟨w.heap.size + 1 + 1, 0, none⟩) 0 0], rfl, Nat.le_refl _, ⟨rfl, fun _ => ⟨_, 0, rfl, trivial, fun j u hj => ?_⟩⟩, Cells.single ⟨_, _, _, rfl, Sl.nil _ _ _ _⟩⟩
  match j, hj with
  | 0, hj => injection hj with hj; subst hj; simp only [World.cell?, e3]; rfl
end Go.Proofs.Ytgaahpddlohjoaa
