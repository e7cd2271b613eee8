/- merge.start: the machine of all beginnings of words. -/
import Derived.Test.YtgaahpddlohjoaaSortW
import Derived.Test.YtgaahpddlohjoaaMach
import Derived.Test.YtgaahpddlohjoaaMergeM
import Derived.Test.YtgaahpddlohjoaaRepeat
import Derived.Test.YtgaahpddlohjoaaCatW
import Derived.Test.YtgaahpddlohjoaaSlIdxW
import Derived.Test.YtgaahpddlohjoaaLate
import Derived.Laws.EntriesVeiled
import Derived.Deep.LoopGhost
import Derived.Deep.CutBlock
namespace Go.Proofs.Ytgaahpddlohjoaa
open Go.RowKit

abbrev intsOf (l : List Int) : List Value := l.map (Value.int .i64)
/-- i states are made -/
structure StSt (w : World) (Bx T n : Nat) (vI vM : Value) (i : Nat) (vN : Value) (adr : List (Nat × Nat)) (wr : World) : Prop where
  blk : wr.heap[Bx]? = some (.cells #[vI, vN, vM] 132 (0, 0))
  I : Own wr w.heap.size 3 1 vI i (intsOf (natI (List.range i)))
  M : Own wr w.heap.size 3 1 vM n (intsOf (natI (List.replicate n 0)))
  N : NextW wr w.heap.size (fun b => b = Bx ∨ rowOf vI = some b ∨ rowOf vM = some b) T vN adr (List.replicate i (List.replicate T (-1)))
  bel : Below w.heap.size w wr
  bx : w.heap.size ≤ Bx
  nI : rowOf vI ≠ some Bx
  nM : rowOf vM ≠ some Bx
  im : ∀ g, rowOf vI = some g → rowOf vM ≠ some g
/-- the first append is done, not stored yet -/
structure StMid (w : World) (Bx T n : Nat) (vI vM : Value) (i : Nat) (vN : Value) (adr : List (Nat × Nat)) (vI' : Value) (wr : World) : Prop where
  blk : wr.heap[Bx]? = some (.cells #[vI, vN, vM] 132 (0, 0))
  I : Own wr w.heap.size 3 1 vI' (i + 1) (intsOf (natI (List.range (i + 1))))
  M : Own wr w.heap.size 3 1 vM n (intsOf (natI (List.replicate n 0)))
  N : NextW wr w.heap.size (fun b => b = Bx ∨ rowOf vI' = some b ∨ rowOf vM = some b) T vN adr (List.replicate i (List.replicate T (-1)))
  bel : Below w.heap.size w wr
  bx : w.heap.size ≤ Bx
  nI : rowOf vI' ≠ some Bx
  nM : rowOf vM ≠ some Bx
  im : ∀ g, rowOf vI' = some g → rowOf vM ≠ some g
section
variable {w : World} {Bx T n : Nat} {vI vM : Value} {i : Nat} {vN : Value} {adr : List (Nat × Nat)} {vI' : Value} {wr : World}
theorem StSt.cell (h : StSt w Bx T n vI vM i vN adr wr) : wr.cell? ⟨Bx, 0, none⟩ = some vI ∧ wr.frozen? ⟨Bx, 0, none⟩ = false ∧ wr.cell? ⟨Bx, 1, none⟩ = some vN ∧ wr.frozen? ⟨Bx, 1, none⟩ = false := by simp [World.cell?, World.frozen?, h.blk]
theorem StMid.cell (h : StMid w Bx T n vI vM i vN adr vI' wr) : wr.cell? ⟨Bx, 0, none⟩ = some vI ∧ wr.frozen? ⟨Bx, 0, none⟩ = false ∧ wr.cell? ⟨Bx, 1, none⟩ = some vN ∧ wr.frozen? ⟨Bx, 1, none⟩ = false := by simp [World.cell?, World.frozen?, h.blk]
theorem StSt.lt (h : StSt w Bx T n vI vM i vN adr wr) : Bx < wr.heap.size := (Array.getElem?_eq_some_iff.1 h.blk).1
theorem StMid.lt (h : StMid w Bx T n vI vM i vN adr vI' wr) : Bx < wr.heap.size := (Array.getElem?_eq_some_iff.1 h.blk).1
theorem StSt.below (h : StSt w Bx T n vI vM i vN adr wr) {w' : World} (hb : Below wr.heap.size wr w') : StSt w Bx T n vI vM i vN adr w' :=
  ⟨(hb.block _ h.lt).trans h.blk, h.I.below hb (Nat.le_refl _), h.M.below hb (Nat.le_refl _), h.N.below hb, h.bel.trans (hb.mono h.bel.size), h.bx, h.nI, h.nM, h.im⟩
theorem StMid.below (h : StMid w Bx T n vI vM i vN adr vI' wr) {w' : World} (hb : Below wr.heap.size wr w') : StMid w Bx T n vI vM i vN adr vI' w' :=
  ⟨(hb.block _ h.lt).trans h.blk, h.I.below hb (Nat.le_refl _), h.M.below hb (Nat.le_refl _), h.N.below hb, h.bel.trans (hb.mono h.bel.size), h.bx, h.nI, h.nM, h.im⟩
/-- the first append -/
theorem StSt.pushI (h : StSt w Bx T n vI vM i vN adr wr) {H : Nat} (hr : Rd wr (fun _ => True) 1 (some ⟨H, 0, none⟩) 1 [.int .i64 (i : Int)]) (hi : i ≤ 100000) :
    ∃ A' c' w', (Builtin.append_ #[22, 22] 22 #[vI, .slice (some ⟨H, 0, none⟩) 1 1]).run Try.prog wr = .ok (.slice A' (i + 1) c') w' ∧ StMid w Bx T n vI vM i vN adr (.slice A' (i + 1) c') w' ∧ wr.grownBy w' (rowOf vI) := by
  have hsz := h.bel.size
  obtain ⟨v', w', hrun, ho, hg, hrow⟩ := run_append_Own tInts wr 22 w.heap.size vI i _ h.I _ _ 1 1 _ hr (by intro u hu; obtain rfl := List.mem_singleton.1 hu; rfl) (by unfold maxLen; omega) (by omega) hsz
  obtain ⟨A', c', rfl, _, _⟩ := ho.form
  have hnx := h.N.nx
  have hz := hg.size
  have hrX : ∀ b, b < wr.heap.size → rowOf vI ≠ some b → rowOf (.slice A' (i + 1) c') ≠ some b := fun b hb h1 h2 => by
    rcases hrow with e | e
    · rw [e] at h2; exact h1 h2
    · rw [e] at h2; injection h2 with h2; omega
  have hk := h.N.kept hg fun g e => ⟨fun e' => hnx g e' (.inr (.inl e)), fun p hp e' => by
    obtain ⟨j, hj⟩ := List.mem_iff_getElem?.1 hp
    obtain ⟨r, _, _, _, _, _, _, h7⟩ := h.N.row j p hj
    exact h7 (.inr (.inl (by rw [e']; exact e)))⟩
  refine ⟨A', c', w', hrun, ⟨(hg.block Bx h.lt (fun e => h.nI e.symm)).trans h.blk, ?_, h.M.kept hg fun g e e' => h.im g e e', ?_, Below.own h.bel h.I hg (Nat.le_refl _) hsz, h.bx, hrX Bx h.lt h.nI, h.nM, fun g e e' => ?_⟩, hg⟩
  · rw [List.range_succ]
    show Own _ _ _ _ _ _ (List.map _ (List.map _ (List.range i ++ [i])))
    rw [List.map_append, List.map_append]
    exact ho
  · refine ⟨hk.own, hk.len, fun j p hp => ?_, hk.dis, fun g e hx => ?_⟩
    · obtain ⟨r, k1, k2, k3, k4, k5, k6, k7⟩ := hk.row j p hp
      refine ⟨r, k1, k2, k3, k4, k5, k6, fun hx => ?_⟩
      obtain ⟨r0, _, _, q3, _⟩ := h.N.row j p hp
      rcases hx with e | e | e
      · exact k7 (.inl e)
      · exact hrX p.1 q3.lt (fun e' => k7 (.inr (.inl e'))) e
      · exact k7 (.inr (.inr e))
    · rcases hx with e' | e' | e'
      · exact hnx g e (.inl e')
      · exact hrX g (h.N.own.row e).2 (fun e2 => hnx g e (.inr (.inl e2))) e'
      · exact hnx g e (.inr (.inr e'))
  · have hlt := (h.M.row e').2
    exact hrX g hlt (fun e2 => h.im g e2 e') e
/-- the second append, and both stores -/
theorem StMid.pushN (h : StMid w Bx T n vI vM i vN adr vI' wr) {g c : Nat} {w5 : World} (hb5 : Below wr.heap.size wr w5) (hr : RowI w5 g (List.replicate T (-1))) (hc : T ≤ c) (hg : wr.heap.size ≤ g) (hi : i ≤ 100000) :
    ∃ A' c' w', (Builtin.append_ #[23, 23] 23 #[vN, .slice (some ⟨w5.heap.size, 0, none⟩) 1 1]).run Try.prog (w5.alloc (.cells #[.slice (some ⟨g, 0, none⟩) T c] 22)) = .ok (.slice A' (i + 1) c') w' ∧
      w'.cell? ⟨Bx, 0, none⟩ = some vI ∧ w'.frozen? ⟨Bx, 0, none⟩ = false ∧ w'.cell? ⟨Bx, 1, none⟩ = some vN ∧ w'.frozen? ⟨Bx, 1, none⟩ = false ∧
      StSt w Bx T n vI' vM (i + 1) (.slice A' (i + 1) c') (adr ++ [(g, c)]) ((w'.setCell ⟨Bx, 0, none⟩ vI').setCell ⟨Bx, 1, none⟩ (.slice A' (i + 1) c')) := by
  have h5 := h.below hb5
  have hs5 := hb5.size
  have hsz := h.bel.size
  have hlt := h.lt
  have hal : adr.length = i := by have := h.N.len; simpa using this
  have hXlt : ∀ b, (b = Bx ∨ rowOf vI' = some b ∨ rowOf vM = some b) → b < wr.heap.size := fun b hb => by
    rcases hb with e | e | e
    · omega
    · exact (h.I.row e).2
    · exact (h.M.row e).2
  obtain ⟨v', w', hrun, hN, hg', hb', hv'⟩ := h5.N.push (p := (g, c)) hr (by simp) hc (by show _ ≤ g; omega)
    (fun e => by have := (h.N.own.row e).2; omega) (fun e => by have := hXlt g e; omega) (fun q hq => by
      obtain ⟨j, hj⟩ := List.mem_iff_getElem?.1 hq
      obtain ⟨r', _, _, h3, _⟩ := h.N.row j q hj
      have := h3.lt
      show q.1 ≠ g
      omega) (fun b hb => by have := hXlt b hb; omega) (by omega) (by omega)
  obtain ⟨A', c', ev', _⟩ := hN.form
  rw [List.length_append, hal] at ev'
  change v' = .slice A' (i + 1) c' at ev'
  subst ev'
  have hz := hg'.size
  rw [World.size_alloc] at hz
  have hnx := h.N.nx
  have hbx' : w'.heap[Bx]? = some (.cells #[vI, vN, vM] 132 (0, 0)) := ((hg'.block Bx (by simp; omega) (fun e => hnx Bx e.symm (.inl rfl))).trans (Below.heap_alloc w5 _ Bx (by omega))).trans h5.blk
  obtain ⟨w2, hw2⟩ : ∃ w2, w2 = w'.setCell ⟨Bx, 0, none⟩ vI' := ⟨_, rfl⟩
  have hbx2 : w2.heap[Bx]? = some (.cells #[vI', vN, vM] 132 (0, 0)) := by
    have := blk_set hbx' 0 vI'
    rw [hw2]
    simpa using this
  have hg2 : w'.grownBy (w2.setCell ⟨Bx, 1, none⟩ (.slice A' (i + 1) c')) (some Bx) := by rw [hw2]; exact (set_grown (Bd := Bx) w' 0 vI').trans (set_grown (Bd := Bx) _ 1 _)
  have ho : ∀ {v : Value} {m : Nat} {ys : List Value}, (∀ b, rowOf v = some b → (b = Bx ∨ rowOf vI' = some b ∨ rowOf vM = some b)) → rowOf v ≠ some Bx → Own w5 w.heap.size 3 1 v m ys → Own (w2.setCell ⟨Bx, 1, none⟩ (.slice A' (i + 1) c')) w.heap.size 3 1 v m ys := fun {v m ys} hv hvb hown =>
    ((hown.alloc _).kept hg' fun g' e ev => hnx g' e (hv g' ev)).kept hg2 fun g' e ev => hvb (by rw [ev]; exact e.symm)
  refine ⟨A', c', w', hrun, by simp [World.cell?, hbx'], by simp [World.frozen?, hbx'], by simp [World.cell?, hbx'], by simp [World.frozen?, hbx'], ?_⟩
  rw [← hw2]
  refine ⟨?_, ho (fun b e => .inr (.inl e)) h.nI h5.I, ho (fun b e => .inr (.inr e)) h.nM h5.M, ?_, ?_, h.bx, h.nI, h.nM, h.im⟩
  · have := blk_set hbx2 1 (.slice A' (i + 1) c')
    simpa using this
  · rw [List.replicate_succ']
    refine NextW.kept hN hg2 fun g' e => ?_
    injection e with e
    subst e
    refine ⟨fun e => hN.nx _ e (.inl rfl), fun p hp e => ?_⟩
    obtain ⟨j, hj⟩ := List.mem_iff_getElem?.1 hp
    obtain ⟨r', _, _, _, _, _, _, h7⟩ := hN.row j p hj
    exact h7 (.inl e)
  · rw [hw2]
    exact ((h5.bel.trans hb').setCell h.bx _).setCell h.bx _
end
theorem posW_iff {L : List (List Int)} (hd : L.Nodup) {i : Nat} {u : List Int} (hi : L[i]? = some u) (x : List Int) : posW L x = i ↔ x = u := by
  constructor
  · intro e
    have hlt : posW L x < L.length := by rw [e]; exact (List.getElem?_eq_some_iff.1 hi).1
    have h1 := posW_at hlt
    rw [e, hi] at h1
    injection h1 with h1
    exact h1.symm
  · rintro rfl; exact posW_of hd hi
theorem nextW_zero (L : List (List Int)) (T : Nat) : nextW L T 0 = List.replicate L.length (List.replicate T (-1)) := by
  unfold nextW
  have e1 : ∀ s, ((List.range T).map fun c => cellW L 0 s c) = List.replicate T (-1) := fun s => by
    apply List.ext_getElem?
    intro c
    rw [List.getElem?_map, List.getElem?_replicate]
    by_cases h : c < T
    · rw [List.getElem?_range h, if_pos h]
      show some (cellW L 0 s c) = _
      unfold cellW
      rw [if_neg (by omega)]
    · rw [List.getElem?_eq_none (by simp; omega), if_neg h]; rfl
  apply List.ext_getElem?
  intro s
  rw [List.getElem?_map, List.getElem?_replicate]
  by_cases h : s < L.length
  · rw [List.getElem?_range h, if_pos h]
    show some ((List.range T).map fun c => cellW L 0 s c) = _
    rw [e1]
  · rw [List.getElem?_eq_none (by simp; omega), if_neg h]; rfl
theorem cellW_succ {L : List (List Int)} (hd : L.Nodup) {i : Nat} {u : List Int} (hi : L[i]? = some u) (s c : Nat) : cellW L (i + 1) s c = if wAt L s ++ [(c : Int)] = u then (i : Int) else cellW L i s c := by
  have h := posW_iff hd hi (wAt L s ++ [(c : Int)])
  unfold cellW
  by_cases e : wAt L s ++ [(c : Int)] = u
  · have h1 := h.2 e
    rw [if_pos e, h1, if_pos (by omega)]
  · have h1 : posW L (wAt L s ++ [(c : Int)]) ≠ i := fun e' => e (h.1 e')
    rw [if_neg e]
    by_cases h2 : posW L (wAt L s ++ [(c : Int)]) < i
    · rw [if_pos h2, if_pos (by omega)]
    · rw [if_neg h2, if_neg (by omega)]
theorem nextW_nil {L : List (List Int)} (hd : L.Nodup) {i T : Nat} (hi : L[i]? = some []) : nextW L T (i + 1) = nextW L T i := by
  unfold nextW
  refine List.map_congr_left fun s _ => List.map_congr_left fun c _ => ?_
  rw [cellW_succ hd hi, if_neg (by simp)]
theorem nextW_step {L : List (List Int)} (hd : L.Nodup) {i s c T : Nat} {v : List Int} (hi : L[i]? = some (v ++ [(c : Int)])) (hs : L[s]? = some v) (hc : c < T) :
    (nextW L T i).set s (((nextW L T i)[s]?.getD []).set c (i : Int)) = nextW L T (i + 1) := by
  have hsl := (List.getElem?_eq_some_iff.1 hs).1
  have hrow := nextW_row L T i hsl
  have hlen : ∀ k, (nextW L T k).length = L.length := fun k => by simp [nextW]
  apply List.ext_getElem?
  intro s'
  by_cases hs' : s' < L.length
  · rw [nextW_row L T (i + 1) hs']
    by_cases e : s = s'
    · subst e
      rw [List.getElem?_set_self (by rw [hlen]; exact hsl), hrow]
      simp only [Option.getD_some]
      congr 1
      apply List.ext_getElem?
      intro c'
      by_cases hc' : c' < T
      · rw [List.getElem?_map, List.getElem?_range hc']
        show _ = some (cellW L (i + 1) s c')
        rw [cellW_succ hd hi, wAt_of hs]
        by_cases e2 : c = c'
        · subst e2
          rw [List.getElem?_set_self (by simpa using hc), if_pos rfl]
        · rw [List.getElem?_set_ne e2, List.getElem?_map, List.getElem?_range hc', if_neg (fun e3 => e2 (by
            have h1 := List.append_cancel_left e3
            simp only [List.cons.injEq, and_true] at h1
            omega))]
          rfl
      · rw [List.getElem?_eq_none (by simp; omega), List.getElem?_eq_none (by simp; omega)]
    · rw [List.getElem?_set_ne e, nextW_row L T i hs']
      congr 1
      refine List.map_congr_left fun c' _ => ?_
      rw [cellW_succ hd hi, if_neg (fun e3 => e ?_)]
      have h1 : L[s']? = some (wAt L s') := by unfold wAt; rw [List.getElem?_eq_getElem hs']; rfl
      have h2 : wAt L s' = v := (List.append_inj e3 (by
        have := congrArg List.length e3
        simpa using this)).1
      rw [h2] at h1
      exact (posW_of hd hs).symm.trans (posW_of hd h1)
  · rw [List.getElem?_eq_none (by rw [List.length_set, hlen]; omega), List.getElem?_eq_none (by rw [hlen]; omega)]
theorem markW_or1 {ys ns : List (List Int)} {w v : List Int} : markW (ys ++ [w]) ns v = if v = w then markW ys ns v ||| 1 else markW ys ns v := by
  unfold markW
  by_cases e : v = w
  · subst e
    rw [if_pos rfl, if_pos (by simp)]
    by_cases h1 : v ∈ ys
    · by_cases h2 : v ∈ ns
      · rw [if_pos h1, if_pos h2]; rfl
      · rw [if_pos h1, if_neg h2]; rfl
    · by_cases h2 : v ∈ ns
      · rw [if_neg h1, if_pos h2]; rfl
      · rw [if_neg h1, if_neg h2]; rfl
  · rw [if_neg e]
    have : (v ∈ ys ++ [w]) = (v ∈ ys) := by simp [e]
    simp only [this]
theorem markW_or2 {ys ns : List (List Int)} {w v : List Int} : markW ys (ns ++ [w]) v = if v = w then markW ys ns v ||| 2 else markW ys ns v := by
  unfold markW
  by_cases e : v = w
  · subst e
    rw [if_pos rfl]
    have : (v ∈ ns ++ [v]) = True := by simp
    simp only [this, if_true]
    by_cases h1 : v ∈ ys
    · by_cases h2 : v ∈ ns
      · rw [if_pos h1, if_pos h2]; rfl
      · rw [if_pos h1, if_neg h2]; rfl
    · by_cases h2 : v ∈ ns
      · rw [if_neg h1, if_pos h2]; rfl
      · rw [if_neg h1, if_neg h2]; rfl
  · rw [if_neg e]
    have : (v ∈ ns ++ [w]) = (v ∈ ns) := by simp [e]
    simp only [this]
theorem setMark_map {L : List (List Int)} (hd : L.Nodup) {w : List Int} (hw : w ∈ L) {f f' : List Int → Nat} (hf : ∀ v, f' v = if v = w then f' w else f v) : (L.map f).set (posW L w) (f' w) = L.map f' := by
  have hp := posW_mem hw
  have hat := posW_at hp
  apply List.ext_getElem?
  intro i
  by_cases e : posW L w = i
  · subst e
    rw [List.getElem?_set_self (by simpa using hp), List.getElem?_map, hat]
    rfl
  · rw [List.getElem?_set_ne e, List.getElem?_map, List.getElem?_map]
    cases h : L[i]? with
    | none => rfl
    | some v =>
      simp only [Option.map_some]
      rw [hf v, if_neg (fun e2 => e (by rw [← e2]; exact posW_of hd h))]
theorem startM_yes {L : List (List Int)} (hd : L.Nodup) {T : Nat} {ys ns : List (List Int)} {w : List Int} (hw : w ∈ L) : (startM L T ys ns).setMark (posW L w) (markW ys ns w ||| 1) = startM L T (ys ++ [w]) ns := by
  have h := setMark_map hd hw (f := markW ys ns) (f' := markW (ys ++ [w]) ns) fun v => by
    rw [markW_or1, markW_or1, if_pos rfl]
    by_cases e : v = w
    · rw [if_pos e, if_pos e, e]
    · rw [if_neg e, if_neg e]
  rw [show markW (ys ++ [w]) ns w = markW ys ns w ||| 1 by rw [markW_or1, if_pos rfl]] at h
  unfold MM.setMark startM
  dsimp only
  rw [h]
theorem startM_no {L : List (List Int)} (hd : L.Nodup) {T : Nat} {ys ns : List (List Int)} {w : List Int} (hw : w ∈ L) : (startM L T ys ns).setMark (posW L w) (markW ys ns w ||| 2) = startM L T ys (ns ++ [w]) := by
  have h := setMark_map hd hw (f := markW ys ns) (f' := markW ys (ns ++ [w])) fun v => by
    rw [markW_or2, markW_or2, if_pos rfl]
    by_cases e : v = w
    · rw [if_pos e, if_pos e, e]
    · rw [if_neg e, if_neg e]
  rw [show markW ys (ns ++ [w]) w = markW ys ns w ||| 2 by rw [markW_or2, if_pos rfl]] at h
  unfold MM.setMark startM
  dsimp only
  rw [h]
theorem startM_mk {L : List (List Int)} {T : Nat} {ys ns : List (List Int)} {w : List Int} (hw : w ∈ L) : (startM L T ys ns).mk1 (posW L w) = markW ys ns w := by
  unfold MM.mk1 startM
  dsimp only
  rw [List.getElem?_map, posW_at (posW_mem hw)]
  rfl
/-- the machine where the states before i have been put into the rows -/
def midM (L : List (List Int)) (T i : Nat) : MM := ⟨List.range L.length, nextW L T i, List.replicate L.length 0⟩
theorem midM_ok {L : List (List Int)} {T i : Nat} (hn : L.length ≤ 1000) (hi : i ≤ L.length) : (midM L T i).Ok T := by
  refine ⟨by simp [midM, nextW], by simp [midM], fun s => by rw [show (midM L T i).into = List.range L.length from rfl, up_range]; exact Nat.le_refl _, fun r hr => ?_, fun x hx => ?_, by simpa [midM] using hn⟩
  · obtain ⟨s, _, rfl⟩ := List.mem_map.1 hr
    refine ⟨by simp, fun x hx => ?_⟩
    obtain ⟨c, _, rfl⟩ := List.mem_map.1 hx
    rw [show (midM L T i).into.length = L.length by simp [midM]]
    unfold cellW
    split <;> omega
  · have : x = 0 := List.eq_of_mem_replicate hx
    omega
theorem midM_end (L : List (List Int)) (T : Nat) : midM L T L.length = startM L T [] [] := by
  unfold midM startM
  congr 1
  apply List.ext_getElem?
  intro i
  rw [List.getElem?_map, List.getElem?_replicate]
  by_cases h : i < L.length
  · rw [if_pos h, List.getElem?_eq_getElem h]; rfl
  · rw [if_neg h, List.getElem?_eq_none (by omega)]; rfl
set_option maxHeartbeats 1000000 in
theorem eqStart (w : World) (Bw : Nat) (S S' : Nat → Prop) (A : Option Addr) (n c : Nat) (v : List Int) (hv : Sl Rep.int w S A n c v) (A' : Option Addr) (n' c' : Nat) (x : List Int) (hx : Sl Rep.int w S' A' n' c' x) (hn : n ≤ 1000) (hn' : n' ≤ 1000)
    (hB : w.heap[Bw]? = some (.cells #[.slice A' n' c'] 22 (0, 0))) :
    Calls Try.prog 113 #[.slice A n c, .pointer (some ⟨Bw, 0, none⟩)] w fun e w' => e = .returned (.bool (v == x)) ∧ Below w.heap.size w w' := by
  have k0 : w.cell? ⟨Bw, 0, none⟩ = some (.slice A' n' c') := by simp [World.cell?, hB]
  have HV := Lib.hid hv
  have HX := Lib.hid hx
  clear hv hx hB
  go_enter Try.func113, Try.ntmps113
  go_wp2_with fail
  refine (equalInt _ _ _ _ _ _ _ _ v x w HV.out.ints HX.out.ints (by omega) (by omega)).mono ?_
  rintro e w1 ⟨rfl, d, rfl⟩
  go_wp2_with fail
  go_ret
  exact ⟨rfl, drewN_below _ _⟩
theorem tellsStart (w : World) (Bw : Nat) (S' : Nat → Prop) (A' : Option Addr) (n' c' : Nat) (x : List Int) (hx : Sl Rep.int w S' A' n' c' x) (hn' : n' ≤ 1000) (hB : w.heap[Bw]? = some (.cells #[.slice A' n' c'] 22 (0, 0))) :
    TellsW Try.prog w (fun v => v.length ≤ 1000) (fun v => v == x) 113 #[.pointer (some ⟨Bw, 0, none⟩)] := fun u hu v A m c S hs hl =>
  eqStart u Bw S S' A m c v hs A' n' c' x (hx.below hu) (by have := hs.len; omega) hn' ((hu.block _ (heap_lt hB)).trans hB)
theorem entersStart11 : ∀ (args : Array Value) (u : World), (callFunc 113 args).run Try.prog u = .ok (.enter 113 args) u := enters_of Try.func113 (by kernel_rfl) rfl
theorem entersStart1 : ∀ (args : Array Value) (u : World), (callFunc 111 args).run Try.prog u = .ok (.enter 111 args) u := enters_of Try.func111 (by kernel_rfl) rfl
theorem idxA_pos {L : List (List Int)} {x : List Int} (h : x ∈ L) : idxA (fun v => v == x) L = (posW L x : Int) := by
  have h1 := posW_mem h
  have h2 : L.findIdx? (fun v => v == x) = some (posW L x) := by
    rw [List.findIdx?_eq_some_iff_findIdx_eq]
    have e : L.findIdx (fun v => v == x) = posW L x := by
      unfold posW
      congr 1
      funext u
      by_cases h : u = x <;> simp [h]
    exact ⟨h1, e⟩
  unfold idxA
  rw [h2]
set_option maxHeartbeats 1000000 in
theorem startIndex (w : World) (Bl : Nat) (S S' : Nat → Prop) (A : Option Addr) (n c : Nat) (L : List (List Int)) (hL : Sl RIV w S A n c L) (hB : w.cell? ⟨Bl, 0, none⟩ = some (.slice A n c)) (hl : ∀ v ∈ L, v.length ≤ 1000) (hn : n ≤ 1000000)
    (A' : Option Addr) (n' c' : Nat) (x : List Int) (hx : Sl Rep.int w S' A' n' c' x) (hn' : n' ≤ 1000) (hm : x ∈ L) :
    Calls Try.prog 111 #[.slice A' n' c', .pointer (some ⟨Bl, 0, none⟩)] w fun e w' => e = .returned (.int .i64 (posW L x : Int)) ∧ Below w.heap.size w w' := by
  have HLL := Lib.hid (hL.alloc (.cells #[.slice A' n' c'] 22))
  have HX := Lib.hid (hx.alloc (.cells #[.slice A' n' c'] 22))
  have HSM := Lib.hid hl
  have HM := Lib.hid (idxA_pos hm)
  have hlt := cell_lt hB
  have eg := entersStart11
  clear hL hx hl hm
  go_enter Try.func111, Try.ntmps111
  go_wp2_with fail
  refine (indexFnW (w.alloc (.cells #[.slice A' n' c'] 22)) _ _ _ _ A n c _ L entersStart11 (tellsStart (w.alloc (.cells #[.slice A' n' c'] 22)) w.heap.size _ A' n' c' x HX.out hn' (heap_alloc_new w _)) HLL.out HSM.out (by omega)).mono ?_
  rintro e w2 ⟨rfl, hb2⟩
  rw [HM.out]
  have HB2 := Lib.hid ((Below.refl w.heap.size w).alloc (Nat.le_refl _) (.cells #[.slice A' n' c'] 22) |>.trans (hb2.mono (by simp)))
  clear hb2
  go_wp2_with fail
  go_ret
  exact ⟨rfl, HB2.out⟩

theorem run_index_two {w : World} (a b : Value) : (Instr.index 176 (.agg #[a, b]) (.int .i64 0)).run Try.prog w = .ok a w ∧ (Instr.index 176 (.agg #[a, b]) (.int .i64 1)).run Try.prog w = .ok b w := by
  have h : Try.prog.underlying 176 = some (.array 2 23) := by kernel_rfl
  constructor
  · simp [Instr.index, run_underlying h, asIntOf, go_sem]
  · simp [Instr.index, run_underlying h, asIntOf, go_sem]
/-- the machine that start returns -/
def StartR (w : World) (T : Nat) (ys ns : List (List Int)) (e : Ending) (w' : World) : Prop :=
  ∃ (L : List (List Int)) (Bx : Nat) (ad : Adr), e = .returned (.pointer (some ⟨Bx, 0, none⟩)) ∧ PreL L (ys ++ ns) ∧ L.length ≤ 200 ∧ Mach w' Bx ad T (startM L T ys ns) ∧ ad.From Bx (startM L T ys ns).into.length w.heap.size
set_option linter.unusedSimpArgs false in
set_option maxRecDepth 1000000 in
set_option maxHeartbeats 8000000 in
theorem mergeStart (w : World) (T : Nat) (hT1 : 1 ≤ T) (hT2 : T ≤ 16) (S1 : Nat → Prop) (A1 : Option Addr) (n1 c1 : Nat) (yes : List (List Int)) (hy : Sl RIV w S1 A1 n1 c1 yes) (S2 : Nat → Prop) (A2 : Option Addr) (n2 c2 : Nat) (no : List (List Int)) (hno : Sl RIV w S2 A2 n2 c2 no)
    (h12 : n1 + n2 ≤ 40) (hws : ∀ x ∈ yes ++ no, x.length ≤ 12 ∧ ∀ y ∈ x, 0 ≤ y ∧ y < (T : Int)) (hsum : 1 + sumLen (yes ++ no) ≤ 200) :
    Calls Try.prog 69 #[.int .i64 (T : Int), .slice A1 n1 c1, .slice A2 n2 c2] w fun e w' => StartR w T yes no e w' ∧ Below w.heap.size w w' := by
  have HY := Lib.hid hy
  have HN := Lib.hid hno
  have HWS := Lib.hid hws
  have HSUM := Lib.hid hsum
  have h1 : n1 ≤ 40 := by omega
  have h2 : n2 ≤ 40 := by omega
  clear hy hno hws hsum
  go_enter Try.func69, Try.ntmps69
  go_wp2_with fail
  obtain ⟨w1, hw1⟩ : ∃ w1 : World, w1 = w.alloc (.cells #[.slice A1 n1 c1, .slice A2 n2 c2] 23) := ⟨_, rfl⟩
  rw [← hw1]
  have HB1 := Lib.hid (show Below w.heap.size w w1 by rw [hw1]; exact (Below.refl _ _).alloc (Nat.le_refl _) _)
  have hrd : Rd w1 (fun _ => True) 1 (some ⟨w.heap.size, 0, none⟩) 2 [.slice A1 n1 c1, .slice A2 n2 c2] := by
    rw [hw1]
    exact Rd.new w (fun _ => True) 23 [.slice A1 n1 c1, .slice A2 n2 c2] w.heap.size rfl trivial
  have HY1 := Lib.hid (HY.out.below HB1.out)
  have HN1 := Lib.hid (HN.out.below HB1.out)
  obtain ⟨x1, e1, f1, r1, q1⟩ := HY1.out
  obtain ⟨x2, e2, f2, r2, q2⟩ := HN1.out
  clear hw1
  refine (concatW w.heap.size 0 2 (fun _ => True) [⟨A1, n1, c1, x1⟩, ⟨A2, n2, c2, x2⟩] w1 hrd (by
    intro p hp
    rcases List.mem_cons.1 hp with rfl | hp
    · exact ⟨r1.more fun _ _ => trivial, f1, q1.one⟩
    · obtain rfl := List.mem_singleton.1 hp
      exact ⟨r2.more fun _ _ => trivial, f2, q2.one⟩) (by simp) (by simp [partsLen]; omega)).mono ?_
  rintro e w2 ⟨v, rfl, ho, hb2⟩
  rw [show partsLen [⟨A1, n1, c1, x1⟩, ⟨A2, n2, c2, x2⟩] = n1 + n2 by simp [partsLen], show partsAll [⟨A1, n1, c1, x1⟩, ⟨A2, n2, c2, x2⟩] = x1 ++ x2 by simp [partsAll]] at ho
  obtain ⟨A3, c3, rfl, hc3, _⟩ := ho.form
  have hq : Cells RIV w1 (fun _ => True) (x1 ++ x2) (yes ++ no) := (q1.more fun _ _ => trivial).append (q2.more fun _ _ => trivial)
  obtain ⟨n3, hn3⟩ : ∃ n3, n3 = n1 + n2 := ⟨_, rfl⟩
  have HL3 := Lib.hid (show Sl RIV w2 (fun _ => True) A3 n3 c3 (yes ++ no) from ⟨x1 ++ x2, by rw [List.length_append]; omega, by omega, by rw [hn3]; exact ho.rd.more fun _ _ => trivial, hq.keep (.below hb2)⟩)
  have HB2 := Lib.hid (HB1.out.trans (hb2.mono HB1.out.size))
  have hn340 : n3 ≤ 40 := by omega
  rw [← hn3]
  clear ho hq hrd hb2 e1 f1 r1 q1 e2 f2 r2 q2 hc3 hn3
  go_wp2_with fail
  refine (mergePrefixes w2 _ A3 n3 c3 (yes ++ no) HL3.out (by omega) (fun x hx => (HWS.out x hx).1)).mono ?_
  rintro e w3 ⟨⟨g, n, c, L, rfl, hL, hpre⟩, hb3⟩
  have hLlen := hL.len
  have hL200 : n ≤ 200 := by
    have := hpre.len
    have := HSUM.out
    omega
  have hn1 : 1 ≤ n := by
    have := (List.getElem?_eq_some_iff.1 hpre.nil).1
    omega
  have HB3 := Lib.hid (HB2.out.trans (hb3.mono HB2.out.size))
  have HLS := Lib.hid hL
  have HPRE := Lib.hid hpre
  have HLL := Lib.hid hLlen
  clear hb3 hL hpre hLlen
  have hmk := tInts.make rfl n (by omega) (by omega) (w3.alloc (.cells #[.slice (some ⟨g, 0, none⟩) n c] 23))
  simp only [World.size_alloc] at hmk
  go_upto_block 4 with fail
  clear hmk
  obtain ⟨w4, hw4⟩ : ∃ w4 : World, w4 = w3.alloc (.cells #[.slice (some ⟨g, 0, none⟩) n c] 23) := ⟨_, rfl⟩
  rw [← hw4]
  have hz4 : w4.heap.size = w3.heap.size + 1 := by rw [hw4]; simp
  obtain ⟨w5, hw5⟩ : ∃ w5 : World, w5 = (w4.alloc (.cells (madeCells #[.int .i64 0] n) 3)).alloc (.cells #[.slice none 0 0, .slice none 0 0, .slice (some ⟨w3.heap.size + 1, 0, none⟩) n n] 132) := ⟨_, rfl⟩
  rw [← hw5]
  have hz5 : w5.heap.size = w3.heap.size + 3 := by rw [hw5]; simp; omega
  have hb45 : Below w4.heap.size w4 w5 := by rw [hw5]; exact ((Below.refl _ _).alloc (Nat.le_refl _) _).alloc (by simp) _
  have hb34 : Below w3.heap.size w3 w4 := by rw [hw4]; exact (Below.refl _ _).alloc (Nat.le_refl _) _
  have hz3 : w.heap.size ≤ w3.heap.size := HB3.out.size
  obtain ⟨Bx, hBx⟩ : ∃ Bx, Bx = w3.heap.size + 2 := ⟨_, rfl⟩
  obtain ⟨Bl, hBl⟩ : ∃ Bl, Bl = w3.heap.size := ⟨_, rfl⟩
  have hst5 : StSt w4 Bx T n (.slice none 0 0) (.slice (some ⟨w3.heap.size + 1, 0, none⟩) n n) 0 (.slice none 0 0) [] w5 := by
    have hM : Own w5 w4.heap.size 3 1 (.slice (some ⟨w3.heap.size + 1, 0, none⟩) n n) n (intsOf (natI (List.replicate n 0))) := by
      have h1 := made_own w4 w4.heap.size 3 (.int .i64 0) n (Nat.le_refl _) (by unfold maxLen; omega)
      rw [hw5, show intsOf (natI (List.replicate n 0)) = List.replicate n (.int .i64 0) by simp [intsOf, natI]]
      refine .inl (World.ownsRow.alloc ?_ _)
      rw [hz4] at h1 ⊢
      exact h1
    have hrM : rowOf (.slice (some ⟨w3.heap.size + 1, 0, none⟩) n n) = some (w3.heap.size + 1) := by
      obtain ⟨m, rfl⟩ : ∃ m, n = m + 1 := ⟨n - 1, by omega⟩
      rfl
    refine ⟨?_, Own.nil _ _ _ _ _, hM, NextW.nil _ _ _ _, hb45, by omega, (fun e => by cases e), fun e => ?_, (fun g e => by cases e)⟩
    · rw [hw5, hBx]
      exact heap_new _ _ _ (by simp; omega)
    · rw [hrM] at e
      injection e with e
      omega
  have hbl : w4.heap[Bl]? = some (.cells #[.slice (some ⟨g, 0, none⟩) n c] 23 (0, 0)) := by
    rw [hw4, hBl]
    exact heap_alloc_new w3 _
  obtain ⟨vM, hvM⟩ : ∃ vM, vM = Value.slice (some ⟨w3.heap.size + 1, 0, none⟩) n n := ⟨_, rfl⟩
  rw [← hvM] at hst5
  have HST5 := Lib.hid hst5
  have HLS4 := Lib.hid (show ∀ u : World, Below w4.heap.size w4 u → Sl RIV u (fun b => b < w3.heap.size) (some ⟨g, 0, none⟩) n c L from fun u hu => ((HLS.out.fit.below hb34).more fun b hb => hb.2).keep (.belowB hu fun b hb => by omega))
  have HBL := Lib.hid (show ∀ u : World, Below w4.heap.size w4 u → u.cell? ⟨Bl, 0, none⟩ = some (.slice (some ⟨g, 0, none⟩) n c) from fun u hu => by
    have h1 := (hu.block Bl (by omega)).trans hbl
    simp [World.cell?, h1])
  have HB4 := Lib.hid (HB3.out.trans (hb34.mono hz3))
  have HZ := Lib.hid (And.intro hz4 (And.intro hz5 (And.intro hBx hBl)))
  rw [show Value.pointer (some ⟨w3.heap.size + 1 + 1, 0, none⟩) = Value.pointer (some ⟨Bx, 0, none⟩) by rw [hBx], ← hBl]
  have k0 := HBL.out w5 hb45
  have hbl5 : Bl < w5.heap.size := by omega
  have hwz : w.heap.size ≤ w4.heap.size := by omega
  clear hw5 hb45 hst5 hbl hBx hBl hz5 hw4 hb34 hz4 hvM
  go_wp2_with fail
  clear k0
  go_loopg [10, 31] n (fun gk _ v31 wr => ∃ (i : Nat) (vI vN : Value) (adr : List (Nat × Nat)), i ≤ n ∧ gk = n - i ∧ v31 = .int .i64 (i : Int) ∧ StSt w4 Bx T n vI vM i vN adr wr)
  case atStart => exact ⟨0, _, _, _, Nat.zero_le _, rfl, rfl, HST5.out⟩
  case round =>
    obtain ⟨i, vI, vN, adr, hi, hgk, rfl, hst⟩ := hrel
    obtain ⟨w6, rfl⟩ : ∃ w6 : World, w6 = wr := ⟨_, rfl⟩
    have HGK := Lib.hid hgk
    have HST := Lib.hid hst
    clear hgk
    by_cases hlt : i < n
    · obtain ⟨AI, cI, rfl, _⟩ := hst.I.form
      obtain ⟨AN, cN, eN, _⟩ := hst.N.form
      have hal : adr.length = i := by have := hst.N.len; simpa using this
      rw [hal] at eN
      subst eN
      have hltI : (i : Int) < (n : Int) := by omega
      clear hst hal
      go_upto_block 7 with fail
      refine wp_region_late (late := [20, 23]) (S1 := fun _ => True) (S := fun u => u.cell? ⟨Bx, 0, none⟩ = some (.slice AI i cI) ∧ u.cell? ⟨Bx, 1, none⟩ = some (.slice AN i cN)) (by kernel_rfl) ?_
      obtain ⟨w7, hw7⟩ : ∃ w7, w7 = w6.drew := ⟨_, rfl⟩
      have HST7 := Lib.hid (show StSt w4 Bx T n (.slice AI i cI) vM i (.slice AN i cN) adr w7 by rw [hw7]; exact HST.out.below (Below.refl _ _).drew)
      rw [← hw7]
      clear hw7
      have HK := Lib.hid (show ∀ u : World, Below w7.heap.size w7 u → u.cell? ⟨Bx, 0, none⟩ = some (.slice AI i cI) ∧ u.cell? ⟨Bx, 1, none⟩ = some (.slice AN i cN) from fun u hu => by
        have := (HST7.out.below hu).cell
        exact ⟨this.1, this.2.2.1⟩)
      refine wpAnyL_pure (i := 0) rfl (by kernel_rfl) (fun _ _ _ h => h) (Or.inl ⟨by rfl, (fun u hu => by go_simp; try rfl)⟩) trivial (fun _ => (HK.out _ (Below.refl _ _))) ?_
      simp only [Act.put, List.setIfInBounds_toArray, List.set_cons_zero, List.set_cons_succ, List.getElem_toArray, List.getElem_cons_zero, List.getElem_cons_succ]
      refine wpAnyL_pure (i := 1) rfl (by kernel_rfl) (fun _ _ _ h => h) (Or.inl ⟨by rfl, (fun u hu => by go_simp; try rfl)⟩) trivial (fun _ => (HK.out _ (Below.refl _ _))) ?_
      simp only [Act.put, List.setIfInBounds_toArray, List.set_cons_zero, List.set_cons_succ, List.getElem_toArray, List.getElem_cons_zero, List.getElem_cons_succ]
      refine wpAnyL_pure (i := 2) rfl (by kernel_rfl) (fun _ _ _ h => h) (Or.inl ⟨by rfl, (fun u hu => by go_simp; try rfl)⟩) trivial (fun _ => (HK.out _ (Below.refl _ _))) ?_
      simp only [Act.put, List.setIfInBounds_toArray, List.set_cons_zero, List.set_cons_succ, List.getElem_toArray, List.getElem_cons_zero, List.getElem_cons_succ]
      refine wpAnyL_pure (i := 3) rfl (by kernel_rfl) (fun _ _ _ h => h) (Or.inl ⟨by rfl, (fun u hu => by go_simp; try rfl)⟩) trivial (fun _ => (HK.out _ (Below.refl _ _))) ?_
      simp only [Act.put, List.setIfInBounds_toArray, List.set_cons_zero, List.set_cons_succ, List.getElem_toArray, List.getElem_cons_zero, List.getElem_cons_succ]
      refine wpAnyL_pure (i := 4) rfl (by kernel_rfl) (fun _ _ _ h => h) (Or.inl ⟨by rfl, (fun u hu => by go_simp; try rfl)⟩) trivial (fun _ => (HK.out _ (Below.refl _ _))) ?_
      simp only [Act.put, List.setIfInBounds_toArray, List.set_cons_zero, List.set_cons_succ, List.getElem_toArray, List.getElem_cons_zero, List.getElem_cons_succ]
      refine wpAnyL_take (i := 5) rfl (by kernel_rfl) (fun _ _ _ h => h) (Or.inl ⟨by rfl, (fun u hu => by obtain ⟨_, hu1, hu2⟩ := hu; go_simp; try rfl)⟩) trivial (fun _ => (HK.out _ (Below.refl _ _))) ?_
      simp only [Act.put, List.setIfInBounds_toArray, List.set_cons_zero, List.set_cons_succ, List.getElem_toArray, List.getElem_cons_zero, List.getElem_cons_succ]
      refine wpAnyL_pure (i := 6) rfl (by kernel_rfl) (fun _ _ _ h => h) (Or.inl ⟨by rfl, (fun u hu => by go_simp; try rfl)⟩) trivial (fun _ => (HK.out _ (Below.refl _ _))) ?_
      simp only [Act.put, List.setIfInBounds_toArray, List.set_cons_zero, List.set_cons_succ, List.getElem_toArray, List.getElem_cons_zero, List.getElem_cons_succ]
      refine wpAnyL_pure (i := 9) rfl (by kernel_rfl) (fun _ _ _ h => h) (Or.inl ⟨by rfl, (fun u hu => by go_simp; try rfl)⟩) trivial (fun _ => (HK.out _ (Below.refl _ _))) ?_
      simp only [Act.put, List.setIfInBounds_toArray, List.set_cons_zero, List.set_cons_succ, List.getElem_toArray, List.getElem_cons_zero, List.getElem_cons_succ]
      refine wpAnyL_pure (i := 10) rfl (by kernel_rfl) (fun _ _ _ h => h) (Or.inl ⟨by rfl, (fun u hu => by go_simp; try rfl)⟩) trivial (fun _ => (HK.out _ (Below.refl _ _))) ?_
      simp only [Act.put, List.setIfInBounds_toArray, List.set_cons_zero, List.set_cons_succ, List.getElem_toArray, List.getElem_cons_zero, List.getElem_cons_succ]
      refine wpAnyL_pure (i := 11) rfl (by kernel_rfl) (fun _ _ _ h => h) (Or.inl ⟨by rfl, (fun u hu => by go_simp; try rfl)⟩) trivial (fun _ => (HK.out _ (Below.refl _ _))) ?_
      simp only [Act.put, List.setIfInBounds_toArray, List.set_cons_zero, List.set_cons_succ, List.getElem_toArray, List.getElem_cons_zero, List.getElem_cons_succ]
      refine wpAnyL_take (i := 12) rfl (by kernel_rfl) (fun _ _ _ h => h) (Or.inl ⟨by rfl, (fun u hu => by obtain ⟨_, hu1, hu2⟩ := hu; go_simp; try rfl)⟩) trivial (fun _ => (HK.out _ (Below.refl _ _))) ?_
      simp only [Act.put, List.setIfInBounds_toArray, List.set_cons_zero, List.set_cons_succ, List.getElem_toArray, List.getElem_cons_zero, List.getElem_cons_succ]
      refine wpAnyL_pure (i := 14) rfl (by kernel_rfl) (fun _ _ _ h => h) (Or.inl ⟨by rfl, (fun u hu => by go_simp; try rfl)⟩) trivial (fun _ => (HK.out _ (Below.refl _ _))) ?_
      simp only [Act.put, List.setIfInBounds_toArray, List.set_cons_zero, List.set_cons_succ, List.getElem_toArray, List.getElem_cons_zero, List.getElem_cons_succ]
      refine wpAnyL_ready (rs := [7, 13]) (by kernel_rfl) (by simp) ?_
      refine AllL.cons rfl (fun K hK => ?_) ?_
      · go_simp
        show K _ (w7.alloc (.cells #[.int .i64 (i : Int)] 3))
        obtain ⟨wa1, hwa⟩ : ∃ wa : World, wa = w7.alloc (.cells #[.int .i64 (i : Int)] 3) := ⟨_, rfl⟩
        rw [← hwa]
        have HBwa1 := Lib.hid (show Below w7.heap.size w7 wa1 by rw [hwa]; exact ((Below.refl w7.heap.size w7)).alloc ((Below.refl w7.heap.size w7)).size _)
        have HCwa1 := Lib.hid (show wa1.cell? ⟨w7.heap.size, 0, none⟩ = some (.int .i64 (i : Int)) by rw [hwa, World.cell?_alloc_at _ _ _ _ rfl]; rfl)
        have HZwa1 := Lib.hid (show w7.heap.size ≤ w7.heap.size from (Nat.le_refl _))
        clear hwa
        refine hK.out _ _ trivial (fun _ => (HK.out _ HBwa1.out)) ?_
        clear hK K
        refine wpAnyL_ready (rs := [8, 13]) (by kernel_rfl) (by simp) ?_
        refine AllL.cons rfl (fun K hK => ?_) ?_
        · obtain ⟨A8, c8, w8, hrun, hmid, hg8⟩ := StSt.pushI (wr := wa1) (H := w7.heap.size) (HST7.out.below HBwa1.out) ⟨rfl, fun _ => ⟨w7.heap.size, 0, rfl, trivial, fun j u hu => by
            cases j with
            | zero => simp only [List.getElem?_cons_zero, Option.some.injEq] at hu; subst hu; exact HCwa1.out
            | succ j => simp at hu⟩⟩ (by omega)
          have HRUN8 := Lib.hid hrun
          have HMID := Lib.hid hmid
          have HZ8 := Lib.hid (Nat.le_trans HBwa1.out.size hg8.size)
          have HKM := Lib.hid (show ∀ u : World, Below w8.heap.size w8 u → u.cell? ⟨Bx, 0, none⟩ = some (.slice AI i cI) ∧ u.cell? ⟨Bx, 1, none⟩ = some (.slice AN i cN) from fun u hu => by
            have := (HMID.out.below hu).cell
            exact ⟨this.1, this.2.2.1⟩)
          clear hrun hmid hg8
          refine step_append_run _ (by rfl) _ _ _ _ (by rfl) _ _ (by rfl) (by rfl) _ _ HRUN8.out ?_
          simp only [Act.put, List.setIfInBounds_toArray, List.set_cons_zero, List.set_cons_succ, List.getElem_toArray, List.getElem_cons_zero, List.getElem_cons_succ]
          refine hK.out _ _ trivial (fun _ => (HKM.out _ (Below.refl _ _))) ?_
          clear hK K
          refine wpAnyL_ready (rs := [13]) (by kernel_rfl) (by simp) ?_
          refine AllL.cons rfl (fun K hK => ?_) ?_
          · go_simp
            show K _ (w8.alloc (.cells #[.int .i64 (-1)] 3))
            obtain ⟨wa3, hwa⟩ : ∃ wa : World, wa = w8.alloc (.cells #[.int .i64 (-1)] 3) := ⟨_, rfl⟩
            rw [← hwa]
            have HBwa3 := Lib.hid (show Below w8.heap.size w8 wa3 by rw [hwa]; exact (Below.refl _ _).alloc (Nat.le_refl _) _)
            have HCwa3 := Lib.hid (show wa3.cell? ⟨w8.heap.size, 0, none⟩ = some (.int .i64 (-1)) by rw [hwa, World.cell?_alloc_at _ _ _ _ rfl]; rfl)
            have HZwa3 := Lib.hid (show w7.heap.size ≤ w8.heap.size from HZ8.out)
            clear hwa
            refine hK.out _ _ trivial (fun _ => (HKM.out _ HBwa3.out)) ?_
            clear hK K
            refine wpAnyL_ready (rs := [15]) (by kernel_rfl) (by simp) ?_
            refine AllL.cons rfl (fun K hK => ?_) ?_
            · go_simp
              refine (repeatInt wa3 _ (-1) T (by omega) (by omega) HCwa3.out).mono ?_
              rintro e w15 ⟨u15, rfl, ho15, hb15⟩
              obtain ⟨A15, c15, rfl, _⟩ := ho15.form
              obtain ⟨g15, rfl, hg15, hr15, hc15, _⟩ := ho15.rowI (by omega)
              have HB15 := Lib.hid ((HBwa3.out).trans (hb15.mono (HBwa3.out).size))
              obtain ⟨A17, c17, w17, hrun, hcI, hfI, hcN, hfN, hst17⟩ := HMID.out.pushN HB15.out hr15 hc15 (Nat.le_trans (HBwa3.out).size hg15) (by omega)
              have HRUN17 := Lib.hid hrun
              have HST17 := Lib.hid hst17
              clear ho15 hb15 hg15 hr15 hc15 hrun hst17
              refine hK.out _ _ trivial (fun _ => (HKM.out _ HB15.out)) ?_
              clear hK K
              refine wpAnyL_ready (rs := [16]) (by kernel_rfl) (by simp) ?_
              refine AllL.cons rfl (fun K hK => ?_) ?_
              · go_simp
                refine hK.out _ _ trivial (fun _ => (HKM.out _ (HB15.out.alloc HB15.out.size _))) ?_
                clear hK K
                refine wpAnyL_ready (rs := [17]) (by kernel_rfl) (by simp) ?_
                refine AllL.cons rfl (fun K hK => ?_) ?_
                · refine step_append_run _ (by rfl) _ _ _ _ (by rfl) _ _ (by rfl) (by rfl) _ _ HRUN17.out ?_
                  simp only [Act.put, List.setIfInBounds_toArray, List.set_cons_zero, List.set_cons_succ, List.getElem_toArray, List.getElem_cons_zero, List.getElem_cons_succ]
                  refine hK.out _ _ trivial (fun _ => ⟨hcI, hcN⟩) ?_
                  clear hK K
                  refine wpAnyL_pure (i := 18) rfl (by kernel_rfl) (fun _ _ _ h => h) (Or.inl ⟨by rfl, (fun u hu => by go_simp; try rfl)⟩) trivial (fun _ => ⟨hcI, hcN⟩) ?_
                  simp only [Act.put, List.setIfInBounds_toArray, List.set_cons_zero, List.set_cons_succ, List.getElem_toArray, List.getElem_cons_zero, List.getElem_cons_succ]
                  refine wpAnyL_pure (i := 19) rfl (by kernel_rfl) (fun _ _ _ h => h) (Or.inl ⟨by rfl, (fun u hu => by go_simp; try rfl)⟩) trivial (fun _ => ⟨hcI, hcN⟩) ?_
                  simp only [Act.put, List.setIfInBounds_toArray, List.set_cons_zero, List.set_cons_succ, List.getElem_toArray, List.getElem_cons_zero, List.getElem_cons_succ]
                  refine wpAnyL_ready (rs := [20]) (by kernel_rfl) (by simp) ?_
                  refine AllL.cons rfl (fun K hK => ?_) ?_
                  · have l17 := cell_lt hcI
                    go_simp
                    clear hcI hfI
                    refine hK.out _ _ trivial (fun h => absurd (h 20 (by simp)) (by decide)) ?_
                    clear hK K
                    refine wpAnyL_pure (i := 21) rfl (by kernel_rfl) (fun _ _ _ h => h) (Or.inl ⟨by rfl, (fun u hu => by go_simp; try rfl)⟩) trivial (fun h => absurd (h 20 (by simp)) (by decide)) ?_
                    simp only [Act.put, List.setIfInBounds_toArray, List.set_cons_zero, List.set_cons_succ, List.getElem_toArray, List.getElem_cons_zero, List.getElem_cons_succ]
                    refine wpAnyL_pure (i := 22) rfl (by kernel_rfl) (fun _ _ _ h => h) (Or.inl ⟨by rfl, (fun u hu => by go_simp; try rfl)⟩) trivial (fun h => absurd (h 20 (by simp)) (by decide)) ?_
                    simp only [Act.put, List.setIfInBounds_toArray, List.set_cons_zero, List.set_cons_succ, List.getElem_toArray, List.getElem_cons_zero, List.getElem_cons_succ]
                    refine wpAnyL_ready (rs := [23]) (by kernel_rfl) (by simp) ?_
                    refine AllL.cons rfl (fun K hK => ?_) ?_
                    · have hcN2 : (w17.setCell ⟨Bx, 0, none⟩ (.slice A8 (i + 1) c8)).cell? ⟨Bx, 1, none⟩ = some (.slice AN i cN) := by rw [World.cell?_setCell_other w17 _ _ _ (fun e => by cases e)]; exact hcN
                      have l18 := cell_lt hcN2
                      go_simp
                      clear hcN2 hcN hfN
                      refine hK.out _ _ trivial (fun h => absurd (h 20 (by simp)) (by decide)) ?_
                      clear hK K
                      refine wpAnyL_done (by kernel_rfl) ?_ _
                      go_wp2_with fail
                      go_roundg (n - (i + 1))
                      case measure => rw [HGK.out]; omega
                      case rel => exact ⟨i + 1, _, _, _, by omega, rfl, by go_num, HST17.out⟩
                    exact AllL.nil
                  exact AllL.nil
                exact AllL.nil
              exact AllL.nil
            exact AllL.nil
          exact AllL.nil
        refine AllL.cons rfl (fun K hK => ?_) ?_
        · go_simp
          show K _ (wa1.alloc (.cells #[.int .i64 (-1)] 3))
          obtain ⟨wa9, hwa⟩ : ∃ wa : World, wa = wa1.alloc (.cells #[.int .i64 (-1)] 3) := ⟨_, rfl⟩
          rw [← hwa]
          have HBwa9 := Lib.hid (show Below w7.heap.size w7 wa9 by rw [hwa]; exact (HBwa1.out).alloc (HBwa1.out).size _)
          have HCwa9 := Lib.hid (show wa9.cell? ⟨wa1.heap.size, 0, none⟩ = some (.int .i64 (-1)) by rw [hwa, World.cell?_alloc_at _ _ _ _ rfl]; rfl)
          have C7wa9 := Lib.hid (show wa9.cell? ⟨w7.heap.size, 0, none⟩ = some (.int .i64 (i : Int)) by rw [hwa]; exact Kept.alloc (fun _ => True) _ _ ⟨w7.heap.size, 0, none⟩ _ trivial HCwa1.out)
          have HZwa9 := Lib.hid (show w7.heap.size ≤ wa1.heap.size from HBwa1.out.size)
          clear hwa
          refine hK.out _ _ trivial (fun _ => (HK.out _ HBwa9.out)) ?_
          clear hK K
          refine wpAnyL_ready (rs := [8]) (by kernel_rfl) (by simp) ?_
          refine AllL.cons rfl (fun K hK => ?_) ?_
          · obtain ⟨A8, c8, w8, hrun, hmid, hg8⟩ := StSt.pushI (wr := wa9) (H := w7.heap.size) (HST7.out.below HBwa9.out) ⟨rfl, fun _ => ⟨w7.heap.size, 0, rfl, trivial, fun j u hu => by
              cases j with
              | zero => simp only [List.getElem?_cons_zero, Option.some.injEq] at hu; subst hu; exact C7wa9.out
              | succ j => simp at hu⟩⟩ (by omega)
            have HRUN8 := Lib.hid hrun
            have HMID := Lib.hid hmid
            have HZ8 := Lib.hid (Nat.le_trans HBwa9.out.size hg8.size)
            have C13W8 := Lib.hid (show w8.cell? ⟨wa1.heap.size, 0, none⟩ = some (.int .i64 (-1)) from (World.cell?_of_block (hg8.block wa1.heap.size (cell_lt HCwa9.out) (fun e => by have h1 := (HST7.out.I.row e.symm).2; have h2 := HZwa9.out; omega))).trans HCwa9.out)
            have HKM := Lib.hid (show ∀ u : World, Below w8.heap.size w8 u → u.cell? ⟨Bx, 0, none⟩ = some (.slice AI i cI) ∧ u.cell? ⟨Bx, 1, none⟩ = some (.slice AN i cN) from fun u hu => by
              have := (HMID.out.below hu).cell
              exact ⟨this.1, this.2.2.1⟩)
            clear hrun hmid hg8
            refine step_append_run _ (by rfl) _ _ _ _ (by rfl) _ _ (by rfl) (by rfl) _ _ HRUN8.out ?_
            simp only [Act.put, List.setIfInBounds_toArray, List.set_cons_zero, List.set_cons_succ, List.getElem_toArray, List.getElem_cons_zero, List.getElem_cons_succ]
            refine hK.out _ _ trivial (fun _ => (HKM.out _ (Below.refl _ _))) ?_
            clear hK K
            refine wpAnyL_ready (rs := [15]) (by kernel_rfl) (by simp) ?_
            refine AllL.cons rfl (fun K hK => ?_) ?_
            · go_simp
              refine (repeatInt w8 _ (-1) T (by omega) (by omega) C13W8.out).mono ?_
              rintro e w15 ⟨u15, rfl, ho15, hb15⟩
              obtain ⟨A15, c15, rfl, _⟩ := ho15.form
              obtain ⟨g15, rfl, hg15, hr15, hc15, _⟩ := ho15.rowI (by omega)
              have HB15 := Lib.hid (((Below.refl w8.heap.size w8)).trans (hb15.mono ((Below.refl w8.heap.size w8)).size))
              obtain ⟨A17, c17, w17, hrun, hcI, hfI, hcN, hfN, hst17⟩ := HMID.out.pushN HB15.out hr15 hc15 (Nat.le_trans ((Below.refl w8.heap.size w8)).size hg15) (by omega)
              have HRUN17 := Lib.hid hrun
              have HST17 := Lib.hid hst17
              clear ho15 hb15 hg15 hr15 hc15 hrun hst17
              refine hK.out _ _ trivial (fun _ => (HKM.out _ HB15.out)) ?_
              clear hK K
              refine wpAnyL_ready (rs := [16]) (by kernel_rfl) (by simp) ?_
              refine AllL.cons rfl (fun K hK => ?_) ?_
              · go_simp
                refine hK.out _ _ trivial (fun _ => (HKM.out _ (HB15.out.alloc HB15.out.size _))) ?_
                clear hK K
                refine wpAnyL_ready (rs := [17]) (by kernel_rfl) (by simp) ?_
                refine AllL.cons rfl (fun K hK => ?_) ?_
                · refine step_append_run _ (by rfl) _ _ _ _ (by rfl) _ _ (by rfl) (by rfl) _ _ HRUN17.out ?_
                  simp only [Act.put, List.setIfInBounds_toArray, List.set_cons_zero, List.set_cons_succ, List.getElem_toArray, List.getElem_cons_zero, List.getElem_cons_succ]
                  refine hK.out _ _ trivial (fun _ => ⟨hcI, hcN⟩) ?_
                  clear hK K
                  refine wpAnyL_pure (i := 18) rfl (by kernel_rfl) (fun _ _ _ h => h) (Or.inl ⟨by rfl, (fun u hu => by go_simp; try rfl)⟩) trivial (fun _ => ⟨hcI, hcN⟩) ?_
                  simp only [Act.put, List.setIfInBounds_toArray, List.set_cons_zero, List.set_cons_succ, List.getElem_toArray, List.getElem_cons_zero, List.getElem_cons_succ]
                  refine wpAnyL_pure (i := 19) rfl (by kernel_rfl) (fun _ _ _ h => h) (Or.inl ⟨by rfl, (fun u hu => by go_simp; try rfl)⟩) trivial (fun _ => ⟨hcI, hcN⟩) ?_
                  simp only [Act.put, List.setIfInBounds_toArray, List.set_cons_zero, List.set_cons_succ, List.getElem_toArray, List.getElem_cons_zero, List.getElem_cons_succ]
                  refine wpAnyL_ready (rs := [20]) (by kernel_rfl) (by simp) ?_
                  refine AllL.cons rfl (fun K hK => ?_) ?_
                  · have l17 := cell_lt hcI
                    go_simp
                    clear hcI hfI
                    refine hK.out _ _ trivial (fun h => absurd (h 20 (by simp)) (by decide)) ?_
                    clear hK K
                    refine wpAnyL_pure (i := 21) rfl (by kernel_rfl) (fun _ _ _ h => h) (Or.inl ⟨by rfl, (fun u hu => by go_simp; try rfl)⟩) trivial (fun h => absurd (h 20 (by simp)) (by decide)) ?_
                    simp only [Act.put, List.setIfInBounds_toArray, List.set_cons_zero, List.set_cons_succ, List.getElem_toArray, List.getElem_cons_zero, List.getElem_cons_succ]
                    refine wpAnyL_pure (i := 22) rfl (by kernel_rfl) (fun _ _ _ h => h) (Or.inl ⟨by rfl, (fun u hu => by go_simp; try rfl)⟩) trivial (fun h => absurd (h 20 (by simp)) (by decide)) ?_
                    simp only [Act.put, List.setIfInBounds_toArray, List.set_cons_zero, List.set_cons_succ, List.getElem_toArray, List.getElem_cons_zero, List.getElem_cons_succ]
                    refine wpAnyL_ready (rs := [23]) (by kernel_rfl) (by simp) ?_
                    refine AllL.cons rfl (fun K hK => ?_) ?_
                    · have hcN2 : (w17.setCell ⟨Bx, 0, none⟩ (.slice A8 (i + 1) c8)).cell? ⟨Bx, 1, none⟩ = some (.slice AN i cN) := by rw [World.cell?_setCell_other w17 _ _ _ (fun e => by cases e)]; exact hcN
                      have l18 := cell_lt hcN2
                      go_simp
                      clear hcN2 hcN hfN
                      refine hK.out _ _ trivial (fun h => absurd (h 20 (by simp)) (by decide)) ?_
                      clear hK K
                      refine wpAnyL_done (by kernel_rfl) ?_ _
                      go_wp2_with fail
                      go_roundg (n - (i + 1))
                      case measure => rw [HGK.out]; omega
                      case rel => exact ⟨i + 1, _, _, _, by omega, rfl, by go_num, HST17.out⟩
                    exact AllL.nil
                  exact AllL.nil
                exact AllL.nil
              exact AllL.nil
            exact AllL.nil
          exact AllL.nil
        exact AllL.nil
      refine AllL.cons rfl (fun K hK => ?_) ?_
      · go_simp
        show K _ (w7.alloc (.cells #[.int .i64 (-1)] 3))
        obtain ⟨wa16, hwa⟩ : ∃ wa : World, wa = w7.alloc (.cells #[.int .i64 (-1)] 3) := ⟨_, rfl⟩
        rw [← hwa]
        have HBwa16 := Lib.hid (show Below w7.heap.size w7 wa16 by rw [hwa]; exact ((Below.refl w7.heap.size w7)).alloc ((Below.refl w7.heap.size w7)).size _)
        have HCwa16 := Lib.hid (show wa16.cell? ⟨w7.heap.size, 0, none⟩ = some (.int .i64 (-1)) by rw [hwa, World.cell?_alloc_at _ _ _ _ rfl]; rfl)
        have HZwa16 := Lib.hid (show w7.heap.size ≤ w7.heap.size from (Nat.le_refl _))
        clear hwa
        refine hK.out _ _ trivial (fun _ => (HK.out _ HBwa16.out)) ?_
        clear hK K
        refine wpAnyL_ready (rs := [7]) (by kernel_rfl) (by simp) ?_
        refine AllL.cons rfl (fun K hK => ?_) ?_
        · go_simp
          show K _ (wa16.alloc (.cells #[.int .i64 (i : Int)] 3))
          obtain ⟨wa17, hwa⟩ : ∃ wa : World, wa = wa16.alloc (.cells #[.int .i64 (i : Int)] 3) := ⟨_, rfl⟩
          rw [← hwa]
          have HBwa17 := Lib.hid (show Below w7.heap.size w7 wa17 by rw [hwa]; exact (HBwa16.out).alloc (HBwa16.out).size _)
          have HCwa17 := Lib.hid (show wa17.cell? ⟨wa16.heap.size, 0, none⟩ = some (.int .i64 (i : Int)) by rw [hwa, World.cell?_alloc_at _ _ _ _ rfl]; rfl)
          have C13wa17 := Lib.hid (show wa17.cell? ⟨w7.heap.size, 0, none⟩ = some (.int .i64 (-1)) by rw [hwa]; exact Kept.alloc (fun _ => True) _ _ ⟨w7.heap.size, 0, none⟩ _ trivial HCwa16.out)
          have HZwa17 := Lib.hid (show w7.heap.size ≤ wa16.heap.size from HBwa16.out.size)
          clear hwa
          refine hK.out _ _ trivial (fun _ => (HK.out _ HBwa17.out)) ?_
          clear hK K
          refine wpAnyL_ready (rs := [8]) (by kernel_rfl) (by simp) ?_
          refine AllL.cons rfl (fun K hK => ?_) ?_
          · obtain ⟨A8, c8, w8, hrun, hmid, hg8⟩ := StSt.pushI (wr := wa17) (H := wa16.heap.size) (HST7.out.below HBwa17.out) ⟨rfl, fun _ => ⟨wa16.heap.size, 0, rfl, trivial, fun j u hu => by
              cases j with
              | zero => simp only [List.getElem?_cons_zero, Option.some.injEq] at hu; subst hu; exact HCwa17.out
              | succ j => simp at hu⟩⟩ (by omega)
            have HRUN8 := Lib.hid hrun
            have HMID := Lib.hid hmid
            have HZ8 := Lib.hid (Nat.le_trans HBwa17.out.size hg8.size)
            have C13W8 := Lib.hid (show w8.cell? ⟨w7.heap.size, 0, none⟩ = some (.int .i64 (-1)) from (World.cell?_of_block (hg8.block w7.heap.size (cell_lt C13wa17.out) (fun e => by have h1 := (HST7.out.I.row e.symm).2; have h2 := HZwa16.out; omega))).trans C13wa17.out)
            have HKM := Lib.hid (show ∀ u : World, Below w8.heap.size w8 u → u.cell? ⟨Bx, 0, none⟩ = some (.slice AI i cI) ∧ u.cell? ⟨Bx, 1, none⟩ = some (.slice AN i cN) from fun u hu => by
              have := (HMID.out.below hu).cell
              exact ⟨this.1, this.2.2.1⟩)
            clear hrun hmid hg8
            refine step_append_run _ (by rfl) _ _ _ _ (by rfl) _ _ (by rfl) (by rfl) _ _ HRUN8.out ?_
            simp only [Act.put, List.setIfInBounds_toArray, List.set_cons_zero, List.set_cons_succ, List.getElem_toArray, List.getElem_cons_zero, List.getElem_cons_succ]
            refine hK.out _ _ trivial (fun _ => (HKM.out _ (Below.refl _ _))) ?_
            clear hK K
            refine wpAnyL_ready (rs := [15]) (by kernel_rfl) (by simp) ?_
            refine AllL.cons rfl (fun K hK => ?_) ?_
            · go_simp
              refine (repeatInt w8 _ (-1) T (by omega) (by omega) C13W8.out).mono ?_
              rintro e w15 ⟨u15, rfl, ho15, hb15⟩
              obtain ⟨A15, c15, rfl, _⟩ := ho15.form
              obtain ⟨g15, rfl, hg15, hr15, hc15, _⟩ := ho15.rowI (by omega)
              have HB15 := Lib.hid (((Below.refl w8.heap.size w8)).trans (hb15.mono ((Below.refl w8.heap.size w8)).size))
              obtain ⟨A17, c17, w17, hrun, hcI, hfI, hcN, hfN, hst17⟩ := HMID.out.pushN HB15.out hr15 hc15 (Nat.le_trans ((Below.refl w8.heap.size w8)).size hg15) (by omega)
              have HRUN17 := Lib.hid hrun
              have HST17 := Lib.hid hst17
              clear ho15 hb15 hg15 hr15 hc15 hrun hst17
              refine hK.out _ _ trivial (fun _ => (HKM.out _ HB15.out)) ?_
              clear hK K
              refine wpAnyL_ready (rs := [16]) (by kernel_rfl) (by simp) ?_
              refine AllL.cons rfl (fun K hK => ?_) ?_
              · go_simp
                refine hK.out _ _ trivial (fun _ => (HKM.out _ (HB15.out.alloc HB15.out.size _))) ?_
                clear hK K
                refine wpAnyL_ready (rs := [17]) (by kernel_rfl) (by simp) ?_
                refine AllL.cons rfl (fun K hK => ?_) ?_
                · refine step_append_run _ (by rfl) _ _ _ _ (by rfl) _ _ (by rfl) (by rfl) _ _ HRUN17.out ?_
                  simp only [Act.put, List.setIfInBounds_toArray, List.set_cons_zero, List.set_cons_succ, List.getElem_toArray, List.getElem_cons_zero, List.getElem_cons_succ]
                  refine hK.out _ _ trivial (fun _ => ⟨hcI, hcN⟩) ?_
                  clear hK K
                  refine wpAnyL_pure (i := 18) rfl (by kernel_rfl) (fun _ _ _ h => h) (Or.inl ⟨by rfl, (fun u hu => by go_simp; try rfl)⟩) trivial (fun _ => ⟨hcI, hcN⟩) ?_
                  simp only [Act.put, List.setIfInBounds_toArray, List.set_cons_zero, List.set_cons_succ, List.getElem_toArray, List.getElem_cons_zero, List.getElem_cons_succ]
                  refine wpAnyL_pure (i := 19) rfl (by kernel_rfl) (fun _ _ _ h => h) (Or.inl ⟨by rfl, (fun u hu => by go_simp; try rfl)⟩) trivial (fun _ => ⟨hcI, hcN⟩) ?_
                  simp only [Act.put, List.setIfInBounds_toArray, List.set_cons_zero, List.set_cons_succ, List.getElem_toArray, List.getElem_cons_zero, List.getElem_cons_succ]
                  refine wpAnyL_ready (rs := [20]) (by kernel_rfl) (by simp) ?_
                  refine AllL.cons rfl (fun K hK => ?_) ?_
                  · have l17 := cell_lt hcI
                    go_simp
                    clear hcI hfI
                    refine hK.out _ _ trivial (fun h => absurd (h 20 (by simp)) (by decide)) ?_
                    clear hK K
                    refine wpAnyL_pure (i := 21) rfl (by kernel_rfl) (fun _ _ _ h => h) (Or.inl ⟨by rfl, (fun u hu => by go_simp; try rfl)⟩) trivial (fun h => absurd (h 20 (by simp)) (by decide)) ?_
                    simp only [Act.put, List.setIfInBounds_toArray, List.set_cons_zero, List.set_cons_succ, List.getElem_toArray, List.getElem_cons_zero, List.getElem_cons_succ]
                    refine wpAnyL_pure (i := 22) rfl (by kernel_rfl) (fun _ _ _ h => h) (Or.inl ⟨by rfl, (fun u hu => by go_simp; try rfl)⟩) trivial (fun h => absurd (h 20 (by simp)) (by decide)) ?_
                    simp only [Act.put, List.setIfInBounds_toArray, List.set_cons_zero, List.set_cons_succ, List.getElem_toArray, List.getElem_cons_zero, List.getElem_cons_succ]
                    refine wpAnyL_ready (rs := [23]) (by kernel_rfl) (by simp) ?_
                    refine AllL.cons rfl (fun K hK => ?_) ?_
                    · have hcN2 : (w17.setCell ⟨Bx, 0, none⟩ (.slice A8 (i + 1) c8)).cell? ⟨Bx, 1, none⟩ = some (.slice AN i cN) := by rw [World.cell?_setCell_other w17 _ _ _ (fun e => by cases e)]; exact hcN
                      have l18 := cell_lt hcN2
                      go_simp
                      clear hcN2 hcN hfN
                      refine hK.out _ _ trivial (fun h => absurd (h 20 (by simp)) (by decide)) ?_
                      clear hK K
                      refine wpAnyL_done (by kernel_rfl) ?_ _
                      go_wp2_with fail
                      go_roundg (n - (i + 1))
                      case measure => rw [HGK.out]; omega
                      case rel => exact ⟨i + 1, _, _, _, by omega, rfl, by go_num, HST17.out⟩
                    exact AllL.nil
                  exact AllL.nil
                exact AllL.nil
              exact AllL.nil
            exact AllL.nil
          exact AllL.nil
        exact AllL.nil
      exact AllL.nil
    · obtain rfl : i = n := by omega
      have hltI : ¬ (i : Int) < (i : Int) := by omega
      have hst6 := HST.out
      have hLn : i = L.length := HLL.out
      have hok0 : (midM L T 0).Ok T := midM_ok (by omega) (Nat.zero_le _)
      have hin0 : (midM L T 0).into.length = i := by rw [hLn]; simp [midM]
      obtain ⟨ad, hM6, hF6⟩ := Mach.of (m := midM L T 0) hok0 (by rw [hin0]; omega) hT1 hT2 hst6.blk (by rw [hin0, show (midM L T 0).into = List.range i by rw [hLn]; rfl]; exact hst6.I) (by
        rw [show (midM L T 0).mark = List.replicate i 0 by rw [hLn]; rfl, List.length_replicate]
        exact hst6.M) (by
        rw [show (midM L T 0).next = List.replicate i (List.replicate T (-1)) by rw [hLn]; exact nextW_zero L T]
        exact hst6.N) hst6.bx hst6.nI hst6.nM hst6.im
      rw [hin0] at hF6
      have HM6 := Lib.hid hM6
      have HF6 := Lib.hid hF6
      have HB6 := Lib.hid hst6.bel
      have k0 := HBL.out w6 hst6.bel
      clear hst hst6 hok0 hin0 hM6 hF6 hLn
      go_wp2_with fail
      clear k0
      have eg := entersStart1
      have HND := Lib.hid HPRE.out.nodup
      go_loopg [11, 12, 13, 59] i (fun gk _ _ _ v59 wr => ∃ j : Nat, j ≤ i ∧ gk = i - j ∧ v59 = .int .i64 (j : Int) ∧ Mach wr Bx ad T (midM L T j) ∧ Below w4.heap.size w4 wr)
      case atStart => exact ⟨0, Nat.zero_le _, rfl, rfl, HM6.out, HB6.out⟩
      case round =>
        obtain ⟨j, hj, hgj, rfl, hM7, hB7⟩ := hrel
        obtain ⟨w8, rfl⟩ : ∃ w8 : World, w8 = wr := ⟨_, rfl⟩
        have HGJ := Lib.hid hgj
        have HM7 := Lib.hid hM7
        have HB7 := Lib.hid hB7
        clear hgj hM7 hB7
        by_cases hlj : j < i
        · obtain ⟨b, off, A4, m4, c4, x, eA, hSb, hbl4, hcx, hx, hsx⟩ := word_at (HLS4.out w8 HB7.out) hlj
          injection eA with eA
          injection eA with e1 e2
          subst e1 e2
          rw [Nat.zero_add] at hcx
          have hm4 := hsx.len
          have hxw : ∀ y ∈ x, 0 ≤ y ∧ y < (T : Int) := HPRE.out.rng (fun w hw => (HWS.out w hw).2) (List.mem_of_getElem? hx)
          have hx12 : m4 ≤ 12 := by
            rw [hm4]
            rcases (HPRE.out.mem x).1 (List.mem_of_getElem? hx) with e | ⟨y, hy, hp⟩
            · subst e; simp
            · have h1 := hp.length_le
              have h2 := (HWS.out y hy).1
              omega
          have HX := Lib.hid hx
          have HSX := Lib.hid hsx
          have HM4 := Lib.hid hm4
          have HXW := Lib.hid hxw
          clear hx hsx hm4 hxw
          have hjI : (j : Int) < (i : Int) := by omega
          rcases Nat.eq_zero_or_pos m4 with h0 | h0
          · subst h0
            have hxn : x = [] := List.eq_nil_of_length_eq_zero HM4.out.symm
            go_wp2_with fail
            go_roundg (i - (j + 1))
            case measure => rw [HGJ.out]; omega
            case rel =>
              refine ⟨j + 1, by omega, rfl, by go_num, ?_, HB7.out⟩
              have h1 := HM7.out
              unfold midM at h1 ⊢
              rw [nextW_nil HND.out (by have := HX.out; rw [hxn] at this; exact this)]
              exact h1
          · obtain ⟨mp, rfl⟩ : ∃ mp, m4 = mp + 1 := ⟨m4 - 1, by omega⟩
            obtain ⟨v, y, rfl⟩ : ∃ v y, x = v ++ [y] := ⟨x.dropLast, x.getLast (fun e => by rw [e] at HM4; have := HM4.out; simp at this), (List.dropLast_concat_getLast _).symm⟩
            have hyr := HXW.out y (by simp)
            obtain ⟨yc, rfl⟩ : ∃ yc : Nat, y = (yc : Int) := ⟨y.toNat, by omega⟩
            have hvm : v.length = mp := by have := HM4.out; simp at this; omega
            have hvL : v ∈ L := HPRE.out.pre (List.mem_of_getElem? HX.out)
            have hcyT : yc < T := by omega
            obtain ⟨s, hs⟩ : ∃ s, s = posW L v := ⟨_, rfl⟩
            have hsL := posW_at (posW_mem hvL)
            rw [← hs] at hsL
            have hsn : s < i := by rw [HLL.out]; exact (List.getElem?_eq_some_iff.1 hsL).1
            have hj7 : (midM L T j).into.length = i := by rw [HLL.out]; simp [midM]
            obtain ⟨bx, ox, yy, eA4, _, hyy, hcy⟩ := HSX.out.ints.int_at (k := mp) (by omega)
            subst eA4
            obtain rfl : yy = (yc : Int) := by
              rw [List.getElem?_append_right (by omega), hvm, Nat.sub_self] at hyy
              simpa using hyy.symm
            have hcut : ∀ u : World, (Instr.slice 22 (.slice (some ⟨bx, ox, none⟩) (mp + 1) c4) none (some (.int .i64 (mp : Int))) none).run Try.prog u = .ok (.slice (some ⟨bx, ox, none⟩) mp c4) u := fun u => tInts.hN _ (mp + 1) c4 mp (by have := HSX.out.cap; omega) u
            have HSV := Lib.hid (show Sl Rep.int w8 (fun b => b < w3.heap.size) (some ⟨bx, ox, none⟩) mp c4 v from by
              have h1 := HSX.out.take mp (by omega)
              rwa [show (v ++ [(yc : Int)]).take mp = v by rw [← hvm, List.take_left]] at h1)
            obtain ⟨gs, hgs⟩ : ∃ gs, gs = ad.g s := ⟨_, rfl⟩
            obtain ⟨cs, hcs⟩ : ∃ cs, cs = ad.c s := ⟨_, rfl⟩
            have HK14 := Lib.hid (show ∀ u : World, Below w8.heap.size w8 u → (u.cell? ⟨Bx, 1, none⟩ = some (.slice (some ⟨ad.N, 0, none⟩) i ad.cN) ∧ u.cell? ⟨ad.N, s, none⟩ = some (.slice (some ⟨gs, 0, none⟩) T cs)) ∧ u.cell? ⟨bx, ox + mp, none⟩ = some (.int .i64 (yc : Int)) from fun u hu => by
              have h1 := HM7.out.below hu
              have h2 := h1.cells.2.1
              have h3 := h1.row_ (s := s) (by rw [hj7]; exact hsn)
              rw [hj7] at h2
              rw [hgs, hcs]
              exact ⟨⟨h2, h3⟩, (hu.cell (cell_lt hcy)).trans hcy⟩)
            have HMRW := Lib.hid (show ∀ u : World, Below w8.heap.size w8 u → ∃ z, u.cell? ⟨gs, yc, none⟩ = some z ∧ u.frozen? ⟨gs, yc, none⟩ = false from fun u hu => by
              have h1 := HM7.out.below hu
              have h3 := h1.rows s (by rw [hj7]; exact hsn)
              have h4 := (midM_ok (L := L) (T := T) (i := j) (by have := HLL.out; omega) (by have := HLL.out; omega)).rowAt (a := s) (by rw [hj7]; exact hsn)
              have h5 : ((midM L T j).row s)[yc]? = some (((midM L T j).row s)[yc]'(by rw [h4.2.1]; exact hcyT)) := List.getElem?_eq_getElem _
              rw [hgs]
              exact ⟨_, h3.at_ h5, h3.fr _⟩)
            have hGS := Lib.hid (And.intro hgs (And.intro hs hvm))
            have hyT : (yc : Int) < (T : Int) := by omega
            have hwp : IntKind.i64.wrap (mp : Int) = (mp : Int) := by rw [IntKind.wrap_i64]; omega
            have hmpI : (mp : Int) < (mp : Int) + 1 := by omega
            have hsI : (s : Int) < (i : Int) := by omega
            have HIX := Lib.hid (startIndex w8.drew Bl (fun b => b < w3.heap.size) (fun b => b < w3.heap.size) _ i c L ((HLS4.out w8 HB7.out).drew) (HBL.out w8 HB7.out) (fun z hz => by
              rcases (HPRE.out.mem z).1 hz with e | ⟨y, hy, hp⟩
              · subst e; simp
              · have h1 := hp.length_le
                have h2 := (HWS.out y hy).1
                omega) (by omega) _ mp c4 v HSV.out.drew (by omega) hvL)
            clear hcy hgs hcs hyr hyy hvL
            rw [← hs] at HIX
            clear hs hsL
            go_upto_block 14 with fail
            clear hcx
            refine wp_region_late (late := [19]) (S1 := fun _ => True) (S := fun u => (u.cell? ⟨Bx, 1, none⟩ = some (.slice (some ⟨ad.N, 0, none⟩) i ad.cN) ∧ u.cell? ⟨ad.N, s, none⟩ = some (.slice (some ⟨gs, 0, none⟩) T cs)) ∧ u.cell? ⟨bx, ox + mp, none⟩ = some (.int .i64 (yc : Int))) (by kernel_rfl) ?_
            clear eg
            refine wpAnyL_pure (i := 0) rfl (by kernel_rfl) (fun _ _ _ h => h) (Or.inl ⟨by rfl, (fun u hu => by go_simp; try rfl)⟩) trivial (fun _ => (HK14.out _ (Below.refl _ _).drew)) ?_
            simp only [Act.put, List.setIfInBounds_toArray, List.set_cons_zero, List.set_cons_succ, List.getElem_toArray, List.getElem_cons_zero, List.getElem_cons_succ]
            refine wpAnyL_pure (i := 1) rfl (by kernel_rfl) (fun _ _ _ h => h) (Or.inl ⟨by rfl, (fun u hu => by go_simp; try rfl)⟩) trivial (fun _ => (HK14.out _ (Below.refl _ _).drew)) ?_
            simp only [Act.put, List.setIfInBounds_toArray, List.set_cons_zero, List.set_cons_succ, List.getElem_toArray, List.getElem_cons_zero, List.getElem_cons_succ]
            refine wpAnyL_pure (i := 2) rfl (by kernel_rfl) (fun _ _ _ h => h) (Or.inl ⟨by rfl, (fun u hu => by go_simp; try rfl)⟩) trivial (fun _ => (HK14.out _ (Below.refl _ _).drew)) ?_
            simp only [Act.put, List.setIfInBounds_toArray, List.set_cons_zero, List.set_cons_succ, List.getElem_toArray, List.getElem_cons_zero, List.getElem_cons_succ]
            refine wpAnyL_take (i := 3) rfl (by kernel_rfl) (fun _ _ _ h => h) (Or.inl ⟨by rfl, (fun u hu => by obtain ⟨_, ⟨hu1, hu2⟩, hu3⟩ := hu; go_simp; try rfl)⟩) trivial (fun _ => (HK14.out _ (Below.refl _ _).drew)) ?_
            simp only [Act.put, List.setIfInBounds_toArray, List.set_cons_zero, List.set_cons_succ, List.getElem_toArray, List.getElem_cons_zero, List.getElem_cons_succ]
            refine wpAnyL_pure (i := 4) rfl (by kernel_rfl) (fun _ _ _ h => h) (Or.inl ⟨by rfl, (fun u hu => by go_simp; try rfl)⟩) trivial (fun _ => (HK14.out _ (Below.refl _ _).drew)) ?_
            simp only [Act.put, List.setIfInBounds_toArray, List.set_cons_zero, List.set_cons_succ, List.getElem_toArray, List.getElem_cons_zero, List.getElem_cons_succ]
            refine wpAnyL_pure (i := 5) rfl (by kernel_rfl) (fun _ _ _ h => h) (Or.inl ⟨by rfl, (fun u hu => by go_simp; try rfl)⟩) trivial (fun _ => (HK14.out _ (Below.refl _ _).drew)) ?_
            simp only [Act.put, List.setIfInBounds_toArray, List.set_cons_zero, List.set_cons_succ, List.getElem_toArray, List.getElem_cons_zero, List.getElem_cons_succ]
            refine wpAnyL_pure (i := 6) rfl (by kernel_rfl) (fun _ _ _ h => h) (Or.inl ⟨by rfl, (fun u hu => by go_simp; try rfl)⟩) trivial (fun _ => (HK14.out _ (Below.refl _ _).drew)) ?_
            simp only [Act.put, List.setIfInBounds_toArray, List.set_cons_zero, List.set_cons_succ, List.getElem_toArray, List.getElem_cons_zero, List.getElem_cons_succ]
            refine wpAnyL_pure (i := 7) rfl (by kernel_rfl) (fun _ _ _ h => h) (Or.inl ⟨by rfl, (fun u hu => by go_simp; try rfl)⟩) trivial (fun _ => (HK14.out _ (Below.refl _ _).drew)) ?_
            simp only [Act.put, List.setIfInBounds_toArray, List.set_cons_zero, List.set_cons_succ, List.getElem_toArray, List.getElem_cons_zero, List.getElem_cons_succ]
            refine wpAnyL_pure (i := 8) rfl (by kernel_rfl) (fun _ _ _ h => h) (Or.inl ⟨by rfl, (fun u hu => by go_simp; try rfl)⟩) trivial (fun _ => (HK14.out _ (Below.refl _ _).drew)) ?_
            simp only [Act.put, List.setIfInBounds_toArray, List.set_cons_zero, List.set_cons_succ, List.getElem_toArray, List.getElem_cons_zero, List.getElem_cons_succ]
            refine wpAnyL_pure (i := 12) rfl (by kernel_rfl) (fun _ _ _ h => h) (Or.inl ⟨by rfl, (fun u hu => by go_simp; try rfl)⟩) trivial (fun _ => (HK14.out _ (Below.refl _ _).drew)) ?_
            simp only [Act.put, List.setIfInBounds_toArray, List.set_cons_zero, List.set_cons_succ, List.getElem_toArray, List.getElem_cons_zero, List.getElem_cons_succ]
            refine wpAnyL_pure (i := 13) rfl (by kernel_rfl) (fun _ _ _ h => h) (Or.inl ⟨by rfl, (fun u hu => by go_simp; try rfl)⟩) trivial (fun _ => (HK14.out _ (Below.refl _ _).drew)) ?_
            simp only [Act.put, List.setIfInBounds_toArray, List.set_cons_zero, List.set_cons_succ, List.getElem_toArray, List.getElem_cons_zero, List.getElem_cons_succ]
            refine wpAnyL_pure (i := 14) rfl (by kernel_rfl) (fun _ _ _ h => h) (Or.inl ⟨by rfl, (fun u hu => by go_simp; try rfl)⟩) trivial (fun _ => (HK14.out _ (Below.refl _ _).drew)) ?_
            simp only [Act.put, List.setIfInBounds_toArray, List.set_cons_zero, List.set_cons_succ, List.getElem_toArray, List.getElem_cons_zero, List.getElem_cons_succ]
            refine wpAnyL_pure (i := 15) rfl (by kernel_rfl) (fun _ _ _ h => h) (Or.inl ⟨by rfl, (fun u hu => by go_simp; try rfl)⟩) trivial (fun _ => (HK14.out _ (Below.refl _ _).drew)) ?_
            simp only [Act.put, List.setIfInBounds_toArray, List.set_cons_zero, List.set_cons_succ, List.getElem_toArray, List.getElem_cons_zero, List.getElem_cons_succ]
            refine wpAnyL_take (i := 16) rfl (by kernel_rfl) (fun _ _ _ h => h) (Or.inl ⟨by rfl, (fun u hu => by obtain ⟨_, ⟨hu1, hu2⟩, hu3⟩ := hu; go_simp; try rfl)⟩) trivial (fun _ => (HK14.out _ (Below.refl _ _).drew)) ?_
            simp only [Act.put, List.setIfInBounds_toArray, List.set_cons_zero, List.set_cons_succ, List.getElem_toArray, List.getElem_cons_zero, List.getElem_cons_succ]
            refine wpAnyL_pure (i := 17) rfl (by kernel_rfl) (fun _ _ _ h => h) (Or.inl ⟨by rfl, (fun u hu => by go_simp; try rfl)⟩) trivial (fun _ => (HK14.out _ (Below.refl _ _).drew)) ?_
            simp only [Act.put, List.setIfInBounds_toArray, List.set_cons_zero, List.set_cons_succ, List.getElem_toArray, List.getElem_cons_zero, List.getElem_cons_succ]
            refine wpAnyL_ready (rs := [9]) (by kernel_rfl) (by simp) ?_
            refine AllL.cons rfl (fun K hK => ?_) ?_
            · have eg := entersStart1
              go_simp
              clear eg
              refine HIX.out.mono ?_
              rintro e w9 ⟨rfl, hb9⟩
              have HB9 := Lib.hid (show Below w8.heap.size w8 w9 from (Below.refl _ _).drew.trans hb9)
              obtain ⟨zz, hcz, hfz⟩ := HMRW.out w9 HB9.out
              clear hb9
              refine hK.out _ _ trivial (fun _ => (HK14.out _ HB9.out)) ?_
              clear hK K
              refine wpAnyL_pure (i := 10) rfl (by kernel_rfl) (fun _ _ _ h => h) (Or.inl ⟨by rfl, (fun u hu => by go_simp; try rfl)⟩) trivial (fun _ => (HK14.out _ HB9.out)) ?_
              simp only [Act.put, List.setIfInBounds_toArray, List.set_cons_zero, List.set_cons_succ, List.getElem_toArray, List.getElem_cons_zero, List.getElem_cons_succ]
              refine wpAnyL_take (i := 11) rfl (by kernel_rfl) (fun _ _ _ h => h) (Or.inl ⟨by rfl, (fun u hu => by obtain ⟨_, ⟨hu1, hu2⟩, hu3⟩ := hu; go_simp; try rfl)⟩) trivial (fun _ => (HK14.out _ HB9.out)) ?_
              simp only [Act.put, List.setIfInBounds_toArray, List.set_cons_zero, List.set_cons_succ, List.getElem_toArray, List.getElem_cons_zero, List.getElem_cons_succ]
              refine wpAnyL_pure (i := 18) rfl (by kernel_rfl) (fun _ _ _ h => h) (Or.inl ⟨by rfl, (fun u hu => by go_simp; try rfl)⟩) trivial (fun _ => (HK14.out _ HB9.out)) ?_
              simp only [Act.put, List.setIfInBounds_toArray, List.set_cons_zero, List.set_cons_succ, List.getElem_toArray, List.getElem_cons_zero, List.getElem_cons_succ]
              refine wpAnyL_ready (rs := [19]) (by kernel_rfl) (by simp) ?_
              refine AllL.cons rfl (fun K hK => ?_) ?_
              · have l9 := cell_lt hcz
                go_simp
                clear hcz hfz
                refine hK.out _ _ trivial (fun h => absurd (h 19 (by simp)) (by decide)) ?_
                clear hK K
                refine wpAnyL_done (by kernel_rfl) ?_ _
                go_wp2_with fail
                go_roundg (i - (j + 1))
                case measure => rw [HGJ.out]; omega
                case rel =>
                  refine ⟨j + 1, by omega, rfl, by go_num, ?_, ?_⟩
                  · have h1 := (HM7.out.below HB9.out).setAt (s := s) (c := yc) (x := (j : Int)) (by rw [hj7]; exact hsn) hcyT (by rw [hj7]; omega)
                    rw [hGS.out.1]
                    have h2 : (midM L T j).setRow s (((midM L T j).row s).set yc (j : Int)) = midM L T (j + 1) := by
                      unfold MM.setRow MM.row midM
                      dsimp only
                      rw [nextW_step HND.out HX.out (by rw [hGS.out.2.1]; exact posW_at (by rw [← hGS.out.2.1, ← HLL.out]; exact hsn)) hcyT]
                    rw [h2] at h1
                    exact h1
                  · rw [hGS.out.1]
                    exact (HB7.out.trans (HB9.out.mono HB7.out.size)).setCell (HF6.out.g_ s hsn) _
              exact AllL.nil
            exact AllL.nil
        · obtain rfl : j = i := by omega
          have hjI : ¬ (j : Int) < (j : Int) := by omega
          have HM8 := Lib.hid (show Mach w8 Bx ad T (startM L T [] []) by
            have h1 := HM7.out
            rw [HLL.out, midM_end] at h1
            exact h1)
          clear eg
          go_wp2_with fail
          go_loopg [14, 15, 17, 91] 2 (fun gk _ _ _ v91 wr => ∃ k : Nat, k ≤ 2 ∧ gk = 2 - k ∧ v91 = .int .i64 (k : Int) ∧ Mach wr Bx ad T (startM L T (if 1 ≤ k then yes else []) (if 2 ≤ k then no else [])) ∧ Below w4.heap.size w4 wr)
          case atStart => exact ⟨0, by omega, rfl, rfl, HM8.out, HB7.out⟩
          case round =>
            obtain ⟨k, hk, hgk, rfl, hM9, hB9⟩ := hrel
            obtain ⟨w9, rfl⟩ : ∃ w9 : World, w9 = wr := ⟨_, rfl⟩
            have HGK := Lib.hid hgk
            have HM9 := Lib.hid hM9
            have HB9 := Lib.hid hB9
            clear hgk hM9 hB9
            rcases (show k = 0 ∨ k = 1 ∨ k = 2 by omega) with rfl | rfl | rfl
            · have HMK := Lib.hid (show Mach w9 Bx ad T (startM L T [] []) by
                have h1 := HM9.out
                rw [if_neg (by omega), if_neg (by omega)] at h1
                exact h1)
              have hix : ∀ u : World, (Instr.index 176 (.agg #[.slice A1 n1 c1, .slice A2 n2 c2]) (.int .i64 0)).run Try.prog u = .ok (.slice A1 n1 c1) u := fun u => (run_index_two _ _).1
              go_wp2_with fail
              clear hix
              go_loopg [17, 97] n1 (fun gq _ v97 wr => ∃ q : Nat, q ≤ n1 ∧ gq = n1 - q ∧ v97 = .int .i64 (q : Int) ∧ Mach wr Bx ad T (startM L T (yes.take q) []) ∧ Below w4.heap.size w4 wr)
              case atStart => exact ⟨0, Nat.zero_le _, rfl, rfl, HMK.out, HB9.out⟩
              case round =>
                obtain ⟨q, hq, hgq, rfl, hM10, hB10⟩ := hrel
                obtain ⟨w10, rfl⟩ : ∃ w10 : World, w10 = wr := ⟨_, rfl⟩
                have HGQ := Lib.hid hgq
                have HM10 := Lib.hid hM10
                have HB10 := Lib.hid hB10
                clear hgq hM10 hB10
                by_cases hlq : q < n1
                · have hbw := HB4.out.trans (HB10.out.mono hwz)
                  obtain ⟨b, off, A5, m5, c5, x, eA5, _, _, hcx, hx, hsx⟩ := word_at (HY.out.below hbw) hlq
                  subst eA5
                  have hxm := List.mem_of_getElem? hx
                  have hxL : x ∈ L := HPRE.out.word (List.mem_append_left no hxm)
                  have hx12 : m5 ≤ 12 := by rw [hsx.len]; exact (HWS.out x (List.mem_append_left no hxm)).1
                  obtain ⟨s, hs⟩ : ∃ s, s = posW L x := ⟨_, rfl⟩
                  have hj10 : (startM L T (yes.take q) []).into.length = j := by rw [HLL.out]; simp [startM]
                  have hsn : s < j := by rw [hs, HLL.out]; exact posW_mem hxL
                  obtain ⟨mk, hmk⟩ : ∃ mk, mk = markW (yes.take q) [] x := ⟨_, rfl⟩
                  have hmk1 : (startM L T (yes.take q) []).mk1 s = mk := by rw [hs, hmk]; exact startM_mk hxL
                  have hmk4 : mk < 4 := by rw [← hmk1]; exact (HM10.out.ok.markAt (by rw [hj10]; exact hsn)).2
                  obtain ⟨z, hz⟩ : ∃ z, z = mk ||| 1 := ⟨_, rfl⟩
                  have hor : bits .or .i64 (mk : Int) 1 = (z : Int) := by rw [hz]; exact or_nat (y := 1) hmk4 (by omega)
                  have hz4 : z < 4 := by rw [hz]; exact or4 hmk4 (by omega)
                  have HK22 := Lib.hid (show ∀ u : World, Below w10.heap.size w10 u → u.cell? ⟨Bx, 2, none⟩ = some (.slice (some ⟨ad.M, 0, none⟩) j ad.cM) ∧ u.cell? ⟨ad.M, s, none⟩ = some (.int .i64 (mk : Int)) ∧ u.frozen? ⟨ad.M, s, none⟩ = false from fun u hu => by
                    have h1 := HM10.out.below hu
                    have h2 := h1.cells.2.2
                    have h3 := h1.mark_ (s := s) (by rw [hj10]; exact hsn)
                    rw [hj10] at h2
                    rw [hmk1] at h3
                    exact ⟨h2, h3, h1.M.fr s⟩)
                  have HIX := Lib.hid (startIndex w10.drew Bl (fun b => b < w3.heap.size) _ _ j c L ((HLS4.out w10 HB10.out).drew) (HBL.out w10 HB10.out) (fun z hz => by
                    rcases (HPRE.out.mem z).1 hz with e | ⟨y, hy, hp⟩
                    · subst e; simp
                    · have h1 := hp.length_le
                      have h2 := (HWS.out y hy).1
                      omega) (by omega) A5 m5 c5 x hsx.drew (by omega) hxL)
                  rw [← hs] at HIX
                  have HS := Lib.hid (And.intro hs (And.intro hmk hz))
                  have HXM := Lib.hid (And.intro hx hxL)
                  have hqI : (q : Int) < (n1 : Int) := by omega
                  have hsI : (s : Int) < (j : Int) := by omega
                  clear hs hmk hz hx hxm hxL hsx hbw
                  go_upto_block 22 with fail
                  clear hcx
                  refine wp_region_late (late := [13]) (S1 := fun _ => True) (S := fun u => u.cell? ⟨Bx, 2, none⟩ = some (.slice (some ⟨ad.M, 0, none⟩) j ad.cM) ∧ u.cell? ⟨ad.M, s, none⟩ = some (.int .i64 (mk : Int)) ∧ u.frozen? ⟨ad.M, s, none⟩ = false) (by kernel_rfl) ?_
                  refine wpAnyL_pure (i := 0) rfl (by kernel_rfl) (fun _ _ _ h => h) (Or.inl ⟨by rfl, (fun u hu => by go_simp; try rfl)⟩) trivial (fun _ => (HK22.out _ (Below.refl _ _).drew)) ?_
                  simp only [Act.put, List.setIfInBounds_toArray, List.set_cons_zero, List.set_cons_succ, List.getElem_toArray, List.getElem_cons_zero, List.getElem_cons_succ]
                  refine wpAnyL_pure (i := 1) rfl (by kernel_rfl) (fun _ _ _ h => h) (Or.inl ⟨by rfl, (fun u hu => by go_simp; try rfl)⟩) trivial (fun _ => (HK22.out _ (Below.refl _ _).drew)) ?_
                  simp only [Act.put, List.setIfInBounds_toArray, List.set_cons_zero, List.set_cons_succ, List.getElem_toArray, List.getElem_cons_zero, List.getElem_cons_succ]
                  refine wpAnyL_pure (i := 2) rfl (by kernel_rfl) (fun _ _ _ h => h) (Or.inl ⟨by rfl, (fun u hu => by go_simp; try rfl)⟩) trivial (fun _ => (HK22.out _ (Below.refl _ _).drew)) ?_
                  simp only [Act.put, List.setIfInBounds_toArray, List.set_cons_zero, List.set_cons_succ, List.getElem_toArray, List.getElem_cons_zero, List.getElem_cons_succ]
                  refine wpAnyL_take (i := 3) rfl (by kernel_rfl) (fun _ _ _ h => h) (Or.inl ⟨by rfl, (fun u hu => by obtain ⟨_, hu1, hu2, hu3⟩ := hu; go_simp; try rfl)⟩) trivial (fun _ => (HK22.out _ (Below.refl _ _).drew)) ?_
                  simp only [Act.put, List.setIfInBounds_toArray, List.set_cons_zero, List.set_cons_succ, List.getElem_toArray, List.getElem_cons_zero, List.getElem_cons_succ]
                  refine wpAnyL_pure (i := 4) rfl (by kernel_rfl) (fun _ _ _ h => h) (Or.inl ⟨by rfl, (fun u hu => by go_simp; try rfl)⟩) trivial (fun _ => (HK22.out _ (Below.refl _ _).drew)) ?_
                  simp only [Act.put, List.setIfInBounds_toArray, List.set_cons_zero, List.set_cons_succ, List.getElem_toArray, List.getElem_cons_zero, List.getElem_cons_succ]
                  refine wpAnyL_pure (i := 5) rfl (by kernel_rfl) (fun _ _ _ h => h) (Or.inl ⟨by rfl, (fun u hu => by go_simp; try rfl)⟩) trivial (fun _ => (HK22.out _ (Below.refl _ _).drew)) ?_
                  simp only [Act.put, List.setIfInBounds_toArray, List.set_cons_zero, List.set_cons_succ, List.getElem_toArray, List.getElem_cons_zero, List.getElem_cons_succ]
                  refine wpAnyL_pure (i := 9) rfl (by kernel_rfl) (fun _ _ _ h => h) (Or.inl ⟨by rfl, (fun u hu => by go_simp; try rfl)⟩) trivial (fun _ => (HK22.out _ (Below.refl _ _).drew)) ?_
                  simp only [Act.put, List.setIfInBounds_toArray, List.set_cons_zero, List.set_cons_succ, List.getElem_toArray, List.getElem_cons_zero, List.getElem_cons_succ]
                  refine wpAnyL_pure (i := 10) rfl (by kernel_rfl) (fun _ _ _ h => h) (Or.inl ⟨by rfl, (fun u hu => by go_simp; try rfl)⟩) trivial (fun _ => (HK22.out _ (Below.refl _ _).drew)) ?_
                  simp only [Act.put, List.setIfInBounds_toArray, List.set_cons_zero, List.set_cons_succ, List.getElem_toArray, List.getElem_cons_zero, List.getElem_cons_succ]
                  refine wpAnyL_ready (rs := [6]) (by kernel_rfl) (by simp) ?_
                  refine AllL.cons rfl (fun K hK => ?_) ?_
                  · have eg := entersStart1
                    go_simp
                    clear eg
                    refine HIX.out.mono ?_
                    rintro e w11 ⟨rfl, hb11⟩
                    have HB11 := Lib.hid (show Below w10.heap.size w10 w11 from (Below.refl _ _).drew.trans hb11)
                    obtain ⟨-, hcz, hfz⟩ := HK22.out w11 HB11.out
                    clear hb11
                    refine hK.out _ _ trivial (fun _ => (HK22.out _ HB11.out)) ?_
                    clear hK K
                    refine wpAnyL_pure (i := 7) rfl (by kernel_rfl) (fun _ _ _ h => h) (Or.inl ⟨by rfl, (fun u hu => by go_simp; try rfl)⟩) trivial (fun _ => (HK22.out _ HB11.out)) ?_
                    simp only [Act.put, List.setIfInBounds_toArray, List.set_cons_zero, List.set_cons_succ, List.getElem_toArray, List.getElem_cons_zero, List.getElem_cons_succ]
                    refine wpAnyL_take (i := 8) rfl (by kernel_rfl) (fun _ _ _ h => h) (Or.inl ⟨by rfl, (fun u hu => by obtain ⟨_, hu1, hu2, hu3⟩ := hu; go_simp; try rfl)⟩) trivial (fun _ => (HK22.out _ HB11.out)) ?_
                    simp only [Act.put, List.setIfInBounds_toArray, List.set_cons_zero, List.set_cons_succ, List.getElem_toArray, List.getElem_cons_zero, List.getElem_cons_succ]
                    refine wpAnyL_pure (i := 11) rfl (by kernel_rfl) (fun _ _ _ h => h) (Or.inl ⟨by rfl, (fun u hu => by go_simp; try rfl)⟩) trivial (fun _ => (HK22.out _ HB11.out)) ?_
                    simp only [Act.put, List.setIfInBounds_toArray, List.set_cons_zero, List.set_cons_succ, List.getElem_toArray, List.getElem_cons_zero, List.getElem_cons_succ]
                    refine wpAnyL_pure (i := 12) rfl (by kernel_rfl) (fun _ _ _ h => h) (Or.inl ⟨by rfl, (fun u hu => by go_simp; try rfl)⟩) trivial (fun _ => (HK22.out _ HB11.out)) ?_
                    simp only [Act.put, List.setIfInBounds_toArray, List.set_cons_zero, List.set_cons_succ, List.getElem_toArray, List.getElem_cons_zero, List.getElem_cons_succ]
                    refine wpAnyL_ready (rs := [13]) (by kernel_rfl) (by simp) ?_
                    refine AllL.cons rfl (fun K hK => ?_) ?_
                    · have l9 := cell_lt hcz
                      go_simp
                      clear hcz hfz
                      refine hK.out _ _ trivial (fun h => absurd (h 13 (by simp)) (by decide)) ?_
                      clear hK K
                      refine wpAnyL_done (by kernel_rfl) ?_ _
                      go_wp2_with fail
                      go_roundg (n1 - (q + 1))
                      case measure => rw [HGQ.out]; omega
                      case rel =>
                        refine ⟨q + 1, by omega, rfl, by go_num, ?_, ?_⟩
                        · have h1 := (HM10.out.below HB11.out).setMark (s := s) (x := z) (by rw [hj10]; exact hsn) hz4
                          have h2 : (startM L T (yes.take q) []).setMark s z = startM L T (yes.take (q + 1)) [] := by
                            rw [HS.out.1, HS.out.2.2, HS.out.2.1, startM_yes HND.out HXM.out.2, take_succ_some HXM.out.1]
                          rw [h2] at h1
                          exact h1
                        · exact (HB10.out.trans (HB11.out.mono HB10.out.size)).setCell HF6.out.m _
                    exact AllL.nil
                  exact AllL.nil
                · obtain rfl : q = n1 := by omega
                  have hqI : ¬ (q : Int) < (q : Int) := by omega
                  have hlq2 : q = yes.length := HY.out.len
                  have HMQ := Lib.hid (show Mach w10 Bx ad T (startM L T yes []) by
                    have h1 := HM10.out
                    rw [List.take_of_length_le (by rw [hlq2]; exact Nat.le_refl _)] at h1
                    exact h1)
                  clear hlq2
                  go_wp2_with fail
                  go_roundg (2 - (0 + 1))
                  case measure => rw [HGK.out]; omega
                  case rel => exact ⟨0 + 1, by omega, rfl, by go_num, HMQ.out, HB10.out⟩
            · have HMK := Lib.hid (show Mach w9 Bx ad T (startM L T yes []) by
                have h1 := HM9.out
                rw [if_pos (by omega), if_neg (by omega)] at h1
                exact h1)
              have hix : ∀ u : World, (Instr.index 176 (.agg #[.slice A1 n1 c1, .slice A2 n2 c2]) (.int .i64 1)).run Try.prog u = .ok (.slice A2 n2 c2) u := fun u => (run_index_two _ _).2
              go_wp2_with fail
              clear hix
              go_loopg [17, 97] n2 (fun gq _ v97 wr => ∃ q : Nat, q ≤ n2 ∧ gq = n2 - q ∧ v97 = .int .i64 (q : Int) ∧ Mach wr Bx ad T (startM L T yes (no.take q)) ∧ Below w4.heap.size w4 wr)
              case atStart => exact ⟨0, Nat.zero_le _, rfl, rfl, HMK.out, HB9.out⟩
              case round =>
                obtain ⟨q, hq, hgq, rfl, hM10, hB10⟩ := hrel
                obtain ⟨w10, rfl⟩ : ∃ w10 : World, w10 = wr := ⟨_, rfl⟩
                have HGQ := Lib.hid hgq
                have HM10 := Lib.hid hM10
                have HB10 := Lib.hid hB10
                clear hgq hM10 hB10
                by_cases hlq : q < n2
                · have hbw := HB4.out.trans (HB10.out.mono hwz)
                  obtain ⟨b, off, A5, m5, c5, x, eA5, _, _, hcx, hx, hsx⟩ := word_at (HN.out.below hbw) hlq
                  subst eA5
                  have hxm := List.mem_of_getElem? hx
                  have hxL : x ∈ L := HPRE.out.word (List.mem_append_right yes hxm)
                  have hx12 : m5 ≤ 12 := by rw [hsx.len]; exact (HWS.out x (List.mem_append_right yes hxm)).1
                  obtain ⟨s, hs⟩ : ∃ s, s = posW L x := ⟨_, rfl⟩
                  have hj10 : (startM L T yes (no.take q)).into.length = j := by rw [HLL.out]; simp [startM]
                  have hsn : s < j := by rw [hs, HLL.out]; exact posW_mem hxL
                  obtain ⟨mk, hmk⟩ : ∃ mk, mk = markW yes (no.take q) x := ⟨_, rfl⟩
                  have hmk1 : (startM L T yes (no.take q)).mk1 s = mk := by rw [hs, hmk]; exact startM_mk hxL
                  have hmk4 : mk < 4 := by rw [← hmk1]; exact (HM10.out.ok.markAt (by rw [hj10]; exact hsn)).2
                  obtain ⟨z, hz⟩ : ∃ z, z = mk ||| 2 := ⟨_, rfl⟩
                  have hor : bits .or .i64 (mk : Int) 2 = (z : Int) := by rw [hz]; exact or_nat (y := 2) hmk4 (by omega)
                  have hz4 : z < 4 := by rw [hz]; exact or4 hmk4 (by omega)
                  have HK22 := Lib.hid (show ∀ u : World, Below w10.heap.size w10 u → u.cell? ⟨Bx, 2, none⟩ = some (.slice (some ⟨ad.M, 0, none⟩) j ad.cM) ∧ u.cell? ⟨ad.M, s, none⟩ = some (.int .i64 (mk : Int)) ∧ u.frozen? ⟨ad.M, s, none⟩ = false from fun u hu => by
                    have h1 := HM10.out.below hu
                    have h2 := h1.cells.2.2
                    have h3 := h1.mark_ (s := s) (by rw [hj10]; exact hsn)
                    rw [hj10] at h2
                    rw [hmk1] at h3
                    exact ⟨h2, h3, h1.M.fr s⟩)
                  have HIX := Lib.hid (startIndex w10.drew Bl (fun b => b < w3.heap.size) _ _ j c L ((HLS4.out w10 HB10.out).drew) (HBL.out w10 HB10.out) (fun z hz => by
                    rcases (HPRE.out.mem z).1 hz with e | ⟨y, hy, hp⟩
                    · subst e; simp
                    · have h1 := hp.length_le
                      have h2 := (HWS.out y hy).1
                      omega) (by omega) A5 m5 c5 x hsx.drew (by omega) hxL)
                  rw [← hs] at HIX
                  have HS := Lib.hid (And.intro hs (And.intro hmk hz))
                  have HXM := Lib.hid (And.intro hx hxL)
                  have hqI : (q : Int) < (n2 : Int) := by omega
                  have hsI : (s : Int) < (j : Int) := by omega
                  clear hs hmk hz hx hxm hxL hsx hbw
                  go_upto_block 22 with fail
                  clear hcx
                  refine wp_region_late (late := [13]) (S1 := fun _ => True) (S := fun u => u.cell? ⟨Bx, 2, none⟩ = some (.slice (some ⟨ad.M, 0, none⟩) j ad.cM) ∧ u.cell? ⟨ad.M, s, none⟩ = some (.int .i64 (mk : Int)) ∧ u.frozen? ⟨ad.M, s, none⟩ = false) (by kernel_rfl) ?_
                  refine wpAnyL_pure (i := 0) rfl (by kernel_rfl) (fun _ _ _ h => h) (Or.inl ⟨by rfl, (fun u hu => by go_simp; try rfl)⟩) trivial (fun _ => (HK22.out _ (Below.refl _ _).drew)) ?_
                  simp only [Act.put, List.setIfInBounds_toArray, List.set_cons_zero, List.set_cons_succ, List.getElem_toArray, List.getElem_cons_zero, List.getElem_cons_succ]
                  refine wpAnyL_pure (i := 1) rfl (by kernel_rfl) (fun _ _ _ h => h) (Or.inl ⟨by rfl, (fun u hu => by go_simp; try rfl)⟩) trivial (fun _ => (HK22.out _ (Below.refl _ _).drew)) ?_
                  simp only [Act.put, List.setIfInBounds_toArray, List.set_cons_zero, List.set_cons_succ, List.getElem_toArray, List.getElem_cons_zero, List.getElem_cons_succ]
                  refine wpAnyL_pure (i := 2) rfl (by kernel_rfl) (fun _ _ _ h => h) (Or.inl ⟨by rfl, (fun u hu => by go_simp; try rfl)⟩) trivial (fun _ => (HK22.out _ (Below.refl _ _).drew)) ?_
                  simp only [Act.put, List.setIfInBounds_toArray, List.set_cons_zero, List.set_cons_succ, List.getElem_toArray, List.getElem_cons_zero, List.getElem_cons_succ]
                  refine wpAnyL_take (i := 3) rfl (by kernel_rfl) (fun _ _ _ h => h) (Or.inl ⟨by rfl, (fun u hu => by obtain ⟨_, hu1, hu2, hu3⟩ := hu; go_simp; try rfl)⟩) trivial (fun _ => (HK22.out _ (Below.refl _ _).drew)) ?_
                  simp only [Act.put, List.setIfInBounds_toArray, List.set_cons_zero, List.set_cons_succ, List.getElem_toArray, List.getElem_cons_zero, List.getElem_cons_succ]
                  refine wpAnyL_pure (i := 4) rfl (by kernel_rfl) (fun _ _ _ h => h) (Or.inl ⟨by rfl, (fun u hu => by go_simp; try rfl)⟩) trivial (fun _ => (HK22.out _ (Below.refl _ _).drew)) ?_
                  simp only [Act.put, List.setIfInBounds_toArray, List.set_cons_zero, List.set_cons_succ, List.getElem_toArray, List.getElem_cons_zero, List.getElem_cons_succ]
                  refine wpAnyL_pure (i := 5) rfl (by kernel_rfl) (fun _ _ _ h => h) (Or.inl ⟨by rfl, (fun u hu => by go_simp; try rfl)⟩) trivial (fun _ => (HK22.out _ (Below.refl _ _).drew)) ?_
                  simp only [Act.put, List.setIfInBounds_toArray, List.set_cons_zero, List.set_cons_succ, List.getElem_toArray, List.getElem_cons_zero, List.getElem_cons_succ]
                  refine wpAnyL_pure (i := 9) rfl (by kernel_rfl) (fun _ _ _ h => h) (Or.inl ⟨by rfl, (fun u hu => by go_simp; try rfl)⟩) trivial (fun _ => (HK22.out _ (Below.refl _ _).drew)) ?_
                  simp only [Act.put, List.setIfInBounds_toArray, List.set_cons_zero, List.set_cons_succ, List.getElem_toArray, List.getElem_cons_zero, List.getElem_cons_succ]
                  refine wpAnyL_pure (i := 10) rfl (by kernel_rfl) (fun _ _ _ h => h) (Or.inl ⟨by rfl, (fun u hu => by go_simp; try rfl)⟩) trivial (fun _ => (HK22.out _ (Below.refl _ _).drew)) ?_
                  simp only [Act.put, List.setIfInBounds_toArray, List.set_cons_zero, List.set_cons_succ, List.getElem_toArray, List.getElem_cons_zero, List.getElem_cons_succ]
                  refine wpAnyL_ready (rs := [6]) (by kernel_rfl) (by simp) ?_
                  refine AllL.cons rfl (fun K hK => ?_) ?_
                  · have eg := entersStart1
                    go_simp
                    clear eg
                    refine HIX.out.mono ?_
                    rintro e w11 ⟨rfl, hb11⟩
                    have HB11 := Lib.hid (show Below w10.heap.size w10 w11 from (Below.refl _ _).drew.trans hb11)
                    obtain ⟨-, hcz, hfz⟩ := HK22.out w11 HB11.out
                    clear hb11
                    refine hK.out _ _ trivial (fun _ => (HK22.out _ HB11.out)) ?_
                    clear hK K
                    refine wpAnyL_pure (i := 7) rfl (by kernel_rfl) (fun _ _ _ h => h) (Or.inl ⟨by rfl, (fun u hu => by go_simp; try rfl)⟩) trivial (fun _ => (HK22.out _ HB11.out)) ?_
                    simp only [Act.put, List.setIfInBounds_toArray, List.set_cons_zero, List.set_cons_succ, List.getElem_toArray, List.getElem_cons_zero, List.getElem_cons_succ]
                    refine wpAnyL_take (i := 8) rfl (by kernel_rfl) (fun _ _ _ h => h) (Or.inl ⟨by rfl, (fun u hu => by obtain ⟨_, hu1, hu2, hu3⟩ := hu; go_simp; try rfl)⟩) trivial (fun _ => (HK22.out _ HB11.out)) ?_
                    simp only [Act.put, List.setIfInBounds_toArray, List.set_cons_zero, List.set_cons_succ, List.getElem_toArray, List.getElem_cons_zero, List.getElem_cons_succ]
                    refine wpAnyL_pure (i := 11) rfl (by kernel_rfl) (fun _ _ _ h => h) (Or.inl ⟨by rfl, (fun u hu => by go_simp; try rfl)⟩) trivial (fun _ => (HK22.out _ HB11.out)) ?_
                    simp only [Act.put, List.setIfInBounds_toArray, List.set_cons_zero, List.set_cons_succ, List.getElem_toArray, List.getElem_cons_zero, List.getElem_cons_succ]
                    refine wpAnyL_pure (i := 12) rfl (by kernel_rfl) (fun _ _ _ h => h) (Or.inl ⟨by rfl, (fun u hu => by go_simp; try rfl)⟩) trivial (fun _ => (HK22.out _ HB11.out)) ?_
                    simp only [Act.put, List.setIfInBounds_toArray, List.set_cons_zero, List.set_cons_succ, List.getElem_toArray, List.getElem_cons_zero, List.getElem_cons_succ]
                    refine wpAnyL_ready (rs := [13]) (by kernel_rfl) (by simp) ?_
                    refine AllL.cons rfl (fun K hK => ?_) ?_
                    · have l9 := cell_lt hcz
                      go_simp
                      clear hcz hfz
                      refine hK.out _ _ trivial (fun h => absurd (h 13 (by simp)) (by decide)) ?_
                      clear hK K
                      refine wpAnyL_done (by kernel_rfl) ?_ _
                      go_wp2_with fail
                      go_roundg (n2 - (q + 1))
                      case measure => rw [HGQ.out]; omega
                      case rel =>
                        refine ⟨q + 1, by omega, rfl, by go_num, ?_, ?_⟩
                        · have h1 := (HM10.out.below HB11.out).setMark (s := s) (x := z) (by rw [hj10]; exact hsn) hz4
                          have h2 : (startM L T yes (no.take q)).setMark s z = startM L T yes (no.take (q + 1)) := by
                            rw [HS.out.1, HS.out.2.2, HS.out.2.1, startM_no HND.out HXM.out.2, take_succ_some HXM.out.1]
                          rw [h2] at h1
                          exact h1
                        · exact (HB10.out.trans (HB11.out.mono HB10.out.size)).setCell HF6.out.m _
                    exact AllL.nil
                  exact AllL.nil
                · obtain rfl : q = n2 := by omega
                  have hqI : ¬ (q : Int) < (q : Int) := by omega
                  have hlq2 : q = no.length := HN.out.len
                  have HMQ := Lib.hid (show Mach w10 Bx ad T (startM L T yes no) by
                    have h1 := HM10.out
                    rw [List.take_of_length_le (by rw [hlq2]; exact Nat.le_refl _)] at h1
                    exact h1)
                  clear hlq2
                  go_wp2_with fail
                  go_roundg (2 - (1 + 1))
                  case measure => rw [HGK.out]; omega
                  case rel => exact ⟨1 + 1, by omega, rfl, by go_num, HMQ.out, HB10.out⟩
            · go_wp2_with fail
              go_ret
              have h1 := HM9.out
              rw [if_pos (by omega), if_pos (by omega)] at h1
              refine ⟨⟨L, Bx, ad, rfl, HPRE.out, by have := HLL.out; omega, h1, ?_⟩, HB4.out.trans (HB9.out.mono hwz)⟩
              have h2 := HF6.out
              have h3 : (startM L T yes no).into.length = j := by rw [HLL.out]; simp [startM]
              rw [h3]
              exact ⟨Nat.le_trans hwz h2.b, Nat.le_trans hwz h2.i, Nat.le_trans hwz h2.n_, Nat.le_trans hwz h2.m, fun i hi => Nat.le_trans hwz (h2.g_ i hi)⟩
end Go.Proofs.Ytgaahpddlohjoaa
