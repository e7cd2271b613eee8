/- machine.copy. -/
import Derived.Test.YtgaahpddlohjoaaMach
import Derived.Test.YtgaahpddlohjoaaLate
import Derived.Deep.LoopGhost
import Derived.Deep.CutBlock
namespace Go.Proofs.Ytgaahpddlohjoaa
open Go.RowKit

/-- i rows are copied -/
structure CpSt (w : World) (Bx T : Nat) (m : MM) (vI vM : Value) (i : Nat) (vN : Value) (adr : List (Nat × Nat)) (wr : World) : Prop where
  blk : wr.heap[Bx]? = some (.cells #[vI, vN, vM] 132 (0, 0))
  I : Own wr w.heap.size 3 1 vI m.into.length ((natI m.into).map (Value.int .i64))
  M : Own wr w.heap.size 3 1 vM m.mark.length ((natI m.mark).map (Value.int .i64))
  N : NextW wr w.heap.size (fun b => b = Bx ∨ rowOf vI = some b ∨ rowOf vM = some b) T vN adr (m.next.take i)
  bel : Below w.heap.size w wr
  bx : w.heap.size ≤ Bx
  nI : rowOf vI ≠ some Bx
  nM : rowOf vM ≠ some Bx
  im : ∀ g, rowOf vI = some g → rowOf vM ≠ some g
section
variable {w : World} {Bx T : Nat} {m : MM} {vI vM : Value} {i : Nat} {vN : Value} {adr : List (Nat × Nat)} {wr : World}
theorem CpSt.lt (h : CpSt w Bx T m vI vM i vN adr wr) : Bx < wr.heap.size ∧ ∀ b, (b = Bx ∨ rowOf vI = some b ∨ rowOf vM = some b) → b < wr.heap.size := by
  have h1 : Bx < wr.heap.size := (Array.getElem?_eq_some_iff.1 h.blk).1
  refine ⟨h1, fun b hb => ?_⟩
  rcases hb with e | e | e
  · omega
  · exact (h.I.row e).2
  · exact (h.M.row e).2
theorem CpSt.cell (h : CpSt w Bx T m vI vM i vN adr wr) : wr.cell? ⟨Bx, 1, none⟩ = some vN ∧ wr.frozen? ⟨Bx, 1, none⟩ = false := by simp [World.cell?, World.frozen?, h.blk]
theorem CpSt.below (h : CpSt w Bx T m vI vM i vN adr wr) {w' : World} (hb : Below wr.heap.size wr w') : CpSt w Bx T m vI vM i vN adr w' :=
  ⟨(hb.block _ h.lt.1).trans h.blk, h.I.below hb (Nat.le_refl _), h.M.below hb (Nat.le_refl _), h.N.below hb, h.bel.trans (hb.mono h.bel.size), h.bx, h.nI, h.nM, h.im⟩
theorem CpSt.push (h : CpSt w Bx T m vI vM i vN adr wr) {w6 : World} (hb6 : Below wr.heap.size wr w6) {g c : Nat} {r : List Int} (hr : RowI w6 g r) (hT : r.length = T) (hc : T ≤ c) (hg : wr.heap.size ≤ g) (hi : m.next[i]? = some r) (hn : m.into.length ≤ 1000) (hlen : m.next.length = m.into.length) :
    ∃ A' c' w', (Builtin.append_ #[23, 23] 23 #[vN, .slice (some ⟨w6.heap.size, 0, none⟩) 1 1]).run Try.prog (w6.alloc (.cells #[.slice (some ⟨g, 0, none⟩) T c] 22)) = .ok (.slice A' (i + 1) c') w' ∧ w'.cell? ⟨Bx, 1, none⟩ = some vN ∧ w'.frozen? ⟨Bx, 1, none⟩ = false ∧
      CpSt w Bx T m vI vM (i + 1) (.slice A' (i + 1) c') (adr ++ [(g, c)]) (w'.setCell ⟨Bx, 1, none⟩ (.slice A' (i + 1) c')) ∧ w6.heap.size ≤ w'.heap.size := by
  have h6 := h.below hb6
  obtain ⟨l1, l2⟩ := h.lt
  have hs6 := hb6.size
  have hsz := h.bel.size
  have hil : i < m.next.length := (List.getElem?_eq_some_iff.1 hi).1
  have hal : adr.length = i := by have := h.N.len; rw [List.length_take] at this; omega
  obtain ⟨v', w', hrun, hN, hg', hb', hv'⟩ := h6.N.push (p := (g, c)) hr hT hc (by show _ ≤ g; omega)
    (fun e => by have := (h.N.own.row e).2; omega) (fun e => by have := l2 g e; omega) (fun q hq => by
      obtain ⟨j, hj⟩ := List.mem_iff_getElem?.1 hq
      obtain ⟨r', _, _, h3, _⟩ := h.N.row j q hj
      have := h3.lt
      show q.1 ≠ g
      omega) (fun b hb => by have := l2 b hb; omega) (by omega) (by omega)
  obtain ⟨A', c', ev', _⟩ := hN.form
  rw [List.length_append, hal] at ev'
  change v' = .slice A' (i + 1) c' at ev'
  subst ev'
  have hz := hg'.size
  rw [World.size_alloc] at hz
  have hin : ∀ k, k < w6.heap.size → rowOf vN ≠ some k → w'.heap[k]? = w6.heap[k]? := fun k hk hv => (hg'.block k (by simp; omega) (fun e => hv e.symm)).trans (Below.heap_alloc w6 _ k hk)
  have hnx := h.N.nx
  have hbx' : w'.heap[Bx]? = some (.cells #[vI, vN, vM] 132 (0, 0)) := (hin Bx (by omega) (fun e => hnx Bx e (.inl rfl))).trans h6.blk
  have ho : ∀ {v : Value} {n : Nat} {ys : List Value}, (∀ b, rowOf v = some b → (b = Bx ∨ rowOf vI = some b ∨ rowOf vM = some b)) → rowOf v ≠ some Bx → Own w6 w.heap.size 3 1 v n ys → Own (w'.setCell ⟨Bx, 1, none⟩ (.slice A' (i + 1) c')) w.heap.size 3 1 v n ys := fun {v n ys} hv hvb hown =>
    ((hown.alloc _).kept hg' fun g' e ev => hnx g' e (hv g' ev)).kept (set_grown (Bd := Bx) w' 1 (.slice A' (i + 1) c')) fun g' e ev => hvb (by rw [ev]; exact e.symm)
  refine ⟨A', c', w', hrun, by simp [World.cell?, hbx'], by simp [World.frozen?, hbx'], ⟨?_, ho (fun b e => .inr (.inl e)) h.nI h6.I, ho (fun b e => .inr (.inr e)) h.nM h6.M, ?_, ?_, h.bx, h.nI, h.nM, h.im⟩, by omega⟩
  · have := blk_set hbx' 1 (.slice A' (i + 1) c')
    simpa using this
  · rw [List.take_succ_eq_append_getElem hil, (List.getElem?_eq_some_iff.1 hi).2]
    refine NextW.kept hN (set_grown (Bd := Bx) w' 1 (.slice A' (i + 1) c')) fun g' e => ?_
    injection e with e
    subst e
    refine ⟨fun e => hN.nx _ e (.inl rfl), fun p hp e => ?_⟩
    obtain ⟨j, hj⟩ := List.mem_iff_getElem?.1 hp
    obtain ⟨r', _, _, _, _, _, _, h7⟩ := hN.row j p hj
    exact h7 (.inl e)
  · exact ((h6.bel.trans hb').setCell h.bx _)
end
/-- a machine of the call's own -/
def MachR (w : World) (T : Nat) (m : MM) (e : Ending) (w' : World) : Prop := ∃ Bx ad, e = .returned (.pointer (some ⟨Bx, 0, none⟩)) ∧ Mach w' Bx ad T m ∧ ad.From Bx m.into.length w.heap.size
set_option linter.unusedSimpArgs false in
set_option maxRecDepth 1000000 in
set_option maxHeartbeats 4000000 in
theorem machCopy (w : World) (Bm : Nat) (ad : Adr) (T : Nat) (m : MM) (h : Mach w Bm ad T m) :
    Calls Try.prog 70 #[.pointer (some ⟨Bm, 0, none⟩)] w fun e w' => MachR w T m e w' ∧ Below w.heap.size w w' := by
  obtain ⟨n, hn⟩ : ∃ n, n = m.into.length := ⟨_, rfl⟩
  have hc := h.cells
  rw [← hn] at hc
  have HC := Lib.hid (show ∀ u : World, Below w.heap.size w u → u.cell? ⟨Bm, 0, none⟩ = some (.slice (some ⟨ad.I, 0, none⟩) n ad.cI) ∧ u.cell? ⟨Bm, 1, none⟩ = some (.slice (some ⟨ad.N, 0, none⟩) n ad.cN) ∧ u.cell? ⟨Bm, 2, none⟩ = some (.slice (some ⟨ad.M, 0, none⟩) n ad.cM) from fun u hu => by
    have := (h.below hu).cells
    rwa [← hn] at this)
  have H := Lib.hid h
  have HN := Lib.hid hn
  have HI := Lib.hid (show Rd w (fun _ => True) 1 (some ⟨ad.I, 0, none⟩) n ((natI m.into).map (Value.int .i64)) from ⟨by simp [hn], fun _ => ⟨ad.I, 0, rfl, trivial, fun j u hu => by
    rw [List.getElem?_map] at hu
    cases e : (natI m.into)[j]? with
    | none => rw [e] at hu; cases hu
    | some v =>
      rw [e] at hu
      injection hu with hu
      subst hu
      rw [Nat.zero_add]
      exact h.I.at_ e⟩⟩)
  have HM := Lib.hid (show Rd w (fun _ => True) 1 (some ⟨ad.M, 0, none⟩) n ((natI m.mark).map (Value.int .i64)) from ⟨by simp [hn, h.ok.mks], fun _ => ⟨ad.M, 0, rfl, trivial, fun j u hu => by
    rw [List.getElem?_map] at hu
    cases e : (natI m.mark)[j]? with
    | none => rw [e] at hu; cases hu
    | some v =>
      rw [e] at hu
      injection hu with hu
      subst hu
      rw [Nat.zero_add]
      exact h.M.at_ e⟩⟩)
  have hn3 : n ≤ 1000 := by rw [hn]; exact h.ok.len
  have hT2 := h.T2
  obtain ⟨k0, k1, k2⟩ := hc
  clear h hn
  go_enter Try.func70, Try.ntmps70
  go_upto_block 1 with fail
  refine wp_region_late (late := []) (S1 := fun u => u.cell? ⟨Bm, 0, none⟩ = some (.slice (some ⟨ad.I, 0, none⟩) n ad.cI) ∧ u.cell? ⟨Bm, 1, none⟩ = some (.slice (some ⟨ad.N, 0, none⟩) n ad.cN) ∧ u.cell? ⟨Bm, 2, none⟩ = some (.slice (some ⟨ad.M, 0, none⟩) n ad.cM)) (S := fun _ => True) (by kernel_rfl) ?_
  clear k0 k1 k2
  refine wpAnyL_pure (i := 0) rfl (by kernel_rfl) (fun _ _ _ h => h) (Or.inl ⟨by rfl, (fun u hu => by obtain ⟨hu1, hu2, hu3⟩ := hu; go_simp; try rfl)⟩) (HC.out _ (Below.refl _ _).drew) (fun _ => trivial) ?_
  simp only [Act.put, List.setIfInBounds_toArray, List.set_cons_zero, List.set_cons_succ, List.getElem_toArray, List.getElem_cons_zero, List.getElem_cons_succ]
  refine wpAnyL_pure (i := 1) rfl (by kernel_rfl) (fun _ _ _ h => h) (Or.inl ⟨by rfl, (fun u hu => by obtain ⟨hu1, hu2, hu3⟩ := hu; go_simp; try rfl)⟩) (HC.out _ (Below.refl _ _).drew) (fun _ => trivial) ?_
  simp only [Act.put, List.setIfInBounds_toArray, List.set_cons_zero, List.set_cons_succ, List.getElem_toArray, List.getElem_cons_zero, List.getElem_cons_succ]
  refine wpAnyL_pure (i := 2) rfl (by kernel_rfl) (fun _ _ _ h => h) (Or.inl ⟨by rfl, (fun u hu => by obtain ⟨hu1, hu2, hu3⟩ := hu; go_simp; try rfl)⟩) (HC.out _ (Below.refl _ _).drew) (fun _ => trivial) ?_
  simp only [Act.put, List.setIfInBounds_toArray, List.set_cons_zero, List.set_cons_succ, List.getElem_toArray, List.getElem_cons_zero, List.getElem_cons_succ]
  refine wpAnyL_pure (i := 3) rfl (by kernel_rfl) (fun _ _ _ h => h) (Or.inl ⟨by rfl, (fun u hu => by obtain ⟨hu1, hu2, hu3⟩ := hu; go_simp; try rfl)⟩) (HC.out _ (Below.refl _ _).drew) (fun _ => trivial) ?_
  simp only [Act.put, List.setIfInBounds_toArray, List.set_cons_zero, List.set_cons_succ, List.getElem_toArray, List.getElem_cons_zero, List.getElem_cons_succ]
  refine wpAnyL_pure (i := 5) rfl (by kernel_rfl) (fun _ _ _ h => h) (Or.inl ⟨by rfl, (fun u hu => by obtain ⟨hu1, hu2, hu3⟩ := hu; go_simp; try rfl)⟩) (HC.out _ (Below.refl _ _).drew) (fun _ => trivial) ?_
  simp only [Act.put, List.setIfInBounds_toArray, List.set_cons_zero, List.set_cons_succ, List.getElem_toArray, List.getElem_cons_zero, List.getElem_cons_succ]
  refine wpAnyL_pure (i := 6) rfl (by kernel_rfl) (fun _ _ _ h => h) (Or.inl ⟨by rfl, (fun u hu => by obtain ⟨hu1, hu2, hu3⟩ := hu; go_simp; try rfl)⟩) (HC.out _ (Below.refl _ _).drew) (fun _ => trivial) ?_
  simp only [Act.put, List.setIfInBounds_toArray, List.set_cons_zero, List.set_cons_succ, List.getElem_toArray, List.getElem_cons_zero, List.getElem_cons_succ]
  refine wpAnyL_pure (i := 7) rfl (by kernel_rfl) (fun _ _ _ h => h) (Or.inl ⟨by rfl, (fun u hu => by obtain ⟨hu1, hu2, hu3⟩ := hu; go_simp; try rfl)⟩) (HC.out _ (Below.refl _ _).drew) (fun _ => trivial) ?_
  simp only [Act.put, List.setIfInBounds_toArray, List.set_cons_zero, List.set_cons_succ, List.getElem_toArray, List.getElem_cons_zero, List.getElem_cons_succ]
  refine wpAnyL_pure (i := 8) rfl (by kernel_rfl) (fun _ _ _ h => h) (Or.inl ⟨by rfl, (fun u hu => by obtain ⟨hu1, hu2, hu3⟩ := hu; go_simp; try rfl)⟩) (HC.out _ (Below.refl _ _).drew) (fun _ => trivial) ?_
  simp only [Act.put, List.setIfInBounds_toArray, List.set_cons_zero, List.set_cons_succ, List.getElem_toArray, List.getElem_cons_zero, List.getElem_cons_succ]
  refine wpAnyL_ready (rs := [4]) (by kernel_rfl) (by simp) ?_
  refine AllL.cons rfl (fun K hK => ?_) ?_
  · go_simp
    refine (cloneInt _ n _ _ _ _ (HI.out.keep (.drew _ _)) (by omega)).mono ?_
    rintro e w2 ⟨vI, rfl, hvI, hb2⟩
    obtain ⟨AI, cI, rfl, _⟩ := hvI.form
    have HVI := Lib.hid (show Own w2 w.heap.size 3 1 (.slice AI n cI) n _ from hvI)
    have HB2 := Lib.hid (show Below w.heap.size w w2 from (Below.refl _ _).drew.trans hb2)
    clear hvI hb2
    refine hK.out _ _ (HC.out _ HB2.out) (fun _ => trivial) ?_
    clear hK K
    refine wpAnyL_ready (rs := [9]) (by kernel_rfl) (by simp) ?_
    refine AllL.cons rfl (fun K hK => ?_) ?_
    · go_simp
      refine (cloneInt _ n _ _ _ _ (HM.out.below HB2.out) (by omega)).mono ?_
      rintro e w3 ⟨vM, rfl, hvM, hb3⟩
      obtain ⟨AM, cM, rfl, _⟩ := hvM.form
      have HVM := Lib.hid (show Own w3 w2.heap.size 3 1 (.slice AM n cM) n _ from hvM)
      have HB3 := Lib.hid (show Below w2.heap.size w2 w3 from hb3)
      clear hvM hb3
      refine hK.out _ _ (HC.out _ (HB2.out.trans (HB3.out.mono HB2.out.size))) (fun _ => trivial) ?_
      clear hK K
      refine wpAnyL_pure (i := 10) rfl (by kernel_rfl) (fun _ _ _ h => h) (Or.inl ⟨by rfl, (fun u hu => by obtain ⟨hu1, hu2, hu3⟩ := hu; go_simp; try rfl)⟩) (HC.out _ (HB2.out.trans (HB3.out.mono HB2.out.size))) (fun _ => trivial) ?_
      simp only [Act.put, List.setIfInBounds_toArray, List.set_cons_zero, List.set_cons_succ, List.getElem_toArray, List.getElem_cons_zero, List.getElem_cons_succ]
      refine wpAnyL_ready (rs := [11]) (by kernel_rfl) (by simp) ?_
      refine AllL.cons rfl (fun K hK => ?_) ?_
      · go_simp
        refine hK.out _ _ (HC.out _ ((HB2.out.trans (HB3.out.mono HB2.out.size)).alloc (Nat.le_trans HB2.out.size HB3.out.size) _)) (fun _ => trivial) ?_
        clear hK K
        refine wpAnyL_pure (i := 12) rfl (by kernel_rfl) (fun _ _ _ h => h) (Or.inl ⟨by rfl, (fun u hu => by obtain ⟨hu1, hu2, hu3⟩ := hu; go_simp; try rfl)⟩) (HC.out _ ((HB2.out.trans (HB3.out.mono HB2.out.size)).alloc (Nat.le_trans HB2.out.size HB3.out.size) _)) (fun _ => trivial) ?_
        simp only [Act.put, List.setIfInBounds_toArray, List.set_cons_zero, List.set_cons_succ, List.getElem_toArray, List.getElem_cons_zero, List.getElem_cons_succ]
        refine wpAnyL_done (by kernel_rfl) ?_ _
        obtain ⟨w4, hw4⟩ : ∃ w4 : World, w4 = w3.alloc (.cells #[.slice AI n cI, .slice none 0 0, .slice AM n cM] 132) := ⟨_, rfl⟩
        rw [← hw4]
        have hst4 : CpSt w w3.heap.size T m (.slice AI n cI) (.slice AM n cM) 0 (.slice none 0 0) [] w4 := by
          have hz23 := HB3.out.size
          have hz2 := HB2.out.size
          have h1 := fun g => HVI.out.row (g := g)
          have h2 := fun g => HVM.out.row (g := g)
          have hb34 : Below w3.heap.size w3 w4 := by rw [hw4]; exact (Below.refl _ _).alloc (Nat.le_refl _) _
          have hI3 : Own w3 w.heap.size 3 1 (.slice AI n cI) n ((natI m.into).map (Value.int .i64)) := HVI.out.below HB3.out (Nat.le_refl _)
          have hM3 : Own w3 w.heap.size 3 1 (.slice AM n cM) n ((natI m.mark).map (Value.int .i64)) := HVM.out.mono hz2
          refine ⟨by rw [hw4]; exact heap_alloc_new w3 _, by rw [← HN.out]; exact hI3.below hb34 (Nat.le_refl _), by rw [H.out.ok.mks, ← HN.out]; exact hM3.below hb34 (Nat.le_refl _), by rw [List.take_zero]; exact NextW.nil _ _ _ _, (HB2.out.trans (HB3.out.mono hz2)).trans (hb34.mono (by omega)), by omega, fun e => by have := h1 _ e; omega, fun e => by have := h2 _ e; omega, fun g e e' => by have := h1 _ e; have := h2 _ e'; omega⟩
        have HST4 := Lib.hid hst4
        have HB4 := Lib.hid (show Below w.heap.size w w4 from hst4.bel)
        have hz4 : w4.heap.size = w3.heap.size + 1 := by rw [hw4]; simp
        have hsl4 : w3.heap.size < w4.heap.size := by omega
        obtain ⟨-, k1, -⟩ := HC.out w4 HB4.out
        clear hw4 hst4 hz4
        go_wp2_with fail
        clear k1
        obtain ⟨Bx, hBx⟩ : ∃ Bx, Bx = w3.heap.size := ⟨_, rfl⟩
        rw [← hBx] at hsl4 ⊢
        have HST5 := Lib.hid (show CpSt w Bx T m (.slice AI n cI) (.slice AM n cM) 0 (.slice none 0 0) [] w4 by rw [hBx]; exact HST4.out)
        clear hBx
        go_loopg [5, 23] n (fun gk v5 v23 wr => ∃ (i : Nat) (vN : Value) (adr : List (Nat × Nat)), i ≤ n ∧ gk = n - i ∧ v23 = .int .i64 (i : Int) ∧ CpSt w Bx T m (.slice AI n cI) (.slice AM n cM) i vN adr wr)
        case atStart => exact ⟨0, _, _, Nat.zero_le _, rfl, rfl, HST5.out⟩
        case round =>
          obtain ⟨i, vN, adr, hi, hgk, rfl, hst⟩ := hrel
          obtain ⟨w5, rfl⟩ : ∃ w5 : World, w5 = wr := ⟨_, rfl⟩
          have HGK := Lib.hid hgk
          have HST := Lib.hid hst
          clear hgk hst
          by_cases hlt : i < n
          · have e1 := (H.out.below HST.out.bel).row_ (s := i) (by rw [← HN.out]; exact hlt)
            have hro := H.out.ok.rowAt (a := i) (by rw [← HN.out]; exact hlt)
            have hrw := (H.out.below HST.out.bel).rows i (by rw [← HN.out]; exact hlt)
            obtain ⟨r, hr⟩ : ∃ r, r = m.row i := ⟨_, rfl⟩
            obtain ⟨gi, hgi⟩ : ∃ g, g = ad.g i := ⟨_, rfl⟩
            obtain ⟨ci, hci⟩ : ∃ c, c = ad.c i := ⟨_, rfl⟩
            rw [← hgi, ← hci] at e1
            rw [← hr] at hro hrw
            rw [← hgi] at hrw
            have HRO := Lib.hid hro
            have HRD := Lib.hid (show Rd w5 (fun _ => True) 1 (some ⟨gi, 0, none⟩) T (r.map (Value.int .i64)) from ⟨by simp [hro.2.1], fun _ => ⟨gi, 0, rfl, trivial, fun j u hu => by
              rw [List.getElem?_map] at hu
              cases e : r[j]? with
              | none => rw [e] at hu; cases hu
              | some v =>
                rw [e] at hu
                injection hu with hu
                subst hu
                rw [Nat.zero_add]
                exact hrw.at_ e⟩⟩)
            have HT1 := Lib.hid H.out.T1
            have hcN := HST.out.cell
            have HK := Lib.hid (show ∀ u : World, Below w5.heap.size w5 u → u.cell? ⟨Bx, 1, none⟩ = some vN ∧ u.frozen? ⟨Bx, 1, none⟩ = false from fun u hu => (HST.out.below hu).cell)
            clear hr hgi hci hro hrw hcN
            go_upto_block 5 with fail
            clear e1
            refine wp_region_late (late := [11]) (S1 := fun _ => True) (S := fun u => u.cell? ⟨Bx, 1, none⟩ = some vN ∧ u.frozen? ⟨Bx, 1, none⟩ = false) (by kernel_rfl) ?_
            refine wpAnyL_pure (i := 0) rfl (by kernel_rfl) (fun _ _ _ h => h) (Or.inl ⟨by rfl, (fun u hu => by go_simp; try rfl)⟩) trivial (fun _ => (HK.out _ (Below.refl _ _).drew)) ?_
            simp only [Act.put, List.setIfInBounds_toArray, List.set_cons_zero, List.set_cons_succ, List.getElem_toArray, List.getElem_cons_zero, List.getElem_cons_succ]
            refine wpAnyL_pure (i := 1) rfl (by kernel_rfl) (fun _ _ _ h => h) (Or.inl ⟨by rfl, (fun u hu => by go_simp; try rfl)⟩) trivial (fun _ => (HK.out _ (Below.refl _ _).drew)) ?_
            simp only [Act.put, List.setIfInBounds_toArray, List.set_cons_zero, List.set_cons_succ, List.getElem_toArray, List.getElem_cons_zero, List.getElem_cons_succ]
            refine wpAnyL_pure (i := 2) rfl (by kernel_rfl) (fun _ _ _ h => h) (Or.inl ⟨by rfl, (fun u hu => by go_simp; try rfl)⟩) trivial (fun _ => (HK.out _ (Below.refl _ _).drew)) ?_
            simp only [Act.put, List.setIfInBounds_toArray, List.set_cons_zero, List.set_cons_succ, List.getElem_toArray, List.getElem_cons_zero, List.getElem_cons_succ]
            refine wpAnyL_pure (i := 3) rfl (by kernel_rfl) (fun _ _ _ h => h) (Or.inl ⟨by rfl, (fun u hu => by go_simp; try rfl)⟩) trivial (fun _ => (HK.out _ (Below.refl _ _).drew)) ?_
            simp only [Act.put, List.setIfInBounds_toArray, List.set_cons_zero, List.set_cons_succ, List.getElem_toArray, List.getElem_cons_zero, List.getElem_cons_succ]
            refine wpAnyL_take (i := 4) rfl (by kernel_rfl) (fun _ _ _ h => h) (Or.inl ⟨by rfl, (fun u hu => by obtain ⟨_, hu1, hu2⟩ := hu; go_simp; try rfl)⟩) trivial (fun _ => (HK.out _ (Below.refl _ _).drew)) ?_
            simp only [Act.put, List.setIfInBounds_toArray, List.set_cons_zero, List.set_cons_succ, List.getElem_toArray, List.getElem_cons_zero, List.getElem_cons_succ]
            refine wpAnyL_pure (i := 5) rfl (by kernel_rfl) (fun _ _ _ h => h) (Or.inl ⟨by rfl, (fun u hu => by go_simp; try rfl)⟩) trivial (fun _ => (HK.out _ (Below.refl _ _).drew)) ?_
            simp only [Act.put, List.setIfInBounds_toArray, List.set_cons_zero, List.set_cons_succ, List.getElem_toArray, List.getElem_cons_zero, List.getElem_cons_succ]
            refine wpAnyL_ready (rs := [6]) (by kernel_rfl) (by simp) ?_
            refine AllL.cons rfl (fun K hK => ?_) ?_
            · go_simp
              refine (cloneInt _ T _ _ _ _ (HRD.out.keep (.drew _ _)) (by omega)).mono ?_
              rintro e w6 ⟨v6, rfl, hv6, hb6⟩
              obtain ⟨A6, c6, rfl, _⟩ := hv6.form
              obtain ⟨g6, rfl, hg6, hr6, hc6, _⟩ := hv6.rowI (by have := HT1.out; omega)
              have HB6 := Lib.hid (show Below w5.heap.size w5 w6 from (Below.refl _ _).drew.trans hb6)
              obtain ⟨A8, c8, w8, hrun, hc8, hf8, hst8, hz8⟩ := HST.out.push HB6.out hr6 HRO.out.2.1 hc6 hg6 HRO.out.1 (by rw [← HN.out]; exact hn3) H.out.ok.nx
              have HRUN := Lib.hid hrun
              have HST8 := Lib.hid hst8
              clear hv6 hb6 hg6 hr6 hc6 hrun hst8
              refine hK.out _ _ trivial (fun _ => (HK.out _ HB6.out)) ?_
              clear hK K
              refine wpAnyL_ready (rs := [7]) (by kernel_rfl) (by simp) ?_
              refine AllL.cons rfl (fun K hK => ?_) ?_
              · go_simp
                refine hK.out _ _ trivial (fun _ => (HK.out _ (HB6.out.alloc HB6.out.size _))) ?_
                clear hK K
                refine wpAnyL_ready (rs := [8]) (by kernel_rfl) (by simp) ?_
                refine AllL.cons rfl (fun K hK => ?_) ?_
                · refine step_append_run _ (by rfl) _ _ _ _ (by rfl) _ _ (by rfl) (by rfl) _ _ HRUN.out ?_
                  simp only [Act.put, List.setIfInBounds_toArray, List.set_cons_zero, List.set_cons_succ, List.getElem_toArray, List.getElem_cons_zero, List.getElem_cons_succ]
                  refine hK.out _ _ trivial (fun _ => ⟨hc8, hf8⟩) ?_
                  clear hK K
                  refine wpAnyL_pure (i := 9) rfl (by kernel_rfl) (fun _ _ _ h => h) (Or.inl ⟨by rfl, (fun u hu => by go_simp; try rfl)⟩) trivial (fun _ => ⟨hc8, hf8⟩) ?_
                  simp only [Act.put, List.setIfInBounds_toArray, List.set_cons_zero, List.set_cons_succ, List.getElem_toArray, List.getElem_cons_zero, List.getElem_cons_succ]
                  refine wpAnyL_pure (i := 10) rfl (by kernel_rfl) (fun _ _ _ h => h) (Or.inl ⟨by rfl, (fun u hu => by go_simp; try rfl)⟩) trivial (fun _ => ⟨hc8, hf8⟩) ?_
                  simp only [Act.put, List.setIfInBounds_toArray, List.set_cons_zero, List.set_cons_succ, List.getElem_toArray, List.getElem_cons_zero, List.getElem_cons_succ]
                  refine wpAnyL_ready (rs := [11]) (by kernel_rfl) (by simp) ?_
                  refine AllL.cons rfl (fun K hK => ?_) ?_
                  · have l8 := cell_lt hc8
                    go_simp
                    clear hc8 hf8
                    refine hK.out _ _ trivial (fun h => absurd (h 11 (by simp)) (by decide)) ?_
                    clear hK K
                    refine wpAnyL_done (by kernel_rfl) ?_ _
                    go_wp2_with fail
                    go_roundg (n - (i + 1))
                    case measure => rw [HGK.out]; omega
                    case rel => exact ⟨i + 1, _, _, by omega, rfl, by go_num, HST8.out⟩
                  exact AllL.nil
                exact AllL.nil
              exact AllL.nil
            exact AllL.nil
          · obtain rfl : i = n := by omega
            have hni : ¬ (i : Int) < (i : Int) := by omega
            go_wp2_with fail
            go_ret
            refine ⟨⟨Bx, ?_⟩, HST.out.bel⟩
            have h := HST.out
            have hN := h.N
            rw [List.take_of_length_le (by rw [H.out.ok.nx, HN.out]; exact Nat.le_refl _)] at hN
            obtain ⟨ad2, h1, h2⟩ := Mach.of H.out.ok H.out.n1 H.out.T1 H.out.T2 h.blk h.I h.M hN h.bx h.nI h.nM h.im
            exact ⟨ad2, rfl, h1, h2⟩
      exact AllL.nil
    exact AllL.nil
  exact AllL.nil
end Go.Proofs.Ytgaahpddlohjoaa
