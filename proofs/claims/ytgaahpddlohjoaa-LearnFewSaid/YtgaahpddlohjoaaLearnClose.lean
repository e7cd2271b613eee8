/- learner.close: all states that are needed, and the automaton. -/
import Derived.Test.YtgaahpddlohjoaaLearnCs
import Derived.Test.YtgaahpddlohjoaaLate
import Derived.Deep.CutBlock
namespace Go.Proofs.Ytgaahpddlohjoaa
open Go.RowKit Go.Maps

/-- what close returns -/
def CloseR (L : LCtx) (w : World) (FL : Nat → Prop) (ws : List (List Int)) (q : Nat) (vT : Value) (access tests : List (List Int)) (e : Ending) (w' : World) : Prop :=
  ∃ (d : DfaD) (access' ws' : List (List Int)) (vA' vR' : Value) (FL' : Nat → Prop) (A : Option Addr) (nA cA : Nat) (N : Option Addr) (n cN : Nat), e = .returned (.tuple #[.agg #[.int .i64 0, .slice A nA cA, .slice N n cN], .bool true]) ∧ Sl Rep.int w' (fun b => w.heap.size ≤ b ∧ ¬ FL' b) A nA cA d.2.1 ∧ Sl RI w' (fun b => w.heap.size ≤ b ∧ ¬ FL' b) N n cN d.2.2 ∧
    Closed L.acc L.T tests access' d ∧ access <+: access' ∧ LSt L w' FL' ws' q vA' vT vR' access' tests ∧ ws'.length ≤ ws.length + 100000 ∧ Only w w' (fun b => b < L.B0 ∨ FL b) ∧ (∀ b, FL b → FL' b) ∧ ∀ b, FL' b → FL b ∨ w.heap.size ≤ b
set_option linter.unusedSimpArgs false in
set_option maxRecDepth 1000000 in
set_option maxHeartbeats 8000000 in
theorem learnClose (L : LCtx) (hL : L.Ok) (w : World) (FL : Nat → Prop) (ws : List (List Int)) (q : Nat) (vA vT vR : Value) (access tests : List (List Int)) (h : LSt L w FL ws q vA vT vR access tests)
    (ha : AccW L.acc L.T tests access) (ht : ∀ t ∈ tests, WOkT L.T t ∧ t.length ≤ 1000) (htl : tests.length ≤ 100) (hws : ws.length ≤ 80000000) :
    Calls Try.prog 47 #[.pointer (some ⟨L.BL, 0, none⟩)] w fun e w' => CloseR L w FL ws q vT access tests e w' := by
  have HAB := Lib.hid (show ∀ acc', AccW L.acc L.T tests acc' → acc'.length ≤ 21 ∧ (∀ u ∈ acc', u.length ≤ 21) from fun acc' h' => by
    have h1 := h'.dist.few hL.val hL.cols hL.lang (fun t hm => (ht t hm).1) h'.ok
    have h2 := hL.few
    refine ⟨by omega, fun u hu => ?_⟩
    obtain ⟨k, hk⟩ := List.getElem?_of_mem hu
    have h3 := h'.short k u hk
    have := (List.getElem?_eq_some_iff.1 hk).1
    omega)
  obtain ⟨AA, cA0, rfl, hcA0⟩ := h.formA
  obtain ⟨hc0, hc1, hc2, hc3, hc4, hc5⟩ := h.cells
  have hf5 := h.fr 5
  have hBLn : L.BL < w.heap.size := h.lt
  obtain ⟨w3, hw3⟩ : ∃ w3 : World, w3 = ((w.setCell ⟨L.BL, 5, none⟩ (.map (some (w.heap.size + 1)))).alloc (.cells #[.int .i64 0, .slice none 0 0, .slice none 0 0] 25)).alloc (.map #[] 0) := ⟨_, rfl⟩
  have hz3 : w3.heap.size = w.heap.size + 2 := by rw [hw3]; simp
  have HST3 := Lib.hid (show LSt L w3 FL ws q (.slice AA access.length cA0) vT (.map (some (w.heap.size + 1))) access tests by
    rw [hw3]
    exact ((h.setR hL _).alloc hL _).alloc hL _)
  have HM3 := Lib.hid (show AMap KS w3 (w.heap.size + 1) (rowsL L.acc tests 0 []) by
    rw [hw3]
    have := AMap.made KS ((w.setCell ⟨L.BL, 5, none⟩ (.map (some (w.heap.size + 1)))).alloc (.cells #[.int .i64 0, .slice none 0 0, .slice none 0 0] 25))
    simpa [rowsL] using this)
  have HO3 := Lib.hid (show Only w w3 (fun b => b = L.BL) by
    rw [hw3]
    exact ((Only.set (X := fun b => b = L.BL) _ _ _ _ rfl).trans (Only.alloc _ _ _)).trans (Only.alloc _ _ _))
  have HRC3 := Lib.hid (show w3.heap[w.heap.size]? = some (.cells #[.int .i64 0, .slice none 0 0, .slice none 0 0] 25 (0, 0)) by
    rw [hw3, Below.heap_alloc _ _ _ (by simp)]
    exact heap_new _ _ _ (by simp))
  have HFZ := Lib.hid (show ∀ b, FL b → b < w.heap.size from h.flz)
  have HLE := Lib.hid h.le
  have HBK := Lib.hid (show L.BK < w.heap.size from h.flz _ h.flK)
  have HW3 := Lib.hid hw3
  have HZ3 := Lib.hid hz3
  have HL := Lib.hid hL
  have HA := Lib.hid ha
  have HT := Lib.hid ht
  have HFL := Lib.hid (show FL L.BL ∧ FL L.BK from ⟨h.flL, h.flK⟩)
  have hac : access.length ≤ 21 := (HAB.out access ha).1
  have hmm := @run_makeMap Try.prog
  have hc33 : w3.cell? ⟨L.BL, 3, none⟩ = some (.slice AA access.length cA0) := HST3.out.cells.2.2.2.1
  clear h hL ha ht hw3 hz3 hc0 hc1 hc2 hc4
  go_enter Try.func47, Try.ntmps47
  go_upto_block 2 with fail
  rw [← HW3.out]
  clear hmm hc3 hc5 hf5 hc33
  obtain ⟨BR, hBR⟩ : ∃ BR, BR = w.heap.size + 1 := ⟨_, rfl⟩
  have HBR := Lib.hid hBR
  rw [← hBR] at HST3 HM3
  clear hBR
  go_loopg [4, 5, 25] access.length (fun gk va vb vi wr => ∃ (k : Nat) (ws1 : List (List Int)), k ≤ access.length ∧ gk = access.length - k ∧ vi = .int .i64 k ∧ LSt L wr FL ws1 q (.slice AA access.length cA0) vT (.map (some BR)) access tests ∧ AMap KS wr BR (rowsL L.acc tests 0 (access.take k)) ∧ ws1.length ≤ ws.length + k * 100 ∧ Only w3 wr (fun b => b < L.B0 ∨ b = L.BK ∨ b = BR))
  case atStart => exact ⟨0, ws, Nat.zero_le _, rfl, rfl, HST3.out, HM3.out, by omega, .refl _ _⟩
  case round =>
    obtain ⟨k, ws4, hk, hgk, rfl, hst, hmp, hwl, hon⟩ := hrel
    obtain ⟨w4, rfl⟩ : ∃ w4 : World, w4 = wr := ⟨_, rfl⟩
    have HGK := Lib.hid hgk
    have HST4 := Lib.hid hst
    have HMP4 := Lib.hid hmp
    have HWL4 := Lib.hid hwl
    have HO4 := Lib.hid hon
    by_cases hlt : k < access.length
    · obtain ⟨bN, oN, AR, m, cR, u, rfl, hcR, hr, hsr⟩ := hst.wordA hlt
      have HU := Lib.hid hr
      have HSR := Lib.hid hsr
      have HUL := Lib.hid ((HAB.out access HA.out).2 u (List.mem_of_getElem? hr))
      clear hgk hst hmp hwl hon hr hsr
      go_wp2_with fail
      have HS1 := Lib.hid (show w4.drew.cell? ⟨L.BL, 5, none⟩ = some (.map (some BR)) from HST4.out.cells.2.2.2.2.2)
      refine wp_region_late (late := []) (S1 := fun u => u.cell? ⟨L.BL, 5, none⟩ = some (.map (some BR))) (S := fun _ => True) (by kernel_rfl) ?_
      refine wpAnyL_pure (i := 0) rfl (by kernel_rfl) (fun _ _ _ h => h) (Or.inl ⟨by rfl, (fun u hu => by go_simp; try rfl)⟩) HS1.out (fun _ => trivial) ?_
      simp only [Act.put, List.setIfInBounds_toArray, List.set_cons_zero, List.set_cons_succ, List.getElem_toArray, List.getElem_cons_zero, List.getElem_cons_succ]
      refine wpAnyL_pure (i := 1) rfl (by kernel_rfl) (fun _ _ _ h => h) (Or.inl ⟨by rfl, (fun u hu => by go_simp; try rfl)⟩) HS1.out (fun _ => trivial) ?_
      simp only [Act.put, List.setIfInBounds_toArray, List.set_cons_zero, List.set_cons_succ, List.getElem_toArray, List.getElem_cons_zero, List.getElem_cons_succ]
      refine wpAnyL_pure (i := 2) rfl (by kernel_rfl) (fun _ _ _ h => h) (Or.inl ⟨by rfl, (fun u hu => by go_simp; try rfl)⟩) HS1.out (fun _ => trivial) ?_
      simp only [Act.put, List.setIfInBounds_toArray, List.set_cons_zero, List.set_cons_succ, List.getElem_toArray, List.getElem_cons_zero, List.getElem_cons_succ]
      refine wpAnyL_pure (i := 3) rfl (by kernel_rfl) (fun _ _ _ h => h) (Or.inl ⟨by rfl, (fun u hu => by go_simp; try rfl)⟩) HS1.out (fun _ => trivial) ?_
      simp only [Act.put, List.setIfInBounds_toArray, List.set_cons_zero, List.set_cons_succ, List.getElem_toArray, List.getElem_cons_zero, List.getElem_cons_succ]
      refine wpAnyL_pure (i := 4) rfl (by kernel_rfl) (fun _ _ _ h => h) (Or.inl ⟨by rfl, (fun u hu => by go_simp; try rfl)⟩) HS1.out (fun _ => trivial) ?_
      simp only [Act.put, List.setIfInBounds_toArray, List.set_cons_zero, List.set_cons_succ, List.getElem_toArray, List.getElem_cons_zero, List.getElem_cons_succ]
      refine wpAnyL_pure (i := 5) rfl (by kernel_rfl) (fun _ _ _ h => h) (Or.inl ⟨by rfl, (fun u hu => by go_simp; try rfl)⟩) HS1.out (fun _ => trivial) ?_
      simp only [Act.put, List.setIfInBounds_toArray, List.set_cons_zero, List.set_cons_succ, List.getElem_toArray, List.getElem_cons_zero, List.getElem_cons_succ]
      refine wpAnyL_pure (i := 7) rfl (by kernel_rfl) (fun _ _ _ h => h) (Or.inl ⟨by rfl, (fun u hu => by go_simp; try rfl)⟩) HS1.out (fun _ => trivial) ?_
      simp only [Act.put, List.setIfInBounds_toArray, List.set_cons_zero, List.set_cons_succ, List.getElem_toArray, List.getElem_cons_zero, List.getElem_cons_succ]
      refine wpAnyL_ready (rs := [6]) (by kernel_rfl) (by simp) ?_
      refine AllL.cons rfl (fun K hK => ?_) ?_
      · go_simp
        refine (learnRow L HL.out w4.drew FL ws4 q _ vT (.map (some BR)) access tests (HST4.out.drew HL.out) _ AR m cR u (HSR.out.drew) (fun b hb => ⟨HST4.out.fl b hb.1, hb.2.2.1⟩) (HA.out.ok u (List.mem_of_getElem? HU.out)) (by have := HUL.out; omega) HT.out (by omega) (by have := HWL4.out; omega)).mono ?_
        rintro e w5 ⟨rfl, ws5, hst5, hl5, ho5⟩
        have HST5 := Lib.hid hst5
        have HL5 := Lib.hid (show ws5.length ≤ ws.length + (k + 1) * 100 by have := HWL4.out; omega)
        have hnBK : BR ≠ L.BK := by have := HBK.out; have := HBR.out; omega
        have hnB0 : ¬ BR < L.B0 := by have := HLE.out; have := HBR.out; omega
        have HM5 := Lib.hid (HMP4.out.drew.only ho5 (by rintro (h | h) <;> omega))
        have HO5 := Lib.hid (show Only w3 w5 (fun b => b < L.B0 ∨ b = L.BK ∨ b = BR) from HO4.out.then (Only.then (Only.drew w4 _) ho5 (fun b _ h => h)) (fun b _ h => by
          rcases h with h | h
          · exact .inl h
          · exact .inr (.inl h)))
        have HS5 := Lib.hid (show w5.cell? ⟨L.BL, 5, none⟩ = some (.map (some BR)) from HST5.out.cells.2.2.2.2.2)
        have HKO := Lib.hid (keyR_ok (l := lrow L.acc tests u) (by rw [lrow_len]; omega))
        have HLN := Lib.hid (show (rowsL L.acc tests 0 (access.take k)).length < maxLen by rw [rowsL_len, List.length_take]; unfold maxLen; omega)
        clear hst5 hl5 ho5 hnBK hnB0
        refine hK.out _ _ HS5.out (fun _ => trivial) ?_
        clear hK K
        refine wpAnyL_ready (rs := [8]) (by kernel_rfl) (by simp) ?_
        refine AllL.cons rfl (fun K hK => ?_) ?_
        · refine step_amap_put _ (by rfl) _ _ _ 40 (by rfl) 3 mapStr BR _ (by rfl) HM5.out (keyR (lrow L.acc tests u)) (by rfl) HKO.out (.int .i64 (k : Int)) (by rfl) HLN.out ?_
          intro w6 hm6 hg6
          have htk : access.take (k + 1) = access.take k ++ [u] := by
            obtain ⟨hl, e⟩ := List.getElem?_eq_some_iff.1 HU.out
            rw [List.take_succ_eq_append_getElem hl, e]
          have hput := rowsL_put (acc := L.acc) (tests := tests) (access := access.take k) (x := u) (fun v hv e => by
            obtain ⟨j, hj⟩ := List.getElem?_of_mem hv
            have hjl := (List.getElem?_eq_some_iff.1 hj).1
            rw [List.length_take] at hjl
            rw [List.getElem?_take_of_lt (by omega)] at hj
            have := HA.out.dist.inj hj HU.out e
            omega)
          rw [List.length_take, Nat.min_eq_left hk] at hput
          rw [hput, ← htk] at hm6
          have HM6 := Lib.hid hm6
          have hoR : Only w5 w6 (fun b => b = BR) := .of_grown hg6 fun b e => by injection e with e; exact e.symm
          have HST6 := Lib.hid (HST5.out.only HL.out hoR (fun b hb => ⟨fun hf => by have := HFZ.out b hf; have := HBR.out; omega, fun _ => by have := HLE.out; have := HBR.out; omega⟩))
          have HO6 := Lib.hid (HO5.out.then hoR fun b _ h => .inr (.inr h))
          have HS6 := Lib.hid (show w6.cell? ⟨L.BL, 5, none⟩ = some (.map (some BR)) from HST6.out.cells.2.2.2.2.2)
          clear hm6 hg6 htk hput hoR
          simp only [Act.put, List.setIfInBounds_toArray, List.set_cons_zero, List.set_cons_succ, List.getElem_toArray, List.getElem_cons_zero, List.getElem_cons_succ]
          refine hK.out _ _ HS6.out (fun _ => trivial) ?_
          clear hK K
          refine wpAnyL_done (by kernel_rfl) ?_ _
          go_wp2_with fail
          go_roundg (access.length - (k + 1))
          case measure => rw [HGK.out]; omega
          case rel => exact ⟨k + 1, ws5, by omega, rfl, by go_num, HST6.out, HM6.out, HL5.out, HO6.out⟩
        exact AllL.nil
      exact AllL.nil
    · obtain rfl : k = access.length := by omega
      have htk : access.take access.length = access := List.take_of_length_le (Nat.le_refl _)
      rw [htk] at hmp
      obtain ⟨BD, hBD⟩ : ∃ BD, BD = w4.heap.size := ⟨_, rfl⟩
      have hBRD : BR + 1 ≤ BD := by rw [hBD]; exact hmp.lt
      have HBRF := Lib.hid (show ¬ FL BR from fun hf => by have := HFZ.out _ hf; have := HBR.out; omega)
      have HC5 := Lib.hid (show CIn L w4 (w4.alloc (.cells #[.int .i64 0, .slice none 0 0, .slice none 0 0] 25)) q BR (BD + 1) vT tests FL FL ws4 ws4 (.slice AA access.length cA0) (.slice AA access.length cA0) access access 0 (fun _ => False) from
        (CIn.refl hst hmp HA.out ⟨by have := HLE.out; have := HBR.out; omega, HBRF.out⟩ (BD + 1) (fun _ => False)).below HL.out ((Below.refl _ _).alloc (Nat.le_refl _) _))
      have HD5 := Lib.hid (show DfaB (w4.alloc (.cells #[.int .i64 0, .slice none 0 0, .slice none 0 0] 25)) (BD + 1) BD 0 [] [] (.slice none 0 0) (.slice none 0 0) [] by rw [hBD]; exact DfaB.start_ w4 0)
      have HBDE := Lib.hid hBD
      have HBDF := Lib.hid (show ∀ b, FL b → b < BD from fun b hb => by have := HFZ.out b hb; have := HBR.out; omega)
      clear hgk hst hmp hwl hon htk
      go_wp2_with fail
      rw [← hBD]
      clear hBD
      go_loopg [7, 8, 9, 10, 11, 12, 13, 14, 15] 21 (fun gk vi va vb vc vd ve vf vg vh wr => ∃ (i : Nat) (FL2 : Nat → Prop) (ws2 : List (List Int)) (vA2 : Value) (access2 : List (List Int)) (accs : List Int) (rows : List (List Int)) (vAc vNx : Value) (xs : List Value), i ≤ access2.length ∧ gk = 21 - i ∧ vi = .int .i64 i ∧
        CIn L w4 wr q BR (BD + 1) vT tests FL FL2 ws4 ws2 (.slice AA access.length cA0) vA2 access access2 (i * 1601) (fun _ => False) ∧ MadeT L.acc L.T tests access2 i accs rows ∧ DfaB wr (BD + 1) BD 0 accs rows vAc vNx xs ∧ ZApart (fun b => FL2 b ∨ b = BR) vAc vNx xs)
      case atStart => exact ⟨0, FL, ws4, _, access, [], [], _, _, [], Nat.zero_le _, rfl, rfl, HC5.out, .nil, HD5.out, .nil _⟩
      case round =>
        obtain ⟨i, FL2, ws2, vA2, access2, accs, rows, vAc, vNx, xs, hi, hgk, rfl, hci, hmd, hdf, hza⟩ := hrel
        obtain ⟨w7, rfl⟩ : ∃ w7 : World, w7 = wr := ⟨_, rfl⟩
        obtain ⟨A2, c2, rfl, hc2⟩ := hci.st.formA
        have HGK2 := Lib.hid hgk
        have HCI := Lib.hid hci
        have HMD := Lib.hid hmd
        have HDF := Lib.hid hdf
        have HZA := Lib.hid hza
        have ha2 : access2.length ≤ 21 := (HAB.out access2 hci.acc).1
        obtain ⟨hk0, _, _, hk3, _, _⟩ := hci.st.cells
        have hT1 := HL.out.t1
        have hT2 := HL.out.t2
        by_cases hil : i < access2.length
        · obtain ⟨bN, oN, AR, mR, cR, u, rfl, hcR, hu, hsu⟩ := hci.st.wordA hil
          have HU := Lib.hid hu
          have hmR : mR ≤ 21 := by rw [hsu.len]; exact (HAB.out access2 hci.acc).2 u (List.mem_of_getElem? hu)
          have HUW := Lib.hid (hci.acc.ok u (List.mem_of_getElem? hu))
          have HSU := Lib.hid hsu.fit
          have hmk := fun W => tInts.make rfl L.T (by omega) (by omega) W
          simp only [made_intsA] at hmk
          obtain ⟨BROW, hBROW⟩ : ∃ BROW, BROW = w7.heap.size := ⟨_, rfl⟩
          obtain ⟨w8, hw8⟩ : ∃ w8 : World, w8 = w7.alloc (.cells (Array.replicate L.T (Value.int .i64 0)) 3) := ⟨_, rfl⟩
          have hz8 : w8.heap.size = BROW + 1 := by rw [hw8, hBROW]; simp
          have hb8 : Below w7.heap.size w7 w8 := by rw [hw8]; exact (Below.refl _ _).alloc (Nat.le_refl _) _
          have HC8 := Lib.hid (hci.below HL.out hb8)
          have HI8 := Lib.hid (show InB w8 BROW (List.replicate L.T 0) by
            rw [hw8, hBROW]
            unfold InB
            rw [show ((List.replicate L.T (0 : Int)).map (Value.int .i64)).toArray = Array.replicate L.T (Value.int .i64 0) by simp]
            exact heap_alloc_new w7 _)
          have HD8 := Lib.hid (hdf.below hb8)
          have HLOW := Lib.hid (show DfaLow BROW vAc vNx xs by rw [hBROW]; exact hdf.low)
          have HBD7 := Lib.hid (show BD < BROW by rw [hBROW]; have := hdf.le; have := hdf.lt; omega)
          have HSU8 := Lib.hid (HSU.out.below hb8)
          have HF7 := Lib.hid (show ∀ b, FL2 b → b < BROW by rw [hBROW]; exact hci.st.flz)
          have HBR7 := Lib.hid (show BR < BROW by rw [hBROW]; exact hci.mp.lt)
          have HW8 := Lib.hid hw8
          have HZ8 := Lib.hid hz8
          have HBROW := Lib.hid hBROW
          clear hgk hci hmd hdf hza hu hsu hw8 hz8 hb8 hBROW
          go_wp2_with fail
          rw [← HW8.out, ← HBROW.out]
          clear hk0 hk3 hcR hmk
          go_loopg [10, 11, 12, 13, 14, 62] L.T (fun gk va vb vc vd ve vj wr => ∃ (j : Nat) (FL3 : Nat → Prop) (ws3 : List (List Int)) (vA3 : Value) (access3 : List (List Int)) (r : List Int), j ≤ L.T ∧ gk = L.T - j ∧ vj = .int .i64 j ∧
            CIn L w8 wr q BR (BROW + 1) vT tests FL2 FL3 ws2 ws3 (.slice (some ⟨bN, oN, none⟩) access2.length c2) vA3 access2 access3 (j * 100) (fun b => b = BROW) ∧ InB wr BROW (halfRow L.T r) ∧ r.length = j ∧ ∀ (c : Nat) (x : Int), r[c]? = some x → CellT L.acc tests access3 u c x)
          case atStart =>
            refine ⟨0, FL2, ws2, _, access2, [], Nat.zero_le _, rfl, rfl, CIn.refl HC8.out.st HC8.out.mp HC8.out.acc HC8.out.br _ _, ?_, rfl, fun c x h => by simp at h⟩
            have : halfRow L.T [] = List.replicate L.T 0 := by simp [halfRow]
            rw [this]
            exact HI8.out
          case round =>
            obtain ⟨j, FL3, ws3, vA3, access3, r, hj, hgj, rfl, hci, hib, hrl, hrc⟩ := hrel
            obtain ⟨w9, rfl⟩ : ∃ w9 : World, w9 = wr := ⟨_, rfl⟩
            obtain ⟨A3, c3, rfl, hc3⟩ := hci.st.formA
            have HGJ := Lib.hid hgj
            have HC9 := Lib.hid hci
            have HI9 := Lib.hid hib
            have HRL := Lib.hid hrl
            have HRC := Lib.hid hrc
            have ha3 : access3.length ≤ 21 := (HAB.out access3 hci.acc).1
            have hw3l : ws3.length ≤ ws2.length + j * 100 := hci.len
            have HNF := Lib.hid (show ¬ FL3 BROW from fun hf => by
              rcases hci.new _ hf with h | h
              · have := HF7.out _ h; omega
              · omega)
            clear hgj hci hib hrl hrc
            have HSU9 := Lib.hid (HSU8.out.keep (HC9.out.on.kept (S := fun b => (FL2 b ∧ b ≠ L.BL ∧ b ≠ L.BK ∧ rowOf (.slice (some ⟨bN, oN, none⟩) access2.length c2) ≠ some b) ∧ b < w7.heap.size) (fun b hb hx => by
              obtain ⟨⟨h1, h2, h3, h4⟩, h5⟩ := hb
              rcases hx with h | h | h | h | h | h
              · have := HC8.out.st.fl b h1; omega
              · exact h2 h
              · exact h3 h
              · exact h4 h
              · exact HC8.out.br.2 (h ▸ h1)
              · have := HBROW.out; omega)))
            by_cases hjl : j < L.T
            · have HUL := Lib.hid HSU9.out.len
              go_wp2_with fail
              refine (cloneInt AR mR cR _ (u.map (Value.int .i64)) w9 HSU9.out.ints (by omega)).mono ?_
              rintro e w10 ⟨v10, rfl, ho10, hb10⟩
              obtain ⟨A11, c11, w11, hrun11, hsl11, hb11⟩ := snocNew w10 w9.heap.size v10 u j mR ho10 hb10.size (by have := HUL.out; omega)
              obtain ⟨A10, c10, rfl, _, _⟩ := ho10.form
              have HRUN11 := Lib.hid hrun11
              have HSL11 := Lib.hid hsl11.fit
              have hb911 : Below w9.heap.size w9 w11 := hb10.trans (hb11.mono (Nat.le_refl _))
              have HC11 := Lib.hid (HC9.out.below HL.out hb911)
              have HI11 := Lib.hid (HI9.out.below hb911)
              have HUS := Lib.hid (show WOkT L.T (u ++ [(j : Int)]) from HUW.out.app (.one hjl))
              have HZ11 := Lib.hid hb911.size
              clear ho10 hb10 hrun11 hsl11 hb11 hb911
              have hw3b : ws3.length ≤ 90000000 := by have := HWL4.out; have := HC8.out.len; omega
              have hrow := learnRow L HL.out w11 FL3 ws3 q (.slice A3 access3.length c3) vT (.map (some BR)) access3 tests HC11.out.st _ A11 (u.length + 1) c11 (u ++ [(j : Int)]) HSL11.out (fun b hb => by
                  have h1 := HC9.out.st.flz _ HC9.out.st.flK
                  have h2 := HC9.out.st.le
                  exact ⟨Nat.le_trans h2 hb.1, fun e => by have := hb.1; omega⟩) HUS.out (by have := HUL.out; rw [List.length_append, List.length_singleton]; omega) HT.out (by omega) hw3b
              have HROW := Lib.hid hrow
              clear hrow
              go_wp2_with (at_builtin; refine Lib.wpList_append_run _ rfl _ _ _ _ rfl _ _ rfl rfl _ _ HRUN11.out ?_)
              refine HROW.out.mono ?_
              rintro e w12 ⟨rfl, hmp12⟩
              obtain ⟨ws12, hc12⟩ := HC11.out.mem hmp12
              obtain ⟨_, _, _, ho12⟩ := hmp12
              have HC12 := Lib.hid (hc12.le (k := (j + 1) * 100) (by omega))
              have hBROWn : ¬ (BROW < L.B0 ∨ BROW = L.BK) := by
                have h1 := HC8.out.st.fl
                have h2 := HF7.out _ HC8.out.st.flK
                have h3 := HC8.out.br.1
                have h4 := HBR7.out
                omega
              have HI12 := Lib.hid (show InB w12 BROW (halfRow L.T r) from (ho12.block BROW (heap_lt HI11.out) hBROWn).trans HI11.out)
              have HSL12 := Lib.hid (HSL11.out.keep (ho12.kept fun b hb => by
                have h1 := HC9.out.st.flz _ HC9.out.st.flK
                have h2 := HC9.out.st.le
                omega))
              have hz12 : w9.heap.size ≤ w12.heap.size := by have := ho12.size; have := HZ11.out; omega
              have HZ12 := Lib.hid hz12
              have hhl : (halfRow L.T r).length = L.T := halfRow_len (by have := HRL.out; omega)
              have HHS := Lib.hid (show ∀ y : Int, (halfRow L.T r).set j y = halfRow L.T (r ++ [y]) from fun y => by
                have := halfRow_set (C := L.T) (l := r) (by have := HRL.out; omega) y
                rwa [HRL.out] at this)
              have hc5 : w12.cell? ⟨L.BL, 5, none⟩ = some (.map (some BR)) := hc12.st.cells.2.2.2.2.2
              have HKO := Lib.hid (keyR_ok (l := lrow L.acc tests (u ++ [(j : Int)])) (by rw [lrow_len]; omega))
              clear hc12 ho12 hz12 hBROWn
              rcases rowsL_lk (acc := L.acc) (tests := tests) (u ++ [(j : Int)]) access3 0 with hlk | hlk
              · obtain ⟨nn, v, h1, h2, h3⟩ := hlk
                rw [Nat.zero_add] at h3
                have HLK := Lib.hid h3
                have HCE := Lib.hid (cells_snoc HRL.out HRC.out (List.prefix_refl _) h1 h2)
                obtain ⟨x0, _, hcx, hfx⟩ := HI12.out.at_ (i := j) (by omega)
                have HI13 := Lib.hid (HI12.out.set j (nn : Int))
                have HC13 := Lib.hid (HC12.out.only HL.out (Only.set w12 BROW j (.int .i64 (nn : Int)) (X := fun b => b = BROW) rfl) (fun b hb => ⟨fun hf => HNF.out (hb ▸ hf), by have := HBR7.out; omega, fun _ => by have := HC8.out.br.1; have := HBR7.out; omega⟩) (fun b _ hb => hb))
                clear h1 h2 h3 hhl
                go_wp2_with (at_lookup; refine wpList_amap_ok _ rfl _ _ 40 rfl 3 mapStr zeroI BR _ rfl HC12.out.mp (keyR (lrow L.acc tests (u ++ [(j : Int)]))) rfl HKO.out ?_; rw [HLK.out])
                go_roundg (L.T - (j + 1))
                case measure => rw [HGJ.out]; omega
                case rel => exact ⟨j + 1, FL3, ws12, _, access3, r ++ [(nn : Int)], by omega, rfl, by go_num, HC13.out, by rw [← HHS.out]; exact HI13.out, by rw [List.length_append, HRL.out]; rfl, HCE.out⟩
              · obtain ⟨h1, h2⟩ := hlk
                have HLK := Lib.hid h2
                have HNEW := Lib.hid h1
                have HLN := Lib.hid (show (rowsL L.acc tests 0 access3).length < maxLen by rw [rowsL_len]; unfold maxLen; omega)
                have hc3' : w12.cell? ⟨L.BL, 3, none⟩ = some (.slice A3 access3.length c3) := HC12.out.st.cells.2.2.2.1
                have hBLn2 := HC12.out.st.lt
                clear h1 h2
                go_wp2_with (first
                  | (at_lookup; refine wpList_amap_ok _ rfl _ _ 40 rfl 3 mapStr zeroI BR _ rfl HC12.out.mp (keyR (lrow L.acc tests (u ++ [(j : Int)]))) rfl HKO.out ?_; rw [HLK.out])
                  | (at_mapUpdate
                     go_loud ((
                      refine wpList_amap_put _ rfl _ _ _ 40 rfl 3 mapStr BR _ rfl HC12.out.mp (keyR (lrow L.acc tests (u ++ [(j : Int)]))) rfl HKO.out (.int .i64 (access3.length : Int)) rfl HLN.out ?_
                      intro w13 hm13 hg13
                      obtain ⟨A14, c14, w14, FL4, hrun14, hc14, ho14, hb14, hb13⟩ := HC12.out.push HL.out HSL12.out (fun b hb => by
                        have h1 := HC9.out.on.size
                        have h2 := HZ8.out
                        have h3 := HBR7.out
                        have h4 := HC9.out.st.le
                        refine ⟨fun hf => ?_, by omega, by omega, by omega⟩
                        have := HC9.out.st.flz b hf
                        omega) (by omega) (by have := HC9.out.on.size; have := HZ8.out; have := HZ12.out; omega) (by have := HZ8.out; omega) (pre_get HC9.out.pre HU.out) hjl HNEW.out hm13 hg13
                      have HRUN14 := Lib.hid hrun14
                      have HC14 := Lib.hid hc14
                      have hbx := HC12.out.st.box
                      have hk13 : w13.cell? ⟨L.BL, 3, none⟩ = some (.slice A3 access3.length c3) := by simp [World.cell?, hb13, hbx]
                      have hk14 : w14.cell? ⟨L.BL, 3, none⟩ = some (.slice A3 access3.length c3) := by simp [World.cell?, hb14, hbx]
                      have hf14 : w14.frozen? ⟨L.BL, 3, none⟩ = false := by simp [World.frozen?, hb14, hbx]
                      have hib14 : InB (w14.setCell ⟨L.BL, 3, none⟩ (.slice A14 (access3.length + 1) c14)) BROW (halfRow L.T r) := (ho14.block BROW (heap_lt HI12.out) (by
                        have h1 := HF7.out _ HC8.out.st.flL
                        have h2 := HBR7.out
                        rintro (h | h | h)
                        · omega
                        · omega
                        · exact HNF.out (HC12.out.st.rowA h).1)).trans HI12.out
                      obtain ⟨x0, _, hcx, hfx⟩ := hib14.at_ (i := j) (by omega)
                      have HI15 := Lib.hid (hib14.set j (access3.length : Int))
                      have HNF4 := Lib.hid (show ¬ FL4 BROW from fun hf => by
                        rcases hc14.new _ hf with h | h
                        · have := HF7.out _ h; omega
                        · omega)
                      have HC15 := Lib.hid (HC14.out.only HL.out (Only.set (w14.setCell ⟨L.BL, 3, none⟩ (.slice A14 (access3.length + 1) c14)) BROW j (.int .i64 (access3.length : Int)) (X := fun b => b = BROW) rfl) (fun b hb => ⟨fun hf => HNF4.out (hb ▸ hf), by have := HBR7.out; omega, fun _ => by have := HC8.out.br.1; have := HBR7.out; omega⟩) (fun b _ hb => hb))
                      have HCE := Lib.hid (cells_snoc (access' := access3 ++ [u ++ [(j : Int)]]) (n := access3.length) (v := u ++ [(j : Int)]) HRL.out HRC.out (List.prefix_append _ _) (by simp) rfl)
                      clear hm13 hg13 hrun14 hc14 ho14 hb14 hb13 hbx hib14)))
                  | (at_builtin; refine Lib.wpList_append_run _ rfl _ _ _ _ rfl _ _ rfl rfl _ _ HRUN14.out ?_))
                go_roundg (L.T - (j + 1))
                case measure => rw [HGJ.out]; omega
                case rel => exact ⟨j + 1, FL4, ws12, _, access3 ++ [u ++ [(j : Int)]], r ++ [(access3.length : Int)], by omega, rfl, by go_num, HC15.out, by rw [← HHS.out]; exact HI15.out, by rw [List.length_append, HRL.out]; rfl, HCE.out⟩
            · obtain rfl : j = L.T := by omega
              have hw3b : ws3.length ≤ 100000000 := by have := HWL4.out; have := HC8.out.len; omega
              have HMB := Lib.hid (learnMember L HL.out w9 FL3 ws3 q (.slice A3 access3.length c3) vT (.map (some BR)) access3 tests HC9.out.st _ AR mR cR u HSU9.out HUW.out (by have := HSU9.out.len; omega) hw3b)
              go_wp2_with fail
              refine HMB.out.mono ?_
              rintro e w10 ⟨rfl, hmp10⟩
              obtain ⟨ws10, hc10⟩ := HC9.out.mem hmp10
              obtain ⟨_, _, _, ho10⟩ := hmp10
              have hBROWn : ¬ (BROW < L.B0 ∨ BROW = L.BK) := by
                have h1 := HF7.out _ HC8.out.st.flK
                have h2 := HC8.out.br.1
                have h3 := HBR7.out
                omega
              have hi10 : InB w10 BROW r := by
                have h1 := HI9.out
                rw [halfRow_full HRL.out] at h1
                exact (ho10.block BROW (heap_lt h1) hBROWn).trans h1
              obtain ⟨hd10, hz10, hnf10⟩ := HC8.out.dfa hc10 HD8.out HZA.out HLOW.out HBD7.out (by omega) HBDF.out
              have hct : CIn L w4 w10 q BR (BD + 1) vT tests FL FL3 ws4 ws10 (.slice AA access.length cA0) (.slice A3 access3.length c3) access access3 ((i + 1) * 1601) (fun _ => False) :=
                (HC8.out.trans hc10 (by have := HBD7.out; omega) (by have := HBDE.out; omega) (fun b hb h => by have := HBD7.out; have := HBDE.out; omega)).le (by omega)
              obtain ⟨T0, hT0⟩ : ∃ T0, T0 = L.T := ⟨_, rfl⟩
              have hrT : r.length = T0 := by rw [hT0]; exact HRL.out
              have hbrj : rowOf (.slice (some ⟨BROW, 0, none⟩) T0 T0) = some BROW := by
                obtain ⟨j', rfl⟩ : ∃ j', T0 = j' + 1 := ⟨T0 - 1, by omega⟩
                rfl
              have hown : Own w10 (BD + 1) 3 1 (.slice (some ⟨BROW, 0, none⟩) T0 T0) r.length (r.map (Value.int .i64)) := by
                rw [hrT]
                exact .inl ⟨by simp [hrT], .inr ⟨BROW, T0, _, rfl, by have := HBD7.out; omega, hi10, Nat.le_refl _, by unfold maxLen; omega, by simp [hrT], by rw [Nat.mul_one]; exact List.take_of_length_le (by simp [hrT])⟩⟩
              have hTZ : ∀ x : Int, TwoZ (fun b => FL3 b ∨ b = BR) w10.drew w10.drew (BD + 1) BD 0 accs rows vAc vNx xs r x (some (.slice (some ⟨BROW, 0, none⟩) T0 T0)) none none none none := fun x =>
                hd10.drew.twoZ r x hown (fun g e e' => by rw [hbrj] at e; injection e with e; subst e; have := HLOW.out.1 _ e'; omega) (fun g e e' => by rw [hbrj] at e; injection e with e; subst e; have := HLOW.out.2.1 _ e'; omega)
                  (fun b hb => by
                    rcases hb with hb | hb
                    · exact ⟨hct.st.flz b hb, fun e => hnf10 (e ▸ hb)⟩
                    · have h1 := hd10.lt
                      have h2 := hd10.le
                      exact ⟨by show b < w10.heap.size; omega, by omega⟩)
                  hz10
                  (fun b hb e => by
                    rw [hbrj] at e
                    injection e with e
                    rcases hb with hb | hb
                    · exact HNF.out (e ▸ hb)
                    · have := HBR7.out
                      omega)
              have HTZ := Lib.hid hTZ
              have HCT := Lib.hid hct
              have hia3 : i < access3.length := Nat.lt_of_lt_of_le hil HC9.out.pre.length_le
              have HMDN := Lib.hid (show MadeT L.acc L.T tests access3 (i + 1) (accs ++ [if L.acc u = true then 0 else -1]) (rows ++ [r]) from (HMD.out.pre hi HC9.out.pre).push (pre_get HC9.out.pre HU.out) HRL.out HRC.out)
              have hcA : w10.drew.cell? ⟨BD, 1, none⟩ = some vAc := hd10.cellA
              have hcN : w10.drew.cell? ⟨BD, 2, none⟩ = some vNx := hd10.cellN
              have HKS := Lib.hid (And.intro hcA hcN)
              have HALL := Lib.hid (show ∀ u : World, Below (BD + 1) w10.drew u → (∀ b, (FL3 b ∨ b = BR) → u.heap[b]? = w10.drew.heap[b]?) → True from fun _ _ _ => trivial)
              have HAL := Lib.hid (show accs.length ≤ 1000000 ∧ rows.length ≤ 1000000 by have h1 := HMD.out.al; have h2 := HMD.out.rl; omega)
              have hac3 : i + 1 ≤ 21 := by omega
              have HYY := Lib.hid (show ∀ b, ((BD + 1 ≤ b ∧ ¬ (FL3 b ∨ b = BR)) ∨ b = BD) → ¬ FL3 b ∧ b ≠ BR ∧ (b < w10.drew.heap.size → L.B0 ≤ b) from fun b hb => by
                have h1 := HC8.out.br.1
                rcases hb with hb | hb
                · exact ⟨fun h => hb.2 (.inl h), fun h => hb.2 (.inr h), fun _ => by omega⟩
                · exact ⟨fun h => hnf10 (hb ▸ h), by omega, fun _ => by omega⟩)
              have HYX := Lib.hid (show ∀ b, b < w4.heap.size → ((BD + 1 ≤ b ∧ ¬ (FL3 b ∨ b = BR)) ∨ b = BD) → False from fun b hb h => by have := HBDE.out; omega)
              rw [← hT0]
              clear hc10 ho10 hBROWn hi10 hd10 hz10 hnf10 hct hbrj hown hTZ hcA hcN hT0 hrT hw3b
              cases hacc : L.acc u with
              | true =>
                have HMDF := Lib.hid (show MadeT L.acc L.T tests access3 (i + 1) (accs ++ [0]) (rows ++ [r]) by have := HMDN.out; rw [hacc, if_pos rfl] at this; exact this)
                have HT := Lib.hid (HTZ.out 0)
                go_wp2_with fail
                refine wp_region_late (late := [11, 13]) (S1 := fun _ => True) (S := fun u => u.cell? ⟨BD, 1, none⟩ = some vAc ∧ u.cell? ⟨BD, 2, none⟩ = some vNx) (by kernel_rfl) ?_
                refine wpAnyL_pure (i := 0) rfl (by kernel_rfl) (fun _ _ _ h => h) (Or.inl ⟨by rfl, (fun u hu => by go_simp; try rfl)⟩) trivial (fun _ => HKS.out) ?_
                simp only [Act.put, List.setIfInBounds_toArray, List.set_cons_zero, List.set_cons_succ, List.getElem_toArray, List.getElem_cons_zero, List.getElem_cons_succ]
                refine wpAnyL_take (i := 1) rfl (by kernel_rfl) (fun _ _ _ h => h) (Or.inl ⟨by rfl, (fun u hu => by obtain ⟨_, hu3, hu4⟩ := hu; go_simp; try rfl)⟩) trivial (fun _ => HKS.out) ?_
                simp only [Act.put, List.setIfInBounds_toArray, List.set_cons_zero, List.set_cons_succ, List.getElem_toArray, List.getElem_cons_zero, List.getElem_cons_succ]
                refine wpAnyL_pure (i := 2) rfl (by kernel_rfl) (fun _ _ _ h => h) (Or.inl ⟨by rfl, (fun u hu => by go_simp; try rfl)⟩) trivial (fun _ => HKS.out) ?_
                simp only [Act.put, List.setIfInBounds_toArray, List.set_cons_zero, List.set_cons_succ, List.getElem_toArray, List.getElem_cons_zero, List.getElem_cons_succ]
                refine wpAnyL_pure (i := 5) rfl (by kernel_rfl) (fun _ _ _ h => h) (Or.inl ⟨by rfl, (fun u hu => by go_simp; try rfl)⟩) trivial (fun _ => HKS.out) ?_
                simp only [Act.put, List.setIfInBounds_toArray, List.set_cons_zero, List.set_cons_succ, List.getElem_toArray, List.getElem_cons_zero, List.getElem_cons_succ]
                refine wpAnyL_take (i := 6) rfl (by kernel_rfl) (fun _ _ _ h => h) (Or.inl ⟨by rfl, (fun u hu => by obtain ⟨_, hu3, hu4⟩ := hu; go_simp; try rfl)⟩) trivial (fun _ => HKS.out) ?_
                simp only [Act.put, List.setIfInBounds_toArray, List.set_cons_zero, List.set_cons_succ, List.getElem_toArray, List.getElem_cons_zero, List.getElem_cons_succ]
                refine wpAnyL_pure (i := 7) rfl (by kernel_rfl) (fun _ _ _ h => h) (Or.inl ⟨by rfl, (fun u hu => by go_simp; try rfl)⟩) trivial (fun _ => HKS.out) ?_
                simp only [Act.put, List.setIfInBounds_toArray, List.set_cons_zero, List.set_cons_succ, List.getElem_toArray, List.getElem_cons_zero, List.getElem_cons_succ]
                refine wpAnyL_ready (rs := [3, 8]) (by kernel_rfl) (by simp) ?_
                refine AllL.cons rfl (fun K hK => ?_) ?_
                · go_simp
                  have HT1 := Lib.hid (HT.out.allocN _ (by first | exact World.size_alloc _ _ | rfl) 22)
                  refine hK.out _ _ (HALL.out _ HT1.out.below HT1.out.keep) (fun _ => ⟨HT1.out.two.cellA, HT1.out.two.cellN⟩) ?_
                  clear hK K
                  refine wpAnyL_ready (rs := [4, 8]) (by kernel_rfl) (by simp) ?_
                  refine AllL.cons rfl (fun K hK => ?_) ?_
                  · obtain ⟨u2, w2, hrun, ⟨A2, c2, rfl⟩, hT⟩ := HT1.out.appN HAL.out.2
                    have HT2 := Lib.hid hT
                    have HR2 := Lib.hid hrun
                    clear hT hrun
                    refine step_append_run _ (by rfl) _ _ _ _ (by rfl) _ _ (by rfl) (by rfl) _ _ HR2.out ?_
                    simp only [Act.put, List.setIfInBounds_toArray, List.set_cons_zero, List.set_cons_succ, List.getElem_toArray, List.getElem_cons_zero, List.getElem_cons_succ]
                    refine hK.out _ _ (HALL.out _ HT2.out.below HT2.out.keep) (fun _ => ⟨HT2.out.two.cellA, HT2.out.two.cellN⟩) ?_
                    clear hK K
                    refine wpAnyL_pure (i := 10) rfl (by kernel_rfl) (fun _ _ _ h => h) (Or.inl ⟨by rfl, (fun u hu => by go_simp; try rfl)⟩) (HALL.out _ HT2.out.below HT2.out.keep) (fun _ => ⟨HT2.out.two.cellA, HT2.out.two.cellN⟩) ?_
                    simp only [Act.put, List.setIfInBounds_toArray, List.set_cons_zero, List.set_cons_succ, List.getElem_toArray, List.getElem_cons_zero, List.getElem_cons_succ]
                    refine wpAnyL_ready (rs := [8]) (by kernel_rfl) (by simp) ?_
                    refine AllL.cons rfl (fun K hK => ?_) ?_
                    · go_simp
                      have HT3 := Lib.hid (HT2.out.allocA _ (by first | exact World.size_alloc _ _ | rfl) 3)
                      refine hK.out _ _ (HALL.out _ HT3.out.below HT3.out.keep) (fun _ => ⟨HT3.out.two.cellA, HT3.out.two.cellN⟩) ?_
                      clear hK K
                      refine wpAnyL_ready (rs := [9]) (by kernel_rfl) (by simp) ?_
                      refine AllL.cons rfl (fun K hK => ?_) ?_
                      · obtain ⟨u4, w4, hrun, ⟨A4, c4, rfl⟩, hT⟩ := HT3.out.appA HAL.out.1
                        have HT4 := Lib.hid hT
                        have HR4 := Lib.hid hrun
                        clear hT hrun
                        refine step_append_run _ (by rfl) _ _ _ _ (by rfl) _ _ (by rfl) (by rfl) _ _ HR4.out ?_
                        simp only [Act.put, List.setIfInBounds_toArray, List.set_cons_zero, List.set_cons_succ, List.getElem_toArray, List.getElem_cons_zero, List.getElem_cons_succ]
                        refine hK.out _ _ (HALL.out _ HT4.out.below HT4.out.keep) (fun _ => ⟨HT4.out.two.cellA, HT4.out.two.cellN⟩) ?_
                        clear hK K
                        refine wpAnyL_ready (rs := [11]) (by kernel_rfl) (by simp) ?_
                        refine AllL.cons rfl (fun K hK => ?_) ?_
                        · have hc := HT4.out.two.cellN
                          have hf := HT4.out.two.fr 2
                          go_simp
                          clear hc hf
                          refine hK.out _ _ trivial (fun h => absurd (h 11 (by simp)) (by decide)) ?_
                          clear hK K
                          refine wpAnyL_pure (i := 12) rfl (by kernel_rfl) (fun _ _ _ h => h) (Or.inl ⟨by rfl, (fun u hu => by go_simp; try rfl)⟩) trivial (fun h => absurd (h 11 (by simp)) (by decide)) ?_
                          simp only [Act.put, List.setIfInBounds_toArray, List.set_cons_zero, List.set_cons_succ, List.getElem_toArray, List.getElem_cons_zero, List.getElem_cons_succ]
                          refine wpAnyL_ready (rs := [13]) (by kernel_rfl) (by simp) ?_
                          refine AllL.cons rfl (fun K hK => ?_) ?_
                          · have hc := fun u => setOther0 (u := u) (HT4.out.two.cellA) (HT4.out.two.fr 1)
                            have hc1 := fun u => (hc u).1
                            have hc2 := fun u => (hc u).2
                            clear hc
                            go_simp
                            clear hc1 hc2
                            refine hK.out _ _ trivial (fun h => absurd (h 11 (by simp)) (by decide)) ?_
                            clear hK K
                            refine wpAnyL_done (by kernel_rfl) ?_ _
                            have HD1 := Lib.hid HT4.out.done
                            have HO1 := Lib.hid HT4.out.only
                            go_wp2_with fail
                            go_roundg (21 - (i + 1))
                            case measure => rw [HGK2.out]; omega
                            case rel => exact ⟨i + 1, FL3, ws10, _, access3, _, _, _, _, _, by omega, rfl, by go_num, (HCT.out.below HL.out (Below.refl _ _).drew).only HL.out HO1.out HYY.out HYX.out, HMDF.out, HD1.out.1, HD1.out.2.1⟩
                          exact AllL.nil
                        exact AllL.nil
                      exact AllL.nil
                    exact AllL.nil
                  refine AllL.cons rfl (fun K hK => ?_) ?_
                  · go_simp
                    have HT7 := Lib.hid (HT1.out.allocA _ (by first | exact World.size_alloc _ _ | rfl) 3)
                    refine hK.out _ _ (HALL.out _ HT7.out.below HT7.out.keep) (fun _ => ⟨HT7.out.two.cellA, HT7.out.two.cellN⟩) ?_
                    clear hK K
                    refine wpAnyL_ready (rs := [4]) (by kernel_rfl) (by simp) ?_
                    refine AllL.cons rfl (fun K hK => ?_) ?_
                    · obtain ⟨u8, w8, hrun, ⟨A8, c8, rfl⟩, hT⟩ := HT7.out.appN HAL.out.2
                      have HT8 := Lib.hid hT
                      have HR8 := Lib.hid hrun
                      clear hT hrun
                      refine step_append_run _ (by rfl) _ _ _ _ (by rfl) _ _ (by rfl) (by rfl) _ _ HR8.out ?_
                      simp only [Act.put, List.setIfInBounds_toArray, List.set_cons_zero, List.set_cons_succ, List.getElem_toArray, List.getElem_cons_zero, List.getElem_cons_succ]
                      refine hK.out _ _ (HALL.out _ HT8.out.below HT8.out.keep) (fun _ => ⟨HT8.out.two.cellA, HT8.out.two.cellN⟩) ?_
                      clear hK K
                      refine wpAnyL_pure (i := 10) rfl (by kernel_rfl) (fun _ _ _ h => h) (Or.inl ⟨by rfl, (fun u hu => by go_simp; try rfl)⟩) (HALL.out _ HT8.out.below HT8.out.keep) (fun _ => ⟨HT8.out.two.cellA, HT8.out.two.cellN⟩) ?_
                      simp only [Act.put, List.setIfInBounds_toArray, List.set_cons_zero, List.set_cons_succ, List.getElem_toArray, List.getElem_cons_zero, List.getElem_cons_succ]
                      refine wpAnyL_ready (rs := [9]) (by kernel_rfl) (by simp) ?_
                      refine AllL.cons rfl (fun K hK => ?_) ?_
                      · obtain ⟨u9, w9, hrun, ⟨A9, c9, rfl⟩, hT⟩ := HT8.out.appA HAL.out.1
                        have HT9 := Lib.hid hT
                        have HR9 := Lib.hid hrun
                        clear hT hrun
                        refine step_append_run _ (by rfl) _ _ _ _ (by rfl) _ _ (by rfl) (by rfl) _ _ HR9.out ?_
                        simp only [Act.put, List.setIfInBounds_toArray, List.set_cons_zero, List.set_cons_succ, List.getElem_toArray, List.getElem_cons_zero, List.getElem_cons_succ]
                        refine hK.out _ _ (HALL.out _ HT9.out.below HT9.out.keep) (fun _ => ⟨HT9.out.two.cellA, HT9.out.two.cellN⟩) ?_
                        clear hK K
                        refine wpAnyL_ready (rs := [11]) (by kernel_rfl) (by simp) ?_
                        refine AllL.cons rfl (fun K hK => ?_) ?_
                        · have hc := HT9.out.two.cellN
                          have hf := HT9.out.two.fr 2
                          go_simp
                          clear hc hf
                          refine hK.out _ _ trivial (fun h => absurd (h 11 (by simp)) (by decide)) ?_
                          clear hK K
                          refine wpAnyL_pure (i := 12) rfl (by kernel_rfl) (fun _ _ _ h => h) (Or.inl ⟨by rfl, (fun u hu => by go_simp; try rfl)⟩) trivial (fun h => absurd (h 11 (by simp)) (by decide)) ?_
                          simp only [Act.put, List.setIfInBounds_toArray, List.set_cons_zero, List.set_cons_succ, List.getElem_toArray, List.getElem_cons_zero, List.getElem_cons_succ]
                          refine wpAnyL_ready (rs := [13]) (by kernel_rfl) (by simp) ?_
                          refine AllL.cons rfl (fun K hK => ?_) ?_
                          · have hc := fun u => setOther0 (u := u) (HT9.out.two.cellA) (HT9.out.two.fr 1)
                            have hc1 := fun u => (hc u).1
                            have hc2 := fun u => (hc u).2
                            clear hc
                            go_simp
                            clear hc1 hc2
                            refine hK.out _ _ trivial (fun h => absurd (h 11 (by simp)) (by decide)) ?_
                            clear hK K
                            refine wpAnyL_done (by kernel_rfl) ?_ _
                            have HD2 := Lib.hid HT9.out.done
                            have HO2 := Lib.hid HT9.out.only
                            go_wp2_with fail
                            go_roundg (21 - (i + 1))
                            case measure => rw [HGK2.out]; omega
                            case rel => exact ⟨i + 1, FL3, ws10, _, access3, _, _, _, _, _, by omega, rfl, by go_num, (HCT.out.below HL.out (Below.refl _ _).drew).only HL.out HO2.out HYY.out HYX.out, HMDF.out, HD2.out.1, HD2.out.2.1⟩
                          exact AllL.nil
                        exact AllL.nil
                      exact AllL.nil
                    exact AllL.nil
                  exact AllL.nil
                refine AllL.cons rfl (fun K hK => ?_) ?_
                · go_simp
                  have HT12 := Lib.hid (HT.out.allocA _ (by first | exact World.size_alloc _ _ | rfl) 3)
                  refine hK.out _ _ (HALL.out _ HT12.out.below HT12.out.keep) (fun _ => ⟨HT12.out.two.cellA, HT12.out.two.cellN⟩) ?_
                  clear hK K
                  refine wpAnyL_ready (rs := [3]) (by kernel_rfl) (by simp) ?_
                  refine AllL.cons rfl (fun K hK => ?_) ?_
                  · go_simp
                    have HT13 := Lib.hid (HT12.out.allocN _ (by first | exact World.size_alloc _ _ | rfl) 22)
                    refine hK.out _ _ (HALL.out _ HT13.out.below HT13.out.keep) (fun _ => ⟨HT13.out.two.cellA, HT13.out.two.cellN⟩) ?_
                    clear hK K
                    refine wpAnyL_ready (rs := [4]) (by kernel_rfl) (by simp) ?_
                    refine AllL.cons rfl (fun K hK => ?_) ?_
                    · obtain ⟨u14, w14, hrun, ⟨A14, c14, rfl⟩, hT⟩ := HT13.out.appN HAL.out.2
                      have HT14 := Lib.hid hT
                      have HR14 := Lib.hid hrun
                      clear hT hrun
                      refine step_append_run _ (by rfl) _ _ _ _ (by rfl) _ _ (by rfl) (by rfl) _ _ HR14.out ?_
                      simp only [Act.put, List.setIfInBounds_toArray, List.set_cons_zero, List.set_cons_succ, List.getElem_toArray, List.getElem_cons_zero, List.getElem_cons_succ]
                      refine hK.out _ _ (HALL.out _ HT14.out.below HT14.out.keep) (fun _ => ⟨HT14.out.two.cellA, HT14.out.two.cellN⟩) ?_
                      clear hK K
                      refine wpAnyL_pure (i := 10) rfl (by kernel_rfl) (fun _ _ _ h => h) (Or.inl ⟨by rfl, (fun u hu => by go_simp; try rfl)⟩) (HALL.out _ HT14.out.below HT14.out.keep) (fun _ => ⟨HT14.out.two.cellA, HT14.out.two.cellN⟩) ?_
                      simp only [Act.put, List.setIfInBounds_toArray, List.set_cons_zero, List.set_cons_succ, List.getElem_toArray, List.getElem_cons_zero, List.getElem_cons_succ]
                      refine wpAnyL_ready (rs := [9]) (by kernel_rfl) (by simp) ?_
                      refine AllL.cons rfl (fun K hK => ?_) ?_
                      · obtain ⟨u15, w15, hrun, ⟨A15, c15, rfl⟩, hT⟩ := HT14.out.appA HAL.out.1
                        have HT15 := Lib.hid hT
                        have HR15 := Lib.hid hrun
                        clear hT hrun
                        refine step_append_run _ (by rfl) _ _ _ _ (by rfl) _ _ (by rfl) (by rfl) _ _ HR15.out ?_
                        simp only [Act.put, List.setIfInBounds_toArray, List.set_cons_zero, List.set_cons_succ, List.getElem_toArray, List.getElem_cons_zero, List.getElem_cons_succ]
                        refine hK.out _ _ (HALL.out _ HT15.out.below HT15.out.keep) (fun _ => ⟨HT15.out.two.cellA, HT15.out.two.cellN⟩) ?_
                        clear hK K
                        refine wpAnyL_ready (rs := [11]) (by kernel_rfl) (by simp) ?_
                        refine AllL.cons rfl (fun K hK => ?_) ?_
                        · have hc := HT15.out.two.cellN
                          have hf := HT15.out.two.fr 2
                          go_simp
                          clear hc hf
                          refine hK.out _ _ trivial (fun h => absurd (h 11 (by simp)) (by decide)) ?_
                          clear hK K
                          refine wpAnyL_pure (i := 12) rfl (by kernel_rfl) (fun _ _ _ h => h) (Or.inl ⟨by rfl, (fun u hu => by go_simp; try rfl)⟩) trivial (fun h => absurd (h 11 (by simp)) (by decide)) ?_
                          simp only [Act.put, List.setIfInBounds_toArray, List.set_cons_zero, List.set_cons_succ, List.getElem_toArray, List.getElem_cons_zero, List.getElem_cons_succ]
                          refine wpAnyL_ready (rs := [13]) (by kernel_rfl) (by simp) ?_
                          refine AllL.cons rfl (fun K hK => ?_) ?_
                          · have hc := fun u => setOther0 (u := u) (HT15.out.two.cellA) (HT15.out.two.fr 1)
                            have hc1 := fun u => (hc u).1
                            have hc2 := fun u => (hc u).2
                            clear hc
                            go_simp
                            clear hc1 hc2
                            refine hK.out _ _ trivial (fun h => absurd (h 11 (by simp)) (by decide)) ?_
                            clear hK K
                            refine wpAnyL_done (by kernel_rfl) ?_ _
                            have HD3 := Lib.hid HT15.out.done
                            have HO3 := Lib.hid HT15.out.only
                            go_wp2_with fail
                            go_roundg (21 - (i + 1))
                            case measure => rw [HGK2.out]; omega
                            case rel => exact ⟨i + 1, FL3, ws10, _, access3, _, _, _, _, _, by omega, rfl, by go_num, (HCT.out.below HL.out (Below.refl _ _).drew).only HL.out HO3.out HYY.out HYX.out, HMDF.out, HD3.out.1, HD3.out.2.1⟩
                          exact AllL.nil
                        exact AllL.nil
                      exact AllL.nil
                    exact AllL.nil
                  exact AllL.nil
                exact AllL.nil
              | false =>
                have HMDF := Lib.hid (show MadeT L.acc L.T tests access3 (i + 1) (accs ++ [-1]) (rows ++ [r]) by have := HMDN.out; rw [hacc] at this; exact this)
                have HT := Lib.hid (HTZ.out (-1))
                go_wp2_with fail
                refine wp_region_late (late := [11, 13]) (S1 := fun _ => True) (S := fun u => u.cell? ⟨BD, 1, none⟩ = some vAc ∧ u.cell? ⟨BD, 2, none⟩ = some vNx) (by kernel_rfl) ?_
                refine wpAnyL_pure (i := 0) rfl (by kernel_rfl) (fun _ _ _ h => h) (Or.inl ⟨by rfl, (fun u hu => by go_simp; try rfl)⟩) trivial (fun _ => HKS.out) ?_
                simp only [Act.put, List.setIfInBounds_toArray, List.set_cons_zero, List.set_cons_succ, List.getElem_toArray, List.getElem_cons_zero, List.getElem_cons_succ]
                refine wpAnyL_take (i := 1) rfl (by kernel_rfl) (fun _ _ _ h => h) (Or.inl ⟨by rfl, (fun u hu => by obtain ⟨_, hu3, hu4⟩ := hu; go_simp; try rfl)⟩) trivial (fun _ => HKS.out) ?_
                simp only [Act.put, List.setIfInBounds_toArray, List.set_cons_zero, List.set_cons_succ, List.getElem_toArray, List.getElem_cons_zero, List.getElem_cons_succ]
                refine wpAnyL_pure (i := 2) rfl (by kernel_rfl) (fun _ _ _ h => h) (Or.inl ⟨by rfl, (fun u hu => by go_simp; try rfl)⟩) trivial (fun _ => HKS.out) ?_
                simp only [Act.put, List.setIfInBounds_toArray, List.set_cons_zero, List.set_cons_succ, List.getElem_toArray, List.getElem_cons_zero, List.getElem_cons_succ]
                refine wpAnyL_pure (i := 5) rfl (by kernel_rfl) (fun _ _ _ h => h) (Or.inl ⟨by rfl, (fun u hu => by go_simp; try rfl)⟩) trivial (fun _ => HKS.out) ?_
                simp only [Act.put, List.setIfInBounds_toArray, List.set_cons_zero, List.set_cons_succ, List.getElem_toArray, List.getElem_cons_zero, List.getElem_cons_succ]
                refine wpAnyL_take (i := 6) rfl (by kernel_rfl) (fun _ _ _ h => h) (Or.inl ⟨by rfl, (fun u hu => by obtain ⟨_, hu3, hu4⟩ := hu; go_simp; try rfl)⟩) trivial (fun _ => HKS.out) ?_
                simp only [Act.put, List.setIfInBounds_toArray, List.set_cons_zero, List.set_cons_succ, List.getElem_toArray, List.getElem_cons_zero, List.getElem_cons_succ]
                refine wpAnyL_pure (i := 7) rfl (by kernel_rfl) (fun _ _ _ h => h) (Or.inl ⟨by rfl, (fun u hu => by go_simp; try rfl)⟩) trivial (fun _ => HKS.out) ?_
                simp only [Act.put, List.setIfInBounds_toArray, List.set_cons_zero, List.set_cons_succ, List.getElem_toArray, List.getElem_cons_zero, List.getElem_cons_succ]
                refine wpAnyL_ready (rs := [3, 8]) (by kernel_rfl) (by simp) ?_
                refine AllL.cons rfl (fun K hK => ?_) ?_
                · go_simp
                  have HT1 := Lib.hid (HT.out.allocN _ (by first | exact World.size_alloc _ _ | rfl) 22)
                  refine hK.out _ _ (HALL.out _ HT1.out.below HT1.out.keep) (fun _ => ⟨HT1.out.two.cellA, HT1.out.two.cellN⟩) ?_
                  clear hK K
                  refine wpAnyL_ready (rs := [4, 8]) (by kernel_rfl) (by simp) ?_
                  refine AllL.cons rfl (fun K hK => ?_) ?_
                  · obtain ⟨u2, w2, hrun, ⟨A2, c2, rfl⟩, hT⟩ := HT1.out.appN HAL.out.2
                    have HT2 := Lib.hid hT
                    have HR2 := Lib.hid hrun
                    clear hT hrun
                    refine step_append_run _ (by rfl) _ _ _ _ (by rfl) _ _ (by rfl) (by rfl) _ _ HR2.out ?_
                    simp only [Act.put, List.setIfInBounds_toArray, List.set_cons_zero, List.set_cons_succ, List.getElem_toArray, List.getElem_cons_zero, List.getElem_cons_succ]
                    refine hK.out _ _ (HALL.out _ HT2.out.below HT2.out.keep) (fun _ => ⟨HT2.out.two.cellA, HT2.out.two.cellN⟩) ?_
                    clear hK K
                    refine wpAnyL_pure (i := 10) rfl (by kernel_rfl) (fun _ _ _ h => h) (Or.inl ⟨by rfl, (fun u hu => by go_simp; try rfl)⟩) (HALL.out _ HT2.out.below HT2.out.keep) (fun _ => ⟨HT2.out.two.cellA, HT2.out.two.cellN⟩) ?_
                    simp only [Act.put, List.setIfInBounds_toArray, List.set_cons_zero, List.set_cons_succ, List.getElem_toArray, List.getElem_cons_zero, List.getElem_cons_succ]
                    refine wpAnyL_ready (rs := [8]) (by kernel_rfl) (by simp) ?_
                    refine AllL.cons rfl (fun K hK => ?_) ?_
                    · go_simp
                      have HT3 := Lib.hid (HT2.out.allocA _ (by first | exact World.size_alloc _ _ | rfl) 3)
                      refine hK.out _ _ (HALL.out _ HT3.out.below HT3.out.keep) (fun _ => ⟨HT3.out.two.cellA, HT3.out.two.cellN⟩) ?_
                      clear hK K
                      refine wpAnyL_ready (rs := [9]) (by kernel_rfl) (by simp) ?_
                      refine AllL.cons rfl (fun K hK => ?_) ?_
                      · obtain ⟨u4, w4, hrun, ⟨A4, c4, rfl⟩, hT⟩ := HT3.out.appA HAL.out.1
                        have HT4 := Lib.hid hT
                        have HR4 := Lib.hid hrun
                        clear hT hrun
                        refine step_append_run _ (by rfl) _ _ _ _ (by rfl) _ _ (by rfl) (by rfl) _ _ HR4.out ?_
                        simp only [Act.put, List.setIfInBounds_toArray, List.set_cons_zero, List.set_cons_succ, List.getElem_toArray, List.getElem_cons_zero, List.getElem_cons_succ]
                        refine hK.out _ _ (HALL.out _ HT4.out.below HT4.out.keep) (fun _ => ⟨HT4.out.two.cellA, HT4.out.two.cellN⟩) ?_
                        clear hK K
                        refine wpAnyL_ready (rs := [11]) (by kernel_rfl) (by simp) ?_
                        refine AllL.cons rfl (fun K hK => ?_) ?_
                        · have hc := HT4.out.two.cellN
                          have hf := HT4.out.two.fr 2
                          go_simp
                          clear hc hf
                          refine hK.out _ _ trivial (fun h => absurd (h 11 (by simp)) (by decide)) ?_
                          clear hK K
                          refine wpAnyL_pure (i := 12) rfl (by kernel_rfl) (fun _ _ _ h => h) (Or.inl ⟨by rfl, (fun u hu => by go_simp; try rfl)⟩) trivial (fun h => absurd (h 11 (by simp)) (by decide)) ?_
                          simp only [Act.put, List.setIfInBounds_toArray, List.set_cons_zero, List.set_cons_succ, List.getElem_toArray, List.getElem_cons_zero, List.getElem_cons_succ]
                          refine wpAnyL_ready (rs := [13]) (by kernel_rfl) (by simp) ?_
                          refine AllL.cons rfl (fun K hK => ?_) ?_
                          · have hc := fun u => setOther0 (u := u) (HT4.out.two.cellA) (HT4.out.two.fr 1)
                            have hc1 := fun u => (hc u).1
                            have hc2 := fun u => (hc u).2
                            clear hc
                            go_simp
                            clear hc1 hc2
                            refine hK.out _ _ trivial (fun h => absurd (h 11 (by simp)) (by decide)) ?_
                            clear hK K
                            refine wpAnyL_done (by kernel_rfl) ?_ _
                            have HD1 := Lib.hid HT4.out.done
                            have HO1 := Lib.hid HT4.out.only
                            go_wp2_with fail
                            go_roundg (21 - (i + 1))
                            case measure => rw [HGK2.out]; omega
                            case rel => exact ⟨i + 1, FL3, ws10, _, access3, _, _, _, _, _, by omega, rfl, by go_num, (HCT.out.below HL.out (Below.refl _ _).drew).only HL.out HO1.out HYY.out HYX.out, HMDF.out, HD1.out.1, HD1.out.2.1⟩
                          exact AllL.nil
                        exact AllL.nil
                      exact AllL.nil
                    exact AllL.nil
                  refine AllL.cons rfl (fun K hK => ?_) ?_
                  · go_simp
                    have HT7 := Lib.hid (HT1.out.allocA _ (by first | exact World.size_alloc _ _ | rfl) 3)
                    refine hK.out _ _ (HALL.out _ HT7.out.below HT7.out.keep) (fun _ => ⟨HT7.out.two.cellA, HT7.out.two.cellN⟩) ?_
                    clear hK K
                    refine wpAnyL_ready (rs := [4]) (by kernel_rfl) (by simp) ?_
                    refine AllL.cons rfl (fun K hK => ?_) ?_
                    · obtain ⟨u8, w8, hrun, ⟨A8, c8, rfl⟩, hT⟩ := HT7.out.appN HAL.out.2
                      have HT8 := Lib.hid hT
                      have HR8 := Lib.hid hrun
                      clear hT hrun
                      refine step_append_run _ (by rfl) _ _ _ _ (by rfl) _ _ (by rfl) (by rfl) _ _ HR8.out ?_
                      simp only [Act.put, List.setIfInBounds_toArray, List.set_cons_zero, List.set_cons_succ, List.getElem_toArray, List.getElem_cons_zero, List.getElem_cons_succ]
                      refine hK.out _ _ (HALL.out _ HT8.out.below HT8.out.keep) (fun _ => ⟨HT8.out.two.cellA, HT8.out.two.cellN⟩) ?_
                      clear hK K
                      refine wpAnyL_pure (i := 10) rfl (by kernel_rfl) (fun _ _ _ h => h) (Or.inl ⟨by rfl, (fun u hu => by go_simp; try rfl)⟩) (HALL.out _ HT8.out.below HT8.out.keep) (fun _ => ⟨HT8.out.two.cellA, HT8.out.two.cellN⟩) ?_
                      simp only [Act.put, List.setIfInBounds_toArray, List.set_cons_zero, List.set_cons_succ, List.getElem_toArray, List.getElem_cons_zero, List.getElem_cons_succ]
                      refine wpAnyL_ready (rs := [9]) (by kernel_rfl) (by simp) ?_
                      refine AllL.cons rfl (fun K hK => ?_) ?_
                      · obtain ⟨u9, w9, hrun, ⟨A9, c9, rfl⟩, hT⟩ := HT8.out.appA HAL.out.1
                        have HT9 := Lib.hid hT
                        have HR9 := Lib.hid hrun
                        clear hT hrun
                        refine step_append_run _ (by rfl) _ _ _ _ (by rfl) _ _ (by rfl) (by rfl) _ _ HR9.out ?_
                        simp only [Act.put, List.setIfInBounds_toArray, List.set_cons_zero, List.set_cons_succ, List.getElem_toArray, List.getElem_cons_zero, List.getElem_cons_succ]
                        refine hK.out _ _ (HALL.out _ HT9.out.below HT9.out.keep) (fun _ => ⟨HT9.out.two.cellA, HT9.out.two.cellN⟩) ?_
                        clear hK K
                        refine wpAnyL_ready (rs := [11]) (by kernel_rfl) (by simp) ?_
                        refine AllL.cons rfl (fun K hK => ?_) ?_
                        · have hc := HT9.out.two.cellN
                          have hf := HT9.out.two.fr 2
                          go_simp
                          clear hc hf
                          refine hK.out _ _ trivial (fun h => absurd (h 11 (by simp)) (by decide)) ?_
                          clear hK K
                          refine wpAnyL_pure (i := 12) rfl (by kernel_rfl) (fun _ _ _ h => h) (Or.inl ⟨by rfl, (fun u hu => by go_simp; try rfl)⟩) trivial (fun h => absurd (h 11 (by simp)) (by decide)) ?_
                          simp only [Act.put, List.setIfInBounds_toArray, List.set_cons_zero, List.set_cons_succ, List.getElem_toArray, List.getElem_cons_zero, List.getElem_cons_succ]
                          refine wpAnyL_ready (rs := [13]) (by kernel_rfl) (by simp) ?_
                          refine AllL.cons rfl (fun K hK => ?_) ?_
                          · have hc := fun u => setOther0 (u := u) (HT9.out.two.cellA) (HT9.out.two.fr 1)
                            have hc1 := fun u => (hc u).1
                            have hc2 := fun u => (hc u).2
                            clear hc
                            go_simp
                            clear hc1 hc2
                            refine hK.out _ _ trivial (fun h => absurd (h 11 (by simp)) (by decide)) ?_
                            clear hK K
                            refine wpAnyL_done (by kernel_rfl) ?_ _
                            have HD2 := Lib.hid HT9.out.done
                            have HO2 := Lib.hid HT9.out.only
                            go_wp2_with fail
                            go_roundg (21 - (i + 1))
                            case measure => rw [HGK2.out]; omega
                            case rel => exact ⟨i + 1, FL3, ws10, _, access3, _, _, _, _, _, by omega, rfl, by go_num, (HCT.out.below HL.out (Below.refl _ _).drew).only HL.out HO2.out HYY.out HYX.out, HMDF.out, HD2.out.1, HD2.out.2.1⟩
                          exact AllL.nil
                        exact AllL.nil
                      exact AllL.nil
                    exact AllL.nil
                  exact AllL.nil
                refine AllL.cons rfl (fun K hK => ?_) ?_
                · go_simp
                  have HT12 := Lib.hid (HT.out.allocA _ (by first | exact World.size_alloc _ _ | rfl) 3)
                  refine hK.out _ _ (HALL.out _ HT12.out.below HT12.out.keep) (fun _ => ⟨HT12.out.two.cellA, HT12.out.two.cellN⟩) ?_
                  clear hK K
                  refine wpAnyL_ready (rs := [3]) (by kernel_rfl) (by simp) ?_
                  refine AllL.cons rfl (fun K hK => ?_) ?_
                  · go_simp
                    have HT13 := Lib.hid (HT12.out.allocN _ (by first | exact World.size_alloc _ _ | rfl) 22)
                    refine hK.out _ _ (HALL.out _ HT13.out.below HT13.out.keep) (fun _ => ⟨HT13.out.two.cellA, HT13.out.two.cellN⟩) ?_
                    clear hK K
                    refine wpAnyL_ready (rs := [4]) (by kernel_rfl) (by simp) ?_
                    refine AllL.cons rfl (fun K hK => ?_) ?_
                    · obtain ⟨u14, w14, hrun, ⟨A14, c14, rfl⟩, hT⟩ := HT13.out.appN HAL.out.2
                      have HT14 := Lib.hid hT
                      have HR14 := Lib.hid hrun
                      clear hT hrun
                      refine step_append_run _ (by rfl) _ _ _ _ (by rfl) _ _ (by rfl) (by rfl) _ _ HR14.out ?_
                      simp only [Act.put, List.setIfInBounds_toArray, List.set_cons_zero, List.set_cons_succ, List.getElem_toArray, List.getElem_cons_zero, List.getElem_cons_succ]
                      refine hK.out _ _ (HALL.out _ HT14.out.below HT14.out.keep) (fun _ => ⟨HT14.out.two.cellA, HT14.out.two.cellN⟩) ?_
                      clear hK K
                      refine wpAnyL_pure (i := 10) rfl (by kernel_rfl) (fun _ _ _ h => h) (Or.inl ⟨by rfl, (fun u hu => by go_simp; try rfl)⟩) (HALL.out _ HT14.out.below HT14.out.keep) (fun _ => ⟨HT14.out.two.cellA, HT14.out.two.cellN⟩) ?_
                      simp only [Act.put, List.setIfInBounds_toArray, List.set_cons_zero, List.set_cons_succ, List.getElem_toArray, List.getElem_cons_zero, List.getElem_cons_succ]
                      refine wpAnyL_ready (rs := [9]) (by kernel_rfl) (by simp) ?_
                      refine AllL.cons rfl (fun K hK => ?_) ?_
                      · obtain ⟨u15, w15, hrun, ⟨A15, c15, rfl⟩, hT⟩ := HT14.out.appA HAL.out.1
                        have HT15 := Lib.hid hT
                        have HR15 := Lib.hid hrun
                        clear hT hrun
                        refine step_append_run _ (by rfl) _ _ _ _ (by rfl) _ _ (by rfl) (by rfl) _ _ HR15.out ?_
                        simp only [Act.put, List.setIfInBounds_toArray, List.set_cons_zero, List.set_cons_succ, List.getElem_toArray, List.getElem_cons_zero, List.getElem_cons_succ]
                        refine hK.out _ _ (HALL.out _ HT15.out.below HT15.out.keep) (fun _ => ⟨HT15.out.two.cellA, HT15.out.two.cellN⟩) ?_
                        clear hK K
                        refine wpAnyL_ready (rs := [11]) (by kernel_rfl) (by simp) ?_
                        refine AllL.cons rfl (fun K hK => ?_) ?_
                        · have hc := HT15.out.two.cellN
                          have hf := HT15.out.two.fr 2
                          go_simp
                          clear hc hf
                          refine hK.out _ _ trivial (fun h => absurd (h 11 (by simp)) (by decide)) ?_
                          clear hK K
                          refine wpAnyL_pure (i := 12) rfl (by kernel_rfl) (fun _ _ _ h => h) (Or.inl ⟨by rfl, (fun u hu => by go_simp; try rfl)⟩) trivial (fun h => absurd (h 11 (by simp)) (by decide)) ?_
                          simp only [Act.put, List.setIfInBounds_toArray, List.set_cons_zero, List.set_cons_succ, List.getElem_toArray, List.getElem_cons_zero, List.getElem_cons_succ]
                          refine wpAnyL_ready (rs := [13]) (by kernel_rfl) (by simp) ?_
                          refine AllL.cons rfl (fun K hK => ?_) ?_
                          · have hc := fun u => setOther0 (u := u) (HT15.out.two.cellA) (HT15.out.two.fr 1)
                            have hc1 := fun u => (hc u).1
                            have hc2 := fun u => (hc u).2
                            clear hc
                            go_simp
                            clear hc1 hc2
                            refine hK.out _ _ trivial (fun h => absurd (h 11 (by simp)) (by decide)) ?_
                            clear hK K
                            refine wpAnyL_done (by kernel_rfl) ?_ _
                            have HD3 := Lib.hid HT15.out.done
                            have HO3 := Lib.hid HT15.out.only
                            go_wp2_with fail
                            go_roundg (21 - (i + 1))
                            case measure => rw [HGK2.out]; omega
                            case rel => exact ⟨i + 1, FL3, ws10, _, access3, _, _, _, _, _, by omega, rfl, by go_num, (HCT.out.below HL.out (Below.refl _ _).drew).only HL.out HO3.out HYY.out HYX.out, HMDF.out, HD3.out.1, HD3.out.2.1⟩
                          exact AllL.nil
                        exact AllL.nil
                      exact AllL.nil
                    exact AllL.nil
                  exact AllL.nil
                exact AllL.nil
        · obtain rfl : i = access2.length := by omega
          have hcell := HDF.out.blk
          obtain ⟨A1, c1, rfl, _, _⟩ := hdf.ownA.form
          obtain ⟨A3, c3, rfl, _, _⟩ := hdf.ownN.form
          have hq0 := hdf.cellS
          have hq1 := hdf.cellA
          have hq2 := hdf.cellN
          have hRn : ¬ (w.heap.size < L.B0 ∨ w.heap.size = L.BK ∨ w.heap.size = BR) := by
            have := HLE.out
            have := HBK.out
            have := HBR.out
            omega
          have hres4 := (HO4.out.block w.heap.size (heap_lt HRC3.out) hRn).trans HRC3.out
          have hres : w7.heap[w.heap.size]? = some (.cells #[.int .i64 0, .slice none 0 0, .slice none 0 0] 25 (0, 0)) := (HCI.out.on.block w.heap.size (heap_lt hres4) (by
            have h1 := HLE.out
            have h2 := HBK.out
            have h3 := HBR.out
            rintro (h | h | h | h | h | h)
            · omega
            · have := HFZ.out _ HFL.out.1; omega
            · omega
            · have := HFZ.out _ (HST3.out.rowA h).1; omega
            · omega
            · exact h)).trans hres4
          obtain ⟨hr0, hr1, hr2⟩ : w7.cell? ⟨w.heap.size, 0, none⟩ = some (.int .i64 0) ∧ w7.cell? ⟨w.heap.size, 1, none⟩ = some (.slice none 0 0) ∧ w7.cell? ⟨w.heap.size, 2, none⟩ = some (.slice none 0 0) := by simp [World.cell?, hres]
          have hf0 : w7.frozen? ⟨w.heap.size, 0, none⟩ = false := by simp [World.frozen?, hres]
          have hf1 : w7.frozen? ⟨w.heap.size, 1, none⟩ = false := by simp [World.frozen?, hres]
          have hf2 : w7.frozen? ⟨w.heap.size, 2, none⟩ = false := by simp [World.frozen?, hres]
          clear hgk hci hmd hdf hza hres hres4 hcell
          go_wp2_with fail
          refine bodyPost_ret (v := .tuple #[.agg #[.int .i64 0, .slice A1 accs.length c1, .slice A3 rows.length c3], .bool true]) (by simp [results, Try.results47, go_sem, hr0, hr1, hr2]) rfl ?_
          have hBRz := HBR.out
          have hBDz := HBDE.out
          have hz4 := HO4.out.size
          have hz3 := HZ3.out
          have hset : ∀ (u : World) (i : Nat) (v : Value), Only u (u.setCell ⟨w.heap.size, i, none⟩ v) (fun b => b = w.heap.size) := fun u i v => .set _ _ _ _ rfl
          have hrcb : w.heap.size < BD := by omega
          obtain ⟨w9, hw9⟩ : ∃ w9 : World, w9 = ((w7.setCell ⟨w.heap.size, 0, none⟩ (.int .i64 0)).setCell ⟨w.heap.size, 1, none⟩ (.slice A1 accs.length c1)).setCell ⟨w.heap.size, 2, none⟩ (.slice A3 rows.length c3) := ⟨_, rfl⟩
          have hon : Only w7 w9 (fun b => b = w.heap.size) := by rw [hw9]; exact ((hset _ 0 _).trans (hset _ 1 _)).trans (hset _ 2 _)
          rw [← hw9]
          have hnF2 : ¬ FL2 w.heap.size := fun hf => by
            rcases HCI.out.new _ hf with h | h
            · have := HFZ.out _ h; omega
            · omega
          have hst9 := HCI.out.st.only HL.out hon (fun b hb => ⟨fun hf => hnF2 (hb ▸ hf), fun _ => by have := HLE.out; omega⟩)
          have hd9 := HDF.out.only hon (fun b hb => by
            subst hb
            refine ⟨by omega, fun e => ?_, fun e => ?_, fun i v hv e => ?_⟩
            · have := (HDF.out.ownA.row e).1; omega
            · have := (HDF.out.ownN.row e).1; omega
            · obtain ⟨r', _, h2, _⟩ := HDF.out.rown i v hv
              have := (h2.row e).1; omega)
          obtain ⟨k1, k2⟩ := hd9.slZ HZA.out
          have hlen := HCI.out.len
          have hl4 := HWL4.out
          refine ⟨(0, accs, rows), access2, ws2, _, _, FL2, A1, _, c1, A3, _, c3, rfl, k1.more fun b hb => ⟨by omega, fun h => hb.2 (.inl h)⟩, k2.more fun b hb => ⟨by omega, fun h => hb.2 (.inl h)⟩, ⟨HCI.out.acc, rfl, HMD.out⟩, HCI.out.pre, hst9, by omega, ?_, HCI.out.sub, fun b hb => ?_⟩
          · have ho3 : Only w w3 (fun b => b < L.B0 ∨ FL b) := HO3.out.more fun b _ h => .inr (h ▸ HFL.out.1)
            refine ((ho3.then HO4.out fun b hb h => ?_).then HCI.out.on fun b hb h => ?_).then hon fun b hb h => ?_
            · rcases h with h | h | h
              · exact .inl h
              · exact .inr (h ▸ HFL.out.2)
              · omega
            · rcases h with h | h | h | h | h | h
              · exact .inl h
              · exact .inr (h ▸ HFL.out.1)
              · exact .inr (h ▸ HFL.out.2)
              · exact .inr (HST3.out.rowA h).1
              · omega
              · exact h.elim
            · omega
          · rcases HCI.out.new b hb with h | h
            · exact .inl h
            · exact .inr (by omega)
end Go.Proofs.Ytgaahpddlohjoaa
