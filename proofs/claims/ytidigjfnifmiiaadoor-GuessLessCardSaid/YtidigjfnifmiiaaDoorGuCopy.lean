/- gram.Copy: a grammar that shares no memory. -/
import Derived.Test.YtidigjfnifmiiaaDoorCloSym
import Derived.Test.YtidigjfnifmiiaaDoorMakeGram
namespace Go.Proofs.YtidigjfnifmiiaaDoor
open Go.RowKit

structure CopyS (w : World) (T N st : Int) (vR : Value) (rules : List RuleD) (wr : World) : Prop where
  bo : wr.heap[w.heap.size + 2]? = some (.cells #[.int .i64 T, .int .i64 N, .int .i64 st, vR] 25 (0, 0))
  br : wr.heap[w.heap.size + 1]? = some (.cells #[.int .i64 0, .int .i64 0, .int .i64 0, .slice none 0 0] 25 (0, 0))
  own : OwnL RRule wr (fun _ => False) (w.heap.size + 3) 29 vR rules
  bel : Below w.heap.size w wr
  sz : w.heap.size + 3 ≤ wr.heap.size
theorem CopyS.below {w : World} {T N st : Int} {vR : Value} {rules : List RuleD} {wr w' : World} (h : CopyS w T N st vR rules wr) (hb : Below wr.heap.size wr w') : CopyS w T N st vR rules w' := by
  have hz := h.sz
  exact ⟨(hb.block _ (by omega)).trans h.bo, (hb.block _ (by omega)).trans h.br, h.own.below hb, h.bel.trans (hb.mono h.bel.size), by have := hb.size; omega⟩
theorem CopyS.cellR {w : World} {T N st : Int} {vR : Value} {rules : List RuleD} {wr : World} (h : CopyS w T N st vR rules wr) : wr.cell? ⟨w.heap.size + 2, 3, none⟩ = some vR := by simp [World.cell?, h.bo]
/-- 'out.Rules = append(out.Rules, r)' -/
theorem CopyS.push {w : World} {T N st : Int} {vR : Value} {rules : List RuleD} {wr : World} (h : CopyS w T N st vR rules wr) (hl : rules.length ≤ 2000) {r : RuleD} {A : Option Addr} {c : Nat} {b0 : Nat} (hs : Sl RSym wr (fun b => b0 ≤ b) A r.2.length c r.2) (h0 : w.heap.size + 3 ≤ b0) (hrow : ∀ g, rowOf vR = some g → g < b0) :
    ∃ A2 c2 w2, (Builtin.append_ #[23, 23] 23 #[vR, .slice (some ⟨wr.heap.size, 0, none⟩) 1 1]).run Tryd.prog (wr.alloc (.cells #[.int .i64 r.1, .slice A r.2.length c] 29)) = .ok (.slice A2 (rules.length + 1) c2) w2 ∧
      w2.cell? ⟨w.heap.size + 2, 3, none⟩ = some vR ∧ w2.frozen? ⟨w.heap.size + 2, 3, none⟩ = false ∧ (∀ b, b < wr.heap.size → rowOf vR ≠ some b → w2.heap[b]? = wr.heap[b]?) ∧ CopyS w T N st (.slice A2 (rules.length + 1) c2) (rules ++ [r]) (w2.setCell ⟨w.heap.size + 2, 3, none⟩ (.slice A2 (rules.length + 1) c2)) := by
  have hz := h.sz
  have hcell : Cells RRule wr (Off (fun _ => False) (w.heap.size + 3) vR) [.int .i64 r.1, .slice A r.2.length c] [r] :=
    Cells.single (RRule.cells.2 ⟨A, r.2.length, c, rfl, hs.more fun b hb => ⟨.inr (by omega), fun e => by have := hrow b e; omega⟩⟩)
  obtain ⟨v2, w2, hrun, ho2, hg, hb⟩ := run_append_lit (R := RRule) tRules rfl wr 23 (w.heap.size + 3) (fun _ => False) vR rules h.own 1 [r] [.int .i64 r.1, .slice A r.2.length c] hcell rfl (by unfold maxLen; omega) (by omega) h.sz
  obtain ⟨A2, c2, rfl, _, _⟩ := ho2.form
  rw [show (rules ++ [r]).length = rules.length + 1 by simp] at hrun ho2
  have hbo := (hb.block (w.heap.size + 2) (by omega)).trans h.bo
  have hset := set_grown (Bd := w.heap.size + 2) w2 3 (.slice A2 (rules.length + 1) c2)
  refine ⟨A2, c2, w2, hrun, by simp [World.cell?, hbo], by simp [World.frozen?, hbo], fun b h1 h2 => (hg.block b (by simp; omega) (fun e => h2 e.symm)).trans (Below.heap_alloc _ _ _ h1), ⟨?_, ?_, ho2.keepG hset (fun g e => by injection e with e; omega), (h.bel.trans (hb.mono (by omega))).setCell (by simp) _, by have := hb.size; simp [World.setCell]; omega⟩⟩
  · have := blk_set hbo 3 (.slice A2 (rules.length + 1) c2)
    simpa using this
  · exact (Below.heap_setCell _ _ _ _ (by simp)).trans ((hb.block _ (by omega)).trans h.br)
set_option linter.unusedSimpArgs false in
set_option maxRecDepth 100000 in
set_option maxHeartbeats 4000000 in
theorem gramCopy (w : World) (S : Nat → Prop) (g : GramD) (AR : Option Addr) (nR cR : Nat) (hg : Sl RRule w S AR nR cR g.2.2.2) (hn : nR ≤ 1000) (hl : ∀ r ∈ g.2.2.2, r.2.length ≤ 1000) :
    Calls Tryd.prog 33 #[.agg #[.int .i64 g.1, .int .i64 g.2.1, .int .i64 g.2.2.1, .slice AR nR cR]] w fun e w' => ∃ A c, e = .returned (.agg #[.int .i64 g.1, .int .i64 g.2.1, .int .i64 g.2.2.1, .slice A nR c]) ∧ Sl RRule w' (fun b => w.heap.size ≤ b) A nR c g.2.2.2 ∧ Below w.heap.size w w' := by
  have HG := Lib.hid hg
  have HL := Lib.hid hl
  have HLEN := Lib.hid hg.len
  clear hg hl
  go_enter Tryd.func33, Tryd.ntmps33
  --@1
  go_wp2_with fail
  obtain ⟨w2, hw2⟩ : ∃ w2 : World, w2 = (((w.alloc (.cells #[.int .i64 g.1, .int .i64 g.2.1, .int .i64 g.2.2.1, .slice AR nR cR] 25)).alloc (.cells #[.int .i64 0, .int .i64 0, .int .i64 0, .slice none 0 0] 25)).alloc (.cells #[.int .i64 g.1, .int .i64 g.2.1, .int .i64 g.2.2.1, .slice none 0 0] 25)) := ⟨_, rfl⟩
  rw [← hw2]
  have HC2 := Lib.hid (show CopyS w g.1 g.2.1 g.2.2.1 (.slice none 0 0) [] w2 from ⟨by rw [hw2]; exact heap_new _ _ _ (by simp), by rw [hw2]; exact (Below.heap_alloc _ _ _ (by simp)).trans (heap_new _ _ _ (by simp)), OwnL.nil _ _ _ _ _, by rw [hw2]; exact (((Below.refl _ _).alloc (Nat.le_refl _) _).alloc (by simp) _).alloc (by simp; omega) _, by rw [hw2]; simp⟩)
  clear hw2
  go_loopg [11] nR (fun gk i wr => ∃ (k : Nat) (vR : Value), k ≤ nR ∧ gk = nR - k ∧ i = .int .i64 k ∧ CopyS w g.1 g.2.1 g.2.2.1 vR (g.2.2.2.take k) wr)
  case atStart => exact ⟨0, _, Nat.zero_le _, rfl, rfl, by rw [List.take_zero]; exact HC2.out⟩
  case round =>
    obtain ⟨k, vR, hk, hgk, rfl, hc⟩ := hrel
    have HGK := Lib.hid hgk
    have hz3 := hc.sz
    have hlk : (g.2.2.2.take k).length = k := by rw [List.length_take, ← HLEN.out]; omega
    obtain ⟨AV, cV, rfl, hcV, _⟩ := hc.own.form
    rw [hlk] at hc hcV
    have HC3 := Lib.hid hc
    have HLK := Lib.hid hlk
    clear hlk
    clear hgk hc
    obtain ⟨w3, rfl⟩ : ∃ w3 : World, w3 = wr := ⟨_, rfl⟩
    by_cases hlt : k < nR
    · obtain ⟨b, off, A2, m2, c2, r, rfl, _, _, hr1, hr2, hr, hrs⟩ := rule_at HG.out hlt
      replace hr1 := Kept.below (S := fun _ => True) HC3.out.bel _ _ trivial hr1
      replace hr2 := Kept.below (S := fun _ => True) HC3.out.bel _ _ trivial hr2
      have HX := Lib.hid hr
      have hrl := HL.out r (List.mem_of_getElem? hr)
      clear hr
      --@2
      go_wp2_with fail
      obtain ⟨w4, hw4⟩ : ∃ w4 : World, w4 = w3.alloc (.cells #[.int .i64 r.1, .slice A2 m2 c2] 29) := ⟨_, rfl⟩
      rw [← hw4]
      have hz4 : w4.heap.size = w3.heap.size + 1 := by rw [hw4]; simp
      have h34 : Below w3.heap.size w3 w4 := by rw [hw4]; exact (Below.refl _ _).alloc (Nat.le_refl _) _
      have HBX := Lib.hid (show w4.heap[w3.heap.size]? = some (.cells #[.int .i64 r.1, .slice A2 m2 c2] 29 (0, 0)) by rw [hw4]; exact heap_alloc_new _ _)
      have HC4 := Lib.hid (HC3.out.below h34)
      have HX4 := Lib.hid (show w4.drew.cell? ⟨w3.heap.size, 0, none⟩ = some (.int .i64 r.1) ∧ w4.drew.cell? ⟨w3.heap.size, 1, none⟩ = some (.slice A2 m2 c2) by
        show w4.cell? _ = _ ∧ w4.cell? _ = _
        have := HBX.out
        simp [World.cell?, this])
      obtain ⟨xs, hm2, hc2, hrd, hcs⟩ := (hrs.below HC3.out.bel).below h34
      have HM2 := Lib.hid hm2
      have hm2l : m2 ≤ 1000 := by omega
      clear hw4 hr1 hr2 hrs h34 hm2
      refine wp_region_late (late := [11]) (S1 := fun u => u.cell? ⟨w3.heap.size, 0, none⟩ = some (.int .i64 r.1) ∧ u.cell? ⟨w3.heap.size, 1, none⟩ = some (.slice A2 m2 c2)) (S := fun u => u.cell? ⟨w.heap.size + 2, 3, none⟩ = some (.slice AV k cV)) (by kernel_rfl) ?_
      refine wpAnyL_pure (i := 0) rfl (by kernel_rfl) (fun _ _ _ h => h) (Or.inl ⟨by rfl, (fun u hu => by obtain ⟨k0, k1⟩ := hu; go_simp; try rfl)⟩) HX4.out (fun _ => HC4.out.cellR) ?_
      simp only [Act.put, List.setIfInBounds_toArray, List.set_cons_zero, List.set_cons_succ, List.getElem_toArray, List.getElem_cons_zero, List.getElem_cons_succ]
      refine wpAnyL_take (i := 1) rfl (by kernel_rfl) (fun _ _ _ h => h) (Or.inl ⟨by rfl, (fun u hu => by have h2 := hu.2; go_simp; try rfl)⟩) HX4.out (fun _ => HC4.out.cellR) ?_
      simp only [Act.put, List.setIfInBounds_toArray, List.set_cons_zero, List.set_cons_succ, List.getElem_toArray, List.getElem_cons_zero, List.getElem_cons_succ]
      refine wpAnyL_pure (i := 2) rfl (by kernel_rfl) (fun _ _ _ h => h) (Or.inl ⟨by rfl, (fun u hu => by obtain ⟨k0, k1⟩ := hu; go_simp; try rfl)⟩) HX4.out (fun _ => HC4.out.cellR) ?_
      simp only [Act.put, List.setIfInBounds_toArray, List.set_cons_zero, List.set_cons_succ, List.getElem_toArray, List.getElem_cons_zero, List.getElem_cons_succ]
      refine wpAnyL_pure (i := 3) rfl (by kernel_rfl) (fun _ _ _ h => h) (Or.inl ⟨by rfl, (fun u hu => by obtain ⟨k0, k1⟩ := hu; go_simp; try rfl)⟩) HX4.out (fun _ => HC4.out.cellR) ?_
      simp only [Act.put, List.setIfInBounds_toArray, List.set_cons_zero, List.set_cons_succ, List.getElem_toArray, List.getElem_cons_zero, List.getElem_cons_succ]
      refine wpAnyL_pure (i := 4) rfl (by kernel_rfl) (fun _ _ _ h => h) (Or.inl ⟨by rfl, (fun u hu => by obtain ⟨k0, k1⟩ := hu; go_simp; try rfl)⟩) HX4.out (fun _ => HC4.out.cellR) ?_
      simp only [Act.put, List.setIfInBounds_toArray, List.set_cons_zero, List.set_cons_succ, List.getElem_toArray, List.getElem_cons_zero, List.getElem_cons_succ]
      refine wpAnyL_pure (i := 5) rfl (by kernel_rfl) (fun _ _ _ h => h) (Or.inl ⟨by rfl, (fun u hu => by obtain ⟨k0, k1⟩ := hu; go_simp; try rfl)⟩) HX4.out (fun _ => HC4.out.cellR) ?_
      simp only [Act.put, List.setIfInBounds_toArray, List.set_cons_zero, List.set_cons_succ, List.getElem_toArray, List.getElem_cons_zero, List.getElem_cons_succ]
      refine wpAnyL_ready (rs := [6]) (by kernel_rfl) (by simp) ?_
      refine AllL.cons rfl (fun K hK => ?_) ?_
      · go_simp
        refine (cloneSym A2 m2 c2 _ xs w4.drew hrd.drew (by omega)).mono ?_
        rintro e w5 ⟨v5, rfl, ho5, hb5⟩
        obtain ⟨A5, c5, rfl, hc5, _⟩ := ho5.form
        have HC6 := Lib.hid ((HC4.out.below (Below.refl _ _).drew).below hb5)
        have HS5 := Lib.hid (show Sl RSym w5 (fun b => w4.heap.size ≤ b) A5 m2 c5 r.2 from ⟨xs, HM2.out, hc5, ho5.rd, symCells_any hcs⟩)
        have hbx6 := (hb5.block w3.heap.size (by show w3.heap.size < w4.heap.size; omega)).trans HBX.out
        have HX6 := Lib.hid (show w5.cell? ⟨w3.heap.size, 0, none⟩ = some (.int .i64 r.1) ∧ w5.cell? ⟨w3.heap.size, 1, none⟩ = some (.slice A2 m2 c2) by simp [World.cell?, hbx6])
        have hsl5 := HS5.out
        rw [HM2.out] at hsl5
        obtain ⟨A7, c7, w7, hrun, hq1, hq2, hk7, hC7⟩ := HC6.out.push (by rw [HLK.out]; omega) hsl5 (by have := HC4.out.sz; omega) (fun g e => by have := (HC3.out.own.row e).2; omega)
        rw [← HM2.out, HLK.out] at hrun
        rw [HLK.out] at hC7
        have HRUN := Lib.hid hrun
        have HQ1 := Lib.hid hq1
        have HQ2 := Lib.hid hq2
        have HC7 := Lib.hid hC7
        have hbx7 := (hk7 w3.heap.size (by have := heap_lt hbx6; omega) (fun e => by have := (HC3.out.own.row e).2; omega)).trans hbx6
        have HX7 := Lib.hid (show w7.cell? ⟨w3.heap.size, 0, none⟩ = some (.int .i64 r.1) ∧ w7.cell? ⟨w3.heap.size, 1, none⟩ = some (.slice A2 m2 c2) by simp [World.cell?, hbx7])
        clear ho5 hb5 hbx6 hbx7 hk7 hsl5 hrun hq1 hq2 hC7
        refine hK.out _ _ (HX6.out) (fun _ => (HC6.out.cellR)) ?_
        clear hK K
        refine wpAnyL_pure (i := 7) rfl (by kernel_rfl) (fun _ _ _ h => h) (Or.inl ⟨by rfl, (fun u hu => by obtain ⟨k0, k1⟩ := hu; go_simp; try rfl)⟩) (HX6.out) (fun _ => (HC6.out.cellR)) ?_
        simp only [Act.put, List.setIfInBounds_toArray, List.set_cons_zero, List.set_cons_succ, List.getElem_toArray, List.getElem_cons_zero, List.getElem_cons_succ]
        refine wpAnyL_ready (rs := [8]) (by kernel_rfl) (by simp) ?_
        refine AllL.cons rfl (fun K hK => ?_) ?_
        · go_simp
          refine hK.out _ _ ⟨Kept.alloc (fun _ => True) _ _ _ _ trivial HX6.out.1, Kept.alloc (fun _ => True) _ _ _ _ trivial HX6.out.2⟩ (fun _ => (Kept.alloc (fun _ => True) _ _ _ _ trivial HC6.out.cellR)) ?_
          clear hK K
          refine wpAnyL_ready (rs := [9]) (by kernel_rfl) (by simp) ?_
          refine AllL.cons rfl (fun K hK => ?_) ?_
          · refine step_append_run _ (by rfl) _ _ _ _ (by rfl) _ _ (by rfl) (by rfl) _ _ HRUN.out ?_
            simp only [Act.put, List.setIfInBounds_toArray, List.set_cons_zero, List.set_cons_succ, List.getElem_toArray, List.getElem_cons_zero, List.getElem_cons_succ]
            refine hK.out _ _ HX7.out (fun _ => HQ1.out) ?_
            clear hK K
            refine wpAnyL_pure (i := 10) rfl (by kernel_rfl) (fun _ _ _ h => h) (Or.inl ⟨by rfl, (fun u hu => by obtain ⟨k0, k1⟩ := hu; go_simp; try rfl)⟩) HX7.out (fun _ => HQ1.out) ?_
            simp only [Act.put, List.setIfInBounds_toArray, List.set_cons_zero, List.set_cons_succ, List.getElem_toArray, List.getElem_cons_zero, List.getElem_cons_succ]
            refine wpAnyL_ready (rs := [11]) (by kernel_rfl) (by simp) ?_
            refine AllL.cons rfl (fun K hK => ?_) ?_
            · have hc := HQ1.out
              have hf := HQ2.out
              go_simp
              clear hc hf
              refine hK.out _ _ ⟨setOther _ HX7.out.1 (by show w3.heap.size ≠ w.heap.size + 2; omega), setOther _ HX7.out.2 (by show w3.heap.size ≠ w.heap.size + 2; omega)⟩ (fun h => absurd (h 11 (by simp)) (by decide)) ?_
              clear hK K
              refine wpAnyL_done (by kernel_rfl) ?_ _
              go_wp2_with fail
              go_roundg (nR - (k + 1))
              case measure => rw [HGK.out]; omega
              case rel => exact ⟨k + 1, _, by omega, rfl, by go_num, by rw [List.take_add_one, HX.out]; exact HC7.out⟩
            exact AllL.nil
          exact AllL.nil
        exact AllL.nil
      exact AllL.nil
    · obtain rfl : k = nR := by omega
      have htk : g.2.2.2.take k = g.2.2.2 := List.take_of_length_le (by rw [← HLEN.out]; omega)
      have hc := HC3.out
      rw [htk] at hc
      have HC := Lib.hid hc
      obtain ⟨q0, q1, q2, q3⟩ : w3.cell? ⟨w.heap.size + 2, 0, none⟩ = some (.int .i64 g.1) ∧ w3.cell? ⟨w.heap.size + 2, 1, none⟩ = some (.int .i64 g.2.1) ∧ w3.cell? ⟨w.heap.size + 2, 2, none⟩ = some (.int .i64 g.2.2.1) ∧ w3.cell? ⟨w.heap.size + 2, 3, none⟩ = some (.slice AV k cV) := by simp [World.cell?, hc.bo]
      obtain ⟨r0, r1, r2, r3⟩ : w3.cell? ⟨w.heap.size + 1, 0, none⟩ = some (.int .i64 0) ∧ w3.cell? ⟨w.heap.size + 1, 1, none⟩ = some (.int .i64 0) ∧ w3.cell? ⟨w.heap.size + 1, 2, none⟩ = some (.int .i64 0) ∧ w3.cell? ⟨w.heap.size + 1, 3, none⟩ = some (.slice none 0 0) := by simp [World.cell?, hc.br]
      have hf : ∀ i, w3.frozen? ⟨w.heap.size + 1, i, none⟩ = false := fun i => by simp [World.frozen?, hc.br]
      have hf0 := hf 0
      have hf1 := hf 1
      have hf2 := hf 2
      have hf3 := hf 3
      clear hf hc htk
      --@3
      go_wp2_with fail
      refine bodyPost_ret (v := .agg #[.int .i64 g.1, .int .i64 g.2.1, .int .i64 g.2.2.1, .slice AV k cV]) (by simp [results, Tryd.results33, go_sem, r0, r1, r2, r3]) rfl ?_
      have hset : ∀ (u : World) (i : Nat) (v : Value), u.grownBy (u.setCell ⟨w.heap.size + 1, i, none⟩ v) (some (w.heap.size + 1)) := fun u i v => set_grown u i v
      have hlt' : ∀ q, some (w.heap.size + 1) = some q → q < w.heap.size + 3 := fun q e => by injection e with e; omega
      have hb1 : w.heap.size ≤ (⟨w.heap.size + 1, 0, none⟩ : Addr).block := Nat.le_succ _
      refine ⟨AV, cV, rfl, ?_, (((HC.out.bel.setCell (by show w.heap.size ≤ w.heap.size + 1; omega) _).setCell (by show w.heap.size ≤ w.heap.size + 1; omega) _).setCell (by show w.heap.size ≤ w.heap.size + 1; omega) _).setCell (by show w.heap.size ≤ w.heap.size + 1; omega) _⟩
      refine Sl.more (OwnL.sl ((((HC.out.own.keepG (hset _ 0 _) hlt').keepG (hset _ 1 _) hlt').keepG (hset _ 2 _) hlt').keepG (hset _ 3 _) hlt')) fun b hb => hb.elim False.elim fun h => by omega
end Go.Proofs.YtidigjfnifmiiaaDoor
