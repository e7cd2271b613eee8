/- TabInt -/
import Derived.Test.YtimklgbljjamkaaDoorCs06
import Derived.Test.YtimklgbljjamkaaDoorCs09
namespace Go.Proofs.YtimklgbljjamkaaDoor
open Go.RowKit
set_option maxRecDepth 100000 in
set_option maxHeartbeats 4000000 in
theorem tableInt (w : World) (T N st : Int) (AR : Option Addr) (nR cR : Nat) (n : Nat) (x : Int) (hN : 1 ≤ N ∧ N ≤ 100) (hn : n ≤ 1000) :
    Calls Tryd.prog 43 #[.agg #[.int .i64 T, .int .i64 N, .int .i64 st, .slice AR nR cR], .int .i64 n, Value.int .i64 x] w fun e w' =>
     ∃ gN cap gs, e = .returned (.slice (some ⟨gN, 0, none⟩) N.toNat cap) ∧ Grid (Value.int .i64) 3 w' w.heap.size w'.heap.size gN gs N.toNat (n + 1) (fun _ _ => x) ∧ Below w.heap.size w w' := by
 obtain ⟨hN1, hN2⟩ := hN
 obtain ⟨M, rfl⟩ : ∃ M : Nat, N = (M : Int) := ⟨N.toNat, by omega⟩
 rw [Int.toNat_natCast]
 go_enter Tryd.func43, Tryd.ntmps43
 go_wp2_with fail
 go_loopg [7, 12] M (fun gk v i wr => ∃ (a : Nat) (gs : Nat → Nat), a ≤ M ∧ gk = M - a ∧ i = .int .i64 a ∧ Own wr (w.heap.size + 1) 22 1 v a ((List.range a).map (fun i => Value.slice (some ⟨gs i, 0, none⟩) (n + 1) (n + 1))) ∧
  (∀ b, b < a → wr.heap[gs b]? = some (.cells (rowCells (Value.int .i64) (n + 1) (fun _ => x)) 3 (0, 0)) ∧ w.heap.size + 1 ≤ gs b ∧ rowOf v ≠ some (gs b)) ∧ (∀ b c, b < a → c < a → gs b = gs c → b = c) ∧
  wr.heap[w.heap.size]? = some (.cells #[.int .i64 T, .int .i64 M, .int .i64 st, .slice AR nR cR] 25 (0, 0)) ∧ Below w.heap.size w wr)
 case atStart => exact ⟨0, fun _ => 0, Nat.zero_le _, rfl, rfl, Own.nil _ _ _ _ _, (fun b hb => absurd hb (by omega)), (fun b c hb => absurd hb (by omega)), heap_alloc_new w _, (Below.refl _ _).alloc (Nat.le_refl _) _⟩
 case round =>
  obtain ⟨a, gs, ha, hgk, rfl, hown, hrows, hinj, hbx, hb⟩ := hrel
  obtain ⟨A7, c7, rfl, hc7, _⟩ := hown.form
  have HGK := Lib.hid hgk
  have HO := Lib.hid hown
  have HRW := Lib.hid hrows
  have HI := Lib.hid hinj
  have HBX := Lib.hid hbx
  have HB := Lib.hid hb
  have hl : w.heap.size < wr.heap.size := heap_lt hbx
  clear hgk hown hrows hinj hbx hb
  by_cases hlt : a < M
  ·
   obtain ⟨wo, rfl⟩ : ∃ wo : World, wo = wr := ⟨_, rfl⟩
   have hmk := tInts.make rfl (n + 1) (by omega) (by omega) wo
   simp only [Int.natCast_add, Int.cast_ofNat_Int] at hmk
   have hmade : madeCells #[Value.int .i64 0] (n + 1) = rowCells (Value.int .i64) (n + 1) (fun j => if j < 0 then x else 0) := by
    apply Array.ext'
    rw [toList_madeCells_one]
    apply List.ext_getElem?
    intro i
    simp only [rowCells, List.getElem?_replicate, List.getElem?_map]
    by_cases hi : i < n + 1
    ·
     simp [hi]
    ·
     simp [hi]
   rw [hmade] at hmk
   clear hmade
   go_wp2_with fail
   clear hmk
   go_loopg [19] (n + 1) (fun gk i wr => ∃ k : Nat, k ≤ n + 1 ∧ gk = n + 1 - k ∧ i = .int .i64 k ∧ wr.heap[wo.heap.size]? = some (.cells (rowCells (Value.int .i64) (n + 1) (fun j => if j < k then x else 0)) 3 (0, 0)) ∧ wo.grownBy wr none ∧ wo.heap.size < wr.heap.size)
   case atStart => exact ⟨0, Nat.zero_le _, rfl, rfl, heap_alloc_new wo _, ⟨rfl, rfl, rfl, by simp, fun q hq _ => Below.heap_alloc _ _ _ hq⟩, by simp⟩
   case round =>
    obtain ⟨k, hk, hgj, rfl, hh, hg, hz⟩ := hrel
    have HGJ := Lib.hid hgj
    have HH := Lib.hid hh
    have HG := Lib.hid hg
    clear hgj hg
    by_cases hkl : k < n + 1
    ·
     have hc : wr.cell? ⟨wo.heap.size, k, none⟩ = some (Value.int .i64 (if k < k then x else 0)) := by
      rw [cell_of_row wr _ k _ _ _ hh]
      exact rowCells_at _ _ _ k hkl
     have hf : wr.frozen? ⟨wo.heap.size, k, none⟩ = false := by simp [World.frozen?, hh]
     have hset := blk_set hh k (Value.int .i64 x)
     rw [rowCells_set, rowCells_congr (Value.int .i64) (n + 1) (g := fun j => if j < k + 1 then x else 0) (fun j _ => by
      simp only [upd]
      by_cases e : j = k
      ·
       subst e; simp
      ·
       by_cases e2 : j < k
       ·
        simp [e, e2, show j < k + 1 by omega]
       ·
        simp [e, e2, show ¬ j < k + 1 by omega])] at hset
     have HSET := Lib.hid hset
     clear hh hset
     go_wp2_with fail
     go_roundg (n + 1 - (k + 1))
     case measure => rw [HGJ.out]; omega
     case rel =>
      refine ⟨k + 1, by omega, rfl, by go_num, HSET.out, ⟨HG.out.os, HG.out.tape, HG.out.output, by have := HG.out.size; simp [World.setCell]; omega, fun q hq hne => ?_⟩, by simp [World.setCell]; exact hz⟩
      rw [Below.heap_setCell _ _ _ _ (by simp; omega)]
      exact HG.out.block q hq hne
    ·
     obtain rfl : k = n + 1 := by omega
     rw [rowCells_congr (Value.int .i64) (n + 1) (g := fun _ => x) (fun j hj => by simp [hj])] at hh
     have hbw : Below wo.heap.size wo wr := ⟨HG.out.os, HG.out.tape, HG.out.output, HG.out.size, fun q hq => HG.out.block q hq (by simp)⟩
     have ho1 := HO.out.below hbw (Nat.le_refl _)
     have hsz := hbw.size
     obtain ⟨v2, w2, hrun, ho2, hg2, hrow2⟩ := run_append_Own tIntss (wr.alloc (.cells #[.slice (some ⟨wo.heap.size, 0, none⟩) (n + 1) (n + 1)] 22)) 28 (w.heap.size + 1) _ a _ (ho1.alloc _) (fun _ => True) (some ⟨wr.heap.size, 0, none⟩) 1 1 [.slice (some ⟨wo.heap.size, 0, none⟩) (n + 1) (n + 1)]
      (Rd.new wr _ _ [_] _ rfl trivial) (by intro u hu; obtain rfl := List.mem_singleton.1 hu; rfl) (by unfold maxLen; omega) (by omega) (by simp; omega)
     obtain ⟨A2, c2, rfl, _, _⟩ := ho2.form
     have HRUN := Lib.hid hrun
     have HO2 := Lib.hid ho2
     have HG2 := Lib.hid hg2
     have HR2 := Lib.hid hrow2
     have HHH := Lib.hid hh
     have HBW := Lib.hid hbw
     clear hrun ho2 hg2 hrow2 hh ho1 hbw
     go_wp2_with (at_builtin; refine Lib.wpList_append_run (o := ⟨some 30, _, _, _, _, _⟩) _ rfl _ _ _ _ rfl _ _ rfl rfl _ _ HRUN.out ?_)
     go_roundg (M - (a + 1))
     case measure => rw [HGK.out]; omega
     case rel =>
      have hrl : ∀ g, rowOf (.slice A7 a c7) = some g → w.heap.size + 1 ≤ g ∧ g < wo.heap.size := fun g e => HO.out.row e
      have hold : ∀ b, b < a → gs b < wo.heap.size := fun b hb => heap_lt (HRW.out b hb).1
      have hkeep : ∀ q, q < wr.heap.size → rowOf (.slice A7 a c7) ≠ some q → w2.heap[q]? = wr.heap[q]? := fun q hq hne => (HG2.out.block q (by simp; omega) (fun e => hne e.symm)).trans (Below.heap_alloc _ _ _ hq)
      refine ⟨a + 1, fun b => if b < a then gs b else wo.heap.size, by omega, rfl, by go_num, ?_, ?_, ?_, ?_, ?_⟩
      ·
       have e : (List.range (a + 1)).map (fun i => Value.slice (some ⟨if i < a then gs i else wo.heap.size, 0, none⟩) (n + 1) (n + 1)) = (List.range a).map (fun i => Value.slice (some ⟨gs i, 0, none⟩) (n + 1) (n + 1)) ++ [.slice (some ⟨wo.heap.size, 0, none⟩) (n + 1) (n + 1)] := by
        rw [List.range_succ, List.map_append]
        congr 1
        ·
         apply List.map_congr_left
         intro i hi
         rw [if_pos (List.mem_range.1 hi)]
        ·
         simp
       rw [e]
       exact HO2.out
      ·
       intro b hb
       have hnr : ∀ q, rowOf (.slice A7 a c7) ≠ some q → q < wr.heap.size + 1 → rowOf (.slice A2 (a + 1) c2) ≠ some q := fun q h1 h2 => by
        rcases HR2.out with e | e
        ·
         rw [e]; exact h1
        ·
         rw [e]
         intro e'
         injection e' with e'
         simp only [World.size_alloc] at e'
         omega
       by_cases hba : b < a
       ·
        simp only [if_pos hba]
        obtain ⟨k1, k2, k3⟩ := HRW.out b hba
        have := hold b hba
        exact ⟨(hkeep _ (by omega) k3).trans ((HBW.out.block _ this).trans k1), k2, hnr _ k3 (by omega)⟩
       ·
        simp only [if_neg hba]
        have k3 : rowOf (.slice A7 a c7) ≠ some wo.heap.size := fun e => by have := (hrl _ e).2; omega
        exact ⟨(hkeep _ (by omega) k3).trans HHH.out, by omega, hnr _ k3 (by omega)⟩
      ·
       intro b c hb hc
       have := hold
       by_cases h1 : b < a <;> by_cases h2 : c < a
       ·
        simp only [if_pos h1, if_pos h2]; exact HI.out b c h1 h2
       ·
        simp only [if_pos h1, if_neg h2]; intro e; have := hold b h1; omega
       ·
        simp only [if_neg h1, if_pos h2]; intro e; have := hold c h2; omega
       ·
        intro _; omega
      ·
       rw [hkeep _ (by omega) (fun e => by have := (hrl _ e).1; omega), HBW.out.block _ (by omega)]
       exact HBX.out
      ·
       have h1 : Below w.heap.size w wr := HB.out.trans (HBW.out.mono HB.out.size)
       exact (h1.alloc h1.size _).grown HG2.out (by simp; omega) (fun g e => by have := (hrl g e).1; omega)
  ·
   obtain rfl : a = M := by omega
   obtain ⟨gN, rfl, hbN, hoN⟩ := HO.out.addr (by omega)
   have hcap := HO.out.form
   go_wp2_with fail
   go_ret
   have hrN : rowOf (.slice (some ⟨gN, 0, none⟩) a c7) = some gN := by
    cases c7 with
    | zero => omega
    | succ k => rfl
   refine ⟨gN, c7, gs, rfl, ⟨fun b hb => ?_, fun b hb => ?_, fun b hb => ?_, ⟨by omega, ?_⟩, HI.out⟩, HB.out⟩
   ·
    have := hoN.cells (g := gN) rfl b (.slice (some ⟨gs b, 0, none⟩) (n + 1) (n + 1)) (by simp [hb])
    by_cases h0 : b = 0
    ·
     subst h0; exact this
    ·
     simpa [Addr.add, h0] using this
   ·
    exact (HRW.out b hb).1
   ·
    obtain ⟨k1, k2, k3⟩ := HRW.out b hb
    exact ⟨by omega, heap_lt k1, fun e => k3 (by rw [hrN, e])⟩
   ·
    exact (HO.out.row hrN).2
end Go.Proofs.YtimklgbljjamkaaDoor
