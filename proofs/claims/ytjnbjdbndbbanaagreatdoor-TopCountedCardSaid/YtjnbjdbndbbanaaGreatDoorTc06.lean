/- TabBool TabInt CensusPlain2 -/
import Derived.Test.YtjnbjdbndbbanaaGreatDoorTc05
namespace Go.Proofs.YtjnbjdbndbbanaaGreatDoor
open Go.RowKit
set_option maxRecDepth 100000 in
set_option maxHeartbeats 4000000 in
theorem tableBool (w : World) (T N st : Int) (AR : Option Addr) (nR cR : Nat) (n : Nat) (x : Bool) (hN : 1 ≤ N ∧ N ≤ 100) (hn : n ≤ 1000) :
    Calls Tryz.prog 40 #[.agg #[.int .i64 T, .int .i64 N, .int .i64 st, .slice AR nR cR], .int .i64 n, Value.bool x] w fun e w' =>
     ∃ gN cap gs, e = .returned (.slice (some ⟨gN, 0, none⟩) N.toNat cap) ∧ Grid (Value.bool) 4 w' w.heap.size w'.heap.size gN gs N.toNat (n + 1) (fun _ _ => x) ∧ Below w.heap.size w w' := by
 obtain ⟨hN1, hN2⟩ := hN
 obtain ⟨M, rfl⟩ : ∃ M : Nat, N = (M : Int) := ⟨N.toNat, by omega⟩
 rw [Int.toNat_natCast]
 go_enter Tryz.func40, Tryz.ntmps40
 go_wp2_with fail
 go_loopg [7, 12] M (fun gk v i wr => ∃ (a : Nat) (gs : Nat → Nat), a ≤ M ∧ gk = M - a ∧ i = .int .i64 a ∧ Own wr (w.heap.size + 1) 94 1 v a ((List.range a).map (fun i => Value.slice (some ⟨gs i, 0, none⟩) (n + 1) (n + 1))) ∧
  (∀ b, b < a → wr.heap[gs b]? = some (.cells (rowCells (Value.bool) (n + 1) (fun _ => x)) 4 (0, 0)) ∧ w.heap.size + 1 ≤ gs b ∧ rowOf v ≠ some (gs b)) ∧ (∀ b c, b < a → c < a → gs b = gs c → b = c) ∧
  wr.heap[w.heap.size]? = some (.cells #[.int .i64 T, .int .i64 M, .int .i64 st, .slice AR nR cR] 25 (0, 0)) ∧ Below w.heap.size w wr)
 case atStart => exact ⟨0, fun _ => 0, Nat.zero_le _, rfl, rfl, Own.nil _ _ _ _ _, (fun b hb => absurd hb (by omega)), (fun b c hb => absurd hb (by omega)), heap_alloc_new w _, (Below.refl _ _).alloc (Nat.le_refl _) _⟩
 case round =>
  obtain ⟨a, gs, ha, hgk, rfl, hown, hrows, hinj, hbx, hb⟩ := hrel
  obtain ⟨A7, c7, rfl, hc7, _⟩ := hown.form
  have HGK := zh hgk
  have HO := zh hown
  have HRW := zh hrows
  have HI := zh hinj
  have HBX := zh hbx
  have HB := zh hb
  have hl : w.heap.size < wr.heap.size := heap_lt hbx
  clear hgk hown hrows hinj hbx hb
  by_cases hlt : a < M
  ·
   obtain ⟨wo, rfl⟩ := zE wr
   have hmk := tBools.make rfl (n + 1) (by omega) (by omega) wo
   simp only [Int.natCast_add, Int.cast_ofNat_Int] at hmk
   have hmade : madeCells #[Value.bool false] (n + 1) = rowCells (Value.bool) (n + 1) (fun j => if j < 0 then x else false) := by
    apply Array.ext'
    rw [toList_madeCells_one]
    apply List.ext_getElem?
    intro i
    simp only [rowCells, List.getElem?_replicate, List.getElem?_map]
    by_cases hi : i < n + 1
    · simp [hi]
    simp [hi]
   rw [hmade] at hmk
   clear hmade
   go_wp2_with fail
   clear hmk
   go_loopg [19] (n + 1) (fun gk i wr => ∃ k : Nat, k ≤ n + 1 ∧ gk = n + 1 - k ∧ i = .int .i64 k ∧ wr.heap[wo.heap.size]? = some (.cells (rowCells (Value.bool) (n + 1) (fun j => if j < k then x else false)) 4 (0, 0)) ∧ wo.grownBy wr none ∧ wo.heap.size < wr.heap.size)
   case atStart => exact ⟨0, Nat.zero_le _, rfl, rfl, heap_alloc_new wo _, ⟨rfl, rfl, rfl, by simp, fun q hq _ => Below.heap_alloc _ _ _ hq⟩, by simp⟩
   case round =>
    obtain ⟨k, hk, hgj, rfl, hh, hg, hz⟩ := hrel
    have HGJ := zh hgj
    have HH := zh hh
    have HG := zh hg
    clear hgj hg
    by_cases hkl : k < n + 1
    ·
     have hc : wr.cell? ⟨wo.heap.size, k, none⟩ = some (Value.bool (if k < k then x else false)) := by
      rw [cell_of_row wr _ k _ _ _ hh]
      exact rowCells_at _ _ _ k hkl
     have hf : wr.frozen? ⟨wo.heap.size, k, none⟩ = false := by simp [World.frozen?, hh]
     have hset := blk_set hh k (Value.bool x)
     rw [rowCells_set, rowCells_congr (Value.bool) (n + 1) (g := fun j => if j < k + 1 then x else false) (fun j _ => by
      simp only [upd]
      by_cases e : j = k
      · subst e; simp
      by_cases e2 : j < k
      · simp [e, e2, show j < k + 1 by omega]
      simp [e, e2, show ¬ j < k + 1 by omega])] at hset
     have HSET := zh hset
     clear hh hset
     go_wp2_with fail
     go_roundg (n + 1 - (k + 1))
     case measure => rw [HGJ.out]; omega
     case rel =>
      refine ⟨k + 1, by omega, rfl, by go_num, HSET.out, ⟨HG.out.os, HG.out.tape, HG.out.output, by have := HG.out.size; simp [World.setCell]; omega, fun q hq hne => ?_⟩, by simp [World.setCell]; exact hz⟩
      rw [Below.heap_setCell _ _ _ _ (by simp; omega)]
      exact HG.out.block q hq hne
    obtain rfl : k = n + 1 := by omega
    rw [rowCells_congr (Value.bool) (n + 1) (g := fun _ => x) (fun j hj => by simp [hj])] at hh
    have hbw : Below wo.heap.size wo wr := ⟨HG.out.os, HG.out.tape, HG.out.output, HG.out.size, fun q hq => HG.out.block q hq (by simp)⟩
    have ho1 := HO.out.below hbw (Nat.le_refl _)
    have hsz := hbw.size
    obtain ⟨v2, w2, hrun, ho2, hg2, hrow2⟩ := run_append_Own tBoolss (wr.alloc (.cells #[.slice (some ⟨wo.heap.size, 0, none⟩) (n + 1) (n + 1)] 94)) 89 (w.heap.size + 1) _ a _ (ho1.alloc _) (fun _ => True) (some ⟨wr.heap.size, 0, none⟩) 1 1 [.slice (some ⟨wo.heap.size, 0, none⟩) (n + 1) (n + 1)]
     (Rd.new wr _ _ [_] _ rfl trivial) (by intro u hu; obtain rfl := List.mem_singleton.1 hu; rfl) (by unfold maxLen; omega) (by omega) (by simp; omega)
    obtain ⟨A2, c2, rfl, _, _⟩ := ho2.form
    have HRUN := zh hrun
    have HO2 := zh ho2
    have HG2 := zh hg2
    have HR2 := zh hrow2
    have HHH := zh hh
    have HBW := zh hbw
    clear hrun ho2 hg2 hrow2 hh ho1 hbw
    go_wp2_with (at_builtin; refine Lib.wpList_append_run (o := ⟨some 30, _, _, _, _, _⟩) _ rfl _ _ _ _ rfl _ _ rfl rfl _ _ HRUN.out ?_)
    go_roundg (M - (a + 1))
    case measure => rw [HGK.out]; omega
    case rel =>
     have hrl : ∀ g, rowOf (.slice A7 a c7) = some g → w.heap.size + 1 ≤ g ∧ g < wo.heap.size := fun g e => HO.out.row e
     have hold : ∀ b, b < a → gs b < wo.heap.size := fun b hb => heap_lt (HRW.out b hb).1
     have hkeep : ∀ q, q < wr.heap.size → rowOf (.slice A7 a c7) ≠ some q → w2.heap[q]? = wr.heap[q]? := fun q hq hne => (HG2.out.block q (by simp; omega) (fun e => hne e.symm)).trans (Below.heap_alloc _ _ _ hq)
     refine ⟨a + 1, fun b => if b < a then gs b else wo.heap.size, by omega, rfl, by go_num, ?_, ?_, ?_, ?_, ?_⟩
     ·
      have e : (List.range (a + 1)).map (fun i => Value.slice (some ⟨if i < a then gs i else wo.heap.size, 0, none⟩) (n + 1) (n + 1)) = (List.range a).map (fun i => Value.slice (some ⟨gs i, 0, none⟩) (n + 1) (n + 1)) ++ [.slice (some ⟨wo.heap.size, 0, none⟩) (n + 1) (n + 1)] := by
       rw [List.range_succ, List.map_append]
       congr 1
       ·
        apply List.map_congr_left
        intro i hi
        rw [if_pos (List.mem_range.1 hi)]
       simp
      rw [e]
      exact HO2.out
     ·
      intro b hb
      have hnr : ∀ q, rowOf (.slice A7 a c7) ≠ some q → q < wr.heap.size + 1 → rowOf (.slice A2 (a + 1) c2) ≠ some q := fun q h1 h2 => by
       rcases HR2.out with e | e
       · rw [e]; exact h1
       rw [e]
       intro e'
       injection e' with e'
       simp only [World.size_alloc] at e'
       omega
      by_cases hba : b < a
      ·
       simp only [if_pos hba]
       obtain ⟨k1, k2, k3⟩ := HRW.out b hba
       have := hold b hba
       exact ⟨(hkeep _ (by omega) k3).trans ((HBW.out.block _ this).trans k1), k2, hnr _ k3 (by omega)⟩
      simp only [if_neg hba]
      have k3 : rowOf (.slice A7 a c7) ≠ some wo.heap.size := fun e => by have := (hrl _ e).2; omega
      exact ⟨(hkeep _ (by omega) k3).trans HHH.out, by omega, hnr _ k3 (by omega)⟩
     ·
      intro b c hb hc
      have := hold
      by_cases h1 : b < a <;> by_cases h2 : c < a
      · simp only [if_pos h1, if_pos h2]; exact HI.out b c h1 h2
      · simp only [if_pos h1, if_neg h2]; intro e; have := hold b h1; omega
      · simp only [if_neg h1, if_pos h2]; intro e; have := hold c h2; omega
      intro _; omega
     ·
      rw [hkeep _ (by omega) (fun e => by have := (hrl _ e).1; omega), HBW.out.block _ (by omega)]
      exact HBX.out
     have h1 : Below w.heap.size w wr := HB.out.trans (HBW.out.mono HB.out.size)
     exact (h1.alloc h1.size _).grown HG2.out (by simp; omega) (fun g e => by have := (hrl g e).1; omega)
  obtain rfl : a = M := by omega
  obtain ⟨gN, rfl, hbN, hoN⟩ := HO.out.addr (by omega)
  have hcap := HO.out.form
  go_wp2_with fail
  go_ret
  have hrN : rowOf (.slice (some ⟨gN, 0, none⟩) a c7) = some gN := by
   cases c7 with
   | zero => omega
   | succ k => rfl
  refine ⟨gN, c7, gs, rfl, ⟨fun b hb => ?_, fun b hb => ?_, fun b hb => ?_, ⟨by omega, ?_⟩, HI.out⟩, HB.out⟩
  ·
   have := hoN.cells (g := gN) rfl b (.slice (some ⟨gs b, 0, none⟩) (n + 1) (n + 1)) (by simp [hb])
   by_cases h0 : b = 0
   · subst h0; exact this
   simpa [Addr.add, h0] using this
  · exact (HRW.out b hb).1
  ·
   obtain ⟨k1, k2, k3⟩ := HRW.out b hb
   exact ⟨by omega, heap_lt k1, fun e => k3 (by rw [hrN, e])⟩
  exact (HO.out.row hrN).2
set_option maxRecDepth 100000 in
set_option maxHeartbeats 4000000 in
theorem tableInt (w : World) (T N st : Int) (AR : Option Addr) (nR cR : Nat) (n : Nat) (x : Int) (hN : 1 ≤ N ∧ N ≤ 100) (hn : n ≤ 1000) :
    Calls Tryz.prog 41 #[.agg #[.int .i64 T, .int .i64 N, .int .i64 st, .slice AR nR cR], .int .i64 n, Value.int .i64 x] w fun e w' =>
     ∃ gN cap gs, e = .returned (.slice (some ⟨gN, 0, none⟩) N.toNat cap) ∧ Grid (Value.int .i64) 3 w' w.heap.size w'.heap.size gN gs N.toNat (n + 1) (fun _ _ => x) ∧ Below w.heap.size w w' := by
 obtain ⟨hN1, hN2⟩ := hN
 obtain ⟨M, rfl⟩ : ∃ M : Nat, N = (M : Int) := ⟨N.toNat, by omega⟩
 rw [Int.toNat_natCast]
 go_enter Tryz.func41, Tryz.ntmps41
 go_wp2_with fail
 go_loopg [7, 12] M (fun gk v i wr => ∃ (a : Nat) (gs : Nat → Nat), a ≤ M ∧ gk = M - a ∧ i = .int .i64 a ∧ Own wr (w.heap.size + 1) 22 1 v a ((List.range a).map (fun i => Value.slice (some ⟨gs i, 0, none⟩) (n + 1) (n + 1))) ∧
  (∀ b, b < a → wr.heap[gs b]? = some (.cells (rowCells (Value.int .i64) (n + 1) (fun _ => x)) 3 (0, 0)) ∧ w.heap.size + 1 ≤ gs b ∧ rowOf v ≠ some (gs b)) ∧ (∀ b c, b < a → c < a → gs b = gs c → b = c) ∧
  wr.heap[w.heap.size]? = some (.cells #[.int .i64 T, .int .i64 M, .int .i64 st, .slice AR nR cR] 25 (0, 0)) ∧ Below w.heap.size w wr)
 case atStart => exact ⟨0, fun _ => 0, Nat.zero_le _, rfl, rfl, Own.nil _ _ _ _ _, (fun b hb => absurd hb (by omega)), (fun b c hb => absurd hb (by omega)), heap_alloc_new w _, (Below.refl _ _).alloc (Nat.le_refl _) _⟩
 case round =>
  obtain ⟨a, gs, ha, hgk, rfl, hown, hrows, hinj, hbx, hb⟩ := hrel
  obtain ⟨A7, c7, rfl, hc7, _⟩ := hown.form
  have HGK := zh hgk
  have HO := zh hown
  have HRW := zh hrows
  have HI := zh hinj
  have HBX := zh hbx
  have HB := zh hb
  have hl : w.heap.size < wr.heap.size := heap_lt hbx
  clear hgk hown hrows hinj hbx hb
  by_cases hlt : a < M
  ·
   obtain ⟨wo, rfl⟩ := zE wr
   have hmk := tInts.make rfl (n + 1) (by omega) (by omega) wo
   simp only [Int.natCast_add, Int.cast_ofNat_Int] at hmk
   have hmade : madeCells #[Value.int .i64 0] (n + 1) = rowCells (Value.int .i64) (n + 1) (fun j => if j < 0 then x else 0) := by
    apply Array.ext'
    rw [toList_madeCells_one]
    apply List.ext_getElem?
    intro i
    simp only [rowCells, List.getElem?_replicate, List.getElem?_map]
    by_cases hi : i < n + 1
    · simp [hi]
    simp [hi]
   rw [hmade] at hmk
   clear hmade
   go_wp2_with fail
   clear hmk
   go_loopg [19] (n + 1) (fun gk i wr => ∃ k : Nat, k ≤ n + 1 ∧ gk = n + 1 - k ∧ i = .int .i64 k ∧ wr.heap[wo.heap.size]? = some (.cells (rowCells (Value.int .i64) (n + 1) (fun j => if j < k then x else 0)) 3 (0, 0)) ∧ wo.grownBy wr none ∧ wo.heap.size < wr.heap.size)
   case atStart => exact ⟨0, Nat.zero_le _, rfl, rfl, heap_alloc_new wo _, ⟨rfl, rfl, rfl, by simp, fun q hq _ => Below.heap_alloc _ _ _ hq⟩, by simp⟩
   case round =>
    obtain ⟨k, hk, hgj, rfl, hh, hg, hz⟩ := hrel
    have HGJ := zh hgj
    have HH := zh hh
    have HG := zh hg
    clear hgj hg
    by_cases hkl : k < n + 1
    ·
     have hc : wr.cell? ⟨wo.heap.size, k, none⟩ = some (Value.int .i64 (if k < k then x else 0)) := by
      rw [cell_of_row wr _ k _ _ _ hh]
      exact rowCells_at _ _ _ k hkl
     have hf : wr.frozen? ⟨wo.heap.size, k, none⟩ = false := by simp [World.frozen?, hh]
     have hset := blk_set hh k (Value.int .i64 x)
     rw [rowCells_set, rowCells_congr (Value.int .i64) (n + 1) (g := fun j => if j < k + 1 then x else 0) (fun j _ => by
      simp only [upd]
      by_cases e : j = k
      · subst e; simp
      by_cases e2 : j < k
      · simp [e, e2, show j < k + 1 by omega]
      simp [e, e2, show ¬ j < k + 1 by omega])] at hset
     have HSET := zh hset
     clear hh hset
     go_wp2_with fail
     go_roundg (n + 1 - (k + 1))
     case measure => rw [HGJ.out]; omega
     case rel =>
      refine ⟨k + 1, by omega, rfl, by go_num, HSET.out, ⟨HG.out.os, HG.out.tape, HG.out.output, by have := HG.out.size; simp [World.setCell]; omega, fun q hq hne => ?_⟩, by simp [World.setCell]; exact hz⟩
      rw [Below.heap_setCell _ _ _ _ (by simp; omega)]
      exact HG.out.block q hq hne
    obtain rfl : k = n + 1 := by omega
    rw [rowCells_congr (Value.int .i64) (n + 1) (g := fun _ => x) (fun j hj => by simp [hj])] at hh
    have hbw : Below wo.heap.size wo wr := ⟨HG.out.os, HG.out.tape, HG.out.output, HG.out.size, fun q hq => HG.out.block q hq (by simp)⟩
    have ho1 := HO.out.below hbw (Nat.le_refl _)
    have hsz := hbw.size
    obtain ⟨v2, w2, hrun, ho2, hg2, hrow2⟩ := run_append_Own tIntss (wr.alloc (.cells #[.slice (some ⟨wo.heap.size, 0, none⟩) (n + 1) (n + 1)] 22)) 32 (w.heap.size + 1) _ a _ (ho1.alloc _) (fun _ => True) (some ⟨wr.heap.size, 0, none⟩) 1 1 [.slice (some ⟨wo.heap.size, 0, none⟩) (n + 1) (n + 1)]
     (Rd.new wr _ _ [_] _ rfl trivial) (by intro u hu; obtain rfl := List.mem_singleton.1 hu; rfl) (by unfold maxLen; omega) (by omega) (by simp; omega)
    obtain ⟨A2, c2, rfl, _, _⟩ := ho2.form
    have HRUN := zh hrun
    have HO2 := zh ho2
    have HG2 := zh hg2
    have HR2 := zh hrow2
    have HHH := zh hh
    have HBW := zh hbw
    clear hrun ho2 hg2 hrow2 hh ho1 hbw
    go_wp2_with (at_builtin; refine Lib.wpList_append_run (o := ⟨some 30, _, _, _, _, _⟩) _ rfl _ _ _ _ rfl _ _ rfl rfl _ _ HRUN.out ?_)
    go_roundg (M - (a + 1))
    case measure => rw [HGK.out]; omega
    case rel =>
     have hrl : ∀ g, rowOf (.slice A7 a c7) = some g → w.heap.size + 1 ≤ g ∧ g < wo.heap.size := fun g e => HO.out.row e
     have hold : ∀ b, b < a → gs b < wo.heap.size := fun b hb => heap_lt (HRW.out b hb).1
     have hkeep : ∀ q, q < wr.heap.size → rowOf (.slice A7 a c7) ≠ some q → w2.heap[q]? = wr.heap[q]? := fun q hq hne => (HG2.out.block q (by simp; omega) (fun e => hne e.symm)).trans (Below.heap_alloc _ _ _ hq)
     refine ⟨a + 1, fun b => if b < a then gs b else wo.heap.size, by omega, rfl, by go_num, ?_, ?_, ?_, ?_, ?_⟩
     ·
      have e : (List.range (a + 1)).map (fun i => Value.slice (some ⟨if i < a then gs i else wo.heap.size, 0, none⟩) (n + 1) (n + 1)) = (List.range a).map (fun i => Value.slice (some ⟨gs i, 0, none⟩) (n + 1) (n + 1)) ++ [.slice (some ⟨wo.heap.size, 0, none⟩) (n + 1) (n + 1)] := by
       rw [List.range_succ, List.map_append]
       congr 1
       ·
        apply List.map_congr_left
        intro i hi
        rw [if_pos (List.mem_range.1 hi)]
       simp
      rw [e]
      exact HO2.out
     ·
      intro b hb
      have hnr : ∀ q, rowOf (.slice A7 a c7) ≠ some q → q < wr.heap.size + 1 → rowOf (.slice A2 (a + 1) c2) ≠ some q := fun q h1 h2 => by
       rcases HR2.out with e | e
       · rw [e]; exact h1
       rw [e]
       intro e'
       injection e' with e'
       simp only [World.size_alloc] at e'
       omega
      by_cases hba : b < a
      ·
       simp only [if_pos hba]
       obtain ⟨k1, k2, k3⟩ := HRW.out b hba
       have := hold b hba
       exact ⟨(hkeep _ (by omega) k3).trans ((HBW.out.block _ this).trans k1), k2, hnr _ k3 (by omega)⟩
      simp only [if_neg hba]
      have k3 : rowOf (.slice A7 a c7) ≠ some wo.heap.size := fun e => by have := (hrl _ e).2; omega
      exact ⟨(hkeep _ (by omega) k3).trans HHH.out, by omega, hnr _ k3 (by omega)⟩
     ·
      intro b c hb hc
      have := hold
      by_cases h1 : b < a <;> by_cases h2 : c < a
      · simp only [if_pos h1, if_pos h2]; exact HI.out b c h1 h2
      · simp only [if_pos h1, if_neg h2]; intro e; have := hold b h1; omega
      · simp only [if_neg h1, if_pos h2]; intro e; have := hold c h2; omega
      intro _; omega
     ·
      rw [hkeep _ (by omega) (fun e => by have := (hrl _ e).1; omega), HBW.out.block _ (by omega)]
      exact HBX.out
     have h1 : Below w.heap.size w wr := HB.out.trans (HBW.out.mono HB.out.size)
     exact (h1.alloc h1.size _).grown HG2.out (by simp; omega) (fun g e => by have := (hrl g e).1; omega)
  obtain rfl : a = M := by omega
  obtain ⟨gN, rfl, hbN, hoN⟩ := HO.out.addr (by omega)
  have hcap := HO.out.form
  go_wp2_with fail
  go_ret
  have hrN : rowOf (.slice (some ⟨gN, 0, none⟩) a c7) = some gN := by
   cases c7 with
   | zero => omega
   | succ k => rfl
  refine ⟨gN, c7, gs, rfl, ⟨fun b hb => ?_, fun b hb => ?_, fun b hb => ?_, ⟨by omega, ?_⟩, HI.out⟩, HB.out⟩
  ·
   have := hoN.cells (g := gN) rfl b (.slice (some ⟨gs b, 0, none⟩) (n + 1) (n + 1)) (by simp [hb])
   by_cases h0 : b = 0
   · subst h0; exact this
   simpa [Addr.add, h0] using this
  · exact (HRW.out b hb).1
  ·
   obtain ⟨k1, k2, k3⟩ := HRW.out b hb
   exact ⟨by omega, heap_lt k1, fun e => k3 (by rw [hrN, e])⟩
  exact (HO.out.row hrN).2
end Go.Proofs.YtjnbjdbndbbanaaGreatDoor
namespace Go.Proofs.YtjnbjdbndbbanaaGreatDoor
inductive Reach {α : Type} (E : α → α → Prop) : α → α → Prop
 | one {a b : α} : E a b → Reach E a b
 | step {a b c : α} : E a b → Reach E b c → Reach E a c
theorem Reach.trans {α : Type} {E : α → α → Prop} {a b c : α} (h : Reach E a b) (h' : Reach E b c) : Reach E a c := by
 induction h with
 | one h => exact .step h h'
 | step h _ ih => exact .step h (ih h')
def Edge (R : List RuleD) (x y : Nat × Nat) : Prop :=
 ∃ r ∈ R, r.1 = (x.1 : Int) ∧ ∃ a b, r.2 = a ++ (false, (y.1 : Int)) :: b ∧ ∃ p q, p + y.2 + q = x.2 ∧ Der R a p ∧ Der R b q ∧ Der R [(false, (y.1 : Int))] y.2
theorem Edge.le {R : List RuleD} {x y : Nat × Nat} (h : Edge R x y) : y.2 ≤ x.2 := by
 obtain ⟨r, hr, h1, a, b, h2, p, q, h3, _⟩ := h
 omega
theorem Edge.lt {R : List RuleD} {N : Nat} (hR : RulesN N R) {x y : Nat × Nat} (h : Edge R x y) : y.1 < N := by
 obtain ⟨r, hr, h1, a, b, h2, _⟩ := h
 have := (hR r hr).2 (false, (y.1 : Int)) (by rw [h2]; simp) rfl
 simpa using this.2
def Many (R : List RuleD) (x : Nat × Nat) : Prop := ∃ y, (x = y ∨ Reach (Edge R) x y) ∧ Reach (Edge R) y y
theorem Many.back {R : List RuleD} {x y : Nat × Nat} (h : Edge R x y) (hm : Many R y) : Many R x := by
 obtain ⟨z, h1, h2⟩ := hm
 rcases h1 with rfl | h1
 · exact ⟨y, .inr (.one h), h2⟩
 exact ⟨z, .inr (.step h h1), h2⟩
def war (e : Nat → Nat → Bool) : Nat → Nat → Nat → Bool
 | 0 => e
 | k + 1 => fun i j => war e k i j || (war e k i k && war e k k j)
theorem war_mono {e : Nat → Nat → Bool} {k i j : Nat} (h : war e k i j = true) : war e (k + 1) i j = true := by simp [war, h]
theorem war_base {e : Nat → Nat → Bool} {i j : Nat} (h : e i j = true) : ∀ k, war e k i j = true
 | 0 => h
 | k + 1 => war_mono (war_base h k)
theorem war_sound {e : Nat → Nat → Bool} : ∀ {k i j : Nat}, war e k i j = true → Reach (fun i j => e i j = true) i j
 | 0, _, _, h => .one h
 | k + 1, i, j, h => by
  simp only [war, Bool.or_eq_true, Bool.and_eq_true] at h
  rcases h with h | ⟨h1, h2⟩
  · exact war_sound h
  exact (war_sound h1).trans (war_sound h2)
theorem war_trans {e : Nat → Nat → Bool} : ∀ {k m i j : Nat}, m < k → war e k i m = true → war e k m j = true → war e k i j = true
 | 0, _, _, _, h, _, _ => by omega
 | k + 1, m, i, j, hm, h1, h2 => by
  simp only [war, Bool.or_eq_true, Bool.and_eq_true] at h1 h2 ⊢
  rcases Nat.lt_succ_iff_lt_or_eq.1 hm with hm | rfl
  ·
   rcases h1 with h1 | ⟨h1, h1'⟩ <;> rcases h2 with h2 | ⟨h2, h2'⟩
   · exact .inl (war_trans hm h1 h2)
   · exact .inr ⟨war_trans hm h1 h2, h2'⟩
   · exact .inr ⟨h1, war_trans hm h1' h2⟩
   exact .inr ⟨h1, h2'⟩
  have h1' : war e m i m = true := by rcases h1 with h1 | ⟨h1, _⟩ <;> exact h1
  have h2' : war e m m j = true := by rcases h2 with h2 | ⟨_, h2⟩ <;> exact h2
  exact .inr ⟨h1', h2'⟩
theorem war_complete {e : Nat → Nat → Bool} {n : Nat} (he : ∀ i j, e i j = true → j < n) {i j : Nat} (h : Reach (fun i j => e i j = true) i j) : war e n i j = true := by
 induction h with
 | one h => exact war_base h n
 | step h _ ih => exact war_trans (he _ _ h) (war_base h n) ih
theorem war_iff {e : Nat → Nat → Bool} {n : Nat} (he : ∀ i j, e i j = true → j < n) {i j : Nat} : war e n i j = true ↔ Reach (fun i j => e i j = true) i j := ⟨war_sound, war_complete he⟩
def edgeB (R : List RuleD) (S : Nat → Nat → Bool) (x y : Nat × Nat) : Bool :=
 R.any fun r => decide (r.1 = (x.1 : Int)) && (List.range r.2.length).any fun i => decide (r.2[i]? = some (false, (y.1 : Int))) && decide (y.2 ≤ x.2) && S y.1 y.2 && splitT S (r.2.take i) (r.2.drop (i + 1)) (x.2 - y.2)
theorem edgeB_iff {R : List RuleD} {N : Nat} (hR : RulesN N R) {x y : Nat × Nat} : edgeB R (lenD R) x y = true ↔ Edge R x y := by
 simp only [edgeB, List.any_eq_true, Bool.and_eq_true, decide_eq_true_eq, List.mem_range, splitT_iff, lenD_iff]
 constructor
 ·
  rintro ⟨r, hr, h1, i, hi, ⟨⟨h2, h3⟩, h4⟩, p, hp, h5, h6⟩
  obtain ⟨hi', e⟩ := List.getElem?_eq_some_iff.1 h2
  refine ⟨r, hr, h1, r.2.take i, r.2.drop (i + 1), ?_, p, x.2 - y.2 - p, by omega, (canD_iff ((hR r hr).2.take i) hR).1 h5, (canD_iff ((hR r hr).2.drop (i + 1)) hR).1 h6, h4⟩
  rw [← e, ← List.drop_eq_getElem_cons, List.take_append_drop]
 rintro ⟨r, hr, h1, a, b, h2, p, q, h3, h4, h5, h6⟩
 have ea : r.2.take a.length = a := by rw [h2]; simp
 have eb : r.2.drop (a.length + 1) = b := by rw [h2, List.drop_append, List.drop_of_length_le (by omega)]; simp
 have hra := (hR r hr).2.take a.length
 have hrb := (hR r hr).2.drop (a.length + 1)
 rw [ea] at hra
 rw [eb] at hrb
 refine ⟨r, hr, h1, a.length, by rw [h2]; simp, ⟨⟨by rw [h2]; simp, by omega⟩, h6⟩, p, by omega, ?_, ?_⟩
 · rw [ea]; exact (canD_iff hra hR).2 h4
 rw [eb, show x.2 - y.2 - p = q by omega]; exact (canD_iff hrb hR).2 h5
theorem edgeB_congr {R : List RuleD} {N n : Nat} (hR : RulesN N R) {S S' : Nat → Nat → Bool} (hS : ∀ a k, a < N → k ≤ n → S a k = S' a k) {x y : Nat × Nat} (hx : x.2 ≤ n) : edgeB R S x y = edgeB R S' x y := by
 unfold edgeB
 rw [Bool.eq_iff_iff]
 simp only [List.any_eq_true, Bool.and_eq_true, decide_eq_true_eq, List.mem_range]
 have key : ∀ r ∈ R, ∀ i, r.2[i]? = some (false, (y.1 : Int)) → y.2 ≤ x.2 → S y.1 y.2 = S' y.1 y.2 ∧ splitT S (r.2.take i) (r.2.drop (i + 1)) (x.2 - y.2) = splitT S' (r.2.take i) (r.2.drop (i + 1)) (x.2 - y.2) := by
  intro r hr i hi hy
  have := (hR r hr).2 _ (List.mem_of_getElem? hi) rfl
  exact ⟨hS _ _ (by simpa using this.2) (by omega), splitT_congr hS ((hR r hr).2.take i) ((hR r hr).2.drop (i + 1)) (by omega)⟩
 constructor
 ·
  rintro ⟨r, hr, h1, i, hi, ⟨⟨h2, h3⟩, h4⟩, h5⟩
  obtain ⟨e1, e2⟩ := key r hr i h2 h3
  exact ⟨r, hr, h1, i, hi, ⟨⟨h2, h3⟩, by rw [← e1]; exact h4⟩, by rw [← e2]; exact h5⟩
 rintro ⟨r, hr, h1, i, hi, ⟨⟨h2, h3⟩, h4⟩, h5⟩
 obtain ⟨e1, e2⟩ := key r hr i h2 h3
 exact ⟨r, hr, h1, i, hi, ⟨⟨h2, h3⟩, by rw [e1]; exact h4⟩, by rw [e2]; exact h5⟩
def nodeOf (n i : Nat) : Nat × Nat := (i / (n + 1), i % (n + 1))
def numOf (n : Nat) (x : Nat × Nat) : Nat := x.1 * (n + 1) + x.2
theorem nodeOf_num {n : Nat} {x : Nat × Nat} (h : x.2 ≤ n) : nodeOf n (numOf n x) = x := by
 unfold nodeOf numOf
 rw [Nat.mul_comm, Nat.mul_add_div (by omega), Nat.div_eq_of_lt (by omega), Nat.mul_add_mod, Nat.mod_eq_of_lt (by omega)]
 simp
theorem numOf_node (n i : Nat) : numOf n (nodeOf n i) = i := by
 unfold nodeOf numOf
 have := Nat.div_add_mod i (n + 1)
 rw [Nat.mul_comm] at this
 exact this
theorem nodeOf_le (n i : Nat) : (nodeOf n i).2 ≤ n := by
 have := Nat.mod_lt i (show 0 < n + 1 by omega)
 unfold nodeOf
 dsimp only
 omega
theorem numOf_lt {n N : Nat} {x : Nat × Nat} (h1 : x.1 < N) (h2 : x.2 ≤ n) : numOf n x < N * (n + 1) := by
 unfold numOf
 have : (x.1 + 1) * (n + 1) ≤ N * (n + 1) := Nat.mul_le_mul_right _ (by omega)
 rw [Nat.add_mul] at this
 omega
def toB (R : List RuleD) (S : Nat → Nat → Bool) (n i j : Nat) : Bool := edgeB R S (nodeOf n i) (nodeOf n j)
theorem toB_iff {R : List RuleD} {N n : Nat} {S : Nat → Nat → Bool} (hR : RulesN N R) (hS : ∀ a k, a < N → k ≤ n → S a k = lenD R a k) {i j : Nat} : toB R S n i j = true ↔ Edge R (nodeOf n i) (nodeOf n j) := by
 unfold toB
 rw [edgeB_congr hR hS (nodeOf_le n i)]
 exact edgeB_iff hR
theorem toB_reach {R : List RuleD} {N n : Nat} {S : Nat → Nat → Bool} (hR : RulesN N R) (hS : ∀ a k, a < N → k ≤ n → S a k = lenD R a k) {i j : Nat} :
    war (toB R S n) (N * (n + 1)) i j = true ↔ Reach (Edge R) (nodeOf n i) (nodeOf n j) := by
 have hlt : ∀ i j, toB R S n i j = true → j < N * (n + 1) := by
  intro i j h
  rw [toB_iff hR hS] at h
  have := numOf_lt (h.lt hR) (nodeOf_le n j)
  rwa [numOf_node] at this
 rw [war_iff hlt]
 constructor
 ·
  intro h
  induction h with
  | one h => exact .one ((toB_iff hR hS).1 h)
  | step h _ ih => exact .step ((toB_iff hR hS).1 h) ih
 have key : ∀ {x y : Nat × Nat}, Reach (Edge R) x y → x.2 ≤ n → Reach (fun i j => toB R S n i j = true) (numOf n x) (numOf n y) := by
  intro x y h
  induction h with
  | @one a b h =>
   intro hx
   refine .one ((toB_iff hR hS).2 ?_)
   rw [nodeOf_num hx, nodeOf_num (Nat.le_trans h.le hx)]
   exact h
  | @step a b c h _ ih =>
   intro hx
   refine .step ((toB_iff hR hS).2 ?_) (ih (Nat.le_trans h.le hx))
   rw [nodeOf_num hx, nodeOf_num (Nat.le_trans h.le hx)]
   exact h
 intro h
 have := key h (nodeOf_le n i)
 rwa [numOf_node, numOf_node] at this
def manyB (W : Nat → Nat → Bool) (size i : Nat) : Bool := (List.range size).any fun j => (decide (i = j) || W i j) && W j j
theorem manyB_iff {R : List RuleD} {N n : Nat} {S : Nat → Nat → Bool} (hR : RulesN N R) (hS : ∀ a k, a < N → k ≤ n → S a k = lenD R a k) {i : Nat} :
    manyB (war (toB R S n) (N * (n + 1))) (N * (n + 1)) i = true ↔ Many R (nodeOf n i) := by
 simp only [manyB, List.any_eq_true, List.mem_range, Bool.and_eq_true, Bool.or_eq_true, decide_eq_true_eq, toB_reach hR hS]
 constructor
 ·
  rintro ⟨j, hj, h1, h2⟩
  exact ⟨nodeOf n j, h1.imp (fun e => by rw [e]) id, h2⟩
 rintro ⟨y, h1, h2⟩
 have hyn : y.2 ≤ n := by
  have hle : ∀ {x y : Nat × Nat}, Reach (Edge R) x y → y.2 ≤ x.2 := by
   intro x y h
   induction h with
   | one h => exact h.le
   | step h _ ih => exact Nat.le_trans ih h.le
  rcases h1 with rfl | h1
  · exact nodeOf_le n i
  exact Nat.le_trans (hle h1) (nodeOf_le n i)
 have hyN : y.1 < N := by
  have hlt : ∀ {x y : Nat × Nat}, Reach (Edge R) x y → y.1 < N := by
   intro x y h
   induction h with
   | one h => exact h.lt hR
   | step _ _ ih => exact ih
  exact hlt h2
 refine ⟨numOf n y, numOf_lt hyN hyn, ?_, ?_⟩
 ·
  rw [nodeOf_num hyn]
  exact h1.imp (fun e => by rw [← e, numOf_node]) id
 rw [nodeOf_num hyn]; exact h2
theorem pigeon : ∀ {n : Nat} {l : List Nat}, l.Nodup → (∀ x ∈ l, x < n) → l.length ≤ n
 | 0, [], _, _ => Nat.le_refl _
 | 0, x :: _, _, h => absurd (h x (by simp)) (by omega)
 | n + 1, l, hd, h => by
  have h1 : (l.erase n).length ≤ n := pigeon (hd.erase n) fun x hx => by
   have h2 := h x (List.mem_of_mem_erase hx)
   have h3 : x ≠ n := fun e => by subst e; exact (List.Nodup.not_mem_erase hd) hx
   omega
  have := List.length_erase (a := n) (l := l)
  split at this <;> omega
theorem acc_of_few {R : List RuleD} {N n : Nat} (hR : RulesN N R) : ∀ (m : Nat) (vis : List (Nat × Nat)) (x : Nat × Nat), vis.Nodup → (∀ v ∈ vis, (v.1 < N ∧ v.2 ≤ n) ∧ Reach (Edge R) v x) → x.1 < N → x.2 ≤ n → ¬ Many R x → N * (n + 1) - vis.length ≤ m →
    Acc (fun y x => Edge R x y) x
 | m, vis, x, hd, hv, h1, h2, hm, hle => by
  have hx : x ∉ vis := fun h => hm ⟨x, .inl rfl, (hv x h).2⟩
  have hlen : (x :: vis).length ≤ N * (n + 1) := by
   have := pigeon (n := N * (n + 1)) (l := (x :: vis).map (numOf n)) (by
    rw [List.nodup_iff_pairwise_ne, List.pairwise_map]
    refine List.Pairwise.imp_of_mem (R := (· ≠ ·)) ?_ (List.nodup_cons.2 ⟨hx, hd⟩)
    intro a b ha hb hne e
    have ha2 : a.2 ≤ n := by rcases List.mem_cons.1 ha with rfl | h; exact h2; exact (hv a h).1.2
    have hb2 : b.2 ≤ n := by rcases List.mem_cons.1 hb with rfl | h; exact h2; exact (hv b h).1.2
    have := congrArg (nodeOf n) e
    rw [nodeOf_num ha2, nodeOf_num hb2] at this
    exact hne this) (by
    intro q hq
    obtain ⟨v, hv', rfl⟩ := List.mem_map.1 hq
    rcases List.mem_cons.1 hv' with rfl | h
    · exact numOf_lt h1 h2
    exact numOf_lt (hv v h).1.1 (hv v h).1.2)
   simpa using this
  refine Acc.intro x fun y hy => ?_
  match m with
  | 0 => simp only [List.length_cons] at hlen; omega
  | m + 1 =>
   refine acc_of_few hR m (x :: vis) y (List.nodup_cons.2 ⟨hx, hd⟩) ?_ (hy.lt hR) (Nat.le_trans hy.le h2) (fun h => hm (h.back hy)) (by simp only [List.length_cons]; omega)
   intro v hv'
   rcases List.mem_cons.1 hv' with rfl | h
   · exact ⟨⟨h1, h2⟩, .one hy⟩
   exact ⟨(hv v h).1, (hv v h).2.trans (.one hy)⟩
theorem acc_few {R : List RuleD} {N : Nat} (hR : RulesN N R) {x : Nat × Nat} (h1 : x.1 < N) (hm : ¬ Many R x) : Acc (fun y x => Edge R x y) x :=
 acc_of_few (n := x.2) hR (N * (x.2 + 1)) [] x .nil (by simp) h1 (Nat.le_refl _) hm (by simp)
end Go.Proofs.YtjnbjdbndbbanaaGreatDoor
