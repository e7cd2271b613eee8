/- InsSort -/
import Derived.Deep.LoopGhost
import Derived.Shelf.Abstract
import Derived.Test.YtimklgbljjamkaaDoorCs35
namespace Go.Proofs.YtimklgbljjamkaaDoor
open Go.RowKit
def InOrd (ps : List PackD) : Prop := ∀ (i j : Nat) (x y : PackD), i < j → ps[i]? = some x → ps[j]? = some y → ¬ cmpPk y x < 0
structure StP (w : World) (S : Nat → Prop) (A : Option Addr) (n c : Nat) (ps : List PackD) : Prop where
 sl : Sl RPack w S A n c ps
 ord : InOrd ps
 len : ∀ p ∈ ps, p.2.length ≤ 1000000
 few : n ≤ 1000000
theorem StP.below {w w' : World} {S : Nat → Prop} {A : Option Addr} {n c : Nat} {ps : List PackD} (h : StP w S A n c ps) (hb : Below w.heap.size w w') : StP w' S A n c ps := ⟨h.sl.below hb, h.ord, h.len, h.few⟩
theorem StP.at_ {w : World} {S : Nat → Prop} {A : Option Addr} {n c : Nat} {ps : List PackD} (h : StP w S A n c ps) {k : Nat} (hk : k < n) : ∃ (b off : Nat) (p : PackD) (A1 : Option Addr) (m c1 : Nat), A = some ⟨b, off, none⟩ ∧ ps[k]? = some p ∧ w.cell? ⟨b, off + k * 2, none⟩ = some (.int .i64 p.1) ∧ w.cell? ⟨b, off + k * 2 + 1, none⟩ = some (.slice A1 m c1) ∧ Sl Rep.int w S A1 m c1 p.2 ∧ m ≤ 1000000 := by
 obtain ⟨b, off, u, v, p, e, _, hp, hok, hc1, hc2⟩ := h.sl.at2 (k := k) rfl hk
 obtain ⟨A1, m, c1, h2, hsl⟩ := RPack.cells.1 hok
 injection h2 with e1 h2
 injection h2 with e2 _
 subst e1
 subst e2
 exact ⟨b, off, p, A1, m, c1, e, hp, hc1, hc2, hsl, by rw [hsl.len]; exact h.len p (List.mem_of_getElem? hp)⟩
theorem enters_cp : ∀ (args : Array Value) (u : World), (callFunc 76 args).run Tryd.prog u = .ok (.enter 76 args) u := enters_of Tryd.func76 (by kernel_rfl) rfl
set_option linter.unusedSimpArgs false in
set_option maxRecDepth 100000 in
set_option maxHeartbeats 4000000 in
theorem insSt (w : World) (S : Nat → Prop) (A : Option Addr) (n c : Nat) (ps : List PackD) (h : StP w S A n c ps) (a b : Nat) (hb : b ≤ n) (ha : a ≤ n) :
    Calls Tryd.prog 120 #[.slice A n c, .int .i64 (a : Int), .int .i64 (b : Int), .func (.func 76) #[] #[]] w fun e w' => e = .returned (.tuple #[]) ∧ Below w.heap.size w w' := by
 have HS := Lib.hid h
 have hn := h.few
 have hent := enters_cp
 clear h
 go_enter Tryd.func120, Tryd.ntmps120
 go_wp2_with fail
 go_loopg [8] (n + 1 - (a + 1)) (fun g v8 wr => ∃ i : Nat, a < i ∧ i ≤ n + 1 ∧ g = n + 1 - i ∧ v8 = .int .i64 (i : Int) ∧ Below w.heap.size w wr)
 case atStart => exact ⟨a + 1, by omega, by omega, rfl, by go_num, Below.refl _ _⟩
 case round =>
  obtain ⟨i, hai, hin, hg, rfl, hbw⟩ := hrel
  obtain ⟨w3, rfl⟩ : ∃ w3 : World, w3 = wr := ⟨_, rfl⟩
  have HG := Lib.hid hg
  have HB := Lib.hid hbw
  clear hg hbw
  by_cases hib : i < b
  ·
   have hibI : (i : Int) < (b : Int) := by omega
   go_wp2_with fail
   go_loopg [9] 0 (fun g v9 wr => g = 0 ∧ v9 = .int .i64 (i : Int) ∧ wr = w3)
   case atStart => exact ⟨rfl, rfl, rfl⟩
   case round =>
    obtain ⟨_, rfl, rfl⟩ := hrel
    obtain ⟨k, hk⟩ : ∃ k, i = k + 1 := ⟨i - 1, by omega⟩
    have HS3 := Lib.hid (HS.out.below HB.out)
    obtain ⟨bA, oA, q, A2, m2, c2, hA, hq, q0, q1, hsq, hm2⟩ := HS3.out.at_ (k := i) (by omega)
    obtain ⟨bA', oA', p, A1, m1, c1, hA', hp, p0, p1, hsp, hm1⟩ := HS3.out.at_ (k := k) (by omega)
    subst hA
    injection hA' with hA'
    injection hA' with e1 e2
    subst e1
    subst e2
    have hw : IntKind.i64.wrap ((i : Int) - 1) = (k : Int) := by rw [IntKind.wrap_i64]; omega
    have HNL := Lib.hid (HS3.out.ord k i p q (by omega) hp hq)
    have haI : (a : Int) < (i : Int) := by omega
    have hi0 : (0 : Int) ≤ (i : Int) := by omega
    have hiI : (i : Int) < (n : Int) := by omega
    have hk0 : (0 : Int) ≤ (k : Int) := by omega
    have hkI : (k : Int) < (n : Int) := by omega
    have HQ := Lib.hid hsq
    have HP := Lib.hid hsp
    have HSA := Lib.hid (show ∀ x : World, Below wr.heap.size wr x → x.cell? ⟨bA, oA + i * 2, none⟩ = some (.int .i64 q.1) ∧ x.cell? ⟨bA, oA + i * 2 + 1, none⟩ = some (.slice A2 m2 c2) ∧ x.cell? ⟨bA, oA + k * 2, none⟩ = some (.int .i64 p.1) ∧ x.cell? ⟨bA, oA + k * 2 + 1, none⟩ = some (.slice A1 m1 c1) from fun x hx =>
     ⟨(hx.cell (cell_lt q0)).trans q0, (hx.cell (cell_lt q1)).trans q1, (hx.cell (cell_lt p0)).trans p0, (hx.cell (cell_lt p1)).trans p1⟩)
    clear hq hp hsq hsp hk q0 q1 p0 p1
    go_wp2_with fail
    refine wp_region_late (late := []) (S1 := fun x => x.cell? ⟨bA, oA + i * 2, none⟩ = some (.int .i64 q.1) ∧ x.cell? ⟨bA, oA + i * 2 + 1, none⟩ = some (.slice A2 m2 c2) ∧ x.cell? ⟨bA, oA + k * 2, none⟩ = some (.int .i64 p.1) ∧ x.cell? ⟨bA, oA + k * 2 + 1, none⟩ = some (.slice A1 m1 c1)) (S := fun _ => True) (by kernel_rfl) ?_
    refine wpAnyL_pure (i := 0) rfl (by kernel_rfl) (fun _ _ _ h => h) (Or.inl ⟨by rfl, (fun u hu => by obtain ⟨j0, j1, j2, j3⟩ := hu; go_simp; try first | rfl | (simp; done))⟩) (HSA.out _ (Below.refl _ _).drew) (fun _ => trivial) ?_
    simp only [Act.put, List.setIfInBounds_toArray, List.set_cons_zero, List.set_cons_succ, List.getElem_toArray, List.getElem_cons_zero, List.getElem_cons_succ]
    refine wpAnyL_pure (i := 1) rfl (by kernel_rfl) (fun _ _ _ h => h) (Or.inl ⟨by rfl, (fun u hu => by obtain ⟨j0, j1, j2, j3⟩ := hu; go_simp; try first | rfl | (simp; done))⟩) (HSA.out _ (Below.refl _ _).drew) (fun _ => trivial) ?_
    simp only [Act.put, List.setIfInBounds_toArray, List.set_cons_zero, List.set_cons_succ, List.getElem_toArray, List.getElem_cons_zero, List.getElem_cons_succ]
    refine wpAnyL_pure (i := 2) (v := .bool true) rfl (by kernel_rfl) (fun _ _ _ h => h) (Or.inl ⟨by rfl, (fun u hu => by obtain ⟨j0, j1, j2, j3⟩ := hu; go_simp; try first | rfl | (simp; done))⟩) (HSA.out _ (Below.refl _ _).drew) (fun _ => trivial) ?_
    simp only [Act.put, List.setIfInBounds_toArray, List.set_cons_zero, List.set_cons_succ, List.getElem_toArray, List.getElem_cons_zero, List.getElem_cons_succ]
    refine wpAnyL_pure (i := 3) (v := .bool true) rfl (by kernel_rfl) (fun _ _ _ h => h) (Or.inl ⟨by rfl, (fun u hu => by obtain ⟨j0, j1, j2, j3⟩ := hu; go_simp; try first | rfl | (simp; done))⟩) (HSA.out _ (Below.refl _ _).drew) (fun _ => trivial) ?_
    simp only [Act.put, List.setIfInBounds_toArray, List.set_cons_zero, List.set_cons_succ, List.getElem_toArray, List.getElem_cons_zero, List.getElem_cons_succ]
    refine wpAnyL_pure (i := 4) rfl (by kernel_rfl) (fun _ _ _ h => h) (Or.inl ⟨by rfl, (fun u hu => by obtain ⟨j0, j1, j2, j3⟩ := hu; go_simp; try first | rfl | (simp; done))⟩) (HSA.out _ (Below.refl _ _).drew) (fun _ => trivial) ?_
    simp only [Act.put, List.setIfInBounds_toArray, List.set_cons_zero, List.set_cons_succ, List.getElem_toArray, List.getElem_cons_zero, List.getElem_cons_succ]
    refine wpAnyL_pure (i := 5) rfl (by kernel_rfl) (fun _ _ _ h => h) (Or.inl ⟨by rfl, (fun u hu => by obtain ⟨j0, j1, j2, j3⟩ := hu; go_simp; try first | rfl | (simp; done))⟩) (HSA.out _ (Below.refl _ _).drew) (fun _ => trivial) ?_
    simp only [Act.put, List.setIfInBounds_toArray, List.set_cons_zero, List.set_cons_succ, List.getElem_toArray, List.getElem_cons_zero, List.getElem_cons_succ]
    refine wpAnyL_pure (i := 6) rfl (by kernel_rfl) (fun _ _ _ h => h) (Or.inl ⟨by rfl, (fun u hu => by obtain ⟨j0, j1, j2, j3⟩ := hu; go_simp; try first | rfl | (simp; done))⟩) (HSA.out _ (Below.refl _ _).drew) (fun _ => trivial) ?_
    simp only [Act.put, List.setIfInBounds_toArray, List.set_cons_zero, List.set_cons_succ, List.getElem_toArray, List.getElem_cons_zero, List.getElem_cons_succ]
    refine wpAnyL_pure (i := 7) rfl (by kernel_rfl) (fun _ _ _ h => h) (Or.inl ⟨by rfl, (fun u hu => by obtain ⟨j0, j1, j2, j3⟩ := hu; go_simp; try first | rfl | (simp; done))⟩) (HSA.out _ (Below.refl _ _).drew) (fun _ => trivial) ?_
    simp only [Act.put, List.setIfInBounds_toArray, List.set_cons_zero, List.set_cons_succ, List.getElem_toArray, List.getElem_cons_zero, List.getElem_cons_succ]
    refine wpAnyL_pure (i := 8) rfl (by kernel_rfl) (fun _ _ _ h => h) (Or.inl ⟨by rfl, (fun u hu => by obtain ⟨j0, j1, j2, j3⟩ := hu; go_simp; try first | rfl | (simp; done))⟩) (HSA.out _ (Below.refl _ _).drew) (fun _ => trivial) ?_
    simp only [Act.put, List.setIfInBounds_toArray, List.set_cons_zero, List.set_cons_succ, List.getElem_toArray, List.getElem_cons_zero, List.getElem_cons_succ]
    refine wpAnyL_pure (i := 9) rfl (by kernel_rfl) (fun _ _ _ h => h) (Or.inl ⟨by rfl, (fun u hu => by obtain ⟨j0, j1, j2, j3⟩ := hu; go_simp; try first | rfl | (simp; done))⟩) (HSA.out _ (Below.refl _ _).drew) (fun _ => trivial) ?_
    simp only [Act.put, List.setIfInBounds_toArray, List.set_cons_zero, List.set_cons_succ, List.getElem_toArray, List.getElem_cons_zero, List.getElem_cons_succ]
    refine wpAnyL_pure (i := 10) rfl (by kernel_rfl) (fun _ _ _ h => h) (Or.inl ⟨by rfl, (fun u hu => by obtain ⟨j0, j1, j2, j3⟩ := hu; go_simp; try first | rfl | (simp; done))⟩) (HSA.out _ (Below.refl _ _).drew) (fun _ => trivial) ?_
    simp only [Act.put, List.setIfInBounds_toArray, List.set_cons_zero, List.set_cons_succ, List.getElem_toArray, List.getElem_cons_zero, List.getElem_cons_succ]
    refine wpAnyL_pure (i := 11) rfl (by kernel_rfl) (fun _ _ _ h => h) (Or.inl ⟨by rfl, (fun u hu => by obtain ⟨j0, j1, j2, j3⟩ := hu; go_simp; try first | rfl | (simp; done))⟩) (HSA.out _ (Below.refl _ _).drew) (fun _ => trivial) ?_
    simp only [Act.put, List.setIfInBounds_toArray, List.set_cons_zero, List.set_cons_succ, List.getElem_toArray, List.getElem_cons_zero, List.getElem_cons_succ]
    refine wpAnyL_pure (i := 12) rfl (by kernel_rfl) (fun _ _ _ h => h) (Or.inl ⟨by rfl, (fun u hu => by obtain ⟨j0, j1, j2, j3⟩ := hu; go_simp; try first | rfl | (simp; done))⟩) (HSA.out _ (Below.refl _ _).drew) (fun _ => trivial) ?_
    simp only [Act.put, List.setIfInBounds_toArray, List.set_cons_zero, List.set_cons_succ, List.getElem_toArray, List.getElem_cons_zero, List.getElem_cons_succ]
    refine wpAnyL_pure (i := 13) rfl (by kernel_rfl) (fun _ _ _ h => h) (Or.inl ⟨by rfl, (fun u hu => by obtain ⟨j0, j1, j2, j3⟩ := hu; go_simp; try first | rfl | (simp; done))⟩) (HSA.out _ (Below.refl _ _).drew) (fun _ => trivial) ?_
    simp only [Act.put, List.setIfInBounds_toArray, List.set_cons_zero, List.set_cons_succ, List.getElem_toArray, List.getElem_cons_zero, List.getElem_cons_succ]
    refine wpAnyL_ready (rs := [14]) (by kernel_rfl) (by simp) ?_
    refine AllL.cons rfl (fun K hK => ?_) ?_
    ·
     go_simp
     refine (cmpPack wr.drew q p _ _ A2 A1 m2 c2 m1 c1 HQ.out.drew HP.out.drew (by omega)).mono ?_
     rintro e w5 ⟨rfl, hb5⟩
     have HB5 := Lib.hid ((Below.refl wr.heap.size wr).drew.trans hb5)
     have hnl := HNL.out
     clear hb5
     refine hK.out _ _ (HSA.out _ HB5.out) (fun _ => trivial) ?_
     clear hK K
     refine wpAnyL_pure (i := 15) (v := .bool false) rfl (by kernel_rfl) (fun _ _ _ h => h) (Or.inl ⟨by rfl, (fun u hu => by obtain ⟨j0, j1, j2, j3⟩ := hu; go_simp; try first | rfl | (simp; done))⟩) (HSA.out _ HB5.out) (fun _ => trivial) ?_
     simp only [Act.put, List.setIfInBounds_toArray, List.set_cons_zero, List.set_cons_succ, List.getElem_toArray, List.getElem_cons_zero, List.getElem_cons_succ]
     refine wpAnyL_pure (i := 16) (v := .bool false) rfl (by kernel_rfl) (fun _ _ _ h => h) (Or.inl ⟨by rfl, (fun u hu => by obtain ⟨j0, j1, j2, j3⟩ := hu; go_simp; try first | rfl | (simp; done))⟩) (HSA.out _ HB5.out) (fun _ => trivial) ?_
     simp only [Act.put, List.setIfInBounds_toArray, List.set_cons_zero, List.set_cons_succ, List.getElem_toArray, List.getElem_cons_zero, List.getElem_cons_succ]
     refine wpAnyL_done (by kernel_rfl) ?_ _
     go_wp2_with fail
     go_roundg (n + 1 - (i + 1))
     case measure => rw [HG.out]; omega
     case rel => exact ⟨i + 1, by omega, by omega, rfl, by go_num, HB.out.trans (HB5.out.mono HB.out.size)⟩
    exact AllL.nil
  ·
   have hibI : ¬ (i : Int) < (b : Int) := by omega
   go_wp2_with fail
   exact Go.bodyPost_end (v := .tuple #[]) (by simp [results, Tryd.results120, go_sem]) rfl ⟨rfl, HB.out⟩
end Go.Proofs.YtimklgbljjamkaaDoor
