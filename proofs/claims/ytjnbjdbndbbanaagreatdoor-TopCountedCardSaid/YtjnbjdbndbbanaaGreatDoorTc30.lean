/- SymMerge -/
import Derived.Test.YtjnbjdbndbbanaaGreatDoorTc24
namespace Go.Proofs.YtjnbjdbndbbanaaGreatDoor
open Go.RowKit
def SymAt (S : Nat → Prop) (A : Option Addr) (n c : Nat) (ps : List PackD) (d : Nat) : Prop :=
 ∀ (w : World) (a m b : Nat), StP w S A n c ps → a < m → m < b → b ≤ n → b - a ≤ d →
  Calls Tryz.prog 110 #[.slice A n c, .int .i64 (a : Int), .int .i64 (m : Int), .int .i64 (b : Int), .func (.func 73) #[] #[]] w fun e w' => e = .returned (.tuple #[]) ∧ Below w.heap.size w w'
theorem cmp_two {w : World} {S : Nat → Prop} {A : Option Addr} {n c : Nat} {ps : List PackD} (h : StP w S A n c ps) {i k : Nat} (hki : k < i) (hi : i < n) :
    ∃ (bA oA : Nat) (q p : PackD) (A2 : Option Addr) (m2 c2 : Nat) (A1 : Option Addr) (m1 c1 : Nat), A = some ⟨bA, oA, none⟩ ∧
     (∀ x : World, Below w.heap.size w x → x.cell? ⟨bA, oA + i * 2, none⟩ = some (.int .i64 q.1) ∧ x.cell? ⟨bA, oA + i * 2 + 1, none⟩ = some (.slice A2 m2 c2) ∧ x.cell? ⟨bA, oA + k * 2, none⟩ = some (.int .i64 p.1) ∧ x.cell? ⟨bA, oA + k * 2 + 1, none⟩ = some (.slice A1 m1 c1)) ∧
     ∀ x : World, Below w.heap.size w x → Calls Tryz.prog 73 #[.agg #[.int .i64 q.1, .slice A2 m2 c2], .agg #[.int .i64 p.1, .slice A1 m1 c1]] x fun e w' => (∃ z : Int, e = .returned (.int .i64 z) ∧ ¬ z < 0) ∧ Below x.heap.size x w' := by
 obtain ⟨bA, oA, q, A2, m2, c2, hA, hq, q0, q1, hsq, hm2⟩ := h.at_ (k := i) (by omega)
 obtain ⟨bA', oA', p, A1, m1, c1, hA', hp, p0, p1, hsp, hm1⟩ := h.at_ (k := k) (by omega)
 subst hA
 injection hA' with hA'
 injection hA' with e1 e2
 subst e1
 subst e2
 refine ⟨bA, oA, q, p, A2, m2, c2, A1, m1, c1, rfl, fun x hx => ⟨(hx.cell (cell_lt q0)).trans q0, (hx.cell (cell_lt q1)).trans q1, (hx.cell (cell_lt p0)).trans p0, (hx.cell (cell_lt p1)).trans p1⟩, fun x hx => ?_⟩
 refine (cmpPack x q p _ _ A2 A1 m2 c2 m1 c1 (hsq.below hx) (hsp.below hx) (by omega)).mono ?_
 rintro e w' ⟨rfl, hb⟩
 exact ⟨⟨_, rfl, h.ord k i p q hki hp hq⟩, hb⟩
set_option linter.unusedSimpArgs false in
set_option maxRecDepth 100000 in
set_option maxHeartbeats 8000000 in
theorem symS (S : Nat → Prop) (A : Option Addr) (n c : Nat) (ps : List PackD) (d : Nat) (IH : ∀ d', d' < d → SymAt S A n c ps d') : SymAt S A n c ps d := by
 intro w a m b hst ham hmb hbn hd
 have HS := zh hst
 have HIH := zh IH
 have hn := hst.few
 have hent := enters_cp
 clear hst IH
 have HD := zh hd
 clear hd
 by_cases h1 : m - a = 1
 ·
  have h1I : (m : Int) - (a : Int) = 1 := by omega
  go_enter Tryz.func110, Tryz.ntmps110
  go_wp2_with fail
  go_loopg [10, 11] (b - m) (fun g v10 v11 wr => ∃ j : Nat, m ≤ j ∧ j ≤ b ∧ g = j - m ∧ v10 = .int .i64 (m : Int) ∧ v11 = .int .i64 (j : Int) ∧ Below w.heap.size w wr)
  case atStart => exact ⟨b, by omega, by omega, rfl, rfl, rfl, Below.refl _ _⟩
  case round =>
   obtain ⟨j, hmj, hjb, hg, rfl, rfl, hbw⟩ := hrel
   obtain ⟨w3, rfl⟩ := zE wr
   have HG := zh hg
   have HB := zh hbw
   clear hg hbw
   by_cases hlt : m < j
   ·
    have hltI : (m : Int) < (j : Int) := by omega
    obtain ⟨h, hh⟩ : ∃ h, h = (m + j) / 2 := ⟨_, rfl⟩
    have hmid : ((m : Int) + (j : Int)) / 2 = (h : Int) := by omega
    have hh1 : m ≤ h ∧ h < j := by omega
    clear hh
    go_wp2_with fail
    clear hmid
    have HS3 := zh (HS.out.below HB.out)
    obtain ⟨bA, oA, q, p, A2, m2, c2, A1, m1, c1, hA, hcl, hcc⟩ := cmp_two HS3.out (i := h) (k := a) (by omega) (by omega)
    subst hA
    have HSA := zh hcl
    have HCC := zh hcc
    have hi0 : (0 : Int) ≤ (h : Int) := by omega
    have hiI : (h : Int) < (n : Int) := by omega
    have hk0 : (0 : Int) ≤ (a : Int) := by omega
    have hkI : (a : Int) < (n : Int) := by omega
    clear hcl hcc
    refine wp_region_late (late := []) (S1 := fun x => x.cell? ⟨bA, oA + h * 2, none⟩ = some (.int .i64 q.1) ∧ x.cell? ⟨bA, oA + h * 2 + 1, none⟩ = some (.slice A2 m2 c2) ∧ x.cell? ⟨bA, oA + a * 2, none⟩ = some (.int .i64 p.1) ∧ x.cell? ⟨bA, oA + a * 2 + 1, none⟩ = some (.slice A1 m1 c1)) (S := fun _ => True) (by kernel_rfl) ?_
    refine zP (i := 0) rfl (fun u hu => by obtain ⟨j0, j1, j2, j3⟩ := hu; go_simp; try first | rfl | (simp; done)) (HSA.out _ (Below.refl _ _).drew) zt ?_
    simp only [Act.put, zA, zB, zC, zD, zF, zG]
    refine zP (i := 1) rfl (fun u hu => by obtain ⟨j0, j1, j2, j3⟩ := hu; go_simp; try first | rfl | (simp; done)) (HSA.out _ (Below.refl _ _).drew) zt ?_
    simp only [Act.put, zA, zB, zC, zD, zF, zG]
    refine zP (i := 2) rfl (fun u hu => by obtain ⟨j0, j1, j2, j3⟩ := hu; go_simp; try first | rfl | (simp; done)) (HSA.out _ (Below.refl _ _).drew) zt ?_
    simp only [Act.put, zA, zB, zC, zD, zF, zG]
    refine zP (i := 3) rfl (fun u hu => by obtain ⟨j0, j1, j2, j3⟩ := hu; go_simp; try first | rfl | (simp; done)) (HSA.out _ (Below.refl _ _).drew) zt ?_
    simp only [Act.put, zA, zB, zC, zD, zF, zG]
    refine zP (i := 4) rfl (fun u hu => by obtain ⟨j0, j1, j2, j3⟩ := hu; go_simp; try first | rfl | (simp; done)) (HSA.out _ (Below.refl _ _).drew) zt ?_
    simp only [Act.put, zA, zB, zC, zD, zF, zG]
    refine zP (i := 5) rfl (fun u hu => by obtain ⟨j0, j1, j2, j3⟩ := hu; go_simp; try first | rfl | (simp; done)) (HSA.out _ (Below.refl _ _).drew) zt ?_
    simp only [Act.put, zA, zB, zC, zD, zF, zG]
    refine zP (i := 6) rfl (fun u hu => by obtain ⟨j0, j1, j2, j3⟩ := hu; go_simp; try first | rfl | (simp; done)) (HSA.out _ (Below.refl _ _).drew) zt ?_
    simp only [Act.put, zA, zB, zC, zD, zF, zG]
    refine zP (i := 7) rfl (fun u hu => by obtain ⟨j0, j1, j2, j3⟩ := hu; go_simp; try first | rfl | (simp; done)) (HSA.out _ (Below.refl _ _).drew) zt ?_
    simp only [Act.put, zA, zB, zC, zD, zF, zG]
    refine zP (i := 8) rfl (fun u hu => by obtain ⟨j0, j1, j2, j3⟩ := hu; go_simp; try first | rfl | (simp; done)) (HSA.out _ (Below.refl _ _).drew) zt ?_
    simp only [Act.put, zA, zB, zC, zD, zF, zG]
    refine zR 9 rfl (fun K hK => ?_)
    go_simp
    refine (HCC.out w3.drew (Below.refl _ _).drew).mono ?_
    rintro e w5 ⟨⟨z, rfl, hz⟩, hb5⟩
    have HB5 := zh ((Below.refl w3.heap.size w3).drew.trans hb5)
    have hzd : decide (z < 0) = false := by simpa using hz
    clear hb5
    refine hK.out _ _ (HSA.out _ HB5.out) zt ?_
    clear hK K
    refine zP (i := 10) (v := .bool false) rfl (fun u hu => by obtain ⟨j0, j1, j2, j3⟩ := hu; go_simp; try first | rfl | (simp; done)) (HSA.out _ HB5.out) zt ?_
    simp only [Act.put, zA, zB, zC, zD, zF, zG]
    refine wpAnyL_done (by kernel_rfl) ?_ _
    go_wp2_with fail
    go_roundg (h - m)
    case measure => rw [HG.out]; omega
    case rel => exact ⟨h, hh1.1, by omega, rfl, rfl, rfl, HB.out.trans (HB5.out.mono HB.out.size)⟩
   obtain rfl : m = j := by omega
   have hltI : ¬ (m : Int) < (m : Int) := by omega
   go_wp2_with fail
   go_loopg [13] 0 (fun g v13 wr => g = 0 ∧ v13 = .int .i64 (a : Int) ∧ wr = w3)
   case atStart => exact ⟨rfl, rfl, rfl⟩
   case round =>
    obtain ⟨_, rfl, rfl⟩ := hrel
    have hamI : ¬ (a : Int) < (m : Int) - 1 := by omega
    go_wp2_with fail
    exact Go.bodyPost_ret (v := .tuple #[]) (by simp [results, Tryz.results110, go_sem]) rfl ⟨rfl, HB.out⟩
 have h1I : ((m : Int) - (a : Int) == 1) = false := by simp; omega
 by_cases h2 : b - m = 1
 ·
  have h2I : (b : Int) - (m : Int) = 1 := by omega
  go_enter Tryz.func110, Tryz.ntmps110
  go_wp2_with fail
  go_loopg [14, 15] (m - a) (fun g v14 v15 wr => ∃ j : Nat, a ≤ j ∧ j ≤ m ∧ g = m - j ∧ v14 = .int .i64 (j : Int) ∧ v15 = .int .i64 (m : Int) ∧ Below w.heap.size w wr)
  case atStart => exact ⟨a, by omega, by omega, rfl, rfl, rfl, Below.refl _ _⟩
  case round =>
   obtain ⟨j, hmj, hjb, hg, rfl, rfl, hbw⟩ := hrel
   obtain ⟨w3, rfl⟩ := zE wr
   have HG := zh hg
   have HB := zh hbw
   clear hg hbw
   by_cases hlt : j < m
   ·
    have hltI : (j : Int) < (m : Int) := by omega
    obtain ⟨h, hh⟩ : ∃ h, h = (j + m) / 2 := ⟨_, rfl⟩
    have hmid : ((j : Int) + (m : Int)) / 2 = (h : Int) := by omega
    have hh1 : j ≤ h ∧ h < m := by omega
    clear hh
    go_wp2_with fail
    clear hmid
    have HS3 := zh (HS.out.below HB.out)
    obtain ⟨bA, oA, q, p, A2, m2, c2, A1, m1, c1, hA, hcl, hcc⟩ := cmp_two HS3.out (i := m) (k := h) (by omega) (by omega)
    subst hA
    have HSA := zh hcl
    have HCC := zh hcc
    have hi0 : (0 : Int) ≤ (m : Int) := by omega
    have hiI : (m : Int) < (n : Int) := by omega
    have hk0 : (0 : Int) ≤ (h : Int) := by omega
    have hkI : (h : Int) < (n : Int) := by omega
    clear hcl hcc
    refine wp_region_late (late := []) (S1 := fun x => x.cell? ⟨bA, oA + m * 2, none⟩ = some (.int .i64 q.1) ∧ x.cell? ⟨bA, oA + m * 2 + 1, none⟩ = some (.slice A2 m2 c2) ∧ x.cell? ⟨bA, oA + h * 2, none⟩ = some (.int .i64 p.1) ∧ x.cell? ⟨bA, oA + h * 2 + 1, none⟩ = some (.slice A1 m1 c1)) (S := fun _ => True) (by kernel_rfl) ?_
    refine zP (i := 0) rfl (fun u hu => by obtain ⟨j0, j1, j2, j3⟩ := hu; go_simp; try first | rfl | (simp; done)) (HSA.out _ (Below.refl _ _).drew) zt ?_
    simp only [Act.put, zA, zB, zC, zD, zF, zG]
    refine zP (i := 1) rfl (fun u hu => by obtain ⟨j0, j1, j2, j3⟩ := hu; go_simp; try first | rfl | (simp; done)) (HSA.out _ (Below.refl _ _).drew) zt ?_
    simp only [Act.put, zA, zB, zC, zD, zF, zG]
    refine zP (i := 2) rfl (fun u hu => by obtain ⟨j0, j1, j2, j3⟩ := hu; go_simp; try first | rfl | (simp; done)) (HSA.out _ (Below.refl _ _).drew) zt ?_
    simp only [Act.put, zA, zB, zC, zD, zF, zG]
    refine zP (i := 3) rfl (fun u hu => by obtain ⟨j0, j1, j2, j3⟩ := hu; go_simp; try first | rfl | (simp; done)) (HSA.out _ (Below.refl _ _).drew) zt ?_
    simp only [Act.put, zA, zB, zC, zD, zF, zG]
    refine zP (i := 4) rfl (fun u hu => by obtain ⟨j0, j1, j2, j3⟩ := hu; go_simp; try first | rfl | (simp; done)) (HSA.out _ (Below.refl _ _).drew) zt ?_
    simp only [Act.put, zA, zB, zC, zD, zF, zG]
    refine zP (i := 5) rfl (fun u hu => by obtain ⟨j0, j1, j2, j3⟩ := hu; go_simp; try first | rfl | (simp; done)) (HSA.out _ (Below.refl _ _).drew) zt ?_
    simp only [Act.put, zA, zB, zC, zD, zF, zG]
    refine zP (i := 6) rfl (fun u hu => by obtain ⟨j0, j1, j2, j3⟩ := hu; go_simp; try first | rfl | (simp; done)) (HSA.out _ (Below.refl _ _).drew) zt ?_
    simp only [Act.put, zA, zB, zC, zD, zF, zG]
    refine zP (i := 7) rfl (fun u hu => by obtain ⟨j0, j1, j2, j3⟩ := hu; go_simp; try first | rfl | (simp; done)) (HSA.out _ (Below.refl _ _).drew) zt ?_
    simp only [Act.put, zA, zB, zC, zD, zF, zG]
    refine zP (i := 8) rfl (fun u hu => by obtain ⟨j0, j1, j2, j3⟩ := hu; go_simp; try first | rfl | (simp; done)) (HSA.out _ (Below.refl _ _).drew) zt ?_
    simp only [Act.put, zA, zB, zC, zD, zF, zG]
    refine zR 9 rfl (fun K hK => ?_)
    go_simp
    refine (HCC.out w3.drew (Below.refl _ _).drew).mono ?_
    rintro e w5 ⟨⟨z, rfl, hz⟩, hb5⟩
    have HB5 := zh ((Below.refl w3.heap.size w3).drew.trans hb5)
    have hzd : decide (z < 0) = false := by simpa using hz
    clear hb5
    refine hK.out _ _ (HSA.out _ HB5.out) zt ?_
    clear hK K
    refine zP (i := 10) (v := .bool false) rfl (fun u hu => by obtain ⟨j0, j1, j2, j3⟩ := hu; go_simp; try first | rfl | (simp; done)) (HSA.out _ HB5.out) zt ?_
    simp only [Act.put, zA, zB, zC, zD, zF, zG]
    refine zP (i := 11) (v := .bool true) rfl (fun u hu => by obtain ⟨j0, j1, j2, j3⟩ := hu; go_simp; try first | rfl | (simp; done)) (HSA.out _ HB5.out) zt ?_
    simp only [Act.put, zA, zB, zC, zD, zF, zG]
    refine wpAnyL_done (by kernel_rfl) ?_ _
    go_wp2_with fail
    go_roundg (m - (h + 1))
    case measure => rw [HG.out]; omega
    case rel => exact ⟨h + 1, by omega, by omega, rfl, by go_num, rfl, HB.out.trans (HB5.out.mono HB.out.size)⟩
   obtain rfl : m = j := by omega
   have hltI : ¬ (m : Int) < (m : Int) := by omega
   go_wp2_with fail
   go_loopg [17] 0 (fun g v17 wr => g = 0 ∧ v17 = .int .i64 (m : Int) ∧ wr = w3)
   case atStart => exact ⟨rfl, rfl, rfl⟩
   case round =>
    obtain ⟨_, rfl, rfl⟩ := hrel
    go_wp2_with fail
    exact Go.bodyPost_ret (v := .tuple #[]) (by simp [results, Tryz.results110, go_sem]) rfl ⟨rfl, HB.out⟩
 have h2I : ((b : Int) - (m : Int) == 1) = false := by simp; omega
 obtain ⟨md, hmd⟩ : ∃ md, md = (a + b) / 2 := ⟨_, rfl⟩
 have hmid : ((a : Int) + (b : Int)) / 2 = (md : Int) := by omega
 have hmd1 : a < md ∧ md < b := by omega
 obtain ⟨P, hP⟩ := zE (md + m - 1)
 have hPI : ((md : Int) + (m : Int)) - 1 = (P : Int) := by omega
 have hP2 : P + 1 = md + m := by omega
 clear hP
 have hmd2 : 2 * md ≤ a + b ∧ a + b ≤ 2 * md + 1 := by omega
 clear hmd
 by_cases hgt : md < m
 ·
  have hgtI : (md : Int) < (m : Int) := by omega
  obtain ⟨s0, hs0⟩ := zE (md + m - b)
  have hs0n : s0 + b = md + m := by omega
  have hs0I : ((md : Int) + (m : Int)) - (b : Int) = (s0 : Int) := by omega
  clear hs0
  go_enter Tryz.func110, Tryz.ntmps110
  go_wp2_with fail
  clear hmid hPI hs0I
  go_loopg [20, 21] (md - s0) (fun g v20 v21 wr => ∃ q : Nat, s0 ≤ q ∧ q ≤ md ∧ g = md - q ∧ v20 = .int .i64 (q : Int) ∧ v21 = .int .i64 (md : Int) ∧ Below w.heap.size w wr)
  case atStart => exact ⟨s0, by omega, by omega, rfl, rfl, rfl, Below.refl _ _⟩
  case round =>
   obtain ⟨j, hmj, hjb, hg, rfl, rfl, hbw⟩ := hrel
   obtain ⟨w3, rfl⟩ := zE wr
   have HG := zh hg
   have HB := zh hbw
   clear hg hbw
   by_cases hlt : j < md
   ·
    have hltI : (j : Int) < (md : Int) := by omega
    obtain ⟨r, hr⟩ := zE md
    obtain ⟨h, hh⟩ : ∃ h, h = (j + md) / 2 := ⟨_, rfl⟩
    have hmid : ((j : Int) + (md : Int)) / 2 = (h : Int) := by omega
    have hh1 : j ≤ h ∧ h < md := by omega
    obtain ⟨e, he⟩ := zE (P - h)
    have heI : (P : Int) - (h : Int) = (e : Int) := by omega
    have heh : h < e ∧ e < b := by omega
    clear hh he
    go_wp2_with fail
    clear hmid
    have HS3 := zh (HS.out.below HB.out)
    obtain ⟨bA, oA, q, p, A2, m2, c2, A1, m1, c1, hA, hcl, hcc⟩ := cmp_two HS3.out (i := e) (k := h) (by omega) (by omega)
    subst hA
    have HSA := zh hcl
    have HCC := zh hcc
    have hi0 : (0 : Int) ≤ (e : Int) := by omega
    have hiI : (e : Int) < (n : Int) := by omega
    have hk0 : (0 : Int) ≤ (h : Int) := by omega
    have hkI : (h : Int) < (n : Int) := by omega
    have hwe : IntKind.i64.wrap (e : Int) = (e : Int) := by rw [IntKind.wrap_i64]; omega
    have HR := zh hr
    clear hcl hcc hr
    refine wp_region_late (late := []) (S1 := fun x => x.cell? ⟨bA, oA + e * 2, none⟩ = some (.int .i64 q.1) ∧ x.cell? ⟨bA, oA + e * 2 + 1, none⟩ = some (.slice A2 m2 c2) ∧ x.cell? ⟨bA, oA + h * 2, none⟩ = some (.int .i64 p.1) ∧ x.cell? ⟨bA, oA + h * 2 + 1, none⟩ = some (.slice A1 m1 c1)) (S := fun _ => True) (by kernel_rfl) ?_
    refine zP (i := 0) rfl (fun u hu => by obtain ⟨j0, j1, j2, j3⟩ := hu; go_simp; try first | rfl | (simp; done)) (HSA.out _ (Below.refl _ _).drew) zt ?_
    simp only [Act.put, zA, zB, zC, zD, zF, zG]
    refine zP (i := 1) rfl (fun u hu => by obtain ⟨j0, j1, j2, j3⟩ := hu; go_simp; try first | rfl | (simp; done)) (HSA.out _ (Below.refl _ _).drew) zt ?_
    simp only [Act.put, zA, zB, zC, zD, zF, zG]
    refine zP (i := 2) rfl (fun u hu => by obtain ⟨j0, j1, j2, j3⟩ := hu; go_simp; try first | rfl | (simp; done)) (HSA.out _ (Below.refl _ _).drew) zt ?_
    simp only [Act.put, zA, zB, zC, zD, zF, zG]
    refine zP (i := 3) rfl (fun u hu => by obtain ⟨j0, j1, j2, j3⟩ := hu; go_simp; try first | rfl | (simp; done)) (HSA.out _ (Below.refl _ _).drew) zt ?_
    simp only [Act.put, zA, zB, zC, zD, zF, zG]
    refine zP (i := 4) rfl (fun u hu => by obtain ⟨j0, j1, j2, j3⟩ := hu; go_simp; try first | rfl | (simp; done)) (HSA.out _ (Below.refl _ _).drew) zt ?_
    simp only [Act.put, zA, zB, zC, zD, zF, zG]
    refine zP (i := 5) rfl (fun u hu => by obtain ⟨j0, j1, j2, j3⟩ := hu; go_simp; try first | rfl | (simp; done)) (HSA.out _ (Below.refl _ _).drew) zt ?_
    simp only [Act.put, zA, zB, zC, zD, zF, zG]
    refine zP (i := 6) rfl (fun u hu => by obtain ⟨j0, j1, j2, j3⟩ := hu; go_simp; try first | rfl | (simp; done)) (HSA.out _ (Below.refl _ _).drew) zt ?_
    simp only [Act.put, zA, zB, zC, zD, zF, zG]
    refine zP (i := 7) rfl (fun u hu => by obtain ⟨j0, j1, j2, j3⟩ := hu; go_simp; try first | rfl | (simp; done)) (HSA.out _ (Below.refl _ _).drew) zt ?_
    simp only [Act.put, zA, zB, zC, zD, zF, zG]
    refine zP (i := 8) rfl (fun u hu => by obtain ⟨j0, j1, j2, j3⟩ := hu; go_simp; try first | rfl | (simp; done)) (HSA.out _ (Below.refl _ _).drew) zt ?_
    simp only [Act.put, zA, zB, zC, zD, zF, zG]
    refine zP (i := 9) rfl (fun u hu => by obtain ⟨j0, j1, j2, j3⟩ := hu; go_simp; try first | rfl | (simp; done)) (HSA.out _ (Below.refl _ _).drew) zt ?_
    simp only [Act.put, zA, zB, zC, zD, zF, zG]
    refine zP (i := 10) rfl (fun u hu => by obtain ⟨j0, j1, j2, j3⟩ := hu; go_simp; try first | rfl | (simp; done)) (HSA.out _ (Below.refl _ _).drew) zt ?_
    simp only [Act.put, zA, zB, zC, zD, zF, zG]
    refine zR 11 rfl (fun K hK => ?_)
    go_simp
    refine (HCC.out w3.drew (Below.refl _ _).drew).mono ?_
    rintro e w5 ⟨⟨z, rfl, hz⟩, hb5⟩
    have HB5 := zh ((Below.refl w3.heap.size w3).drew.trans hb5)
    have hzd : decide (z < 0) = false := by simpa using hz
    clear hb5
    refine hK.out _ _ (HSA.out _ HB5.out) zt ?_
    clear hK K
    refine zP (i := 12) (v := .bool false) rfl (fun u hu => by obtain ⟨j0, j1, j2, j3⟩ := hu; go_simp; try first | rfl | (simp; done)) (HSA.out _ HB5.out) zt ?_
    simp only [Act.put, zA, zB, zC, zD, zF, zG]
    refine zP (i := 13) (v := .bool true) rfl (fun u hu => by obtain ⟨j0, j1, j2, j3⟩ := hu; go_simp; try first | rfl | (simp; done)) (HSA.out _ HB5.out) zt ?_
    simp only [Act.put, zA, zB, zC, zD, zF, zG]
    refine wpAnyL_done (by kernel_rfl) ?_ _
    go_wp2_with fail
    go_roundg (r - (h + 1))
    case measure => rw [HG.out, HR.out]; omega
    case rel => exact ⟨h + 1, by omega, by omega, by rw [HR.out], by go_num, rfl, HB.out.trans (HB5.out.mono HB.out.size)⟩
   obtain rfl : md = j := by omega
   have hltI : ¬ (md : Int) < (md : Int) := by omega
   have hend : ((md : Int) + (m : Int)) - (md : Int) = (m : Int) := by omega
   have hmm : ¬ (m : Int) < (m : Int) := by omega
   have hmb : (m : Int) < (b : Int) := by omega
   have hamd : (a : Int) < (md : Int) := by omega
   go_wp2_with fail
   go_at_call 110
   refine (HIH.out (b - md) (by have := HD.out; omega) w3 md m b (HS.out.below HB.out) (by omega) (by omega) hbn (Nat.le_refl _)).mono ?_
   rintro e w4 ⟨rfl, hb4⟩
   have HB4 := zh (HB.out.trans (hb4.mono HB.out.size))
   clear hb4
   go_wp2_with fail
   exact Go.bodyPost_end (v := .tuple #[]) (by simp [results, Tryz.results110, go_sem]) rfl ⟨rfl, HB4.out⟩
 have hgtI : ¬ (md : Int) < (m : Int) := by omega
 go_enter Tryz.func110, Tryz.ntmps110
 go_wp2_with fail
 clear hmid hPI
 go_loopg [20, 21] (m - a) (fun g v20 v21 wr => ∃ q : Nat, a ≤ q ∧ q ≤ m ∧ g = m - q ∧ v20 = .int .i64 (q : Int) ∧ v21 = .int .i64 (m : Int) ∧ Below w.heap.size w wr)
 case atStart => exact ⟨a, by omega, by omega, rfl, rfl, rfl, Below.refl _ _⟩
 case round =>
  obtain ⟨j, hmj, hjb, hg, rfl, rfl, hbw⟩ := hrel
  obtain ⟨w3, rfl⟩ := zE wr
  have HG := zh hg
  have HB := zh hbw
  clear hg hbw
  by_cases hlt : j < m
  ·
   have hltI : (j : Int) < (m : Int) := by omega
   obtain ⟨r, hr⟩ := zE m
   obtain ⟨h, hh⟩ : ∃ h, h = (j + m) / 2 := ⟨_, rfl⟩
   have hmid : ((j : Int) + (m : Int)) / 2 = (h : Int) := by omega
   have hh1 : j ≤ h ∧ h < m := by omega
   obtain ⟨e, he⟩ := zE (P - h)
   have heI : (P : Int) - (h : Int) = (e : Int) := by omega
   have heh : h < e ∧ e < b := by omega
   clear hh he
   go_wp2_with fail
   clear hmid
   have HS3 := zh (HS.out.below HB.out)
   obtain ⟨bA, oA, q, p, A2, m2, c2, A1, m1, c1, hA, hcl, hcc⟩ := cmp_two HS3.out (i := e) (k := h) (by omega) (by omega)
   subst hA
   have HSA := zh hcl
   have HCC := zh hcc
   have hi0 : (0 : Int) ≤ (e : Int) := by omega
   have hiI : (e : Int) < (n : Int) := by omega
   have hk0 : (0 : Int) ≤ (h : Int) := by omega
   have hkI : (h : Int) < (n : Int) := by omega
   have hwe : IntKind.i64.wrap (e : Int) = (e : Int) := by rw [IntKind.wrap_i64]; omega
   have HR := zh hr
   clear hcl hcc hr
   refine wp_region_late (late := []) (S1 := fun x => x.cell? ⟨bA, oA + e * 2, none⟩ = some (.int .i64 q.1) ∧ x.cell? ⟨bA, oA + e * 2 + 1, none⟩ = some (.slice A2 m2 c2) ∧ x.cell? ⟨bA, oA + h * 2, none⟩ = some (.int .i64 p.1) ∧ x.cell? ⟨bA, oA + h * 2 + 1, none⟩ = some (.slice A1 m1 c1)) (S := fun _ => True) (by kernel_rfl) ?_
   refine zP (i := 0) rfl (fun u hu => by obtain ⟨j0, j1, j2, j3⟩ := hu; go_simp; try first | rfl | (simp; done)) (HSA.out _ (Below.refl _ _).drew) zt ?_
   simp only [Act.put, zA, zB, zC, zD, zF, zG]
   refine zP (i := 1) rfl (fun u hu => by obtain ⟨j0, j1, j2, j3⟩ := hu; go_simp; try first | rfl | (simp; done)) (HSA.out _ (Below.refl _ _).drew) zt ?_
   simp only [Act.put, zA, zB, zC, zD, zF, zG]
   refine zP (i := 2) rfl (fun u hu => by obtain ⟨j0, j1, j2, j3⟩ := hu; go_simp; try first | rfl | (simp; done)) (HSA.out _ (Below.refl _ _).drew) zt ?_
   simp only [Act.put, zA, zB, zC, zD, zF, zG]
   refine zP (i := 3) rfl (fun u hu => by obtain ⟨j0, j1, j2, j3⟩ := hu; go_simp; try first | rfl | (simp; done)) (HSA.out _ (Below.refl _ _).drew) zt ?_
   simp only [Act.put, zA, zB, zC, zD, zF, zG]
   refine zP (i := 4) rfl (fun u hu => by obtain ⟨j0, j1, j2, j3⟩ := hu; go_simp; try first | rfl | (simp; done)) (HSA.out _ (Below.refl _ _).drew) zt ?_
   simp only [Act.put, zA, zB, zC, zD, zF, zG]
   refine zP (i := 5) rfl (fun u hu => by obtain ⟨j0, j1, j2, j3⟩ := hu; go_simp; try first | rfl | (simp; done)) (HSA.out _ (Below.refl _ _).drew) zt ?_
   simp only [Act.put, zA, zB, zC, zD, zF, zG]
   refine zP (i := 6) rfl (fun u hu => by obtain ⟨j0, j1, j2, j3⟩ := hu; go_simp; try first | rfl | (simp; done)) (HSA.out _ (Below.refl _ _).drew) zt ?_
   simp only [Act.put, zA, zB, zC, zD, zF, zG]
   refine zP (i := 7) rfl (fun u hu => by obtain ⟨j0, j1, j2, j3⟩ := hu; go_simp; try first | rfl | (simp; done)) (HSA.out _ (Below.refl _ _).drew) zt ?_
   simp only [Act.put, zA, zB, zC, zD, zF, zG]
   refine zP (i := 8) rfl (fun u hu => by obtain ⟨j0, j1, j2, j3⟩ := hu; go_simp; try first | rfl | (simp; done)) (HSA.out _ (Below.refl _ _).drew) zt ?_
   simp only [Act.put, zA, zB, zC, zD, zF, zG]
   refine zP (i := 9) rfl (fun u hu => by obtain ⟨j0, j1, j2, j3⟩ := hu; go_simp; try first | rfl | (simp; done)) (HSA.out _ (Below.refl _ _).drew) zt ?_
   simp only [Act.put, zA, zB, zC, zD, zF, zG]
   refine zP (i := 10) rfl (fun u hu => by obtain ⟨j0, j1, j2, j3⟩ := hu; go_simp; try first | rfl | (simp; done)) (HSA.out _ (Below.refl _ _).drew) zt ?_
   simp only [Act.put, zA, zB, zC, zD, zF, zG]
   refine zR 11 rfl (fun K hK => ?_)
   go_simp
   refine (HCC.out w3.drew (Below.refl _ _).drew).mono ?_
   rintro e w5 ⟨⟨z, rfl, hz⟩, hb5⟩
   have HB5 := zh ((Below.refl w3.heap.size w3).drew.trans hb5)
   have hzd : decide (z < 0) = false := by simpa using hz
   clear hb5
   refine hK.out _ _ (HSA.out _ HB5.out) zt ?_
   clear hK K
   refine zP (i := 12) (v := .bool false) rfl (fun u hu => by obtain ⟨j0, j1, j2, j3⟩ := hu; go_simp; try first | rfl | (simp; done)) (HSA.out _ HB5.out) zt ?_
   simp only [Act.put, zA, zB, zC, zD, zF, zG]
   refine zP (i := 13) (v := .bool true) rfl (fun u hu => by obtain ⟨j0, j1, j2, j3⟩ := hu; go_simp; try first | rfl | (simp; done)) (HSA.out _ HB5.out) zt ?_
   simp only [Act.put, zA, zB, zC, zD, zF, zG]
   refine wpAnyL_done (by kernel_rfl) ?_ _
   go_wp2_with fail
   go_roundg (r - (h + 1))
   case measure => rw [HG.out, HR.out]; omega
   case rel => exact ⟨h + 1, by omega, by omega, by rw [HR.out], by go_num, rfl, HB.out.trans (HB5.out.mono HB.out.size)⟩
  obtain rfl : m = j := by omega
  have hltI : ¬ (m : Int) < (m : Int) := by omega
  have hend : ((md : Int) + (m : Int)) - (m : Int) = (md : Int) := by omega
  have hmm : ¬ (md : Int) < (md : Int) := by omega
  have hamI : (a : Int) < (m : Int) := by omega
  by_cases hmd3 : m < md
  ·
   have hmd3I : (m : Int) < (md : Int) := by omega
   go_wp2_with fail
   go_at_call 110
   refine (HIH.out (md - a) (by have := HD.out; omega) w3 a m md (HS.out.below HB.out) ham (by omega) (by omega) (Nat.le_refl _)).mono ?_
   rintro e w4 ⟨rfl, hb4⟩
   have HB4 := zh (HB.out.trans (hb4.mono HB.out.size))
   clear hb4
   go_wp2_with fail
   exact Go.bodyPost_end (v := .tuple #[]) (by simp [results, Tryz.results110, go_sem]) rfl ⟨rfl, HB4.out⟩
  have hmd3I : ¬ (m : Int) < (md : Int) := by omega
  go_wp2_with fail
  exact Go.bodyPost_end (v := .tuple #[]) (by simp [results, Tryz.results110, go_sem]) rfl ⟨rfl, HB.out⟩
end Go.Proofs.YtjnbjdbndbbanaaGreatDoor
