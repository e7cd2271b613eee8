/- CTrees -/
import Derived.Test.YtjnbjdbndbbanaaGreatDoorTc42
namespace Go.Proofs.YtjnbjdbndbbanaaGreatDoor
open Go.RowKit Go.Maps
theorem assertC (v : Value) (u : World) : (Instr.typeAssert (.iface 130 v) 20 130 true).run Tryz.prog u = .ok (.tuple #[v, .bool true]) u := by
 kernel_rfl
theorem row_drop {A : Option Addr} {n c g : Nat} (h : rowOf (.slice A n c) = some g) (m : Nat) : rowOf (.slice A m c) = some g := by
 cases A <;> cases c <;> first | exact h | cases h
theorem tStart (n : Nat) (w : World) (hn : n ≤ 1000000) : (Instr.makeSlice 116 (.int .i64 (n : Int)) (.int .i64 (n : Int))).run Tryz.prog w = .ok (.slice (some ⟨w.heap.size, 0, none⟩) n n) (w.alloc (.cells (Array.replicate n (Value.slice none 0 0)) 124)) := by
 have hT : SlType Tryz.prog 116 124 1 24 (.slice none 0 0) := ⟨by kernel_rfl, by kernel_rfl, by kernel_rfl, rfl, by decide⟩
 have hmk := hT.make rfl n (by omega) (by omega) w
 rw [made_rows, List.toArray_replicate] at hmk
 exact hmk
theorem alloc4 (w : World) (o1 o2 o3 o4 : Obj) : ((((w.alloc o1).alloc o2).alloc o3).alloc o4).heap[w.heap.size]? = some o1 ∧ ((((w.alloc o1).alloc o2).alloc o3).alloc o4).heap[w.heap.size + 1]? = some o2 ∧ ((((w.alloc o1).alloc o2).alloc o3).alloc o4).heap[w.heap.size + 2]? = some o3 ∧ ((((w.alloc o1).alloc o2).alloc o3).alloc o4).heap[w.heap.size + 3]? = some o4 ∧ Below w.heap.size w ((((w.alloc o1).alloc o2).alloc o3).alloc o4) := by
 have hb := (((((Below.refl w.heap.size w).alloc (Nat.le_refl _) o1).alloc (by simp) o2).alloc (by simp; omega) o3).alloc (by simp; omega) o4)
 have s1 : (w.alloc o1).heap.size = w.heap.size + 1 := by simp
 have s2 : ((w.alloc o1).alloc o2).heap.size = w.heap.size + 2 := by simp
 have s3 : (((w.alloc o1).alloc o2).alloc o3).heap.size = w.heap.size + 3 := by simp
 have k : ∀ (u : World) (o : Obj) (i : Nat), i < u.heap.size → (u.alloc o).heap[i]? = u.heap[i]? := fun u o i hi => Below.heap_alloc _ _ _ hi
 have n1 : (w.alloc o1).heap[w.heap.size]? = some o1 := by exact heap_alloc_new _ _
 have n2 : ((w.alloc o1).alloc o2).heap[w.heap.size + 1]? = some o2 := by rw [← s1]; exact heap_alloc_new _ _
 have n3 : (((w.alloc o1).alloc o2).alloc o3).heap[w.heap.size + 2]? = some o3 := by rw [← s2]; exact heap_alloc_new _ _
 have n4 : ((((w.alloc o1).alloc o2).alloc o3).alloc o4).heap[w.heap.size + 3]? = some o4 := by rw [← s3]; exact heap_alloc_new _ _
 exact ⟨(k _ _ _ (by omega)).trans ((k _ _ _ (by omega)).trans ((k _ _ _ (by omega)).trans n1)), (k _ _ _ (by omega)).trans ((k _ _ _ (by omega)).trans n2), (k _ _ _ (by omega)).trans n3, n4, hb⟩
set_option linter.unusedSimpArgs false in
set_option maxRecDepth 100000 in
set_option maxHeartbeats 8000000 in
theorem coreTrees (w : World) (S : Nat → Prop) (A : Option Addr) (m c root most : Nat) (ns : List NodeD) (hs : Sl RNode w S A m c ns) (hn : NsOk ns) (hr : root < m) (h1 : 1 ≤ most) (hmo : most ≤ 1000) (hb : 5 * (most * m) + packsN ns ≤ 10000000) :
    Calls Tryz.prog 33 #[.agg #[.slice A m c, .int .i64 (root : Int)], .int .i64 (most : Int)] w fun e w' => Below w.heap.size w w' ∧ (e = .returned (.tuple #[.slice none 0 0, .bool false]) ∨ ∃ (Ao : Option Addr) (no co : Nat) (lt : List TreeD) (hist : List (List CKey)) (D : LD), e = .returned (.tuple #[.slice Ao no co, .bool true]) ∧ Sl RTree w' (fun b => w.heap.size ≤ b) Ao no co lt ∧ LI ns most hist [] D ∧ D.ls[root]? = some lt ∧ (lt.length < most → cntK ns (root : Int) ≠ -1 ∧ cntK ns (root : Int) ≤ (lt.length : Int))) := by
 obtain ⟨bA, oA, _, _, _, _, hA0, _⟩ := node_at hs hr
 subst hA0
 have hml : m = ns.length := hs.len
 have hm0 : m ≤ 1000000 := by rw [hml]; exact hn.sm.few
 have HS := zh hs
 have HN := zh hn
 have HB := zh hb
 have HML := zh hml
 have hr0 : ¬ (root : Int) < 0 := by omega
 have hmo0 : ¬ (most : Int) = 0 := by omega
 have hrI : (root : Int) < (m : Int) := by omega
 obtain ⟨Bf, hBf⟩ := zE w.heap.size
 obtain ⟨w1, hw1⟩ := zE (w.alloc (.cells #[.slice (some ⟨bA, oA, none⟩) m c, .int .i64 (root : Int)] 38))
 have hb1 : Below w.heap.size w w1 := by rw [hw1]; exact (Below.refl _ _).alloc (Nat.le_refl _) _
 have hz1 : w1.heap.size = Bf + 1 := by rw [hw1, hBf]; simp
 have hg1 : w1.heap[Bf]? = some (.cells #[.slice (some ⟨bA, oA, none⟩) m c, .int .i64 (root : Int)] 38 (0, 0)) := by rw [hw1, hBf]; exact heap_alloc_new _ _
 have HB1 := zh hb1
 have HG1 := zh hg1
 have HZ1 := zh hz1
 have HW1 := zh hw1
 have HBF := zh hBf
 have f0 : w1.cell? ⟨Bf, 0, none⟩ = some (.slice (some ⟨bA, oA, none⟩) m c) := by simp [World.cell?, hg1]
 have f1 : w1.cell? ⟨Bf, 1, none⟩ = some (.int .i64 (root : Int)) := by simp [World.cell?, hg1]
 have hmk : ∀ u : World, (Instr.makeSlice 116 (.int .i64 (m : Int)) (.int .i64 (m : Int))).run Tryz.prog u = .ok (.slice (some ⟨u.heap.size, 0, none⟩) m m) (u.alloc (.cells (Array.replicate m (Value.slice none 0 0)) 124)) := fun u => tStart m u hm0
 have hmm := @run_makeMap Tryz.prog
 have HKB := zh (show ∀ u : World, Below w1.heap.size w1 u → (u.cell? ⟨Bf, 0, none⟩ = some (.slice (some ⟨bA, oA, none⟩) m c) ∧ u.cell? ⟨Bf, 1, none⟩ = some (.int .i64 (root : Int))) from fun u hu => ⟨(hu.cell (cell_lt f0)).trans f0, (hu.cell (cell_lt f1)).trans f1⟩)
 clear hs hn hb hml hb1 hz1 hg1 hBf
 go_enter Tryz.func33, Tryz.ntmps33
 go_upto_region 3 with fail
 rw [← hw1, ← HBF.out, show ((most : Int) == 0) = false by simp; omega]
 clear hw1
 go_cut [6] from 26 to 35 (fun v6 wx => ∃ C : LC, v6 = .pointer (some ⟨C.BL, 0, none⟩) ∧ C.A = some ⟨bA, oA, none⟩ ∧ C.m = m ∧ C.c = c ∧ C.root = (root : Int) ∧ C.most = most ∧ C.ns = ns ∧ StOk C w1 wx)
 case first =>
  refine wp_region_late (late := []) (S1 := fun u => u.cell? ⟨Bf, 0, none⟩ = some (.slice (some ⟨bA, oA, none⟩) m c) ∧ u.cell? ⟨Bf, 1, none⟩ = some (.int .i64 (root : Int))) (S := fun _ => True) (by kernel_rfl) ?_
  clear f0 f1
  refine zP (i := 0) rfl (fun u hu => by obtain ⟨f0, f1⟩ := hu; go_simp; try rfl) (HKB.out _ (Below.refl w1.heap.size w1).drew) zt ?_
  simp only [Act.put, zA, zB, zC, zD, zF, zG]
  refine zP (i := 1) rfl (fun u hu => by obtain ⟨f0, f1⟩ := hu; go_simp; try rfl) (HKB.out _ (Below.refl w1.heap.size w1).drew) zt ?_
  simp only [Act.put, zA, zB, zC, zD, zF, zG]
  refine zP (i := 2) rfl (fun u hu => by obtain ⟨f0, f1⟩ := hu; go_simp; try rfl) (HKB.out _ (Below.refl w1.heap.size w1).drew) zt ?_
  simp only [Act.put, zA, zB, zC, zD, zF, zG]
  refine zP (i := 3) rfl (fun u hu => by obtain ⟨f0, f1⟩ := hu; go_simp; try rfl) (HKB.out _ (Below.refl w1.heap.size w1).drew) zt ?_
  simp only [Act.put, zA, zB, zC, zD, zF, zG]
  refine zP (i := 4) rfl (fun u hu => by obtain ⟨f0, f1⟩ := hu; go_simp; try rfl) (HKB.out _ (Below.refl w1.heap.size w1).drew) zt ?_
  simp only [Act.put, zA, zB, zC, zD, zF, zG]
  refine wpAnyL_ready (rs := [5, 6, 7]) (by kernel_rfl) (by simp) ?_
  refine AllL.cons rfl (fun K hK => ?_) ?_
  ·
   go_simp
   have hq1 : Below w1.heap.size w1 (w1.drew.alloc (.cells (Array.replicate m (Value.slice none 0 0)) 124)) := (Below.refl w1.heap.size w1).drew.alloc (Below.refl w1.heap.size w1).drew.size _
   refine hK.out _ _ (HKB.out _ hq1) zt ?_
   clear hK K
   refine wpAnyL_ready (rs := [6, 7]) (by kernel_rfl) (by simp) ?_
   refine AllL.cons rfl (fun K hK => ?_) ?_
   ·
    go_simp
    have hq2 : Below w1.heap.size w1 ((w1.drew.alloc (.cells (Array.replicate m (Value.slice none 0 0)) 124)).alloc (.map #[] 0)) := hq1.alloc hq1.size _
    refine hK.out _ _ (HKB.out _ hq2) zt ?_
    clear hK K
    refine zR 7 rfl (fun K hK => ?_)
    go_simp
    have hq3 : Below w1.heap.size w1 (((w1.drew.alloc (.cells (Array.replicate m (Value.slice none 0 0)) 124)).alloc (.map #[] 0)).alloc (.map #[] 0)) := hq2.alloc hq2.size _
    refine hK.out _ _ (HKB.out _ hq3) zt ?_
    clear hK K
    refine zP (i := 8) rfl (fun u hu => by obtain ⟨f0, f1⟩ := hu; go_simp; try rfl) (HKB.out _ hq3) zt ?_
    simp only [Act.put, zA, zB, zC, zD, zF, zG]
    refine zR 9 rfl (fun K hK => ?_)
    go_simp
    have hq4 : Below w1.heap.size w1 ((((w1.drew.alloc (.cells (Array.replicate m (Value.slice none 0 0)) 124)).alloc (.map #[] 0)).alloc (.map #[] 0)).alloc (.cells #[.slice (some ⟨bA, oA, none⟩) m c, .int .i64 (root : Int), .int .i64 (most : Int), .slice (some ⟨w1.heap.size, 0, none⟩) m m, .map (some (w1.heap.size + 1)), .map (some (w1.heap.size + 2)), .slice none 0 0] 122)) := hq3.alloc hq3.size _
    refine hK.out _ _ (HKB.out _ hq4) zt ?_
    clear hK K
    refine zP (i := 10) rfl (fun u hu => by obtain ⟨f0, f1⟩ := hu; go_simp; try rfl) (HKB.out _ hq4) zt ?_
    simp only [Act.put, zA, zB, zC, zD, zF, zG]
    refine wpAnyL_done (by kernel_rfl) ?_ _
    obtain ⟨a1, a2, a3, a4, ab⟩ := alloc4 w1 (.cells (Array.replicate m (Value.slice none 0 0)) 124) (.map #[] 0) (.map #[] 0) (.cells #[.slice (some ⟨bA, oA, none⟩) m c, .int .i64 (root : Int), .int .i64 (most : Int), .slice (some ⟨w1.heap.size, 0, none⟩) m m, .map (some (w1.heap.size + 1)), .map (some (w1.heap.size + 2)), .slice none 0 0] 122)
    go_wp2_with fail
    go_meet
    exact ⟨⟨w1.heap.size + 3, w1.heap.size, w1.heap.size + 1, w1.heap.size + 2, some ⟨bA, oA, none⟩, m, c, root, most, ns⟩, rfl, rfl, rfl, rfl, rfl, rfl, rfl, ⟨a4, by rw [List.toArray_replicate]; exact a1, a2, a3, ⟨Nat.le_add_right w1.heap.size 3, Nat.le_refl w1.heap.size, Nat.le_add_right w1.heap.size 1, Nat.le_add_right w1.heap.size 2⟩, by show w1.heap.size + 1 ≠ w1.heap.size + 2; omega, ab.drew⟩⟩
   refine AllL.cons rfl (fun K hK => ?_) ?_
   ·
    go_simp
    have hq2 : Below w1.heap.size w1 ((w1.drew.alloc (.cells (Array.replicate m (Value.slice none 0 0)) 124)).alloc (.map #[] 0)) := hq1.alloc hq1.size _
    refine hK.out _ _ (HKB.out _ hq2) zt ?_
    clear hK K
    refine zR 6 rfl (fun K hK => ?_)
    go_simp
    have hq3 : Below w1.heap.size w1 (((w1.drew.alloc (.cells (Array.replicate m (Value.slice none 0 0)) 124)).alloc (.map #[] 0)).alloc (.map #[] 0)) := hq2.alloc hq2.size _
    refine hK.out _ _ (HKB.out _ hq3) zt ?_
    clear hK K
    refine zP (i := 8) rfl (fun u hu => by obtain ⟨f0, f1⟩ := hu; go_simp; try rfl) (HKB.out _ hq3) zt ?_
    simp only [Act.put, zA, zB, zC, zD, zF, zG]
    refine zR 9 rfl (fun K hK => ?_)
    go_simp
    have hq4 : Below w1.heap.size w1 ((((w1.drew.alloc (.cells (Array.replicate m (Value.slice none 0 0)) 124)).alloc (.map #[] 0)).alloc (.map #[] 0)).alloc (.cells #[.slice (some ⟨bA, oA, none⟩) m c, .int .i64 (root : Int), .int .i64 (most : Int), .slice (some ⟨w1.heap.size, 0, none⟩) m m, .map (some (w1.heap.size + 2)), .map (some (w1.heap.size + 1)), .slice none 0 0] 122)) := hq3.alloc hq3.size _
    refine hK.out _ _ (HKB.out _ hq4) zt ?_
    clear hK K
    refine zP (i := 10) rfl (fun u hu => by obtain ⟨f0, f1⟩ := hu; go_simp; try rfl) (HKB.out _ hq4) zt ?_
    simp only [Act.put, zA, zB, zC, zD, zF, zG]
    refine wpAnyL_done (by kernel_rfl) ?_ _
    obtain ⟨a1, a2, a3, a4, ab⟩ := alloc4 w1 (.cells (Array.replicate m (Value.slice none 0 0)) 124) (.map #[] 0) (.map #[] 0) (.cells #[.slice (some ⟨bA, oA, none⟩) m c, .int .i64 (root : Int), .int .i64 (most : Int), .slice (some ⟨w1.heap.size, 0, none⟩) m m, .map (some (w1.heap.size + 2)), .map (some (w1.heap.size + 1)), .slice none 0 0] 122)
    go_wp2_with fail
    go_meet
    exact ⟨⟨w1.heap.size + 3, w1.heap.size, w1.heap.size + 2, w1.heap.size + 1, some ⟨bA, oA, none⟩, m, c, root, most, ns⟩, rfl, rfl, rfl, rfl, rfl, rfl, rfl, ⟨a4, by rw [List.toArray_replicate]; exact a1, a3, a2, ⟨Nat.le_add_right w1.heap.size 3, Nat.le_refl w1.heap.size, Nat.le_add_right w1.heap.size 2, Nat.le_add_right w1.heap.size 1⟩, by show w1.heap.size + 2 ≠ w1.heap.size + 1; omega, ab.drew⟩⟩
   exact AllL.nil
  refine AllL.cons rfl (fun K hK => ?_) ?_
  ·
   go_simp
   have hq1 : Below w1.heap.size w1 (w1.drew.alloc (.map #[] 0)) := (Below.refl w1.heap.size w1).drew.alloc (Below.refl w1.heap.size w1).drew.size _
   refine hK.out _ _ (HKB.out _ hq1) zt ?_
   clear hK K
   refine wpAnyL_ready (rs := [5, 7]) (by kernel_rfl) (by simp) ?_
   refine AllL.cons rfl (fun K hK => ?_) ?_
   ·
    go_simp
    have hq2 : Below w1.heap.size w1 ((w1.drew.alloc (.map #[] 0)).alloc (.cells (Array.replicate m (Value.slice none 0 0)) 124)) := hq1.alloc hq1.size _
    refine hK.out _ _ (HKB.out _ hq2) zt ?_
    clear hK K
    refine zR 7 rfl (fun K hK => ?_)
    go_simp
    have hq3 : Below w1.heap.size w1 (((w1.drew.alloc (.map #[] 0)).alloc (.cells (Array.replicate m (Value.slice none 0 0)) 124)).alloc (.map #[] 0)) := hq2.alloc hq2.size _
    refine hK.out _ _ (HKB.out _ hq3) zt ?_
    clear hK K
    refine zP (i := 8) rfl (fun u hu => by obtain ⟨f0, f1⟩ := hu; go_simp; try rfl) (HKB.out _ hq3) zt ?_
    simp only [Act.put, zA, zB, zC, zD, zF, zG]
    refine zR 9 rfl (fun K hK => ?_)
    go_simp
    have hq4 : Below w1.heap.size w1 ((((w1.drew.alloc (.map #[] 0)).alloc (.cells (Array.replicate m (Value.slice none 0 0)) 124)).alloc (.map #[] 0)).alloc (.cells #[.slice (some ⟨bA, oA, none⟩) m c, .int .i64 (root : Int), .int .i64 (most : Int), .slice (some ⟨w1.heap.size + 1, 0, none⟩) m m, .map (some (w1.heap.size)), .map (some (w1.heap.size + 2)), .slice none 0 0] 122)) := hq3.alloc hq3.size _
    refine hK.out _ _ (HKB.out _ hq4) zt ?_
    clear hK K
    refine zP (i := 10) rfl (fun u hu => by obtain ⟨f0, f1⟩ := hu; go_simp; try rfl) (HKB.out _ hq4) zt ?_
    simp only [Act.put, zA, zB, zC, zD, zF, zG]
    refine wpAnyL_done (by kernel_rfl) ?_ _
    obtain ⟨a1, a2, a3, a4, ab⟩ := alloc4 w1 (.map #[] 0) (.cells (Array.replicate m (Value.slice none 0 0)) 124) (.map #[] 0) (.cells #[.slice (some ⟨bA, oA, none⟩) m c, .int .i64 (root : Int), .int .i64 (most : Int), .slice (some ⟨w1.heap.size + 1, 0, none⟩) m m, .map (some (w1.heap.size)), .map (some (w1.heap.size + 2)), .slice none 0 0] 122)
    go_wp2_with fail
    go_meet
    exact ⟨⟨w1.heap.size + 3, w1.heap.size + 1, w1.heap.size, w1.heap.size + 2, some ⟨bA, oA, none⟩, m, c, root, most, ns⟩, rfl, rfl, rfl, rfl, rfl, rfl, rfl, ⟨a4, by rw [List.toArray_replicate]; exact a2, a1, a3, ⟨Nat.le_add_right w1.heap.size 3, Nat.le_add_right w1.heap.size 1, Nat.le_refl w1.heap.size, Nat.le_add_right w1.heap.size 2⟩, by show w1.heap.size ≠ w1.heap.size + 2; omega, ab.drew⟩⟩
   refine AllL.cons rfl (fun K hK => ?_) ?_
   ·
    go_simp
    have hq2 : Below w1.heap.size w1 ((w1.drew.alloc (.map #[] 0)).alloc (.map #[] 0)) := hq1.alloc hq1.size _
    refine hK.out _ _ (HKB.out _ hq2) zt ?_
    clear hK K
    refine zR 5 rfl (fun K hK => ?_)
    go_simp
    have hq3 : Below w1.heap.size w1 (((w1.drew.alloc (.map #[] 0)).alloc (.map #[] 0)).alloc (.cells (Array.replicate m (Value.slice none 0 0)) 124)) := hq2.alloc hq2.size _
    refine hK.out _ _ (HKB.out _ hq3) zt ?_
    clear hK K
    refine zP (i := 8) rfl (fun u hu => by obtain ⟨f0, f1⟩ := hu; go_simp; try rfl) (HKB.out _ hq3) zt ?_
    simp only [Act.put, zA, zB, zC, zD, zF, zG]
    refine zR 9 rfl (fun K hK => ?_)
    go_simp
    have hq4 : Below w1.heap.size w1 ((((w1.drew.alloc (.map #[] 0)).alloc (.map #[] 0)).alloc (.cells (Array.replicate m (Value.slice none 0 0)) 124)).alloc (.cells #[.slice (some ⟨bA, oA, none⟩) m c, .int .i64 (root : Int), .int .i64 (most : Int), .slice (some ⟨w1.heap.size + 2, 0, none⟩) m m, .map (some (w1.heap.size)), .map (some (w1.heap.size + 1)), .slice none 0 0] 122)) := hq3.alloc hq3.size _
    refine hK.out _ _ (HKB.out _ hq4) zt ?_
    clear hK K
    refine zP (i := 10) rfl (fun u hu => by obtain ⟨f0, f1⟩ := hu; go_simp; try rfl) (HKB.out _ hq4) zt ?_
    simp only [Act.put, zA, zB, zC, zD, zF, zG]
    refine wpAnyL_done (by kernel_rfl) ?_ _
    obtain ⟨a1, a2, a3, a4, ab⟩ := alloc4 w1 (.map #[] 0) (.map #[] 0) (.cells (Array.replicate m (Value.slice none 0 0)) 124) (.cells #[.slice (some ⟨bA, oA, none⟩) m c, .int .i64 (root : Int), .int .i64 (most : Int), .slice (some ⟨w1.heap.size + 2, 0, none⟩) m m, .map (some (w1.heap.size)), .map (some (w1.heap.size + 1)), .slice none 0 0] 122)
    go_wp2_with fail
    go_meet
    exact ⟨⟨w1.heap.size + 3, w1.heap.size + 2, w1.heap.size, w1.heap.size + 1, some ⟨bA, oA, none⟩, m, c, root, most, ns⟩, rfl, rfl, rfl, rfl, rfl, rfl, rfl, ⟨a4, by rw [List.toArray_replicate]; exact a3, a1, a2, ⟨Nat.le_add_right w1.heap.size 3, Nat.le_add_right w1.heap.size 2, Nat.le_refl w1.heap.size, Nat.le_add_right w1.heap.size 1⟩, by show w1.heap.size ≠ w1.heap.size + 1; omega, ab.drew⟩⟩
   exact AllL.nil
  refine AllL.cons rfl (fun K hK => ?_) ?_
  ·
   go_simp
   have hq1 : Below w1.heap.size w1 (w1.drew.alloc (.map #[] 0)) := (Below.refl w1.heap.size w1).drew.alloc (Below.refl w1.heap.size w1).drew.size _
   refine hK.out _ _ (HKB.out _ hq1) zt ?_
   clear hK K
   refine wpAnyL_ready (rs := [5, 6]) (by kernel_rfl) (by simp) ?_
   refine AllL.cons rfl (fun K hK => ?_) ?_
   ·
    go_simp
    have hq2 : Below w1.heap.size w1 ((w1.drew.alloc (.map #[] 0)).alloc (.cells (Array.replicate m (Value.slice none 0 0)) 124)) := hq1.alloc hq1.size _
    refine hK.out _ _ (HKB.out _ hq2) zt ?_
    clear hK K
    refine zR 6 rfl (fun K hK => ?_)
    go_simp
    have hq3 : Below w1.heap.size w1 (((w1.drew.alloc (.map #[] 0)).alloc (.cells (Array.replicate m (Value.slice none 0 0)) 124)).alloc (.map #[] 0)) := hq2.alloc hq2.size _
    refine hK.out _ _ (HKB.out _ hq3) zt ?_
    clear hK K
    refine zP (i := 8) rfl (fun u hu => by obtain ⟨f0, f1⟩ := hu; go_simp; try rfl) (HKB.out _ hq3) zt ?_
    simp only [Act.put, zA, zB, zC, zD, zF, zG]
    refine zR 9 rfl (fun K hK => ?_)
    go_simp
    have hq4 : Below w1.heap.size w1 ((((w1.drew.alloc (.map #[] 0)).alloc (.cells (Array.replicate m (Value.slice none 0 0)) 124)).alloc (.map #[] 0)).alloc (.cells #[.slice (some ⟨bA, oA, none⟩) m c, .int .i64 (root : Int), .int .i64 (most : Int), .slice (some ⟨w1.heap.size + 1, 0, none⟩) m m, .map (some (w1.heap.size + 2)), .map (some (w1.heap.size)), .slice none 0 0] 122)) := hq3.alloc hq3.size _
    refine hK.out _ _ (HKB.out _ hq4) zt ?_
    clear hK K
    refine zP (i := 10) rfl (fun u hu => by obtain ⟨f0, f1⟩ := hu; go_simp; try rfl) (HKB.out _ hq4) zt ?_
    simp only [Act.put, zA, zB, zC, zD, zF, zG]
    refine wpAnyL_done (by kernel_rfl) ?_ _
    obtain ⟨a1, a2, a3, a4, ab⟩ := alloc4 w1 (.map #[] 0) (.cells (Array.replicate m (Value.slice none 0 0)) 124) (.map #[] 0) (.cells #[.slice (some ⟨bA, oA, none⟩) m c, .int .i64 (root : Int), .int .i64 (most : Int), .slice (some ⟨w1.heap.size + 1, 0, none⟩) m m, .map (some (w1.heap.size + 2)), .map (some (w1.heap.size)), .slice none 0 0] 122)
    go_wp2_with fail
    go_meet
    exact ⟨⟨w1.heap.size + 3, w1.heap.size + 1, w1.heap.size + 2, w1.heap.size, some ⟨bA, oA, none⟩, m, c, root, most, ns⟩, rfl, rfl, rfl, rfl, rfl, rfl, rfl, ⟨a4, by rw [List.toArray_replicate]; exact a2, a3, a1, ⟨Nat.le_add_right w1.heap.size 3, Nat.le_add_right w1.heap.size 1, Nat.le_add_right w1.heap.size 2, Nat.le_refl w1.heap.size⟩, by show w1.heap.size + 2 ≠ w1.heap.size; omega, ab.drew⟩⟩
   refine AllL.cons rfl (fun K hK => ?_) ?_
   ·
    go_simp
    have hq2 : Below w1.heap.size w1 ((w1.drew.alloc (.map #[] 0)).alloc (.map #[] 0)) := hq1.alloc hq1.size _
    refine hK.out _ _ (HKB.out _ hq2) zt ?_
    clear hK K
    refine zR 5 rfl (fun K hK => ?_)
    go_simp
    have hq3 : Below w1.heap.size w1 (((w1.drew.alloc (.map #[] 0)).alloc (.map #[] 0)).alloc (.cells (Array.replicate m (Value.slice none 0 0)) 124)) := hq2.alloc hq2.size _
    refine hK.out _ _ (HKB.out _ hq3) zt ?_
    clear hK K
    refine zP (i := 8) rfl (fun u hu => by obtain ⟨f0, f1⟩ := hu; go_simp; try rfl) (HKB.out _ hq3) zt ?_
    simp only [Act.put, zA, zB, zC, zD, zF, zG]
    refine zR 9 rfl (fun K hK => ?_)
    go_simp
    have hq4 : Below w1.heap.size w1 ((((w1.drew.alloc (.map #[] 0)).alloc (.map #[] 0)).alloc (.cells (Array.replicate m (Value.slice none 0 0)) 124)).alloc (.cells #[.slice (some ⟨bA, oA, none⟩) m c, .int .i64 (root : Int), .int .i64 (most : Int), .slice (some ⟨w1.heap.size + 2, 0, none⟩) m m, .map (some (w1.heap.size + 1)), .map (some (w1.heap.size)), .slice none 0 0] 122)) := hq3.alloc hq3.size _
    refine hK.out _ _ (HKB.out _ hq4) zt ?_
    clear hK K
    refine zP (i := 10) rfl (fun u hu => by obtain ⟨f0, f1⟩ := hu; go_simp; try rfl) (HKB.out _ hq4) zt ?_
    simp only [Act.put, zA, zB, zC, zD, zF, zG]
    refine wpAnyL_done (by kernel_rfl) ?_ _
    obtain ⟨a1, a2, a3, a4, ab⟩ := alloc4 w1 (.map #[] 0) (.map #[] 0) (.cells (Array.replicate m (Value.slice none 0 0)) 124) (.cells #[.slice (some ⟨bA, oA, none⟩) m c, .int .i64 (root : Int), .int .i64 (most : Int), .slice (some ⟨w1.heap.size + 2, 0, none⟩) m m, .map (some (w1.heap.size + 1)), .map (some (w1.heap.size)), .slice none 0 0] 122)
    go_wp2_with fail
    go_meet
    exact ⟨⟨w1.heap.size + 3, w1.heap.size + 2, w1.heap.size + 1, w1.heap.size, some ⟨bA, oA, none⟩, m, c, root, most, ns⟩, rfl, rfl, rfl, rfl, rfl, rfl, rfl, ⟨a4, by rw [List.toArray_replicate]; exact a3, a2, a1, ⟨Nat.le_add_right w1.heap.size 3, Nat.le_add_right w1.heap.size 2, Nat.le_add_right w1.heap.size 1, Nat.le_refl w1.heap.size⟩, by show w1.heap.size + 1 ≠ w1.heap.size; omega, ab.drew⟩⟩
   exact AllL.nil
  exact AllL.nil
 case rest =>
  obtain ⟨C, rfl, hca, rfl, rfl, hcr, rfl, rfl, hst⟩ := hcut
  obtain ⟨w2, rfl⟩ := zE wc
  obtain ⟨tag0, hm0', ht0, ht9⟩ := LM.start hst (hca ▸ HS.out.fit.below HB1.out)
  have HM0 := zh hm0'
  have HST := zh hst
  have HCR := zh hcr
  have HCA := zh hca
  have HR0 := zh (show RTag w1.heap.size Bf tag0 from fun b hb h0 => by
   rcases ht0 b h0 with h | h
   · exact ⟨h, by have := (ht9 b h).1.2; have := HBF.out; omega⟩
   omega)
  have HBFK := zh (show ∀ u : World, Below w1.heap.size w1 u → (u.cell? ⟨Bf, 0, none⟩ = some (.slice (some ⟨bA, oA, none⟩) C.m C.c) ∧ u.cell? ⟨Bf, 1, none⟩ = some (.int .i64 (root : Int))) from HKB.out)
  clear hm0' ht0 ht9 hst hcr hca HKB hmk hmm f0 f1 HS
  obtain ⟨f0, f1⟩ := HBFK.out w2 HST.out.bel
  go_wp2_with fail
  clear f0 f1
  go_loopg [39] C.m (fun gk vi wr => ∃ (i : Nat) (tg : Nat → Nat) (vs : List Value) (D : LD), i ≤ C.m ∧ gk = C.m - i ∧ vi = .int .i64 (i : Int) ∧ LM C tg wr (.slice none 0 0) vs [] D ∧ (D.q = [] ∧ D.wl = [] ∧ D.sn = []) ∧ (∀ (v : Nat) (nd : NodeD), C.ns[v]? = some nd → D.ls[v]? = some (if v < i then leafL nd else [])) ∧ RTag w1.heap.size Bf tg ∧ Below w1.heap.size w1 wr)
  case atStart => exact ⟨0, tag0, _, LD0 C.m, Nat.zero_le _, rfl, rfl, HM0.out, ⟨rfl, rfl, rfl⟩, fun v nd hv => by
   have hvl := (List.getElem?_eq_some_iff.1 hv).1
   show (List.replicate C.m [])[v]? = _
   rw [if_neg (by omega), List.getElem?_replicate, if_pos (by rw [HML.out]; exact hvl)], HR0.out, HST.out.bel⟩
  case round =>
   obtain ⟨i, tg, vs, D, hi, hg, rfl, hm, hq0, hls, hrt, hbe⟩ := hrel
   obtain ⟨w4, rfl⟩ := zE wr
   have HG := zh hg
   have HM := zh hm
   have HQ0 := zh hq0
   have HLS := zh hls
   have HRT := zh hrt
   have HBE := zh hbe
   clear hg hm hq0 hls hrt hbe
   by_cases hlt : i < C.m
   ·
    have hltI : (i : Int) < (C.m : Int) := by omega
    have hi0 : (0 : Int) ≤ (i : Int) := by omega
    obtain ⟨bN, oN, nd, AP, nP, cP, hA, _, hnd, n0, n1, n2, n3, n4, _⟩ := node_at HM.out.nd hlt
    have hcapn := HM.out.nd.cap
    have HND := zh hnd
    have HNE := zh (show ∀ (D' : LD), D'.ls = D.ls.set i (leafL nd) → ∀ (v : Nat) (nd' : NodeD), C.ns[v]? = some nd' → D'.ls[v]? = some (if v < i + 1 then leafL nd' else []) from fun D' hD v nd' hv => by
     have hvl := (List.getElem?_eq_some_iff.1 hv).1
     rw [hD, List.getElem?_set]
     by_cases e : i = v
     ·
      subst e
      obtain rfl : nd' = nd := Option.some.inj (hv.symm.trans HND.out)
      rw [if_pos rfl, if_pos (by rw [HM.out.fl.len.symm, HM.out.vl]; exact hlt), if_pos (by omega)]
     rw [if_neg e, HLS.out v nd' hv]
     by_cases e2 : v < i
     · rw [if_pos e2, if_pos (by omega)]
     rw [if_neg e2, if_neg (by omega)])
    obtain ⟨Bn, hBn⟩ := zE w4.heap.size
    obtain ⟨w5, hw5⟩ := zE (w4.alloc (.cells #[.bool nd.1.1, .int .i64 nd.1.2, .int .i64 nd.2.1, .int .i64 nd.2.2.1, .slice AP nP cP] 106))
    have hb5 : Below w4.heap.size w4 w5 := by rw [hw5]; exact (Below.refl _ _).alloc (Nat.le_refl _) _
    have hg5 : w5.heap[Bn]? = some (.cells #[.bool nd.1.1, .int .i64 nd.1.2, .int .i64 nd.2.1, .int .i64 nd.2.2.1, .slice AP nP cP] 106 (0, 0)) := by rw [hw5, hBn]; exact heap_alloc_new _ _
    have HB5 := zh hb5
    have HG5 := zh hg5
    have HW5 := zh hw5
    have HBN := zh hBn
    have HM5 := zh (HM.out.below hb5)
    have HN14 := zh (show w1.heap.size ≤ w4.heap.size from HBE.out.size)
    have HBE5 := zh (HBE.out.trans (hb5.mono HN14.out))
    have ln := cell_lt n0
    obtain ⟨rfl, rfl⟩ : bN = bA ∧ oN = oA := by have h := hA.symm.trans HCA.out; injection h with h; injection h with h1 h2 _; exact ⟨h1, h2⟩
    clear hA hnd hBn hw5 hb5 hg5
    by_cases htm : nd.1.1 = true
    ·
     have HTM := zh htm
     clear htm
     go_upto_region 7 with fail
     rw [← HW5.out, ← HBN.out]
     clear n0 n1 n2 n3 n4 ln
     have q0 : w5.cell? ⟨Bn, 0, none⟩ = some (.bool true) := by have hk := HG5.out; rw [HTM.out] at hk; simp [World.cell?, hk]
     go_wp2_with fail
     clear q0
     refine wp_region_late (late := []) (S1 := fun u => u.cell? ⟨C.BL, 3, none⟩ = some (.slice (some ⟨C.BV, 0, none⟩) C.m C.m) ∧ u.cell? ⟨Bn, 1, none⟩ = some (.int .i64 nd.1.2)) (S := fun _ => True) (by kernel_rfl) ?_
     obtain ⟨w6, hw6⟩ := zE w5.drew
     have HB6 := zh (show Below w5.heap.size w5 w6 by rw [hw6]; exact (Below.refl _ _).drew)
     have HZ6 := zh (show w6.heap.size = w5.heap.size by rw [hw6]; rfl)
     rw [← hw6]
     clear hw6
     have HM6 := zh (HM5.out.below HB6.out)
     have HGN := zh ((HB6.out.block Bn (heap_lt HG5.out)).trans HG5.out)
     have HE5 := zh (show ∀ u : World, (∀ b : Nat, b = Bn ∨ b = C.BL → u.heap[b]? = w6.heap[b]?) → (u.cell? ⟨C.BL, 3, none⟩ = some (.slice (some ⟨C.BV, 0, none⟩) C.m C.m) ∧ u.cell? ⟨Bn, 1, none⟩ = some (.int .i64 nd.1.2)) from fun u hu => by
      have h1 := (hu Bn (.inl rfl)).trans HGN.out
      exact ⟨by rw [World.cell?_of_block (hu C.BL (.inr rfl))]; exact HM6.out.cells.2.2.1, by simp [World.cell?, h1]⟩)
     have HKX := zh (show ∀ (u : World) (X : Nat → Prop), Only w6 u X → ¬ X Bn → ¬ X C.BL → ∀ b : Nat, b = Bn ∨ b = C.BL → u.heap[b]? = w6.heap[b]? from fun u X hu h1 h2 b e => by
      rcases e with e | e
      · subst e; exact hu.block b (heap_lt HGN.out) h1
      subst e; exact hu.block _ (heap_lt HM6.out.blk) h2)
     have HT5 := zh (show tg C.BL = 4 ∧ tg Bn = 0 from ⟨HM.out.tL, Classical.byContradiction fun e => by have := HM.out.lt Bn e; have := HBN.out; omega⟩)
     obtain ⟨vl, hvl⟩ : ∃ vl, vs[i]? = some vl := ⟨_, List.getElem?_eq_getElem (by rw [HM6.out.vl]; exact hlt)⟩
     obtain ⟨hc1, hc2, hon6, tg2, hle2, hor2, hm6⟩ := HM6.out.leaf hvl nd.1.2 rfl rfl
     simp only [World.size_alloc] at hc1 hc2 hon6 hm6
     have HCF := zh (And.intro hc1 hc2)
     have HON6 := zh hon6
     have HLE2 := zh hle2
     have HOR2 := zh hor2
     have HM7 := zh hm6
     clear hvl hc1 hc2 hon6 hle2 hor2 hm6
     refine zP (i := 0) rfl (fun u hu => by obtain ⟨b3, n1⟩ := hu; go_simp; try rfl) (HE5.out _ (fun _ _ => rfl)) zt ?_
     simp only [Act.put, zA, zB, zC, zD, zF, zG]
     refine zP (i := 1) rfl (fun u hu => by obtain ⟨b3, n1⟩ := hu; go_simp; try rfl) (HE5.out _ (fun _ _ => rfl)) zt ?_
     simp only [Act.put, zA, zB, zC, zD, zF, zG]
     refine zP (i := 2) rfl (fun u hu => by obtain ⟨b3, n1⟩ := hu; go_simp; try rfl) (HE5.out _ (fun _ _ => rfl)) zt ?_
     simp only [Act.put, zA, zB, zC, zD, zF, zG]
     refine zP (i := 3) rfl (fun u hu => by obtain ⟨b3, n1⟩ := hu; go_simp; try rfl) (HE5.out _ (fun _ _ => rfl)) zt ?_
     simp only [Act.put, zA, zB, zC, zD, zF, zG]
     refine zP (i := 4) rfl (fun u hu => by obtain ⟨b3, n1⟩ := hu; go_simp; try rfl) (HE5.out _ (fun _ _ => rfl)) zt ?_
     simp only [Act.put, zA, zB, zC, zD, zF, zG]
     refine zP (i := 5) rfl (fun u hu => by obtain ⟨b3, n1⟩ := hu; go_simp; try rfl) (HE5.out _ (fun _ _ => rfl)) zt ?_
     simp only [Act.put, zA, zB, zC, zD, zF, zG]
     refine zP (i := 6) rfl (fun u hu => by obtain ⟨b3, n1⟩ := hu; go_simp; try rfl) (HE5.out _ (fun _ _ => rfl)) zt ?_
     simp only [Act.put, zA, zB, zC, zD, zF, zG]
     refine zP (i := 7) rfl (fun u hu => by obtain ⟨b3, n1⟩ := hu; go_simp; try rfl) (HE5.out _ (fun _ _ => rfl)) zt ?_
     simp only [Act.put, zA, zB, zC, zD, zF, zG]
     refine zP (i := 8) rfl (fun u hu => by obtain ⟨b3, n1⟩ := hu; go_simp; try rfl) (HE5.out _ (fun _ _ => rfl)) zt ?_
     simp only [Act.put, zA, zB, zC, zD, zF, zG]
     refine zR 9 rfl (fun K hK => ?_)
     go_simp
     refine hK.out _ _ (HE5.out _ (HKX.out _ (fun _ => False) (Only.alloc _ _ _) id id)) zt ?_
     clear hK K
     refine zR 10 rfl (fun K hK => ?_)
     go_simp
     refine hK.out _ _ (HE5.out _ (HKX.out _ (fun _ => False) ((Only.alloc _ _ _).trans (Only.alloc _ _ _)) id id)) zt ?_
     clear hK K
     refine zP (i := 11) rfl (fun u hu => by obtain ⟨b3, n1⟩ := hu; go_simp; try rfl) (HE5.out _ (HKX.out _ (fun _ => False) ((Only.alloc _ _ _).trans (Only.alloc _ _ _)) id id)) zt ?_
     simp only [Act.put, zA, zB, zC, zD, zF, zG]
     refine zR 12 rfl (fun K hK => ?_)
     have hc := HCF.out.1
     have hf := HCF.out.2
     go_simp
     clear hc hf
     refine hK.out _ _ (HE5.out _ (HKX.out _ _ HON6.out (by rw [HT5.out.2]; decide) (by rw [HT5.out.1]; decide))) zt ?_
     clear hK K
     refine wpAnyL_done (by kernel_rfl) ?_ _
     go_wp2_with fail
     go_roundg (C.m - (i + 1))
     case measure => rw [HG.out]; omega
     case rel => exact ⟨i + 1, tg2, _, _, by omega, rfl, by go_num, HM7.out, HQ0.out, HNE.out _ (by show D.ls.set i _ = _; rw [show leafL nd = [.node (-1) nd.1.2 []] by unfold leafL; rw [if_pos HTM.out]]), HRT.out.next (Nw := w6.heap.size) (fun b e => by rw [HLE2.out b (by omega)]; exact e) HOR2.out (by have := HN14.out; have := HB5.out.size; have := HZ6.out; omega), HRT.out.below (HBE5.out.trans (HB6.out.mono HBE5.out.size)) (Nat.le_refl _) (HON6.out.more fun b _ e => by omega)⟩
    have hf : nd.1.1 = false := by simpa using htm
    have HTM := zh hf
    clear htm hf
    go_upto_region 7 with fail
    rw [← HW5.out, ← HBN.out]
    clear n0 n1 n2 n3 n4 ln
    have q0 : w5.cell? ⟨Bn, 0, none⟩ = some (.bool false) := by have hk := HG5.out; rw [HTM.out] at hk; simp [World.cell?, hk]
    go_wp2_with fail
    go_roundg (C.m - (i + 1))
    case measure => rw [HG.out]; omega
    case rel => exact ⟨i + 1, tg, vs, D, by omega, rfl, by go_num, HM5.out, HQ0.out, HNE.out D (by
     have h1 := HLS.out i nd HND.out
     rw [if_neg (Nat.lt_irrefl _)] at h1
     have h2 : leafL nd = [] := by unfold leafL; rw [if_neg (by rw [HTM.out]; decide)]
     rw [h2]
     apply List.ext_getElem?
     intro j
     rw [List.getElem?_set]
     split
     · next e => subst e; rw [h1]; split; rfl; next e2 => exact absurd (List.getElem?_eq_some_iff.1 h1).1 e2
     rfl), HRT.out, HBE5.out⟩
   obtain rfl : i = C.m := by omega
   have hls2 : D.ls = C.ns.map leafL := by
    apply List.ext_getElem?
    intro v
    rw [List.getElem?_map]
    cases e : C.ns[v]? with
    | none =>
     rw [show Option.map leafL none = none from rfl, List.getElem?_eq_none_iff]
     rw [List.getElem?_eq_none_iff] at e
     rw [← HM.out.fl.len, HM.out.vl, HML.out]; exact e
    | some nd =>
     have hv := (List.getElem?_eq_some_iff.1 e).1
     rw [HLS.out v nd e, if_pos (by have := HML.out; omega)]
     rfl
   obtain ⟨hI0, hphi0⟩ := LI.start h1 D hls2 HQ0.out.1 HQ0.out.2.1 HQ0.out.2.2
   rw [← HML.out] at hphi0
   have HI0 := zh hI0
   have HPH0 := zh hphi0
   obtain ⟨f0, f1⟩ := HBFK.out w4 HBE.out
   clear hls2 hI0 hphi0
   go_wp2_with fail
   clear f0 f1
   obtain ⟨H0, hH0⟩ := zE (List.replicate C.ns.length ([] : List CKey))
   rw [← hH0] at HI0
   clear hH0
   go_loopg [63] C.m (fun gk vi wr => ∃ (i : Nat) (tg : Nat → Nat) (vq : Value) (es : List ((Nat × Nat) × Value)) (D : LD), i ≤ C.m ∧ gk = C.m - i ∧ vi = .int .i64 (i : Int) ∧ LM C tg wr vq vs es D ∧ LI C.ns C.most H0 [] D ∧ phi C.most D ≤ 5 * (C.most * C.m) + packsN (C.ns.take i) ∧ RTag w1.heap.size Bf tg ∧ Below w1.heap.size w1 wr)
   case atStart => exact ⟨0, tg, _, _, D, Nat.zero_le _, rfl, rfl, HM.out, HI0.out, Nat.le_trans HPH0.out (Nat.le_add_right _ _), HRT.out, HBE.out⟩
   clear HM HQ0 HLS HRT HBE HI0 HPH0
   case round =>
    obtain ⟨i, tg, vq, es, D, hi, hg, rfl, hm, hI, hph, hrt, hbe⟩ := hrel
    obtain ⟨w4, rfl⟩ := zE wr
    have HG := zh hg
    have HM := zh hm
    have HI := zh hI
    have HPH := zh hph
    have HRT := zh hrt
    have HBE := zh hbe
    clear hg hm hI hph hrt hbe
    by_cases hlt : i < C.m
    ·
     have hltI : (i : Int) < (C.m : Int) := by omega
     have hi0 : (0 : Int) ≤ (i : Int) := by omega
     obtain ⟨bN, oN, nd, AP, nP, cP, hA, _, hnd, n0, n1, n2, n3, n4, hsp⟩ := node_at HM.out.nd hlt
     have hnP := hsp.len
     have hcapn := HM.out.nd.cap
     have HND := zh hnd
     have HNP := zh hnP
     have hnPl : nP ≤ 1000000 := by rw [hnP]; exact HN.out.sm.pk nd (List.mem_of_getElem? hnd)
     obtain ⟨Bn, hBn⟩ := zE w4.heap.size
     obtain ⟨w5, hw5⟩ := zE (w4.alloc (.cells #[.bool nd.1.1, .int .i64 nd.1.2, .int .i64 nd.2.1, .int .i64 nd.2.2.1, .slice AP nP cP] 106))
     have hb5 : Below w4.heap.size w4 w5 := by rw [hw5]; exact (Below.refl _ _).alloc (Nat.le_refl _) _
     have q3 : w5.cell? ⟨Bn, 4, none⟩ = some (.slice AP nP cP) := by
      have hg5 : w5.heap[Bn]? = some (.cells #[.bool nd.1.1, .int .i64 nd.1.2, .int .i64 nd.2.1, .int .i64 nd.2.2.1, .slice AP nP cP] 106 (0, 0)) := by rw [hw5, hBn]; exact heap_alloc_new _ _
      simp [World.cell?, hg5]
     have HW5 := zh hw5
     have HBN := zh hBn
     have HM5 := zh (HM.out.below hb5)
     have HRT5 := zh HRT.out
     have HBE5 := zh (HBE.out.trans (hb5.mono HBE.out.size))
     have ln := cell_lt n0
     obtain ⟨rfl, rfl⟩ : bN = bA ∧ oN = oA := by have h := hA.symm.trans HCA.out; injection h with h; injection h with h1 h2 _; exact ⟨h1, h2⟩
     clear hA hnd hBn hw5 hb5 hsp hnP HRT
     go_upto_region 13 with fail
     rw [← HW5.out, ← HBN.out]
     clear n0 n1 n2 n3 n4 ln
     go_wp2_with fail
     clear q3
     go_loopg [71] nP (fun gk vi wr => ∃ (p : Nat) (tg : Nat → Nat) (vq : Value) (es : List ((Nat × Nat) × Value)) (D : LD), p ≤ nP ∧ gk = nP - p ∧ vi = .int .i64 (p : Int) ∧ LM C tg wr vq vs es D ∧ LI C.ns C.most H0 [] D ∧ phi C.most D ≤ 5 * (C.most * C.m) + packsN (C.ns.take i) + p ∧ RTag w1.heap.size Bf tg ∧ Below w1.heap.size w1 wr)
     case atStart => exact ⟨0, tg, _, _, D, Nat.zero_le _, rfl, rfl, HM5.out, HI.out, HPH.out, HRT5.out, HBE5.out⟩
     clear HM HM5 HI HPH HRT5 HBE HBE5 HW5 HBN
     case round =>
      obtain ⟨p, tg, vq, es, D, hp, hg1, rfl, hm, hI, hph, hrt, hbe⟩ := hrel
      obtain ⟨w6, rfl⟩ := zE wr
      have HG1 := zh hg1
      have HM := zh hm
      have HI := zh hI
      have HPH := zh hph
      have HRT := zh hrt
      have HBE := zh hbe
      clear hg1 hm hI hph hrt hbe
      by_cases hpl : p < nP
      ·
       have hplI : (p : Int) < (nP : Int) := by omega
       have HPL := zh hpl
       have HCB := zh (cb0 (most := C.most) HND.out (p := p) (by rw [← HNP.out]; exact hpl))
       have HPHB := zh (show phi C.most D ≤ 10000000 by
        have h1 := HPH.out
        have h2 := HB.out
        have h3 := packsN_take HND.out
        have h4 := packsN_le C.ns (i + 1)
        have h5 := HNP.out
        have h6 := HPL.out
        omega)
       go_wp2_with fail
       obtain ⟨g1, g2, g3, g4⟩ := HI.out.ask hmo (by have := HPHB.out; omega)
       refine (lisFirst C HN.out.sm tg w6 vq vs es D HM.out (i, p, 0, 0, 0, 0) (HCB.out.cin HN.out (by omega)) g1 g2 g3 g4 none).mono ?_
       rintro e w7 ⟨rfl, tg7, vq7, es7, D7, hm7, ht7, hle7, hor7, hon7⟩
       have hI7 : LI C.ns C.most H0 [] D7 ∧ phi C.most D7 ≤ phi C.most D + 1 := by
        rcases ht7 with ⟨_, rfl⟩ | ⟨hk, ht⟩
        · exact ⟨HI.out, Nat.le_succ _⟩
        obtain ⟨h1, h2⟩ := ht.keep (HI.out.know hk HCB.out)
        refine ⟨h1, ?_⟩
        have h3 := ht.ls
        unfold phi
        rw [h2, h3]
        show (cands D).length + 1 + 5 * room C.most D.ls ≤ _
        omega
       have HM7 := zh hm7
       have HI7 := zh hI7
       have HLE7 := zh hle7
       have HOR7 := zh hor7
       have HON7 := zh hon7
       clear hm7 ht7 hle7 hor7 hon7 hI7 g1 g2 g3 g4
       go_wp2_with fail
       go_roundg (nP - (p + 1))
       case measure => rw [HG1.out]; omega
       case rel => exact ⟨p + 1, tg7, _, _, D7, by omega, rfl, by go_num, HM7.out, HI7.out.1, by have := HI7.out.2; have := HPH.out; omega, HRT.out.next (fun b e => by rw [HLE7.out b (by omega)]; exact e) HOR7.out HBE.out.size, HRT.out.below HBE.out (Nat.le_refl _) HON7.out⟩
      obtain rfl : p = nP := by omega
      go_wp2_with fail
      go_roundg (C.m - (i + 1))
      case measure => rw [HG.out]; omega
      case rel => exact ⟨i + 1, tg, _, _, D, by omega, rfl, by go_num, HM.out, HI.out, by rw [packsN_take HND.out, ← HNP.out]; have := HPH.out; omega, HRT.out, HBE.out⟩
    obtain rfl : i = C.m := by omega
    have HPH0 := zh (show phi C.most D ≤ 10000000 by have h1 := HPH.out; have h2 := HB.out; have h3 := packsN_le C.ns C.m; omega)
    clear HPH HG
    go_upto_block 6 with fail
    go_cut [12, 13] from 81 to 117 (fun v12 v13 wx => ∃ (tg : Nat → Nat) (vq : Value) (vs : List Value) (es : List ((Nat × Nat) × Value)) (hist : List (List CKey)) (D : LD), LM C tg wx vq vs es D ∧ LI C.ns C.most hist [] D ∧ RTag w1.heap.size Bf tg ∧ Below w1.heap.size w1 wx)
    case first =>
     go_wp2_with fail
     go_loopg [13] (phi C.most D) (fun gk vo wr => ∃ (tg : Nat → Nat) (vq : Value) (vs : List Value) (es : List ((Nat × Nat) × Value)) (hist : List (List CKey)) (D' : LD), gk = phi C.most D' ∧ phi C.most D' ≤ 10000000 ∧ LM C tg wr vq vs es D' ∧ LI C.ns C.most hist [] D' ∧ RTag w1.heap.size Bf tg ∧ Below w1.heap.size w1 wr)
     case atStart => exact ⟨tg, _, _, _, H0, D, rfl, HPH0.out, HM.out, HI.out, HRT.out, HBE.out⟩
     clear HM HI HPH0 HRT HBE
     case round =>
      obtain ⟨tg, vq, vs, es, hist, D, hg, hph, hm, hI, hrt, hbe⟩ := hrel
      obtain ⟨w4, rfl⟩ := zE wr
      obtain ⟨Aq, cq, hvq, _⟩ := hm.qu.form
      obtain ⟨lt, hlt⟩ : ∃ lt, D.ls[root]? = some lt := ⟨_, List.getElem?_eq_getElem (by rw [← hm.fl.len, hm.vl]; exact hr)⟩
      obtain ⟨vl, hvl⟩ : ∃ vl, vs[root]? = some vl := ⟨_, List.getElem?_eq_getElem (by rw [hm.vl]; exact hr)⟩
      obtain ⟨Al, cl, hvl0⟩ := hm.rowF hvl hlt
      obtain ⟨qn, hqn⟩ := zE D.q.length
      obtain ⟨ll, hll⟩ := zE lt.length
      rw [← hqn] at hvq
      rw [← hll] at hvl0
      subst hvl0
      have hask := hI.ask hmo (by omega)
      subst hvq
      have HG := zh hg
      have HPH := zh hph
      have HM := zh hm
      have HI := zh hI
      have HRT := zh hrt
      have HBE := zh hbe
      have HVL := zh hvl
      have HQN := zh hqn
      have HASK := zh hask
      obtain ⟨_, _, kb3, _⟩ := hm.cells
      have hbv := hm.bv
      have kb6 : w4.cell? ⟨C.BL, 6, none⟩ = some (.slice Aq qn cq) := by have hbl := hm.blk; simp [World.cell?, hbl, LC.la]
      have kv : w4.cell? ⟨C.BV, root, none⟩ = some (.slice Al ll cl) := by rw [cell_of_row _ _ _ _ _ _ hbv]; simpa using hvl
      obtain ⟨_, f1⟩ := HBFK.out w4 hbe
      clear hg hph hm hI hrt hbe hvl hqn hask hbv hlt hll
      by_cases hq0 : qn = 0
      ·
       subst hq0
       go_upto_region 19 with fail
       go_quiet (fail)
       obtain ⟨w5, hw5⟩ := zE (w4.drewN nq)
       have HB5 := zh (show Below w4.heap.size w4 w5 by rw [hw5]; exact drewN_below _ _)
       rw [← hw5]
       clear hw5 kb3 kb6 kv f1
       go_wp2_with fail
       go_meet
       exact ⟨tg, _, _, _, hist, D, HM.out.below HB5.out, HI.out, HRT.out, HBE.out.trans (HB5.out.mono HBE.out.size)⟩
      obtain ⟨n, rfl⟩ : ∃ n, qn = n + 1 := ⟨qn - 1, by omega⟩
      have hqI : (0 : Int) < ((n + 1 : Nat) : Int) := by omega
      by_cases hfull : ll < C.most
      ·
       have hfI : (ll : Int) < (C.most : Int) := by omega
       go_upto_region 19 with fail
       go_quiet (fail)
       obtain ⟨w5, hw5⟩ := zE (w4.drewN nq)
       have HB5 := zh (show Below w4.heap.size w4 w5 by rw [hw5]; exact drewN_below _ _)
       rw [← hw5]
       clear hw5 kb3 kb6 kv f1
       have HM5 := zh (HM.out.below HB5.out)
       have HBE5 := zh (HBE.out.trans (HB5.out.mono HBE.out.size))
       go_wp2_with fail
       refine (heapPop (fun b => tg b = 8) C.BL C.la w5 Aq n cq D.q HM5.out.qc HQN.out HASK.out.2.1 (by have := HASK.out.1; have := HQN.out; omega)).mono ?_
       rintro e w6 ⟨q', ⟨k, t⟩, ⟨B, rfl, hok⟩, hqc, hperm, hon⟩
       have hqlt : ∀ g, rowOf (.slice Aq n cq) = some g → g < w6.heap.size := fun g e => by
        obtain ⟨xs, o1, _⟩ := hqc.q.own
        exact (o1.row e).2
       have hrow : ∀ g, rowOf (.slice Aq n cq) = some g → rowOf (.slice Aq (n + 1) cq) = some g := fun g e => row_drop e _
       obtain ⟨tg6, hle6, hor6, hm6⟩ := HM5.out.ofQ hqc (hon.more fun b _ e => by rcases e with e | e; exact .inl e; exact .inr (hrow b e)) (fun g e => .inl (hrow g e)) hqlt
       obtain ⟨hI6, hph6, hmt, _⟩ := HI.out.pop hperm
       have hok6 := RPt.more hok (S' := fun b => tg6 b = 8) fun b e => by rw [hle6 b (by omega)]; exact e
       have HON6 := zh (show Only w5 w6 (fun b => tg b ≠ 0 ∧ tg b ≠ 8 ∧ tg b ≠ 9) from hon.more fun b _ e => by
        rcases e with rfl | e
        · rw [HM5.out.tL]; decide
        rw [HM5.out.rq b (hrow b e)]; decide)
       obtain ⟨D1, hD1⟩ : ∃ D1 : LD, D1 = { D with q := q' } := ⟨_, rfl⟩
       rw [← hD1] at hm6 hI6 hph6
       have hmt1 : MadeT C.ns D1.ls k t := by rw [hD1]; exact hmt
       clear hmt hD1 hqc hperm hon hok hqlt
       have hrt6 := HRT.out.next (Nw := w5.heap.size) (fun b e => by rw [hle6 b (by omega)]; exact e) hor6 HBE5.out.size
       have hbe6 := HRT.out.below HBE5.out (Nat.le_refl _) HON6.out
       have HRT6 := zh hrt6
       have HBE6 := zh hbe6
       have HM6 := zh hm6
       have HI6 := zh hI6
       have HPH6 := zh hph6
       have HMT := zh hmt1
       have HLE6 := zh hle6
       obtain ⟨_, At, nt, ct, e1, hB8, _, _, k2, _, _⟩ := RPt.cells.1 hok6
       injection e1 with e1 _
       injection e1 with e1
       injection e1 with e1
       injection e1 with e1 _ _
       subst e1
       have HOK6 := zh hok6
       have ltB := cell_lt k2
       clear hm6 hI6 hph6 hmt1 hle6 hor6 hok6 hrt6 hbe6 hrow hB8
       obtain ⟨a0, a1, r0, r1, r2, r3⟩ := k
       unfold qV ckV
       simp only [List.cons_append, List.nil_append]
       obtain ⟨Bc, hBc⟩ := zE w6.heap.size
       obtain ⟨w7, hw7⟩ := zE (w6.alloc (.cells #[.int .i64 (a0 : Int), .int .i64 (a1 : Int), .int .i64 (r0 : Int), .int .i64 (r1 : Int), .int .i64 (r2 : Int), .int .i64 (r3 : Int), .pointer (some ⟨B, 0, none⟩)] 130))
       have hb7 : Below w6.heap.size w6 w7 := by rw [hw7]; exact (Below.refl _ _).alloc (Nat.le_refl _) _
       have hg7 : w7.heap[Bc]? = some (.cells #[.int .i64 (a0 : Int), .int .i64 (a1 : Int), .int .i64 (r0 : Int), .int .i64 (r1 : Int), .int .i64 (r2 : Int), .int .i64 (r3 : Int), .pointer (some ⟨B, 0, none⟩)] 130 (0, 0)) := by rw [hw7, hBc]; exact heap_alloc_new _ _
       obtain ⟨d0, d1, d2, d3, d4, d5, d6⟩ := c7 hg7
       have k27 := (hb7.cell (cell_lt k2)).trans k2
       have HB7 := zh hb7
       have HM7 := zh (HM6.out.below hb7)
       have HRT7 := zh HRT6.out
       have HBE7 := zh (HBE6.out.trans (hb7.mono HBE6.out.size))
       have HOK7 := zh (RPt.keep HOK6.out (Kept.below hb7))
       have HW7 := zh hw7
       have HBC := zh hBc
       clear hb7 hg7 k2 hw7 hBc
       have hta := assertC
       by_cases hbig : sizeT t ≤ 5000
       ·
        have hbI : ¬ (5000 : Int) < (sizeT t : Int) := by omega
        have HBG := zh hbig
        clear hbig
        go_upto_region 21 with fail
        rw [← HW7.out, ← HBC.out]
        go_wp2_with fail
        refine (lisTake C HN.out hmo tg6 w7 _ vs es D1 HM7.out hist (a0, a1, r0, r1, r2, r3) HI6.out (by have := HPH6.out; have := HPH.out; omega) t HMT.out HBG.out B HOK7.out).mono ?_
        rintro e w8 ⟨rfl, tg8, vq8, vs8, es8, D8, hist8, hm8, hI8, hph8, hor8, h98, hon8⟩
        have HM8 := zh hm8
        have HI8 := zh hI8
        have HPH8 := zh hph8
        have HRT8 := zh (HRT7.out.next h98 hor8 HBE7.out.size)
        have HBE8 := zh (HRT7.out.below HBE7.out (Nat.le_refl _) hon8)
        clear hm8 hI8 hph8 hor8 h98 hon8 d0 d1 d2 d3 d4 d5 d6 k27
        go_wp2_with fail
        go_roundg (phi C.most D8)
        case measure => rw [HG.out]; have := HPH8.out; have := HPH6.out; omega
        case rel => exact ⟨tg8, _, _, _, hist8, D8, rfl, by have := HPH8.out; have := HPH6.out; have := HPH.out; omega, HM8.out, HI8.out, HRT8.out, HBE8.out⟩
       have hbI : (5000 : Int) < (sizeT t : Int) := by omega
       clear hbig
       go_upto_region 21 with fail
       rw [← HW7.out, ← HBC.out]
       go_wp2_with fail
       go_meet
       exact ⟨tg6, _, _, _, hist, D1, HM7.out, HI6.out.skip, HRT7.out, HBE7.out⟩
      have hfI : ¬ (ll : Int) < (C.most : Int) := by omega
      go_upto_region 19 with fail
      go_quiet (fail)
      obtain ⟨w5, hw5⟩ := zE (w4.drewN nq)
      have HB5 := zh (show Below w4.heap.size w4 w5 by rw [hw5]; exact drewN_below _ _)
      rw [← hw5]
      clear hw5 kb3 kb6 kv f1
      go_wp2_with fail
      go_meet
      exact ⟨tg, _, _, _, hist, D, HM.out.below HB5.out, HI.out, HRT.out, HBE.out.trans (HB5.out.mono HBE.out.size)⟩
    case rest =>
     obtain ⟨tg, vq, vs, es, hist, D, hm, hI, hrt, hbe⟩ := hcut
     obtain ⟨w4, rfl⟩ := zE wc
     obtain ⟨lt, hlt⟩ : ∃ lt, D.ls[root]? = some lt := ⟨_, List.getElem?_eq_getElem (by rw [← hm.fl.len, hm.vl]; exact hr)⟩
     obtain ⟨vl, hvl⟩ : ∃ vl, vs[root]? = some vl := ⟨_, List.getElem?_eq_getElem (by rw [hm.vl]; exact hr)⟩
     obtain ⟨Al, cl, rfl⟩ := hm.rowF hvl hlt
     have HSL := zh (hm.slF hvl hlt)
     have HLZ := zh (hI.lz lt (List.mem_of_getElem? hlt))
     have HCSH := zh (show ∀ t ∈ lt, CSh t from fun t ht => hI.csh HN.out (sizeT t) root lt t (Nat.le_refl _) hlt ht)
     have HRES := zh (show LI C.ns C.most hist [] D ∧ D.ls[root]? = some lt from ⟨hI, hlt⟩)
     have HND := zh (show Sl RNode w4 (fun b => tg b = 9) (some ⟨bA, oA, none⟩) C.m C.c C.ns from HCA.out ▸ hm.nd)
     obtain ⟨ll, hll⟩ := zE lt.length
     rw [← hll] at HSL hvl
     have HLL := zh hll
     have hllm : ll ≤ C.most := by rw [hll]; exact HLZ.out.1
     have HBE := zh (HB1.out.trans (hbe.mono HB1.out.size))
     obtain ⟨_, _, kb3, _⟩ := hm.cells
     have hbv := hm.bv
     have kv : w4.cell? ⟨C.BV, root, none⟩ = some (.slice Al ll cl) := by rw [cell_of_row _ _ _ _ _ _ hbv]; simpa using hvl
     obtain ⟨f0, f1⟩ := HBFK.out w4 hbe
     have HKC := zh (show w4.cell? ⟨C.BL, 3, none⟩ = some (.slice (some ⟨C.BV, 0, none⟩) C.m C.m) ∧ w4.cell? ⟨C.BV, root, none⟩ = some (.slice Al ll cl) ∧ w4.cell? ⟨Bf, 0, none⟩ = some (.slice (some ⟨bA, oA, none⟩) C.m C.c) ∧ w4.cell? ⟨Bf, 1, none⟩ = some (.int .i64 (root : Int)) from ⟨kb3, kv, f0, f1⟩)
     clear hm hI hrt hbe hvl hlt hll hbv f0
     go_upto_region 23 with fail
     go_quiet (fail)
     obtain ⟨w5, hw5⟩ := zE (w4.drewN nq)
     have HB5 := zh (show Below w4.heap.size w4 w5 by rw [hw5]; exact drewN_below _ _)
     rw [← hw5]
     clear hw5 kb3 kv f1
     obtain ⟨_, _, f0, f1⟩ := HKC.out
     replace f0 := (HB5.out.cell (cell_lt f0)).trans f0
     replace f1 := (HB5.out.cell (cell_lt f1)).trans f1
     go_wp2_with fail
     clear f0 f1
     refine (coreCount w5 _ _ _ _ _ (root : Int) (HND.out.below HB5.out) hm0 (fun nd hnd p hp k hk => ((HN.out.ok nd hnd).2 p hp).2.2 k hk) (fun nd hnd => ⟨HN.out.sm.pk nd hnd, (HN.out.ok nd hnd).1, fun p hp => by have := ((HN.out.ok nd hnd).2 p hp).2.1; omega⟩) hrI).mono ?_
     rintro e w6 ⟨rfl, hb6⟩
     obtain ⟨cn, hcn⟩ := zE (cntK C.ns (root : Int))
     rw [← hcn]
     have HCN := zh hcn
     have HB6 := zh (HB5.out.trans (hb6.mono HB5.out.size))
     clear hb6 hcn
     go_upto_region 25 with fail
     go_cut [140] from 129 to 139 (fun v wx => v = .bool (decide (ll < C.most) && (decide (cn = -1) || decide ((ll : Int) < cn))) ∧ wx = w6)
     case first =>
      by_cases b1 : ll < C.most
      ·
       have b1I : (ll : Int) < (C.most : Int) := by omega
       by_cases b2 : cn = -1
       ·
        subst b2
        go_wp2_with fail
        go_meet
        exact ⟨by simp [b1], rfl⟩
       have b2B : (cn == -1) = false := by simpa using b2
       by_cases b3 : (ll : Int) < cn
       ·
        go_wp2_with fail
        go_meet
        exact ⟨by simp [b1, b3], rfl⟩
       go_wp2_with fail
       go_meet
       exact ⟨by simp [b2, b3], rfl⟩
      have b1I : ¬ (ll : Int) < (C.most : Int) := by omega
      go_wp2_with fail
      go_meet
      exact ⟨by simp [b1], rfl⟩
     case rest =>
      obtain ⟨rfl, rfl⟩ := hcut
      have HBW := zh (HBE.out.trans (HB6.out.mono HBE.out.size))
      cases hbad : (decide (ll < C.most) && (decide (cn = -1) || decide ((ll : Int) < cn))) with
      | true =>
       go_wp2_with fail
       go_ret2
       exact ⟨HBW.out, .inl rfl⟩
      | false =>
       have HBAD := zh (show ll < C.most → cntK C.ns (root : Int) ≠ -1 ∧ cntK C.ns (root : Int) ≤ (ll : Int) from fun h => by
        rw [← HCN.out]
        simp only [Bool.and_eq_false_iff, Bool.or_eq_false_iff, decide_eq_false_iff_not] at hbad
        rcases hbad with h1 | ⟨h1, h2⟩
        · exact absurd h h1
        exact ⟨h1, by omega⟩)
       obtain ⟨w7, rfl⟩ := zE wc
       obtain ⟨kb3, kv, _, f1⟩ := HKC.out
       replace kb3 := (HB6.out.cell (cell_lt kb3)).trans kb3
       replace kv := (HB6.out.cell (cell_lt kv)).trans kv
       replace f1 := (HB6.out.cell (cell_lt f1)).trans f1
       go_upto_region 28 with fail
       go_quiet (fail)
       obtain ⟨w8, hw8⟩ := zE (w7.drewN nq)
       have HB8 := zh (show Below w4.heap.size w4 w8 by rw [hw8]; exact HB6.out.trans ((drewN_below _ _).mono HB6.out.size))
       have HBW8 := zh (HBE.out.trans (HB8.out.mono HBE.out.size))
       have HSL8 := zh (show Sl RPt w8 (fun b => b < w8.heap.size) Al ll cl lt from (HSL.out.below HB8.out).more fun b hb => Nat.lt_of_lt_of_le hb HB8.out.size)
       have HCL := HSL.out.cap
       rw [← hw8]
       clear hw8 kb3 kv f1
       go_wp2_with fail
       go_loopg [16, 150] ll (fun gk vo vi wr => ∃ (k : Nat) (F : Nat → Prop), k ≤ ll ∧ gk = ll - k ∧ vi = .int .i64 (k : Int) ∧ GL RTree 44 wr F vo (lt.take k) ∧ (∀ b, F b → w8.heap.size ≤ b) ∧ Below w8.heap.size w8 wr)
       case atStart => exact ⟨0, fun _ => False, Nat.zero_le _, rfl, rfl, GL.nil _ _, fun b h => h.elim, Below.refl _ _⟩
       case round =>
        obtain ⟨k, F, hk, hg, rfl, hgl, hF, hb9⟩ := hrel
        obtain ⟨w9, rfl⟩ := zE wr
        have HG := zh hg
        have HGL := zh hgl
        have HF := zh hF
        have HB9 := zh hb9
        clear hg hgl hF
        by_cases hkl : k < ll
        ·
         have hkI : (k : Int) < (ll : Int) := by omega
         obtain ⟨bk, ok, Bk, kd, rfl, _, hkd, p0, hokk⟩ := pt_at (HSL8.out.below hb9) hkl
         have HKD := zh hkd
         have HOKK := zh hokk
         have lk := cell_lt p0
         clear hb9 hkd hokk
         go_wp2_with fail
         clear p0
         refine (plainAll (sizeT kd) kd (Nat.le_refl _) (HCSH.out kd (List.mem_of_getElem? HKD.out)) w9 _ Bk HOKK.out (by have := HLZ.out.2 kd (List.mem_of_getElem? HKD.out); omega)).mono ?_
         rintro e w10 ⟨⟨A4, m4, c4, rfl, hs4⟩, hb10⟩
         obtain ⟨A5, c5, w11, hrun, hgl5, hgr, _⟩ := (HGL.out.below hb10).push tTreesC rfl (x := kd) (ys := [.int .i64 kd.rule, .int .i64 kd.term, .slice A4 m4 c4]) (G := fun b => w9.heap.size ≤ b) (RTree.cells.2 ⟨A4, m4, c4, rfl, hs4⟩) (fun b hb e => by have := (HGL.out.lt e); omega) (by rw [List.length_take]; have := HLZ.out.1; have := HLL.out; omega) (by omega) 42
         have hlk : (lt.take k).length = k := by rw [List.length_take]; have := HLL.out; omega
         obtain ⟨Av, cv, hve, _⟩ := HGL.out.form
         rw [hlk] at hve hrun hgl5
         subst hve
         have hal : Below w10.heap.size w10 (w10.alloc (.cells #[.int .i64 kd.rule, .int .i64 kd.term, .slice A4 m4 c4] 44)) := (Below.refl _ _).alloc (Nat.le_refl _) _
         have HB11 := zh (show Below w8.heap.size w8 w11 from ((HB9.out.trans (hb10.mono HB9.out.size)).trans (hal.mono (Nat.le_trans HB9.out.size hb10.size))).grown hgr (Nat.le_trans HB9.out.size (Nat.le_trans hb10.size hal.size)) fun g e => HF.out g (HGL.out.row g e))
         have HGL5 := zh (hgl5.more (G := fun b => w8.heap.size ≤ b) fun b hb => by
          rcases hb with h | h | h
          · exact HF.out b h
          · exact Nat.le_trans HB9.out.size h
          have := HB9.out.size; have := hb10.size; omega)
         have HRUN := zh hrun
         clear hrun hgl5 hgr hal hlk hs4 hb10
         go_wp2_with (at_builtin; refine Lib.wpList_append_run (o := ⟨some 158, _, _, _, _, _⟩) _ rfl _ _ _ _ rfl _ _ rfl rfl _ _ HRUN.out ?_)
         go_roundg (ll - (k + 1))
         case measure => rw [HG.out]; omega
         case rel => exact ⟨k + 1, _, by omega, rfl, by go_num, by rw [List.take_add_one, HKD.out]; exact HGL5.out, fun b hb => hb, HB11.out⟩
        obtain rfl : k = ll := by omega
        obtain ⟨AK, cK, hv, _⟩ := HGL.out.form
        have hlk : (lt.take k).length = k := by rw [List.length_take]; have := HLL.out; omega
        rw [hlk] at hv
        subst hv
        go_wp2_with fail
        go_ret2
        refine ⟨HBW8.out.trans (HB9.out.mono HBW8.out.size), .inr ⟨AK, k, cK, lt, hist, D, rfl, ?_, HRES.out.1, HRES.out.2, fun h => by rw [← HLL.out] at h ⊢; exact HBAD.out h⟩⟩
        have hs := HGL.out.sl
        rw [List.take_of_length_le (by rw [← HLL.out]; exact Nat.le_refl _)] at hs
        exact hs.more fun b hb => by have := HF.out b hb; have := HBW8.out.size; omega
end Go.Proofs.YtjnbjdbndbbanaaGreatDoor
