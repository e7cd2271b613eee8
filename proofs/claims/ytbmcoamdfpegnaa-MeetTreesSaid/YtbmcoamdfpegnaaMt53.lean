/- TreeCmp SlEqInt -/
import Derived.BigQuiet
import Derived.Deep.QuietTactic
import Derived.Test.YtbmcoamdfpegnaaMt05
import Derived.Test.YtbmcoamdfpegnaaMt20
import Derived.Test.YtbmcoamdfpegnaaMt44
import Derived.Test.YtbmcoamdfpegnaaMt52
namespace Go.Proofs.Ytbmcoamdfpegnaa
open Go.RowKit
theorem cmpI_refl (x : Int) : cmpI x x = 0 := by unfold cmpI; rw [if_neg (by omega), if_neg (by omega)]
theorem cmpL_refl : ∀ l : List Int, cmpL l l = 0
 | [] => rfl
 | x :: l => by rw [cmpL, if_pos (cmpI_refl x), cmpL_refl l]
def cmpTree (a b : TreeD) : Int := firstNZ [cmpInt (rulesT a).length (rulesT b).length, cmpL (rulesT a) (rulesT b), cmpL (wordT a) (wordT b)]
theorem cmpTree_refl (a : TreeD) : cmpTree a a = 0 := by
 unfold cmpTree
 rw [cmpL_refl, cmpL_refl, show cmpInt ((rulesT a).length : Int) ((rulesT a).length : Int) = 0 by unfold cmpInt; rw [if_neg (by omega), if_neg (by omega)]]
 rfl
set_option linter.unusedSimpArgs false in
set_option maxRecDepth 100000 in
set_option maxHeartbeats 4000000 in
theorem treeCompare (w : World) (S S' : Nat → Prop) (t : TreeD) (A : Option Addr) (m c : Nat) (hs : Sl RTree w S A m c t.kids) (hl : ∀ x ∈ nodesT t, Leafy x) (hsz : sizeT t ≤ 1000000) (t' : TreeD) (A' : Option Addr) (m' c' : Nat) (hs' : Sl RTree w S' A' m' c' t'.kids) (hl' : ∀ x ∈ nodesT t', Leafy x) (hsz' : sizeT t' ≤ 1000000) :
    Calls Try.prog 19 #[.agg #[.int .i64 t.rule, .int .i64 t.term, .slice A m c], .agg #[.int .i64 t'.rule, .int .i64 t'.term, .slice A' m' c']] w fun e w' => e = .returned (.int .i64 (cmpTree t t')) ∧ Below w.heap.size w w' := by
 obtain ⟨w1, hw1⟩ : ∃ w1 : World, w1 = (w.alloc (.cells #[.int .i64 t.rule, .int .i64 t.term, .slice A m c] 55)).alloc (.cells #[.int .i64 t'.rule, .int .i64 t'.term, .slice A' m' c'] 55) := ⟨_, rfl⟩
 have hz1 : w1.heap.size = w.heap.size + 2 := by rw [hw1]; simp
 have hb1 : Below w.heap.size w w1 := by rw [hw1]; exact ((Below.refl _ _).alloc (Nat.le_refl _) _).alloc (by simp) _
 have HB1 := Lib.hid hb1
 have b1 : w1.heap[w.heap.size]? = some (.cells #[.int .i64 t.rule, .int .i64 t.term, .slice A m c] 55 (0, 0)) := by rw [hw1]; exact (Below.heap_alloc _ _ _ (by simp)).trans (heap_alloc_new w _)
 have b2 : w1.heap[w.heap.size + 1]? = some (.cells #[.int .i64 t'.rule, .int .i64 t'.term, .slice A' m' c'] 55 (0, 0)) := by rw [hw1]; exact heap_new _ _ _ (by simp)
 have hall : ∀ u : World, Below w1.heap.size w1 u → (u.cell? ⟨w.heap.size, 0, none⟩ = some (.int .i64 t.rule) ∧ u.cell? ⟨w.heap.size, 1, none⟩ = some (.int .i64 t.term) ∧ u.cell? ⟨w.heap.size, 2, none⟩ = some (.slice A m c)) ∧
     (u.cell? ⟨w.heap.size + 1, 0, none⟩ = some (.int .i64 t'.rule) ∧ u.cell? ⟨w.heap.size + 1, 1, none⟩ = some (.int .i64 t'.term) ∧ u.cell? ⟨w.heap.size + 1, 2, none⟩ = some (.slice A' m' c')) := by
  intro u hu
  have e1 := (hu.block _ (by omega)).trans b1
  have e2 := (hu.block _ (by omega)).trans b2
  simp [World.cell?, e1, e2]
 have HALL := Lib.hid hall
 have HS := Lib.hid (hs.below hb1)
 have HS' := Lib.hid (hs'.below hb1)
 have HL := Lib.hid hl
 have HL' := Lib.hid hl'
 have HK0 := Lib.hid (hall w1.drew (Below.refl _ _).drew)
 have HR := Lib.hid (show (rulesT t).length ≤ 1000000 ∧ (rulesT t').length ≤ 1000000 from ⟨by unfold rulesT; rw [List.length_map]; exact hsz, by unfold rulesT; rw [List.length_map]; exact hsz'⟩)
 have HW := Lib.hid (show (wordT t).length ≤ 1000000 from Nat.le_trans (wordOf_len _) hsz)
 clear hs hs' hl hl' hb1 b1 b2 hall
 go_enter Try.func19, Try.ntmps19
 go_wp2_with fail
 rw [← hw1]
 clear hw1
 refine wp_region_late (late := []) (S1 := fun u => (u.cell? ⟨w.heap.size, 0, none⟩ = some (.int .i64 t.rule) ∧ u.cell? ⟨w.heap.size, 1, none⟩ = some (.int .i64 t.term) ∧ u.cell? ⟨w.heap.size, 2, none⟩ = some (.slice A m c)) ∧ (u.cell? ⟨w.heap.size + 1, 0, none⟩ = some (.int .i64 t'.rule) ∧ u.cell? ⟨w.heap.size + 1, 1, none⟩ = some (.int .i64 t'.term) ∧ u.cell? ⟨w.heap.size + 1, 2, none⟩ = some (.slice A' m' c'))) (S := fun _ => True) (by kernel_rfl) ?_
 refine wpAnyL_pure (i := 0) rfl (by kernel_rfl) (fun _ _ _ h => h) (Or.inl ⟨by rfl, (fun u hu => by obtain ⟨⟨k0, k1, k2⟩, k3, k4, k5⟩ := hu; go_simp; try rfl)⟩) HK0.out (fun _ => trivial) ?_
 simp only [Act.put, List.setIfInBounds_toArray, List.set_cons_zero, List.set_cons_succ, List.getElem_toArray, List.getElem_cons_zero, List.getElem_cons_succ]
 refine wpAnyL_pure (i := 2) rfl (by kernel_rfl) (fun _ _ _ h => h) (Or.inl ⟨by rfl, (fun u hu => by obtain ⟨⟨k0, k1, k2⟩, k3, k4, k5⟩ := hu; go_simp; try rfl)⟩) HK0.out (fun _ => trivial) ?_
 simp only [Act.put, List.setIfInBounds_toArray, List.set_cons_zero, List.set_cons_succ, List.getElem_toArray, List.getElem_cons_zero, List.getElem_cons_succ]
 refine wpAnyL_ready (rs := [1]) (by kernel_rfl) (by simp) ?_
 refine AllL.cons rfl (fun K hK => ?_) ?_
 ·
  go_simp
  refine (treeRules _ _ t _ _ _ (HS.out.below (Below.refl w1.heap.size w1).drew) HL.out (by omega)).mono ?_
  rintro e w2 ⟨A2, c2, rfl, hr2, hc2, hb2⟩
  have HB2 := Lib.hid (((Below.refl w1.heap.size w1).drew).trans (hb2.mono ((Below.refl w1.heap.size w1).drew).size))
  have HR2 := Lib.hid hr2
  clear hr2 hb2
  refine hK.out _ _ (HALL.out _ HB2.out) (fun _ => trivial) ?_
  clear hK K
  refine wpAnyL_ready (rs := [3]) (by kernel_rfl) (by simp) ?_
  refine AllL.cons rfl (fun K hK => ?_) ?_
  ·
   go_simp
   refine (treeRules _ _ t' _ _ _ (HS'.out.below HB2.out) HL'.out (by omega)).mono ?_
   rintro e w3 ⟨A3, c3, rfl, hr3, hc3, hb3⟩
   have HB3 := Lib.hid ((HB2.out).trans (hb3.mono (HB2.out).size))
   have HR3 := Lib.hid hr3
   have HR2' := Lib.hid (HR2.out.keep (.below hb3))
   clear hr3 hb3
   refine hK.out _ _ (HALL.out _ HB3.out) (fun _ => trivial) ?_
   clear hK K
   refine wpAnyL_pure (i := 4) rfl (by kernel_rfl) (fun _ _ _ h => h) (Or.inl ⟨by rfl, (fun u hu => by obtain ⟨⟨k0, k1, k2⟩, k3, k4, k5⟩ := hu; go_simp; try rfl)⟩) (HALL.out _ HB3.out) (fun _ => trivial) ?_
   simp only [Act.put, List.setIfInBounds_toArray, List.set_cons_zero, List.set_cons_succ, List.getElem_toArray, List.getElem_cons_zero, List.getElem_cons_succ]
   refine wpAnyL_pure (i := 5) rfl (by kernel_rfl) (fun _ _ _ h => h) (Or.inl ⟨by rfl, (fun u hu => by obtain ⟨⟨k0, k1, k2⟩, k3, k4, k5⟩ := hu; go_simp; try rfl)⟩) (HALL.out _ HB3.out) (fun _ => trivial) ?_
   simp only [Act.put, List.setIfInBounds_toArray, List.set_cons_zero, List.set_cons_succ, List.getElem_toArray, List.getElem_cons_zero, List.getElem_cons_succ]
   refine wpAnyL_done (by kernel_rfl) ?_ _
   obtain ⟨n2, hn2⟩ : ∃ n2, n2 = (rulesT t).length := ⟨_, rfl⟩
   obtain ⟨n3, hn3⟩ : ∃ n3, n3 = (rulesT t').length := ⟨_, rfl⟩
   have HT := Lib.hid (show cmpTree t t' = firstNZ [cmpInt n2 n3, cmpL (rulesT t) (rulesT t'), cmpL (wordT t) (wordT t')] by rw [hn2, hn3]; rfl)
   rw [← hn2] at HR2' HR ⊢
   rw [← hn3] at HR3 HR ⊢
   clear hn2 hn3 hc2 hc3 HR2
   have HK3 := Lib.hid (HALL.out w3.drew HB3.out.drew)
   go_wp2_with fail
   refine wp_region_late (late := []) (S1 := fun u => (u.cell? ⟨w.heap.size, 0, none⟩ = some (.int .i64 t.rule) ∧ u.cell? ⟨w.heap.size, 1, none⟩ = some (.int .i64 t.term) ∧ u.cell? ⟨w.heap.size, 2, none⟩ = some (.slice A m c)) ∧ (u.cell? ⟨w.heap.size + 1, 0, none⟩ = some (.int .i64 t'.rule) ∧ u.cell? ⟨w.heap.size + 1, 1, none⟩ = some (.int .i64 t'.term) ∧ u.cell? ⟨w.heap.size + 1, 2, none⟩ = some (.slice A' m' c'))) (S := fun _ => True) (by kernel_rfl) ?_
   refine wpAnyL_pure (i := 0) rfl (by kernel_rfl) (fun _ _ _ h => h) (Or.inl ⟨by rfl, (fun u hu => by obtain ⟨⟨k0, k1, k2⟩, k3, k4, k5⟩ := hu; go_simp; try rfl)⟩) HK3.out (fun _ => trivial) ?_
   simp only [Act.put, List.setIfInBounds_toArray, List.set_cons_zero, List.set_cons_succ, List.getElem_toArray, List.getElem_cons_zero, List.getElem_cons_succ]
   refine wpAnyL_pure (i := 1) rfl (by kernel_rfl) (fun _ _ _ h => h) (Or.inl ⟨by rfl, (fun u hu => by obtain ⟨⟨k0, k1, k2⟩, k3, k4, k5⟩ := hu; go_simp; try rfl)⟩) HK3.out (fun _ => trivial) ?_
   simp only [Act.put, List.setIfInBounds_toArray, List.set_cons_zero, List.set_cons_succ, List.getElem_toArray, List.getElem_cons_zero, List.getElem_cons_succ]
   refine wpAnyL_pure (i := 2) rfl (by kernel_rfl) (fun _ _ _ h => h) (Or.inl ⟨by rfl, (fun u hu => by obtain ⟨⟨k0, k1, k2⟩, k3, k4, k5⟩ := hu; go_simp; try rfl)⟩) HK3.out (fun _ => trivial) ?_
   simp only [Act.put, List.setIfInBounds_toArray, List.set_cons_zero, List.set_cons_succ, List.getElem_toArray, List.getElem_cons_zero, List.getElem_cons_succ]
   refine wpAnyL_pure (i := 3) rfl (by kernel_rfl) (fun _ _ _ h => h) (Or.inl ⟨by rfl, (fun u hu => by obtain ⟨⟨k0, k1, k2⟩, k3, k4, k5⟩ := hu; go_simp; try rfl)⟩) HK3.out (fun _ => trivial) ?_
   simp only [Act.put, List.setIfInBounds_toArray, List.set_cons_zero, List.set_cons_succ, List.getElem_toArray, List.getElem_cons_zero, List.getElem_cons_succ]
   refine wpAnyL_pure (i := 5) rfl (by kernel_rfl) (fun _ _ _ h => h) (Or.inl ⟨by rfl, (fun u hu => by obtain ⟨⟨k0, k1, k2⟩, k3, k4, k5⟩ := hu; go_simp; try rfl)⟩) HK3.out (fun _ => trivial) ?_
   simp only [Act.put, List.setIfInBounds_toArray, List.set_cons_zero, List.set_cons_succ, List.getElem_toArray, List.getElem_cons_zero, List.getElem_cons_succ]
   refine wpAnyL_pure (i := 6) rfl (by kernel_rfl) (fun _ _ _ h => h) (Or.inl ⟨by rfl, (fun u hu => by obtain ⟨⟨k0, k1, k2⟩, k3, k4, k5⟩ := hu; go_simp; try rfl)⟩) HK3.out (fun _ => trivial) ?_
   simp only [Act.put, List.setIfInBounds_toArray, List.set_cons_zero, List.set_cons_succ, List.getElem_toArray, List.getElem_cons_zero, List.getElem_cons_succ]
   refine wpAnyL_pure (i := 8) rfl (by kernel_rfl) (fun _ _ _ h => h) (Or.inl ⟨by rfl, (fun u hu => by obtain ⟨⟨k0, k1, k2⟩, k3, k4, k5⟩ := hu; go_simp; try rfl)⟩) HK3.out (fun _ => trivial) ?_
   simp only [Act.put, List.setIfInBounds_toArray, List.set_cons_zero, List.set_cons_succ, List.getElem_toArray, List.getElem_cons_zero, List.getElem_cons_succ]
   refine wpAnyL_pure (i := 10) rfl (by kernel_rfl) (fun _ _ _ h => h) (Or.inl ⟨by rfl, (fun u hu => by obtain ⟨⟨k0, k1, k2⟩, k3, k4, k5⟩ := hu; go_simp; try rfl)⟩) HK3.out (fun _ => trivial) ?_
   simp only [Act.put, List.setIfInBounds_toArray, List.set_cons_zero, List.set_cons_succ, List.getElem_toArray, List.getElem_cons_zero, List.getElem_cons_succ]
   refine wpAnyL_ready (rs := [4]) (by kernel_rfl) (by simp) ?_
   refine AllL.cons rfl (fun K hK => ?_) ?_
   ·
    go_simp
    refine (cmpCompare _ _ _).mono ?_
    rintro e _ ⟨rfl, rfl⟩
    refine hK.out _ _ HK3.out (fun _ => trivial) ?_
    clear hK K
    refine wpAnyL_ready (rs := [7]) (by kernel_rfl) (by simp) ?_
    refine AllL.cons rfl (fun K hK => ?_) ?_
    ·
     go_simp
     refine (compareInt _ _ _ _ _ _ _ _ (rulesT t) (rulesT t') _ HR2'.out.drew HR3.out.drew (by have := HR.out.1; omega)).mono ?_
     rintro e _ ⟨rfl, rfl⟩
     refine hK.out _ _ HK3.out (fun _ => trivial) ?_
     clear hK K
     refine wpAnyL_ready (rs := [9]) (by kernel_rfl) (by simp) ?_
     refine AllL.cons rfl (fun K hK => ?_) ?_
     ·
      go_simp
      refine (treeWord _ _ t _ _ _ (HS.out.below HB3.out.drew) HL.out (by omega)).mono ?_
      rintro e w4 ⟨A4, c4, rfl, hr4, hc4, hb4⟩
      have HB4 := Lib.hid ((HB3.out.drew).trans (hb4.mono (HB3.out.drew).size))
      have HR4 := Lib.hid hr4
      clear hr4 hb4
      refine hK.out _ _ (HALL.out _ HB4.out) (fun _ => trivial) ?_
      clear hK K
      refine wpAnyL_ready (rs := [11]) (by kernel_rfl) (by simp) ?_
      refine AllL.cons rfl (fun K hK => ?_) ?_
      ·
       go_simp
       refine (treeWord _ _ t' _ _ _ (HS'.out.below HB4.out) HL'.out (by omega)).mono ?_
       rintro e w5 ⟨A5, c5, rfl, hr5, hc5, hb5⟩
       have HB5 := Lib.hid ((HB4.out).trans (hb5.mono (HB4.out).size))
       have HR5 := Lib.hid hr5
       have HR4' := Lib.hid (HR4.out.keep (.below hb5))
       clear hr5 hb5
       refine hK.out _ _ (HALL.out _ HB5.out) (fun _ => trivial) ?_
       clear hK K
       refine wpAnyL_ready (rs := [12]) (by kernel_rfl) (by simp) ?_
       refine AllL.cons rfl (fun K hK => ?_) ?_
       ·
        go_simp
        refine (compareInt _ _ _ _ _ _ _ _ (wordT t) (wordT t') _ HR4'.out HR5.out (by have := HW.out; omega)).mono ?_
        rintro e _ ⟨rfl, rfl⟩
        refine hK.out _ _ (HALL.out _ HB5.out) (fun _ => trivial) ?_
        clear hK K
        refine wpAnyL_ready (rs := [13]) (by kernel_rfl) (by simp) ?_
        refine AllL.cons rfl (fun K hK => ?_) ?_
        ·
         go_simp
         refine hK.out _ _ (HALL.out _ (HB5.out.alloc HB5.out.size _)) (fun _ => trivial) ?_
         clear hK K
         refine wpAnyL_ready (rs := [14]) (by kernel_rfl) (by simp) ?_
         refine AllL.cons rfl (fun K hK => ?_) ?_
         ·
          go_simp
          refine (cmpOr _ (fun _ => True) _ _ _ [cmpInt n2 n3, cmpL (rulesT t) (rulesT t'), cmpL (wordT t) (wordT t')] (Rd.new w5 _ _ [_, _, _] _ rfl trivial) (by simp)).mono ?_
          rintro e _ ⟨rfl, rfl⟩
          refine hK.out _ _ (HALL.out _ (HB5.out.alloc HB5.out.size _)) (fun _ => trivial) ?_
          clear hK K
          refine wpAnyL_pure (i := 15) rfl (by kernel_rfl) (fun _ _ _ h => h) (Or.inl ⟨by rfl, (fun u hu => by obtain ⟨⟨k0, k1, k2⟩, k3, k4, k5⟩ := hu; go_simp; try rfl)⟩) (HALL.out _ (HB5.out.alloc HB5.out.size _)) (fun _ => trivial) ?_
          simp only [Act.put, List.setIfInBounds_toArray, List.set_cons_zero, List.set_cons_succ, List.getElem_toArray, List.getElem_cons_zero, List.getElem_cons_succ]
          refine wpAnyL_done (by kernel_rfl) ?_ _
          go_wp2_with fail
          go_ret
          exact ⟨ret_int HT.out.symm, HB1.out.trans ((HB5.out.alloc HB5.out.size _).mono (by omega))⟩
         exact AllL.nil
        exact AllL.nil
       exact AllL.nil
      exact AllL.nil
     exact AllL.nil
    exact AllL.nil
   exact AllL.nil
  exact AllL.nil
 exact AllL.nil
end Go.Proofs.Ytbmcoamdfpegnaa
namespace Go.Proofs.Ytbmcoamdfpegnaa
open Go.RowKit
set_option maxHeartbeats 1000000 in
theorem equalInt (A1 A2 : Option Addr) (n1 c1 n2 c2 : Nat) (S1 S2 : Nat → Prop) (l1 l2 : List Int) (w : World) (hr1 : Rd w S1 1 A1 n1 (l1.map (Value.int .i64))) (hr2 : Rd w S2 1 A2 n2 (l2.map (Value.int .i64))) (hn : n1 ≤ 1000000000000) (hn2 : n2 ≤ 1000000000000) :
    Calls Try.prog 20 #[.slice A1 n1 c1, .slice A2 n2 c2] w fun e w' => e = .returned (.bool (l1 == l2)) ∧ ∃ d, w' = w.drewN d := by
 have hl1 : l1.length = n1 := by simpa using hr1.1
 have hl2 : l2.length = n2 := by simpa using hr2.1
 have HL1 := Lib.hid hl1
 have HL2 := Lib.hid hl2
 have HR1 := Lib.hid hr1
 have HR2 := Lib.hid hr2
 clear hl1 hl2 hr1 hr2
 by_cases hne : n1 = n2
 ·
  subst hne
  go_enter Try.func20, Try.ntmps20
  go_wp2_with fail
  go_loopw [13] (fun i wr => ∃ k d : Nat, k ≤ n1 ∧ i = .int .i64 k ∧ wr = w.drewN d ∧ l1.take k = l2.take k) (fun i _ => n1 - (intOf i).toNat)
  case atStart => exact ⟨0, 0, Nat.zero_le _, rfl, rfl, rfl⟩
  case round =>
   obtain ⟨k, d, hk, rfl, rfl, heq⟩ := hrel
   have HE := Lib.hid heq
   clear heq
   by_cases hlt : k < n1
   ·
    obtain ⟨b1, off1, x1, rfl, _, hx1, hcell1⟩ := HR1.out.int_at hlt
    obtain ⟨b2, off2, x2, rfl, _, hx2, hcell2⟩ := HR2.out.int_at hlt
    have HX1 := Lib.hid hx1
    have HX2 := Lib.hid hx2
    have hb1 : (k : Int) < (n1 : Int) := by omega
    clear hx1 hx2
    by_cases hxe : x1 = x2
    ·
     subst hxe
     go_wp2_with fail
     go_quiet (fail)
     go_wp2_with fail
     go_roundw
     case rel => exact ⟨k + 1, _, by omega, by go_num, rfl, by rw [int_step HX1.out, int_step HX2.out, HE.out]⟩
     case measure => simp [intOf]; omega
    ·
     have hxb : (x1 != x2) = true := by simpa using hxe
     go_wp2_with fail
     go_quiet (fail)
     go_wp2_with fail
     go_ret
     have he : (l1 == l2) = false := by
      simp only [beq_eq_false_iff_ne]
      rintro rfl
      have h := HX1.out.symm.trans HX2.out
      injection h with h
      exact hxe h
     exact ⟨ret_bool he.symm, _, World.drewN_drewN _ _ _⟩
   ·
    obtain rfl : k = n1 := by omega
    go_wp2_with fail
    go_ret
    have he := HE.out
    rw [List.take_of_length_le (by rw [HL1.out]; omega), List.take_of_length_le (by rw [HL2.out]; omega)] at he
    subst he
    exact ⟨ret_bool (by simp), d, rfl⟩
 ·
  have hnb : ((n1 : Int) != (n2 : Int)) = true := by simp; omega
  go_enter Try.func20, Try.ntmps20
  go_wp2_with fail
  go_ret
  have he : (l1 == l2) = false := by
   simp only [beq_eq_false_iff_ne]
   rintro rfl
   exact hne (HL1.out.symm.trans HL2.out)
  exact ⟨ret_bool he.symm, 0, rfl⟩
end Go.Proofs.Ytbmcoamdfpegnaa
