/- TreeR TreeCmp SlIdxTr SlCtTr TopClo SizePlain -/
import Derived.Test.YtjnbjdbndbbanaaGreatDoorTc19
import Derived.Test.YtjnbjdbndbbanaaGreatDoorTc50
namespace Go.Proofs.YtjnbjdbndbbanaaGreatDoor
open Go.RowKit
def rulesOf (l : List TreeD) : List Int := l.map TreeD.rule
set_option maxRecDepth 100000 in
set_option maxHeartbeats 1000000 in
theorem rulesFn (w : World) (Bo : Nat) (pre : List TreeD) (hI : WordI Bo rulesOf w pre) (hp : pre.length < 1000000) (x : TreeD) (A : Option Addr) (m c : Nat) :
    Calls Tryz.prog 59 #[.agg #[.int .i64 x.rule, .int .i64 x.term, .slice A m c], .pointer (some ⟨Bo, 0, none⟩)] w fun e w' => e = .returned (.bool true) ∧ WordI Bo rulesOf w' (pre ++ [x]) ∧ Fr (WordD Bo) w w' := by
 have HI := zh hI
 obtain ⟨v0, hb0, _⟩ := hI
 have hl0 := lt_of_block hb0
 obtain ⟨v, A2, n2, c2, w2, h1, h2, h3, h4, h5, h6⟩ := HI.out.push (by unfold rulesOf; rw [List.length_map]; omega) x.rule 44 (.int .i64 x.rule) (.int .i64 x.term) (.slice A m c)
 have HRUN := zh h2
 have H5 := zh h5
 have H6 := zh h6
 have hc := (World.cell?_alloc_lt w (.cells #[.int .i64 x.rule, .int .i64 x.term, .slice A m c] 44) ⟨Bo, 0, none⟩ hl0).trans h1
 have hl2 := cell_lt h3
 clear h2 h5 h6 hb0 h1
 go_enter Tryz.func59, Tryz.ntmps59
 go_wp2_with (at_builtin; refine Lib.wpList_append_run _ rfl _ _ _ _ rfl _ _ rfl rfl _ _ HRUN.out ?_)
 go_ret
 exact ⟨rfl, H5.out _ (by unfold rulesOf; rw [List.map_append]; rfl), H6.out⟩
theorem entersRules : ∀ (args : Array Value) (u : World), (callFunc 59 args).run Tryz.prog u = .ok (.enter 59 args) u := enters_of Tryz.func59 (by kernel_rfl) rfl
theorem visitsRules (B Bo : Nat) (hB : B ≤ Bo) : Visits Tryz.prog B (WordD Bo) (WordI Bo rulesOf) Leafy 59 #[.pointer (some ⟨Bo, 0, none⟩)] where
 keepI := fun h hb => h.below hb
 keepD := fun h hb b hd => h.keepD hb b hd
 own := fun h hd => h.own hB hd
 leaf := fun _ h => h
 call := fun w pre x A m c hlt _ hi _ _ => rulesFn w Bo pre hi hlt x A m c
set_option maxHeartbeats 1000000 in
theorem treeRules (w : World) (S : Nat → Prop) (t : TreeD) (A : Option Addr) (m c : Nat) (hs : Sl RTree w S A m c t.kids) (hl : ∀ x ∈ nodesT t, Leafy x) (hsz : sizeT t ≤ 1000000) :
    Calls Tryz.prog 35 #[.agg #[.int .i64 t.rule, .int .i64 t.term, .slice A m c]] w fun e w' => ∃ A' c', e = .returned (.slice A' (rulesT t).length c') ∧ Rd w' (fun b => w.heap.size ≤ b) 1 A' (rulesT t).length ((rulesT t).map (Value.int .i64)) ∧ (rulesT t).length ≤ c' ∧ Below w.heap.size w w' := by
 have HS := zh (hs.fit.more (S' := fun b => b < w.heap.size) (fun b hb => hb.2))
 have HL := zh hl
 have HSZ := zh hsz
 have HV := zh (visitsRules w.heap.size (w.heap.size + 1) (by omega))
 have HE := zh entersRules
 clear hs hl hsz
 go_enter Tryz.func35, Tryz.ntmps35
 go_wp2_with fail
 have hst : WordI (w.heap.size + 1) rulesOf ((w.alloc (.cells #[.int .i64 t.rule, .int .i64 t.term, .slice A m c] 44)).alloc (.cells #[.slice none 0 0] 22)) [] := WordI.start _ _ rfl _ (heap_new _ _ _ (by simp))
 refine (treeWalk HE.out HV.out (sizeT t) t _ [] A m c (Nat.le_refl _) (by have := HSZ.out; simpa using this) (by simp; omega) hst ((HS.out.alloc _).alloc _) HL.out).mono ?_
 rintro e w1 ⟨rfl, hi, hf⟩
 have hb : Below w.heap.size w w1 := (((Below.refl _ _).alloc (Nat.le_refl _) _).alloc (by simp) _).trans (hf.below (by simp; omega) (fun b h => (hst.own (B := w.heap.size) (by omega) h).1))
 have HB := zh hb
 obtain ⟨v, h1, h2⟩ := hi
 rw [List.nil_append] at h2
 have h0 := cell_of_one h1
 have hl := lt_of_block h1
 obtain ⟨A', c', rfl, hc, _⟩ := h2.form
 have HO := zh h2
 clear hf hb h1 h2 hst
 go_wp2_with fail
 go_ret
 exact ⟨A', c', rfl, HO.out.sl.ints.more (fun b hb => by rcases hb with h | h; exact h.elim; omega), hc, HB.out⟩
theorem cmpI_refl (x : Int) : cmpI x x = 0 := by unfold cmpI; rw [if_neg (by omega), if_neg (by omega)]
theorem cmpL_refl : ∀ l : List Int, cmpL l l = 0
 | [] => rfl
 | x :: l => by rw [cmpL, if_pos (cmpI_refl x), cmpL_refl l]
def cmpTree (a b : TreeD) : Int := firstNZ [cmpInt (rulesT a).length (rulesT b).length, cmpL (rulesT a) (rulesT b), cmpL (wordT a) (wordT b)]
theorem cmpTree_refl (a : TreeD) : cmpTree a a = 0 := by
 unfold cmpTree
 rw [cmpL_refl, cmpL_refl, show cmpInt ((rulesT a).length : Int) ((rulesT a).length : Int) = 0 by unfold cmpInt; rw [if_neg (by omega), if_neg (by omega)]]
 rfl
set_option linter.unusedSimpArgs false in
set_option maxRecDepth 100000 in
set_option maxHeartbeats 4000000 in
theorem treeCompare (w : World) (S S' : Nat → Prop) (t : TreeD) (A : Option Addr) (m c : Nat) (hs : Sl RTree w S A m c t.kids) (hl : ∀ x ∈ nodesT t, Leafy x) (hsz : sizeT t ≤ 1000000) (t' : TreeD) (A' : Option Addr) (m' c' : Nat) (hs' : Sl RTree w S' A' m' c' t'.kids) (hl' : ∀ x ∈ nodesT t', Leafy x) (hsz' : sizeT t' ≤ 1000000) :
    Calls Tryz.prog 17 #[.agg #[.int .i64 t.rule, .int .i64 t.term, .slice A m c], .agg #[.int .i64 t'.rule, .int .i64 t'.term, .slice A' m' c']] w fun e w' => e = .returned (.int .i64 (cmpTree t t')) ∧ Below w.heap.size w w' := by
 obtain ⟨w1, hw1⟩ : ∃ w1 : World, w1 = (w.alloc (.cells #[.int .i64 t.rule, .int .i64 t.term, .slice A m c] 44)).alloc (.cells #[.int .i64 t'.rule, .int .i64 t'.term, .slice A' m' c'] 44) := ⟨_, rfl⟩
 have hz1 : w1.heap.size = w.heap.size + 2 := by rw [hw1]; simp
 have hb1 : Below w.heap.size w w1 := by rw [hw1]; exact ((Below.refl _ _).alloc (Nat.le_refl _) _).alloc (by simp) _
 have HB1 := zh hb1
 have b1 : w1.heap[w.heap.size]? = some (.cells #[.int .i64 t.rule, .int .i64 t.term, .slice A m c] 44 (0, 0)) := by rw [hw1]; exact (Below.heap_alloc _ _ _ (by simp)).trans (heap_alloc_new w _)
 have b2 : w1.heap[w.heap.size + 1]? = some (.cells #[.int .i64 t'.rule, .int .i64 t'.term, .slice A' m' c'] 44 (0, 0)) := by rw [hw1]; exact heap_new _ _ _ (by simp)
 have hall : ∀ u : World, Below w1.heap.size w1 u → (u.cell? ⟨w.heap.size, 0, none⟩ = some (.int .i64 t.rule) ∧ u.cell? ⟨w.heap.size, 1, none⟩ = some (.int .i64 t.term) ∧ u.cell? ⟨w.heap.size, 2, none⟩ = some (.slice A m c)) ∧
     (u.cell? ⟨w.heap.size + 1, 0, none⟩ = some (.int .i64 t'.rule) ∧ u.cell? ⟨w.heap.size + 1, 1, none⟩ = some (.int .i64 t'.term) ∧ u.cell? ⟨w.heap.size + 1, 2, none⟩ = some (.slice A' m' c')) := by
  intro u hu
  have e1 := (hu.block _ (by omega)).trans b1
  have e2 := (hu.block _ (by omega)).trans b2
  simp [World.cell?, e1, e2]
 have HALL := zh hall
 have HS := zh (hs.below hb1)
 have HS' := zh (hs'.below hb1)
 have HL := zh hl
 have HL' := zh hl'
 have HK0 := zh (hall w1.drew (Below.refl _ _).drew)
 have HR := zh (show (rulesT t).length ≤ 1000000 ∧ (rulesT t').length ≤ 1000000 from ⟨by unfold rulesT; rw [List.length_map]; exact hsz, by unfold rulesT; rw [List.length_map]; exact hsz'⟩)
 have HW := zh (show (wordT t).length ≤ 1000000 from Nat.le_trans (wordOf_len _) hsz)
 clear hs hs' hl hl' hb1 b1 b2 hall
 go_enter Tryz.func17, Tryz.ntmps17
 go_wp2_with fail
 rw [← hw1]
 clear hw1
 refine wp_region_late (late := []) (S1 := fun u => (u.cell? ⟨w.heap.size, 0, none⟩ = some (.int .i64 t.rule) ∧ u.cell? ⟨w.heap.size, 1, none⟩ = some (.int .i64 t.term) ∧ u.cell? ⟨w.heap.size, 2, none⟩ = some (.slice A m c)) ∧ (u.cell? ⟨w.heap.size + 1, 0, none⟩ = some (.int .i64 t'.rule) ∧ u.cell? ⟨w.heap.size + 1, 1, none⟩ = some (.int .i64 t'.term) ∧ u.cell? ⟨w.heap.size + 1, 2, none⟩ = some (.slice A' m' c'))) (S := fun _ => True) (by kernel_rfl) ?_
 refine zP (i := 0) rfl (fun u hu => by obtain ⟨⟨k0, k1, k2⟩, k3, k4, k5⟩ := hu; go_simp; try rfl) HK0.out zt ?_
 simp only [Act.put, zA, zB, zC, zD, zF, zG]
 refine zP (i := 2) rfl (fun u hu => by obtain ⟨⟨k0, k1, k2⟩, k3, k4, k5⟩ := hu; go_simp; try rfl) HK0.out zt ?_
 simp only [Act.put, zA, zB, zC, zD, zF, zG]
 refine zR 1 rfl (fun K hK => ?_)
 go_simp
 refine (treeRules _ _ t _ _ _ (HS.out.below (Below.refl w1.heap.size w1).drew) HL.out (by omega)).mono ?_
 rintro e w2 ⟨A2, c2, rfl, hr2, hc2, hb2⟩
 have HB2 := zh (((Below.refl w1.heap.size w1).drew).trans (hb2.mono ((Below.refl w1.heap.size w1).drew).size))
 have HR2 := zh hr2
 clear hr2 hb2
 refine hK.out _ _ (HALL.out _ HB2.out) zt ?_
 clear hK K
 refine zR 3 rfl (fun K hK => ?_)
 go_simp
 refine (treeRules _ _ t' _ _ _ (HS'.out.below HB2.out) HL'.out (by omega)).mono ?_
 rintro e w3 ⟨A3, c3, rfl, hr3, hc3, hb3⟩
 have HB3 := zh ((HB2.out).trans (hb3.mono (HB2.out).size))
 have HR3 := zh hr3
 have HR2' := zh (HR2.out.keep (.below hb3))
 clear hr3 hb3
 refine hK.out _ _ (HALL.out _ HB3.out) zt ?_
 clear hK K
 refine zP (i := 4) rfl (fun u hu => by obtain ⟨⟨k0, k1, k2⟩, k3, k4, k5⟩ := hu; go_simp; try rfl) (HALL.out _ HB3.out) zt ?_
 simp only [Act.put, zA, zB, zC, zD, zF, zG]
 refine zP (i := 5) rfl (fun u hu => by obtain ⟨⟨k0, k1, k2⟩, k3, k4, k5⟩ := hu; go_simp; try rfl) (HALL.out _ HB3.out) zt ?_
 simp only [Act.put, zA, zB, zC, zD, zF, zG]
 refine wpAnyL_done (by kernel_rfl) ?_ _
 obtain ⟨n2, hn2⟩ : ∃ n2, n2 = (rulesT t).length := ⟨_, rfl⟩
 obtain ⟨n3, hn3⟩ : ∃ n3, n3 = (rulesT t').length := ⟨_, rfl⟩
 have HT := zh (show cmpTree t t' = firstNZ [cmpInt n2 n3, cmpL (rulesT t) (rulesT t'), cmpL (wordT t) (wordT t')] by rw [hn2, hn3]; rfl)
 rw [← hn2] at HR2' HR ⊢
 rw [← hn3] at HR3 HR ⊢
 clear hn2 hn3 hc2 hc3 HR2
 have HK3 := zh (HALL.out w3.drew HB3.out.drew)
 go_wp2_with fail
 refine wp_region_late (late := []) (S1 := fun u => (u.cell? ⟨w.heap.size, 0, none⟩ = some (.int .i64 t.rule) ∧ u.cell? ⟨w.heap.size, 1, none⟩ = some (.int .i64 t.term) ∧ u.cell? ⟨w.heap.size, 2, none⟩ = some (.slice A m c)) ∧ (u.cell? ⟨w.heap.size + 1, 0, none⟩ = some (.int .i64 t'.rule) ∧ u.cell? ⟨w.heap.size + 1, 1, none⟩ = some (.int .i64 t'.term) ∧ u.cell? ⟨w.heap.size + 1, 2, none⟩ = some (.slice A' m' c'))) (S := fun _ => True) (by kernel_rfl) ?_
 refine zP (i := 0) rfl (fun u hu => by obtain ⟨⟨k0, k1, k2⟩, k3, k4, k5⟩ := hu; go_simp; try rfl) HK3.out zt ?_
 simp only [Act.put, zA, zB, zC, zD, zF, zG]
 refine zP (i := 1) rfl (fun u hu => by obtain ⟨⟨k0, k1, k2⟩, k3, k4, k5⟩ := hu; go_simp; try rfl) HK3.out zt ?_
 simp only [Act.put, zA, zB, zC, zD, zF, zG]
 refine zP (i := 2) rfl (fun u hu => by obtain ⟨⟨k0, k1, k2⟩, k3, k4, k5⟩ := hu; go_simp; try rfl) HK3.out zt ?_
 simp only [Act.put, zA, zB, zC, zD, zF, zG]
 refine zP (i := 3) rfl (fun u hu => by obtain ⟨⟨k0, k1, k2⟩, k3, k4, k5⟩ := hu; go_simp; try rfl) HK3.out zt ?_
 simp only [Act.put, zA, zB, zC, zD, zF, zG]
 refine zP (i := 5) rfl (fun u hu => by obtain ⟨⟨k0, k1, k2⟩, k3, k4, k5⟩ := hu; go_simp; try rfl) HK3.out zt ?_
 simp only [Act.put, zA, zB, zC, zD, zF, zG]
 refine zP (i := 6) rfl (fun u hu => by obtain ⟨⟨k0, k1, k2⟩, k3, k4, k5⟩ := hu; go_simp; try rfl) HK3.out zt ?_
 simp only [Act.put, zA, zB, zC, zD, zF, zG]
 refine zP (i := 8) rfl (fun u hu => by obtain ⟨⟨k0, k1, k2⟩, k3, k4, k5⟩ := hu; go_simp; try rfl) HK3.out zt ?_
 simp only [Act.put, zA, zB, zC, zD, zF, zG]
 refine zP (i := 10) rfl (fun u hu => by obtain ⟨⟨k0, k1, k2⟩, k3, k4, k5⟩ := hu; go_simp; try rfl) HK3.out zt ?_
 simp only [Act.put, zA, zB, zC, zD, zF, zG]
 refine zR 4 rfl (fun K hK => ?_)
 go_simp
 refine (cmpCompare _ _ _).mono ?_
 rintro e _ ⟨rfl, rfl⟩
 refine hK.out _ _ HK3.out zt ?_
 clear hK K
 refine zR 7 rfl (fun K hK => ?_)
 go_simp
 refine (compareInt _ _ _ _ _ _ _ _ (rulesT t) (rulesT t') _ HR2'.out.drew HR3.out.drew (by have := HR.out.1; omega)).mono ?_
 rintro e _ ⟨rfl, rfl⟩
 refine hK.out _ _ HK3.out zt ?_
 clear hK K
 refine zR 9 rfl (fun K hK => ?_)
 go_simp
 refine (treeWord _ _ t _ _ _ (HS.out.below HB3.out.drew) HL.out (by omega)).mono ?_
 rintro e w4 ⟨A4, c4, rfl, hr4, hc4, hb4⟩
 have HB4 := zh ((HB3.out.drew).trans (hb4.mono (HB3.out.drew).size))
 have HR4 := zh hr4
 clear hr4 hb4
 refine hK.out _ _ (HALL.out _ HB4.out) zt ?_
 clear hK K
 refine zR 11 rfl (fun K hK => ?_)
 go_simp
 refine (treeWord _ _ t' _ _ _ (HS'.out.below HB4.out) HL'.out (by omega)).mono ?_
 rintro e w5 ⟨A5, c5, rfl, hr5, hc5, hb5⟩
 have HB5 := zh ((HB4.out).trans (hb5.mono (HB4.out).size))
 have HR5 := zh hr5
 have HR4' := zh (HR4.out.keep (.below hb5))
 clear hr5 hb5
 refine hK.out _ _ (HALL.out _ HB5.out) zt ?_
 clear hK K
 refine zR 12 rfl (fun K hK => ?_)
 go_simp
 refine (compareInt _ _ _ _ _ _ _ _ (wordT t) (wordT t') _ HR4'.out HR5.out (by have := HW.out; omega)).mono ?_
 rintro e _ ⟨rfl, rfl⟩
 refine hK.out _ _ (HALL.out _ HB5.out) zt ?_
 clear hK K
 refine zR 13 rfl (fun K hK => ?_)
 go_simp
 refine hK.out _ _ (HALL.out _ (HB5.out.alloc HB5.out.size _)) zt ?_
 clear hK K
 refine zR 14 rfl (fun K hK => ?_)
 go_simp
 refine (cmpOr _ (fun _ => True) _ _ _ [cmpInt n2 n3, cmpL (rulesT t) (rulesT t'), cmpL (wordT t) (wordT t')] (Rd.new w5 _ _ [_, _, _] _ rfl trivial) (by simp)).mono ?_
 rintro e _ ⟨rfl, rfl⟩
 refine hK.out _ _ (HALL.out _ (HB5.out.alloc HB5.out.size _)) zt ?_
 clear hK K
 refine zP (i := 15) rfl (fun u hu => by obtain ⟨⟨k0, k1, k2⟩, k3, k4, k5⟩ := hu; go_simp; try rfl) (HALL.out _ (HB5.out.alloc HB5.out.size _)) zt ?_
 simp only [Act.put, zA, zB, zC, zD, zF, zG]
 refine wpAnyL_done (by kernel_rfl) ?_ _
 go_wp2_with fail
 go_ret
 exact ⟨ret_int HT.out.symm, HB1.out.trans ((HB5.out.alloc HB5.out.size _).mono (by omega))⟩
def TellsT (P : Program) (w0 : World) (G : TreeD → Prop) (q : TreeD → Bool) (F : FuncId) (caps : Array Value) : Prop :=
 ∀ (w : World), Below w0.heap.size w0 w → ∀ (x : TreeD) (A : Option Addr) (m c : Nat) (S : Nat → Prop), Sl RTree w S A m c x.kids → G x → Calls P F (#[.agg #[.int .i64 x.rule, .int .i64 x.term, .slice A m c]] ++ caps) w fun e w' => e = .returned (.bool (q x)) ∧ Below w.heap.size w w'
set_option maxHeartbeats 1000000 in
theorem indexFnT (w : World) (F : FuncId) (caps : Array Value) (G : TreeD → Prop) (q : TreeD → Bool) (A : Option Addr) (n c : Nat) (S : Nat → Prop) (l : List TreeD)
    (he : ∀ (args : Array Value) (u : World), (callFunc F args).run Tryz.prog u = .ok (.enter F args) u) (hF : TellsT Tryz.prog w G q F caps) (hr : Sl RTree w S A n c l) (hG : ∀ x ∈ l, G x) (hn : n ≤ 1000000000000) :
    Calls Tryz.prog 34 #[.slice A n c, .func (.func F) #[] caps] w fun e w' => e = .returned (.int .i64 (idxA q l)) ∧ Below w.heap.size w w' := by
 have HL := Lib.hid hr.len
 have HR := Lib.hid hr
 have HF := Lib.hid hF
 have HG := Lib.hid hG
 clear hr hF hG
 go_enter Tryz.func34, Tryz.ntmps34
 go_wp2_with fail
 go_loopw [8] (fun i wr => ∃ k : Nat, k ≤ n ∧ i = .int .i64 k ∧ (∀ j y, j < k → l[j]? = some y → q y = false) ∧ Below w.heap.size w wr) (fun i _ => n - (intOf i).toNat)
 case atStart => exact ⟨0, Nat.zero_le _, rfl, (fun j y hj _ => absurd hj (by omega)), Below.refl _ _⟩
 case round =>
  obtain ⟨k, hk, rfl, hno, hb⟩ := hrel
  have HNO := Lib.hid hno
  have HB := Lib.hid hb
  clear hno hb
  by_cases hlt : k < n
  ·
   obtain ⟨b, off, A2, m2, c2, x, rfl, _, _, hc1, hc2, hc3, hx, hxs⟩ := tree_at HR.out hlt
   have HXS := Lib.hid (hxs.below HB.out)
   clear hxs
   replace hc1 := Kept.below (S := fun _ => True) HB.out _ _ trivial hc1
   replace hc2 := Kept.below (S := fun _ => True) HB.out _ _ trivial hc2
   replace hc3 := Kept.below (S := fun _ => True) HB.out _ _ trivial hc3
   have HX := Lib.hid hx
   clear hx
   go_wp2_with fail
   refine (HF.out wr HB.out x _ _ _ _ HXS.out (HG.out x (List.mem_of_getElem? HX.out))).mono ?_
   rintro e w1 ⟨rfl, hb1⟩
   have HB1 := Lib.hid (HB.out.trans (hb1.mono HB.out.size))
   clear hb1
   cases hq : q x with
   | true =>
    have HH := Lib.hid (idxA_hit HX.out hq HNO.out)
    clear hq
    go_wp2_with fail
    go_ret
    exact ⟨ret_int HH.out.symm, HB1.out⟩
   | false =>
    have HQ := Lib.hid hq
    clear hq
    go_wp2_with fail
    go_roundw
    case rel =>
     refine ⟨k + 1, by omega, by go_num, ?_, HB1.out⟩
     intro j y hj hy
     rcases Nat.lt_succ_iff_lt_or_eq.1 hj with h | rfl
     · exact HNO.out j y h hy
     rw [HX.out] at hy
     injection hy with hy
     rw [← hy]
     exact HQ.out
    case measure => simp [intOf]; omega
  go_wp2_with fail
  go_ret
  refine ⟨ret_int ?_, HB.out⟩
  rw [idxA_none]
  intro j y hy
  have hj := (List.getElem?_eq_some_iff.1 hy).1
  exact HNO.out j y (by have := HL.out; omega) hy
set_option maxHeartbeats 1000000 in
theorem containsFnT (w : World) (F : FuncId) (caps : Array Value) (G : TreeD → Prop) (q : TreeD → Bool) (A : Option Addr) (n c : Nat) (S : Nat → Prop) (l : List TreeD)
    (he : ∀ (args : Array Value) (u : World), (callFunc F args).run Tryz.prog u = .ok (.enter F args) u) (hF : TellsT Tryz.prog w G q F caps) (hr : Sl RTree w S A n c l) (hG : ∀ x ∈ l, G x) (hn : n ≤ 1000000000000) :
    Calls Tryz.prog 15 #[.slice A n c, .func (.func F) #[] caps] w fun e w' => e = .returned (.bool (l.any q)) ∧ Below w.heap.size w w' := by
 have HR := Lib.hid hr
 have HF := Lib.hid hF
 have HG := Lib.hid hG
 have HE := Lib.hid he
 have HAN := Lib.hid (idxA_any q l)
 clear hr hF hG he
 go_enter Tryz.func15, Tryz.ntmps15
 go_wp2_with (go_at_call 34; refine (indexFnT _ F caps G q _ _ _ _ _ HE.out HF.out HR.out HG.out hn).mono ?_; rintro e w1 ⟨rfl, hb1⟩; have HB1 := Lib.hid hb1; clear hb1)
 go_ret
 exact ⟨ret_bool HAN.out, HB1.out⟩
theorem entersTop : ∀ (args : Array Value) (u : World), (callFunc 16 args).run Tryz.prog u = .ok (.enter 16 args) u := enters_of Tryz.func16 (by kernel_rfl) rfl
theorem tellsTop (w0 : World) (B : Nat) (t : TreeD) (At : Option Addr) (mt ct : Nat) (St : Nat → Prop) (hB : w0.heap[B]? = some (.cells #[.int .i64 t.rule, .int .i64 t.term, .slice At mt ct] 44 (0, 0))) (hs : Sl RTree w0 St At mt ct t.kids) (hl : ∀ x ∈ nodesT t, Leafy x) (hsz : sizeT t ≤ 1000000) :
    TellsT Tryz.prog w0 (fun x => (∀ y ∈ nodesT x, Leafy y) ∧ sizeT x ≤ 1000000) (fun x => decide (cmpTree x t = 0)) 16 #[.pointer (some ⟨B, 0, none⟩)] := by
 intro w hb x A m c S hx hG
 obtain ⟨w1, hw1⟩ := zE (w.alloc (.cells #[.int .i64 x.rule, .int .i64 x.term, .slice A m c] 44))
 have hb1 : Below w.heap.size w w1 := by rw [hw1]; exact (Below.refl _ _).alloc (Nat.le_refl _) _
 have hb0 : Below w0.heap.size w0 w1 := hb.trans (hb1.mono hb.size)
 have b1 : w1.heap[w.heap.size]? = some (.cells #[.int .i64 x.rule, .int .i64 x.term, .slice A m c] 44 (0, 0)) := by rw [hw1]; exact heap_alloc_new w _
 have b2 := (hb0.block _ (heap_lt hB)).trans hB
 have x0 : w1.cell? ⟨w.heap.size, 0, none⟩ = some (.int .i64 x.rule) := by simp [World.cell?, b1]
 have x1 : w1.cell? ⟨w.heap.size, 1, none⟩ = some (.int .i64 x.term) := by simp [World.cell?, b1]
 have x2 : w1.cell? ⟨w.heap.size, 2, none⟩ = some (.slice A m c) := by simp [World.cell?, b1]
 have t0 : w1.cell? ⟨B, 0, none⟩ = some (.int .i64 t.rule) := by simp [World.cell?, b2]
 have t1 : w1.cell? ⟨B, 1, none⟩ = some (.int .i64 t.term) := by simp [World.cell?, b2]
 have t2 : w1.cell? ⟨B, 2, none⟩ = some (.slice At mt ct) := by simp [World.cell?, b2]
 have HX := zh (hx.below hb1)
 have HT := zh (hs.below hb0)
 have HG := zh hG
 have HL := zh hl
 have HB1 := zh hb1
 have HW1 := zh hw1
 clear hb1 hb0 b1 b2 hx hs hG hl hw1 hb hB
 show Calls _ _ #[.agg #[.int .i64 x.rule, .int .i64 x.term, .slice A m c], .pointer (some ⟨B, 0, none⟩)] w _
 go_enter Tryz.func16, Tryz.ntmps16
 go_upto_region 1 with fail
 rw [← HW1.out]
 go_wp2_with fail
 refine (treeCompare w1 _ _ x A m c HX.out HG.out.1 HG.out.2 t At mt ct HT.out HL.out hsz).mono ?_
 rintro e w2 ⟨rfl, hb2⟩
 obtain ⟨v, hv⟩ := zE (cmpTree x t)
 rw [← hv]
 have HB2 := zh (HB1.out.trans (hb2.mono HB1.out.size))
 have HV := zh hv
 clear hb2 hv x0 x1 x2 t0 t1 t2
 go_wp2_with fail
 go_ret
 exact ⟨by rw [← HV.out]; by_cases h : v = 0 <;> simp [h], HB2.out⟩
end Go.Proofs.YtjnbjdbndbbanaaGreatDoor
namespace Go.Proofs.YtjnbjdbndbbanaaGreatDoor
section
variable {R : List RuleD} {N : Nat}
theorem TVL.edges {x : Nat × Nat} : ∀ {l : List SymD} {ts : List TreeD} {k : Nat}, TVL R l ts → (wordTs ts).length = k → Suffix R x l k → ∀ (i : Nat) (t : TreeD), ts[i]? = some t → ∀ b : Nat, l[i]? = some (false, (b : Int)) → Edge R x (b, (wordT t).length)
 | [], ts, k, h, _, _, i, t, hi, b, _ => by rw [h.inv_nil] at hi; simp at hi
 | s :: l, ts, k, h, hk, hsx, i, t, hi, b, hb => by
  obtain ⟨t', ts', rfl, h1, h2⟩ := h.inv
  rw [wordTs_cons, List.length_append] at hk
  have hd1 := h1.der
  have hd2 := h2.der
  have hle : (wordT t').length ≤ k := by omega
  have hq : (wordTs ts').length = k - (wordT t').length := by omega
  rw [hq] at hd2
  cases i with
  | zero =>
   simp only [List.getElem?_cons_zero, Option.some.injEq] at hi hb
   subst hi
   subst hb
   exact hsx.edge hle hd1 hd2
  | succ i =>
   simp only [List.getElem?_cons_succ] at hi hb
   exact TVL.edges h2 hq (hsx.next hle hd1) i t hi b hb
def Bnd (n v s : Nat) : Prop := (n = 0 → (v = 0 → s ≤ 40) ∧ (v = 1 → s ≤ 13) ∧ (v = 2 → s ≤ 4) ∧ (v = 3 → s ≤ 1)) ∧ (1 ≤ n → s + 284 + 81 * v ≤ 609 * n)
def KA (n v s m : Nat) : Prop := (m = 0 → s ≤ 40) ∧ (1 ≤ m → s + 284 ≤ 609 * m) ∧ (m = n → 1 ≤ n → (n = 1 ∧ s = 1) ∨ (v ≤ 2 ∧ s + 365 + 81 * v ≤ 609 * n)) ∧
 (n = 0 → m = 0 → (v = 0 → s ≤ 13) ∧ (v = 1 → s ≤ 4) ∧ (v = 2 → s ≤ 1) ∧ (v = 3 → s ≤ 0))
theorem KA.none {n v : Nat} : KA n v 0 0 := by unfold KA; omega
theorem KA.leaf {n v : Nat} (hv : v ≤ 3) : KA n v 1 1 := by unfold KA; omega
theorem KA.of {n v s m : Nat} (h1 : Bnd m 0 s) (h2 : m = n → v ≤ 2 ∧ Bnd n (v + 1) s) : KA n v s m := by
 by_cases e : m = n
 ·
  obtain ⟨h3, h4⟩ := h2 e
  unfold Bnd at h1 h4
  unfold KA
  subst e
  by_cases e0 : m = 0
  ·
   obtain ⟨a1, a2, a3, a4⟩ := h4.1 e0
   have b1 := (h1.1 e0).1 rfl
   refine ⟨fun _ => b1, fun h => absurd h (by omega), fun _ h => absurd h (by omega), fun _ _ => ⟨fun h => a2 (by omega), fun h => a3 (by omega), fun h => a4 (by omega), fun h => absurd h (by omega)⟩⟩
  have b1 := h1.2 (by omega)
  have b2 := h4.2 (by omega)
  exact ⟨fun h => absurd h e0, fun _ => by omega, fun _ _ => Or.inr ⟨h3, by omega⟩, fun h => absurd h e0⟩
 unfold Bnd at h1
 unfold KA
 exact ⟨fun h => (h1.1 h).1 rfl, fun h => by have := h1.2 h; omega, fun h => absurd h e, fun h1 h2 => absurd (h2.trans h1.symm) e⟩
theorem bnd3 {n v s1 s2 s3 m1 m2 m3 : Nat} (hn : m1 + m2 + m3 = n) (hv : v ≤ 3) (h1 : KA n v s1 m1) (h2 : KA n v s2 m2) (h3 : KA n v s3 m3) : Bnd n v (1 + (s1 + s2 + s3)) := by
 obtain ⟨a1, a2, a3, a4⟩ := h1
 obtain ⟨b1, b2, b3, b4⟩ := h2
 obtain ⟨c1, c2, c3, c4⟩ := h3
 unfold Bnd
 by_cases hn0 : n = 0
 ·
  have a4 := a4 hn0 (by omega)
  have b4 := b4 hn0 (by omega)
  have c4 := c4 hn0 (by omega)
  clear a1 a2 a3 b1 b2 b3 c1 c2 c3
  refine ⟨fun _ => ⟨?_, ?_, ?_, ?_⟩, fun h => absurd h (by omega)⟩ <;> intro e <;> subst e <;> omega
 refine ⟨fun h => absurd h hn0, fun _ => ?_⟩
 clear a4 b4 c4
 by_cases z1 : m1 = n
 ·
  have x1 := a3 z1 (by omega)
  have x2 := b1 (by omega)
  have x3 := c1 (by omega)
  clear a1 a2 a3 b1 b2 b3 c1 c2 c3
  omega
 by_cases z2 : m2 = n
 ·
  have x1 := b3 z2 (by omega)
  have x2 := a1 (by omega)
  have x3 := c1 (by omega)
  clear a1 a2 a3 b1 b2 b3 c1 c2 c3
  omega
 by_cases z3 : m3 = n
 ·
  have x1 := c3 z3 (by omega)
  have x2 := b1 (by omega)
  have x3 := a1 (by omega)
  clear a1 a2 a3 b1 b2 b3 c1 c2 c3
  omega
 clear a3 b3 c3
 by_cases y1 : m1 = 0
 ·
  have := a1 y1
  have := b2 (by omega)
  have := c2 (by omega)
  clear a1 a2 b1 b2 c1 c2
  omega
 have := a2 (by omega)
 by_cases y2 : m2 = 0
 ·
  have := b1 y2
  have := c2 (by omega)
  clear a1 a2 b1 b2 c1 c2
  omega
 have := b2 (by omega)
 by_cases y3 : m3 = 0
 ·
  have := c1 y3
  clear a1 a2 b1 b2 c1 c2
  omega
 have := c2 (by omega)
 clear a1 a2 b1 b2 c1 c2
 omega
theorem TV.bnd (hR : RulesN N R) (hN : N ≤ 4) (hr3 : ∀ r ∈ R, r.2.length ≤ 3) : ∀ (m : Nat) {a n : Nat} {t : TreeD} (vis : List Nat), sizeT t ≤ m → TV R (false, (a : Int)) t → (wordT t).length = n → a < N → ¬ Many R (a, n) →
    vis.Nodup → (∀ v ∈ vis, v < N ∧ Reach (Edge R) (v, n) (a, n)) → vis.length ≤ 3 ∧ Bnd n vis.length (sizeT t)
 | 0, a, n, t, vis, hm, _, _, _, _, _, _ => by rw [sizeT_eq] at hm; omega
 | m + 1, a, n, t, vis, hm, h, hn, ha, hmany, hnd, hvis => by
  have hav : a ∉ vis := fun h => hmany ⟨(a, n), .inl rfl, (hvis a h).2⟩
  have hnd' : (a :: vis).Nodup := List.nodup_cons.2 ⟨hav, hnd⟩
  have hlen : (a :: vis).length ≤ N := pigeon hnd' fun x hx => by
   rcases List.mem_cons.1 hx with rfl | h
   · exact ha
   exact (hvis x h).1
  have hv3 : vis.length ≤ 3 := by rw [List.length_cons] at hlen; omega
  refine ⟨hv3, ?_⟩
  rcases h.inv with ⟨c, e, _⟩ | ⟨k, r, ts, e, rfl, h1, h2⟩
  · cases e
  injection e with _ e
  rw [wordT_node] at hn
  rw [sizeT_eq] at hm ⊢
  simp only [TreeD.kids] at hm ⊢
  have hmem := List.mem_of_getElem? h1
  have hedge := TVL.edges h2 hn (Suffix.start (x := (a, n)) hmem e.symm)
  have hkid : ∀ (i : Nat) (t : TreeD), ts[i]? = some t → KA n vis.length (sizeT t) (wordT t).length := by
   intro i t hi
   obtain ⟨s, hs, hts⟩ := h2.get hi
   have hle := sizeT_mem (List.mem_of_getElem? hi)
   obtain ⟨b, y⟩ := s
   cases b with
   | true =>
    rcases hts.inv with ⟨c, e, rfl⟩ | ⟨_, _, _, e, _⟩
    ·
     rw [wordT_leaf, sizeT_eq]
     exact KA.leaf hv3
    injection e with e _
    cases e
   | false =>
    have hy := (hR r hmem).2 (false, y) (List.mem_of_getElem? hs) rfl
    obtain ⟨b, rfl⟩ : ∃ b : Nat, y = (b : Int) := ⟨y.toNat, by have := hy.1; dsimp only at this; omega⟩
    have he := hedge i t hi b hs
    refine KA.of (TV.bnd hR hN hr3 m [] (by omega) hts rfl (he.lt hR) (fun h => hmany (h.back he)) .nil (by simp)).2 fun e => ?_
    rw [e] at he
    have h3 := TV.bnd hR hN hr3 m (a :: vis) (by omega) hts e (he.lt hR) (fun h => hmany (h.back he)) hnd' (by
     intro v hv
     rcases List.mem_cons.1 hv with rfl | h
     · exact ⟨ha, .one he⟩
     exact ⟨(hvis v h).1, (hvis v h).2.trans (.one he)⟩)
    rw [List.length_cons] at h3
    exact ⟨by omega, h3.2⟩
  have hl3 : ts.length ≤ 3 := by rw [h2.len]; exact hr3 r hmem
  clear hedge hvis hmany hnd hav hnd'
  match ts, hkid, hl3, hn with
  | [], _, _, hn =>
   rw [wordTs_nil] at hn
   rw [sizeTs_nil]
   exact bnd3 (s1 := 0) (s2 := 0) (s3 := 0) (m1 := 0) (m2 := 0) (m3 := 0) (by simpa using hn) hv3 .none .none .none
  | [t1], hkid, _, hn =>
   rw [wordTs_cons, wordTs_nil, List.append_nil] at hn
   rw [sizeTs_cons, sizeTs_nil]
   exact bnd3 (s2 := 0) (s3 := 0) (m2 := 0) (m3 := 0) (by simpa using hn) hv3 (hkid 0 t1 rfl) .none .none
  | [t1, t2], hkid, _, hn =>
   rw [wordTs_cons, wordTs_cons, wordTs_nil, List.append_nil, List.length_append] at hn
   rw [sizeTs_cons, sizeTs_cons, sizeTs_nil]
   have := bnd3 (s3 := 0) (m3 := 0) (by simpa using hn) hv3 (hkid 0 t1 rfl) (hkid 1 t2 rfl) .none
   simpa using this
  | [t1, t2, t3], hkid, _, hn =>
   rw [wordTs_cons, wordTs_cons, wordTs_cons, wordTs_nil, List.append_nil, List.length_append, List.length_append] at hn
   rw [sizeTs_cons, sizeTs_cons, sizeTs_cons, sizeTs_nil]
   have := bnd3 (by rw [← Nat.add_assoc] at hn; exact hn) hv3 (hkid 0 t1 rfl) (hkid 1 t2 rfl) (hkid 2 t3 rfl)
   rw [Nat.add_zero, ← Nat.add_assoc (sizeT t1)]
   exact this
  | _ :: _ :: _ :: _ :: _, _, h, _ => simp at h
theorem TV.few (hR : RulesN N R) (hN : N ≤ 4) (hr3 : ∀ r ∈ R, r.2.length ≤ 3) {a n : Nat} {t : TreeD} (h : TV R (false, (a : Int)) t) (hn : (wordT t).length = n) (ha : a < N) (hmany : ¬ Many R (a, n)) (h8 : n ≤ 8) : sizeT t ≤ 5000 := by
 have h1 := (TV.bnd hR hN hr3 _ [] (Nat.le_refl _) h hn ha hmany .nil (by simp)).2
 unfold Bnd at h1
 rcases Nat.eq_zero_or_pos n with h0 | h0
 · have := (h1.1 h0).1 rfl; omega
 have := h1.2 h0; omega
end
end Go.Proofs.YtjnbjdbndbbanaaGreatDoor
