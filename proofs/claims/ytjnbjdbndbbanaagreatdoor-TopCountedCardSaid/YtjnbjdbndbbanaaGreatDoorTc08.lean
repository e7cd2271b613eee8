/- GramCheck GBase Counter -/
import Derived.Test.YtjnbjdbndbbanaaGreatDoorTc07
namespace Go.Proofs.YtjnbjdbndbbanaaGreatDoor
open Go.RowKit
def firstNZ : List Int → Int
 | [] => 0
 | a :: l => if a = 0 then firstNZ l else a
theorem firstNZ_drop {l : List Int} {k : Nat} {x : Int} (h : l[k]? = some x) : firstNZ (l.drop k) = if x = 0 then firstNZ (l.drop (k + 1)) else x := by
 obtain ⟨h1, rfl⟩ := List.getElem?_eq_some_iff.1 h
 rw [List.drop_eq_getElem_cons h1]
 rfl
set_option maxHeartbeats 1000000 in
theorem cmpOr (w : World) (S : Nat → Prop) (A : Option Addr) (n c : Nat) (l : List Int) (hl : Rd w S 1 A n (l.map (Value.int .i64))) (hn : n ≤ 1000) :
    Calls Tryz.prog 36 #[.slice A n c] w fun e w' => e = .returned (.int .i64 (firstNZ l)) ∧ w = w' := by
 have hlen : l.length = n := by simpa using hl.1
 have HLL := zh hlen
 have HL := zh hl
 clear hl hlen
 go_enter Tryz.func36, Tryz.ntmps36
 go_wp2_with fail
 go_loop [8] (fun i => ∃ k : Nat, k ≤ n ∧ i = .int .i64 k ∧ firstNZ l = firstNZ (l.drop k)) (fun i => n - (intOf i).toNat)
 case atStart => exact ⟨0, Nat.zero_le _, rfl, rfl⟩
 case round =>
  obtain ⟨k, hk, rfl, heq⟩ := hrel
  have HEQ := zh heq
  clear heq
  by_cases hlt : k < n
  ·
   obtain ⟨b, off, x, rfl, _, hx, hcell⟩ := HL.out.int_at hlt
   have HSTEP := zh (firstNZ_drop hx)
   clear hx
   by_cases h0 : x = 0
   ·
    subst h0
    go_wp2_with fail
    go_round
    case rel => exact ⟨k + 1, by omega, by go_num, by rw [HEQ.out, HSTEP.out, if_pos rfl]⟩
    case measure => simp [intOf]; omega
   have h0' : (x != 0) = true := by simp [h0]
   have H0 := zh h0
   clear h0
   go_wp2_with fail
   go_ret
   exact ⟨ret_int (by rw [HEQ.out, HSTEP.out, if_neg H0.out]), rfl⟩
  go_wp2_with fail
  go_ret
  exact ⟨ret_int (by rw [HEQ.out, List.drop_of_length_le (by rw [HLL.out]; omega)]; rfl), rfl⟩
set_option linter.unusedSimpArgs false in
set_option maxRecDepth 100000 in
set_option maxHeartbeats 1000000 in
theorem gramCompare (w : World) (S S' : Nat → Prop) (A : Option Addr) (n c : Nat) (a : RuleD) (hl : Sl RSym w S A n c a.2) (A' : Option Addr) (n' c' : Nat) (b : RuleD) (hm : Sl RSym w S' A' n' c' b.2) (hn : n ≤ 1000) (hn' : n' ≤ 1000) :
    Calls Tryz.prog 66 #[.agg #[.int .i64 a.1, .slice A n c], .agg #[.int .i64 b.1, .slice A' n' c']] w fun e w' => e = .returned (.int .i64 (cmpRule a b)) ∧ Below w.heap.size w w' := by
 have hd : cmpRule a b = firstNZ [cmpInt a.1 b.1, cmpSyms a.2 b.2] := by
  unfold cmpRule firstNZ
  split
  ·
   unfold firstNZ
   split
   · rename_i h; rw [h]; rfl
   rfl
  rfl
 have HD := zh hd
 have HL := zh hl
 have HM := zh hm
 clear hl hm hd
 go_enter Tryz.func66, Tryz.ntmps66
 go_wp2_with fail
 have hu : Below w.heap.size w (((w.alloc (.cells #[.int .i64 a.1, .slice A n c] 60)).alloc (.cells #[.int .i64 b.1, .slice A' n' c'] 60)).drew) := (((Below.refl _ _).alloc (Nat.le_refl _) _).alloc (by simp) _).drew
 have hk0 : ∀ u : World, Below (w.heap.size + 1 + 1) (((w.alloc (.cells #[.int .i64 a.1, .slice A n c] 60)).alloc (.cells #[.int .i64 b.1, .slice A' n' c'] 60)).drew) u →
     u.cell? ⟨w.heap.size, 0, none⟩ = some (.int .i64 a.1) ∧ u.cell? ⟨w.heap.size, 1, none⟩ = some (.slice A n c) ∧ u.cell? ⟨w.heap.size + 1, 0, none⟩ = some (.int .i64 b.1) ∧ u.cell? ⟨w.heap.size + 1, 1, none⟩ = some (.slice A' n' c') := by
  intro u hu
  refine ⟨(hu.cell (by simp; omega)).trans ?_, (hu.cell (by simp; omega)).trans ?_, (hu.cell (by simp)).trans ?_, (hu.cell (by simp)).trans ?_⟩ <;> simp
 have HALL := zh hk0
 have HK := zh (hk0 _ (Below.refl _ _))
 have HU := zh hu
 clear hk0 hu
 refine wp_region_late (late := []) (S1 := fun u => u.cell? ⟨w.heap.size, 0, none⟩ = some (.int .i64 a.1) ∧ u.cell? ⟨w.heap.size, 1, none⟩ = some (.slice A n c) ∧ u.cell? ⟨w.heap.size + 1, 0, none⟩ = some (.int .i64 b.1) ∧ u.cell? ⟨w.heap.size + 1, 1, none⟩ = some (.slice A' n' c')) (S := fun _ => True) (by kernel_rfl) ?_
 refine zP (i := 0) rfl (fun u hu => by obtain ⟨k0, k1, k2, k3⟩ := hu; go_simp; try rfl) HK.out zt ?_
 simp only [Act.put, zA, zB, zC, zD, zF, zG]
 refine zP (i := 1) rfl (fun u hu => by obtain ⟨k0, k1, k2, k3⟩ := hu; go_simp; try rfl) HK.out zt ?_
 simp only [Act.put, zA, zB, zC, zD, zF, zG]
 refine zP (i := 2) rfl (fun u hu => by obtain ⟨k0, k1, k2, k3⟩ := hu; go_simp; try rfl) HK.out zt ?_
 simp only [Act.put, zA, zB, zC, zD, zF, zG]
 refine zP (i := 3) rfl (fun u hu => by obtain ⟨k0, k1, k2, k3⟩ := hu; go_simp; try rfl) HK.out zt ?_
 simp only [Act.put, zA, zB, zC, zD, zF, zG]
 refine zP (i := 5) rfl (fun u hu => by obtain ⟨k0, k1, k2, k3⟩ := hu; go_simp; try rfl) HK.out zt ?_
 simp only [Act.put, zA, zB, zC, zD, zF, zG]
 refine zP (i := 6) rfl (fun u hu => by obtain ⟨k0, k1, k2, k3⟩ := hu; go_simp; try rfl) HK.out zt ?_
 simp only [Act.put, zA, zB, zC, zD, zF, zG]
 refine zP (i := 7) rfl (fun u hu => by obtain ⟨k0, k1, k2, k3⟩ := hu; go_simp; try rfl) HK.out zt ?_
 simp only [Act.put, zA, zB, zC, zD, zF, zG]
 refine zP (i := 8) rfl (fun u hu => by obtain ⟨k0, k1, k2, k3⟩ := hu; go_simp; try rfl) HK.out zt ?_
 simp only [Act.put, zA, zB, zC, zD, zF, zG]
 refine zR 4 rfl (fun K hK => ?_)
 go_simp
 refine (cmpCompare _ _ _).mono ?_
 rintro e _ ⟨rfl, rfl⟩
 refine hK.out _ _ HK.out zt ?_
 clear hK K
 refine zR 9 rfl (fun K hK => ?_)
 go_simp
 refine (compareSyms _ _ _ _ _ _ a.2 (HL.out.below HU.out) _ _ _ b.2 (HM.out.below HU.out) hn hn').mono ?_
 rintro e w9 ⟨rfl, hb9⟩
 have hb9' : Below (w.heap.size + 1 + 1) _ w9 := hb9.mono (by simp)
 have HK9 := zh (HALL.out _ hb9')
 have HB9 := zh (HU.out.trans (hb9.mono HU.out.size))
 have HB9' := zh hb9'
 have hz9 := hb9.size
 simp at hz9
 clear hb9 hb9'
 refine hK.out _ _ HK9.out zt ?_
 clear hK K
 refine zR 10 rfl (fun K hK => ?_)
 go_simp
 refine hK.out _ _ (HALL.out _ (HB9'.out.alloc (by omega) _)) zt ?_
 clear hK K
 refine zR 11 rfl (fun K hK => ?_)
 go_simp
 refine (cmpOr _ (fun _ => True) _ _ _ [cmpInt a.1 b.1, cmpSyms a.2 b.2] (Rd.new w9 _ _ [_, _] _ rfl trivial) (by simp)).mono ?_
 rintro e _ ⟨rfl, rfl⟩
 refine hK.out _ _ (HALL.out _ (HB9'.out.alloc (by omega) _)) zt ?_
 clear hK K
 refine zP (i := 12) rfl (fun u hu => by obtain ⟨k0, k1, k2, k3⟩ := hu; go_simp; try rfl) (HALL.out _ (HB9'.out.alloc (by omega) _)) zt ?_
 simp only [Act.put, zA, zB, zC, zD, zF, zG]
 refine wpAnyL_done (by kernel_rfl) ?_ _
 go_wp2_with fail
 go_ret
 exact ⟨ret_int HD.out.symm, HB9.out.alloc HB9.out.size _⟩
set_option maxHeartbeats 1000000 in
theorem gramHas (w : World) (T N st : Int) (AR : Option Addr) (nR cR : Nat) (s : SymD) (hs : SymOk T N s) :
    Calls Tryz.prog 63 #[.agg #[.int .i64 T, .int .i64 N, .int .i64 st, .slice AR nR cR], .agg #[.bool s.1, .int .i64 s.2]] w fun e w' => e = .returned (.bool true) ∧ Below w.heap.size w w' := by
 obtain ⟨h1, h2⟩ := hs
 obtain ⟨b, x⟩ := s
 dsimp only at *
 have d1 : decide (0 ≤ x) = true := by simp; omega
 have HB := zh (((Below.refl w.heap.size w).alloc (Nat.le_refl _) (.cells #[.int .i64 T, .int .i64 N, .int .i64 st, .slice AR nR cR] 25)).alloc (by simp) (.cells #[.bool b, .int .i64 x] 62))
 cases b
 ·
  have d2 : decide (x < N) = true := by simpa using h2
  clear h2
  go_enter Tryz.func63, Tryz.ntmps63
  go_wp2_with fail
  go_ret
  exact ⟨rfl, HB.out⟩
 have d2 : decide (x < T) = true := by simpa using h2
 clear h2
 go_enter Tryz.func63, Tryz.ntmps63
 go_wp2_with fail
 go_ret
 exact ⟨rfl, HB.out⟩
set_option maxHeartbeats 1000000 in
theorem checkFn1 (w : World) (B : Nat) (T N st : Int) (AR : Option Addr) (nR cR : Nat) (hB : w.heap[B]? = some (.cells #[.int .i64 T, .int .i64 N, .int .i64 st, .slice AR nR cR] 25 (0, 0))) (s : SymD) (hs : SymOk T N s) :
    Calls Tryz.prog 62 #[.agg #[.bool s.1, .int .i64 s.2], .pointer (some ⟨B, 0, none⟩)] w fun e w' => e = .returned (.bool false) ∧ Below w.heap.size w w' := by
 have h0 : w.cell? ⟨B, 0, none⟩ = some (.int .i64 T) := by simp [World.cell?, hB]
 have h1 : w.cell? ⟨B, 1, none⟩ = some (.int .i64 N) := by simp [World.cell?, hB]
 have h2 : w.cell? ⟨B, 2, none⟩ = some (.int .i64 st) := by simp [World.cell?, hB]
 have h3 : w.cell? ⟨B, 3, none⟩ = some (.slice AR nR cR) := by simp [World.cell?, hB]
 have hl := heap_lt hB
 have HS := zh hs
 clear hB hs
 go_enter Tryz.func62, Tryz.ntmps62
 go_wp2_with fail
 refine (gramHas _ _ _ _ _ _ _ s HS.out).mono ?_
 rintro e w1 ⟨rfl, hb1⟩
 have HB1 := zh (((Below.refl w.heap.size w).alloc (Nat.le_refl _) _).trans (hb1.mono (by simp)))
 clear hb1
 go_wp2_with fail
 go_ret
 exact ⟨rfl, HB1.out⟩
theorem tellsCheck1 (w : World) (B : Nat) (T N st : Int) (AR : Option Addr) (nR cR : Nat) (hB : w.heap[B]? = some (.cells #[.int .i64 T, .int .i64 N, .int .i64 st, .slice AR nR cR] 25 (0, 0))) :
    TellsS Tryz.prog w (SymOk T N) (fun _ => false) 62 #[.pointer (some ⟨B, 0, none⟩)] := fun w' hb s hs => checkFn1 w' B T N st AR nR cR ((hb.block B (heap_lt hB)).trans hB) s hs
theorem entersCheck1 : ∀ (args : Array Value) (u : World), (callFunc 62 args).run Tryz.prog u = .ok (.enter 62 args) u := enters_of Tryz.func62 (by kernel_rfl) rfl
set_option maxHeartbeats 1000000 in
theorem checkFn2 (w : World) (B : Nat) (S S' : Nat → Prop) (A : Option Addr) (n c : Nat) (a : RuleD) (hl : Sl RSym w S A n c a.2) (A' : Option Addr) (n' c' : Nat) (b : RuleD) (hm : Sl RSym w S' A' n' c' b.2) (hn : n ≤ 1000) (hn' : n' ≤ 1000)
    (hB : w.heap[B]? = some (.cells #[.int .i64 b.1, .slice A' n' c'] 60 (0, 0))) :
    Calls Tryz.prog 65 #[.agg #[.int .i64 a.1, .slice A n c], .pointer (some ⟨B, 0, none⟩)] w fun e w' => e = .returned (.bool (decide (a = b))) ∧ Below w.heap.size w w' := by
 have h0 : w.cell? ⟨B, 0, none⟩ = some (.int .i64 b.1) := by simp [World.cell?, hB]
 have h1 : w.cell? ⟨B, 1, none⟩ = some (.slice A' n' c') := by simp [World.cell?, hB]
 have hlt := heap_lt hB
 have HL := zh hl
 have HM := zh hm
 clear hB hl hm
 go_enter Tryz.func65, Tryz.ntmps65
 go_wp2_with fail
 refine (gramCompare _ _ _ _ _ _ a (HL.out.alloc _) _ _ _ b (HM.out.alloc _) hn hn').mono ?_
 rintro e w1 ⟨rfl, hb1⟩
 have HB1 := zh (((Below.refl w.heap.size w).alloc (Nat.le_refl _) _).trans (hb1.mono (by simp)))
 clear hb1
 go_wp2_with fail
 go_ret
 refine ⟨ret_bool ?_, HB1.out⟩
 rw [Bool.eq_iff_iff]
 simp [cmpRule_zero]
theorem tellsCheck2 (w : World) (B : Nat) (S' : Nat → Prop) (A' : Option Addr) (n' c' : Nat) (b : RuleD) (hm : Sl RSym w S' A' n' c' b.2) (hn' : n' ≤ 1000) (hB : w.heap[B]? = some (.cells #[.int .i64 b.1, .slice A' n' c'] 60 (0, 0))) :
    TellsR Tryz.prog w (fun r => r.2.length ≤ 1000) (fun a => decide (a = b)) 65 #[.pointer (some ⟨B, 0, none⟩)] := fun w' hb r A m c S hs hl =>
 checkFn2 w' B S S' A m c r hs A' n' c' b (hm.below hb) (by have := hs.len; omega) hn' ((hb.block B (heap_lt hB)).trans hB)
theorem entersCheck2 : ∀ (args : Array Value) (u : World), (callFunc 65 args).run Tryz.prog u = .ok (.enter 65 args) u := enters_of Tryz.func65 (by kernel_rfl) rfl
set_option maxRecDepth 100000 in
set_option maxHeartbeats 4000000 in
theorem gramCheck (w : World) (S : Nat → Prop) (AR : Option Addr) (nR cR : Nat) (g : GramD) (hg : Sl RRule w S AR nR cR g.2.2.2) (hv : GValid g) :
    Calls Tryz.prog 39 #[.agg #[.int .i64 g.1, .int .i64 g.2.1, .int .i64 g.2.2.1, .slice AR nR cR]] w fun e w' => e = .returned (.int .i64 0) ∧ Below w.heap.size w w' := by
 have HLEN := zh hg.len
 have hnR : nR ≤ 32 := by have := hv.rl; have := hg.len; omega
 have hcap := hg.cap
 have HG := zh hg
 have HV := zh hv
 obtain ⟨T, N, st, rules⟩ := g
 have a1 : decide (T < 1) = false := by have := hv.t1; simp; omega
 have a2 : decide (8 < T) = false := by have := hv.t2; simp; omega
 have a3 : decide (N < 1) = false := by have := hv.n1; simp; omega
 have a4 : decide (10 < N) = false := by have := hv.n2; simp; omega
 have a5 : decide (st < 0) = false := by obtain ⟨s1, s2⟩ := hv.st; dsimp only at s1 s2; simp; omega
 have a6 : decide (N ≤ st) = false := by obtain ⟨s1, s2⟩ := hv.st; dsimp only at s1 s2; simp; omega
 dsimp only at *
 clear hg hv
 go_enter Tryz.func39, Tryz.ntmps39
 go_wp2_with fail
 clear a1 a2 a3 a4 a5 a6
 go_loopg [42] nR (fun gk i wr => ∃ k : Nat, k ≤ nR ∧ gk = nR - k ∧ i = .int .i64 k ∧ wr.heap[w.heap.size]? = some (.cells #[.int .i64 T, .int .i64 N, .int .i64 st, .slice AR nR cR] 25 (0, 0)) ∧ Below w.heap.size w wr)
 case atStart => exact ⟨0, Nat.zero_le _, rfl, rfl, heap_alloc_new w _, (Below.refl _ _).alloc (Nat.le_refl _) _⟩
 case round =>
  obtain ⟨k, hk, hgk, rfl, hbx, hb⟩ := hrel
  have HGK := zh hgk
  have HBX := zh hbx
  have HB := zh hb
  have hcN : wr.cell? ⟨w.heap.size, 1, none⟩ = some (.int .i64 N) := by simp [World.cell?, hbx]
  have hcR : wr.cell? ⟨w.heap.size, 3, none⟩ = some (.slice AR nR cR) := by simp [World.cell?, hbx]
  have hl : w.heap.size < wr.heap.size := heap_lt hbx
  clear hgk hbx hb
  by_cases hlt : k < nR
  ·
   obtain ⟨b, off, A2, m2, c2, r, rfl, _, _, hr1, hr2, hr, hrs⟩ := rule_at HG.out hlt
   replace hr1 := Kept.below (S := fun _ => True) HB.out _ _ trivial hr1
   replace hr2 := Kept.below (S := fun _ => True) HB.out _ _ trivial hr2
   obtain ⟨⟨g1, g2⟩, g3, g4⟩ := HV.out.rules r (List.mem_of_getElem? hr)
   dsimp only at g1 g2 g4
   have hm4 : m2 ≤ 4 := by have := hrs.len; omega
   have d1 : decide (r.1 < 0) = false := by simp; omega
   have d2 : decide (N ≤ r.1) = false := by simp; omega
   have HX := zh hr
   have HRS := zh hrs
   have HG4 := zh g4
   clear hr hrs g4
   go_wp2_with fail
   have hb1 : Below w.heap.size w (wr.alloc (.cells #[.int .i64 r.1, .slice A2 m2 c2] 60)) := HB.out.alloc HB.out.size _
   refine (containsFnS _ _ _ _ _ _ _ _ _ _ entersCheck1 (tellsCheck1 _ w.heap.size T N st (some ⟨b, off, none⟩) nR cR ((Below.heap_alloc _ _ _ hl).trans HBX.out)) (HRS.out.below hb1) HG4.out (by omega)).mono ?_
   rintro e w1 ⟨rfl, hb2⟩
   rw [show r.2.any (fun _ => false) = false by simp]
   have hS1 : wr.heap.size + 1 ≤ w1.heap.size := by have := hb2.size; simp at this; omega
   have hbr1 : w1.heap[wr.heap.size]? = some (.cells #[.int .i64 r.1, .slice A2 m2 c2] 60 (0, 0)) := (hb2.block _ (by simp)).trans (heap_alloc_new wr _)
   have hbx1 : w1.heap[w.heap.size]? = some (.cells #[.int .i64 T, .int .i64 N, .int .i64 st, .slice (some ⟨b, off, none⟩) nR cR] 25 (0, 0)) := (hb2.block _ (by simp; omega)).trans ((Below.heap_alloc _ _ _ hl).trans HBX.out)
   have HBX1 := zh hbx1
   have HBR1 := zh hbr1
   have hB1 := hb1.trans (hb2.mono hb1.size)
   have HB1 := zh hB1
   have hcR1 : w1.cell? ⟨w.heap.size, 3, none⟩ = some (.slice (some ⟨b, off, none⟩) nR cR) := by simp [World.cell?, hbx1]
   have hcut := fun u => tRules.hN (some ⟨b, off, none⟩) nR cR k (by omega) u
   clear hb1 hb2 hcN hcR hbr1 hbx1 hB1 d1 d2 hr1 hr2
   go_wp2_with fail
   refine (containsFnR _ _ _ _ _ _ _ _ _ (rules.take k) entersCheck2 (tellsCheck2 _ wr.heap.size _ _ _ _ r (HRS.out.below HB1.out) (by omega) HBR1.out) ((HG.out.below HB1.out).take k (by omega)) (fun x hx => by
    have := (HV.out.rules x (List.mem_of_mem_take hx)).2.1
    show x.2.length ≤ 1000
    omega) (by omega)).mono ?_
   rintro e w3 ⟨rfl, hb3⟩
   have hany : (rules.take k).any (fun a => decide (a = r)) = false := by
    rw [List.any_eq_false]
    intro x hx
    simp only [decide_eq_true_eq]
    rintro rfl
    obtain ⟨j, hj⟩ := List.getElem?_of_mem hx
    rw [List.getElem?_take] at hj
    split at hj
    ·
     have h1 := (List.getElem?_eq_some_iff.1 hj)
     have h2 := (List.getElem?_eq_some_iff.1 HX.out)
     obtain ⟨i1, e1⟩ := h1
     obtain ⟨i2, e2⟩ := h2
     rename_i hjk
     exact List.pairwise_iff_getElem.1 HV.out.nd j k i1 i2 hjk (e1.trans e2.symm)
    cases hj
   rw [hany]
   have HB3 := zh (HB1.out.trans (hb3.mono HB1.out.size))
   have HBX3 := zh ((hb3.block _ (by omega)).trans HBX1.out)
   clear hany hb3
   go_wp2_with fail
   go_roundg (nR - (k + 1))
   case measure => rw [HGK.out]; omega
   case rel => exact ⟨k + 1, by omega, rfl, by go_num, HBX3.out, HB3.out⟩
  go_wp2_with fail
  go_ret
  exact ⟨rfl, HB.out⟩
end Go.Proofs.YtjnbjdbndbbanaaGreatDoor
namespace Go.Proofs.YtjnbjdbndbbanaaGreatDoor
def nonsOf (g : GramD) : Nat := g.2.1.toNat
theorem rulesN_of {g : GramD} (hv : GValid g) : RulesN (nonsOf g) g.2.2.2 := fun r hr => by
 obtain ⟨⟨h1, h2⟩, h3, h4⟩ := hv.rules r hr
 refine ⟨⟨h1, by unfold nonsOf; omega⟩, fun s hs hf => ?_⟩
 obtain ⟨k1, k2⟩ := h4 s hs
 rw [hf] at k2
 simp only [Bool.false_eq_true, if_false] at k2
 exact ⟨k1, by unfold nonsOf; omega⟩
end Go.Proofs.YtjnbjdbndbbanaaGreatDoor
namespace Go.Proofs.YtjnbjdbndbbanaaGreatDoor
open Go.RowKit
structure Lay where
 Bc : Nat
 lo : Nat
 l2 : Nat
 l3 : Nat
 hi : Nat
 g1 : Nat
 g2 : Nat
 g3 : Nat
 c1 : Nat
 c2 : Nat
 c3 : Nat
 s1 : Nat → Nat
 s2 : Nat → Nat
 s3 : Nat → Nat
 AR : Option Addr
 nR : Nat
 cR : Nat
def ctrCells (L : Lay) (g : GramD) (n : Nat) : Array Value := #[.int .i64 g.1, .int .i64 g.2.1, .int .i64 g.2.2.1, .slice L.AR L.nR L.cR, .int .i64 n, .slice (some ⟨L.g1, 0, none⟩) (nonsOf g) L.c1, .slice (some ⟨L.g2, 0, none⟩) (nonsOf g) L.c2, .slice (some ⟨L.g3, 0, none⟩) (nonsOf g) L.c3]
structure Ctr (w : World) (L : Lay) (g : GramD) (n : Nat) (S M : Nat → Nat → Bool) (K : Nat → Nat → Int) : Prop where
 blk : w.heap[L.Bc]? = some (.cells (ctrCells L g n) 93 (0, 0))
 rules : Sl RRule w (fun b => b < L.lo) L.AR L.nR L.cR g.2.2.2
 gS : Grid Value.bool 4 w L.lo L.l2 L.g1 L.s1 (nonsOf g) (n + 1) S
 gM : Grid Value.bool 4 w L.l2 L.l3 L.g2 L.s2 (nonsOf g) (n + 1) M
 gK : Grid (Value.int .i64) 3 w L.l3 L.hi L.g3 L.s3 (nonsOf g) (n + 1) K
 o1 : L.lo ≤ L.l2
 o2 : L.l2 ≤ L.l3
 o3 : L.l3 ≤ L.hi
 o4 : L.hi ≤ L.Bc
section
variable {w w' : World} {L : Lay} {g : GramD} {n : Nat} {S M : Nat → Nat → Bool} {K : Nat → Nat → Int}
theorem Ctr.lt (h : Ctr w L g n S M K) : L.Bc < w.heap.size := heap_lt h.blk
theorem Ctr.cell (h : Ctr w L g n S M K) (i : Nat) : w.cell? ⟨L.Bc, i, none⟩ = (ctrCells L g n)[i]? := cell_of_row w _ i _ _ _ h.blk
theorem Ctr.keep (h : Ctr w L g n S M K) (hk : ∀ q, q < L.Bc + 1 → w'.heap[q]? = w.heap[q]?) : Ctr w' L g n S M K := by
 have h1 := h.o1
 have h2 := h.o2
 have h3 := h.o3
 have h4 := h.o4
 exact ⟨(hk _ (by omega)).trans h.blk, h.rules.keep (fun p u hp hu => (World.cell?_of_block (hk p.block (by omega))).trans hu), h.gS.keep (fun q _ hq => hk q (by omega)), h.gM.keep (fun q _ hq => hk q (by omega)), h.gK.keep (fun q _ hq => hk q (by omega)), h1, h2, h3, h4⟩
theorem Ctr.below (h : Ctr w L g n S M K) (hb : Below w.heap.size w w') : Ctr w' L g n S M K := h.keep fun q hq => hb.block q (by have := h.lt; omega)
theorem Ctr.drewN (h : Ctr w L g n S M K) (k : Nat) : Ctr (w.drewN k) L g n S M K := h.keep fun _ _ => rfl
theorem Ctr.drew (h : Ctr w L g n S M K) : Ctr w.drew L g n S M K := h.keep fun _ _ => rfl
theorem Ctr.congrS {S' : Nat → Nat → Bool} (h : Ctr w L g n S M K) (hS : ∀ a k, a < nonsOf g → k < n + 1 → S a k = S' a k) : Ctr w L g n S' M K := { h with gS := h.gS.congr hS }
theorem Ctr.setS (h : Ctr w L g n S M K) {a : Nat} (k : Nat) (ha : a < nonsOf g) (x : Bool) : Ctr (w.setCell ⟨L.s1 a, k, none⟩ (.bool x)) L g n (fun b j => if b = a ∧ j = k then x else S b j) M K := by
 have h1 := h.o1
 have h2 := h.o2
 have h3 := h.o3
 have h4 := h.o4
 obtain ⟨r1, r2, r3⟩ := h.gS.rng a ha
 have hne : ∀ q, q ≠ L.s1 a → (w.setCell ⟨L.s1 a, k, none⟩ (.bool x)).heap[q]? = w.heap[q]? := fun q hq => Below.heap_setCell _ _ _ _ hq
 exact ⟨(hne _ (by omega)).trans h.blk, h.rules.keep (.setCell _ _ _ _ (by simp; omega)), h.gS.set k ha x, h.gM.keep (fun q hq _ => hne q (by omega)), h.gK.keep (fun q hq _ => hne q (by omega)), h1, h2, h3, h4⟩
theorem Ctr.setM (h : Ctr w L g n S M K) {a : Nat} (k : Nat) (ha : a < nonsOf g) (x : Bool) : Ctr (w.setCell ⟨L.s2 a, k, none⟩ (.bool x)) L g n S (fun b j => if b = a ∧ j = k then x else M b j) K := by
 have h1 := h.o1
 have h2 := h.o2
 have h3 := h.o3
 have h4 := h.o4
 obtain ⟨r1, r2, r3⟩ := h.gM.rng a ha
 have hne : ∀ q, q ≠ L.s2 a → (w.setCell ⟨L.s2 a, k, none⟩ (.bool x)).heap[q]? = w.heap[q]? := fun q hq => Below.heap_setCell _ _ _ _ hq
 exact ⟨(hne _ (by omega)).trans h.blk, h.rules.keep (.setCell _ _ _ _ (by simp; omega)), h.gS.keep (fun q _ hq => hne q (by omega)), h.gM.set k ha x, h.gK.keep (fun q hq _ => hne q (by omega)), h1, h2, h3, h4⟩
theorem Ctr.setK (h : Ctr w L g n S M K) {a : Nat} (k : Nat) (ha : a < nonsOf g) (x : Int) : Ctr (w.setCell ⟨L.s3 a, k, none⟩ (.int .i64 x)) L g n S M (fun b j => if b = a ∧ j = k then x else K b j) := by
 have h1 := h.o1
 have h2 := h.o2
 have h3 := h.o3
 have h4 := h.o4
 obtain ⟨r1, r2, r3⟩ := h.gK.rng a ha
 have hne : ∀ q, q ≠ L.s3 a → (w.setCell ⟨L.s3 a, k, none⟩ (.int .i64 x)).heap[q]? = w.heap[q]? := fun q hq => Below.heap_setCell _ _ _ _ hq
 exact ⟨(hne _ (by omega)).trans h.blk, h.rules.keep (.setCell _ _ _ _ (by simp; omega)), h.gS.keep (fun q _ hq => hne q (by omega)), h.gM.keep (fun q _ hq => hne q (by omega)), h.gK.set k ha x, h1, h2, h3, h4⟩
end
set_option maxRecDepth 100000 in
set_option maxHeartbeats 1000000 in
theorem ctrHas {L : Lay} {g : GramD} {n : Nat} {S M : Nat → Nat → Bool} {K : Nat → Nat → Int} (w : World) (h : Ctr w L g n S M K) (s : SymD) (hs : NonOk (nonsOf g) [s]) (k : Nat) (hk : k ≤ n) :
    Calls Tryz.prog 44 #[.pointer (some ⟨L.Bc, 0, none⟩), .agg #[.bool s.1, .int .i64 s.2], .int .i64 k] w fun e w' => e = .returned (.bool (hasT S s k)) ∧ Below w.heap.size w w' := by
 obtain ⟨t, x⟩ := s
 cases t with
 | true =>
  have hd : hasT S (true, x) k = ((k : Int) == 1) := by
   rw [Bool.eq_iff_iff]; simp [hasT]; omega
  have HD := zh hd
  clear hd h hs
  dsimp only
  go_enter Tryz.func44, Tryz.ntmps44
  go_wp2_with fail
  go_ret
  exact ⟨ret_bool HD.out.symm, (Below.refl _ _).alloc (Nat.le_refl _) _⟩
 | false =>
  obtain ⟨h0, h1⟩ := hs (false, x) (by simp) rfl
  dsimp only at h0 h1 ⊢
  obtain ⟨a, rfl⟩ : ∃ a : Nat, x = (a : Int) := ⟨x.toNat, by omega⟩
  rw [Int.toNat_natCast] at h1
  have hd : hasT S (false, (a : Int)) k = S a k := by simp [hasT]
  have HD := zh hd
  have hc5 : w.cell? ⟨L.Bc, 5, none⟩ = some (.slice (some ⟨L.g1, 0, none⟩) (nonsOf g) L.c1) := h.cell 5
  have hch := h.gS.hdr a h1
  have hcc := h.gS.cell h1 (show k < n + 1 by omega)
  have l1 := cell_lt hc5
  have l2 := cell_lt hch
  have l3 := cell_lt hcc
  have i1 : (a : Int) < (nonsOf g : Int) := by omega
  have i2 : (k : Int) < ((n + 1 : Nat) : Int) := by omega
  have i3 : (0 : Int) ≤ (a : Int) := by omega
  have i4 : (0 : Int) ≤ (k : Int) := by omega
  generalize nonsOf g = N at *
  generalize L.Bc = Bc at *
  generalize L.g1 = g1 at *
  generalize L.s1 a = s1 at *
  generalize S a k = b at *
  clear hd h hs h0
  go_enter Tryz.func44, Tryz.ntmps44
  go_wp2_with fail
  go_quiet (fail)
  go_wp2_with fail
  go_ret
  exact ⟨ret_bool HD.out.symm, belowN ((Below.refl _ _).alloc (Nat.le_refl _) _) _⟩
theorem Sl.cutl {α : Type} {R : Rep α} {P : Program} {T E s bytes : Nat} {z : Value} (hT : SlType P T E s bytes z) (hs : R.size = s) {w : World} {S : Nat → Prop} {A : Option Addr} {n c : Nat} {l : List α} (h : Sl R w S A n c l) (k : Nat) (hk : k ≤ n) :
    ∃ A', (∀ u, (Instr.slice T (.slice A n c) (some (.int .i64 (k : Int))) none none).run P u = .ok (.slice A' (n - k) (c - k)) u) ∧ Sl R w S A' (n - k) (c - k) (l.drop k) := by
 subst hs
 obtain ⟨xs, h1, h2, h3, h4⟩ := h
 obtain ⟨A', hrun, hr⟩ := hT.cutl (c := c) h3 (k : Int) (by omega) (by omega) h2
 rw [Int.toNat_natCast] at hr
 refine ⟨A', fun u => by rw [hrun u, Int.toNat_natCast], xs.drop (k * R.size), by rw [List.length_drop]; omega, by omega, hr, h4.drop⟩
set_option maxRecDepth 100000 in
set_option maxHeartbeats 2000000 in
theorem ctrCan {L : Lay} {g : GramD} {n : Nat} {S M : Nat → Nat → Bool} {K : Nat → Nat → Int} (hn : n ≤ 1000) : ∀ (l : List SymD) (w : World) (_ : Ctr w L g n S M K) (S' : Nat → Prop) (A : Option Addr) (m c : Nat) (_ : Sl RSym w S' A m c l) (_ : NonOk (nonsOf g) l) (k : Nat) (_ : k ≤ n),
    Calls Tryz.prog 42 #[.pointer (some ⟨L.Bc, 0, none⟩), .slice A m c, .int .i64 k] w fun e w' => e = .returned (.bool (canT S l k)) ∧ Below w.heap.size w w'
 | [], w, h, S', A, m, c, hl, ho, k, hk => by
  have hm := hl.len
  simp only [List.length_nil] at hm
  subst hm
  have hd : canT S [] k = ((k : Int) == 0) := by
   rw [Bool.eq_iff_iff]; simp [canT]
  have HD := zh hd
  clear hd h hl ho
  go_enter Tryz.func42, Tryz.ntmps42
  go_wp2_with fail
  go_ret
  exact ⟨ret_bool HD.out.symm, Below.refl _ _⟩
 | s :: l, w, h, S', A, m, c, hl, ho, k, hk => by
  have hm := hl.len
  rw [List.length_cons] at hm
  obtain ⟨b, off, s', rfl, _, _, hc1, hc2, hs0⟩ := sym_at hl (k := 0) (by omega)
  obtain rfl : s = s' := by simpa using hs0
  rw [Nat.zero_mul, Nat.add_zero] at hc1 hc2
  obtain ⟨A', hcut, hl'⟩ := hl.cutl tSyms rfl 1 (by omega)
  rw [List.drop_succ_cons, List.drop_zero] at hl'
  simp only [Int.cast_ofNat_Int] at hcut
  have hme : ((m : Int) == 0) = false := by simp; omega
  have hm1 : 0 < m := by omega
  have HC := zh h
  have HL := zh hl'
  have HO1 := zh ho.head
  have HO2 := zh ho.tail
  have HS0 := zh hc1
  have HS1 := zh hc2
  have ih := fun w' => ctrCan (L := L) (g := g) (S := S) (M := M) (K := K) hn l w'
  have HIH := zh ih
  clear h hl hl' ho hs0 hc1 hc2 ih hm
  go_enter Tryz.func42, Tryz.ntmps42
  go_wp2_with fail
  go_loopg [15] (k + 1) (fun gk i wr => ∃ j : Nat, j ≤ k + 1 ∧ gk = k + 1 - j ∧ i = .int .i64 j ∧ (∀ i, i < j → (hasT S s i && canT S l (k - i)) = false) ∧ Below w.heap.size w wr)
  case atStart => exact ⟨0, Nat.zero_le _, rfl, rfl, (fun i hi => absurd hi (by omega)), Below.refl _ _⟩
  case round =>
   obtain ⟨j, hj, hgj, rfl, hno, hb⟩ := hrel
   have HGJ := zh hgj
   have HNO := zh hno
   have HB := zh hb
   have hc1 := Kept.below (S := fun _ => True) hb _ _ trivial HS0.out
   have hc2 := Kept.below (S := fun _ => True) hb _ _ trivial HS1.out
   clear hgj hno hb
   by_cases hjl : j < k + 1
   ·
    go_wp2_with fail
    refine (ctrHas _ (HC.out.below HB.out) s HO1.out j (by omega)).mono ?_
    rintro e w1 ⟨rfl, hb1⟩
    have HB1 := zh (HB.out.trans (hb1.mono HB.out.size))
    clear hb1
    cases hh : hasT S s j with
    | false =>
     have HH := zh hh
     clear hh
     go_wp2_with fail
     go_roundg (k + 1 - (j + 1))
     case measure => rw [HGJ.out]; omega
     case rel =>
      refine ⟨j + 1, by omega, rfl, by go_num, fun i hi => ?_, HB1.out⟩
      rcases Nat.lt_succ_iff_lt_or_eq.1 hi with h | rfl
      · exact HNO.out i h
      rw [HH.out]; rfl
    | true =>
     have HH := zh hh
     clear hh
     have hki : ((k : Int) - (j : Int)) = ((k - j : Nat) : Int) := by omega
     have HKI := zh hki
     clear hki
     go_wp2_with fail
     rw [HKI.out]
     refine (HIH.out _ (HC.out.below HB1.out) _ _ _ _ (HL.out.below HB1.out) HO2.out (k - j) (by omega)).mono ?_
     rintro e w2 ⟨rfl, hb2⟩
     have HB2 := zh (HB1.out.trans (hb2.mono HB1.out.size))
     clear hb2
     cases hh : canT S l (k - j) with
     | false =>
      have HH2 := zh hh
      clear hh
      go_wp2_with fail
      go_roundg (k + 1 - (j + 1))
      case measure => rw [HGJ.out]; omega
      case rel =>
       refine ⟨j + 1, by omega, rfl, by go_num, fun i hi => ?_, HB2.out⟩
       rcases Nat.lt_succ_iff_lt_or_eq.1 hi with h | rfl
       · exact HNO.out i h
       rw [HH.out, HH2.out]; rfl
     | true =>
      have HH2 := zh hh
      clear hh
      go_wp2_with fail
      go_ret
      exact ⟨ret_bool (canT_cons.2 ⟨j, by omega, HH.out, HH2.out⟩).symm, HB2.out⟩
   go_wp2_with fail
   go_ret
   refine ⟨ret_bool ?_, HB.out⟩
   symm
   rw [Bool.eq_false_iff]
   intro hc
   obtain ⟨i, hi, h1, h2⟩ := canT_cons.1 hc
   have := HNO.out i (by omega)
   rw [h1, h2] at this
   cases this
set_option maxRecDepth 100000 in
set_option maxHeartbeats 2000000 in
theorem ctrSplit {L : Lay} {g : GramD} {n : Nat} {S M : Nat → Nat → Bool} {K : Nat → Nat → Int} (hn : n ≤ 1000) (w : World) (h : Ctr w L g n S M K) (Sa Sb : Nat → Prop) (A : Option Addr) (m c : Nat) (la : List SymD) (ha : Sl RSym w Sa A m c la) (hoa : NonOk (nonsOf g) la)
    (B : Option Addr) (m' c' : Nat) (lb : List SymD) (hb : Sl RSym w Sb B m' c' lb) (hob : NonOk (nonsOf g) lb) (k : Nat) (hk : k ≤ n) :
    Calls Tryz.prog 67 #[.pointer (some ⟨L.Bc, 0, none⟩), .slice A m c, .slice B m' c', .int .i64 k] w fun e w' => e = .returned (.bool (splitT S la lb k)) ∧ Below w.heap.size w w' := by
 have HC := zh h
 have HA := zh ha
 have HBB := zh hb
 have HOA := zh hoa
 have HOB := zh hob
 clear h ha hb hoa hob
 go_enter Tryz.func67, Tryz.ntmps67
 go_wp2_with fail
 go_loopg [12] (k + 1) (fun gk i wr => ∃ j : Nat, j ≤ k + 1 ∧ gk = k + 1 - j ∧ i = .int .i64 j ∧ (∀ i, i < j → (canT S la i && canT S lb (k - i)) = false) ∧ Below w.heap.size w wr)
 case atStart => exact ⟨0, Nat.zero_le _, rfl, rfl, (fun i hi => absurd hi (by omega)), Below.refl _ _⟩
 case round =>
  obtain ⟨j, hj, hgj, rfl, hno, hb⟩ := hrel
  have HGJ := zh hgj
  have HNO := zh hno
  have HB := zh hb
  clear hgj hno hb
  by_cases hjl : j < k + 1
  ·
   go_wp2_with fail
   refine (ctrCan hn la _ (HC.out.below HB.out) _ _ _ _ (HA.out.below HB.out) HOA.out j (by omega)).mono ?_
   rintro e w1 ⟨rfl, hb1⟩
   have HB1 := zh (HB.out.trans (hb1.mono HB.out.size))
   clear hb1
   cases hh : canT S la j with
   | false =>
    have HH := zh hh
    clear hh
    go_wp2_with fail
    go_roundg (k + 1 - (j + 1))
    case measure => rw [HGJ.out]; omega
    case rel =>
     refine ⟨j + 1, by omega, rfl, by go_num, fun i hi => ?_, HB1.out⟩
     rcases Nat.lt_succ_iff_lt_or_eq.1 hi with h | rfl
     · exact HNO.out i h
     rw [HH.out]; rfl
   | true =>
    have HH := zh hh
    clear hh
    have hki : ((k : Int) - (j : Int)) = ((k - j : Nat) : Int) := by omega
    have HKI := zh hki
    clear hki
    go_wp2_with fail
    rw [HKI.out]
    refine (ctrCan hn lb _ (HC.out.below HB1.out) _ _ _ _ (HBB.out.below HB1.out) HOB.out (k - j) (by omega)).mono ?_
    rintro e w2 ⟨rfl, hb2⟩
    have HB2 := zh (HB1.out.trans (hb2.mono HB1.out.size))
    clear hb2
    cases hh : canT S lb (k - j) with
    | false =>
     have HH2 := zh hh
     clear hh
     go_wp2_with fail
     go_roundg (k + 1 - (j + 1))
     case measure => rw [HGJ.out]; omega
     case rel =>
      refine ⟨j + 1, by omega, rfl, by go_num, fun i hi => ?_, HB2.out⟩
      rcases Nat.lt_succ_iff_lt_or_eq.1 hi with h | rfl
      · exact HNO.out i h
      rw [HH.out, HH2.out]; rfl
    | true =>
     have HH2 := zh hh
     clear hh
     go_wp2_with fail
     go_ret
     exact ⟨ret_bool (splitT_iff.2 ⟨j, by omega, HH.out, HH2.out⟩).symm, HB2.out⟩
  go_wp2_with fail
  go_ret
  refine ⟨ret_bool ?_, HB.out⟩
  symm
  rw [Bool.eq_false_iff]
  intro hc
  obtain ⟨i, hi, h1, h2⟩ := splitT_iff.1 hc
  have := HNO.out i (by omega)
  rw [h1, h2] at this
  cases this
end Go.Proofs.YtjnbjdbndbbanaaGreatDoor
