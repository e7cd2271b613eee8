/- GramCheck -/
import Derived.Test.YtimklgbljjamkaaDoorCs09
import Derived.Test.YtimklgbljjamkaaDoorCs13
import Derived.Test.YtimklgbljjamkaaDoorCs14
namespace Go.Proofs.YtimklgbljjamkaaDoor
open Go.RowKit
def firstNZ : List Int → Int
 | [] => 0
 | a :: l => if a = 0 then firstNZ l else a
theorem firstNZ_drop {l : List Int} {k : Nat} {x : Int} (h : l[k]? = some x) : firstNZ (l.drop k) = if x = 0 then firstNZ (l.drop (k + 1)) else x := by
 obtain ⟨h1, rfl⟩ := List.getElem?_eq_some_iff.1 h
 rw [List.drop_eq_getElem_cons h1]
 rfl
set_option maxHeartbeats 1000000 in
theorem cmpOr (w : World) (S : Nat → Prop) (A : Option Addr) (n c : Nat) (l : List Int) (hl : Rd w S 1 A n (l.map (Value.int .i64))) (hn : n ≤ 1000) :
    Calls Tryd.prog 77 #[.slice A n c] w fun e w' => e = .returned (.int .i64 (firstNZ l)) ∧ w = w' := by
 have hlen : l.length = n := by simpa using hl.1
 have HLL := Lib.hid hlen
 have HL := Lib.hid hl
 clear hl hlen
 go_enter Tryd.func77, Tryd.ntmps77
 go_wp2_with fail
 go_loop [8] (fun i => ∃ k : Nat, k ≤ n ∧ i = .int .i64 k ∧ firstNZ l = firstNZ (l.drop k)) (fun i => n - (intOf i).toNat)
 case atStart => exact ⟨0, Nat.zero_le _, rfl, rfl⟩
 case round =>
  obtain ⟨k, hk, rfl, heq⟩ := hrel
  have HEQ := Lib.hid heq
  clear heq
  by_cases hlt : k < n
  ·
   obtain ⟨b, off, x, rfl, _, hx, hcell⟩ := HL.out.int_at hlt
   have HSTEP := Lib.hid (firstNZ_drop hx)
   clear hx
   by_cases h0 : x = 0
   ·
    subst h0
    go_wp2_with fail
    go_round
    case rel => exact ⟨k + 1, by omega, by go_num, by rw [HEQ.out, HSTEP.out, if_pos rfl]⟩
    case measure => simp [intOf]; omega
   ·
    have h0' : (x != 0) = true := by simp [h0]
    have H0 := Lib.hid h0
    clear h0
    go_wp2_with fail
    go_ret
    exact ⟨ret_int (by rw [HEQ.out, HSTEP.out, if_neg H0.out]), rfl⟩
  ·
   go_wp2_with fail
   go_ret
   exact ⟨ret_int (by rw [HEQ.out, List.drop_of_length_le (by rw [HLL.out]; omega)]; rfl), rfl⟩
set_option linter.unusedSimpArgs false in
set_option maxRecDepth 100000 in
set_option maxHeartbeats 1000000 in
theorem gramCompare (w : World) (S S' : Nat → Prop) (A : Option Addr) (n c : Nat) (a : RuleD) (hl : Sl RSym w S A n c a.2) (A' : Option Addr) (n' c' : Nat) (b : RuleD) (hm : Sl RSym w S' A' n' c' b.2) (hn : n ≤ 1000) (hn' : n' ≤ 1000) :
    Calls Tryd.prog 69 #[.agg #[.int .i64 a.1, .slice A n c], .agg #[.int .i64 b.1, .slice A' n' c']] w fun e w' => e = .returned (.int .i64 (cmpRule a b)) ∧ Below w.heap.size w w' := by
 have hd : cmpRule a b = firstNZ [cmpInt a.1 b.1, cmpSyms a.2 b.2] := by
  unfold cmpRule firstNZ
  split
  ·
   unfold firstNZ
   split
   ·
    rename_i h; rw [h]; rfl
   ·
    rfl
  ·
   rfl
 have HD := Lib.hid hd
 have HL := Lib.hid hl
 have HM := Lib.hid hm
 clear hl hm hd
 go_enter Tryd.func69, Tryd.ntmps69
 go_wp2_with fail
 have hu : Below w.heap.size w (((w.alloc (.cells #[.int .i64 a.1, .slice A n c] 61)).alloc (.cells #[.int .i64 b.1, .slice A' n' c'] 61)).drew) := (((Below.refl _ _).alloc (Nat.le_refl _) _).alloc (by simp) _).drew
 have hk0 : ∀ u : World, Below (w.heap.size + 1 + 1) (((w.alloc (.cells #[.int .i64 a.1, .slice A n c] 61)).alloc (.cells #[.int .i64 b.1, .slice A' n' c'] 61)).drew) u →
     u.cell? ⟨w.heap.size, 0, none⟩ = some (.int .i64 a.1) ∧ u.cell? ⟨w.heap.size, 1, none⟩ = some (.slice A n c) ∧ u.cell? ⟨w.heap.size + 1, 0, none⟩ = some (.int .i64 b.1) ∧ u.cell? ⟨w.heap.size + 1, 1, none⟩ = some (.slice A' n' c') := by
  intro u hu
  refine ⟨(hu.cell (by simp; omega)).trans ?_, (hu.cell (by simp; omega)).trans ?_, (hu.cell (by simp)).trans ?_, (hu.cell (by simp)).trans ?_⟩ <;> simp
 have HALL := Lib.hid hk0
 have HK := Lib.hid (hk0 _ (Below.refl _ _))
 have HU := Lib.hid hu
 clear hk0 hu
 refine wp_region_late (late := []) (S1 := fun u => u.cell? ⟨w.heap.size, 0, none⟩ = some (.int .i64 a.1) ∧ u.cell? ⟨w.heap.size, 1, none⟩ = some (.slice A n c) ∧ u.cell? ⟨w.heap.size + 1, 0, none⟩ = some (.int .i64 b.1) ∧ u.cell? ⟨w.heap.size + 1, 1, none⟩ = some (.slice A' n' c')) (S := fun _ => True) (by kernel_rfl) ?_
 refine wpAnyL_pure (i := 0) rfl (by kernel_rfl) (fun _ _ _ h => h) (Or.inl ⟨by rfl, (fun u hu => by obtain ⟨k0, k1, k2, k3⟩ := hu; go_simp; try rfl)⟩) HK.out (fun _ => trivial) ?_
 simp only [Act.put, List.setIfInBounds_toArray, List.set_cons_zero, List.set_cons_succ, List.getElem_toArray, List.getElem_cons_zero, List.getElem_cons_succ]
 refine wpAnyL_pure (i := 1) rfl (by kernel_rfl) (fun _ _ _ h => h) (Or.inl ⟨by rfl, (fun u hu => by obtain ⟨k0, k1, k2, k3⟩ := hu; go_simp; try rfl)⟩) HK.out (fun _ => trivial) ?_
 simp only [Act.put, List.setIfInBounds_toArray, List.set_cons_zero, List.set_cons_succ, List.getElem_toArray, List.getElem_cons_zero, List.getElem_cons_succ]
 refine wpAnyL_pure (i := 2) rfl (by kernel_rfl) (fun _ _ _ h => h) (Or.inl ⟨by rfl, (fun u hu => by obtain ⟨k0, k1, k2, k3⟩ := hu; go_simp; try rfl)⟩) HK.out (fun _ => trivial) ?_
 simp only [Act.put, List.setIfInBounds_toArray, List.set_cons_zero, List.set_cons_succ, List.getElem_toArray, List.getElem_cons_zero, List.getElem_cons_succ]
 refine wpAnyL_pure (i := 3) rfl (by kernel_rfl) (fun _ _ _ h => h) (Or.inl ⟨by rfl, (fun u hu => by obtain ⟨k0, k1, k2, k3⟩ := hu; go_simp; try rfl)⟩) HK.out (fun _ => trivial) ?_
 simp only [Act.put, List.setIfInBounds_toArray, List.set_cons_zero, List.set_cons_succ, List.getElem_toArray, List.getElem_cons_zero, List.getElem_cons_succ]
 refine wpAnyL_pure (i := 5) rfl (by kernel_rfl) (fun _ _ _ h => h) (Or.inl ⟨by rfl, (fun u hu => by obtain ⟨k0, k1, k2, k3⟩ := hu; go_simp; try rfl)⟩) HK.out (fun _ => trivial) ?_
 simp only [Act.put, List.setIfInBounds_toArray, List.set_cons_zero, List.set_cons_succ, List.getElem_toArray, List.getElem_cons_zero, List.getElem_cons_succ]
 refine wpAnyL_pure (i := 6) rfl (by kernel_rfl) (fun _ _ _ h => h) (Or.inl ⟨by rfl, (fun u hu => by obtain ⟨k0, k1, k2, k3⟩ := hu; go_simp; try rfl)⟩) HK.out (fun _ => trivial) ?_
 simp only [Act.put, List.setIfInBounds_toArray, List.set_cons_zero, List.set_cons_succ, List.getElem_toArray, List.getElem_cons_zero, List.getElem_cons_succ]
 refine wpAnyL_pure (i := 7) rfl (by kernel_rfl) (fun _ _ _ h => h) (Or.inl ⟨by rfl, (fun u hu => by obtain ⟨k0, k1, k2, k3⟩ := hu; go_simp; try rfl)⟩) HK.out (fun _ => trivial) ?_
 simp only [Act.put, List.setIfInBounds_toArray, List.set_cons_zero, List.set_cons_succ, List.getElem_toArray, List.getElem_cons_zero, List.getElem_cons_succ]
 refine wpAnyL_pure (i := 8) rfl (by kernel_rfl) (fun _ _ _ h => h) (Or.inl ⟨by rfl, (fun u hu => by obtain ⟨k0, k1, k2, k3⟩ := hu; go_simp; try rfl)⟩) HK.out (fun _ => trivial) ?_
 simp only [Act.put, List.setIfInBounds_toArray, List.set_cons_zero, List.set_cons_succ, List.getElem_toArray, List.getElem_cons_zero, List.getElem_cons_succ]
 refine wpAnyL_ready (rs := [4]) (by kernel_rfl) (by simp) ?_
 refine AllL.cons rfl (fun K hK => ?_) ?_
 ·
  go_simp
  refine (cmpCompare _ _ _).mono ?_
  rintro e _ ⟨rfl, rfl⟩
  refine hK.out _ _ HK.out (fun _ => trivial) ?_
  clear hK K
  refine wpAnyL_ready (rs := [9]) (by kernel_rfl) (by simp) ?_
  refine AllL.cons rfl (fun K hK => ?_) ?_
  ·
   go_simp
   refine (compareSyms _ _ _ _ _ _ a.2 (HL.out.below HU.out) _ _ _ b.2 (HM.out.below HU.out) hn hn').mono ?_
   rintro e w9 ⟨rfl, hb9⟩
   have hb9' : Below (w.heap.size + 1 + 1) _ w9 := hb9.mono (by simp)
   have HK9 := Lib.hid (HALL.out _ hb9')
   have HB9 := Lib.hid (HU.out.trans (hb9.mono HU.out.size))
   have HB9' := Lib.hid hb9'
   have hz9 := hb9.size
   simp at hz9
   clear hb9 hb9'
   refine hK.out _ _ HK9.out (fun _ => trivial) ?_
   clear hK K
   refine wpAnyL_ready (rs := [10]) (by kernel_rfl) (by simp) ?_
   refine AllL.cons rfl (fun K hK => ?_) ?_
   ·
    go_simp
    refine hK.out _ _ (HALL.out _ (HB9'.out.alloc (by omega) _)) (fun _ => trivial) ?_
    clear hK K
    refine wpAnyL_ready (rs := [11]) (by kernel_rfl) (by simp) ?_
    refine AllL.cons rfl (fun K hK => ?_) ?_
    ·
     go_simp
     refine (cmpOr _ (fun _ => True) _ _ _ [cmpInt a.1 b.1, cmpSyms a.2 b.2] (Rd.new w9 _ _ [_, _] _ rfl trivial) (by simp)).mono ?_
     rintro e _ ⟨rfl, rfl⟩
     refine hK.out _ _ (HALL.out _ (HB9'.out.alloc (by omega) _)) (fun _ => trivial) ?_
     clear hK K
     refine wpAnyL_pure (i := 12) rfl (by kernel_rfl) (fun _ _ _ h => h) (Or.inl ⟨by rfl, (fun u hu => by obtain ⟨k0, k1, k2, k3⟩ := hu; go_simp; try rfl)⟩) (HALL.out _ (HB9'.out.alloc (by omega) _)) (fun _ => trivial) ?_
     simp only [Act.put, List.setIfInBounds_toArray, List.set_cons_zero, List.set_cons_succ, List.getElem_toArray, List.getElem_cons_zero, List.getElem_cons_succ]
     refine wpAnyL_done (by kernel_rfl) ?_ _
     go_wp2_with fail
     go_ret
     exact ⟨ret_int HD.out.symm, HB9.out.alloc HB9.out.size _⟩
    exact AllL.nil
   exact AllL.nil
  exact AllL.nil
 exact AllL.nil
set_option maxHeartbeats 1000000 in
theorem gramHas (w : World) (T N st : Int) (AR : Option Addr) (nR cR : Nat) (s : SymD) (hs : SymOk T N s) :
    Calls Tryd.prog 57 #[.agg #[.int .i64 T, .int .i64 N, .int .i64 st, .slice AR nR cR], .agg #[.bool s.1, .int .i64 s.2]] w fun e w' => e = .returned (.bool true) ∧ Below w.heap.size w w' := by
 obtain ⟨h1, h2⟩ := hs
 obtain ⟨b, x⟩ := s
 dsimp only at *
 have d1 : decide (0 ≤ x) = true := by simp; omega
 have HB := Lib.hid (((Below.refl w.heap.size w).alloc (Nat.le_refl _) (.cells #[.int .i64 T, .int .i64 N, .int .i64 st, .slice AR nR cR] 25)).alloc (by simp) (.cells #[.bool b, .int .i64 x] 63))
 cases b
 ·
  have d2 : decide (x < N) = true := by simpa using h2
  clear h2
  go_enter Tryd.func57, Tryd.ntmps57
  go_wp2_with fail
  go_ret
  exact ⟨rfl, HB.out⟩
 ·
  have d2 : decide (x < T) = true := by simpa using h2
  clear h2
  go_enter Tryd.func57, Tryd.ntmps57
  go_wp2_with fail
  go_ret
  exact ⟨rfl, HB.out⟩
set_option maxHeartbeats 1000000 in
theorem checkFn1 (w : World) (B : Nat) (T N st : Int) (AR : Option Addr) (nR cR : Nat) (hB : w.heap[B]? = some (.cells #[.int .i64 T, .int .i64 N, .int .i64 st, .slice AR nR cR] 25 (0, 0))) (s : SymD) (hs : SymOk T N s) :
    Calls Tryd.prog 66 #[.agg #[.bool s.1, .int .i64 s.2], .pointer (some ⟨B, 0, none⟩)] w fun e w' => e = .returned (.bool false) ∧ Below w.heap.size w w' := by
 have h0 : w.cell? ⟨B, 0, none⟩ = some (.int .i64 T) := by simp [World.cell?, hB]
 have h1 : w.cell? ⟨B, 1, none⟩ = some (.int .i64 N) := by simp [World.cell?, hB]
 have h2 : w.cell? ⟨B, 2, none⟩ = some (.int .i64 st) := by simp [World.cell?, hB]
 have h3 : w.cell? ⟨B, 3, none⟩ = some (.slice AR nR cR) := by simp [World.cell?, hB]
 have hl := heap_lt hB
 have HS := Lib.hid hs
 clear hB hs
 go_enter Tryd.func66, Tryd.ntmps66
 go_wp2_with fail
 refine (gramHas _ _ _ _ _ _ _ s HS.out).mono ?_
 rintro e w1 ⟨rfl, hb1⟩
 have HB1 := Lib.hid (((Below.refl w.heap.size w).alloc (Nat.le_refl _) _).trans (hb1.mono (by simp)))
 clear hb1
 go_wp2_with fail
 go_ret
 exact ⟨rfl, HB1.out⟩
theorem tellsCheck1 (w : World) (B : Nat) (T N st : Int) (AR : Option Addr) (nR cR : Nat) (hB : w.heap[B]? = some (.cells #[.int .i64 T, .int .i64 N, .int .i64 st, .slice AR nR cR] 25 (0, 0))) :
    TellsS Tryd.prog w (SymOk T N) (fun _ => false) 66 #[.pointer (some ⟨B, 0, none⟩)] := fun w' hb s hs => checkFn1 w' B T N st AR nR cR ((hb.block B (heap_lt hB)).trans hB) s hs
theorem entersCheck1 : ∀ (args : Array Value) (u : World), (callFunc 66 args).run Tryd.prog u = .ok (.enter 66 args) u := enters_of Tryd.func66 (by kernel_rfl) rfl
set_option maxHeartbeats 1000000 in
theorem checkFn2 (w : World) (B : Nat) (S S' : Nat → Prop) (A : Option Addr) (n c : Nat) (a : RuleD) (hl : Sl RSym w S A n c a.2) (A' : Option Addr) (n' c' : Nat) (b : RuleD) (hm : Sl RSym w S' A' n' c' b.2) (hn : n ≤ 1000) (hn' : n' ≤ 1000)
    (hB : w.heap[B]? = some (.cells #[.int .i64 b.1, .slice A' n' c'] 61 (0, 0))) :
    Calls Tryd.prog 68 #[.agg #[.int .i64 a.1, .slice A n c], .pointer (some ⟨B, 0, none⟩)] w fun e w' => e = .returned (.bool (decide (a = b))) ∧ Below w.heap.size w w' := by
 have h0 : w.cell? ⟨B, 0, none⟩ = some (.int .i64 b.1) := by simp [World.cell?, hB]
 have h1 : w.cell? ⟨B, 1, none⟩ = some (.slice A' n' c') := by simp [World.cell?, hB]
 have hlt := heap_lt hB
 have HL := Lib.hid hl
 have HM := Lib.hid hm
 clear hB hl hm
 go_enter Tryd.func68, Tryd.ntmps68
 go_wp2_with fail
 refine (gramCompare _ _ _ _ _ _ a (HL.out.alloc _) _ _ _ b (HM.out.alloc _) hn hn').mono ?_
 rintro e w1 ⟨rfl, hb1⟩
 have HB1 := Lib.hid (((Below.refl w.heap.size w).alloc (Nat.le_refl _) _).trans (hb1.mono (by simp)))
 clear hb1
 go_wp2_with fail
 go_ret
 refine ⟨ret_bool ?_, HB1.out⟩
 rw [Bool.eq_iff_iff]
 simp [cmpRule_zero]
theorem tellsCheck2 (w : World) (B : Nat) (S' : Nat → Prop) (A' : Option Addr) (n' c' : Nat) (b : RuleD) (hm : Sl RSym w S' A' n' c' b.2) (hn' : n' ≤ 1000) (hB : w.heap[B]? = some (.cells #[.int .i64 b.1, .slice A' n' c'] 61 (0, 0))) :
    TellsR Tryd.prog w (fun r => r.2.length ≤ 1000) (fun a => decide (a = b)) 68 #[.pointer (some ⟨B, 0, none⟩)] := fun w' hb r A m c S hs hl =>
 checkFn2 w' B S S' A m c r hs A' n' c' b (hm.below hb) (by have := hs.len; omega) hn' ((hb.block B (heap_lt hB)).trans hB)
theorem entersCheck2 : ∀ (args : Array Value) (u : World), (callFunc 68 args).run Tryd.prog u = .ok (.enter 68 args) u := enters_of Tryd.func68 (by kernel_rfl) rfl
set_option maxRecDepth 100000 in
set_option maxHeartbeats 4000000 in
theorem gramCheck (w : World) (S : Nat → Prop) (AR : Option Addr) (nR cR : Nat) (g : GramD) (hg : Sl RRule w S AR nR cR g.2.2.2) (hv : GValid g) :
    Calls Tryd.prog 41 #[.agg #[.int .i64 g.1, .int .i64 g.2.1, .int .i64 g.2.2.1, .slice AR nR cR]] w fun e w' => e = .returned (.int .i64 0) ∧ Below w.heap.size w w' := by
 have HLEN := Lib.hid hg.len
 have hnR : nR ≤ 32 := by have := hv.rl; have := hg.len; omega
 have hcap := hg.cap
 have HG := Lib.hid hg
 have HV := Lib.hid hv
 obtain ⟨T, N, st, rules⟩ := g
 have a1 : decide (T < 1) = false := by have := hv.t1; simp; omega
 have a2 : decide (8 < T) = false := by have := hv.t2; simp; omega
 have a3 : decide (N < 1) = false := by have := hv.n1; simp; omega
 have a4 : decide (10 < N) = false := by have := hv.n2; simp; omega
 have a5 : decide (st < 0) = false := by obtain ⟨s1, s2⟩ := hv.st; dsimp only at s1 s2; simp; omega
 have a6 : decide (N ≤ st) = false := by obtain ⟨s1, s2⟩ := hv.st; dsimp only at s1 s2; simp; omega
 dsimp only at *
 clear hg hv
 go_enter Tryd.func41, Tryd.ntmps41
 go_wp2_with fail
 clear a1 a2 a3 a4 a5 a6
 go_loopg [42] nR (fun gk i wr => ∃ k : Nat, k ≤ nR ∧ gk = nR - k ∧ i = .int .i64 k ∧ wr.heap[w.heap.size]? = some (.cells #[.int .i64 T, .int .i64 N, .int .i64 st, .slice AR nR cR] 25 (0, 0)) ∧ Below w.heap.size w wr)
 case atStart => exact ⟨0, Nat.zero_le _, rfl, rfl, heap_alloc_new w _, (Below.refl _ _).alloc (Nat.le_refl _) _⟩
 case round =>
  obtain ⟨k, hk, hgk, rfl, hbx, hb⟩ := hrel
  have HGK := Lib.hid hgk
  have HBX := Lib.hid hbx
  have HB := Lib.hid hb
  have hcN : wr.cell? ⟨w.heap.size, 1, none⟩ = some (.int .i64 N) := by simp [World.cell?, hbx]
  have hcR : wr.cell? ⟨w.heap.size, 3, none⟩ = some (.slice AR nR cR) := by simp [World.cell?, hbx]
  have hl : w.heap.size < wr.heap.size := heap_lt hbx
  clear hgk hbx hb
  by_cases hlt : k < nR
  ·
   obtain ⟨b, off, A2, m2, c2, r, rfl, _, _, hr1, hr2, hr, hrs⟩ := rule_at HG.out hlt
   replace hr1 := Kept.below (S := fun _ => True) HB.out _ _ trivial hr1
   replace hr2 := Kept.below (S := fun _ => True) HB.out _ _ trivial hr2
   obtain ⟨⟨g1, g2⟩, g3, g4⟩ := HV.out.rules r (List.mem_of_getElem? hr)
   dsimp only at g1 g2 g4
   have hm4 : m2 ≤ 4 := by have := hrs.len; omega
   have d1 : decide (r.1 < 0) = false := by simp; omega
   have d2 : decide (N ≤ r.1) = false := by simp; omega
   have HX := Lib.hid hr
   have HRS := Lib.hid hrs
   have HG4 := Lib.hid g4
   clear hr hrs g4
   go_wp2_with fail
   have hb1 : Below w.heap.size w (wr.alloc (.cells #[.int .i64 r.1, .slice A2 m2 c2] 61)) := HB.out.alloc HB.out.size _
   refine (containsFnS _ _ _ _ _ _ _ _ _ _ entersCheck1 (tellsCheck1 _ w.heap.size T N st (some ⟨b, off, none⟩) nR cR ((Below.heap_alloc _ _ _ hl).trans HBX.out)) (HRS.out.below hb1) HG4.out (by omega)).mono ?_
   rintro e w1 ⟨rfl, hb2⟩
   rw [show r.2.any (fun _ => false) = false by simp]
   have hS1 : wr.heap.size + 1 ≤ w1.heap.size := by have := hb2.size; simp at this; omega
   have hbr1 : w1.heap[wr.heap.size]? = some (.cells #[.int .i64 r.1, .slice A2 m2 c2] 61 (0, 0)) := (hb2.block _ (by simp)).trans (heap_alloc_new wr _)
   have hbx1 : w1.heap[w.heap.size]? = some (.cells #[.int .i64 T, .int .i64 N, .int .i64 st, .slice (some ⟨b, off, none⟩) nR cR] 25 (0, 0)) := (hb2.block _ (by simp; omega)).trans ((Below.heap_alloc _ _ _ hl).trans HBX.out)
   have HBX1 := Lib.hid hbx1
   have HBR1 := Lib.hid hbr1
   have hB1 := hb1.trans (hb2.mono hb1.size)
   have HB1 := Lib.hid hB1
   have hcR1 : w1.cell? ⟨w.heap.size, 3, none⟩ = some (.slice (some ⟨b, off, none⟩) nR cR) := by simp [World.cell?, hbx1]
   have hcut := fun u => tRules.hN (some ⟨b, off, none⟩) nR cR k (by omega) u
   clear hb1 hb2 hcN hcR hbr1 hbx1 hB1 d1 d2 hr1 hr2
   go_wp2_with fail
   refine (containsFnR _ _ _ _ _ _ _ _ _ (rules.take k) entersCheck2 (tellsCheck2 _ wr.heap.size _ _ _ _ r (HRS.out.below HB1.out) (by omega) HBR1.out) ((HG.out.below HB1.out).take k (by omega)) (fun x hx => by
    have := (HV.out.rules x (List.mem_of_mem_take hx)).2.1
    show x.2.length ≤ 1000
    omega) (by omega)).mono ?_
   rintro e w3 ⟨rfl, hb3⟩
   have hany : (rules.take k).any (fun a => decide (a = r)) = false := by
    rw [List.any_eq_false]
    intro x hx
    simp only [decide_eq_true_eq]
    rintro rfl
    obtain ⟨j, hj⟩ := List.getElem?_of_mem hx
    rw [List.getElem?_take] at hj
    split at hj
    ·
     have h1 := (List.getElem?_eq_some_iff.1 hj)
     have h2 := (List.getElem?_eq_some_iff.1 HX.out)
     obtain ⟨i1, e1⟩ := h1
     obtain ⟨i2, e2⟩ := h2
     rename_i hjk
     exact List.pairwise_iff_getElem.1 HV.out.nd j k i1 i2 hjk (e1.trans e2.symm)
    ·
     cases hj
   rw [hany]
   have HB3 := Lib.hid (HB1.out.trans (hb3.mono HB1.out.size))
   have HBX3 := Lib.hid ((hb3.block _ (by omega)).trans HBX1.out)
   clear hany hb3
   go_wp2_with fail
   go_roundg (nR - (k + 1))
   case measure => rw [HGK.out]; omega
   case rel => exact ⟨k + 1, by omega, rfl, by go_num, HBX3.out, HB3.out⟩
  ·
   go_wp2_with fail
   go_ret
   exact ⟨rfl, HB.out⟩
end Go.Proofs.YtimklgbljjamkaaDoor
