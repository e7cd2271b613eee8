/- SlIdxFn Accepts -/
import Derived.Test.YtjnbjdbndbbanaaGreatDoorTc22
namespace Go.Proofs.YtjnbjdbndbbanaaGreatDoor
open Go.RowKit
def TellsI (P : Program) (w0 : World) (G : Int → Prop) (q : Int → Bool) (F : FuncId) (caps : Array Value) : Prop :=
 ∀ (w : World), Below w0.heap.size w0 w → ∀ x : Int, G x → Calls P F (#[.int .i64 x] ++ caps) w fun e w' => e = .returned (.bool (q x)) ∧ Below w.heap.size w w'
def idxFn (q : Int → Bool) (l : List Int) : Int := match l.findIdx? q with
 | some i => (i : Int)
 | none => -1
theorem idxFn_hit {q : Int → Bool} {l : List Int} {k : Nat} {x : Int} (h : l[k]? = some x) (hq : q x = true) (hno : ∀ j y, j < k → l[j]? = some y → q y = false) : idxFn q l = k := by
 have : l.findIdx? q = some k := by
  rw [List.findIdx?_eq_some_iff_getElem]
  obtain ⟨hk, rfl⟩ := List.getElem?_eq_some_iff.1 h
  refine ⟨hk, hq, fun j hj => ?_⟩
  rw [hno j l[j] hj (List.getElem?_eq_getElem (by omega))]
  simp
 rw [idxFn, this]
theorem idxFn_none {q : Int → Bool} {l : List Int} (hno : ∀ (j : Nat) (y : Int), l[j]? = some y → q y = false) : idxFn q l = -1 := by
 have : l.findIdx? q = none := by
  rw [List.findIdx?_eq_none_iff]
  intro x hx
  obtain ⟨j, hj⟩ := List.getElem?_of_mem hx
  exact hno j x hj
 rw [idxFn, this]
set_option maxHeartbeats 1000000 in
theorem indexFnInt (w : World) (F : FuncId) (caps : Array Value) (G : Int → Prop) (q : Int → Bool) (A : Option Addr) (n c : Nat) (S : Nat → Prop) (l : List Int)
    (he : ∀ (args : Array Value) (u : World), (callFunc F args).run Tryz.prog u = .ok (.enter F args) u) (hF : TellsI Tryz.prog w G q F caps) (hr : Rd w S 1 A n (l.map (Value.int .i64))) (hG : ∀ x ∈ l, G x) (hn : n ≤ 1000000000000) :
    Calls Tryz.prog 98 #[.slice A n c, .func (.func F) #[] caps] w fun e w' => e = .returned (.int .i64 (idxFn q l)) ∧ Below w.heap.size w w' := by
 have hl : l.length = n := by simpa using hr.1
 have HL := Lib.hid hl
 have HR := Lib.hid hr
 have HF := Lib.hid hF
 have HG := Lib.hid hG
 clear hl hr hF hG
 go_enter Tryz.func98, Tryz.ntmps98
 go_wp2_with fail
 go_loopw [8] (fun i wr => ∃ k : Nat, k ≤ n ∧ i = .int .i64 k ∧ (∀ j y, j < k → l[j]? = some y → q y = false) ∧ Below w.heap.size w wr) (fun i _ => n - (intOf i).toNat)
 case atStart => exact ⟨0, Nat.zero_le _, rfl, (fun j y hj _ => absurd hj (by omega)), Below.refl _ _⟩
 case round =>
  obtain ⟨k, hk, rfl, hno, hb⟩ := hrel
  have HNO := Lib.hid hno
  have HB := Lib.hid hb
  clear hno hb
  by_cases hlt : k < n
  ·
   obtain ⟨b, off, x, rfl, _, hx, hcell0⟩ := HR.out.int_at hlt
   have hcell : wr.cell? ⟨b, off + k, none⟩ = some (.int .i64 x) := Kept.below (S := fun _ => True) HB.out _ _ trivial hcell0
   have HX := Lib.hid hx
   clear hx hcell0
   go_wp2_with fail
   refine (HF.out wr HB.out x (HG.out x (List.mem_of_getElem? HX.out))).mono ?_
   rintro e w1 ⟨rfl, hb1⟩
   have HB1 := Lib.hid (HB.out.trans (hb1.mono HB.out.size))
   clear hb1
   cases hq : q x with
   | true =>
    have HH := Lib.hid (idxFn_hit HX.out hq HNO.out)
    clear hq
    go_wp2_with fail
    go_ret
    exact ⟨ret_int HH.out.symm, HB1.out⟩
   | false =>
    have HQ := Lib.hid hq
    clear hq
    go_wp2_with fail
    go_roundw
    case rel =>
     refine ⟨k + 1, by omega, by go_num, ?_, HB1.out⟩
     intro j y hj hy
     rcases Nat.lt_succ_iff_lt_or_eq.1 hj with h | rfl
     · exact HNO.out j y h hy
     rw [HX.out] at hy
     injection hy with hy
     rw [← hy]
     exact HQ.out
    case measure => simp [intOf]; omega
  go_wp2_with fail
  go_ret
  refine ⟨ret_int ?_, HB.out⟩
  rw [idxFn_none]
  intro j y hy
  have hj := (List.getElem?_eq_some_iff.1 hy).1
  exact HNO.out j y (by rw [HL.out] at hj; omega) hy
set_option maxHeartbeats 1000000 in
theorem containsFnInt (w : World) (F : FuncId) (caps : Array Value) (G : Int → Prop) (q : Int → Bool) (A : Option Addr) (n c : Nat) (S : Nat → Prop) (l : List Int)
    (he : ∀ (args : Array Value) (u : World), (callFunc F args).run Tryz.prog u = .ok (.enter F args) u) (hF : TellsI Tryz.prog w G q F caps) (hr : Rd w S 1 A n (l.map (Value.int .i64))) (hG : ∀ x ∈ l, G x) (hn : n ≤ 1000000000000) :
    Calls Tryz.prog 83 #[.slice A n c, .func (.func F) #[] caps] w fun e w' => e = .returned (.bool (decide (0 ≤ idxFn q l))) ∧ Below w.heap.size w w' := by
 have HR := Lib.hid hr
 have HF := Lib.hid hF
 have HG := Lib.hid hG
 have HE := Lib.hid he
 clear hr hF hG he
 go_enter Tryz.func83, Tryz.ntmps83
 go_wp2_with (go_at_call 98; refine (indexFnInt _ F caps G q _ _ _ _ _ HE.out HF.out HR.out HG.out hn).mono ?_; rintro e w1 ⟨rfl, hb1⟩; have HB1 := Lib.hid hb1; clear hb1)
 go_ret
 exact ⟨rfl, HB1.out⟩
theorem entersWord : ∀ (args : Array Value) (u : World), (callFunc 84 args).run Tryz.prog u = .ok (.enter 84 args) u := enters_of Tryz.func84 (by kernel_rfl) rfl
set_option linter.unusedSimpArgs false in
set_option maxRecDepth 100000 in
set_option maxHeartbeats 1000000 in
theorem tellsWord (w0 : World) (Bg : Nat) (T : Int) (a b c : Value) (h : w0.heap[Bg]? = some (.cells #[.int .i64 T, a, b, c] 25 (0, 0))) : TellsI Tryz.prog w0 (fun x => 0 ≤ x ∧ x < T) (fun _ => false) 84 #[.pointer (some ⟨Bg, 0, none⟩)] := by
 intro w hb x hx
 show Calls Tryz.prog 84 #[.int .i64 x, .pointer (some ⟨Bg, 0, none⟩)] w _
 have hg := (hb.block _ (heap_lt h)).trans h
 have hc : w.cell? ⟨Bg, 0, none⟩ = some (.int .i64 T) := by simp [World.cell?, hg]
 obtain ⟨h1, h2⟩ := hx
 have e1 : decide (x < 0) = false := by simp; omega
 have e2 : decide (T ≤ x) = false := by simp; omega
 clear h hb hg
 go_enter Tryz.func84, Tryz.ntmps84
 go_wp2_with fail
 go_ret
 exact ⟨rfl, Below.refl _ _⟩
set_option linter.unusedSimpArgs false in
set_option maxRecDepth 100000 in
set_option maxHeartbeats 2000000 in
theorem gramWord (w : World) (S : Nat → Prop) (T : Int) (a b c : Value) (A : Option Addr) (n cw : Nat) (ws : List Int) (hws : Rd w S 1 A n (ws.map (Value.int .i64))) (hT : ∀ x ∈ ws, 0 ≤ x ∧ x < T) (hn : n ≤ 12) :
    Calls Tryz.prog 68 #[.agg #[.int .i64 T, a, b, c], .slice A n cw, .int .i64 12] w fun e w' => e = .returned (.int .i64 0) ∧ Below w.heap.size w w' := by
 obtain ⟨w1, hw1⟩ := zE (w.alloc (.cells #[.int .i64 T, a, b, c] 25))
 have hb1 : Below w.heap.size w w1 := by rw [hw1]; exact (Below.refl _ _).alloc (Nat.le_refl _) _
 have hg1 : w1.heap[w.heap.size]? = some (.cells #[.int .i64 T, a, b, c] 25 (0, 0)) := by rw [hw1]; exact heap_alloc_new w _
 have HB1 := zh hb1
 have HG1 := zh hg1
 have HW := zh (hws.below hb1)
 have HT := zh hT
 have hgt : decide ((12 : Int) < (n : Int)) = false := by simp; omega
 clear hb1 hg1 hws hT
 go_enter Tryz.func68, Tryz.ntmps68
 go_wp2_with fail
 rw [← hw1]
 clear hw1
 refine (containsFnInt w1 _ _ _ _ A n cw _ ws entersWord (tellsWord w1 w.heap.size T a b c HG1.out) HW.out HT.out (by omega)).mono ?_
 rintro e w2 ⟨rfl, hb2⟩
 have hix : decide (0 ≤ idxFn (fun _ => false) ws) = false := by rw [idxFn_none (fun _ _ _ => rfl)]; rfl
 rw [hix]
 have HB2 := zh (HB1.out.trans (hb2.mono HB1.out.size))
 clear hb2 hix
 go_wp2_with fail
 go_ret
 exact ⟨rfl, HB2.out⟩
set_option linter.unusedSimpArgs false in
set_option maxRecDepth 100000 in
set_option maxHeartbeats 2000000 in
theorem meanCheck (w : World) (Sg S : Nat → Prop) (AR : Option Addr) (nR cR : Nat) (g : GramD) (hg : Sl RRule w Sg AR nR cR g.2.2.2) (hv : GValid g) (A : Option Addr) (n cw : Nat) (ws : List Int) (hws : Rd w S 1 A n (ws.map (Value.int .i64))) (hT : ∀ x ∈ ws, 0 ≤ x ∧ x < g.1) (hn : n ≤ 12) :
    Calls Tryz.prog 46 #[.agg #[.int .i64 g.1, .int .i64 g.2.1, .int .i64 g.2.2.1, .slice AR nR cR], .slice A n cw] w fun e w' => e = .returned (.int .i64 0) ∧ Below w.heap.size w w' := by
 obtain ⟨w1, hw1⟩ := zE (w.alloc (.cells #[.int .i64 g.1, .int .i64 g.2.1, .int .i64 g.2.2.1, .slice AR nR cR] 25))
 have hb1 : Below w.heap.size w w1 := by rw [hw1]; exact (Below.refl _ _).alloc (Nat.le_refl _) _
 have hg1 : w1.heap[w.heap.size]? = some (.cells #[.int .i64 g.1, .int .i64 g.2.1, .int .i64 g.2.2.1, .slice AR nR cR] 25 (0, 0)) := by rw [hw1]; exact heap_alloc_new w _
 have HB1 := zh hb1
 have HG1 := zh hg1
 have HW := zh (hws.below hb1)
 have HG := zh (hg.below hb1)
 have HV := zh hv
 have HT := zh hT
 clear hb1 hg1 hws hT hg hv
 go_enter Tryz.func46, Tryz.ntmps46
 go_wp2_with fail
 rw [← hw1]
 clear hw1
 refine (gramCheck w1 _ AR nR cR g HG.out HV.out).mono ?_
 rintro e w2 ⟨rfl, hb2⟩
 have HB2 := zh hb2
 have hg2 := (hb2.block _ (heap_lt HG1.out)).trans HG1.out
 have k0 : w2.cell? ⟨w.heap.size, 0, none⟩ = some (.int .i64 g.1) := by simp [World.cell?, hg2]
 have k1 : w2.cell? ⟨w.heap.size, 1, none⟩ = some (.int .i64 g.2.1) := by simp [World.cell?, hg2]
 have k2 : w2.cell? ⟨w.heap.size, 2, none⟩ = some (.int .i64 g.2.2.1) := by simp [World.cell?, hg2]
 have k3 : w2.cell? ⟨w.heap.size, 3, none⟩ = some (.slice AR nR cR) := by simp [World.cell?, hg2]
 clear hb2 hg2
 go_wp2_with fail
 clear k0 k1 k2 k3
 refine (gramWord w2 _ g.1 _ _ _ A n cw ws (HW.out.below HB2.out) HT.out hn).mono ?_
 rintro e w3 ⟨rfl, hb3⟩
 have HB3 := zh (HB1.out.trans ((HB2.out.mono HB1.out.size).trans (hb3.mono (by have := HB1.out.size; have := HB2.out.size; omega))))
 clear hb3
 go_wp2_with fail
 go_ret
 exact ⟨rfl, HB3.out⟩
theorem bit_val {X n : Nat} (hX : X < 4294967296) : (bits .and .u32 ((X : Int) / (2 : Int) ^ n) 1 == 1) = X.testBit n := by
 have e : (X : Int) / (2 : Int) ^ n = ((X / 2 ^ n : Nat) : Int) := by simp
 have h1 : X / 2 ^ n < 4294967296 := Nat.lt_of_le_of_lt (Nat.div_le_self _ _) hX
 rw [e, show (1 : Int) = ((1 : Nat) : Int) from rfl, u32_and_nat _ _ h1 (by decide), Nat.and_one_is_mod, Nat.testBit_eq_decide_div_mod_eq]
 generalize X / 2 ^ n % 2 = q
 rw [Bool.eq_iff_iff, decide_eq_true_eq, beq_iff_eq]
 omega
set_option linter.unusedSimpArgs false in
set_option maxRecDepth 1000000 in
set_option maxHeartbeats 4000000 in
theorem meanAccepts (w : World) (hTb : Tab w) (Sg S : Nat → Prop) (AR : Option Addr) (nR cR : Nat) (g : GramD) (hg : Sl RRule w Sg AR nR cR g.2.2.2) (hv : GValid g) (A : Option Addr) (n cw : Nat) (ws : List Int) (hws : Rd w S 1 A n (ws.map (Value.int .i64))) (hT : ∀ x ∈ ws, 0 ≤ x ∧ x < g.1) (hn : n ≤ 12) :
    Calls Tryz.prog 24 #[.agg #[.int .i64 g.1, .int .i64 g.2.1, .int .i64 g.2.2.1, .slice AR nR cR], .slice A n cw] w fun e w' => e = .returned (.tuple #[.bool (accD g.2.2.2 g.2.2.1 ws), .int .i64 0]) ∧ Below w.heap.size w w' := by
 obtain ⟨w1, hw1⟩ := zE (w.alloc (.cells #[.int .i64 g.1, .int .i64 g.2.1, .int .i64 g.2.2.1, .slice AR nR cR] 25))
 have hz1 : w1.heap.size = w.heap.size + 1 := by rw [hw1]; simp
 have hb1 : Below w.heap.size w w1 := by rw [hw1]; exact (Below.refl _ _).alloc (Nat.le_refl _) _
 have hg1 : w1.heap[w.heap.size]? = some (.cells #[.int .i64 g.1, .int .i64 g.2.1, .int .i64 g.2.2.1, .slice AR nR cR] 25 (0, 0)) := by rw [hw1]; exact heap_alloc_new w _
 have hall : ∀ u : World, Below w1.heap.size w1 u → u.cell? ⟨w.heap.size, 0, none⟩ = some (.int .i64 g.1) ∧ u.cell? ⟨w.heap.size, 1, none⟩ = some (.int .i64 g.2.1) ∧ u.cell? ⟨w.heap.size, 2, none⟩ = some (.int .i64 g.2.2.1) ∧ u.cell? ⟨w.heap.size, 3, none⟩ = some (.slice AR nR cR) := fun u hu => by
  have e := (hu.block _ (heap_lt hg1)).trans hg1
  simp [World.cell?, e]
 have hwl : ws.length = n := by simpa using hws.1
 obtain ⟨st, hst, hstN⟩ : ∃ st : Nat, g.2.2.1 = (st : Int) ∧ st < nonsOf g := ⟨g.2.2.1.toNat, by have := hv.st; omega, by have := hv.st; unfold nonsOf; omega⟩
 have hN10 : nonsOf g ≤ 10 := by have := hv.n2; unfold nonsOf; omega
 obtain ⟨N, hN⟩ := zE (nonsOf g)
 rw [← hN] at hstN hN10
 have HALL := zh hall
 have HB1 := zh hb1
 have HW := zh (hws.below hb1)
 have HG := zh (hg.below hb1)
 have HV := zh hv
 have HT := zh hT
 have HTB := zh hTb
 have HWL := zh hwl
 have HN := zh hN
 have HST := zh hst
 obtain ⟨k0, k1, k2, k3⟩ := hall w1 (Below.refl _ _)
 rw [hw1] at k0 k1 k2 k3
 clear hb1 hg1 hws hT hg hv hall hTb hwl hN hst
 go_enter Tryz.func24, Tryz.ntmps24
 go_wp2_with fail
 rw [← hw1]
 clear hw1 k0 k1 k2 k3
 refine (meanCheck w1 _ _ AR nR cR g HG.out HV.out A n cw ws HW.out HT.out hn).mono ?_
 rintro e w2 ⟨rfl, hb2⟩
 have HB2 := zh hb2
 have hz2 := hb2.size
 have HK0 := zh (HALL.out w2.drew hb2.drew)
 have hstI : (st : Int) < (N : Int) := by omega
 have hst0 : (0 : Int) ≤ (st : Int) := by omega
 clear hb2
 go_wp2_with fail
 refine wp_region_late (late := []) (S1 := fun u => u.cell? ⟨w.heap.size, 0, none⟩ = some (.int .i64 g.1) ∧ u.cell? ⟨w.heap.size, 1, none⟩ = some (.int .i64 g.2.1) ∧ u.cell? ⟨w.heap.size, 2, none⟩ = some (.int .i64 g.2.2.1) ∧ u.cell? ⟨w.heap.size, 3, none⟩ = some (.slice AR nR cR)) (S := fun _ => True) (by kernel_rfl) ?_
 refine zP (i := 0) rfl (fun u hu => by obtain ⟨k0, k1, k2, k3⟩ := hu; go_simp; try rfl) HK0.out zt ?_
 simp only [Act.put, zA, zB, zC, zD, zF, zG]
 refine zP (i := 1) rfl (fun u hu => by obtain ⟨k0, k1, k2, k3⟩ := hu; go_simp; try rfl) HK0.out zt ?_
 simp only [Act.put, zA, zB, zC, zD, zF, zG]
 refine zP (i := 3) rfl (fun u hu => by obtain ⟨k0, k1, k2, k3⟩ := hu; go_simp; try rfl) HK0.out zt ?_
 simp only [Act.put, zA, zB, zC, zD, zF, zG]
 refine zP (i := 4) rfl (fun u hu => by have hst := HST.out; obtain ⟨k0, k1, k2, k3⟩ := hu; rw [hst] at k2; go_simp; try rfl) HK0.out zt ?_
 simp only [Act.put, zA, zB, zC, zD, zF, zG]
 refine zP (i := 9) rfl (fun u hu => by obtain ⟨k0, k1, k2, k3⟩ := hu; go_simp; try rfl) HK0.out zt ?_
 simp only [Act.put, zA, zB, zC, zD, zF, zG]
 refine zP (i := 10) rfl (fun u hu => by obtain ⟨k0, k1, k2, k3⟩ := hu; go_simp; try rfl) HK0.out zt ?_
 simp only [Act.put, zA, zB, zC, zD, zF, zG]
 refine zR 2 rfl (fun K hK => ?_)
 go_simp
 refine (coreEnds w2.drew (HTB.out.below (HB1.out.trans (HB2.out.mono (by omega))).drew HTB.out.1) _ _ AR nR cR g (HG.out.below HB2.out).drew HV.out A n cw ws (HW.out.below HB2.out).drew hn).mono ?_
 rw [← HN.out]
 rintro e w3 ⟨H0, E, rfl, hH0, hH1, hgr, hbd, hsn, hcl, hb3⟩
 have HB3 := zh (HB2.out.drew.trans (hb3.mono (by show w1.heap.size ≤ w2.heap.size; omega)))
 have hch := hgr.hdr st hstN
 have hcc := hgr.cell (k := 0) hstN (by omega)
 have HCH := zh hch
 have HCC := zh hcc
 have hX32 : E st 0 < 4294967296 := by
  have h1 := hbd st 0
  have h2 := Nat.le_trans (Nat.pow_le_pow_right (by omega : 0 < 2) (by omega : n + 1 ≤ 13)) (by decide : 2 ^ 13 ≤ 8192)
  omega
 have HBIT := zh (bit_val (n := n) hX32)
 have HAC := zh (show (E st 0).testBit n = accD g.2.2.2 (st : Int) ws by
  rw [Bool.eq_iff_iff, accD_iff, HWL.out]
  exact ends_eq hsn hcl hstN (Nat.zero_le _))
 clear hch hcc hgr hbd hsn hcl hb3 hH0 hH1 hX32
 refine hK.out _ _ (HALL.out _ HB3.out) zt ?_
 clear hK K
 refine zP (i := 5) rfl (fun u hu => by obtain ⟨k0, k1, k2, k3⟩ := hu; go_simp; try rfl) (HALL.out _ HB3.out) zt ?_
 simp only [Act.put, zA, zB, zC, zD, zF, zG]
 refine zR 6 rfl (fun K hK => ?_)
 have hch := HCH.out
 go_simp
 clear hch
 refine hK.out _ _ (HALL.out _ HB3.out) zt ?_
 clear hK K
 refine zP (i := 7) rfl (fun u hu => by obtain ⟨k0, k1, k2, k3⟩ := hu; go_simp; try rfl) (HALL.out _ HB3.out) zt ?_
 simp only [Act.put, zA, zB, zC, zD, zF, zG]
 refine zR 8 rfl (fun K hK => ?_)
 have hcc := HCC.out
 go_simp
 clear hcc
 refine hK.out _ _ (HALL.out _ HB3.out) zt ?_
 clear hK K
 refine zP (i := 11) rfl (fun u hu => by obtain ⟨k0, k1, k2, k3⟩ := hu; go_simp; try rfl) (HALL.out _ HB3.out) zt ?_
 simp only [Act.put, zA, zB, zC, zD, zF, zG]
 refine zP (i := 12) rfl (fun u hu => by obtain ⟨k0, k1, k2, k3⟩ := hu; go_simp; try rfl) (HALL.out _ HB3.out) zt ?_
 simp only [Act.put, zA, zB, zC, zD, zF, zG]
 refine zP (i := 13) rfl (fun u hu => by have htb := HBIT.out; go_simp; try rfl) (HALL.out _ HB3.out) zt ?_
 simp only [Act.put, zA, zB, zC, zD, zF, zG]
 refine zP (i := 14) rfl (fun u hu => by obtain ⟨k0, k1, k2, k3⟩ := hu; go_simp; try rfl) (HALL.out _ HB3.out) zt ?_
 simp only [Act.put, zA, zB, zC, zD, zF, zG]
 refine zP (i := 15) rfl (fun u hu => by obtain ⟨k0, k1, k2, k3⟩ := hu; go_simp; try rfl) (HALL.out _ HB3.out) zt ?_
 simp only [Act.put, zA, zB, zC, zD, zF, zG]
 refine wpAnyL_done (by kernel_rfl) ?_ _
 go_wp2_with fail
 go_ret2
 exact ⟨by rw [HAC.out, HST.out]; rfl, HB1.out.trans (HB3.out.mono (by omega))⟩
end Go.Proofs.YtjnbjdbndbbanaaGreatDoor
