/- Reach -/
import Derived.Test.YtjnbjdbndbbanaaGreatDoorTc08
import Derived.Test.YtjnbjdbndbbanaaGreatDoorTc13
namespace Go.Proofs.YtjnbjdbndbbanaaGreatDoor
open Go.RowKit
abbrev mV (x : Nat) : Value := .int .u32 (x : Int)
set_option linter.unusedSimpArgs false in
set_option maxRecDepth 1000000 in
set_option maxHeartbeats 4000000 in
theorem coreReach (w : World) (hT : Tab w) (Sw Sr : Nat → Prop) (Aw : Option Addr) (nw cw : Nat) (ws : List Int) (hws : Rd w Sw 1 Aw nw (ws.map (Value.int .i64))) (hnw : nw ≤ 12) (lo hi gN : Nat) (gs : Nat → Nat) (N : Nat) (E : Nat → Nat → Nat) (hG : Grid mV 99 w lo hi gN gs N (nw + 1) E) (hhi : hi ≤ w.heap.size) (_hN : N ≤ 10)
    (hE : ∀ a i, E a i < 2 ^ (nw + 1)) (Ar : Option Addr) (m cr : Nat) (l : List SymD) (hl : Sl RSym w Sr Ar m cr l) (hlN : NonOk N l) (hm : m ≤ 4) (i0 : Nat) (hi0 : i0 ≤ nw) :
    Calls Tryz.prog 48 #[.slice Aw nw cw, .slice (some ⟨gN, 0, none⟩) N N, .slice Ar m cr, .int .i64 i0] w fun e w' => ∃ X : Nat, e = .returned (mV X) ∧ X < 2 ^ (nw + 1) ∧ (∀ j, X.testBit j = true ↔ Rch E ws l i0 j) ∧ Below w.heap.size w w' := by
 have hp13 : 2 ^ (nw + 1) ≤ 8192 := Nat.le_trans (Nat.pow_le_pow_right (by omega) (by omega : nw + 1 ≤ 13)) (by decide)
 have hwl : ws.length = nw := by simpa using hws.1
 have HT := zh hT
 have HWS := zh (hws.fit (by decide))
 have HGR := zh hG
 have HE := zh hE
 have HL := zh hl.fit
 have HLL := zh hl.len
 have HLN := zh hlN
 have HWL := zh hwl
 have HP := zh hp13
 have hS : (2 : Int) ^ i0 % 4294967296 = ((2 ^ i0 : Nat) : Int) := by
  have h1 : 2 ^ i0 ≤ 4096 := Nat.le_trans (Nat.pow_le_pow_right (by omega) (by omega : i0 ≤ 12)) (by decide)
  rw [show (2 : Int) ^ i0 = ((2 ^ i0 : Nat) : Int) by simp]
  generalize 2 ^ i0 = Q at *
  omega
 have hS2 : 2 ^ i0 < 2 ^ (nw + 1) := Nat.pow_lt_pow_right (by omega) (by omega)
 clear hT hws hG hE hl hlN hwl hp13
 go_enter Tryz.func48, Tryz.ntmps48
 go_wp2_with fail
 go_loopg [9, 19] m (fun gk v q wr => ∃ (k X : Nat), k ≤ m ∧ gk = m - k ∧ q = .int .i64 k ∧ v = mV X ∧ X < 2 ^ (nw + 1) ∧ (∀ j, X.testBit j = true ↔ Rch E ws (l.take k) i0 j) ∧ Below w.heap.size w wr)
 case atStart => exact ⟨0, 2 ^ i0, Nat.zero_le _, rfl, rfl, by rw [hS], hS2, (fun j => by rw [Nat.testBit_two_pow, List.take_zero, decide_eq_true_eq]; exact Iff.rfl), Below.refl _ _⟩
 case round =>
  obtain ⟨k, X, hk, hgk, rfl, rfl, hX, hXR, hb⟩ := hrel
  have HGK := zh hgk
  have HX := zh hX
  have HXR := zh hXR
  have HB := zh hb
  have hz2 := hb.size
  obtain ⟨w2, rfl⟩ := zE wr
  clear hgk hX hXR hb hS hS2
  by_cases hlt : k < m
  ·
   obtain ⟨bs, os, s, rfl, _, hbs, hs0, hs1, hs⟩ := sym_at (HL.out.below HB.out |>.more (fun b hb => hb)) hlt
   obtain ⟨w3, hw3⟩ := zE (w2.alloc (.cells #[.bool s.1, .int .i64 s.2] 62))
   have hz3 : w3.heap.size = w2.heap.size + 1 := by rw [hw3]; simp
   have hb3 : Below w.heap.size w w3 := by rw [hw3]; exact HB.out.alloc hz2 _
   have hbx : w3.heap[w2.heap.size]? = some (.cells #[.bool s.1, .int .i64 s.2] 62 (0, 0)) := by rw [hw3]; exact heap_alloc_new w2 _
   have hall : ∀ u : World, Below w3.heap.size w3 u → u.cell? ⟨w2.heap.size, 0, none⟩ = some (.bool s.1) ∧ u.cell? ⟨w2.heap.size, 1, none⟩ = some (.int .i64 s.2) := fun u hu => by
    have e := (hu.block _ (by omega)).trans hbx
    simp [World.cell?, e]
   have HALL := zh hall
   have HB3 := zh hb3
   have HS := zh hs
   have htk : l.take (k + 1) = l.take k ++ [s] := by
    obtain ⟨h1, h2⟩ := List.getElem?_eq_some_iff.1 hs
    rw [List.take_succ_eq_append_getElem h1, h2]
   have HTK := zh htk
   have hkI : (k : Int) < (m : Int) := by omega
   have hk0 : (0 : Int) ≤ (k : Int) := by omega
   clear hb3 hall hs htk hbx
   go_wp2_with fail
   rw [← hw3]
   clear hw3 hs0 hs1
   go_loopg [12, 13] X (fun gx nv xv wr => ∃ (Y Z : Nat), nv = mV Z ∧ xv = mV Y ∧ gx = Y ∧ Y < 2 ^ (nw + 1) ∧ Z < 2 ^ (nw + 1) ∧ (∀ j, Y.testBit j = true → X.testBit j = true) ∧ (∀ j, Z.testBit j = true ↔ ∃ q, X.testBit q = true ∧ Y.testBit q = false ∧ StpD E ws s q j) ∧ Below w3.heap.size w3 wr)
   case atStart => exact ⟨X, 0, rfl, rfl, rfl, HX.out, Nat.two_pow_pos _, (fun j h => h), (fun j => by constructor; (intro h; simp at h); (rintro ⟨q, h1, h2, _⟩; rw [h1] at h2; cases h2)), Below.refl _ _⟩
   case round =>
    obtain ⟨Y, Z, rfl, rfl, hgx, hY, hZ, hYX, hZR, hb⟩ := hrel
    have HGX := zh hgx
    have HYX := zh hYX
    have HZR := zh hZR
    have HB4 := zh hb
    have HY := zh hY
    have HZ := zh hZ
    have hz4 := hb.size
    have hp13 := HP.out
    have hY32 : Y < 4294967296 := by omega
    have hZ32 : Z < 4294967296 := by omega
    obtain ⟨w4, rfl⟩ := zE wr
    obtain ⟨hs0, hs1⟩ := HALL.out w4 hb
    clear hgx hYX hZR hb hY hZ hp13
    by_cases hY0 : Y = 0
    ·
     subst hY0
     have hne : ((((0 : Nat) : Int)) != 0) = false := by simp
     go_wp2_with fail
     go_roundg (m - (k + 1))
     case measure => rw [HGK.out]; omega
     case rel =>
      refine ⟨k + 1, Z, by omega, rfl, by go_num, rfl, HZ.out, fun j => ?_, HB3.out.trans (HB4.out.mono (by omega))⟩
      rw [HTK.out, Rch.snoc, HZR.out j]
      constructor
      · rintro ⟨q, h1, _, h3⟩; exact ⟨q, (HXR.out q).1 h1, h3⟩
      rintro ⟨q, h1, h3⟩; exact ⟨q, (HXR.out q).2 h1, by simp, h3⟩
    obtain ⟨p, hpY, hpB, hpL, hpS⟩ := low_of hY0
    obtain ⟨_, h32⟩ := hpS 32 (by omega)
    have hpn : p < nw + 1 := (hpS (nw + 1) HY.out).1
    have hne : ((Y : Int) != 0) = true := by simp; omega
    have hd : bits .and .u32 (Y : Int) ((Y : Int) - 1) = ((Y &&& (Y - 1) : Nat) : Int) := by
     rw [show (Y : Int) - 1 = ((Y - 1 : Nat) : Int) by omega]
     exact u32_and_nat _ _ hY32 (by omega)
    have HD := zh hd
    have HPY := zh hpY
    have HPB := zh hpB
    have HPL := zh hpL
    have hY1 : 1 ≤ Y := by omega
    have hYl : Y &&& (Y - 1) < 2 ^ (nw + 1) := Nat.lt_trans hpL HY.out
    have HYL := zh hYl
    clear hpY hpB hpL hpS hd hYl
    go_wp2_with fail
    refine (trailingZeros w4 (HT.out.below (HB3.out.trans (HB4.out.mono (by omega))) HT.out.1) Y p hY0 hY32 (by omega) h32).mono ?_
    rintro e _ ⟨rfl, rfl⟩
    have HSTEP := zh (show ∀ (Z' : Nat), (∀ j, Z'.testBit j = true ↔ Z.testBit j = true ∨ StpD E ws s p j) → ∀ j, Z'.testBit j = true ↔ ∃ q, X.testBit q = true ∧ (Y &&& (Y - 1)).testBit q = false ∧ StpD E ws s q j from fun Z' h j => by
     rw [h j, HZR.out j]
     constructor
     ·
      rintro (⟨q, h1, h2, h3⟩ | h3)
      · exact ⟨q, h1, by rw [HPB.out, h2]; rfl, h3⟩
      exact ⟨p, HYX.out p HPY.out, by rw [HPB.out, HPY.out]; simp, h3⟩
     rintro ⟨q, h1, h2, h3⟩
     rw [HPB.out] at h2
     by_cases hq : q = p
     · subst hq; exact Or.inr h3
     exact Or.inl ⟨q, h1, by simpa [hq] using h2, h3⟩)
    have HSUB := zh (show ∀ j, (Y &&& (Y - 1)).testBit j = true → X.testBit j = true from fun j h => by
     rw [HPB.out, Bool.and_eq_true] at h
     exact HYX.out j h.1)
    have hd := HD.out
    by_cases hs1t : s.1 = false
    ·
     have hs1b := hs1t
     rw [hs1b] at hs0
     clear hs1t
     obtain ⟨hsN0, hsN⟩ := HLN.out s (List.mem_of_getElem? HS.out) hs1b
     obtain ⟨b, hb⟩ : ∃ b : Nat, s.2 = (b : Int) := ⟨s.2.toNat, by omega⟩
     have hbN : b < N := by rw [hb, Int.toNat_natCast] at hsN; exact hsN
     rw [hb] at hs1
     have hgw := HGR.out.keep (w' := w4) (fun q _ hq => (HB3.out.trans (HB4.out.mono (by omega))).block q (by omega))
     have hch := hgw.hdr b hbN
     have hcc := hgw.cell (k := p) hbN hpn
     have hEb := HE.out b p
     have hp13 := HP.out
     have hor : bits .or .u32 (Z : Int) (E b p : Int) = ((Z ||| E b p : Nat) : Int) := u32_or_nat _ _ hZ32 (by omega)
     have hbI : (b : Int) < (N : Int) := by omega
     have hpI : (p : Int) < ((nw + 1 : Nat) : Int) := by omega
     have HSB := zh hs1b
     have HSBN := zh hb
     clear hgw hs1b hb
     go_wp2_with fail
     go_roundg (Y &&& (Y - 1))
     case measure => rw [HGX.out]; exact HPL.out
     case rel =>
      refine ⟨Y &&& (Y - 1), Z ||| E b p, rfl, rfl, rfl, HYL.out, Nat.or_lt_two_pow HZ.out (HE.out b p), HSUB.out, HSTEP.out _ (fun j => ?_), HB4.out⟩
      rw [Nat.testBit_or, Bool.or_eq_true]
      unfold StpD
      rw [HSB.out, if_neg (by simp), HSBN.out, Int.toNat_natCast]
    have hs1b : s.1 = true := by simpa using hs1t
    rw [hs1b] at hs0
    have HSB := zh hs1b
    clear hs1b hs1t
    have hpI0 : (0 : Int) ≤ (p : Int) := by omega
    by_cases hpw : p < nw
    ·
     obtain ⟨bw, ow, c, rfl, _, hc, hcw⟩ := (HWS.out.keep (.belowB (HB3.out.trans (HB4.out.mono (by omega))) (fun b hb => hb.2))).int_at hpw
     have hpwI : (p : Int) < (nw : Int) := by omega
     have hall2 : ∀ u : World, Below w3.heap.size w3 u → u.cell? ⟨bw, ow + p, none⟩ = w4.cell? ⟨bw, ow + p, none⟩ → (u.cell? ⟨w2.heap.size, 0, none⟩ = some (.bool true) ∧ u.cell? ⟨w2.heap.size, 1, none⟩ = some (.int .i64 s.2) ∧ u.cell? ⟨bw, ow + p, none⟩ = some (.int .i64 c)) := fun u hu hcu => ⟨by rw [(HALL.out u hu).1, HSB.out], (HALL.out u hu).2, hcu.trans hcw⟩
     have HK0 := zh (hall2 w4.drew HB4.out.drew rfl)
     have HC := zh hc
     clear hall2 hc
     by_cases hcs : c = s.2
     ·
      have HCS := zh (show (c == s.2) = true by simpa using hcs)
      have HWP := zh (show ws[p]? = some s.2 by rw [HC.out, hcs])
      have hp13 := HP.out
      have hpl : 2 ^ (p + 1) < 2 ^ (nw + 1) := Nat.pow_lt_pow_right (by omega) (by omega)
      have HPLT := zh hpl
      have HPOW := zh (show (2 : Int) ^ (p + 1) % 4294967296 = ((2 ^ (p + 1) : Nat) : Int) by
       rw [show (2 : Int) ^ (p + 1) = ((2 ^ (p + 1) : Nat) : Int) by simp]
       generalize 2 ^ (p + 1) = Q at *
       omega)
      have HOR := zh (show bits .or .u32 (Z : Int) ((2 : Int) ^ (p + 1)) = ((Z ||| 2 ^ (p + 1) : Nat) : Int) by rw [show (2 : Int) ^ (p + 1) = ((2 ^ (p + 1) : Nat) : Int) by simp]; exact u32_or_nat _ _ hZ32 (by omega))
      clear hcs hcw hpl hp13
      go_wp2_with fail
      refine wp_region_late (late := []) (S1 := fun u => u.cell? ⟨w2.heap.size, 0, none⟩ = some (.bool true) ∧ u.cell? ⟨w2.heap.size, 1, none⟩ = some (.int .i64 s.2) ∧ u.cell? ⟨bw, ow + p, none⟩ = some (.int .i64 c)) (S := fun _ => True) (by kernel_rfl) ?_
      refine zP (i := 0) rfl (fun u hu => by obtain ⟨k0, k1, k2⟩ := hu; go_simp; try rfl) HK0.out zt ?_
      simp only [Act.put, zA, zB, zC, zD, zF, zG]
      refine zP (i := 1) rfl (fun u hu => by obtain ⟨k0, k1, k2⟩ := hu; go_simp; try rfl) HK0.out zt ?_
      simp only [Act.put, zA, zB, zC, zD, zF, zG]
      refine zP (i := 2) rfl (fun u hu => by obtain ⟨k0, k1, k2⟩ := hu; go_simp; try rfl) HK0.out zt ?_
      simp only [Act.put, zA, zB, zC, zD, zF, zG]
      refine zP (i := 3) rfl (fun u hu => by obtain ⟨k0, k1, k2⟩ := hu; go_simp; try rfl) HK0.out zt ?_
      simp only [Act.put, zA, zB, zC, zD, zF, zG]
      refine zP (i := 4) rfl (fun u hu => by obtain ⟨k0, k1, k2⟩ := hu; go_simp; try rfl) HK0.out zt ?_
      simp only [Act.put, zA, zB, zC, zD, zF, zG]
      refine zP (i := 5) rfl (fun u hu => by obtain ⟨k0, k1, k2⟩ := hu; go_simp; try rfl) HK0.out zt ?_
      simp only [Act.put, zA, zB, zC, zD, zF, zG]
      refine zP (i := 6) rfl (fun u hu => by obtain ⟨k0, k1, k2⟩ := hu; go_simp; try rfl) HK0.out zt ?_
      simp only [Act.put, zA, zB, zC, zD, zF, zG]
      refine zP (i := 7) rfl (fun u hu => by obtain ⟨k0, k1, k2⟩ := hu; go_simp; try rfl) HK0.out zt ?_
      simp only [Act.put, zA, zB, zC, zD, zF, zG]
      refine zP (i := 8) rfl (fun u hu => by obtain ⟨k0, k1, k2⟩ := hu; go_simp; try rfl) HK0.out zt ?_
      simp only [Act.put, zA, zB, zC, zD, zF, zG]
      refine zP (i := 9) rfl (fun u hu => by obtain ⟨k0, k1, k2⟩ := hu; go_simp; try rfl) HK0.out zt ?_
      simp only [Act.put, zA, zB, zC, zD, zF, zG]
      refine zP (i := 10) rfl (fun u hu => by obtain ⟨k0, k1, k2⟩ := hu; go_simp; try rfl) HK0.out zt ?_
      simp only [Act.put, zA, zB, zC, zD, zF, zG]
      refine zP (i := 11) (v := .bool true) rfl (fun u hu => by have hcs := HCS.out; go_simp; try rfl) HK0.out zt ?_
      simp only [Act.put, zA, zB, zC, zD, zF, zG]
      refine zP (i := 12) rfl (fun u hu => by obtain ⟨k0, k1, k2⟩ := hu; go_simp; try rfl) HK0.out zt ?_
      simp only [Act.put, zA, zB, zC, zD, zF, zG]
      refine zP (i := 13) rfl (fun u hu => by obtain ⟨k0, k1, k2⟩ := hu; go_simp; try rfl) HK0.out zt ?_
      simp only [Act.put, zA, zB, zC, zD, zF, zG]
      refine wpAnyL_done (by kernel_rfl) ?_ _
      have hs0 : w4.drew.cell? ⟨w2.heap.size, 0, none⟩ = some (.bool true) := by rw [(HALL.out w4.drew HB4.out.drew).1, HSB.out]
      have hs1 := (HALL.out w4.drew HB4.out.drew).2
      have hpow : (2 : Int) ^ (p + 1) % 4294967296 = ((2 ^ (p + 1) : Nat) : Int) := HPOW.out
      have hor := HOR.out
      have hpn2 : p + 1 ≤ 13 := by omega
      go_wp2_with fail
      go_roundg (Y &&& (Y - 1))
      case measure => rw [HGX.out]; exact HPL.out
      case rel =>
       refine ⟨Y &&& (Y - 1), Z ||| 2 ^ (p + 1), rfl, rfl, rfl, HYL.out, Nat.or_lt_two_pow HZ.out HPLT.out, HSUB.out, HSTEP.out _ (fun j => ?_), HB4.out.drew⟩
       rw [Nat.testBit_or, Bool.or_eq_true, Nat.testBit_two_pow, decide_eq_true_eq]
       unfold StpD
       rw [HSB.out, if_pos rfl]
       constructor
       ·
        rintro (h | h)
        · exact Or.inl h
        exact Or.inr ⟨HWP.out, h.symm⟩
       rintro (h | ⟨_, h⟩)
       · exact Or.inl h
       exact Or.inr h.symm
     have HCS := zh (show (c == s.2) = false by simpa using hcs)
     have HNO := zh (show ¬ ws[p]? = some s.2 from fun h => by rw [HC.out] at h; injection h with h; exact hcs h)
     clear hcs hcw
     go_wp2_with fail
     refine wp_region_late (late := []) (S1 := fun u => u.cell? ⟨w2.heap.size, 0, none⟩ = some (.bool true) ∧ u.cell? ⟨w2.heap.size, 1, none⟩ = some (.int .i64 s.2) ∧ u.cell? ⟨bw, ow + p, none⟩ = some (.int .i64 c)) (S := fun _ => True) (by kernel_rfl) ?_
     refine zP (i := 0) rfl (fun u hu => by obtain ⟨k0, k1, k2⟩ := hu; go_simp; try rfl) HK0.out zt ?_
     simp only [Act.put, zA, zB, zC, zD, zF, zG]
     refine zP (i := 1) rfl (fun u hu => by obtain ⟨k0, k1, k2⟩ := hu; go_simp; try rfl) HK0.out zt ?_
     simp only [Act.put, zA, zB, zC, zD, zF, zG]
     refine zP (i := 2) rfl (fun u hu => by obtain ⟨k0, k1, k2⟩ := hu; go_simp; try rfl) HK0.out zt ?_
     simp only [Act.put, zA, zB, zC, zD, zF, zG]
     refine zP (i := 3) rfl (fun u hu => by obtain ⟨k0, k1, k2⟩ := hu; go_simp; try rfl) HK0.out zt ?_
     simp only [Act.put, zA, zB, zC, zD, zF, zG]
     refine zP (i := 4) rfl (fun u hu => by obtain ⟨k0, k1, k2⟩ := hu; go_simp; try rfl) HK0.out zt ?_
     simp only [Act.put, zA, zB, zC, zD, zF, zG]
     refine zP (i := 5) rfl (fun u hu => by obtain ⟨k0, k1, k2⟩ := hu; go_simp; try rfl) HK0.out zt ?_
     simp only [Act.put, zA, zB, zC, zD, zF, zG]
     refine zP (i := 6) rfl (fun u hu => by obtain ⟨k0, k1, k2⟩ := hu; go_simp; try rfl) HK0.out zt ?_
     simp only [Act.put, zA, zB, zC, zD, zF, zG]
     refine zP (i := 7) rfl (fun u hu => by obtain ⟨k0, k1, k2⟩ := hu; go_simp; try rfl) HK0.out zt ?_
     simp only [Act.put, zA, zB, zC, zD, zF, zG]
     refine zP (i := 8) rfl (fun u hu => by obtain ⟨k0, k1, k2⟩ := hu; go_simp; try rfl) HK0.out zt ?_
     simp only [Act.put, zA, zB, zC, zD, zF, zG]
     refine zP (i := 9) rfl (fun u hu => by obtain ⟨k0, k1, k2⟩ := hu; go_simp; try rfl) HK0.out zt ?_
     simp only [Act.put, zA, zB, zC, zD, zF, zG]
     refine zP (i := 10) rfl (fun u hu => by obtain ⟨k0, k1, k2⟩ := hu; go_simp; try rfl) HK0.out zt ?_
     simp only [Act.put, zA, zB, zC, zD, zF, zG]
     refine zP (i := 11) (v := .bool false) rfl (fun u hu => by have hcs := HCS.out; go_simp; try rfl) HK0.out zt ?_
     simp only [Act.put, zA, zB, zC, zD, zF, zG]
     refine zP (i := 12) rfl (fun u hu => by obtain ⟨k0, k1, k2⟩ := hu; go_simp; try rfl) HK0.out zt ?_
     simp only [Act.put, zA, zB, zC, zD, zF, zG]
     refine zP (i := 13) rfl (fun u hu => by obtain ⟨k0, k1, k2⟩ := hu; go_simp; try rfl) HK0.out zt ?_
     simp only [Act.put, zA, zB, zC, zD, zF, zG]
     refine wpAnyL_done (by kernel_rfl) ?_ _
     have hs0 : w4.drew.cell? ⟨w2.heap.size, 0, none⟩ = some (.bool true) := by rw [(HALL.out w4.drew HB4.out.drew).1, HSB.out]
     have hs1 := (HALL.out w4.drew HB4.out.drew).2
     go_wp2_with fail
     go_roundg (Y &&& (Y - 1))
     case measure => rw [HGX.out]; exact HPL.out
     case rel =>
      refine ⟨Y &&& (Y - 1), Z, rfl, rfl, rfl, HYL.out, HZ.out, HSUB.out, HSTEP.out _ (fun j => ?_), HB4.out.drew⟩
      unfold StpD
      rw [HSB.out, if_pos rfl]
      exact ⟨Or.inl, fun h => h.elim id fun h => (HNO.out h.1).elim⟩
    have hpwI : ¬ (p : Int) < (nw : Int) := by omega
    have hpd : decide ((p : Int) < (nw : Int)) = false := by simpa using hpw
    have HK0 := zh (show w4.drew.cell? ⟨w2.heap.size, 0, none⟩ = some (.bool true) ∧ w4.drew.cell? ⟨w2.heap.size, 1, none⟩ = some (.int .i64 s.2) from ⟨by rw [(HALL.out w4.drew HB4.out.drew).1, HSB.out], (HALL.out w4.drew HB4.out.drew).2⟩)
    have HNO := zh (show ¬ ws[p]? = some s.2 from fun h => by have := (List.getElem?_eq_some_iff.1 h).1; have := HWL.out; omega)
    go_wp2_with fail
    refine wp_region_late (late := []) (S1 := fun u => u.cell? ⟨w2.heap.size, 0, none⟩ = some (.bool true) ∧ u.cell? ⟨w2.heap.size, 1, none⟩ = some (.int .i64 s.2)) (S := fun _ => True) (by kernel_rfl) ?_
    refine zP (i := 0) rfl (fun u hu => by obtain ⟨k0, k1⟩ := hu; go_simp; try rfl) HK0.out zt ?_
    simp only [Act.put, zA, zB, zC, zD, zF, zG]
    refine zP (i := 1) rfl (fun u hu => by obtain ⟨k0, k1⟩ := hu; go_simp; try rfl) HK0.out zt ?_
    simp only [Act.put, zA, zB, zC, zD, zF, zG]
    refine zP (i := 2) rfl (fun u hu => by obtain ⟨k0, k1⟩ := hu; go_simp; try rfl) HK0.out zt ?_
    simp only [Act.put, zA, zB, zC, zD, zF, zG]
    refine zP (i := 3) rfl (fun u hu => by obtain ⟨k0, k1⟩ := hu; go_simp; try rfl) HK0.out zt ?_
    simp only [Act.put, zA, zB, zC, zD, zF, zG]
    refine zP (i := 4) rfl (fun u hu => by obtain ⟨k0, k1⟩ := hu; go_simp; try rfl) HK0.out zt ?_
    simp only [Act.put, zA, zB, zC, zD, zF, zG]
    refine wpAnyL_pure (i := 5) (v := undef) rfl (by kernel_rfl) (fun _ _ _ h => h) (Or.inr ⟨by rfl, rfl⟩) HK0.out zt ?_
    simp only [Act.put, zA, zB, zC, zD, zF, zG]
    refine wpAnyL_pure (i := 6) (v := undef) rfl (by kernel_rfl) (fun _ _ _ h => h) (Or.inr ⟨by rfl, rfl⟩) HK0.out zt ?_
    simp only [Act.put, zA, zB, zC, zD, zF, zG]
    refine wpAnyL_pure (i := 7) (v := undef) rfl (by kernel_rfl) (fun _ _ _ h => h) (Or.inr ⟨by rfl, rfl⟩) HK0.out zt ?_
    simp only [Act.put, zA, zB, zC, zD, zF, zG]
    refine wpAnyL_pure (i := 8) (v := undef) rfl (by kernel_rfl) (fun _ _ _ h => h) (Or.inr ⟨by rfl, rfl⟩) HK0.out zt ?_
    simp only [Act.put, zA, zB, zC, zD, zF, zG]
    refine wpAnyL_pure (i := 9) (v := undef) rfl (by kernel_rfl) (fun _ _ _ h => h) (Or.inr ⟨by rfl, rfl⟩) HK0.out zt ?_
    simp only [Act.put, zA, zB, zC, zD, zF, zG]
    refine wpAnyL_pure (i := 10) (v := undef) rfl (by kernel_rfl) (fun _ _ _ h => h) (Or.inr ⟨by rfl, rfl⟩) HK0.out zt ?_
    simp only [Act.put, zA, zB, zC, zD, zF, zG]
    refine wpAnyL_pure (i := 11) (v := undef) rfl (by kernel_rfl) (fun _ _ _ h => h) (Or.inr ⟨by rfl, rfl⟩) HK0.out zt ?_
    simp only [Act.put, zA, zB, zC, zD, zF, zG]
    refine zP (i := 12) rfl (fun u hu => by obtain ⟨k0, k1⟩ := hu; go_simp; try rfl) HK0.out zt ?_
    simp only [Act.put, zA, zB, zC, zD, zF, zG]
    refine zP (i := 13) rfl (fun u hu => by obtain ⟨k0, k1⟩ := hu; go_simp; try rfl) HK0.out zt ?_
    simp only [Act.put, zA, zB, zC, zD, zF, zG]
    refine wpAnyL_done (by kernel_rfl) ?_ _
    have hs0 : w4.drew.cell? ⟨w2.heap.size, 0, none⟩ = some (.bool true) := by rw [(HALL.out w4.drew HB4.out.drew).1, HSB.out]
    have hs1 := (HALL.out w4.drew HB4.out.drew).2
    go_wp2_with fail
    go_roundg (Y &&& (Y - 1))
    case measure => rw [HGX.out]; exact HPL.out
    case rel =>
     refine ⟨Y &&& (Y - 1), Z, rfl, rfl, rfl, HYL.out, HZ.out, HSUB.out, HSTEP.out _ (fun j => ?_), HB4.out.drew⟩
     unfold StpD
     rw [HSB.out, if_pos rfl]
     exact ⟨Or.inl, fun h => h.elim id fun h => (HNO.out h.1).elim⟩
  obtain rfl : m = k := by omega
  have htk : l.take m = l := List.take_of_length_le (by have := HLL.out; omega)
  have hXR := HXR.out
  rw [htk] at hXR
  have HXF := zh hXR
  clear htk hXR
  go_wp2_with fail
  go_ret
  exact ⟨X, rfl, HX.out, HXF.out, HB.out⟩
end Go.Proofs.YtjnbjdbndbbanaaGreatDoor
