/- MkLeast -/
import Derived.Test.YtbmcoamdfpegnaaMa10
import Derived.Test.YtbmcoamdfpegnaaMa16
import Derived.Test.YtbmcoamdfpegnaaMa28
namespace Go.Proofs.Ytbmcoamdfpegnaa
open Go.RowKit Go.Maps
def LeastMR (P : List RuleD) (base : Nat) (e : Ending) (w' : World) : Prop :=
 (∃ (A : Option Addr) (n c : Nat) (l : List Int), e = .returned (.tuple #[.slice A n c, .int .i64 0]) ∧ n ≤ c ∧ n ≤ 2000 ∧ n = l.length ∧ Rd w' (fun b => base ≤ b) 1 A n (l.map (Value.int .i64)) ∧ LgS P (false, 0) l ∧ ∀ k : Nat, Der P [(false, 0)] k → n ≤ k) ∨
 (e = .returned (.tuple #[.slice none 0 0, .int .i64 5]) ∧ ∀ k : Nat, Der P [(false, 0)] k → farZ ≤ (k : Int)) ∨
 (e = .returned (.tuple #[.slice none 0 0, .int .i64 2]) ∧ (∀ k : Nat, Der P [(false, 0)] k → 2000 < k) ∧ ∃ k : Nat, Der P [(false, 0)] k)
set_option maxHeartbeats 1000000 in
theorem leastFn1 (w : World) (B : Nat) (T N st : Int) (AR : Option Addr) (nR cR : Nat) (hB : w.heap[B]? = some (.cells #[.int .i64 T, .int .i64 N, .int .i64 st, .slice AR nR cR] 25 (0, 0))) (s : SymD) (hs : SymOk T N s) :
    Calls Try.prog 31 #[.agg #[.bool s.1, .int .i64 s.2], .pointer (some ⟨B, 0, none⟩)] w fun e w' => e = .returned (.bool false) ∧ Below w.heap.size w w' := by
 have h0 : w.cell? ⟨B, 0, none⟩ = some (.int .i64 T) := by simp [World.cell?, hB]
 have h1 : w.cell? ⟨B, 1, none⟩ = some (.int .i64 N) := by simp [World.cell?, hB]
 have h2 : w.cell? ⟨B, 2, none⟩ = some (.int .i64 st) := by simp [World.cell?, hB]
 have h3 : w.cell? ⟨B, 3, none⟩ = some (.slice AR nR cR) := by simp [World.cell?, hB]
 have hl := heap_lt hB
 have HS := Lib.hid hs
 clear hB hs
 go_enter Try.func31, Try.ntmps31
 go_wp2_with fail
 refine (gramHas _ _ _ _ _ _ _ s HS.out).mono ?_
 rintro e w1 ⟨rfl, hb1⟩
 have HB1 := Lib.hid (((Below.refl w.heap.size w).alloc (Nat.le_refl _) _).trans (hb1.mono (by simp)))
 clear hb1
 go_wp2_with fail
 go_ret
 exact ⟨rfl, HB1.out⟩
theorem tellsLeast1 (w : World) (B : Nat) (T N st : Int) (AR : Option Addr) (nR cR : Nat) (hB : w.heap[B]? = some (.cells #[.int .i64 T, .int .i64 N, .int .i64 st, .slice AR nR cR] 25 (0, 0))) :
    TellsS Try.prog w (SymOk T N) (fun _ => false) 31 #[.pointer (some ⟨B, 0, none⟩)] := fun w' hb s hs => leastFn1 w' B T N st AR nR cR ((hb.block B (heap_lt hB)).trans hB) s hs
theorem entersLeast1 : ∀ (args : Array Value) (u : World), (callFunc 31 args).run Try.prog u = .ok (.enter 31 args) u := enters_of Try.func31 (by kernel_rfl) rfl
set_option linter.unusedSimpArgs false in
set_option maxRecDepth 1000000 in
set_option maxHeartbeats 8000000 in
theorem mkLeast (w : World) (S : Nat → Prop) (T N nP cP : Nat) (AP : Option Addr) (P : List RuleD) (AN AF : Option Addr) (nN cN nF cF : Nat) (hg : Sl RRule w S AP nP cP P) (hN1 : 1 ≤ N) (hN16 : N ≤ 16) (hP4 : P.length ≤ 4000) (hr4 : ∀ r ∈ P, r.2.length ≤ 4) (hF : RulesN N P) (hT : T ≤ 16) (hso : ∀ r ∈ P, ∀ s ∈ r.2, SymOk (T : Int) (N : Int) s) (hq : QFew P N) :
    Calls Try.prog 13 #[.agg #[.int .i64 (T : Int), .int .i64 (N : Int), .int .i64 0, .slice AP nP cP, .slice AN nN cN, .slice AF nF cF]] w fun e w' => LeastMR P w.heap.size e w' ∧ Below w.heap.size w w' := by
 have hnP : nP = P.length := hg.len
 have hnP4 : nP ≤ 4000 := by omega
 obtain ⟨w1, hw1⟩ : ∃ w1 : World, w1 = (w.alloc (.cells #[.int .i64 (T : Int), .int .i64 (N : Int), .int .i64 0, .slice AP nP cP, .slice AN nN cN, .slice AF nF cF] 34)).alloc (.cells #[.int .i64 (T : Int), .int .i64 (N : Int), .int .i64 0, .slice AP nP cP] 25) := ⟨_, rfl⟩
 have hz1 : w1.heap.size = w.heap.size + 2 := by rw [hw1]; simp
 have hb1 : Below w.heap.size w w1 := by rw [hw1]; exact ((Below.refl _ _).alloc (Nat.le_refl _) _).alloc (by simp) _
 have b1 : w1.heap[w.heap.size + 1]? = some (.cells #[.int .i64 (T : Int), .int .i64 (N : Int), .int .i64 0, .slice AP nP cP] 25 (0, 0)) := by
  rw [hw1, show w.heap.size + 1 = (w.alloc (.cells #[.int .i64 (T : Int), .int .i64 (N : Int), .int .i64 0, .slice AP nP cP, .slice AN nN cN, .slice AF nF cF] 34)).heap.size by simp]
  exact heap_alloc_new _ _
 have HB1 := Lib.hid hb1
 have HG := Lib.hid hg.fit
 have HF := Lib.hid hF
 have HQ := Lib.hid hq
 have HR4 := Lib.hid hr4
 have HSO := Lib.hid hso
 have HNP := Lib.hid hnP
 have HP4 := Lib.hid hP4
 have HZ1 := Lib.hid hz1
 have HW1 := Lib.hid hw1
 have HBX := Lib.hid b1
 have HALL := Lib.hid (show ∀ u : World, Below w1.heap.size w1 u → u.cell? ⟨w.heap.size + 1, 0, none⟩ = some (.int .i64 (T : Int)) ∧ u.cell? ⟨w.heap.size + 1, 1, none⟩ = some (.int .i64 (N : Int)) ∧ u.cell? ⟨w.heap.size + 1, 2, none⟩ = some (.int .i64 0) ∧ u.cell? ⟨w.heap.size + 1, 3, none⟩ = some (.slice AP nP cP) from fun u hu => by
  have e1 := (hu.block _ (by omega)).trans b1
  exact ⟨by simp [World.cell?, e1], by simp [World.cell?, e1], by simp [World.cell?, e1], by simp [World.cell?, e1]⟩)
 have HBW := Lib.hid (show ∀ u : World, Below w1.heap.size w1 u → Below w.heap.size w u from fun u hu => hb1.trans (hu.mono (by omega)))
 have hN16i : ¬ (16001 : Int) < (N : Int) := by omega
 have hN1i : ¬ (N : Int) < 1 := by omega
 clear hb1 b1 hg hF hq hr4 hso hnP hP4 hz1 hw1
 go_enter Try.func13, Try.ntmps13
 go_wp2_with fail
 rw [← HW1.out]
 go_loopg [5, 17] nP (fun gk v5 v17 wr => ∃ k : Nat, k ≤ nP ∧ gk = nP - k ∧ v17 = .int .i64 k ∧ v5 = .bool false ∧ Below w1.heap.size w1 wr)
 case atStart => exact ⟨0, Nat.zero_le _, rfl, rfl, rfl, .refl _ _⟩
 case round =>
  obtain ⟨k, hk, hgk, rfl, rfl, hb12⟩ := hrel
  obtain ⟨w2, rfl⟩ : ∃ w2 : World, w2 = wr := ⟨_, rfl⟩
  have HGK := Lib.hid hgk
  have HB12 := Lib.hid hb12
  clear hgk
  by_cases hkl : k < nP
  ·
   have hkI : (k : Int) < (nP : Int) := by omega
   have hk0 : (0 : Int) ≤ (k : Int) := by omega
   obtain ⟨bl, ol, u1, u2, r, rfl, _, hrs, hok, hc1, hc2⟩ := HG.out.at2 (k := k) rfl hkl
   obtain ⟨A2, m, c2, h2, hsl⟩ := RRule.cells.1 hok
   injection h2 with e1 h2
   injection h2 with e2 _
   subst e1
   subst e2
   have hc2 : w.cell? ⟨bl, ol + k * 2 + 1, none⟩ = some (.slice A2 m c2) := hc2
   have hbw := HBW.out w2 hb12
   have hmem := List.mem_of_getElem? hrs
   obtain ⟨hl0, hl1⟩ := (HF.out r hmem).1
   obtain ⟨a, ha⟩ : ∃ a : Nat, r.1 = (a : Int) := ⟨r.1.toNat, by omega⟩
   rw [ha] at hc1
   have hc1 := (hbw.cell (cell_lt hc1)).trans hc1
   have hc2 := (hbw.cell (cell_lt hc2)).trans hc2
   have hm4 : m ≤ 4 := by rw [hsl.len]; exact HR4.out r hmem
   have ha0 : ¬ (a : Int) < 0 := by omega
   have haN : ¬ (N : Int) ≤ (a : Int) := by omega
   have HSL := Lib.hid (hsl.below hbw)
   have HMEM := Lib.hid hmem
   obtain ⟨w3, hw3⟩ : ∃ w3 : World, w3 = w2.alloc (.cells #[.int .i64 (a : Int), .slice A2 m c2] 40) := ⟨_, rfl⟩
   have hb23 : Below w2.heap.size w2 w3 := by rw [hw3]; exact (Below.refl _ _).alloc (Nat.le_refl _) _
   have hb13 := hb12.trans (hb23.mono hb12.size)
   obtain ⟨g0, g1, g2, g3⟩ := HALL.out w3 hb13
   have HB13 := Lib.hid hb13
   have HBX3 := Lib.hid ((hb13.block _ (by have := HZ1.out; omega)).trans HBX.out)
   have HSL3 := Lib.hid (HSL.out.below hb23)
   have HW3 := Lib.hid hw3
   rw [hw3] at g0 g1 g2 g3
   clear hok hsl hrs hbw hmem hl0 hl1 ha hb23 hb13 hw3 hb12
   go_wp2_with (go_at_call 10; rw [← HW3.out]; refine (containsFnS w3 _ _ _ _ A2 m c2 _ r.2 entersLeast1 (tellsLeast1 w3 (w.heap.size + 1) (T : Int) (N : Int) 0 _ nP cP HBX3.out) HSL3.out (HSO.out r HMEM.out) (by omega)).mono ?_; rintro e w4 ⟨rfl, hb4⟩; rw [show (r.2.any fun _ => false) = false by simp]; have HB4 := Lib.hid (HB13.out.trans (hb4.mono HB13.out.size)); clear hb4)
   go_roundg (nP - (k + 1))
   case measure => rw [HGK.out]; omega
   case rel => exact ⟨k + 1, by omega, rfl, by go_num, rfl, HB4.out⟩
  ·
   obtain rfl : nP = k := by omega
   obtain ⟨g0, g1, g2, g3⟩ := HALL.out w2 HB12.out
   clear hb12
   go_wp2_with fail
   refine (mkSizes w2 _ AP nP cP T N 0 P (HG.out.below (HBW.out w2 HB12.out)) hN1 hN16 HP4.out HR4.out HF.out HQ.out).mono ?_
   rintro e w3 ⟨⟨BO, c, o, rfl, hc, hBO, hol, hrng, hfin, hown⟩, hb23⟩
   have hb13 := HB12.out.trans (hb23.mono HB12.out.size)
   have HB13 := Lib.hid hb13
   obtain ⟨hco, _, _, _⟩ := hown.at_ (x := 0) (by omega)
   obtain ⟨x0, hx0⟩ : ∃ x0, o[0]? = some x0 := ⟨_, List.getElem?_eq_getElem (by omega)⟩
   have hxc : w3.cell? ⟨BO, 0, none⟩ = some (.int .i64 x0) := by rw [hco, List.getElem?_map, hx0]; rfl
   have hxr : 0 ≤ x0 ∧ x0 ≤ 1099511627776 := hrng x0 (List.mem_of_getElem? hx0)
   obtain ⟨hxr0, hxr1⟩ := hxr
   have HX0 := Lib.hid hx0
   have HFIN := Lib.hid hfin
   have HOWN := Lib.hid hown
   have HOL := Lib.hid hol
   have hNI : (0 : Int) < (N : Int) := by omega
   have HB23 := Lib.hid hb23
   have hz3 := hb23.size
   clear g0 g1 g2 g3 hco hx0 hfin hown hol hrng hb13 hb23
   by_cases h1 : x0 = 1099511627776
   ·
    subst h1
    go_wp2_with fail
    go_ret2
    refine ⟨.inr (.inl ⟨rfl, fun k hk => ?_⟩), HBW.out w3 HB13.out⟩
    rcases HFIN.out 0 _ HX0.out with h | h
    ·
     exact h.2 k hk
    ·
     exact absurd h.2.1 (by unfold farZ; omega)
   ·
    have h1b : (x0 == 1099511627776) = false := by simpa using h1
    by_cases h2 : 2000 < x0
    ·
     go_wp2_with fail
     go_ret2
     refine ⟨.inr (.inr ⟨rfl, ?_⟩), HBW.out w3 HB13.out⟩
     rcases HFIN.out 0 _ HX0.out with h | h
     ·
      exact absurd h.1 h1
     ·
      exact ⟨fun k hk => by have := h.2.2.2 k hk; omega, _, h.2.2.1⟩
    ·
     obtain ⟨g0, g1, g2, g3⟩ := HALL.out w3 HB13.out
     go_wp2_with fail
     refine (mkWords w3 _ _ AP nP cP T N 0 c BO P o (HG.out.below (HBW.out w3 HB13.out)) hN1 (by omega) HP4.out HR4.out HF.out (fun r hr s hs h => by have h3 := HSO.out r hr s hs; unfold SymOk at h3; rw [h] at h3; simp only [if_true] at h3; omega) HOWN.out.rd hc HFIN.out).mono ?_
     rintro e w4 ⟨⟨BW, ws, ks, rfl, hBW, hhd, hinv, hcls⟩, hb34⟩
     obtain ⟨A, c4, l, hl, hcl, _, hlc, hrd⟩ := hhd.at_ (i := 0) (by rw [hinv.lw]; omega)
     have hxg : o.getD 0 farZ = x0 := by rw [List.getD_eq_getElem?_getD, HX0.out]; rfl
     have hkn := known_of HFIN.out HF.out HOL.out hcls (a := 0) (by omega) (by rw [hxg]; omega)
     obtain ⟨i1, i2, i3, _⟩ := hinv.ok 0 (getD_true hkn)
     have hwg : ws.getD 0 [] = l := by rw [List.getD_eq_getElem?_getD, hl]; rfl
     rw [hwg] at i1 i2
     rw [hxg] at i2 i3
     have HI1 := Lib.hid i1
     have HI2 := Lib.hid i2
     have hl2 : l.length ≤ 2000 := by omega
     obtain ⟨nl, hnl⟩ : ∃ nl, nl = l.length := ⟨_, rfl⟩
     rw [← hnl] at hcl hl2 hrd
     have HNL := Lib.hid hnl
     have HRD := Lib.hid hrd
     have HB14 := Lib.hid (HB13.out.trans (hb34.mono HB13.out.size))
     have hz4 := hb34.size
     clear hl hlc hrd hhd hinv hcls hxg hkn i1 i2 i3 hwg hnl hb34 g0 g1 g2 g3 hxc
     go_wp2_with (go_at_call 34; refine (cloneInt A nl c4 _ _ w4 HRD.out (by omega)).mono ?_; rintro e w5 ⟨v, rfl, hown5, hb5⟩; obtain ⟨A5, c5, rfl, hc5, _⟩ := hown5.form; have HOWN5 := Lib.hid hown5; have HB15 := Lib.hid (HB14.out.trans (hb5.mono HB14.out.size)); clear hown5 hb5)
     go_ret2
     have hz1 := HZ1.out
     have hz12 := HB12.out.size
     have hz14 := HB14.out.size
     refine ⟨.inl ⟨A5, nl, c5, l, rfl, hc5, hl2, HNL.out, HOWN5.out.rd.more fun b hb => by omega, HI1.out, fun k hk => ?_⟩, HBW.out w5 HB15.out⟩
     rcases HFIN.out 0 _ HX0.out with h | h
     ·
      exact absurd h.1 h1
     ·
      have := h.2.2.2 k hk
      have := HI2.out
      have := HNL.out
      omega
end Go.Proofs.Ytbmcoamdfpegnaa
