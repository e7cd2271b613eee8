/- SlIdxC ApxIn -/
import Derived.Deep.LoopGhost
import Derived.Test.YtocbkccchnbmaaaGreatAw05
import Derived.Test.YtocbkccchnbmaaaGreatAw10
namespace Go.Proofs.YtocbkccchnbmaaaGreat
open Go.RowKit
abbrev CompD := Int × List Int
abbrev RComp : Rep CompD := Rep.prod Rep.int (Rep.slice Rep.int)
theorem RComp.cells {w : World} {S : Nat → Prop} {cs : List Value} {r : CompD} : RComp.ok w S cs r ↔ ∃ A n c, cs = [.int .i64 r.1, .slice A n c] ∧ Sl Rep.int w S A n c r.2 := by
 constructor
 ·
  rintro ⟨c1, c2, rfl, h1, A, n, c, rfl, h2⟩
  rw [show c1 = _ from h1]
  exact ⟨A, n, c, rfl, h2⟩
 ·
  rintro ⟨A, n, c, rfl, h⟩
  exact ⟨[_], [_], rfl, rfl, A, n, c, rfl, h⟩
theorem comp_at {w : World} {S : Nat → Prop} {A : Option Addr} {n c k : Nat} {l : List CompD} (h : Sl RComp w S A n c l) (hk : k < n) :
    ∃ b off A' m c' r, A = some ⟨b, off, none⟩ ∧ S b ∧ b < w.heap.size ∧ w.cell? ⟨b, off + k * 2, none⟩ = some (.int .i64 r.1) ∧ w.cell? ⟨b, off + k * 2 + 1, none⟩ = some (.slice A' m c') ∧ l[k]? = some r ∧ Sl Rep.int w S A' m c' r.2 := by
 obtain ⟨b, off, u, v, r, e, hS, hx, hok, h1, h2⟩ := h.at2 rfl hk
 obtain ⟨A', m, c', e2, hs⟩ := RComp.cells.1 hok
 simp only [List.cons.injEq, and_true] at e2
 obtain ⟨rfl, rfl⟩ := e2
 exact ⟨b, off, A', m, c', r, e, hS, cell_lt h1, h1, by rw [Nat.add_assoc]; exact h2, hx, hs⟩
def TellsC (P : Program) (w0 : World) (G : CompD → Prop) (q : CompD → Bool) (F : FuncId) (caps : Array Value) : Prop :=
 ∀ (w : World), Below w0.heap.size w0 w → ∀ (x : CompD) (A : Option Addr) (m c : Nat) (S : Nat → Prop), Sl Rep.int w S A m c x.2 → G x → Calls P F (#[.agg #[.int .i64 x.1, .slice A m c]] ++ caps) w fun e w' => e = .returned (.bool (q x)) ∧ Below w.heap.size w w'
set_option maxHeartbeats 1000000 in
theorem indexFnC (w : World) (F : FuncId) (caps : Array Value) (G : CompD → Prop) (q : CompD → Bool) (A : Option Addr) (n c : Nat) (S : Nat → Prop) (l : List CompD)
    (he : ∀ (args : Array Value) (u : World), (callFunc F args).run Tryz.prog u = .ok (.enter F args) u) (hF : TellsC Tryz.prog w G q F caps) (hr : Sl RComp w S A n c l) (hG : ∀ x ∈ l, G x) (hn : n ≤ 1000000000000) :
    Calls Tryz.prog 58 #[.slice A n c, .func (.func F) #[] caps] w fun e w' => e = .returned (.int .i64 (idxA q l)) ∧ Below w.heap.size w w' := by
 have HL := Lib.hid hr.len
 have HR := Lib.hid hr
 have HF := Lib.hid hF
 have HG := Lib.hid hG
 clear hr hF hG
 go_enter Tryz.func58, Tryz.ntmps58
 go_wp2_with fail
 go_loopw [8] (fun i wr => ∃ k : Nat, k ≤ n ∧ i = .int .i64 k ∧ (∀ j y, j < k → l[j]? = some y → q y = false) ∧ Below w.heap.size w wr) (fun i _ => n - (intOf i).toNat)
 case atStart => exact ⟨0, Nat.zero_le _, rfl, (fun j y hj _ => absurd hj (by omega)), Below.refl _ _⟩
 case round =>
  obtain ⟨k, hk, rfl, hno, hb⟩ := hrel
  have HNO := Lib.hid hno
  have HB := Lib.hid hb
  clear hno hb
  by_cases hlt : k < n
  ·
   obtain ⟨b, off, A2, m2, c2, x, rfl, _, _, hc1, hc2, hx, hxs⟩ := comp_at HR.out hlt
   have HXS := Lib.hid (hxs.below HB.out)
   clear hxs
   replace hc1 := Kept.below (S := fun _ => True) HB.out _ _ trivial hc1
   replace hc2 := Kept.below (S := fun _ => True) HB.out _ _ trivial hc2
   have HX := Lib.hid hx
   clear hx
   go_wp2_with fail
   refine (HF.out wr HB.out x _ _ _ _ HXS.out (HG.out x (List.mem_of_getElem? HX.out))).mono ?_
   rintro e w1 ⟨rfl, hb1⟩
   have HB1 := Lib.hid (HB.out.trans (hb1.mono HB.out.size))
   clear hb1
   cases hq : q x with
   | true =>
    have HH := Lib.hid (idxA_hit HX.out hq HNO.out)
    clear hq
    go_wp2_with fail
    go_ret
    exact ⟨ret_int HH.out.symm, HB1.out⟩
   | false =>
    have HQ := Lib.hid hq
    clear hq
    go_wp2_with fail
    go_roundw
    case rel =>
     refine ⟨k + 1, by omega, by go_num, ?_, HB1.out⟩
     intro j y hj hy
     rcases Nat.lt_succ_iff_lt_or_eq.1 hj with h | rfl
     ·
      exact HNO.out j y h hy
     ·
      rw [HX.out] at hy
      injection hy with hy
      rw [← hy]
      exact HQ.out
    case measure => simp [intOf]; omega
  ·
   go_wp2_with fail
   go_ret
   refine ⟨ret_int ?_, HB.out⟩
   rw [idxA_none]
   intro j y hy
   have hj := (List.getElem?_eq_some_iff.1 hy).1
   exact HNO.out j y (by have := HL.out; omega) hy
set_option maxHeartbeats 1000000 in
theorem containsFnC (w : World) (F : FuncId) (caps : Array Value) (G : CompD → Prop) (q : CompD → Bool) (A : Option Addr) (n c : Nat) (S : Nat → Prop) (l : List CompD)
    (he : ∀ (args : Array Value) (u : World), (callFunc F args).run Tryz.prog u = .ok (.enter F args) u) (hF : TellsC Tryz.prog w G q F caps) (hr : Sl RComp w S A n c l) (hG : ∀ x ∈ l, G x) (hn : n ≤ 1000000000000) :
    Calls Tryz.prog 34 #[.slice A n c, .func (.func F) #[] caps] w fun e w' => e = .returned (.bool (l.any q)) ∧ Below w.heap.size w w' := by
 have HR := Lib.hid hr
 have HF := Lib.hid hF
 have HG := Lib.hid hG
 have HE := Lib.hid he
 have HAN := Lib.hid (idxA_any q l)
 clear hr hF hG he
 go_enter Tryz.func34, Tryz.ntmps34
 go_wp2_with (go_at_call 58; refine (indexFnC _ F caps G q _ _ _ _ _ HE.out HF.out HR.out HG.out hn).mono ?_; rintro e w1 ⟨rfl, hb1⟩; have HB1 := Lib.hid hb1; clear hb1)
 go_ret
 exact ⟨ret_bool HAN.out, HB1.out⟩
end Go.Proofs.YtocbkccchnbmaaaGreat
namespace Go.Proofs.YtocbkccchnbmaaaGreat
open Go.RowKit
def inC (c : List Int) (s : SymD) : Bool := !s.1 && c.contains s.2
def OnlyR (c : List Int) (p : Nat → Nat → Bool) (r : RuleD) (q : Nat) : Prop := ∀ (i : Nat) (s : SymD), i < q → r.2[i]? = some s → inC c s = true → p i r.2.length = true
def OnlyP (R : List RuleD) (c : List Int) (p : Nat → Nat → Bool) : Prop := ∀ r ∈ R, c.contains r.1 = true → OnlyR c p r r.2.length
def OnlyU (R : List RuleD) (c : List Int) (p : Nat → Nat → Bool) (k : Nat) : Prop := ∀ (j : Nat) (r : RuleD), j < k → R[j]? = some r → c.contains r.1 = true → OnlyR c p r r.2.length
set_option maxHeartbeats 1000000 in
theorem compIn (w : World) (kd : Int) (A : Option Addr) (n c : Nat) (S : Nat → Prop) (l : List Int) (hr : Sl Rep.int w S A n c l) (hn : n ≤ 1000000) (t : Bool) (x : Int) :
    Calls Tryz.prog 60 #[.agg #[.int .i64 kd, .slice A n c], .agg #[.bool t, .int .i64 x]] w fun e w' => e = .returned (.bool (inC l (t, x))) ∧ Below w.heap.size w w' := by
 have HR := Lib.hid hr
 clear hr
 go_enter Tryz.func60, Tryz.ntmps60
 cases t with
 | true =>
  go_wp2_with fail
  go_ret
  exact ⟨ret_bool rfl, ((Below.refl _ _).alloc (Nat.le_refl _) _).alloc (by simp) _⟩
 | false =>
  have HB := Lib.hid (show Below w.heap.size w ((w.alloc (.cells #[.int .i64 kd, .slice A n c] 57)).alloc (.cells #[.bool false, .int .i64 x] 45)) from ((Below.refl _ _).alloc (Nat.le_refl _) _).alloc (by simp) _)
  have HR2 := Lib.hid (HR.out.below HB.out)
  go_wp2_with fail
  refine (containsInt _ _ _ _ l x _ HR2.out.ints (by omega)).mono ?_
  rintro e w1 ⟨rfl, rfl⟩
  go_wp2_with fail
  go_ret
  exact ⟨ret_bool (by simp [inC]), HB.out⟩
def PlaceF (P : Program) (F : FuncId) (p : Nat → Nat → Bool) : Prop := ∀ (w : World) (i n : Nat), i ≤ 4 → n ≤ 4 → Calls P F #[.int .i64 i, .int .i64 n] w fun e w' => e = .returned (.bool (p i n)) ∧ w' = w
def plLast (i n : Nat) : Bool := decide ((i : Int) = (n : Int) - 1)
def plFirst (i _n : Nat) : Bool := decide ((i : Int) = 0)
theorem apxLast : PlaceF Tryz.prog 38 plLast := by
 intro w i n hi hn
 go_enter Tryz.func38, Tryz.ntmps38
 go_wp2_with fail
 go_ret
 exact ⟨ret_bool (by rw [Bool.eq_iff_iff]; simp [plLast]), rfl⟩
theorem apxFirst : PlaceF Tryz.prog 39 plFirst := by
 intro w i n hi hn
 go_enter Tryz.func39, Tryz.ntmps39
 go_wp2_with fail
 go_ret
 exact ⟨ret_bool (by rw [Bool.eq_iff_iff]; simp [plFirst]), rfl⟩
theorem entersLast : ∀ (args : Array Value) (u : World), (callFunc 38 args).run Tryz.prog u = .ok (.enter 38 args) u := enters_of Tryz.func38 (by kernel_rfl) rfl
theorem entersFirst : ∀ (args : Array Value) (u : World), (callFunc 39 args).run Tryz.prog u = .ok (.enter 39 args) u := enters_of Tryz.func39 (by kernel_rfl) rfl
set_option maxHeartbeats 1000000 in
theorem apxHas (w : World) (Bn : Nat) (n : Int) (hB : w.heap[Bn]? = some (.cells #[.int .i64 n] 3 (0, 0))) (kd : Int) (A : Option Addr) (m c : Nat) (S : Nat → Prop) (l : List Int) (hr : Sl Rep.int w S A m c l) (hm : m ≤ 1000000) :
    Calls Tryz.prog 35 #[.agg #[.int .i64 kd, .slice A m c], .pointer (some ⟨Bn, 0, none⟩)] w fun e w' => e = .returned (.bool (l.contains n)) ∧ Below w.heap.size w w' := by
 have hlt := heap_lt hB
 have HB := Lib.hid (show Below w.heap.size w (w.alloc (.cells #[.int .i64 kd, .slice A m c] 57)) from (Below.refl _ _).alloc (Nat.le_refl _) _)
 have hB2 := (HB.out.block _ hlt).trans hB
 have k0 : (w.alloc (.cells #[.int .i64 kd, .slice A m c] 57)).cell? ⟨Bn, 0, none⟩ = some (.int .i64 n) := by simp [World.cell?, hB2]
 have HR2 := Lib.hid (hr.below HB.out)
 clear hr hB hB2
 go_enter Tryz.func35, Tryz.ntmps35
 go_wp2_with fail
 refine (containsInt _ _ _ _ l n _ HR2.out.ints (by omega)).mono ?_
 rintro e w1 ⟨rfl, rfl⟩
 go_wp2_with fail
 go_ret
 exact ⟨ret_bool (by simp), HB.out⟩
theorem tellsHasN (w : World) (Bn : Nat) (n : Int) (hB : w.heap[Bn]? = some (.cells #[.int .i64 n] 3 (0, 0))) :
    TellsC Tryz.prog w (fun x => x.2.length ≤ 1000000) (fun x => x.2.contains n) 35 #[.pointer (some ⟨Bn, 0, none⟩)] := fun u hu x A m c S hs hl =>
 apxHas u Bn n ((hu.block _ (heap_lt hB)).trans hB) x.1 A m c S x.2 hs (by have := hs.len; omega)
theorem entersHasN : ∀ (args : Array Value) (u : World), (callFunc 35 args).run Tryz.prog u = .ok (.enter 35 args) u := enters_of Tryz.func35 (by kernel_rfl) rfl
set_option maxRecDepth 100000 in
set_option maxHeartbeats 4000000 in
theorem compOnly (w : World) (kd : Int) (A : Option Addr) (n c : Nat) (S : Nat → Prop) (l : List Int) (hr : Sl Rep.int w S A n c l) (hn : n ≤ 1000000) (Sg : Nat → Prop) (AR : Option Addr) (nR cR : Nat) (Tm N st : Int) (R : List RuleD) (hg : Sl RRule w Sg AR nR cR R) (hlen : ∀ r ∈ R, r.2.length ≤ 4) (hnR : nR ≤ 64)
    (F : FuncId) (p : Nat → Nat → Bool) (hF : PlaceF Tryz.prog F p) (he : ∀ (args : Array Value) (u : World), (callFunc F args).run Tryz.prog u = .ok (.enter F args) u) :
    Calls Tryz.prog 37 #[.agg #[.int .i64 kd, .slice A n c], .agg #[.int .i64 Tm, .int .i64 N, .int .i64 st, .slice AR nR cR], .func (.func F) #[] #[]] w fun e w' => (∃ b : Bool, e = .returned (.bool b) ∧ (b = true ↔ OnlyP R l p)) ∧ Below w.heap.size w w' := by
 have HRL := Lib.hid hg.len
 have HG := Lib.hid hg.fit
 have HLE := Lib.hid hlen
 have HR := Lib.hid hr.fit
 obtain ⟨w1, hw1⟩ : ∃ w1 : World, w1 = (w.alloc (.cells #[.int .i64 kd, .slice A n c] 57)).alloc (.cells #[.int .i64 Tm, .int .i64 N, .int .i64 st, .slice AR nR cR] 25) := ⟨_, rfl⟩
 have HB1 := Lib.hid (show Below w.heap.size w w1 by rw [hw1]; exact ((Below.refl _ _).alloc (Nat.le_refl _) _).alloc (by simp) _)
 have hz1 : w1.heap.size = w.heap.size + 2 := by rw [hw1]; simp
 have HC := Lib.hid (show w1.heap[w.heap.size]? = some (.cells #[.int .i64 kd, .slice A n c] 57 (0, 0)) by rw [hw1]; exact (Below.heap_alloc _ _ _ (by simp)).trans (heap_alloc_new _ _))
 have HGB := Lib.hid (show w1.heap[w.heap.size + 1]? = some (.cells #[.int .i64 Tm, .int .i64 N, .int .i64 st, .slice AR nR cR] 25 (0, 0)) by rw [hw1]; exact heap_new _ _ _ (by simp))
 have HCL := Lib.hid (show ∀ u : World, Below w1.heap.size w1 u → u.cell? ⟨w.heap.size, 0, none⟩ = some (.int .i64 kd) ∧ u.cell? ⟨w.heap.size, 1, none⟩ = some (.slice A n c) ∧ u.cell? ⟨w.heap.size + 1, 3, none⟩ = some (.slice AR nR cR) from fun u hu => by
  have e1 := (hu.block _ (by omega)).trans HC.out
  have e2 := (hu.block _ (by omega)).trans HGB.out
  exact ⟨by simp [World.cell?, e1], by simp [World.cell?, e1], by simp [World.cell?, e2]⟩)
 clear hg hlen hr
 go_enter Tryz.func37, Tryz.ntmps37
 obtain ⟨kc0, kc1, kg⟩ := HCL.out w1 (Below.refl _ _)
 rw [hw1] at kc0 kc1 kg
 go_wp2_with fail
 rw [← hw1]
 clear kc0 kc1 kg hw1
 go_loopg [14] nR (fun gk vi wr => ∃ (i : Nat), i ≤ nR ∧ gk = nR - i ∧ vi = .int .i64 i ∧ OnlyU R l p i ∧ Below w1.heap.size w1 wr)
 case atStart => exact ⟨0, Nat.zero_le _, rfl, rfl, (fun j r h => absurd h (by omega)), Below.refl _ _⟩
 case round =>
  obtain ⟨i, hi, hgk, rfl, hou, hb⟩ := hrel
  have HGK := Lib.hid hgk
  have HOU := Lib.hid hou
  have HB := Lib.hid hb
  obtain ⟨w4, rfl⟩ : ∃ w4 : World, w4 = wr := ⟨_, rfl⟩
  clear hgk hou hb
  by_cases hlt : i < nR
  ·
   obtain ⟨b0, off, A3, m3, c3, r, rfl, _, hb0, hc1, hc2, hr, hrs⟩ := rule_at (HG.out.keep (Kept.belowB (HB1.out.trans (HB.out.mono (by omega))) fun b hb => hb.2)) hlt
   have hm4 : m3 ≤ 4 := by have := hrs.len; have := HLE.out r (List.mem_of_getElem? hr); omega
   have hmc : m3 ≤ c3 := hrs.cap
   have hiI : (i : Int) < (nR : Int) := by omega
   have hi0 : (0 : Int) ≤ (i : Int) := by omega
   have HRR := Lib.hid hr
   have HRS := Lib.hid hrs
   have HLN := Lib.hid hrs.len
   clear hr hrs
   obtain ⟨w5, hw5⟩ : ∃ w5 : World, w5 = w4.alloc (.cells #[.int .i64 r.1, .slice A3 m3 c3] 43) := ⟨_, rfl⟩
   have hz5 : w4.heap.size < w5.heap.size := by rw [hw5]; simp
   have HB5 := Lib.hid (show Below w1.heap.size w1 w5 by rw [hw5]; exact HB.out.alloc HB.out.size _)
   have HBR5 := Lib.hid (show w5.heap[w4.heap.size]? = some (.cells #[.int .i64 r.1, .slice A3 m3 c3] 43 (0, 0)) by rw [hw5]; exact heap_alloc_new _ _)
   have HRS5 := Lib.hid (show Sl RSym w5 (fun b => b < w.heap.size) A3 m3 c3 r.2 by rw [hw5]; exact (HRS.out.below ((Below.refl _ _).alloc (Nat.le_refl _) _)).more fun b hb => hb.2)
   have HR5 := Lib.hid (HR.out.keep (Kept.belowB (HB1.out.trans (HB5.out.mono (by omega))) fun b hb => hb.2))
   obtain ⟨kc0, kc1, kg⟩ := HCL.out w5 HB5.out
   have kr : w5.cell? ⟨w4.heap.size, 0, none⟩ = some (.int .i64 r.1) := by simp [World.cell?, HBR5.out]
   have kr1 : w5.cell? ⟨w4.heap.size, 1, none⟩ = some (.slice A3 m3 c3) := by simp [World.cell?, HBR5.out]
   rw [hw5] at kc0 kc1 kg kr kr1
   go_wp2_with fail
   rw [← hw5]
   rw [← hw5] at kc0 kc1 kg kr kr1
   refine (containsInt _ _ _ _ l r.1 _ HR5.out.ints (by omega)).mono ?_
   rintro e w6 ⟨rfl, rfl⟩
   cases hcr : l.contains r.1 with
   | false =>
    have HCR := Lib.hid hcr
    clear hcr hw5 hc1 hc2
    go_wp2_with fail
    go_roundg (nR - (i + 1))
    case measure => rw [HGK.out]; omega
    case rel =>
     refine ⟨i + 1, by omega, rfl, by go_num, fun j r' hj hr' hc' => ?_, HB5.out⟩
     rcases Nat.lt_succ_iff_lt_or_eq.1 hj with h | rfl
     ·
      exact HOU.out j r' h hr' hc'
     ·
      rw [HRR.out] at hr'
      injection hr' with hr'
      subst hr'
      rw [HCR.out] at hc'
      cases hc'
   | true =>
    have HCR := Lib.hid hcr
    clear hcr hw5 hc1 hc2
    go_wp2_with fail
    go_loopg [27] m3 (fun gl vq wy => ∃ (q : Nat), q ≤ m3 ∧ gl = m3 - q ∧ vq = .int .i64 q ∧ OnlyR l p r q ∧ Below w5.heap.size w5 wy)
    case atStart => exact ⟨0, Nat.zero_le _, rfl, rfl, (fun j s h => absurd h (by omega)), Below.refl _ _⟩
    case round =>
     obtain ⟨q, hq, hgl, rfl, hor, hb⟩ := hrel
     have HGL := Lib.hid hgl
     have HOR := Lib.hid hor
     have HBY := Lib.hid hb
     obtain ⟨w7, rfl⟩ : ∃ w7 : World, w7 = wr := ⟨_, rfl⟩
     clear hgl hor hb kc0 kc1 kg kr kr1
     by_cases hlq : q < m3
     ·
      obtain ⟨bs, os, s, hA3, hbs, _, hs1, hs2, hs⟩ := sym_at (HRS5.out.below HBY.out) hlq
      subst hA3
      obtain ⟨tm, xI⟩ := s
      have hqI : (q : Int) < (m3 : Int) := by omega
      have hq0 : (0 : Int) ≤ (q : Int) := by omega
      have HS := Lib.hid hs
      clear hs
      obtain ⟨w8, hw8⟩ : ∃ w8 : World, w8 = w7.alloc (.cells #[.bool tm, .int .i64 xI] 45) := ⟨_, rfl⟩
      have HB8 := Lib.hid (show Below w5.heap.size w5 w8 by rw [hw8]; exact HBY.out.alloc HBY.out.size _)
      have HBS := Lib.hid (show w8.heap[w7.heap.size]? = some (.cells #[.bool tm, .int .i64 xI] 45 (0, 0)) by rw [hw8]; exact heap_alloc_new _ _)
      have hz7 : w5.heap.size ≤ w7.heap.size := HBY.out.size
      have hz15 : w1.heap.size ≤ w5.heap.size := HB5.out.size
      obtain ⟨kc0, kc1, kg⟩ := HCL.out w8 (HB5.out.trans (HB8.out.mono hz15))
      have hbr8 := (HB8.out.block w4.heap.size hz5).trans HBR5.out
      have HBR8 := Lib.hid hbr8
      have ks0 : w8.cell? ⟨w7.heap.size, 0, none⟩ = some (.bool tm) := by simp [World.cell?, HBS.out]
      have ks1 : w8.cell? ⟨w7.heap.size, 1, none⟩ = some (.int .i64 xI) := by simp [World.cell?, HBS.out]
      clear hbr8
      rw [hw8] at kc0 kc1 kg ks0 ks1
      go_wp2_with fail
      rw [← hw8]
      rw [← hw8] at kc0 kc1 kg ks0 ks1
      have HR8 := Lib.hid (HR.out.keep (Kept.belowB (HB1.out.trans ((HB5.out.trans (HB8.out.mono hz15)).mono (by omega))) fun b hb => hb.2))
      refine (compIn _ kd A n c _ l HR8.out hn tm xI).mono ?_
      rintro e w9 ⟨rfl, hb9⟩
      have hz8 : w8.heap.size ≤ w9.heap.size := hb9.size
      have hz78 : w7.heap.size < w8.heap.size := by rw [hw8]; simp
      have HB9 := Lib.hid (HB8.out.trans (hb9.mono (by omega)))
      have hbr9 := (hb9.block _ (by omega)).trans HBR8.out
      have kr0 : w9.cell? ⟨w4.heap.size, 1, none⟩ = some (.slice (some ⟨bs, os, none⟩) m3 c3) := by simp [World.cell?, hbr9]
      clear hw8 hb9 hbr9 kc0 kc1 kg ks0 ks1 hs1 hs2
      cases hin : inC l (tm, xI) with
      | false =>
       have HIN := Lib.hid hin
       clear hin
       go_wp2_with fail
       go_roundg (m3 - (q + 1))
       case measure => rw [HGL.out]; omega
       case rel =>
        refine ⟨q + 1, by omega, rfl, by go_num, fun j s' hj hs' hc' => ?_, HB9.out⟩
        rcases Nat.lt_succ_iff_lt_or_eq.1 hj with h | rfl
        ·
         exact HOR.out j s' h hs' hc'
        ·
         rw [HS.out] at hs'
         injection hs' with hs'
         subst hs'
         rw [HIN.out] at hc'
         cases hc'
      | true =>
       have HIN := Lib.hid hin
       clear hin
       go_wp2_with fail
       refine (hF w9 q m3 (by omega) (by omega)).mono ?_
       rintro e w10 ⟨rfl, rfl⟩
       cases hp : p q m3 with
       | true =>
        have HP := Lib.hid hp
        clear hp
        go_wp2_with fail
        go_roundg (m3 - (q + 1))
        case measure => rw [HGL.out]; omega
        case rel =>
         refine ⟨q + 1, by omega, rfl, by go_num, fun j s' hj hs' hc' => ?_, HB9.out⟩
         rcases Nat.lt_succ_iff_lt_or_eq.1 hj with h | rfl
         ·
          exact HOR.out j s' h hs' hc'
         ·
          rw [← HLN.out]
          exact HP.out
       | false =>
        have HP := Lib.hid hp
        clear hp
        go_wp2_with fail
        go_ret
        refine ⟨⟨false, ret_bool rfl, ?_⟩, HB1.out.trans ((HB5.out.trans (HB9.out.mono hz15)).mono (by omega))⟩
        refine iff_of_false (by simp) fun h => ?_
        have := h r (List.mem_of_getElem? HRR.out) HCR.out q (tm, xI) (by have := HLN.out; omega) HS.out HIN.out
        rw [← HLN.out, HP.out] at this
        cases this
     ·
      obtain rfl : m3 = q := by omega
      have hz15 : w1.heap.size ≤ w5.heap.size := HB5.out.size
      go_wp2_with fail
      go_roundg (nR - (i + 1))
      case measure => rw [HGK.out]; omega
      case rel =>
       refine ⟨i + 1, by omega, rfl, by go_num, fun j r' hj hr' hc' => ?_, HB5.out.trans (HBY.out.mono hz15)⟩
       rcases Nat.lt_succ_iff_lt_or_eq.1 hj with h | rfl
       ·
        exact HOU.out j r' h hr' hc'
       ·
        rw [HRR.out] at hr'
        injection hr' with hr'
        subst hr'
        rw [← HLN.out]
        exact HOR.out
  ·
   obtain rfl : nR = i := by omega
   go_wp2_with fail
   go_ret
   refine ⟨⟨true, ret_bool rfl, ?_⟩, HB1.out.trans (HB.out.mono (by omega))⟩
   refine iff_of_true rfl fun r hr hc => ?_
   obtain ⟨j, hj⟩ := List.getElem?_of_mem hr
   have hjl := (List.getElem?_eq_some_iff.1 hj).1
   exact HOU.out j r (by have := HRL.out; omega) hj hc
end Go.Proofs.YtocbkccchnbmaaaGreat
