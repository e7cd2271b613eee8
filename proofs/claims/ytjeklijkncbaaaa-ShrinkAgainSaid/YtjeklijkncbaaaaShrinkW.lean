/- What shrink.Word computes. -/
import Derived.Test.YtjeklijkncbaaaaSlInt
import Derived.Test.YtjeklijkncbaaaaMinMax
import Derived.StillTailTactics
namespace Go.Proofs.Ytjeklijkncbaaaa
open Go.RowKit

/-- a function value that tells, of every list of G, what p says, and makes new memory at most -/
def Tells (P : Program) (w0 : World) (G : List Int → Prop) (p : List Int → Bool) (F : FuncId) (caps : Array Value) : Prop :=
  ∀ (w : World), Below w0.heap.size w0 w → ∀ (A : Option Addr) (n c : Nat) (S : Nat → Prop) (l : List Int), Rd w S 1 A n (l.map (Value.int .i64)) → G l →
    Calls P F (#[.slice A n c] ++ caps) w fun e w' => e = .returned (.bool (p l)) ∧ Below w.heap.size w w'

def slen : Value → Nat
  | .slice _ n _ => n
  | _ => 0
/-- without the terminal at i -/
theorem erase_parts (l : List Int) (i : Nat) : l.eraseIdx i = l.take i ++ l.drop (i + 1) := List.eraseIdx_eq_take_drop_succ l i
theorem concat_erase2 (u : World) (S0 S : Nat → Prop) (H : Nat) (A A' : Option Addr) (i n c m c' : Nat) (l : List Int) (h0 : Rd u S0 1 (some ⟨H, 0, none⟩) 2 [.slice A i c, .slice A' m c'])
    (h1 : Rd u S 1 A i ((l.take i).map (Value.int .i64))) (h2 : Rd u S 1 A' m ((l.drop (i + 1)).map (Value.int .i64))) (hn : n ≤ 60) (hi : i < n) (hm : m = n - (i + 1)) (hc1 : i ≤ c) (hc2 : m ≤ c') :
    Calls Try.prog 22 #[.slice (some ⟨H, 0, none⟩) 2 2] u
      fun e w' => ∃ A3 c3, e = .returned (.slice A3 (n - 1) c3) ∧ Sl Rep.int w' (fun b => u.heap.size ≤ b) A3 (n - 1) c3 (l.eraseIdx i) ∧ Below u.heap.size u w' := by
  have hlen : partsLen [⟨A, i, c, (l.take i).map (Value.int .i64)⟩, ⟨A', m, c', (l.drop (i + 1)).map (Value.int .i64)⟩] = n - 1 := by simp [partsLen]; omega
  refine (concatInt H 0 2 (fun _ => True) [⟨A, i, c, (l.take i).map (Value.int .i64)⟩, ⟨A', m, c', (l.drop (i + 1)).map (Value.int .i64)⟩] u
    (h0.more fun _ _ => trivial) ?_ (by simp) (by rw [hlen]; omega)).mono ?_
  · intro p hp
    rcases List.mem_cons.1 hp with rfl | hp
    · exact ⟨h1.more fun _ _ => trivial, hc1, one_ints _⟩
    · obtain rfl := List.mem_singleton.1 hp
      exact ⟨h2.more fun _ _ => trivial, hc2, one_ints _⟩
  · rintro e w' ⟨v, rfl, ho, hb⟩
    rw [hlen] at ho
    obtain ⟨A3, c3, rfl, hc3, _⟩ := ho.form
    have hall : partsAll [⟨A, i, c, (l.take i).map (Value.int .i64)⟩, ⟨A', m, c', (l.drop (i + 1)).map (Value.int .i64)⟩] = (l.eraseIdx i).map (Value.int .i64) := by
      rw [erase_parts, List.map_append]; simp [partsAll]
    rw [hall] at ho
    exact ⟨A3, c3, rfl, ho.rd.slInts hc3, hb⟩
theorem concat_erase (w2 : World) (S : Nat → Prop) (A A' : Option Addr) (i n c m c' : Nat) (l : List Int) (h1 : Rd w2 S 1 A i ((l.take i).map (Value.int .i64))) (h2 : Rd w2 S 1 A' m ((l.drop (i + 1)).map (Value.int .i64))) (hn : n ≤ 60) (hi : i < n) (hm : m = n - (i + 1)) (hc1 : i ≤ c) (hc2 : m ≤ c') :
    Calls Try.prog 22 #[.slice (some ⟨w2.heap.size, 0, none⟩) 2 2] (w2.alloc (.cells #[.slice A i c, .slice A' m c'] 29))
      fun e w' => ∃ A3 c3, e = .returned (.slice A3 (n - 1) c3) ∧ Sl Rep.int w' (fun b => w2.heap.size ≤ b) A3 (n - 1) c3 (l.eraseIdx i) ∧ Below w2.heap.size w2 w' :=
  (concat_erase2 _ (fun _ => True) S w2.heap.size A A' i n c m c' l (Rd.new w2 _ _ [.slice A i c, .slice A' m c'] _ rfl trivial) (h1.alloc _) (h2.alloc _) hn hi hm hc1 hc2).mono fun e w' ⟨A3, c3, h3, h4, h5⟩ =>
    ⟨A3, c3, h3, h4.more fun b hb => by simp at hb; omega, ((Below.refl _ _).alloc (Nat.le_refl _) _).trans (h5.mono (by simp))⟩
set_option maxHeartbeats 2000000 in
theorem shrinkWord_yes (w : World) (F : FuncId) (caps : Array Value) (G : List Int → Prop) (p : List Int → Bool) (A : Option Addr) (n c : Nat) (S : Nat → Prop) (l : List Int)
    (he : ∀ (args : Array Value) (u : World), (callFunc F args).run Try.prog u = .ok (.enter F args) u) (hF : Tells Try.prog w G p F caps) (hr : Rd w S 1 A n (l.map (Value.int .i64))) (hG : G l) (hGe : ∀ l i, G l → G (l.eraseIdx i)) (hn : n ≤ 60) (hp : p l = true) :
    Calls Try.prog 17 #[.slice A n c, .func (.func F) #[] caps] w fun e w' => ∃ A' n' c' r, e = .returned (.tuple #[.slice A' n' c', .int .i64 0]) ∧ Sl Rep.int w' (fun b => w.heap.size ≤ b) A' n' c' r ∧
      r.Sublist l ∧ p r = true ∧ G r ∧ (∀ j < r.length, p (r.eraseIdx j) = false) ∧ (r = l ∨ ∃ j < l.length, p (l.eraseIdx j) = true) ∧ Below w.heap.size w w' := by
  have hl : l.length = n := by simpa using hr.1
  have HF := Lib.hid hF
  have HR := Lib.hid hr
  have HP := Lib.hid hp
  have HGE := Lib.hid hGe
  have HL := Lib.hid hl
  have hn60 : decide (60 < (n : Int)) = false := by simp; omega
  have tok1 : True := trivial
  clear hF hr hp hGe hl
  go_enter Try.func17, Try.ntmps17
  go_wp2_with (go_at_call 27; have _t := tok1; refine (cloneInt _ _ _ _ _ _ HR.out (by omega)).mono ?_; rintro e w1 ⟨v1, rfl, ho1, hb1⟩; obtain ⟨A1, c1, rfl, hc1, _⟩ := ho1.form; have HO1 := Lib.hid ho1; have HB1 := Lib.hid hb1; clear ho1 hb1 tok1)
  refine (HF.out w1 HB1.out A1 n c1 _ l HO1.out.rd hG).mono ?_
  rintro e w2 ⟨rfl, hb2⟩
  rw [HP.out]
  have HB2 := Lib.hid (HB1.out.trans (hb2.mono HB1.out.size))
  clear hb2
  go_wp2_with (go_at_call 27; refine (cloneInt _ _ _ _ _ _ (HR.out.below HB2.out) (by omega)).mono ?_; rintro e w3 ⟨v3, rfl, ho3, hb3⟩; obtain ⟨A3, c3, rfl, hc3, _⟩ := ho3.form; have HO3 := Lib.hid ho3; have HB3 := Lib.hid (HB2.out.trans (hb3.mono HB2.out.size)); clear ho3 hb3)
  have hst : Sl Rep.int w3 (fun b => w.heap.size ≤ b) A3 n c3 l := ((HO3.out.rd).more fun b hb => by have := HB2.out.size; omega).slInts hc3
  have HST := Lib.hid hst
  clear hst HO3
  go_loopw [0, 6] (fun v i wr => ∃ (A' : Option Addr) (n' c' j : Nat) (r : List Int), v = .slice A' n' c' ∧ i = .int .i64 j ∧ j ≤ n' ∧ Sl Rep.int wr (fun b => w.heap.size ≤ b) A' n' c' r ∧
      r.Sublist l ∧ p r = true ∧ G r ∧ (∀ q < j, p (r.eraseIdx q) = false) ∧ (r = l ∨ ∃ j < l.length, p (l.eraseIdx j) = true) ∧ Below w.heap.size w wr) (fun v i _ => slen v * 100 + (slen v - (intOf i).toNat))
  case atStart => exact ⟨A3, n, c3, 0, l, rfl, rfl, Nat.zero_le _, HST.out, List.Sublist.refl _, HP.out, hG, (fun q hq => absurd hq (by omega)), .inl rfl, HB3.out⟩
  case round =>
    obtain ⟨A', n', c', j, r, rfl, rfl, hj, hsl, hsub, hpr, hGr, hq, hor, hb⟩ := hrel
    have hn' : n' ≤ 60 := by have := hsub.length_le; have := hsl.len; have := HL.out; omega
    have hcap := hsl.cap
    have HSL := Lib.hid hsl
    have HSUB := Lib.hid hsub
    have HPR := Lib.hid hpr
    have HQ := Lib.hid hq
    have HOR := Lib.hid hor
    have HB := Lib.hid hb
    clear hsl hsub hpr hq hor hb
    by_cases hlt : j < n'
    · obtain ⟨A4, hcut, hrd4⟩ := tInts.cutl (c := c') HSL.out.ints ((j : Int) + 1) (by omega) (by omega) hcap
      have e1 : ((j : Int) + 1).toNat = j + 1 := by omega
      rw [e1] at hcut hrd4
      have hcuth := tInts.hN A' n' c' j (by omega)
      have HRD4 := Lib.hid hrd4
      clear hrd4 e1
      go_wp2_with fail
      have hwrap : IntKind.i64.wrap ((j : Int) + 1) = (j : Int) + 1 := IntWalk.i64_in _ (by omega)
      go_still_tail 7, (by kernel_rfl)
      clear hwrap
      change wpList _ _ _ _ _ wr.drew
      obtain ⟨w4, hw4⟩ : ∃ w4, w4 = wr.drew := ⟨_, rfl⟩
      rw [← hw4]
      have hsz4 : w4.heap.size = wr.heap.size := by rw [hw4]; rfl
      have hb4 : Below w.heap.size w w4 := by rw [hw4]; exact HB.out.drew
      have hk4 : Kept (fun b => w.heap.size ≤ b) wr w4 := by rw [hw4]; exact Kept.drew _ _
      have hp1 : Rd w4 (fun b => w.heap.size ≤ b) 1 A' j ((r.take j).map (Value.int .i64)) := by
        have := (HSL.out.ints.keep hk4).cuth j (by omega)
        rwa [Nat.mul_one, ← List.map_take] at this
      have hp2 : Rd w4 (fun b => w.heap.size ≤ b) 1 A4 (n' - (j + 1)) ((r.drop (j + 1)).map (Value.int .i64)) := by
        have := HRD4.out.keep hk4
        rwa [Nat.mul_one, ← List.map_drop] at this
      have hsl4 := HSL.out.keep hk4
      have HB4 := Lib.hid hb4
      have HP1 := Lib.hid hp1
      have HP2 := Lib.hid hp2
      have HSL4 := Lib.hid hsl4
      clear hw4 hb4 hk4 hp1 hp2 hsl4 hsz4 HB HSL HRD4 hcut hcuth
      go_wp2_with fail
      refine (concat_erase w4 _ A' A4 j n' c' _ _ r HP1.out HP2.out hn' hlt rfl (by omega) (by omega)).mono ?_
      rintro e w5 ⟨A5, c5, rfl, hsl5, hb5⟩
      have HSL5 := Lib.hid hsl5
      have HB5 := Lib.hid (HB4.out.trans (hb5.mono HB4.out.size))
      have HB45 := Lib.hid hb5
      clear hsl5 hb5
      go_wp2_with (go_at_call 27; refine (cloneInt _ _ _ _ _ _ HSL5.out.ints (by omega)).mono ?_; rintro e w6 ⟨v6, rfl, ho6, hb6⟩; obtain ⟨A6, c6, rfl, hc6, _⟩ := ho6.form; have HO6 := Lib.hid ho6; have HB6 := Lib.hid (HB5.out.trans (hb6.mono HB5.out.size)); have HB56 := Lib.hid hb6; clear ho6 hb6)
      refine (HF.out w6 HB6.out A6 (n' - 1) c6 _ (r.eraseIdx j) HO6.out.rd (HGE.out _ _ hGr)).mono ?_
      rintro e w7 ⟨rfl, hb7⟩
      have HB7 := Lib.hid (HB6.out.trans (hb7.mono HB6.out.size))
      have hsl7 := (HSL5.out.below (HB56.out.trans (hb7.mono HB56.out.size))).more (S' := fun b => w.heap.size ≤ b) fun b hb => by have := HB4.out.size; omega
      have hslo := HSL4.out.below (HB45.out.trans ((HB56.out.trans (hb7.mono HB56.out.size)).mono HB45.out.size))
      have HSL7 := Lib.hid hsl7
      have HSLO := Lib.hid hslo
      clear hb7 hsl7 hslo
      cases hpe : p (r.eraseIdx j) with
      | true =>
        have HPE := Lib.hid hpe
        clear hpe
        go_wp2_with fail
        go_roundw
        case rel =>
          refine ⟨A5, n' - 1, c5, 0, r.eraseIdx j, rfl, by go_num, Nat.zero_le _, HSL7.out, (List.eraseIdx_sublist _ _).trans HSUB.out, HPE.out, HGE.out _ _ hGr, (fun q hq => absurd hq (by omega)), .inr ?_, HB7.out⟩
          rcases HOR.out with h | h
          · subst h
            exact ⟨j, by rw [← HSLO.out.len]; exact hlt, HPE.out⟩
          · exact h
        case measure => simp [intOf, slen]; omega
      | false =>
        have HPE := Lib.hid hpe
        clear hpe
        go_wp2_with fail
        go_roundw
        case rel =>
          refine ⟨A', n', c', j + 1, r, rfl, by go_num, by omega, HSLO.out, HSUB.out, HPR.out, hGr, ?_, HOR.out, HB7.out⟩
          intro q hq
          rcases Nat.lt_succ_iff_lt_or_eq.1 hq with h | rfl
          · exact HQ.out q h
          · exact HPE.out
        case measure => simp [intOf, slen]; omega
    · go_wp2_with fail
      go_ret2
      obtain rfl : j = n' := by omega
      exact ⟨A', _, c', r, rfl, HSL.out, HSUB.out, HPR.out, hGr, (by rw [← HSL.out.len]; exact HQ.out), HOR.out, HB.out⟩
set_option maxHeartbeats 2000000 in
theorem shrinkWord_no (w : World) (F : FuncId) (caps : Array Value) (G : List Int → Prop) (p : List Int → Bool) (A : Option Addr) (n c : Nat) (S : Nat → Prop) (l : List Int)
    (he : ∀ (args : Array Value) (u : World), (callFunc F args).run Try.prog u = .ok (.enter F args) u) (hF : Tells Try.prog w G p F caps) (hr : Rd w S 1 A n (l.map (Value.int .i64))) (hG : G l) (hn : n ≤ 60) (hp : p l = false) :
    Calls Try.prog 17 #[.slice A n c, .func (.func F) #[] caps] w fun e w' => e = .returned (.tuple #[.slice none 0 0, .int .i64 7]) ∧ Below w.heap.size w w' := by
  have HF := Lib.hid hF
  have HR := Lib.hid hr
  have HP := Lib.hid hp
  have hn60 : decide (60 < (n : Int)) = false := by simp; omega
  clear hF hr hp
  go_enter Try.func17, Try.ntmps17
  go_wp2_with (go_at_call 27; refine (cloneInt _ _ _ _ _ _ HR.out (by omega)).mono ?_; rintro e w1 ⟨v1, rfl, ho1, hb1⟩; obtain ⟨A1, c1, rfl, hc1, _⟩ := ho1.form; have HO1 := Lib.hid ho1; have HB1 := Lib.hid hb1; clear ho1 hb1)
  refine (HF.out w1 HB1.out A1 n c1 _ l HO1.out.rd hG).mono ?_
  rintro e w2 ⟨rfl, hb2⟩
  rw [HP.out]
  have HB2 := Lib.hid (HB1.out.trans (hb2.mono HB1.out.size))
  clear hb2
  go_wp2_with fail
  go_ret2
  exact ⟨rfl, HB2.out⟩
end Go.Proofs.Ytjeklijkncbaaaa
