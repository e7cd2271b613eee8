/- guess.agrees: whether a grammar has all examples and no counterexample. -/
import Derived.Test.YtidigjfnifmiiaaDoorSlIdxW
import Derived.Test.YtidigjfnifmiiaaDoorAccepts
import Derived.Laws.EntriesVeiled
namespace Go.Proofs.YtidigjfnifmiiaaDoor
open Go.RowKit

def WrdOk (T : Int) (x : List Int) : Prop := x.length ≤ 12 ∧ ∀ y ∈ x, 0 ≤ y ∧ y < T
noncomputable def agP (g : GramD) (yes no : List (List Int)) : Bool := !(no.any fun x => accD g.2.2.2 g.2.2.1 x) && !(yes.any fun x => !accD g.2.2.2 g.2.2.1 x)
set_option maxHeartbeats 1000000 in
theorem agHas (w : World) (hTb : Tab w) (Bg : Nat) (S : Nat → Prop) (g : GramD) (AR : Option Addr) (nR cR : Nat) (hg : Sl RRule w S AR nR cR g.2.2.2) (hv : GValid g) (hB : w.heap[Bg]? = some (.cells #[.int .i64 g.1, .int .i64 g.2.1, .int .i64 g.2.2.1, .slice AR nR cR] 25 (0, 0)))
    (S' : Nat → Prop) (A : Option Addr) (n c : Nat) (x : List Int) (hs : Sl Rep.int w S' A n c x) (hx : WrdOk g.1 x) :
    Calls Tryd.prog 54 #[.slice A n c, .pointer (some ⟨Bg, 0, none⟩)] w fun e w' => e = .returned (.bool (accD g.2.2.2 g.2.2.1 x)) ∧ Below w.heap.size w w' := by
  have k0 : w.cell? ⟨Bg, 0, none⟩ = some (.int .i64 g.1) := by simp [World.cell?, hB]
  have k1 : w.cell? ⟨Bg, 1, none⟩ = some (.int .i64 g.2.1) := by simp [World.cell?, hB]
  have k2 : w.cell? ⟨Bg, 2, none⟩ = some (.int .i64 g.2.2.1) := by simp [World.cell?, hB]
  have k3 : w.cell? ⟨Bg, 3, none⟩ = some (.slice AR nR cR) := by simp [World.cell?, hB]
  have hn := hs.len
  have HTB := Lib.hid hTb
  have HG := Lib.hid hg
  have HV := Lib.hid hv
  have HS := Lib.hid hs
  have HX := Lib.hid hx
  have hn12 : n ≤ 12 := by have := hx.1; omega
  clear hTb hg hv hs hx hB hn
  go_enter Tryd.func54, Tryd.ntmps54
  go_wp2_with fail
  refine (meanAccepts w HTB.out _ _ AR nR cR g HG.out HV.out A n c x HS.out.ints HX.out.2 hn12).mono ?_
  rintro e w1 ⟨rfl, hb1⟩
  have HB1 := Lib.hid hb1
  clear hb1
  go_wp2_with fail
  go_ret
  exact ⟨rfl, HB1.out⟩
theorem entersHas : ∀ (args : Array Value) (u : World), (callFunc 54 args).run Tryd.prog u = .ok (.enter 54 args) u := enters_of Tryd.func54 (by kernel_rfl) rfl
theorem entersNot : ∀ (args : Array Value) (u : World), (callFunc 55 args).run Tryd.prog u = .ok (.enter 55 args) u := enters_of Tryd.func55 (by kernel_rfl) rfl
set_option maxHeartbeats 1000000 in
theorem agNot (w : World) (hTb : Tab w) (Bg Bf : Nat) (S : Nat → Prop) (g : GramD) (AR : Option Addr) (nR cR : Nat) (hg : Sl RRule w S AR nR cR g.2.2.2) (hv : GValid g) (hB : w.heap[Bg]? = some (.cells #[.int .i64 g.1, .int .i64 g.2.1, .int .i64 g.2.2.1, .slice AR nR cR] 25 (0, 0)))
    (hF : w.cell? ⟨Bf, 0, none⟩ = some (.func (.func 54) #[] #[.pointer (some ⟨Bg, 0, none⟩)]))
    (S' : Nat → Prop) (A : Option Addr) (n c : Nat) (x : List Int) (hs : Sl Rep.int w S' A n c x) (hx : WrdOk g.1 x) :
    Calls Tryd.prog 55 #[.slice A n c, .pointer (some ⟨Bf, 0, none⟩)] w fun e w' => e = .returned (.bool (!accD g.2.2.2 g.2.2.1 x)) ∧ Below w.heap.size w w' := by
  have HC := Lib.hid (agHas w hTb Bg S g AR nR cR hg hv hB S' A n c x hs hx)
  have he := entersHas
  clear hTb hg hv hs hx hB
  go_enter Tryd.func55, Tryd.ntmps55
  go_wp2_with fail
  refine HC.out.mono ?_
  rintro e w1 ⟨rfl, hb1⟩
  have HB1 := Lib.hid hb1
  clear hb1
  go_wp2_with fail
  go_ret
  exact ⟨ret_bool (by simp), HB1.out⟩
theorem tellsHas (w : World) (hTb : Tab w) (h0 : 0 < w.heap.size) (Bg : Nat) (S : Nat → Prop) (g : GramD) (AR : Option Addr) (nR cR : Nat) (hg : Sl RRule w S AR nR cR g.2.2.2) (hv : GValid g) (hB : w.heap[Bg]? = some (.cells #[.int .i64 g.1, .int .i64 g.2.1, .int .i64 g.2.2.1, .slice AR nR cR] 25 (0, 0))) :
    TellsW Tryd.prog w (WrdOk g.1) (fun x => accD g.2.2.2 g.2.2.1 x) 54 #[.pointer (some ⟨Bg, 0, none⟩)] := fun u hu x A m c S' hs hx =>
  agHas u (hTb.below hu h0) Bg S g AR nR cR (hg.below hu) hv ((hu.block _ (heap_lt hB)).trans hB) S' A m c x hs hx
theorem tellsNot (w : World) (hTb : Tab w) (h0 : 0 < w.heap.size) (Bg Bf : Nat) (S : Nat → Prop) (g : GramD) (AR : Option Addr) (nR cR : Nat) (hg : Sl RRule w S AR nR cR g.2.2.2) (hv : GValid g) (hB : w.heap[Bg]? = some (.cells #[.int .i64 g.1, .int .i64 g.2.1, .int .i64 g.2.2.1, .slice AR nR cR] 25 (0, 0)))
    (hF : w.cell? ⟨Bf, 0, none⟩ = some (.func (.func 54) #[] #[.pointer (some ⟨Bg, 0, none⟩)])) :
    TellsW Tryd.prog w (WrdOk g.1) (fun x => !accD g.2.2.2 g.2.2.1 x) 55 #[.pointer (some ⟨Bf, 0, none⟩)] := fun u hu x A m c S' hs hx =>
  agNot u (hTb.below hu h0) Bg Bf S g AR nR cR (hg.below hu) hv ((hu.block _ (heap_lt hB)).trans hB) ((hu.cell (cell_lt hF)).trans hF) S' A m c x hs hx
set_option maxRecDepth 100000 in
set_option maxHeartbeats 2000000 in
theorem guessAgr (w : World) (hTb : Tab w) (S : Nat → Prop) (g : GramD) (AR : Option Addr) (nR cR : Nat) (hg : Sl RRule w S AR nR cR g.2.2.2) (hv : GValid g)
    (S1 : Nat → Prop) (A1 : Option Addr) (n1 c1 : Nat) (yes : List (List Int)) (hy : Sl RIV w S1 A1 n1 c1 yes) (hyo : ∀ x ∈ yes, WrdOk g.1 x)
    (S2 : Nat → Prop) (A2 : Option Addr) (n2 c2 : Nat) (no : List (List Int)) (hno : Sl RIV w S2 A2 n2 c2 no) (hnoo : ∀ x ∈ no, WrdOk g.1 x) (hn1 : n1 ≤ 1000) (hn2 : n2 ≤ 1000) :
    Calls Tryd.prog 32 #[.agg #[.int .i64 g.1, .int .i64 g.2.1, .int .i64 g.2.2.1, .slice AR nR cR], .slice A1 n1 c1, .slice A2 n2 c2] w fun e w' => e = .returned (.bool (agP g yes no)) ∧ Below w.heap.size w w' := by
  obtain ⟨w1, hw1⟩ : ∃ w1 : World, w1 = (w.alloc (.cells #[.int .i64 g.1, .int .i64 g.2.1, .int .i64 g.2.2.1, .slice AR nR cR] 25)).alloc (.cells #[.func (.func 54) #[] #[.pointer (some ⟨w.heap.size, 0, none⟩)]] 77) := ⟨_, rfl⟩
  have hz1 : w1.heap.size = w.heap.size + 2 := by rw [hw1]; simp
  have HB1 := Lib.hid (show Below w.heap.size w w1 by rw [hw1]; exact ((Below.refl _ _).alloc (Nat.le_refl _) _).alloc (by simp) _)
  have HBG := Lib.hid (show w1.heap[w.heap.size]? = some (.cells #[.int .i64 g.1, .int .i64 g.2.1, .int .i64 g.2.2.1, .slice AR nR cR] 25 (0, 0)) by rw [hw1]; exact (Below.heap_alloc _ _ _ (by simp)).trans (heap_alloc_new _ _))
  have HBF := Lib.hid (show w1.heap[w.heap.size + 1]? = some (.cells #[.func (.func 54) #[] #[.pointer (some ⟨w.heap.size, 0, none⟩)]] 77 (0, 0)) by rw [hw1]; exact heap_new _ _ _ (by simp))
  have HTB := Lib.hid (hTb.below HB1.out hTb.1)
  have HG := Lib.hid (hg.below HB1.out)
  have HV := Lib.hid hv
  have HY := Lib.hid (hy.below HB1.out)
  have HN := Lib.hid (hno.below HB1.out)
  have HYO := Lib.hid hyo
  have HNO := Lib.hid hnoo
  have hagd : agP g yes no = (!(no.any fun x => accD g.2.2.2 g.2.2.1 x) && !(yes.any fun x => !accD g.2.2.2 g.2.2.1 x)) := rfl
  have HAG := Lib.hid hagd
  have hw10 : 0 < w1.heap.size := by omega
  have he := entersHas
  have he2 := entersNot
  clear hTb hg hv hy hno hyo hnoo hagd
  go_enter Tryd.func32, Tryd.ntmps32
  --@1
  go_wp2_with fail
  rw [← hw1]
  refine (containsFnW w1 _ _ (WrdOk g.1) (fun x => accD g.2.2.2 g.2.2.1 x) _ _ _ _ no entersHas (tellsHas w1 HTB.out hw10 w.heap.size _ g AR nR cR HG.out HV.out HBG.out) HN.out HNO.out (by omega)).mono ?_
  rintro e w2 ⟨rfl, hb2⟩
  have hz2 := hb2.size
  have HB2 := Lib.hid (HB1.out.trans (hb2.mono (by omega)))
  have HB12 := Lib.hid hb2
  have hf2 : w2.cell? ⟨w.heap.size + 1, 0, none⟩ = some (.func (.func 54) #[] #[.pointer (some ⟨w.heap.size, 0, none⟩)]) := by
    have := (hb2.block _ (by omega)).trans HBF.out
    simp [World.cell?, this]
  obtain ⟨b1, hb1⟩ : ∃ b, b = no.any fun x => accD g.2.2.2 g.2.2.1 x := ⟨_, rfl⟩
  rw [← hb1]
  have HA := Lib.hid hb1
  clear hb2 hb1 hw1
  cases b1 with
  | true =>
    --@2
    go_wp2_with fail
    go_ret
    exact ⟨ret_bool (by rw [HAG.out, ← HA.out]; rfl), HB2.out⟩
  | false =>
    --@3
    go_wp2_with fail
    refine (containsFnW w2 _ _ (WrdOk g.1) (fun x => !accD g.2.2.2 g.2.2.1 x) _ _ _ _ yes entersNot (tellsNot w2 (HTB.out.below HB12.out hw10) (by omega) w.heap.size (w.heap.size + 1) _ g AR nR cR (HG.out.below HB12.out) HV.out ((HB12.out.block _ (by omega)).trans HBG.out) hf2) (HY.out.below HB12.out) HYO.out (by omega)).mono ?_
    rintro e w3 ⟨rfl, hb3⟩
    have HB3 := Lib.hid (HB2.out.trans (hb3.mono (by omega)))
    obtain ⟨b2, hb2⟩ : ∃ b, b = yes.any fun x => !accD g.2.2.2 g.2.2.1 x := ⟨_, rfl⟩
    rw [← hb2]
    have HA2 := Lib.hid hb2
    clear hb3 hb2
    --@4
    go_wp2_with fail
    go_ret
    exact ⟨ret_bool (by rw [HAG.out, ← HA.out, ← HA2.out]; simp), HB3.out⟩
end Go.Proofs.YtidigjfnifmiiaaDoor
