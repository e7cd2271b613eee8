/- MkMeets LeastC -/
import Derived.Test.YtbmcoamdfpegnaaMa18
import Derived.Test.YtbmcoamdfpegnaaMa52
namespace Go.Proofs.Ytbmcoamdfpegnaa
open Go.RowKit Go.Maps
theorem plain_meetIn : MeetIn (2, 1, 0, plainR) endsD := by
 refine ⟨⟨by decide, by decide, by decide, by decide, by decide, by decide, ?_, ?_⟩, ends_valid, by decide, by decide⟩
 intro r hr
 simp only [plainR, List.mem_cons, List.not_mem_nil, or_false] at hr
 rcases hr with rfl | rfl
 ·
  refine ⟨by decide, by decide, fun s hs => ?_⟩
  simp only [List.mem_cons, List.not_mem_nil, or_false] at hs
  subst hs
  unfold SymOk
  decide
 ·
  refine ⟨by decide, by decide, fun s hs => ?_⟩
  simp only [List.mem_cons, List.not_mem_nil, or_false] at hs
  unfold SymOk
  rcases hs with rfl | rfl <;> decide
 ·
  decide
set_option linter.unusedSimpArgs false in
set_option maxRecDepth 100000 in
set_option maxHeartbeats 4000000 in
theorem keepMeets (w : World) : Calls Try.prog 7 #[] w fun e w' => e = .returned (.bool true) ∧ Below w.heap.size w w' := by
 go_enter Try.func7, Try.ntmps7
 go_wp2_with (first
  | (go_at_call 22; refine (keepPlain _).mono ?_; rintro e w1 ⟨AR, rfl, hg, hb1⟩; have HG := Lib.hid hg; have HB1 := Lib.hid hb1; clear hg hb1)
  | (go_at_call 23; refine (keepEnds _).mono ?_; rintro e w2 ⟨A, n, c, N, m, k, rfl, hA, hN, hb2⟩; have HA := Lib.hid hA; have HN := Lib.hid hN; have HB2 := Lib.hid (HB1.out.trans (hb2.mono HB1.out.size)); have HG2 := Lib.hid (HG.out.fit.below hb2); clear hA hN hb2)
  | (go_at_call 8; have hz := HB1.out.size; refine (mkOf w2 (fun b => w.heap.size ≤ b) (2, 1, 0, plainR) endsD plain_meetIn AR 2 2 (HG2.out.more fun b hb => hb.1) A n c (HA.out.more fun b hb => Nat.le_trans hz hb) N m k (HN.out.more fun b hb => Nat.le_trans hz hb)).mono ?_; rintro e w3 ⟨hof, hb3⟩; obtain ⟨A0, c0, A1, c1, A2, c2, rfl⟩ := plain_of hof; have HB3 := Lib.hid (HB2.out.trans (hb3.mono HB2.out.size)); clear hof hb3 hz))
 go_ret
 exact ⟨rfl, HB3.out.alloc HB3.out.size _⟩
end Go.Proofs.Ytbmcoamdfpegnaa
namespace Go.Proofs.Ytbmcoamdfpegnaa
open Go.RowKit
set_option maxRecDepth 100000 in
set_option maxHeartbeats 1000000 in
theorem usefulLensB (w : World) (S : Nat → Prop) (AR : Option Addr) (nR cR : Nat) (g : GramD) (hg : Sl RRule w S AR nR cR g.2.2.2) (hv : GValid g) :
    Calls Try.prog 30 #[.agg #[.int .i64 g.1, .int .i64 g.2.1, .int .i64 g.2.2.1, .slice AR nR cR]] w fun e w' => (∃ (A : Option Addr) (c : Nat) (ls : List Int), e = .returned (.tuple #[.slice A (nonsOf g) c, .int .i64 0]) ∧ Rd w' (fun b => w.heap.size ≤ b) 1 A (nonsOf g) (ls.map (Value.int .i64)) ∧ nonsOf g ≤ c ∧ ls.length = nonsOf g ∧ LeastOk g.2.2.2 ls ∧ BoundL ls) ∧ Below w.heap.size w w' := by
 have HG := Lib.hid (hg.alloc (.cells #[.int .i64 g.1, .int .i64 g.2.1, .int .i64 g.2.2.1, .slice AR nR cR] 25))
 have HV := Lib.hid hv
 clear hg hv
 have hall : ∀ u : World, Below (w.heap.size + 1) (w.alloc (.cells #[.int .i64 g.1, .int .i64 g.2.1, .int .i64 g.2.2.1, .slice AR nR cR] 25)) u → u.cell? ⟨w.heap.size, 0, none⟩ = some (.int .i64 g.1) ∧ u.cell? ⟨w.heap.size, 1, none⟩ = some (.int .i64 g.2.1) ∧ u.cell? ⟨w.heap.size, 2, none⟩ = some (.int .i64 g.2.2.1) ∧ u.cell? ⟨w.heap.size, 3, none⟩ = some (.slice AR nR cR) := by
  intro u hu
  refine ⟨(hu.cell (by simp)).trans ?_, (hu.cell (by simp)).trans ?_, (hu.cell (by simp)).trans ?_, (hu.cell (by simp)).trans ?_⟩ <;> simp
 have HALL := Lib.hid hall
 clear hall
 go_enter Try.func30, Try.ntmps30
 go_wp2_with fail
 refine (gramCheck _ S AR nR cR g HG.out HV.out).mono ?_
 rintro e w1 ⟨rfl, hb1⟩
 simp only [World.size_alloc] at hb1
 obtain ⟨k0, k1, k2, k3⟩ := HALL.out _ hb1
 have HB1 := Lib.hid hb1
 clear hb1
 go_wp2_with fail
 clear k0 k1 k2 k3
 refine (usefulLengthsB w1 S AR nR cR g (HG.out.below (HB1.out.mono (by simp))) HV.out).mono ?_
 rintro e w2 ⟨⟨A, c, ls, rfl, hr, hc, hl, hok⟩, hb2⟩
 have hz1 := HB1.out.size
 simp only [World.size_alloc] at hz1
 have HB2 := Lib.hid (((Below.refl w.heap.size w).alloc (Nat.le_refl _) (.cells #[.int .i64 g.1, .int .i64 g.2.1, .int .i64 g.2.2.1, .slice AR nR cR] 25)).trans ((HB1.out.trans (hb2.mono hz1)).mono (by omega)))
 have HR := Lib.hid hr
 have HL := Lib.hid hl
 have HOK := Lib.hid hok
 clear hr hl hok hb2
 go_wp2_with fail
 go_ret2
 exact ⟨⟨A, c, ls, rfl, HR.out.more (fun b hb => by omega), hc, HL.out, HOK.out⟩, HB2.out⟩
set_option maxRecDepth 100000 in
set_option maxHeartbeats 1000000 in
theorem censusLeastB (w : World) (S : Nat → Prop) (AR : Option Addr) (nR cR : Nat) (g : GramD) (hg : Sl RRule w S AR nR cR g.2.2.2) (hv : GValid g) :
    Calls Try.prog 12 #[.agg #[.int .i64 g.1, .int .i64 g.2.1, .int .i64 g.2.2.1, .slice AR nR cR]] w fun e w' => (∃ (A : Option Addr) (c : Nat) (ls : List Int), e = .returned (.tuple #[.slice A (nonsOf g) c, .int .i64 0]) ∧ Rd w' (fun b => w.heap.size ≤ b) 1 A (nonsOf g) (ls.map (Value.int .i64)) ∧ nonsOf g ≤ c ∧ ls.length = nonsOf g ∧ LeastOk g.2.2.2 ls ∧ BoundL ls) ∧ Below w.heap.size w w' := by
 have HG := Lib.hid (hg.alloc (.cells #[.int .i64 g.1, .int .i64 g.2.1, .int .i64 g.2.2.1, .slice AR nR cR] 25))
 have HV := Lib.hid hv
 clear hg hv
 go_enter Try.func12, Try.ntmps12
 go_wp2_with fail
 refine (usefulLensB _ S AR nR cR g HG.out HV.out).mono ?_
 rintro e w2 ⟨⟨A, c, ls, rfl, hr, hc, hl, hok⟩, hb2⟩
 have HB2 := Lib.hid (((Below.refl w.heap.size w).alloc (Nat.le_refl _) (.cells #[.int .i64 g.1, .int .i64 g.2.1, .int .i64 g.2.2.1, .slice AR nR cR] 25)).trans (hb2.mono (by simp)))
 have HR := Lib.hid hr
 have HL := Lib.hid hl
 have HOK := Lib.hid hok
 clear hr hl hok hb2
 go_wp2_with fail
 go_ret2
 exact ⟨⟨A, c, ls, rfl, HR.out.more (fun b hb => by simp at hb; omega), hc, HL.out, HOK.out⟩, HB2.out⟩
end Go.Proofs.Ytbmcoamdfpegnaa
