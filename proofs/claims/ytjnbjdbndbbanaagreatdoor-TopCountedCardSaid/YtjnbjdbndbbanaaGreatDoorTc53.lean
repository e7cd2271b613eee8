/- TopCounted: the statement, closed from the walk. Proved: for every input the law returns true and leaves its arguments as they were. -/
import Derived.Test.YtjnbjdbndbbanaaGreatDoorCards
import Derived.Test.YtjnbjdbndbbanaaGreatDoorTc52
import Derived.Test.YtjnbjdbndbbanaaGreatDoorTie
namespace Go.Proofs.YtjnbjdbndbbanaaGreatDoor.topCounted
open Go.ChangeShapes Go.WideShapes Go.ChangeAt Go.RowKit
theorem reach_ints {n : Nat} (h : n * 8 ≤ reachBytes) : n ≤ 17592186043904 := by have : reachBytes = 140737488351232 := rfl; omega
theorem reach_bools {n : Nat} (h : n * 1 ≤ reachBytes) : n ≤ 140737488351232 := by have : reachBytes = 140737488351232 := rfl; omega
set_option maxRecDepth 100000 in
theorem lifted (os : Os) (started : os.Started) (H : Type) (enc : TypeId × Value → H) :
    ReturnsInHanded {} Tryz.checked os 3 .any (fun w args => (Rows.topCountedSpec.pre enc Tryz.prog Tryz.f3 Rows.topCountedRow.domain false w args ∧ laidMetH Tryz.prog tabLaid w) ∧ sizedMet enc Tryz.prog Tryz.f3 (OpenSpec.ofChange Rows.topCountedSpec) false w args) (Rows.topCountedSpec.post enc Tryz.prog Tryz.f3 false true false false) := by
 refine returnsInHanded_of_change_and (C := Tryz.checked) (X := fun w _ => laidMetH Tryz.prog tabLaid w) (fun _ _ _ hh h => h.of_heap hh) own started (by kernel_rfl) Tryz.func3
  (ChangeSpec.witness_shaped (enc := enc) (C := Tryz.checked) (os := os) (X := fun w _ => laidMetH Tryz.prog tabLaid w) false (World.doorLaid Tryz.prog 100 os) #[.slice none 0 0, .int .i64 0, .int .i64 0] 8 rfl (World.shaped_of_RefB (by kernel_rfl) (by kernel_rfl)) (by kernel_rfl) (by kernel_rfl) (by kernel_rfl) (door_met os _)) ?_
 intro W base args ds gs before hval0 hW _ hsz0 hL _
 have hsz : (DataW.weightsEach Tryz.prog (Tryz.f3.params.toList ++ Rows.topCountedSpec.plain.varTypes Tryz.prog) (ds ++ gs)).all (· ≤ reachBytes) = true := hsz0
 clear hsz0
 have hval : ∀ (j : Nat) t v, Tryz.f3.params[j]? = some t → args[j]? = some v → Value.okWide Tryz.prog W .any base t v := hval0
 have hW' := hW
 obtain ⟨p, q, hA0, hV, rfl, _, _⟩ := hW
 have hA : DataW.TrodAll enc Tryz.prog W 0 (fun _ => true) true Tryz.f3.params.toList args.toList ds p := hA0
 rw [Tryz.params3] at hA hval hsz
 obtain ⟨v0, vs0, d0, ds0, p0, q0, hargs0, rfl, rfl, h0, r0⟩ := trodAll_cons hA
 obtain ⟨v1, vs1, d1, ds1, p1, q1, hargs1, rfl, rfl, h1, r1⟩ := trodAll_cons r0
 obtain ⟨v2, vs2, d2, ds2, p2, q2, hargs2, rfl, rfl, h2, r2⟩ := trodAll_cons r1
 obtain ⟨rfl, rfl, rfl⟩ := trodAll_nil r2
 obtain rfl : args = #[v0, v1, v2] := by cases args; simp_all
 obtain ⟨rfl, rfl⟩ := trodVars_none hV
 obtain ⟨A0, n0, c0, z0, rfl, le0, cm0, rd0, rg0, sh0⟩ := open_Ints Tryz.underlying22 Tryz.underlying3 (by kernel_rfl) (hval 0 22 v0 rfl rfl) h0
 have cap0 : c0 ≤ 17592186043904 := by
  rcases sh0 with ⟨_, hz⟩ | ⟨es, sp, rfl, hz⟩
  · omega
  have := sized_slice hsz (j := 0) (t := 22) rfl rfl Tryz.underlying22
  rw [show Tryz.prog.bytesOf 3 = 8 from by kernel_rfl, hz] at this
  exact reach_ints this
 obtain ⟨x1, rfl, lo1, hi1⟩ := open_Int Tryz.underlying3 (hval 1 3 v1 rfl rfl) h1
 obtain ⟨x2, rfl, lo2, hi2⟩ := open_Int Tryz.underlying3 (hval 2 3 v2 rfl rfl) h2
 simp only [List.append_nil] at hW'
 refine (topCounted_walk W (tab_of_laid hL) A0 n0 c0 z0 le0 cap0 rd0 rg0 x1 lo1 hi1 x2 lo2 hi2).mono fun e W1 ⟨he, hB⟩ => ?_
 subst he
 exact ⟨_, rfl, law_post (s := Rows.topCountedSpec) laidOut (by kernel_rfl) (by kernel_rfl) Tryz.underlying4 rfl rfl hW' hB⟩
theorem proved : Rows.TopCountedSaid :=
 OpenClaim.holds_of_wide 3 Tryz.f3 rfl rfl rfl rfl rfl rfl rfl ⟨rfl, rfl, rfl, rfl, rfl⟩ rfl rfl rfl rfl rfl (by kernel_rfl) Tryz.func3 (by kernel_rfl)
  (of_decide_eq_true (by kernel_rfl)) (by unfold Func.isWrapper; first | (rw [if_pos (by decide +kernel)]; kernel_rfl) | (rw [if_neg (by decide +kernel)]; exact ⟨rfl, rfl⟩))
  (fun os started H enc _ => lifted os started H enc)
theorem card : Rows.TopCountedCardSaid :=
 Claim7.holds_tied_plain_at .later [] [.data] true (true, "b74952d033f6d23c7285ff3e1b6e6d409ac1c731324b45712be285760bdbd9b1") true
  proved (fun _ h => by cases h) (by kernel_rfl) (fun _ h => by cases h) topCounted_row_tie rfl ⟨rfl, rfl⟩ (by kernel_rfl) rfl
  (fun f fn hf hfn => by
   obtain rfl : f = 3 := Option.some.inj ((show Tryz.prog.funcNamed "parlance/parltop.TopCounted" = some 3 by kernel_rfl).symm.trans hf) |>.symm
   obtain rfl : fn = Tryz.f3 := (Option.some.inj (Tryz.func3.symm.trans hfn)).symm
   exact ⟨by kernel_rfl, fun j t ht => by
    have hall : (Tryz.f3.params.toList.all fun u => !Tryz.prog.wantsStandIn u) = true := by kernel_rfl
    have hm : t ∈ Tryz.f3.params.toList := by have := Array.mem_of_getElem? ht; simpa using this
    exact (show Tryz.prog.wantsStandIn t = false by simpa using List.all_eq_true.1 hall t hm)⟩)
  (by kernel_rfl)
end Go.Proofs.YtjnbjdbndbbanaaGreatDoor.topCounted
