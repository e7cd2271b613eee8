/- CensusSum: the statement, closed from the walk. Proved: for every input the law returns true and leaves its arguments as they were. -/
import Derived.Handed
import Derived.SevenTiedAt
import Derived.Test.YtimklgbljjamkaaDoorCards
import Derived.Test.YtimklgbljjamkaaDoorCs05
import Derived.Test.YtimklgbljjamkaaDoorCs52
import Derived.Test.YtimklgbljjamkaaDoorTie
namespace Go.Proofs.YtimklgbljjamkaaDoor.censusSum
open Go.ChangeShapes Go.WideShapes Go.ChangeAt Go.RowKit
theorem reach_ints {n : Nat} (h : n * 8 ≤ reachBytes) : n ≤ 17592186043904 := by have : reachBytes = 140737488351232 := rfl; omega
theorem reach_bools {n : Nat} (h : n * 1 ≤ reachBytes) : n ≤ 140737488351232 := by have : reachBytes = 140737488351232 := rfl; omega
set_option maxRecDepth 100000 in
theorem lifted (os : Os) (started : os.Started) (H : Type) (enc : TypeId × Value → H) :
    ReturnsInHanded {} Tryd.checked os 3 .any (fun w args => (Rows.censusSumSpec.pre enc Tryd.prog Tryd.f3 Rows.censusSumRow.domain false w args ∧ laidMetH Tryd.prog tabLaid w) ∧ sizedMet enc Tryd.prog Tryd.f3 (OpenSpec.ofChange Rows.censusSumSpec) false w args) (Rows.censusSumSpec.post enc Tryd.prog Tryd.f3 false true false false) := by
 refine returnsInHanded_of_change_and (C := Tryd.checked) (X := fun w _ => laidMetH Tryd.prog tabLaid w) (fun _ _ _ hh h => h.of_heap hh) own started (by kernel_rfl) Tryd.func3
  (ChangeSpec.witness_shaped (enc := enc) (C := Tryd.checked) (os := os) (X := fun w _ => laidMetH Tryd.prog tabLaid w) false (World.doorLaid Tryd.prog 100 os) #[.slice none 0 0, .int .i64 0] 8 rfl (World.shaped_of_RefB (by kernel_rfl) (by kernel_rfl)) (by kernel_rfl) (by kernel_rfl) (by kernel_rfl) (door_met os _)) ?_
 intro W base args ds gs before hval0 hW _ hsz0 hL _
 have hsz : (DataW.weightsEach Tryd.prog (Tryd.f3.params.toList ++ Rows.censusSumSpec.plain.varTypes Tryd.prog) (ds ++ gs)).all (· ≤ reachBytes) = true := hsz0
 clear hsz0
 have hval : ∀ (j : Nat) t v, Tryd.f3.params[j]? = some t → args[j]? = some v → Value.okWide Tryd.prog W .any base t v := hval0
 have hW' := hW
 obtain ⟨p, q, hA0, hV, rfl, _, _⟩ := hW
 have hA : DataW.TrodAll enc Tryd.prog W 0 (fun _ => true) true Tryd.f3.params.toList args.toList ds p := hA0
 rw [Tryd.params3] at hA hval hsz
 obtain ⟨v0, vs0, d0, ds0, p0, q0, hargs0, rfl, rfl, h0, r0⟩ := trodAll_cons hA
 obtain ⟨v1, vs1, d1, ds1, p1, q1, hargs1, rfl, rfl, h1, r1⟩ := trodAll_cons r0
 obtain ⟨rfl, rfl, rfl⟩ := trodAll_nil r1
 obtain rfl : args = #[v0, v1] := by cases args; simp_all
 obtain ⟨rfl, rfl⟩ := trodVars_none hV
 obtain ⟨A0, n0, c0, z0, rfl, le0, cm0, rd0, rg0, sh0⟩ := open_Ints Tryd.underlying22 Tryd.underlying3 (by kernel_rfl) (hval 0 22 v0 rfl rfl) h0
 have cap0 : c0 ≤ 17592186043904 := by
  rcases sh0 with ⟨_, hz⟩ | ⟨es, sp, rfl, hz⟩
  ·
   omega
  ·
   have := sized_slice hsz (j := 0) (t := 22) rfl rfl Tryd.underlying22
   rw [show Tryd.prog.bytesOf 3 = 8 from by kernel_rfl, hz] at this
   exact reach_ints this
 obtain ⟨x1, rfl, lo1, hi1⟩ := open_Int Tryd.underlying3 (hval 1 3 v1 rfl rfl) h1
 simp only [List.append_nil] at hW'
 refine (censusSum_walk W (tab_of_laid hL) A0 n0 c0 z0 le0 cap0 rd0 rg0 x1 lo1 hi1).mono fun e W1 ⟨he, hB⟩ => ?_
 subst he
 exact ⟨_, rfl, law_post (s := Rows.censusSumSpec) laidOut (by kernel_rfl) (by kernel_rfl) Tryd.underlying4 rfl rfl hW' hB⟩
theorem proved : Rows.CensusSumSaid :=
 OpenClaim.holds_of_wide 3 Tryd.f3 rfl rfl rfl rfl rfl rfl rfl ⟨rfl, rfl, rfl, rfl, rfl⟩ rfl rfl rfl rfl rfl (by kernel_rfl) Tryd.func3 (by kernel_rfl)
  (of_decide_eq_true (by kernel_rfl)) (by unfold Func.isWrapper; first | (rw [if_pos (by decide +kernel)]; kernel_rfl) | (rw [if_neg (by decide +kernel)]; exact ⟨rfl, rfl⟩))
  (fun os started H enc _ => lifted os started H enc)
theorem card : Rows.CensusSumCardSaid :=
 Claim7.holds_tied_plain_at .later [] [.data] true (true, "65cf82a2ee337a3ab5f428b4d57cd7b3ebe50528f8ae7c48adb7520b8765c881") false
  proved (fun _ h => by cases h) (by kernel_rfl) (fun _ h => by cases h) censusSum_row_tie rfl ⟨rfl, rfl⟩ (by kernel_rfl) rfl
  (fun f fn hf hfn => by
   obtain rfl : f = 3 := Option.some.inj ((show Tryd.prog.funcNamed "parlance/parlkeep5.CensusSum" = some 3 by kernel_rfl).symm.trans hf) |>.symm
   obtain rfl : fn = Tryd.f3 := (Option.some.inj (Tryd.func3.symm.trans hfn)).symm
   exact ⟨by kernel_rfl, fun j t ht => by
    have hall : (Tryd.f3.params.toList.all fun u => !Tryd.prog.wantsStandIn u) = true := by kernel_rfl
    have hm : t ∈ Tryd.f3.params.toList := by have := Array.mem_of_getElem? ht; simpa using this
    exact (show Tryd.prog.wantsStandIn t = false by simpa using List.all_eq_true.1 hall t hm)⟩)
  (by kernel_rfl)
end Go.Proofs.YtimklgbljjamkaaDoor.censusSum
