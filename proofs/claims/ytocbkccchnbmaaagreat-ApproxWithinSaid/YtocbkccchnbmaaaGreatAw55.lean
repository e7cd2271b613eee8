/- ApproxWithin: the statement, closed from the walk. Proved: for every input the law returns true and leaves its arguments as they were. -/
import Derived.Test.YtocbkccchnbmaaaGreatAw01
import Derived.Test.YtocbkccchnbmaaaGreatAw54
namespace Go.Proofs.YtocbkccchnbmaaaGreat.approxWithin
open Go.ChangeShapes Go.WideShapes Go.ChangeAt Go.RowKit
theorem reach_ints {n : Nat} (h : n * 8 ≤ reachBytes) : n ≤ 17592186043904 := by have : reachBytes = 140737488351232 := rfl; omega
theorem reach_bools {n : Nat} (h : n * 1 ≤ reachBytes) : n ≤ 140737488351232 := by have : reachBytes = 140737488351232 := rfl; omega
set_option maxRecDepth 100000 in
theorem lifted (os : Os) (started : os.Started) (H : Type) (enc : TypeId × Value → H) :
    ReturnsInHanded {} Tryz.checked os 3 .any (Rows.approxWithinSpec.pre6 enc Tryz.prog Tryz.f3 Rows.approxWithinRow.domain false) (Rows.approxWithinSpec.post enc Tryz.prog Tryz.f3 false true false false) := by
 refine returnsInHanded_of_change_sized (C := Tryz.checked) own started (by kernel_rfl) Tryz.func3
  (ChangeSpec.witness6 (enc := enc) (C := Tryz.checked) false ⟨#[], #[.slice none 0 0], []⟩ 8 (by kernel_rfl) (by kernel_rfl) (by kernel_rfl) (by kernel_rfl)) ?_
 intro W base args ds gs before hval0 hW _ hsz0 _
 have hsz : (DataW.weightsEach Tryz.prog (Tryz.f3.params.toList ++ Rows.approxWithinSpec.plain.varTypes Tryz.prog) (ds ++ gs)).all (· ≤ reachBytes) = true := hsz0
 clear hsz0
 have hval : ∀ (j : Nat) t v, Tryz.f3.params[j]? = some t → args[j]? = some v → Value.okWide Tryz.prog W .any base t v := hval0
 have hW' := hW
 obtain ⟨p, q, hA0, hV, rfl, _, _⟩ := hW
 have hA : DataW.TrodAll enc Tryz.prog W 0 (fun _ => true) true Tryz.f3.params.toList args.toList ds p := hA0
 rw [Tryz.params3] at hA hval hsz
 obtain ⟨v0, vs0, d0, ds0, p0, q0, hargs0, rfl, rfl, h0, r0⟩ := trodAll_cons hA
 obtain ⟨rfl, rfl, rfl⟩ := trodAll_nil r0
 obtain rfl : args = #[v0] := by cases args; simp_all
 obtain ⟨rfl, rfl⟩ := trodVars_none hV
 obtain ⟨A0, n0, c0, z0, rfl, le0, cm0, rd0, rg0, sh0⟩ := open_Ints Tryz.underlying22 Tryz.underlying3 (by kernel_rfl) (hval 0 22 v0 rfl rfl) h0
 have cap0 : c0 ≤ 17592186043904 := by
  rcases sh0 with ⟨_, hz⟩ | ⟨es, sp, rfl, hz⟩
  ·
   omega
  ·
   have := sized_slice hsz (j := 0) (t := 22) rfl rfl Tryz.underlying22
   rw [show Tryz.prog.bytesOf 3 = 8 from by kernel_rfl, hz] at this
   exact reach_ints this
 simp only [List.append_nil] at hW'
 refine (approxWithin_walk W A0 n0 c0 z0 le0 cap0 rd0 rg0).mono fun e W1 ⟨he, hB⟩ => ?_
 subst he
 exact ⟨_, rfl, law_post (s := Rows.approxWithinSpec) laidOut (by kernel_rfl) (by kernel_rfl) Tryz.underlying4 rfl rfl hW' hB⟩
theorem proved : Rows.ApproxWithinSaid :=
 OpenClaim.holds_of_wide 3 Tryz.f3 rfl rfl rfl rfl rfl rfl rfl ⟨rfl, rfl, rfl, rfl, rfl⟩ rfl rfl rfl rfl rfl (by kernel_rfl) Tryz.func3 (by kernel_rfl)
  (of_decide_eq_true (by kernel_rfl)) (by unfold Func.isWrapper; first | (rw [if_pos (by decide +kernel)]; kernel_rfl) | (rw [if_neg (by decide +kernel)]; exact ⟨rfl, rfl⟩))
  (fun os started H enc _ => lifted os started H enc)
end Go.Proofs.YtocbkccchnbmaaaGreat.approxWithin
