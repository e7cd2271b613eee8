/- MeetTrees: the statement, closed from the walk. Proved: for every input the law returns true and leaves its arguments as they were. -/
import Derived.Test.YtbmcoamdfpegnaaMt01
import Derived.Test.YtbmcoamdfpegnaaMt54
namespace Go.Proofs.Ytbmcoamdfpegnaa.meetTrees
open Go.ChangeShapes Go.WideShapes Go.ChangeAt Go.RowKit
theorem reach_ints {n : Nat} (h : n * 8 ≤ reachBytes) : n ≤ 17592186043904 := by have : reachBytes = 140737488351232 := rfl; omega
theorem reach_bools {n : Nat} (h : n * 1 ≤ reachBytes) : n ≤ 140737488351232 := by have : reachBytes = 140737488351232 := rfl; omega
set_option maxRecDepth 100000 in
theorem lifted (os : Os) (started : os.Started) (H : Type) (enc : TypeId × Value → H) :
    ReturnsInHanded {} Try.checked os 5 .any (Rows.meetTreesSpec.pre6 enc Try.prog Try.f5 Rows.meetTreesRow.domain false) (Rows.meetTreesSpec.post enc Try.prog Try.f5 false true false false) := by
 refine returnsInHanded_of_change_sized (C := Try.checked) own started (by kernel_rfl) Try.func5
  (ChangeSpec.witness6 (enc := enc) (C := Try.checked) false ⟨#[], #[.slice none 0 0, .slice none 0 0, .slice none 0 0], []⟩ 8 (by kernel_rfl) (by kernel_rfl) (by kernel_rfl) (by kernel_rfl)) ?_
 intro W base args ds gs before hval0 hW _ hsz0 _
 have hsz : (DataW.weightsEach Try.prog (Try.f5.params.toList ++ Rows.meetTreesSpec.plain.varTypes Try.prog) (ds ++ gs)).all (· ≤ reachBytes) = true := hsz0
 clear hsz0
 have hval : ∀ (j : Nat) t v, Try.f5.params[j]? = some t → args[j]? = some v → Value.okWide Try.prog W .any base t v := hval0
 have hW' := hW
 obtain ⟨p, q, hA0, hV, rfl, _, _⟩ := hW
 have hA : DataW.TrodAll enc Try.prog W 0 (fun _ => true) true Try.f5.params.toList args.toList ds p := hA0
 rw [Try.params5] at hA hval hsz
 obtain ⟨v0, vs0, d0, ds0, p0, q0, hargs0, rfl, rfl, h0, r0⟩ := trodAll_cons hA
 obtain ⟨v1, vs1, d1, ds1, p1, q1, hargs1, rfl, rfl, h1, r1⟩ := trodAll_cons r0
 obtain ⟨v2, vs2, d2, ds2, p2, q2, hargs2, rfl, rfl, h2, r2⟩ := trodAll_cons r1
 obtain ⟨rfl, rfl, rfl⟩ := trodAll_nil r2
 obtain rfl : args = #[v0, v1, v2] := by cases args; simp_all
 obtain ⟨rfl, rfl⟩ := trodVars_none hV
 obtain ⟨A0, n0, c0, z0, rfl, le0, cm0, rd0, rg0, sh0⟩ := open_Ints Try.underlying22 Try.underlying3 (by kernel_rfl) (hval 0 22 v0 rfl rfl) h0
 have cap0 : c0 ≤ 17592186043904 := by
  rcases sh0 with ⟨_, hz⟩ | ⟨es, sp, rfl, hz⟩
  ·
   omega
  ·
   have := sized_slice hsz (j := 0) (t := 22) rfl rfl Try.underlying22
   rw [show Try.prog.bytesOf 3 = 8 from by kernel_rfl, hz] at this
   exact reach_ints this
 obtain ⟨A1, n1, c1, z1, rfl, le1, cm1, rd1, rg1, sh1⟩ := open_Ints Try.underlying22 Try.underlying3 (by kernel_rfl) (hval 1 22 v1 rfl rfl) h1
 have cap1 : c1 ≤ 17592186043904 := by
  rcases sh1 with ⟨_, hz⟩ | ⟨es, sp, rfl, hz⟩
  ·
   omega
  ·
   have := sized_slice hsz (j := 1) (t := 22) rfl rfl Try.underlying22
   rw [show Try.prog.bytesOf 3 = 8 from by kernel_rfl, hz] at this
   exact reach_ints this
 obtain ⟨A2, n2, c2, z2, rfl, le2, cm2, rd2, rg2, sh2⟩ := open_Ints Try.underlying22 Try.underlying3 (by kernel_rfl) (hval 2 22 v2 rfl rfl) h2
 have cap2 : c2 ≤ 17592186043904 := by
  rcases sh2 with ⟨_, hz⟩ | ⟨es, sp, rfl, hz⟩
  ·
   omega
  ·
   have := sized_slice hsz (j := 2) (t := 22) rfl rfl Try.underlying22
   rw [show Try.prog.bytesOf 3 = 8 from by kernel_rfl, hz] at this
   exact reach_ints this
 simp only [List.append_nil] at hW'
 refine (meetTrees_walk W A0 n0 c0 z0 le0 cap0 rd0 rg0 A1 n1 c1 z1 le1 cap1 rd1 rg1 A2 n2 c2 z2 le2 cap2 rd2 rg2).mono fun e W1 ⟨he, hB⟩ => ?_
 subst he
 exact ⟨_, rfl, law_post (s := Rows.meetTreesSpec) laidOut (by kernel_rfl) (by kernel_rfl) Try.underlying4 rfl rfl hW' hB⟩
theorem proved : Rows.MeetTreesSaid :=
 OpenClaim.holds_of_wide 5 Try.f5 rfl rfl rfl rfl rfl rfl rfl ⟨rfl, rfl, rfl, rfl, rfl⟩ rfl rfl rfl rfl rfl (by kernel_rfl) Try.func5 (by kernel_rfl)
  (of_decide_eq_true (by kernel_rfl)) (by unfold Func.isWrapper; first | (rw [if_pos (by decide +kernel)]; kernel_rfl) | (rw [if_neg (by decide +kernel)]; exact ⟨rfl, rfl⟩))
  (fun os started H enc _ => lifted os started H enc)
end Go.Proofs.Ytbmcoamdfpegnaa.meetTrees
