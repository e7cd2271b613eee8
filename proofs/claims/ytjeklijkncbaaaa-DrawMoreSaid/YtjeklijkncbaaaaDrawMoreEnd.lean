/- DrawMore: the statement, closed from the walk. Proved: for every input the law returns true and leaves its arguments as they were. -/
import Derived.Test.YtjeklijkncbaaaaRow
import Derived.Test.YtjeklijkncbaaaaDrawMore
namespace Go.Proofs.Ytjeklijkncbaaaa.drawMore
open Go.ChangeShapes Go.WideShapes Go.ChangeAt Go.RowKit

theorem reach_ints {n : Nat} (h : n * 8 ≤ reachBytes) : n ≤ 17592186043904 := by have : reachBytes = 140737488351232 := rfl; omega
theorem reach_bools {n : Nat} (h : n * 1 ≤ reachBytes) : n ≤ 140737488351232 := by have : reachBytes = 140737488351232 := rfl; omega
set_option maxRecDepth 100000 in
theorem lifted (os : Os) (started : os.Started) (H : Type) (enc : TypeId × Value → H) :
    ReturnsInHanded {} Try.checked os 3 .any (Rows.drawMoreSpec.pre6 enc Try.prog Try.f3 Rows.drawMoreRow.domain false) (Rows.drawMoreSpec.post enc Try.prog Try.f3 false true false false) := by
  refine returnsInHanded_of_change_sized (C := Try.checked) own started (by kernel_rfl) Try.func3
    (ChangeSpec.witness6 (enc := enc) (C := Try.checked) false ⟨#[], #[.int .i64 0, .slice none 0 0, .slice none 0 0], []⟩ 8 (by kernel_rfl) (by kernel_rfl) (by kernel_rfl) (by kernel_rfl)) ?_
  intro W base args ds gs before hval0 hW _ hsz0 _
  have hsz : (DataW.weightsEach Try.prog (Try.f3.params.toList ++ Rows.drawMoreSpec.plain.varTypes Try.prog) (ds ++ gs)).all (· ≤ reachBytes) = true := hsz0
  clear hsz0
  have hval : ∀ (j : Nat) t v, Try.f3.params[j]? = some t → args[j]? = some v → Value.okWide Try.prog W .any base t v := hval0
  have hW' := hW
  obtain ⟨p, q, hA0, hV, rfl, _, _⟩ := hW
  have hA : DataW.TrodAll enc Try.prog W 0 (fun _ => true) true Try.f3.params.toList args.toList ds p := hA0
  rw [Try.params3] at hA hval hsz
  obtain ⟨v0, vs0, d0, ds0, p0, q0, hargs0, rfl, rfl, h0, r0⟩ := trodAll_cons hA
  obtain ⟨v1, vs1, d1, ds1, p1, q1, hargs1, rfl, rfl, h1, r1⟩ := trodAll_cons r0
  obtain ⟨v2, vs2, d2, ds2, p2, q2, hargs2, rfl, rfl, h2, r2⟩ := trodAll_cons r1
  obtain ⟨rfl, rfl, rfl⟩ := trodAll_nil r2
  obtain rfl : args = #[v0, v1, v2] := by cases args; simp_all
  obtain ⟨rfl, rfl⟩ := trodVars_none hV
  obtain ⟨x0, rfl, lo0, hi0⟩ := open_Int Try.underlying3 (hval 0 3 v0 rfl rfl) h0
  obtain ⟨A1, n1, c1, z1, rfl, le1, cm1, rd1, sh1⟩ := open_Bools Try.underlying22 Try.underlying4 (by kernel_rfl) (hval 1 22 v1 rfl rfl) h1
  have cap1 : c1 ≤ 140737488351232 := by
    rcases sh1 with ⟨_, hz⟩ | ⟨es, sp, rfl, hz⟩
    · omega
    · have := sized_slice hsz (j := 1) (t := 22) rfl rfl Try.underlying22
      rw [show Try.prog.bytesOf 4 = 1 from by kernel_rfl, hz] at this
      exact reach_bools this
  obtain ⟨A2, n2, c2, z2, rfl, le2, cm2, rd2, sh2⟩ := open_Bools Try.underlying22 Try.underlying4 (by kernel_rfl) (hval 2 22 v2 rfl rfl) h2
  have cap2 : c2 ≤ 140737488351232 := by
    rcases sh2 with ⟨_, hz⟩ | ⟨es, sp, rfl, hz⟩
    · omega
    · have := sized_slice hsz (j := 2) (t := 22) rfl rfl Try.underlying22
      rw [show Try.prog.bytesOf 4 = 1 from by kernel_rfl, hz] at this
      exact reach_bools this
  simp only [List.append_nil] at hW'
  refine (drawMore_walk W x0 lo0 hi0 A1 n1 c1 z1 le1 cap1 rd1 A2 n2 c2 z2 le2 cap2 rd2).mono fun e W1 ⟨he, hB⟩ => ?_
  subst he
  exact ⟨_, rfl, law_post (s := Rows.drawMoreSpec) laidOut (by kernel_rfl) (by kernel_rfl) Try.underlying4 rfl rfl hW' hB⟩

theorem proved : Rows.DrawMoreSaid :=
  OpenClaim.holds_of_wide 3 Try.f3 rfl rfl rfl rfl rfl rfl rfl ⟨rfl, rfl, rfl, rfl, rfl⟩ rfl rfl rfl rfl rfl (by kernel_rfl) Try.func3 (by kernel_rfl)
    (of_decide_eq_true (by kernel_rfl)) (by unfold Func.isWrapper; first | (rw [if_pos (by decide +kernel)]; kernel_rfl) | (rw [if_neg (by decide +kernel)]; exact ⟨rfl, rfl⟩))
    (fun os started H enc _ => lifted os started H enc)
end Go.Proofs.Ytjeklijkncbaaaa.drawMore
