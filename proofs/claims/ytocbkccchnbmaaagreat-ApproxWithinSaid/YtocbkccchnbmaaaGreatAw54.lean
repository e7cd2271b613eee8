/- ApproxWithin -/
import Derived.BigQuiet
import Derived.Test.YtocbkccchnbmaaaGreatAw44
import Derived.Test.YtocbkccchnbmaaaGreatAw53
namespace Go.Proofs.YtocbkccchnbmaaaGreat
open Go.RowKit Go.Maps
set_option linter.unusedSimpArgs false in
set_option maxRecDepth 100000 in
set_option maxHeartbeats 20000000 in
theorem approxWithin_walk (W : World) (A0 : Option Addr) (n0 c0 : Nat) (z0 : List Int) (le0 : n0 ≤ c0) (cap0 : c0 ≤ 17592186043904) (rd0 : Rd W (fun _ => True) 1 A0 n0 (z0.map (Value.int .i64))) (_rg0 : ∀ z ∈ z0, -9223372036854775808 ≤ z ∧ z ≤ 9223372036854775807) :
    Calls Tryz.prog 3 #[.slice A0 n0 c0] W fun e W' => e = .returned (.bool true) ∧ Below W.heap.size W W' := by
 have HR0 := Lib.hid (rd0.slInts le0)
 clear rd0 _rg0
 go_enter Tryz.func3, Tryz.ntmps3
 go_wp2_with fail
 refine (makeGrammar _ _ _ _ _ z0 HR0.out (by omega)).mono ?_
 rintro e w1 ⟨⟨Tm, Nn, st, R⟩, AR, cR, hv, hsm, rfl, hg, hb1⟩
 obtain ⟨T, rfl⟩ : ∃ T : Nat, Tm = (T : Int) := ⟨Tm.toNat, by have := hv.t1; simp only at this; omega⟩
 obtain ⟨N, rfl⟩ : ∃ N : Nat, Nn = (N : Int) := ⟨Nn.toNat, by have := hv.n1; simp only at this; omega⟩
 obtain ⟨s0, rfl⟩ : ∃ s0 : Nat, st = (s0 : Int) := ⟨st.toNat, by have := hv.st; simp only at this; omega⟩
 have hs0 : s0 < N := by have := hv.st; simp only at this; omega
 dsimp only at hg ⊢
 obtain ⟨nR, hnR⟩ : ∃ nR, nR = R.length := ⟨_, rfl⟩
 rw [← hnR] at hg ⊢
 have HV := Lib.hid hv
 obtain ⟨w2, hw2⟩ : ∃ w2 : World, w2 = w1.alloc (.cells #[.int .i64 (T : Int), .int .i64 (N : Int), .int .i64 (s0 : Int), .slice AR nR cR] 25) := ⟨_, rfl⟩
 have hb12 : Below w1.heap.size w1 w2 := by rw [hw2]; exact (Below.refl _ _).alloc (Nat.le_refl _) _
 have HB2 := Lib.hid (hb1.trans (hb12.mono hb1.size))
 have HBG2 := Lib.hid (show w2.heap[w1.heap.size]? = some (.cells #[.int .i64 (T : Int), .int .i64 (N : Int), .int .i64 (s0 : Int), .slice AR nR cR] 25 (0, 0)) by rw [hw2]; exact heap_alloc_new _ _)
 have HG2 := Lib.hid (hg.below hb12)
 clear hv hsm hg hb1 hb12 hnR
 go_wp2_with fail
 rw [← hw2]
 clear hw2
 refine (keepPlain w2).mono ?_
 rintro e w3 ⟨AP, rfl, hp, hb3⟩
 have HP := Lib.hid hp
 have HB23 := Lib.hid hb3
 clear hp hb3
 go_wp2_with fail
 refine (apxOf w3 _ AP 2 2 plainG HP.out plain_valid).mono ?_
 rintro e w4 ⟨hr, hb4⟩
 obtain ⟨A4, n4, c4, N4, c4', rfl⟩ := apx_plain hr
 obtain ⟨w5, hw5⟩ : ∃ w5 : World, w5 = w4.alloc (.cells #[.int .i64 0, .slice A4 n4 c4, .slice N4 2 c4'] 29) := ⟨_, rfl⟩
 have hb45 : Below w4.heap.size w4 w5 := by rw [hw5]; exact (Below.refl _ _).alloc (Nat.le_refl _) _
 have HB25 := Lib.hid (HB23.out.trans ((hb4.mono HB23.out.size).trans (hb45.mono (Nat.le_trans HB23.out.size hb4.size))))
 have HBG5 := Lib.hid ((HB25.out.block _ (heap_lt HBG2.out)).trans HBG2.out)
 have HCG := Lib.hid (show ∀ u : World, u.heap[w1.heap.size]? = some (.cells #[.int .i64 (T : Int), .int .i64 (N : Int), .int .i64 (s0 : Int), .slice AR nR cR] 25 (0, 0)) → u.cell? ⟨w1.heap.size, 0, none⟩ = some (.int .i64 (T : Int)) ∧ u.cell? ⟨w1.heap.size, 1, none⟩ = some (.int .i64 (N : Int)) ∧ u.cell? ⟨w1.heap.size, 2, none⟩ = some (.int .i64 (s0 : Int)) ∧ u.cell? ⟨w1.heap.size, 3, none⟩ = some (.slice AR nR cR) from fun u h =>
  ⟨by simp [World.cell?, h], by simp [World.cell?, h], by simp [World.cell?, h], by simp [World.cell?, h]⟩)
 have HG5 := Lib.hid (HG2.out.below HB25.out)
 have HB5 := Lib.hid (HB2.out.trans (HB25.out.mono HB2.out.size))
 obtain ⟨g0, g1, g2, g3⟩ := HCG.out w5 HBG5.out
 rw [hw5] at g0 g1 g2 g3
 clear hr hb4 hb45
 go_wp2_with fail
 rw [← hw5]
 clear hw5 g0 g1 g2 g3
 refine (apxOf w5 _ AR nR cR ((T : Int), (N : Int), (s0 : Int), R) HG5.out HV.out).mono ?_
 rintro e w6 ⟨⟨cf, hcf, hr⟩, hb6⟩
 simp only [Int.toNat_natCast] at hcf hr
 have HCF := Lib.hid hcf
 have HB6 := Lib.hid (HB5.out.trans (hb6.mono HB5.out.size))
 have HBG6 := Lib.hid ((hb6.block _ (heap_lt HBG5.out)).trans HBG5.out)
 have HG6 := Lib.hid (HG5.out.below hb6)
 clear hcf hb6
 rcases hr with ⟨rfl, _⟩ | ⟨accs, rows, ex, A, n, c, NN, m, c', rfl, hx, hex, hA, hN⟩
 ·
  --@5
  go_wp2_with fail
  go_ret
  exact ⟨rfl, HB6.out.alloc HB6.out.size _⟩
 ·
  have HX := Lib.hid hx
  have HA := Lib.hid hA
  have HN := Lib.hid hN
  clear hx hex hA hN
  by_cases hm : 12 ≤ m
  ·
   have hmI : (12 : Int) ≤ (m : Int) := by omega
   go_wp2_with fail
   go_ret
   exact ⟨rfl, HB6.out.alloc HB6.out.size _⟩
  ·
   have hmI : ¬ (12 : Int) ≤ (m : Int) := by omega
   obtain ⟨w7, hw7⟩ : ∃ w7 : World, w7 = w6.alloc (.cells #[.int .i64 0, .slice A n c, .slice NN m c'] 29) := ⟨_, rfl⟩
   have HB67 := Lib.hid (show Below w6.heap.size w6 w7 by rw [hw7]; exact (Below.refl _ _).alloc (Nat.le_refl _) _)
   obtain ⟨g0, g1, g2, g3⟩ := HCG.out w7 ((HB67.out.block _ (heap_lt HBG6.out)).trans HBG6.out)
   rw [hw7] at g0 g1 g2 g3
   go_wp2_with fail
   rw [← hw7]
   clear hw7 g0 g1 g2 g3
   have hv := canon_valid HX.out.valid.1
   have hlen : m = (canonD (ExD accs rows)).2.2.length := HN.out.len
   have hmi : MeetIn ((T : Int), (N : Int), (s0 : Int), R) (canonD (ExD accs rows)) := ⟨HV.out, hv, by rw [canon_cols HX.out.valid.1, HX.out.valid.2], by omega⟩
   have hcw := compareWithin0 w7 (fun _ => True) ((T : Int), (N : Int), (s0 : Int), R) (canonD (ExD accs rows)) hmi (by omega) (fun wd hwd => apx_word HCF.out hs0 HX.out hwd) AR nR cR ((HG6.out.below HB67.out).more fun _ _ => trivial) A n c ((HA.out.below HB67.out).more fun _ _ => trivial) NN m c' ((HN.out.below HB67.out).more fun _ _ => trivial)
   rw [canon_start HX.out.valid.1] at hcw
   refine hcw.mono ?_
   rintro e w8 ⟨rfl, hb8⟩
   have HB8 := Lib.hid (HB6.out.trans ((HB67.out.trans (hb8.mono HB67.out.size)).mono HB6.out.size))
   clear hb8 hcw hmi hlen hv
   go_wp2_with fail
   go_ret
   exact ⟨rfl, HB8.out⟩
end Go.Proofs.YtocbkccchnbmaaaGreat
