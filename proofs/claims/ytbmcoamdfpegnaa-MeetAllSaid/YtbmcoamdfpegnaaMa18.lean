/- Least -/
import Derived.Test.YtbmcoamdfpegnaaMa04
import Derived.Test.YtbmcoamdfpegnaaMa10
import Derived.Test.YtbmcoamdfpegnaaMa16
import Derived.Test.YtbmcoamdfpegnaaMa17
namespace Go.Proofs.Ytbmcoamdfpegnaa
open Go.RowKit
section
variable {w : World} {base n c x gB : Nat} {E : TypeId} {xs : List Value}
theorem Own.at_ (h : Own w base E 1 (.slice (some ⟨gB, 0, none⟩) n c) n xs) (hx : x < n) : w.cell? ⟨gB, x, none⟩ = xs[x]? ∧ w.frozen? ⟨gB, x, none⟩ = false ∧ base ≤ gB ∧ gB < w.heap.size := by
 obtain ⟨g, e, hb, ho⟩ := h.addr (by omega)
 injection e with e
 injection e with e _
 subst e
 have h1 := ho.cellAt x (by omega)
 refine ⟨h1, ho.frozenAt x, hb, ?_⟩
 have hl := h.len
 rw [List.getElem?_eq_getElem (show x < xs.length by omega)] at h1
 exact cell_lt h1
theorem Own.put (h : Own w base E 1 (.slice (some ⟨gB, 0, none⟩) n c) n xs) (hx : x < n) (v : Value) : Own (w.setCell ⟨gB, x, none⟩ v) base E 1 (.slice (some ⟨gB, 0, none⟩) n c) n (xs.set x v) := by
 obtain ⟨g, e, hb, ho⟩ := h.addr (by omega)
 injection e with e
 injection e with e _
 subst e
 exact .inl (ho.stored x v).1
end
theorem fold_ge {ls : List Int} (hs : ∀ x ∈ ls, -1 ≤ x) : ∀ (l : List SymD) {sum : Int}, -1 ≤ sum → -1 ≤ l.foldl (addW ls) sum
 | [], sum, h => h
 | s :: l, sum, h => by
  rw [List.foldl_cons]
  refine fold_ge hs l ?_
  unfold addW
  split
  ·
   omega
  ·
   split
   ·
    omega
   ·
    omega
def LensMadeB (R : List RuleD) (N base : Nat) (e : Ending) (w' : World) : Prop := ∃ (A : Option Addr) (c : Nat) (ls : List Int), e = .returned (.slice A N c) ∧ Rd w' (fun b => base ≤ b) 1 A N (ls.map (Value.int .i64)) ∧ N ≤ c ∧ ls.length = N ∧ LeastOk R ls ∧ BoundL ls
set_option linter.unusedSimpArgs false in
set_option maxRecDepth 1000000 in
set_option maxHeartbeats 8000000 in
theorem usefulLengthsB (w : World) (S : Nat → Prop) (AR : Option Addr) (nR cR : Nat) (g : GramD) (hg : Sl RRule w S AR nR cR g.2.2.2) (hv : GValid g) :
    Calls Try.prog 60 #[.agg #[.int .i64 g.1, .int .i64 g.2.1, .int .i64 g.2.2.1, .slice AR nR cR]] w fun e w' => LensMadeB g.2.2.2 (nonsOf g) w.heap.size e w' ∧ Below w.heap.size w w' := by
 have hN := hv.n1
 have hN2 := hv.n2
 obtain ⟨N, hNe⟩ : ∃ N, N = nonsOf g := ⟨_, rfl⟩
 have hNI : g.2.1 = (N : Int) := by rw [hNe]; unfold nonsOf; omega
 rw [← hNe]
 have hN1 : 1 ≤ N := by omega
 have hN10 : N ≤ 10 := by omega
 have hnR : nR ≤ 32 := by have := hg.len; have := hv.rl; omega
 have HG := Lib.hid hg.fit
 have HV := Lib.hid hv
 have HRN := Lib.hid (show RulesN N g.2.2.2 by rw [hNe]; exact rulesN_of hv)
 have HNI := Lib.hid hNI
 clear hg hv hNe hN hN2 hNI
 obtain ⟨w1, hw1⟩ : ∃ w1 : World, w1 = (w.alloc (.cells #[.int .i64 g.1, .int .i64 g.2.1, .int .i64 g.2.2.1, .slice AR nR cR] 25)).alloc (.cells #[.int .i64 (-1)] 3) := ⟨_, rfl⟩
 have hz1 : w1.heap.size = w.heap.size + 2 := by rw [hw1]; simp
 have hb1 : Below w.heap.size w w1 := by rw [hw1]; exact ((Below.refl _ _).alloc (Nat.le_refl _) _).alloc (by simp) _
 have b1 : w1.heap[w.heap.size]? = some (.cells #[.int .i64 g.1, .int .i64 g.2.1, .int .i64 g.2.2.1, .slice AR nR cR] 25 (0, 0)) := by rw [hw1]; exact (Below.heap_alloc _ _ _ (by simp)).trans (heap_alloc_new w _)
 have b2 : w1.cell? ⟨w.heap.size + 1, 0, none⟩ = some (.int .i64 (-1)) := by rw [hw1]; exact cell_of_one (heap_new _ _ _ (by simp))
 have HB1 := Lib.hid hb1
 have HBG := Lib.hid b1
 have HG1 := Lib.hid (HG.out.below hb1)
 clear hb1 b1
 go_enter Try.func60, Try.ntmps60
 go_wp2_with fail
 rw [← hw1, HNI.out]
 clear hw1
 refine (repeatInt w1 (w.heap.size + 1) (-1) N hN1 (by omega) b2).mono ?_
 rintro e w2 ⟨u, rfl, hown, hb2⟩
 obtain ⟨A, c, rfl, hc, _⟩ := hown.form
 obtain ⟨gB, rfl, hgB, _⟩ := hown.addr hN1
 have hz2 := hb2.size
 have hall : ∀ u : World, Below w1.heap.size w2 u → u.cell? ⟨w.heap.size, 3, none⟩ = some (.slice AR nR cR) ∧ Sl RRule u (fun b => S b ∧ b < w.heap.size) AR nR cR g.2.2.2 ∧ Below w.heap.size w u := by
  intro u hu
  have h12 := hb2.trans hu
  have e1 := (h12.block _ (by omega)).trans HBG.out
  exact ⟨by simp [World.cell?, e1], HG1.out.below h12, HB1.out.trans (h12.mono (by omega))⟩
 have HALL := Lib.hid hall
 have HOW := Lib.hid hown
 have k3 := (hall w2 (Below.refl _ _)).1
 have HS0 := Lib.hid (show SoundL g.2.2.2 (List.replicate N (-1)) from fun a x hx => by
  rw [List.getElem?_replicate] at hx
  split at hx
  ·
   injection hx with hx
   exact ⟨by omega, fun h => by omega⟩
  ·
   cases hx)
 have HBD0 := Lib.hid (show BoundL (List.replicate N (-1)) from fun x hx => by
  have := (List.mem_replicate.1 hx).2
  have := four_pos (cntL (List.replicate N (-1)))
  omega)
 clear b2 hown hb2 hall
 go_wp2_with fail
 go_loopg [4] (mea (List.replicate N (-1)) + 1) (fun gk va wr => ∃ (ag : Bool) (ls : List Int), va = .bool ag ∧ gk = (if ag then mea ls + 1 else 0) ∧ ls.length = N ∧ SoundL g.2.2.2 ls ∧ BoundL ls ∧ (ag = false → ClosedL g.2.2.2 ls) ∧ Own wr w1.heap.size 3 1 (.slice (some ⟨gB, 0, none⟩) N c) N (ls.map (Value.int .i64)) ∧ Below w1.heap.size w2 wr)
 case atStart => exact ⟨true, List.replicate N (-1), rfl, rfl, by simp, HS0.out, HBD0.out, (fun h => by cases h), HOW.out, Below.refl _ _⟩
 case round =>
  obtain ⟨ag, ls, rfl, hgk, hlen, hsl, hbl, hcl, hown, hb⟩ := hrel
  have HGK := Lib.hid hgk
  have HLEN := Lib.hid hlen
  have HSL := Lib.hid hsl
  have HBL := Lib.hid hbl
  have HCL := Lib.hid hcl
  have HO := Lib.hid hown
  have HB := Lib.hid hb
  obtain ⟨w3, rfl⟩ : ∃ w3 : World, w3 = wr := ⟨_, rfl⟩
  clear hgk hlen hsl hbl hcl hown hb k3
  have k3 := (HALL.out w3 HB.out).1
  have hz3 := HB.out.size
  cases ag with
  | false =>
   go_wp2_with fail
   go_ret
   exact ⟨⟨_, c, ls, rfl, HO.out.rd.more (fun b hb => by omega), hc, HLEN.out, least_of HSL.out (by first | exact HCL.out rfl | exact HCL.out trivial), HBL.out⟩, (HALL.out w3 HB.out).2.2⟩
  | true =>
   have hgk := HGK.out
   rw [if_pos rfl] at hgk
   have HGK := Lib.hid hgk
   have hl3 := cell_lt k3
   clear hgk HCL
   go_wp2_with fail
   go_loopg [4, 19] nR (fun gj va vi wx => ∃ (i : Nat) (ag : Bool) (ls' : List Int), i ≤ nR ∧ gj = nR - i ∧ vi = .int .i64 i ∧ va = .bool ag ∧ ls'.length = N ∧ SoundL g.2.2.2 ls' ∧ BoundL ls' ∧ mea ls' ≤ mea ls ∧ (ag = true → mea ls' < mea ls) ∧
    (ag = false → ls' = ls ∧ ∀ j r, j < i → g.2.2.2[j]? = some r → 0 ≤ ruleW ls r.2 → 0 ≤ ls.getD r.1.toNat (-1) ∧ ls.getD r.1.toNat (-1) ≤ ruleW ls r.2) ∧ Own wx w1.heap.size 3 1 (.slice (some ⟨gB, 0, none⟩) N c) N (ls'.map (Value.int .i64)) ∧ Below w1.heap.size w2 wx)
   case atStart => exact ⟨0, false, ls, Nat.zero_le _, rfl, rfl, rfl, HLEN.out, HSL.out, HBL.out, Nat.le_refl _, (fun h => by cases h), (fun _ => ⟨rfl, fun j r h => absurd h (by omega)⟩), HO.out, HB.out⟩
   case round =>
    obtain ⟨i, ag, ls', hi, hgj, rfl, rfl, hlen', hsl', hbl', hme, hme1, hcl', hown', hb'⟩ := hrel
    have HGJ := Lib.hid hgj
    have HLEN' := Lib.hid hlen'
    have HSL' := Lib.hid hsl'
    have HBL' := Lib.hid hbl'
    have HME1 := Lib.hid hme1
    have HCL' := Lib.hid hcl'
    have HO' := Lib.hid hown'
    have HB' := Lib.hid hb'
    obtain ⟨w4, rfl⟩ : ∃ w4 : World, w4 = wr := ⟨_, rfl⟩
    clear hgj hlen' hsl' hbl' hme1 hcl' hown' hb' k3 hl3
    have hz4 := HB'.out.size
    by_cases hlt : i < nR
    ·
     obtain ⟨b, off, A3, m3, c3, r, rfl, _, hbl2, hc1, hc2, hr, hrs⟩ := rule_at (HALL.out w4 HB'.out).2.1 hlt
     obtain ⟨⟨hr1, hr2⟩, hr4, hrok⟩ := HV.out.rules r (List.mem_of_getElem? hr)
     obtain ⟨a, ha⟩ : ∃ a : Nat, r.1 = (a : Int) := ⟨r.1.toNat, by omega⟩
     have haN : a < N := by have := HNI.out; omega
     have hm4 : m3 ≤ 4 := by have := hrs.len; omega
     have hok : NonOk N r.2 := (HRN.out r (List.mem_of_getElem? hr)).2
     rw [ha] at hc1
     have hiI : (i : Int) < (nR : Int) := by omega
     have hi0 : (0 : Int) ≤ (i : Int) := by omega
     have hb5 : Below w4.heap.size w4 (w4.alloc (.cells #[.int .i64 (a : Int), .slice A3 m3 c3] 40)) := (Below.refl _ _).alloc (Nat.le_refl _) _
     have HR := Lib.hid hr
     have HA := Lib.hid ha
     have HOK := Lib.hid hok
     have HR4 := Lib.hid hr4
     have HRS := Lib.hid (hrs.below hb5)
     have HO5 := Lib.hid (HO'.out.below hb5 (Nat.le_refl _))
     have HB5 := Lib.hid (HB'.out.trans (hb5.mono (by omega)))
     have hbt : (w4.alloc (.cells #[.int .i64 (a : Int), .slice A3 m3 c3] 40)).heap[w4.heap.size]? = some (.cells #[.int .i64 (a : Int), .slice A3 m3 c3] 40 (0, 0)) := heap_alloc_new w4 _
     have HBT := Lib.hid hbt
     have HNEG := Lib.hid (show ∀ x ∈ ls', -1 ≤ x from fun x hx => by
      obtain ⟨k, hk⟩ := List.getElem?_of_mem hx
      exact (HSL'.out k x hk).1)
     have HSB := Lib.hid (show ∀ j, j ≤ m3 → -1 ≤ (r.2.take j).foldl (addW ls') 0 ∧ (r.2.take j).foldl (addW ls') 0 ≤ 4194304 from fun j hj => by
      refine ⟨fold_ge HNEG.out _ (by omega), ?_⟩
      have h1 := four_le (show cntL ls' ≤ 10 by have := cnt_le ls'; have := HLEN'.out; omega)
      have h2 := fold_le (four_pos (cntL ls')) HBL'.out (r.2.take j) (sum := 0) (j := 0) (by simp)
      have h3 : (0 + (r.2.take j).length) * 4 ^ cntL ls' ≤ 4 * 1048576 := Nat.mul_le_mul (by rw [List.length_take]; omega) h1
      omega)
     clear hr hrs hb5 hbt hr1 hr2 hr4 hrok ha hok
     go_wp2_with fail
     obtain ⟨w5, hw5⟩ : ∃ w5 : World, w5 = w4.alloc (.cells #[.int .i64 (a : Int), .slice A3 m3 c3] 40) := ⟨_, rfl⟩
     rw [← hw5] at HRS HO5 HB5 HBT ⊢
     have hz5 : w5.heap.size = w4.heap.size + 1 := by rw [hw5]; simp
     clear hw5 hc1 hc2
     go_loopg [7, 26] m3 (fun gl vs vj wy => ∃ j : Nat, j ≤ m3 ∧ gl = m3 - j ∧ vj = .int .i64 j ∧ vs = .int .i64 ((r.2.take j).foldl (addW ls') 0) ∧ Below w5.heap.size w5 wy)
     case atStart => exact ⟨0, Nat.zero_le _, rfl, rfl, rfl, Below.refl _ _⟩
     case round =>
      obtain ⟨j, hj, hgl, rfl, rfl, hby⟩ := hrel
      have HGL := Lib.hid hgl
      have HBY := Lib.hid hby
      obtain ⟨w6, rfl⟩ : ∃ w6 : World, w6 = wr := ⟨_, rfl⟩
      have hz6 := hby.size
      obtain ⟨hs1, hs2⟩ := HSB.out j hj
      clear hgl hby
      by_cases hjm : j < m3
      ·
       obtain ⟨bq, oq, s, rfl, _, hblq, hs0, hs1', hs⟩ := sym_at (HRS.out.below HBY.out) hjm
       have hst : (r.2.take (j + 1)).foldl (addW ls') 0 = addW ls' ((r.2.take j).foldl (addW ls') 0) s := by
        rw [List.take_succ_eq_append_getElem (List.getElem?_eq_some_iff.1 hs).1, (List.getElem?_eq_some_iff.1 hs).2, List.foldl_append]
        rfl
       have hsok := HOK.out s (List.mem_of_getElem? hs)
       obtain ⟨hs3, hs4⟩ := HSB.out (j + 1) (by omega)
       rw [hst] at hs3 hs4
       have HST := Lib.hid hst
       have hjI : (j : Int) < (m3 : Int) := by omega
       have hj0 : (0 : Int) ≤ (j : Int) := by omega
       have HBY' := Lib.hid (HBY.out.trans ((Below.refl _ _).alloc (Nat.le_refl _) (.cells #[.bool s.1, .int .i64 s.2] 42) |>.mono (by omega)))
       obtain ⟨sum, hsum⟩ : ∃ sum, sum = (r.2.take j).foldl (addW ls') 0 := ⟨_, rfl⟩
       rw [← hsum] at HST hs1 hs2 hs3 hs4 ⊢
       clear hs hst hsum
       obtain ⟨sb, sn⟩ := s
       dsimp only at hs0 hs1' hsok HST HBY' hs3 hs4
       by_cases h0 : 0 ≤ sum
       ·
        have h0d : decide (0 ≤ sum) = true := by simpa using h0
        cases sb with
        | true =>
         have he := addW_term (ls := ls') (x := sn) h0
         have HE := Lib.hid (HST.out.trans he)
         rw [he] at hs3 hs4
         clear he HST hsok
         go_wp2_with fail
         go_roundg (m3 - (j + 1))
         case measure => rw [HGL.out]; omega
         case rel => exact ⟨j + 1, by omega, rfl, by go_num, by rw [HE.out], HBY'.out⟩
        | false =>
         obtain ⟨q, rfl⟩ : ∃ q : Nat, sn = (q : Int) := ⟨sn.toNat, by have := hsok rfl; omega⟩
         have hqN : q < N := by have := (hsok rfl).2; simpa using this
         have ho6 : Own w6 w1.heap.size 3 1 (.slice (some ⟨gB, 0, none⟩) N c) N (ls'.map (Value.int .i64)) := HO5.out.below HBY.out (Nat.le_refl _)
         obtain ⟨x, hx⟩ : ∃ x, ls'[q]? = some x := ⟨_, List.getElem?_eq_getElem (by have := HLEN'.out; omega)⟩
         have hxg : ls'.getD ((q : Int)).toNat (-1) = x := by rw [Int.toNat_natCast, List.getD_eq_getElem?_getD, hx]; rfl
         obtain ⟨hcx, hfx, _, hgl6⟩ := ho6.at_ hqN
         rw [List.getElem?_map, hx] at hcx
         have hcx' : w6.cell? ⟨gB, q, none⟩ = some (.int .i64 x) := hcx
         have hqI : (q : Int) < (N : Int) := by omega
         have hq0 : (0 : Int) ≤ (q : Int) := by omega
         clear hsok ho6 hx hcx hfx
         by_cases hx0 : 0 ≤ x
         ·
          have he := addW_non (ls := ls') (x := (q : Int)) h0 (by rw [hxg]; exact hx0)
          rw [hxg] at he
          have HE := Lib.hid (HST.out.trans he)
          rw [he] at hs3 hs4
          have hxd : decide (0 ≤ x) = true := by simpa using hx0
          clear he HST hxg
          go_wp2_with fail
          go_roundg (m3 - (j + 1))
          case measure => rw [HGL.out]; omega
          case rel => exact ⟨j + 1, by omega, rfl, by go_num, by rw [HE.out], HBY'.out⟩
         ·
          have he := addW_no (ls := ls') (sum := sum) (x := (q : Int)) (by rw [hxg]; omega)
          have HE := Lib.hid (HST.out.trans he)
          have hxd : decide (0 ≤ x) = false := by simpa using hx0
          clear he HST hxg hs3 hs4 hx0
          go_wp2_with fail
          go_roundg (m3 - (j + 1))
          case measure => rw [HGL.out]; omega
          case rel => exact ⟨j + 1, by omega, rfl, by go_num, by rw [HE.out], HBY'.out⟩
       ·
        have h0d : decide (0 ≤ sum) = false := by simpa using h0
        have he := addW_neg (ls := ls') (s := (sb, sn)) (show sum < 0 by omega)
        have HE := Lib.hid (HST.out.trans he)
        clear he HST hs3 hs4 h0 hsok
        cases sb <;>
        ·
         go_wp2_with fail
         go_roundg (m3 - (j + 1))
         case measure => rw [HGL.out]; omega
         case rel => exact ⟨j + 1, by omega, rfl, by go_num, by rw [HE.out], HBY'.out⟩
      ·
       obtain rfl : m3 = j := by omega
       have htk : r.2.take m3 = r.2 := List.take_of_length_le (by have := HRS.out.len; omega)
       rw [htk] at hs1 hs2 ⊢
       have hrw : r.2.foldl (addW ls') 0 = ruleW ls' r.2 := rfl
       rw [hrw] at hs1 hs2 ⊢
       have ho6 : Own w6 w1.heap.size 3 1 (.slice (some ⟨gB, 0, none⟩) N c) N (ls'.map (Value.int .i64)) := HO5.out.below HBY.out (Nat.le_refl _)
       obtain ⟨old, hold⟩ : ∃ old, ls'[a]? = some old := ⟨_, List.getElem?_eq_getElem (by have := HLEN'.out; omega)⟩
       have holdg : ls'.getD a (-1) = old := by rw [List.getD_eq_getElem?_getD, hold]; rfl
       obtain ⟨hcx, hfx, _, hgl6⟩ := ho6.at_ haN
       rw [List.getElem?_map, hold] at hcx
       have hcx' : w6.cell? ⟨gB, a, none⟩ = some (.int .i64 old) := hcx
       have e6 := (HBY.out.block _ (by omega)).trans HBT.out
       have hbr : w6.cell? ⟨w4.heap.size, 0, none⟩ = some (.int .i64 (a : Int)) := by simp [World.cell?, e6]
       have hlr := cell_lt hbr
       have haI : (a : Int) < (N : Int) := by omega
       have ha0 : (0 : Int) ≤ (a : Int) := by omega
       have hb26 : Below w1.heap.size w2 w6 := HB5.out.trans (HBY.out.mono (by omega))
       have HB6 := Lib.hid hb26
       have HO6 := Lib.hid ho6
       have HOLD := Lib.hid hold
       have HOLDG := Lib.hid holdg
       obtain ⟨v, hvv⟩ : ∃ v, v = ruleW ls' r.2 := ⟨_, rfl⟩
       rw [← hvv] at hs1 hs2 ⊢
       have HVV := Lib.hid hvv
       clear htk hrw ho6 hold holdg hcx e6 hb26 hvv
       by_cases hv0 : 0 ≤ v
       ·
        have hvd : decide (0 ≤ v) = true := by simpa using hv0
        by_cases hbet : old < 0 ∨ v < old
        ·
         obtain ⟨s1, s2, s3⟩ := better HSL'.out HBL'.out hN10 HLEN'.out (List.mem_of_getElem? HR.out) HA.out HR4.out HOK.out HOLD.out HVV.out hv0 hbet
         have HS1 := Lib.hid s1
         have HS2 := Lib.hid s2
         have HO7 := Lib.hid (show Own (w6.setCell ⟨gB, a, none⟩ (.int .i64 v)) w1.heap.size 3 1 (.slice (some ⟨gB, 0, none⟩) N c) N ((ls'.set a v).map (Value.int .i64)) by rw [List.map_set]; exact HO6.out.put haN _)
         have HB7 := Lib.hid (HB6.out.setCell (p := ⟨gB, a, none⟩) (show w1.heap.size ≤ gB by omega) (.int .i64 v))
         clear s1 s2
         by_cases ho0 : old < 0
         ·
          have hod : decide (old < 0) = true := by simpa using ho0
          clear hbet
          go_wp2_with fail
          go_roundg (nR - (i + 1))
          case measure => rw [HGJ.out]; omega
          case rel => exact ⟨i + 1, true, ls'.set a v, by omega, rfl, by go_num, rfl, by rw [List.length_set]; exact HLEN'.out, HS1.out, HS2.out, by omega, (fun _ => by omega), (fun h => by cases h), HO7.out, HB7.out⟩
         ·
          have hod : decide (old < 0) = false := by simpa using ho0
          have hvo : decide (v < old) = true := by simp; omega
          clear hbet ho0
          go_wp2_with fail
          go_roundg (nR - (i + 1))
          case measure => rw [HGJ.out]; omega
          case rel => exact ⟨i + 1, true, ls'.set a v, by omega, rfl, by go_num, rfl, by rw [List.length_set]; exact HLEN'.out, HS1.out, HS2.out, by omega, (fun _ => by omega), (fun h => by cases h), HO7.out, HB7.out⟩
        ·
         have hod : decide (old < 0) = false := by simp; omega
         have hvo : decide (v < old) = false := by simp; omega
         have hon : 0 ≤ old ∧ old ≤ v := by omega
         have HON := Lib.hid hon
         clear hbet hon
         go_wp2_with fail
         go_roundg (nR - (i + 1))
         case measure => rw [HGJ.out]; omega
         case rel =>
          refine ⟨i + 1, ag, ls', by omega, rfl, by go_num, rfl, HLEN'.out, HSL'.out, HBL'.out, hme, HME1.out, fun hag => ?_, HO6.out, HB6.out⟩
          obtain ⟨rfl, hcl⟩ := HCL'.out hag
          refine ⟨rfl, fun j r' hj hr' h0 => ?_⟩
          rcases Nat.lt_succ_iff_lt_or_eq.1 hj with h | rfl
          ·
           exact hcl j r' h hr' h0
          ·
           rw [HR.out] at hr'
           injection hr' with hr'
           subst hr'
           rw [HA.out, Int.toNat_natCast, HOLDG.out, ← HVV.out]
           exact HON.out
       ·
        have hvd : decide (0 ≤ v) = false := by simpa using hv0
        have HV0 := Lib.hid hv0
        clear hv0
        go_wp2_with fail
        go_roundg (nR - (i + 1))
        case measure => rw [HGJ.out]; omega
        case rel =>
         refine ⟨i + 1, ag, ls', by omega, rfl, by go_num, rfl, HLEN'.out, HSL'.out, HBL'.out, hme, HME1.out, fun hag => ?_, HO6.out, HB6.out⟩
         obtain ⟨rfl, hcl⟩ := HCL'.out hag
         refine ⟨rfl, fun j r' hj hr' h0 => ?_⟩
         rcases Nat.lt_succ_iff_lt_or_eq.1 hj with h | rfl
         ·
          exact hcl j r' h hr' h0
         ·
          rw [HR.out] at hr'
          injection hr' with hr'
          subst hr'
          rw [← HVV.out] at h0
          have := HV0.out; omega
    ·
     obtain rfl : nR = i := by omega
     have hlr := (HALL.out w4 HB'.out).2.1.len
     have HLR := Lib.hid hlr
     clear hlr
     go_wp2_with fail
     go_roundg (if ag then mea ls' + 1 else 0)
     case measure =>
      rw [HGK.out]
      cases ag with
      | true => have := HME1.out rfl; simp; omega
      | false => simp
     case rel =>
      refine ⟨ag, ls', rfl, rfl, HLEN'.out, HSL'.out, HBL'.out, fun hag => ?_, HO'.out, HB'.out⟩
      obtain ⟨rfl, hcl⟩ := HCL'.out hag
      intro r hr
      obtain ⟨k, hk⟩ := List.getElem?_of_mem hr
      exact hcl k r (by have := (List.getElem?_eq_some_iff.1 hk).1; have := HLR.out; omega) hk
end Go.Proofs.Ytbmcoamdfpegnaa
