/- useful.reached: which nonterminals are reached by rules that are of use. -/
import Derived.Test.YtfkapijfjihiiaaGBase
import Derived.Test.YtfkapijfjihiiaaTrPlain
import Derived.Test.YtfkapijfjihiiaaGramCheck
namespace Go.Proofs.Ytfkapijfjihiiaa
open Go.RowKit

/-- how many are not marked -/
def cntU (N : Nat) (F : Nat → Bool) : Nat := (List.range N).countP fun a => !F a
theorem cntU_le {N : Nat} {F F' : Nat → Bool} (h : ∀ a, a < N → F a = true → F' a = true) : cntU N F' ≤ cntU N F :=
  countP_le fun a ha hb => by
    cases hf : F a with
    | false => rfl
    | true => rw [h a (List.mem_range.1 ha) hf] at hb; cases hb
theorem cntU_lt {N : Nat} {F F' : Nat → Bool} (h : ∀ a, a < N → F a = true → F' a = true) {a : Nat} (ha : a < N) (h1 : F a = false) (h2 : F' a = true) : cntU N F' < cntU N F :=
  countP_lt (fun b hb hc => by
    cases hf : F b with
    | false => rfl
    | true => rw [h b (List.mem_range.1 hb) hf] at hc; cases hc) (List.mem_range.2 ha) (by simp [h1]) (by simp [h2])
/-- what is marked is reached -/
def SoundU (R : List RuleD) (N : Nat) (q : RuleD → Bool) (st : Nat) (F : Nat → Bool) : Prop := ∀ a, a < N → F a = true → st = a ∨ Reach (fun i j => edgN (R.filter q) i j = true) st a
def ClosedU (q : RuleD → Bool) (F : Nat → Bool) (r : RuleD) : Prop := F r.1.toNat = true → q r = true → ∀ s ∈ r.2, s.1 = false → F s.2.toNat = true
theorem SoundU.set {R : List RuleD} {N st : Nat} {q : RuleD → Bool} {F : Nat → Bool} (h : SoundU R N q st F) {r : RuleD} (hr : r ∈ R) (hq : q r = true) {l x : Nat} (hl : r.1 = (l : Int)) (hlN : l < N) (hF : F l = true) (hx : (false, (x : Int)) ∈ r.2) : SoundU R N q st (upd F x true) := by
  intro a ha hf
  unfold upd at hf
  split at hf
  · rename_i e
    subst e
    have he : edgN (R.filter q) l a = true := edgN_iff.2 ⟨r, List.mem_filter.2 ⟨hr, hq⟩, hl, hx⟩
    rcases h l hlN hF with h1 | h1
    · exact .inr (.one (h1 ▸ he))
    · exact .inr (h1.snoc' he)
  · exact h a ha hf
/-- what useful.reached tells -/
structure RchOk (R : List RuleD) (N : Nat) (q : RuleD → Bool) (st : Nat) (F : Nat → Bool) : Prop where
  start : F st = true
  closed : ∀ r ∈ R, ClosedU q F r
  sound : SoundU R N q st F
def ReachedR (R : List RuleD) (N : Nat) (q : RuleD → Bool) (st base : Nat) (e : Ending) (w' : World) : Prop := ∃ (B : Nat) (I : Nat → Bool), base ≤ B ∧ e = .returned (.slice (some ⟨B, 0, none⟩) N N) ∧ w'.heap[B]? = some (.cells (rowCells Value.bool N I) 4 (0, 0)) ∧ RchOk R N q st I
/-- the grammar's copy and the marks -/
structure ReSt (w : World) (B N : Nat) (gc : Array Value) (F : Nat → Bool) (wr : World) : Prop where
  row : wr.heap[B]? = some (.cells (rowCells Value.bool N F) 4 (0, 0))
  gb : wr.heap[w.heap.size]? = some (.cells gc 25 (0, 0))
  lt : w.heap.size < B
  bel : Below w.heap.size w wr
theorem ReSt.below {w wr w' : World} {B N : Nat} {gc : Array Value} {F : Nat → Bool} (h : ReSt w B N gc F wr) (hb : Below wr.heap.size wr w') : ReSt w B N gc F w' :=
  ⟨(hb.block _ (heap_lt h.row)).trans h.row, (hb.block _ (heap_lt h.gb)).trans h.gb, h.lt, h.bel.trans (hb.mono h.bel.size)⟩
theorem ReSt.set {w wr : World} {B N : Nat} {gc : Array Value} {F : Nat → Bool} (h : ReSt w B N gc F wr) (a : Nat) : ReSt w B N gc (upd F a true) (wr.setCell ⟨B, a, none⟩ (.bool true)) := by
  have hl := h.lt
  refine ⟨?_, (Below.heap_setCell _ _ _ _ (by simp; omega)).trans h.gb, hl, h.bel.setCell (by simp; omega) _⟩
  have := blk_set h.row a (.bool true)
  rwa [rowCells_set] at this
theorem ReSt.at_ {w wr : World} {B N : Nat} {gc : Array Value} {F : Nat → Bool} (h : ReSt w B N gc F wr) {a : Nat} (ha : a < N) : wr.cell? ⟨B, a, none⟩ = some (.bool (F a)) ∧ wr.frozen? ⟨B, a, none⟩ = false := by
  refine ⟨?_, by simp [World.frozen?, h.row]⟩
  rw [cell_of_row wr _ a _ _ _ h.row]
  exact rowCells_at _ _ _ a ha
set_option linter.unusedSimpArgs false in
set_option maxRecDepth 1000000 in
set_option maxHeartbeats 8000000 in
theorem usefulReached (w : World) (Sg : Nat → Prop) (AR : Option Addr) (nR cR : Nat) (g : GramD) (hg : Sl RRule w Sg AR nR cR g.2.2.2) (hv : GValid g) (q : RuleD → Bool) (Fn : FuncId) (caps : Array Value) (he : ∀ (args : Array Value) (u : World), (callFunc Fn args).run Try.prog u = .ok (.enter Fn args) u) (hF : TellsR Try.prog w (fun r => r ∈ g.2.2.2) q Fn caps)
    (N st : Nat) (hN : N = nonsOf g) (hst : g.2.2.1 = (st : Int)) :
    Calls Try.prog 67 #[.agg #[.int .i64 g.1, .int .i64 g.2.1, .int .i64 g.2.2.1, .slice AR nR cR], .func (.func Fn) #[] caps] w fun e w' =>
      ReachedR g.2.2.2 N q st w.heap.size e w' ∧ Below w.heap.size w w' := by
  have hRN := rulesN_of hv
  rw [← hN] at hRN
  have hN0 : g.2.1 = (N : Int) := by have := hv.n1; rw [hN]; unfold nonsOf; omega
  have hN1 : 1 ≤ N := by have := hv.n1; omega
  have hN2 : N ≤ 10 := by have := hv.n2; omega
  have hnR : nR ≤ 32 := by have := hv.rl; have := hg.len; omega
  have hstN : st < N := by have := hv.st; omega
  have hstI : (st : Int) < (N : Int) := by omega
  have hst0 : (0 : Int) ≤ (st : Int) := by omega
  have HRL := Lib.hid hg.len
  have HG := Lib.hid hg.fit
  have HV := Lib.hid hv
  have HRN := Lib.hid hRN
  have HF := Lib.hid hF
  have HE := Lib.hid he
  obtain ⟨gc, hgc⟩ : ∃ gc : Array Value, gc = #[.int .i64 g.1, .int .i64 (N : Int), .int .i64 (st : Int), .slice AR nR cR] := ⟨_, rfl⟩
  rw [hN0, hst]
  have hmk := fun W => tBools.make rfl N (by omega) (by omega) W
  simp only [made_row] at hmk
  have hrc : (rowCells Value.bool N (fun _ => false))[st]? = some (Value.bool false) := rowCells_at _ _ _ st hstN
  have HGC := Lib.hid hgc
  clear hg hv hRN hN hN0 hst hF he
  go_enter Try.func67, Try.ntmps67
  --@1
  go_wp2_with fail
  clear hmk hrc
  obtain ⟨w1, hw1⟩ : ∃ w1 : World, w1 = (w.alloc (.cells #[.int .i64 g.1, .int .i64 (N : Int), .int .i64 (st : Int), .slice AR nR cR] 25)).alloc (.cells ((rowCells Value.bool N (fun _ => false)).setIfInBounds st (.bool true)) 4) := ⟨_, rfl⟩
  rw [← hw1]
  have hz1 : w1.heap.size = w.heap.size + 2 := by rw [hw1]; simp
  obtain ⟨B, hB⟩ : ∃ B, B = w.heap.size + 1 := ⟨_, rfl⟩
  have HS1 := Lib.hid (show ReSt w B N gc (upd (fun _ => false) st true) w1 by
    rw [hw1, hB, ← HGC.out, rowCells_set]
    exact ⟨heap_new _ _ _ (by simp), (Below.heap_alloc _ _ _ (by simp)).trans (heap_alloc_new _ _), Nat.lt_succ_self _, ((Below.refl _ _).alloc (Nat.le_refl _) _).alloc (by simp) _⟩)
  have HSN0 := Lib.hid (show SoundU g.2.2.2 N q st (upd (fun _ => false) st true) from fun a _ hf => by
    unfold upd at hf
    split at hf
    · rename_i e; exact .inl e.symm
    · cases hf)
  rw [← hB]
  have hBw : w.heap.size < B := by omega
  clear hw1 hB hz1
  go_loopg [6] (cntU N (upd (fun _ => false) st true) + 1) (fun gk va wr => ∃ (ag : Bool) (F : Nat → Bool), va = .bool ag ∧ gk = cntU N F + (if ag then 1 else 0) ∧ F st = true ∧ SoundU g.2.2.2 N q st F ∧ (ag = false → ∀ r ∈ g.2.2.2, ClosedU q F r) ∧ ReSt w B N gc F wr)
  case atStart => exact ⟨true, _, rfl, rfl, by simp [upd], HSN0.out, (fun h => by cases h), HS1.out⟩
  case round =>
    obtain ⟨ag, F0, rfl, hgk, hF0, hsn, hcl, hst⟩ := hrel
    have HGK := Lib.hid hgk
    have HSN := Lib.hid hsn
    have HCL := Lib.hid hcl
    have HST := Lib.hid hst
    have hk3 : wr.cell? ⟨w.heap.size, 3, none⟩ = some (.slice AR nR cR) := by simp [World.cell?, hst.gb, HGC.out]
    obtain ⟨w3, rfl⟩ : ∃ w3 : World, w3 = wr := ⟨_, rfl⟩
    clear hgk hsn hcl hst
    cases ag with
    | false =>
      --@2
      go_wp2_with fail
      go_ret
      exact ⟨⟨B, F0, Nat.le_of_lt hBw, rfl, HST.out.row, ⟨hF0, by first | exact HCL.out rfl | exact HCL.out trivial, HSN.out⟩⟩, HST.out.bel⟩
    | true =>
      have hgk := HGK.out
      rw [if_pos rfl] at hgk
      have HGK := Lib.hid hgk
      clear hgk HCL
      --@3
      go_wp2_with fail
      clear hk3
      go_loopg [6, 22] nR (fun gj va vi wx => ∃ (i : Nat) (ag : Bool) (F1 : Nat → Bool), i ≤ nR ∧ gj = nR - i ∧ vi = .int .i64 i ∧ va = .bool ag ∧ F1 st = true ∧ SoundU g.2.2.2 N q st F1 ∧ (∀ a, a < N → F0 a = true → F1 a = true) ∧ (ag = true → cntU N F1 < cntU N F0) ∧
        (ag = false → F1 = F0 ∧ ∀ j r, j < i → g.2.2.2[j]? = some r → ClosedU q F0 r) ∧ ReSt w B N gc F1 wx)
      case atStart => exact ⟨0, false, F0, Nat.zero_le _, rfl, rfl, rfl, hF0, HSN.out, (fun _ _ h => h), (fun h => by cases h), (fun _ => ⟨rfl, fun j r h => absurd h (by omega)⟩), HST.out⟩
      case round =>
        obtain ⟨i, ag, F1, hi, hgj, rfl, rfl, hF1, hsn1, hmo1, hag1, hcl1, hst1⟩ := hrel
        have HGJ := Lib.hid hgj
        have HSN1 := Lib.hid hsn1
        have HMO1 := Lib.hid hmo1
        have HAG1 := Lib.hid hag1
        have HCL1 := Lib.hid hcl1
        have HST1 := Lib.hid hst1
        obtain ⟨w4, rfl⟩ : ∃ w4 : World, w4 = wr := ⟨_, rfl⟩
        clear hgj hsn1 hmo1 hag1 hcl1 hst1
        by_cases hlt : i < nR
        · obtain ⟨b0, off, A3, m3, c3, r, rfl, _, hb0, hc1, hc2, hr, hrs⟩ := rule_at (HG.out.keep (Kept.belowB HST1.out.bel fun b hb => hb.2)) hlt
          obtain ⟨⟨hr1, hr2⟩, hr4, hrok⟩ := HV.out.rules r (List.mem_of_getElem? hr)
          obtain ⟨a, ha⟩ : ∃ a : Nat, r.1 = (a : Int) := ⟨r.1.toNat, by omega⟩
          have hrN := (HRN.out r (List.mem_of_getElem? hr)).1.2
          have haN : a < N := by rw [ha] at hrN; simpa using hrN
          have hm4 : m3 ≤ 4 := by have := hrs.len; omega
          have HOK := Lib.hid (HRN.out r (List.mem_of_getElem? hr)).2
          rw [ha] at hc1
          have hiI : (i : Int) < (nR : Int) := by omega
          have hi0 : (0 : Int) ≤ (i : Int) := by omega
          have haI : (a : Int) < (N : Int) := by omega
          have ha0 : (0 : Int) ≤ (a : Int) := by omega
          have HR := Lib.hid hr
          have HA := Lib.hid ha
          have HRS := Lib.hid hrs
          obtain ⟨hca, _⟩ := HST1.out.at_ haN
          have hlB : B < w4.heap.size := heap_lt HST1.out.row
          clear hr hrs ha hr1 hr2 hr4 hrok hrN
          obtain ⟨fa, hfa⟩ : ∃ fa, F1 a = fa := ⟨_, rfl⟩
          rw [hfa] at hca
          have HFA := Lib.hid hfa
          clear hfa
          have hb5 : Below w4.heap.size w4 (w4.alloc (.cells #[.int .i64 (a : Int), .slice A3 m3 c3] 36)) := (Below.refl _ _).alloc (Nat.le_refl _) _
          have HST5 := Lib.hid (HST1.out.below hb5)
          have HRS5 := Lib.hid (HRS.out.below hb5)
          have HBR5 := Lib.hid (heap_alloc_new w4 (.cells #[.int .i64 (a : Int), .slice A3 m3 c3] 36))
          clear hb5
          cases fa with
          | false =>
            --@4
            go_wp2_with fail
            go_roundg (nR - (i + 1))
            case measure => rw [HGJ.out]; omega
            case rel =>
              refine ⟨i + 1, ag, F1, by omega, rfl, by go_num, rfl, hF1, HSN1.out, HMO1.out, HAG1.out, fun h => ⟨(HCL1.out h).1, fun j r' hj hr' => ?_⟩, HST5.out⟩
              rcases Nat.lt_succ_iff_lt_or_eq.1 hj with h1 | rfl
              · exact (HCL1.out h).2 j r' h1 hr'
              · rw [HR.out] at hr'
                injection hr' with hr'
                subst hr'
                intro hl
                rw [HA.out, Int.toNat_natCast, ← (HCL1.out h).1, HFA.out] at hl
                cases hl
          | true =>
            have he := HE.out
            --@5
            go_wp2_with fail
            have h5 := HF.out _ HST5.out.bel r A3 m3 c3 _ HRS5.out (List.mem_of_getElem? HR.out)
            rw [HA.out] at h5
            refine h5.mono ?_
            clear h5 he
            rintro e w6 ⟨rfl, hb6⟩
            obtain ⟨w5, hw5⟩ : ∃ w5 : World, w5 = w4.alloc (.cells #[.int .i64 (a : Int), .slice A3 m3 c3] 36) := ⟨_, rfl⟩
            rw [← hw5] at HST5 HRS5 HBR5 hb6
            have hz5 : w5.heap.size = w4.heap.size + 1 := by rw [hw5]; simp
            have hz6 := hb6.size
            have HST6 := Lib.hid (HST5.out.below hb6)
            have HRS6 := Lib.hid (HRS5.out.below hb6)
            have HBR6 := Lib.hid ((hb6.block _ (by omega)).trans HBR5.out)
            clear hw5 hb6
            obtain ⟨qv, hqv⟩ : ∃ qv, q r = qv := ⟨_, rfl⟩
            rw [hqv]
            have HQ := Lib.hid hqv
            clear hqv
            cases qv with
            | false =>
              --@7
              go_wp2_with fail
              go_roundg (nR - (i + 1))
              case measure => rw [HGJ.out]; omega
              case rel =>
                refine ⟨i + 1, ag, F1, by omega, rfl, by go_num, rfl, hF1, HSN1.out, HMO1.out, HAG1.out, fun h => ⟨(HCL1.out h).1, fun j r' hj hr' => ?_⟩, HST6.out⟩
                rcases Nat.lt_succ_iff_lt_or_eq.1 hj with h1 | rfl
                · exact (HCL1.out h).2 j r' h1 hr'
                · rw [HR.out] at hr'
                  injection hr' with hr'
                  subst hr'
                  intro _ hq
                  rw [HQ.out] at hq
                  cases hq
            | true =>
              have hk0 : w6.cell? ⟨w4.heap.size, 1, none⟩ = some (.slice A3 m3 c3) := by simp [World.cell?, HBR6.out]
              --@8
              go_wp2_with fail
              clear hk0 hca hc1 hc2
              go_loopg [6, 41] m3 (fun gl va vj wy => ∃ (j : Nat) (ag2 : Bool) (F2 : Nat → Bool), j ≤ m3 ∧ gl = m3 - j ∧ vj = .int .i64 j ∧ va = .bool ag2 ∧ F2 st = true ∧ SoundU g.2.2.2 N q st F2 ∧ (∀ a, a < N → F1 a = true → F2 a = true) ∧ (ag2 = true → cntU N F2 < cntU N F0) ∧
                (ag2 = false → ag = false ∧ F2 = F0 ∧ ∀ p s, p < j → r.2[p]? = some s → s.1 = false → F0 s.2.toNat = true) ∧ ReSt w B N gc F2 wy ∧ Sl RSym wy (fun b => b < w.heap.size) A3 m3 c3 r.2)
              case atStart => exact ⟨0, ag, F1, Nat.zero_le _, rfl, rfl, rfl, hF1, HSN1.out, (fun _ _ h => h), HAG1.out, (fun h => ⟨h, (HCL1.out h).1, fun p s hp => absurd hp (by omega)⟩), HST6.out, HRS6.out.more fun b hb => hb.2⟩
              case round =>
                obtain ⟨j, ag2, F2, hj, hgl, rfl, rfl, hF2, hsn2, hmo2, hag2, hcl2, hst2, hrs2⟩ := hrel
                have HGL := Lib.hid hgl
                have HSN2 := Lib.hid hsn2
                have HMO2 := Lib.hid hmo2
                have HAG2 := Lib.hid hag2
                have HCL2 := Lib.hid hcl2
                have HST2 := Lib.hid hst2
                have HRS2 := Lib.hid hrs2
                obtain ⟨w7, rfl⟩ : ∃ w7 : World, w7 = wr := ⟨_, rfl⟩
                clear hgl hsn2 hmo2 hag2 hcl2 hst2 hrs2
                by_cases hjm : j < m3
                · obtain ⟨bs, os, s, rfl, hbs, _, hs1, hs2, hs⟩ := sym_at HRS2.out hjm
                  obtain ⟨tm, xI⟩ := s
                  have hjI : (j : Int) < (m3 : Int) := by omega
                  have hj0 : (0 : Int) ≤ (j : Int) := by omega
                  have HS := Lib.hid hs
                  have hb8 : Below w7.heap.size w7 (w7.alloc (.cells #[.bool tm, .int .i64 xI] 38)) := (Below.refl _ _).alloc (Nat.le_refl _) _
                  have HST8 := Lib.hid (HST2.out.below hb8)
                  have HRS8 := Lib.hid (HRS2.out.below hb8)
                  have hlB7 : B < w7.heap.size := heap_lt HST2.out.row
                  clear hs hb8
                  cases tm with
                  | true =>
                    --@10
                    go_wp2_with fail
                    go_roundg (m3 - (j + 1))
                    case measure => rw [HGL.out]; omega
                    case rel =>
                      refine ⟨j + 1, ag2, F2, by omega, rfl, by go_num, rfl, hF2, HSN2.out, HMO2.out, HAG2.out, fun h => ⟨(HCL2.out h).1, (HCL2.out h).2.1, fun p s' hp hs' hf => ?_⟩, HST8.out, HRS8.out⟩
                      rcases Nat.lt_succ_iff_lt_or_eq.1 hp with h1 | rfl
                      · exact (HCL2.out h).2.2 p s' h1 hs' hf
                      · rw [HS.out] at hs'
                        injection hs' with hs'
                        subst hs'
                        cases hf
                  | false =>
                    obtain ⟨hx0, hxN⟩ := HOK.out _ (List.mem_of_getElem? HS.out) rfl
                    obtain ⟨x, hx⟩ : ∃ x : Nat, xI = (x : Int) := ⟨xI.toNat, by simp only at hx0; omega⟩
                    subst hx
                    simp only [Int.toNat_natCast] at hxN
                    obtain ⟨hcx, hfx⟩ := HST2.out.at_ hxN
                    obtain ⟨fx, hfx2⟩ : ∃ fx, F2 x = fx := ⟨_, rfl⟩
                    rw [hfx2] at hcx
                    have HFX := Lib.hid hfx2
                    have hxI : (x : Int) < (N : Int) := by omega
                    have hx00 : (0 : Int) ≤ (x : Int) := by omega
                    clear hfx2 hx0
                    cases fx with
                    | true =>
                      --@11
                      go_wp2_with fail
                      go_roundg (m3 - (j + 1))
                      case measure => rw [HGL.out]; omega
                      case rel =>
                        refine ⟨j + 1, ag2, F2, by omega, rfl, by go_num, rfl, hF2, HSN2.out, HMO2.out, HAG2.out, fun h => ⟨(HCL2.out h).1, (HCL2.out h).2.1, fun p s' hp hs' hf => ?_⟩, HST8.out, HRS8.out⟩
                        rcases Nat.lt_succ_iff_lt_or_eq.1 hp with h1 | rfl
                        · exact (HCL2.out h).2.2 p s' h1 hs' hf
                        · rw [HS.out] at hs'
                          injection hs' with hs'
                          subst hs'
                          rw [← (HCL2.out h).2.1]
                          simpa using HFX.out
                    | false =>
                      have HST9 := Lib.hid ((HST2.out.set x).below ((Below.refl _ _).alloc (Nat.le_refl _) (.cells #[.bool false, .int .i64 (x : Int)] 38)))
                      have HRS9 := Lib.hid ((HRS2.out.keep (Kept.setCell _ _ ⟨B, x, none⟩ (.bool true) (by show ¬ B < w.heap.size; omega))).alloc (.cells #[.bool false, .int .i64 (x : Int)] 38))
                      --@12
                      go_wp2_with fail
                      go_roundg (m3 - (j + 1))
                      case measure => rw [HGL.out]; omega
                      case rel =>
                        have hup : ∀ b, b < N → F2 b = true → upd F2 x true b = true := fun b _ h => by
                          unfold upd
                          split
                          · rfl
                          · exact h
                        have hlt9 := cntU_lt hup hxN HFX.out (by simp [upd])
                        refine ⟨j + 1, true, upd F2 x true, by omega, rfl, by go_num, rfl, hup _ (by omega) hF2, HSN2.out.set (List.mem_of_getElem? HR.out) HQ.out HA.out haN (HMO2.out _ haN HFA.out) (List.mem_of_getElem? HS.out), fun b hb h => hup b hb (HMO2.out b hb h), fun _ => ?_, (fun h => by cases h), HST9.out, HRS9.out⟩
                        have h1 := cntU_le (fun b hb h => HMO2.out b hb (HMO1.out b hb h))
                        omega
                · obtain rfl : j = m3 := by omega
                  --@9
                  go_wp2_with fail
                  go_roundg (nR - (i + 1))
                  case measure => rw [HGJ.out]; omega
                  case rel =>
                    refine ⟨i + 1, ag2, F2, by omega, rfl, by go_num, rfl, hF2, HSN2.out, fun a ha h => HMO2.out a ha (HMO1.out a ha h), HAG2.out, fun h => ⟨(HCL2.out h).2.1, fun j' r' hj' hr' => ?_⟩, HST2.out⟩
                    obtain ⟨h0, h1, h2⟩ := HCL2.out h
                    rcases Nat.lt_succ_iff_lt_or_eq.1 hj' with h3 | rfl
                    · exact (HCL1.out h0).2 j' r' h3 hr'
                    · rw [HR.out] at hr'
                      injection hr' with hr'
                      subst hr'
                      intro _ _ s hs hf
                      obtain ⟨p, hp⟩ := List.getElem?_of_mem hs
                      refine h2 p s ?_ hp hf
                      have h4 := (List.getElem?_eq_some_iff.1 hp).1
                      have := HRS2.out.len
                      omega
        · obtain rfl : i = nR := by omega
          --@6
          go_wp2_with fail
          go_roundg (cntU N F1 + (if ag then 1 else 0))
          case measure =>
            rw [HGK.out]
            cases ag with
            | true =>
              have h1 := HAG1.out (by first | rfl | trivial)
              simp
              omega
            | false =>
              have h1 := (HCL1.out (by first | rfl | trivial)).1
              rw [h1]
              simp
          case rel =>
            refine ⟨ag, F1, rfl, rfl, hF1, HSN1.out, fun h r hr => ?_, HST1.out⟩
            obtain ⟨j, hj⟩ := List.getElem?_of_mem hr
            have hjl : j < i := by
              have h1 := (List.getElem?_eq_some_iff.1 hj).1
              have := HRL.out
              omega
            rw [(HCL1.out h).1]
            exact (HCL1.out h).2 j r hjl hj
end Go.Proofs.Ytfkapijfjihiiaa
