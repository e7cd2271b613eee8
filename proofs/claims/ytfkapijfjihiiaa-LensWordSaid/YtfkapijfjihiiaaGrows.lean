/- lens.grows: which nonterminals have a word that is not empty. -/
import Derived.Test.YtfkapijfjihiiaaReached
import Derived.Test.YtfkapijfjihiiaaTrim
namespace Go.Proofs.Ytfkapijfjihiiaa
open Go.RowKit

/-- the grammar's copy, the marks, the box that holds them -/
structure GrSt (w : World) (B Bo N : Nat) (gc : Array Value) (F : Nat → Bool) (wr : World) : Prop where
  row : wr.heap[B]? = some (.cells (rowCells Value.bool N F) 4 (0, 0))
  gb : wr.heap[w.heap.size]? = some (.cells gc 25 (0, 0))
  bx : wr.heap[Bo]? = some (.cells #[.slice (some ⟨B, 0, none⟩) N N] 28 (0, 0))
  lt : w.heap.size < B ∧ w.heap.size < Bo ∧ B < Bo
  bel : Below w.heap.size w wr
section
variable {w wr w' : World} {B Bo N : Nat} {gc : Array Value} {F : Nat → Bool}
theorem GrSt.below (h : GrSt w B Bo N gc F wr) (hb : Below wr.heap.size wr w') : GrSt w B Bo N gc F w' :=
  ⟨(hb.block _ (heap_lt h.row)).trans h.row, (hb.block _ (heap_lt h.gb)).trans h.gb, (hb.block _ (heap_lt h.bx)).trans h.bx, h.lt, h.bel.trans (hb.mono h.bel.size)⟩
theorem GrSt.set (h : GrSt w B Bo N gc F wr) (a : Nat) : GrSt w B Bo N gc (upd F a true) (wr.setCell ⟨B, a, none⟩ (.bool true)) := by
  have hl := h.lt
  refine ⟨?_, (Below.heap_setCell _ _ _ _ (by simp; omega)).trans h.gb, (Below.heap_setCell _ _ _ _ (by simp; omega)).trans h.bx, hl, h.bel.setCell (by simp; omega) _⟩
  have := blk_set h.row a (.bool true)
  rwa [rowCells_set] at this
theorem GrSt.at_ (h : GrSt w B Bo N gc F wr) {a : Nat} (ha : a < N) : wr.cell? ⟨B, a, none⟩ = some (.bool (F a)) ∧ wr.frozen? ⟨B, a, none⟩ = false := by
  refine ⟨?_, by simp [World.frozen?, h.row]⟩
  rw [cell_of_row wr _ a _ _ _ h.row]
  exact rowCells_at _ _ _ a ha
theorem GrSt.box (h : GrSt w B Bo N gc F wr) : wr.cell? ⟨Bo, 0, none⟩ = some (.slice (some ⟨B, 0, none⟩) N N) := by simp [World.cell?, h.bx]
end
/-- marks that a box holds -/
structure MarkSt (w : World) (B Bo N : Nat) (F : Nat → Bool) : Prop where
  row : w.heap[B]? = some (.cells (rowCells Value.bool N F) 4 (0, 0))
  bx : w.cell? ⟨Bo, 0, none⟩ = some (.slice (some ⟨B, 0, none⟩) N N)
theorem MarkSt.below {w w' : World} {B Bo N : Nat} {F : Nat → Bool} (h : MarkSt w B Bo N F) (hb : Below w.heap.size w w') : MarkSt w' B Bo N F := ⟨(hb.block _ (heap_lt h.row)).trans h.row, (hb.cell (cell_lt h.bx)).trans h.bx⟩
theorem GrSt.mark {w wr : World} {B Bo N : Nat} {gc : Array Value} {F : Nat → Bool} (h : GrSt w B Bo N gc F wr) : MarkSt wr B Bo N F := ⟨h.row, h.box⟩
set_option maxHeartbeats 1000000 in
theorem growsFn (w : World) (B Bo N : Nat) (F : Nat → Bool) (hm : MarkSt w B Bo N F) (s : SymD) (hs : NonOk N [s]) :
    Calls Try.prog 70 #[.agg #[.bool s.1, .int .i64 s.2], .pointer (some ⟨Bo, 0, none⟩)] w fun e w' => e = .returned (.bool (growS F s)) ∧ Below w.heap.size w w' := by
  obtain ⟨t, x⟩ := s
  cases t with
  | true =>
    clear hm hs
    go_enter Try.func70, Try.ntmps70
    go_wp2_with fail
    go_ret
    exact ⟨rfl, (Below.refl _ _).alloc (Nat.le_refl _) _⟩
  | false =>
    obtain ⟨h0, h1⟩ := hs (false, x) (by simp) rfl
    simp only at h0 h1
    obtain ⟨a, rfl⟩ : ∃ a : Nat, x = (a : Int) := ⟨x.toNat, by omega⟩
    rw [Int.toNat_natCast] at h1
    have hbx := hm.bx
    have hc : w.cell? ⟨B, a, none⟩ = some (.bool (F a)) := by
      rw [cell_of_row w _ a _ _ _ hm.row]
      exact rowCells_at _ _ _ a h1
    have hl1 := cell_lt hbx
    have hl2 := cell_lt hc
    have haI : (a : Int) < (N : Int) := by omega
    have ha0 : (0 : Int) ≤ (a : Int) := by omega
    have HU := Lib.hid (show growS F (false, (a : Int)) = F a by simp [growS])
    clear hm hs h1 h0
    go_enter Try.func70, Try.ntmps70
    go_wp2_with fail
    go_ret
    exact ⟨ret_bool HU.out.symm, (Below.refl _ _).alloc (Nat.le_refl _) _⟩
theorem tellsGrows (w : World) (B Bo N : Nat) (F : Nat → Bool) (hm : MarkSt w B Bo N F) : TellsS Try.prog w (fun s => NonOk N [s]) (growS F) 70 #[.pointer (some ⟨Bo, 0, none⟩)] := fun u hb s hs => growsFn u B Bo N F (hm.below hb) s hs
theorem entersGrows : ∀ (args : Array Value) (u : World), (callFunc 70 args).run Try.prog u = .ok (.enter 70 args) u := enters_of Try.func70 (by kernel_rfl) rfl
def SoundG (R : List RuleD) (N : Nat) (F : Nat → Bool) : Prop := ∀ a, a < N → F a = true → ∃ k, 1 ≤ k ∧ Der R [(false, (a : Int))] k
def ClosedG (R : List RuleD) (F : Nat → Bool) : Prop := ∀ r ∈ R, r.2.any (growS F) = true → F r.1.toNat = true
def GrowsR (R : List RuleD) (N base : Nat) (e : Ending) (w' : World) : Prop := ∃ (B : Nat) (F : Nat → Bool), base ≤ B ∧ e = .returned (.slice (some ⟨B, 0, none⟩) N N) ∧ w'.heap[B]? = some (.cells (rowCells Value.bool N F) 4 (0, 0)) ∧ SoundG R N F ∧ ClosedG R F
set_option linter.unusedSimpArgs false in
set_option maxRecDepth 1000000 in
set_option maxHeartbeats 8000000 in
theorem lensGrows (w : World) (Sg : Nat → Prop) (AR : Option Addr) (nR cR : Nat) (T : Int) (N st : Nat) (R : List RuleD) (hg : Sl RRule w Sg AR nR cR R) (hRN : RulesN N R) (hlen : ∀ r ∈ R, r.2.length ≤ 4) (hN1 : 1 ≤ N) (hN2 : N ≤ 10) (hnR : nR ≤ 32) (hp : ∀ a, a < N → Prod1 R a) :
    Calls Try.prog 40 #[.agg #[.int .i64 T, .int .i64 N, .int .i64 st, .slice AR nR cR]] w fun e w' => GrowsR R N w.heap.size e w' ∧ Below w.heap.size w w' := by
  have HRL := Lib.hid hg.len
  have HG := Lib.hid hg.fit
  have HRN := Lib.hid hRN
  have HLE := Lib.hid hlen
  have HP := Lib.hid hp
  obtain ⟨gc, hgc⟩ : ∃ gc : Array Value, gc = #[.int .i64 T, .int .i64 (N : Int), .int .i64 (st : Int), .slice AR nR cR] := ⟨_, rfl⟩
  have hmk := fun W => tBools.make rfl N (by omega) (by omega) W
  simp only [made_row] at hmk
  have HGC := Lib.hid hgc
  clear hg hRN hlen hp hgc
  go_enter Try.func40, Try.ntmps40
  --@1
  go_wp2_with fail
  clear hmk
  obtain ⟨w1, hw1⟩ : ∃ w1 : World, w1 = ((w.alloc (.cells #[.int .i64 T, .int .i64 (N : Int), .int .i64 (st : Int), .slice AR nR cR] 25)).alloc (.cells (rowCells Value.bool N (fun _ => false)) 4)).alloc (.cells #[.slice (some ⟨w.heap.size + 1, 0, none⟩) N N] 28) := ⟨_, rfl⟩
  rw [← hw1]
  have hz1 : w1.heap.size = w.heap.size + 3 := by rw [hw1]; simp
  obtain ⟨B, hB⟩ : ∃ B, B = w.heap.size + 1 := ⟨_, rfl⟩
  obtain ⟨Bo, hBo⟩ : ∃ Bo, Bo = B + 1 := ⟨_, rfl⟩
  have HS1 := Lib.hid (show GrSt w B Bo N gc (fun _ => false) w1 by
    rw [hw1, hBo, hB, ← HGC.out]
    exact ⟨(Below.heap_alloc _ _ _ (by simp only [World.size_alloc]; omega)).trans (heap_new _ _ _ (by simp only [World.size_alloc])), (Below.heap_alloc _ _ _ (by simp only [World.size_alloc]; omega)).trans ((Below.heap_alloc _ _ _ (by simp only [World.size_alloc]; omega)).trans (heap_alloc_new _ _)), heap_new _ _ _ (by simp only [World.size_alloc]), by omega, (((Below.refl _ _).alloc (Nat.le_refl _) _).alloc (by simp only [World.size_alloc]; omega) _).alloc (by simp only [World.size_alloc]; omega) _⟩)
  rw [← hB, ← hBo]
  have hBw : w.heap.size < B := by omega
  clear hw1 hB hBo hz1
  go_loopg [4] (cntU N (fun _ => false) + 1) (fun gk va wr => ∃ (ag : Bool) (F : Nat → Bool), va = .bool ag ∧ gk = cntU N F + (if ag then 1 else 0) ∧ SoundG R N F ∧ (ag = false → ClosedG R F) ∧ GrSt w B Bo N gc F wr)
  case atStart => exact ⟨true, _, rfl, rfl, (fun _ _ h => by cases h), (fun h => by cases h), HS1.out⟩
  case round =>
    obtain ⟨ag, F0, rfl, hgk, hsn, hcl, hst⟩ := hrel
    have HGK := Lib.hid hgk
    have HSN := Lib.hid hsn
    have HCL := Lib.hid hcl
    have HST := Lib.hid hst
    have hk3 : wr.cell? ⟨w.heap.size, 3, none⟩ = some (.slice AR nR cR) := by simp [World.cell?, hst.gb, HGC.out]
    have hkb := hst.box
    obtain ⟨w3, rfl⟩ : ∃ w3 : World, w3 = wr := ⟨_, rfl⟩
    clear hgk hsn hcl hst
    cases ag with
    | false =>
      --@2
      go_wp2_with fail
      go_ret
      exact ⟨⟨B, F0, Nat.le_of_lt hBw, rfl, HST.out.row, HSN.out, by first | exact HCL.out rfl | exact HCL.out trivial⟩, HST.out.bel⟩
    | true =>
      have hgk := HGK.out
      rw [if_pos rfl] at hgk
      have HGK := Lib.hid hgk
      clear hgk HCL hkb
      --@3
      go_wp2_with fail
      clear hk3
      go_loopg [4, 14] nR (fun gj va vi wx => ∃ (i : Nat) (ag : Bool) (F1 : Nat → Bool), i ≤ nR ∧ gj = nR - i ∧ vi = .int .i64 i ∧ va = .bool ag ∧ SoundG R N F1 ∧ (∀ a, a < N → F0 a = true → F1 a = true) ∧ (ag = true → cntU N F1 < cntU N F0) ∧
        (ag = false → F1 = F0 ∧ ∀ j r, j < i → R[j]? = some r → r.2.any (growS F0) = true → F0 r.1.toNat = true) ∧ GrSt w B Bo N gc F1 wx)
      case atStart => exact ⟨0, false, F0, Nat.zero_le _, rfl, rfl, rfl, HSN.out, (fun _ _ h => h), (fun h => by cases h), (fun _ => ⟨rfl, fun j r h => absurd h (by omega)⟩), HST.out⟩
      case round =>
        obtain ⟨i, ag, F1, hi, hgj, rfl, rfl, hsn1, hmo1, hag1, hcl1, hst1⟩ := hrel
        have HGJ := Lib.hid hgj
        have HSN1 := Lib.hid hsn1
        have HMO1 := Lib.hid hmo1
        have HAG1 := Lib.hid hag1
        have HCL1 := Lib.hid hcl1
        have HST1 := Lib.hid hst1
        obtain ⟨w4, rfl⟩ : ∃ w4 : World, w4 = wr := ⟨_, rfl⟩
        clear hgj hsn1 hmo1 hag1 hcl1 hst1
        by_cases hlt : i < nR
        · obtain ⟨b0, off, A3, m3, c3, r, rfl, _, hb0, hc1, hc2, hr, hrs⟩ := rule_at (HG.out.keep (Kept.belowB HST1.out.bel fun b hb => hb.2)) hlt
          obtain ⟨⟨hr1, hrN⟩, hok⟩ := HRN.out r (List.mem_of_getElem? hr)
          obtain ⟨a, ha⟩ : ∃ a : Nat, r.1 = (a : Int) := ⟨r.1.toNat, by omega⟩
          have haN : a < N := by rw [ha] at hrN; simpa using hrN
          have hm4 : m3 ≤ 4 := by have := hrs.len; have := HLE.out r (List.mem_of_getElem? hr); omega
          have HOK := Lib.hid hok
          rw [ha] at hc1
          have hiI : (i : Int) < (nR : Int) := by omega
          have hi0 : (0 : Int) ≤ (i : Int) := by omega
          have haI : (a : Int) < (N : Int) := by omega
          have ha0 : (0 : Int) ≤ (a : Int) := by omega
          have HR := Lib.hid hr
          have HA := Lib.hid ha
          have HRS := Lib.hid hrs
          obtain ⟨hca, _⟩ := HST1.out.at_ haN
          have hlB : B < w4.heap.size := heap_lt HST1.out.row
          have hlBo : Bo < w4.heap.size := heap_lt HST1.out.bx
          have hkb := HST1.out.box
          clear hr hrs ha hr1 hrN hok
          obtain ⟨fa, hfa⟩ : ∃ fa, F1 a = fa := ⟨_, rfl⟩
          rw [hfa] at hca
          have HFA := Lib.hid hfa
          clear hfa
          have hb5 : Below w4.heap.size w4 (w4.alloc (.cells #[.int .i64 (a : Int), .slice A3 m3 c3] 36)) := (Below.refl _ _).alloc (Nat.le_refl _) _
          have HST5 := Lib.hid (HST1.out.below hb5)
          have HRS5 := Lib.hid (HRS.out.below hb5)
          have HBR5 := Lib.hid (heap_alloc_new w4 (.cells #[.int .i64 (a : Int), .slice A3 m3 c3] 36))
          clear hb5
          cases fa with
          | true =>
            --@4
            go_wp2_with fail
            go_roundg (nR - (i + 1))
            case measure => rw [HGJ.out]; omega
            case rel =>
              refine ⟨i + 1, ag, F1, by omega, rfl, by go_num, rfl, HSN1.out, HMO1.out, HAG1.out, fun h => ⟨(HCL1.out h).1, fun j r' hj hr' => ?_⟩, HST5.out⟩
              rcases Nat.lt_succ_iff_lt_or_eq.1 hj with h1 | rfl
              · exact (HCL1.out h).2 j r' h1 hr'
              · rw [HR.out] at hr'
                injection hr' with hr'
                subst hr'
                intro _
                rw [HA.out, Int.toNat_natCast, ← (HCL1.out h).1]
                exact HFA.out
          | false =>
            have he := entersGrows
            --@5
            go_wp2_with fail
            refine (containsFnS _ _ _ _ _ A3 m3 c3 _ r.2 entersGrows (tellsGrows _ B Bo N F1 HST5.out.mark) HRS5.out (fun s hs => fun x hx hf => HOK.out x (by obtain rfl := List.mem_singleton.1 hx; exact hs) hf) (by omega)).mono ?_
            clear he
            rintro e w6 ⟨rfl, hb6⟩
            obtain ⟨w5, hw5⟩ : ∃ w5 : World, w5 = w4.alloc (.cells #[.int .i64 (a : Int), .slice A3 m3 c3] 36) := ⟨_, rfl⟩
            rw [← hw5] at HST5 HRS5 HBR5 hb6
            have hz5 : w5.heap.size = w4.heap.size + 1 := by rw [hw5]; simp
            have hz6 := hb6.size
            have HST6 := Lib.hid (HST5.out.below hb6)
            have HBR6 := Lib.hid ((hb6.block _ (by omega)).trans HBR5.out)
            clear hw5 hb6
            obtain ⟨qv, hqv⟩ : ∃ qv, r.2.any (growS F1) = qv := ⟨_, rfl⟩
            rw [hqv]
            have HQ := Lib.hid hqv
            clear hqv
            cases qv with
            | false =>
              --@6
              go_wp2_with fail
              go_roundg (nR - (i + 1))
              case measure => rw [HGJ.out]; omega
              case rel =>
                refine ⟨i + 1, ag, F1, by omega, rfl, by go_num, rfl, HSN1.out, HMO1.out, HAG1.out, fun h => ⟨(HCL1.out h).1, fun j r' hj hr' => ?_⟩, HST6.out⟩
                rcases Nat.lt_succ_iff_lt_or_eq.1 hj with h1 | rfl
                · exact (HCL1.out h).2 j r' h1 hr'
                · rw [HR.out] at hr'
                  injection hr' with hr'
                  subst hr'
                  intro hq
                  rw [← (HCL1.out h).1, HQ.out] at hq
                  cases hq
            | true =>
              have hk0 : w6.cell? ⟨w4.heap.size, 0, none⟩ = some (.int .i64 (a : Int)) := by simp [World.cell?, HBR6.out]
              have hkb6 := HST6.out.box
              obtain ⟨hca6, hfa6⟩ := HST6.out.at_ haN
              rw [HFA.out] at hca6
              have HST7 := Lib.hid (HST6.out.set a)
              --@7
              go_wp2_with fail
              go_roundg (nR - (i + 1))
              case measure => rw [HGJ.out]; omega
              case rel =>
                have hup : ∀ b, b < N → F1 b = true → upd F1 a true b = true := fun b _ h => by
                  unfold upd
                  split
                  · rfl
                  · exact h
                have hlt9 := cntU_lt hup haN HFA.out (by simp [upd])
                have hsn2 : SoundG R N (upd F1 a true) := fun b hb h => by
                  unfold upd at h
                  split at h
                  · rename_i e
                    subst e
                    obtain ⟨k, hk1, hk2⟩ := grow_der HP.out HSN1.out HOK.out HQ.out
                    refine ⟨k, hk1, Der.non_iff.2 ⟨r.2, ?_, hk2⟩⟩
                    rw [← HA.out]
                    exact List.mem_of_getElem? HR.out
                  · exact HSN1.out b hb h
                refine ⟨i + 1, true, upd F1 a true, by omega, rfl, by go_num, rfl, hsn2, fun b hb h => hup b hb (HMO1.out b hb h), fun _ => ?_, (fun h => by cases h), HST7.out⟩
                have h1 := cntU_le (fun b hb h => HMO1.out b hb h)
                omega
        · obtain rfl : i = nR := by omega
          --@8
          go_wp2_with fail
          go_roundg (cntU N F1 + (if ag then 1 else 0))
          case measure =>
            rw [HGK.out]
            cases ag with
            | true =>
              have h1 := HAG1.out (by first | rfl | trivial)
              simp
              omega
            | false =>
              have h1 := (HCL1.out (by first | rfl | trivial)).1
              rw [h1]
              simp
          case rel =>
            refine ⟨ag, F1, rfl, rfl, HSN1.out, fun h r hr => ?_, HST1.out⟩
            obtain ⟨j, hj⟩ := List.getElem?_of_mem hr
            have hjl : j < i := by
              have h1 := (List.getElem?_eq_some_iff.1 hj).1
              have := HRL.out
              omega
            rw [(HCL1.out h).1]
            exact (HCL1.out h).2 j r hjl hj
end Go.Proofs.Ytfkapijfjihiiaa
