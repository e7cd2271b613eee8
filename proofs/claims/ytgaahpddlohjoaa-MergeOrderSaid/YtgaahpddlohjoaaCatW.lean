/- slices.Grow(nil, n), slices.Concat, slices.Clone at []int. -/
import Derived.Test.YtgaahpddlohjoaaApp2
import Derived.LoopTactic
import Derived.Outline
import Derived.WalkSpells
namespace Go.Proofs.Ytgaahpddlohjoaa
open Go.RowKit

theorem tIntssV : SlType Try.prog 23 22 1 24 (.slice none 0 0) := ⟨by kernel_rfl, by kernel_rfl, by kernel_rfl, rfl, by decide⟩

set_option maxRecDepth 100000 in
set_option maxHeartbeats 1000000 in
theorem growW (n : Nat) (w : World) (hb : n * 24 ≤ 281474976710656) :
    Calls Try.prog 75 #[.slice none 0 0, .int .i64 n] w fun e w' => ∃ v, e = .returned v ∧ Room w' w.heap.size 22 1 v 0 [] n ∧ Below w.heap.size w w' := by
  rcases Nat.eq_zero_or_pos n with h0 | h0
  · subst h0
    go_enter Try.func75, Try.ntmps75
    go_wp2
    go_ret
    exact ⟨_, rfl, .inl ⟨rfl, rfl, rfl, rfl⟩, Below.refl _ _⟩
  · obtain ⟨cap, w1, hrun, hc1, hc2, hown, hg⟩ := run_grow_zeros tIntssV w 23 3 w.heap.size n (by kernel_rfl) h0 (by omega) (by unfold maxLen; omega) (Nat.le_refl _)
    have HO := Lib.hid hown
    have HG := Lib.hid hg
    have HR := Lib.hid hrun
    unfold maxLen at hc2
    clear hown hg hrun
    have hs1 : (0 : Int) ≤ (cap : Int) := by omega
    go_enter Try.func75, Try.ntmps75
    go_wp2_with (at_builtin; refine Lib.wpList_append_run _ rfl _ _ _ _ rfl _ _ rfl rfl _ _ HR.out ?_)
    go_ret
    exact ⟨_, rfl, .inr ⟨w.heap.size, cap, rfl, HO.out, hc1⟩, (Below.refl _ _).grown HG.out (Nat.le_refl _) (by simp)⟩

set_option maxRecDepth 100000 in
set_option maxHeartbeats 2000000 in
theorem concatW (b0 o0 c0 : Nat) (S : Nat → Prop) (ps : List Part) (w : World) (hr : Rd w S 1 (some ⟨b0, o0, none⟩) ps.length (ps.map Part.val)) (hp : ∀ p ∈ ps, p.Ok w S 1)
    (hl : ps.length ≤ 1000000) (hb : partsLen ps * 24 ≤ 281474976710656) :
    Calls Try.prog 40 #[.slice (some ⟨b0, o0, none⟩) ps.length c0] w fun e w' => ∃ v, e = .returned v ∧ Own w' w.heap.size 22 1 v (partsLen ps) (partsAll ps) ∧ Below w.heap.size w w' := by
  have HR := Lib.hid hr
  have HP := Lib.hid hp
  clear hr hp
  have hget : ∀ k, k < ps.length → ∃ p, ps[k]? = some p ∧ p.Ok w S 1 ∧ w.cell? ⟨b0, o0 + k, none⟩ = some p.val ∧ b0 < w.heap.size := by
    intro k hk
    obtain ⟨b, off, u, e, _, hx, hc⟩ := HR.out.at_ hk
    injection e with e
    injection e with e1 e2
    subst e1
    subst e2
    rw [List.getElem?_map, List.getElem?_eq_getElem hk] at hx
    injection hx with hx
    exact ⟨ps[k], List.getElem?_eq_getElem hk, HP.out _ (List.getElem_mem hk), by rw [hc, ← hx], cell_lt hc⟩
  have HGET := Lib.hid hget
  clear hget
  have htot : partsLen ps ≤ 281474976710656 := by omega
  go_enter Try.func40, Try.ntmps40
  go_wp2_with fail
  go_loop [3, 11] (fun t i => ∃ k : Nat, k ≤ ps.length ∧ i = .int .i64 k ∧ t = .int .i64 (partsLen (ps.take k))) (fun _ i => ps.length - (intOf i).toNat)
  case atStart => exact ⟨0, Nat.zero_le _, rfl, rfl⟩
  case round =>
    obtain ⟨k, hk, rfl, rfl⟩ := hrel
    by_cases hlt : k < ps.length
    · obtain ⟨p, hpk, hok, hcell, _⟩ := HGET.out k hlt
      have hs := partsLen_take ps (k + 1)
      have hs2 : Hid (partsLen (ps.take (k + 1)) = partsLen (ps.take k) + p.n) := by rw [parts_step hpk, partsLen_snoc]; exact Lib.hid rfl
      have hsum : partsLen (ps.take k) + p.n ≤ 281474976710656 := by rw [hs2.out] at hs; omega
      have hnc := hok.2.1
      clear hpk hok hs
      simp only [Part.val] at hcell
      generalize partsLen (ps.take k) = q at *
      go_wp2_with fail
      go_round
      case rel => exact ⟨k + 1, by omega, by go_num, by rw [hs2.out]; go_num⟩
      case measure => simp [intOf]; omega
    · obtain rfl : k = ps.length := by omega
      rw [List.take_length]
      go_wp2_with (go_at_call 75; refine (growW _ _ hb).mono ?_; rintro e w1 ⟨v, rfl, hroom, hbel⟩)
      have HRM := Lib.hid hroom
      have HB := Lib.hid hbel
      clear hroom hbel
      go_loopw [6, 27] (fun v i wr => ∃ k : Nat, k ≤ ps.length ∧ i = .int .i64 k ∧ Room wr w.heap.size 22 1 v (partsLen (ps.take k)) (partsAll (ps.take k)) (partsLen ps) ∧ Below w.heap.size w wr) (fun _ i _ => ps.length - (intOf i).toNat)
      case atStart => exact ⟨0, Nat.zero_le _, rfl, HRM.out, HB.out⟩
      case round =>
        obtain ⟨k, hk, rfl, hrm, hbl⟩ := hrel
        by_cases hlt : k < ps.length
        · obtain ⟨p, hpk, hok, hcell, hbB⟩ := HGET.out k hlt
          have hs := partsLen_take ps (k + 1)
          rw [parts_step hpk, partsLen_snoc] at hs
          obtain ⟨v2, w2, hrun, hrm2, hg2⟩ := run_append_Room tIntssV wr 23 w.heap.size _ (partsLen (ps.take k)) (partsLen ps) (partsAll (ps.take k)) hrm S p.A p.n p.c p.xs (hok.1.below hbl) hok.2.2 hs
          have hbl2 := Below.own hbl hrm.own hg2 (Nat.le_refl _) hbl.size
          rw [← partsLen_snoc, ← partsAll_snoc, ← parts_step hpk] at hrm2
          have hcell2 : wr.cell? ⟨b0, o0 + k, none⟩ = some (.slice p.A p.n p.c) := by rw [hbl.cell (p := ⟨b0, o0 + k, none⟩) (by simp only; omega), hcell]; rfl
          have HRUN := Lib.hid hrun
          have HRM2 := Lib.hid hrm2
          have HBL2 := Lib.hid hbl2
          clear hrun hrm2 hbl2 hg2 hs hcell hok hpk hrm hbl
          go_wp2_with (at_builtin; refine Lib.wpList_append_run _ rfl _ _ _ _ rfl _ _ rfl rfl _ _ HRUN.out ?_)
          go_roundw
          case rel => exact ⟨k + 1, by omega, by go_num, HRM2.out, HBL2.out⟩
          case measure => simp [intOf]; omega
        · obtain rfl : k = ps.length := by omega
          rw [List.take_length] at hrm
          have HO := Lib.hid hrm.own
          have HBL := Lib.hid hbl
          clear hrm hbl
          go_wp2_with fail
          go_ret
          exact ⟨_, rfl, HO.out, HBL.out⟩

end Go.Proofs.Ytgaahpddlohjoaa
