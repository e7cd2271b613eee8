/- parlkeep5.distinct: the rules without those that occur before. -/
import Derived.Test.YtidigjfnifmiiaaDoorSlEqSym
import Derived.Test.YtidigjfnifmiiaaDoorSlIdxGr
import Derived.Test.YtidigjfnifmiiaaDoorDfaB
namespace Go.Proofs.YtidigjfnifmiiaaDoor
open Go.RowKit

def dist : List RuleD → List RuleD → List RuleD
  | acc, [] => acc
  | acc, r :: l => dist (if r ∈ acc then acc else acc ++ [r]) l
theorem dist_mem (x : RuleD) : ∀ (l acc : List RuleD), x ∈ dist acc l ↔ x ∈ acc ∨ x ∈ l
  | [], acc => by simp [dist]
  | r :: l, acc => by
    rw [dist, dist_mem x l]
    by_cases h : r ∈ acc
    · rw [if_pos h, List.mem_cons]
      constructor
      · rintro (h1 | h1)
        · exact .inl h1
        · exact .inr (.inr h1)
      · rintro (h1 | h1 | h1)
        · exact .inl h1
        · exact .inl (h1 ▸ h)
        · exact .inr h1
    · rw [if_neg h, List.mem_cons, List.mem_append, List.mem_singleton, or_assoc]
theorem dist_nodup : ∀ (l acc : List RuleD), acc.Nodup → (dist acc l).Nodup
  | [], _, h => h
  | r :: l, acc, h => by
    rw [dist]
    apply dist_nodup l
    split
    · exact h
    · rename_i hr
      rw [List.nodup_append]
      refine ⟨h, by simp, fun a ha b hb e => ?_⟩
      obtain rfl := List.mem_singleton.1 hb
      exact hr (e ▸ ha)
theorem dist_len : ∀ (l acc : List RuleD), (dist acc l).length ≤ acc.length + l.length
  | [], _ => by simp [dist]
  | r :: l, acc => by
    rw [dist]
    have h := dist_len l (if r ∈ acc then acc else acc ++ [r])
    split at h
    · rw [if_pos ‹_›]; simp only [List.length_cons]; omega
    · rw [if_neg ‹_›]; simp only [List.length_append, List.length_cons, List.length_nil] at h ⊢; omega
theorem dist_step {l acc : List RuleD} {k : Nat} {r : RuleD} (h : l[k]? = some r) : dist acc (l.drop k) = dist (if r ∈ acc then acc else acc ++ [r]) (l.drop (k + 1)) := by
  obtain ⟨h1, rfl⟩ := List.getElem?_eq_some_iff.1 h
  rw [List.drop_eq_getElem_cons h1]
  rfl
theorem any_eq {l : List RuleD} {r : RuleD} : (l.any fun x => decide (x = r)) = decide (r ∈ l) := by
  rw [Bool.eq_iff_iff]
  simp

set_option maxHeartbeats 1000000 in
theorem distFn (w : World) (B : Nat) (S S' : Nat → Prop) (A : Option Addr) (n c : Nat) (a : RuleD) (hl : Sl RSym w S A n c a.2) (A' : Option Addr) (n' c' : Nat) (b : RuleD) (hm : Sl RSym w S' A' n' c' b.2) (hn : n ≤ 1000) (hn' : n' ≤ 1000)
    (hB : w.heap[B]? = some (.cells #[.int .i64 b.1, .slice A' n' c'] 29 (0, 0))) :
    Calls Tryd.prog 22 #[.agg #[.int .i64 a.1, .slice A n c], .pointer (some ⟨B, 0, none⟩)] w fun e w' => e = .returned (.bool (decide (a = b))) ∧ Below w.heap.size w w' := by
  have h0 : w.cell? ⟨B, 0, none⟩ = some (.int .i64 b.1) := by simp [World.cell?, hB]
  have h1 : w.cell? ⟨B, 1, none⟩ = some (.slice A' n' c') := by simp [World.cell?, hB]
  have hlt := heap_lt hB
  have HL := Lib.hid hl
  have HM := Lib.hid hm
  clear hB hl hm
  by_cases he : a.1 = b.1
  · have hb : (a.1 == b.1) = true := by simpa using he
    have HE := Lib.hid he
    clear he
    go_enter Tryd.func22, Tryd.ntmps22
    go_wp2_with fail
    refine (equalSym _ _ _ _ _ _ _ _ a.2 b.2 _ (HL.out.alloc _) (HM.out.alloc _) (by omega) (by omega)).mono ?_
    rintro e w1 ⟨rfl, d, rfl⟩
    go_wp2_with fail
    go_ret
    refine ⟨ret_bool ?_, belowN ((Below.refl w.heap.size w).alloc (Nat.le_refl _) _) d⟩
    rw [Bool.eq_iff_iff]
    simp only [decide_eq_true_eq]
    exact ⟨fun h => Prod.ext HE.out h, fun h => by rw [h]⟩
  · have hb : (a.1 == b.1) = false := by simpa using he
    have HE := Lib.hid he
    clear he
    go_enter Tryd.func22, Tryd.ntmps22
    go_wp2_with fail
    go_ret
    refine ⟨ret_bool ?_, (Below.refl w.heap.size w).alloc (Nat.le_refl _) _⟩
    symm
    rw [decide_eq_false_iff_not]
    exact fun h => HE.out (by rw [h])
theorem tellsDist (w : World) (B : Nat) (S' : Nat → Prop) (A' : Option Addr) (n' c' : Nat) (b : RuleD) (hm : Sl RSym w S' A' n' c' b.2) (hn' : n' ≤ 1000) (hB : w.heap[B]? = some (.cells #[.int .i64 b.1, .slice A' n' c'] 29 (0, 0))) :
    TellsR Tryd.prog w (fun r => r.2.length ≤ 1000) (fun a => decide (a = b)) 22 #[.pointer (some ⟨B, 0, none⟩)] := fun w' hb r A m c S hs hl =>
  distFn w' B S S' A m c r hs A' n' c' b (hm.below hb) (by have := hs.len; omega) hn' ((hb.block B (heap_lt hB)).trans hB)
theorem entersDist : ∀ (args : Array Value) (u : World), (callFunc 22 args).run Tryd.prog u = .ok (.enter 22 args) u := enters_of Tryd.func22 (by kernel_rfl) rfl
set_option maxRecDepth 100000 in
set_option maxHeartbeats 4000000 in
theorem distinctR (w : World) (S : Nat → Prop) (A : Option Addr) (n c : Nat) (l : List RuleD) (hr : Sl RRule w S A n c l) (hn : n ≤ 500) (hG : ∀ r ∈ l, r.2.length ≤ 1000) :
    Calls Tryd.prog 8 #[.slice A n c] w fun e w' => ∃ A' c', e = .returned (.slice A' (dist [] l).length c') ∧ Sl RRule w' (fun b => (S b ∧ b < w.heap.size) ∨ w.heap.size ≤ b) A' (dist [] l).length c' (dist [] l) ∧ Below w.heap.size w w' := by
  have HLEN := Lib.hid hr.len
  have HR := Lib.hid hr.fit
  have HG := Lib.hid hG
  clear hr hG
  go_enter Tryd.func8, Tryd.ntmps8
  go_wp2_with fail
  go_loopg [3, 8] n (fun gk v i wr => ∃ (k : Nat) (out : List RuleD), k ≤ n ∧ gk = n - k ∧ i = .int .i64 k ∧ dist [] l = dist out (l.drop k) ∧ out.length ≤ k ∧ (∀ r ∈ out, r.2.length ≤ 1000) ∧ OwnL RRule wr (fun b => S b ∧ b < w.heap.size) w.heap.size 29 v out ∧ Below w.heap.size w wr)
  case atStart => exact ⟨0, [], Nat.zero_le _, rfl, rfl, rfl, Nat.zero_le _, by simp, OwnL.nil _ _ _ _ _, Below.refl _ _⟩
  case round =>
    obtain ⟨k, out, hk, hgk, rfl, hd, hol, hog, ho, hb⟩ := hrel
    have HGK := Lib.hid hgk
    have HD := Lib.hid hd
    have HOG := Lib.hid hog
    have HO := Lib.hid ho
    have HB := Lib.hid hb
    have hzr := hb.size
    obtain ⟨AO, cO, rfl, hcO, _⟩ := ho.form
    clear hgk hd hog ho hb
    obtain ⟨w1, rfl⟩ : ∃ w1 : World, w1 = wr := ⟨_, rfl⟩
    by_cases hlt : k < n
    · obtain ⟨b, off, A2, m2, c2, r, rfl, hbS, _, hr1, hr2, hr, hrs⟩ := rule_at HR.out hlt
      replace hr1 := Kept.below (S := fun _ => True) HB.out _ _ trivial hr1
      replace hr2 := Kept.below (S := fun _ => True) HB.out _ _ trivial hr2
      have HX := Lib.hid hr
      have HRS := Lib.hid hrs
      have hrl : r.2.length ≤ 1000 := HG.out r (List.mem_of_getElem? hr)
      have hm2 : m2 ≤ 1000 := by have := hrs.len; omega
      have HRL := Lib.hid hrl
      clear hr hrs hrl
      go_wp2_with fail
      obtain ⟨w2, hw2⟩ : ∃ w2 : World, w2 = w1.alloc (.cells #[.int .i64 r.1, .slice A2 m2 c2] 29) := ⟨_, rfl⟩
      rw [← hw2]
      have hbx : w2.heap[w1.heap.size]? = some (.cells #[.int .i64 r.1, .slice A2 m2 c2] 29 (0, 0)) := by rw [hw2]; exact heap_alloc_new _ _
      have hz2 : w2.heap.size = w1.heap.size + 1 := by rw [hw2]; simp
      have HB2 := Lib.hid (show Below w.heap.size w w2 by rw [hw2]; exact HB.out.alloc hzr _)
      have HO2 := Lib.hid (show OwnL RRule w2 (fun b => S b ∧ b < w.heap.size) w.heap.size 29 (.slice AO out.length cO) out by rw [hw2]; exact HO.out.alloc _)
      have HBX := Lib.hid hbx
      clear hw2 hbx hr1 hr2
      refine (containsFnR w2 _ _ _ _ _ _ _ _ out entersDist (tellsDist w2 w1.heap.size _ _ _ _ r (HRS.out.below HB2.out) hm2 HBX.out) HO2.out.sl HOG.out (by omega)).mono ?_
      rintro e w3 ⟨rfl, hb3⟩
      have hz3 := hb3.size
      have HB3 := Lib.hid (HB2.out.trans (hb3.mono (by omega)))
      have HO3 := Lib.hid (HO2.out.below hb3)
      have hbx3 := (hb3.block _ (by omega)).trans HBX.out
      have hc0 : w3.cell? ⟨w1.heap.size, 0, none⟩ = some (.int .i64 r.1) := by simp [World.cell?, hbx3]
      have hc1 : w3.cell? ⟨w1.heap.size, 1, none⟩ = some (.slice A2 m2 c2) := by simp [World.cell?, hbx3]
      rw [any_eq]
      clear hb3 hbx3
      by_cases hmem : r ∈ out
      · have hdec : decide (r ∈ out) = true := by simp [hmem]
        have HMEM := Lib.hid hmem
        clear hmem
        rw [hdec]
        clear hdec
        go_wp2_with fail
        go_roundg (n - (k + 1))
        case measure => rw [HGK.out]; omega
        case rel => exact ⟨k + 1, out, by omega, rfl, by go_num, by rw [HD.out, dist_step HX.out, if_pos HMEM.out], by omega, HOG.out, HO3.out, HB3.out⟩
      · have hdec : decide (r ∈ out) = false := by simp [hmem]
        have HMEM := Lib.hid hmem
        clear hmem
        rw [hdec]
        clear hdec
        have hcell : Cells RRule w3 (Off (fun b => S b ∧ b < w.heap.size) w.heap.size (.slice AO out.length cO)) [.int .i64 r.1, .slice A2 m2 c2] [r] := by
          refine Cells.single (RRule.cells.2 ⟨A2, m2, c2, rfl, (HRS.out.below HB3.out).more fun b hb => ⟨.inl hb, fun e => ?_⟩⟩)
          have := (HO3.out.row e).1
          have := hb.2
          omega
        obtain ⟨v4, w4, hrun, ho4, hg4, hb4⟩ := run_append_lit (R := RRule) tRules rfl w3 23 w.heap.size (fun b => S b ∧ b < w.heap.size) _ out HO3.out 1 [r] [.int .i64 r.1, .slice A2 m2 c2] hcell rfl (by unfold maxLen; omega) (by omega) HB3.out.size
        have HRUN := Lib.hid hrun
        have HO4 := Lib.hid ho4
        have HB4 := Lib.hid (HB3.out.trans hb4)
        clear hcell hrun ho4 hg4 hb4
        go_wp2_with (at_builtin; refine Lib.wpList_append_run (o := ⟨some 19, _, _, _, _, _⟩) _ rfl _ _ _ _ rfl _ _ rfl rfl _ _ HRUN.out ?_)
        go_roundg (n - (k + 1))
        case measure => rw [HGK.out]; omega
        case rel =>
          exact ⟨k + 1, out ++ [r], by omega, rfl, by go_num, by rw [HD.out, dist_step HX.out, if_neg HMEM.out], by simp; omega, (fun x hx => by
            rcases List.mem_append.1 hx with h | h
            · exact HOG.out x h
            · obtain rfl := List.mem_singleton.1 h
              exact HRL.out), HO4.out, HB4.out⟩
    · obtain rfl : k = n := by omega
      have hfin : dist [] l = out := by
        rw [HD.out, List.drop_of_length_le (by rw [← HLEN.out]; omega)]
        rfl
      have HF := Lib.hid hfin
      clear hfin
      go_wp2_with fail
      go_ret
      refine ⟨AO, cO, by rw [HF.out]; rfl, ?_, HB.out⟩
      rw [HF.out]
      exact HO.out.sl
end Go.Proofs.YtidigjfnifmiiaaDoor
