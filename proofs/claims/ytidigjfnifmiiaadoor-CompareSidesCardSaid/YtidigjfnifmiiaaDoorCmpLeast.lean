/- compare.Least: the least word of just one of two grammars. -/
import Derived.Test.YtidigjfnifmiiaaDoorAccepts
import Derived.Test.YtidigjfnifmiiaaDoorQueue
import Derived.Test.YtidigjfnifmiiaaDoorLeastWPlain
import Derived.Test.YtidigjfnifmiiaaDoorCloInt
import Derived.Test.YtidigjfnifmiiaaDoorApp2
namespace Go.Proofs.YtidigjfnifmiiaaDoor
open Go.RowKit

abbrev RIW : Rep (List Int) := Rep.slice Rep.int
theorem tIntssW : SlType Tryd.prog 44 22 1 24 (.slice none 0 0) := ⟨by kernel_rfl, by kernel_rfl, by kernel_rfl, rfl, by decide⟩
/-- what compare.Least returns -/
def LeastTold (T n : Nat) (R : List RuleD) (st : Int) (R' : List RuleD) (st' : Int) (base : Nat) (e : Ending) (w' : World) : Prop :=
  (leastW T n R st R' st' = none ∧ e = .returned (.tuple #[.slice none 0 0, .int .i64 0, .int .i64 5])) ∨
    ∃ (ws : List Int) (A : Option Addr) (m c : Nat), leastW T n R st R' st' = some ws ∧ e = .returned (.tuple #[.slice A m c, .int .i64 (if accD R st ws = true then 1 else 2), .int .i64 0]) ∧ Sl Rep.int w' (fun b => base ≤ b) A m c ws
/-- the two grammars in their boxes -/
structure TwoG (B : Nat) (g : GramD) (AR : Option Addr) (nR cR : Nat) (h : GramD) (AH : Option Addr) (nH cH : Nat) (u : World) : Prop where
  g : u.heap[B]? = some (.cells #[.int .i64 g.1, .int .i64 g.2.1, .int .i64 g.2.2.1, .slice AR nR cR] 25 (0, 0))
  h : u.heap[B + 1]? = some (.cells #[.int .i64 h.1, .int .i64 h.2.1, .int .i64 h.2.2.1, .slice AH nH cH] 25 (0, 0))
theorem TwoG.cells {B : Nat} {g : GramD} {AR : Option Addr} {nR cR : Nat} {h : GramD} {AH : Option Addr} {nH cH : Nat} {u : World} (k : TwoG B g AR nR cR h AH nH cH u) :
    (u.cell? ⟨B, 0, none⟩ = some (.int .i64 g.1) ∧ u.cell? ⟨B, 1, none⟩ = some (.int .i64 g.2.1) ∧ u.cell? ⟨B, 2, none⟩ = some (.int .i64 g.2.2.1) ∧ u.cell? ⟨B, 3, none⟩ = some (.slice AR nR cR)) ∧
    (u.cell? ⟨B + 1, 0, none⟩ = some (.int .i64 h.1) ∧ u.cell? ⟨B + 1, 1, none⟩ = some (.int .i64 h.2.1) ∧ u.cell? ⟨B + 1, 2, none⟩ = some (.int .i64 h.2.2.1) ∧ u.cell? ⟨B + 1, 3, none⟩ = some (.slice AH nH cH)) := by
  have e1 := k.g
  have e2 := k.h
  exact ⟨by simp [World.cell?, e1], by simp [World.cell?, e2]⟩
set_option linter.unusedSimpArgs false in
set_option maxRecDepth 1000000 in
set_option maxHeartbeats 8000000 in
theorem compareLeast (w : World) (hTb : Tab w) (Sg Sh : Nat → Prop) (AR : Option Addr) (nR cR : Nat) (g : GramD) (hg : Sl RRule w Sg AR nR cR g.2.2.2) (hgv : GValid g) (AH : Option Addr) (nH cH : Nat) (h : GramD) (hh : Sl RRule w Sh AH nH cH h.2.2.2) (hhv : GValid h) (T : Nat) (hgT : g.1 = (T : Int)) (hhT : h.1 = (T : Int)) (hT3 : T ≤ 3) (n : Nat) (hn : n ≤ 3) :
    Calls Tryd.prog 9 #[.agg #[.int .i64 g.1, .int .i64 g.2.1, .int .i64 g.2.2.1, .slice AR nR cR], .agg #[.int .i64 h.1, .int .i64 h.2.1, .int .i64 h.2.2.1, .slice AH nH cH], .int .i64 n] w fun e w' => LeastTold T n g.2.2.2 g.2.2.1 h.2.2.2 h.2.2.1 w.heap.size e w' ∧ Below w.heap.size w w' := by
  obtain ⟨w1, hw1⟩ : ∃ w1 : World, w1 = (w.alloc (.cells #[.int .i64 g.1, .int .i64 g.2.1, .int .i64 g.2.2.1, .slice AR nR cR] 25)).alloc (.cells #[.int .i64 h.1, .int .i64 h.2.1, .int .i64 h.2.2.1, .slice AH nH cH] 25) := ⟨_, rfl⟩
  have hz1 : w1.heap.size = w.heap.size + 2 := by rw [hw1]; simp
  have hb1 : Below w.heap.size w w1 := by rw [hw1]; exact ((Below.refl _ _).alloc (Nat.le_refl _) _).alloc (by simp) _
  have htwo : TwoG w.heap.size g AR nR cR h AH nH cH w1 := by
    rw [hw1]
    exact ⟨(Below.heap_alloc _ _ _ (by simp)).trans (heap_alloc_new w _), heap_new _ _ _ (by simp)⟩
  have hall : ∀ u : World, Below w1.heap.size w1 u → TwoG w.heap.size g AR nR cR h AH nH cH u := fun u hu => ⟨(hu.block _ (by omega)).trans htwo.g, (hu.block _ (by omega)).trans htwo.h⟩
  have HALL := Lib.hid hall
  have HB1 := Lib.hid hb1
  have HTB := Lib.hid (hTb.below hb1 hTb.1)
  have HG := Lib.hid (hg.below hb1)
  have HH := Lib.hid (hh.below hb1)
  have HGV := Lib.hid hgv
  have HHV := Lib.hid hhv
  have HGT := Lib.hid hgT
  have HHT := Lib.hid hhT
  have hW0 := hTb.1
  obtain ⟨⟨k0, k1, k2, k3⟩, k4, k5, k6, k7⟩ := htwo.cells
  rw [hw1] at k0 k1 k2 k3 k4 k5 k6 k7
  clear hall hb1 hTb hg hh hgv hhv htwo hgT hhT
  have hz1a : w1.heap.size ≤ w.heap.size + 2 := by omega
  have hz1b : w.heap.size + 2 ≤ w1.heap.size := by omega
  clear hz1
  go_enter Tryd.func9, Tryd.ntmps9
  --@1
  go_wp2_with fail
  rw [← hw1]
  clear hw1 k0 k1 k2 k3 k4 k5 k6 k7
  refine (gramCheck w1 _ AR nR cR g HG.out HGV.out).mono ?_
  rintro e w2 ⟨rfl, hb2⟩
  have HB2 := Lib.hid hb2
  have hz2 := hb2.size
  obtain ⟨⟨k0, k1, k2, k3⟩, k4, k5, k6, k7⟩ := (HALL.out w2 hb2).cells
  clear hb2
  --@2
  go_wp2_with fail
  clear k0 k1 k2 k3 k4 k5 k6 k7
  refine (gramCheck w2 _ AH nH cH h (HH.out.below HB2.out) HHV.out).mono ?_
  rintro e w3 ⟨rfl, hb3⟩
  have HB3 := Lib.hid (HB2.out.trans (hb3.mono hz2))
  have hz3 := hb3.size
  obtain ⟨⟨k0, k1, k2, k3⟩, k4, k5, k6, k7⟩ := (HALL.out w3 HB3.out).cells
  rw [HGT.out] at k0
  rw [HHT.out] at k4
  have hne : ((T : Int) != (T : Int)) = false := by simp
  have hd1 : decide ((n : Int) < 0) = false := by simp
  have hd2 : decide ((12 : Int) < (n : Int)) = false := by simp; omega
  clear hb3 k1 k2 k3 k5 k6 k7
  --@3
  go_wp2_with fail
  clear k0 k4 hne hd1 hd2
  go_loopg [11, 12, 45] (n + 1) (fun gk c p i wr => ∃ (k : Nat), k ≤ n + 1 ∧ gk = n + 1 - k ∧ i = .int .i64 k ∧ c = .int .i64 ((cntP T k).1 : Int) ∧ p = .int .i64 ((cntP T k).2 : Int) ∧ wr = w3)
  case atStart => exact ⟨0, Nat.zero_le _, rfl, rfl, rfl, rfl, rfl⟩
  case round =>
    obtain ⟨k, hk, hgk, rfl, rfl, rfl, rfl⟩ := hrel
    have HGK := Lib.hid hgk
    clear hgk
    by_cases hkn : k < n + 1
    · obtain ⟨c40, p81⟩ := cntP_le (T := T) (k := k) hT3 (by omega)
      obtain ⟨c40', _⟩ := cntP_le (T := T) (k := k + 1) hT3 (by omega)
      have hc1 : (cntP T (k + 1)).1 = (cntP T k).1 + (cntP T k).2 := rfl
      have hc2 : (cntP T (k + 1)).2 = (cntP T k).2 * T := rfl
      have hpT : (cntP T k).2 * T ≤ 243 := Nat.le_trans (Nat.mul_le_mul p81 hT3) (by decide)
      have HC1 := Lib.hid hc1
      have HC2 := Lib.hid hc2
      rw [hc1] at c40'
      generalize (cntP T k).1 = C at *
      generalize (cntP T k).2 = Q at *
      have hmul : wrap64 ((Q : Int) * (T : Int)) = ((Q * T : Nat) : Int) := by rw [← Int.natCast_mul, IntWalk.wrap64_in _ ⟨by omega, by omega⟩]
      have hkI : (k : Int) < (n : Int) + 1 := by omega
      have hgt : decide ((500 : Int) < (C : Int) + (Q : Int)) = false := by simp; omega
      obtain ⟨⟨k0, _, _, _⟩, _⟩ := (HALL.out wr HB3.out).cells
      rw [HGT.out] at k0
      have HMUL := Lib.hid hmul
      clear hc1 hc2 hmul hpT
      --@4
      go_wp2_with fail
      go_roundg (n + 1 - (k + 1))
      case measure => rw [HGK.out]; omega
      case rel => exact ⟨k + 1, by omega, rfl, by go_num, by rw [HC1.out]; go_num, by rw [HC2.out]; exact congrArg (Value.int .i64) HMUL.out, rfl⟩
    · obtain rfl : k = n + 1 := by omega
      clear HGK hkn
      obtain ⟨w3, rfl⟩ : ∃ w3 : World, w3 = wr := ⟨_, rfl⟩
      have hz4 : (w3.alloc (.cells #[] 3)).heap.size = w3.heap.size + 1 := by simp
      have hb4 : Below w1.heap.size w1 (w3.alloc (.cells #[] 3)) := HB3.out.alloc (by omega) _
      have hq0 := QL.start (R := RIW) (w3.alloc (.cells #[] 3)) w1.heap.size 22 (.slice (some ⟨w3.heap.size, 0, none⟩) 0 0) [] (by rw [hz4]; omega) ⟨_, 0, 0, rfl, Sl.nil _ _ _ _⟩
      rw [hz4] at hq0
      obtain ⟨w5, hw5⟩ : ∃ w5 : World, w5 = (w3.alloc (.cells #[] 3)).alloc (.cells #[.slice (some ⟨w3.heap.size, 0, none⟩) 0 0] 22) := ⟨_, rfl⟩
      have HB5 := Lib.hid (show Below w1.heap.size w1 w5 by rw [hw5]; exact hb4.alloc (by rw [hz4]; omega) _)
      rw [← hw5] at hq0
      have HQ0 := Lib.hid hq0
      clear hq0 hb4 hz4
      --@5
      go_wp2_with fail
      rw [← hw5]
      clear hw5
      obtain ⟨pp, hpp⟩ : ∃ pp : List Int → Bool, pp = fun v => accD g.2.2.2 g.2.2.1 v != accD h.2.2.2 h.2.2.1 v := ⟨_, rfl⟩
      have HPP := Lib.hid hpp
      have HLW := Lib.hid (show leastW T n g.2.2.2 g.2.2.1 h.2.2.2 h.2.2.1 = bfs T n pp (meaB T n [[]] + 1) [[]] by unfold leastW; rw [hpp])
      clear hpp
      go_loopg [13] (meaB T n [[]]) (fun gk v wr => ∃ (q : List (List Int)), gk = meaB T n q ∧ gk ≤ 40 ∧ QL RIW wr w1.heap.size 22 v q ∧ (∀ x ∈ q, WordOk T n x) ∧ bfs T n pp (gk + 1) q = bfs T n pp (meaB T n [[]] + 1) [[]] ∧ Below w1.heap.size w1 wr)
      case atStart => exact ⟨[[]], rfl, meaB_start hT3 hn, HQ0.out, (fun x hx => by obtain rfl := List.mem_singleton.1 hx; exact ⟨Nat.zero_le _, fun y hy => by cases hy⟩), rfl, HB5.out⟩
      case round =>
        obtain ⟨q, hgk, hg40, hq, hok, hbfs, hb⟩ := hrel
        have HGK := Lib.hid hgk
        have HB6 := Lib.hid hb
        have HBFS := Lib.hid hbfs
        have hz6 := hb.size
        obtain ⟨w6, rfl⟩ : ∃ w6 : World, w6 = wr := ⟨_, rfl⟩
        clear hbfs hb HQ0 HB5
        cases q with
        | nil =>
          obtain ⟨gq, off, cap, rfl, _⟩ := hq.form rfl
          have hl0 : (([] : List (List Int)).length : Int) = 0 := rfl
          clear hgk hok hq
          --@6
          go_wp2_with fail
          go_ret3
          refine ⟨Or.inl ⟨?_, rfl⟩, HB1.out.trans (HB6.out.mono (by omega))⟩
          rw [HLW.out, ← HBFS.out]
          rfl
        | cons ws q =>
          have hlen := meaB_len T n (ws :: q)
          rw [← hgk, List.length_cons] at hlen
          obtain ⟨gq, off, off', cap, u, rfl, hcap, hcell, hru, hcut, hq'⟩ := hq.pop tIntssW rfl
          obtain ⟨A, m, c, hu, hsl⟩ := hru
          obtain rfl : u = .slice A m c := by simpa using hu
          have hws := hok ws (by simp)
          have hml : m = ws.length := hsl.len
          have hm3 : m ≤ 3 := by have := hws.1; omega
          obtain ⟨nq, hnq⟩ : ∃ nq, nq = q.length := ⟨_, rfl⟩
          rw [← hnq] at hcap hcut hq' hlen ⊢
          have HCUT := Lib.hid hcut
          have HQ := Lib.hid hq'
          have HSL := Lib.hid hsl
          have HWS := Lib.hid hws
          have HML := Lib.hid hml
          have HNQ := Lib.hid hnq
          have HOK := Lib.hid (fun x hx => hok x (List.mem_cons_of_mem _ hx) : ∀ x ∈ q, WordOk T n x)
          have hlI : (0 : Int) < ((nq + 1 : Nat) : Int) := by omega
          obtain ⟨⟨k0, k1, k2, k3⟩, k4, k5, k6, k7⟩ := (HALL.out w6 HB6.out).cells
          have hcutx := hcut
          have HBFS2 := Lib.hid (show bfs T n pp (gk + 1) (ws :: q) = if pp ws = true then some ws else bfs T n pp gk (q ++ (if ws.length < n then kidsW T ws else [])) from rfl)
          have HMEA := Lib.hid (meaB_step (T := T) (n := n) (w := ws) (q := q) hws.1)
          clear hcut hq' hsl hws hml hnq hok hq hu hgk
          --@7
          go_wp2_with fail
          clear hcell hcutx k0 k1 k2 k3 k4 k5 k6 k7
          refine (meanAccepts w6 (HTB.out.below HB6.out HTB.out.1) _ _ AR nR cR g (HG.out.below HB6.out) HGV.out A m c ws HSL.out.ints (fun x hx => by rw [HGT.out]; exact HWS.out.2 x hx) (by omega)).mono ?_
          rintro e w7 ⟨rfl, hb7⟩
          have HB7 := Lib.hid hb7
          have hz7 := hb7.size
          have HB17 := Lib.hid (HB6.out.trans (hb7.mono (by omega)))
          obtain ⟨⟨k0, k1, k2, k3⟩, k4, k5, k6, k7⟩ := (HALL.out w7 HB17.out).cells
          obtain ⟨ba, hba⟩ : ∃ ba, ba = accD g.2.2.2 g.2.2.1 ws := ⟨_, rfl⟩
          rw [← hba]
          have HBA := Lib.hid hba
          clear hb7 hba
          --@8
          go_wp2_with fail
          clear k0 k1 k2 k3 k4 k5 k6 k7
          refine (meanAccepts w7 (HTB.out.below HB17.out HTB.out.1) _ _ AH nH cH h (HH.out.below HB17.out) HHV.out A m c ws (HSL.out.below HB7.out).ints (fun x hx => by rw [HHT.out]; exact HWS.out.2 x hx) (by omega)).mono ?_
          rintro e w8 ⟨rfl, hb8⟩
          have hz8 := hb8.size
          have HB8 := Lib.hid (HB7.out.trans (hb8.mono hz7))
          have HB18 := Lib.hid (HB17.out.trans (hb8.mono (by omega)))
          obtain ⟨bb, hbb⟩ : ∃ bb, bb = accD h.2.2.2 h.2.2.1 ws := ⟨_, rfl⟩
          rw [← hbb]
          have HBB := Lib.hid hbb
          have HPW := Lib.hid (show pp ws = (ba != bb) by rw [HPP.out, HBA.out, hbb])
          clear hb8 hbb
          by_cases hab : ba = bb
          · have hPW : pp ws = false := by rw [HPW.out, hab]; simp
            have HPF := Lib.hid hPW
            clear hPW
            subst hab
            cases ba with
            | true =>
              have HQ8 := Lib.hid (HQ.out.below HB8.out)
              have HSL8 := Lib.hid (HSL.out.below HB8.out)
              --@11a
              go_wp2_with fail
              go_loopg [13, 19] (T + 1) (fun gt v i wr => ∃ (t : Nat), t ≤ T ∧ (t = 0 ∨ m < n) ∧ gt = T + 1 - t ∧ i = .int .i64 t ∧ QL RIW wr w1.heap.size 22 v (q ++ (List.range t).map fun t : Nat => ws ++ [(t : Int)]) ∧ w8.heap.size ≤ wr.heap.size ∧ (∀ b, qBlk v = some b → b = gq ∨ w8.heap.size ≤ b) ∧ Kept (fun b => w1.heap.size ≤ b ∧ qBlk (.slice (some ⟨gq, off, none⟩) (nq + 1) cap) ≠ some b) w8 wr ∧ Below w1.heap.size w1 wr)
              case atStart => exact ⟨0, Nat.zero_le _, Or.inl rfl, rfl, rfl, by rw [List.range_zero, List.map_nil, List.append_nil]; exact HQ8.out, Nat.le_refl _, (fun b e => by injection e with e; exact Or.inl e.symm), Kept.refl _ _, HB18.out⟩
              case round =>
                obtain ⟨t, ht, htm, hgt, rfl, hqt, hzt, hqg, hkt, hbt⟩ := hrel
                have HQG := Lib.hid hqg
                clear hqg
                have HGT2 := Lib.hid hgt
                have HKT := Lib.hid hkt
                have HBT := Lib.hid hbt
                obtain ⟨gt', offt, capt, rfl, hcapt⟩ := hqt.form rfl
                have HQT := Lib.hid hqt
                obtain ⟨w9, rfl⟩ : ∃ w9 : World, w9 = wr := ⟨_, rfl⟩
                obtain ⟨⟨k0, _, _, _⟩, _⟩ := (HALL.out w9 hbt).cells
                rw [HGT.out] at k0
                have hqlen : (q ++ (List.range t).map fun t : Nat => ws ++ [(t : Int)]).length = nq + t := by rw [List.length_append, List.length_map, List.length_range, ← HNQ.out]
                rw [hqlen] at hcapt HQT ⊢
                have HQLEN := Lib.hid hqlen
                clear hgt hkt hbt hqt hqlen
                by_cases hmore : t < T ∧ m < n
                · obtain ⟨htT, hmn⟩ := hmore
                  have htI : (t : Int) < (T : Int) := by omega
                  have hmI : (m : Int) < (n : Int) := by omega
                  have ht0 : (0 : Int) ≤ (t : Int) := by omega
                  --@12a
                  go_wp2_with fail
                  clear k0
                  refine (cloneInt _ _ _ _ _ _ ((HSL8.out.keep HKT.out).ints) (by omega)).mono ?_
                  rintro e w10 ⟨v10, rfl, ho10, hb10⟩
                  have hz10 := hb10.size
                  have hmw := HML.out
                  obtain ⟨v12, w12, hrun, ho12, hg12, hb12⟩ := run_append_lit (R := Rep.int) tInts rfl w10 22 w9.heap.size (fun _ => False) _ ws (Own.ints ho10 (fun _ => False)) 1 [(t : Int)] [.int .i64 (t : Int)] (Cells.single rfl) rfl (by unfold maxLen; omega) (by omega) (by omega)
                  obtain ⟨A12, c12, hv12, hc12, _⟩ := ho12.form
                  have hl12 : (ws ++ [(t : Int)]).length = m + 1 := by rw [List.length_append, hmw]; rfl
                  rw [hl12] at hv12 hc12
                  subst hv12
                  have hz12 : w10.heap.size ≤ w12.heap.size := by have := hg12.size; simp at this; omega
                  have hb912 : Below w9.heap.size w9 w12 := hb10.trans hb12
                  obtain ⟨gg, hgg, hgg1, hgg2⟩ := HQT.out.blk
                  obtain ⟨v13, w13, hrun2, hq13, hg13, hb13, hv13⟩ := (HQT.out.below hb912).push tIntssW rfl 44 (.slice A12 (m + 1) c12) (ws ++ [(t : Int)]) ⟨A12, m + 1, c12, rfl, (by have h := ho12.sl; exact h.more (fun b hb => ⟨by rcases hb with h | h; exact h.elim; omega, fun e => by rw [hgg] at e; injection e with e; rcases hb with h | h; exact h.elim; omega⟩))⟩ (by rw [HQLEN.out]; unfold maxLen; omega) (by rw [HQLEN.out]; omega)
                  have HRUN := Lib.hid hrun
                  have HRUN2 := Lib.hid hrun2
                  have HQ13 := Lib.hid hq13
                  have hqb : qBlk (.slice (some ⟨gt', offt, none⟩) (nq + t) capt) = some gt' := rfl
                  have HKW := Lib.hid (show Kept (fun b => w1.heap.size ≤ b ∧ qBlk (.slice (some ⟨gq, off, none⟩) (nq + 1) cap) ≠ some b) w8 w13 from fun p u hp hu => by
                    have hlt8 := cell_lt hu
                    have e1 := HKT.out p u hp hu
                    have e2 := Kept.below (S := fun _ => True) hb912 p u trivial e1
                    have hlt12 := cell_lt e2
                    rw [World.cell?_of_block ((hg13.block p.block (by simp; omega) (fun e => by
                      rcases HQG.out _ e.symm with h | h
                      · exact hp.2 (by rw [h]; rfl)
                      · omega)).trans (Below.heap_alloc _ _ _ hlt12))]
                    exact e2)
                  have HQG13 := Lib.hid (show ∀ b, qBlk v13 = some b → b = gq ∨ w8.heap.size ≤ b from fun b e => by
                    rcases hv13 with h | h
                    · exact HQG.out b (show some gt' = some b by rw [h] at e; exact e)
                    · exact Or.inr (by have := h b e; omega))
                  have HB13 := Lib.hid ((HBT.out.trans (hb912.mono (by omega))).trans hb13)
                  have hz13 : w12.heap.size ≤ w13.heap.size := by have := hg13.size; simp at this; omega
                  clear ho10 hb10 hrun ho12 hg12 hb12 hb912 hrun2 hq13 hg13 hb13 hv13 hmw hl12
                  --@13a
                  go_wp2_with (first
                    | (at_builtin; refine Lib.wpList_append_run (o := ⟨some 110, _, _, _, _, _⟩) _ rfl _ _ _ _ rfl _ _ rfl rfl _ _ HRUN.out ?_)
                    | (at_builtin; refine Lib.wpList_append_run (o := ⟨some 112, _, _, _, _, _⟩) _ rfl _ _ _ _ rfl _ _ rfl rfl _ _ HRUN2.out ?_))
                  go_roundg (T + 1 - (t + 1))
                  case measure => rw [HGT2.out]; omega
                  case rel => exact ⟨t + 1, by omega, Or.inr hmn, rfl, by go_num, by rw [kidsW_take, ← List.append_assoc]; exact HQ13.out, by omega, HQG13.out, HKW.out, HB13.out⟩
                · have hfin : q ++ (if ws.length < n then kidsW T ws else []) = q ++ (List.range t).map fun t : Nat => ws ++ [(t : Int)] := by
                    have hmw := HML.out
                    by_cases hmn : m < n
                    · obtain rfl : t = T := by omega
                      rw [if_pos (by omega)]
                      rfl
                    · obtain rfl : t = 0 := by omega
                      rw [if_neg (by omega)]
                      rfl
                  have HFIN := Lib.hid hfin
                  have hmea := HMEA.out
                  rw [hfin, ← HGK.out] at hmea
                  obtain ⟨gk', hgk'⟩ : ∃ gk', gk' = meaB T n (q ++ (List.range t).map fun t : Nat => ws ++ [(t : Int)]) := ⟨_, rfl⟩
                  rw [← hgk'] at hmea
                  have HGK2 := Lib.hid hgk'
                  clear hfin hgk'
                  have hdone : ∀ (rest : Prop), (rest → rest) := fun _ h => h
                  by_cases htT : t < T
                  · have hmn : ¬ m < n := fun h => hmore ⟨htT, h⟩
                    have htI : (t : Int) < (T : Int) := by omega
                    have hmd : decide ((m : Int) < (n : Int)) = false := by simp; omega
                    clear hmore hdone
                    --@14a
                    go_wp2_with fail
                    go_roundg gk'
                    case measure => omega
                    case rel =>
                      refine ⟨q ++ (List.range t).map fun t : Nat => ws ++ [(t : Int)], HGK2.out, by omega, HQT.out, fun x hx => ?_, ?_, HBT.out⟩
                      · rw [← HFIN.out, List.mem_append] at hx
                        rcases hx with hx | hx
                        · exact HOK.out x hx
                        · split at hx
                          · rename_i hl
                            obtain ⟨s, hs, rfl⟩ := List.mem_map.1 hx
                            exact HWS.out.kid hl (List.mem_range.1 hs)
                          · cases hx
                      · rw [← HBFS.out, HBFS2.out, HPF.out, if_neg (by simp), HFIN.out, hmea]
                  · have htd : decide ((t : Int) < (T : Int)) = false := by simp; omega
                    clear hmore hdone
                    --@15a
                    go_wp2_with fail
                    go_roundg gk'
                    case measure => omega
                    case rel =>
                      refine ⟨q ++ (List.range t).map fun t : Nat => ws ++ [(t : Int)], HGK2.out, by omega, HQT.out, fun x hx => ?_, ?_, HBT.out⟩
                      · rw [← HFIN.out, List.mem_append] at hx
                        rcases hx with hx | hx
                        · exact HOK.out x hx
                        · split at hx
                          · rename_i hl
                            obtain ⟨s, hs, rfl⟩ := List.mem_map.1 hx
                            exact HWS.out.kid hl (List.mem_range.1 hs)
                          · cases hx
                      · rw [← HBFS.out, HBFS2.out, HPF.out, if_neg (by simp), HFIN.out, hmea]
            | false =>
              have HQ8 := Lib.hid (HQ.out.below HB8.out)
              have HSL8 := Lib.hid (HSL.out.below HB8.out)
              --@11b
              go_wp2_with fail
              go_loopg [13, 19] (T + 1) (fun gt v i wr => ∃ (t : Nat), t ≤ T ∧ (t = 0 ∨ m < n) ∧ gt = T + 1 - t ∧ i = .int .i64 t ∧ QL RIW wr w1.heap.size 22 v (q ++ (List.range t).map fun t : Nat => ws ++ [(t : Int)]) ∧ w8.heap.size ≤ wr.heap.size ∧ (∀ b, qBlk v = some b → b = gq ∨ w8.heap.size ≤ b) ∧ Kept (fun b => w1.heap.size ≤ b ∧ qBlk (.slice (some ⟨gq, off, none⟩) (nq + 1) cap) ≠ some b) w8 wr ∧ Below w1.heap.size w1 wr)
              case atStart => exact ⟨0, Nat.zero_le _, Or.inl rfl, rfl, rfl, by rw [List.range_zero, List.map_nil, List.append_nil]; exact HQ8.out, Nat.le_refl _, (fun b e => by injection e with e; exact Or.inl e.symm), Kept.refl _ _, HB18.out⟩
              case round =>
                obtain ⟨t, ht, htm, hgt, rfl, hqt, hzt, hqg, hkt, hbt⟩ := hrel
                have HQG := Lib.hid hqg
                clear hqg
                have HGT2 := Lib.hid hgt
                have HKT := Lib.hid hkt
                have HBT := Lib.hid hbt
                obtain ⟨gt', offt, capt, rfl, hcapt⟩ := hqt.form rfl
                have HQT := Lib.hid hqt
                obtain ⟨w9, rfl⟩ : ∃ w9 : World, w9 = wr := ⟨_, rfl⟩
                obtain ⟨⟨k0, _, _, _⟩, _⟩ := (HALL.out w9 hbt).cells
                rw [HGT.out] at k0
                have hqlen : (q ++ (List.range t).map fun t : Nat => ws ++ [(t : Int)]).length = nq + t := by rw [List.length_append, List.length_map, List.length_range, ← HNQ.out]
                rw [hqlen] at hcapt HQT ⊢
                have HQLEN := Lib.hid hqlen
                clear hgt hkt hbt hqt hqlen
                by_cases hmore : t < T ∧ m < n
                · obtain ⟨htT, hmn⟩ := hmore
                  have htI : (t : Int) < (T : Int) := by omega
                  have hmI : (m : Int) < (n : Int) := by omega
                  have ht0 : (0 : Int) ≤ (t : Int) := by omega
                  --@12b
                  go_wp2_with fail
                  clear k0
                  refine (cloneInt _ _ _ _ _ _ ((HSL8.out.keep HKT.out).ints) (by omega)).mono ?_
                  rintro e w10 ⟨v10, rfl, ho10, hb10⟩
                  have hz10 := hb10.size
                  have hmw := HML.out
                  obtain ⟨v12, w12, hrun, ho12, hg12, hb12⟩ := run_append_lit (R := Rep.int) tInts rfl w10 22 w9.heap.size (fun _ => False) _ ws (Own.ints ho10 (fun _ => False)) 1 [(t : Int)] [.int .i64 (t : Int)] (Cells.single rfl) rfl (by unfold maxLen; omega) (by omega) (by omega)
                  obtain ⟨A12, c12, hv12, hc12, _⟩ := ho12.form
                  have hl12 : (ws ++ [(t : Int)]).length = m + 1 := by rw [List.length_append, hmw]; rfl
                  rw [hl12] at hv12 hc12
                  subst hv12
                  have hz12 : w10.heap.size ≤ w12.heap.size := by have := hg12.size; simp at this; omega
                  have hb912 : Below w9.heap.size w9 w12 := hb10.trans hb12
                  obtain ⟨gg, hgg, hgg1, hgg2⟩ := HQT.out.blk
                  obtain ⟨v13, w13, hrun2, hq13, hg13, hb13, hv13⟩ := (HQT.out.below hb912).push tIntssW rfl 44 (.slice A12 (m + 1) c12) (ws ++ [(t : Int)]) ⟨A12, m + 1, c12, rfl, (by have h := ho12.sl; exact h.more (fun b hb => ⟨by rcases hb with h | h; exact h.elim; omega, fun e => by rw [hgg] at e; injection e with e; rcases hb with h | h; exact h.elim; omega⟩))⟩ (by rw [HQLEN.out]; unfold maxLen; omega) (by rw [HQLEN.out]; omega)
                  have HRUN := Lib.hid hrun
                  have HRUN2 := Lib.hid hrun2
                  have HQ13 := Lib.hid hq13
                  have hqb : qBlk (.slice (some ⟨gt', offt, none⟩) (nq + t) capt) = some gt' := rfl
                  have HKW := Lib.hid (show Kept (fun b => w1.heap.size ≤ b ∧ qBlk (.slice (some ⟨gq, off, none⟩) (nq + 1) cap) ≠ some b) w8 w13 from fun p u hp hu => by
                    have hlt8 := cell_lt hu
                    have e1 := HKT.out p u hp hu
                    have e2 := Kept.below (S := fun _ => True) hb912 p u trivial e1
                    have hlt12 := cell_lt e2
                    rw [World.cell?_of_block ((hg13.block p.block (by simp; omega) (fun e => by
                      rcases HQG.out _ e.symm with h | h
                      · exact hp.2 (by rw [h]; rfl)
                      · omega)).trans (Below.heap_alloc _ _ _ hlt12))]
                    exact e2)
                  have HQG13 := Lib.hid (show ∀ b, qBlk v13 = some b → b = gq ∨ w8.heap.size ≤ b from fun b e => by
                    rcases hv13 with h | h
                    · exact HQG.out b (show some gt' = some b by rw [h] at e; exact e)
                    · exact Or.inr (by have := h b e; omega))
                  have HB13 := Lib.hid ((HBT.out.trans (hb912.mono (by omega))).trans hb13)
                  have hz13 : w12.heap.size ≤ w13.heap.size := by have := hg13.size; simp at this; omega
                  clear ho10 hb10 hrun ho12 hg12 hb12 hb912 hrun2 hq13 hg13 hb13 hv13 hmw hl12
                  --@13b
                  go_wp2_with (first
                    | (at_builtin; refine Lib.wpList_append_run (o := ⟨some 110, _, _, _, _, _⟩) _ rfl _ _ _ _ rfl _ _ rfl rfl _ _ HRUN.out ?_)
                    | (at_builtin; refine Lib.wpList_append_run (o := ⟨some 112, _, _, _, _, _⟩) _ rfl _ _ _ _ rfl _ _ rfl rfl _ _ HRUN2.out ?_))
                  go_roundg (T + 1 - (t + 1))
                  case measure => rw [HGT2.out]; omega
                  case rel => exact ⟨t + 1, by omega, Or.inr hmn, rfl, by go_num, by rw [kidsW_take, ← List.append_assoc]; exact HQ13.out, by omega, HQG13.out, HKW.out, HB13.out⟩
                · have hfin : q ++ (if ws.length < n then kidsW T ws else []) = q ++ (List.range t).map fun t : Nat => ws ++ [(t : Int)] := by
                    have hmw := HML.out
                    by_cases hmn : m < n
                    · obtain rfl : t = T := by omega
                      rw [if_pos (by omega)]
                      rfl
                    · obtain rfl : t = 0 := by omega
                      rw [if_neg (by omega)]
                      rfl
                  have HFIN := Lib.hid hfin
                  have hmea := HMEA.out
                  rw [hfin, ← HGK.out] at hmea
                  obtain ⟨gk', hgk'⟩ : ∃ gk', gk' = meaB T n (q ++ (List.range t).map fun t : Nat => ws ++ [(t : Int)]) := ⟨_, rfl⟩
                  rw [← hgk'] at hmea
                  have HGK2 := Lib.hid hgk'
                  clear hfin hgk'
                  have hdone : ∀ (rest : Prop), (rest → rest) := fun _ h => h
                  by_cases htT : t < T
                  · have hmn : ¬ m < n := fun h => hmore ⟨htT, h⟩
                    have htI : (t : Int) < (T : Int) := by omega
                    have hmd : decide ((m : Int) < (n : Int)) = false := by simp; omega
                    clear hmore hdone
                    --@14b
                    go_wp2_with fail
                    go_roundg gk'
                    case measure => omega
                    case rel =>
                      refine ⟨q ++ (List.range t).map fun t : Nat => ws ++ [(t : Int)], HGK2.out, by omega, HQT.out, fun x hx => ?_, ?_, HBT.out⟩
                      · rw [← HFIN.out, List.mem_append] at hx
                        rcases hx with hx | hx
                        · exact HOK.out x hx
                        · split at hx
                          · rename_i hl
                            obtain ⟨s, hs, rfl⟩ := List.mem_map.1 hx
                            exact HWS.out.kid hl (List.mem_range.1 hs)
                          · cases hx
                      · rw [← HBFS.out, HBFS2.out, HPF.out, if_neg (by simp), HFIN.out, hmea]
                  · have htd : decide ((t : Int) < (T : Int)) = false := by simp; omega
                    clear hmore hdone
                    --@15b
                    go_wp2_with fail
                    go_roundg gk'
                    case measure => omega
                    case rel =>
                      refine ⟨q ++ (List.range t).map fun t : Nat => ws ++ [(t : Int)], HGK2.out, by omega, HQT.out, fun x hx => ?_, ?_, HBT.out⟩
                      · rw [← HFIN.out, List.mem_append] at hx
                        rcases hx with hx | hx
                        · exact HOK.out x hx
                        · split at hx
                          · rename_i hl
                            obtain ⟨s, hs, rfl⟩ := List.mem_map.1 hx
                            exact HWS.out.kid hl (List.mem_range.1 hs)
                          · cases hx
                      · rw [← HBFS.out, HBFS2.out, HPF.out, if_neg (by simp), HFIN.out, hmea]
          · have hPW : pp ws = true := by rw [HPW.out]; simpa using hab
            have hres : leastW T n g.2.2.2 g.2.2.1 h.2.2.2 h.2.2.1 = some ws := by rw [HLW.out, ← HBFS.out, HBFS2.out, if_pos hPW]
            have HRES := Lib.hid hres
            clear hPW hres
            cases ba with
            | true =>
              have hbf : bb = false := by
                clear HB1 HALL
                cases bb with
                | false => rfl
                | true => exact absurd rfl hab
              subst hbf
              --@9
              go_wp2_with fail
              go_ret3
              exact ⟨Or.inr ⟨ws, A, m, c, HRES.out, by rw [← HBA.out]; rfl, (HSL.out.below HB8.out).more (fun b hb => by have := hb.1; omega)⟩, HB1.out.trans (HB18.out.mono (by omega))⟩
            | false =>
              have hbf : bb = true := by
                clear HB1 HALL
                cases bb with
                | true => rfl
                | false => exact absurd rfl hab
              subst hbf
              --@10
              go_wp2_with fail
              go_ret3
              exact ⟨Or.inr ⟨ws, A, m, c, HRES.out, by rw [← HBA.out]; rfl, (HSL.out.below HB8.out).more (fun b hb => by have := hb.1; omega)⟩, HB1.out.trans (HB18.out.mono (by omega))⟩
end Go.Proofs.YtidigjfnifmiiaaDoor
