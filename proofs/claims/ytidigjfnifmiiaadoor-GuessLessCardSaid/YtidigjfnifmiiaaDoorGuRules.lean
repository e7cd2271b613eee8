/- guess.Rules: all rules with few symbols. -/
import Derived.Test.YtidigjfnifmiiaaDoorGuAdd
import Derived.Test.YtidigjfnifmiiaaDoorKPlain
import Derived.Test.YtidigjfnifmiiaaDoorSlIdxGr
namespace Go.Proofs.YtidigjfnifmiiaaDoor
open Go.RowKit

def symsP (t n : Nat) : List SymD := (List.range t).map (fun i : Nat => (true, (i : Int))) ++ (List.range n).map fun i : Nat => (false, (i : Int))
def addsP (syms : List SymD) (n : Nat) : List RuleD := (((n : Int), []) :: syms.map fun x => ((n : Int), [x])) ++ syms.flatMap fun x => syms.map fun y => ((n : Int), [x, y])
def rulesP (t n : Nat) : List RuleD := (List.range n).flatMap (addsP (symsP t n))
theorem range_map_succ {α : Type} (f : Nat → α) (i : Nat) : (List.range (i + 1)).map f = (List.range i).map f ++ [f i] := by rw [List.range_succ, List.map_append]; rfl
theorem gramT_ (a : Int) (w : World) : Calls Tryd.prog 47 #[.int .i64 a] w fun e w' => e = .returned (.agg #[.bool true, .int .i64 a]) ∧ Below w.heap.size w w' := by
  go_enter Tryd.func47, Tryd.ntmps47
  go_wp2_with fail
  refine bodyPost_ret (v := .agg #[.bool true, .int .i64 a]) (by simp [results, Tryd.results47, go_sem]) rfl ?_
  exact ⟨rfl, (Below.refl _ _).alloc (Nat.le_refl _) _⟩
theorem gramN_ (a : Int) (w : World) : Calls Tryd.prog 48 #[.int .i64 a] w fun e w' => e = .returned (.agg #[.bool false, .int .i64 a]) ∧ Below w.heap.size w w' := by
  go_enter Tryd.func48, Tryd.ntmps48
  go_wp2_with fail
  refine bodyPost_ret (v := .agg #[.bool false, .int .i64 a]) (by simp [results, Tryd.results48, go_sem]) rfl ?_
  exact ⟨rfl, (Below.refl _ _).alloc (Nat.le_refl _) _⟩
theorem sl_lit {w : World} {S : Nat → Prop} {l : List SymD} {cs : List Value} (t : TypeId) (hc : Cells RSym w S cs l) {H m : Nat} (hH : w.heap.size = H) (hS : S H) (hm : m = l.length) : Sl RSym (w.alloc (.cells cs.toArray t)) S (some ⟨H, 0, none⟩) m m l :=
  ⟨cs, hm, Nat.le_refl _, Rd.newS w S t cs H m 2 hH hS (by rw [hc.len, hm]; rfl), symCells_any hc⟩
theorem OutS.ne {Bo : Nat} {vO : Value} {out : List RuleD} {w : World} (h : OutS Bo vO out w) {b : Nat} {cs : Array Value} {E : TypeId} {f : Nat × Nat} (hb : w.heap[b]? = some (.cells cs E f)) (hE : E ≠ 29) : rowOf vO ≠ some b := by
  obtain ⟨xs, h1, _⟩ := h.own
  intro e
  rcases h1 with h1 | ⟨A, rfl, _⟩
  · rcases h1.2 with ⟨rfl, _⟩ | ⟨g, cap, cur, rfl, _, hh, _⟩
    · cases e
    · cases cap with
      | zero => cases e
      | succ q =>
        injection e with e
        have e' : g = b := e
        subst e'
        rw [hb] at hh
        injection hh with hh
        injection hh with _ hh _
        exact hE hh
  · cases A <;> cases e
theorem entersAdd : ∀ (args : Array Value) (u : World), (callFunc 49 args).run Tryd.prog u = .ok (.enter 49 args) u := enters_of Tryd.func49 (by kernel_rfl) rfl
/-- the closure appends a rule -/
theorem addTo {wr u : World} {Bo Bn : Nat} {a : Nat} {vO : Value} {out : List RuleD} (ho : OutS Bo vO out wr) (hbn : wr.heap[Bn]? = some (.cells #[.int .i64 a] 3 (0, 0))) (hu : Below wr.heap.size wr u)
    {A : Option Addr} {m c : Nat} {l : List SymD} (hs : Sl RSym u (fun b => wr.heap.size ≤ b) A m c l) (hl : out.length ≤ 1000) :
    Calls Tryd.prog 49 #[.slice A m c, .pointer (some ⟨Bo, 0, none⟩), .pointer (some ⟨Bn, 0, none⟩)] u fun e w' => e = .returned (.tuple #[]) ∧
      (∃ vO', OutS Bo vO' (out ++ [((a : Int), l)]) w') ∧ (∀ b cs E, wr.heap[b]? = some (.cells cs E (0, 0)) → E ≠ 29 → b ≠ Bo → w'.heap[b]? = some (.cells cs E (0, 0))) ∧ Below Bo wr w' := by
  have h1 := heap_lt ho.bx
  have h2 := heap_lt hbn
  have hbn' := (hu.block _ h2).trans hbn
  refine (rulesAdd u Bo Bn a vO out (ho.below hu) (by simp [World.cell?, hbn']) A m c l (hs.more fun b hb => ⟨by omega, fun e => by have := (ho.own.row e).2; omega⟩) hl).mono ?_
  rintro e w' ⟨he, vO', ho', hk, hb⟩
  exact ⟨he, ⟨vO', ho'⟩, fun b cs E hx hE hb => (hk b hb (by have := heap_lt hx; have := hu.size; omega) (ho.ne hx hE)).trans ((hu.block _ (heap_lt hx)).trans hx), (hu.mono (by omega)).trans hb⟩
set_option linter.unusedSimpArgs false in
set_option maxRecDepth 1000000 in
set_option maxHeartbeats 8000000 in
theorem guessRules (w : World) (t n : Nat) (ht1 : 1 ≤ t) (ht2 : t ≤ 2) (hn1 : 1 ≤ n) (hn2 : n ≤ 2) :
    Calls Tryd.prog 29 #[.int .i64 t, .int .i64 n] w fun e w' => ∃ A c, e = .returned (.tuple #[.slice A (rulesP t n).length c, .int .i64 0]) ∧ Sl RRule w' (fun b => w.heap.size ≤ b) A (rulesP t n).length c (rulesP t n) ∧ Below w.heap.size w w' := by
  have a1 : decide ((t : Int) < 1) = false := by simp; omega
  have a2 : decide ((2 : Int) < (t : Int)) = false := by simp; omega
  have a3 : decide ((n : Int) < 1) = false := by simp; omega
  have a4 : decide ((2 : Int) < (n : Int)) = false := by simp; omega
  go_enter Tryd.func29, Tryd.ntmps29
  --@1
  go_wp2_with fail
  clear a1 a2 a3 a4
  go_loopg [6, 33] t (fun gk v i wr => ∃ k : Nat, k ≤ t ∧ gk = t - k ∧ i = .int .i64 k ∧ OwnL RSym wr (fun _ => False) w.heap.size 31 v ((List.range k).map fun i : Nat => (true, (i : Int))) ∧ Below w.heap.size w wr)
  case atStart => exact ⟨0, Nat.zero_le _, rfl, rfl, OwnL.nil _ _ _ _ _, Below.refl _ _⟩
  case round =>
    obtain ⟨k, hk, hgk, rfl, ho, hb⟩ := hrel
    have HGK := Lib.hid hgk
    obtain ⟨A1, c1, rfl, hc1, _⟩ := ho.form
    rw [List.length_map, List.length_range] at hc1 ho ⊢
    have HO := Lib.hid ho
    have HB := Lib.hid hb
    clear hgk ho hb
    by_cases hlt : k < t
    · --@2
      go_wp2_with fail
      refine (gramT_ _ _).mono ?_
      rintro e w1 ⟨rfl, hb1⟩
      have hz1 := HB.out.size
      have HB1 := Lib.hid (HB.out.trans (hb1.mono hz1))
      obtain ⟨v2, w2, hrun, ho2, hg, hb2⟩ := run_append_lit (R := RSym) tSyms rfl w1 27 w.heap.size (fun _ => False) _ _ (HO.out.below hb1) 1 [(true, (k : Int))] [.bool true, .int .i64 k] (Cells.single (RSym.cells.2 rfl)) rfl (by simp; unfold maxLen; omega) (by simp; omega) HB1.out.size
      have HRUN := Lib.hid hrun
      have HO2 := Lib.hid ho2
      have HB2 := Lib.hid (HB1.out.trans hb2)
      clear hrun ho2 hg hb1 hb2
      go_wp2_with (at_builtin; refine Lib.wpList_append_run (o := ⟨some 40, _, _, _, _, _⟩) _ rfl _ _ _ _ rfl _ _ rfl rfl _ _ HRUN.out ?_)
      go_roundg (t - (k + 1))
      case measure => rw [HGK.out]; omega
      case rel => exact ⟨k + 1, by omega, rfl, by go_num, by rw [range_map_succ]; exact HO2.out, HB2.out⟩
    · obtain rfl : k = t := by omega
      --@3
      go_wp2_with fail
      go_loopg [6, 43] n (fun gk v i wr => ∃ q : Nat, q ≤ n ∧ gk = n - q ∧ i = .int .i64 q ∧ OwnL RSym wr (fun _ => False) w.heap.size 31 v ((List.range k).map (fun i : Nat => (true, (i : Int))) ++ (List.range q).map fun i : Nat => (false, (i : Int))) ∧ Below w.heap.size w wr)
      case atStart => exact ⟨0, Nat.zero_le _, rfl, rfl, by rw [List.range_zero, List.map_nil, List.append_nil]; exact HO.out, HB.out⟩
      case round =>
        obtain ⟨q, hq, hgq, rfl, ho, hb⟩ := hrel
        have HGQ := Lib.hid hgq
        have hlen : ((List.range k).map (fun i : Nat => (true, (i : Int))) ++ (List.range q).map fun i : Nat => (false, (i : Int))).length = k + q := by simp
        obtain ⟨A2, c2, rfl, hc2, _⟩ := ho.form
        rw [hlen] at hc2 ho ⊢
        have HOQ := Lib.hid ho
        have HBQ := Lib.hid hb
        have HLEN := Lib.hid hlen
        clear hgq ho hb HO HB HGK hlen
        by_cases hlt2 : q < n
        · --@4
          go_wp2_with fail
          refine (gramN_ _ _).mono ?_
          rintro e w1 ⟨rfl, hb1⟩
          have hz1 := HBQ.out.size
          have HB1 := Lib.hid (HBQ.out.trans (hb1.mono hz1))
          obtain ⟨v2, w2, hrun, ho2, hg, hb2⟩ := run_append_lit (R := RSym) tSyms rfl w1 27 w.heap.size (fun _ => False) _ _ (HOQ.out.below hb1) 1 [(false, (q : Int))] [.bool false, .int .i64 q] (Cells.single (RSym.cells.2 rfl)) rfl (by rw [HLEN.out]; unfold maxLen; omega) (by rw [HLEN.out]; omega) HB1.out.size
          have HRUN := Lib.hid hrun
          have HO2 := Lib.hid ho2
          have HB2 := Lib.hid (HB1.out.trans hb2)
          clear hrun ho2 hg hb1 hb2
          go_wp2_with (at_builtin; refine Lib.wpList_append_run (o := ⟨some 50, _, _, _, _, _⟩) _ rfl _ _ _ _ rfl _ _ rfl rfl _ _ HRUN.out ?_)
          go_roundg (n - (q + 1))
          case measure => rw [HGQ.out]; omega
          case rel => exact ⟨q + 1, by omega, rfl, by go_num, by rw [range_map_succ, ← List.append_assoc]; exact HO2.out, HB2.out⟩
        · obtain rfl : q = n := by omega
          obtain ⟨w3, rfl⟩ : ∃ w3 : World, w3 = wr := ⟨_, rfl⟩
          have hz3 := HBQ.out.size
          obtain ⟨sy, hsy⟩ : ∃ sy, sy = symsP k q := ⟨_, rfl⟩
          have hSY := HOQ.out.sl
          rw [show (List.range k).map (fun i : Nat => (true, (i : Int))) ++ (List.range q).map (fun i : Nat => (false, (i : Int))) = sy from hsy.symm] at hSY
          have HSY := Lib.hid hSY.fit
          have HSYP := Lib.hid hsy
          obtain ⟨nS, hnS⟩ : ∃ nS, nS = k + q := ⟨_, rfl⟩
          have hnS4 : nS ≤ 4 := by omega
          rw [← hnS] at HSY ⊢
          clear hSY hsy HOQ HLEN HGQ hnS
          --@5
          go_wp2_with fail
          obtain ⟨w4, hw4⟩ : ∃ w4 : World, w4 = w3.alloc (.cells #[.slice none 0 0] 23) := ⟨_, rfl⟩
          rw [← hw4]
          have HO4 := Lib.hid (show OutS w3.heap.size (.slice none 0 0) [] w4 from ⟨by rw [hw4]; exact heap_alloc_new _ _, OwnL.nil _ _ _ _ _⟩)
          have HB4 := Lib.hid (show Below w3.heap.size w3 w4 by rw [hw4]; exact (Below.refl _ _).alloc (Nat.le_refl _) _)
          have he := entersAdd
          clear hw4
          go_loopg [53] q (fun gk i wr => ∃ a : Nat, a ≤ q ∧ gk = q - a ∧ i = .int .i64 a ∧ (∃ vO, OutS w3.heap.size vO ((List.range a).flatMap (addsP sy)) wr) ∧ ((List.range a).flatMap (addsP sy)).length ≤ 21 * a ∧ Below w3.heap.size w3 wr)
          case atStart => exact ⟨0, Nat.zero_le _, rfl, rfl, ⟨_, HO4.out⟩, by simp, HB4.out⟩
          case round =>
            obtain ⟨a, ha, hga, rfl, ⟨vO, hO⟩, hol, hB⟩ := hrel
            have HGA := Lib.hid hga
            have HO5 := Lib.hid hO
            have HB5 := Lib.hid hB
            have hbo := heap_lt hO.bx
            obtain ⟨out, hout⟩ : ∃ out, out = (List.range a).flatMap (addsP sy) := ⟨_, rfl⟩
            rw [← hout] at HO5 hol
            have HOUT := Lib.hid hout
            obtain ⟨w5, rfl⟩ : ∃ w5 : World, w5 = wr := ⟨_, rfl⟩
            clear hga hO hB hout
            by_cases hlt3 : a < q
            · --@6
              go_wp2_with fail
              refine (addTo (u := w5.alloc (.cells #[.int .i64 a] 3)) (Bn := w5.heap.size) (wr := w5.alloc (.cells #[.int .i64 a] 3)) (HO5.out.below ((Below.refl _ _).alloc (Nat.le_refl _) _)) (heap_alloc_new _ _) (Below.refl _ _) (Sl.nil _ _ _ _) (by omega)).mono ?_
              rintro e w6 ⟨rfl, ⟨vO6, ho6⟩, hk6, hb6⟩
              have hbn6 := hk6 _ _ _ (heap_alloc_new w5 _) (by decide) (by omega)
              have HO6 := Lib.hid ho6
              have HN6 := Lib.hid hbn6
              have HB6 := Lib.hid (show Below w3.heap.size w3 w6 from (HB5.out.alloc (by omega) _).trans hb6)
              have hbn0 := heap_lt hbn6
              obtain ⟨Bn, hBn⟩ : ∃ Bn, Bn = w5.heap.size := ⟨_, rfl⟩
              rw [← hBn] at HN6 hbn0 ⊢
              have hne : Bn ≠ w3.heap.size := by omega
              clear ho6 hbn6 hb6 hk6 hBn HO5 HB5 HO4 HB4 hbo
              --@8
              go_wp2_with fail
              go_loopg [61] nS (fun gk i wr => ∃ j : Nat, j ≤ nS ∧ gk = nS - j ∧ i = .int .i64 j ∧ (∃ vO, OutS w3.heap.size vO ((out ++ [((a : Int), [])]) ++ (sy.take j).map fun x => ((a : Int), [x])) wr) ∧ wr.heap[Bn]? = some (.cells #[.int .i64 a] 3 (0, 0)) ∧ Below w3.heap.size w3 wr)
              case atStart => exact ⟨0, Nat.zero_le _, rfl, rfl, by rw [List.take_zero, List.map_nil, List.append_nil]; exact ⟨_, HO6.out⟩, HN6.out, HB6.out⟩
              case round =>
                obtain ⟨j, hj, hgj, rfl, ⟨vO7, hO7⟩, hN7, hB7⟩ := hrel
                have HGJ := Lib.hid hgj
                have HO7 := Lib.hid hO7
                have HN7 := Lib.hid hN7
                have HB7 := Lib.hid hB7
                have hz7 := hB7.size
                obtain ⟨w7, rfl⟩ : ∃ w7 : World, w7 = wr := ⟨_, rfl⟩
                clear hgj hO7 hN7 hB7 HO6 HN6 HB6
                by_cases hlt4 : j < nS
                · obtain ⟨b1, o1, s1, rfl, hb1, _, h1, h2, hs1⟩ := sym_at HSY.out hlt4
                  replace h1 := (HB7.out.cell (p := ⟨b1, o1 + j * 2, none⟩) hb1.2).trans h1
                  replace h2 := (HB7.out.cell (p := ⟨b1, o1 + j * 2 + 1, none⟩) hb1.2).trans h2
                  have HS1 := Lib.hid hs1
                  have hblt := cell_lt h1
                  clear hs1 hb1
                  --@9
                  go_wp2_with fail
                  refine (addTo (a := a) HO7.out HN7.out (u := (w7.alloc (.cells #[.bool s1.1, .int .i64 s1.2] 31)).alloc (.cells #[.bool s1.1, .int .i64 s1.2] 31)) (((Below.refl _ _).alloc (Nat.le_refl _) _).alloc (by simp) _) (sl_lit (cs := [.bool s1.1, .int .i64 s1.2]) (l := [s1]) (w := w7.alloc (.cells #[.bool s1.1, .int .i64 s1.2] 31)) 31 (Cells.single (RSym.cells.2 rfl)) (by simp) (by omega) rfl) (by simp; omega)).mono ?_
                  rintro e w8 ⟨rfl, ho8, hk8, hb8⟩
                  have hn8 := hk8 _ _ _ HN7.out (by decide) hne
                  have HO8 := Lib.hid ho8
                  have HN8 := Lib.hid hn8
                  have HB8 := Lib.hid (HB7.out.trans hb8)
                  clear ho8 hn8 hb8 hk8
                  go_wp2_with fail
                  go_roundg (nS - (j + 1))
                  case measure => rw [HGJ.out]; omega
                  case rel => exact ⟨j + 1, by omega, rfl, by go_num, by rw [List.take_add_one, HS1.out, List.map_append, ← List.append_assoc]; exact HO8.out, HN8.out, HB8.out⟩
                · obtain rfl : j = nS := by omega
                  have hsl := HSY.out.len
                  have htk : sy.take j = sy := List.take_of_length_le (by omega)
                  rw [htk] at HO7
                  obtain ⟨out2, hout2⟩ : ∃ out2, out2 = (out ++ [((a : Int), [])]) ++ sy.map fun x => ((a : Int), [x]) := ⟨_, rfl⟩
                  rw [← hout2] at HO7
                  have hol2 : out2.length ≤ 21 * a + 5 := by rw [hout2]; simp; omega
                  have HOUT2 := Lib.hid hout2
                  have HSL := Lib.hid hsl
                  clear hsl htk hout2
                  --@10
                  go_wp2_with fail
                  go_loopg [72] j (fun gk i wr => ∃ p : Nat, p ≤ j ∧ gk = j - p ∧ i = .int .i64 p ∧ (∃ vO, OutS w3.heap.size vO (out2 ++ (sy.take p).flatMap fun x => sy.map fun y => ((a : Int), [x, y])) wr) ∧ (out2 ++ (sy.take p).flatMap fun x => sy.map fun y => ((a : Int), [x, y])).length ≤ 21 * a + 5 + 4 * p ∧ wr.heap[Bn]? = some (.cells #[.int .i64 a] 3 (0, 0)) ∧ Below w3.heap.size w3 wr)
                  case atStart => exact ⟨0, Nat.zero_le _, rfl, rfl, by rw [List.take_zero, List.flatMap_nil, List.append_nil]; exact ⟨_, HO7.out⟩, by rw [List.take_zero, List.flatMap_nil, List.append_nil]; omega, HN7.out, HB7.out⟩
                  case round =>
                    obtain ⟨p, hp, hgp, rfl, ⟨vO8, hO8⟩, hol8, hN8, hB8⟩ := hrel
                    have HGP := Lib.hid hgp
                    have HB8 := Lib.hid hB8
                    have HN8 := Lib.hid hN8
                    have hz8 := hB8.size
                    obtain ⟨out3, hout3⟩ : ∃ out3, out3 = out2 ++ (sy.take p).flatMap fun x => sy.map fun y => ((a : Int), [x, y]) := ⟨_, rfl⟩
                    rw [← hout3] at hO8 hol8
                    have HO8 := Lib.hid hO8
                    have HOUT3 := Lib.hid hout3
                    have hbn8 := heap_lt hN8
                    obtain ⟨w8, rfl⟩ : ∃ w8 : World, w8 = wr := ⟨_, rfl⟩
                    clear hgp hO8 hN8 hB8 HO7 HN7 HB7 hout3
                    by_cases hlt5 : p < j
                    · obtain ⟨b1, o1, s1, hA2, hb1, _, h1, h2, hs1⟩ := sym_at HSY.out hlt5
                      replace h1 := (HB8.out.cell (p := ⟨b1, o1 + p * 2, none⟩) hb1.2).trans h1
                      replace h2 := (HB8.out.cell (p := ⟨b1, o1 + p * 2 + 1, none⟩) hb1.2).trans h2
                      have HS1 := Lib.hid hs1
                      have hblt := cell_lt h1
                      subst hA2
                      clear hs1 hb1
                      --@11
                      go_wp2_with fail
                      clear h1 h2
                      obtain ⟨w9, hw9⟩ : ∃ w9 : World, w9 = w8.alloc (.cells #[.bool s1.1, .int .i64 s1.2] 31) := ⟨_, rfl⟩
                      rw [← hw9]
                      have hz9 : w9.heap.size = w8.heap.size + 1 := by rw [hw9]; simp
                      have h89 : Below w8.heap.size w8 w9 := by rw [hw9]; exact (Below.refl _ _).alloc (Nat.le_refl _) _
                      have HO9 := Lib.hid (HO8.out.below h89)
                      have HN9 := Lib.hid ((h89.block _ hbn8).trans HN8.out)
                      have HX9 := Lib.hid (show w9.heap[w8.heap.size]? = some (.cells #[.bool s1.1, .int .i64 s1.2] 31 (0, 0)) by rw [hw9]; exact heap_alloc_new _ _)
                      have HB9 := Lib.hid (HB8.out.trans (h89.mono (by omega)))
                      have hnx : w8.heap.size ≠ w3.heap.size := by have := heap_lt HO8.out.bx; omega
                      clear hw9 h89
                      go_loopg [78] j (fun gk i wr => ∃ m : Nat, m ≤ j ∧ gk = j - m ∧ i = .int .i64 m ∧ (∃ vO, OutS w3.heap.size vO (out3 ++ (sy.take m).map fun y => ((a : Int), [s1, y])) wr) ∧ wr.heap[Bn]? = some (.cells #[.int .i64 a] 3 (0, 0)) ∧ wr.heap[w8.heap.size]? = some (.cells #[.bool s1.1, .int .i64 s1.2] 31 (0, 0)) ∧ Below w3.heap.size w3 wr)
                      case atStart => exact ⟨0, Nat.zero_le _, rfl, rfl, by rw [List.take_zero, List.map_nil, List.append_nil]; exact ⟨_, HO9.out⟩, HN9.out, HX9.out, HB9.out⟩
                      case round =>
                        obtain ⟨m, hm, hgm, rfl, ⟨vOa, hOa⟩, hNa, hXa, hBa⟩ := hrel
                        have HGM := Lib.hid hgm
                        have HOA := Lib.hid hOa
                        have HNA := Lib.hid hNa
                        have HXA := Lib.hid hXa
                        have HBA := Lib.hid hBa
                        have hza := hBa.size
                        have hxlt := heap_lt hXa
                        have x0 : wr.cell? ⟨w8.heap.size, 0, none⟩ = some (.bool s1.1) := by simp [World.cell?, hXa]
                        have x1 : wr.cell? ⟨w8.heap.size, 1, none⟩ = some (.int .i64 s1.2) := by simp [World.cell?, hXa]
                        obtain ⟨wa, rfl⟩ : ∃ wa : World, wa = wr := ⟨_, rfl⟩
                        clear hgm hOa hNa hXa hBa HO9 HN9 HX9 HB9
                        by_cases hlt6 : m < j
                        · obtain ⟨b2, o2, s2, hA3, hb2, _, g1, g2, hs2⟩ := sym_at HSY.out hlt6
                          injection hA3 with hA3
                          injection hA3 with e1 e2
                          subst e1
                          subst e2
                          replace g1 := (HBA.out.cell (p := ⟨b1, o1 + m * 2, none⟩) hb2.2).trans g1
                          replace g2 := (HBA.out.cell (p := ⟨b1, o1 + m * 2 + 1, none⟩) hb2.2).trans g2
                          have HS2 := Lib.hid hs2
                          have hblt2 := cell_lt g1
                          clear hs2 hb2
                          --@12
                          go_wp2_with fail
                          refine (addTo (a := a) HOA.out HNA.out (u := (wa.alloc (.cells #[.bool s2.1, .int .i64 s2.2] 31)).alloc (.cells #[.bool s1.1, .int .i64 s1.2, .bool s2.1, .int .i64 s2.2] 31)) (((Below.refl _ _).alloc (Nat.le_refl _) _).alloc (by simp) _) (sl_lit (cs := [.bool s1.1, .int .i64 s1.2, .bool s2.1, .int .i64 s2.2]) (l := [s1, s2]) (w := wa.alloc (.cells #[.bool s2.1, .int .i64 s2.2] 31)) 31 ⟨_, _, rfl, RSym.cells.2 rfl, Cells.single (RSym.cells.2 rfl)⟩ (by simp) (by omega) rfl) (by simp; omega)).mono ?_
                          rintro e wb ⟨rfl, hob, hkb, hbb⟩
                          have HOB := Lib.hid hob
                          have HNB := Lib.hid (hkb _ _ _ HNA.out (by decide) hne)
                          have HXB := Lib.hid (hkb _ _ _ HXA.out (by decide) hnx)
                          have HBB := Lib.hid (HBA.out.trans hbb)
                          clear hob hkb hbb x0 x1 g1 g2
                          --@13
                          go_wp2_with fail
                          go_roundg (j - (m + 1))
                          case measure => rw [HGM.out]; omega
                          case rel => exact ⟨m + 1, by omega, rfl, by go_num, by rw [List.take_add_one, HS2.out, List.map_append, ← List.append_assoc]; exact HOB.out, HNB.out, HXB.out, HBB.out⟩
                        · obtain rfl : m = j := by omega
                          rw [show sy.take m = sy from List.take_of_length_le (by have := HSL.out; omega)] at HOA
                          --@14
                          go_wp2_with fail
                          go_roundg (m - (p + 1))
                          case measure => rw [HGP.out]; omega
                          case rel =>
                            have hstep : out2 ++ (sy.take (p + 1)).flatMap (fun x => sy.map fun y => ((a : Int), [x, y])) = out3 ++ sy.map fun y => ((a : Int), [s1, y]) := by
                              rw [List.take_add_one, HS1.out, List.flatMap_append, ← List.append_assoc, ← HOUT3.out]
                              simp
                            exact ⟨p + 1, by omega, rfl, by go_num, by rw [hstep]; exact ⟨_, HOA.out⟩, by rw [hstep, List.length_append, List.length_map]; have := HSL.out; omega, HNA.out, HBA.out⟩
                    · obtain rfl : p = j := by omega
                      rw [show sy.take p = sy from List.take_of_length_le (by have := HSL.out; omega)] at HOUT3
                      have hfin : (List.range (a + 1)).flatMap (addsP sy) = out3 := by
                        rw [HOUT3.out, HOUT2.out, List.range_succ, List.flatMap_append, ← HOUT.out]
                        simp [addsP]
                      have HFIN := Lib.hid hfin
                      clear hfin
                      --@15
                      go_wp2_with fail
                      go_roundg (q - (a + 1))
                      case measure => rw [HGA.out]; omega
                      case rel => exact ⟨a + 1, by omega, rfl, by go_num, by rw [HFIN.out]; exact ⟨_, HO8.out⟩, by rw [HFIN.out]; omega, HB8.out⟩
            · obtain rfl : a = q := by omega
              have c0 : w5.cell? ⟨w3.heap.size, 0, none⟩ = some vO := by simp [World.cell?, HO5.out.bx]
              obtain ⟨AO, cO, rfl, _, _⟩ := HO5.out.own.form
              --@7
              go_wp2_with fail
              go_ret2
              have hr : rulesP k a = out := by rw [HOUT.out, HSYP.out]; rfl
              refine ⟨AO, cO, by rw [hr]; rfl, ?_, HBQ.out.trans (HB5.out.mono hz3)⟩
              rw [hr]
              exact HO5.out.own.sl.more fun b hb => hb.elim False.elim fun h => by omega
end Go.Proofs.YtidigjfnifmiiaaDoor
