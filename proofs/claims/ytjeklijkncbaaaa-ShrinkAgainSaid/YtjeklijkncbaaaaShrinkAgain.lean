/- ShrinkAgain: what is left stays as it is. -/
import Derived.Test.YtjeklijkncbaaaaShrinkLeast
import Derived.Test.YtjeklijkncbaaaaShrinkL
import Derived.Test.YtjeklijkncbaaaaSlCmpInt
namespace Go.Proofs.Ytjeklijkncbaaaa
open Go.RowKit

theorem LeL.cmp : ∀ {a b : List Int}, LeL a b → cmpL a b ≤ 0
  | [], [], _ => by simp [cmpL]
  | [], _ :: _, h => by have := h.1; simp at this
  | _ :: _, [], h => by have := h.1; simp at this
  | x :: a, y :: b, h => by
    have h0 := h.2 0 x y rfl rfl
    have ht : LeL a b := ⟨by have := h.1; simpa using this, fun i u v hu hv => h.2 (i + 1) u v (by simpa using hu) (by simpa using hv)⟩
    rw [cmpL]
    split
    · exact ht.cmp
    · unfold cmpI
      split
      · omega
      · split
        · omega
        · omega
theorem entersTwo2 : ∀ (args : Array Value) (u : World), (callFunc 23 args).run Try.prog u = .ok (.enter 23 args) u := enters_of Try.func23 (by kernel_rfl) rfl
set_option maxHeartbeats 1000000 in
theorem tellsTwo2 (w0 : World) : Tells Try.prog w0 (fun l => l.length ≤ 60) (fun l => l.contains 2) 23 #[] := by
  intro w _ A n c S l hr hG
  have hn : n ≤ 60 := by have := hr.1; simp at this; omega
  have HR := Lib.hid hr
  clear hr
  show Calls Try.prog 23 #[.slice A n c] w _
  go_enter Try.func23, Try.ntmps23
  go_wp2_with (go_at_call 19; refine (containsInt _ _ _ _ _ _ _ HR.out (by omega)).mono ?_; rintro e w' ⟨rfl, rfl⟩)
  go_ret
  exact ⟨ret_bool (by simp), Below.refl _ _⟩
set_option maxHeartbeats 4000000 in
theorem shrinkAgain_walk (w : World) (A : Option Addr) (n c : Nat) (l : List Int) (_ : n ≤ c) (hc : c ≤ 17592186043904) (hr : Rd w (fun _ => True) 1 A n (l.map (Value.int .i64))) (_ : ∀ z ∈ l, -9223372036854775808 ≤ z ∧ z ≤ 9223372036854775807)
    (a : Int) (_ : -9223372036854775808 ≤ a) (_ : a ≤ 9223372036854775807) (b : Int) (_ : -9223372036854775808 ≤ b) (_ : b ≤ 9223372036854775807) :
    Calls Try.prog 7 #[.slice A n c, .int .i64 a, .int .i64 b] w fun e w' => e = .returned (.bool true) ∧ Below w.heap.size w w' := by
  have HR := Lib.hid hr
  clear hr
  have ha1 := Int.emod_nonneg a (by omega : (5 : Int) ≠ 0)
  have ha2 := Int.emod_lt_of_pos a (by omega : (0 : Int) < 5)
  have hg := wordOf_good l
  have HG := Lib.hid hg
  clear hg
  go_enter Try.func7, Try.ntmps7
  go_wp2_with fail
  refine (makeWord 8 60 A n c _ l w HR.out (by omega) (by omega) (by omega) (by omega)).mono ?_
  rintro e w1 ⟨A1, n1, c1, rfl, hsl1, hb1⟩
  rw [show ((8 : Nat) : Int) = 8 from rfl] at hsl1
  have hn1 : n1 ≤ 60 := by have := hsl1.len; have := HG.out.1; omega
  have HSL1 := Lib.hid hsl1
  have HB1 := Lib.hid hb1
  clear hsl1 hb1
  generalize wordOf 8 60 l = W at *
  go_wp2_with fail
  refine (shrinkWord_yes _ 23 #[] (fun l => l.length ≤ 60) (fun l => l.contains 2) (some ⟨w1.heap.size, 0, none⟩) 2 2 _ [1, 2] entersTwo2 (tellsTwo2 _) (Rd.new w1 (fun _ => True) _ [.int .i64 1, .int .i64 2] _ rfl trivial) (by simp)
    (fun l i h => Nat.le_trans (List.eraseIdx_sublist l i).length_le h) (by omega) (by decide)).mono ?_
  rintro e w2 ⟨A2, n2, c2, r2, rfl, hsl2, hsub2, hp2, _, hmin2, _, hb2⟩
  obtain rfl := left_of_two hsub2 hp2 hmin2
  obtain rfl : n2 = 1 := hsl2.len
  have HB2 := Lib.hid (HB1.out.trans (((Below.refl _ _).alloc (Nat.le_refl _) _).trans (hb2.mono (by simp)) |>.mono HB1.out.size))
  have HSL2 := Lib.hid hsl2
  have HSL1b := Lib.hid (HSL1.out.below (((Below.refl _ _).alloc (Nat.le_refl _) _).trans (hb2.mono (by simp))))
  clear hsub2 hp2 hmin2 hb2 hsl2
  go_wp2_with fail
  refine (equalInt A2 _ 1 c2 1 1 _ (fun _ => True) [2] [2] _ (HSL2.out.ints.alloc _) (Rd.new w2 _ _ [.int .i64 2] _ rfl trivial) (by omega) (by omega)).mono ?_
  rintro e w3 ⟨rfl, d, rfl⟩
  rw [show (([2] : List Int) == [2]) = true from rfl]
  have HB3 := Lib.hid (show Below w.heap.size w ((w2.alloc (.cells #[.int .i64 2] 3)).drewN d) from Below.drewN' (HB2.out.alloc HB2.out.size _) d)
  have HSL3 := Lib.hid (show Sl Rep.int ((w2.alloc (.cells #[.int .i64 2] 3)).drewN d) (fun b => w.heap.size ≤ b) A1 n1 c1 W from (HSL1b.out.alloc _).drewN d)
  generalize (w2.alloc (.cells #[.int .i64 2] 3)).drewN d = w3 at *
  clear HB2 HSL2 HSL1b HSL1 HB1
  go_wp2_with fail
  refine (failsMake w3 a b).mono ?_
  rintro e w4 ⟨rfl, hca, hcb, hb4⟩
  have ht := tellsFails w4 w3.heap.size (w3.heap.size + 1) (a % 5) (b % 3) ha1 (by omega) hca hcb
  have HT := Lib.hid ht
  have HB4 := Lib.hid (HB3.out.trans (hb4.mono HB3.out.size))
  have HSL4 := Lib.hid (HSL3.out.below hb4)
  clear ht hb4 HB3 HSL3 hca hcb
  generalize a % 5 = a5 at *
  generalize b % 3 = b3 at *
  generalize w3.heap.size = H at *
  go_wp2_with fail
  cases hp : failsP a5 b3 W with
  | false =>
    have h5 := HT.out w4 (Below.refl _ _) A1 n1 c1 _ W HSL4.out.ints HG.out
    rw [hp] at h5
    clear hp
    refine h5.mono ?_
    clear h5
    rintro e w6 ⟨rfl, hb6⟩
    have HB6 := Lib.hid (HB4.out.trans (hb6.mono HB4.out.size))
    clear hb6
    go_wp2_with fail
    go_ret
    exact ⟨rfl, HB6.out⟩
  | true =>
    have HP := Lib.hid hp
    have h5 := HT.out w4 (Below.refl _ _) A1 n1 c1 _ W HSL4.out.ints HG.out
    rw [hp] at h5
    clear hp
    refine h5.mono ?_
    clear h5
    rintro e w5 ⟨rfl, hb5⟩
    have ht5 : ∀ u, Below w5.heap.size w5 u → Tells Try.prog u Good (failsP a5 b3) 33 #[.pointer (some ⟨H, 0, none⟩), .pointer (some ⟨H + 1, 0, none⟩)] :=
      fun u hu v hv => HT.out v (hb5.trans ((hu.trans (hv.mono hu.size)).mono hb5.size))
    have HT5 := Lib.hid ht5
    have HB5 := Lib.hid (HB4.out.trans (hb5.mono HB4.out.size))
    have HSL5 := Lib.hid (HSL4.out.below hb5)
    clear hb5 ht5 HB4 HSL4 HT
    go_wp2_with fail
    refine (shrinkWord_yes w5 33 _ Good (failsP a5 b3) A1 n1 c1 _ W entersFails (HT5.out w5 (Below.refl _ _)) HSL5.out.ints HG.out (fun l i h => h.erase i) hn1 HP.out).mono ?_
    rintro e w6 ⟨A6, n6, c6, r, rfl, hsl6, _, hpr, hGr, hmin, _, hb6⟩
    have hn6 : n6 ≤ 60 := by have := hsl6.len; have := hGr.1; omega
    have HB6 := Lib.hid hb6
    have HSLR := Lib.hid hsl6
    have HPR := Lib.hid hpr
    have HGR := Lib.hid hGr
    have HMIN := Lib.hid hmin
    have HSLW := Lib.hid (HSL5.out.below hb6)
    clear hb6 hsl6 hpr hGr hmin
    go_wp2_with fail
    refine (shrinkWord_yes w6 33 _ Good (failsP a5 b3) A6 n6 c6 _ r entersFails (HT5.out w6 HB6.out) HSLR.out.ints HGR.out (fun l i h => h.erase i) hn6 HPR.out).mono ?_
    rintro e w7 ⟨A7, n7, c7, r7, rfl, hsl7, _, _, _, _, hor7, hb7⟩
    obtain rfl : r7 = r := by
      rcases hor7 with h | ⟨j, hj, h⟩
      · exact h
      · rw [HMIN.out j hj] at h; cases h
    have hn7 : n7 ≤ 60 := by have := hsl7.len; have := HGR.out.1; omega
    have HB7 := Lib.hid (HB6.out.trans (hb7.mono HB6.out.size))
    have HSLW7 := Lib.hid (HSLW.out.below hb7)
    have HSLR7 := Lib.hid (HSLR.out.below hb7)
    have HSLM7 := Lib.hid hsl7
    clear hor7 hb7 hsl7 HSLW HSLR HB6
    go_wp2_with fail
    refine (lowerFull w7 33 _ (failsP a5 b3) A1 n1 c1 _ W entersFails (HT5.out w7 HB7.out) HSLW7.out.ints HG.out HP.out).mono ?_
    rintro e w8 ⟨A8, n8, c8, x, rfl, hsl8, hle, hlow, hpx, hlowest, _, hb8⟩
    have hn8 : n8 ≤ 60 := by have := hsl8.len; have := hlow.1; omega
    have HB8 := Lib.hid (HB7.out.trans (hb8.mono HB7.out.size))
    have HLE := Lib.hid hle
    have HLOW := Lib.hid hlow
    have HPX := Lib.hid hpx
    have HLST := Lib.hid hlowest
    have HSLX := Lib.hid hsl8
    have HSLW8 := Lib.hid (HSLW7.out.below hb8)
    have HSLR8 := Lib.hid (HSLR7.out.below hb8)
    have HSLM8 := Lib.hid (HSLM7.out.below hb8)
    clear hle hlow hpx hlowest hsl8 hb8 HSLW7 HSLR7 HSLM7 HB7
    go_wp2_with fail
    refine (lowerFull w8 33 _ (failsP a5 b3) A8 n8 c8 _ x entersFails (HT5.out w8 HB8.out) HSLX.out.ints HLOW.out HPX.out).mono ?_
    rintro e w9 ⟨A9, n9, c9, y, rfl, hsl9, _, _, _, _, hsame, hb9⟩
    obtain rfl : y = x := hsame HLST.out
    have hn9 : n9 ≤ 60 := by have := hsl9.len; have := HLOW.out.1; omega
    have HB9 := Lib.hid (HB8.out.trans (hb9.mono HB8.out.size))
    have HSLY := Lib.hid hsl9
    have HSLX9 := Lib.hid (HSLX.out.below hb9)
    have HSLW9 := Lib.hid (HSLW8.out.below hb9)
    have HSLR9 := Lib.hid (HSLR8.out.below hb9)
    have HSLM9 := Lib.hid (HSLM8.out.below hb9)
    obtain rfl : n8 = n1 := by
      have h1 := HSLX9.out.len
      have h2 := HSLW9.out.len
      have h3 := HLE.out.1
      omega
    have HC := Lib.hid HLE.out.cmp
    clear hsame hsl9 hb9 HSLX HSLW8 HSLR8 HSLM8 HB8
    go_wp2_with fail
    refine (equalInt A6 A7 n6 c6 n7 c7 _ _ r7 r7 _ HSLR9.out.ints HSLM9.out.ints (by omega) (by omega)).mono ?_
    rintro e wa ⟨rfl, d1, rfl⟩
    rw [show (r7 == r7) = true from by simp]
    go_wp2_with fail
    refine (equalInt A8 A9 n8 c8 n9 c9 _ _ y y _ (HSLX9.out.drewN d1).ints (HSLY.out.drewN d1).ints (by omega) (by omega)).mono ?_
    rintro e wb ⟨rfl, d2, rfl⟩
    rw [show (y == y) = true from by simp]
    go_wp2_with fail
    refine (compareInt A8 A1 n8 c8 n8 c1 (fun _ => True) (fun _ => True) y W _ ?_ ?_ (by omega)).mono ?_
    · exact (((HSLX9.out.drewN d1).drewN d2).ints).more fun _ _ => trivial
    · exact (((HSLW9.out.drewN d1).drewN d2).ints).more fun _ _ => trivial
    rintro e wc ⟨rfl, rfl⟩
    have hcb : decide (cmpL y W ≤ 0) = true := by simpa using HC.out
    go_wp2_with fail
    go_ret
    exact ⟨rfl, Below.drewN' (HB5.out.trans (HB9.out.mono HB5.out.size)) _⟩
end Go.Proofs.Ytjeklijkncbaaaa
