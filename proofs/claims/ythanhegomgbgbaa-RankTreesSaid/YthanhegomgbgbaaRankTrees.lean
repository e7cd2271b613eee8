/- RankTrees: its walk. -/
import Derived.Test.YthanhegomgbgbaaRankFirst
import Derived.Test.YthanhegomgbgbaaRankRate
import Derived.Test.YthanhegomgbgbaaTreeCmp
import Derived.Test.YthanhegomgbgbaaSizePlain
import Derived.Test.YthanhegomgbgbaaDetPlain
import Derived.Test.YthanhegomgbgbaaMakeTree3
import Derived.Test.YthanhegomgbgbaaSlIdxTr
namespace Go.Proofs.Ythanhegomgbgbaa
open Go.RowKit

/-- the trees of the numbers below i -/
def RowOk (R : List RuleD) (st n : Nat) (ts : List TreeD) : Prop := ∀ (k : Nat) (t : TreeD), ts[k]? = some t → Unr R (false, (st : Int)) n k t ∧ sizeT t ≤ 5000
theorem RowOk.snoc {R : List RuleD} {st n : Nat} {ts : List TreeD} {t : TreeD} (h : RowOk R st n ts) (hu : Unr R (false, (st : Int)) n ts.length t) (hs : sizeT t ≤ 5000) : RowOk R st n (ts ++ [t]) := by
  intro k x hx
  rcases Nat.lt_or_ge k ts.length with hlt | hge
  · rw [List.getElem?_append_left hlt] at hx
    exact h k x hx
  · rw [List.getElem?_append_right hge] at hx
    obtain ⟨h1, h2⟩ := List.getElem?_eq_some_iff.1 hx
    simp only [List.length_singleton] at h1
    obtain rfl : k = ts.length := by omega
    simp at h2
    subst h2
    exact ⟨hu, hs⟩
/-- a later tree is another one -/
theorem RowOk.other {R : List RuleD} {st n : Nat} {ts : List TreeD} {t x : TreeD} {k i : Nat} (h : RowOk R st n ts) (hx : ts[k]? = some x) (hu : Unr R (false, (st : Int)) n i t) (hk : k ≠ i) : cmpT x t ≠ 0 := by
  intro h0
  have hr := cmpT_zero h0
  have h1 := (h k x hx).1
  have := (TV.same (x := []) (y := []) _ (Nat.le_refl _) h1.tv hu.tv (by rw [hr])).1
  subst this
  exact hk (Unr.same _ (Nat.le_refl _) h1 hu)
set_option maxRecDepth 100000 in
set_option maxHeartbeats 1000000 in
/-- the function value that compares with a tree in a block -/
theorem sameFn (w : World) (Bt : Nat) (S S' : Nat → Prop) (t : TreeD) (A : Option Addr) (m c : Nat) (hB : w.heap[Bt]? = some (.cells #[.int .i64 t.rule, .int .i64 t.term, .slice A m c] 34 (0, 0))) (hs : Sl RTree w S A m c t.kids) (hl : ∀ x ∈ nodesT t, Leafy x) (hsz : sizeT t ≤ 1000000)
    (x : TreeD) (A' : Option Addr) (m' c' : Nat) (hs' : Sl RTree w S' A' m' c' x.kids) (hl' : ∀ y ∈ nodesT x, Leafy y) (hsz' : sizeT x ≤ 1000000) :
    Calls Try.prog 36 #[.agg #[.int .i64 x.rule, .int .i64 x.term, .slice A' m' c'], .pointer (some ⟨Bt, 0, none⟩)] w fun e w' => e = .returned (.bool (cmpT x t == 0)) ∧ Below w.heap.size w w' := by
  obtain ⟨d0, d1, d2, _, _, _⟩ := tree_cells hB
  have hlt := heap_lt hB
  have HS := Lib.hid (hs.alloc (.cells #[.int .i64 x.rule, .int .i64 x.term, .slice A' m' c'] 34))
  have HS' := Lib.hid (hs'.alloc (.cells #[.int .i64 x.rule, .int .i64 x.term, .slice A' m' c'] 34))
  have HL := Lib.hid hl
  have HL' := Lib.hid hl'
  clear hB hs hs' hl hl'
  go_enter Try.func36, Try.ntmps36
  go_wp2_with fail
  refine (treeCompare _ _ _ x A' m' c' HS'.out HL'.out hsz' t A m c HS.out HL.out hsz).mono ?_
  rintro e w1 ⟨rfl, hb1⟩
  have HB1 := Lib.hid (((Below.refl w.heap.size w).alloc (Nat.le_refl _) (.cells #[.int .i64 x.rule, .int .i64 x.term, .slice A' m' c'] 34)).trans (hb1.mono (by simp)))
  clear hb1
  go_wp2_with fail
  go_ret
  exact ⟨rfl, HB1.out⟩
theorem tellsSame (w : World) (Bt : Nat) (S : Nat → Prop) (t : TreeD) (A : Option Addr) (m c : Nat) (hB : w.heap[Bt]? = some (.cells #[.int .i64 t.rule, .int .i64 t.term, .slice A m c] 34 (0, 0))) (hs : Sl RTree w S A m c t.kids) (hl : ∀ x ∈ nodesT t, Leafy x) (hsz : sizeT t ≤ 1000000) :
    TellsT Try.prog w (fun x => (∀ y ∈ nodesT x, Leafy y) ∧ sizeT x ≤ 1000000) (fun x => cmpT x t == 0) 36 #[.pointer (some ⟨Bt, 0, none⟩)] := fun w' hb x A' m' c' S' hs' hg =>
  sameFn w' Bt S S' t A m c ((hb.block _ (heap_lt hB)).trans hB) (hs.below hb) hl hsz x A' m' c' hs' hg.1 hg.2
theorem entersSame : ∀ (args : Array Value) (u : World), (callFunc 36 args).run Try.prog u = .ok (.enter 36 args) u := enters_of Try.func36 (by kernel_rfl) rfl
set_option linter.unusedSimpArgs false in
set_option maxRecDepth 1000000 in
set_option maxHeartbeats 8000000 in
theorem rankTrees_walk (W : World) (A0 : Option Addr) (n0 c0 : Nat) (z0 : List Int) (le0 : n0 ≤ c0) (cap0 : c0 ≤ 17592186043904) (rd0 : Rd W (fun _ => True) 1 A0 n0 (z0.map (Value.int .i64))) (_rg0 : ∀ z ∈ z0, -9223372036854775808 ≤ z ∧ z ≤ 9223372036854775807)
    (A1 : Option Addr) (n1 c1 : Nat) (z1 : List Int) (le1 : n1 ≤ c1) (cap1 : c1 ≤ 17592186043904) (rd1 : Rd W (fun _ => True) 1 A1 n1 (z1.map (Value.int .i64))) (_rg1 : ∀ z ∈ z1, -9223372036854775808 ≤ z ∧ z ≤ 9223372036854775807)
    (x2 : Int) (_lo2 : -9223372036854775808 ≤ x2) (_hi2 : x2 ≤ 9223372036854775807) :
    Calls Try.prog 7 #[.slice A0 n0 c0, .slice A1 n1 c1, .int .i64 x2] W fun e W' => e = .returned (.bool true) ∧ Below W.heap.size W W' := by
  have HR0 := Lib.hid (rd0.slInts le0)
  have HD1 := Lib.hid (rd1.slInts le1)
  clear rd0 _rg0 _lo2 _hi2 rd1 _rg1
  go_enter Try.func7, Try.ntmps7
  go_wp2_with fail
  refine (makeGrammar _ _ _ _ _ z0 HR0.out (by omega)).mono ?_
  rintro e w1 ⟨g, AR, cR, hv, hsm, rfl, hg, hb1⟩
  have HV := Lib.hid hv
  have HG := Lib.hid (hg.alloc (.cells #[.int .i64 g.1, .int .i64 g.2.1, .int .i64 g.2.2.1, .slice AR g.2.2.2.length cR] 25))
  have HB1 := Lib.hid (hb1.alloc hb1.size (.cells #[.int .i64 g.1, .int .i64 g.2.1, .int .i64 g.2.2.1, .slice AR g.2.2.2.length cR] 25))
  have hs1 := hb1.size
  have HC1 := Lib.hid ((HD1.out.below hb1).alloc (.cells #[.int .i64 g.1, .int .i64 g.2.1, .int .i64 g.2.2.1, .slice AR g.2.2.2.length cR] 25))
  obtain ⟨st, hst, hstN⟩ : ∃ st : Nat, g.2.2.1 = (st : Int) ∧ st < nonsOf g := ⟨g.2.2.1.toNat, by have := hv.st; omega, by have := hv.st; unfold nonsOf; omega⟩
  have HST := Lib.hid hst
  have HSM := Lib.hid hsm
  have hall : ∀ u : World, Below (w1.heap.size + 1) (w1.alloc (.cells #[.int .i64 g.1, .int .i64 g.2.1, .int .i64 g.2.2.1, .slice AR g.2.2.2.length cR] 25)) u → u.cell? ⟨w1.heap.size, 0, none⟩ = some (.int .i64 g.1) ∧ u.cell? ⟨w1.heap.size, 1, none⟩ = some (.int .i64 g.2.1) ∧ u.cell? ⟨w1.heap.size, 2, none⟩ = some (.int .i64 g.2.2.1) ∧ u.cell? ⟨w1.heap.size, 3, none⟩ = some (.slice AR g.2.2.2.length cR) := by
    intro u hu
    refine ⟨(hu.cell (by simp)).trans ?_, (hu.cell (by simp)).trans ?_, (hu.cell (by simp)).trans ?_, (hu.cell (by simp)).trans ?_⟩ <;> simp
  have HALL := Lib.hid hall
  clear hall hv hg hb1 HR0 hst hsm
  go_wp2_with fail
  refine (keepBelow x2 6 _ (by decide) (by decide)).mono ?_
  rintro e _ ⟨rfl, rfl⟩
  obtain ⟨n, hn, hn5⟩ : ∃ n : Nat, x2 % 6 = (n : Int) ∧ n ≤ 5 := ⟨(x2 % 6).toNat, by omega, by omega⟩
  rw [hn]
  clear hn
  go_wp2_with fail
  refine (keepPlain _).mono ?_
  rintro e w2 ⟨AP, rfl, hp, hb2⟩
  simp only [World.size_alloc] at hb2
  have HP := Lib.hid hp
  have HB2 := Lib.hid hb2
  have hs2 := hb2.size
  simp only [World.size_alloc] at hs2
  clear hp hb2
  go_wp2_with fail
  refine (rankCount _ _ _ _ _ plainG HP.out plain_valid 3 (by omega) 0 rfl).mono ?_
  rintro e w3 ⟨rfl, hb3⟩
  rw [show plainG.2.2.2 = plainR from rfl, plain_rcK, plain_rcE]
  have hb23 : Below (w1.heap.size + 1) (w1.alloc (.cells #[.int .i64 g.1, .int .i64 g.2.1, .int .i64 g.2.2.1, .slice AR g.2.2.2.length cR] 25)) w3 := HB2.out.trans (hb3.mono (by omega))
  have HB3 := Lib.hid hb23
  have hs3 := hb3.size
  obtain ⟨k0, k1, k2, k3⟩ := HALL.out _ hb23
  have HG3 := Lib.hid (HG.out.below (hb23.mono (by simp)))
  clear hb23 hb3 HB2 HP
  --@1
  go_wp2_with fail
  refine (rankCount _ _ _ _ _ g HG3.out HV.out n (by omega) st HST.out).mono ?_
  rintro e w4 ⟨rfl, hb4⟩
  have hb24 := HB3.out.trans (hb4.mono (by omega))
  have HB4 := Lib.hid hb24
  have hs4 := hb4.size
  have HG4 := Lib.hid (HG3.out.below hb4)
  clear hb4 hb24 HG3 HB3 k0 k1 k2 k3
  obtain ⟨KN, hK⟩ : ∃ KN, KN = treesN g.2.2.2 st n := ⟨_, rfl⟩
  unfold rcK rcE
  rw [← hK]
  have HK := Lib.hid hK
  have hrange := treesN_range (rulesN_of HV.out) (a := st) (k := n) hstN
  rw [← hK] at hrange
  clear hK
  by_cases hm : KN = -1
  · rw [if_pos (Or.inl hm), if_pos hm]
    clear hm hrange
    go_wp2_with fail
    go_ret
    exact ⟨rfl, HB1.out.trans (HB4.out.mono (by omega))⟩
  by_cases hL : 1000000000 ≤ KN
  · rw [if_pos (Or.inr hL), if_neg hm, if_pos hL]
    clear hm hrange hL
    go_wp2_with fail
    go_ret
    exact ⟨rfl, HB1.out.trans (HB4.out.mono (by omega))⟩
  rw [if_neg (by omega), if_neg hm, if_neg hL]
  have hK0 : 0 ≤ KN := by omega
  have hK9 : KN < 1000000000 := by omega
  clear hm hrange hL
  by_cases h60 : 60 < KN
  · have hd : decide (60 < KN) = true := by simpa using h60
    clear h60
    go_wp2_with fail
    go_ret
    exact ⟨rfl, HB1.out.trans (HB4.out.mono (by omega))⟩
  have hd : decide (60 < KN) = false := by simpa using h60
  obtain ⟨N, hN⟩ : ∃ N : Nat, KN = (N : Int) := ⟨KN.toNat, by omega⟩
  subst hN
  have hN60 : N ≤ 60 := by omega
  have HSO := Lib.hid (show SymOk g.1 g.2.1 (false, (st : Int)) by
    have := HV.out.st
    have := HST.out
    unfold SymOk
    simp only [Bool.false_eq_true, if_false]
    omega)
  clear h60
  --@2
  go_wp2_with fail
  go_loopg [12, 48] N (fun gk vr vi wr => ∃ (i : Nat) (ts : List TreeD), i ≤ N ∧ gk = N - i ∧ vi = .int .i64 i ∧ OwnL RTree wr (fun _ => False) w4.heap.size 34 vr ts ∧ ts.length = i ∧ RowOk g.2.2.2 st n ts ∧ Below w4.heap.size w4 wr)
  case atStart => exact ⟨0, [], Nat.zero_le _, rfl, rfl, OwnL.nil _ _ _ _ _, rfl, (fun k t h => absurd h (by simp)), Below.refl _ _⟩
  case round =>
    obtain ⟨i, ts, hi, hgk, rfl, hown, htl, hrow, hb⟩ := hrel
    have HGK := Lib.hid hgk
    have HOW := Lib.hid hown
    have HTL := Lib.hid htl
    have HROW := Lib.hid hrow
    have HB := Lib.hid hb
    have hzr := hb.size
    obtain ⟨A12, c12, rfl, _⟩ := hown.formN (a := i) htl
    obtain ⟨w5, rfl⟩ : ∃ w5 : World, w5 = wr := ⟨_, rfl⟩
    obtain ⟨k0, k1, k2, k3⟩ := HALL.out _ (HB4.out.trans (hb.mono (by omega)))
    have HG5 := Lib.hid (HG4.out.below hb)
    clear hgk hown htl hrow hb
    by_cases hlt : i < N
    · have hiI : (i : Int) < (N : Int) := by omega
      --@3
      go_wp2_with fail
      refine (rankTree w5 _ AR _ cR g HG5.out HV.out n (by omega) st HST.out (N : Int) HK.out hK0 hK9 (i : Int) (by omega) (by omega)).mono ?_
      rintro e w6 ⟨h6, hb6⟩
      rcases h6 with ⟨h6, _⟩ | ⟨_, t, A6, m6, c6, rfl, hsl6, hu6⟩
      · exact absurd ⟨by omega, by omega⟩ h6
      rw [Int.toNat_natCast] at hu6
      have hm := (rated_of HV.out hstN HK.out hK9 (by omega)).2.2
      have hsize : sizeT t ≤ 5000 := TV.few (rulesN_of HV.out) (by have := HSM.out.n; unfold nonsOf; omega) HSM.out.rr hu6.tv hu6.word hstN hm (by omega)
      have HU := Lib.hid hu6
      have hs6 := hb6.size
      obtain ⟨w7, hw7⟩ : ∃ w7 : World, w7 = w6.alloc (.cells #[.int .i64 t.rule, .int .i64 t.term, .slice A6 m6 c6] 34) := ⟨_, rfl⟩
      have hz7 : w7.heap.size = w6.heap.size + 1 := by rw [hw7]; simp
      have hb57 : Below w5.heap.size w5 w7 := by rw [hw7]; exact hb6.alloc hs6 _
      have hbt7 : w7.heap[w6.heap.size]? = some (.cells #[.int .i64 t.rule, .int .i64 t.term, .slice A6 m6 c6] 34 (0, 0)) := by rw [hw7]; exact heap_alloc_new _ _
      have hsl7 : Sl RTree w7 (fun b => w5.heap.size ≤ b) A6 m6 c6 t.kids := by rw [hw7]; exact hsl6.alloc _
      have hb47 : Below (w1.heap.size + 1) _ w7 := HB4.out.trans ((HB.out.trans (hb57.mono (by omega))).mono (by omega))
      clear k0 k1 k2 k3
      obtain ⟨k0, k1, k2, k3⟩ := HALL.out _ hb47
      obtain ⟨d0, d1, d2, _, _, _⟩ := tree_cells hbt7
      rw [hw7] at k0 k1 k2 k3 d0 d1 d2
      have HB57 := Lib.hid hb57
      have HBT7 := Lib.hid hbt7
      have HSL7 := Lib.hid hsl7
      have HG7 := Lib.hid (HG5.out.below hb57)
      have HLV := Lib.hid hu6.tv.leaves
      have hsz6 : sizeT t ≤ 1000000 := by omega
      clear hb6 hb57 hbt7 hsl7 hb47 hsl6 hu6 hm
      --@4
      go_wp2_with fail
      rw [← hw7]
      clear hw7 k0 k1 k2 k3 d0 d1 d2
      refine (treeCheck w7 _ _ AR _ cR g HG7.out HV.out t (false, (st : Int)) A6 m6 c6 HSL7.out HU.out.tv HSO.out hsize).mono ?_
      rintro e w8 ⟨rfl, hb8⟩
      have HB8 := Lib.hid hb8
      have hs8 := hb8.size
      obtain ⟨d0, d1, d2, _, _, _⟩ := tree_cells ((hb8.block _ (by omega)).trans HBT7.out)
      clear hb8
      --@5
      go_wp2_with fail
      clear d0 d1 d2
      refine (treeWord w8 _ t A6 m6 c6 (HSL7.out.below HB8.out) HLV.out hsz6).mono ?_
      rintro e w9 ⟨A9, c9, rfl, _, _, hb9⟩
      rw [HU.out.word]
      have HB9 := Lib.hid (HB8.out.trans (hb9.mono hs8))
      have hs9 := hb9.size
      have hn1 : ((n : Int) != (n : Int)) = false := by simp
      clear hb9
      --@6
      go_wp2_with fail
      go_loopg [75] i (fun gj vj wx => ∃ j : Nat, j ≤ i ∧ gj = i - j ∧ vj = .int .i64 j ∧ Below w7.heap.size w7 wx)
      case atStart => exact ⟨0, Nat.zero_le _, rfl, rfl, HB9.out⟩
      case round =>
        obtain ⟨j, hj, hgj, rfl, hbj⟩ := hrel
        have HGJ := Lib.hid hgj
        have HBJ := Lib.hid hbj
        have hsj := hbj.size
        obtain ⟨wx, rfl⟩ : ∃ wx : World, wx = wr := ⟨_, rfl⟩
        have hbw : Below w5.heap.size w5 wx := HB57.out.trans (hbj.mono (by omega))
        have HBW := Lib.hid hbw
        clear hgj hbj hbw
        by_cases hji : j < i
        · obtain ⟨b, off, A3, m3, c3, x, rfl, _, hbl, hx0, hx1, hx2, hx, hxs⟩ := tree_at (HOW.out.sl.below HBW.out) hji
          obtain ⟨hxu, hxsz⟩ := HROW.out j x hx
          have hne := HROW.out.other hx HU.out (show j ≠ i by omega)
          have hnb : (cmpT x t == 0) = false := by simpa using hne
          have hjI : (j : Int) < (i : Int) := by omega
          have hj0 : (0 : Int) ≤ (j : Int) := by omega
          have hbx : Below wx.heap.size wx (wx.alloc (.cells #[.int .i64 x.rule, .int .i64 x.term, .slice A3 m3 c3] 34)) := (Below.refl _ _).alloc (Nat.le_refl _) _
          have HBX := Lib.hid hbx
          have HXS := Lib.hid (hxs.below hbx)
          have HXL := Lib.hid hxu.tv.leaves
          have hxs6 : sizeT x ≤ 1000000 := by omega
          obtain ⟨d0, d1, d2, _, _, _⟩ := tree_cells ((HBJ.out.block _ (by omega)).trans HBT7.out)
          have hdl := cell_lt d0
          have HST := Lib.hid ((HSL7.out.below HBJ.out).below hbx)
          clear hx hxu hne hbx hxs
          --@7
          go_wp2_with fail
          clear d0 d1 d2 hx0 hx1 hx2
          refine (treeCompare _ _ _ x A3 m3 c3 HXS.out HXL.out hxs6 t A6 m6 c6 HST.out HLV.out hsz6).mono ?_
          rintro e w10 ⟨rfl, hb10⟩
          have HB10 := Lib.hid ((HBJ.out.trans (HBX.out.mono (by omega))).trans (hb10.mono (by simp; omega)))
          clear hb10
          --@8
          go_wp2_with fail
          go_roundg (i - (j + 1))
          case measure => rw [HGJ.out]; omega
          case rel => exact ⟨j + 1, by omega, rfl, by go_num, HB10.out⟩
        · obtain rfl : i = j := by omega
          obtain ⟨d0, d1, d2, _, _, _⟩ := tree_cells ((HBJ.out.block _ (by omega)).trans HBT7.out)
          have hown := HOW.out.below HBW.out
          have hslx := HSL7.out.below HBJ.out
          obtain ⟨v11, w11, hrun, ho11, hg11, hb11⟩ := run_append_lit (R := RTree) tTreesB rfl wx 32 w4.heap.size (fun _ => False) _ ts hown 1 [t] [.int .i64 t.rule, .int .i64 t.term, .slice A6 m6 c6] (Cells.single (RTree.cells.2 ⟨A6, m6, c6, rfl, hslx.more fun b hb => ⟨Or.inr (by omega), fun e => by have h1 := HOW.out.row e; omega⟩⟩)) rfl (by have := HTL.out; unfold maxLen; omega) (by have := HTL.out; omega) (by omega)
          have HRUN := Lib.hid hrun
          have HO11 := Lib.hid ho11
          have HB11 := Lib.hid ((HB.out.trans (HBW.out.mono (by omega))).trans hb11)
          clear hrun ho11 hg11 hb11 hown hslx
          --@9
          go_wp2_with (at_builtin; refine Lib.wpList_append_run (o := ⟨some 87, _, _, _, _, _⟩) _ rfl _ _ _ _ rfl _ _ rfl rfl _ _ HRUN.out ?_)
          go_roundg (N - (i + 1))
          case measure => rw [HGK.out]; omega
          case rel => exact ⟨i + 1, ts ++ [t], by omega, rfl, by go_num, HO11.out, by rw [List.length_append, HTL.out]; rfl, HROW.out.snoc (by rw [HTL.out]; exact HU.out) hsize, HB11.out⟩
    · obtain rfl : N = i := by omega
      have HL5 := Lib.hid ((HC1.out.below (HB4.out.mono (by simp))).below HB.out)
      --@10
      go_wp2_with fail
      clear k0 k1 k2 k3
      refine (makeTree w5 _ _ AR _ cR g HG5.out HV.out A1 n1 c1 z1 HL5.out (by omega)).mono ?_
      rintro e w6 ⟨hmade, hb6⟩
      have HBF := Lib.hid (HB1.out.trans ((HB4.out.trans ((HB.out.trans (hb6.mono (by omega))).mono (by omega))).mono (by omega)))
      have hs6 := hb6.size
      rcases hmade with rfl | ⟨t, A6, m6, c6, rfl, htv, hsl6, hsz⟩
      · clear hb6
        --@11
        go_wp2_with fail
        go_ret
        exact ⟨rfl, HBF.out.alloc (by have := HBF.out.size; omega) _⟩
      · obtain ⟨w7, hw7⟩ : ∃ w7 : World, w7 = w6.alloc (.cells #[.int .i64 t.rule, .int .i64 t.term, .slice A6 m6 c6] 34) := ⟨_, rfl⟩
        have hz7 : w7.heap.size = w6.heap.size + 1 := by rw [hw7]; simp
        have hbt7 : w7.heap[w6.heap.size]? = some (.cells #[.int .i64 t.rule, .int .i64 t.term, .slice A6 m6 c6] 34 (0, 0)) := by rw [hw7]; exact heap_alloc_new _ _
        have HSL7 := Lib.hid (show Sl RTree w7 (fun b => w5.heap.size ≤ b) A6 m6 c6 t.kids by rw [hw7]; exact hsl6.alloc _)
        have HB57 := Lib.hid (show Below w5.heap.size w5 w7 by rw [hw7]; exact hb6.alloc hs6 _)
        have HBF7 := Lib.hid (show Below W.heap.size W w7 by rw [hw7]; exact HBF.out.alloc (by have := HBF.out.size; omega) _)
        obtain ⟨d0, d1, d2, _, _, _⟩ := tree_cells hbt7
        rw [hw7] at d0 d1 d2
        rw [HST.out] at htv
        have HBT7 := Lib.hid hbt7
        have HTV := Lib.hid htv
        have HLV := Lib.hid htv.leaves
        have hsz6 : sizeT t ≤ 1000000 := by omega
        clear hb6 hsl6 htv hbt7
        --@12
        go_wp2_with fail
        rw [← hw7]
        clear hw7 d0 d1 d2
        refine (treeWord w7 _ t A6 m6 c6 HSL7.out HLV.out hsz6).mono ?_
        rintro e w8 ⟨A8, c8, rfl, _, _, hb8⟩
        have hs8 := hb8.size
        have HB8 := Lib.hid hb8
        obtain ⟨q, hq⟩ : ∃ q, q = (wordT t).length := ⟨_, rfl⟩
        rw [← hq]
        have HQ := Lib.hid hq
        clear hb8 hq
        by_cases hqn : q = n
        · have hqb : ((q : Int) != (n : Int)) = false := by simp; omega
          have hdl : lenD g.2.2.2 st n = true := lenD_iff.2 (by have := HTV.out.der; rw [← HQ.out, hqn] at this; exact this)
          have hN0 : (0 : Int) < (N : Int) := by
            have h1 := (treesN_zero (rulesN_of HV.out) hstN).2 hdl
            rw [← HK.out] at h1
            omega
          obtain ⟨hrt, hcn, hmn⟩ := rated_of HV.out hstN HK.out hK9 hN0
          obtain ⟨ix, hix, hux⟩ := TV.num (rulesN_of HV.out) _ (Nat.le_refl _) HTV.out (by rw [← HQ.out, hqn]) hstN hmn (hrt st rfl).2.2.2
          have hany : ts.any (fun x => cmpT x t == 0) = true := by
            obtain ⟨x, hx⟩ : ∃ x, ts[ix]? = some x := ⟨_, List.getElem?_eq_getElem (by have := HTL.out; omega)⟩
            have hxu := (HROW.out ix x hx).1
            obtain rfl : x = t := Unr.det _ (Nat.le_refl _) hxu hux
            rw [List.any_eq_true]
            exact ⟨x, List.mem_of_getElem? hx, by rw [cmpT_refl]; rfl⟩
          have HANY := Lib.hid hany
          have HGD := Lib.hid (show ∀ x ∈ ts, (∀ y ∈ nodesT x, Leafy y) ∧ sizeT x ≤ 1000000 from fun x hx => by
            obtain ⟨k, hk⟩ := List.getElem?_of_mem hx
            obtain ⟨h1, h2⟩ := HROW.out k x hk
            exact ⟨h1.tv.leaves, by omega⟩)
          clear hdl hN0 hrt hcn hmn hux hany hqn
          --@13
          go_wp2_with fail
          refine (containsFnT w8 _ _ _ _ A12 _ c12 _ ts entersSame (tellsSame w8 w6.heap.size _ t A6 m6 c6 ((HB8.out.block _ (by omega)).trans HBT7.out) (HSL7.out.below HB8.out) HLV.out hsz6) (((HOW.out.sl).below HB57.out).below HB8.out) HGD.out (by omega)).mono ?_
          rintro e w9 ⟨rfl, hb9⟩
          rw [HANY.out]
          have HB9 := Lib.hid (HBF7.out.trans ((HB8.out.trans (hb9.mono hs8)).mono (by have := HBF7.out.size; omega)))
          clear hb9
          --@14
          go_wp2_with fail
          go_ret
          exact ⟨rfl, HB9.out⟩
        · have hqb : ((q : Int) != (n : Int)) = true := by simp; omega
          clear hqn
          go_wp2_with fail
          go_ret
          exact ⟨rfl, HBF7.out.trans (HB8.out.mono (by have := HBF7.out.size; omega))⟩
end Go.Proofs.Ythanhegomgbgbaa
