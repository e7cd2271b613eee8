/- merge.Of: the automaton of merged examples. -/
import Derived.Test.YtgaahpddlohjoaaMergeStart
import Derived.Test.YtgaahpddlohjoaaMergeM
import Derived.Test.YtgaahpddlohjoaaMergeCopy
import Derived.Test.YtgaahpddlohjoaaMergeCheck
import Derived.Test.YtgaahpddlohjoaaCanon
import Derived.Test.YtgaahpddlohjoaaTwo
import Derived.Test.YtgaahpddlohjoaaLate
import Derived.Deep.LoopGhost
import Derived.Deep.CutBlock
import Derived.Laws.ResultCell
namespace Go.Proofs.Ytgaahpddlohjoaa
open Go.RowKit

theorem Own.putM {w : World} {base g n c : Nat} {E : TypeId} {xs : List Value} (h : Own w base E 1 (.slice (some ⟨g, 0, none⟩) n c) n xs) {x : Nat} (hx : x < n) (v : Value) : Own (w.setCell ⟨g, x, none⟩ v) base E 1 (.slice (some ⟨g, 0, none⟩) n c) n (xs.set x v) := by
  obtain ⟨g', e, hb, ho⟩ := h.addr (by omega)
  injection e with e
  injection e with e _
  subst e
  exact .inl (ho.stored x v).1
theorem and_one {x : Nat} (hx : x < 4) : bits .and .i64 (x : Int) 1 = ((x % 2 : Nat) : Int) := by
  have h1 : x = 0 ∨ x = 1 ∨ x = 2 ∨ x = 3 := by omega
  rcases h1 with rfl | rfl | rfl | rfl <;> decide +kernel
/-- what merge.Of returns -/
def OfM (T : Nat) (yes no : List (List Int)) (base : Nat) (e : Ending) (w' : World) : Prop :=
  ∃ (L : List (List Int)) (m : MM) (A : Option Addr) (nA cA : Nat) (N : Option Addr) (n cN : Nat), e = .returned (.tuple #[.agg #[.int .i64 0, .slice A nA cA, .slice N n cN], .int .i64 0]) ∧
    Sl Rep.int w' (fun b => base ≤ b) A nA cA (canonD (endM m)).2.1 ∧ Sl RI w' (fun b => base ≤ b) N n cN (canonD (endM m)).2.2 ∧ MergeP T yes no L m ∧ L.length ≤ 200
/-- the row of the automaton after c columns -/
def endAt (l : List Nat) (r : List Int) (c : Nat) : List Int := (endRow l r).take c ++ r.drop c
theorem endAt_zero (l : List Nat) (r : List Int) : endAt l r 0 = r := by simp [endAt]
theorem endAt_len (l : List Nat) (r : List Int) (c : Nat) : (endAt l r c).length = r.length := by
  have : (endRow l r).length = r.length := List.length_map _
  unfold endAt
  rw [List.length_append, List.length_take, List.length_drop, this]
  omega
theorem endAt_full (l : List Nat) (r : List Int) : endAt l r r.length = endRow l r := by
  have : (endRow l r).length = r.length := List.length_map _
  unfold endAt
  rw [List.drop_length, List.append_nil, List.take_of_length_le (by omega)]
theorem endAt_get {l : List Nat} {r : List Int} {c : Nat} {x : Int} (hx : r[c]? = some x) : (endAt l r c)[c]? = some x := by
  have hl : (endRow l r).length = r.length := List.length_map _
  have hc := (List.getElem?_eq_some_iff.1 hx).1
  unfold endAt
  rw [List.getElem?_append_right (by rw [List.length_take]; omega), List.length_take, hl, Nat.min_eq_left (by omega), Nat.sub_self, List.getElem?_drop, Nat.add_zero]
  exact hx
theorem endAt_step {l : List Nat} {r : List Int} {c : Nat} {x : Int} (hx : r[c]? = some x) : (endAt l r c).set c (if x < 0 then x else (findP l x.toNat : Int)) = endAt l r (c + 1) := by
  obtain ⟨hc, hx'⟩ := List.getElem?_eq_some_iff.1 hx
  have hl : (endRow l r).length = r.length := List.length_map _
  have hj : (endRow l r)[c]? = some (if x < 0 then x else (findP l x.toNat : Int)) := by unfold endRow; rw [List.getElem?_map, hx]; rfl
  unfold endAt
  rw [take_succ_some hj, List.drop_eq_getElem_cons hc, List.set_append_right _ _ (by rw [List.length_take]; omega), List.length_take, hl, Nat.min_eq_left (by omega), Nat.sub_self, List.set_cons_zero, List.append_assoc]
  rfl
theorem endAt_same {l : List Nat} {r : List Int} {c : Nat} {x : Int} (hx : r[c]? = some x) (h0 : x < 0) : endAt l r (c + 1) = endAt l r c := by
  rw [← endAt_step hx, if_pos h0]
  obtain ⟨hc, e⟩ := List.getElem?_eq_some_iff.1 (endAt_get (l := l) hx)
  rw [← e]
  exact List.set_getElem_self hc
set_option linter.unusedSimpArgs false in
set_option maxRecDepth 1000000 in
set_option maxHeartbeats 8000000 in
theorem mergeOf (w : World) (T : Nat) (hT1 : 1 ≤ T) (hT2 : T ≤ 16) (S1 : Nat → Prop) (A1 : Option Addr) (n1 c1 : Nat) (yes : List (List Int)) (hy : Sl RIV w S1 A1 n1 c1 yes) (S2 : Nat → Prop) (A2 : Option Addr) (n2 c2 : Nat) (no : List (List Int)) (hno : Sl RIV w S2 A2 n2 c2 no)
    (h12 : n1 + n2 ≤ 40) (hws : ∀ x ∈ yes ++ no, x.length ≤ 12 ∧ ∀ y ∈ x, 0 ≤ y ∧ y < (T : Int)) (hsum : 1 + sumLen (yes ++ no) ≤ 200) (hd : ∀ x ∈ yes, x ∉ no) :
    Calls Try.prog 34 #[.int .i64 (T : Int), .slice A1 n1 c1, .slice A2 n2 c2] w fun e w' => OfM T yes no w.heap.size e w' ∧ Below w.heap.size w w' := by
  have HY := Lib.hid hy
  have HN := Lib.hid hno
  have HWS := Lib.hid hws
  have HSUM := Lib.hid hsum
  have HD := Lib.hid hd
  clear hy hno hws hsum hd
  go_enter Try.func34, Try.ntmps34
  go_wp2_with fail
  obtain ⟨w1, hw1⟩ : ∃ w1 : World, w1 = w.alloc (.cells #[.int .i64 0, .slice none 0 0, .slice none 0 0] 25) := ⟨_, rfl⟩
  rw [← hw1]
  have hz1 : w1.heap.size = w.heap.size + 1 := by rw [hw1]; simp
  have HB1 := Lib.hid (show Below w.heap.size w w1 by rw [hw1]; exact (Below.refl _ _).alloc (Nat.le_refl _) _)
  have HBR := Lib.hid (show w1.heap[w.heap.size]? = some (.cells #[.int .i64 0, .slice none 0 0, .slice none 0 0] 25 (0, 0)) by rw [hw1]; exact heap_alloc_new w _)
  clear hw1
  have hz1a : w.heap.size + 1 ≤ w1.heap.size := by omega
  have hz1b : w1.heap.size ≤ w.heap.size + 1 := by omega
  clear hz1
  refine (mergeCheck w1 (T : Int) _ A1 n1 c1 yes (HY.out.below HB1.out) _ A2 n2 c2 no (HN.out.below HB1.out) (by omega) (by omega) h12 (fun x hx => HWS.out x (List.mem_append_left _ hx)) (fun x hx => HWS.out x (List.mem_append_right _ hx)) HD.out).mono ?_
  rintro e w2 ⟨rfl, hb2⟩
  have HB2 := Lib.hid (HB1.out.trans (hb2.mono HB1.out.size))
  have HBB2 := Lib.hid hb2
  clear hb2
  go_wp2_with fail
  refine (mergeStart w2 T hT1 hT2 _ A1 n1 c1 yes (HY.out.below HB2.out) _ A2 n2 c2 no (HN.out.below HB2.out) h12 HWS.out HSUM.out).mono ?_
  rintro e w3 ⟨⟨L, Bs, ads, rfl, hpre, hL200, hM3, hF3⟩, hb3⟩
  obtain ⟨n, hn⟩ : ∃ n, n = (startM L T yes no).into.length := ⟨_, rfl⟩
  have hnL : n = L.length := by rw [hn]; simp [startM]
  have hn2 : n ≤ 200 := by omega
  have k0 := hM3.cells.1
  rw [← hn] at k0
  have HPRE := Lib.hid hpre
  have HNL := Lib.hid (And.intro hn hnL)
  have HM3 := Lib.hid hM3
  have HB3 := Lib.hid (HBB2.out.trans (hb3.mono HBB2.out.size))
  have hz3 := HB3.out.size
  clear hpre hM3 hF3 hb3 hn hnL
  go_wp2_with fail
  clear k0
  go_loopg [9, 10, 11, 12, 35] n (fun gk v9 _ _ _ v35 wr => ∃ (s : Nat) (m : MM) (Bx : Nat) (ad : Adr), s ≤ n ∧ gk = n - s ∧ v35 = .int .i64 (s : Int) ∧ v9 = .pointer (some ⟨Bx, 0, none⟩) ∧ Mach wr Bx ad T m ∧ m.into.length = n ∧ (∀ m', MOut n s m m' → MOut n 0 (startM L T yes no) m') ∧ Below w3.heap.size w3 wr)
  case atStart => exact ⟨0, _, _, _, Nat.zero_le _, rfl, rfl, rfl, HM3.out, HNL.out.1.symm, fun _ h => h, Below.refl _ _⟩
  case round =>
    obtain ⟨s, m, Bx, ad, hs, hgk, rfl, rfl, hM, hmn, hback, hb⟩ := hrel
    obtain ⟨w4, rfl⟩ : ∃ w4 : World, w4 = wr := ⟨_, rfl⟩
    have HGK := Lib.hid hgk
    have HM := Lib.hid hM
    have HMN := Lib.hid hmn
    have HBK := Lib.hid hback
    have HB := Lib.hid hb
    clear hgk hM hmn hback hb
    by_cases hlt : s < n
    · have hsI : (s : Int) < (n : Int) := by omega
      go_wp2_with fail
      go_loopg [9, 11, 12] s (fun gr v9 v11 _ wr => ∃ (r : Nat) (m1 : MM) (Bx : Nat) (ad : Adr), r ≤ s ∧ gr = s - r ∧ v11 = .int .i64 (r : Int) ∧ v9 = .pointer (some ⟨Bx, 0, none⟩) ∧ Mach wr Bx ad T m1 ∧ m1.into.length = n ∧ (∀ m', MIn s r m1 m' → MIn s 0 m m') ∧ Below w3.heap.size w3 wr)
      case atStart => exact ⟨0, _, _, _, Nat.zero_le _, rfl, rfl, rfl, HM.out, HMN.out, fun _ h => h, HB.out⟩
      case round =>
        obtain ⟨r, m1, Bx, ad, hr, hgr, rfl, rfl, hM, hmn, hback, hb⟩ := hrel
        obtain ⟨w5, rfl⟩ : ∃ w5 : World, w5 = wr := ⟨_, rfl⟩
        have HGR := Lib.hid hgr
        have HM5 := Lib.hid hM
        have HMN5 := Lib.hid hmn
        have HBK5 := Lib.hid hback
        have HB5 := Lib.hid hb
        have hz5 := hb.size
        have k0 := hM.cells.1
        rw [hmn] at k0
        have ks := hM.into_ (s := s) (by rw [hmn]; exact hlt)
        obtain ⟨us, hus⟩ : ∃ us, us = up m1.into s := ⟨_, rfl⟩
        rw [← hus] at ks
        have HUS := Lib.hid hus
        clear hgr hM hmn hback hb hus
        by_cases hstop : ¬ (r < s ∧ us = s)
        · have HOUT := Lib.hid (HBK5.out m1 (.done (by rw [← HUS.out]; exact hstop)))
          by_cases hrs : r < s
          · have hrI : decide ((r : Int) < (s : Int)) = true := by simp; omega
            have i1 : ((us : Int) == (s : Int)) = false := by simp; omega
            have i2 : decide (r < s) = true := by simp; omega
            clear hstop hrs
            go_wp2_with fail
            go_roundg (n - (s + 1))
            case measure => rw [HGK.out]; omega
            case rel => exact ⟨s + 1, m1, Bx, ad, by omega, rfl, by go_num, rfl, HM5.out, HMN5.out, fun m' h => HBK.out m' (.step hlt HOUT.out h), HB5.out⟩
          · have hrI : decide ((r : Int) < (s : Int)) = false := by simp; omega
            have i2 : decide (r < s) = false := by simp; omega
            clear hstop hrs
            go_wp2_with fail
            go_roundg (n - (s + 1))
            case measure => rw [HGK.out]; omega
            case rel => exact ⟨s + 1, m1, Bx, ad, by omega, rfl, by go_num, rfl, HM5.out, HMN5.out, fun m' h => HBK.out m' (.step hlt HOUT.out h), HB5.out⟩
        · obtain ⟨hrs, hus⟩ : r < s ∧ us = s := Classical.byContradiction hstop
          subst hus
          have hrI : decide ((r : Int) < (us : Int)) = true := by simp; omega
          have hrIN : decide (r < us) = true := by simp; omega
          have kr := HM5.out.into_ (s := r) (by rw [HMN5.out]; omega)
          obtain ⟨ur, hur⟩ : ∃ ur, ur = up m1.into r := ⟨_, rfl⟩
          rw [← hur] at kr
          have hule : ur ≤ r := by rw [hur]; exact HM5.out.ok.dn r
          have HUR := Lib.hid hur
          have hrn : (r : Int) < (n : Int) := by omega
          clear hstop hur
          by_cases hne : ur = r
          · subst hne
            have i3 : ((ur : Int) != (ur : Int)) = false := by simp
            go_wp2_with fail
            refine (machCopy w5 Bx ad T m1 HM5.out).mono ?_
            rintro e w6 ⟨⟨Bc, adc, rfl, hMc, hFc⟩, hb6⟩
            have HMC := Lib.hid hMc
            have HFC := Lib.hid hFc
            have HB6 := Lib.hid hb6
            clear hMc hFc hb6
            go_wp2_with fail
            refine (machMerge w6 w5.heap.size Bc adc T m1 HMC.out HFC.out HB6.out.size ur us (by rw [HMN5.out]; omega) (by rw [HMN5.out]; exact hlt)).mono ?_
            rintro e w7 ⟨⟨res, hrun, rfl, hres⟩, hb7⟩
            have HRES := Lib.hid hres
            have HRUN := Lib.hid hrun
            have HB7 := Lib.hid (HB6.out.trans hb7)
            have HB37 := Lib.hid (HB5.out.trans (HB7.out.mono hz5))
            clear hres hrun hb7 kr ks k0
            cases res with
            | none =>
              have i4 : (none : Option MM).isSome = false := rfl
              go_wp2_with fail
              go_roundg (us - (ur + 1))
              case measure => rw [HGR.out]; omega
              case rel => exact ⟨ur + 1, m1, Bx, ad, by omega, rfl, by go_num, rfl, HM5.out.below HB7.out, HMN5.out, fun m' h => HBK5.out m' (.no hrs HUS.out.symm HUR.out.symm HRUN.out h), HB37.out⟩
            | some m2 =>
              have i4 : (some m2).isSome = true := rfl
              go_wp2_with fail
              go_roundg (us - (ur + 1))
              case measure => rw [HGR.out]; omega
              case rel => exact ⟨ur + 1, m2, Bc, adc, by omega, rfl, by go_num, rfl, HRES.out m2 rfl, (HRUN.out.ok' HM5.out.ok (wlt_one hrs (by rw [HMN5.out]; exact hlt))).2.trans HMN5.out, fun m' h => HBK5.out m' (.yes hrs HUS.out.symm HUR.out.symm HRUN.out h), HB37.out⟩
          · have i3 : ((ur : Int) != (r : Int)) = true := by simp; omega
            clear hne
            have hne : up m1.into r ≠ r := by rw [← HUR.out]; intro e; rw [e] at i3; simp at i3
            have HNE := Lib.hid hne
            clear hne
            go_wp2_with fail
            go_roundg (us - (r + 1))
            case measure => rw [HGR.out]; omega
            case rel => exact ⟨r + 1, m1, Bx, ad, by omega, rfl, by go_num, rfl, HM5.out, HMN5.out, fun m' h => HBK5.out m' (.skip hrs HUS.out.symm HNE.out h), HB5.out⟩
    · obtain rfl : s = n := by omega
      have hsI : ¬ (s : Int) < (s : Int) := by omega
      have HOUT := Lib.hid (show MOut s 0 (startM L T yes no) m from HBK.out m (.done (Nat.le_refl _)))
      have hz4 := HB.out.size
      have HDF0 := Lib.hid (DfaB.start_ w4 0)
      obtain ⟨w5, hw5⟩ : ∃ w5 : World, w5 = w4.alloc (.cells #[.int .i64 0, .slice none 0 0, .slice none 0 0] 25) := ⟨_, rfl⟩
      have HB5 := Lib.hid (show Below w4.heap.size w4 w5 by rw [hw5]; exact (Below.refl _ _).alloc (Nat.le_refl _) _)
      rw [← hw5] at HDF0
      obtain ⟨Bd, hBd⟩ : ∃ Bd, Bd = w4.heap.size := ⟨_, rfl⟩
      have k0 := (HM.out.below HB5.out).cells.1
      rw [HMN.out, hw5] at k0
      have HBD := Lib.hid hBd
      have hbx := HM.out.lt.2.1
      go_wp2_with fail
      rw [← hw5]
      rw [← hBd] at HDF0 ⊢
      clear hw5 hBd
      clear k0
      go_loopg [14, 15, 16, 17, 76] s (fun gk _ _ _ _ v76 wr => ∃ (t : Nat) (vA vN : Value) (xs : List Value), t ≤ s ∧ gk = s - t ∧ v76 = .int .i64 (t : Int) ∧ DfaB wr (Bd + 1) Bd 0 ((m.mark.map endAcc).take t) ((m.next.map (endRow m.into)).take t) vA vN xs ∧ Below w4.heap.size w4 wr)
      case atStart => exact ⟨0, _, _, _, Nat.zero_le _, rfl, rfl, HDF0.out, HB5.out⟩
      case round =>
        obtain ⟨t, vA, vN, xs, ht, hgt, rfl, hdf, hb6⟩ := hrel
        obtain ⟨w6, rfl⟩ : ∃ w6 : World, w6 = wr := ⟨_, rfl⟩
        have HGT := Lib.hid hgt
        have HDF := Lib.hid hdf
        have HB6 := Lib.hid hb6
        have HM6 := Lib.hid (HM.out.below hb6)
        have hbd6 : Bd + 1 ≤ w6.heap.size := hdf.le
        clear hgt hdf hb6
        by_cases hlt2 : t < s
        · have k1 := HM6.out.cells.2.1
          rw [HMN.out] at k1
          have kr := HM6.out.row_ (s := t) (by rw [HMN.out]; exact hlt2)
          have hro := HM6.out.ok.rowAt (a := t) (by rw [HMN.out]; exact hlt2)
          have hrw := HM6.out.rows t (by rw [HMN.out]; exact hlt2)
          obtain ⟨r, hr⟩ : ∃ r, r = m.row t := ⟨_, rfl⟩
          obtain ⟨gt, hgt⟩ : ∃ g, g = ad.g t := ⟨_, rfl⟩
          obtain ⟨ct, hct⟩ : ∃ c, c = ad.c t := ⟨_, rfl⟩
          rw [← hgt, ← hct] at kr
          rw [← hr] at hro hrw
          rw [← hgt] at hrw
          have HRO := Lib.hid hro
          have HR := Lib.hid hr
          have HRD := Lib.hid (show Rd w6 (fun _ => True) 1 (some ⟨gt, 0, none⟩) T (r.map (Value.int .i64)) from ⟨by simp [hro.2.1], fun _ => ⟨gt, 0, rfl, trivial, fun j u hu => by
            rw [List.getElem?_map] at hu
            cases e : r[j]? with
            | none => rw [e] at hu; cases hu
            | some v =>
              rw [e] at hu
              injection hu with hu
              subst hu
              rw [Nat.zero_add]
              exact hrw.at_ e⟩⟩)
          have htI : (t : Int) < (s : Int) := by omega
          clear hr hgt hct hro hrw
          go_wp2_with fail
          refine (cloneInt _ T _ _ _ w6 HRD.out (by omega)).mono ?_
          rintro e w7 ⟨v7, rfl, ho7, hb7⟩
          obtain ⟨A7, c7, rfl, hc7, _⟩ := ho7.form
          obtain ⟨g7, rfl, hg7, _, _, _⟩ := ho7.rowI (by omega)
          have HO7 := Lib.hid ho7
          have HB7 := Lib.hid hb7
          have hz7 := hb7.size
          have HDF7 := Lib.hid (HDF.out.below hb7)
          have HG7 := Lib.hid hg7
          clear ho7 hb7 k1 kr
          go_wp2_with fail
          go_loopg [16, 17, 89] T (fun gc _ _ v89 wr => ∃ c : Nat, c ≤ T ∧ gc = T - c ∧ v89 = .int .i64 (c : Int) ∧ Own wr w6.heap.size 3 1 (.slice (some ⟨g7, 0, none⟩) T c7) T ((endAt m.into r c).map (Value.int .i64)) ∧ w7.grownBy wr (some g7))
          case atStart => exact ⟨0, Nat.zero_le _, rfl, rfl, by rw [endAt_zero]; exact HO7.out, World.grownBy.refl _ _⟩
          case round =>
            obtain ⟨c, hc, hgc, rfl, ho8, hg8⟩ := hrel
            obtain ⟨w8, rfl⟩ : ∃ w8 : World, w8 = wr := ⟨_, rfl⟩
            have HGC := Lib.hid hgc
            have HO8 := Lib.hid ho8
            have HG8 := Lib.hid hg8
            have hbd4 : w4.heap.size ≤ g7 := by have := HBD.out; omega
            have HB8 := Lib.hid (show Below w4.heap.size w4 w8 from (HB6.out.trans (HB7.out.mono (by have := HBD.out; omega))).grown hg8 (by have := HBD.out; omega) (fun k hk => by injection hk with hk; omega))
            have HM8 := Lib.hid (HM.out.below HB8.out)
            have hz8 := hg8.size
            clear hgc hg8
            by_cases hcT : c < T
            · obtain ⟨x, hx⟩ : ∃ x, r[c]? = some x := ⟨_, List.getElem?_eq_getElem (by rw [HRO.out.2.1]; exact hcT)⟩
              obtain ⟨g', eg', _, hri, _, _⟩ := ho8.rowI (by omega)
              injection eg' with eg'
              injection eg' with eg'
              subst eg'
              have kx := hri.at_ (endAt_get (l := m.into) hx)
              have hfr := hri.fr c
              have hxr := HRO.out.2.2 x (List.mem_of_getElem? hx)
              rw [HMN.out] at hxr
              have HX := Lib.hid hx
              have hcI : (c : Int) < (T : Int) := by omega
              clear ho8 hri hx
              by_cases hx0 : x < 0
              · have i5 : decide (0 ≤ x) = false := by simp; omega
                clear hxr
                go_wp2_with fail
                go_roundg (T - (c + 1))
                case measure => rw [HGC.out]; omega
                case rel => exact ⟨c + 1, by omega, rfl, by go_num, by rw [endAt_same HX.out hx0]; exact HO8.out, HG8.out⟩
              · have i5 : decide (0 ≤ x) = true := by simp; omega
                obtain ⟨xn, rfl⟩ : ∃ xn : Nat, x = (xn : Int) := ⟨x.toNat, by omega⟩
                have hxn : xn < s := by omega
                have hst := endAt_step (l := m.into) HX.out
                rw [if_neg hx0, Int.toNat_natCast] at hst
                have HST := Lib.hid hst
                clear hxr hst
                go_wp2_with fail
                refine (machFind w8 Bx ad T m HM8.out xn (by rw [HMN.out]; exact hxn)).mono ?_
                rintro e _ ⟨rfl, rfl⟩
                obtain ⟨fx, hfx⟩ : ∃ fx, fx = findP m.into xn := ⟨_, rfl⟩
                rw [← hfx] at HST ⊢
                clear hfx
                go_wp2_with fail
                go_roundg (T - (c + 1))
                case measure => rw [HGC.out]; omega
                case rel =>
                  refine ⟨c + 1, by omega, rfl, by go_num, ?_, HG8.out.trans (set_grown w8 c _)⟩
                  have h1 := HO8.out.putM (x := c) hcT (.int .i64 (fx : Int))
                  rw [← HST.out, List.map_set]
                  exact h1
            · obtain rfl : c = T := by omega
              have hcI : ¬ (c : Int) < (c : Int) := by omega
              have ho9 := HO8.out
              rw [show endAt m.into r c = endRow m.into r by rw [← endAt_full m.into r, HRO.out.2.1]] at ho9
              obtain ⟨r2, hr2⟩ : ∃ r2, r2 = endRow m.into r := ⟨_, rfl⟩
              have hr2l : r2.length = c := by rw [hr2]; show (List.map _ r).length = _; rw [List.length_map, HRO.out.2.1]
              rw [← hr2] at ho9
              obtain ⟨mk, hmk⟩ : ∃ mk, mk = m.mk1 t := ⟨_, rfl⟩
              have hmkA := HM.out.ok.markAt (a := t) (by rw [HMN.out]; exact hlt2)
              rw [← hmk] at hmkA
              have hmk4 := hmkA.2
              obtain ⟨pk, hpk⟩ : ∃ pk, pk = mk % 2 := ⟨_, rfl⟩
              have hand : bits .and .i64 (mk : Int) 1 = (pk : Int) := by rw [hpk]; exact and_one hmk4
              have hpk2 : pk < 2 := by omega
              obtain ⟨x, hx⟩ : ∃ x, x = endAcc mk := ⟨_, rfl⟩
              have hpx : (pk : Int) - 1 = x := by rw [hx, hpk]; rfl
              have hxr : -1 ≤ x ∧ x ≤ 0 := by omega
              have hwx : IntKind.i64.wrap x = x := by rw [IntKind.wrap_i64]; omega
              have hlow := HDF.out.low
              have hrow7 : rowOf (.slice (some ⟨g7, 0, none⟩) c c7) = some g7 := by
                obtain ⟨k, rfl⟩ : ∃ k, c7 = k + 1 := ⟨c7 - 1, by omega⟩
                rfl
              have hdf8 : DfaB w8 (Bd + 1) Bd 0 ((m.mark.map endAcc).take t) ((m.next.map (endRow m.into)).take t) vA vN xs := HDF7.out.grown2 hlow HG8.out fun g e => by
                injection e with e
                subst e
                exact ⟨by omega, hg7⟩
              have hTZ : TwoZ (fun _ => False) w8.drew w8.drew (Bd + 1) Bd 0 ((m.mark.map endAcc).take t) ((m.next.map (endRow m.into)).take t) vA vN xs r2 x (some (.slice (some ⟨g7, 0, none⟩) c c7)) none none none none :=
                hdf8.drew.twoZ r2 x (by rw [hr2l]; exact (ho9.mono (by omega)).drewN 1) (fun g e e' => by rw [hrow7] at e; injection e with e; subst e; have := hlow.1 _ e'; omega) (fun g e e' => by rw [hrow7] at e; injection e with e; subst e; have := hlow.2.1 _ e'; omega)
                  (fun b hb => hb.elim) (fun b hb => hb.elim) (fun b hb => hb.elim)
              have HT := Lib.hid hTZ
              have HALL := Lib.hid (show ∀ u : World, Below (Bd + 1) w8.drew u → (∀ b : Nat, False → u.heap[b]? = w8.drew.heap[b]?) → u.cell? ⟨Bx, 2, none⟩ = some (.slice (some ⟨ad.M, 0, none⟩) s ad.cM) ∧ u.cell? ⟨ad.M, t, none⟩ = some (.int .i64 (mk : Int)) from fun u hu _ => by
                have h1 := HM.out.below (HB8.out.trans ((Below.refl w8.heap.size w8).drew.mono (by have := HB8.out.size; omega) |>.trans (hu.mono (by have := HBD.out; omega))))
                have h2 := h1.cells.2.2
                have h3 := h1.mark_ (s := t) (by rw [HMN.out]; exact hlt2)
                rw [HMN.out] at h2
                rw [← hmk] at h3
                exact ⟨h2, h3⟩)
              have HK0 := Lib.hid (HALL.out _ (Below.refl _ _) (fun _ h => h.elim))
              have HKS := Lib.hid (show w8.drew.cell? ⟨Bd, 1, none⟩ = some vA ∧ w8.drew.cell? ⟨Bd, 2, none⟩ = some vN from ⟨hdf8.cellA, hdf8.cellN⟩)
              have hlt9 := HM.out.lt
              have HNE := Lib.hid (show Bx ≠ Bd ∧ ad.M ≠ Bd ∧ ((m.mark.map endAcc).take t).length ≤ 1000000 ∧ ((m.next.map (endRow m.into)).take t).length ≤ 1000000 from ⟨by have := HBD.out; have := hlt9.2.1; omega, by have := HBD.out; have := hlt9.2.2.2.2.1; omega, by rw [List.length_take]; omega, by rw [List.length_take]; omega⟩)
              have HEND := Lib.hid (show (m.mark.map endAcc).take (t + 1) = (m.mark.map endAcc).take t ++ [x] ∧ (m.next.map (endRow m.into)).take (t + 1) = (m.next.map (endRow m.into)).take t ++ [r2] from ⟨by
                rw [take_succ_some (x := x)]
                rw [List.getElem?_map, hmkA.1, hx]
                rfl, by
                rw [take_succ_some (x := r2)]
                rw [List.getElem?_map, HRO.out.1, hr2]
                rfl⟩)
              clear ho8 ho9 hr2 hr2l hmk hmkA hmk4 hpk hx hlow hrow7 hdf8 hTZ hlt9
              go_wp2_with fail
              refine wp_region_late (late := [19, 21]) (S1 := fun u => u.cell? ⟨Bx, 2, none⟩ = some (.slice (some ⟨ad.M, 0, none⟩) s ad.cM) ∧ u.cell? ⟨ad.M, t, none⟩ = some (.int .i64 (mk : Int))) (S := fun u => u.cell? ⟨Bd, 1, none⟩ = some vA ∧ u.cell? ⟨Bd, 2, none⟩ = some vN) (by kernel_rfl) ?_
              refine wpAnyL_pure (i := 0) rfl (by kernel_rfl) (fun _ _ _ h => h) (Or.inl ⟨by rfl, (fun u hu => by obtain ⟨k0, k1⟩ := hu; go_simp; try rfl)⟩) HK0.out (fun _ => HKS.out) ?_
              simp only [Act.put, List.setIfInBounds_toArray, List.set_cons_zero, List.set_cons_succ, List.getElem_toArray, List.getElem_cons_zero, List.getElem_cons_succ]
              refine wpAnyL_take (i := 1) rfl (by kernel_rfl) (fun _ _ _ h => h) (Or.inl ⟨by rfl, (fun u hu => by obtain ⟨_, hu3, hu4⟩ := hu; go_simp; try rfl)⟩) HK0.out (fun _ => HKS.out) ?_
              simp only [Act.put, List.setIfInBounds_toArray, List.set_cons_zero, List.set_cons_succ, List.getElem_toArray, List.getElem_cons_zero, List.getElem_cons_succ]
              refine wpAnyL_pure (i := 2) rfl (by kernel_rfl) (fun _ _ _ h => h) (Or.inl ⟨by rfl, (fun u hu => by obtain ⟨k0, k1⟩ := hu; go_simp; try rfl)⟩) HK0.out (fun _ => HKS.out) ?_
              simp only [Act.put, List.setIfInBounds_toArray, List.set_cons_zero, List.set_cons_succ, List.getElem_toArray, List.getElem_cons_zero, List.getElem_cons_succ]
              refine wpAnyL_pure (i := 5) rfl (by kernel_rfl) (fun _ _ _ h => h) (Or.inl ⟨by rfl, (fun u hu => by obtain ⟨k0, k1⟩ := hu; go_simp; try rfl)⟩) HK0.out (fun _ => HKS.out) ?_
              simp only [Act.put, List.setIfInBounds_toArray, List.set_cons_zero, List.set_cons_succ, List.getElem_toArray, List.getElem_cons_zero, List.getElem_cons_succ]
              refine wpAnyL_take (i := 6) rfl (by kernel_rfl) (fun _ _ _ h => h) (Or.inl ⟨by rfl, (fun u hu => by obtain ⟨_, hu3, hu4⟩ := hu; go_simp; try rfl)⟩) HK0.out (fun _ => HKS.out) ?_
              simp only [Act.put, List.setIfInBounds_toArray, List.set_cons_zero, List.set_cons_succ, List.getElem_toArray, List.getElem_cons_zero, List.getElem_cons_succ]
              refine wpAnyL_pure (i := 7) rfl (by kernel_rfl) (fun _ _ _ h => h) (Or.inl ⟨by rfl, (fun u hu => by obtain ⟨k0, k1⟩ := hu; go_simp; try rfl)⟩) HK0.out (fun _ => HKS.out) ?_
              simp only [Act.put, List.setIfInBounds_toArray, List.set_cons_zero, List.set_cons_succ, List.getElem_toArray, List.getElem_cons_zero, List.getElem_cons_succ]
              refine wpAnyL_pure (i := 8) rfl (by kernel_rfl) (fun _ _ _ h => h) (Or.inl ⟨by rfl, (fun u hu => by obtain ⟨k0, k1⟩ := hu; go_simp; try rfl)⟩) HK0.out (fun _ => HKS.out) ?_
              simp only [Act.put, List.setIfInBounds_toArray, List.set_cons_zero, List.set_cons_succ, List.getElem_toArray, List.getElem_cons_zero, List.getElem_cons_succ]
              refine wpAnyL_pure (i := 9) rfl (by kernel_rfl) (fun _ _ _ h => h) (Or.inl ⟨by rfl, (fun u hu => by obtain ⟨k0, k1⟩ := hu; go_simp; try rfl)⟩) HK0.out (fun _ => HKS.out) ?_
              simp only [Act.put, List.setIfInBounds_toArray, List.set_cons_zero, List.set_cons_succ, List.getElem_toArray, List.getElem_cons_zero, List.getElem_cons_succ]
              refine wpAnyL_pure (i := 10) rfl (by kernel_rfl) (fun _ _ _ h => h) (Or.inl ⟨by rfl, (fun u hu => by obtain ⟨k0, k1⟩ := hu; go_simp; try rfl)⟩) HK0.out (fun _ => HKS.out) ?_
              simp only [Act.put, List.setIfInBounds_toArray, List.set_cons_zero, List.set_cons_succ, List.getElem_toArray, List.getElem_cons_zero, List.getElem_cons_succ]
              refine wpAnyL_pure (i := 11) rfl (by kernel_rfl) (fun _ _ _ h => h) (Or.inl ⟨by rfl, (fun u hu => by obtain ⟨k0, k1⟩ := hu; go_simp; try rfl)⟩) HK0.out (fun _ => HKS.out) ?_
              simp only [Act.put, List.setIfInBounds_toArray, List.set_cons_zero, List.set_cons_succ, List.getElem_toArray, List.getElem_cons_zero, List.getElem_cons_succ]
              refine wpAnyL_pure (i := 12) rfl (by kernel_rfl) (fun _ _ _ h => h) (Or.inl ⟨by rfl, (fun u hu => by obtain ⟨k0, k1⟩ := hu; go_simp; try rfl)⟩) HK0.out (fun _ => HKS.out) ?_
              simp only [Act.put, List.setIfInBounds_toArray, List.set_cons_zero, List.set_cons_succ, List.getElem_toArray, List.getElem_cons_zero, List.getElem_cons_succ]
              refine wpAnyL_pure (i := 13) rfl (by kernel_rfl) (fun _ _ _ h => h) (Or.inl ⟨by rfl, (fun u hu => by obtain ⟨k0, k1⟩ := hu; go_simp; try rfl)⟩) HK0.out (fun _ => HKS.out) ?_
              simp only [Act.put, List.setIfInBounds_toArray, List.set_cons_zero, List.set_cons_succ, List.getElem_toArray, List.getElem_cons_zero, List.getElem_cons_succ]
              refine wpAnyL_pure (i := 14) rfl (by kernel_rfl) (fun _ _ _ h => h) (Or.inl ⟨by rfl, (fun u hu => by obtain ⟨k0, k1⟩ := hu; go_simp; try rfl)⟩) HK0.out (fun _ => HKS.out) ?_
              simp only [Act.put, List.setIfInBounds_toArray, List.set_cons_zero, List.set_cons_succ, List.getElem_toArray, List.getElem_cons_zero, List.getElem_cons_succ]
              refine wpAnyL_pure (i := 15) rfl (by kernel_rfl) (fun _ _ _ h => h) (Or.inl ⟨by rfl, (fun u hu => by obtain ⟨k0, k1⟩ := hu; go_simp; try rfl)⟩) HK0.out (fun _ => HKS.out) ?_
              simp only [Act.put, List.setIfInBounds_toArray, List.set_cons_zero, List.set_cons_succ, List.getElem_toArray, List.getElem_cons_zero, List.getElem_cons_succ]
              refine wpAnyL_ready (rs := [3, 16]) (by kernel_rfl) (by simp) ?_
              refine AllL.cons rfl (fun K hK => ?_) ?_
              · go_simp
                have HT1 := Lib.hid (HT.out.allocN _ (by first | exact World.size_alloc _ _ | rfl) 22)
                refine hK.out _ _ (HALL.out _ HT1.out.below HT1.out.keep) (fun _ => ⟨HT1.out.two.cellA, HT1.out.two.cellN⟩) ?_
                clear hK K
                refine wpAnyL_ready (rs := [4, 16]) (by kernel_rfl) (by simp) ?_
                refine AllL.cons rfl (fun K hK => ?_) ?_
                · obtain ⟨u2, w2, hrun, ⟨A2, c2, rfl⟩, hT⟩ := HT1.out.appN HNE.out.2.2.2
                  have HT2 := Lib.hid hT
                  have HR2 := Lib.hid hrun
                  clear hT hrun
                  refine step_append_run _ (by rfl) _ _ _ _ (by rfl) _ _ (by rfl) (by rfl) _ _ HR2.out ?_
                  simp only [Act.put, List.setIfInBounds_toArray, List.set_cons_zero, List.set_cons_succ, List.getElem_toArray, List.getElem_cons_zero, List.getElem_cons_succ]
                  refine hK.out _ _ (HALL.out _ HT2.out.below HT2.out.keep) (fun _ => ⟨HT2.out.two.cellA, HT2.out.two.cellN⟩) ?_
                  clear hK K
                  refine wpAnyL_pure (i := 18) rfl (by kernel_rfl) (fun _ _ _ h => h) (Or.inl ⟨by rfl, (fun u hu => by obtain ⟨k0, k1⟩ := hu; go_simp; try rfl)⟩) (HALL.out _ HT2.out.below HT2.out.keep) (fun _ => ⟨HT2.out.two.cellA, HT2.out.two.cellN⟩) ?_
                  simp only [Act.put, List.setIfInBounds_toArray, List.set_cons_zero, List.set_cons_succ, List.getElem_toArray, List.getElem_cons_zero, List.getElem_cons_succ]
                  refine wpAnyL_ready (rs := [16]) (by kernel_rfl) (by simp) ?_
                  refine AllL.cons rfl (fun K hK => ?_) ?_
                  · go_simp
                    have HT3 := Lib.hid (HT2.out.allocA _ (by first | exact World.size_alloc _ _ | rfl) 3)
                    refine hK.out _ _ (HALL.out _ HT3.out.below HT3.out.keep) (fun _ => ⟨HT3.out.two.cellA, HT3.out.two.cellN⟩) ?_
                    clear hK K
                    refine wpAnyL_ready (rs := [17]) (by kernel_rfl) (by simp) ?_
                    refine AllL.cons rfl (fun K hK => ?_) ?_
                    · obtain ⟨u4, w4, hrun, ⟨A4, c4, rfl⟩, hT⟩ := HT3.out.appA HNE.out.2.2.1
                      have HT4 := Lib.hid hT
                      have HR4 := Lib.hid hrun
                      clear hT hrun
                      refine step_append_run _ (by rfl) _ _ _ _ (by rfl) _ _ (by rfl) (by rfl) _ _ HR4.out ?_
                      simp only [Act.put, List.setIfInBounds_toArray, List.set_cons_zero, List.set_cons_succ, List.getElem_toArray, List.getElem_cons_zero, List.getElem_cons_succ]
                      refine hK.out _ _ (HALL.out _ HT4.out.below HT4.out.keep) (fun _ => ⟨HT4.out.two.cellA, HT4.out.two.cellN⟩) ?_
                      clear hK K
                      refine wpAnyL_ready (rs := [19]) (by kernel_rfl) (by simp) ?_
                      refine AllL.cons rfl (fun K hK => ?_) ?_
                      · have hc := HT4.out.two.cellN
                        have hf := HT4.out.two.fr 2
                        go_simp
                        clear hc hf
                        refine hK.out _ _ ⟨(setOther _ (p := ⟨Bd, 2, none⟩) (HALL.out _ HT4.out.below HT4.out.keep).1 HNE.out.1), (setOther _ (p := ⟨Bd, 2, none⟩) (HALL.out _ HT4.out.below HT4.out.keep).2 HNE.out.2.1)⟩ (fun h => absurd (h 19 (by simp)) (by decide)) ?_
                        clear hK K
                        refine wpAnyL_pure (i := 20) rfl (by kernel_rfl) (fun _ _ _ h => h) (Or.inl ⟨by rfl, (fun u hu => by obtain ⟨k0, k1⟩ := hu; go_simp; try rfl)⟩) ⟨(setOther _ (p := ⟨Bd, 2, none⟩) (HALL.out _ HT4.out.below HT4.out.keep).1 HNE.out.1), (setOther _ (p := ⟨Bd, 2, none⟩) (HALL.out _ HT4.out.below HT4.out.keep).2 HNE.out.2.1)⟩ (fun h => absurd (h 19 (by simp)) (by decide)) ?_
                        simp only [Act.put, List.setIfInBounds_toArray, List.set_cons_zero, List.set_cons_succ, List.getElem_toArray, List.getElem_cons_zero, List.getElem_cons_succ]
                        refine wpAnyL_ready (rs := [21]) (by kernel_rfl) (by simp) ?_
                        refine AllL.cons rfl (fun K hK => ?_) ?_
                        · have hc := fun u => setOther0 (u := u) (HT4.out.two.cellA) (HT4.out.two.fr 1)
                          have hc1 := fun u => (hc u).1
                          have hc2 := fun u => (hc u).2
                          clear hc
                          go_simp
                          clear hc1 hc2
                          refine hK.out _ _ ⟨(setOther _ (p := ⟨Bd, 1, none⟩) (setOther _ (p := ⟨Bd, 2, none⟩) (HALL.out _ HT4.out.below HT4.out.keep).1 HNE.out.1) HNE.out.1), (setOther _ (p := ⟨Bd, 1, none⟩) (setOther _ (p := ⟨Bd, 2, none⟩) (HALL.out _ HT4.out.below HT4.out.keep).2 HNE.out.2.1) HNE.out.2.1)⟩ (fun h => absurd (h 19 (by simp)) (by decide)) ?_
                          clear hK K
                          refine wpAnyL_done (by kernel_rfl) ?_ _
                          go_wp2_with fail
                          have hdone := HT4.out.done
                          have hbel := HT4.out.below
                          go_roundg (s - (t + 1))
                          case measure => rw [HGT.out]; omega
                          case rel =>
                            have h1 := hdone.1
                            rw [← HEND.out.1, ← HEND.out.2] at h1
                            simp only [List.length_take, List.length_map] at h1
                            exact ⟨t + 1, _, _, _, by omega, rfl, by go_num, h1, ((HB8.out.drew.trans (hbel.mono (by have := HBD.out; omega))).setCell (by have := HBD.out; show _ ≤ Bd; omega) _).setCell (by have := HBD.out; show _ ≤ Bd; omega) _⟩
                        exact AllL.nil
                      exact AllL.nil
                    exact AllL.nil
                  exact AllL.nil
                refine AllL.cons rfl (fun K hK => ?_) ?_
                · go_simp
                  have HT7 := Lib.hid (HT1.out.allocA _ (by first | exact World.size_alloc _ _ | rfl) 3)
                  refine hK.out _ _ (HALL.out _ HT7.out.below HT7.out.keep) (fun _ => ⟨HT7.out.two.cellA, HT7.out.two.cellN⟩) ?_
                  clear hK K
                  refine wpAnyL_ready (rs := [4]) (by kernel_rfl) (by simp) ?_
                  refine AllL.cons rfl (fun K hK => ?_) ?_
                  · obtain ⟨u8, w8, hrun, ⟨A8, c8, rfl⟩, hT⟩ := HT7.out.appN HNE.out.2.2.2
                    have HT8 := Lib.hid hT
                    have HR8 := Lib.hid hrun
                    clear hT hrun
                    refine step_append_run _ (by rfl) _ _ _ _ (by rfl) _ _ (by rfl) (by rfl) _ _ HR8.out ?_
                    simp only [Act.put, List.setIfInBounds_toArray, List.set_cons_zero, List.set_cons_succ, List.getElem_toArray, List.getElem_cons_zero, List.getElem_cons_succ]
                    refine hK.out _ _ (HALL.out _ HT8.out.below HT8.out.keep) (fun _ => ⟨HT8.out.two.cellA, HT8.out.two.cellN⟩) ?_
                    clear hK K
                    refine wpAnyL_pure (i := 18) rfl (by kernel_rfl) (fun _ _ _ h => h) (Or.inl ⟨by rfl, (fun u hu => by obtain ⟨k0, k1⟩ := hu; go_simp; try rfl)⟩) (HALL.out _ HT8.out.below HT8.out.keep) (fun _ => ⟨HT8.out.two.cellA, HT8.out.two.cellN⟩) ?_
                    simp only [Act.put, List.setIfInBounds_toArray, List.set_cons_zero, List.set_cons_succ, List.getElem_toArray, List.getElem_cons_zero, List.getElem_cons_succ]
                    refine wpAnyL_ready (rs := [17]) (by kernel_rfl) (by simp) ?_
                    refine AllL.cons rfl (fun K hK => ?_) ?_
                    · obtain ⟨u9, w9, hrun, ⟨A9, c9, rfl⟩, hT⟩ := HT8.out.appA HNE.out.2.2.1
                      have HT9 := Lib.hid hT
                      have HR9 := Lib.hid hrun
                      clear hT hrun
                      refine step_append_run _ (by rfl) _ _ _ _ (by rfl) _ _ (by rfl) (by rfl) _ _ HR9.out ?_
                      simp only [Act.put, List.setIfInBounds_toArray, List.set_cons_zero, List.set_cons_succ, List.getElem_toArray, List.getElem_cons_zero, List.getElem_cons_succ]
                      refine hK.out _ _ (HALL.out _ HT9.out.below HT9.out.keep) (fun _ => ⟨HT9.out.two.cellA, HT9.out.two.cellN⟩) ?_
                      clear hK K
                      refine wpAnyL_ready (rs := [19]) (by kernel_rfl) (by simp) ?_
                      refine AllL.cons rfl (fun K hK => ?_) ?_
                      · have hc := HT9.out.two.cellN
                        have hf := HT9.out.two.fr 2
                        go_simp
                        clear hc hf
                        refine hK.out _ _ ⟨(setOther _ (p := ⟨Bd, 2, none⟩) (HALL.out _ HT9.out.below HT9.out.keep).1 HNE.out.1), (setOther _ (p := ⟨Bd, 2, none⟩) (HALL.out _ HT9.out.below HT9.out.keep).2 HNE.out.2.1)⟩ (fun h => absurd (h 19 (by simp)) (by decide)) ?_
                        clear hK K
                        refine wpAnyL_pure (i := 20) rfl (by kernel_rfl) (fun _ _ _ h => h) (Or.inl ⟨by rfl, (fun u hu => by obtain ⟨k0, k1⟩ := hu; go_simp; try rfl)⟩) ⟨(setOther _ (p := ⟨Bd, 2, none⟩) (HALL.out _ HT9.out.below HT9.out.keep).1 HNE.out.1), (setOther _ (p := ⟨Bd, 2, none⟩) (HALL.out _ HT9.out.below HT9.out.keep).2 HNE.out.2.1)⟩ (fun h => absurd (h 19 (by simp)) (by decide)) ?_
                        simp only [Act.put, List.setIfInBounds_toArray, List.set_cons_zero, List.set_cons_succ, List.getElem_toArray, List.getElem_cons_zero, List.getElem_cons_succ]
                        refine wpAnyL_ready (rs := [21]) (by kernel_rfl) (by simp) ?_
                        refine AllL.cons rfl (fun K hK => ?_) ?_
                        · have hc := fun u => setOther0 (u := u) (HT9.out.two.cellA) (HT9.out.two.fr 1)
                          have hc1 := fun u => (hc u).1
                          have hc2 := fun u => (hc u).2
                          clear hc
                          go_simp
                          clear hc1 hc2
                          refine hK.out _ _ ⟨(setOther _ (p := ⟨Bd, 1, none⟩) (setOther _ (p := ⟨Bd, 2, none⟩) (HALL.out _ HT9.out.below HT9.out.keep).1 HNE.out.1) HNE.out.1), (setOther _ (p := ⟨Bd, 1, none⟩) (setOther _ (p := ⟨Bd, 2, none⟩) (HALL.out _ HT9.out.below HT9.out.keep).2 HNE.out.2.1) HNE.out.2.1)⟩ (fun h => absurd (h 19 (by simp)) (by decide)) ?_
                          clear hK K
                          refine wpAnyL_done (by kernel_rfl) ?_ _
                          go_wp2_with fail
                          have hdone := HT9.out.done
                          have hbel := HT9.out.below
                          go_roundg (s - (t + 1))
                          case measure => rw [HGT.out]; omega
                          case rel =>
                            have h1 := hdone.1
                            rw [← HEND.out.1, ← HEND.out.2] at h1
                            simp only [List.length_take, List.length_map] at h1
                            exact ⟨t + 1, _, _, _, by omega, rfl, by go_num, h1, ((HB8.out.drew.trans (hbel.mono (by have := HBD.out; omega))).setCell (by have := HBD.out; show _ ≤ Bd; omega) _).setCell (by have := HBD.out; show _ ≤ Bd; omega) _⟩
                        exact AllL.nil
                      exact AllL.nil
                    exact AllL.nil
                  exact AllL.nil
                exact AllL.nil
              refine AllL.cons rfl (fun K hK => ?_) ?_
              · go_simp
                have HT12 := Lib.hid (HT.out.allocA _ (by first | exact World.size_alloc _ _ | rfl) 3)
                refine hK.out _ _ (HALL.out _ HT12.out.below HT12.out.keep) (fun _ => ⟨HT12.out.two.cellA, HT12.out.two.cellN⟩) ?_
                clear hK K
                refine wpAnyL_ready (rs := [3]) (by kernel_rfl) (by simp) ?_
                refine AllL.cons rfl (fun K hK => ?_) ?_
                · go_simp
                  have HT13 := Lib.hid (HT12.out.allocN _ (by first | exact World.size_alloc _ _ | rfl) 22)
                  refine hK.out _ _ (HALL.out _ HT13.out.below HT13.out.keep) (fun _ => ⟨HT13.out.two.cellA, HT13.out.two.cellN⟩) ?_
                  clear hK K
                  refine wpAnyL_ready (rs := [4]) (by kernel_rfl) (by simp) ?_
                  refine AllL.cons rfl (fun K hK => ?_) ?_
                  · obtain ⟨u14, w14, hrun, ⟨A14, c14, rfl⟩, hT⟩ := HT13.out.appN HNE.out.2.2.2
                    have HT14 := Lib.hid hT
                    have HR14 := Lib.hid hrun
                    clear hT hrun
                    refine step_append_run _ (by rfl) _ _ _ _ (by rfl) _ _ (by rfl) (by rfl) _ _ HR14.out ?_
                    simp only [Act.put, List.setIfInBounds_toArray, List.set_cons_zero, List.set_cons_succ, List.getElem_toArray, List.getElem_cons_zero, List.getElem_cons_succ]
                    refine hK.out _ _ (HALL.out _ HT14.out.below HT14.out.keep) (fun _ => ⟨HT14.out.two.cellA, HT14.out.two.cellN⟩) ?_
                    clear hK K
                    refine wpAnyL_pure (i := 18) rfl (by kernel_rfl) (fun _ _ _ h => h) (Or.inl ⟨by rfl, (fun u hu => by obtain ⟨k0, k1⟩ := hu; go_simp; try rfl)⟩) (HALL.out _ HT14.out.below HT14.out.keep) (fun _ => ⟨HT14.out.two.cellA, HT14.out.two.cellN⟩) ?_
                    simp only [Act.put, List.setIfInBounds_toArray, List.set_cons_zero, List.set_cons_succ, List.getElem_toArray, List.getElem_cons_zero, List.getElem_cons_succ]
                    refine wpAnyL_ready (rs := [17]) (by kernel_rfl) (by simp) ?_
                    refine AllL.cons rfl (fun K hK => ?_) ?_
                    · obtain ⟨u15, w15, hrun, ⟨A15, c15, rfl⟩, hT⟩ := HT14.out.appA HNE.out.2.2.1
                      have HT15 := Lib.hid hT
                      have HR15 := Lib.hid hrun
                      clear hT hrun
                      refine step_append_run _ (by rfl) _ _ _ _ (by rfl) _ _ (by rfl) (by rfl) _ _ HR15.out ?_
                      simp only [Act.put, List.setIfInBounds_toArray, List.set_cons_zero, List.set_cons_succ, List.getElem_toArray, List.getElem_cons_zero, List.getElem_cons_succ]
                      refine hK.out _ _ (HALL.out _ HT15.out.below HT15.out.keep) (fun _ => ⟨HT15.out.two.cellA, HT15.out.two.cellN⟩) ?_
                      clear hK K
                      refine wpAnyL_ready (rs := [19]) (by kernel_rfl) (by simp) ?_
                      refine AllL.cons rfl (fun K hK => ?_) ?_
                      · have hc := HT15.out.two.cellN
                        have hf := HT15.out.two.fr 2
                        go_simp
                        clear hc hf
                        refine hK.out _ _ ⟨(setOther _ (p := ⟨Bd, 2, none⟩) (HALL.out _ HT15.out.below HT15.out.keep).1 HNE.out.1), (setOther _ (p := ⟨Bd, 2, none⟩) (HALL.out _ HT15.out.below HT15.out.keep).2 HNE.out.2.1)⟩ (fun h => absurd (h 19 (by simp)) (by decide)) ?_
                        clear hK K
                        refine wpAnyL_pure (i := 20) rfl (by kernel_rfl) (fun _ _ _ h => h) (Or.inl ⟨by rfl, (fun u hu => by obtain ⟨k0, k1⟩ := hu; go_simp; try rfl)⟩) ⟨(setOther _ (p := ⟨Bd, 2, none⟩) (HALL.out _ HT15.out.below HT15.out.keep).1 HNE.out.1), (setOther _ (p := ⟨Bd, 2, none⟩) (HALL.out _ HT15.out.below HT15.out.keep).2 HNE.out.2.1)⟩ (fun h => absurd (h 19 (by simp)) (by decide)) ?_
                        simp only [Act.put, List.setIfInBounds_toArray, List.set_cons_zero, List.set_cons_succ, List.getElem_toArray, List.getElem_cons_zero, List.getElem_cons_succ]
                        refine wpAnyL_ready (rs := [21]) (by kernel_rfl) (by simp) ?_
                        refine AllL.cons rfl (fun K hK => ?_) ?_
                        · have hc := fun u => setOther0 (u := u) (HT15.out.two.cellA) (HT15.out.two.fr 1)
                          have hc1 := fun u => (hc u).1
                          have hc2 := fun u => (hc u).2
                          clear hc
                          go_simp
                          clear hc1 hc2
                          refine hK.out _ _ ⟨(setOther _ (p := ⟨Bd, 1, none⟩) (setOther _ (p := ⟨Bd, 2, none⟩) (HALL.out _ HT15.out.below HT15.out.keep).1 HNE.out.1) HNE.out.1), (setOther _ (p := ⟨Bd, 1, none⟩) (setOther _ (p := ⟨Bd, 2, none⟩) (HALL.out _ HT15.out.below HT15.out.keep).2 HNE.out.2.1) HNE.out.2.1)⟩ (fun h => absurd (h 19 (by simp)) (by decide)) ?_
                          clear hK K
                          refine wpAnyL_done (by kernel_rfl) ?_ _
                          go_wp2_with fail
                          have hdone := HT15.out.done
                          have hbel := HT15.out.below
                          go_roundg (s - (t + 1))
                          case measure => rw [HGT.out]; omega
                          case rel =>
                            have h1 := hdone.1
                            rw [← HEND.out.1, ← HEND.out.2] at h1
                            simp only [List.length_take, List.length_map] at h1
                            exact ⟨t + 1, _, _, _, by omega, rfl, by go_num, h1, ((HB8.out.drew.trans (hbel.mono (by have := HBD.out; omega))).setCell (by have := HBD.out; show _ ≤ Bd; omega) _).setCell (by have := HBD.out; show _ ≤ Bd; omega) _⟩
                        exact AllL.nil
                      exact AllL.nil
                    exact AllL.nil
                  exact AllL.nil
                exact AllL.nil
              exact AllL.nil
        · obtain rfl : t = s := by omega
          have htI : ¬ (t : Int) < (t : Int) := by omega
          have hdf := HDF.out
          rw [List.take_of_length_le (by rw [List.length_map, HM.out.ok.mks, HMN.out]; exact Nat.le_refl _), List.take_of_length_le (by rw [List.length_map, HM.out.ok.nx, HMN.out]; exact Nat.le_refl _)] at hdf
          obtain ⟨vA', cA, rfl, _, _⟩ := hdf.ownA.form
          obtain ⟨vN', cN, rfl, _, _⟩ := hdf.ownN.form
          obtain ⟨k0, k1, k2⟩ : w6.cell? ⟨Bd, 0, none⟩ = some (.int .i64 0) ∧ w6.cell? ⟨Bd, 1, none⟩ = some (.slice vA' _ cA) ∧ w6.cell? ⟨Bd, 2, none⟩ = some (.slice vN' _ cN) := ⟨hdf.cellS, hdf.cellA, hdf.cellN⟩
          obtain ⟨hsA, hsN⟩ := hdf.sl
          have hP : MergeP T yes no L m := ⟨HPRE.out, by rw [← HNL.out.2]; exact HOUT.out⟩
          have hval := hP.valid (by have := HNL.out.2; omega) HD.out hT1 hT2
          have hcan := dfaCanon w6 _ vA' _ cA vN' _ cN (endM m) hsA hsN hval.1 (fun x hx => by
            obtain ⟨y, hy, rfl⟩ := List.mem_map.1 hx
            unfold endAcc
            omega)
          have HCAN := Lib.hid hcan
          have HP := Lib.hid hP
          obtain ⟨lA, hlA⟩ : ∃ k, k = (m.mark.map endAcc).length := ⟨_, rfl⟩
          obtain ⟨lN, hlN⟩ : ∃ k, k = (m.next.map (endRow m.into)).length := ⟨_, rfl⟩
          rw [← hlA] at k1 HCAN
          rw [← hlN] at k2 HCAN
          have hBB6 : Below w1.heap.size w1 w6 := HB3.out.trans ((HB.out.trans (HB6.out.mono hz4)).mono (by have := HB3.out.size; omega))
          have HBRW := Lib.hid (show ∀ u : World, Below w6.heap.size w6 u → u.heap[w.heap.size]? = some (.cells #[.int .i64 0, .slice none 0 0, .slice none 0 0] 25 (0, 0)) from fun u hu => (hu.block _ (by have := hBB6.size; omega)).trans ((hBB6.block _ (by omega)).trans HBR.out))
          have HB16 := Lib.hid hBB6
          have hbdl : Bd < w6.heap.size := by omega
          clear hdf hsA hsN hP hval hcan hlA hlN hBB6
          go_wp2_with fail
          refine HCAN.out.mono ?_
          rintro e w7 ⟨⟨A7, nA7, cA7, N7, nN7, cN7, rfl, hA7, hN7⟩, hb7⟩
          have hbr := HBRW.out w7 hb7
          have HA7 := Lib.hid hA7
          have HN7 := Lib.hid hN7
          have HB7 := Lib.hid (HB16.out.trans (hb7.mono HB16.out.size))
          have hbr7 : w.heap.size < w7.heap.size := (Array.getElem?_eq_some_iff.1 hbr).1
          obtain ⟨j0, j1, j2⟩ : w7.cell? ⟨w.heap.size, 0, none⟩ = some (.int .i64 0) ∧ w7.cell? ⟨w.heap.size, 1, none⟩ = some (.slice none 0 0) ∧ w7.cell? ⟨w.heap.size, 2, none⟩ = some (.slice none 0 0) := by simp [World.cell?, hbr]
          have hfr : ∀ i, w7.frozen? ⟨w.heap.size, i, none⟩ = false := fun i => by simp [World.frozen?, hbr]
          clear hA7 hN7 hb7 k0 k1 k2
          go_wp2_with fail
          obtain ⟨w8, hw8⟩ : ∃ w8 : World, w8 = ((w7.setCell ⟨w.heap.size, 0, none⟩ (.int .i64 0)).setCell ⟨w.heap.size, 1, none⟩ (.slice A7 nA7 cA7)).setCell ⟨w.heap.size, 2, none⟩ (.slice N7 nN7 cN7) := ⟨_, rfl⟩
          have hb8 : w8.heap[w.heap.size]? = some (.cells #[.int .i64 0, .slice A7 nA7 cA7, .slice N7 nN7 cN7] 25 (0, 0)) := by
            have q1 := blk_set hbr 0 (.int .i64 0)
            have q2 := blk_set q1 1 (.slice A7 nA7 cA7)
            have q3 := blk_set q2 2 (.slice N7 nN7 cN7)
            rw [hw8]
            simpa using q3
          have HK78 := Lib.hid (show Kept (fun b => w6.heap.size ≤ b) w7 w8 by
            rw [hw8]
            refine ((Kept.setCell _ _ _ _ ?_).trans (Kept.setCell _ _ _ _ ?_)).trans (Kept.setCell _ _ _ _ ?_) <;> (intro h; have h : w6.heap.size ≤ w.heap.size := h; have := HB6.out.size; omega))
          have HB8 := Lib.hid (show Below w.heap.size w w8 by
            rw [hw8]
            exact (((HB1.out.trans (HB7.out.mono (by omega))).setCell (Nat.le_refl _) _).setCell (Nat.le_refl _) _).setCell (Nat.le_refl _) _)
          obtain ⟨j0, j1, j2⟩ : w8.cell? ⟨w.heap.size, 0, none⟩ = some (.int .i64 0) ∧ w8.cell? ⟨w.heap.size, 1, none⟩ = some (.slice A7 nA7 cA7) ∧ w8.cell? ⟨w.heap.size, 2, none⟩ = some (.slice N7 nN7 cN7) := by simp [World.cell?, hb8]
          rw [← hw8]
          clear hw8 hb8 hbr hfr
          refine bodyPost_ret (v := .tuple #[.agg #[.int .i64 0, .slice A7 nA7 cA7, .slice N7 nN7 cN7], .int .i64 0]) ?_ rfl ?_
          · rw [results_cell_tmp rfl]
            go_simp
          refine ⟨⟨L, m, A7, nA7, cA7, N7, nN7, cN7, rfl, (HA7.out.keep HK78.out).more fun b hb => ?_, (HN7.out.keep HK78.out).more fun b hb => ?_, HP.out, hL200⟩, HB8.out⟩
          · have hb : w6.heap.size ≤ b := hb
            have := HB6.out.size
            omega
          · have hb : w6.heap.size ≤ b := hb
            have := HB6.out.size
            omega
end Go.Proofs.Ytgaahpddlohjoaa
