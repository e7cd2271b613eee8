/- Live -/
import Derived.Deep.LoopGhost
import Derived.Test.YtocbkccchnbmaaaGreatAw26
namespace Go.Proofs.YtocbkccchnbmaaaGreat
open Go.RowKit
theorem tBools' : SlType Tryz.prog 68 4 1 1 (.bool false) := ⟨by kernel_rfl, by kernel_rfl, by kernel_rfl, rfl, by decide⟩
def LvB (wr : World) (BL : Nat) (L : List Bool) : Prop := wr.heap[BL]? = some (.cells (L.map Value.bool).toArray 4 (0, 0))
theorem LvB.at_ {wr : World} {BL : Nat} {L : List Bool} (h : LvB wr BL L) {i : Nat} (hi : i < L.length) : ∃ b, L[i]? = some b ∧ wr.cell? ⟨BL, i, none⟩ = some (.bool b) ∧ wr.frozen? ⟨BL, i, none⟩ = false := by
 have h1 := List.getElem?_eq_getElem hi
 refine ⟨_, h1, ?_, by have h2 : wr.heap[BL]? = _ := h; simp [World.frozen?, h2]⟩
 rw [cell_of_row _ _ i _ _ _ h]
 simp [h1]
theorem LvB.set {wr : World} {BL : Nat} {L : List Bool} (h : LvB wr BL L) (i : Nat) (b : Bool) : LvB (wr.setCell ⟨BL, i, none⟩ (.bool b)) BL (L.set i b) := by
 have := blk_set h i (.bool b)
 rwa [set_map] at this
theorem LvB.below {wr wr' : World} {BL : Nat} {L : List Bool} (h : LvB wr BL L) (hb : Below wr.heap.size wr wr') : LvB wr' BL L := (hb.block _ (heap_lt h)).trans h
theorem LvB.lt {wr : World} {BL : Nat} {L : List Bool} (h : LvB wr BL L) : BL < wr.heap.size := heap_lt h
def LiveR (d : DfaD) (base n : Nat) (e : Ending) (w' : World) : Prop := ∃ BL L, base ≤ BL ∧ e = .returned (.slice (some ⟨BL, 0, none⟩) n n) ∧ LvB w' BL L ∧ L.length = n ∧ ∀ s : Nat, s < n → (L[s]? = some true ↔ LiveP d s)
theorem mark_push {wr : World} {BL : Nat} {L : List Bool} {A : Option Addr} {n c : Nat} {W : List Int} (h : LvB wr BL L) (ho : OwnL Rep.int wr (fun _ => False) (BL + 1) 3 (.slice A n c) W) (hn : n = W.length) (i : Nat) (x : Int) (hW : W.length ≤ 1000000) :
    ∃ A2 c2 w2, (Builtin.append_ #[22, 22] 22 #[.slice A n c, .slice (some ⟨wr.heap.size, 0, none⟩) 1 1]).run Tryz.prog ((wr.setCell ⟨BL, i, none⟩ (.bool true)).alloc (.cells #[.int .i64 x] 3)) = .ok (.slice A2 (n + 1) c2) w2 ∧
     LvB w2 BL (L.set i true) ∧ OwnL Rep.int w2 (fun _ => False) (BL + 1) 3 (.slice A2 (n + 1) c2) (W ++ [x]) ∧ Below BL wr w2 ∧ BL < w2.heap.size := by
 have hz := h.lt
 have ho2 : OwnL Rep.int (wr.setCell ⟨BL, i, none⟩ (.bool true)) (fun _ => False) (BL + 1) 3 (.slice A n c) W := by
  obtain ⟨xs, h1, h2⟩ := ho
  exact ⟨xs, h1.kept (set_grown wr i (.bool true)) (fun g e1 e2 => by injection e1 with e1; have := (h1.row e2).1; omega), by rw [Cells.ints] at h2 ⊢; exact h2⟩
 obtain ⟨v6, w6, hrun, ho6, hg6, hb6⟩ := run_append_lit tInts rfl (wr.setCell ⟨BL, i, none⟩ (.bool true)) 22 (BL + 1) (fun _ => False) _ _ ho2 1 [x] [.int .i64 x] (Cells.ints.2 rfl) rfl (by unfold maxLen; omega) (by omega) (by rw [World.size_setCell]; omega)
 obtain ⟨A2, c2, rfl, _, _⟩ := ho6.form
 rw [World.size_setCell] at hrun
 have e : (W ++ [x]).length = n + 1 := by simp [hn]
 rw [e] at hrun ho6
 have hl2 : LvB (wr.setCell ⟨BL, i, none⟩ (.bool true)) BL (L.set i true) := h.set i true
 have hbs : Below BL wr (wr.setCell ⟨BL, i, none⟩ (.bool true)) := (Below.refl _ _).setCell (by simp) _
 refine ⟨A2, c2, w6, hrun, (hb6.block BL (by omega)).trans hl2, ho6, hbs.trans (hb6.mono (by omega)), ?_⟩
 have := hb6.size
 rw [World.size_setCell] at this
 omega
theorem own_pop {wr : World} {base : Nat} {A : Option Addr} {n c : Nat} {W : List Int} {t : Int} (ho : OwnL Rep.int wr (fun _ => False) base 3 (.slice A n c) (W ++ [t])) :
    n = W.length + 1 ∧ ∃ g, A = some ⟨g, 0, none⟩ ∧ wr.cell? ⟨g, W.length, none⟩ = some (.int .i64 t) ∧ W.length + 1 ≤ c ∧ OwnL Rep.int wr (fun _ => False) base 3 (.slice A W.length c) W := by
 obtain ⟨xs, h1, h2⟩ := ho
 obtain rfl := Cells.ints.1 h2
 obtain ⟨A', c', e, hc, _⟩ := h1.form
 injection e with e1 e2 e3
 subst e1
 subst e3
 rw [List.length_append, List.length_singleton] at e2 hc
 subst e2
 rcases h1 with h1 | ⟨A', _, h0, _⟩
 ·
  rcases h1.2 with ⟨_, h0⟩ | ⟨g, cap, cur, e, hb, hh, hnc, hm, hs, ht⟩
  ·
   simp at h0
  ·
   injection e with e1 e2 e3
   subst e1
   subst e3
   rw [show Rep.int.size = 1 from rfl] at ht hs
   have hx : cur[W.length]? = some (.int .i64 t) := by
    have : (cur.toList.take ((W ++ [t]).length * 1))[W.length]? = ((W ++ [t]).map (Value.int .i64))[W.length]? := by rw [ht]
    rw [List.getElem?_take, if_pos (by simp)] at this
    rw [← Array.getElem?_toList, this]
    simp
   refine ⟨rfl, g, rfl, by rw [cell_of_row _ _ _ _ _ _ hh]; exact hx, hc, W.map (Value.int .i64), .inl ⟨by simp [show Rep.int.size = 1 from rfl], .inr ⟨g, c, cur, rfl, hb, hh, by omega, hm, hs, ?_⟩⟩, Cells.ints.2 rfl⟩
   show cur.toList.take (W.length * 1) = _
   have := congrArg (List.take W.length) ht
   rw [List.take_take, List.length_append, List.length_singleton, Nat.mul_one, Nat.min_eq_left (by omega)] at this
   rw [Nat.mul_one, this]
   simp
 ·
  simp at h0
set_option linter.unusedSimpArgs false in
set_option maxRecDepth 1000000 in
set_option maxHeartbeats 4000000 in
theorem dfaLive (w : World) (S : Nat → Prop) (A : Option Addr) (nA cA : Nat) (N : Option Addr) (n cN : Nat) (d : DfaD) (hA : Sl Rep.int w S A nA cA d.2.1) (hN : Sl RI w S N n cN d.2.2) (hv : Valid d) :
    Calls Tryz.prog 64 #[.agg #[.int .i64 d.1, .slice A nA cA, .slice N n cN]] w fun e w' => LiveR d w.heap.size n e w' ∧ Below w.heap.size w w' := by
 have e1 := hA.len
 have e2 := hN.len
 rw [hv.na, ← e2] at e1
 subst e1
 have hn1 : 1 ≤ nA := by have := hv.n1; omega
 have hn2 : nA ≤ 200 := by have := hv.n2; omega
 have hc2 := hv.c2
 obtain ⟨C, hC⟩ : ∃ C, C = cols d := ⟨_, rfl⟩
 rw [← hC] at hc2
 have hmk := fun W => tIntss.make rfl nA (by omega) (by omega) W
 simp only [made_rowsA] at hmk
 obtain ⟨w1, hw1⟩ : ∃ w1 : World, w1 = w.alloc (.cells #[.int .i64 d.1, .slice A nA cA, .slice N nA cN] 29) := ⟨_, rfl⟩
 obtain ⟨w2, hw2⟩ : ∃ w2 : World, w2 = w1.alloc (.cells (Array.replicate nA (Value.slice none 0 0)) 22) := ⟨_, rfl⟩
 have hz1 : w1.heap.size = w.heap.size + 1 := by rw [hw1]; simp
 have hz2 : w2.heap.size = w1.heap.size + 1 := by rw [hw2]; simp
 have hg1 : w1.heap[w.heap.size]? = some (.cells #[.int .i64 d.1, .slice A nA cA, .slice N nA cN] 29 (0, 0)) := by rw [hw1]; exact heap_alloc_new w _
 have hb1 : Below w.heap.size w w1 := by rw [hw1]; exact (Below.refl _ _).alloc (Nat.le_refl _) _
 have hb2 : Below w1.heap.size w1 w2 := by rw [hw2]; exact (Below.refl _ _).alloc (Nat.le_refl _) _
 have hbn : Bins w2 (w1.heap.size + 1) w1.heap.size (List.replicate nA []) (List.replicate nA (.slice none 0 0)) := by rw [hw2, ← List.toArray_replicate]; exact Bins.start w1 nA
 have hio : InOk d (List.replicate nA []) 0 0 := by have := InOk.start d; rwa [← e2] at this
 have HA := Lib.hid hA.fit
 have HN := Lib.hid hN.fit
 have HV := Lib.hid hv
 have HE := Lib.hid e2
 have HC := Lib.hid hC
 have HB1 := Lib.hid hb1
 have HIO := Lib.hid hio
 have HZ1 := Lib.hid hz1
 have HZ2 := Lib.hid hz2
 have HW1 := Lib.hid hw1
 have HW2 := Lib.hid hw2
 obtain ⟨H1, hH1⟩ : ∃ H1, H1 = w.heap.size + 1 := ⟨_, rfl⟩
 have hH0 : w.heap.size < H1 := by omega
 have HALL := Lib.hid (show ∀ u : World, Below H1 w1 u → u.cell? ⟨w.heap.size, 1, none⟩ = some (.slice A nA cA) ∧ u.cell? ⟨w.heap.size, 2, none⟩ = some (.slice N nA cN) from fun u hu => by
  have e := (hu.block _ (by omega)).trans hg1
  simp [World.cell?, e])
 have HH1 := Lib.hid hH1
 have HBN := Lib.hid (show Bins w2 (H1 + 1) H1 (List.replicate nA []) (List.replicate nA (.slice none 0 0)) by rw [hH1, ← hz1]; exact hbn)
 have HBA := Lib.hid (show Below H1 w1 w2 by rw [hH1, ← hz1]; exact hb2)
 clear hA hN hv e2 hC hb1 hb2 hbn hio hg1 hw2 hz2 hz1 hw1 hH1
 go_enter Tryz.func64, Tryz.ntmps64
 go_wp2_with fail
 rw [← HW1.out, ← HW2.out, ← HH1.out]
 have hk2 := (HALL.out w2 HBA.out).2
 clear hmk
 go_loopg [4, 5, 22] nA (fun gk va vb vi wr => ∃ (k : Nat) (ls : List (List Int)) (vs : List Value), k ≤ nA ∧ gk = nA - k ∧ vi = .int .i64 k ∧ InOk d ls k 0 ∧ Bins wr (H1 + 1) H1 ls vs ∧ Below H1 w1 wr)
 case atStart => exact ⟨0, _, _, Nat.zero_le _, rfl, rfl, HIO.out, HBN.out, HBA.out⟩
 case round =>
  obtain ⟨k, ls, vs, hk, hgk, rfl, hio, hbn, hb⟩ := hrel
  have HGK := Lib.hid hgk
  have HI := Lib.hid hio
  have HBI := Lib.hid hbn
  have HB := Lib.hid hb
  obtain ⟨w3, rfl⟩ : ∃ w3 : World, w3 = wr := ⟨_, rfl⟩
  have HKEEP := Lib.hid (show ∀ u : World, Below H1 w1 u → Below w.heap.size w u from fun u hu => HB1.out.trans (hu.mono (by omega)))
  clear hgk hio hbn hb hk2
  by_cases hlt : k < nA
  ·
   obtain ⟨bN, oN, AR, m, cR, row, rfl, hS1, _, hcR0, hr, hsr⟩ := row_at HN.out hlt
   have hcR : w3.cell? ⟨bN, oN + k, none⟩ = some (.slice AR m cR) := Kept.belowB (S := fun b => S b ∧ b < w.heap.size) (HKEEP.out _ HB.out) (fun b hb => hb.2) _ _ hS1 hcR0
   have hm := hsr.len
   have hmC : m = C := by rw [hm, HC.out]; exact (HV.out.rows row (List.mem_of_getElem? hr)).1
   have HMC := Lib.hid hmC
   have hm16 : m ≤ 16 := by omega
   have HR := Lib.hid hr
   have HSR := Lib.hid hsr
   have HDT := Lib.hid (show ∀ (j : Nat) (x : Int), row[j]? = some x → dto d k j = x from fun j x hx => by
    unfold dto
    rw [if_neg (by omega), Int.toNat_natCast, hr, Option.getD_some, Int.toNat_natCast, hx]
    rfl)
   have HDR := Lib.hid (show ∀ x ∈ row, -1 ≤ x ∧ x < (nA : Int) from fun x hx => by
    have := (HV.out.rows row (List.mem_of_getElem? hr)).2 x hx
    rw [← HE.out] at this; exact this)
   clear hcR0 hr hsr hm hmC
   go_wp2_with fail
   clear hcR
   go_loopg [7, 29] m (fun gj va vj wx => ∃ (j : Nat) (ls : List (List Int)) (vs : List Value), j ≤ m ∧ gj = m - j ∧ vj = .int .i64 j ∧ InOk d ls k j ∧ Bins wx (H1 + 1) H1 ls vs ∧ Below H1 w1 wx)
   case atStart => exact ⟨0, _, _, Nat.zero_le _, rfl, rfl, HI.out, HBI.out, HB.out⟩
   case round =>
    obtain ⟨j, ls2, vs2, hj, hgj, rfl, hio, hbn, hb⟩ := hrel
    have HGJ := Lib.hid hgj
    have HI2 := Lib.hid hio
    have HB2 := Lib.hid hb
    obtain ⟨w4, rfl⟩ : ∃ w4 : World, w4 = wr := ⟨_, rfl⟩
    by_cases hjl : j < m
    ·
     obtain ⟨bR, oR, x, rfl, hSR, hx, hcx0⟩ := HSR.out.ints.int_at hjl
     have hcx : w4.cell? ⟨bR, oR + j, none⟩ = some (.int .i64 x) := Kept.belowB (S := fun b => S b ∧ b < w.heap.size) (HKEEP.out _ HB2.out) (fun b hb => hb.2) _ _ hSR hcx0
     have hxr := HDR.out x (List.mem_of_getElem? hx)
     have hdx := HDT.out j x hx
     have HDX := Lib.hid hdx
     by_cases hx0 : 0 ≤ x
     ·
      obtain ⟨t, rfl⟩ : ∃ t : Nat, x = (t : Int) := ⟨x.toNat, by omega⟩
      have htn : t < nA := by omega
      obtain ⟨Av, nv, cv, l, hvt, hlt2, hnv, _, hcv, _, _⟩ := hbn.at_ (i := t) (by rw [hio.1, ← HE.out]; exact htn)
      have hlen := (hio.2 t l hlt2).1
      have hCle : k * cols d ≤ 200 * 16 := Nat.mul_le_mul (by omega) (by rw [← HC.out]; exact hc2)
      obtain ⟨A2, c2, w5, hrun, hq1, hq2, hbn2, hb5⟩ := hbn.push hvt hlt2 (k : Int) (by omega)
      have hio2 := hio.push (j := j) (t := t) (l := l) (by rw [← HE.out]; exact hlt) (by rw [← HC.out, ← HMC.out]; exact hjl) hdx hlt2
      have HI3 := Lib.hid hio2
      have HBN3 := Lib.hid hbn2
      have HB5 := Lib.hid hb5
      have HRUN := Lib.hid hrun
      have hsz := HB2.out.size
      have hBIl := heap_lt hbn.blk
      clear hbn hio hdx hb hgj hio2 hbn2 hb5 hx hcx0 hvt hlt2 hnv hlen hCle hxr hrun
      go_wp2_with (at_builtin; refine Lib.wpList_append_run _ rfl _ _ _ _ rfl _ _ rfl rfl _ _ HRUN.out ?_)
      go_roundg (m - (j + 1))
      case measure => rw [HGJ.out]; omega
      case rel =>
       have hx5 := HB2.out.trans (HB5.out.mono (by omega))
       exact ⟨j + 1, _, _, by omega, rfl, by go_num, HI3.out, HBN3.out, (HB2.out.trans (HB5.out.mono (by omega))).setCell (by simp) _⟩
     ·
      have hx0' : ¬ 0 ≤ x := hx0
      have hio2 := hio.skip (by rw [hdx]; omega)
      have HI3 := Lib.hid hio2
      have HBN := Lib.hid hbn
      clear hbn hio hdx hb hgj hio2 hx hcx0 hxr
      go_wp2_with fail
      go_roundg (m - (j + 1))
      case measure => rw [HGJ.out]; omega
      case rel => exact ⟨j + 1, _, _, by omega, rfl, by go_num, HI3.out, HBN.out, HB2.out⟩
    ·
     obtain rfl : j = m := by omega
     have hio2 := InOk.next (k := k) (by rw [← HC.out, ← HMC.out]; exact hio)
     have HI3 := Lib.hid hio2
     have HBN := Lib.hid hbn
     clear hbn hio hb hgj hio2
     go_wp2_with fail
     go_roundg (nA - (k + 1))
     case measure => rw [HGK.out]; omega
     case rel => exact ⟨k + 1, _, _, by omega, rfl, by go_num, HI3.out, HBN.out, HB2.out⟩
  ·
   obtain rfl : k = nA := by omega
   obtain ⟨hq1, hq2⟩ := HALL.out w3 HB.out
   have hmk := tBools'.make rfl k (by omega) (by omega) w3
   simp only [made_boolsA] at hmk
   have HI4 := Lib.hid (show InOk d ls d.2.2.length 0 by rw [← HE.out]; exact HI.out)
   have hz3 : H1 < w3.heap.size := heap_lt HBI.out.blk
   have hlb : LvB (w3.alloc (.cells (Array.replicate k (Value.bool false)) 4)) w3.heap.size (lv0 d 0) := by
    rw [lv0_zero, ← HE.out]
    unfold LvB
    rw [show ((List.replicate k false).map Value.bool).toArray = Array.replicate k (Value.bool false) by simp]
    exact heap_alloc_new _ _
   have HLB := Lib.hid hlb
   clear hlb
   have hz0 : w.heap.size < w3.heap.size := by omega
   have HOW := Lib.hid (OwnL.nil (R := Rep.int) (w3.alloc (.cells (Array.replicate k (Value.bool false)) 4)) (fun _ => False) (w3.heap.size + 1) 3 none)
   go_wp2_with fail
   clear hmk hq1 hq2
   obtain ⟨BL, hBL⟩ : ∃ BL, BL = w3.heap.size := ⟨_, rfl⟩
   rw [← hBL] at HLB HOW hz0 hz3 ⊢
   have HBB := Lib.hid (show Below BL w3 (w3.alloc (.cells (Array.replicate k (Value.bool false)) 4)) by rw [hBL]; exact (Below.refl _ _).alloc (Nat.le_refl _) _)
   have HBL := Lib.hid hBL
   clear hBL
   go_loopg [9, 10, 11, 54] k (fun gk vw va vb vi wr => ∃ (j : Nat), j ≤ k ∧ gk = k - j ∧ vi = .int .i64 j ∧ LvB wr BL (lv0 d j) ∧ OwnL Rep.int wr (fun _ => False) (BL + 1) 3 vw (wk0 d j) ∧ Below BL w3 wr ∧ BL < wr.heap.size)
   case atStart => exact ⟨0, Nat.zero_le _, rfl, rfl, HLB.out, HOW.out, HBB.out, heap_lt HLB.out⟩
   case round =>
    obtain ⟨j, hj, hgj, rfl, hlv, how, hb, hzb⟩ := hrel
    obtain ⟨A6, c6, rfl, hc6, _⟩ := how.form
    have HGJ := Lib.hid hgj
    have HLV := Lib.hid hlv
    have HOW1 := Lib.hid how
    have HB4 := Lib.hid hb
    have hwl := wk0_len d j
    obtain ⟨w4, rfl⟩ : ∃ w4 : World, w4 = wr := ⟨_, rfl⟩
    by_cases hjl : j < k
    ·
     obtain ⟨bA, oA, x, rfl, hSA, hx, hcx0⟩ := HA.out.ints.int_at hjl
     have hcx : w4.cell? ⟨bA, oA + j, none⟩ = some (.int .i64 x) := Kept.belowB (S := fun b => S b ∧ b < w.heap.size) ((HKEEP.out _ HB.out).trans (HB4.out.mono (by omega))) (fun b hb => hb.2) _ _ hSA hcx0
     have hdx : dat d j = x := by
      unfold dat
      rw [if_neg (by omega), Int.toNat_natCast, hx]; rfl
     obtain ⟨bo, hbo, hcb, hfb⟩ := hlv.at_ (i := j) (by rw [lv0_len, ← HE.out]; exact hjl)
     by_cases hx0 : 0 ≤ x
     ·
      obtain ⟨e1, e2⟩ := lv0_yes (d := d) (k := j) (by rw [hdx]; exact hx0)
      have HE1 := Lib.hid e1
      have HE2 := Lib.hid e2
      obtain ⟨A7, c7, w7, hrun, hlv7, how7, hb7, hz7⟩ := mark_push hlv how rfl j (j : Int) (by omega)
      rw [← e1] at hlv7
      rw [← e2] at how7
      have HRUN := Lib.hid hrun
      have HLV7 := Lib.hid hlv7
      have HOW7 := Lib.hid how7
      have HB7 := Lib.hid hb7
      generalize hWL : (wk0 d j).length = q at *
      clear hgj hlv how hb e1 e2 hrun hlv7 how7 hb7 hx hcx0 hdx hWL
      go_wp2_with (at_builtin; refine Lib.wpList_append_run _ rfl _ _ _ _ rfl _ _ rfl rfl _ _ HRUN.out ?_)
      go_roundg (k - (j + 1))
      case measure => rw [HGJ.out]; omega
      case rel => exact ⟨j + 1, by omega, rfl, by go_num, HLV7.out, HOW7.out, HB4.out.trans HB7.out, hz7⟩
     ·
      obtain ⟨e1, e2⟩ := lv0_no (d := d) (k := j) (by rw [hdx]; exact hx0)
      have HE1 := Lib.hid e1
      have HE2 := Lib.hid e2
      clear hgj hlv how hb e1 e2 hx hcx0 hdx
      go_wp2_with fail
      go_roundg (k - (j + 1))
      case measure => rw [HGJ.out]; omega
      case rel => exact ⟨j + 1, by omega, rfl, by go_num, by rw [HE1.out]; exact HLV.out, by rw [HE2.out]; exact HOW1.out, HB4.out, hzb⟩
    ·
     obtain rfl : j = k := by omega
     have HP0 := Lib.hid (LvP.start d ls)
     have hfull : LvB w4 BL (lv0 d d.2.2.length) ∧ OwnL Rep.int w4 (fun _ => False) (BL + 1) 3 (.slice A6 (wk0 d j).length c6) (wk0 d d.2.2.length) := by rw [← HE.out]; exact ⟨hlv, how⟩
     have HFL := Lib.hid hfull
     have hun : unm (lv0 d d.2.2.length) ≤ 200 := Nat.le_trans (List.length_filter_le _ _) (by rw [lv0_len, ← HE.out]; exact hn2)
     clear hgj hlv how hb hfull
     go_wp2_with fail
     go_loopg [9, 12, 14, 88] (unm (lv0 d d.2.2.length) + (wk0 d d.2.2.length).length) (fun gk vw va vb vi wr => ∃ (L : List Bool) (W : List Int), gk = unm L + W.length ∧ unm L + W.length ≤ 400 ∧ LvP d ls L W (fun _ => False) ∧ LvB wr BL L ∧ OwnL Rep.int wr (fun _ => False) (BL + 1) 3 vw W ∧ Below BL w3 wr)
     case atStart => exact ⟨_, _, rfl, by rw [← HE.out] at hun ⊢; omega, HP0.out, HFL.out.1, HFL.out.2, HB4.out⟩
     case round =>
      obtain ⟨L, W, hgk, hg4, hlp, hlv, how, hb⟩ := hrel
      obtain ⟨w5, rfl⟩ : ∃ w5 : World, w5 = wr := ⟨_, rfl⟩
      have HGK5 := Lib.hid hgk
      have HLP := Lib.hid hlp
      have HLV := Lib.hid hlv
      have HB5 := Lib.hid hb
      rcases List.eq_nil_or_concat W with rfl | ⟨W, t, rfl⟩
      ·
       obtain ⟨A8, c8, rfl, _, _⟩ := how.form
       clear hgk hlp hlv how hb
       simp only [List.length_nil]
       go_wp2_with fail
       go_ret
       exact ⟨⟨BL, L, by omega, rfl, HLV.out, by rw [HLP.out.len, HE.out], fun s hs => HLP.out.out HV.out HI4.out (by rw [← HE.out]; exact hs)⟩, HKEEP.out _ (HB.out.trans (HB5.out.mono (by omega)))⟩
      ·
       obtain ⟨A8, c8, rfl, hc8, _⟩ := how.form
       rw [List.concat_eq_append] at *
       obtain ⟨hn8, g8, rfl, hcp, hcc, how8⟩ := own_pop how
       obtain ⟨ht0, ht1, _⟩ := hlp.work t (by simp)
       obtain ⟨t, rfl⟩ : ∃ t' : Nat, t = (t' : Int) := ⟨t.toNat, by omega⟩
       obtain ⟨Av, nv, cv, l, hvt, hlt2, hnv, _, hcv, _, hrd⟩ := HBI.out.at_ (i := t) (by rw [HI4.out.1]; omega)
       have htj : t < j := by rw [HE.out]; omega
       have hcv5 : w5.cell? ⟨H1, t, none⟩ = some (.slice Av nv cv) := by rw [hb.cell (by simp; omega)]; exact hcv
       have hrd5 := hrd.fit (by decide) |>.keep (Kept.belowB hb (fun b hb => by rw [HBL.out]; exact hb.2))
       obtain ⟨hll, hlr, hli⟩ := HI4.out.2 t l hlt2
       have HRD := Lib.hid hrd
       have HLR := Lib.hid hlr
       have HLT := Lib.hid hlt2
       have HLP2 := Lib.hid hlp.pop
       have HOW8 := Lib.hid how8
       have HNV := Lib.hid hnv
       have hsr := fun u => tInts.hN (P := Tryz.prog) (some ⟨g8, 0, none⟩) (W.length + 1) c8 W.length (by omega) u
       rw [hn8]
       obtain ⟨m, hm⟩ : ∃ m, m = W.length := ⟨_, rfl⟩
       rw [← hm] at hsr hcp hcc ⊢
       have HM := Lib.hid hm
       have hm4 : m ≤ 400 := by rw [hm]; simp at hg4; omega
       have hnv4 : nv ≤ 3400 := by
        have hCle : d.2.2.length * cols d ≤ 200 * 16 := Nat.mul_le_mul HV.out.n2 (by rw [← HC.out]; exact hc2)
        omega
       have HTL := Lib.hid (HLP.out.sound t (by have := (hlp.work (t : Int) (by simp)).2.2; rwa [Int.toNat_natCast] at this))
       clear hgk hlp hlv how hb how8 hc8 hn8 hvt hlt2 hnv hcv hrd hrd5 hll hlr hli ht0 ht1 hm
       go_wp2_with fail
       clear hcp hcv5 hsr
       go_loopg [9, 14, 88] nv (fun gk vw va vi wr => ∃ (i : Nat) (L2 : List Bool) (W2 : List Int), i ≤ nv ∧ gk = nv - i ∧ vi = .int .i64 i ∧ unm L2 + W2.length = unm L + W.length ∧ LvP d ls L2 W2 (fun u => False ∨ (u : Int) = (t : Int)) ∧ (∀ (q : Nat) (s : Int), q < i → l[q]? = some s → L2[s.toNat]? = some true) ∧ LvB wr BL L2 ∧ OwnL Rep.int wr (fun _ => False) (BL + 1) 3 vw W2 ∧ Below BL w3 wr)
       case atStart => exact ⟨0, L, W, Nat.zero_le _, rfl, rfl, rfl, HLP2.out, (fun q s h => absurd h (by omega)), HLV.out, by rw [HM.out]; exact HOW8.out, HB5.out⟩
       case round =>
        obtain ⟨i, L2, W2, hi, hgi, rfl, hun2, hlp2, hdone, hlv2, how2, hb2⟩ := hrel
        obtain ⟨A9, c9, rfl, hc9, _⟩ := how2.form
        obtain ⟨w6, rfl⟩ : ∃ w6 : World, w6 = wr := ⟨_, rfl⟩
        have HGI := Lib.hid hgi
        have HUN2 := Lib.hid hun2
        have HLP3 := Lib.hid hlp2
        have HDN := Lib.hid hdone
        have HLV3 := Lib.hid hlv2
        have HOW3 := Lib.hid how2
        have HB6 := Lib.hid hb2
        by_cases hil : i < nv
        ·
         obtain ⟨bs, os, s, rfl, hSs, hs, hcs0⟩ := (HRD.out.fit (by decide)).int_at hil
         have hcs : w6.cell? ⟨bs, os + i, none⟩ = some (.int .i64 s) := Kept.belowB (S := fun b => H1 + 1 ≤ b ∧ b < w3.heap.size) hb2 (fun b hb => by rw [HBL.out]; exact hb.2) _ _ hSs hcs0
         have hsr := HLR.out s (List.mem_of_getElem? hs)
         have hsj : s < (j : Int) := by rw [HE.out]; exact hsr.2
         obtain ⟨s, rfl⟩ : ∃ s' : Nat, s = (s' : Int) := ⟨s.toNat, by omega⟩
         obtain ⟨bo, hbo, hcb, hfb⟩ := hlv2.at_ (i := s) (by rw [hlp2.len, ← HE.out]; omega)
         have hW2 : W2.length ≤ 400 := by simp at hg4; omega
         have HS := Lib.hid hs
         cases bo with
         | true =>
          have HBO := Lib.hid hbo
          clear hgi hun2 hlp2 hdone hlv2 how2 hb2 hcs0 hs hbo hsr
          go_wp2_with fail
          go_roundg (nv - (i + 1))
          case measure => rw [HGI.out]; omega
          case rel =>
           refine ⟨i + 1, L2, W2, by omega, rfl, by go_num, HUN2.out, HLP3.out, fun q s' hq hs' => ?_, HLV3.out, HOW3.out, HB6.out⟩
           by_cases e : q = i
           ·
            subst e
            rw [HS.out] at hs'
            injection hs' with e
            subst e
            exact HBO.out
           ·
            exact HDN.out q s' (by omega) hs'
         | false =>
          obtain ⟨A7, c7, w7, hrun, hlv7, how7, hb7, hz7⟩ := mark_push hlv2 how2 rfl s (s : Int) (by omega)
          have hmk := hlp2.mark HI4.out HTL.out HLT.out (List.mem_of_getElem? hs)
          rw [Int.toNat_natCast] at hmk
          have hum := unm_set hbo
          have HRUN := Lib.hid hrun
          have HLV7 := Lib.hid hlv7
          have HOW7 := Lib.hid how7
          have HB7 := Lib.hid hb7
          have HMK := Lib.hid hmk
          have HUM := Lib.hid (show unm (L2.set s true) + (W2 ++ [(s : Int)]).length = unm L + W.length by rw [List.length_append, List.length_singleton]; omega)
          have HSET := Lib.hid (show ∀ u : Nat, L2[u]? = some true → (L2.set s true)[u]? = some true from fun u hu => by
           by_cases e : s = u
           ·
            subst e; exact List.getElem?_set_self (List.getElem?_eq_some_iff.1 hu).1
           ·
            rw [List.getElem?_set_ne e]; exact hu)
          have HSELF := Lib.hid (show (L2.set s true)[s]? = some true from List.getElem?_set_self (List.getElem?_eq_some_iff.1 hbo).1)
          generalize hWL : W2.length = q2 at *
          clear hgi hun2 hlp2 hdone hlv2 how2 hb2 hcs0 hs hbo hsr hrun hlv7 how7 hb7 hmk hum hWL
          go_wp2_with (at_builtin; refine Lib.wpList_append_run _ rfl _ _ _ _ rfl _ _ rfl rfl _ _ HRUN.out ?_)
          go_roundg (nv - (i + 1))
          case measure => rw [HGI.out]; omega
          case rel =>
           refine ⟨i + 1, _, _, by omega, rfl, by go_num, HUM.out, HMK.out, fun q s' hq hs' => ?_, HLV7.out, HOW7.out, HB6.out.trans HB7.out⟩
           by_cases e : q = i
           ·
            subst e
            rw [HS.out] at hs'
            injection hs' with e
            subst e
            exact HSELF.out
           ·
            exact HSET.out _ (HDN.out q s' (by omega) hs')
        ·
         obtain rfl : i = nv := by omega
         have HFIN := Lib.hid (LvP.done hlp2 HLT.out fun s hs => by
          obtain ⟨q, hq, e⟩ := List.getElem_of_mem hs
          exact hdone q s (by rw [HNV.out]; exact hq) (by rw [← e]; exact List.getElem?_eq_getElem hq))
         have hle2 : unm L2 + W2.length ≤ 400 := by simp at hg4; omega
         clear hgi hun2 hlp2 hdone hlv2 how2 hb2
         go_wp2_with fail
         go_roundg (unm L2 + W2.length)
         case measure =>
          have := HGK5.out
          have := HUN2.out
          simp at *
          omega
         case rel => exact ⟨L2, W2, rfl, hle2, HFIN.out, HLV3.out, HOW3.out, HB6.out⟩
end Go.Proofs.YtocbkccchnbmaaaGreat
