/- MkReach GMapE -/
import Derived.Test.YtocbkccchnbmaaaGreatAw12
import Derived.Test.YtocbkccchnbmaaaGreatAw26
import Derived.Test.YtocbkccchnbmaaaGreatAw45
import Derived.WideKeyEntry
namespace Go.Proofs.YtocbkccchnbmaaaGreat
open Go.RowKit Go.Maps
def BlB (wr : World) (B : Nat) (L : List Bool) : Prop := wr.heap[B]? = some (.cells (L.map Value.bool).toArray 4 (0, 0))
section
variable {wr wr' : World} {B : Nat} {L : List Bool}
theorem BlB.at_ (h : BlB wr B L) {i : Nat} (hi : i < L.length) : ∃ b, L[i]? = some b ∧ wr.cell? ⟨B, i, none⟩ = some (.bool b) ∧ wr.frozen? ⟨B, i, none⟩ = false := by
 have h1 := List.getElem?_eq_getElem hi
 refine ⟨_, h1, ?_, by have h2 : wr.heap[B]? = _ := h; simp [World.frozen?, h2]⟩
 rw [cell_of_row _ _ i _ _ _ h]
 simp [h1]
theorem BlB.set (h : BlB wr B L) (i : Nat) (b : Bool) : BlB (wr.setCell ⟨B, i, none⟩ (.bool b)) B (L.set i b) := by
 have := blk_set h i (.bool b)
 rwa [set_map] at this
theorem BlB.belowK {K : Nat} (h : BlB wr B L) (hK : B < K) (hb : Below K wr wr') : BlB wr' B L := (hb.block _ hK).trans h
theorem BlB.below (h : BlB wr B L) (hb : Below wr.heap.size wr wr') : BlB wr' B L := (hb.block _ (heap_lt h)).trans h
theorem BlB.made (w : World) (n : Nat) : BlB (w.alloc (.cells (Array.replicate n (Value.bool false)) 4)) w.heap.size (List.replicate n false) := by
 unfold BlB
 rw [show ((List.replicate n false).map Value.bool).toArray = Array.replicate n (Value.bool false) by simp]
 exact heap_alloc_new w _
end
def ReachB (bl : List Bool) (base n : Nat) (e : Ending) (w' : World) : Prop := ∃ b, e = .returned (.slice (some ⟨b, 0, none⟩) n n) ∧ base ≤ b ∧ BlB w' b bl
def Mkr.Syms (M : Mkr) (l : List SymD) : Prop := ∀ s ∈ l, (s.1 = true → 0 ≤ s.2 ∧ s.2 < (cols M.d : Int)) ∧ (s.1 = false → 0 ≤ s.2 ∧ s.2 < (M.N : Int))
theorem rchL_succ {d : DfaD} {W : TriD → Bool} {l : List SymD} {k q : Nat} {s : SymD} (h : l[k]? = some s) : rchL d W (l.take (k + 1)) q = markL d.2.2.length (nxtU d W s (rchL d W (l.take k) q) d.2.2.length) := by
 rw [List.take_add_one, h]
 exact rchL_snoc _ _ _
theorem Mkr.Ok.syms_lt {M : Mkr} (hM : M.Ok) {V : TriD → Bool} {l : List SymD} (hl : M.Syms l) {s : SymD} (hs : s ∈ l) {q x : Nat} (hq : q < M.n) (h : x ∈ stpL M.d V s q) : x < M.n := by
 have h1 := stpL_lt hM.val (by rw [← hM.n]; exact hq) (hl s hs).1 h
 rw [hM.n]
 exact h1
theorem stpL_few (d : DfaD) (V : TriD → Bool) (s : SymD) (q : Nat) : (stpL d V s q).length ≤ d.2.2.length + 1 := by
 unfold stpL
 split
 ·
  split <;> simp
 ·
  have := List.length_filter_le (fun p => V (q, s.2.toNat, p)) (List.range d.2.2.length)
  rw [List.length_range] at this
  omega
set_option linter.unusedSimpArgs false in
set_option maxRecDepth 100000 in
set_option maxHeartbeats 4000000 in
theorem mkReach (M : Mkr) (hM : M.Ok) (w : World) (W : List TriD) (h : M.In w W) (S : Nat → Prop) (A : Option Addr) (n c : Nat) (l : List SymD) (hl : Sl RSym w S A n c l) (hn : n ≤ 1000) (hsy : M.Syms l) (q : Nat) (hq : q < M.n) :
    Calls Tryz.prog 80 #[.pointer (some ⟨M.Bm, 0, none⟩), .slice A n c, .int .i64 (q : Int)] w fun e w' => ReachB (rchL M.d (inW W) l q) w.heap.size M.n e w' ∧ Below w.heap.size w w' := by
 have HI := Lib.hid h
 have HM := Lib.hid hM
 have HN := Lib.hid hM.n
 have hn12 := hM.n12
 have HSY := Lib.hid hsy
 have HSL := Lib.hid hl.fit
 have HLN := Lib.hid hl.len
 have k6 := h.cells.2.2.2.2.2.2.1
 have hmk := tBools.make rfl M.n (by omega) (by omega) w
 simp only [made_boolsA] at hmk
 have HB0 := Lib.hid (show BlB (w.alloc (.cells ((Array.replicate M.n (Value.bool false)).setIfInBounds q (.bool true)) 4)) w.heap.size (markL M.n [q]) by
  unfold BlB
  rw [show (Array.replicate M.n (Value.bool false)).setIfInBounds q (.bool true) = ((markL M.n [q]).map Value.bool).toArray from by
   rw [show [q] = [] ++ [q] from rfl, ← markL_set, ← set_map, markL_nil]
   simp]
  exact heap_alloc_new _ _)
 have hq0 : (0 : Int) ≤ (q : Int) := by omega
 have hqI : (q : Int) < (M.n : Int) := by omega
 obtain ⟨b, hb1, hb2, hb3⟩ := (BlB.made w M.n).at_ (i := q) (by simp; exact hq)
 clear h hsy hl hM hb1 hb2
 go_enter Tryz.func80, Tryz.ntmps80
 go_wp2_with fail
 clear hmk k6 hb3 b
 go_loopg [7, 27] n (fun gk v7 v27 wr => ∃ k B : Nat, k ≤ n ∧ gk = n - k ∧ v27 = .int .i64 k ∧ v7 = .slice (some ⟨B, 0, none⟩) M.n M.n ∧ w.heap.size ≤ B ∧ BlB wr B (rchL M.d (inW W) (l.take k) q) ∧ Below w.heap.size w wr)
 case atStart =>
  refine ⟨0, w.heap.size, Nat.zero_le _, rfl, rfl, rfl, Nat.le_refl _, ?_, (Below.refl _ _).alloc (Nat.le_refl _) _⟩
  rw [show rchL M.d (inW W) (l.take 0) q = markL M.n [q] by rw [HN.out]; rfl]
  exact HB0.out
 case round =>
  obtain ⟨k, B, hk, hgk, rfl, rfl, hB, hbl, hbw⟩ := hrel
  obtain ⟨w1, rfl⟩ : ∃ w1 : World, w1 = wr := ⟨_, rfl⟩
  have HGK := Lib.hid hgk
  have HBL := Lib.hid hbl
  have HBW := Lib.hid hbw
  clear hgk
  by_cases hkl : k < n
  ·
   have hkI : (k : Int) < (n : Int) := by omega
   have hk0 : (0 : Int) ≤ (k : Int) := by omega
   obtain ⟨bl, ol, u1, u2, s, hA, hSb, hls, hok, hc1, hc2⟩ := HSL.out.at2 (k := k) rfl hkl
   have h2 := RSym.cells.1 hok
   injection h2 with e1 h2
   injection h2 with e2 _
   subst e1
   subst e2
   subst hA
   obtain ⟨sb, sx⟩ := s
   have hc1 := (hbw.cell (p := ⟨bl, ol + k * 2, none⟩) hSb.2).trans hc1
   have hc2 : w1.cell? ⟨bl, ol + k * 2 + 1, none⟩ = some (.int .i64 sx) := (hbw.cell (p := ⟨bl, ol + (k * 2 + 1), none⟩) hSb.2).trans hc2
   have hBl := heap_lt hbl
   have HLS := Lib.hid hls
   obtain ⟨w2, hw2⟩ : ∃ w2 : World, w2 = w1.alloc (.cells #[.bool sb, .int .i64 sx] 45) := ⟨_, rfl⟩
   have hz2 : w2.heap.size = w1.heap.size + 1 := by rw [hw2]; simp
   have hmk := tBools.make rfl M.n (by omega) (by omega) w2
   simp only [made_boolsA] at hmk
   rw [hz2, hw2] at hmk
   obtain ⟨w3, hw3⟩ : ∃ w3 : World, w3 = w2.alloc (.cells (Array.replicate M.n (Value.bool false)) 4) := ⟨_, rfl⟩
   have hb3 : BlB w3 (w1.heap.size + 1) (markL M.n []) := by
    rw [hw3, markL_nil, ← hz2]
    exact BlB.made _ _
   have hbw13 : Below w1.heap.size w1 w3 := by rw [hw3, hw2]; exact ((Below.refl _ _).alloc (Nat.le_refl _) _).alloc (by simp) _
   have hbx3 : w3.cell? ⟨w1.heap.size, 0, none⟩ = some (.bool sb) ∧ w3.cell? ⟨w1.heap.size, 1, none⟩ = some (.int .i64 sx) := by
    have h1 : w3.heap[w1.heap.size]? = some (.cells #[.bool sb, .int .i64 sx] 45 (0, 0)) := by
     rw [hw3, Below.heap_alloc _ _ _ (by rw [hz2]; omega), hw2]
     exact heap_alloc_new _ _
    exact ⟨by simp [World.cell?, h1], by simp [World.cell?, h1]⟩
   have hz3 : w3.heap.size = w1.heap.size + 2 := by rw [hw3]; simp [hz2]
   have HB3 := Lib.hid hb3
   have HB13 := Lib.hid hbw13
   have HBX3 := Lib.hid hbx3
   have HZ3 := Lib.hid hz3
   have HW3 := Lib.hid (show w3 = (w1.alloc (.cells #[.bool sb, .int .i64 sx] 45)).alloc (.cells (Array.replicate M.n (Value.bool false)) 4) by rw [hw3, hw2])
   clear hls hok hb3 hbw13 hbx3 hz3 hw3 hw2 hz2 hbl hbw w2
   go_wp2_with fail
   rw [← HW3.out]
   clear hmk hc1 hc2
   obtain ⟨at_, hat⟩ : ∃ at_, at_ = rchL M.d (inW W) (l.take k) q := ⟨_, rfl⟩
   rw [← hat] at HBL
   have HAT := Lib.hid hat
   have halen : at_.length = M.n := by rw [hat, rchL_len, HN.out]
   have HAL := Lib.hid halen
   clear hat halen
   go_loopg [36] M.n (fun gp v36 wr => ∃ p : Nat, p ≤ M.n ∧ gp = M.n - p ∧ v36 = .int .i64 p ∧ BlB wr (w1.heap.size + 1) (markL M.n (nxtU M.d (inW W) (sb, sx) at_ p)) ∧ Below (w1.heap.size + 1) w3 wr)
   case atStart => exact ⟨0, Nat.zero_le _, rfl, rfl, HB3.out, .refl _ _⟩
   case round =>
    obtain ⟨p, hp, hgp, rfl, hbn, hbp⟩ := hrel
    obtain ⟨w4, rfl⟩ : ∃ w4 : World, w4 = wr := ⟨_, rfl⟩
    have HGP := Lib.hid hgp
    have HBN := Lib.hid hbn
    have HBP := Lib.hid hbp
    clear hgp
    by_cases hpl : p < M.n
    ·
     have hpI : (p : Int) < (M.n : Int) := by omega
     have hp0 : (0 : Int) ≤ (p : Int) := by omega
     have hb4 : BlB w4 B at_ := (HBL.out.below HB13.out).belowK (by omega) hbp
     obtain ⟨ok, ho1, ho2, _⟩ := hb4.at_ (i := p) (by rw [HAL.out]; exact hpl)
     have HO1 := Lib.hid ho1
     have HNX := Lib.hid (nxtU_succ M.d (inW W) (sb, sx) at_ p)
     clear ho1 hb4 hbn
     cases ok with
     | false =>
      clear hbp
      go_wp2_with fail
      go_roundg (M.n - (p + 1))
      case measure => rw [HGP.out]; omega
      case rel =>
       refine ⟨p + 1, by omega, rfl, by go_num, ?_, HBP.out⟩
       rw [HNX.out, HO1.out, if_neg (by simp), List.append_nil]
       exact HBN.out
     | true =>
      have hs1 : w4.cell? ⟨w1.heap.size, 0, none⟩ = some (.bool sb) := (hbp.cell (p := ⟨w1.heap.size, 0, none⟩) (by simp)).trans HBX3.out.1
      have hs2 : w4.cell? ⟨w1.heap.size, 1, none⟩ = some (.int .i64 sx) := (hbp.cell (p := ⟨w1.heap.size, 1, none⟩) (by simp)).trans HBX3.out.2
      have HBW4 := Lib.hid (show Below w.heap.size w w4 from HBW.out.trans ((HB13.out.mono HBW.out.size).trans (hbp.mono (by have := HBW.out.size; omega))))
      have HI4 := Lib.hid (HI.out.below HBW4.out)
      have hsm : (sb, sx) ∈ l := List.mem_of_getElem? HLS.out
      have HSM := Lib.hid hsm
      clear hbp hsm
      go_wp2_with (go_at_call 86; refine (mkStep M HM.out _ W HI4.out (sb, sx) p hpl (HSY.out _ HSM.out).1 (HSY.out _ HSM.out).2).mono ?_; rintro e w5 ⟨⟨A5, c5, rfl, hs5⟩, hb5⟩; have HS5 := Lib.hid hs5; have HB5 := Lib.hid hb5; clear hs5 hb5)
      obtain ⟨xs, hxs⟩ : ∃ xs, xs = stpL M.d (inW W) (sb, sx) p := ⟨_, rfl⟩
      rw [← hxs] at HS5 ⊢
      have hxl : ∀ x ∈ xs, x < M.n := fun x hx => HM.out.syms_lt HSY.out HSM.out hpl (by rw [← hxs]; exact hx)
      have hxf : xs.length ≤ 13 := by
       have := stpL_few M.d (inW W) (sb, sx) p
       rw [← hxs, ← HN.out] at this
       omega
      have HXS := Lib.hid hxs
      have HXL := Lib.hid hxl
      have hz4 : w1.heap.size + 1 < w4.heap.size := heap_lt HBN.out
      have hz5 : w4.heap.size ≤ w5.heap.size := HB5.out.size
      obtain ⟨m, hm⟩ : ∃ m, m = xs.length := ⟨_, rfl⟩
      rw [← hm] at HS5 hxf ⊢
      have HMX := Lib.hid hm
      have HP5 := Lib.hid (HBP.out.trans (HB5.out.mono (by omega : w1.heap.size + 1 ≤ w4.heap.size)))
      have HBN5 := Lib.hid (HBN.out.below HB5.out)
      clear hxs hxl hm hs1 hs2
      go_loopg [47] m (fun gj v47 wr => ∃ j : Nat, j ≤ m ∧ gj = m - j ∧ v47 = .int .i64 j ∧ BlB wr (w1.heap.size + 1) (markL M.n (nxtU M.d (inW W) (sb, sx) at_ p ++ xs.take j)) ∧ Sl Rep.int wr (fun b => w4.heap.size ≤ b) A5 m c5 (xs.map fun x : Nat => (x : Int)) ∧ Below (w1.heap.size + 1) w3 wr)
      case atStart => exact ⟨0, Nat.zero_le _, rfl, rfl, by rw [List.take_zero, List.append_nil]; exact HBN5.out, HS5.out, HP5.out⟩
      case round =>
       obtain ⟨j, hj, hgj, rfl, hbj, hsj, hbq⟩ := hrel
       obtain ⟨w6, rfl⟩ : ∃ w6 : World, w6 = wr := ⟨_, rfl⟩
       have HGJ := Lib.hid hgj
       have HBJ := Lib.hid hbj
       have HSJ := Lib.hid hsj
       have HBQ := Lib.hid hbq
       clear hgj hbq
       by_cases hjl : j < m
       ·
        have hjI : (j : Int) < (m : Int) := by omega
        have hj0 : (0 : Int) ≤ (j : Int) := by omega
        have hxj : xs[j]? = some (xs[j]'(by rw [← HMX.out]; exact hjl)) := List.getElem?_eq_getElem _
        generalize xs[j]'(by rw [← HMX.out]; exact hjl) = x at hxj
        obtain ⟨b5, o5, y, hA5, hS5, hy, hcy⟩ := hsj.ints.int_at hjl
        have hyx : y = (x : Int) := by
         rw [List.getElem?_map, hxj] at hy
         simpa using hy.symm
        subst hyx
        subst hA5
        have hxn := HXL.out x (List.mem_of_getElem? hxj)
        have hxI : (x : Int) < (M.n : Int) := by omega
        have hx0 : (0 : Int) ≤ (x : Int) := by omega
        obtain ⟨_, _, hcb, hfb⟩ := hbj.at_ (i := x) (by rw [markL_len]; exact hxn)
        have HREL := Lib.hid (show BlB (w6.setCell ⟨w1.heap.size + 1, x, none⟩ (.bool true)) (w1.heap.size + 1) (markL M.n (nxtU M.d (inW W) (sb, sx) at_ p ++ xs.take (j + 1))) from by
         rw [List.take_add_one, hxj, ← List.append_assoc]
         show BlB _ _ (markL M.n (_ ++ [x]))
         rw [← markL_set]
         exact hbj.set x true)
        have HSK := Lib.hid (show Sl Rep.int (w6.setCell ⟨w1.heap.size + 1, x, none⟩ (.bool true)) (fun b => w4.heap.size ≤ b) (some ⟨b5, o5, none⟩) m c5 (xs.map fun x : Nat => (x : Int)) from hsj.keep (.setCell _ _ _ _ (by simp; omega)))
        clear hbj hsj hxj hy
        go_wp2_with fail
        go_roundg (m - (j + 1))
        case measure => rw [HGJ.out]; omega
        case rel => exact ⟨j + 1, by omega, rfl, by go_num, HREL.out, HSK.out, HBQ.out.setCell (by simp) _⟩
       ·
        obtain rfl : m = j := by omega
        clear hbj hsj
        go_wp2_with fail
        go_roundg (M.n - (p + 1))
        case measure => rw [HGP.out]; omega
        case rel =>
         refine ⟨p + 1, by omega, rfl, by go_num, ?_, HBQ.out⟩
         have h1 := HBJ.out
         rw [List.take_of_length_le (by rw [HMX.out]; exact Nat.le_refl _), HXS.out] at h1
         rw [HNX.out, HO1.out, if_pos rfl]
         exact h1
    ·
     obtain rfl : M.n = p := by omega
     clear hbn hbp
     go_wp2_with fail
     go_roundg (n - (k + 1))
     case measure => rw [HGK.out]; omega
     case rel =>
      refine ⟨k + 1, w1.heap.size + 1, by omega, rfl, by go_num, rfl, by have := HBW.out.size; omega, ?_, HBW.out.trans ((HB13.out.mono HBW.out.size).trans (HBP.out.mono (by have := HBW.out.size; omega)))⟩
      rw [rchL_succ HLS.out, ← HAT.out, ← HN.out]
      exact HBN.out
  ·
   obtain rfl : n = k := by omega
   go_wp2_with fail
   go_ret
   have h1 := HBL.out
   rw [List.take_of_length_le (by rw [← HLN.out]; omega)] at h1
   exact ⟨⟨B, rfl, hB, h1⟩, HBW.out⟩
end Go.Proofs.YtocbkccchnbmaaaGreat
namespace Go.Proofs.YtocbkccchnbmaaaGreat
open Go.RowKit Go.Maps Go.ChangeMaps
theorem grown_setBlock {w : World} {b : Nat} {es : Array MapEntry} {clock : Nat} {o' : Obj} (h : w.heap[b]? = some (.map es clock)) : w.grownBy (setBlock w b o') (some b) :=
 ⟨rfl, rfl, rfl, by simp [setBlock], fun i _ hi => heap_setBlock_other h _ (fun e => hi (by rw [e]))⟩
section
variable {P : Program} {k : TypeId} {κ : Type} [DecidableEq κ] {K : KeyRep P k κ} {w : World} {b : Nat} {l : List (κ × Value)}
theorem AMap.entry {t e : TypeId} (h : AMap K w b l) (KL : WideMaps.KeyLaw P k) (ht : P.underlying t = some (.map k e)) {z : Value} (hz : ∀ u : World, (zeroValue e).run P u = .ok z u) {x : κ} (hx : K.ok x) (v : Value) (hl : l.length < maxLen) :
    ∃ (v0 : Value) (st : Nat) (w1 : World), (Instr.mapEntry t (.map (some b)) (K.val x)).run P w = .ok (.tuple #[v0, .int .i64 (st : Int)]) w1 ∧ w.grownBy w1 (some b) ∧
     ∀ w2 : World, w2.heap[b]? = w1.heap[b]? → ∃ w3, (Instr.entryStore t (.map (some b)) (.int .i64 (st : Int)) v).run P w2 = .ok () w3 ∧ AMap K w3 b (putL l x v) ∧ w2.grownBy w3 (some b) := by
 obtain ⟨w', hrun, hm, _⟩ := h.put ht hx v hl
 obtain ⟨D, ⟨es, clock, hb, F, hs, hD⟩, _⟩ := h
 obtain ⟨kl, hk⟩ := K.lit x hx
 obtain ⟨v0, st, es1, clock1, h1, _, h2⟩ := WideElems.entry_then_store KL ht hz hb F hk
 refine ⟨v0, st, _, h1, grown_setBlock hb, fun w2 hw2 => ?_⟩
 rw [heap_setBlock_same hb] at hw2
 obtain ⟨es', clock', h3, h4⟩ := h2 w2 v hw2
 rw [hrun] at h4
 injection h4 with _ h4
 subst h4
 exact ⟨_, h3, hm.block (by rw [heap_setBlock_same hw2, heap_setBlock_same hb]), grown_setBlock hw2⟩
end
end Go.Proofs.YtocbkccchnbmaaaGreat
