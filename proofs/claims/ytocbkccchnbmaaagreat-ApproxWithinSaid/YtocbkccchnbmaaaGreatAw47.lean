/- MkFill -/
import Derived.Test.YtocbkccchnbmaaaGreatAw46
namespace Go.Proofs.YtocbkccchnbmaaaGreat
open Go.RowKit Go.Maps
theorem triLaw : WideMaps.KeyLaw Tryz.prog 141 := deep_law_laid laidT (m := 3) (by omega) (of_decide_eq_true (by kernel_rfl)) (by kernel_rfl) (by kernel_rfl)
def FDone (M : Mkr) (W : List TriD) (k q p : Nat) : Prop := ∀ (j q' p' : Nat) (r : RuleD), q' < M.n → p' < M.n → (j < k ∨ (j = k ∧ (q' < q ∨ (q' = q ∧ p' < p)))) → M.R[j]? = some r → RchW M.d (inW W) r.2 q' p' → (q', r.1.toNat, p') ∈ W
section
variable {M : Mkr} {W : List TriD} {k q p : Nat}
theorem FDone.zero : FDone M W 0 0 0 := fun j q' p' r _ _ h => by omega
theorem FDone.stepP (h : FDone M W k q p) {r : RuleD} (hr : M.R[k]? = some r) (hn : RchW M.d (inW W) r.2 q p → (q, r.1.toNat, p) ∈ W) : FDone M W k q (p + 1) := fun j q' p' r' h1 h2 h3 h4 h5 => by
 by_cases e : j = k ∧ q' = q ∧ p' = p
 ·
  obtain ⟨rfl, rfl, rfl⟩ := e
  rw [hr] at h4
  injection h4 with h4
  subst h4
  exact hn h5
 ·
  exact h j q' p' r' h1 h2 (by omega) h4 h5
theorem FDone.stepQ (h : FDone M W k q M.n) : FDone M W k (q + 1) 0 := fun j q' p' r' h1 h2 h3 h4 h5 => h j q' p' r' h1 h2 (by omega) h4 h5
theorem FDone.stepK (h : FDone M W k M.n 0) : FDone M W (k + 1) 0 0 := fun j q' p' r' h1 h2 h3 h4 h5 => h j q' p' r' h1 h2 (by omega) h4 h5
theorem FDone.all (hM : M.Ok) (h : FDone M W M.R.length 0 0) : ClosedT M.d M.R (inW W) := fun r hr q p hq h5 => by
 obtain ⟨j, hj⟩ := List.getElem?_of_mem hr
 have hjl := (List.getElem?_eq_some_iff.1 hj).1
 have hg := hM.g.rules r hr
 have hp := h5.lt hM.val (fun s hs ht => by
  have h6 := hg.2.2 s hs
  unfold SymOk at h6
  rw [if_pos ht] at h6
  rw [hM.cl]
  exact h6) hq
 rw [← hM.n] at hq hp
 unfold inW
 rw [decide_eq_true_iff]
 exact h j q p r hq hp (.inl hjl) hj h5
end
theorem Mkr.Ok.rule {M : Mkr} (hM : M.Ok) {r : RuleD} (hr : r ∈ M.R) : (0 ≤ r.1 ∧ r.1 < (M.N : Int)) ∧ r.2.length ≤ 4 ∧ M.Syms r.2 := by
 obtain ⟨h1, h2, h3⟩ := hM.g.rules r hr
 refine ⟨h1, h2, fun s hs => ?_⟩
 have h4 := h3 s hs
 unfold SymOk at h4
 by_cases e : s.1 = true
 ·
  rw [if_pos e] at h4
  refine ⟨fun _ => ?_, fun h => (by rw [e] at h; cases h)⟩
  rw [hM.cl]
  exact h4
 ·
  rw [if_neg e] at h4
  exact ⟨fun h => absurd h e, fun _ => h4⟩
theorem Mkr.In.few {M : Mkr} (hM : M.Ok) {w : World} {W : List TriD} (h : M.In w W) : W.length ≤ 1440 :=
 tri_few (n := M.n) (N := M.N) hM.n12 (by have := hM.g.n2; simp only at this; omega) h.words.nodup h.rng
structure FSt (M : Mkr) (w0 : World) (W0 : List TriD) (b : Bool) (k q p : Nat) (W : List TriD) (wr : World) : Prop where
 inn : M.In wr W
 only : Only w0 wr (fun b => b = M.Bw)
 sound : ∀ t ∈ W, Wd M.d M.R t
 st : (b = false ∧ W = W0 ∧ FDone M W k q p) ∨ (b = true ∧ W0.length < W.length)
theorem FSt.skip {M : Mkr} {w0 w w' : World} {W0 W : List TriD} {b : Bool} {k q p an : Nat} {rhs : List SymD} (h : FSt M w0 W0 b k q p W w) (hr : M.R[k]? = some ((an : Int), rhs)) (hb : Below w.heap.size w w') (hn : b = false → RchW M.d (inW W) rhs q p → (q, an, p) ∈ W) : FSt M w0 W0 b k q (p + 1) W w' :=
 ⟨h.inn.below hb, h.only.trans (.of_below hb (Nat.le_refl _) _), h.sound, h.st.imp (fun h1 => ⟨h1.1, h1.2.1, h1.2.2.stepP hr (by simpa using hn h1.1)⟩) id⟩
theorem FSt.nextQ {M : Mkr} {w0 w : World} {W0 W : List TriD} {b : Bool} {k q : Nat} (h : FSt M w0 W0 b k q M.n W w) : FSt M w0 W0 b k (q + 1) 0 W w := ⟨h.inn, h.only, h.sound, h.st.imp (fun h1 => ⟨h1.1, h1.2.1, h1.2.2.stepQ⟩) id⟩
theorem FSt.nextK {M : Mkr} {w0 w : World} {W0 W : List TriD} {b : Bool} {k : Nat} (h : FSt M w0 W0 b k M.n 0 W w) : FSt M w0 W0 b (k + 1) 0 0 W w := ⟨h.inn, h.only, h.sound, h.st.imp (fun h1 => ⟨h1.1, h1.2.1, h1.2.2.stepK⟩) id⟩
theorem FSt.same {M : Mkr} {w0 w : World} {W0 W W3 : List TriD} {b : Bool} {k q p : Nat} (h : FSt M w0 W0 b k q p W w) (h3 : b = false → W3 = W0) (hb : b = false) : W3 = W := by
 rcases h.st with h1 | h1
 ·
  rw [h3 hb, h1.2.1]
 ·
  rw [hb] at h1; cases h1.1
theorem Mkr.In.put {M : Mkr} {w w' : World} {W W' : List TriD} (hM : M.Ok) (h : M.In w W) (ho : Only w w' (fun b => b = M.Bw)) (hm : TMap w' M.Bw W') (hr : ∀ t ∈ W', M.Tri t) : M.In w' W' :=
 have hk : Kept M.S w w' := ho.kept fun b hb e => (hM.apart b hb).2 e
 ⟨(ho.block _ (heap_lt h.box) hM.ne).trans h.box, h.rules.keep hk, h.acc.keep hk, h.nxt.keep hk, hm, fun b hb => Nat.lt_of_lt_of_le (h.fit b hb) ho.size, hr⟩
theorem FSt.put {M : Mkr} {w0 w w' : World} {W0 W W3 : List TriD} {b : Bool} {k q p an : Nat} {rhs : List SymD} (hM : M.Ok) (h : FSt M w0 W0 b k q p W w) (hr : M.R[k]? = some ((an : Int), rhs)) (ho : Only w w' (fun b => b = M.Bw)) (hm : AMap KTri w' M.Bw (putL (W.map fun t => (triZ t, Value.bool true)) (triZ (q, an, p)) (.bool true)))
    (hn : (q, an, p) ∉ W) (h3 : ∀ t ∈ W3, Wd M.d M.R t) (hw : RchW M.d (inW W3) rhs q p) (hq : q < M.n) (ha : an < M.N) (hp : p < M.n) : FSt M w0 W0 true k q (p + 1) (W ++ [(q, an, p)]) w' := by
 rw [putL_tri hn] at hm
 have hrl := (hM.rule (List.mem_of_getElem? hr)).2.2
 refine ⟨h.inn.put hM ho ⟨hm, List.nodup_append.2 ⟨h.inn.words.nodup, by simp, fun x hx y hy => ?_⟩⟩ fun t ht => ?_, h.only.trans ho, fun t ht => ?_, .inr ⟨rfl, ?_⟩⟩
 ·
  rw [List.mem_singleton.1 hy]
  rintro rfl
  exact hn hx
 ·
  rcases List.mem_append.1 ht with e | e
  ·
   exact h.inn.rng t e
  ·
   rw [List.mem_singleton.1 e]
   exact ⟨hq, ha, hp⟩
 ·
  rcases List.mem_append.1 ht with e | e
  ·
   exact h.sound t e
  ·
   rw [List.mem_singleton.1 e]
   obtain ⟨v, h4, h5⟩ := rch_word (R := M.R) (fun t ht => h3 t (of_decide_eq_true ht)) hw (fun s hs => by
    have h6 := hrl s hs
    by_cases e : s.1 = true
    ·
     exact (h6.1 e).1
    ·
     exact (h6.2 (by simpa using e)).1)
   exact ⟨v, LgS.non.2 ⟨_, List.mem_of_getElem? hr, rfl, h4⟩, h5⟩
 ·
  rw [List.length_append, List.length_singleton]
  rcases h.st with h4 | h4
  ·
   rw [h4.2.1]; omega
  ·
   omega
def FillR (M : Mkr) (w : World) (e : Ending) (w' : World) : Prop := e = .returned (.tuple #[]) ∧ ∃ W, M.In w' W ∧ (∀ t ∈ W, Wd M.d M.R t) ∧ ClosedT M.d M.R (inW W) ∧ Only w w' (fun b => b = M.Bw)
set_option linter.unusedSimpArgs false in
set_option maxRecDepth 100000 in
set_option maxHeartbeats 4000000 in
theorem mkFill (M : Mkr) (hM : M.Ok) (w : World) (h : M.In w []) : Calls Tryz.prog 71 #[.pointer (some ⟨M.Bm, 0, none⟩)] w (FillR M w) := by
 have HI := Lib.hid h
 have HM := Lib.hid hM
 have HN := Lib.hid hM.n
 have HNR := Lib.hid hM.nR
 have hn12 := hM.n12
 have hnR : M.nR ≤ 32 := by rw [hM.nR]; exact hM.g.rl
 obtain ⟨AR, hAR⟩ : ∃ AR, AR = M.AR := ⟨_, rfl⟩
 have HAR := Lib.hid hAR
 have HC := Lib.hid (show ∀ (u : World) (W : List TriD), M.In u W → u.cell? ⟨M.Bm, 3, none⟩ = some (.slice AR M.nR M.cR) ∧ u.cell? ⟨M.Bm, 6, none⟩ = some (.slice M.NN M.n M.cN) ∧ u.cell? ⟨M.Bm, 7, none⟩ = some (.map (some M.Bw)) ∧ u.frozen? ⟨M.Bm, 3, none⟩ = false from fun u W hu => by
  have h1 := hu.cells
  rw [HAR.out]
  exact ⟨h1.2.2.2.1, h1.2.2.2.2.2.2.1, h1.2.2.2.2.2.2.2, by simp [World.frozen?, hu.box]⟩)
 have HAP := Lib.hid (show ∀ b, M.S b → b ≠ M.Bw from fun b hb => (hM.apart b hb).2)
 have hN10 : M.N ≤ 10 := by have := hM.g.n2; simp only at this; omega
 clear hM h hAR
 go_enter Tryz.func71, Tryz.ntmps71
 go_wp2_with fail
 go_loopg [2] 1442 (fun gk v2 wr => ∃ (b : Bool) (W : List TriD), v2 = .bool b ∧ gk + W.length = 1441 + (if b = true then 1 else 0) ∧ M.In wr W ∧ Only w wr (fun b => b = M.Bw) ∧ (∀ t ∈ W, Wd M.d M.R t) ∧ (b = false → ClosedT M.d M.R (inW W)))
 case atStart => exact ⟨true, [], rfl, rfl, HI.out, .refl _ _, fun t ht => absurd ht (by simp), fun h => (by cases h)⟩
 case round =>
  obtain ⟨b, W, rfl, hgk, hin, hon, hso, hcl⟩ := hrel
  obtain ⟨w1, rfl⟩ : ∃ w1 : World, w1 = wr := ⟨_, rfl⟩
  have HGK := Lib.hid hgk
  have HIN := Lib.hid hin
  have HON := Lib.hid hon
  have HSO := Lib.hid hso
  have HCL := Lib.hid hcl
  clear hgk hin hon hso hcl
  cases b with
  | false =>
   have HCL2 := Lib.hid (HCL.out rfl)
   clear HCL
   go_wp2_with fail
   refine Go.bodyPost_ret (v := .tuple #[]) (by simp [results, Tryz.results71, go_sem]) rfl ?_
   exact ⟨rfl, W, HIN.out, HSO.out, HCL2.out, HON.out⟩
  | true =>
   obtain ⟨k3, k6, k7, kf⟩ := HC.out w1 W HIN.out
   clear k6 k7 kf HCL
   go_wp2_with fail
   clear k3
   have HST := Lib.hid (show FSt M w1 W false 0 0 0 W w1 from ⟨HIN.out, .refl _ _, HSO.out, .inl ⟨rfl, rfl, FDone.zero⟩⟩)
   go_loopg [2, 16] M.nR (fun g2 v2 v16 wr => ∃ (k : Nat) (b : Bool) (W2 : List TriD), k ≤ M.nR ∧ g2 = M.nR - k ∧ v16 = .int .i64 k ∧ v2 = .bool b ∧ FSt M w1 W b k 0 0 W2 wr)
   case atStart => exact ⟨0, false, W, Nat.zero_le _, rfl, rfl, rfl, HST.out⟩
   case round =>
    obtain ⟨k, b, W2, hk, hg2, rfl, rfl, hst⟩ := hrel
    obtain ⟨w2, rfl⟩ : ∃ w2 : World, w2 = wr := ⟨_, rfl⟩
    have HG2 := Lib.hid hg2
    have HS2 := Lib.hid hst
    clear hg2 hst HST
    by_cases hkl : k < M.nR
    ·
     have hkI : (k : Int) < (M.nR : Int) := by omega
     have hk0 : (0 : Int) ≤ (k : Int) := by omega
     have hru := HS2.out.inn.rules
     rw [← HAR.out] at hru
     obtain ⟨bR, oR, u1, u2, r, hA, hSb, hrs, hok, hc1, hc2⟩ := hru.at2 (k := k) rfl hkl
     obtain ⟨A1, n1, c1, h2, hsl⟩ := RRule.cells.1 hok
     injection h2 with e1 h2
     injection h2 with e2 _
     subst e1
     subst e2
     subst hA
     obtain ⟨a, rhs⟩ := r
     have hc2 : w2.cell? ⟨bR, oR + k * 2 + 1, none⟩ = some (.slice A1 n1 c1) := hc2
     obtain ⟨⟨ha0, haN⟩, hr4, hsy⟩ := HM.out.rule (List.mem_of_getElem? hrs)
     obtain ⟨an, rfl⟩ : ∃ an : Nat, a = (an : Int) := ⟨a.toNat, by simp only at ha0; omega⟩
     have hn1 : n1 ≤ 4 := by rw [hsl.len]; exact hr4
     have haN : an < M.N := by simp only at haN; omega
     obtain ⟨w3, hw3⟩ : ∃ w3 : World, w3 = w2.alloc (.cells #[.int .i64 (an : Int), .slice A1 n1 c1] 43) := ⟨_, rfl⟩
     have hb23 : Below w2.heap.size w2 w3 := by rw [hw3]; exact (Below.refl _ _).alloc (Nat.le_refl _) _
     have hbx : w3.heap[w2.heap.size]? = some (.cells #[.int .i64 (an : Int), .slice A1 n1 c1] 43 (0, 0)) := by rw [hw3]; exact heap_alloc_new _ _
     have HST3 := Lib.hid (show FSt M w1 W b k 0 0 W2 w3 from ⟨HS2.out.inn.below hb23, HS2.out.only.trans (.of_below hb23 (Nat.le_refl _) _), HS2.out.sound, HS2.out.st⟩)
     obtain ⟨k3, k6, k7, kf⟩ := HC.out w3 W2 HST3.out.inn
     have HRS := Lib.hid hrs
     have HSY := Lib.hid hsy
     have HSL := Lib.hid (hsl.fit.more fun b hb => And.intro hb.1 hb.2)
     have HBX := Lib.hid hbx
     have HZ3 := Lib.hid (show w2.heap.size < w3.heap.size from heap_lt hbx)
     have HB23 := Lib.hid hb23
     rw [hw3] at k6
     have HW3 := Lib.hid hw3
     clear k3 k7 kf hrs hok hsl hsy hr4 hbx hb23 hru hSb hw3
     go_wp2_with fail
     rw [← HW3.out]
     have HLOW := Lib.hid HS2.out.inn.low
     have hbw : M.Bw < w2.heap.size := HLOW.out.2.1
     clear k6
     go_loopg [2, 26] M.n (fun g3 v2 v26 wr => ∃ (q : Nat) (b : Bool) (W3 : List TriD), q ≤ M.n ∧ g3 = M.n - q ∧ v26 = .int .i64 q ∧ v2 = .bool b ∧ FSt M w1 W b k q 0 W3 wr ∧ Only w3 wr (fun b => b = M.Bw))
     case atStart => exact ⟨0, b, W2, Nat.zero_le _, rfl, rfl, rfl, HST3.out, .refl _ _⟩
     case round =>
      obtain ⟨q, b, W3, hq, hg3, rfl, rfl, hst, hon⟩ := hrel
      obtain ⟨w4, rfl⟩ : ∃ w4 : World, w4 = wr := ⟨_, rfl⟩
      have HG3 := Lib.hid hg3
      have HS4 := Lib.hid hst
      have HO4 := Lib.hid hon
      clear hg3 hst hon HST3
      by_cases hql : q < M.n
      ·
       have hqI : (q : Int) < (M.n : Int) := by omega
       have hq0 : (0 : Int) ≤ (q : Int) := by omega
       have hz34 : w3.heap.size ≤ w4.heap.size := HO4.out.size
       have hz3 := HZ3.out
       have hbx4 : w4.heap[w2.heap.size]? = some (.cells #[.int .i64 (an : Int), .slice A1 n1 c1] 43 (0, 0)) := (HO4.out.block _ hz3 (by omega)).trans HBX.out
       have hr1 : w4.cell? ⟨w2.heap.size, 1, none⟩ = some (.slice A1 n1 c1) := by simp [World.cell?, hbx4]
       have hk3 : Kept (fun b => M.S b ∧ b < w2.heap.size) w2 w4 := (Kept.belowB HB23.out fun b hb => hb.2).trans (HO4.out.kept fun b hb e => HAP.out b hb.1 e)
       have HSL4 := Lib.hid (HSL.out.keep hk3)
       have HBX4 := Lib.hid hbx4
       have hwn : M.Bw < w4.heap.size := by omega
       clear hbx4 hk3
       go_wp2_with (go_at_call 80; refine (mkReach M HM.out _ W3 HS4.out.inn _ _ _ _ rhs HSL4.out (by omega) HSY.out q hql).mono ?_; rintro e w5 ⟨⟨bB, rfl, hbB, hbl⟩, hb45⟩; have HBL := Lib.hid hbl; have HB45 := Lib.hid hb45; clear hbl hb45)
       clear hr1
       have HS5 := Lib.hid (show FSt M w1 W b k q 0 W3 w5 from ⟨HS4.out.inn.below HB45.out, HS4.out.only.trans (.of_below HB45.out (Nat.le_refl _) _), HS4.out.sound, HS4.out.st⟩)
       obtain ⟨bl, hbl⟩ : ∃ bl, bl = rchL M.d (inW W3) rhs q := ⟨_, rfl⟩
       rw [← hbl] at HBL
       have hblen : bl.length = M.n := by rw [hbl, rchL_len, HN.out]
       have HBLE := Lib.hid hblen
       have HBLD := Lib.hid hbl
       have HTR := Lib.hid (show TermsL M.d rhs from fun s hs ht => (HSY.out s hs).1 ht)
       have HB3 := Lib.hid (show b = false → W3 = W from fun e => by
        rcases HS4.out.st with h | h
        ·
         exact h.2.1
        ·
         rw [e] at h; cases h.1)
       clear hblen hbl
       go_loopg [2, 35] M.n (fun g4 v2 v35 wr => ∃ (p : Nat) (b : Bool) (W4 : List TriD), p ≤ M.n ∧ g4 = M.n - p ∧ v35 = .int .i64 p ∧ v2 = .bool b ∧ FSt M w1 W b k q p W4 wr ∧ Only w5 wr (fun b => b = M.Bw) ∧ Hid (b = false → W3 = W))
       case atStart => exact ⟨0, b, W3, Nat.zero_le _, rfl, rfl, rfl, HS5.out, .refl _ _, HB3⟩
       case round =>
        obtain ⟨p, b, W4, hp, hg4, rfl, rfl, hst, hon, hb3⟩ := hrel
        obtain ⟨w6, rfl⟩ : ∃ w6 : World, w6 = wr := ⟨_, rfl⟩
        have HG4 := Lib.hid hg4
        have HS6 := Lib.hid hst
        have HO6 := Lib.hid hon
        clear hg4 hst hon HS5 HB3
        by_cases hpl : p < M.n
        ·
         have hpI : (p : Int) < (M.n : Int) := by omega
         have hp0 : (0 : Int) ≤ (p : Int) := by omega
         have hz56 : w5.heap.size ≤ w6.heap.size := HO6.out.size
         have hz45 : w4.heap.size ≤ w5.heap.size := HB45.out.size
         have hblt := heap_lt HBL.out
         have hbl6 : BlB w6 bB bl := (HO6.out.block _ hblt (by omega)).trans HBL.out
         obtain ⟨ok, ho1, ho2, _⟩ := hbl6.at_ (i := p) (by rw [HBLE.out]; exact hpl)
         have hr0 : w6.cell? ⟨w2.heap.size, 0, none⟩ = some (.int .i64 (an : Int)) := by
          have h1 := (HO6.out.block _ (by have := heap_lt HBX4.out; omega) (by omega)).trans ((HB45.out.block _ (heap_lt HBX4.out)).trans HBX4.out)
          simp [World.cell?, h1]
         have HRI := Lib.hid (show ok = true ↔ RchW M.d (inW W3) rhs q p from by
          rw [← rchL_iff HM.out.val (by rw [← HN.out]; exact hql) HTR.out, ← HBLD.out, ho1]
          simp)
         clear hbl6 ho1
         obtain ⟨w7, hw7⟩ : ∃ w7 : World, w7 = w6.alloc (.cells #[.int .i64 (q : Int), .int .i64 (an : Int), .int .i64 (p : Int)] 141) := ⟨_, rfl⟩
         have hb67 : Below w6.heap.size w6 w7 := by rw [hw7]; exact (Below.refl _ _).alloc (Nat.le_refl _) _
         have hin7 := HS6.out.inn.below hb67
         obtain ⟨k3, k6, k7, kf⟩ := HC.out w7 W4 hin7
         have hlk : ∀ n, (Instr.lookup 133 (.map (some M.Bw)) (.agg #[.int .i64 (q : Int), .int .i64 (an : Int), .int .i64 (p : Int)]) false).run Tryz.prog (w7.drewN n) = .ok (.bool (decide ((q, an, p) ∈ W4))) (w7.drewN n) := fun n => by
          have h2 := AMap.look (w := w7.drewN n) (hin7.words.map.below (below_drewN _ _ _)) mapTri zeroB (triOk q an p (by omega) (by omega) (by omega))
          rw [lk_triB] at h2
          exact h2
         have HB67 := Lib.hid hb67
         have HIN7 := Lib.hid hin7
         rw [hw7] at k7
         clear k3 k6 kf hb67 hin7
         cases ok with
         | false =>
          have HS8 := Lib.hid (show ∀ n, FSt M w1 W b k q (p + 1) W4 (w7.drewN n) from fun n => HS6.out.skip HRS.out (HB67.out.trans (below_drewN _ _ _)) fun e h => by
           rw [← HS6.out.same (hb3.out) e] at h
           have := HRI.out.2 h
           cases this)
          have HO8 := Lib.hid (show ∀ n, Only w5 (w7.drewN n) (fun b => b = M.Bw) from fun n => HO6.out.trans (.of_below (HB67.out.trans (below_drewN _ _ _)) (Nat.le_refl _) _))
          rw [hw7] at hlk
          have HW7 := Lib.hid hw7
          clear hw7
          go_wp2_with fail
          go_quiet (fail)
          go_wp2_with fail
          rw [← HW7.out]
          go_roundg (M.n - (p + 1))
          case measure => rw [HG4.out]; omega
          case rel => exact ⟨p + 1, b, W4, by omega, rfl, by go_num, rfl, HS8.out _, HO8.out _, hb3⟩
         | true =>
          by_cases hin : (q, an, p) ∈ W4
          ·
           have e : decide ((q, an, p) ∈ W4) = true := by simpa using hin
           rw [e] at hlk
           have HS8 := Lib.hid (show ∀ n, FSt M w1 W b k q (p + 1) W4 (w7.drewN n) from fun n => HS6.out.skip HRS.out (HB67.out.trans (below_drewN _ _ _)) fun _ _ => hin)
           have HO8 := Lib.hid (show ∀ n, Only w5 (w7.drewN n) (fun b => b = M.Bw) from fun n => HO6.out.trans (.of_below (HB67.out.trans (below_drewN _ _ _)) (Nat.le_refl _) _))
           rw [hw7] at hlk
           have HW7 := Lib.hid hw7
           clear hw7 e hin
           go_wp2_with fail
           go_quiet (fail)
           go_wp2_with fail
           rw [← HW7.out]
           go_roundg (M.n - (p + 1))
           case measure => rw [HG4.out]; omega
           case rel => exact ⟨p + 1, b, W4, by omega, rfl, by go_num, rfl, HS8.out _, HO8.out _, hb3⟩
          ·
           have e : decide ((q, an, p) ∈ W4) = false := by simpa using hin
           rw [e] at hlk
           rw [hw7] at hlk
           have HW7 := Lib.hid hw7
           have HNI := Lib.hid hin
           clear hw7 e hin
           go_wp2_with fail
           go_quiet (fail)
           rw [← HW7.out]
           clear hlk k7
           obtain ⟨w8, hw8⟩ : ∃ w8 : World, w8 = w7.drewN nq := ⟨_, rfl⟩
           have hb78 : Below w7.heap.size w7 w8 := by rw [hw8]; exact below_drewN _ _ _
           rw [← hw8]
           clear hw8
           have hin8 := HIN7.out.below hb78
           obtain ⟨k3, k6, k7, kf⟩ := HC.out w8 W4 hin8
           have htr : w8.cell? ⟨w6.heap.size, 0, none⟩ = some (.int .i64 (q : Int)) ∧ w8.cell? ⟨w6.heap.size, 1, none⟩ = some (.int .i64 (an : Int)) ∧ w8.cell? ⟨w6.heap.size, 2, none⟩ = some (.int .i64 (p : Int)) := by
            have h1 : w7.heap[w6.heap.size]? = some (.cells #[.int .i64 (q : Int), .int .i64 (an : Int), .int .i64 (p : Int)] 141 (0, 0)) := by rw [HW7.out]; exact heap_alloc_new _ _
            have h2 := (hb78.block _ (heap_lt h1)).trans h1
            exact ⟨by simp [World.cell?, h2], by simp [World.cell?, h2], by simp [World.cell?, h2]⟩
           obtain ⟨t0, t1, t2⟩ := htr
           have hfew := hin8.few HM.out
           obtain ⟨v0, st, w9, hme, hg9, hes⟩ := AMap.entry (w := w8.drew) (hin8.words.map.drew) triLaw mapTri zeroB (triOk q an p (by omega) (by omega) (by omega)) (.bool true) (by rw [List.length_map]; unfold maxLen; omega)
           have hme : (Instr.mapEntry 133 (.map (some M.Bw)) (.agg #[.int .i64 (q : Int), .int .i64 (an : Int), .int .i64 (p : Int)])).run Tryz.prog w8.drew = .ok (.tuple #[v0, .int .i64 (st : Int)]) w9 := hme
           obtain ⟨w10, hes, hm10, hg10⟩ := hes w9 rfl
           have HCH := Lib.hid (And.intro hg9 (And.intro hm10 hg10))
           have HIN8 := Lib.hid hin8
           have HB78 := Lib.hid hb78
           clear k3 k6 kf hg9 hm10 hg10 hin8 hb78
           go_wp2_with fail
           go_region
           have HON := Lib.hid (show Only w6 w10 (fun b => b = M.Bw) from by
            have h1 : Only w6 w8 (fun b => b = M.Bw) := .of_below (HB67.out.trans (HB78.out.mono HB67.out.size)) (Nat.le_refl _) _
            exact h1.trans ((Only.drew _ _).trans ((Only.of_grown HCH.out.1 fun b e => by injection e with e; exact e.symm).trans (Only.of_grown HCH.out.2.2 fun b e => by injection e with e; exact e.symm)))) 
           have HSN := Lib.hid (show FSt M w1 W true k q (p + 1) (W4 ++ [(q, an, p)]) w10 from HS6.out.put HM.out HRS.out HON.out HCH.out.2.1 HNI.out HS4.out.sound (HRI.out.1 (by trivial)) hql haN hpl)
           have HO10 := Lib.hid (HO6.out.trans HON.out)
           go_wp2_with fail
           go_roundg (M.n - (p + 1))
           case measure => rw [HG4.out]; omega
           case rel => exact ⟨p + 1, true, W4 ++ [(q, an, p)], by omega, rfl, by go_num, rfl, HSN.out, HO10.out, Lib.hid fun e => by cases e⟩
        ·
         obtain rfl : M.n = p := by omega
         go_wp2_with fail
         go_roundg (M.n - (q + 1))
         case measure => rw [HG3.out]; omega
         case rel => exact ⟨q + 1, b, W4, by omega, rfl, by go_num, rfl, HS6.out.nextQ, HO4.out.trans ((Only.of_below HB45.out (Nat.le_refl _) _).trans HO6.out)⟩
      ·
       obtain rfl : M.n = q := by omega
       go_wp2_with fail
       go_roundg (M.nR - (k + 1))
       case measure => rw [HG2.out]; omega
       case rel => exact ⟨k + 1, b, W3, by omega, rfl, by go_num, rfl, HS4.out.nextK⟩
    ·
     obtain rfl : M.nR = k := by omega
     go_wp2_with fail
     go_roundg (1441 + (if b = true then 1 else 0) - W2.length)
     case measure =>
      have h1 := HGK.out
      have h2 := HS2.out.inn.few HM.out
      rcases HS2.out.st with h3 | h3
      ·
       have h4 := h3.2.1
       subst h4
       rw [h3.1]
       simp at h1 ⊢
       omega
      ·
       rw [h3.1]
       simp at h1 ⊢
       omega
     case rel =>
      have h2 := HS2.out.inn.few HM.out
      refine ⟨b, W2, rfl, by split <;> omega, HS2.out.inn, HON.out.trans HS2.out.only, HS2.out.sound, fun e => ?_⟩
      rcases HS2.out.st with h3 | h3
      ·
       exact FDone.all HM.out (by rw [← HNR.out]; exact h3.2.2)
      ·
       rw [e] at h3
       cases h3.1
end Go.Proofs.YtocbkccchnbmaaaGreat
