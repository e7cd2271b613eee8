/- MkProduct -/
import Derived.Test.YtbmcoamdfpegnaaMt30
namespace Go.Proofs.Ytbmcoamdfpegnaa
open Go.RowKit Go.Maps
def ProductR (M : Mkr) (W : List TriD) (base : Nat) (e : Ending) (w' : World) : Prop :=
 ∃ L : List TriD, L.Pairwise TLt ∧ (∀ t, t ∈ L ↔ NdP M.d M.R (inW W) M.st t) ∧ (∀ t ∈ L, M.Tri t) ∧
  (((allPR M W L).length ≤ 4000 ∧ ∃ (FR FF FN : Nat → Prop) (vR vN vF : Value) (Bq : Nat), e = .returned (.tuple #[.agg #[.int .i64 (M.T : Int), .int .i64 ((L.length + 1 : Nat) : Int), .int .i64 0, vR, vN, vF], .map (some Bq), .int .i64 0]) ∧ GL RRule 40 w' FR vR ((allPR M W L).map fun x => x.1) ∧ GL RNon 46 w' FN vN ((-1, -1, -1) :: L.map triZ) ∧ GL Rep.int 3 w' FF vF ((allPR M W L).map fun x => x.2.1) ∧ AMap KS w' Bq (kmOf (allPR M W L)) ∧ (∀ b, FR b ∨ FF b ∨ FN b → base ≤ b ∧ b < w'.heap.size) ∧ base ≤ Bq) ∨
   (4000 < (allPR M W L).length ∧ e = .returned (.tuple #[.agg #[.int .i64 0, .int .i64 0, .int .i64 0, .slice none 0 0, .slice none 0 0, .slice none 0 0], .map none, .int .i64 2])))
structure NuSt (M : Mkr) (W L : List TriD) (i : Nat) (w : World) (A : Option Addr) (c : Nat) (FL : Nat → Prop) (Bn Bm Bo : Nat) (FN : Nat → Prop) (vN : Value) : Prop where
 inn : M.In w W
 lst : Sl RTri w FL A L.length c L
 num : AMap KTri w Bn (numM (L.take i))
 nb : w.heap[Bm]? = some (.cells #[.map (some Bn)] 109 (0, 0))
 out : w.heap[Bo]? = some (.cells #[.int .i64 0, .int .i64 0, .int .i64 0, .slice none 0 0, vN, .slice none 0 0] 34 (0, 0))
 nons : GL RNon 46 w FN vN ((-1, -1, -1) :: (L.take i).map triZ)
 off : ∀ b, FN b → b < w.heap.size ∧ b ≠ Bn ∧ b ≠ Bm ∧ b ≠ Bo ∧ ¬ FL b ∧ b ≠ M.Bm ∧ b ≠ M.Bw ∧ ¬ M.S b
 fl : ∀ b, FN b → Bn ≤ b
 lo : ∀ b, FL b → b < Bn
 mo : M.Bm < Bn ∧ M.Bw < Bn ∧ ∀ b, M.S b → b < Bn
 nmo : Bn < Bm ∧ Bm < Bo
section
variable {M : Mkr} {W L : List TriD} {i : Nat} {w w5 w4 w6 : World} {A : Option Addr} {c : Nat} {FL : Nat → Prop} {Bn Bm Bo : Nat} {FN : Nat → Prop} {vN : Value}
theorem NuSt.only {X : Nat → Prop} (h : NuSt M W L i w A c FL Bn Bm Bo FN vN) (ho : Only w w5 X) (hX : ∀ b, X b → b < w.heap.size → Bn ≤ b ∧ b ≠ Bn ∧ b ≠ Bm ∧ b ≠ Bo ∧ ¬ FN b) : NuSt M W L i w5 A c FL Bn Bm Bo FN vN := by
 have hmo := h.mo
 have hlo := h.lo
 refine ⟨h.inn.only (X := fun b => X b ∧ b < w.heap.size) ⟨ho.os, ho.tape, ho.output, ho.size, fun b h1 h2 => ho.block b h1 fun hy => h2 ⟨hy, h1⟩⟩ fun b hb => ?_, h.lst.fit.keep (ho.kept fun b hb hx => ?_) |>.more fun b hb => hb.1, h.num.block (ho.block _ h.num.lt fun hx => (hX _ hx h.num.lt).2.1 rfl), (ho.block _ (heap_lt h.nb) fun hx => (hX _ hx (heap_lt h.nb)).2.2.1 rfl).trans h.nb, (ho.block _ (heap_lt h.out) fun hx => (hX _ hx (heap_lt h.out)).2.2.2.1 rfl).trans h.out, h.nons.only ho fun b hb hl hx => (hX b hx hl).2.2.2.2 hb, fun b hb => ⟨Nat.lt_of_lt_of_le (h.off b hb).1 ho.size, (h.off b hb).2⟩, h.fl, h.lo, h.mo, h.nmo⟩
 ·
  have h1 := (hX b hb.1 hb.2).1
  exact ⟨by omega, by omega, fun hs => by have := hmo.2.2 b hs; omega⟩
 ·
  have h1 := (hX b hx hb.2).1
  have h2 := hlo b hb.1
  omega
theorem NuSt.next {t : TriD} {v' : Value} {FN' : Nat → Prop} (h : NuSt M W L i w A c FL Bn Bm Bo FN vN) (hd : L.Nodup) (ht : L[i]? = some t) (ho5 : Only w w5 (fun _ => False)) (hm : AMap KTri w4 Bn (putL (numM (L.take i)) (triZ t) (.int .i64 ((i + 1 : Nat) : Int)))) (hg : Only w5 w4 (fun b => b = Bn)) (hgl : GL RNon 46 w6 FN' v' (((-1, -1, -1) :: (L.take i).map triZ) ++ [triZ t])) (ho6 : Only w4 w6 FN) (hF : ∀ b, FN' b → FN b ∨ w4.heap.size ≤ b) :
    NuSt M W L (i + 1) (w6.setCell ⟨Bo, 4, none⟩ v') A c FL Bn Bm Bo (fun b => FN' b ∧ b < w6.heap.size) v' ∧ Only w (w6.setCell ⟨Bo, 4, none⟩ v') (fun b => b = Bn ∨ FN b ∨ b = Bo) := by
 have hmo := h.mo
 have hlo := h.lo
 have hnm := h.nmo
 have hbo := heap_lt h.out
 have hs6 : w.heap.size ≤ w4.heap.size := Nat.le_trans ho5.size hg.size
 have g5 : Only w6 (w6.setCell ⟨Bo, 4, none⟩ v') (fun b => b = Bo) := Only.set _ _ _ _ rfl
 have hall : Only w (w6.setCell ⟨Bo, 4, none⟩ v') (fun b => b = Bn ∨ FN b ∨ b = Bo) := (ho5.more fun b _ h => h.elim).trans ((hg.more fun b _ h => .inl h).trans ((ho6.more fun b _ h => .inr (.inl h)).trans (g5.more fun b _ h => .inr (.inr h))))
 have hb6 : w6.heap[Bo]? = some (.cells #[.int .i64 0, .int .i64 0, .int .i64 0, .slice none 0 0, vN, .slice none 0 0] 34 (0, 0)) :=
  (ho6.block _ (by omega) fun hx => (h.off _ hx).2.2.2.1 rfl).trans ((hg.block _ (Nat.lt_of_lt_of_le hbo ho5.size) (by omega)).trans ((ho5.block _ hbo id).trans h.out))
 refine ⟨⟨h.inn.only hall fun b hb => ?_, h.lst.fit.keep (hall.kept fun b hb hx => ?_) |>.more fun b hb => hb.1, ?_, ?_, ?_, ?_, fun b hb => ?_, fun b hb => ?_, h.lo, h.mo, h.nmo⟩, hall⟩
 ·
  rcases hb with e | e | e
  ·
   exact ⟨by omega, by omega, fun hs => by have := hmo.2.2 b hs; omega⟩
  ·
   exact (h.off b e).2.2.2.2.2
  ·
   exact ⟨by omega, by omega, fun hs => by have := hmo.2.2 b hs; omega⟩
 ·
  have h1 := hlo b hb.1
  rcases hx with e | e | e
  ·
   omega
  ·
   exact (h.off b e).2.2.2.2.1 hb.1
  ·
   omega
 ·
  rw [numM_put hd ht] at hm
  exact hm.block ((g5.block _ (Nat.lt_of_lt_of_le hm.lt ho6.size) (by omega)).trans (ho6.block _ hm.lt fun hx => (h.off _ hx).2.1 rfl))
 ·
  have h1 := heap_lt h.nb
  exact (hall.block _ h1 (by rintro (e | e | e); omega; exact (h.off _ e).2.2.1 rfl; omega)).trans h.nb
 ·
  exact blk_set hb6 4 v'
 ·
  have h1 : (((-1, -1, -1) : Int × Int × Int) :: (L.take i).map triZ) ++ [triZ t] = (-1, -1, -1) :: (L.take (i + 1)).map triZ := by
   rw [List.take_add_one, ht]
   simp
  rw [h1] at hgl
  exact hgl.fit.only g5 fun b hb _ e => by
   rcases hF b hb.1 with e2 | e2
   ·
    exact (h.off b e2).2.2.2.1 e
   ·
    omega
 ·
  have hz : (w6.setCell ⟨Bo, 4, none⟩ v').heap.size = w6.heap.size := by simp
  refine ⟨by rw [hz]; exact hb.2, ?_⟩
  rcases hF b hb.1 with e | e
  ·
   exact (h.off b e).2
  ·
   have h1 := h.num.lt
   have h2 := heap_lt h.nb
   have h3 := h.inn.low
   exact ⟨by omega, by omega, by omega, fun hl => by have := hlo b hl; omega, by omega, by omega, fun hs => by have := hmo.2.2 b hs; omega⟩
 ·
  rcases hF b hb.1 with e | e
  ·
   exact h.fl b e
  ·
   have h1 := h.num.lt
   omega
end
structure PlK (w1 w : World) (L : List TriD) (A : Option Addr) (c : Nat) (FL : Nat → Prop) (K Bn : Nat) : Prop where
 lst : Sl RTri w FL A L.length c L
 bw : Below (K + 1) w1 w
 lo : ∀ b, FL b → b < Bn
 kb : K + 1 ≤ Bn
 kw : K + 1 ≤ w1.heap.size
theorem PlK.only {w1 w w' : World} {L : List TriD} {A : Option Addr} {c : Nat} {FL Y : Nat → Prop} {K Bn : Nat} (h : PlK w1 w L A c FL K Bn) (ho : Only w w' Y) (hY : ∀ b, Y b → b < w.heap.size → Bn ≤ b) : PlK w1 w' L A c FL K Bn := by
 refine ⟨h.lst.fit.keep (ho.kept fun b hb hx => ?_) |>.more fun b hb => hb.1, ?_, h.lo, h.kb, h.kw⟩
 ·
  have h1 := hY b hx hb.2
  have h2 := h.lo b hb.1
  omega
 ·
  refine h.bw.trans ((⟨ho.os, ho.tape, ho.output, ho.size, fun b h1 h2 => ho.block b h1 fun hy => h2 ⟨hy, h1⟩⟩ : Only w w' (fun b => Y b ∧ b < w.heap.size)).below (fun b hb => ?_) ?_)
  ·
   have h1 := hY b hb.1 hb.2
   have h2 := h.kb
   omega
  ·
   exact Nat.le_trans h.kw h.bw.size
theorem tNon : SlType Try.prog 32 46 3 24 (.agg #[.int .i64 0, .int .i64 0, .int .i64 0]) := ⟨by kernel_rfl, by kernel_rfl, by kernel_rfl, rfl, by decide⟩
set_option linter.unusedSimpArgs false in
set_option maxRecDepth 100000 in
set_option maxHeartbeats 8000000 in
theorem mkProduct (M : Mkr) (hM : M.Ok) (w : World) (W : List TriD) (h : M.In w W) : Calls Try.prog 26 #[.pointer (some ⟨M.Bm, 0, none⟩)] w fun e w' => ProductR M W w.heap.size e w' ∧ Below w.heap.size w w' := by
 have HI := Lib.hid h
 have HM := Lib.hid hM
 have hn12 := hM.n12
 have hN10 : M.N ≤ 10 := by have := hM.g.n2; simp only at this; omega
 obtain ⟨K, hK⟩ : ∃ K, K = w.heap.size := ⟨_, rfl⟩
 have hlow := h.low
 rw [← hK] at hlow
 obtain ⟨w1, hw1⟩ : ∃ w1 : World, w1 = w.alloc (.cells #[.int .i64 0, .int .i64 0, .int .i64 0, .slice none 0 0, .slice none 0 0, .slice none 0 0] 34) := ⟨_, rfl⟩
 have HB1 := Lib.hid (show Below K w w1 by rw [hw1, hK]; exact (Below.refl _ _).alloc (Nat.le_refl _) _)
 have HI1 := Lib.hid (h.below (by rw [← hK]; exact HB1.out))
 have HZ1 := Lib.hid (show w1.heap.size = K + 1 by rw [hw1]; simp [hK])
 have HR1 := Lib.hid (show w1.heap[K]? = some (.cells #[.int .i64 0, .int .i64 0, .int .i64 0, .slice none 0 0, .slice none 0 0, .slice none 0 0] 34 (0, 0)) by rw [hw1, hK]; exact heap_alloc_new _ _)
 have HW1 := Lib.hid hw1
 have HK := Lib.hid hK
 have HLOW := Lib.hid hlow
 have hmm := @run_makeMap Try.prog
 clear h hM hw1 hK hlow
 go_enter Try.func26, Try.ntmps26
 go_wp2_with (go_at_call 55; rw [← HW1.out]; refine (mkNeeded M HM.out w1 W HI1.out).mono ?_; rintro e w2 ⟨⟨A, c, L, rfl, hsl, hlt, hnd, htr⟩, hb12⟩; have HSL := Lib.hid hsl; have HLT := Lib.hid hlt; have HND := Lib.hid hnd; have HTR := Lib.hid htr; have HB12 := Lib.hid hb12; obtain ⟨nl, hnl⟩ : ∃ nl, nl = L.length := ⟨_, rfl⟩; rw [← hnl]; have HNL := Lib.hid hnl; clear hsl hlt hnd htr hb12 hnl)
 obtain ⟨Bn, hBn⟩ : ∃ Bn, Bn = w2.heap.size := ⟨_, rfl⟩
 rw [← hBn]
 obtain ⟨w3, hw3⟩ : ∃ w3 : World, w3 = (w2.alloc (.map #[] 0)).alloc (.cells #[.map (some Bn)] 109) := ⟨_, rfl⟩
 have z3 : w3.heap.size = Bn + 1 + 1 := by rw [hw3]; simp [hBn]
 obtain ⟨w4, hw4⟩ : ∃ w4 : World, w4 = w3.alloc (.cells #[.int .i64 (-1), .int .i64 (-1), .int .i64 (-1)] 46) := ⟨_, rfl⟩
 have z4 : w4.heap.size = Bn + 1 + 1 + 1 := by rw [hw4]; simp [z3]
 obtain ⟨w5, hw5⟩ : ∃ w5 : World, w5 = w4.alloc (.cells #[.int .i64 0, .int .i64 0, .int .i64 0, .slice none 0 0, .slice (some ⟨Bn + 1 + 1, 0, none⟩) 1 1, .slice none 0 0] 34) := ⟨_, rfl⟩
 rw [← hw3, ← hw4, ← hw5]
 obtain ⟨w1z, w1w, w1s⟩ := HI1.out.low
 have hz12 : w1.heap.size ≤ Bn := by rw [hBn]; exact HB12.out.size
 have b25 : Below w2.heap.size w2 w5 := by rw [hw5, hw4, hw3]; exact ((((Below.refl _ _).alloc (Nat.le_refl _) _).alloc (by simp) _).alloc (by rw [← hw3, z3]; omega) _).alloc (by rw [← hw3, ← hw4, z4]; omega) _
 have HLD := Lib.hid (show L.Nodup from List.Pairwise.imp (fun {a b} h e => by subst e; unfold TLt at h; omega) HLT.out)
 have HNU := Lib.hid (show NuSt M W L 0 w5 A c (fun b => w1.heap.size ≤ b ∧ b < w2.heap.size) Bn (Bn + 1) (Bn + 1 + 1 + 1) (fun b => b = Bn + 1 + 1) (.slice (some ⟨Bn + 1 + 1, 0, none⟩) 1 1) from by
  refine ⟨(HI1.out.below HB12.out).below b25, (HSL.out.fit.below b25), ?_, ?_, ?_, ?_, ?_, fun b e => by omega, fun b hb => by rw [hBn]; exact hb.2, ⟨by omega, by omega, fun b hb => by have := w1s b hb; omega⟩, by omega⟩
  ·
   rw [hBn, hw5, hw4, hw3]
   exact (((AMap.made KTri w2).alloc _).alloc _).alloc _
  ·
   rw [hw5, Below.heap_alloc _ _ _ (by omega), hw4, Below.heap_alloc _ _ _ (by omega), hw3, show Bn + 1 = (w2.alloc (.map #[] 0)).heap.size by simp [hBn]]
   exact heap_alloc_new _ _
  ·
   rw [hw5, ← z4]
   exact heap_alloc_new _ _
  ·
   have h1 := GL.one (R := RNon) (E := 46) w3 (x := ((-1, -1, -1) : Int × Int × Int)) (ys := [.int .i64 (-1), .int .i64 (-1), .int .i64 (-1)]) rfl
   rw [z3] at h1
   rw [hw5, hw4]
   exact h1.below ((Below.refl _ _).alloc (Nat.le_refl _) _)
  ·
   rintro b rfl
   refine ⟨by rw [hw5]; simp [z4], by omega, by omega, by omega, fun h => by omega, by omega, by omega, fun hs => by have := w1s _ hs; omega⟩)
 have hk1 : K + 1 ≤ w1.heap.size := by rw [HZ1.out]; exact Nat.le_refl _
 have HB15 := Lib.hid (show Below (K + 1) w1 w5 from (HB12.out.trans (b25.mono HB12.out.size)).mono hk1)
 have HKB := Lib.hid (show K + 1 ≤ Bn by omega)
 clear hBn hw3 hw4 hw5 z3 z4 w1z w1w w1s hz12 b25 hk1 hmm w3 w4
 obtain ⟨FL, hFL⟩ : ∃ FL : Nat → Prop, FL = fun b => w1.heap.size ≤ b ∧ b < w2.heap.size := ⟨_, rfl⟩
 rw [← hFL] at HNU
 clear hFL
 obtain ⟨Bo, hBo⟩ : ∃ Bo, Bo = Bn + 1 + 1 + 1 := ⟨_, rfl⟩
 rw [← hBo] at HNU
 rw [← hBo]
 obtain ⟨Bs, hBs⟩ : ∃ Bs, Bs = Bn + 1 + 1 := ⟨_, rfl⟩
 rw [← hBs] at HNU
 rw [← hBs]
 obtain ⟨Bm, hBm⟩ : ∃ Bm, Bm = Bn + 1 := ⟨_, rfl⟩
 rw [← hBm] at HNU
 rw [← hBm]
 clear hBm hBo hBs
 rw [← HK.out]
 have hnl36 : nl ≤ 1440 := by rw [HNL.out]; exact tri_few (n := M.n) (N := M.N) hn12 (by omega) HLD.out HTR.out
 go_loopg [28] nl (fun gi v28 wr => ∃ (i : Nat) (FN : Nat → Prop) (vN : Value), i ≤ nl ∧ gi = nl - i ∧ v28 = .int .i64 i ∧ NuSt M W L i wr A c FL Bn Bm Bo FN vN ∧ Below (K + 1) w1 wr)
 case atStart => exact ⟨0, _, _, Nat.zero_le _, rfl, rfl, HNU.out, HB15.out⟩
 case round =>
  obtain ⟨i, FN, vN, hi, hgi, rfl, hnu, hbw⟩ := hrel
  obtain ⟨w6, rfl⟩ : ∃ w6 : World, w6 = wr := ⟨_, rfl⟩
  have HGI := Lib.hid hgi
  have HS6 := Lib.hid hnu
  have HBW6 := Lib.hid hbw
  clear hgi hnu hbw
  by_cases hil : i < nl
  ·
   have hiI : (i : Int) < (nl : Int) := by omega
   have hi0 : (0 : Int) ≤ (i : Int) := by omega
   have hls := HS6.out.lst
   rw [← HNL.out] at hls
   obtain ⟨bL, oL, t, hA, hFb, ht, t0, t1, t2⟩ := hls.tri (k := i) hil
   subst hA
   have HT := Lib.hid ht
   have htt := HTR.out t (List.mem_of_getElem? ht)
   clear hls ht
   obtain ⟨tq, ta, tp⟩ := t
   obtain ⟨ht1, ht2, ht3⟩ := htt
   simp only at t0 t1 t2 ht1 ht2 ht3
   obtain ⟨w7, hw7⟩ : ∃ w7 : World, w7 = w6.alloc (.cells #[.int .i64 (tq : Int), .int .i64 (ta : Int), .int .i64 (tp : Int)] 92) := ⟨_, rfl⟩
   have hb67 : Below w6.heap.size w6 w7 := by rw [hw7]; exact (Below.refl _ _).alloc (Nat.le_refl _) _
   have HO67 := Lib.hid (Only.of_below hb67 (Nat.le_refl _) (fun _ => False))
   have HN7 := Lib.hid (HS6.out.num.below hb67)
   have hbt : w7.heap[w6.heap.size]? = some (.cells #[.int .i64 (tq : Int), .int .i64 (ta : Int), .int .i64 (tp : Int)] 92 (0, 0)) := by rw [hw7]; exact heap_alloc_new _ _
   have HBT := Lib.hid hbt
   have HBO7 := Lib.hid ((hb67.block _ (heap_lt HS6.out.out)).trans HS6.out.out)
   have kn : w7.cell? ⟨Bm, 0, none⟩ = some (.map (some Bn)) := by
    have h1 := (hb67.block _ (heap_lt HS6.out.nb)).trans HS6.out.nb
    simp [World.cell?, h1]
   have HNN7 := Lib.hid (HS6.out.nons.below hb67)
   obtain ⟨AN, cN, hvN, _⟩ := HS6.out.nons.form
   subst hvN
   obtain ⟨ln, hln⟩ : ∃ ln, ln = ((-1, -1, -1) :: (L.take i).map triZ : List (Int × Int × Int)).length := ⟨_, rfl⟩
   have hln2 : ln = i + 1 := by rw [hln]; simp [List.length_take, ← HNL.out]; omega
   have HLEN := Lib.hid hln
   rw [← hln] at HS6 HBO7 HNN7
   subst hln2
   have HNUM := Lib.hid (show (numM (L.take i)).length < maxLen by unfold numM maxLen; simp; omega)
   have HKO := Lib.hid (triOk tq ta tp (by omega) (by omega) (by omega))
   have HW7 := Lib.hid hw7
   rw [hw7] at kn
   clear hw7 hbt hb67 hln
   go_wp2_with (first
    | (at_mapUpdate; rw [← HW7.out]; refine wpList_amap_put _ rfl _ _ _ 109 rfl 3 mapTriI Bn _ rfl HN7.out (triZ (tq, ta, tp)) rfl HKO.out (.int .i64 ((i + 1 : Nat) : Int)) rfl HNUM.out ?_; intro w8 hm8 hg8; have HM8 := Lib.hid hm8; have HO8 := Lib.hid (show Only w7 w8 (fun b => b = Bn) from Only.of_grown hg8 fun b e => by injection e with e; exact e.symm); clear hm8 hg8; have hnm := HS6.out.nmo; have hsz := HS6.out.num.lt; have HBT8 := Lib.hid ((HO8.out.block _ (heap_lt HBT.out) (by omega)).trans HBT.out); have s0 : w8.cell? ⟨w6.heap.size, 0, none⟩ = some (.int .i64 (tq : Int)) := (by simp [World.cell?, HBT8.out]); have s1 : w8.cell? ⟨w6.heap.size, 1, none⟩ = some (.int .i64 (ta : Int)) := (by simp [World.cell?, HBT8.out]); have s2 : w8.cell? ⟨w6.heap.size, 2, none⟩ = some (.int .i64 (tp : Int)) := (by simp [World.cell?, HBT8.out]); have HBO8 := Lib.hid ((HO8.out.block _ (heap_lt HBO7.out) (by omega)).trans HBO7.out); have s3 : w8.cell? ⟨Bo, 4, none⟩ = some (.slice AN (i + 1) cN) := (by simp [World.cell?, HBO8.out]); obtain ⟨A', c', w9, hrun, hgl, hg9, hrow⟩ := (HNN7.out.only HO8.out (fun b hb _ e => (HS6.out.off b hb).2.1 e)).push tNon rfl (x := ((tq : Int), (ta : Int), (tp : Int))) (ys := [.int .i64 (tq : Int), .int .i64 (ta : Int), .int .i64 (tp : Int)]) (G := fun _ => False) rfl (fun b hb => hb.elim) (by rw [← HLEN.out]; omega) (by omega) 32; rw [← HLEN.out] at hrun hgl; have HRUN := Lib.hid hrun; have HGL := Lib.hid hgl; have HO9 := Lib.hid ((Only.alloc w8 (.cells #[.int .i64 (tq : Int), .int .i64 (ta : Int), .int .i64 (tp : Int)] 46) FN).trans (Only.of_grown hg9 fun b e => HS6.out.nons.row _ e)); have HBO9 := Lib.hid ((HO9.out.block _ (heap_lt HBO8.out) (fun e => (HS6.out.off _ e).2.2.2.1 rfl)).trans HBO8.out); have s4 : w9.cell? ⟨Bo, 4, none⟩ = some (.slice AN (i + 1) cN) := (by simp [World.cell?, HBO9.out]); have s5 : w9.frozen? ⟨Bo, 4, none⟩ = false := (by simp [World.frozen?, HBO9.out]); clear hrun hgl hg9 hrow hnm hsz)
    | (at_builtin; refine Lib.wpList_append_run (o := ⟨some 47, _, _, _, _, _⟩) _ rfl _ _ _ _ rfl _ _ rfl rfl _ _ HRUN.out ?_))
   have hnx := HS6.out.next HLD.out HT.out HO67.out HM8.out HO8.out HGL.out HO9.out (fun b hb => by
    rcases hb with e | e | e
    ·
     exact .inl e
    ·
     exact e.elim
    ·
     exact .inr (by omega))
   have HNX := Lib.hid hnx.1
   have HB9 := Lib.hid (show Below (K + 1) w1 _ from HBW6.out.trans (hnx.2.below (fun b hb => by
    have h1 := HKB.out
    have h2 := HS6.out.nmo
    rcases hb with e | e | e
    ·
     omega
    ·
     have := HS6.out.fl b e; omega
    ·
     omega) (by have h1 := HBW6.out.size; have := HZ1.out; omega)))
   clear hnx
   go_roundg (nl - (i + 1))
   case measure => rw [HGI.out]; omega
   case rel => exact ⟨i + 1, _, _, by omega, rfl, by go_num, HNX.out, HB9.out⟩
  ·
   obtain rfl : nl = i := by omega
   obtain ⟨AA, hAA⟩ : ∃ AA, AA = M.A := ⟨_, rfl⟩
   have HAA := Lib.hid hAA
   have hmm := @run_makeMap Try.prog
   obtain ⟨Bq, hBq⟩ : ∃ Bq, Bq = w6.heap.size := ⟨_, rfl⟩
   obtain ⟨w7, hw7⟩ : ∃ w7 : World, w7 = ((w6.alloc (.map #[] 0)).alloc (.cells #[.map (some Bq)] 69)).alloc (.cells #[.func (.func 56) #[] #[.pointer (some ⟨Bo, 0, none⟩)]] 110) := ⟨_, rfl⟩
   have b67 : Below w6.heap.size w6 w7 := by rw [hw7]; exact (((Below.refl _ _).alloc (Nat.le_refl _) _).alloc (by simp) _).alloc (by simp; omega) _
   have z7 : w7.heap.size = Bq + 3 := by rw [hw7]; simp [hBq]
   have ka := (HS6.out.inn.below b67).cells.2.2.2.2.2.1
   rw [← hAA, hw7, hBq] at ka
   have HNU7 := Lib.hid (HS6.out.only (Only.of_below b67 (Nat.le_refl _) (fun _ => False)) fun _ h => h.elim)
   obtain ⟨X, hX⟩ : ∃ X : PX, X = ⟨Bq + 3, Bo, Bq + 1, Bq, Bm, Bn, Bq + 1 + 1, FN⟩ := ⟨_, rfl⟩
   have hnm := HS6.out.nmo
   have hoq : Bo < Bq := by rw [hBq]; exact heap_lt HS6.out.out
   obtain ⟨mo1, mo2, mo3⟩ := HS6.out.mo
   have HXO := Lib.hid (show X.Ok M by
    rw [hX]
    refine ⟨by dsimp only; omega, by dsimp only; omega, by dsimp only; omega, by dsimp only; omega, by dsimp only; omega, by dsimp only; omega, fun b hb => ?_, by dsimp only; omega, by dsimp only; omega, fun b hb => by have := mo3 b hb; dsimp only; omega, fun b hb => ?_, by dsimp only; omega, by dsimp only; omega, by dsimp only; omega, by dsimp only; omega, by dsimp only; omega⟩
    ·
     have h1 := HS6.out.off b hb
     dsimp only at hb ⊢
     exact ⟨by omega, h1.2.2.2.1, by omega⟩
    ·
     dsimp only
     rcases hb with e | e | e
     ·
      omega
     ·
      omega
     ·
      have := mo3 b e; omega)
   have HPR := Lib.hid (show PrS M X W L w7 (fun _ => False) (fun _ => False) (.slice none 0 0) vN (.slice none 0 0) (startPR M L 0) from by
    rw [hX]
    refine ⟨HNU7.out.inn, ⟨HNU7.out.out, GL.nil _ _, GL.nil _ _, fun b h => h.elim, fun b h => by rcases h with h | h <;> exact h.elim⟩, ?_, ?_, HNU7.out.nb, ?_, ?_, ?_, fun b h => by rcases h with h | h <;> exact h.elim, fun b h => by rcases h with h | h <;> exact h.elim, rfl, by dsimp only; omega⟩
    ·
     dsimp only
     rw [hw7, Below.heap_alloc _ _ _ (by simp; omega), show Bq + 1 = (w6.alloc (.map #[] 0)).heap.size by simp [hBq]]
     exact heap_alloc_new _ _
    ·
     dsimp only
     rw [hw7, hBq]
     exact ((AMap.made KS w6).alloc _).alloc _
    ·
     dsimp only
     have h1 := HNU7.out.num
     rw [List.take_of_length_le (by rw [← HNL.out]; exact Nat.le_refl _)] at h1
     exact h1
    ·
     dsimp only
     rw [hw7, show Bq + 1 + 1 = ((w6.alloc (.map #[] 0)).alloc (.cells #[.map (some Bq)] 69)).heap.size by simp [hBq]]
     exact heap_alloc_new _ _
    ·
     dsimp only
     have h1 := HNU7.out.nons
     rw [List.take_of_length_le (by rw [← HNL.out]; exact Nat.le_refl _)] at h1
     exact h1)
   have HPK := Lib.hid (show PlK w1 w7 L A c FL K Bn from ⟨HNU7.out.lst, HBW6.out.trans (b67.mono (by have h1 := HBW6.out.size; have := HZ1.out; omega)), HNU7.out.lo, HKB.out, by rw [HZ1.out]; exact Nat.le_refl _⟩)
   have HW7 := Lib.hid (show w7 = ((w6.alloc (.map #[] 0)).alloc (.cells #[.map (some w6.heap.size)] 69)).alloc (.cells #[.func (.func 56) #[] #[.pointer (some ⟨Bo, 0, none⟩)]] 110) by rw [hw7, hBq])
   have HBQ := Lib.hid hBq
   have HXE := Lib.hid hX
   clear hAA hBq hw7 b67 z7 hnm mo1 mo2 mo3 hX
   go_wp2_with fail
   rw [← HW7.out, ← HBQ.out]
   clear ka hmm
   rw [show Bo = X.Bo by rw [HXE.out], show Bm = X.Bm by rw [HXE.out], show Bq + 1 + 1 = X.Ba by rw [HXE.out], show Bq + 1 = X.Bk by rw [HXE.out]]
   have HXB := Lib.hid (show Bn < X.Bo ∧ Bn < X.Bq ∧ Bn < X.K by
    have h1 := HS6.out.nmo
    rw [HXE.out]
    exact ⟨by dsimp only; omega, by dsimp only; omega, by dsimp only; omega⟩)
   clear hoq hi
   go_loopg [58] M.n (fun gk v58 wr => ∃ (k : Nat) (FR FF : Nat → Prop) (vR vF : Value), k ≤ M.n ∧ gk = M.n - k ∧ v58 = .int .i64 k ∧ PrS M X W L wr FR FF vR vN vF (startPR M L k) ∧ PlK w1 wr L A c FL K Bn)
   case atStart => exact ⟨0, _, _, _, _, Nat.zero_le _, rfl, rfl, HPR.out, HPK.out⟩
   case round =>
    obtain ⟨k, FR, FF, vR, vF, hk, hgk, rfl, hpr, hpk⟩ := hrel
    obtain ⟨w8, rfl⟩ : ∃ w8 : World, w8 = wr := ⟨_, rfl⟩
    have HGK := Lib.hid hgk
    have HP8 := Lib.hid hpr
    have HK8 := Lib.hid hpk
    clear hgk hpr hpk
    by_cases hkl : k < M.n
    ·
     have hkI : (k : Int) < (M.n : Int) := by omega
     have hk0 : (0 : Int) ≤ (k : Int) := by omega
     have hac := HP8.out.inn.acc
     rw [← HAA.out] at hac
     obtain ⟨bA, oA, x, hA, _, hx, hcx⟩ := hac.ints.int_at hkl
     subst hA
     have HX := Lib.hid (show dat M.d (k : Int) = x by
      unfold dat
      rw [if_neg (by omega), Int.toNat_natCast, hx]; rfl)
     clear hac hx
     have hst := HM.out.val.st
     obtain ⟨dn, hdn⟩ : ∃ dn, dn = M.d.1.toNat := ⟨_, rfl⟩
     have hd : M.d.1 = (dn : Int) := by omega
     have HDN := Lib.hid hdn
     have hdl : dn < M.n := by rw [HM.out.n]; omega
     have hstN : M.st < M.N := by have := HM.out.g.st; simp only at this; omega
     have k2 := HP8.out.inn.cells.2.2.1
     have k4 := HP8.out.inn.cells.2.2.2.2.1
     have hin9 := HP8.out.inn.below (w' := w8.alloc (.cells #[.int .i64 0, .int .i64 0, .int .i64 0] 92)) ((Below.refl _ _).alloc (Nat.le_refl _) _)
     have k2' := hin9.cells.2.2.1
     have k4' := hin9.cells.2.2.2.2.1
     rw [hd] at k4 k4'
     clear hd hdn hst hin9
     have hlowK := HP8.out.low
     obtain ⟨w9, hw9⟩ : ∃ w9 : World, w9 = (w8.alloc (.cells #[.int .i64 (dn : Int), .int .i64 (M.st : Int), .int .i64 (k : Int)] 92)).drew := ⟨_, rfl⟩
     have hb89 : Below w8.heap.size w8 w9 := by rw [hw9]; exact ((Below.refl _ _).alloc (Nat.le_refl _) _).drew
     have HBT := Lib.hid (show w9.heap[w8.heap.size]? = some (.cells #[.int .i64 (dn : Int), .int .i64 (M.st : Int), .int .i64 (k : Int)] 92 (0, 0)) by rw [hw9]; exact heap_alloc_new _ _)
     have HP9 := Lib.hid (PrSt.below HXO.out HP8.out hb89)
     have HK9 := Lib.hid (HK8.out.only (Only.of_below hb89 (Nat.le_refl _) (fun _ => False)) fun _ h => h.elim)
     have HW9 := Lib.hid hw9
     obtain ⟨nm, hnm⟩ : ∃ nm, nm = numT L (dn, M.st, k) := ⟨_, rfl⟩
     have HNM := Lib.hid hnm
     have hlk : (Instr.lookup 109 (.map (some X.Bn)) (.agg #[.int .i64 (dn : Int), .int .i64 (M.st : Int), .int .i64 (k : Int)]) false).run Try.prog w9 = .ok (.int .i64 (nm : Int)) w9 := by
      have h3 := AMap.look (w := w9) HP9.out.num mapTriI zeroIM (triOk dn M.st k (by omega) (by omega) (by omega))
      rw [lk_num HLD.out, ← hnm] at h3
      exact h3
     obtain ⟨s0, s1, s2⟩ : w9.cell? ⟨w8.heap.size, 0, none⟩ = some (.int .i64 (dn : Int)) ∧ w9.cell? ⟨w8.heap.size, 1, none⟩ = some (.int .i64 (M.st : Int)) ∧ w9.cell? ⟨w8.heap.size, 2, none⟩ = some (.int .i64 (k : Int)) := ⟨by simp [World.cell?, HBT.out], by simp [World.cell?, HBT.out], by simp [World.cell?, HBT.out]⟩
     have kb : w9.cell? ⟨X.Bm, 0, none⟩ = some (.map (some X.Bn)) := by simp [World.cell?, HP9.out.nb]
     have HSP := Lib.hid (startPR_succ (M := M) (L := L) k)
     rw [HX.out, ← HDN.out, ← hnm] at HSP
     clear hw9 hb89 hnm
     go_wp2_with fail
     go_region
     rw [← HW9.out]
     clear k2 k4 k2' k4' hcx
     by_cases hx0 : 0 ≤ x
     ·
      have hd0 : decide ((0 : Int) ≤ x) = true := by simpa using hx0
      by_cases hn0 : 0 < nm
      ·
       have hd1 : decide ((0 : Int) < (nm : Int)) = true := by simpa using hn0
       have hn0' : (0 : Int) < (nm : Int) := by omega
       rw [if_pos ⟨hx0, hn0⟩] at HSP
       go_wp2_with fail
       clear hlk s0 s1 s2 kb hd0 hd1
       obtain ⟨AF, cF, hvF, _⟩ := HP9.out.out.fm.form
       subst hvF
       obtain ⟨nf, hnf⟩ : ∃ nf, nf = ((startPR M L k).map fun x => x.2.1).length := ⟨_, rfl⟩
       have hnf2 : nf ≤ 12 := by rw [hnf, List.length_map]; have := startPR_len (M := M) (L := L) k; omega
       rw [← hnf] at HP9
       have HNF := Lib.hid hnf
       clear hnf
       have HC := Lib.hid (show ∀ u : World, Only w9 u (fun b => b = X.Bq) → u.cell? ⟨X.Bk, 0, none⟩ = some (.map (some X.Bq)) ∧ u.cell? ⟨w8.heap.size, 0, none⟩ = some (.int .i64 (dn : Int)) ∧ u.cell? ⟨w8.heap.size, 1, none⟩ = some (.int .i64 (M.st : Int)) ∧ u.cell? ⟨w8.heap.size, 2, none⟩ = some (.int .i64 (k : Int)) ∧ u.cell? ⟨X.Bo, 5, none⟩ = some (.slice AF nf cF) from fun u hu => by
        have h1 := (hu.block _ (heap_lt HP9.out.kb) HXO.out.ok.2).trans HP9.out.kb
        have h2 := (hu.block _ (heap_lt HBT.out) (by have := HXO.out.bq; omega)).trans HBT.out
        have h5 := (hu.block _ (heap_lt HP9.out.out.box) HXO.out.oq).trans HP9.out.out.box
        exact ⟨by simp [World.cell?, h1], by simp [World.cell?, h2], by simp [World.cell?, h2], by simp [World.cell?, h2], by simp [World.cell?, h5]⟩)
       refine wp_region_late (late := []) (S1 := fun u => u.cell? ⟨X.Bk, 0, none⟩ = some (.map (some X.Bq)) ∧ u.cell? ⟨w8.heap.size, 0, none⟩ = some (.int .i64 (dn : Int)) ∧ u.cell? ⟨w8.heap.size, 1, none⟩ = some (.int .i64 (M.st : Int)) ∧ u.cell? ⟨w8.heap.size, 2, none⟩ = some (.int .i64 (k : Int)) ∧ u.cell? ⟨X.Bo, 5, none⟩ = some (.slice AF nf cF)) (S := fun _ => True) (by kernel_rfl) ?_
       refine wpAnyL_pure (i := 0) rfl (by kernel_rfl) (fun _ _ _ h => h) (Or.inl ⟨by rfl, (fun u hu => by obtain ⟨k0, k1, k2, k3, k4⟩ := hu; go_simp; try rfl)⟩) (HC.out _ (.drew _ _)) (fun _ => trivial) ?_
       simp only [Act.put, List.setIfInBounds_toArray, List.set_cons_zero, List.set_cons_succ, List.getElem_toArray, List.getElem_cons_zero, List.getElem_cons_succ]
       refine wpAnyL_pure (i := 1) rfl (by kernel_rfl) (fun _ _ _ h => h) (Or.inl ⟨by rfl, (fun u hu => by obtain ⟨k0, k1, k2, k3, k4⟩ := hu; go_simp; try rfl)⟩) (HC.out _ (.drew _ _)) (fun _ => trivial) ?_
       simp only [Act.put, List.setIfInBounds_toArray, List.set_cons_zero, List.set_cons_succ, List.getElem_toArray, List.getElem_cons_zero, List.getElem_cons_succ]
       refine wpAnyL_pure (i := 3) rfl (by kernel_rfl) (fun _ _ _ h => h) (Or.inl ⟨by rfl, (fun u hu => by obtain ⟨k0, k1, k2, k3, k4⟩ := hu; go_simp; try rfl)⟩) (HC.out _ (.drew _ _)) (fun _ => trivial) ?_
       simp only [Act.put, List.setIfInBounds_toArray, List.set_cons_zero, List.set_cons_succ, List.getElem_toArray, List.getElem_cons_zero, List.getElem_cons_succ]
       refine wpAnyL_pure (i := 4) rfl (by kernel_rfl) (fun _ _ _ h => h) (Or.inl ⟨by rfl, (fun u hu => by obtain ⟨k0, k1, k2, k3, k4⟩ := hu; go_simp; try rfl)⟩) (HC.out _ (.drew _ _)) (fun _ => trivial) ?_
       simp only [Act.put, List.setIfInBounds_toArray, List.set_cons_zero, List.set_cons_succ, List.getElem_toArray, List.getElem_cons_zero, List.getElem_cons_succ]
       refine wpAnyL_pure (i := 5) rfl (by kernel_rfl) (fun _ _ _ h => h) (Or.inl ⟨by rfl, (fun u hu => by obtain ⟨k0, k1, k2, k3, k4⟩ := hu; go_simp; try rfl)⟩) (HC.out _ (.drew _ _)) (fun _ => trivial) ?_
       simp only [Act.put, List.setIfInBounds_toArray, List.set_cons_zero, List.set_cons_succ, List.getElem_toArray, List.getElem_cons_zero, List.getElem_cons_succ]
       refine wpAnyL_ready (rs := [2]) (by kernel_rfl) (by simp) ?_
       refine AllL.cons rfl (fun K hK => ?_) ?_
       ·
        go_simp
        refine (mkKey _ (dn, M.st, k) (by show dn < 256; omega) (by show M.st < 256; omega) (by show k < 256; omega) 255 (by omega) (fun _ => False) none 0 0 [] ⟨[], rfl, Nat.le_refl _, Rd.nil, Cells.nil⟩ (fun x hx => by cases hx) (by omega)).mono ?_
        rintro e w10 ⟨rfl, hb10⟩
        have HB10 := Lib.hid (show Below w9.heap.size w9 w10 from ((Below.refl _ _).drew).trans hb10)
        obtain ⟨ky, hky⟩ : ∃ ky, ky = strOf (keyD (dn, M.st, k) 255 []) := ⟨_, rfl⟩
        have HKY := Lib.hid hky
        rw [← hky]
        clear hb10 hky
        refine hK.out _ _ (HC.out _ (.of_below HB10.out (Nat.le_refl _) _)) (fun _ => trivial) ?_
        clear hK K
        refine wpAnyL_ready (rs := [6]) (by kernel_rfl) (by simp) ?_
        refine AllL.cons rfl (fun K hK => ?_) ?_
        ·
         rw [if_pos (by simp [Region.wanted])]
         have hst10 := PrSt.below HXO.out HP9.out HB10.out
         refine step_amap_put _ _ _ 69 rfl 3 mapStrI X.Bq _ rfl hst10.km ky rfl (by show ky.size ≤ maxLen; rw [HKY.out, strOf_size]; simp only [keyD, List.length_append, List.length_map, List.length_cons, List.length_nil]; unfold maxLen; omega) (.int .i64 (nf : Int)) rfl (by have := kmOf_len (startPR M L k); have := startPR_len (M := M) (L := L) k; unfold maxLen; omega) ?_
         intro w11 hm11 hg11
         have ho11 : Only w10 w11 (fun b => b = X.Bq) := Only.of_grown hg11 fun b e => by injection e with e; exact e.symm
         have HST11 := Lib.hid (hst10.putK HXO.out ho11 hm11)
         have HO11 := Lib.hid ((Only.of_below HB10.out (Nat.le_refl _) _).trans ho11)
         clear hst10 hm11 hg11 ho11
         change K (Act.put _ none _) _
         refine hK.out _ _ (HC.out _ HO11.out) (fun _ => trivial) ?_
         clear hK K
         refine wpAnyL_done (by kernel_rfl) ?_ _
         have HF11 := Lib.hid (show w11.cell? ⟨X.Ba, 0, none⟩ = some (.func (.func 56) #[] #[.pointer (some ⟨X.Bo, 0, none⟩)]) by simp [World.cell?, HST11.out.ab])
         have HK11 := Lib.hid (HK9.out.only HO11.out fun b e _ => by have := HXB.out.2.1; omega)
         go_wp2_with fail
         have HF12 := Lib.hid (show ∀ u : World, Below w11.heap.size w11 u → u.cell? ⟨X.Ba, 0, none⟩ = some (.func (.func 56) #[] #[.pointer (some ⟨X.Bo, 0, none⟩)]) from fun u hu => (hu.cell (cell_lt HF11.out)).trans HF11.out)
         have he := enters_padd
         refine wp_region_late (late := []) (S1 := fun u => u.cell? ⟨X.Ba, 0, none⟩ = some (.func (.func 56) #[] #[.pointer (some ⟨X.Bo, 0, none⟩)])) (S := fun _ => True) (by kernel_rfl) ?_
         refine wpAnyL_pure (i := 0) rfl (by kernel_rfl) (fun _ _ _ h => h) (Or.inl ⟨by rfl, (fun u hu => by have hf := hu; go_simp; try rfl)⟩) (HF12.out _ (Below.refl _ _).drew) (fun _ => trivial) ?_
         simp only [Act.put, List.setIfInBounds_toArray, List.set_cons_zero, List.set_cons_succ, List.getElem_toArray, List.getElem_cons_zero, List.getElem_cons_succ]
         refine wpAnyL_pure (i := 1) rfl (by kernel_rfl) (fun _ _ _ h => h) (Or.inl ⟨by rfl, (fun u hu => by have hf := hu; go_simp; try rfl)⟩) (HF12.out _ (Below.refl _ _).drew) (fun _ => trivial) ?_
         simp only [Act.put, List.setIfInBounds_toArray, List.set_cons_zero, List.set_cons_succ, List.getElem_toArray, List.getElem_cons_zero, List.getElem_cons_succ]
         refine wpAnyL_ready (rs := [2]) (by kernel_rfl) (by simp) ?_
         refine AllL.cons rfl (fun K hK => ?_) ?_
         ·
          go_simp
          refine (gramNP _ _).mono ?_
          rintro e w12 ⟨rfl, hb12⟩
          have HB12 := Lib.hid (show Below w11.heap.size w11 w12 from ((Below.refl _ _).drew).trans hb12)
          clear hb12
          refine hK.out _ _ (HF12.out _ HB12.out) (fun _ => trivial) ?_
          clear hK K
          refine wpAnyL_ready (rs := [3]) (by kernel_rfl) (by simp) ?_
          refine AllL.cons rfl (fun K hK => ?_) ?_
          ·
           go_simp
           obtain ⟨w13, hw13⟩ : ∃ w13 : World, w13 = w12.alloc (.cells #[.bool false, .int .i64 (nm : Int)] 42) := ⟨_, rfl⟩
           have HB13 := Lib.hid (show Below w11.heap.size w11 w13 by rw [hw13]; exact HB12.out.alloc HB12.out.size _)
           have HGR := Lib.hid (show GL RSym 42 w13 (fun b => b = w12.heap.size) (.slice (some ⟨w12.heap.size, 0, none⟩) 1 1) [(false, (nm : Int))] by rw [hw13]; exact GL.one (R := RSym) w12 (x := (false, (nm : Int))) (ys := [.bool false, .int .i64 (nm : Int)]) (RSym.cells.2 rfl))
           have HZ13 := Lib.hid (show w13.heap.size = w12.heap.size + 1 by rw [hw13]; simp)
           have HW13 := Lib.hid hw13
           clear hw13
           first | rw [← HW13.out] | rw [show _ = w13 from HW13.out.symm]
           refine hK.out _ _ (HF12.out _ HB13.out) (fun _ => trivial) ?_
           clear hK K
           refine wpAnyL_ready (rs := [4]) (by kernel_rfl) (by simp) ?_
           refine AllL.cons rfl (fun K hK => ?_) ?_
           ·
            have hf := HF12.out _ HB13.out
            go_simp
            clear hf
            have hlow11 := HST11.out.low
            have hst13 := HST11.out.below HXO.out HB13.out
            have hl12 := HB12.out.size
            refine (mkPAdd w13 X.Bo FR FF vR vN (.slice AF nf cF) _ _ hst13.out 0 (-1) (fun b => b = w12.heap.size) (some ⟨w12.heap.size, 0, none⟩) 1 1 [(false, (nm : Int))] HGR.out.sl (fun b e => ⟨by have := HZ13.out; omega, by have := HXO.out.bo; omega, fun h => by have := HST11.out.fit b (.inr h); omega, fun e2 => by have := HST11.out.fit b (.inl (HST11.out.out.R.row b e2)); omega⟩) hst13.len (by have := startPR_len (M := M) (L := L) k; rw [List.length_map]; omega) (fun b hb => hst13.fit b hb)).mono ?_
            rintro e w14 ⟨FR2, FF2, vR2, vF2, rfl, hp14, ho14, hf14, hf14'⟩
            have hps := hst13.added HXO.out (G := fun b => b = w12.heap.size) (fun b hb => ⟨by omega, by have := HZ13.out; omega⟩) ho14 hp14 hf14 hf14'
            have HK14 := Lib.hid ((HK11.out.only (Only.of_below HB13.out (Nat.le_refl _) (fun _ => False)) fun _ h => h.elim).only ho14 fun b hb _ => by
             have h1 := HXB.out
             rcases hb with e | e
             ·
              omega
             ·
              have := HST11.out.off b e; omega)
            have HPS := Lib.hid (show PrS M X W L w14 _ _ vR2 vN vF2 (startPR M L (k + 1)) from by
             rw [HSP.out]
             show PrSt M X W L w14 _ _ vR2 vN vF2 (List.map _ _) (List.map _ _) (kmOf _)
             rw [kmOf_snoc, List.map_append (f := fun x : PR => x.1), List.map_append (f := fun x : PR => x.2.1)]
             rw [HKY.out, HNF.out, List.length_map] at hps
             exact hps)
            have HF14 := Lib.hid (show w14.cell? ⟨X.Ba, 0, none⟩ = some (.func (.func 56) #[] #[.pointer (some ⟨X.Bo, 0, none⟩)]) by simp [World.cell?, HPS.out.ab])
            clear hps ho14 hp14 hf14 hf14' hst13 hl12 hlow11
            refine hK.out _ _ HF14.out (fun _ => trivial) ?_
            clear hK K
            refine wpAnyL_done (by kernel_rfl) ?_ _
            go_wp2_with fail
            go_roundg (M.n - (k + 1))
            case measure => rw [HGK.out]; omega
            case rel => exact ⟨k + 1, _, _, vR2, vF2, by omega, rfl, by go_num, HPS.out, HK14.out⟩
           exact AllL.nil
          exact AllL.nil
         exact AllL.nil
        exact AllL.nil
       exact AllL.nil
      ·
       have hd1 : decide ((0 : Int) < (nm : Int)) = false := by simp; omega
       rw [if_neg (fun h => hn0 h.2), List.append_nil] at HSP
       go_wp2_with fail
       go_roundg (M.n - (k + 1))
       case measure => rw [HGK.out]; omega
       case rel => exact ⟨k + 1, FR, FF, vR, vF, by omega, rfl, by go_num, by rw [HSP.out]; exact HP9.out, HK9.out⟩
     ·
      have hd0 : decide ((0 : Int) ≤ x) = false := by simpa using hx0
      rw [if_neg (fun h => hx0 h.1), List.append_nil] at HSP
      go_wp2_with fail
      go_roundg (M.n - (k + 1))
      case measure => rw [HGK.out]; omega
      case rel => exact ⟨k + 1, FR, FF, vR, vF, by omega, rfl, by go_num, by rw [HSP.out]; exact HP9.out, HK9.out⟩
    ·
     obtain rfl : M.n = k := by omega
     obtain ⟨AR, hAR⟩ : ∃ AR, AR = M.AR := ⟨_, rfl⟩
     have HAR := Lib.hid hAR
     have hnR : M.nR ≤ 32 := by rw [HM.out.nR]; exact HM.out.g.rl
     clear hAR
     have hst12 := startPR_len (M := M) (L := L) M.n
     go_wp2_with fail
     go_loopg [98] nl (fun gi v98 wr => ∃ (i : Nat) (FR FF : Nat → Prop) (vR vF : Value), i ≤ nl ∧ gi = nl - i ∧ v98 = .int .i64 i ∧ PrS M X W L wr FR FF vR vN vF (startPR M L M.n ++ restPR M W L i) ∧ PlK w1 wr L A c FL K Bn ∧ (startPR M L M.n ++ restPR M W L i).length ≤ 4000)
     case atStart =>
      refine ⟨0, FR, FF, vR, vF, Nat.zero_le _, rfl, rfl, ?_, HK8.out, ?_⟩
      ·
       rw [show restPR M W L 0 = [] from rfl, List.append_nil]
       exact HP8.out
      ·
       rw [show restPR M W L 0 = [] from rfl, List.append_nil]
       omega
     case round =>
      clear HP8 HK8
      obtain ⟨i, FR, FF, vR, vF, hi, hgi, rfl, hpr, hpk, hlen⟩ := hrel
      obtain ⟨w9, rfl⟩ : ∃ w9 : World, w9 = wr := ⟨_, rfl⟩
      have HGI := Lib.hid hgi
      have HP9 := Lib.hid hpr
      have HK9 := Lib.hid hpk
      have HLE := Lib.hid hlen
      clear hgi hpr hpk hlen
      by_cases hil : i < nl
      ·
       have hiI : (i : Int) < (nl : Int) := by omega
       have hi0 : (0 : Int) ≤ (i : Int) := by omega
       have hls := HK9.out.lst
       rw [← HNL.out] at hls
       obtain ⟨bL, oL, t, hA, hFb, ht, t0, t1, t2⟩ := hls.tri (k := i) hil
       subst hA
       have HT := Lib.hid ht
       have htt := HTR.out t (List.mem_of_getElem? ht)
       have HTT := Lib.hid htt
       clear hls ht
       obtain ⟨tq, ta, tp⟩ := t
       obtain ⟨ht1, ht2, ht3⟩ := htt
       simp only at t0 t1 t2 ht1 ht2 ht3
       have HSUC := Lib.hid (restPR_succ (M := M) (W := W) HT.out)
       obtain ⟨Bi, hBi⟩ : ∃ Bi, Bi = w9.heap.size := ⟨_, rfl⟩
       obtain ⟨Bt, hBt⟩ : ∃ Bt, Bt = Bi + 1 := ⟨_, rfl⟩
       obtain ⟨w10, hw10⟩ : ∃ w10 : World, w10 = (w9.alloc (.cells #[.int .i64 (i : Int)] 3)).alloc (.cells #[.int .i64 (tq : Int), .int .i64 (ta : Int), .int .i64 (tp : Int)] 92) := ⟨_, rfl⟩
       have hb : Below w9.heap.size w9 w10 := by rw [hw10]; exact ((Below.refl _ _).alloc (Nat.le_refl _) _).alloc (by simp) _
       have HBI := Lib.hid (show w10.heap[Bi]? = some (.cells #[.int .i64 (i : Int)] 3 (0, 0)) by
        rw [hw10, Below.heap_alloc _ _ _ (by simp; omega), hBi]
        exact heap_alloc_new _ _)
       have HBT := Lib.hid (show w10.heap[Bt]? = some (.cells #[.int .i64 (tq : Int), .int .i64 (ta : Int), .int .i64 (tp : Int)] 92 (0, 0)) by
        rw [hw10, show Bt = (w9.alloc (.cells #[.int .i64 (i : Int)] 3)).heap.size by simp [hBt, hBi]]
        exact heap_alloc_new _ _)
       have HP10 := Lib.hid (PrSt.below HXO.out HP9.out hb)
       have HK10 := Lib.hid (HK9.out.only (Only.of_below hb (Nat.le_refl _) (fun _ => False)) fun _ h => h.elim)
       have HFN := Lib.hid (show ∀ b, FR b ∨ FF b → b ≠ Bi ∧ b ≠ Bt from fun b h => by have := HP9.out.fit b h; omega)
       have HXI := Lib.hid (show X.K ≤ Bi by rw [hBi]; exact HP9.out.low)
       have HTI := Lib.hid hBt
       have ka := HP10.out.inn.cells.2.2.2.1
       have HW10 := Lib.hid (show w10 = (w9.alloc (.cells #[.int .i64 (i : Int)] 3)).alloc (.cells #[.int .i64 (tq : Int), .int .i64 (ta : Int), .int .i64 (tp : Int)] 92) from hw10)
       have HBE := Lib.hid hBi
       rw [hw10, ← HAR.out] at ka
       clear hw10 hb hBt hBi
       go_wp2_with fail
       rw [← HW10.out, ← HBE.out, ← HTI.out]
       clear ka t0 t1 t2
       go_loopg [109] M.nR (fun gk v109 wr => ∃ (k : Nat) (FR FF : Nat → Prop) (vR vF : Value), k ≤ M.nR ∧ gk = M.nR - k ∧ v109 = .int .i64 k ∧ PrS M X W L wr FR FF vR vN vF (startPR M L M.n ++ restPR M W L i ++ tripPR M W L i (tq, ta, tp) k) ∧ PlK w1 wr L (some ⟨bL, oL, none⟩) c FL K Bn ∧ (startPR M L M.n ++ restPR M W L i ++ tripPR M W L i (tq, ta, tp) k).length ≤ 4000 ∧ wr.heap[Bi]? = some (.cells #[.int .i64 (i : Int)] 3 (0, 0)) ∧ wr.heap[Bt]? = some (.cells #[.int .i64 (tq : Int), .int .i64 (ta : Int), .int .i64 (tp : Int)] 92 (0, 0)) ∧ (∀ b, FR b ∨ FF b → b ≠ Bi ∧ b ≠ Bt))
       case atStart =>
        refine ⟨0, FR, FF, vR, vF, Nat.zero_le _, rfl, rfl, ?_, HK10.out, ?_, HBI.out, HBT.out, HFN.out⟩
        ·
         rw [show tripPR M W L i (tq, ta, tp) 0 = [] from rfl, List.append_nil]
         exact HP10.out
        ·
         rw [show tripPR M W L i (tq, ta, tp) 0 = [] from rfl, List.append_nil]
         exact HLE.out
       case round =>
        clear HP9 HK9 HP10 HK10 HLE HBI HBT HFN
        obtain ⟨k, FR, FF, vR, vF, hk, hgk, rfl, hpr, hpk, hlen, hbi, hbt, hfn⟩ := hrel
        obtain ⟨w11, rfl⟩ : ∃ w11 : World, w11 = wr := ⟨_, rfl⟩
        have HGK := Lib.hid hgk
        have HP11 := Lib.hid hpr
        have HK11 := Lib.hid hpk
        have HLE := Lib.hid hlen
        have HBI := Lib.hid hbi
        have HBT := Lib.hid hbt
        have HFN := Lib.hid hfn
        clear hgk hpr hpk hlen hbi hbt hfn
        by_cases hkl : k < M.nR
        ·
         have hkI : (k : Int) < (M.nR : Int) := by omega
         have hk0 : (0 : Int) ≤ (k : Int) := by omega
         have hrr := HP11.out.inn.rules
         rw [← HAR.out] at hrr
         obtain ⟨bR, oR, u1, u2, r, hA, hSb, hrs, hok, hc1, hc2⟩ := hrr.at2 (k := k) rfl hkl
         obtain ⟨A1, n1, c1, h2, hsl⟩ := RRule.cells.1 hok
         injection h2 with e1 h2
         injection h2 with e2 _
         subst e1
         subst e2
         subst hA
         obtain ⟨an, rhs⟩ := r
         have hc1 : w11.cell? ⟨bR, oR + k * 2, none⟩ = some (.int .i64 an) := hc1
         have hc2 : w11.cell? ⟨bR, oR + k * 2 + 1, none⟩ = some (.slice A1 n1 c1) := hc2
         have HSL := Lib.hid hsl
         have HRS := Lib.hid hrs
         have HTS := Lib.hid (tripPR_succ (M := M) (W := W) (L := L) (i := i) (t := (tq, ta, tp)) hrs)
         clear hrr hok hsl hrs
         obtain ⟨w12, hw12⟩ : ∃ w12 : World, w12 = (w11.alloc (.cells #[.int .i64 (k : Int)] 3)).alloc (.cells #[.int .i64 an, .slice A1 n1 c1] 40) := ⟨_, rfl⟩
         have hb : Below w11.heap.size w11 w12 := by rw [hw12]; exact ((Below.refl _ _).alloc (Nat.le_refl _) _).alloc (by simp) _
         have HP12 := Lib.hid (PrSt.below HXO.out HP11.out hb)
         have HK12 := Lib.hid (HK11.out.only (Only.of_below hb (Nat.le_refl _) (fun _ => False)) fun _ h => h.elim)
         have HBI12 := Lib.hid ((hb.block _ (heap_lt HBI.out)).trans HBI.out)
         have HBT12 := Lib.hid ((hb.block _ (heap_lt HBT.out)).trans HBT.out)
         have HSL12 := Lib.hid (HSL.out.below hb)
         have HBR := Lib.hid (show w12.heap[w11.heap.size]? = some (.cells #[.int .i64 (k : Int)] 3 (0, 0)) by
          rw [hw12, Below.heap_alloc _ _ _ (by simp)]
          exact heap_alloc_new _ _)
         have HBU := Lib.hid (show w12.heap[w11.heap.size + 1]? = some (.cells #[.int .i64 an, .slice A1 n1 c1] 40 (0, 0)) by
          rw [hw12, show w11.heap.size + 1 = (w11.alloc (.cells #[.int .i64 (k : Int)] 3)).heap.size by simp]
          exact heap_alloc_new _ _)
         have HZ12 := Lib.hid (show w12.heap.size = w11.heap.size + 2 by rw [hw12]; simp)
         obtain ⟨s0, s1, s2⟩ : w12.cell? ⟨Bt, 0, none⟩ = some (.int .i64 (tq : Int)) ∧ w12.cell? ⟨Bt, 1, none⟩ = some (.int .i64 (ta : Int)) ∧ w12.cell? ⟨Bt, 2, none⟩ = some (.int .i64 (tp : Int)) := ⟨by simp [World.cell?, HBT12.out], by simp [World.cell?, HBT12.out], by simp [World.cell?, HBT12.out]⟩
         have HW12 := Lib.hid hw12
         by_cases han : an = (ta : Int)
         ·
          subst han
          have hi1 : instPR M W L i (tq, ta, tp) k ((ta : Int), rhs) = (instL M.d (inW W) tp rhs tq).map (mkPR L i (tq, ta, tp) k rhs) := by unfold instPR; rw [if_pos rfl]
          rw [hi1] at HTS
          rw [hw12] at s0 s1 s2
          clear hi1 hw12 hb
          go_wp2_with fail
          rw [← HW12.out]
          obtain ⟨ps0, hps0⟩ : ∃ ps0, ps0 = startPR M L M.n ++ restPR M W L i ++ tripPR M W L i (tq, ta, tp) k := ⟨_, rfl⟩
          rw [← hps0] at HP12 HLE
          have HPS0 := Lib.hid hps0
          have hxi := HXI.out
          have hti := HTI.out
          have hlt11 := heap_lt HBT.out
          have hz12 := HZ12.out
          have HIO := Lib.hid (prI_ok M HM.out X HXO.out W L HLD.out vN ps0 HLE.out w12.heap.size HP12.out.low (tq, ta, tp) HTT.out k i (by omega) rhs (ta : Int) HRS.out A1 n1 c1 Bt w11.heap.size (w11.heap.size + 1) Bi (fun b hb => by rcases hb with rfl | rfl | rfl | rfl <;> omega))
          have hinv : (prI M X W L vN ps0 w12.heap.size (tq, ta, tp) k i rhs (ta : Int) A1 n1 c1 Bt w11.heap.size (w11.heap.size + 1) Bi).Inv (fun b => FR b ∨ FF b) [] w12 := by
           refine ⟨FR, FF, vR, vF, fun b => Iff.rfl, ?_, ⟨HBT12.out, HBR.out, HBU.out, HBI12.out⟩, HSL12.out, fun b hb => ?_, by have := HLE.out; simp only [List.length_nil]; omega⟩
           ·
            rw [List.map_nil, List.append_nil]
            exact HP12.out
           ·
            have hf := HFN.out b
            have hg := HP11.out.fit b
            refine ⟨fun h => ?_, fun h => ?_⟩
            ·
             have h1 := hf (.inl h)
             have h2 := hg (.inl h)
             omega
            ·
             have h1 := hf (.inr h)
             have h2 := hg (.inr h)
             omega
          refine (mkInst M HM.out W _ HIO.out w12 (fun b => FR b ∨ FF b) [] hinv (Nat.zero_le _) rfl (ta : Int) HRS.out).mono ?_
          clear hinv hxi hti hlt11 hz12
          rintro e w13 ⟨F', bb, rfl, hF', ho13, htrue, hfalse⟩
          have HK13 := Lib.hid (HK12.out.only ho13 fun b hb _ => by
           have h1 := HXB.out
           rcases hb with (e | e) | e
           ·
            omega
           ·
            omega
           ·
            have := HP12.out.off b e; omega)
          cases bb with
          | true =>
           obtain ⟨⟨FR', FF', vR', vF', hiff, hps, hib, _, hnn, _⟩, hcount⟩ := htrue rfl
           have hps : PrS M X W L w13 FR' FF' vR' vN vF' (ps0 ++ (instL M.d (inW W) tp rhs tq).map (mkPR L i (tq, ta, tp) k rhs)) := hps
           have HPR13 := Lib.hid hps
           have HLE13 := Lib.hid (show (ps0 ++ (instL M.d (inW W) tp rhs tq).map (mkPR L i (tq, ta, tp) k rhs)).length ≤ 4000 by
            have h1 := HLE.out
            rw [List.length_append, List.length_map]
            rcases hcount with e | e
            ·
             have e : instL M.d (inW W) tp rhs tq = [] := e
             rw [e]
             simpa using h1
            ·
             have e : 0 + (instL M.d (inW W) tp rhs tq).length ≤ 4000 - ps0.length := e
             omega)
           have HIB13 := Lib.hid hib
           have HNN := Lib.hid hnn
           clear hps hib hnn hcount htrue hfalse hiff hF' ho13
           go_wp2_with fail
           go_roundg (M.nR - (k + 1))
           case measure => rw [HGK.out]; omega
           case rel =>
            have hpp := HPR13.out
            have hll := HLE13.out
            rw [HPS0.out, List.append_assoc, ← show tripPR M W L i (tq, ta, tp) (k + 1) = _ from HTS.out] at hpp hll
            refine ⟨k + 1, FR', FF', vR', vF', by omega, rfl, by go_num, hpp, HK13.out, hll, HIB13.out.i, HIB13.out.t, fun b hb => ⟨fun e => ?_, fun e => ?_⟩⟩
            ·
             have h1 := HNN.out b (.inr (.inr (.inr e)))
             exact hb.elim h1.1 h1.2
            ·
             have h1 := HNN.out b (.inl e)
             exact hb.elim h1.1 h1.2
          | false =>
           have hmany := hfalse rfl
           have hmany : 4000 - ps0.length < 0 + (instL M.d (inW W) tp rhs tq).length := hmany
           have HLONG := Lib.hid (show 4000 < (allPR M W L).length by
            have h1 := restPR_le (M := M) (W := W) (L := L) (i + 1)
            have h2 := tripPR_le (M := M) (W := W) (L := L) (i := i) (t := (tq, ta, tp)) (k + 1)
            have h3 : (tripPR M W L i (tq, ta, tp) (k + 1)).length = _ := congrArg List.length HTS.out
            have h4 := congrArg List.length HSUC.out
            have h5 := congrArg List.length HPS0.out
            unfold allPR
            simp only [List.length_append, List.length_map] at h1 h2 h3 h4 h5 ⊢
            omega)
           have hbx13 := (HK13.out.bw.block K (Nat.lt_succ_self K)).trans HR1.out
           have HBX13 := Lib.hid hbx13
           obtain ⟨v0, v1, v2, v3, v4, v5⟩ : w13.cell? ⟨K, 0, none⟩ = some (.int .i64 0) ∧ w13.cell? ⟨K, 1, none⟩ = some (.int .i64 0) ∧ w13.cell? ⟨K, 2, none⟩ = some (.int .i64 0) ∧ w13.cell? ⟨K, 3, none⟩ = some (.slice none 0 0) ∧ w13.cell? ⟨K, 4, none⟩ = some (.slice none 0 0) ∧ w13.cell? ⟨K, 5, none⟩ = some (.slice none 0 0) := ⟨by simp [World.cell?, hbx13], by simp [World.cell?, hbx13], by simp [World.cell?, hbx13], by simp [World.cell?, hbx13], by simp [World.cell?, hbx13], by simp [World.cell?, hbx13]⟩
           have hfz : ∀ o, w13.frozen? ⟨K, o, none⟩ = false := fun o => by simp [World.frozen?, hbx13]
           clear hmany htrue hfalse hF' ho13 hbx13
           go_wp2_with fail
           obtain ⟨hb14, ho14⟩ := six_set HBX13.out (.int .i64 0) (.int .i64 0) (.int .i64 0) (.slice none 0 0) (.slice none 0 0) (.slice none 0 0)
           obtain ⟨w14, hw14⟩ : ∃ w14 : World, w14 = ((((((w13.setCell ⟨K, 0, none⟩ (.int .i64 0)).setCell ⟨K, 1, none⟩ (.int .i64 0)).setCell ⟨K, 2, none⟩ (.int .i64 0)).setCell ⟨K, 3, none⟩ (.slice none 0 0)).setCell ⟨K, 4, none⟩ (.slice none 0 0)).setCell ⟨K, 5, none⟩ (.slice none 0 0)) := ⟨_, rfl⟩
           rw [← hw14] at hb14 ho14 ⊢
           have hB := HB1.out.trans ((HK13.out.bw.mono (Nat.le_succ K)).trans (ho14.below (B := K) (fun b e => by omega) (Nat.le_trans (by rw [HZ1.out]; omega) HK13.out.bw.size)))
           clear hw14 v0 v1 v2 v3 v4 v5 hfz ho14
           obtain ⟨v0, v1, v2, v3, v4, v5⟩ : w14.cell? ⟨K, 0, none⟩ = some (.int .i64 0) ∧ w14.cell? ⟨K, 1, none⟩ = some (.int .i64 0) ∧ w14.cell? ⟨K, 2, none⟩ = some (.int .i64 0) ∧ w14.cell? ⟨K, 3, none⟩ = some (.slice none 0 0) ∧ w14.cell? ⟨K, 4, none⟩ = some (.slice none 0 0) ∧ w14.cell? ⟨K, 5, none⟩ = some (.slice none 0 0) := ⟨by simp [World.cell?, hb14], by simp [World.cell?, hb14], by simp [World.cell?, hb14], by simp [World.cell?, hb14], by simp [World.cell?, hb14], by simp [World.cell?, hb14]⟩
           refine Go.bodyPost_ret (v := .tuple #[.agg #[.int .i64 0, .int .i64 0, .int .i64 0, .slice none 0 0, .slice none 0 0, .slice none 0 0], .map none, .int .i64 2]) ?_ rfl ⟨⟨L, HLT.out, HND.out, HTR.out, .inr ⟨HLONG.out, rfl⟩⟩, by rw [← HK.out]; exact hB⟩
           rw [results_cell_tmp2 rfl]
           go_simp
         ·
          have hi1 : instPR M W L i (tq, ta, tp) k (an, rhs) = [] := by unfold instPR; rw [if_neg han]
          rw [hi1, List.append_nil] at HTS
          have hne : decide (an = (ta : Int)) = false := by simpa using han
          rw [hw12] at s0 s1 s2
          clear hi1 hw12 hb
          go_wp2_with fail
          rw [← HW12.out]
          go_roundg (M.nR - (k + 1))
          case measure => rw [HGK.out]; omega
          case rel => exact ⟨k + 1, FR, FF, vR, vF, by omega, rfl, by go_num, by rw [HTS.out]; exact HP12.out, HK12.out, by rw [HTS.out]; exact HLE.out, HBI12.out, HBT12.out, HFN.out⟩
        ·
         obtain rfl : M.nR = k := by omega
         go_wp2_with fail
         go_roundg (nl - (i + 1))
         case measure => rw [HGI.out]; omega
         case rel =>
          have hpp := HP11.out
          have hll := HLE.out
          rw [HM.out.nR, List.append_assoc, ← HSUC.out] at hpp hll
          exact ⟨i + 1, FR, FF, vR, vF, by omega, rfl, by go_num, hpp, HK11.out, hll⟩
      ·
       obtain rfl : nl = i := by omega
       have HAL := Lib.hid (show startPR M L M.n ++ restPR M W L nl = allPR M W L by unfold allPR; rw [HNL.out])
       have hpr := HP9.out
       rw [HAL.out] at hpr
       have HPA := Lib.hid hpr
       have HLA := Lib.hid (show (allPR M W L).length ≤ 4000 by rw [← HAL.out]; exact HLE.out)
       obtain ⟨AN, cN, hvN, _⟩ := HPA.out.nons.form
       subst hvN
       obtain ⟨ln, hln⟩ : ∃ ln, ln = ((-1, -1, -1) :: L.map triZ : List (Int × Int × Int)).length := ⟨_, rfl⟩
       have hln2 : ln = L.length + 1 := by rw [hln]; simp
       rw [← hln] at HPA
       obtain ⟨AP, cP, hvR, _⟩ := HPA.out.out.R.form
       obtain ⟨AF, cF, hvF, _⟩ := HPA.out.out.fm.form
       obtain ⟨nP, hnP⟩ : ∃ nP, nP = ((allPR M W L).map fun x => x.1).length := ⟨_, rfl⟩
       obtain ⟨nF, hnF⟩ : ∃ nF, nF = ((allPR M W L).map fun x => x.2.1).length := ⟨_, rfl⟩
       rw [← hnP] at hvR
       rw [← hnF] at hvF
       subst hvR
       subst hvF
       clear hnP hnF
       have HLN := Lib.hid hln
       have HLN2 := Lib.hid hln2
       have hbx := (HK9.out.bw.block K (Nat.lt_succ_self K)).trans HR1.out
       have HBX := Lib.hid hbx
       have q0 := HPA.out.inn.cells.1
       have hob := HPA.out.out.box
       obtain ⟨v0, v1, v4⟩ : w9.cell? ⟨X.Bo, 0, none⟩ = some (.int .i64 0) ∧ w9.cell? ⟨X.Bo, 1, none⟩ = some (.int .i64 0) ∧ w9.cell? ⟨X.Bo, 4, none⟩ = some (.slice AN ln cN) := ⟨by simp [World.cell?, hob], by simp [World.cell?, hob], by simp [World.cell?, hob]⟩
       have hfz : ∀ o, w9.frozen? ⟨X.Bo, o, none⟩ = false := fun o => by simp [World.frozen?, hob]
       clear hpr hln hln2 hbx hob HP9
       go_wp2_with fail
       go_region
       obtain ⟨w10, hw10⟩ : ∃ w10 : World, w10 = ((w9.setCell ⟨X.Bo, 0, none⟩ (.int .i64 (M.T : Int))).setCell ⟨X.Bo, 1, none⟩ (.int .i64 (ln : Int))).drew := ⟨_, rfl⟩
       rw [← hw10]
       have ho10 : Only w9 w10 (fun b => b = X.Bo) := by
        have hS : ∀ (v : World) (o : Nat) (u : Value), Only v (v.setCell ⟨X.Bo, o, none⟩ u) (fun b => b = X.Bo) := fun v o u => Only.set _ _ _ _ rfl
        rw [hw10]
        exact (hS _ _ _).trans ((hS _ _ _).trans (.drew _ _))
       have hob10 : w10.heap[X.Bo]? = some (.cells #[.int .i64 (M.T : Int), .int .i64 (ln : Int), .int .i64 0, .slice AP nP cP, .slice AN ln cN, .slice AF nF cF] 34 (0, 0)) := by
        have h1 := blk_set (blk_set HPA.out.out.box 0 (.int .i64 (M.T : Int))) 1 (.int .i64 (ln : Int))
        rw [hw10]
        show ((w9.setCell ⟨X.Bo, 0, none⟩ (.int .i64 (M.T : Int))).setCell ⟨X.Bo, 1, none⟩ (.int .i64 (ln : Int))).heap[X.Bo]? = _
        simpa using h1
       have HO10 := Lib.hid ho10
       have HB10 := Lib.hid hob10
       have hKX : K < X.Bo := by have := HKB.out; have := HXB.out.1; omega
       have HK10 := Lib.hid (HK9.out.only ho10 fun b e _ => by have := HXB.out.1; omega)
       have hbx10 := (ho10.block _ (heap_lt HBX.out) (by omega)).trans HBX.out
       have HBX10 := Lib.hid hbx10
       have hbk10 := (ho10.block _ (heap_lt HPA.out.kb) HXO.out.ok.1).trans HPA.out.kb
       clear hw10 q0 v0 v1 v4 hfz ho10
       obtain ⟨y0, y1, y2, y3, y4, y5⟩ : w10.cell? ⟨X.Bo, 0, none⟩ = some (.int .i64 (M.T : Int)) ∧ w10.cell? ⟨X.Bo, 1, none⟩ = some (.int .i64 (ln : Int)) ∧ w10.cell? ⟨X.Bo, 2, none⟩ = some (.int .i64 0) ∧ w10.cell? ⟨X.Bo, 3, none⟩ = some (.slice AP nP cP) ∧ w10.cell? ⟨X.Bo, 4, none⟩ = some (.slice AN ln cN) ∧ w10.cell? ⟨X.Bo, 5, none⟩ = some (.slice AF nF cF) := ⟨by simp [World.cell?, hob10], by simp [World.cell?, hob10], by simp [World.cell?, hob10], by simp [World.cell?, hob10], by simp [World.cell?, hob10], by simp [World.cell?, hob10]⟩
       obtain ⟨v0, v1, v2, v3, v4, v5⟩ : w10.cell? ⟨K, 0, none⟩ = some (.int .i64 0) ∧ w10.cell? ⟨K, 1, none⟩ = some (.int .i64 0) ∧ w10.cell? ⟨K, 2, none⟩ = some (.int .i64 0) ∧ w10.cell? ⟨K, 3, none⟩ = some (.slice none 0 0) ∧ w10.cell? ⟨K, 4, none⟩ = some (.slice none 0 0) ∧ w10.cell? ⟨K, 5, none⟩ = some (.slice none 0 0) := ⟨by simp [World.cell?, hbx10], by simp [World.cell?, hbx10], by simp [World.cell?, hbx10], by simp [World.cell?, hbx10], by simp [World.cell?, hbx10], by simp [World.cell?, hbx10]⟩
       have hfz : ∀ o, w10.frozen? ⟨K, o, none⟩ = false := fun o => by simp [World.frozen?, hbx10]
       have yk : w10.cell? ⟨X.Bk, 0, none⟩ = some (.map (some X.Bq)) := by simp [World.cell?, hbk10]
       have hne : X.Bk ≠ K := by have := HKB.out; have := HXB.out.2.1; have h1 : X.Bk = X.Bq + 1 := (by rw [HXE.out]); omega
       clear hob10 hbx10 hbk10
       go_wp2_with fail
       go_region
       obtain ⟨hb11, ho11⟩ := six_set HBX10.out (.int .i64 (M.T : Int)) (.int .i64 (ln : Int)) (.int .i64 0) (.slice AP nP cP) (.slice AN ln cN) (.slice AF nF cF)
       obtain ⟨w11, hw11⟩ : ∃ w11 : World, w11 = ((((((w10.setCell ⟨K, 0, none⟩ (.int .i64 (M.T : Int))).setCell ⟨K, 1, none⟩ (.int .i64 (ln : Int))).setCell ⟨K, 2, none⟩ (.int .i64 0)).setCell ⟨K, 3, none⟩ (.slice AP nP cP)).setCell ⟨K, 4, none⟩ (.slice AN ln cN)).setCell ⟨K, 5, none⟩ (.slice AF nF cF)) := ⟨_, rfl⟩
       rw [← hw11] at hb11 ho11 ⊢
       have hB := HB1.out.trans ((HK10.out.bw.mono (Nat.le_succ K)).trans (ho11.below (B := K) (fun b e => by omega) (Nat.le_trans (by rw [HZ1.out]; omega) HK10.out.bw.size)))
       have hXN : ∀ b, X.FN b → Bn ≤ b := fun b hb => HS6.out.fl b (by rw [HXE.out] at hb; exact hb)
       have ho : Only w9 w11.drew (fun b => b = X.Bo ∨ b = K) := (HO10.out.more fun b _ h => .inl h).trans ((ho11.more fun b _ h => .inr h).trans (.drew _ _))
       have hKB := HKB.out
       obtain ⟨x1, x2, x3⟩ := HXB.out
       have hPR : ProductR M W K (.returned (.tuple #[.agg #[.int .i64 (M.T : Int), .int .i64 (ln : Int), .int .i64 0, .slice AP nP cP, .slice AN ln cN, .slice AF nF cF], .map (some X.Bq), .int .i64 0])) w11.drew := by
        refine ⟨L, HLT.out, HND.out, HTR.out, .inl ⟨HLA.out, FR, FF, X.FN, .slice AP nP cP, .slice AN ln cN, .slice AF nF cF, X.Bq, by rw [HLN2.out], HPA.out.out.R.only ho fun b hb _ e => ?_, HPA.out.nons.only ho fun b hb _ e => ?_, HPA.out.out.fm.only ho fun b hb _ e => ?_, HPA.out.km.only ho fun e => ?_, fun b hb => ?_, by omega⟩⟩
        ·
         have h1 := HPA.out.off b (.inl hb)
         have h2 := HPA.out.out.nb b (.inl hb)
         rcases e with e | e
         ·
          exact h2 e
         ·
          omega
        ·
         have h1 := (HXO.out.fn b hb).2.1
         have h2 := hXN b hb
         rcases e with e | e
         ·
          exact h1 e
         ·
          omega
        ·
         have h1 := HPA.out.off b (.inr hb)
         have h2 := HPA.out.out.nb b (.inr hb)
         rcases e with e | e
         ·
          exact h2 e
         ·
          omega
        ·
         rcases e with e | e
         ·
          exact HXO.out.oq e.symm
         ·
          omega
        ·
         have hsz := ho.size
         rcases hb with hb | hb | hb
         ·
          have h1 := HPA.out.off b (.inl hb)
          have h2 := HPA.out.fit b (.inl hb)
          omega
         ·
          have h1 := HPA.out.off b (.inr hb)
          have h2 := HPA.out.fit b (.inr hb)
          omega
         ·
          have h1 := hXN b hb
          have h2 := (HXO.out.fn b hb).1
          have h3 := HPA.out.low
          omega
       have HPR := Lib.hid hPR
       have HBB := Lib.hid hB
       obtain ⟨v0, v1, v2, v3, v4, v5⟩ : w11.cell? ⟨K, 0, none⟩ = some (.int .i64 (M.T : Int)) ∧ w11.cell? ⟨K, 1, none⟩ = some (.int .i64 (ln : Int)) ∧ w11.cell? ⟨K, 2, none⟩ = some (.int .i64 0) ∧ w11.cell? ⟨K, 3, none⟩ = some (.slice AP nP cP) ∧ w11.cell? ⟨K, 4, none⟩ = some (.slice AN ln cN) ∧ w11.cell? ⟨K, 5, none⟩ = some (.slice AF nF cF) := ⟨by simp [World.cell?, hb11], by simp [World.cell?, hb11], by simp [World.cell?, hb11], by simp [World.cell?, hb11], by simp [World.cell?, hb11], by simp [World.cell?, hb11]⟩
       clear hPR hB hXN ho hKB x1 x2 x3 hw11 y0 y1 y2 y3 y4 y5 hfz yk hne hb11 ho11
       go_wp2_with fail
       refine Go.bodyPost_ret (v := .tuple #[.agg #[.int .i64 (M.T : Int), .int .i64 (ln : Int), .int .i64 0, .slice AP nP cP, .slice AN ln cN, .slice AF nF cF], .map (some X.Bq), .int .i64 0]) ?_ rfl ⟨by rw [← HK.out]; exact HPR.out, by rw [← HK.out]; exact HBB.out.drew⟩
       rw [results_cell_tmp2 rfl]
       go_simp
end Go.Proofs.Ytbmcoamdfpegnaa
