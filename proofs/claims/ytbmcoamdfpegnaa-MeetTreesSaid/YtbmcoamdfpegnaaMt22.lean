/- MkNeeded -/
import Derived.Test.YtbmcoamdfpegnaaMt21
namespace Go.Proofs.Ytbmcoamdfpegnaa
open Go.RowKit Go.Maps
theorem step_arange {P : Program} {k : TypeId} {κ : Type} {K : KeyRep P k κ} {w : World} {o : Oper} {a : Act} {Q : Exit → Act → World → Prop} {K' : Act → World → Prop} (m : Operand) (t : TypeId) (hop : o.op = Op.range t m) (e : TypeId) (ht : P.underlying t = some (.map k e)) (b : Nat) (l : List (κ × Value)) (hm : a.eval m = .map (some b)) (hown : AMap K w b l)
    (hK : ∀ w', ARng K w' b w.heap.size l (fun _ => False) l.length → w.grownBy w' none → w'.heap.size = w.heap.size + 1 → K' (a.put o.dst (.pointer (some ⟨w.heap.size, 0, none⟩))) w') : Oper.wp P o a w K' Q := by
 obtain ⟨D, h1, h2, h3, h4, h5, h6⟩ := hown
 obtain ⟨w', hrun, r1, r2, r3⟩ := h1.range K.keyed ht
 unfold Oper.wp
 simp [execOp, hop, hm, hrun, Result.andThen]
 refine hK w' ⟨D, Maps.has D, l.length, by rw [h2] at r1; exact r1, h5, h6, fun _ h => h, fun p hp kl hk hl => ?_⟩ r2 r3
 obtain ⟨kl', e1, e2, _⟩ := h5 p hp
 rw [hk] at e1
 injection e1 with e1
 rw [e1, e2] at hl
 cases hl
structure NdI (M : Mkr) (W L : List TriD) (p i : Nat) : Prop where
 nd : ∀ t ∈ L, NdP M.d M.R (inW W) M.st t
 st : ∀ q : Nat, q < p → 0 ≤ dat M.d (q : Int) → (M.d.1.toNat, M.st, q) ∈ W → (M.d.1.toNat, M.st, q) ∈ L
 cl : ∀ (j : Nat) (t : TriD), j < i → L[j]? = some t → ∀ x, NeedP M.d M.R (inW W) t x → x ∈ L
theorem addT_pre (W L : List TriD) (t : TriD) : ∃ ys, addT W L t = L ++ ys := by
 unfold addT insT
 split
 ·
  split
  ·
   exact ⟨[], by simp⟩
  ·
   exact ⟨[t], rfl⟩
 ·
  exact ⟨[], by simp⟩
theorem mem_addT {W L : List TriD} {t x : TriD} : x ∈ addT W L t ↔ x ∈ L ∨ (x = t ∧ t ∈ W) := by
 unfold addT
 by_cases h : t ∈ W
 ·
  rw [if_pos h, mem_insT]
  simp [h]
 ·
  rw [if_neg h]
  simp [h]
section
variable {M : Mkr} {W L : List TriD} {p i : Nat}
theorem need_in {t x : TriD} (h : NeedP M.d M.R (inW W) t x) : x ∈ W := by
 obtain ⟨r, _, _, l, c, m, _, _, e, h1, _⟩ := h
 unfold stpL at h1
 rw [if_neg (by simp), List.mem_filter] at h1
 rw [← e] at h1
 exact of_decide_eq_true h1.2
theorem NdI.start : NdI M W [] 0 0 := ⟨by simp, fun q h => by omega, fun j t h => by omega⟩
theorem NdI.addS (h : NdI M W L p 0) (hp : p < M.n) (hM : M.Ok) (ha : 0 ≤ dat M.d (p : Int)) : NdI M W (addT W L (M.d.1.toNat, M.st, p)) (p + 1) 0 := by
 refine ⟨fun t ht => ?_, fun q hq h0 hw => ?_, fun j t h => by omega⟩
 ·
  rcases mem_addT.1 ht with e | ⟨e, e2⟩
  ·
   exact h.nd t e
  ·
   rw [e]
   exact .start (by rw [← hM.n]; exact hp) ha (decide_eq_true e2)
 ·
  rw [mem_addT]
  by_cases e : q = p
  ·
   subst e
   exact .inr ⟨rfl, hw⟩
  ·
   exact .inl (h.st q (by omega) h0 hw)
theorem NdI.skipS (h : NdI M W L p 0) (ha : ¬ 0 ≤ dat M.d (p : Int)) : NdI M W L (p + 1) 0 :=
 ⟨h.nd, fun q hq h0 hw => h.st q (by rcases Nat.lt_succ_iff_lt_or_eq.1 hq with e | e; exact e; exact absurd (e ▸ h0) ha) h0 hw, h.cl⟩
theorem NdI.add (h : NdI M W L p i) (hi : i < L.length) {t x : TriD} (ht : L[i]? = some t) (hx : NeedP M.d M.R (inW W) t x) : NdI M W (addT W L x) p i := by
 obtain ⟨ys, hys⟩ := addT_pre W L x
 refine ⟨fun t' ht' => ?_, fun q hq h0 hw => mem_addT.2 (.inl (h.st q hq h0 hw)), fun j t' hj ht' y hy => ?_⟩
 ·
  rcases mem_addT.1 ht' with e | ⟨e, _⟩
  ·
   exact h.nd t' e
  ·
   rw [e]
   exact .next (h.nd t (List.mem_of_getElem? ht)) hx
 ·
  rw [hys, List.getElem?_append_left (by omega)] at ht'
  exact mem_addT.2 (.inl (h.cl j t' hj ht' y hy))
theorem NdI.next (h : NdI M W L p i) {t : TriD} (ht : L[i]? = some t) (hc : ∀ x, NeedP M.d M.R (inW W) t x → x ∈ L) : NdI M W L p (i + 1) :=
 ⟨h.nd, h.st, fun j t' hj ht' x hx => by
  by_cases e : j = i
  ·
   subst e
   rw [ht] at ht'
   injection ht' with ht'
   subst ht'
   exact hc x hx
  ·
   exact h.cl j t' (by omega) ht' x hx⟩
theorem NdI.all (h : NdI M W L M.n L.length) (hM : M.Ok) (t : TriD) : t ∈ L ↔ NdP M.d M.R (inW W) M.st t := by
 refine ⟨h.nd t, fun hn => ?_⟩
 induction hn with
 | @start p hp ha hw => exact h.st p (by rw [hM.n]; exact hp) ha (of_decide_eq_true hw)
 | @next t x _ hx ih =>
  obtain ⟨j, hj⟩ := List.getElem?_of_mem ih
  exact h.cl j t (List.getElem?_eq_some_iff.1 hj).1 hj x hx
end
def NeededR (M : Mkr) (W : List TriD) (base : Nat) (e : Ending) (w' : World) : Prop := ∃ (A : Option Addr) (c : Nat) (L : List TriD), e = .returned (.slice A L.length c) ∧ Sl RTri w' (fun b => base ≤ b) A L.length c L ∧ L.Pairwise TLt ∧ (∀ t, t ∈ L ↔ NdP M.d M.R (inW W) M.st t) ∧ ∀ t ∈ L, M.Tri t
theorem enters_add : ∀ (args : Array Value) (u : World), (callFunc 79 args).run Try.prog u = .ok (.enter 79 args) u := enters_of Try.func79 (by kernel_rfl) rfl
set_option linter.unusedSimpArgs false in
set_option maxRecDepth 100000 in
set_option maxHeartbeats 4000000 in
theorem mkNeeded (M : Mkr) (hM : M.Ok) (w : World) (W : List TriD) (h : M.In w W) : Calls Try.prog 55 #[.pointer (some ⟨M.Bm, 0, none⟩)] w fun e w' => NeededR M W w.heap.size e w' ∧ Below w.heap.size w w' := by
 have HI := Lib.hid h
 have HM := Lib.hid hM
 have HN := Lib.hid hM.n
 have hn12 := hM.n12
 have hst := hM.val.st
 have hdst : ((M.d.1.toNat : Nat) : Int) = M.d.1 := by omega
 have HDS := Lib.hid hdst
 have hstN : M.st < M.N := by have := hM.g.st; simp only at this; omega
 have HTS := Lib.hid (show ∀ p, p < M.n → M.Tri (M.d.1.toNat, M.st, p) from fun p hp => ⟨by show M.d.1.toNat < M.n; rw [hM.n]; omega, hstN, hp⟩)
 obtain ⟨K, hK⟩ : ∃ K, K = w.heap.size := ⟨_, rfl⟩
 have hlow := h.low
 rw [← hK] at hlow
 obtain ⟨w1, hw1⟩ : ∃ w1 : World, w1 = w.alloc (.cells #[.pointer (some ⟨M.Bm, 0, none⟩)] 71) := ⟨_, rfl⟩
 obtain ⟨w2, hw2⟩ : ∃ w2 : World, w2 = w1.alloc (.cells #[.slice none 0 0] 107) := ⟨_, rfl⟩
 obtain ⟨w3, hw3⟩ : ∃ w3 : World, w3 = w2.alloc (.map #[] 0) := ⟨_, rfl⟩
 obtain ⟨w4, hw4⟩ : ∃ w4 : World, w4 = w3.alloc (.cells #[.map (some (K + 1 + 1))] 104) := ⟨_, rfl⟩
 have z1 : w1.heap.size = K + 1 := by rw [hw1]; simp [hK]
 have z2 : w2.heap.size = K + 2 := by rw [hw2]; simp [z1]
 have z3 : w3.heap.size = K + 3 := by rw [hw3]; simp [z2]
 have z4 : w4.heap.size = K + 4 := by rw [hw4]; simp [z3]
 have b04 : Below K w w4 := by rw [hw4, hw3, hw2, hw1, hK]; exact ((((Below.refl _ _).alloc (Nat.le_refl _) _).alloc (by simp) _).alloc (by simp; omega) _).alloc (by simp; omega) _
 have HO := Lib.hid (show NdBox.Ok M ⟨K, K, K + 1 + 1 + 1, K + 1 + 1, K + 1⟩ from ⟨by dsimp only; omega, by dsimp only; omega, by dsimp only; omega, by dsimp only; omega, by dsimp only; omega, by dsimp only; omega, by dsimp only; omega, by dsimp only; omega, by dsimp only; omega, by dsimp only; omega, hlow.1, hlow.2.1, hlow.2.2⟩)
 have HST := Lib.hid (show NdSt M ⟨K, K, K + 1 + 1 + 1, K + 1 + 1, K + 1⟩ W w4 (fun _ => False) (.slice none 0 0) [] from by
  refine ⟨HI.out.below (by rw [← hK]; exact b04), ?_, ?_, ?_, ?_, GL.nil _ _, fun b hb => hb.elim, by simp⟩
  ·
   show w4.heap[K]? = _
   rw [hw4, Below.heap_alloc _ _ _ (by omega), hw3, Below.heap_alloc _ _ _ (by omega), hw2, Below.heap_alloc _ _ _ (by omega), hw1, hK]
   exact heap_alloc_new _ _
  ·
   show w4.heap[K + 1 + 1 + 1]? = _
   rw [hw4, show K + 1 + 1 + 1 = w3.heap.size from z3.symm]
   exact heap_alloc_new _ _
  ·
   show w4.heap[K + 1]? = _
   rw [hw4, Below.heap_alloc _ _ _ (by omega), hw3, Below.heap_alloc _ _ _ (by omega), hw2, ← z1]
   exact heap_alloc_new _ _
  ·
   have h1 := TMap.made w2
   rw [← hw3, z2] at h1
   show TMap w4 (K + 1 + 1) []
   exact h1.block (by rw [hw4]; exact Below.heap_alloc _ _ _ (by omega)))
 have HB04 := Lib.hid b04
 have HW4 := Lib.hid (show w4 = (((w.alloc (.cells #[.pointer (some ⟨M.Bm, 0, none⟩)] 71)).alloc (.cells #[.slice none 0 0] 107)).alloc (.map #[] 0)).alloc (.cells #[.map (some (w.heap.size + 1 + 1))] 104) by rw [hw4, hw3, hw2, hw1, hK])
 have HK := Lib.hid hK
 have HLOW := Lib.hid hlow
 obtain ⟨AA, hAA⟩ : ∃ AA, AA = M.A := ⟨_, rfl⟩
 have HAA := Lib.hid hAA
 have HC := Lib.hid (show ∀ (u : World), M.In u W → u.cell? ⟨M.Bm, 2, none⟩ = some (.int .i64 (M.st : Int)) ∧ u.cell? ⟨M.Bm, 4, none⟩ = some (.int .i64 M.d.1) ∧ u.cell? ⟨M.Bm, 5, none⟩ = some (.slice AA M.n M.cA) from fun u hu => by
  have h1 := hu.cells
  rw [HAA.out]
  exact ⟨h1.2.2.1, h1.2.2.2.2.1, h1.2.2.2.2.2.1⟩)
 have hent := enters_add
 have hmm := @run_makeMap Try.prog
 have k0 : w4.cell? ⟨w.heap.size, 0, none⟩ = some (.pointer (some ⟨M.Bm, 0, none⟩)) := by rw [← hK]; simp [World.cell?, HST.out.bx]
 have k5 := (HC.out _ HST.out.inn).2.2
 rw [HW4.out] at k0 k5
 clear h hM hw1 hw2 hw3 hw4 z1 z2 z3 z4 b04 hK hlow hst hdst hAA w1 w2 w3
 go_enter Try.func55, Try.ntmps55
 go_wp2_with fail
 rw [← HW4.out]
 rw [← HK.out]
 clear k0 k5 hmm
 obtain ⟨Bs, hBs⟩ : ∃ Bs, Bs = K + 1 + 1 + 1 := ⟨_, rfl⟩
 obtain ⟨Bq, hBq⟩ : ∃ Bq, Bq = K + 1 + 1 := ⟨_, rfl⟩
 obtain ⟨Bo, hBo⟩ : ∃ Bo, Bo = K + 1 := ⟨_, rfl⟩
 rw [← hBs, ← hBq, ← hBo] at HO HST
 rw [← hBs, ← hBq, ← hBo]
 clear hBs hBq hBo HW4
 go_loopg [18] M.n (fun gp v18 wr => ∃ (p : Nat) (F : Nat → Prop) (v : Value) (L : List TriD), p ≤ M.n ∧ gp = M.n - p ∧ v18 = .int .i64 p ∧ NdSt M ⟨K, K, Bs, Bq, Bo⟩ W wr F v L ∧ NdI M W L p 0 ∧ Below K w wr)
 case atStart => exact ⟨0, _, _, [], Nat.zero_le _, rfl, rfl, HST.out, .start, HB04.out⟩
 case round =>
  obtain ⟨p, F, v, L, hp, hgp, rfl, hst, hni, hbw⟩ := hrel
  obtain ⟨w5, rfl⟩ : ∃ w5 : World, w5 = wr := ⟨_, rfl⟩
  have HGP := Lib.hid hgp
  have HS5 := Lib.hid hst
  have HNI := Lib.hid hni
  have HBW := Lib.hid hbw
  clear hgp hst hni hbw
  by_cases hpl : p < M.n
  ·
   have hpI : (p : Int) < (M.n : Int) := by omega
   have hp0 : (0 : Int) ≤ (p : Int) := by omega
   have hac := HS5.out.inn.acc
   rw [← HAA.out] at hac
   obtain ⟨bA, oA, x, hA, _, hx, hcx⟩ := hac.ints.int_at hpl
   subst hA
   have HX := Lib.hid (show dat M.d (p : Int) = x by
    unfold dat
    rw [if_neg (by omega), Int.toNat_natCast, hx]; rfl)
   clear hac hx
   by_cases hx0 : 0 ≤ x
   ·
    have hd0 : decide ((0 : Int) ≤ x) = true := by simpa using hx0
    have k2 := (HC.out _ HS5.out.inn).1
    have k4 := (HC.out _ HS5.out.inn).2.1
    have kx : w5.cell? ⟨K, 0, none⟩ = some (.pointer (some ⟨M.Bm, 0, none⟩)) := by simp [World.cell?, HS5.out.bx]
    have HNX := Lib.hid (HNI.out.addS hpl HM.out (by rw [HX.out]; exact hx0))
    have hd : M.d.1 = ((M.d.1.toNat : Nat) : Int) := HDS.out.symm
    obtain ⟨dn, hdn⟩ : ∃ dn, dn = M.d.1.toNat := ⟨_, rfl⟩
    rw [hd, ← hdn] at k4
    have HDN := Lib.hid hdn
    clear hd hdn
    go_wp2_with fail
    go_region_held3 (fun u => u.cell? ⟨K, 0, none⟩ = some (.pointer (some ⟨M.Bm, 0, none⟩)) ∧ u.cell? ⟨M.Bm, 2, none⟩ = some (.int .i64 (M.st : Int)) ∧ u.cell? ⟨M.Bm, 4, none⟩ = some (.int .i64 (dn : Int))) (first | exact ⟨kx, k2, k4⟩ | exact ⟨yx, y2, y4⟩) (first
     | (go_at_call 79; refine (mkAdd M HM.out ⟨K, K, Bs, Bq, Bo⟩ HO.out _ W L F v (HS5.out.below HO.out (Below.refl _ _).drew) (dn, M.st, p) (by rw [HDN.out]; exact HTS.out p hpl)).mono ?_; rintro e w6 ⟨rfl, F6, v6, hs6, ho6, hf6⟩; obtain ⟨y2, y4, _⟩ := HC.out _ hs6.inn; rw [HDS.out.symm, ← HDN.out] at y4; have yx : w6.cell? ⟨K, 0, none⟩ = some (.pointer (some ⟨M.Bm, 0, none⟩)) := (by simp [World.cell?, hs6.bx]); have HS6 := Lib.hid hs6; have HO6 := Lib.hid ho6; clear hs6 ho6 hf6))
    have HB6 := Lib.hid (show Below K w w6 from HBW.out.trans ((Below.refl _ _).drew.trans (HO6.out.below (fun b hb => by
     rcases hb with rfl | rfl | hb
     ·
      exact HO.out.kq
     ·
      exact HO.out.ko
     ·
      exact (HS5.out.off b hb).1) (by rw [HK.out]; exact HBW.out.size))))
    clear kx k2 k4 y2 y4 yx
    go_wp2_with fail
    go_roundg (M.n - (p + 1))
    case measure => rw [HGP.out]; omega
    case rel => exact ⟨p + 1, F6, v6, _, by omega, rfl, by go_num, HS6.out, by rw [HDN.out]; exact HNX.out, HB6.out⟩
   ·
    have hd0 : decide ((0 : Int) ≤ x) = false := by simpa using hx0
    have HNX := Lib.hid (HNI.out.skipS (by rw [HX.out]; exact hx0))
    go_wp2_with fail
    go_roundg (M.n - (p + 1))
    case measure => rw [HGP.out]; omega
    case rel => exact ⟨p + 1, F, v, L, by omega, rfl, by go_num, HS5.out, HNX.out, HBW.out⟩
  ·
   obtain rfl : M.n = p := by omega
   go_wp2_with fail
   go_loopg [8] 1441 (fun gi v8 wr => ∃ (i : Nat) (F : Nat → Prop) (v : Value) (L : List TriD), i ≤ L.length ∧ gi = 1441 - i ∧ v8 = .int .i64 i ∧ NdSt M ⟨K, K, Bs, Bq, Bo⟩ W wr F v L ∧ NdI M W L M.n i ∧ Below K w wr)
   case atStart => exact ⟨0, F, v, L, Nat.zero_le _, rfl, rfl, HS5.out, HNI.out, HBW.out⟩
   case round =>
    obtain ⟨i, F, v, L, hi, hgi, rfl, hst, hni, hbw⟩ := hrel
    obtain ⟨w6, rfl⟩ : ∃ w6 : World, w6 = wr := ⟨_, rfl⟩
    have HGI := Lib.hid hgi
    have HS6 := Lib.hid hst
    have HNI6 := Lib.hid hni
    have HBW6 := Lib.hid hbw
    obtain ⟨A, c, hv, hc⟩ := hst.out.form
    subst hv
    have hfew := hst.few HM.out
    have ko : w6.cell? ⟨Bo, 0, none⟩ = some (.slice A L.length c) := by simp [World.cell?, hst.bo]
    have kx : w6.cell? ⟨K, 0, none⟩ = some (.pointer (some ⟨M.Bm, 0, none⟩)) := by simp [World.cell?, hst.bx]
    clear hgi hst hni hbw
    obtain ⟨nl, hnl⟩ : ∃ nl, nl = L.length := ⟨_, rfl⟩
    rw [← hnl] at hi hc hfew ko
    have HNL := Lib.hid hnl
    clear hnl
    by_cases hil : i < nl
    ·
     have hiI : (i : Int) < (nl : Int) := by omega
     have hi0 : (0 : Int) ≤ (i : Int) := by omega
     have hilt : decide (i < nl) = true := by simpa using hil
     have hol := HS6.out.out.sl
     obtain ⟨bO, oO, t, hA, hFb, ht, t0, t1, t2⟩ := hol.tri (k := i) (by rw [← HNL.out]; exact hil)
     subst hA
     have HT := Lib.hid ht
     have HTT := Lib.hid (HS6.out.tri t (List.mem_of_getElem? ht))
     clear hol ht
     obtain ⟨tq, ta, tp⟩ := t
     simp only at t0 t1 t2
     go_wp2_with fail
     have HKK := Lib.hid (And.intro kx (And.intro ko (And.intro t0 (And.intro t1 t2))))
     refine wp_region_late (late := []) (S1 := fun u => u.cell? ⟨K, 0, none⟩ = some (.pointer (some ⟨M.Bm, 0, none⟩)) ∧ u.cell? ⟨Bo, 0, none⟩ = some (.slice (some ⟨bO, oO, none⟩) nl c) ∧ u.cell? ⟨bO, oO + i * 3, none⟩ = some (.int .i64 (tq : Int)) ∧ u.cell? ⟨bO, oO + i * 3 + 1, none⟩ = some (.int .i64 (ta : Int)) ∧ u.cell? ⟨bO, oO + i * 3 + 2, none⟩ = some (.int .i64 (tp : Int))) (S := fun _ => True) (by kernel_rfl) ?_
     clear kx ko t0 t1 t2
     refine wpAnyL_pure (i := 0) rfl (by kernel_rfl) (fun _ _ _ h => h) (Or.inl ⟨by rfl, (fun u hu => by obtain ⟨k0, k1, k2, k3, k4⟩ := hu; go_simp; try rfl)⟩) HKK.out (fun _ => trivial) ?_
     simp only [Act.put, List.setIfInBounds_toArray, List.set_cons_zero, List.set_cons_succ, List.getElem_toArray, List.getElem_cons_zero, List.getElem_cons_succ]
     refine wpAnyL_pure (i := 1) rfl (by kernel_rfl) (fun _ _ _ h => h) (Or.inl ⟨by rfl, (fun u hu => by obtain ⟨k0, k1, k2, k3, k4⟩ := hu; go_simp; try rfl)⟩) HKK.out (fun _ => trivial) ?_
     simp only [Act.put, List.setIfInBounds_toArray, List.set_cons_zero, List.set_cons_succ, List.getElem_toArray, List.getElem_cons_zero, List.getElem_cons_succ]
     refine wpAnyL_pure (i := 2) rfl (by kernel_rfl) (fun _ _ _ h => h) (Or.inl ⟨by rfl, (fun u hu => by obtain ⟨k0, k1, k2, k3, k4⟩ := hu; go_simp; try rfl)⟩) HKK.out (fun _ => trivial) ?_
     simp only [Act.put, List.setIfInBounds_toArray, List.set_cons_zero, List.set_cons_succ, List.getElem_toArray, List.getElem_cons_zero, List.getElem_cons_succ]
     refine wpAnyL_pure (i := 3) rfl (by kernel_rfl) (fun _ _ _ h => h) (Or.inl ⟨by rfl, (fun u hu => by obtain ⟨k0, k1, k2, k3, k4⟩ := hu; go_simp; try rfl)⟩) HKK.out (fun _ => trivial) ?_
     simp only [Act.put, List.setIfInBounds_toArray, List.set_cons_zero, List.set_cons_succ, List.getElem_toArray, List.getElem_cons_zero, List.getElem_cons_succ]
     refine wpAnyL_pure (i := 4) rfl (by kernel_rfl) (fun _ _ _ h => h) (Or.inl ⟨by rfl, (fun u hu => by obtain ⟨k0, k1, k2, k3, k4⟩ := hu; go_simp; try rfl)⟩) HKK.out (fun _ => trivial) ?_
     simp only [Act.put, List.setIfInBounds_toArray, List.set_cons_zero, List.set_cons_succ, List.getElem_toArray, List.getElem_cons_zero, List.getElem_cons_succ]
     refine wpAnyL_ready (rs := [5]) (by kernel_rfl) (by simp) ?_
     refine AllL.cons rfl (fun K hK => ?_) ?_
     ·
      go_simp
      refine (mkNeeds M HM.out _ W (HS6.out.inn.below (Below.refl _ _).drew) (tq, ta, tp) HTT.out).mono ?_
      rintro e w7 ⟨⟨bN, LN, rfl, hbN, hmN, hnN, hrN⟩, hb67⟩
      have hb67 : Below w6.heap.size w6 w7 := ((Below.refl _ _).drew).trans hb67
      have hbN : w6.heap.size ≤ bN := hbN
      have hK := HKK.out
      have HKC := Lib.hid (And.intro ((hb67.cell (cell_lt hK.1)).trans hK.1) (And.intro ((hb67.cell (cell_lt hK.2.1)).trans hK.2.1) (And.intro ((hb67.cell (cell_lt hK.2.2.1)).trans hK.2.2.1) (And.intro ((hb67.cell (cell_lt hK.2.2.2.1)).trans hK.2.2.2.1) ((hb67.cell (cell_lt hK.2.2.2.2)).trans hK.2.2.2.2)))))
      have HB67 := Lib.hid hb67
      have HBN := Lib.hid hbN
      have HMN := Lib.hid hmN
      have HNN := Lib.hid hnN
      have HRN := Lib.hid hrN
      clear hb67 hbN hmN hnN hrN hK
      refine hK.out _ _ HKC.out (fun _ => trivial) ?_
      clear hK K
      refine wpAnyL_ready (rs := [6]) (by kernel_rfl) (by simp) ?_
      refine AllL.cons rfl (fun K hK => ?_) ?_
      ·
       rw [if_pos (by simp [Region.wanted])]
       refine step_arange _ 104 rfl 4 mapTri bN _ rfl HMN.out.map ?_
       intro w8 hrg8 hg8 hz8
       have hb78 : Below w7.heap.size w7 w8 := ⟨hg8.os, hg8.tape, hg8.output, hg8.size, fun b hb => hg8.block b hb (by simp)⟩
       have hK := HKC.out
       have HKD := Lib.hid (And.intro ((hb78.cell (cell_lt hK.1)).trans hK.1) (And.intro ((hb78.cell (cell_lt hK.2.1)).trans hK.2.1) (And.intro ((hb78.cell (cell_lt hK.2.2.1)).trans hK.2.2.1) (And.intro ((hb78.cell (cell_lt hK.2.2.2.1)).trans hK.2.2.2.1) ((hb78.cell (cell_lt hK.2.2.2.2)).trans hK.2.2.2.2)))))
       have HB78 := Lib.hid hb78
       have HRG8 := Lib.hid hrg8
       have HZ8 := Lib.hid hz8
       clear hrg8 hg8 hz8 hb78 hK
       change K (Act.put _ (some 52) _) _
       refine hK.out _ _ HKD.out (fun _ => trivial) ?_
       clear hK K
       refine wpAnyL_done (by kernel_rfl) ?_ _
       have HS8 := Lib.hid ((HS6.out.fit.below HO.out HB67.out).below HO.out HB78.out)
       have HB8 := Lib.hid (show Below K w w8 from HBW6.out.trans ((HB67.out.trans (HB78.out.mono HB67.out.size)).mono (by rw [HK.out]; exact HBW6.out.size)))
       have HZN := Lib.hid (show bN < w7.heap.size from HMN.out.map.lt)
       have hz67 : w6.heap.size ≤ w7.heap.size := HB67.out.size
       have hz8 : w7.heap.size < w8.heap.size := by have := HZ8.out; omega
       have hbn := HBN.out
       have hbq : Bq < w6.heap.size := HS6.out.sq.map.lt
       have hbo : Bo < w6.heap.size := heap_lt HS6.out.bo
       obtain ⟨cn, hcn⟩ : ∃ cn, cn = (LN.map fun t => (triZ t, Value.bool true)).length := ⟨_, rfl⟩
       rw [← hcn] at HRG8
       clear hcn
       simp only [Act.put, List.setIfInBounds_toArray, List.set_cons_zero, List.set_cons_succ]
       go_wp2_with fail
       go_loopg [] cn (fun gk wr => ∃ (F : Nat → Prop) (v : Value) (L2 : List TriD) (seen : Int × Int × Int → Prop), ARng KTri wr bN w7.heap.size (LN.map fun t => (triZ t, Value.bool true)) seen gk ∧ NdSt M ⟨K, K, Bs, Bq, Bo⟩ W wr F v L2 ∧ NdI M W L2 M.n i ∧ L2[i]? = some (tq, ta, tp) ∧ (∀ x ∈ LN, seen (triZ x) → x ∈ L2) ∧ Below K w wr ∧ (∀ b, F b → b ≠ bN ∧ b ≠ w7.heap.size) ∧ w7.heap.size < wr.heap.size)
       case atStart =>
        exact ⟨_, _, L, fun _ => False, HRG8.out, HS8.out, HNI6.out, HT.out, fun x _ h => h.elim, HB8.out, fun b hb => ⟨by have := hb.2; omega, by have := hb.2; omega⟩, hz8⟩
       case round =>
        obtain ⟨F2, v2, L2, seen, hrg, hst, hni, hti, hsn, hbw, hfo, hz⟩ := hrel
        obtain ⟨w9, rfl⟩ : ∃ w9 : World, w9 = wr := ⟨_, rfl⟩
        have HRG := Lib.hid hrg
        have HS9 := Lib.hid hst
        have HNI9 := Lib.hid hni
        have HTI := Lib.hid hti
        have HSN := Lib.hid hsn
        have HBW9 := Lib.hid hbw
        have HFO := Lib.hid hfo
        clear hrg hst hni hti hsn hbw hfo
        go_wp2_with (at_next; refine wpList_anext rfl _ rfl bN w7.heap.size _ seen gk rfl HRG.out ?_ ?_)
        ·
         intro hall
         have hil2 := (List.getElem?_eq_some_iff.1 HTI.out).1
         have HNX := Lib.hid (HNI9.out.next HTI.out fun x hx => HSN.out x ((HNN.out x).2 hx) (hall _ _ _ _ x.1 x.2.1 x.2.2 ((HNN.out x).2 hx) rfl rfl))
         have hm9 := HS9.out.few HM.out
         clear hall
         go_wp2_with fail
         go_roundg (1441 - (i + 1))
         case measure => rw [HGI.out]; omega
         case rel => exact ⟨i + 1, F2, v2, L2, by omega, rfl, by go_num, HS9.out, HNX.out, HBW9.out⟩
        ·
         intro x1 x2 x3 vv wA cnt y1 y2 y3 hy he hv hlt hrgA hgA hzA hen
         obtain ⟨rfl, rfl, rfl⟩ : x1 = (y1 : Int) ∧ x2 = (y2 : Int) ∧ x3 = (y3 : Int) := by
          simp only [triZ, Prod.mk.injEq] at he
          exact ⟨he.1.symm, he.2.1.symm, he.2.2.symm⟩
         subst hv
         have hxs : Bs < w6.heap.size := heap_lt HS6.out.bs
         have hxx : K < w6.heap.size := heap_lt HS6.out.bx
         have hoA : Only w9 wA (fun b => b = w7.heap.size) := Only.of_grown hgA fun b e => by injection e with e; exact e.symm
         have hsA := HS9.out.only HO.out hoA fun b e => by
          subst e
          exact ⟨by dsimp only; omega, by dsimp only; omega, by dsimp only; omega, by dsimp only; omega, by dsimp only; omega, fun hb => (HFO.out _ hb.1).2 rfl⟩
         have hbA : Below K w9 wA := hoA.below (fun b e => by omega) (by rw [HK.out]; exact HBW9.out.size)
         obtain ⟨wB, hwB⟩ : ∃ wB : World, wB = wA.alloc (.cells #[.int .i64 (y1 : Int), .int .i64 (y2 : Int), .int .i64 (y3 : Int)] 92) := ⟨_, rfl⟩
         have hbAB : Below wA.heap.size wA wB := by rw [hwB]; exact (Below.refl _ _).alloc (Nat.le_refl _) _
         have HSB := Lib.hid (hsA.below HO.out hbAB)
         have hbt : wB.heap[wA.heap.size]? = some (.cells #[.int .i64 (y1 : Int), .int .i64 (y2 : Int), .int .i64 (y3 : Int)] 92 (0, 0)) := by rw [hwB]; exact heap_alloc_new _ _
         obtain ⟨s0, s1, s2⟩ : wB.cell? ⟨wA.heap.size, 0, none⟩ = some (.int .i64 (y1 : Int)) ∧ wB.cell? ⟨wA.heap.size, 1, none⟩ = some (.int .i64 (y2 : Int)) ∧ wB.cell? ⟨wA.heap.size, 2, none⟩ = some (.int .i64 (y3 : Int)) := ⟨by simp [World.cell?, hbt], by simp [World.cell?, hbt], by simp [World.cell?, hbt]⟩
         have HRGB := Lib.hid (hrgA.only (X := fun _ => False) (.of_below hbAB (Nat.le_refl _) _) id id)
         have HBB := Lib.hid (show Below K w wB from HBW9.out.trans (hbA.trans (hbAB.mono (Nat.le_trans (by rw [HK.out]; exact HBW9.out.size) hbA.size))))
         have hz9B : w9.heap.size ≤ wB.heap.size := Nat.le_trans hoA.size hbAB.size
         have HY := Lib.hid hy
         have HLT := Lib.hid hlt
         have HNX := Lib.hid (HNI9.out.add (List.getElem?_eq_some_iff.1 HTI.out).1 HTI.out ((HNN.out (y1, y2, y3)).1 hy))
         have HWB := Lib.hid hwB
         rw [hwB] at s0 s1 s2
         clear he hlt hrgA hgA hoA hsA hbA hbAB hbt hwB hy
         go_wp2_with (go_at_call 79; rw [← HWB.out]; refine (mkAdd M HM.out ⟨K, K, Bs, Bq, Bo⟩ HO.out wB W L2 F2 v2 HSB.out (y1, y2, y3) (HRN.out _ HY.out)).mono ?_; rintro e wC ⟨rfl, F3, v3, hs3, ho3, hf3⟩; have HS3 := Lib.hid hs3; have HO3 := Lib.hid ho3; have HF3 := Lib.hid hf3; clear hs3 ho3 hf3)
         have hHO := HO.out
         go_roundg cnt
         case measure => exact HLT.out
         case rel =>
          refine ⟨F3, v3, addT W L2 (y1, y2, y3), _, HRGB.out.only HO3.out ?_ ?_, HS3.out, HNX.out, ?_, fun x hx hsx => ?_, HBB.out.trans (HO3.out.below (fun b hb => ?_) (by rw [HK.out]; exact HBB.out.size)), fun b hb => ?_, Nat.lt_of_lt_of_le hz (Nat.le_trans hz9B HO3.out.size)⟩
          ·
           rintro (h | h | h)
           ·
            omega
           ·
            omega
           ·
            exact (HFO.out _ h).1 rfl
          ·
           rintro (h | h | h)
           ·
            omega
           ·
            omega
           ·
            exact (HFO.out _ h).2 rfl
          ·
           obtain ⟨ys, hys⟩ := addT_pre W L2 (y1, y2, y3)
           rw [hys, List.getElem?_append_left (List.getElem?_eq_some_iff.1 HTI.out).1]
           exact HTI.out
          ·
           rcases hsx with h | h
           ·
            exact mem_addT.2 (.inl (HSN.out x hx h))
           ·
            have e : x = (y1, y2, y3) := triZ_inj h
            exact mem_addT.2 (.inr ⟨e, by rw [← e]; exact need_in ((HNN.out x).1 hx)⟩)
          ·
           rcases hb with rfl | rfl | hb
           ·
            exact hHO.kq
           ·
            exact hHO.ko
           ·
            exact (HSB.out.off b hb).1
          ·
           rcases HF3.out b hb with h | h
           ·
            exact HFO.out b h
           ·
            have hzz : w7.heap.size < wB.heap.size := Nat.lt_of_lt_of_le hz hz9B
            have hzn := HZN.out
            exact ⟨by omega, by omega⟩
      exact AllL.nil
     exact AllL.nil
    ·
     obtain rfl : nl = i := by omega
     have hilt : decide (nl < nl) = false := by simp
     go_wp2_with fail
     have hgl6 : GL RTri 92 w6 F (.slice A nl c) L := by rw [HNL.out]; exact HS6.out.out
     refine (sortTri w6 F (.slice A nl c) L hgl6 (by rw [← HNL.out]; omega)).mono ?_
     clear hgl6
     rintro e w7 ⟨rfl, ⟨L', hgl, hperm, hsrt⟩, hg⟩
     have hbo7 := (hg.block _ (heap_lt HS6.out.bo) (fun e => (HS6.out.off _ (HS6.out.out.row _ (by rw [← HNL.out]; exact e.symm))).2.2.2.2 rfl)).trans HS6.out.bo
     have ko7 : w7.cell? ⟨Bo, 0, none⟩ = some (.slice A nl c) := by simp only at hbo7; simp [World.cell?, hbo7, HNL.out]
     have HGL := Lib.hid hgl
     have HPM := Lib.hid hperm
     have HSR := Lib.hid hsrt
     have HG7 := Lib.hid hg
     clear hgl hperm hsrt hg hbo7 kx ko
     go_wp2_with fail
     go_ret
     have hll : nl = L'.length := by rw [HPM.out.length_eq]; exact HNL.out
     have hkk := HK.out
     subst hkk
     refine ⟨⟨A, c, L', by rw [← hll]; rfl, ?_, ?_, fun t => ?_, fun t ht => HS6.out.tri t (HPM.out.mem_iff.1 ht)⟩, HBW6.out.trans ((Only.of_grown HG7.out (X := F) fun b e => HS6.out.out.row b (by rw [← HNL.out]; exact e)).below (fun b hb => (HS6.out.off b hb).1) HBW6.out.size)⟩
     ·
      have h1 := HGL.out
      rw [hll] at h1
      exact h1.sl.more fun b hb => (HS6.out.off b hb).1
     ·
      have hnd : L'.Nodup := HPM.out.nodup_iff.2 HS6.out.sq.nodup
      rw [List.pairwise_iff_getElem]
      intro a b ha hb hab
      rcases TLt.total L'[a] L'[b] with h1 | h1 | h1
      ·
       exact h1
      ·
       exact absurd h1 (List.pairwise_iff_getElem.1 hnd a b ha hb hab)
      ·
       exact absurd h1 (HSR.out a b _ _ hab (List.getElem?_eq_getElem ha) (List.getElem?_eq_getElem hb))
     ·
      rw [HPM.out.mem_iff]
      have h1 := HNI6.out
      rw [HNL.out] at h1
      exact h1.all HM.out t
end Go.Proofs.Ytbmcoamdfpegnaa
