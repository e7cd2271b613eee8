/- IntoE -/
import Derived.Test.YtbmcoamdfpegnaaMt40
namespace Go.Proofs.Ytbmcoamdfpegnaa
open Go.RowKit Go.Maps
section
variable {M : Mkr} {W L : List TriD}
structure PrIn (M : Mkr) (W L : List TriD) : Prop where
 hM : M.Ok
 hw : ∀ t ∈ W, Wd M.d M.R t
 hc : ClosedT M.d M.R (inW W)
 hp : L.Pairwise TLt
 hL : ∀ t, t ∈ L ↔ NdP M.d M.R (inW W) M.st t
 hT : ∀ t ∈ L, M.Tri t
theorem PrIn.term (h : PrIn M W L) : ∀ r ∈ M.R, TermsL M.d r.2 := fun r hr s hs e => by
 obtain ⟨_, _, h3⟩ := h.hM.rule hr
 exact (h3 s hs).1 e
theorem PrIn.nd (h : PrIn M W L) : L.Nodup := h.hp.imp fun {a b} h e => by subst e; unfold TLt at h; omega
theorem img_ex (h : PrIn M W L) : ∀ (m : Nat) (t : TreeD) (a : Int) (q z : Nat), sizeT t ≤ m → TV M.R (false, a) t → (wordT t).foldl (dto M.d) (q : Int) = (z : Int) → (q, a.toNat, z) ∈ L → ∃ x, Img M W L q t x z
 | 0, t, a, q, z, hm, _, _, _ => by rw [sizeT_eq] at hm; omega
 | m + 1, t, a, q, z, hm, ht, hf, hin => by
  have hval := h.hM.val
  rcases ht.inv with ⟨c, e, _⟩ | ⟨k, r, ts, e, rfl, h1, h2⟩
  ·
   cases e
  ·
   injection e with _ e
   subst e
   have hr := List.mem_of_getElem? h1
   have hterm := h.term r hr
   have hk : ∀ x ∈ ts, sizeT x ≤ m := fun x hx => by have := sizeT_kid (t := .node (k : Int) 0 ts) (x := x) hx; omega
   have hr0 : r.1 = ((r.1.toNat : Nat) : Int) := by
    have h3 := (h.hM.g.rules r hr).1
    omega
   have htq := h.hT _ hin
   unfold Mkr.Tri at htq
   simp only at htq
   rw [wordT_node] at hf
   have key : ∀ (l : List SymD) (ts : List TreeD) (p : Nat) (pre : List SymD), r.2 = pre ++ l → RchW M.d (inW W) pre q p → p < M.d.2.2.length → TVL M.R l ts → (∀ x ∈ ts, sizeT x ≤ m) → (wordTs ts).foldl (dto M.d) (p : Int) = (z : Int) →
       ∃ xs qs, ImgL M W L p ts xs qs z ∧ p :: qs ∈ instL M.d (inW W) z l p := by
    intro l
    induction l with
    | nil =>
     intro ts p pre _ _ _ g _ hf
     have := g.inv_nil
     subst this
     rw [wordTs_nil] at hf
     have hf : (p : Int) = (z : Int) := hf
     obtain rfl : p = z := by omega
     exact ⟨[], [], .nil, by unfold instL; rw [if_pos rfl]; exact List.mem_singleton.2 rfl⟩
    | cons s l ih =>
     intro ts p pre e hpre hpn g hk hf
     obtain ⟨t, ts', rfl, g1, g2⟩ := g.inv
     rw [wordTs_cons, List.foldl_append] at hf
     have hv0 : 0 ≤ (wordT t).foldl (dto M.d) (p : Int) := by
      by_cases h0 : 0 ≤ (wordT t).foldl (dto M.d) (p : Int)
      ·
       exact h0
      ·
       have := dto_bad M.d (s := (wordT t).foldl (dto M.d) (p : Int)) (by omega) (wordTs ts')
       omega
     obtain ⟨v, hv⟩ : ∃ v : Nat, (wordT t).foldl (dto M.d) (p : Int) = (v : Int) := ⟨((wordT t).foldl (dto M.d) (p : Int)).toNat, by omega⟩
     rw [hv] at hf
     have hsm : s ∈ r.2 := by rw [e]; exact List.mem_append_right _ List.mem_cons_self
     have hst := TV.told hval h.hc h.term g1 (fun e => hterm s hsm e) p v hpn hv
     have hvn := stpL_lt hval hpn (fun e => hterm s hsm e) hst
     have hlt : TermsL M.d l := fun s' hs' => hterm s' (by rw [e]; exact List.mem_append_right _ (List.mem_cons_of_mem _ hs'))
     obtain ⟨xs, qs, k1, k2⟩ := ih ts' v (pre ++ [s]) (by rw [e]; simp) (hpre.snoc hst) hvn g2 (fun y hy => hk y (List.mem_cons_of_mem _ hy)) hf
     have hx : ∃ x, Img M W L p t x v := by
      obtain ⟨b, c⟩ := s
      cases b with
      | true =>
       rcases g1.inv with ⟨c', e1, rfl⟩ | ⟨_, _, _, e1, _⟩
       ·
        rw [wordT_leaf] at hv
        exact ⟨_, .leaf hv⟩
       ·
        cases e1
      | false =>
       refine img_ex h m t c p v (hk t List.mem_cons_self) g1 hv ((h.hL _).2 (.next ((h.hL _).1 hin) ⟨r, hr, hr0, pre, c, l, e, hpre, rfl, hst, ?_⟩))
       exact TVL.told hval h.hc h.term g2 hlt v z hvn hf
     obtain ⟨x, hx⟩ := hx
     refine ⟨x :: xs, v :: qs, .cons hx k1, ?_⟩
     unfold instL
     exact List.mem_flatMap.2 ⟨v, hst, List.mem_map.2 ⟨v :: qs, k2, rfl⟩⟩
   obtain ⟨xs, qs, k1, k2⟩ := key r.2 ts q [] rfl .nil (by rw [← h.hM.n]; exact htq.1) h2 hk hf
   obtain ⟨i, hi⟩ := List.getElem?_of_mem hin
   have hqs : ∀ x ∈ q :: qs, x < 256 := by
    have key2 : ∀ (l : List SymD) (p : Nat) (qs : List Nat), TermsL M.d l → p < M.d.2.2.length → qs ∈ instL M.d (inW W) z l p → ∀ x ∈ qs, x < M.d.2.2.length := by
     intro l
     induction l with
     | nil =>
      intro p qs _ hp h x hx
      unfold instL at h
      split at h
      ·
       rw [List.mem_singleton.1 h] at hx
       rw [List.mem_singleton.1 hx]
       exact hp
      ·
       cases h
     | cons s l ih =>
      intro p qs hl hp h x hx
      unfold instL at h
      obtain ⟨p', hp1, hp2⟩ := List.mem_flatMap.1 h
      obtain ⟨qs2, hp3, rfl⟩ := List.mem_map.1 hp2
      rcases List.mem_cons.1 hx with rfl | hx
      ·
       exact hp
      ·
       exact ih p' qs2 (fun s' hs' => hl s' (List.mem_cons_of_mem _ hs')) (stpL_lt hval hp (hl s List.mem_cons_self) hp1) hp3 x hx
    intro x hx
    have h3 := key2 r.2 q _ hterm (by rw [← h.hM.n]; exact htq.1) k2 x hx
    have := h.hM.n12
    have := h.hM.n
    omega
   obtain ⟨j, j1, j2⟩ := key_same h.hM h.hp h.hT hi h1 hr0 k2 hqs
   exact ⟨_, .node h1 hi j1 j2 k1⟩
theorem root_same (h : PrIn M W L) {z : Nat} (hz : z < M.n) (ha : 0 ≤ dat M.d (z : Int)) (hin : (M.d.1.toNat, M.st, z) ∈ L) :
    ∃ j : Nat, (allPR M W L)[j]? = some ((0, [(false, (numT L (M.d.1.toNat, M.st, z) : Int))]), -1, keyD (M.d.1.toNat, M.st, z) 255 []) ∧ lk (kmOf (allPR M W L)) (strOf (keyD (M.d.1.toNat, M.st, z) 255 [])) = some (.int .i64 (j : Int)) := by
 have hmem : ((0, [(false, (numT L (M.d.1.toNat, M.st, z) : Int))]), -1, keyD (M.d.1.toNat, M.st, z) 255 []) ∈ allPR M W L := allPR_mem.2 (.inl ⟨z, hz, ha, by rw [numT_in hin]; omega, rfl⟩)
 obtain ⟨j, y, g1, g2, g3⟩ := lk_km (allPR M W L) _ hmem
 refine ⟨j, ?_, g1⟩
 have hn12 := h.hM.n12
 have hN := h.hM.g.n2
 have hrl := h.hM.g.rl
 simp only at hN hrl
 have htt := h.hT _ hin
 unfold Mkr.Tri at htt
 simp only at htt
 have hok : BytesOk (keyD (M.d.1.toNat, M.st, z) 255 []) := keyD_ok (by simp only; omega) (by simp only; omega) (by simp only; omega) (by omega) (fun x hx => by cases hx)
 rcases allPR_mem.1 (List.mem_of_getElem? g2) with ⟨p, p1, p2, p3, rfl⟩ | ⟨i', t', k', r', qs', p1, p2, p3, p4, rfl⟩
 ·
  have e := strOf_inj (keyD_ok (t := (M.d.1.toNat, M.st, p)) (rule := 255) (st := []) (by simp only; omega) (by simp only; omega) (by simp only; omega) (by omega) (fun x hx => by cases hx)) hok g3
  unfold keyD at e
  simp only [List.cons_append, List.nil_append, List.cons.injEq] at e
  obtain rfl : p = z := by omega
  exact g2
 ·
  exfalso
  have e := congrArg (fun b : ByteArray => b.data.toList[3]?) g3
  have hk' : k' < 32 := by have := (List.getElem?_eq_some_iff.1 p2).1; omega
  simp only [strOf, keyD, mkPR, List.cons_append, List.nil_append, List.map_cons, List.getElem?_cons_succ, List.getElem?_cons_zero, Option.some.injEq] at e
  have := congrArg UInt8.toNat e
  simp at this
  omega
def IntoD (M : Mkr) (W L : List TriD) (t X : TreeD) : Prop := ∃ (x : TreeD) (j z : Nat), X = .node (j : Int) 0 [x] ∧ Img M W L M.d.1.toNat t x z ∧ (wordT t).foldl (dto M.d) M.d.1 = (z : Int) ∧
 (allPR M W L)[j]? = some ((0, [(false, (numT L (M.d.1.toNat, M.st, z) : Int))]), -1, keyD (M.d.1.toNat, M.st, z) 255 []) ∧ lk (kmOf (allPR M W L)) (strOf (keyD (M.d.1.toNat, M.st, z) 255 [])) = some (.int .i64 (j : Int)) ∧ (M.d.1.toNat, M.st, z) ∈ L
theorem into_ex (h : PrIn M W L) {t : TreeD} (ht : TV M.R (false, (M.st : Int)) t) {z : Nat} (hf : (wordT t).foldl (dto M.d) M.d.1 = (z : Int)) (ha : 0 ≤ dat M.d (z : Int)) : ∃ X, IntoD M W L t X := by
 have hst := h.hM.val.st
 have hq : M.d.1.toNat < M.d.2.2.length := by omega
 have hf' : (wordT t).foldl (dto M.d) ((M.d.1.toNat : Nat) : Int) = (z : Int) := by rw [Int.toNat_of_nonneg hst.1]; exact hf
 have hW : inW W (M.d.1.toNat, M.st, z) = true := closed_told h.hM.val h.hc h.term hq ⟨wordT t, ⟨t, ht, rfl⟩, hf'⟩
 have hzn : z < M.d.2.2.length := by
  have h1 : (M.d.1.toNat, M.st, z) ∈ W := of_decide_eq_true hW
  have h2 := TV.told h.hM.val h.hc h.term ht (fun e => by cases e) _ z hq hf'
  exact stpL_lt h.hM.val hq (fun e => by cases e) h2
 have hin : (M.d.1.toNat, M.st, z) ∈ L := (h.hL _).2 (.start hzn ha hW)
 obtain ⟨x, hx⟩ := img_ex h (sizeT t) t (M.st : Int) M.d.1.toNat z (Nat.le_refl _) ht hf' (by rw [Int.toNat_natCast]; exact hin)
 obtain ⟨j, h1, h2⟩ := root_same h (by rw [h.hM.n]; exact hzn) ha hin
 exact ⟨_, x, j, z, rfl, hx, hf, h1, h2, hin⟩
theorem into_tv (h : PrIn M W L) {t X : TreeD} (ht : TV M.R (false, (M.st : Int)) t) (hX : IntoD M W L t X) :
    TV ((allPR M W L).map fun x => x.1) (false, 0) X ∧ wordT X = wordT t ∧ sizeT X = 1 + sizeT t ∧ ∃ x, X.kids = [x] ∧ backT ((allPR M W L).map fun x => x.2.1) x = t := by
 obtain ⟨x, j, z, rfl, hx, hf, h1, h2, hin⟩ := hX
 have h3 := Img.tv h.nd (sizeT t) (Nat.le_refl _) ht hx
 obtain ⟨h4, h5⟩ := Img.word (sizeT t) (Nat.le_refl _) hx
 have hP : ((allPR M W L).map fun x => x.1)[j]? = some (0, [(false, (numT L (M.d.1.toNat, M.st, z) : Int))]) := by rw [List.getElem?_map, h1]; rfl
 refine ⟨?_, ?_, ?_, x, rfl, Img.back (sizeT t) (Nat.le_refl _) hx⟩
 ·
  have h6 : imgS L (false, (M.st : Int)) M.d.1.toNat z = (false, (numT L (M.d.1.toNat, M.st, z) : Int)) := by unfold imgS; rw [if_neg (by simp), Int.toNat_natCast]
  rw [h6] at h3
  exact .node hP (.cons h3 .nil)
 ·
  rw [wordT_node, wordTs_cons, wordTs_nil, List.append_nil, h4]
 ·
  rw [sizeT_eq, show (TreeD.node (j : Int) 0 [x]).kids = [x] from rfl, sizeTs_cons, sizeTs_nil, h5, Nat.add_zero]
end
end Go.Proofs.Ytbmcoamdfpegnaa
