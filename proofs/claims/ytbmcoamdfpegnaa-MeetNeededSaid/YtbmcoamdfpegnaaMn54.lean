/- MeetNeeded -/
import Derived.Test.YtbmcoamdfpegnaaMn53
namespace Go.Proofs.Ytbmcoamdfpegnaa
open Go.RowKit Go.Maps
structure PFacts (g : GramD) (P : List RuleD) (L : List TriD) (F : List Int) : Prop where
 few : L.length ≤ 1440
 fit : Fit (L.length + 1) P
 r4 : ∀ r ∈ P, r.2.length ≤ 4
 len : F.length = P.length
 p4 : P.length ≤ 4000
 ends : ∀ i : Nat, 1 ≤ i → i < L.length + 1 → atB (rounds (endRound P) (L.length + 1 + 1) (List.replicate (L.length + 1) false)) (i : Int) = true
 rch : ∀ i : Nat, 1 ≤ i → i < L.length + 1 → atB (rounds (rchRound P) (L.length + 1 + 1) ((List.replicate (L.length + 1) false).set 0 true)) (i : Int) = true
 from_ : ∀ (i : Nat) (r : RuleD) (f : Int), P[i]? = some r → F[i]? = some f → (f = -1 ∧ r.1 = 0) ∨ ∃ (k j : Nat) (t : TriD) (s : RuleD), f = (k : Int) ∧ g.2.2.2[k]? = some s ∧ r.1 = ((j + 1 : Nat) : Int) ∧ L[j]? = some t ∧ s.1 = (t.2.1 : Int) ∧ r.2.length = s.2.length
theorem pfacts {g : GramD} {M : Mkr} {W L : List TriD} (hM : M.Ok) (e2 : M.R = g.2.2.2) (hw : ∀ t ∈ W, Wd M.d M.R t) (hc : ClosedT M.d M.R (inW W)) (hp : L.Pairwise TLt) (hL : ∀ t, t ∈ L ↔ NdP M.d M.R (inW W) M.st t) (hT : ∀ t ∈ L, M.Tri t) (h4 : (allPR M W L).length ≤ 4000) :
    PFacts g ((allPR M W L).map fun x => x.1) L ((allPR M W L).map fun x => x.2.1) := by
 have hd : L.Nodup := hp.imp fun {a b} h e => by subst e; unfold TLt at h; omega
 have hg := hM.g
 refine ⟨tri_few (n := M.n) (N := M.N) hM.n12 (by have := hg.n2; simp only at this; omega) hd hT, allPR_fit, fun r' hr => ?_, by simp, by simpa using h4, fun i h1 h2 => (prod_all hM hw hc hp hL hT h1 h2).1, fun i h1 h2 => (prod_all hM hw hc hp hL hT h1 h2).2, fun i r' f hr hf => ?_⟩
 ·
  obtain ⟨x, hx, rfl⟩ := List.mem_map.1 hr
  rcases allPR_mem.1 hx with ⟨p, h1, h2, h3, rfl⟩ | ⟨i, t, k, r, qs, h1, h2, h3, h4, rfl⟩
  ·
   exact (by decide : 1 ≤ 4)
  ·
   obtain ⟨qs', rfl, hq⟩ := instL_mem h4
   show (instS L r.2 (t.1 :: qs')).length ≤ 4
   rw [instS_len (by simp [hq])]
   exact (hM.rule (List.mem_of_getElem? h2)).2.1
 ·
  rw [List.getElem?_map] at hr hf
  obtain ⟨x, hx, rfl⟩ := Option.map_eq_some_iff.1 hr
  rw [hx] at hf
  have hf : x.2.1 = f := by simpa using hf
  subst hf
  rcases allPR_mem.1 (List.mem_of_getElem? hx) with ⟨p, h1, h2, h3, rfl⟩ | ⟨j, t, k, r, qs, h1, h2, h3, h4, rfl⟩
  ·
   exact .inl ⟨rfl, rfl⟩
  ·
   obtain ⟨qs', rfl, hq⟩ := instL_mem h4
   refine .inr ⟨k, j, t, r, rfl, by rw [← e2]; exact h2, rfl, h1, h3, ?_⟩
   show (instS L r.2 (t.1 :: qs')).length = _
   exact instS_len (by simp [hq])
theorem Sl.non {w : World} {S : Nat → Prop} {A : Option Addr} {n c : Nat} {l : List (Int × Int × Int)} (h : Sl RNon w S A n c l) {k : Nat} (hk : k < n) :
    ∃ (b off : Nat) (t : Int × Int × Int), A = some ⟨b, off, none⟩ ∧ S b ∧ l[k]? = some t ∧ w.cell? ⟨b, off + k * 3, none⟩ = some (.int .i64 t.1) ∧ w.cell? ⟨b, off + k * 3 + 1, none⟩ = some (.int .i64 t.2.1) ∧ w.cell? ⟨b, off + k * 3 + 2, none⟩ = some (.int .i64 t.2.2) := by
 obtain ⟨xs, e1, e2, h3, h4⟩ := h
 subst e1
 have hg := h4.get hk
 have hl := h4.len
 simp only at hg hl h3
 obtain ⟨b, off, e, hS, hc⟩ := h3.2 (by omega)
 have i1 : k * 3 < xs.length := by omega
 have i2 : k * 3 + 1 < xs.length := by omega
 have i3 : k * 3 + 2 < xs.length := by omega
 rw [List.drop_eq_getElem_cons i1, List.drop_eq_getElem_cons i2, List.drop_eq_getElem_cons i3] at hg
 have hg : [xs[k * 3], xs[k * 3 + 1], xs[k * 3 + 2]] = _ := hg
 injection hg with g1 hg
 injection hg with g2 hg
 injection hg with g3 _
 refine ⟨b, off, l[k], e, hS, List.getElem?_eq_getElem hk, ?_, ?_, ?_⟩
 ·
  rw [← g1]; exact hc _ _ (List.getElem?_eq_getElem i1)
 ·
  rw [← g2]; exact hc _ _ (List.getElem?_eq_getElem i2)
 ·
  rw [← g3]; exact hc _ _ (List.getElem?_eq_getElem i3)
theorem BlB.other {w : World} {B B2 : Nat} {L : List Bool} (h : BlB w B L) (hne : B ≠ B2) (i : Nat) (v : Value) : BlB (w.setCell ⟨B2, i, none⟩ v) B L := (Below.heap_setCell _ _ _ _ hne).trans h
def okS (E : List Bool) (s : SymD) : Bool := s.1 || atB E s.2
theorem okS_succ {E : List Bool} {l : List SymD} {j : Nat} {s : SymD} (h : l[j]? = some s) : (l.take (j + 1)).all (okS E) = ((l.take j).all (okS E) && okS E s) := by
 rw [List.take_add_one, h, List.all_append]
 simp
theorem rchS_succ {lf : Int} {R : List Bool} {l : List SymD} {j : Nat} {s : SymD} (h : l[j]? = some s) : (l.take (j + 1)).foldl (rchS lf) R = rchS lf ((l.take j).foldl (rchS lf) R) s := by
 rw [List.take_add_one, h, List.foldl_append]
 rfl
theorem foldl_succ {α β : Type} {f : β → α → β} {b : β} {l : List α} {k : Nat} {x : α} (h : l[k]? = some x) : (l.take (k + 1)).foldl f b = f ((l.take k).foldl f b) x := by
 rw [List.take_add_one, h, List.foldl_append]
 rfl
theorem atB_nat {E : List Bool} {x : Nat} {b : Bool} (h : E[x]? = some b) : atB E (x : Int) = b := by
 unfold atB
 rw [Int.toNat_natCast, h]
 rfl
set_option linter.unusedSimpArgs false in
set_option maxRecDepth 100000 in
set_option maxHeartbeats 8000000 in
theorem meetNeeded_walk (W : World) (A0 : Option Addr) (n0 c0 : Nat) (z0 : List Int) (le0 : n0 ≤ c0) (cap0 : c0 ≤ 17592186043904) (rd0 : Rd W (fun _ => True) 1 A0 n0 (z0.map (Value.int .i64))) (_rg0 : ∀ z ∈ z0, -9223372036854775808 ≤ z ∧ z ≤ 9223372036854775807)
    (A1 : Option Addr) (n1 c1 : Nat) (z1 : List Int) (le1 : n1 ≤ c1) (cap1 : c1 ≤ 17592186043904) (rd1 : Rd W (fun _ => True) 1 A1 n1 (z1.map (Value.int .i64))) (_rg1 : ∀ z ∈ z1, -9223372036854775808 ≤ z ∧ z ≤ 9223372036854775807) :
    Calls Try.prog 3 #[.slice A0 n0 c0, .slice A1 n1 c1] W fun e W' => e = .returned (.bool true) ∧ Below W.heap.size W W' := by
 have HR0 := Lib.hid (rd0.slInts le0)
 have HR1 := Lib.hid (rd1.slInts le1)
 clear rd0 rd1 _rg0 _rg1
 go_enter Try.func3, Try.ntmps3
 go_wp2_with fail
 refine (mkPair W A0 n0 c0 _ z0 HR0.out (by omega) A1 n1 c1 _ z1 HR1.out (by omega)).mono ?_
 rintro e w1 ⟨⟨g, d, AR, cR, A, nA, cA, NN, n, cN, hgs, hmi, rfl, hsr, hsa, hsn⟩, hb1⟩
 have HMI := Lib.hid hmi
 have HSR := Lib.hid hsr.fit
 have HSA := Lib.hid hsa.fit
 have HSN := Lib.hid hsn.fit
 have HB1 := Lib.hid hb1
 obtain ⟨nR, hnR⟩ : ∃ nR, nR = g.2.2.2.length := ⟨_, rfl⟩
 rw [← hnR] at HSR ⊢
 have HNR := Lib.hid hnR
 have hnR8 : nR ≤ 32 := by rw [hnR]; exact hmi.gv.rl
 clear hgs hmi hsr hsa hsn hb1 hnR
 obtain ⟨w2, hw2⟩ : ∃ w2 : World, w2 = (w1.alloc (.cells #[.int .i64 g.1, .int .i64 g.2.1, .int .i64 g.2.2.1, .slice AR nR cR] 25)).alloc (.cells #[.int .i64 d.1, .slice A nA cA, .slice NN n cN] 28) := ⟨_, rfl⟩
 have HB12 := Lib.hid (show Below w1.heap.size w1 w2 by rw [hw2]; exact ((Below.refl _ _).alloc (Nat.le_refl _) _).alloc (by simp) _)
 have HBX5 := Lib.hid (show w2.heap[w1.heap.size]? = some (.cells #[.int .i64 g.1, .int .i64 g.2.1, .int .i64 g.2.2.1, .slice AR nR cR] 25 (0, 0)) by rw [hw2, Below.heap_alloc _ _ _ (by simp)]; exact heap_alloc_new _ _)
 have HBX6 := Lib.hid (show w2.heap[w1.heap.size + 1]? = some (.cells #[.int .i64 d.1, .slice A nA cA, .slice NN n cN] 28 (0, 0)) by
  rw [hw2, show w1.heap.size + 1 = (w1.alloc (.cells #[.int .i64 g.1, .int .i64 g.2.1, .int .i64 g.2.2.1, .slice AR nR cR] 25)).heap.size by simp]
  exact heap_alloc_new _ _)
 have HW2 := Lib.hid hw2
 clear hw2
 go_wp2_with (first
  | (go_at_call 7; rw [← HW2.out]; refine (keepMeets w2).mono ?_; rintro e w3 ⟨rfl, hb3⟩; have HB3 := Lib.hid hb3; have hx5 := (hb3.block _ (heap_lt HBX5.out)).trans HBX5.out; have hx6 := (hb3.block _ (heap_lt HBX6.out)).trans HBX6.out; obtain ⟨y0, y1, y2, y3⟩ : w3.cell? ⟨w1.heap.size, 0, none⟩ = some (.int .i64 g.1) ∧ w3.cell? ⟨w1.heap.size, 1, none⟩ = some (.int .i64 g.2.1) ∧ w3.cell? ⟨w1.heap.size, 2, none⟩ = some (.int .i64 g.2.2.1) ∧ w3.cell? ⟨w1.heap.size, 3, none⟩ = some (.slice AR nR cR) := ⟨by simp [World.cell?, hx5], by simp [World.cell?, hx5], by simp [World.cell?, hx5], by simp [World.cell?, hx5]⟩; obtain ⟨v0, v1, v2⟩ : w3.cell? ⟨w1.heap.size + 1, 0, none⟩ = some (.int .i64 d.1) ∧ w3.cell? ⟨w1.heap.size + 1, 1, none⟩ = some (.slice A nA cA) ∧ w3.cell? ⟨w1.heap.size + 1, 2, none⟩ = some (.slice NN n cN) := ⟨by simp [World.cell?, hx6], by simp [World.cell?, hx6], by simp [World.cell?, hx6]⟩; clear hb3 hx5 hx6))
 go_at_call 8
 have hb13 := HB12.out.trans (HB3.out.mono HB12.out.size)
 refine (mkOf w3 _ g d HMI.out AR nR cR (HSR.out.below hb13) A nA cA (HSA.out.below hb13) NN n cN (HSN.out.below hb13)).mono ?_
 rintro e w4 ⟨⟨M, V, hM, e1, e2, e3, e4, e5, hw, hc, hVt, L, hp, hL, hT, hof⟩, hb4⟩
 have HB14 := Lib.hid (hb13.trans (hb4.mono hb13.size))
 have HB24 := Lib.hid (HB3.out.trans (hb4.mono HB3.out.size))
 clear hb13 hb4 y0 y1 y2 y3 v0 v1 v2
 rcases hof with ⟨h4, FR, FF, FN, vR, vN, vF, rfl, hgr, hgn, hgf, hfb⟩ | ⟨hlong, rfl⟩
 ·
  have HPF := Lib.hid (pfacts hM e2 hw hc hp hL hT h4)
  obtain ⟨P, hP⟩ : ∃ P, P = (allPR M V L).map fun x => x.1 := ⟨_, rfl⟩
  obtain ⟨F, hF⟩ : ∃ F, F = (allPR M V L).map fun x => x.2.1 := ⟨_, rfl⟩
  rw [← hP] at hgr
  rw [← hF] at hgf
  rw [← hP, ← hF] at HPF
  obtain ⟨AP, cP, rfl, _⟩ := hgr.form
  obtain ⟨AN, cNn, rfl, _⟩ := hgn.form
  obtain ⟨AF, cF, rfl, _⟩ := hgf.form
  have hlF : F.length = P.length := HPF.out.len
  have hlN : (((-1, -1, -1) : Int × Int × Int) :: L.map triZ).length = L.length + 1 := by simp
  rw [hlN] at hgn ⊢
  rw [hlF] at hgf ⊢
  obtain ⟨nP, hnP⟩ : ∃ nP, nP = P.length := ⟨_, rfl⟩
  obtain ⟨nn, hnn⟩ : ∃ nn, nn = L.length + 1 := ⟨_, rfl⟩
  have hnP4 : nP ≤ 4000 := by rw [hnP]; exact HPF.out.p4
  have hnn2 : nn ≤ 1441 := by have := HPF.out.few; omega
  have hnn1 : 1 ≤ nn := by omega
  rw [← hnn] at hgn ⊢
  rw [← hnP] at hgf hgr ⊢
  have HNP := Lib.hid hnP
  have HNN := Lib.hid hnn
  have HGR := Lib.hid hgr
  have HGN := Lib.hid hgn
  have HGF := Lib.hid hgf
  obtain ⟨Tm, hTm⟩ : ∃ Tm, Tm = M.T := ⟨_, rfl⟩
  rw [← hTm]
  clear hM e1 e2 e3 e4 e5 hw hc hVt hp hL hT h4 hgr hgn hgf hfb hP hF hlF hlN hnP hnn hTm
  obtain ⟨w5, hw5⟩ : ∃ w5 : World, w5 = w4.alloc (.cells #[.int .i64 (Tm : Int), .int .i64 (nn : Int), .int .i64 0, .slice AP nP cP, .slice AN nn cNn, .slice AF nP cF] 34) := ⟨_, rfl⟩
  obtain ⟨B7, hB7⟩ : ∃ B7, B7 = w4.heap.size := ⟨_, rfl⟩
  have HW5 := Lib.hid hw5
  have HB45 := Lib.hid (show Below w4.heap.size w4 w5 by rw [hw5]; exact (Below.refl _ _).alloc (Nat.le_refl _) _)
  have HBX7 := Lib.hid (show w5.heap[B7]? = some (.cells #[.int .i64 (Tm : Int), .int .i64 (nn : Int), .int .i64 0, .slice AP nP cP, .slice AN nn cNn, .slice AF nP cF] 34 (0, 0)) by rw [hw5, hB7]; exact heap_alloc_new _ _)
  have HBX5' := Lib.hid ((HB45.out.block _ (by have := heap_lt HBX5.out; have := HB24.out.size; omega)).trans ((HB24.out.block _ (heap_lt HBX5.out)).trans HBX5.out))
  have HSP := Lib.hid (HGR.out.sl.fit.below HB45.out)
  have HSNn := Lib.hid (HGN.out.sl.fit.below HB45.out)
  have HSF := Lib.hid (HGF.out.sl.fit.below HB45.out)
  have HSG := Lib.hid ((HSR.out.below HB14.out).below HB45.out)
  obtain ⟨x0, x1, x2, x3, x4, x5⟩ : w5.cell? ⟨B7, 0, none⟩ = some (.int .i64 (Tm : Int)) ∧ w5.cell? ⟨B7, 1, none⟩ = some (.int .i64 (nn : Int)) ∧ w5.cell? ⟨B7, 2, none⟩ = some (.int .i64 0) ∧ w5.cell? ⟨B7, 3, none⟩ = some (.slice AP nP cP) ∧ w5.cell? ⟨B7, 4, none⟩ = some (.slice AN nn cNn) ∧ w5.cell? ⟨B7, 5, none⟩ = some (.slice AF nP cF) := ⟨by simp [World.cell?, HBX7.out], by simp [World.cell?, HBX7.out], by simp [World.cell?, HBX7.out], by simp [World.cell?, HBX7.out], by simp [World.cell?, HBX7.out], by simp [World.cell?, HBX7.out]⟩
  have HCX := Lib.hid (And.intro x1 (And.intro x3 (And.intro x4 x5)))
  rw [hw5, hB7] at x0 x1 x2 x3 x4 x5
  have HB7 := Lib.hid hB7
  have hnni : ¬ ((nn : Int) < 1) := by omega
  have hnnj : ¬ ((10000 : Int) < (nn : Int)) := by omega
  clear hw5 hB7
  go_wp2_with fail
  rw [← HW5.out, ← HB7.out]
  clear x0 x1 x2 x3 x4 x5 hnni hnnj
  have HKB := Lib.hid (show W.heap.size ≤ w5.heap.size ∧ B7 < w5.heap.size ∧ w1.heap.size < w5.heap.size from ⟨by have h1 := HB1.out.size; have h2 := HB14.out.size; have h3 := HB45.out.size; omega, heap_lt HBX7.out, heap_lt HBX5'.out⟩)
  have HFIN := Lib.hid (show ∀ u : World, Below w5.heap.size w5 u → Below W.heap.size W u from fun u hu => HB1.out.trans ((HB14.out.trans (HB45.out.mono HB14.out.size)).mono HB1.out.size |>.trans (hu.mono HKB.out.1)))
  have HC7 := Lib.hid (show ∀ u : World, Below w5.heap.size w5 u → u.cell? ⟨B7, 1, none⟩ = some (.int .i64 (nn : Int)) ∧ u.cell? ⟨B7, 3, none⟩ = some (.slice AP nP cP) ∧ u.cell? ⟨B7, 4, none⟩ = some (.slice AN nn cNn) ∧ u.cell? ⟨B7, 5, none⟩ = some (.slice AF nP cF) from fun u hu => by
   obtain ⟨h1, h2, h3, h4⟩ := HCX.out
   exact ⟨(hu.cell HKB.out.2.1).trans h1, (hu.cell HKB.out.2.1).trans h2, (hu.cell HKB.out.2.1).trans h3, (hu.cell HKB.out.2.1).trans h4⟩)
  obtain ⟨K5, hK5⟩ : ∃ K5, K5 = w5.heap.size := ⟨_, rfl⟩
  rw [← hK5] at HKB HFIN HC7
  have HK5 := Lib.hid hK5
  clear hK5
  have HFT := Lib.hid HPF.out.fit
  have he := enters_bad
  go_loopg [55] nP (fun gk v55 wr => ∃ k : Nat, k ≤ nP ∧ gk = nP - k ∧ v55 = .int .i64 k ∧ Below K5 w5 wr)
  case atStart => exact ⟨0, Nat.zero_le _, rfl, rfl, .refl _ _⟩
  case round =>
   obtain ⟨k, hk, hgk, rfl, hbw⟩ := hrel
   obtain ⟨w6, rfl⟩ : ∃ w6 : World, w6 = wr := ⟨_, rfl⟩
   have HGK := Lib.hid hgk
   have HB := Lib.hid hbw
   clear hgk hbw
   by_cases hkl : k < nP
   ·
    have hkI : (k : Int) < (nP : Int) := by omega
    have hk0 : (0 : Int) ≤ (k : Int) := by omega
    have hsp := HSP.out.below (show Below w5.heap.size w5 w6 by rw [← HK5.out]; exact HB.out)
    obtain ⟨bl, ol, u1, u2, r, rfl, _, hrs, hok, hc1, hc2⟩ := hsp.at2 (k := k) rfl hkl
    obtain ⟨A2, m, c2, h2, hsl⟩ := RRule.cells.1 hok
    injection h2 with e1 h2
    injection h2 with e2 _
    subst e1
    subst e2
    have hc2 : w6.cell? ⟨bl, ol + k * 2 + 1, none⟩ = some (.slice A2 m c2) := hc2
    have hmem := List.mem_of_getElem? hrs
    have hr4 := HPF.out.r4 r hmem
    obtain ⟨⟨hr1, hr2⟩, hr3⟩ := HFT.out r hmem
    rw [← HNN.out] at hr2 hr3
    have hm4 : m ≤ 4 := by rw [hsl.len]; exact hr4
    have HR3 := Lib.hid hr3
    have HLF := Lib.hid (And.intro hr1 hr2)
    have HSL := Lib.hid hsl
    obtain ⟨lf, hlf⟩ : ∃ lf, lf = r.1 := ⟨_, rfl⟩
    rw [← hlf] at hc1 HLF
    clear hsp hok hsl hrs hmem hr4 hr1 hr2 hr3 hlf
    obtain ⟨w7, hw7⟩ : ∃ w7 : World, w7 = w6.alloc (.cells #[.int .i64 lf, .slice A2 m c2] 40) := ⟨_, rfl⟩
    have hb67 : Below w6.heap.size w6 w7 := by rw [hw7]; exact (Below.refl _ _).alloc (Nat.le_refl _) _
    have HB7w := Lib.hid (show Below K5 w5 w7 from HB.out.trans (hb67.mono (by rw [HK5.out]; exact HB.out.size)))
    have HBXr := Lib.hid (show w7.heap[w6.heap.size]? = some (.cells #[.int .i64 lf, .slice A2 m c2] 40 (0, 0)) by rw [hw7]; exact heap_alloc_new _ _)
    have HSL7 := Lib.hid (HSL.out.below hb67)
    have HW7 := Lib.hid hw7
    clear hw7 hb67
    go_wp2_with fail
    rw [← HW7.out]
    refine (badSym w7 B7 nn (by omega) (HC7.out _ HB7w.out).1 (false, lf) (fun _ => HLF.out)).mono ?_
    rintro e w8 ⟨rfl, hb8⟩
    have HB8 := Lib.hid (HB7w.out.trans (hb8.mono (by rw [HK5.out]; exact HB7w.out.size)))
    have HSL8 := Lib.hid (HSL7.out.below hb8)
    have hx8 := (hb8.block _ (heap_lt HBXr.out)).trans HBXr.out
    have y1 : w8.cell? ⟨w6.heap.size, 1, none⟩ = some (.slice A2 m c2) := by simp [World.cell?, hx8]
    clear hb8 hx8 hc1 hc2
    go_wp2_with (go_at_call 10; refine (containsBad w8 B7 nn (by omega) (HC7.out _ HB8.out).1 A2 m c2 _ r.2 HSL8.out (by omega) HR3.out).mono ?_; rintro e w9 ⟨rfl, hb9⟩; have HB9 := Lib.hid (HB8.out.trans (hb9.mono (by rw [HK5.out]; exact HB8.out.size))); clear hb9)
    go_roundg (nP - (k + 1))
    case measure => rw [HGK.out]; omega
    case rel => exact ⟨k + 1, by omega, rfl, by go_num, HB9.out⟩
   ·
    obtain rfl : nP = k := by omega
    have hz6 : K5 ≤ w6.heap.size := by rw [HK5.out]; exact HB.out.size
    have x1 := (HC7.out _ HB.out).1
    have x1' := (HC7.out _ (HB.out.alloc hz6 (.cells (Array.replicate nn (Value.bool false)) 4))).1
    have hbt : ∀ u : World, (Instr.makeSlice 45 (.int .i64 (nn : Int)) (.int .i64 (nn : Int))).run Try.prog u = .ok (.slice (some ⟨u.heap.size, 0, none⟩) nn nn) (u.alloc (.cells (Array.replicate nn (Value.bool false)) 4)) := fun u => by
     have hmk := tBools.make rfl nn (by omega) (by omega) u
     simp only [made_boolsA] at hmk
     exact hmk
    have hnn0 : (0 : Int) ≤ (nn : Int) := by omega
    obtain ⟨wq, hwq⟩ : ∃ wq : World, wq = (w6.alloc (.cells (Array.replicate nn (Value.bool false)) 4)).alloc (.cells (Array.replicate nn (Value.bool false)) 4) := ⟨_, rfl⟩
    have HQA := Lib.hid (show BlB wq w6.heap.size (List.replicate nn false) by rw [hwq]; exact (BlB.made w6 nn).below ((Below.refl _ _).alloc (Nat.le_refl _) _))
    have HQB := Lib.hid (show BlB wq (w6.heap.size + 1) (List.replicate nn false) by
     have h1 := BlB.made (w6.alloc (.cells (Array.replicate nn (Value.bool false)) 4)) nn
     rw [show (w6.alloc (.cells (Array.replicate nn (Value.bool false)) 4)).heap.size = w6.heap.size + 1 by simp] at h1
     rw [hwq]; exact h1)
    have HQW := Lib.hid (show Below K5 w5 wq by rw [hwq]; exact (HB.out.alloc hz6 _).alloc (by simp; omega) _)
    have HWQ := Lib.hid hwq
    clear he hwq
    go_upto_region 16 with fail
    go_cut [12, 13] from 72 to 79 (fun v12 v13 wx => ∃ BE BR : Nat, v12 = .slice (some ⟨BE, 0, none⟩) nn nn ∧ v13 = .slice (some ⟨BR, 0, none⟩) nn nn ∧ BE ≠ BR ∧ K5 ≤ BE ∧ K5 ≤ BR ∧ BlB wx BE (List.replicate nn false) ∧ BlB wx BR (List.replicate nn false) ∧ Below K5 w5 wx)
    case first =>
     go_region_law (fail)
     all_goals (go_wp2_with fail; go_meet; rw [← HWQ.out]; first | exact ⟨w6.heap.size, w6.heap.size + 1, rfl, rfl, by omega, by omega, by omega, HQA.out, HQB.out, HQW.out.drew⟩ | exact ⟨w6.heap.size + 1, w6.heap.size, rfl, rfl, by omega, by omega, by omega, HQB.out, HQA.out, HQW.out.drew⟩)
    case rest =>
     obtain ⟨BE, BR, rfl, rfl, hne, hBE, hBR, hE, hR, hbw⟩ := hcut
     clear x1 x1' hbt HQA HQB HQW HWQ wq HB
     obtain ⟨b0, _, hc0, hf0⟩ := hR.at_ (i := 0) (by simp; omega)
     have hlE := heap_lt hE
     have hlR := heap_lt hR
     have HE := Lib.hid (hE.other (B2 := BR) hne 0 (.bool true))
     have HR := Lib.hid (hR.set 0 true)
     have HBW := Lib.hid (show Below K5 w5 (wc.setCell ⟨BR, 0, none⟩ (.bool true)) from hbw.setCell hBR _)
     have x1 := (HC7.out _ HBW.out).1
     have HNE := Lib.hid hne
     have hnn1i : (0 : Int) < (nn : Int) := by omega
     clear hE hR hbw hne hlE hlR
     go_wp2_with fail
     clear hc0 hf0 x1
     obtain ⟨E0, hE0⟩ : ∃ E0, E0 = List.replicate nn false := ⟨_, rfl⟩
     obtain ⟨R0, hR0⟩ : ∃ R0, R0 = (List.replicate nn false).set 0 true := ⟨_, rfl⟩
     rw [← hE0] at HE
     rw [← hR0] at HR
     have HE0 := Lib.hid hE0
     have HR0' := Lib.hid hR0
     have hlE0 : E0.length = nn := by rw [hE0]; simp
     have hlR0 : R0.length = nn := by rw [hR0]; simp
     have HL0 := Lib.hid (And.intro hlE0 hlR0)
     clear hE0 hR0 hlE0 hlR0
     go_loopg [86] (nn + 1) (fun gi v86 wr => ∃ (i : Nat) (E R : List Bool), i ≤ nn + 1 ∧ gi = nn + 1 - i ∧ v86 = .int .i64 i ∧ E = rounds (endRound P) i E0 ∧ R = rounds (rchRound P) i R0 ∧ BlB wr BE E ∧ BlB wr BR R ∧ Below K5 w5 wr)
     case atStart => exact ⟨0, E0, R0, Nat.zero_le _, rfl, rfl, rfl, rfl, HE.out, HR.out, HBW.out⟩
     case round =>
      clear HE HR HBW
      obtain ⟨i, Ei, Ri, hi, hgi, rfl, hEi, hRi, hE, hR, hbw⟩ := hrel
      obtain ⟨w6, rfl⟩ : ∃ w6 : World, w6 = wr := ⟨_, rfl⟩
      have HGI := Lib.hid hgi
      have hlE : Ei.length = nn := by rw [hEi, ← (rounds_le (endRound_le P) E0 i).1]; exact HL0.out.1
      have hlR : Ri.length = nn := by rw [hRi, ← (rounds_le (rchRound_le P) R0 i).1]; exact HL0.out.2
      have HEI := Lib.hid hEi
      have HRI := Lib.hid hRi
      have HLI := Lib.hid (And.intro hlE hlR)
      have HE := Lib.hid hE
      have HR := Lib.hid hR
      have HB := Lib.hid hbw
      clear hgi hEi hRi hlE hlR hE hR hbw
      by_cases hil : i < nn + 1
      ·
       have hiI : (i : Int) < (nn : Int) + 1 := by omega
       have x3 := (HC7.out _ HB.out).2.1
       go_wp2_with fail
       clear x3
       go_loopg [92] nP (fun gk v92 wr => ∃ (k : Nat) (E R : List Bool), k ≤ nP ∧ gk = nP - k ∧ v92 = .int .i64 k ∧ E = (P.take k).foldl endR Ei ∧ R = (P.take k).foldl rchR Ri ∧ BlB wr BE E ∧ BlB wr BR R ∧ Below K5 w5 wr)
       case atStart => exact ⟨0, Ei, Ri, Nat.zero_le _, rfl, rfl, rfl, rfl, HE.out, HR.out, HB.out⟩
       case round =>
        clear HE HR HB
        obtain ⟨k, E, R, hk, hgk, rfl, hEk, hRk, hE, hR, hbw⟩ := hrel
        obtain ⟨w7, rfl⟩ : ∃ w7 : World, w7 = wr := ⟨_, rfl⟩
        have HGK := Lib.hid hgk
        have hlE : E.length = nn := by rw [hEk, ← (foldl_le endR_le (P.take k) Ei).1]; exact HLI.out.1
        have hlR : R.length = nn := by rw [hRk, ← (foldl_le rchR_le (P.take k) Ri).1]; exact HLI.out.2
        have HEK := Lib.hid hEk
        have HRK := Lib.hid hRk
        have HLK := Lib.hid (And.intro hlE hlR)
        have HE := Lib.hid hE
        have HR := Lib.hid hR
        have HB := Lib.hid hbw
        clear hgk hEk hRk hlE hlR hE hR hbw
        by_cases hkl : k < nP
        ·
         have hkI : (k : Int) < (nP : Int) := by omega
         have hk0 : (0 : Int) ≤ (k : Int) := by omega
         have hz7 : K5 ≤ w7.heap.size := by rw [HK5.out]; exact HB.out.size
         have hsp := HSP.out.below (show Below w5.heap.size w5 w7 by rw [← HK5.out]; exact HB.out)
         obtain ⟨bl, ol, u1, u2, r, rfl, _, hrs, hok, hc1, hc2⟩ := hsp.at2 (k := k) rfl hkl
         obtain ⟨A2, m, c2, h2, hsl⟩ := RRule.cells.1 hok
         injection h2 with e1 h2
         injection h2 with e2 _
         subst e1
         subst e2
         have hc2 : w7.cell? ⟨bl, ol + k * 2 + 1, none⟩ = some (.slice A2 m c2) := hc2
         have hmem := List.mem_of_getElem? hrs
         have hr4 := HPF.out.r4 r hmem
         obtain ⟨⟨hr1, hr2⟩, hr3⟩ := HFT.out r hmem
         rw [← HNN.out] at hr2 hr3
         have hm4 : m ≤ 4 := by rw [hsl.len]; exact hr4
         have HR3 := Lib.hid hr3
         have HRS := Lib.hid hrs
         have HML := Lib.hid hsl.len
         obtain ⟨ln, hln⟩ : ∃ ln : Nat, r.1 = (ln : Int) := ⟨r.1.toNat, by omega⟩
         have hlnn : ln < nn := by omega
         have HLN := Lib.hid hln
         rw [hln] at hc1
         obtain ⟨Bx, hBx⟩ : ∃ Bx, Bx = w7.heap.size := ⟨_, rfl⟩
         obtain ⟨w8, hw8⟩ : ∃ w8 : World, w8 = w7.alloc (.cells #[.int .i64 (ln : Int), .slice A2 m c2] 40) := ⟨_, rfl⟩
         have hb78 : Below w7.heap.size w7 w8 := by rw [hw8]; exact (Below.refl _ _).alloc (Nat.le_refl _) _
         have HB8 := Lib.hid (show Below K5 w5 w8 by rw [hw8]; exact HB.out.alloc hz7 _)
         have HX8 := Lib.hid (show w8.heap[Bx]? = some (.cells #[.int .i64 (ln : Int), .slice A2 m c2] 40 (0, 0)) by rw [hw8, hBx]; exact heap_alloc_new _ _)
         have HE8 := Lib.hid (HE.out.below hb78)
         have HR8 := Lib.hid (HR.out.below hb78)
         have HXE := Lib.hid (show BE < Bx ∧ BR < Bx by rw [hBx]; exact ⟨heap_lt HE.out, heap_lt HR.out⟩)
         have HSL := Lib.hid ((hsl.fit.below hb78).more (S' := fun b => b < K5) fun b hb => by have h := hb.1.2; have := HB45.out.size; rw [HK5.out]; omega)
         have HW8 := Lib.hid hw8
         have HBXE := Lib.hid hBx
         clear hsp hok hsl hrs hmem hr4 hr1 hr2 hr3 hw8 hb78 hBx hln
         go_wp2_with fail
         rw [← HW8.out, ← HBXE.out]
         clear hc1 hc2
         go_loopg [16, 99] m (fun gj v16 v99 wr => ∃ (j : Nat) (R2 : List Bool), j ≤ m ∧ gj = m - j ∧ v16 = .bool ((r.2.take j).all (okS E)) ∧ v99 = .int .i64 j ∧ R2 = (r.2.take j).foldl (rchS r.1) R ∧ BlB wr BE E ∧ BlB wr BR R2 ∧ Below K5 w8 wr ∧ wr.heap[Bx]? = some (.cells #[.int .i64 (ln : Int), .slice A2 m c2] 40 (0, 0)))
         case atStart => exact ⟨0, R, Nat.zero_le _, rfl, rfl, rfl, rfl, HE8.out, HR8.out, .refl _ _, HX8.out⟩
         case round =>
          clear HE HR HB HE8 HR8 HX8
          obtain ⟨j, R2, hj, hgj, rfl, rfl, hR2, hE, hR, hbw, hx⟩ := hrel
          obtain ⟨w9, rfl⟩ : ∃ w9 : World, w9 = wr := ⟨_, rfl⟩
          have HGJ := Lib.hid hgj
          have hlR2 : R2.length = nn := by rw [hR2, ← (foldl_le (rchS_le r.1) (r.2.take j) R).1]; exact HLK.out.2
          have HR2 := Lib.hid hR2
          have HLR2 := Lib.hid hlR2
          have HE := Lib.hid hE
          have HR := Lib.hid hR
          have HB := Lib.hid hbw
          have HX := Lib.hid hx
          have hz8 : K5 ≤ w8.heap.size := by rw [HK5.out]; exact HB8.out.size
          have hz9 : K5 ≤ w9.heap.size := Nat.le_trans hz8 HB.out.size
          obtain ⟨ok, hok⟩ : ∃ ok, ok = (r.2.take j).all (okS E) := ⟨_, rfl⟩
          rw [← hok]
          have HOK := Lib.hid hok
          obtain ⟨rl, hrl, hcl, _⟩ := HR.out.at_ (i := ln) (by rw [hlR2]; exact hlnn)
          have HRL := Lib.hid hrl
          clear hgj hR2 hlR2 hE hR hbw hx hok hrl
          by_cases hjl : j < m
          ·
           have hjI : (j : Int) < (m : Int) := by omega
           have hj0 : (0 : Int) ≤ (j : Int) := by omega
           obtain ⟨bs, os, u1, u2, s, rfl, _, hss, hsk, hs1, hs2⟩ := (HSL.out.keep (.belowB HB.out fun b hb => hb)).at2 (k := j) rfl hjl
           have h2 := RSym.cells.1 hsk
           injection h2 with e1 h2
           injection h2 with e2 _
           subst e1
           subst e2
           have hs2 : w9.cell? ⟨bs, os + j * 2 + 1, none⟩ = some (.int .i64 s.2) := hs2
           have hoks := okS_succ (E := E) hss
           have hrss := rchS_succ (lf := r.1) (R := R) hss
           rw [← HR2.out] at hrss
           rw [← HOK.out] at hoks
           have hfit := HR3.out s (List.mem_of_getElem? hss)
           clear hsk hss
           obtain ⟨sb, sx⟩ := s
           have hal : atB R2 r.1 = rl := by rw [HLN.out]; exact atB_nat HRL.out
           obtain ⟨w10, hw10⟩ : ∃ w10 : World, w10 = w9.alloc (.cells #[.bool sb, .int .i64 sx] 42) := ⟨_, rfl⟩
           have hb910 : Below w9.heap.size w9 w10 := by rw [hw10]; exact (Below.refl _ _).alloc (Nat.le_refl _) _
           have HE10 := Lib.hid (HE.out.below hb910)
           have HR10 := Lib.hid (HR.out.below hb910)
           have HB10 := Lib.hid (show Below K5 w8 w10 from HB.out.trans (hb910.mono hz9))
           have HX10 := Lib.hid ((hb910.block _ (heap_lt HX.out)).trans HX.out)
           have HS10 := Lib.hid (show w10.heap[w9.heap.size]? = some (.cells #[.bool sb, .int .i64 sx] 42 (0, 0)) by rw [hw10]; exact heap_alloc_new _ _)
           have hz10 : K5 ≤ w10.heap.size := Nat.le_trans hz9 hb910.size
           have kl : w10.cell? ⟨Bx, 0, none⟩ = some (.int .i64 (ln : Int)) := by simp [World.cell?, HX10.out]
           have kr : w10.cell? ⟨BR, ln, none⟩ = some (.bool rl) := (hb910.cell (cell_lt hcl)).trans hcl
           have hln0 : (0 : Int) ≤ (ln : Int) := by omega
           have hlnI : (ln : Int) < (nn : Int) := by omega
           have HW10 := Lib.hid hw10
           clear hcl hb910
           cases sb with
           | true =>
            have HOKS := Lib.hid (show (r.2.take (j + 1)).all (okS E) = ok by rw [hoks]; unfold okS; simp)
            have HRS2 := Lib.hid (show R2 = (r.2.take (j + 1)).foldl (rchS r.1) R by rw [hrss]; unfold rchS; rw [if_neg (fun h => by cases h.2)])
            clear hoks hrss hal hfit
            rw [hw10] at kl kr
            clear hw10
            cases ok with
            | true =>
             cases rl with
             | true =>
              go_wp2_with fail
              rw [← HW10.out]
              go_roundg (m - (j + 1))
              case measure => rw [HGJ.out]; omega
              case rel => exact ⟨j + 1, R2, by omega, rfl, by rw [HOKS.out], by go_num, HRS2.out, HE10.out, HR10.out, HB10.out, HX10.out⟩
             | false =>
              go_wp2_with fail
              rw [← HW10.out]
              go_roundg (m - (j + 1))
              case measure => rw [HGJ.out]; omega
              case rel => exact ⟨j + 1, R2, by omega, rfl, by rw [HOKS.out], by go_num, HRS2.out, HE10.out, HR10.out, HB10.out, HX10.out⟩
            | false =>
             cases rl with
             | true =>
              go_wp2_with fail
              rw [← HW10.out]
              go_roundg (m - (j + 1))
              case measure => rw [HGJ.out]; omega
              case rel => exact ⟨j + 1, R2, by omega, rfl, by rw [HOKS.out], by go_num, HRS2.out, HE10.out, HR10.out, HB10.out, HX10.out⟩
             | false =>
              go_wp2_with fail
              rw [← HW10.out]
              go_roundg (m - (j + 1))
              case measure => rw [HGJ.out]; omega
              case rel => exact ⟨j + 1, R2, by omega, rfl, by rw [HOKS.out], by go_num, HRS2.out, HE10.out, HR10.out, HB10.out, HX10.out⟩
           | false =>
            obtain ⟨hx0, hx1⟩ := hfit rfl
            obtain ⟨xn, rfl⟩ : ∃ xn : Nat, sx = (xn : Int) := ⟨sx.toNat, by simp only at hx0; omega⟩
            have hxn : xn < nn := by simp only at hx1; omega
            have hxnI : (xn : Int) < (nn : Int) := by omega
            have hxn0 : (0 : Int) ≤ (xn : Int) := by omega
            obtain ⟨ee, hee, kee, _⟩ := HE10.out.at_ (i := xn) (by rw [HLK.out.1]; exact hxn)
            obtain ⟨rx, _, krx, frx⟩ := HR10.out.at_ (i := xn) (by rw [HLR2.out]; exact hxn)
            have hae := atB_nat hee
            have HOKS := Lib.hid (show (r.2.take (j + 1)).all (okS E) = (ok && ee) by rw [hoks]; unfold okS; rw [hae]; simp)
            have HRS2 := Lib.hid (show (if rl = true then R2.set xn true else R2) = (r.2.take (j + 1)).foldl (rchS r.1) R by
             rw [hrss]
             unfold rchS
             rw [hal]
             cases rl with
             | true => rw [if_pos rfl, if_pos ⟨rfl, rfl⟩]; rfl
             | false => rw [if_neg (by simp), if_neg (fun h => by cases h.1)])
            have hne := HNE.out
            have HE11 := Lib.hid (HE10.out.other (B2 := BR) HNE.out xn (.bool true))
            have HR11 := Lib.hid (HR10.out.set xn true)
            have HB11 := Lib.hid (show Below K5 w8 (w10.setCell ⟨BR, xn, none⟩ (.bool true)) from HB10.out.trans ((Below.refl _ _).setCell hBR _))
            have HX11 := Lib.hid (show (w10.setCell ⟨BR, xn, none⟩ (.bool true)).heap[Bx]? = _ from (Below.heap_setCell _ _ _ _ (by have := HXE.out.2; show Bx ≠ BR; omega)).trans HX10.out)
            clear hoks hrss hal hfit hx0 hx1 hee hae hne
            rw [hw10] at kl kr kee krx frx
            clear hw10
            cases ok with
            | true =>
             cases rl with
             | true =>
              rw [if_pos rfl] at HRS2
              rw [Bool.true_and] at HOKS
              go_wp2_with fail
              rw [← HW10.out]
              go_roundg (m - (j + 1))
              case measure => rw [HGJ.out]; omega
              case rel => exact ⟨j + 1, R2.set xn true, by omega, rfl, by rw [HOKS.out], by go_num, HRS2.out, HE11.out, HR11.out, HB11.out, HX11.out⟩
             | false =>
              rw [if_neg (by simp)] at HRS2
              rw [Bool.true_and] at HOKS
              go_wp2_with fail
              rw [← HW10.out]
              go_roundg (m - (j + 1))
              case measure => rw [HGJ.out]; omega
              case rel => exact ⟨j + 1, R2, by omega, rfl, by rw [HOKS.out], by go_num, HRS2.out, HE10.out, HR10.out, HB10.out, HX10.out⟩
            | false =>
             cases rl with
             | true =>
              rw [if_pos rfl] at HRS2
              rw [Bool.false_and] at HOKS
              go_wp2_with fail
              rw [← HW10.out]
              go_roundg (m - (j + 1))
              case measure => rw [HGJ.out]; omega
              case rel => exact ⟨j + 1, R2.set xn true, by omega, rfl, by rw [HOKS.out], by go_num, HRS2.out, HE11.out, HR11.out, HB11.out, HX11.out⟩
             | false =>
              rw [if_neg (by simp)] at HRS2
              rw [Bool.false_and] at HOKS
              go_wp2_with fail
              rw [← HW10.out]
              go_roundg (m - (j + 1))
              case measure => rw [HGJ.out]; omega
              case rel => exact ⟨j + 1, R2, by omega, rfl, by rw [HOKS.out], by go_num, HRS2.out, HE10.out, HR10.out, HB10.out, HX10.out⟩
          ·
           obtain rfl : m = j := by omega
           have htk : r.2.take m = r.2 := List.take_of_length_le (by rw [← HML.out]; exact Nat.le_refl _)
           obtain ⟨el, hel, ke, fe⟩ := HE.out.at_ (i := ln) (by rw [HLK.out.1]; exact hlnn)
           have kl : w9.cell? ⟨Bx, 0, none⟩ = some (.int .i64 (ln : Int)) := by simp [World.cell?, HX.out]
           have hln0 : (0 : Int) ≤ (ln : Int) := by omega
           have hlnI : (ln : Int) < (nn : Int) := by omega
           have HEN := Lib.hid (show E.set ln (el || ok) = (P.take (k + 1)).foldl endR Ei by
            rw [foldl_succ HRS.out, ← HEK.out]
            unfold endR
            rw [HLN.out, atB_nat hel, Int.toNat_natCast, HOK.out, htk]
            rfl)
           have HRN := Lib.hid (show R2 = (P.take (k + 1)).foldl rchR Ri by
            rw [foldl_succ HRS.out, ← HRK.out, HR2.out, htk]
            rfl)
           have HE10 := Lib.hid (HE.out.set ln (el || ok))
           have HR10 := Lib.hid (HR.out.other (B2 := BE) (Ne.symm HNE.out) ln (.bool (el || ok)))
           have HB10 := Lib.hid (show Below K5 w5 (w9.setCell ⟨BE, ln, none⟩ (.bool (el || ok))) from (HB8.out.trans HB.out).setCell hBE _)
           clear htk hel hcl
           cases el with
           | true =>
            rw [Bool.true_or] at HEN HE10 HR10 HB10
            go_wp2_with fail
            go_region
            go_wp2_with fail
            go_roundg (nP - (k + 1))
            case measure => rw [HGK.out]; omega
            case rel => exact ⟨k + 1, E.set ln true, R2, by omega, rfl, by go_num, HEN.out, HRN.out, HE10.out, HR10.out, HB10.out.drew⟩
           | false =>
            rw [Bool.false_or] at HEN HE10 HR10 HB10
            go_wp2_with fail
            go_region
            go_wp2_with fail
            go_roundg (nP - (k + 1))
            case measure => rw [HGK.out]; omega
            case rel => exact ⟨k + 1, E.set ln ok, R2, by omega, rfl, by go_num, HEN.out, HRN.out, HE10.out, HR10.out, HB10.out.drew⟩
        ·
         obtain rfl : nP = k := by omega
         go_wp2_with fail
         go_roundg (nn + 1 - (i + 1))
         case measure => rw [HGI.out]; omega
         case rel =>
          refine ⟨i + 1, E, R, by omega, rfl, by go_num, ?_, ?_, HE.out, HR.out, HB.out⟩
          ·
           rw [HEK.out, HNP.out, List.take_of_length_le (Nat.le_refl _), HEI.out]
           rfl
          ·
           rw [HRK.out, HNP.out, List.take_of_length_le (Nat.le_refl _), HRI.out]
           rfl
      ·
       obtain rfl : nn + 1 = i := by omega
       have HENDS := Lib.hid (show ∀ i : Nat, 1 ≤ i → i < nn → Ei[i]? = some true ∧ Ri[i]? = some true from fun i h1 h2 => by
        have h3 := HPF.out.ends i h1 (by rw [← HNN.out]; exact h2)
        have h4 := HPF.out.rch i h1 (by rw [← HNN.out]; exact h2)
        rw [← HNN.out, ← HE0.out, ← HEI.out] at h3
        rw [← HNN.out, ← HR0'.out, ← HRI.out] at h4
        exact ⟨by have := atB_true.1 h3; simpa using this, by have := atB_true.1 h4; simpa using this⟩)
       obtain ⟨x1, x3, x4, x5⟩ := HC7.out _ HB.out
       go_wp2_with fail
       clear x3 x4 x5 x1
       go_loopg [19] (nn - 1) (fun gk v19 wr => ∃ k : Nat, 1 ≤ k ∧ k ≤ nn ∧ gk = nn - k ∧ v19 = .int .i64 k ∧ Below K5 w5 wr ∧ BlB wr BE Ei ∧ BlB wr BR Ri)
       case atStart => exact ⟨1, Nat.le_refl _, hnn1, rfl, rfl, HB.out, HE.out, HR.out⟩
       case round =>
        clear HE HR HB
        obtain ⟨k, hk1, hk2, hgk, rfl, hbw, hE, hR⟩ := hrel
        obtain ⟨w7, rfl⟩ : ∃ w7 : World, w7 = wr := ⟨_, rfl⟩
        have HGK := Lib.hid hgk
        have HB := Lib.hid hbw
        have HE := Lib.hid hE
        have HR := Lib.hid hR
        clear hgk hbw hE hR
        have x1 := (HC7.out _ HB.out).1
        by_cases hkl : k < nn
        ·
         have hkI : (k : Int) < (nn : Int) := by omega
         have hk0 : (0 : Int) ≤ (k : Int) := by omega
         obtain ⟨h1, h2⟩ := HENDS.out k hk1 hkl
         obtain ⟨b1, e1, c1, _⟩ := HE.out.at_ (i := k) (by rw [HLI.out.1]; exact hkl)
         obtain ⟨b2, e2, c2, _⟩ := HR.out.at_ (i := k) (by rw [HLI.out.2]; exact hkl)
         rw [h1] at e1
         injection e1 with e1
         subst e1
         rw [h2] at e2
         injection e2 with e2
         subst e2
         clear h1 h2
         go_wp2_with fail
         go_roundg (nn - (k + 1))
         case measure => rw [HGK.out]; omega
         case rel => exact ⟨k + 1, by omega, by omega, rfl, by go_num, HB.out, HE.out, HR.out⟩
        ·
         obtain rfl : nn = k := by omega
         have x3 := (HC7.out _ HB.out).2.1
         go_wp2_with fail
         clear x1 x3
         go_loopg [184] nP (fun gk v184 wr => ∃ k : Nat, k ≤ nP ∧ gk = nP - k ∧ v184 = .int .i64 k ∧ Below K5 w5 wr)
         case atStart => exact ⟨0, Nat.zero_le _, rfl, rfl, HB.out⟩
         case round =>
          clear HB
          obtain ⟨k, hk, hgk, rfl, hbw⟩ := hrel
          obtain ⟨w8, rfl⟩ : ∃ w8 : World, w8 = wr := ⟨_, rfl⟩
          have HGK2 := Lib.hid hgk
          have HB := Lib.hid hbw
          clear hgk hbw
          by_cases hkl2 : k < nP
          ·
           have hkI : (k : Int) < (nP : Int) := by omega
           have hk0 : (0 : Int) ≤ (k : Int) := by omega
           have hz8 : K5 ≤ w8.heap.size := by rw [HK5.out]; exact HB.out.size
           have hbw5 : Below w5.heap.size w5 w8 := by rw [← HK5.out]; exact HB.out
           obtain ⟨bl, ol, u1, u2, r, rfl, _, hrs, hok, hc1, hc2⟩ := (HSP.out.below hbw5).at2 (k := k) rfl hkl2
           obtain ⟨A2, m, c2, h2, hsl⟩ := RRule.cells.1 hok
           injection h2 with e1 h2
           injection h2 with e2 _
           subst e1
           subst e2
           have hc2 : w8.cell? ⟨bl, ol + k * 2 + 1, none⟩ = some (.slice A2 m c2) := hc2
           obtain ⟨bA, oA, f, hA, _, hf, hcf⟩ := (HSF.out.below hbw5).ints.int_at hkl2
           subst hA
           have hfr := HPF.out.from_ k r f hrs hf
           have hml := hsl.len
           obtain ⟨⟨hr1, hr2⟩, _⟩ := HFT.out r (List.mem_of_getElem? hrs)
           obtain ⟨lf, hlf⟩ : ∃ lf, lf = r.1 := ⟨_, rfl⟩
           rw [← hlf] at hc1 hfr hr1 hr2
           obtain ⟨w9, hw9⟩ : ∃ w9 : World, w9 = w8.alloc (.cells #[.int .i64 lf, .slice A2 m c2] 40) := ⟨_, rfl⟩
           have hb89 : Below w8.heap.size w8 w9 := by rw [hw9]; exact (Below.refl _ _).alloc (Nat.le_refl _) _
           have HB9 := Lib.hid (show Below K5 w5 w9 by rw [hw9]; exact HB.out.alloc hz8 _)
           have hx9 : w9.heap[w8.heap.size]? = some (.cells #[.int .i64 lf, .slice A2 m c2] 40 (0, 0)) := by rw [hw9]; exact heap_alloc_new _ _
           have y0 : w9.cell? ⟨w8.heap.size, 0, none⟩ = some (.int .i64 lf) := by simp [World.cell?, hx9]
           have y1 : w9.cell? ⟨w8.heap.size, 1, none⟩ = some (.slice A2 m c2) := by simp [World.cell?, hx9]
           obtain ⟨x1, x3, x4, x5⟩ := HC7.out _ HB9.out
           have hcf9 := (hb89.cell (cell_lt hcf)).trans hcf
           have h5 := (HB9.out.block _ HKB.out.2.2).trans HBX5'.out
           have k5 : w9.cell? ⟨w1.heap.size, 3, none⟩ = some (.slice AR nR cR) := by simp [World.cell?, h5]
           have hbw9 : Below w5.heap.size w5 w9 := by rw [← HK5.out]; exact HB9.out
           have HW9 := Lib.hid hw9
           rcases hfr with ⟨rfl, hl0⟩ | ⟨kk, jj, t, s, rfl, hgs, hlj, htj, hst, hlen⟩
           ·
            obtain rfl : lf = 0 := hl0
            rw [hw9] at y0 y1 x1 x3 x4 x5 hcf9 k5
            clear hok hsl hrs hf hml hr1 hr2 hlf hbw5 hbw9 h5 hx9 hb89 hw9
            go_wp2_with fail
            go_quiet (fail)
            go_wp2_with fail
            rw [← HW9.out]
            go_roundg (nP - (k + 1))
            case measure => rw [HGK2.out]; omega
            case rel => exact ⟨k + 1, by omega, rfl, by go_num, HB9.out.trans (below_drewN _ _ _)⟩
           ·
            obtain rfl : lf = (jj : Int) + 1 := by omega
            have hkk : kk < nR := by rw [HNR.out]; exact (List.getElem?_eq_some_iff.1 hgs).1
            obtain ⟨bg, og, v1, v2, s', rfl, _, hgs', hok', hg1, hg2⟩ := (HSG.out.below hbw9).at2 (k := kk) rfl hkk
            rw [hgs] at hgs'
            injection hgs' with hgs'
            subst hgs'
            obtain ⟨A3, m3, c3, h3, hsl3⟩ := RRule.cells.1 hok'
            injection h3 with e1 h3
            injection h3 with e2 _
            subst e1
            subst e2
            have hm3 := hsl3.len
            obtain rfl : m3 = m := by omega
            rw [hst] at hg1
            have hjn : jj + 1 < nn := by rw [HNN.out]; have := (List.getElem?_eq_some_iff.1 htj).1; omega
            obtain ⟨bn, on, tz, rfl, _, htz, _, hn1, _⟩ := (HSNn.out.below hbw9).non (k := jj + 1) hjn
            rw [List.getElem?_cons_succ, List.getElem?_map, htj] at htz
            have htz : triZ t = tz := by simpa using htz
            subst htz
            have hn1 : w9.cell? ⟨bn, on + (jj + 1) * 3 + 1, none⟩ = some (.int .i64 (t.2.1 : Int)) := hn1
            have hg2 : w9.cell? ⟨bg, og + kk * 2 + 1, none⟩ = some (.slice A3 m3 c3) := hg2
            have hkkI : (kk : Int) < (nR : Int) := by omega
            have hkk0 : (0 : Int) ≤ (kk : Int) := by omega
            have hkkn : ¬ ((nR : Int) ≤ (kk : Int)) := by omega
            have hkkm : ¬ ((kk : Int) < 0) := by omega
            have hjI : ((jj : Int) + 1) < (nn : Int) := by omega
            have hj0 : (0 : Int) ≤ (jj : Int) + 1 := by omega
            have hjt : ((jj : Int) + 1).toNat = jj + 1 := by omega
            rw [hw9] at y0 y1 x1 x3 x4 x5 hcf9 k5 hg1 hg2 hn1
            clear hok hsl hrs hf hml hr1 hr2 hlf hbw5 hbw9 h5 hx9 hb89 hw9 hgs hlj htj hst hlen hok' hsl3 hm3
            go_wp2_with fail
            go_quiet (fail)
            go_wp2_with fail
            rw [← HW9.out]
            go_roundg (nP - (k + 1))
            case measure => rw [HGK2.out]; omega
            case rel => exact ⟨k + 1, by omega, rfl, by go_num, HB9.out.trans (below_drewN _ _ _)⟩
          ·
           obtain rfl : nP = k := by omega
           go_wp2_with fail
           go_ret
           exact ⟨rfl, HFIN.out _ HB.out⟩
 ·
  --@3
  go_wp2_with fail
  go_ret
  exact ⟨rfl, HB1.out.trans ((HB14.out.mono HB1.out.size).trans ((Below.refl _ _).alloc (by have := HB14.out.size; have := HB1.out.size; omega) _))⟩
end Go.Proofs.Ytbmcoamdfpegnaa
