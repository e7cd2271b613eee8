/- MeetAll -/
import Derived.Test.YtbmcoamdfpegnaaMa29
import Derived.Test.YtbmcoamdfpegnaaMa30
import Derived.Test.YtbmcoamdfpegnaaMa51
import Derived.Test.YtbmcoamdfpegnaaMa53
namespace Go.Proofs.Ytbmcoamdfpegnaa
open Go.RowKit Go.Maps
theorem meetIn_one {T N st : Nat} {R : List RuleD} (h : GValid ((T : Int), (N : Int), (st : Int), R)) : MeetIn ((T : Int), (N : Int), (st : Int), R) (oneD T) := by
 have h1 := h.t1
 have h2 := h.t2
 simp only at h1 h2
 exact ⟨h, oneD_valid (by omega) (by omega), by simp [cols, oneD], by simp [oneD]⟩
set_option linter.unusedSimpArgs false in
set_option maxRecDepth 100000 in
set_option maxHeartbeats 8000000 in
theorem meetAll_walk (W : World) (A0 : Option Addr) (n0 c0 : Nat) (z0 : List Int) (le0 : n0 ≤ c0) (cap0 : c0 ≤ 17592186043904) (rd0 : Rd W (fun _ => True) 1 A0 n0 (z0.map (Value.int .i64))) (_rg0 : ∀ z ∈ z0, -9223372036854775808 ≤ z ∧ z ≤ 9223372036854775807) :
    Calls Try.prog 4 #[.slice A0 n0 c0] W fun e W' => e = .returned (.bool true) ∧ Below W.heap.size W W' := by
 have HR0 := Lib.hid (rd0.slInts le0)
 clear rd0 _rg0
 go_enter Try.func4, Try.ntmps4
 go_wp2_with fail
 refine (makeGrammar W A0 n0 c0 _ z0 HR0.out (by omega)).mono ?_
 rintro e w1 ⟨g, AR, cR, hv, hs, rfl, hsr, hb1⟩
 obtain ⟨gT, gN, gs, R⟩ := g
 obtain ⟨T, rfl⟩ : ∃ T : Nat, gT = (T : Int) := ⟨gT.toNat, by have := hv.t1; simp only at this; omega⟩
 obtain ⟨N, rfl⟩ : ∃ N : Nat, gN = (N : Int) := ⟨gN.toNat, by have := hv.n1; simp only at this; omega⟩
 obtain ⟨st, rfl⟩ : ∃ st : Nat, gs = (st : Int) := ⟨gs.toNat, by have := hv.st; simp only at this; omega⟩
 have hT8 : T ≤ 8 := by have := hv.t2; simp only at this; omega
 have hT1 : 1 ≤ T := by have := hv.t1; simp only at this; omega
 have hN4 : N ≤ 4 := by have := hs.n; simp only at this; omega
 have hstN : st < N := by have := hv.st; simp only at this; omega
 simp only at hsr ⊢
 obtain ⟨nR, hnR⟩ : ∃ nR, nR = R.length := ⟨_, rfl⟩
 rw [← hnR] at hsr ⊢
 have HMI := Lib.hid (meetIn_one hv)
 have HV := Lib.hid hv
 have HSR := Lib.hid hsr.fit
 have HB1 := Lib.hid hb1
 clear hv hs hsr hb1 hnR
 obtain ⟨w2, hw2⟩ : ∃ w2 : World, w2 = w1.alloc (.cells #[.int .i64 (T : Int), .int .i64 (N : Int), .int .i64 (st : Int), .slice AR nR cR] 25) := ⟨_, rfl⟩
 have HB12 := Lib.hid (show Below w1.heap.size w1 w2 by rw [hw2]; exact (Below.refl _ _).alloc (Nat.le_refl _) _)
 have HBX := Lib.hid (show w2.heap[w1.heap.size]? = some (.cells #[.int .i64 (T : Int), .int .i64 (N : Int), .int .i64 (st : Int), .slice AR nR cR] 25 (0, 0)) by rw [hw2]; exact heap_alloc_new _ _)
 obtain ⟨B3, hB3⟩ : ∃ B3, B3 = w1.heap.size := ⟨_, rfl⟩
 have HC3 := Lib.hid (show ∀ u : World, Below w2.heap.size w2 u → u.cell? ⟨B3, 0, none⟩ = some (.int .i64 (T : Int)) ∧ u.cell? ⟨B3, 1, none⟩ = some (.int .i64 (N : Int)) ∧ u.cell? ⟨B3, 2, none⟩ = some (.int .i64 (st : Int)) ∧ u.cell? ⟨B3, 3, none⟩ = some (.slice AR nR cR) from fun u hu => by
  have e1 := (hu.block _ (heap_lt HBX.out)).trans HBX.out
  rw [← hB3] at e1
  exact ⟨by simp [World.cell?, e1], by simp [World.cell?, e1], by simp [World.cell?, e1], by simp [World.cell?, e1]⟩)
 have hz2 : w2.heap.size = B3 + 1 := by rw [hw2, hB3]; simp
 have HZ2 := Lib.hid hz2
 have HW2 := Lib.hid hw2
 have HB3 := Lib.hid hB3
 clear hw2 hB3 hz2
 go_wp2_with fail
 rw [← HW2.out, ← HB3.out]
 refine (keepMeets w2).mono ?_
 rintro e w3 ⟨rfl, hb3⟩
 have HB23 := Lib.hid hb3
 have hmk := fun u => tInts.make rfl T (by omega) (by omega) u
 simp only [made_intsA] at hmk
 obtain ⟨wa, hwa⟩ : ∃ wa : World, wa = w3.alloc (.cells #[.int .i64 0] 3) := ⟨_, rfl⟩
 obtain ⟨wb, hwb⟩ : ∃ wb : World, wb = wa.alloc (.cells (Array.replicate T (Value.int .i64 0)) 3) := ⟨_, rfl⟩
 obtain ⟨wc, hwc⟩ : ∃ wc : World, wc = wb.alloc (.cells #[.slice (some ⟨w3.heap.size + 1, 0, none⟩) T T] 22) := ⟨_, rfl⟩
 obtain ⟨w4, hw4⟩ : ∃ w4 : World, w4 = wc.alloc (.cells #[.int .i64 0, .slice (some ⟨w3.heap.size, 0, none⟩) 1 1, .slice (some ⟨w3.heap.size + 1 + 1, 0, none⟩) 1 1] 28) := ⟨_, rfl⟩
 have hza : wa.heap.size = w3.heap.size + 1 := by rw [hwa]; simp
 have hzb : wb.heap.size = w3.heap.size + 2 := by rw [hwb, World.size_alloc, hza]
 have hzc : wc.heap.size = w3.heap.size + 3 := by rw [hwc, World.size_alloc, hzb]
 have hb34 : Below w3.heap.size w3 w4 := by rw [hw4, hwc, hwb, hwa]; exact ((((Below.refl _ _).alloc (Nat.le_refl _) _).alloc (by simp) _).alloc (by simp; omega) _).alloc (by simp; omega) _
 have hSA : Sl Rep.int w4 (fun q => w3.heap.size ≤ q) (some ⟨w3.heap.size, 0, none⟩) 1 1 [0] := by
  have h1 : Sl Rep.int wa (fun q => w3.heap.size ≤ q) (some ⟨w3.heap.size, 0, none⟩) 1 1 [0] := by rw [hwa]; exact Rd.slInts (Rd.new w3 (fun q => w3.heap.size ≤ q) 3 [.int .i64 0] _ rfl (Nat.le_refl _)) (Nat.le_refl _)
  rw [hw4, hwc, hwb]
  exact ((h1.alloc _).alloc _).alloc _
 have hSN : Sl RI w4 (fun q => w3.heap.size ≤ q) (some ⟨w3.heap.size + 1 + 1, 0, none⟩) 1 1 [List.replicate T 0] := by
  have h1 : Sl Rep.int wb (fun q => w3.heap.size ≤ q) (some ⟨w3.heap.size + 1, 0, none⟩) T T (List.replicate T 0) := by
   rw [hwb]
   have h2 := Rd.new wa (fun q => w3.heap.size ≤ q) 3 ((List.replicate T (0 : Int)).map (Value.int .i64)) (w3.heap.size + 1) hza (by omega)
   simp only [List.length_map, List.length_replicate] at h2
   have h3 : ((List.replicate T (0 : Int)).map (Value.int .i64)).toArray = Array.replicate T (Value.int .i64 0) := by simp
   rw [h3] at h2
   exact Rd.slInts h2 (Nat.le_refl _)
  have h4 : Sl RI wc (fun q => w3.heap.size ≤ q) (some ⟨w3.heap.size + 1 + 1, 0, none⟩) 1 1 [List.replicate T 0] := by
   rw [hwc]
   exact ⟨_, rfl, Nat.le_refl _, Rd.new wb _ _ [_] _ hzb (by omega), [_], [], rfl, ⟨_, _, _, rfl, h1.alloc _⟩, rfl⟩
  rw [hw4]
  exact h4.alloc _
 have hDX : w4.heap[w3.heap.size + 1 + 1 + 1]? = some (.cells #[.int .i64 0, .slice (some ⟨w3.heap.size, 0, none⟩) 1 1, .slice (some ⟨w3.heap.size + 1 + 1, 0, none⟩) 1 1] 28 (0, 0)) := by
  rw [hw4, show w3.heap.size + 1 + 1 + 1 = wc.heap.size by rw [hzc]]
  exact heap_alloc_new _ _
 have HB34 := Lib.hid hb34
 have HSA := Lib.hid hSA
 have HSN := Lib.hid hSN
 have HDX := Lib.hid hDX
 have HW4 := Lib.hid (show w4 = (((w3.alloc (.cells #[.int .i64 0] 3)).alloc (.cells (Array.replicate T (Value.int .i64 0)) 3)).alloc (.cells #[.slice (some ⟨w3.heap.size + 1, 0, none⟩) T T] 22)).alloc (.cells #[.int .i64 0, .slice (some ⟨w3.heap.size, 0, none⟩) 1 1, .slice (some ⟨w3.heap.size + 1 + 1, 0, none⟩) 1 1] 28) by rw [hw4, hwc, hwb, hwa])
 have hb24 : Below w2.heap.size w2 w4 := hb3.trans (hb34.mono hb3.size)
 have HB24 := Lib.hid hb24
 have k0 := (HC3.out w3 hb3).1
 obtain ⟨g0, g1, g2, g3⟩ := HC3.out w4 hb24
 have hz3 : B3 < w3.heap.size := by have := HZ2.out; have := hb3.size; omega
 rw [HW4.out] at g0 g1 g2 g3
 clear hb3 hwa hwb hwc hw4 hza hzb hzc hb34 hSA hSN hDX hb24 wa wb wc
 go_wp2_with fail
 go_at_call 8
 rw [← HW4.out]
 have hb14 : Below w1.heap.size w1 w4 := HB12.out.trans (HB24.out.mono HB12.out.size)
 refine (mkOf w4 (fun _ => True) ((T : Int), (N : Int), (st : Int), R) (oneD T) HMI.out AR nR cR ((HSR.out.below hb14).more fun _ _ => trivial) _ 1 1 (HSA.out.more fun _ _ => trivial) _ 1 1 (HSN.out.more fun _ _ => trivial)).mono ?_
 rintro e w5 ⟨⟨M, V, hM, e1, e2, e3, e4, e5, hw, hc, hVt, L, hp, hL, hT, hof⟩, hb5⟩
 simp only at e2 e3 e4 e5
 rw [Int.toNat_natCast] at e3 e4 e5
 have hn1 : M.n = 1 := by rw [hM.n, e1]; rfl
 obtain ⟨hLN, hfew⟩ := one_few (W := V) hM hn1 hp hT
 rw [e4] at hLN hfew
 rcases hof with ⟨h4, FR, FF, FN, vR, vN, vF, rfl, hgr, hgn, hgf, hfb⟩ | ⟨hlong, rfl⟩
 ·
  have hwords : ∀ w, LgS ((allPR M V L).map fun x => x.1) (false, 0) w ↔ LgS R (false, (st : Int)) w := fun w => by
   rw [all_words hM hc hp hL hT, e2, e5]
   constructor
   ·
    exact fun h => h.1
   ·
    intro h
    refine ⟨h, ?_⟩
    rw [e1]
    show 0 ≤ dat (oneD T) (w.foldl (dto (oneD T)) 0)
    rw [oneD_word]
    exact Int.le_refl 0
  have hder : ∀ k, Der ((allPR M V L).map fun x => x.1) [(false, 0)] k ↔ Der R [(false, (st : Int))] k := fun k => by
   rw [der_iff_lg, der_iff_lg]
   exact exists_congr fun w => and_congr_left fun _ => hwords w
  have hnone : (∀ k, ¬ Der R [(false, (st : Int))] k) → L = [] := fun h => all_none hw hL hM fun w ⟨h1, _⟩ => h w.length (der_iff_lg.2 ⟨w, by rw [← e2, ← e5]; exact h1, rfl⟩)
  have hli : LstIn T (L.length + 1) ((allPR M V L).map fun x => x.1) := by rw [← e3]; exact all_in hM
  rw [e3]
  obtain ⟨P, hP⟩ : ∃ P, P = (allPR M V L).map fun x => x.1 := ⟨_, rfl⟩
  rw [← hP] at hgr hder hli
  have hP4 : P.length ≤ 4000 := by rw [hP, List.length_map]; exact h4
  obtain ⟨AP, cP, rfl, _⟩ := hgr.form
  obtain ⟨AN, cNn, rfl, _⟩ := hgn.form
  obtain ⟨AF, cF, rfl, _⟩ := hgf.form
  rw [show (((-1, -1, -1) : Int × Int × Int) :: L.map triZ).length = L.length + 1 by simp]
  obtain ⟨nF, hnF⟩ : ∃ nF, nF = ((allPR M V L).map fun x => x.2.1).length := ⟨_, rfl⟩
  rw [← hnF]
  obtain ⟨nP, hnP⟩ : ∃ nP, nP = P.length := ⟨_, rfl⟩
  have hnn : ∃ nn, nn = L.length + 1 := ⟨_, rfl⟩
  obtain ⟨nn, hnn⟩ := hnn
  have hnn5 : nn ≤ N + 1 := by omega
  have hnn1 : 1 ≤ nn := by omega
  have hnone2 : (∀ k, ¬ Der R [(false, (st : Int))] k) → nn = 1 := fun h => by rw [hnn, hnone h]; rfl
  rw [← hnP] at hgr ⊢
  rw [← hnn] at hli ⊢
  have HGR := Lib.hid hgr.sl
  have HDER := Lib.hid hder
  have HLI := Lib.hid hli
  have HNONE := Lib.hid hnone2
  have HP4 := Lib.hid hP4
  have HB45 := Lib.hid hb5
  clear hb14 hM e1 e2 e3 e4 e5 hw hc hVt hp hL hT hn1 hLN hfew h4 hgr hgn hgf hfb hwords hder hnone hnone2 hli hP hP4 hnF hnP hnn hb5 g0 g1 g2 g3 k0
  obtain ⟨w6, hw6⟩ : ∃ w6 : World, w6 = w5.alloc (.cells #[.int .i64 (T : Int), .int .i64 (nn : Int), .int .i64 0, .slice AP nP cP, .slice AN nn cNn, .slice AF nF cF] 34) := ⟨_, rfl⟩
  obtain ⟨B6, hB6⟩ : ∃ B6, B6 = w5.heap.size := ⟨_, rfl⟩
  have hb56 : Below w5.heap.size w5 w6 := by rw [hw6]; exact (Below.refl _ _).alloc (Nat.le_refl _) _
  have HPX := Lib.hid (show w6.heap[B6]? = some (.cells #[.int .i64 (T : Int), .int .i64 (nn : Int), .int .i64 0, .slice AP nP cP, .slice AN nn cNn, .slice AF nF cF] 34 (0, 0)) by rw [hw6, hB6]; exact heap_alloc_new _ _)
  have hb26 : Below w2.heap.size w2 w6 := HB24.out.trans ((HB45.out.trans (hb56.mono HB45.out.size)).mono HB24.out.size)
  have HB26 := Lib.hid hb26
  have HGR6 := Lib.hid (HGR.out.fit.below hb56)
  have HSR6 := Lib.hid (HSR.out.below (HB12.out.trans (hb26.mono HB12.out.size)))
  have HC6 := Lib.hid (show ∀ u : World, Below w6.heap.size w6 u → u.cell? ⟨B6, 0, none⟩ = some (.int .i64 (T : Int)) ∧ u.cell? ⟨B6, 1, none⟩ = some (.int .i64 (nn : Int)) ∧ u.cell? ⟨B6, 2, none⟩ = some (.int .i64 0) ∧ u.cell? ⟨B6, 3, none⟩ = some (.slice AP nP cP) ∧ u.cell? ⟨B6, 4, none⟩ = some (.slice AN nn cNn) ∧ u.cell? ⟨B6, 5, none⟩ = some (.slice AF nF cF) from fun u hu => by
   have e1 := (hu.block _ (heap_lt HPX.out)).trans HPX.out
   exact ⟨by simp [World.cell?, e1], by simp [World.cell?, e1], by simp [World.cell?, e1], by simp [World.cell?, e1], by simp [World.cell?, e1], by simp [World.cell?, e1]⟩)
  obtain ⟨g0, g1, g2, g3⟩ := HC3.out w6 hb26
  have HW6 := Lib.hid hw6
  have HB6 := Lib.hid hB6
  rw [hw6] at g0 g1 g2 g3
  clear hw6 hB6 hb56 hb26
  go_wp2_with fail
  go_at_call 12
  rw [← HW6.out, ← HB6.out]
  clear g0 g1 g2 g3
  refine (censusLeastB w6 _ AR nR cR ((T : Int), (N : Int), (st : Int), R) HSR6.out HV.out).mono ?_
  rintro e w7 ⟨⟨AL, cL, ls, rfl, hls, hcl, hll, hok, hbd⟩, hb67⟩
  rw [show nonsOf ((T : Int), (N : Int), (st : Int), R) = N from Int.toNat_natCast N] at hls hcl hll ⊢
  have HOK := Lib.hid (show LeastOk R ls from hok)
  obtain ⟨x, hx⟩ : ∃ x, ls[st]? = some x := ⟨_, List.getElem?_eq_getElem (by omega)⟩
  have hxb : x ≤ 256 := by
   have h1 := hbd x (List.mem_of_getElem? hx)
   have h2 : cntL ls ≤ 4 := by have := cnt_le ls; omega
   have h3 : 4 ^ cntL ls ≤ 4 ^ 4 := Nat.pow_le_pow_right (by omega) h2
   omega
  obtain ⟨bL, oL, x', rfl, _, hx', hxc⟩ := hls.int_at hstN
  rw [hx] at hx'
  obtain rfl : x = x' := Option.some.inj hx'
  have HX := Lib.hid hx
  have HB67 := Lib.hid hb67
  have hb27 := HB26.out.trans (hb67.mono HB26.out.size)
  have HB27 := Lib.hid hb27
  obtain ⟨g0, g1, g2, g3⟩ := HC3.out w7 hb27
  obtain ⟨p0, p1, p2, p3, p4, p5⟩ := HC6.out w7 hb67
  have HGR7 := Lib.hid (HGR6.out.below hb67)
  have HLC := Lib.hid hxc
  clear hls hcl hll hok hbd hx hx' hb67 hb27 hxc
  go_wp2_with fail
  go_at_call 13
  refine (mkLeast w7 _ T nn nP cP AP P AN AF nn cNn nF cF HGR7.out hnn1 (by omega) HP4.out HLI.out.r4 HLI.out.rn (by omega) HLI.out.so (qfew HLI.out.rn (by omega) HP4.out HLI.out.r4)).mono ?_
  rintro e w8 ⟨hlm, hb78⟩
  have hb28 := HB27.out.trans (hb78.mono HB27.out.size)
  have HB28 := Lib.hid hb28
  have hb68 := HB67.out.trans (hb78.mono HB67.out.size)
  have hxc := (hb78.cell (cell_lt HLC.out)).trans HLC.out
  clear g0 g1 g2 g3 p0 p1 p2 p3 p4 p5
  obtain ⟨_, g1, g2, _⟩ := HC3.out w8 hb28
  obtain ⟨_, _, _, _, p4, _⟩ := HC6.out w8 hb68
  have HFIN := Lib.hid (show Below W.heap.size W w8 from HB1.out.trans ((HB12.out.trans (hb28.mono HB12.out.size)).mono HB1.out.size))
  have hst0 : (0 : Int) ≤ (st : Int) := by omega
  have hstI : (st : Int) < (N : Int) := by omega
  clear hb28 hb68 hb78
  rcases hlm with ⟨A9, n9, c9, l9, rfl, _, _, hn9, _, hl9, hmin⟩ | ⟨rfl, hfar⟩ | ⟨rfl, hbig, hsome⟩
  ·
   have hd9 : Der R [(false, (st : Int))] n9 := (HDER.out n9).1 (der_iff_lg.2 ⟨l9, hl9, hn9.symm⟩)
   rcases HOK.out st x HX.out with ⟨_, h⟩ | ⟨h0, h1, h2⟩
   ·
    exact absurd hd9 (h n9)
   ·
    have h3 := h2 n9 hd9
    have h4 := hmin x.toNat ((HDER.out _).2 h1)
    obtain rfl : x = (n9 : Int) := by omega
    have hx0 : ¬ (n9 : Int) < 0 := by omega
    have hnnI : (nn : Int) ≤ 1 + (N : Int) := by omega
    clear hd9 h0 h1 h2 h3 h4 hn9 hl9 hmin
    go_wp2_with fail
    go_ret
    exact ⟨rfl, HFIN.out⟩
  ·
   rcases HOK.out st x HX.out with ⟨hx1, h⟩ | ⟨h0, h1, h2⟩
   ·
    subst hx1
    obtain rfl := HNONE.out h
    go_wp2_with fail
    go_ret
    exact ⟨rfl, HFIN.out⟩
   ·
    have := hfar _ ((HDER.out _).2 h1)
    unfold farZ at this
    omega
  ·
   exfalso
   obtain ⟨k, hk⟩ := hsome
   have hk := (HDER.out k).1 hk
   rcases HOK.out st x HX.out with ⟨_, h⟩ | ⟨h0, h1, h2⟩
   ·
    exact h k hk
   ·
    have := hbig _ ((HDER.out _).2 h1)
    omega
 ·
  exfalso
  omega
end Go.Proofs.Ytbmcoamdfpegnaa
