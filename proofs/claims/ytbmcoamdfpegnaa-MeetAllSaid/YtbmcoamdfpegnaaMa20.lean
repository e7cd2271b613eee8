/- MkSizes -/
import Derived.Deep.LoopGhost
import Derived.Lib.MinMax
import Derived.Test.YtbmcoamdfpegnaaMa05
import Derived.Test.YtbmcoamdfpegnaaMa09
import Derived.Test.YtbmcoamdfpegnaaMa10
import Derived.Test.YtbmcoamdfpegnaaMa11
import Derived.Test.YtbmcoamdfpegnaaMa12
import Derived.Test.YtbmcoamdfpegnaaMa18
import Derived.Test.YtbmcoamdfpegnaaMa19
namespace Go.Proofs.Ytbmcoamdfpegnaa
open Go.RowKit Go.Maps
def SizesR (P : List RuleD) (N base : Nat) (e : Ending) (w' : World) : Prop := ∃ (BO c : Nat) (o : List Int), e = .returned (.slice (some ⟨BO, 0, none⟩) N c) ∧ N ≤ c ∧ base ≤ BO ∧ o.length = N ∧ RngS o ∧ FinS P o ∧ Own w' base 3 1 (.slice (some ⟨BO, 0, none⟩) N c) N (o.map (Value.int .i64))
def QFew (P : List RuleD) (N : Nat) : Prop := ∀ u, UsesOk P N P.length 0 u → ∀ n, (qN P u (q0 P N) n).2.length ≤ maxQ
structure SzMem (P : List RuleD) (N K BI : Nat) (w3 wr : World) (F G : Nat → Prop) (k j m : Nat) (ls : List (List Int)) (vs : List Value) (v5 : Value) : Prop where
 us : UsesOk P N k j ls
 bin : BinsF wr G BI ls vs
 wk : GL Rep.int 3 wr F v5 ((List.range m).map fun i : Nat => (i : Int))
 fb : ∀ b, F b → K ≤ b ∧ b < wr.heap.size ∧ ¬ G b
 gb : ∀ b, G b → K ≤ b ∧ b < wr.heap.size
 on : Only w3 wr (fun b => b = BI ∨ K ≤ b)
theorem SzMem.fits {P : List RuleD} {N K BI k j m : Nat} {w3 wr w' : World} {F G : Nat → Prop} {ls : List (List Int)} {vs : List Value} {v5 : Value} (h : SzMem P N K BI w3 wr F G k j m ls vs v5) (hb : Below wr.heap.size wr w') : SzMem P N K BI w3 w' F G k j m ls vs v5 :=
 ⟨h.us, h.bin.below hb, h.wk.below hb, fun b hF => by have h1 := h.fb b hF; have h2 := hb.size; exact ⟨h1.1, by omega, h1.2.2⟩, fun b hG => by have := h.gb b hG; have := hb.size; omega, h.on.trans (.of_below hb (Nat.le_refl _) _)⟩
theorem range_snoc (m : Nat) : ((List.range m).map fun i : Nat => (i : Int)) ++ [(m : Int)] = (List.range (m + 1)).map fun i : Nat => (i : Int) := by rw [List.range_succ, List.map_append]; rfl
section
variable {P : List RuleD} {N K BI k j m : Nat} {w3 wr : World} {F G : Nat → Prop} {ls : List (List Int)} {vs : List Value} {v5 : Value}
theorem SzMem.work (h : SzMem P N K BI w3 wr F G k j m ls vs v5) (hK : BI < K ∧ K ≤ wr.heap.size) (hm : m ≤ 4000) :
    ∃ A' c' w' F', (Builtin.append_ #[22, 22] 22 #[v5, .slice (some ⟨wr.heap.size, 0, none⟩) 1 1]).run Try.prog (wr.alloc (.cells #[.int .i64 (m : Int)] 3)) = .ok (.slice A' (m + 1) c') w' ∧ SzMem P N K BI w3 w' F' G k j (m + 1) ls vs (.slice A' (m + 1) c') ∧ Only wr w' F := by
 obtain ⟨A', c', w', hrun, hwk, hg, hr⟩ := h.wk.push tInts rfl (x := (m : Int)) (ys := [.int .i64 (m : Int)]) (G := fun _ => False) (by exact rfl) (fun b h => h.elim) (by simp; omega) (by decide) 22
 simp only [List.length_map, List.length_range] at hrun hwk hr
 rw [range_snoc] at hwk
 have ho : Only wr w' F := (Only.alloc wr _ F).trans (.of_grown hg fun b e => h.wk.row b e)
 have hz : wr.heap.size + 2 ≤ w'.heap.size ∨ wr.heap.size ≤ w'.heap.size := .inr ho.size
 refine ⟨A', c', w', fun b => (F b ∨ False ∨ b = wr.heap.size + 1) ∧ b < w'.heap.size, hrun, ⟨h.us, h.bin.only ho (fun b hG _ hF => (h.fb b hF).2.2 hG) (fun hF => by have := (h.fb BI hF).1; omega), hwk.fit, fun b hb => ?_, fun b hG => ?_, h.on.trans (ho.more fun b _ hF => .inr (h.fb b hF).1)⟩, ho⟩
 ·
  refine ⟨?_, hb.2, fun hG => ?_⟩
  ·
   rcases hb.1 with h1 | h1 | h1
   ·
    exact (h.fb b h1).1
   ·
    exact h1.elim
   ·
    omega
  ·
   rcases hb.1 with h1 | h1 | h1
   ·
    exact (h.fb b h1).2.2 hG
   ·
    exact h1.elim
   ·
    have := (h.gb b hG).2
    omega
 ·
  have := h.gb b hG
  have := ho.size
  omega
theorem SzMem.use (h : SzMem P N K BI w3 wr F G k j m ls vs v5) (hK : BI < K ∧ K ≤ wr.heap.size) {r : RuleD} (hr : P[k]? = some r) {b : Nat} (hb : b < N) (hx : r.2[j]? = some (false, (b : Int))) (hk : k ≤ 4000) (hj : j ≤ 4) :
    ∃ A n c A' c' w' G' ls' vs', wr.cell? ⟨BI, b, none⟩ = some (.slice A n c) ∧ n ≤ c ∧ (Builtin.append_ #[22, 22] 22 #[.slice A n c, .slice (some ⟨wr.heap.size, 0, none⟩) 1 1]).run Try.prog (wr.alloc (.cells #[.int .i64 (k : Int)] 3)) = .ok (.slice A' (n + 1) c') w' ∧
     w'.cell? ⟨BI, b, none⟩ = some (.slice A n c) ∧ w'.frozen? ⟨BI, b, none⟩ = false ∧ SzMem P N K BI w3 (w'.setCell ⟨BI, b, none⟩ (.slice A' (n + 1) c')) F G' k (j + 1) m ls' vs' v5 ∧ Only wr w' G := by
 obtain ⟨A, n, c, l, hv, hl, hn, hnc, hcell, _, _⟩ := h.bin.at_ (i := b) (by rw [h.us.len]; exact hb)
 have hll := (h.us.at_ b l hl).2
 obtain ⟨A', c', w', hrun, h1, h2, hbn, ho⟩ := h.bin.push hv hl (k : Int) (by omega)
 have hos : Only wr (w'.setCell ⟨BI, b, none⟩ (.slice A' (n + 1) c')) (fun b => G b ∨ b = BI) := (ho.more fun b _ hG => .inl hG).trans (.set _ _ _ _ (.inr rfl))
 refine ⟨A, n, c, A', c', w', _, _, _, hcell, hnc, hrun, h1, h2, ⟨h.us.push hr hx hl, hbn.fit, h.wk.only hos fun b hF _ hx => ?_, fun b hF => ?_, fun b hG => ?_, h.on.trans (hos.more fun b _ hx => ?_)⟩, ho⟩
 ·
  rcases hx with hx | rfl
  ·
   exact (h.fb b hF).2.2 hx
  ·
   have := (h.fb b hF).1
   omega
 ·
  have h3 := h.fb b hF
  have := hos.size
  refine ⟨h3.1, by omega, fun hx => ?_⟩
  rcases hx.1 with hx | hx
  ·
   exact h3.2.2 hx
  ·
   omega
 ·
  refine ⟨?_, hG.2⟩
  rcases hG.1 with hx | hx
  ·
   exact (h.gb b hx).1
  ·
   omega
 ·
  rcases hx with hx | rfl
  ·
   exact .inr (h.gb b hx).1
  ·
   exact .inl rfl
end
theorem foldS_succ {o : List Int} {l : List SymD} {j : Nat} {s : SymD} (h : l[j]? = some s) : (l.take (j + 1)).foldl (addS o) 0 = addS o ((l.take j).foldl (addS o) 0) s := by
 rw [List.take_add_one, h, List.foldl_append]
 rfl
theorem foldS_rng {o : List Int} (h : RngS o) (l : List SymD) (hl : l.length ≤ 4) (j : Nat) : 0 ≤ (l.take j).foldl (addS o) 0 ∧ (l.take j).foldl (addS o) 0 ≤ 1099511627780 := by
 refine ⟨fold_nonneg h _ (Int.le_refl 0), ?_⟩
 have h1 := fold_max h (l.take j) (n := 0) (j := 0) (by have := far_pos; omega)
 have h2 : (l.take j).length ≤ 4 := by rw [List.length_take]; omega
 unfold farZ at h1
 omega
set_option linter.unusedSimpArgs false in
set_option maxRecDepth 1000000 in
set_option maxHeartbeats 8000000 in
theorem mkSizes (w : World) (S : Nat → Prop) (AR : Option Addr) (nR cR T N st : Nat) (P : List RuleD) (hg : Sl RRule w S AR nR cR P) (hN1 : 1 ≤ N) (hN16 : N ≤ 16) (hP4 : P.length ≤ 4000) (hr4 : ∀ r ∈ P, r.2.length ≤ 4) (hF : RulesN N P) (hq : QFew P N) :
    Calls Try.prog 33 #[.agg #[.int .i64 (T : Int), .int .i64 (N : Int), .int .i64 (st : Int), .slice AR nR cR]] w fun e w' => SizesR P N w.heap.size e w' ∧ Below w.heap.size w w' := by
 have hnR : nR = P.length := hg.len
 obtain ⟨w1, hw1⟩ : ∃ w1 : World, w1 = (w.alloc (.cells #[.int .i64 (T : Int), .int .i64 (N : Int), .int .i64 (st : Int), .slice AR nR cR] 25)).alloc (.cells #[.int .i64 1099511627776] 3) := ⟨_, rfl⟩
 have hz1 : w1.heap.size = w.heap.size + 2 := by rw [hw1]; simp
 have hb1 : Below w.heap.size w w1 := by rw [hw1]; exact ((Below.refl _ _).alloc (Nat.le_refl _) _).alloc (by simp) _
 have b1 : w1.heap[w.heap.size]? = some (.cells #[.int .i64 (T : Int), .int .i64 (N : Int), .int .i64 (st : Int), .slice AR nR cR] 25 (0, 0)) := by rw [hw1, Below.heap_alloc _ _ _ (by simp)]; exact heap_alloc_new _ _
 have b2 : w1.cell? ⟨w.heap.size + 1, 0, none⟩ = some (.int .i64 1099511627776) := by rw [hw1]; exact cell_of_one (heap_new _ _ _ (by simp))
 have HB1 := Lib.hid hb1
 have HG := Lib.hid hg.fit
 have HF := Lib.hid hF
 have HQ := Lib.hid hq
 have HR4 := Lib.hid hr4
 have HNR := Lib.hid hnR
 have hnR4 : nR ≤ 4000 := by omega
 have HZ1 := Lib.hid hz1
 have HALL := Lib.hid (show ∀ u : World, Below w1.heap.size w1 u → (u.cell? ⟨w.heap.size, 1, none⟩ = some (.int .i64 (N : Int)) ∧ u.cell? ⟨w.heap.size, 3, none⟩ = some (.slice AR nR cR)) ∧ Below w.heap.size w u from fun u hu => by
  have e1 := (hu.block _ (by omega)).trans b1
  exact ⟨⟨by simp [World.cell?, e1], by simp [World.cell?, e1]⟩, hb1.trans (hu.mono (by omega))⟩)
 clear hb1 b1 hg hF hq hr4 hnR hP4 hz1
 have hmk := fun W => tIntss.make rfl N (by omega) (by omega) W
 simp only [made_rowsA] at hmk
 go_enter Try.func33, Try.ntmps33
 go_wp2_with fail
 rw [← hw1]
 clear hw1
 refine (repeatInt w1 (w.heap.size + 1) 1099511627776 N hN1 hN16 b2).mono ?_
 rintro e w2 ⟨u, rfl, hown, hb2⟩
 obtain ⟨A, c, rfl, hc, _⟩ := hown.form
 obtain ⟨BO, rfl, hBO, _⟩ := hown.addr hN1
 obtain ⟨⟨k1, k3⟩, _⟩ := HALL.out w2 hb2
 have hlO : BO < w2.heap.size := (hown.row (g := BO) (by obtain ⟨c0, rfl⟩ : ∃ c0, c = c0 + 1 := ⟨c - 1, by omega⟩; rfl)).2
 obtain ⟨w3, hw3⟩ : ∃ w3 : World, w3 = w2.alloc (.cells (Array.replicate N (Value.slice none 0 0)) 22) := ⟨_, rfl⟩
 obtain ⟨BI, hBI⟩ : ∃ BI, BI = w2.heap.size := ⟨_, rfl⟩
 have hb3 : Below w1.heap.size w1 w3 := by rw [hw3]; exact hb2.alloc hb2.size _
 have hO3 : Own w3 w1.heap.size 3 1 (.slice (some ⟨BO, 0, none⟩) N c) N ((List.replicate N farZ).map (Value.int .i64)) := by rw [hw3]; exact hown.alloc _
 have hbn : BinsF w3 (fun _ => False) BI (List.replicate N []) (List.replicate N (.slice none 0 0)) := by rw [hw3, hBI, ← List.toArray_replicate]; exact BinsF.start w2 N
 have hz3 : w3.heap.size = BI + 1 := by rw [hw3, hBI]; simp
 rw [← hBI] at hlO
 obtain ⟨K, hK⟩ : ∃ K, K = w3.heap.size := ⟨_, rfl⟩
 have k3' := (HALL.out w3 hb3).1.2
 have HB3 := Lib.hid hb3
 have HO3 := Lib.hid hO3
 have HBN := Lib.hid hbn
 have HW3 := Lib.hid hw3
 have HBI := Lib.hid hBI
 have HK := Lib.hid hK
 have hKB : BO < BI ∧ BI < K ∧ w1.heap.size ≤ BO := ⟨hlO, by omega, hBO⟩
 have HKB := Lib.hid hKB
 rw [hw3] at k3'
 clear hown hb2 hb3 hO3 hbn hz3 hlO hw3 hBI hK hKB hBO b2
 go_wp2_with fail
 rw [← HW3.out, ← HBI.out]
 clear k1 k3 k3' hmk
 have HS0 := Lib.hid (show SzMem P N K BI w3 w3 (fun _ => False) (fun _ => False) 0 0 0 (List.replicate N []) (List.replicate N (.slice none 0 0)) (.slice none 0 0) from ⟨UsesOk.start P N, HBN.out, GL.nil _ _, fun b h => h.elim, fun b h => h.elim, Only.refl _ _⟩)
 have HK3 := Lib.hid (show ∀ u : World, Only w3 u (fun b => b = BI ∨ K ≤ b) → u.cell? ⟨w.heap.size, 3, none⟩ = some (.slice AR nR cR) ∧ Own u w1.heap.size 3 1 (.slice (some ⟨BO, 0, none⟩) N c) N ((List.replicate N farZ).map (Value.int .i64)) ∧ Below w.heap.size w u from fun u hu => by
  have h1 := HKB.out
  have h2 := HB3.out.size
  have h3 := HZ1.out
  have h4 := HK.out
  have hb : Below w1.heap.size w1 u := HB3.out.trans (hu.below (B := w1.heap.size) (fun b e => by omega) (by omega))
  obtain ⟨⟨_, x2⟩, x3⟩ := HALL.out u hb
  exact ⟨x2, HO3.out.sameB fun g hg => hu.block g (by have := HO3.out.row hg; omega) (by
   obtain ⟨c0, rfl⟩ : ∃ c0, c = c0 + 1 := ⟨c - 1, by omega⟩
   have e : BO = g := by simpa [rowOf] using hg
   omega), x3⟩)
 go_loopg [5, 24] nR (fun gk v5 v24 wr => ∃ (k : Nat) (F G : Nat → Prop) (ls : List (List Int)) (vs : List Value), k ≤ nR ∧ gk = nR - k ∧ v24 = .int .i64 k ∧ SzMem P N K BI w3 wr F G k 0 k ls vs v5)
 case atStart => exact ⟨0, _, _, _, _, Nat.zero_le _, rfl, rfl, HS0.out⟩
 case round =>
  obtain ⟨k, F, G, ls, vs, hk, hgk, rfl, hsm⟩ := hrel
  obtain ⟨w4, rfl⟩ : ∃ w4 : World, w4 = wr := ⟨_, rfl⟩
  obtain ⟨A5, c5, hv5, hc5⟩ := hsm.wk.form
  rw [List.length_map, List.length_range] at hc5 hv5
  subst hv5
  have HGK := Lib.hid hgk
  have HSM := Lib.hid hsm
  clear hgk HS0
  by_cases hkl : k < nR
  ·
   have hkI : (k : Int) < (nR : Int) := by omega
   have hk0 : (0 : Int) ≤ (k : Int) := by omega
   obtain ⟨bl, ol, u1, u2, r, rfl, _, hrs, hok, hc1, hc2⟩ := HG.out.at2 (k := k) rfl hkl
   obtain ⟨A2, m, c2, h2, hsl⟩ := RRule.cells.1 hok
   injection h2 with e1 h2
   injection h2 with e2 _
   subst e1
   subst e2
   have hc2 : w.cell? ⟨bl, ol + k * 2 + 1, none⟩ = some (.slice A2 m c2) := hc2
   have hbw := (HK3.out w4 hsm.on).2.2
   have hc1 := (hbw.cell (cell_lt hc1)).trans hc1
   have hc2 := (hbw.cell (cell_lt hc2)).trans hc2
   have hm4 : m ≤ 4 := by rw [hsl.len]; exact HR4.out r (List.mem_of_getElem? hrs)
   have HRS := Lib.hid hrs
   have HSL := Lib.hid hsl.fit
   obtain ⟨lf, hlf⟩ : ∃ lf, lf = r.1 := ⟨_, rfl⟩
   rw [← hlf] at hc1
   clear hok hsl hrs hlf hsm hbw
   obtain ⟨w5, hw5⟩ : ∃ w5 : World, w5 = w4.alloc (.cells #[.int .i64 lf, .slice A2 m c2] 40) := ⟨_, rfl⟩
   have hb45 : Below w4.heap.size w4 w5 := by rw [hw5]; exact (Below.refl _ _).alloc (Nat.le_refl _) _
   have hbx : w5.heap[w4.heap.size]? = some (.cells #[.int .i64 lf, .slice A2 m c2] 40 (0, 0)) := by rw [hw5]; exact heap_alloc_new _ _
   have hs5 := HSM.out.fits hb45
   have hz4 : K ≤ w4.heap.size := by have := HSM.out.on.size; rw [HK.out]; exact this
   obtain ⟨A6, c6, w6, F6, hrun, hs6, ho6⟩ := hs5.work ⟨HKB.out.2.1, by have := hb45.size; omega⟩ (by omega)
   have hbx6 := (ho6.block _ (heap_lt hbx) (fun hF => by have := (HSM.out.fb _ hF).2.1; omega)).trans hbx
   have HS6 := Lib.hid hs6
   rw [hw5] at hrun
   simp only [World.size_alloc] at hrun
   have HRUN := Lib.hid hrun
   have y1 : w6.cell? ⟨w4.heap.size, 1, none⟩ = some (.slice A2 m c2) := by simp [World.cell?, hbx6]
   have hx0 := (HK3.out w4 HSM.out.on).1
   have hz6 : K ≤ w6.heap.size := by have := hs6.on.size; rw [HK.out]; exact this
   have HW5 := Lib.hid hw5
   clear hb45 hbx hs5 hs6 hrun ho6 hbx6 hw5
   go_wp2_with (at_builtin; refine Lib.wpList_append_run _ rfl _ _ _ _ rfl _ _ rfl rfl _ _ HRUN.out ?_)
   clear hx0 y1 hc1 hc2
   go_loopg [36] m (fun gj v36 wx => ∃ (j : Nat) (G : Nat → Prop) (ls : List (List Int)) (vs : List Value), j ≤ m ∧ gj = m - j ∧ v36 = .int .i64 j ∧ SzMem P N K BI w3 wx F6 G k j (k + 1) ls vs (.slice A6 (k + 1) c6))
   case atStart => exact ⟨0, _, _, _, Nat.zero_le _, rfl, rfl, HS6.out⟩
   case round =>
    obtain ⟨j, G2, ls2, vs2, hj, hgj, rfl, hsm⟩ := hrel
    obtain ⟨w7, rfl⟩ : ∃ w7 : World, w7 = wr := ⟨_, rfl⟩
    have HGJ := Lib.hid hgj
    have HSM7 := Lib.hid hsm
    have hz7 : K ≤ w7.heap.size := by have := hsm.on.size; rw [HK.out]; exact this
    clear hgj
    by_cases hjl : j < m
    ·
     have hjI : (j : Int) < (m : Int) := by omega
     have hj0 : (0 : Int) ≤ (j : Int) := by omega
     have hbw := (HK3.out w7 hsm.on).2.2
     obtain ⟨bs, os, u1, u2, s, rfl, _, hls, hok, hc1, hc2⟩ := (HSL.out.below hbw).at2 (k := j) rfl hjl
     have h2 := RSym.cells.1 hok
     injection h2 with e1 h2
     injection h2 with e2 _
     subst e1
     subst e2
     obtain ⟨tb, sx⟩ := s
     have hc1 : w7.cell? ⟨bs, os + j * 2, none⟩ = some (.bool tb) := hc1
     have hc2 : w7.cell? ⟨bs, os + j * 2 + 1, none⟩ = some (.int .i64 sx) := hc2
     have HLS := Lib.hid hls
     have hsN := (HF.out r (List.mem_of_getElem? HRS.out)).2 (tb, sx) (List.mem_of_getElem? hls)
     obtain ⟨w8, hw8⟩ : ∃ w8 : World, w8 = w7.alloc (.cells #[.bool tb, .int .i64 sx] 42) := ⟨_, rfl⟩
     have hb78 : Below w7.heap.size w7 w8 := by rw [hw8]; exact (Below.refl _ _).alloc (Nat.le_refl _) _
     have hbx : w8.heap[w7.heap.size]? = some (.cells #[.bool tb, .int .i64 sx] 42 (0, 0)) := by rw [hw8]; exact heap_alloc_new _ _
     have hs8 := hsm.fits hb78
     cases tb with
     | true =>
      have HS8 := Lib.hid (show SzMem P N K BI w3 w8 F6 G2 k (j + 1) (k + 1) ls2 vs2 _ from ⟨hs8.us.skip HRS.out HLS.out, hs8.bin, hs8.wk, hs8.fb, hs8.gb, hs8.on⟩)
      have HW8 := Lib.hid hw8
      clear hok hls hsm hbw hs8 hw8 hbx hb78 hsN
      go_wp2_with fail
      rw [← HW8.out]
      go_roundg (m - (j + 1))
      case measure => rw [HGJ.out]; omega
      case rel => exact ⟨j + 1, _, _, _, by omega, rfl, by go_num, HS8.out⟩
     | false =>
      obtain ⟨hs0, hs1⟩ := hsN rfl
      obtain ⟨b, rfl⟩ : ∃ b : Nat, sx = (b : Int) := ⟨sx.toNat, by simp only at hs0; omega⟩
      have hbN : b < N := by simp only at hs1; omega
      obtain ⟨wd, hwd⟩ : ∃ wd : World, wd = w8.drew := ⟨_, rfl⟩
      have hb7d : Below w7.heap.size w7 wd := by rw [hwd]; exact hb78.drew
      have hbx : wd.heap[w7.heap.size]? = some (.cells #[.bool false, .int .i64 (b : Int)] 42 (0, 0)) := by rw [hwd]; exact hbx
      obtain ⟨A, n, c9, A9, c9', w9, G9, ls9, vs9, hcl, hncl, hrun, hq1, hq2, hs9, ho9⟩ := (hsm.fits hb7d).use ⟨HKB.out.2.1, by have := hb7d.size; omega⟩ HRS.out hbN HLS.out (by omega) (by omega)
      have hbx9 := (ho9.block _ (heap_lt hbx) (fun hG => by have := (hsm.gb _ hG).2; omega)).trans hbx
      have HX0 := Lib.hid (show wd.cell? ⟨w7.heap.size, 1, none⟩ = some (.int .i64 (b : Int)) ∧ wd.cell? ⟨BI, b, none⟩ = some (.slice A n c9) from ⟨by simp [World.cell?, hbx], hcl⟩)
      have HX1 := Lib.hid (show (wd.alloc (.cells #[.int .i64 (k : Int)] 3)).cell? ⟨w7.heap.size, 1, none⟩ = some (.int .i64 (b : Int)) ∧ (wd.alloc (.cells #[.int .i64 (k : Int)] 3)).cell? ⟨BI, b, none⟩ = some (.slice A n c9) from ⟨by rw [World.cell?_alloc_lt _ _ _ (cell_lt HX0.out.1)]; exact HX0.out.1, by rw [World.cell?_alloc_lt _ _ _ (cell_lt hcl)]; exact hcl⟩)
      have HX9 := Lib.hid (show w9.cell? ⟨w7.heap.size, 1, none⟩ = some (.int .i64 (b : Int)) ∧ w9.cell? ⟨BI, b, none⟩ = some (.slice A n c9) from ⟨by simp [World.cell?, hbx9], hq1⟩)
      have HRUN9 := Lib.hid hrun
      have HFZ := Lib.hid hq2
      have HS9 := Lib.hid hs9
      have HW8 := Lib.hid hw8
      have HWD := Lib.hid hwd
      have HBN := Lib.hid hbN
      clear hok hls hsm hbw hs8 hw8 hb78 hs0 hs1 hsN hrun hs9 ho9 hbx9 hbx hb7d hwd hcl hq1 hq2
      go_wp2_with fail
      refine wp_region_late (late := [12]) (S1 := fun _ => True) (S := fun u => u.cell? ⟨w7.heap.size, 1, none⟩ = some (.int .i64 (b : Int)) ∧ u.cell? ⟨BI, b, none⟩ = some (.slice A n c9)) (by kernel_rfl) ?_
      rw [← HW8.out, ← HWD.out]
      refine wpAnyL_pure (i := 0) rfl (by kernel_rfl) (fun _ _ _ h => h) (Or.inl ⟨by rfl, (fun u hu => by go_simp; try rfl)⟩) trivial (fun _ => (HX0.out)) ?_
      simp only [Act.put, List.setIfInBounds_toArray, List.set_cons_zero, List.set_cons_succ, List.getElem_toArray, List.getElem_cons_zero, List.getElem_cons_succ]
      refine wpAnyL_pure (i := 1) rfl (by kernel_rfl) (fun _ _ _ h => h) (Or.inl ⟨by rfl, (fun u hu => by go_simp; try rfl)⟩) trivial (fun _ => (HX0.out)) ?_
      simp only [Act.put, List.setIfInBounds_toArray, List.set_cons_zero, List.set_cons_succ, List.getElem_toArray, List.getElem_cons_zero, List.getElem_cons_succ]
      refine wpAnyL_take (i := 2) rfl (by kernel_rfl) (fun _ _ _ h => h) (Or.inl ⟨by rfl, (fun u hu => by obtain ⟨_, hu1, hu2⟩ := hu; go_simp; try rfl)⟩) trivial (fun _ => (HX0.out)) ?_
      simp only [Act.put, List.setIfInBounds_toArray, List.set_cons_zero, List.set_cons_succ, List.getElem_toArray, List.getElem_cons_zero, List.getElem_cons_succ]
      refine wpAnyL_pure (i := 3) rfl (by kernel_rfl) (fun _ _ _ h => h) (Or.inl ⟨by rfl, (fun u hu => by go_simp; try rfl)⟩) trivial (fun _ => (HX0.out)) ?_
      simp only [Act.put, List.setIfInBounds_toArray, List.set_cons_zero, List.set_cons_succ, List.getElem_toArray, List.getElem_cons_zero, List.getElem_cons_succ]
      refine wpAnyL_pure (i := 4) rfl (by kernel_rfl) (fun _ _ _ h => h) (Or.inl ⟨by rfl, (fun u hu => by go_simp; try rfl)⟩) trivial (fun _ => (HX0.out)) ?_
      simp only [Act.put, List.setIfInBounds_toArray, List.set_cons_zero, List.set_cons_succ, List.getElem_toArray, List.getElem_cons_zero, List.getElem_cons_succ]
      refine wpAnyL_take (i := 5) rfl (by kernel_rfl) (fun _ _ _ h => h) (Or.inl ⟨by rfl, (fun u hu => by obtain ⟨_, hu1, hu2⟩ := hu; go_simp; try rfl)⟩) trivial (fun _ => (HX0.out)) ?_
      simp only [Act.put, List.setIfInBounds_toArray, List.set_cons_zero, List.set_cons_succ, List.getElem_toArray, List.getElem_cons_zero, List.getElem_cons_succ]
      refine wpAnyL_pure (i := 6) rfl (by kernel_rfl) (fun _ _ _ h => h) (Or.inl ⟨by rfl, (fun u hu => by go_simp; try rfl)⟩) trivial (fun _ => (HX0.out)) ?_
      simp only [Act.put, List.setIfInBounds_toArray, List.set_cons_zero, List.set_cons_succ, List.getElem_toArray, List.getElem_cons_zero, List.getElem_cons_succ]
      refine wpAnyL_take (i := 7) rfl (by kernel_rfl) (fun _ _ _ h => h) (Or.inl ⟨by rfl, (fun u hu => by obtain ⟨_, hu1, hu2⟩ := hu; go_simp; try rfl)⟩) trivial (fun _ => (HX0.out)) ?_
      simp only [Act.put, List.setIfInBounds_toArray, List.set_cons_zero, List.set_cons_succ, List.getElem_toArray, List.getElem_cons_zero, List.getElem_cons_succ]
      refine wpAnyL_pure (i := 8) rfl (by kernel_rfl) (fun _ _ _ h => h) (Or.inl ⟨by rfl, (fun u hu => by go_simp; try rfl)⟩) trivial (fun _ => (HX0.out)) ?_
      simp only [Act.put, List.setIfInBounds_toArray, List.set_cons_zero, List.set_cons_succ, List.getElem_toArray, List.getElem_cons_zero, List.getElem_cons_succ]
      refine wpAnyL_ready (rs := [9]) (by kernel_rfl) (by simp) ?_
      refine AllL.cons rfl (fun K hK => ?_) ?_
      ·
       go_simp
       refine hK.out _ _ trivial (fun _ => (HX1.out)) ?_
       clear hK K
       refine wpAnyL_ready (rs := [10]) (by kernel_rfl) (by simp) ?_
       refine AllL.cons rfl (fun K hK => ?_) ?_
       ·
        refine step_append_run _ (by rfl) _ _ _ _ (by rfl) _ _ (by rfl) (by rfl) _ _ HRUN9.out ?_
        simp only [Act.put, List.setIfInBounds_toArray, List.set_cons_zero, List.set_cons_succ, List.getElem_toArray, List.getElem_cons_zero, List.getElem_cons_succ]
        refine hK.out _ _ trivial (fun _ => (HX9.out)) ?_
        clear hK K
        refine wpAnyL_pure (i := 11) rfl (by kernel_rfl) (fun _ _ _ h => h) (Or.inl ⟨by rfl, (fun u hu => by go_simp; try rfl)⟩) trivial (fun _ => (HX9.out)) ?_
        simp only [Act.put, List.setIfInBounds_toArray, List.set_cons_zero, List.set_cons_succ, List.getElem_toArray, List.getElem_cons_zero, List.getElem_cons_succ]
        refine wpAnyL_ready (rs := [12]) (by kernel_rfl) (by simp) ?_
        refine AllL.cons rfl (fun K hK => ?_) ?_
        ·
         have hc9 := HX9.out.2
         have hf9 := HFZ.out
         go_simp
         clear hc9 hf9
         refine hK.out _ _ trivial (fun h => absurd (h 12 (by simp)) (by decide)) ?_
         clear hK K
         refine wpAnyL_done (by kernel_rfl) ?_ _
         go_wp2_with fail
         go_roundg (m - (j + 1))
         case measure => rw [HGJ.out]; omega
         case rel => exact ⟨j + 1, _, _, _, by omega, rfl, by go_num, HS9.out⟩
        exact AllL.nil
       exact AllL.nil
      exact AllL.nil
    ·
     obtain rfl : j = m := by omega
     have HS8 := Lib.hid (show SzMem P N K BI w3 w7 F6 G2 (k + 1) 0 (k + 1) ls2 vs2 _ from ⟨hsm.us.next HRS.out HSL.out.len.symm (by omega), hsm.bin, hsm.wk, hsm.fb, hsm.gb, hsm.on⟩)
     clear hsm
     go_wp2_with fail
     go_roundg (nR - (k + 1))
     case measure => rw [HGK.out]; omega
     case rel => exact ⟨k + 1, _, _, _, _, by omega, rfl, by go_num, HS8.out⟩
  ·
   obtain rfl : k = nR := by omega
   have hz4 : K ≤ w4.heap.size := by have := hsm.on.size; rw [HK.out]; exact this
   have hbin := hsm.bin
   have hfb := hsm.fb
   have hgb := hsm.gb
   have hb4 := (HK3.out w4 hsm.on).2.2
   have HU := Lib.hid (show UsesOk P N P.length 0 ls by rw [← HNR.out]; exact hsm.us)
   have HQ0 := Lib.hid (show QF w4 F (.slice A5 k c5) (q0 P N).2 by unfold q0; rw [← HNR.out]; exact QF.of_gl hsm.wk)
   obtain ⟨M, hM⟩ : ∃ M, M = w4.heap.size := ⟨_, rfl⟩
   have HM := Lib.hid hM
   have hO4 := (HK3.out w4 hsm.on).2.1
   have HO4 := Lib.hid (show Own w4 w1.heap.size 3 1 (.slice (some ⟨BO, 0, none⟩) N c) N ((q0 P N).1.map (Value.int .i64)) from hO4)
   obtain ⟨q00, hq00⟩ : ∃ q00, q00 = q0 P N := ⟨_, rfl⟩
   have HQI := Lib.hid (show QInv P N q00 by rw [hq00]; exact QInv.start P N)
   rw [← hq00] at HQ0 HO4
   have HQQ := Lib.hid (show ∀ n, (qN P ls q00 n).2.length ≤ maxQ by rw [hq00]; exact HQ.out ls HU.out)
   have hlen0 : q00.2.length = k := by rw [hq00]; simp [q0, HNR.out]
   have HL0 := Lib.hid hlen0
   have hk3 := (HK3.out w4 hsm.on).1
   clear hsm hO4 hq00 hlen0 hM
   have HBI4 := Lib.hid hbin
   have HX4 := Lib.hid (show ∀ b, (b = BO ∨ F b) → ¬ G b ∧ b ≠ BI from fun b hb => by
    have h1 := HKB.out
    rcases hb with rfl | hb
    ·
     exact ⟨fun hG => by have := (hgb _ hG).1; omega, by omega⟩
    ·
     have := hfb b hb
     exact ⟨this.2.2, by omega⟩)
   have HFM := Lib.hid (show ∀ b, F b → K ≤ b ∧ b < M from fun b hb => by have := hfb b hb; rw [HM.out]; exact ⟨this.1, this.2.1⟩)
   have HK4 := Lib.hid (show ∀ u : World, Only w4 u (fun b => b = BO ∨ F b) → u.cell? ⟨w.heap.size, 3, none⟩ = some (.slice AR k cR) ∧ Below w.heap.size w u from fun u hu => by
    have h1 := HKB.out
    have h2 := HB3.out.size
    have h3 := HZ1.out
    have hb : Below (w.heap.size + 1) w4 u := hu.below (B := w.heap.size + 1) (fun b e => by
     rcases e with rfl | e
     ·
      omega
     ·
      have := (HFM.out b e).1; omega) (by have := HK.out; omega)
    exact ⟨by rw [hb.cell (by show w.heap.size < w.heap.size + 1; omega)]; exact hk3, hb4.trans (hb.mono (by omega))⟩)
   clear hbin hfb hgb hb4
   go_wp2_with fail
   clear hk3
   go_loopg [5] (qMea P q00) (fun gk v5 wr => ∃ (n : Nat) (F2 : Nat → Prop), gk = qMea P (qN P ls q00 n) ∧ QInv P N (qN P ls q00 n) ∧ QF wr F2 v5 (qN P ls q00 n).2 ∧ Own wr w1.heap.size 3 1 (.slice (some ⟨BO, 0, none⟩) N c) N ((qN P ls q00 n).1.map (Value.int .i64)) ∧ (∀ b, F2 b → F b ∨ M ≤ b) ∧ Only w4 wr (fun b => b = BO ∨ F b))
   case atStart => exact ⟨0, F, rfl, HQI.out, HQ0.out, HO4.out, fun b h => .inl h, .refl _ _⟩
   case round =>
    obtain ⟨n, F2, hgk, hqi, hqf, hown, hF2, hon⟩ := hrel
    obtain ⟨w5, rfl⟩ : ∃ w5 : World, w5 = wr := ⟨_, rfl⟩
    obtain ⟨s, hs⟩ : ∃ s, s = qN P ls q00 n := ⟨_, rfl⟩
    rw [← hs] at hgk hqi hqf hown
    have HSN := Lib.hid hs
    have hfew : s.2.length ≤ maxQ := by rw [hs]; exact HQQ.out n
    have hfew1 : (qS P ls s).2.length ≤ maxQ := by rw [hs]; exact HQQ.out (n + 1)
    have HGK := Lib.hid hgk
    have HQI5 := Lib.hid hqi
    have HO5 := Lib.hid hown
    have HF2 := Lib.hid hF2
    have HON := Lib.hid hon
    clear hgk hF2 hs
    obtain ⟨o, q⟩ := s
    cases q with
    | nil =>
     obtain ⟨A8, c8, hv5, _⟩ := hqf.form
     have hv5 : _ = Value.slice A8 0 c8 := hv5
     subst hv5
     clear hqi hqf hown hon hfew hfew1
     go_wp2_with fail
     go_ret
     have h1 := HKB.out
     have h3 := HZ1.out
     exact ⟨⟨BO, c, o, rfl, hc, by omega, HQI5.out.len, HQI5.out.rng, HQI5.out.fin, HO5.out.mono (by omega)⟩, (HK4.out w5 HON.out).2⟩
    | cons i q =>
     obtain ⟨g, off, off', cap, hv5, hcap, hFg, hcell, hsr, hqf2⟩ := hqf.pop
     subst hv5
     obtain ⟨r, a, hr, hra, haN, hqi2, hqm, hstep⟩ := qS_step HF.out HU.out hqi
     obtain ⟨hi0, hi1⟩ := hqi.qr i List.mem_cons_self
     obtain ⟨i, rfl⟩ : ∃ i' : Nat, i = (i' : Int) := ⟨i.toNat, by omega⟩
     rw [Int.toNat_natCast] at hr
     have hik : i < k := by rw [HNR.out]; omega
     obtain ⟨bl, ol, u1, u2, r', rfl, _, hrs, hok, hc1, hc2⟩ := HG.out.at2 (k := i) rfl hik
     rw [hr] at hrs
     obtain rfl : r = r' := Option.some.inj hrs
     obtain ⟨A2, m, c2, h2, hsl⟩ := RRule.cells.1 hok
     injection h2 with e1 h2
     injection h2 with e2 _
     subst e1
     subst e2
     have hc2 : w.cell? ⟨bl, ol + i * 2 + 1, none⟩ = some (.slice A2 m c2) := hc2
     have hk3 := (HK4.out w5 hon).1
     have hbw := (HK4.out w5 hon).2
     rw [hra] at hc1
     have hc1 := (hbw.cell (cell_lt hc1)).trans hc1
     have hc2 := (hbw.cell (cell_lt hc2)).trans hc2
     have hm4 : m ≤ 4 := by rw [hsl.len]; exact HR4.out r (List.mem_of_getElem? hr)
     have HSL := Lib.hid hsl.fit
     have HQI2 := Lib.hid hqi2
     have HQM := Lib.hid hqm
     have HST := Lib.hid hstep
     have HQF := Lib.hid hqf2
     have hq0 : 0 < q.length + 1 := by omega
     obtain ⟨ql, hql⟩ : ∃ ql, ql = q.length := ⟨_, rfl⟩
     rw [← hql] at hq0 hcap hsr HQF ⊢
     have HQL := Lib.hid hql
     have hql1 : ql + 1 ≤ maxQ := by rw [hql]; exact hfew
     have hqlI : (0 : Int) < (ql : Int) + 1 := by omega
     have hqlI2 : decide ((0 : Int) < (ql : Int) + 1) = true := by rw [decide_eq_true_eq]; exact hqlI
     have hqlN : decide (0 < ql + 1) = true := by simp
     have HRR := Lib.hid hr
     have HRA := Lib.hid hra
     have hikI : (i : Int) < (k : Int) := by omega
     have hi0I : (0 : Int) ≤ (i : Int) := by omega
     have HX0 := Lib.hid (show w5.drew.cell? ⟨w.heap.size, 3, none⟩ = some (.slice (some ⟨bl, ol, none⟩) k cR) ∧ w5.drew.cell? ⟨g, off, none⟩ = some (.int .i64 (i : Int)) ∧ w5.drew.cell? ⟨bl, ol + i * 2, none⟩ = some (.int .i64 (a : Int)) ∧ w5.drew.cell? ⟨bl, ol + i * 2 + 1, none⟩ = some (.slice A2 m c2) from ⟨hk3, hcell, hc1, hc2⟩)
     obtain ⟨wd, hwd⟩ : ∃ wd : World, wd = w5.drew := ⟨_, rfl⟩
     have hb5d : Below w5.heap.size w5 wd := by rw [hwd]; exact (Below.refl _ _).drew
     rw [← hwd] at HX0
     have HX1 := Lib.hid (show ∀ o, (wd.alloc o).cell? ⟨w.heap.size, 3, none⟩ = some (.slice (some ⟨bl, ol, none⟩) k cR) ∧ (wd.alloc o).cell? ⟨g, off, none⟩ = some (.int .i64 (i : Int)) ∧ (wd.alloc o).cell? ⟨bl, ol + i * 2, none⟩ = some (.int .i64 (a : Int)) ∧ (wd.alloc o).cell? ⟨bl, ol + i * 2 + 1, none⟩ = some (.slice A2 m c2) from fun o => by
      obtain ⟨h1, h2, h3, h4⟩ := HX0.out
      exact ⟨by rw [World.cell?_alloc_lt _ _ _ (cell_lt h1)]; exact h1, by rw [World.cell?_alloc_lt _ _ _ (cell_lt h2)]; exact h2, by rw [World.cell?_alloc_lt _ _ _ (cell_lt h3)]; exact h3, by rw [World.cell?_alloc_lt _ _ _ (cell_lt h4)]; exact h4⟩)
     obtain ⟨w6, hw6⟩ : ∃ w6 : World, w6 = wd.alloc (.cells #[.int .i64 (a : Int), .slice A2 m c2] 40) := ⟨_, rfl⟩
     have HW6 := Lib.hid hw6
     have HWD := Lib.hid hwd
     obtain ⟨B6, hB6⟩ : ∃ B6, B6 = wd.heap.size := ⟨_, rfl⟩
     have HBX := Lib.hid (show w6.heap[B6]? = some (.cells #[.int .i64 (a : Int), .slice A2 m c2] 40 (0, 0)) by rw [hw6, hB6]; exact heap_alloc_new _ _)
     have hb56 : Below w5.heap.size w5 w6 := by rw [hw6]; exact hb5d.alloc hb5d.size _
     have HB56 := Lib.hid hb56
     have HB6 := Lib.hid hB6
     clear hqi hqf hown hfew hqf2 hqi2 hqm hstep hrs hok hsl hr hra hql hi1 hon hbw hw6 hcell hk3 hc1 hc2 hwd hb5d hb56 hB6
     go_wp2_with fail
     refine wp_region_late (late := [8]) (S1 := fun _ => True) (S := fun u => u.cell? ⟨w.heap.size, 3, none⟩ = some (.slice (some ⟨bl, ol, none⟩) k cR) ∧ u.cell? ⟨g, off, none⟩ = some (.int .i64 (i : Int)) ∧ u.cell? ⟨bl, ol + i * 2, none⟩ = some (.int .i64 (a : Int)) ∧ u.cell? ⟨bl, ol + i * 2 + 1, none⟩ = some (.slice A2 m c2)) (by kernel_rfl) ?_
     rw [← HWD.out]
     refine wpAnyL_pure (i := 0) rfl (by kernel_rfl) (fun _ _ _ h => h) (Or.inl ⟨by rfl, (fun u hu => by go_simp; try rfl)⟩) trivial (fun _ => HX0.out) ?_
     simp only [Act.put, List.setIfInBounds_toArray, List.set_cons_zero, List.set_cons_succ, List.getElem_toArray, List.getElem_cons_zero, List.getElem_cons_succ]
     refine wpAnyL_take (i := 1) rfl (by kernel_rfl) (fun _ _ _ h => h) (Or.inl ⟨by rfl, (fun u hu => by obtain ⟨_, hu1, hu2, hu3, hu4⟩ := hu; go_simp; try rfl)⟩) trivial (fun _ => HX0.out) ?_
     simp only [Act.put, List.setIfInBounds_toArray, List.set_cons_zero, List.set_cons_succ, List.getElem_toArray, List.getElem_cons_zero, List.getElem_cons_succ]
     refine wpAnyL_pure (i := 2) rfl (by kernel_rfl) (fun _ _ _ h => h) (Or.inl ⟨by rfl, (fun u hu => by go_simp; try rfl)⟩) trivial (fun _ => HX0.out) ?_
     simp only [Act.put, List.setIfInBounds_toArray, List.set_cons_zero, List.set_cons_succ, List.getElem_toArray, List.getElem_cons_zero, List.getElem_cons_succ]
     refine wpAnyL_pure (i := 3) rfl (by kernel_rfl) (fun _ _ _ h => h) (Or.inl ⟨by rfl, (fun u hu => by go_simp; try rfl)⟩) trivial (fun _ => HX0.out) ?_
     simp only [Act.put, List.setIfInBounds_toArray, List.set_cons_zero, List.set_cons_succ, List.getElem_toArray, List.getElem_cons_zero, List.getElem_cons_succ]
     refine wpAnyL_take (i := 4) rfl (by kernel_rfl) (fun _ _ _ h => h) (Or.inl ⟨by rfl, (fun u hu => by obtain ⟨_, hu1, hu2, hu3, hu4⟩ := hu; go_simp; try rfl)⟩) trivial (fun _ => HX0.out) ?_
     simp only [Act.put, List.setIfInBounds_toArray, List.set_cons_zero, List.set_cons_succ, List.getElem_toArray, List.getElem_cons_zero, List.getElem_cons_succ]
     refine wpAnyL_pure (i := 5) rfl (by kernel_rfl) (fun _ _ _ h => h) (Or.inl ⟨by rfl, (fun u hu => by go_simp; try rfl)⟩) trivial (fun _ => HX0.out) ?_
     simp only [Act.put, List.setIfInBounds_toArray, List.set_cons_zero, List.set_cons_succ, List.getElem_toArray, List.getElem_cons_zero, List.getElem_cons_succ]
     refine wpAnyL_take (i := 6) rfl (by kernel_rfl) (fun _ _ _ h => h) (Or.inl ⟨by rfl, (fun u hu => by obtain ⟨_, hu1, hu2, hu3, hu4⟩ := hu; go_simp; try rfl)⟩) trivial (fun _ => HX0.out) ?_
     simp only [Act.put, List.setIfInBounds_toArray, List.set_cons_zero, List.set_cons_succ, List.getElem_toArray, List.getElem_cons_zero, List.getElem_cons_succ]
     refine wpAnyL_ready (rs := [7]) (by kernel_rfl) (by simp) ?_
     refine AllL.cons rfl (fun K hK => ?_) ?_
     ·
      go_simp
      refine hK.out _ _ trivial (fun _ => (HX1.out _)) ?_
      clear hK K
      refine wpAnyL_ready (rs := [8]) (by kernel_rfl) (by simp) ?_
      refine AllL.cons rfl (fun K hK => ?_) ?_
      ·
       go_simp
       refine hK.out _ _ trivial (fun h => absurd (h 8 (by simp)) (by decide)) ?_
       clear hK K
       refine wpAnyL_done (by kernel_rfl) ?_ _
       go_wp2_with fail
       rw [← HW6.out, ← HB6.out]
       clear hsr
       have HRG := Lib.hid HQI5.out.rng
       go_loopg [11, 72] m (fun gj v11 v72 wx => ∃ (j : Nat) (x : Int), j ≤ m ∧ gj = m - j ∧ v72 = .int .i64 j ∧ v11 = .int .i64 x ∧ x = (r.2.take j).foldl (addS o) 0 ∧ Below w6.heap.size w6 wx)
       case atStart => exact ⟨0, 0, Nat.zero_le _, rfl, rfl, rfl, rfl, .refl _ _⟩
       case round =>
        obtain ⟨j, nv, hj, hgj, rfl, rfl, hnv, hb67⟩ := hrel
        obtain ⟨w7, rfl⟩ : ∃ w7 : World, w7 = wr := ⟨_, rfl⟩
        have HGJ := Lib.hid hgj
        have HNV := Lib.hid hnv
        have hnvE := hnv
        have hnvr : 0 ≤ nv ∧ nv ≤ 1099511627780 := by rw [hnv]; exact foldS_rng HRG.out r.2 (by rw [← HSL.out.len]; exact hm4) j
        obtain ⟨hnv0, hnv1⟩ := hnvr
        have hb57 : Below w5.heap.size w5 w7 := HB56.out.trans (hb67.mono HB56.out.size)
        have HB57 := Lib.hid hb57
        have HB67 := Lib.hid hb67
        clear hgj hnv hb67
        by_cases hjl : j < m
        ·
         clear hnvE
         have hjI : (j : Int) < (m : Int) := by omega
         have hj0 : (0 : Int) ≤ (j : Int) := by omega
         have hbw : Below w.heap.size w w7 := (HK4.out w5 HON.out).2.trans (hb57.mono (HK4.out w5 HON.out).2.size)
         obtain ⟨bs, os, u1, u2, s, rfl, _, hls, hok, hc1, hc2⟩ := (HSL.out.below hbw).at2 (k := j) rfl hjl
         have h2 := RSym.cells.1 hok
         injection h2 with e1 h2
         injection h2 with e2 _
         subst e1
         subst e2
         obtain ⟨tb, sx⟩ := s
         have hc1 : w7.cell? ⟨bs, os + j * 2, none⟩ = some (.bool tb) := hc1
         have hc2 : w7.cell? ⟨bs, os + j * 2 + 1, none⟩ = some (.int .i64 sx) := hc2
         have hsN := (HF.out r (List.mem_of_getElem? HRR.out)).2 (tb, sx) (List.mem_of_getElem? hls)
         have hfs := foldS_succ (o := o) hls
         rw [← HNV.out] at hfs
         cases tb with
         | true =>
          rw [addS_term] at hfs
          have HFS := Lib.hid hfs
          have hwrap : IntKind.i64.wrap (nv + 1) = nv + 1 := IntWalk.i64_in _ (by omega)
          clear hok hls hbw hsN hfs hb57
          go_wp2_with fail
          go_roundg (m - (j + 1))
          case measure => rw [HGJ.out]; omega
          case rel => exact ⟨j + 1, _, by omega, rfl, by go_num, rfl, HFS.out.symm, HB67.out.alloc HB67.out.size _⟩
         | false =>
          obtain ⟨hs0, hs1⟩ := hsN rfl
          obtain ⟨b, rfl⟩ : ∃ b : Nat, sx = (b : Int) := ⟨sx.toNat, by simp only at hs0; omega⟩
          have hbN : b < N := by simp only at hs1; omega
          obtain ⟨hcq, _⟩ := (HO5.out.below hb57 (Nat.le_refl _)).at_ (x := b) hbN
          have hob : o[b]? = some (o.getD b farZ) := by rw [List.getD_eq_getElem?_getD, List.getElem?_eq_getElem (by have := HQI5.out.len; simp only at this; omega)]; rfl
          obtain ⟨ov, hov⟩ : ∃ ov, ov = o.getD b farZ := ⟨_, rfl⟩
          rw [addS_non, Int.toNat_natCast, ← hov] at hfs
          rw [← hov] at hob
          have hco : w7.cell? ⟨BO, b, none⟩ = some (.int .i64 ov) := by rw [hcq, List.getElem?_map, hob]; rfl
          clear hcq
          have hor : 0 ≤ ov ∧ ov ≤ 1099511627776 := HRG.out ov (List.mem_of_getElem? hob)
          obtain ⟨ho0, ho1⟩ := hor
          have hlo := cell_lt hco
          have HFS := Lib.hid (show (r.2.take (j + 1)).foldl (addS o) 0 = min (nv + ov) 1099511627776 from hfs)
          have hwrap : IntKind.i64.wrap (nv + ov) = nv + ov := IntWalk.i64_in _ (by omega)
          have hb0 : (0 : Int) ≤ (b : Int) := by omega
          have hbI : (b : Int) < (N : Int) := by omega
          clear hok hls hbw hsN hfs hb57 hs0 hs1 hob hov
          go_wp2_with fail
          go_roundg (m - (j + 1))
          case measure => rw [HGJ.out]; omega
          case rel => exact ⟨j + 1, _, by omega, rfl, by go_num, rfl, HFS.out.symm, HB67.out.alloc HB67.out.size _⟩
        ·
         obtain rfl : j = m := by omega
         have hsum : sumS o r.2 = nv := by rw [hnvE, HSL.out.len, List.take_length]; rfl
         clear hnvE
         have hbx := (HB67.out.block _ (heap_lt HBX.out)).trans HBX.out
         have z0 : w7.cell? ⟨B6, 0, none⟩ = some (.int .i64 (a : Int)) := by simp [World.cell?, hbx]
         have hO7 := HO5.out.below hb57 (Nat.le_refl _)
         obtain ⟨hcq, hfq, _, hBOs⟩ := hO7.at_ (x := a) haN
         have hoa : o[a]? = some (o.getD a farZ) := by rw [List.getD_eq_getElem?_getD, List.getElem?_eq_getElem (by have := HQI5.out.len; simp only at this; omega)]; rfl
         obtain ⟨ov, hov⟩ : ∃ ov, ov = o.getD a farZ := ⟨_, rfl⟩
         have HST2 := HST.out
         rw [hsum, ← hov] at HST2
         rw [← hov] at hoa
         have hco : w7.cell? ⟨BO, a, none⟩ = some (.int .i64 ov) := by rw [hcq, List.getElem?_map, hoa]; rfl
         have ha0 : (0 : Int) ≤ (a : Int) := by omega
         have haI : (a : Int) < (N : Int) := by omega
         have hz5 : M ≤ w5.heap.size := by have := HON.out.size; rw [HM.out]; exact this
         have hB6M : M ≤ B6 := by rw [HB6.out, HWD.out]; exact hz5
         have hBOM : BO < M := by have := HKB.out; have := HM.out; have := hz4; omega
         have HBM := Lib.hid (And.intro hB6M hBOM)
         have hQ7 := HQF.out.below hb57
         have HON7 := Lib.hid (HON.out.trans (Only.of_below hb57 (Nat.le_refl _) _))
         have HO7 := Lib.hid hO7
         have HQ7 := Lib.hid hQ7
         have HSTE := Lib.hid HST2
         clear hcq hoa hov hO7 hb57
         by_cases hlt : nv < ov
         ·
          obtain ⟨_, hqs⟩ : nv < ov ∧ qS P ls (o, (i : Int) :: q) = (o.set a nv, q ++ ls.getD a []) := by
           rcases HSTE.out with h | h
           ·
            exact h
           ·
            exact absurd hlt (by omega)
          have HQS := Lib.hid hqs
          obtain ⟨w8, hw8⟩ : ∃ w8 : World, w8 = w7.setCell ⟨BO, a, none⟩ (.int .i64 nv) := ⟨_, rfl⟩
          have ho78 : Only w7 w8 (fun b => b = BO) := by rw [hw8]; exact Only.set _ _ _ _ rfl
          have hon8 : Only w4 w8 (fun b => b = BO ∨ F b) := HON7.out.trans (ho78.more fun b _ e => .inl e)
          have hbin8 := HBI4.out.only hon8 (fun b hG _ hx => (HX4.out b hx).1 hG) (fun hx => (HX4.out BI hx).2 rfl)
          obtain ⟨Au, nu, cu, lu, _, hlu, hnu, hcu, hcellu, _, hrdu⟩ := hbin8.at_ (i := a) (by rw [HU.out.len]; exact haN)
          have hgdu : ls.getD a [] = lu := by rw [List.getD_eq_getElem?_getD, hlu]; rfl
          rw [hgdu] at hqs
          have hQ8 : QF w8 F2 (.slice (some ⟨g, off', none⟩) ql (cap - 1)) q := hQ7.only ho78 fun b hF _ e => by
           rcases HF2.out b hF with h | h
           ·
            have := (HFM.out b h).1
            have := HKB.out
            omega
           ·
            omega
          have hlen8 : q.length + nu ≤ maxQ := by
           rw [hqs] at hfew1
           simp only [List.length_append] at hfew1
           omega
          obtain ⟨A9, c9, w9, hrun, hQ9, ho89⟩ := hQ8.app (c := cu) hrdu hlen8 22
          rw [← HQL.out] at hrun hQ9
          have hO9 : Own w9 w1.heap.size 3 1 (.slice (some ⟨BO, 0, none⟩) N c) N ((o.set a nv).map (Value.int .i64)) := by
           have h1 : Own w8 w1.heap.size 3 1 (.slice (some ⟨BO, 0, none⟩) N c) N ((o.map (Value.int .i64)).set a (.int .i64 nv)) := by rw [hw8]; exact HO7.out.put haN _
           rw [← List.map_set] at h1
           refine h1.sameB fun g' hg' => ho89.block g' (h1.row hg').2 fun hF => ?_
           obtain ⟨c0, rfl⟩ : ∃ c0, c = c0 + 1 := ⟨c - 1, by omega⟩
           have e : BO = g' := by simpa [rowOf] using hg'
           rcases HF2.out g' hF with h | h
           ·
            have := (HFM.out g' h).1
            have := HKB.out
            omega
           ·
            omega
          have hon9 : Only w4 w9 (fun b => b = BO ∨ F b) := by
           have h2 : Only w8 w9 (fun b => F b ∨ M ≤ b) := ho89.more fun b _ hF => HF2.out b hF
           have h3 : Only w4 w9 (fun b => (b = BO ∨ F b) ∨ M ≤ b) := (hon8.more fun b _ h => .inl h).trans (h2.more fun b _ h => h.elim (fun h => .inl (.inr h)) .inr)
           exact h3.more fun b hb h => h.elim id fun h => by rw [HM.out] at h; omega
          have hz8 : w8.heap.size = w7.heap.size := by rw [hw8]; exact World.size_setCell _ _ _
          have HRUN := Lib.hid hrun
          have HQ9 := Lib.hid hQ9
          have HO9 := Lib.hid hO9
          have HON9 := Lib.hid hon9
          have HZ8 := Lib.hid hz8
          have HW8 := Lib.hid hw8
          have HGD := Lib.hid hgdu
          have z8 : w8.cell? ⟨B6, 0, none⟩ = some (.int .i64 (a : Int)) := by
           have h2 := ho78.block B6 (cell_lt z0) (by omega)
           simp [World.cell?, h2, hbx]
          have hz7 : M ≤ w7.heap.size := by have := HON7.out.size; rw [HM.out]; exact this
          have HZ7 := Lib.hid hz7
          rw [hw8] at z8 hcellu HRUN
          clear hQ7 ho78 hon8 hbin8 hlu hnu hgdu hqs hQ8 hlen8 hrun hQ9 ho89 hO9 hon9 hz8 hw8 hfew1 hsum hbx hz7 hrdu
          go_wp2_with (at_builtin; refine Lib.wpList_append_run _ rfl _ _ _ _ rfl _ _ rfl rfl _ _ HRUN.out ?_)
          go_roundg (qMea P (o.set a nv, q ++ lu))
          case measure =>
           have h1 := HQM.out
           rw [HQS.out, HGD.out] at h1
           rw [HGK.out]
           exact h1
          case rel =>
           have hnx : qN P ls q00 (n + 1) = (o.set a nv, q ++ lu) := by
            show qS P ls (qN P ls q00 n) = _
            rw [← HSN.out, HQS.out, HGD.out]
           have hi2 := HQI2.out
           rw [HQS.out, HGD.out] at hi2
           refine ⟨n + 1, _, by rw [hnx], by rw [hnx]; exact hi2, by rw [hnx]; exact HQ9.out, by rw [hnx]; exact HO9.out, fun b hb => ?_, HON9.out⟩
           rcases hb with hb | hb
           ·
            exact HF2.out b hb
           ·
            have := HZ8.out; have := HZ7.out; exact .inr (by omega)
         ·
          obtain ⟨_, hqs⟩ : ¬ nv < ov ∧ qS P ls (o, (i : Int) :: q) = (o, q) := by
           rcases HSTE.out with h | h
           ·
            exact absurd h.1 hlt
           ·
            exact ⟨hlt, h.2⟩
          have HQS := Lib.hid hqs
          clear hqs hfew1 hsum hbx hQ7
          go_wp2_with fail
          go_roundg (qMea P (o, q))
          case measure =>
           have h1 := HQM.out
           rw [HQS.out] at h1
           rw [HGK.out]
           exact h1
          case rel =>
           have hnx : qN P ls q00 (n + 1) = (o, q) := by
            show qS P ls (qN P ls q00 n) = _
            rw [← HSN.out, HQS.out]
           have hi2 := HQI2.out
           rw [HQS.out] at hi2
           exact ⟨n + 1, F2, by rw [hnx], by rw [hnx]; exact hi2, by rw [hnx]; exact HQ7.out, by rw [hnx]; exact HO7.out, HF2.out, HON7.out⟩
      exact AllL.nil
     exact AllL.nil
end Go.Proofs.Ytbmcoamdfpegnaa
