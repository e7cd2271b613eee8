/- ApxComp -/
import Derived.Test.YtocbkccchnbmaaaGreatAw11
import Derived.Test.YtocbkccchnbmaaaGreatAw13
namespace Go.Proofs.YtocbkccchnbmaaaGreat
open Go.RowKit
def compK (D : Nat → Nat → Bool) (n k : Nat) : List Int := ((List.range k).filter fun m => m == n || (D n m && D m n)).map fun m : Nat => (m : Int)
theorem compK_succ (D : Nat → Nat → Bool) (n k : Nat) : compK D n (k + 1) = if (k == n || (D n k && D k n)) = true then compK D n k ++ [(k : Int)] else compK D n k := by
 unfold compK
 rw [List.range_succ, List.filter_append, List.map_append]
 by_cases h : (k == n || (D n k && D k n)) = true
 ·
  rw [if_pos h, List.filter_cons_of_pos (p := fun m => m == n || (D n m && D m n)) h]; rfl
 ·
  rw [if_neg h, List.filter_cons_of_neg (p := fun m => m == n || (D n m && D m n)) h]; simp
theorem compK_len (D : Nat → Nat → Bool) (n k : Nat) : (compK D n k).length ≤ k := by
 unfold compK
 rw [List.length_map]
 exact Nat.le_trans (List.length_filter_le _ _) (by simp)
theorem compK_mem {D : Nat → Nat → Bool} {n k : Nat} {x : Int} : x ∈ compK D n k ↔ ∃ m : Nat, m < k ∧ x = (m : Int) ∧ (m = n ∨ (D n m = true ∧ D m n = true)) := by
 unfold compK
 rw [List.mem_map]
 constructor
 ·
  rintro ⟨m, hm, rfl⟩
  rw [List.mem_filter, List.mem_range] at hm
  exact ⟨m, hm.1, rfl, by simpa using hm.2⟩
 ·
  rintro ⟨m, h1, rfl, h2⟩
  exact ⟨m, by rw [List.mem_filter, List.mem_range]; exact ⟨h1, by simpa using h2⟩, rfl⟩
def KindP (R : List RuleD) (c : List Int) (k : Int) : Prop :=
 (k = 0 ∧ OnlyP R c plLast) ∨ (k = 1 ∧ ¬ OnlyP R c plLast ∧ OnlyP R c plFirst) ∨ (k = 2 ∧ ¬ OnlyP R c plLast ∧ ¬ OnlyP R c plFirst)
structure CompsU (R : List RuleD) (D : Nat → Nat → Bool) (N k : Nat) (cs : List CompD) : Prop where
 each : ∀ c ∈ cs, KindP R c.2 c.1 ∧ ∃ n, n < N ∧ c.2 = compK D n N
 all : ∀ n, n < k → ∃ c ∈ cs, (n : Int) ∈ c.2
 few : cs.length ≤ k
structure CoSt (w : World) (H0 N K : Nat) (gc : Array Value) (D : Nat → Nat → Bool) (vO : Value) (cs : List CompD) (wr : World) : Prop where
 grd : Grid Value.bool 4 wr H0 (H0 + 1 + N) H0 (fun i => H0 + 1 + i) N N D
 gb : wr.heap[w.heap.size]? = some (.cells gc 25 (0, 0))
 out : GL RComp 57 wr (fun b => H0 + 1 + N ≤ b ∧ b < K) vO cs
 lt : w.heap.size < H0
 sz : H0 + 1 + N ≤ K
 ksz : K ≤ wr.heap.size
 bel : Below w.heap.size w wr
section
variable {w wr w' : World} {H0 N K : Nat} {gc : Array Value} {D : Nat → Nat → Bool} {vO : Value} {cs : List CompD}
theorem CoSt.only {X : Nat → Prop} (h : CoSt w H0 N K gc D vO cs wr) (ho : Only wr w' X) (hX : ∀ b, X b → K ≤ b) : CoSt w H0 N K gc D vO cs w' := by
 have h1 := h.lt
 have h2 := h.sz
 have h3 := h.ksz
 exact ⟨h.grd.keep fun q _ hq => ho.block q (by omega) (fun hx => by have := hX q hx; omega), (ho.block _ (by omega) (fun hx => by have := hX _ hx; omega)).trans h.gb, h.out.only ho fun b hb _ hx => by have := hX b hx; omega, h1, h2, Nat.le_trans h3 ho.size,
  h.bel.trans (ho.below (B := w.heap.size) (fun b hx => by have := hX b hx; omega) (by omega))⟩
theorem CoSt.below (h : CoSt w H0 N K gc D vO cs wr) (hb : Below wr.heap.size wr w') : CoSt w H0 N K gc D vO cs w' := h.only (X := fun _ => False) (.of_below hb (Nat.le_refl _) _) (fun _ => False.elim)
theorem CoSt.top (h : CoSt w H0 N K gc D vO cs wr) : CoSt w H0 N wr.heap.size gc D vO cs wr := by
 have h2 := h.sz
 have h3 := h.ksz
 exact ⟨h.grd, h.gb, h.out.fit.more fun b hb => ⟨hb.1.1, hb.2⟩, h.lt, by omega, Nat.le_refl _, h.bel⟩
end
theorem box_push {u : World} {Bc : Nat} {kd : Int} {A : Option Addr} {c : Nat} {l : List Int} (hc : u.heap[Bc]? = some (.cells #[.int .i64 kd, .slice A l.length c] 57 (0, 0))) (hl : GL Rep.int 3 u (fun b => Bc < b) (.slice A l.length c) l) (hll : l.length ≤ 1000) (x : Int) :
    ∃ A' c' u', (Builtin.append_ #[22, 22] 22 #[.slice A l.length c, .slice (some ⟨u.heap.size, 0, none⟩) 1 1]).run Tryz.prog (u.alloc (.cells #[.int .i64 x] 3)) = .ok (.slice A' (l.length + 1) c') u' ∧ u'.frozen? ⟨Bc, 1, none⟩ = false ∧ u'.cell? ⟨Bc, 1, none⟩ = some (.slice A l.length c) ∧
     Only u (u'.setCell ⟨Bc, 1, none⟩ (.slice A' (l.length + 1) c')) (fun b => Bc ≤ b) ∧ (u'.setCell ⟨Bc, 1, none⟩ (.slice A' (l.length + 1) c')).heap[Bc]? = some (.cells #[.int .i64 kd, .slice A' (l.length + 1) c'] 57 (0, 0)) ∧
     GL Rep.int 3 (u'.setCell ⟨Bc, 1, none⟩ (.slice A' (l.length + 1) c')) (fun b => Bc < b) (.slice A' (l.length + 1) c') (l ++ [x]) := by
 have hlt := heap_lt hc
 obtain ⟨A', c', u', hrun, hgl, hg, hrow⟩ := hl.push (P := Tryz.prog) tInts rfl (G := fun _ => False) (x := x) (ys := [.int .i64 x]) rfl (fun _ => False.elim) (by omega) (by omega) 22
 have hb : u'.heap[Bc]? = some (.cells #[.int .i64 kd, .slice A l.length c] 57 (0, 0)) := by
  rw [hg.block Bc (by simp; omega) (fun e => by have := hl.row _ e.symm; omega)]
  exact (Below.heap_alloc _ _ _ hlt).trans hc
 refine ⟨A', c', u', hrun, by simp [World.frozen?, hb], by simp [World.cell?, hb], ?_, ?_, ?_⟩
 ·
  exact ((Only.alloc u _ _).trans (.of_grown hg fun b e => by have := hl.row b e; omega)).trans (.set _ _ _ _ (Nat.le_refl _))
 ·
  have := blk_set hb 1 (.slice A' (l.length + 1) c')
  simpa using this
 ·
  refine GL.only (X := fun b => b = Bc) (hgl.more fun b hb => ?_) (.set _ _ _ _ rfl) fun b hb _ e => by omega
  rcases hb with h | h | h
  ·
   exact h
  ·
   exact h.elim
  ·
   omega
theorem tComps : SlType Tryz.prog 49 57 2 32 (.agg #[.int .i64 0, .slice none 0 0]) := ⟨by kernel_rfl, by kernel_rfl, by kernel_rfl, rfl, by decide⟩
theorem comp_push {w u : World} {H0 N K n c cO : Nat} {gc : Array Value} {D : Nat → Nat → Bool} {AO A : Option Addr} {cs : List CompD} {kd : Int} {l : List Int} (hst : CoSt w H0 N K gc D (.slice AO cs.length cO) cs u) (hl : Sl Rep.int u (fun b => K ≤ b) A n c l) (hcs : cs.length ≤ 1000) :
    ∃ A' c' u', (Builtin.append_ #[49, 49] 49 #[.slice AO cs.length cO, .slice (some ⟨u.heap.size, 0, none⟩) 1 1]).run Tryz.prog (u.alloc (.cells #[.int .i64 kd, .slice A n c] 57)) = .ok (.slice A' (cs.length + 1) c') u' ∧
     CoSt w H0 N u'.heap.size gc D (.slice A' (cs.length + 1) c') (cs ++ [(kd, l)]) u' := by
 have h1 := hst.lt
 have h2 := hst.sz
 have h3 := hst.ksz
 obtain ⟨A', c', u', hrun, hgl, hg, hrow⟩ := hst.out.push (P := Tryz.prog) tComps rfl (G := fun b => K ≤ b) (x := (kd, l)) (ys := [.int .i64 kd, .slice A n c]) (RComp.cells.2 ⟨A, n, c, rfl, hl⟩) (fun b hb e => by have := hst.out.row _ e; omega) (by omega) (by omega) 49
 have ho : Only u u' (fun b => H0 + 1 + N ≤ b) := (Only.alloc u _ _).trans (.of_grown hg fun b e => (hst.out.row b e).1)
 have hz := ho.size
 refine ⟨A', c', u', hrun, hst.grd.keep fun q _ hq => ho.block q (by omega) (by omega), (ho.block _ (by omega) (by omega)).trans hst.gb, hgl.fit.more fun b hb => ⟨?_, hb.2⟩, h1, by omega, Nat.le_refl _, hst.bel.trans (ho.below (fun b hb => by omega) (by omega))⟩
 rcases hb.1 with h | h | h
 ·
  exact h.1
 ·
  omega
 ·
  omega
def CompsR (R : List RuleD) (N base : Nat) (e : Ending) (w' : World) : Prop := ∃ A n c cs, e = .returned (.slice A n c) ∧ Sl RComp w' (fun b => base ≤ b) A n c cs ∧ CompsU R (war (edgN R) N) N N cs
set_option linter.unusedSimpArgs false in
set_option maxRecDepth 1000000 in
set_option maxHeartbeats 20000000 in
theorem apxComps (w : World) (Sg : Nat → Prop) (AR : Option Addr) (nR cR : Nat) (Tm : Int) (N st : Nat) (R : List RuleD) (hg : Sl RRule w Sg AR nR cR R) (hRN : RulesN N R) (hlen : ∀ r ∈ R, r.2.length ≤ 4) (hN1 : 1 ≤ N) (hN2 : N ≤ 10) (hnR : nR ≤ 64) :
    Calls Tryz.prog 12 #[.agg #[.int .i64 Tm, .int .i64 N, .int .i64 st, .slice AR nR cR]] w fun e w' => CompsR R N w.heap.size e w' ∧ Below w.heap.size w w' := by
 have HG := Lib.hid hg.fit
 have HRN := Lib.hid hRN
 have HLE := Lib.hid hlen
 obtain ⟨gc, hgc⟩ : ∃ gc : Array Value, gc = #[.int .i64 Tm, .int .i64 (N : Int), .int .i64 (st : Int), .slice AR nR cR] := ⟨_, rfl⟩
 obtain ⟨w1, hw1⟩ : ∃ w1 : World, w1 = w.alloc (.cells #[.int .i64 Tm, .int .i64 (N : Int), .int .i64 (st : Int), .slice AR nR cR] 25) := ⟨_, rfl⟩
 have hz1 : w1.heap.size = w.heap.size + 1 := by rw [hw1]; simp
 have HB1 := Lib.hid (show Below w.heap.size w w1 by rw [hw1]; exact (Below.refl _ _).alloc (Nat.le_refl _) _)
 have HGB1 := Lib.hid (show w1.heap[w.heap.size]? = some (.cells gc 25 (0, 0)) by rw [hw1, hgc]; exact heap_alloc_new w _)
 have HCL := Lib.hid (show ∀ u : World, u.heap[w.heap.size]? = some (.cells gc 25 (0, 0)) → u.cell? ⟨w.heap.size, 0, none⟩ = some (.int .i64 Tm) ∧ u.cell? ⟨w.heap.size, 1, none⟩ = some (.int .i64 (N : Int)) ∧ u.cell? ⟨w.heap.size, 2, none⟩ = some (.int .i64 (st : Int)) ∧ u.cell? ⟨w.heap.size, 3, none⟩ = some (.slice AR nR cR) from fun u hu => by
  rw [hgc] at hu
  simp [World.cell?, hu])
 clear hg hRN hlen hgc
 go_enter Tryz.func12, Tryz.ntmps12
 obtain ⟨g0, g1, g2, g3⟩ := HCL.out w1 HGB1.out
 rw [hw1] at g0 g1 g2 g3
 go_wp2_with fail
 rw [← hw1]
 rw [← hw1] at g0 g1 g2 g3
 refine (apxDerives w1 _ AR nR cR Tm N st R (HG.out.below HB1.out) HRN.out HLE.out hN1 hN2 hnR).mono ?_
 rintro e w2 ⟨⟨H0, hH0, rfl, hgr, hsz2⟩, hb2⟩
 have HGR := Lib.hid hgr
 have HB2 := Lib.hid hb2
 have HGB2 := Lib.hid ((hb2.block _ (by omega)).trans HGB1.out)
 have hwH : w.heap.size < H0 := by omega
 have hH2 : H0 + 1 + N ≤ w2.heap.size := hsz2
 clear hgr hb2 hw1 g0 g1 g2 g3 hH0 hsz2
 obtain ⟨D, hD⟩ : ∃ D, D = war (edgN R) N := ⟨_, rfl⟩
 rw [← hD] at HGR
 have HD := Lib.hid hD
 clear hD
 have HST := Lib.hid (show CoSt w H0 N w2.heap.size gc D (.slice none 0 0) [] w2 from ⟨HGR.out, HGB2.out, GL.nil _ _, hwH, hH2, Nat.le_refl _, HB1.out.trans (HB2.out.mono (by omega))⟩)
 obtain ⟨g0, g1, g2, g3⟩ := HCL.out w2 HGB2.out
 go_wp2_with fail
 clear g0 g1 g2 g3
 have hwH2 : w.heap.size < w2.heap.size := by omega
 go_loopg [4, 12] N (fun gk vO vi wr => ∃ (k : Nat) (cs : List CompD), k ≤ N ∧ gk = N - k ∧ vi = .int .i64 k ∧ CoSt w H0 N wr.heap.size gc D vO cs wr ∧ CompsU R D N k cs)
 case atStart => exact ⟨0, [], Nat.zero_le _, rfl, rfl, HST.out, ⟨by simp, (fun n h => absurd h (by omega)), Nat.le_refl _⟩⟩
 case round =>
  obtain ⟨k, cs, hk, hgk, rfl, hst, hcu⟩ := hrel
  have HGK := Lib.hid hgk
  have HS3 := Lib.hid hst
  have HCU := Lib.hid hcu
  obtain ⟨w3, rfl⟩ : ∃ w3 : World, w3 = wr := ⟨_, rfl⟩
  obtain ⟨AO, cO, rfl, hcO⟩ := hst.out.form
  clear hgk hst hcu HST
  by_cases hlt : k < N
  ·
   have hkI : (k : Int) < (N : Int) := by omega
   have hw3 : H0 + 1 + N ≤ w3.heap.size := HS3.out.sz
   obtain ⟨w4, hw4⟩ : ∃ w4 : World, w4 = w3.alloc (.cells #[.int .i64 (k : Int)] 3) := ⟨_, rfl⟩
   have hz4 : w4.heap.size = w3.heap.size + 1 := by rw [hw4]; simp
   have HB4 := Lib.hid (show Below w3.heap.size w3 w4 by rw [hw4]; exact (Below.refl _ _).alloc (Nat.le_refl _) _)
   have HN4 := Lib.hid (show w4.heap[w3.heap.size]? = some (.cells #[.int .i64 (k : Int)] 3 (0, 0)) by rw [hw4]; exact heap_alloc_new _ _)
   have HS4 := Lib.hid (HS3.out.below HB4.out)
   go_wp2_with fail
   rw [← hw4]
   clear hw4
   refine (containsFnC w4 _ _ (fun x => x.2.length ≤ 1000000) (fun x => x.2.contains (k : Int)) _ _ _ _ cs entersHasN (tellsHasN w4 w3.heap.size (k : Int) HN4.out) HS4.out.out.sl (fun x hx => by
    obtain ⟨_, n, hn, e⟩ := HCU.out.each x hx
    have := compK_len D n N
    rw [e]
    omega) (by have := HCU.out.few; omega)).mono ?_
   rintro e w5 ⟨rfl, hb5⟩
   have HS5 := Lib.hid (HS4.out.below hb5)
   have HN5 := Lib.hid ((hb5.block _ (by omega)).trans HN4.out)
   have hz5 : w4.heap.size ≤ w5.heap.size := hb5.size
   clear hb5
   cases hany : cs.any (fun x => x.2.contains (k : Int)) with
   | true =>
    have HANY := Lib.hid hany
    clear hany
    go_wp2_with fail
    go_roundg (N - (k + 1))
    case measure => rw [HGK.out]; omega
    case rel =>
     refine ⟨k + 1, cs, by omega, rfl, by go_num, HS5.out.top, ⟨HCU.out.each, fun n hn => ?_, by have := HCU.out.few; omega⟩⟩
     rcases Nat.lt_succ_iff_lt_or_eq.1 hn with h | rfl
     ·
      exact HCU.out.all n h
     ·
      obtain ⟨c, hc1, hc2⟩ := List.any_eq_true.1 HANY.out
      exact ⟨c, hc1, by simpa using hc2⟩
   | false =>
    have HANY := Lib.hid hany
    clear hany
    obtain ⟨w6, hw6⟩ : ∃ w6 : World, w6 = w5.alloc (.cells #[.int .i64 2, .slice none 0 0] 57) := ⟨_, rfl⟩
    have hz6 : w6.heap.size = w5.heap.size + 1 := by rw [hw6]; simp
    have HB6 := Lib.hid (show Below w5.heap.size w5 w6 by rw [hw6]; exact (Below.refl _ _).alloc (Nat.le_refl _) _)
    have HC6 := Lib.hid (show w6.heap[w5.heap.size]? = some (.cells #[.int .i64 2, .slice none 0 0] 57 (0, 0)) by rw [hw6]; exact heap_alloc_new _ _)
    have HS6 := Lib.hid (HS5.out.below HB6.out)
    have HN6 := Lib.hid ((HB6.out.block _ (by omega)).trans HN5.out)
    obtain ⟨g0, g1, g2, g3⟩ := HCL.out w6 HS6.out.gb
    rw [hw6] at g1
    go_wp2_with fail
    rw [← hw6]
    clear g0 g1 g2 g3 hw6
    go_loopg [21] N (fun gm vm wr => ∃ (m : Nat) (vN : Value), m ≤ N ∧ gm = N - m ∧ vm = .int .i64 m ∧ CoSt w H0 N w3.heap.size gc D (.slice AO cs.length cO) cs wr ∧ wr.heap[w3.heap.size]? = some (.cells #[.int .i64 (k : Int)] 3 (0, 0)) ∧
     wr.heap[w5.heap.size]? = some (.cells #[.int .i64 2, vN] 57 (0, 0)) ∧ GL Rep.int 3 wr (fun b => w5.heap.size < b) vN (compK D k m))
    case atStart => exact ⟨0, _, Nat.zero_le _, rfl, rfl, HS6.out, HN6.out, HC6.out, GL.nil _ _⟩
    case round =>
     obtain ⟨m, vN, hm, hgm, rfl, hst, hnb, hcb, hgl⟩ := hrel
     have HGM := Lib.hid hgm
     have HS7 := Lib.hid hst
     have HN7 := Lib.hid hnb
     have HC7 := Lib.hid hcb
     have HL7 := Lib.hid hgl
     obtain ⟨w7, rfl⟩ : ∃ w7 : World, w7 = wr := ⟨_, rfl⟩
     have hw7 : w5.heap.size < w7.heap.size := heap_lt hcb
     have kn : w7.cell? ⟨w3.heap.size, 0, none⟩ = some (.int .i64 (k : Int)) := by simp [World.cell?, hnb]
     have kc0 : w7.cell? ⟨w5.heap.size, 0, none⟩ = some (.int .i64 2) := by simp [World.cell?, hcb]
     have kc1 : w7.cell? ⟨w5.heap.size, 1, none⟩ = some vN := by simp [World.cell?, hcb]
     have kf : w7.frozen? ⟨w5.heap.size, 1, none⟩ = false := by simp [World.frozen?, hcb]
     obtain ⟨AN, cN, hvN, hcN⟩ := hgl.form
     clear hgm hst hnb hcb hgl
     by_cases hltm : m < N
     ·
      have hmI : (m : Int) < (N : Int) := by omega
      have hm0 : (0 : Int) ≤ (m : Int) := by omega
      have hk0 : (0 : Int) ≤ (k : Int) := by omega
      have r1 := HS7.out.grd.hdr k hlt
      have r2 := HS7.out.grd.hdr m hltm
      have r3 := HS7.out.grd.cell hlt hltm
      have r4 := HS7.out.grd.cell hltm hlt
      have hskip : (m == k || (D k m && D m k)) = false → ∀ u : World, Below w7.heap.size w7 u → ∃ (m' : Nat) (vN' : Value), m' ≤ N ∧ N - (m + 1) = N - m' ∧ Value.int .i64 ((m + 1 : Nat) : Int) = .int .i64 m' ∧ CoSt w H0 N w3.heap.size gc D (.slice AO cs.length cO) cs u ∧ u.heap[w3.heap.size]? = some (.cells #[.int .i64 (k : Int)] 3 (0, 0)) ∧
          u.heap[w5.heap.size]? = some (.cells #[.int .i64 2, vN'] 57 (0, 0)) ∧ GL Rep.int 3 u (fun b => w5.heap.size < b) vN' (compK D k m') := fun h u hu =>
       ⟨m + 1, vN, by omega, rfl, rfl, HS7.out.below hu, (hu.block _ (by omega)).trans HN7.out, (hu.block _ (by omega)).trans HC7.out, by rw [compK_succ, if_neg (by rw [h]; simp)]; exact HL7.out.below hu⟩
      have HSKIP := Lib.hid hskip
      clear hskip
      subst hvN
      have hlen7 := compK_len D k m
      have HPU := Lib.hid (show ∀ u : World, Below w7.heap.size w7 u → _ from fun u hu => by
       have hgl := HL7.out.below hu
       exact box_push ((hu.block _ (by omega)).trans HC7.out) hgl (by omega) (m : Int))
      by_cases hmk : m = k
      ·
       have hd : ((m : Int) == (k : Int)) = true := by simp [hmk]
       have HMK := Lib.hid hmk
       clear hmk
       go_wp2_with fail
       go_quiet (fail)
       obtain ⟨w8, hw8⟩ : ∃ w8 : World, w8 = w7.drewN nq := ⟨_, rfl⟩
       rw [← hw8]
       have HB8 := Lib.hid (show Below w7.heap.size w7 w8 by rw [hw8]; exact belowN (Below.refl _ _) _)
       obtain ⟨A8, c8, u8, hrun8, hf8, hd8, ho8, hc8, hl8⟩ := HPU.out w8 HB8.out
       have hz8 : w7.heap.size ≤ w8.heap.size := HB8.out.size
       have HRUN8 := Lib.hid hrun8
       have kc1' : w8.cell? ⟨w5.heap.size, 1, none⟩ = some (.slice AN (compK D k m).length cN) := by rw [hw8]; exact kc1
       clear kc1 r1 r2 r3 r4 kn kc0 kf hrun8 hw8
       go_wp2_with (at_builtin; refine Lib.wpList_append_run (o := ⟨some 49, _, _, _, _, _⟩) _ rfl _ _ _ _ rfl _ _ rfl rfl _ _ HRUN8.out ?_)
       go_roundg (N - (m + 1))
       case measure => rw [HGM.out]; omega
       case rel =>
        refine ⟨m + 1, _, by omega, rfl, by go_num, (HS7.out.below HB8.out).only ho8 (fun b hb => by omega), (ho8.block _ (by omega) (by omega)).trans ((HB8.out.block _ (by omega)).trans HN7.out), hc8, ?_⟩
        rw [compK_succ, if_pos (by simp [HMK.out])]
        exact hl8
      ·
       have hd : ((m : Int) == (k : Int)) = false := by simp; omega
       cases hd1 : D k m with
       | false =>
        rw [hd1] at r3
        have HSK := Lib.hid (HSKIP.out (by simp [hmk, hd1]))
        go_wp2_with fail
        go_quiet (fail)
        go_wp2_with fail
        go_roundg (N - (m + 1))
        case measure => rw [HGM.out]; omega
        case rel =>
         have := HSK.out (w7.drewN nq) (belowN (Below.refl _ _) _)
         exact this
       | true =>
        rw [hd1] at r3
        cases hd2 : D m k with
        | false =>
         rw [hd2] at r4
         have HSK := Lib.hid (HSKIP.out (by simp [hmk, hd1, hd2]))
         go_wp2_with fail
         go_quiet (fail)
         go_wp2_with fail
         go_roundg (N - (m + 1))
         case measure => rw [HGM.out]; omega
         case rel =>
          have := HSK.out (w7.drewN nq) (belowN (Below.refl _ _) _)
          exact this
        | true =>
         rw [hd2] at r4
         have HD2 := Lib.hid hd2
         have HD1 := Lib.hid hd1
         clear hd1 hd2
         go_wp2_with fail
         go_quiet (fail)
         obtain ⟨w8, hw8⟩ : ∃ w8 : World, w8 = w7.drewN nq := ⟨_, rfl⟩
         rw [← hw8]
         have HB8 := Lib.hid (show Below w7.heap.size w7 w8 by rw [hw8]; exact belowN (Below.refl _ _) _)
         obtain ⟨A8, c8, u8, hrun8, hf8, hd8, ho8, hc8, hl8⟩ := HPU.out w8 HB8.out
         have hz8 : w7.heap.size ≤ w8.heap.size := HB8.out.size
         have HRUN8 := Lib.hid hrun8
         have kc1' : w8.cell? ⟨w5.heap.size, 1, none⟩ = some (.slice AN (compK D k m).length cN) := by rw [hw8]; exact kc1
         clear kc1 r1 r2 r3 r4 kn kc0 kf hrun8 hw8
         go_wp2_with (at_builtin; refine Lib.wpList_append_run (o := ⟨some 49, _, _, _, _, _⟩) _ rfl _ _ _ _ rfl _ _ rfl rfl _ _ HRUN8.out ?_)
         go_roundg (N - (m + 1))
         case measure => rw [HGM.out]; omega
         case rel =>
          refine ⟨m + 1, _, by omega, rfl, by go_num, (HS7.out.below HB8.out).only ho8 (fun b hb => by omega), (ho8.block _ (by omega) (by omega)).trans ((HB8.out.block _ (by omega)).trans HN7.out), hc8, ?_⟩
          rw [compK_succ, if_pos (by simp [HD1.out, HD2.out])]
          exact hl8
     ·
      obtain rfl : N = m := by omega
      subst hvN
      have hlenN := compK_len D k N
      have HG7 := Lib.hid (HG.out.keep (Kept.belowB HS7.out.bel fun b hb => hb.2))
      have HW7 := Lib.hid (show w3.heap.size < w5.heap.size by omega)
      obtain ⟨g0, g1, g2, g3⟩ := HCL.out w7 HS7.out.gb
      go_wp2_with fail
      clear g0 g1 g2 g3
      refine (compOnly w7 2 _ _ _ _ _ HL7.out.sl (by omega) _ AR nR cR Tm N st R HG7.out HLE.out hnR _ _ apxLast entersLast).mono ?_
      rintro e w8 ⟨⟨b1, rfl, h1⟩, hb8⟩
      have HS8 := Lib.hid (HS7.out.below hb8)
      have HL8 := Lib.hid (HL7.out.below hb8)
      have HC8 := Lib.hid ((hb8.block _ hw7).trans HC7.out)
      have hz8 : w7.heap.size ≤ w8.heap.size := hb8.size
      have HO1 := Lib.hid h1
      clear h1 hb8 kc0 kc1 kf kn
      have hfin : ∀ (u : World) (kd : Int), KindP R (compK D k N) kd → CoSt w H0 N w3.heap.size gc D (.slice AO cs.length cO) cs u → GL Rep.int 3 u (fun b => w5.heap.size < b) (.slice AN (compK D k N).length cN) (compK D k N) →
          ∃ A' c' u', (Builtin.append_ #[49, 49] 49 #[.slice AO cs.length cO, .slice (some ⟨u.heap.size, 0, none⟩) 1 1]).run Tryz.prog (u.alloc (.cells #[.int .i64 kd, .slice AN (compK D k N).length cN] 57)) = .ok (.slice A' (cs.length + 1) c') u' ∧
           ∃ (k' : Nat) (cs' : List CompD), k' ≤ N ∧ N - (k + 1) = N - k' ∧ Value.int .i64 ((k : Int) + 1) = .int .i64 k' ∧ CoSt w H0 N u'.heap.size gc D (.slice A' (cs.length + 1) c') cs' u' ∧ CompsU R D N k' cs' := by
       intro u kd hkd hst hgl
       obtain ⟨A', c', u', hrun, hst'⟩ := comp_push hst (hgl.sl.more fun b hb => by have := HW7.out; omega) (by have := HCU.out.few; omega) (kd := kd)
       refine ⟨A', c', u', hrun, k + 1, _, by omega, rfl, by go_num, hst', ⟨fun c hc => ?_, fun n hn => ?_, by have := HCU.out.few; simp; omega⟩⟩
       ·
        rcases List.mem_append.1 hc with h | h
        ·
         exact HCU.out.each c h
        ·
         obtain rfl := List.mem_singleton.1 h
         exact ⟨hkd, k, hlt, rfl⟩
       ·
        rcases Nat.lt_succ_iff_lt_or_eq.1 hn with h | rfl
        ·
         obtain ⟨c, h1, h2⟩ := HCU.out.all n h
         exact ⟨c, List.mem_append_left _ h1, h2⟩
        ·
         exact ⟨_, List.mem_append_right _ (List.mem_singleton.2 rfl), compK_mem.2 ⟨n, hlt, rfl, .inl rfl⟩⟩
      have HFIN := Lib.hid hfin
      clear hfin
      have kc0 : w8.cell? ⟨w5.heap.size, 0, none⟩ = some (.int .i64 2) := by simp [World.cell?, HC8.out]
      have kc1 : w8.cell? ⟨w5.heap.size, 1, none⟩ = some (.slice AN (compK D k N).length cN) := by simp [World.cell?, HC8.out]
      have kf0 : w8.frozen? ⟨w5.heap.size, 0, none⟩ = false := by simp [World.frozen?, HC8.out]
      cases b1 with
      | true =>
       have hset := blk_set HC8.out 0 (.int .i64 0)
       obtain ⟨w9, hw9⟩ : ∃ w9 : World, w9 = w8.setCell ⟨w5.heap.size, 0, none⟩ (.int .i64 0) := ⟨_, rfl⟩
       have ho9 : Only w8 w9 (fun b => b = w5.heap.size) := by rw [hw9]; exact .set _ _ _ _ rfl
       have HS9 := Lib.hid (HS8.out.only ho9 fun b hb => by have := HW7.out; omega)
       have HL9 := Lib.hid (HL8.out.only ho9 fun b hb _ hx => by omega)
       rw [← hw9] at hset
       have d0 : w9.cell? ⟨w5.heap.size, 0, none⟩ = some (.int .i64 0) := by simp [World.cell?, hset]
       have d1 : w9.cell? ⟨w5.heap.size, 1, none⟩ = some (.slice AN (compK D k N).length cN) := by simp [World.cell?, hset]
       obtain ⟨A', c', u', hrun, hrel⟩ := HFIN.out w9 0 (.inl ⟨rfl, HO1.out.1 rfl⟩) HS9.out HL9.out
       have hsz9 : w9.heap.size = w8.heap.size := by rw [hw9]; simp [World.setCell]
       rw [hsz9] at hrun
       rw [hw9] at d0 d1 hrun
       clear hsz9
       have HRUN := Lib.hid hrun
       have HREL := Lib.hid hrel
       clear hset ho9 hrun hrel hw9
       go_wp2_with (at_builtin; refine Lib.wpList_append_run (o := ⟨some 65, _, _, _, _, _⟩) _ rfl _ _ _ _ rfl _ _ rfl rfl _ _ HRUN.out ?_)
       go_roundg (N - (k + 1))
       case measure => rw [HGK.out]; omega
       case rel => exact HREL.out
      | false =>
       obtain ⟨g0, g1, g2, g3⟩ := HCL.out w8 HS8.out.gb
       go_wp2_with fail
       clear g0 g1 g2 g3
       have HG8 := Lib.hid (HG.out.keep (Kept.belowB HS8.out.bel fun b hb => hb.2))
       refine (compOnly w8 2 _ _ _ _ _ HL8.out.sl (by omega) _ AR nR cR Tm N st R HG8.out HLE.out hnR _ _ apxFirst entersFirst).mono ?_
       rintro e w9 ⟨⟨b2, rfl, h2⟩, hb9⟩
       have HS9 := Lib.hid (HS8.out.below hb9)
       have HL9 := Lib.hid (HL8.out.below hb9)
       have HC9 := Lib.hid ((hb9.block _ (by omega)).trans HC8.out)
       have hz9 : w8.heap.size ≤ w9.heap.size := hb9.size
       have HO2 := Lib.hid h2
       clear h2 hb9 kc0 kc1 kf0
       have kc0 : w9.cell? ⟨w5.heap.size, 0, none⟩ = some (.int .i64 2) := by simp [World.cell?, HC9.out]
       have kc1 : w9.cell? ⟨w5.heap.size, 1, none⟩ = some (.slice AN (compK D k N).length cN) := by simp [World.cell?, HC9.out]
       have kf0 : w9.frozen? ⟨w5.heap.size, 0, none⟩ = false := by simp [World.frozen?, HC9.out]
       have hno1 : ¬ OnlyP R (compK D k N) plLast := fun h => by have := HO1.out.2 h; cases this
       have HNO1 := Lib.hid hno1
       clear hno1
       cases b2 with
       | true =>
        have hset := blk_set HC9.out 0 (.int .i64 1)
        obtain ⟨w10, hw10⟩ : ∃ w10 : World, w10 = w9.setCell ⟨w5.heap.size, 0, none⟩ (.int .i64 1) := ⟨_, rfl⟩
        have ho10 : Only w9 w10 (fun b => b = w5.heap.size) := by rw [hw10]; exact .set _ _ _ _ rfl
        have HS10 := Lib.hid (HS9.out.only ho10 fun b hb => by have := HW7.out; omega)
        have HL10 := Lib.hid (HL9.out.only ho10 fun b hb _ hx => by omega)
        rw [← hw10] at hset
        have d0 : w10.cell? ⟨w5.heap.size, 0, none⟩ = some (.int .i64 1) := by simp [World.cell?, hset]
        have d1 : w10.cell? ⟨w5.heap.size, 1, none⟩ = some (.slice AN (compK D k N).length cN) := by simp [World.cell?, hset]
        obtain ⟨A', c', u', hrun, hrel⟩ := HFIN.out w10 1 (.inr (.inl ⟨rfl, HNO1.out, HO2.out.1 rfl⟩)) HS10.out HL10.out
        have hsz10 : w10.heap.size = w9.heap.size := by rw [hw10]; simp [World.setCell]
        rw [hsz10] at hrun
        rw [hw10] at d0 d1 hrun
        clear hsz10
        have HRUN := Lib.hid hrun
        have HREL := Lib.hid hrel
        clear hset ho10 hrun hrel hw10
        go_wp2_with (at_builtin; refine Lib.wpList_append_run (o := ⟨some 65, _, _, _, _, _⟩) _ rfl _ _ _ _ rfl _ _ rfl rfl _ _ HRUN.out ?_)
        go_roundg (N - (k + 1))
        case measure => rw [HGK.out]; omega
        case rel => exact HREL.out
       | false =>
        obtain ⟨A', c', u', hrun, hrel⟩ := HFIN.out w9 2 (.inr (.inr ⟨rfl, HNO1.out, fun h => by have := HO2.out.2 h; cases this⟩)) HS9.out HL9.out
        have HRUN := Lib.hid hrun
        have HREL := Lib.hid hrel
        clear hrun hrel
        go_wp2_with (at_builtin; refine Lib.wpList_append_run (o := ⟨some 65, _, _, _, _, _⟩) _ rfl _ _ _ _ rfl _ _ rfl rfl _ _ HRUN.out ?_)
        go_roundg (N - (k + 1))
        case measure => rw [HGK.out]; omega
        case rel => exact HREL.out
  ·
   obtain rfl : N = k := by omega
   go_wp2_with fail
   go_ret
   refine ⟨⟨AO, cs.length, cO, cs, rfl, HS3.out.out.sl.more fun b hb => ?_, by rw [← HD.out]; exact HCU.out⟩, HS3.out.bel⟩
   omega
end Go.Proofs.YtocbkccchnbmaaaGreat
