/- ApxStep -/
import Derived.Test.YtocbkccchnbmaaaGreatAw30
import Derived.Test.YtocbkccchnbmaaaGreatAw35
namespace Go.Proofs.YtocbkccchnbmaaaGreat
open Go.RowKit Go.Maps
def bitsOf (k : ByteArray) : List Bool := k.data.toList.map fun b => b == 1
theorem bitsOf_str (s : List Bool) : bitsOf (strOf (bitsB s)) = s := by
 unfold bitsOf strOf bitsB
 rw [List.map_map, List.map_map]
 conv => rhs; rw [← List.map_id s]
 refine List.map_congr_left fun b _ => ?_
 cases b <;> rfl
def tgtN (st : NfD) (x c : Nat) : List Nat := ((st.edges.filter fun p => decide (p.1 = x)).filter fun p => decide (p.2.1 = (c : Int))).map fun p => p.2.2
theorem tgtN_mem {st : NfD} {x c y : Nat} : y ∈ tgtN st x c ↔ (x, (c : Int), y) ∈ st.edges := by
 unfold tgtN
 simp only [List.mem_map, List.mem_filter, decide_eq_true_eq]
 constructor
 ·
  rintro ⟨⟨a, b, d⟩, ⟨⟨h1, rfl⟩, rfl⟩, rfl⟩
  exact h1
 ·
  exact fun h => ⟨(x, (c : Int), y), ⟨⟨h, rfl⟩, rfl⟩, rfl⟩
def nextU (st : NfD) (s : List Bool) (c i : Nat) : List Nat := (List.range i).flatMap fun x => if s[x]? = some true then tgtN st x c else []
theorem nextU_succ (st : NfD) (s : List Bool) (c i : Nat) : nextU st s c (i + 1) = nextU st s c i ++ if s[i]? = some true then tgtN st i c else [] := by
 unfold nextU
 rw [List.range_succ, List.flatMap_append, List.flatMap_singleton]
theorem nextU_mem {st : NfD} {s : List Bool} {c i y : Nat} : y ∈ nextU st s c i ↔ ∃ x, x < i ∧ s[x]? = some true ∧ (x, (c : Int), y) ∈ st.edges := by
 unfold nextU
 rw [List.mem_flatMap]
 constructor
 ·
  rintro ⟨x, hx, hy⟩
  by_cases h : s[x]? = some true
  ·
   rw [if_pos h] at hy
   exact ⟨x, List.mem_range.1 hx, h, tgtN_mem.1 hy⟩
  ·
   rw [if_neg h] at hy
   cases hy
 ·
  rintro ⟨x, hx, h, hy⟩
  exact ⟨x, List.mem_range.2 hx, by rw [if_pos h]; exact tgtN_mem.2 hy⟩
theorem nextU_len (st : NfD) (s : List Bool) (c : Nat) : ∀ i, (nextU st s c i).length ≤ i * st.edges.length
 | 0 => by simp [nextU]
 | i + 1 => by
  rw [nextU_succ, List.length_append, Nat.add_mul]
  have h1 := nextU_len st s c i
  have h2 : (tgtN st i c).length ≤ st.edges.length := by
   unfold tgtN
   rw [List.length_map]
   exact Nat.le_trans (List.length_filter_le _ _) (List.length_filter_le _ _)
  split
  ·
   omega
  ·
   simp; omega
noncomputable def keyS (st : NfD) (W : Nat → Prop) : ByteArray := strOf (bitsB (cloL st W))
noncomputable def stepL (st : NfD) (k : ByteArray) (c : Nat) : Option ByteArray := if nextU st (bitsOf k) c st.nodes = [] then none else some (keyS st (· ∈ nextU st (bitsOf k) c st.nodes))
def accL (out : Nat) (k : ByteArray) : Int := if (bitsOf k)[out]? = some true then 0 else -1
def GoodL (st : NfD) (k : ByteArray) : Prop := ∃ s : List Bool, s.length = st.nodes ∧ k = strOf (bitsB s)
theorem keyS_good (st : NfD) (W : Nat → Prop) : GoodL st (keyS st W) := ⟨_, cloL_len st W, rfl⟩
theorem GoodL.size {st : NfD} {k : ByteArray} (h : GoodL st k) : k.size = st.nodes := by
 obtain ⟨s, h1, rfl⟩ := h
 rw [strOf_size, bitsB_len, h1]
theorem GoodL.bits {st : NfD} {k : ByteArray} (h : GoodL st k) : (bitsOf k).length = st.nodes ∧ k = strOf (bitsB (bitsOf k)) := by
 obtain ⟨s, h1, rfl⟩ := h
 rw [bitsOf_str]
 exact ⟨h1, rfl⟩
theorem str_at {s : List Bool} {i : Nat} (h : i < (strOf (bitsB s)).size) {b : Bool} (hb : s[i]? = some b) : (((strOf (bitsB s))[i]'h).toNat : Int) = if b = true then 1 else 0 := by
 have h2 : i < (strOf (bitsB s)).data.toList.length := by rw [Array.length_toList]; exact h
 have e1 : (strOf (bitsB s)).data.toList[i]'h2 = UInt8.ofNat ((if b = true then (1 : Int) else 0)).toNat := by
  have e : (strOf (bitsB s)).data.toList[i]? = some (UInt8.ofNat ((if b = true then (1 : Int) else 0)).toNat) := by simp [strOf, bitsB, hb]
  rw [List.getElem?_eq_getElem h2] at e
  exact Option.some.inj e
 have e0 : (strOf (bitsB s))[i]'h = (strOf (bitsB s)).data.toList[i]'h2 := rfl
 rw [e0, e1]
 cases b <;> rfl
theorem entersOf1 : ∀ (args : Array Value) (u : World), (callFunc 18 args).run Tryz.prog u = .ok (.enter 18 args) u := enters_of Tryz.func18 (by kernel_rfl) rfl
theorem entersOf2 : ∀ (args : Array Value) (u : World), (callFunc 19 args).run Tryz.prog u = .ok (.enter 19 args) u := enters_of Tryz.func19 (by kernel_rfl) rfl
set_option maxHeartbeats 1000000 in
theorem apxAcc (w : World) (Bo out : Nat) (hB : w.cell? ⟨Bo, 0, none⟩ = some (.int .i64 (out : Int))) (st : NfD) (k : ByteArray) (hk : GoodL st k) (ho : out < st.nodes) :
    Calls Tryz.prog 19 #[.string k, .pointer (some ⟨Bo, 0, none⟩)] w fun e w' => e = .returned (.int .i64 (accL out k)) ∧ w = w' := by
 obtain ⟨hl, hks⟩ := hk.bits
 have hsz := hk.size
 obtain ⟨s, hs⟩ : ∃ s, s = bitsOf k := ⟨_, rfl⟩
 have hob : (bitsOf k)[out]? = some ((bitsOf k)[out]'(by omega)) := List.getElem?_eq_getElem _
 generalize (bitsOf k)[out]'(by omega) = b at hob
 have hlt : out < k.size := by omega
 have hlI : (out : Int) < (k.size : Int) := by omega
 have h0 : (0 : Int) ≤ (out : Int) := by omega
 have hat : (k[out].toNat : Int) = if b = true then 1 else 0 := by
  have h1 : ∀ (k' : ByteArray) (h' : out < k'.size), k' = strOf (bitsB (bitsOf k)) → ((k'[out]'h').toNat : Int) = if b = true then 1 else 0 := fun k' h' e => by
   subst e
   exact str_at h' hob
  exact h1 k hlt hks
 have HACC := Lib.hid (show accL out k = if b = true then 0 else -1 by
  unfold accL
  rw [hob]
  cases b <;> rfl)
 clear hks hs hob hsz hl
 cases b with
 | true =>
  simp only [if_true] at hat
  go_enter Tryz.func19, Tryz.ntmps19
  go_wp2_with fail
  go_ret
  exact ⟨by rw [HACC.out]; rfl, rfl⟩
 | false =>
  simp only [if_neg (show ¬ (false = true) by decide)] at hat
  go_enter Tryz.func19, Tryz.ntmps19
  go_wp2_with fail
  go_ret
  exact ⟨by rw [HACC.out]; rfl, rfl⟩
theorem encP_at : ∀ {l : List (Int × Int)} {q : Nat} {p : Int × Int}, l[q]? = some p → (l.flatMap encP)[q * 2]? = some (.int .i64 p.1) ∧ (l.flatMap encP)[q * 2 + 1]? = some (.int .i64 p.2)
 | [], q, p, h => by simp at h
 | a :: l, 0, p, h => by
  simp only [List.getElem?_cons_zero, Option.some.injEq] at h
  subst h
  exact ⟨rfl, rfl⟩
 | a :: l, q + 1, p, h => by
  have := encP_at (l := l) (q := q) (p := p) (by simpa using h)
  rw [List.flatMap_cons, show (q + 1) * 2 = q * 2 + 2 by omega, show q * 2 + 2 + 1 = (q * 2 + 1) + 2 by omega]
  exact this
def tgtU (st : NfD) (x c q : Nat) : List Nat := (((st.edges.filter fun p => decide (p.1 = x)).take q).filter fun p => decide (p.2.1 = (c : Int))).map fun p => p.2.2
theorem tgtU_succ {st : NfD} {x c q : Nat} {p : Nat × Int × Nat} (h : (st.edges.filter fun p => decide (p.1 = x))[q]? = some p) : tgtU st x c (q + 1) = tgtU st x c q ++ if p.2.1 = (c : Int) then [p.2.2] else [] := by
 unfold tgtU
 rw [List.take_add_one, h, List.filter_append, List.map_append]
 by_cases e : p.2.1 = (c : Int)
 ·
  rw [if_pos e]
  simp [e]
 ·
  rw [if_neg e]
  simp [e]
theorem tgtU_len (st : NfD) (x c q : Nat) : (tgtU st x c q).length ≤ st.edges.length := by
 unfold tgtU
 rw [List.length_map]
 refine Nat.le_trans (List.length_filter_le _ _) ?_
 rw [List.length_take]
 exact Nat.le_trans (Nat.min_le_right _ _) (List.length_filter_le _ _)
theorem natsV_append (a b : List Nat) : natsV (a ++ b) = natsV a ++ natsV b := by simp [natsV]
set_option linter.unusedSimpArgs false in
set_option maxRecDepth 100000 in
set_option maxHeartbeats 4000000 in
theorem apxStepF (L : Bdr) (w : World) (FB : Nat → Prop) (st : NfD) (hst : Bst L w FB st) (Bx : Nat) (hBx : w.cell? ⟨Bx, 0, none⟩ = some (.pointer (some ⟨L.Bb, 0, none⟩))) (k : ByteArray) (hk : GoodL st k) (c : Nat)
    (hsz : st.nodes ≤ 1000) (hel : st.edges.length ≤ 600000) (hpl : st.eps.length ≤ 600000) (hep : ∀ p ∈ st.eps, p.2 < st.nodes) (hed : ∀ p ∈ st.edges, p.2.2 < st.nodes) :
    Calls Tryz.prog 18 #[.string k, .int .i64 (c : Int), .pointer (some ⟨Bx, 0, none⟩)] w (StepR (stepL st k c) w) := by
 have HST := Lib.hid hst
 have HEP := Lib.hid hep
 have HED := Lib.hid hed
 obtain ⟨hbl, hks⟩ := hk.bits
 have hksz := hk.size
 have HKZ := Lib.hid hksz
 obtain ⟨s, hs⟩ : ∃ s, s = bitsOf k := ⟨_, rfl⟩
 have HSB := Lib.hid hs
 rw [← hs] at hbl hks
 have HBL := Lib.hid hbl
 have HAT := Lib.hid (show ∀ (i : Nat) (h : i < k.size) (b : Bool), s[i]? = some b → ((k[i]'h).toNat : Int) = if b = true then 1 else 0 from fun i h b hb => by
  have h1 : ∀ (k' : ByteArray) (h' : i < k'.size), k' = strOf (bitsB s) → ((k'[i]'h').toNat : Int) = if b = true then 1 else 0 := fun k' h' e => by
   subst e
   exact str_at h' hb
  exact h1 k h hks)
 have HKB := Lib.hid (show ∀ b, BX L FB b ∨ L.S b → b < w.heap.size from fun b hb => by
  rcases hb with h | h
  ·
   rcases Nat.lt_or_ge b w.heap.size with h1 | h1
   ·
    exact h1
   ·
    exact absurd h (hst.off b h1)
  ·
   exact hst.inn.fit b h)
 have hbxl := cell_lt hBx
 have hc6 : w.cell? ⟨L.Bb, 6, none⟩ = some (.int .i64 (st.nodes : Int)) := by simp [World.cell?, hst.inn.box]
 have HBX := Lib.hid hBx
 have hoc : ∀ l : List Nat, True := fun _ => trivial
 clear hst hep hed hs hbl hks hksz hoc hk
 go_enter Tryz.func18, Tryz.ntmps18
 go_wp2_with fail
 clear hc6 hBx
 go_loopg [7, 15] st.nodes (fun gk v7 v15 wr => ∃ i : Nat, i ≤ st.nodes ∧ gk = st.nodes - i ∧ v15 = .int .i64 i ∧ Own wr w.heap.size 3 1 v7 (nextU st s c i).length (natsV (nextU st s c i)) ∧ Below w.heap.size w wr)
 case atStart => exact ⟨0, Nat.zero_le _, rfl, rfl, Own.nil _ _ _ _ _, .refl _ _⟩
 case round =>
  obtain ⟨i, hi, hgk, rfl, how, hb⟩ := hrel
  obtain ⟨w1, rfl⟩ : ∃ w1 : World, w1 = wr := ⟨_, rfl⟩
  obtain ⟨A, c1, hv, hc1, _⟩ := how.form
  subst hv
  have HGK := Lib.hid hgk
  have HO1 := Lib.hid how
  have HB1 := Lib.hid hb
  have HNL := Lib.hid (nextU_len st s c i)
  have hlen1 : (nextU st s c i).length ≤ 600000000 := by
   have h1 : i * st.edges.length ≤ 1000 * 600000 := Nat.mul_le_mul (by omega) hel
   have := nextU_len st s c i
   omega
  clear hgk how hb
  by_cases hil : i < st.nodes
  ·
   have hiI : (i : Int) < (st.nodes : Int) := by omega
   have hi0 : (0 : Int) ≤ (i : Int) := by omega
   have hik : i < k.size := by rw [HKZ.out]; exact hil
   have hikI : (i : Int) < (k.size : Int) := by omega
   have hsi : s[i]? = some (s[i]'(by rw [HBL.out]; exact hil)) := List.getElem?_eq_getElem _
   generalize s[i]'(by rw [HBL.out]; exact hil) = b at hsi
   have hat := HAT.out i hik b hsi
   have HSI := Lib.hid hsi
   clear hsi
   cases b with
   | false =>
    simp only [if_neg (show ¬ (false = true) by decide)] at hat
    go_wp2_with fail
    go_roundg (st.nodes - (i + 1))
    case measure => rw [HGK.out]; omega
    case rel =>
     refine ⟨i + 1, by omega, rfl, by go_num, ?_, HB1.out⟩
     rw [nextU_succ, HSI.out]
     simpa using HO1.out
   | true =>
    simp only [if_true] at hat
    have HST1 := HST.out.belowK HKB.out HB1.out
    have hc8 : w1.cell? ⟨L.Bb, 8, none⟩ = some (.map (some L.BD)) := by simp [World.cell?, HST1.inn.box]
    have hcb : w1.cell? ⟨Bx, 0, none⟩ = some (.pointer (some ⟨L.Bb, 0, none⟩)) := (HB1.out.cell hbxl).trans HBX.out
    obtain ⟨FE, FD, l1, l2, h1, h2, h3, h4⟩ := HST1.maps
    have how0 := h2.own i
    obtain ⟨A0, c0, hform, hc0, _⟩ := how0.form
    rw [hform] at how0
    have HRD := Lib.hid how0.rd
    have HFD := Lib.hid (show ∀ g, rowOf (.slice A0 (edgAt st i).length c0) = some g → g < w.heap.size from fun g e => HKB.out g (.inl (.inr (.inr (.inr (h4 g (h2.row i g (by rw [hform]; exact e))))))))
    have HMV := Lib.hid (show (lk l2 (i : Int)).getD (.slice none 0 0) = .slice A0 (edgAt st i).length c0 from hform)
    have HAM := Lib.hid h2.map
    have HKO := Lib.hid (ki_ok (x := i) (by omega))
    obtain ⟨n0, hn0⟩ : ∃ n0, n0 = (edgAt st i).length := ⟨_, rfl⟩
    have hn0l := edgAt_le st i
    rw [← hn0] at HMV HRD HFD hc0 hn0l
    have HN0 := Lib.hid hn0
    have HELL := Lib.hid (show n0 = (st.edges.filter fun p => decide (p.1 = i)).length by rw [hn0]; unfold edgAt; rw [List.length_map])
    clear h1 h2 h3 h4 how0 hform hn0 HST1
    go_wp2_with (at_lookup; refine wpList_amap _ rfl _ _ 52 rfl 64 mapEdges zeroPairs L.BD _ rfl HAM.out (i : Int) rfl HKO.out ?_; rw [HMV.out])
    clear hc8 hcb
    go_loopg [7, 29] n0 (fun gq v7 v29 wr => ∃ q : Nat, q ≤ n0 ∧ gq = n0 - q ∧ v29 = .int .i64 q ∧ Own wr w.heap.size 3 1 v7 (nextU st s c i ++ tgtU st i c q).length (natsV (nextU st s c i ++ tgtU st i c q)) ∧ Below w.heap.size w wr ∧ Below w.heap.size w1 wr)
    case atStart => exact ⟨0, Nat.zero_le _, rfl, rfl, by simpa [tgtU] using HO1.out, HB1.out, .refl _ _⟩
    case round =>
     obtain ⟨q, hq, hgq, rfl, how, hb, hb1⟩ := hrel
     obtain ⟨nx, hnx⟩ : ∃ nx, nx = nextU st s c i ++ tgtU st i c q := ⟨_, rfl⟩
     rw [← hnx] at how
     have hlen2 : nx.length ≤ 700000000 := by
      rw [hnx, List.length_append]
      have := tgtU_len st i c q
      omega
     have HNXL := Lib.hid hnx
     clear hnx
     obtain ⟨w2, rfl⟩ : ∃ w2 : World, w2 = wr := ⟨_, rfl⟩
     obtain ⟨A2, c2, hv, hc2, _⟩ := how.form
     subst hv
     have HGQ := Lib.hid hgq
     have HO2 := Lib.hid how
     have HB2 := Lib.hid hb
     have HB12 := Lib.hid hb1
     clear hgq how hb hb1
     by_cases hlq : q < n0
     ·
      have hqI : (q : Int) < (n0 : Int) := by omega
      have hq0 : (0 : Int) ≤ (q : Int) := by omega
      have hel1 : (st.edges.filter fun p => decide (p.1 = i))[q]? = some ((st.edges.filter fun p => decide (p.1 = i))[q]'(by rw [← HELL.out]; exact hlq)) := List.getElem?_eq_getElem _
      generalize (st.edges.filter fun p => decide (p.1 = i))[q]'(by rw [← HELL.out]; exact hlq) = ed at hel1
      obtain ⟨ex, ec, ey⟩ := ed
      have hea : (edgAt st i)[q]? = some (ec, (ey : Int)) := by
       unfold edgAt
       rw [List.getElem?_map, hel1]
       rfl
      obtain ⟨x1, x2⟩ := encP_at hea
      obtain ⟨bs, os, hA0, hbS, hcl⟩ := HRD.out.2 (by omega)
      subst hA0
      have hbsl : bs < w.heap.size := HFD.out bs (by obtain ⟨c4, rfl⟩ : ∃ c4, c0 = c4 + 1 := ⟨c0 - 1, by omega⟩; rfl)
      have y1 : w2.cell? ⟨bs, os + q * 2, none⟩ = some (.int .i64 ec) := (HB12.out.cell hbsl).trans (hcl _ _ x1)
      have y2 : w2.cell? ⟨bs, os + q * 2 + 1, none⟩ = some (.int .i64 (ey : Int)) := (HB12.out.cell hbsl).trans (hcl _ _ x2)
      have HTS := Lib.hid (tgtU_succ (c := c) hel1)
      have HEL1 := Lib.hid hel1
      obtain ⟨w3, hw3⟩ : ∃ w3 : World, w3 = w2.alloc (.cells #[.int .i64 ec, .int .i64 (ey : Int)] 65) := ⟨_, rfl⟩
      have hbx : w3.heap[w2.heap.size]? = some (.cells #[.int .i64 ec, .int .i64 (ey : Int)] 65 (0, 0)) := by rw [hw3]; exact heap_alloc_new _ _
      have z1 : w3.cell? ⟨w2.heap.size, 0, none⟩ = some (.int .i64 ec) := by simp [World.cell?, hbx]
      have z2 : w3.cell? ⟨w2.heap.size, 1, none⟩ = some (.int .i64 (ey : Int)) := by simp [World.cell?, hbx]
      have hb23 : Below w2.heap.size w2 w3 := by rw [hw3]; exact (Below.refl _ _).alloc (Nat.le_refl _) _
      have HB3 := Lib.hid (HB2.out.trans (hb23.mono HB2.out.size))
      have HB13 := Lib.hid (HB12.out.trans (hb23.mono HB2.out.size))
      have HO3 := Lib.hid (HO2.out.below hb23 (Nat.le_refl _))
      rw [hw3] at z1 z2
      clear hea x1 x2 hbS hcl hel1 hbx hb23
      by_cases hce : ec = (c : Int)
      ·
       subst hce
       obtain ⟨v4, w4, hrun, ho4, hg4, hrow4⟩ := run_append_Own tInts (w3.alloc (.cells #[.int .i64 (ey : Int)] 3)) 22 w.heap.size _ _ _ (HO3.out.alloc _) (fun _ => True) (some ⟨w3.heap.size, 0, none⟩) 1 1 [.int .i64 (ey : Int)] (Rd.new w3 _ _ [.int .i64 (ey : Int)] _ rfl trivial) (by intro u hu; obtain rfl := List.mem_singleton.1 hu; rfl) (by unfold maxLen; omega) (by omega) (by have := HB3.out.size; simp; omega)
       obtain ⟨A4, c4, rfl, _, _⟩ := ho4.form
       have hb34 : Below w.heap.size w3 w4 := ((Below.refl _ _).alloc HB3.out.size _).trans (Below.own (Below.refl _ _) (HO3.out.alloc _) hg4 (Nat.le_refl _) (by have := HB3.out.size; simp; omega))
       have HB4 := Lib.hid (HB3.out.trans hb34)
       have HB14 := Lib.hid (HB13.out.trans hb34)
       have HO4 := Lib.hid (show Own w4 w.heap.size 3 1 (.slice A4 (nx.length + 1) c4) (nextU st s c i ++ tgtU st i c (q + 1)).length (natsV (nextU st s c i ++ tgtU st i c (q + 1))) by
        rw [HTS.out, if_pos rfl, ← List.append_assoc, ← HNXL.out, natsV_append]
        show Own w4 w.heap.size 3 1 _ (nx ++ [ey]).length _
        rw [show (nx ++ [ey]).length = nx.length + 1 by rw [List.length_append]; rfl]
        exact ho4)
       have hsz3 : w3.heap.size = w2.heap.size + 1 := by rw [hw3]; simp
       rw [hsz3] at hrun
       clear hsz3
       rw [hw3] at hrun
       have HRUN := Lib.hid hrun
       clear hrun ho4 hg4 hrow4 hb34 hw3
       go_wp2_with (at_builtin; refine Lib.wpList_append_run (o := ⟨some 41, _, _, _, _, _⟩) _ rfl _ _ _ _ rfl _ _ rfl rfl _ _ HRUN.out ?_)
       go_roundg (n0 - (q + 1))
       case measure => rw [HGQ.out]; omega
       case rel => exact ⟨q + 1, by omega, rfl, by go_num, HO4.out, HB4.out, HB14.out⟩
      ·
       have hce1 : (ec == (c : Int)) = false := by simpa using hce
       have hce2 : decide (ec = (c : Int)) = false := by simpa using hce
       have HO4 := Lib.hid (show Own w3 w.heap.size 3 1 (.slice A2 nx.length c2) (nextU st s c i ++ tgtU st i c (q + 1)).length (natsV (nextU st s c i ++ tgtU st i c (q + 1))) by
        rw [HTS.out, if_neg hce, List.append_nil, ← HNXL.out]
        exact HO3.out)
       have HW3 := Lib.hid hw3
       clear hw3
       go_wp2_with fail
       rw [← HW3.out]
       go_roundg (n0 - (q + 1))
       case measure => rw [HGQ.out]; omega
       case rel => exact ⟨q + 1, by omega, rfl, by go_num, HO4.out, HB3.out, HB13.out⟩
     ·
      obtain rfl : n0 = q := by omega
      go_wp2_with fail
      go_roundg (st.nodes - (i + 1))
      case measure => rw [HGK.out]; omega
      case rel =>
       have e : nextU st s c (i + 1) = nextU st s c i ++ tgtU st i c n0 := by
        rw [nextU_succ, HSI.out, if_pos rfl]
        congr 1
        unfold tgtN tgtU
        rw [HELL.out, List.take_length]
       refine ⟨i + 1, by omega, rfl, by go_num, ?_, HB2.out⟩
       rw [e, ← HNXL.out]
       exact HO2.out
  ·
   obtain rfl : st.nodes = i := by omega
   have hmk := fun W => tBytes.make rfl st.nodes (by omega) (by omega) W
   simp only [made_bytesA] at hmk
   have HST1 := HST.out.belowK HKB.out HB1.out
   have hc6 : w1.cell? ⟨L.Bb, 6, none⟩ = some (.int .i64 (st.nodes : Int)) := by simp [World.cell?, HST1.inn.box]
   have hcb : w1.cell? ⟨Bx, 0, none⟩ = some (.pointer (some ⟨L.Bb, 0, none⟩)) := (HB1.out.cell hbxl).trans HBX.out
   obtain ⟨nx, hnx⟩ : ∃ nx, nx = nextU st s c st.nodes := ⟨_, rfl⟩
   have HWB := Lib.hid (show ∀ x ∈ nx, x < st.nodes from fun x hx => by
    rw [hnx] at hx
    obtain ⟨y, _, _, h⟩ := nextU_mem.1 hx
    exact HED.out _ h)
   rw [← hnx] at hlen1 HO1 ⊢
   have HNX := Lib.hid hnx
   have HSTW := Lib.hid HST1
   clear hnx HST1
   have HALL := Lib.hid (show ∀ u : World, Below w.heap.size w u → u.cell? ⟨Bx, 0, none⟩ = some (.pointer (some ⟨L.Bb, 0, none⟩)) ∧ u.cell? ⟨L.Bb, 6, none⟩ = some (.int .i64 (st.nodes : Int)) from fun u hu =>
    ⟨(hu.cell hbxl).trans HBX.out, by simp [World.cell?, (HST.out.belowK HKB.out hu).inn.box]⟩)
   go_wp2_with fail
   refine wp_region_late (late := []) (S1 := fun u => u.cell? ⟨Bx, 0, none⟩ = some (.pointer (some ⟨L.Bb, 0, none⟩)) ∧ u.cell? ⟨L.Bb, 6, none⟩ = some (.int .i64 (st.nodes : Int))) (S := fun _ => True) (by kernel_rfl) ?_
   clear hc6 hcb
   refine wpAnyL_pure (i := 0) rfl (by kernel_rfl) (fun _ _ _ h => h) (Or.inl ⟨by rfl, (fun u hu => by obtain ⟨k0, k1⟩ := hu; go_simp; try rfl)⟩) (HALL.out _ (HB1.out.drew)) (fun _ => trivial) ?_
   simp only [Act.put, List.setIfInBounds_toArray, List.set_cons_zero, List.set_cons_succ, List.getElem_toArray, List.getElem_cons_zero, List.getElem_cons_succ]
   refine wpAnyL_pure (i := 1) rfl (by kernel_rfl) (fun _ _ _ h => h) (Or.inl ⟨by rfl, (fun u hu => by obtain ⟨k0, k1⟩ := hu; go_simp; try rfl)⟩) (HALL.out _ (HB1.out.drew)) (fun _ => trivial) ?_
   simp only [Act.put, List.setIfInBounds_toArray, List.set_cons_zero, List.set_cons_succ, List.getElem_toArray, List.getElem_cons_zero, List.getElem_cons_succ]
   refine wpAnyL_pure (i := 2) rfl (by kernel_rfl) (fun _ _ _ h => h) (Or.inl ⟨by rfl, (fun u hu => by obtain ⟨k0, k1⟩ := hu; go_simp; try rfl)⟩) (HALL.out _ (HB1.out.drew)) (fun _ => trivial) ?_
   simp only [Act.put, List.setIfInBounds_toArray, List.set_cons_zero, List.set_cons_succ, List.getElem_toArray, List.getElem_cons_zero, List.getElem_cons_succ]
   refine wpAnyL_pure (i := 3) rfl (by kernel_rfl) (fun _ _ _ h => h) (Or.inl ⟨by rfl, (fun u hu => by obtain ⟨k0, k1⟩ := hu; go_simp; try rfl)⟩) (HALL.out _ (HB1.out.drew)) (fun _ => trivial) ?_
   simp only [Act.put, List.setIfInBounds_toArray, List.set_cons_zero, List.set_cons_succ, List.getElem_toArray, List.getElem_cons_zero, List.getElem_cons_succ]
   refine wpAnyL_pure (i := 4) rfl (by kernel_rfl) (fun _ _ _ h => h) (Or.inl ⟨by rfl, (fun u hu => by obtain ⟨k0, k1⟩ := hu; go_simp; try rfl)⟩) (HALL.out _ (HB1.out.drew)) (fun _ => trivial) ?_
   simp only [Act.put, List.setIfInBounds_toArray, List.set_cons_zero, List.set_cons_succ, List.getElem_toArray, List.getElem_cons_zero, List.getElem_cons_succ]
   refine wpAnyL_pure (i := 6) rfl (by kernel_rfl) (fun _ _ _ h => h) (Or.inl ⟨by rfl, (fun u hu => by obtain ⟨k0, k1⟩ := hu; go_simp; try rfl)⟩) (HALL.out _ (HB1.out.drew)) (fun _ => trivial) ?_
   simp only [Act.put, List.setIfInBounds_toArray, List.set_cons_zero, List.set_cons_succ, List.getElem_toArray, List.getElem_cons_zero, List.getElem_cons_succ]
   refine wpAnyL_pure (i := 8) rfl (by kernel_rfl) (fun _ _ _ h => h) (Or.inl ⟨by rfl, (fun u hu => by obtain ⟨k0, k1⟩ := hu; go_simp; try rfl)⟩) (HALL.out _ (HB1.out.drew)) (fun _ => trivial) ?_
   simp only [Act.put, List.setIfInBounds_toArray, List.set_cons_zero, List.set_cons_succ, List.getElem_toArray, List.getElem_cons_zero, List.getElem_cons_succ]
   refine wpAnyL_pure (i := 9) rfl (by kernel_rfl) (fun _ _ _ h => h) (Or.inl ⟨by rfl, (fun u hu => by obtain ⟨k0, k1⟩ := hu; go_simp; try rfl)⟩) (HALL.out _ (HB1.out.drew)) (fun _ => trivial) ?_
   simp only [Act.put, List.setIfInBounds_toArray, List.set_cons_zero, List.set_cons_succ, List.getElem_toArray, List.getElem_cons_zero, List.getElem_cons_succ]
   refine wpAnyL_pure (i := 10) rfl (by kernel_rfl) (fun _ _ _ h => h) (Or.inl ⟨by rfl, (fun u hu => by obtain ⟨k0, k1⟩ := hu; go_simp; try rfl)⟩) (HALL.out _ (HB1.out.drew)) (fun _ => trivial) ?_
   simp only [Act.put, List.setIfInBounds_toArray, List.set_cons_zero, List.set_cons_succ, List.getElem_toArray, List.getElem_cons_zero, List.getElem_cons_succ]
   refine wpAnyL_ready (rs := [5]) (by kernel_rfl) (by simp) ?_
   refine AllL.cons rfl (fun K hK => ?_) ?_
   ·
    obtain ⟨w2, hw2⟩ : ∃ w2 : World, w2 = w1.drew.alloc (.cells (Array.replicate st.nodes (Value.int .u8 0)) 5) := ⟨_, rfl⟩
    have hb12 : Below w1.heap.size w1 w2 := by rw [hw2]; exact (Below.refl _ w1).drew.alloc (Nat.le_refl _) _
    have HB2 := Lib.hid (HB1.out.trans (hb12.mono HB1.out.size))
    have HBY := Lib.hid (show ByB w2 w1.heap.size (bitsB (List.replicate st.nodes false)) by
     rw [show bitsB (List.replicate st.nodes false) = List.replicate st.nodes 0 by simp [bitsB], hw2]
     exact ByB.made w1.drew st.nodes)
    have HO2 := Lib.hid (HO1.out.below hb12 (Nat.le_refl _))
    have HZ1 := Lib.hid HB1.out.size
    have hrw : rowOf (.slice A nx.length c1) ≠ some w1.heap.size := fun e => by have := (HO1.out.row e).2; omega
    have HRW := Lib.hid hrw
    have hw2' : (w1.alloc (.cells (Array.replicate st.nodes (Value.int .u8 0)) 5)).drew = w2 := hw2.symm
    have HW2 := Lib.hid hw2'
    clear hb12 hrw hw2 hw2'
    go_simp
    rw [HW2.out]
    refine hK.out _ _ (HALL.out _ HB2.out) (fun _ => trivial) ?_
    clear hK K
    refine wpAnyL_ready (rs := [7]) (by kernel_rfl) (by simp) ?_
    refine AllL.cons rfl (fun K hK => ?_) ?_
    ·
     go_simp
     refine (apxClose L w2 FB st (HST.out.belowK HKB.out HB2.out) w.heap.size HKB.out HB2.out.size w1.heap.size HZ1.out HBY.out _ nx HO2.out HRW.out HWB.out (by omega) hsz HEP.out (by omega)).mono ?_
     rintro e w3 ⟨rfl, hb3⟩
     have HB3 := Lib.hid (HB2.out.trans hb3)
     clear hb3
     refine hK.out _ _ (HALL.out _ HB3.out) (fun _ => trivial) ?_
     clear hK K
     refine wpAnyL_pure (i := 11) rfl (by kernel_rfl) (fun _ _ _ h => h) (Or.inl ⟨by rfl, (fun u hu => by obtain ⟨k0, k1⟩ := hu; go_simp; try rfl)⟩) (HALL.out _ HB3.out) (fun _ => trivial) ?_
     simp only [Act.put, List.setIfInBounds_toArray, List.set_cons_zero, List.set_cons_succ, List.getElem_toArray, List.getElem_cons_zero, List.getElem_cons_succ]
     refine wpAnyL_pure (i := 12) rfl (by kernel_rfl) (fun _ _ _ h => h) (Or.inl ⟨by rfl, (fun u hu => by obtain ⟨k0, k1⟩ := hu; go_simp; try rfl)⟩) (HALL.out _ HB3.out) (fun _ => trivial) ?_
     simp only [Act.put, List.setIfInBounds_toArray, List.set_cons_zero, List.set_cons_succ, List.getElem_toArray, List.getElem_cons_zero, List.getElem_cons_succ]
     refine wpAnyL_done (by kernel_rfl) ?_ _
     rcases Nat.eq_zero_or_pos nx.length with h0 | h0
     ·
      have hd1 : decide ((0 : Int) < (nx.length : Int)) = false := by simp [h0]
      have hd2 : decide (0 < nx.length) = false := by simp [h0]
      have HN0 := Lib.hid (List.eq_nil_of_length_eq_zero h0)
      go_wp2_with fail
      refine bodyPost_ret (v := .tuple #[.string (strOf (bitsB (cloL st (· ∈ nx)))), .bool false]) (by simp [results, Tryz.results18, go_sem, h0]) rfl ⟨⟨_, false, rfl, ?_⟩, HB3.out⟩
      unfold stepL
      rw [← HSB.out, ← HNX.out, if_pos HN0.out]
      rfl
     ·
      have hd1 : decide ((0 : Int) < (nx.length : Int)) = true := by simp; omega
      have hd2 : decide (0 < nx.length) = true := by simp; omega
      go_wp2_with fail
      refine bodyPost_ret (v := .tuple #[.string (strOf (bitsB (cloL st (· ∈ nx)))), .bool true]) (by simp [results, Tryz.results18, go_sem]; omega) rfl ⟨⟨_, true, rfl, ?_⟩, HB3.out⟩
      unfold stepL
      rw [← HSB.out, ← HNX.out, if_neg (fun e => by rw [e] at h0; simp at h0)]
      rfl
    exact AllL.nil
   exact AllL.nil
end Go.Proofs.YtocbkccchnbmaaaGreat
