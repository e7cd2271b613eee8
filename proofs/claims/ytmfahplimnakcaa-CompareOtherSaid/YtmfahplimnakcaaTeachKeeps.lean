/- TeachKeeps: its walk. -/
import Derived.Test.YtmfahplimnakcaaTeach
import Derived.Test.YtmfahplimnakcaaMakeDfa
import Derived.Test.YtmfahplimnakcaaMakeWord
import Derived.Lib.SliceRun
namespace Go.Proofs.Ytmfahplimnakcaa
open Go.RowKit

theorem dfaOf_valid (l : List Int) : Valid (dfaOf l) := by
  obtain ⟨n1, n2, _⟩ := dfaN_range l
  obtain ⟨c1, c2, _⟩ := dfaC_range l
  have hc : cols (dfaOf l) = dfaC l := by
    have : (dfaOf l).2.2[0]? = some (dfaRow l 0) := by
      show ((List.range (dfaN l)).map (dfaRow l))[0]? = _
      rw [List.getElem?_map, List.getElem?_range (by omega)]; rfl
    unfold cols
    rw [this]
    simp [dfaRow]
  have hl : (dfaOf l).2.2.length = dfaN l := by simp [dfaOf]
  refine ⟨by omega, by omega, by simp [dfaOf], by omega, by omega, ?_, ?_, ?_⟩
  · intro r hr
    obtain ⟨s, _, rfl⟩ := List.mem_map.1 (show r ∈ (List.range (dfaN l)).map (dfaRow l) from hr)
    refine ⟨by rw [hc]; simp [dfaRow], fun x hx => ?_⟩
    obtain ⟨j, _, rfl⟩ := List.mem_map.1 (show x ∈ (List.range (dfaC l)).map (dfaCell l s) from hx)
    have := nv_range l (3 + s * (dfaC l + 1) + 1 + j) ((dfaN l : Int) + 1) (by omega)
    rw [hl]
    unfold dfaCell
    omega
  · have := nv_range l 2 (dfaN l) (by omega)
    rw [hl]
    exact this
  · intro x hx
    obtain ⟨j, _, rfl⟩ := List.mem_map.1 (show x ∈ (List.range (dfaN l)).map (dfaAcc l) from hx)
    have := nv_range l (3 + j * (dfaC l + 1)) 3 (by omega)
    unfold dfaAcc
    omega
theorem some_setCell {w : World} {p q : Addr} {u : Value} (h : (w.cell? q).isSome = true) : ((w.setCell p u).cell? q).isSome = true := by
  obtain ⟨v, hv⟩ := Option.isSome_iff_exists.1 h
  obtain ⟨v', hv'⟩ := cell?_setCell_some (w := w) (p := p) (x := u) (q := q) (v := v) hv
  rw [hv']; rfl
theorem some_setCells {b : Nat} : ∀ {vs : List Value} {o : Nat} {w : World} {q : Addr}, (w.cell? q).isSome = true → ((w.setCells b o vs).cell? q).isSome = true
  | [], _, _, _, h => h
  | _ :: vs, _, _, _, h => some_setCells (vs := vs) (some_setCell h)
theorem size_setCells {b : Nat} : ∀ {vs : List Value} {o : Nat} {w : World}, (w.setCells b o vs).heap.size = w.heap.size
  | [], _, _ => rfl
  | _ :: vs, _, w => (size_setCells (vs := vs)).trans (by simp [World.setCell])
theorem heap_setCells {b q : Nat} (hq : q ≠ b) : ∀ {vs : List Value} {o : Nat} {w : World}, (w.setCells b o vs).heap[q]? = w.heap[q]?
  | [], _, _ => rfl
  | v :: vs, o, w => (heap_setCells hq (vs := vs)).trans (Below.heap_setCell w ⟨b, o, none⟩ v q hq)
theorem oth_setCells {b : Nat} : ∀ {vs : List Value} {o : Nat} {w : World}, (w.setCells b o vs).os = w.os ∧ (w.setCells b o vs).tape = w.tape ∧ (w.setCells b o vs).output = w.output
  | [], _, _ => ⟨rfl, rfl, rfl⟩
  | v :: vs, o, w => oth_setCells (vs := vs) (w := w.setCell ⟨b, o, none⟩ v)
/-- while the automaton is spoilt: only blocks from lo to hi have turned -/
structure KS (w5 : World) (lo hi gA gN n : Nat) (xs : List Value) (s : Nat) (wr : World) : Prop where
  os : wr.os = w5.os ∧ wr.tape = w5.tape ∧ wr.output = w5.output
  size : wr.heap.size = w5.heap.size
  out : ∀ q, ¬ (lo ≤ q ∧ q < hi) → wr.heap[q]? = w5.heap[q]?
  hN : wr.heap[gN]? = w5.heap[gN]?
  hA : ∀ k, s ≤ k → k < n → ∃ x : Int, wr.cell? ⟨gA, k, none⟩ = some (.int .i64 x)
  fA : ∀ k, wr.frozen? ⟨gA, k, none⟩ = false
  lA : lo ≤ gA ∧ gA < hi ∧ gA ≠ gN
  row : ∀ (i : Nat) (v : Value), xs[i]? = some v → ∃ g m c, v = .slice (some ⟨g, 0, none⟩) m c ∧ 0 < m ∧ lo ≤ g ∧ g < hi ∧ g ≠ gA ∧ g ≠ gN ∧ (∀ j, j < m → (wr.cell? ⟨g, 0 + j, none⟩).isSome = true) ∧ ∀ j, wr.frozen? ⟨g, 0 + j, none⟩ = false
theorem KS.drew {w5 wr : World} {lo hi gA gN n s : Nat} {xs : List Value} (h : KS w5 lo hi gA gN n xs s wr) : KS w5 lo hi gA gN n xs s wr.drew := ⟨h.os, h.size, h.out, h.hN, h.hA, h.fA, h.lA, h.row⟩
theorem KS.setA {w5 wr : World} {lo hi gA gN n s : Nat} {xs : List Value} (h : KS w5 lo hi gA gN n xs s wr) (x : Value) : KS w5 lo hi gA gN n xs (s + 1) (wr.setCell ⟨gA, s, none⟩ x) := by
  obtain ⟨l1, l2, l3⟩ := h.lA
  refine ⟨h.os, by simpa [World.setCell] using h.size, fun q hq => ?_, ?_, fun k h1 h2 => ?_, fun k => ?_, h.lA, fun i v hv => ?_⟩
  · rw [Below.heap_setCell _ _ _ _ (by rintro rfl; exact hq ⟨l1, l2⟩)]; exact h.out q hq
  · rw [Below.heap_setCell _ _ _ _ (Ne.symm l3)]; exact h.hN
  · obtain ⟨y, hy⟩ := h.hA k (by omega) h2
    exact ⟨y, by rw [World.cell?_setCell_other _ _ _ _ (fun e => by injection e with _ e; omega)]; exact hy⟩
  · rw [World.frozen?_setCell]; exact h.fA k
  · obtain ⟨g, m, c, e, k1, k2, k3, k4, k5, k6, k7⟩ := h.row i v hv
    exact ⟨g, m, c, e, k1, k2, k3, k4, k5, fun j hj => some_setCell (k6 j hj), fun j => by rw [World.frozen?_setCell]; exact k7 j⟩
theorem KS.setR {w5 wr : World} {lo hi gA gN n s g : Nat} {xs : List Value} (h : KS w5 lo hi gA gN n xs s wr) (hg : lo ≤ g ∧ g < hi ∧ g ≠ gA ∧ g ≠ gN) (vs : List Value) : KS w5 lo hi gA gN n xs s (wr.setCells g 0 vs) := by
  obtain ⟨l1, l2, l3, l4⟩ := hg
  obtain ⟨o1, o2, o3⟩ := oth_setCells (b := g) (vs := vs) (o := 0) (w := wr)
  refine ⟨⟨o1.trans h.os.1, o2.trans h.os.2.1, o3.trans h.os.2.2⟩, size_setCells.trans h.size, fun q hq => ?_, ?_, fun k h1 h2 => ?_, fun k => ?_, h.lA, fun i v hv => ?_⟩
  · rw [heap_setCells (by rintro rfl; exact hq ⟨l1, l2⟩)]; exact h.out q hq
  · rw [heap_setCells (Ne.symm l4)]; exact h.hN
  · obtain ⟨y, hy⟩ := h.hA k h1 h2
    exact ⟨y, by rw [World.cell?_setCells_out _ _ _ _ _ (fun e => absurd e (Ne.symm l3))]; exact hy⟩
  · rw [World.frozen?_setCells]; exact h.fA k
  · obtain ⟨g', m, c, e, k1, k2, k3, k4, k5, k6, k7⟩ := h.row i v hv
    exact ⟨g', m, c, e, k1, k2, k3, k4, k5, fun j hj => some_setCells (k6 j hj), fun j => by rw [World.frozen?_setCells]; exact k7 j⟩
theorem cell_zero_add {w : World} {g k : Nat} : w.cell? ((⟨g, 0, none⟩ : Addr).add k) = w.cell? ⟨g, k, none⟩ := by
  by_cases h : k = 0
  · subst h; rfl
  · simp [Addr.add, h]
/-- an automaton freshly made may be spoilt -/
theorem DfaB.spoil {w : World} {base Bd hi : Nat} {start : Int} {acc : List Int} {rows : List (List Int)} {A N : Option Addr} {cA cN n : Nat} {xs : List Value} (h : DfaB w base Bd start acc rows (.slice A n cA) (.slice N n cN) xs) (hn : n = acc.length) (hn2 : n = rows.length) (h1 : 1 ≤ n)
    (hr : ∀ r ∈ rows, 1 ≤ r.length) (hhi : ∀ g, (rowOf (.slice A n cA) = some g ∨ ∃ (i : Nat) (v : Value), xs[i]? = some v ∧ rowOf v = some g) → g < hi) :
    ∃ gA gN, A = some ⟨gA, 0, none⟩ ∧ N = some ⟨gN, 0, none⟩ ∧ KS w base hi gA gN n xs 0 w ∧ (∀ (i : Nat) (v : Value), xs[i]? = some v → w.cell? ⟨gN, i, none⟩ = some v) ∧ xs.length = n := by
  subst hn2
  have hA := h.ownA
  rw [← hn] at hA
  obtain ⟨gA, rfl, bA, oA⟩ := hA.addr (by omega)
  obtain ⟨gN, rfl, bN, oN⟩ := h.ownN.addr (by omega)
  have hpos : ∀ {a : Addr} {m c : Nat} {E : TypeId} {ys : List Value}, Own w base E 1 (.slice (some a) m c) m ys → 0 < m → rowOf (.slice (some a) m c) = some a.block := fun {a m c E ys} ho hm => by
    obtain ⟨A', c', e, hc, _⟩ := ho.form
    injection e with _ _ e
    subst e
    cases c with
    | zero => omega
    | succ k => rfl
  have rA := hpos hA (by omega)
  have rN := hpos h.ownN (by omega)
  have hne : gA ≠ gN := fun e => h.ne gA rA (by rw [rN, e])
  have hfz : ∀ {g m c : Nat} {E : TypeId} {ys : List Value}, w.ownsRow base E 1 (.slice (some ⟨g, 0, none⟩) m c) m ys → ∀ k, w.frozen? ⟨g, k, none⟩ = false := fun ho k => by
    rcases ho.2 with ⟨e, _⟩ | ⟨g', cap, cur, e, _, hh, _⟩
    · cases e
    · injection e with e _ _
      injection e with e
      injection e with e _ _
      subst e
      simp [World.frozen?, hh]
  have hxl : xs.length = rows.length := by simpa using h.ownN.len
  refine ⟨gA, gN, rfl, rfl, ⟨⟨rfl, rfl, rfl⟩, rfl, fun _ _ => rfl, rfl, fun k _ hk => ?_, hfz oA, ⟨bA, hhi gA (.inl rA), hne⟩, fun i v hv => ?_⟩, fun i v hv => ?_, hxl⟩
  · have hka : k < acc.length := by omega
    refine ⟨acc[k], ?_⟩
    have := oA.cells (g := gA) rfl k (.int .i64 acc[k]) (by simp [hka])
    rw [cell_zero_add] at this
    exact this
  · obtain ⟨r, k1, k2, k3⟩ := h.rown i v hv
    have hrl := hr r (List.mem_of_getElem? k1)
    obtain ⟨A', c', rfl, hc', _⟩ := k2.form
    obtain ⟨g, rfl, bg, og⟩ := k2.addr (by omega)
    have rg := hpos k2 (by omega)
    obtain ⟨d1, d2⟩ := k3 g rg
    rw [rA] at d1
    rw [rN] at d2
    refine ⟨g, r.length, c', rfl, by omega, bg, hhi g (.inr ⟨i, _, hv, rg⟩), fun e => d1 (by rw [e]), fun e => d2 (by rw [e]), fun j hj => ?_, fun j => hfz og _⟩
    have := og.cells (g := g) rfl j (.int .i64 r[j]) (by simp [hj])
    rw [cell_zero_add] at this
    rw [Nat.zero_add, this]
    rfl
  · have := oN.cells (g := gN) rfl i v hv
    rw [cell_zero_add] at this
    exact this
theorem below_drewN {B : Nat} {a w : World} (h : Below B a w) (n : Nat) : Below B a (w.drewN n) := ⟨h.os, h.tape, h.output, h.size, h.block⟩
theorem quiet_left {P : Program} {f : FuncId} {args : Array Value} {w : World} {n : Nat} {v : Value}
    (h : Calls P f args (w.drewN n) fun e w' => e = .returned v ∧ w.drewN n = w') : Calls P f args (w.drewN n) fun e w'' => e = .returned v ∧ ∃ m, w'' = w.drewN m :=
  h.mono fun _ _ ⟨he, hm⟩ => ⟨he, n, hm.symm⟩
set_option maxRecDepth 100000 in
set_option maxHeartbeats 4000000 in
theorem teachKeeps_walk (W : World) (A0 : Option Addr) (n0 c0 : Nat) (z0 : List Int) (le0 : n0 ≤ c0) (cap0 : c0 ≤ 17592186043904) (rd0 : Rd W (fun _ => True) 1 A0 n0 (z0.map (Value.int .i64))) (_rg0 : ∀ z ∈ z0, -9223372036854775808 ≤ z ∧ z ≤ 9223372036854775807)
    (A1 : Option Addr) (n1 c1 : Nat) (z1 : List Int) (le1 : n1 ≤ c1) (cap1 : c1 ≤ 17592186043904) (rd1 : Rd W (fun _ => True) 1 A1 n1 (z1.map (Value.int .i64))) (_rg1 : ∀ z ∈ z1, -9223372036854775808 ≤ z ∧ z ≤ 9223372036854775807) :
    Calls Try.prog 3 #[.slice A0 n0 c0, .slice A1 n1 c1] W fun e W' => e = .returned (.bool true) ∧ Below W.heap.size W W' := by
  have HR0 := Lib.hid (rd0.slInts le0)
  have HR1 := Lib.hid rd1
  have HV := Lib.hid (dfaOf_valid z0)
  clear rd0 rd1 _rg0 _rg1
  go_enter Try.func3, Try.ntmps3
  go_wp2_with fail
  refine (makeDfa _ _ _ _ _ z0 HR0.out (by omega)).mono ?_
  rintro e w1 ⟨Bd, vA, vN, xs, hBd, rfl, hD, hb1⟩
  have hv := dfaOf_valid z0
  have hna := hv.na
  have hl1 := hv.n1
  have hl2 := hv.n2
  obtain ⟨A, cA, rfl, hcA, _⟩ := hD.ownA.form
  obtain ⟨N, cN, rfl, hcN, _⟩ := hD.ownN.form
  have HD1 := Lib.hid hD
  have HB1 := Lib.hid hb1
  clear hb1 hD hv
  obtain ⟨d, hd⟩ : ∃ d, d = dfaOf z0 := ⟨_, rfl⟩
  rw [← hd] at HD1 HV hna hl1 hl2 hcA hcN ⊢
  clear hd
  rw [hna] at HD1 hcA ⊢
  obtain ⟨n, hn⟩ : ∃ n, n = d.2.2.length := ⟨_, rfl⟩
  rw [← hn] at HD1 hna hl1 hl2 hcA hcN ⊢
  have HNE := Lib.hid hn
  have HNA := Lib.hid hna
  clear hn hna
  have hD2 := HD1.out.alloc (.cells #[.int .i64 d.1, .slice A n cA, .slice N n cN] 25)
  obtain ⟨A4, n4, c4, A5, n5, c5, e, hsA, hsN⟩ := RDfa.cells.1 hD2.rep
  simp only [List.cons.injEq, Value.slice.injEq, and_true] at e
  obtain ⟨_, ⟨rfl, rfl, rfl⟩, ⟨rfl, rfl, rfl⟩⟩ := e
  have HD2 := Lib.hid hD2
  have HSA := Lib.hid hsA
  have HSN := Lib.hid hsN
  clear hD2 hsA hsN
  go_wp2_with fail
  refine (teachNew _ _ _ _ _ _ _ _ d HSA.out HSN.out HV.out).mono ?_
  rintro e w3 ⟨Bt, rfl, hBt, hT, hb3⟩
  have hS3 : w1.heap.size + 1 ≤ w3.heap.size := by have := hb3.size; simp at this; omega
  have hc0 : w3.cell? ⟨w1.heap.size, 0, none⟩ = some (.int .i64 d.1) := by rw [hb3.cell (by simp)]; simp
  have hc1 : w3.cell? ⟨w1.heap.size, 1, none⟩ = some (.slice A n cA) := by rw [hb3.cell (by simp)]; simp
  have hc2 : w3.cell? ⟨w1.heap.size, 2, none⟩ = some (.slice N n cN) := by rw [hb3.cell (by simp)]; simp
  have hD3 := HD2.out.below hb3
  have hsA3 := HSA.out.below hb3
  have hsN3 := HSN.out.below hb3
  have hB3 : Below W.heap.size W w3 := (HB1.out.alloc HB1.out.size _).trans (hb3.mono (by have := HB1.out.size; simp; omega))
  simp only [World.size_alloc] at hT hBt hb3
  have hBt3 := hT.lt
  obtain ⟨bN, oN, AR, cR, hNe, hcR, hn0, hn0'⟩ := teach_row hsN3 HV.out
  have HD3 := Lib.hid hD3
  have HSA3 := Lib.hid hsA3
  have HSN3 := Lib.hid hsN3
  have HB3 := Lib.hid hB3
  have HT3 := Lib.hid hT
  clear hD3 hsA3 hsN3 hB3 hT hb3
  subst hNe
  have hcd : ((cols (plainD d) : Int) != (cols d : Int)) = false := by rw [show cols (plainD d) = cols d from rfl]; simp
  go_wp2_with fail
  go_quiet ((go_at_call 15; exact quiet_left (teachSymbols _ _ _ _ _ _ (HT3.out.keep (.drewN _ _ _) rfl) (plain_valid HV.out))))
  go_wp2_with fail
  refine (teachSymbols _ _ _ _ _ _ (HT3.out.keep (.drewN _ _ _) rfl) (plain_valid HV.out)).mono ?_
  rintro e _ ⟨rfl, rfl⟩
  rw [show cols (plainD d) = cols d from rfl]
  have hC1 := HV.out.c1
  have hC2 := HV.out.c2
  clear hcd
  go_wp2_with fail
  refine (makeWord (cols d) 20 A1 n1 c1 _ z1 _ (HR1.out.keep (.below (below_drewN HB3.out _))) (by omega) (by omega) (by omega) (by omega)).mono ?_
  rintro e w4 ⟨Av, nv, cv, rfl, hsv, hb4⟩
  have hb34 : Below w3.heap.size w3 w4 := ⟨hb4.os, hb4.tape, hb4.output, hb4.size, hb4.block⟩
  have hS4 : w1.heap.size + 1 ≤ w4.heap.size := by have := hb34.size; omega
  replace hc0 := (hb34.cell (p := ⟨w1.heap.size, 0, none⟩) (by simp; omega)).trans hc0
  replace hc1 := (hb34.cell (p := ⟨w1.heap.size, 1, none⟩) (by simp; omega)).trans hc1
  replace hc2 := (hb34.cell (p := ⟨w1.heap.size, 2, none⟩) (by simp; omega)).trans hc2
  have hnv := hsv.len
  rw [wordOf_len] at hnv
  have hx : ∀ x ∈ wordOf (cols d) 20 z1, 0 ≤ x ∧ x < cols d := by
    intro x hx
    obtain ⟨y, _, rfl⟩ := List.mem_map.1 (show x ∈ (z1.take 20).map (fun x => x % (cols d : Int)) from hx)
    exact ⟨Int.emod_nonneg y (by omega), Int.emod_lt_of_pos y (by omega)⟩
  have hnv2 : nv ≤ 20 := by omega
  have HSV := Lib.hid hsv
  have HX := Lib.hid hx
  have HB34 := Lib.hid hb34
  clear hb4 hsv hx hb34 hnv
  generalize wordOf (cols d) 20 z1 = l at HSV HX ⊢
  go_wp2_with fail
  refine (keepAccepts _ _ _ _ _ _ _ _ d (HSA3.out.below HB34.out) (HSN3.out.below HB34.out) HV.out _ _ _ _ l HSV.out (by omega) HX.out).mono ?_
  rintro e w5 ⟨rfl, hb5⟩
  have hb35 : Below w3.heap.size w3 w5 := HB34.out.trans (hb5.mono HB34.out.size)
  have hS5 : w4.heap.size ≤ w5.heap.size := hb5.size
  have hB5 : Below W.heap.size W w5 := HB3.out.trans (hb35.mono HB3.out.size)
  have hxb : w5.heap[w1.heap.size]? = w3.heap[w1.heap.size]? := hb35.block _ (by omega)
  replace hc1 := (hb5.cell (p := ⟨w1.heap.size, 1, none⟩) (by simp; omega)).trans hc1
  replace hc2 := (hb5.cell (p := ⟨w1.heap.size, 2, none⟩) (by simp; omega)).trans hc2
  have hT5 := HT3.out.below hb35
  have hsv5 := HSV.out.below hb5
  obtain ⟨gA, gN, eA, eN, hks, hxc, hxl⟩ := (HD3.out.below hb35).spoil HNA.out.symm HNE.out hl1 (fun r hr => by have := (HV.out.rows r hr).1; omega) (hi := w1.heap.size) (by
    rintro g (hg | ⟨i, v, hv, hg⟩)
    · exact (HD1.out.ownA.row hg).2
    · obtain ⟨r, _, k2, _⟩ := HD1.out.rown i v hv
      exact (k2.row hg).2)
  injection eN with eN
  injection eN with eN1 eN2
  subst eA eN1 eN2
  have HT5 := Lib.hid hT5
  have HSV5 := Lib.hid hsv5
  have HB5 := Lib.hid hB5
  have HKS := Lib.hid hks
  have HXC := Lib.hid hxc
  have HXL := Lib.hid hxl
  have HC1 := Lib.hid hc1
  have HC2 := Lib.hid hc2
  clear hc0 hT5 hsv5 hB5 hks hxc hxl hb5 hb35 hxb hcR
  go_wp2_with fail
  clear hc1 hc2
  go_loopw [48] (fun i wr => ∃ s : Nat, s ≤ n ∧ i = .int .i64 s ∧ KS w5 (Bd + 1) w1.heap.size gA bN n xs s wr) (fun i _ => n - (intOf i).toNat)
  case atStart => exact ⟨0, Nat.zero_le _, rfl, HKS.out⟩
  case round =>
    obtain ⟨s, hs, rfl, hk⟩ := hrel
    have HK := Lib.hid hk
    have hcb : ∀ (q : Addr), ¬ (Bd + 1 ≤ q.block ∧ q.block < w1.heap.size) → wr.cell? q = w5.cell? q := fun q hq => World.cell?_of_block (hk.out q.block hq)
    have hd1 : wr.cell? ⟨w1.heap.size, 1, none⟩ = some (.slice (some ⟨gA, 0, none⟩) n cA) := (hcb _ (by simp)).trans HC1.out
    have hd2 : wr.cell? ⟨w1.heap.size, 2, none⟩ = some (.slice (some ⟨bN, 0, none⟩) n cN) := (hcb _ (by simp)).trans HC2.out
    clear hcb
    by_cases hlt : s < n
    · obtain ⟨x, hx⟩ := hk.hA s (Nat.le_refl _) hlt
      have hfx := hk.fA s
      obtain ⟨v, hv⟩ : ∃ v, xs[s]? = some v := ⟨_, List.getElem?_eq_getElem (by rw [HXL.out]; exact hlt)⟩
      obtain ⟨g, m, c, rfl, hm, g1, g2, g3, g4, g5, g6⟩ := hk.row s v hv
      have hcr : wr.cell? ⟨bN, s, none⟩ = some (.slice (some ⟨g, 0, none⟩) m c) := (World.cell?_of_block hk.hN).trans (HXC.out s _ hv)
      have HV2 := Lib.hid hv
      have hcl : ∀ val ty, (Builtin.clear_ #[22] ty #[.slice (some ⟨g, 0, none⟩) m c]).run Try.prog (wr.setCell ⟨gA, s, none⟩ val).drew = .ok (.tuple #[]) ((wr.setCell ⟨gA, s, none⟩ val).drew.setCells g 0 (List.replicate m (.int .i64 0))) := fun val ty =>
        Lib.run_clear_slice _ 22 3 ty (.int .i64 0) Try.underlying22 (fun _ => by kernel_rfl) rfl rfl g 0 m c hm (fun j hj => some_setCell (g5 j hj)) (fun j _ => (World.frozen?_setCell _ _ _ _).trans (g6 j))
      have hcr2 : ∀ val, (wr.setCell ⟨gA, s, none⟩ val).cell? ⟨bN, s, none⟩ = some (.slice (some ⟨g, 0, none⟩) m c) := fun val => setOther val hcr (Ne.symm hk.lA.2.2)
      have hd22 : ∀ val, (wr.setCell ⟨gA, s, none⟩ val).cell? ⟨w1.heap.size, 2, none⟩ = some (.slice (some ⟨bN, 0, none⟩) n cN) := fun val => setOther val hd2 (by have := hk.lA.2.1; simp; omega)
      clear hk hv g5 g6
      go_wp2_with fail
      go_region
      go_wp2_with fail
      go_roundw
      case rel => exact ⟨s + 1, by omega, by go_num, (KS.drew (HK.out.setA _)).setR ⟨g1, g2, g3, g4⟩ _⟩
      case measure => simp [intOf]; omega
    · obtain rfl : s = n := by omega
      have hkT : Kept (fun b => w1.heap.size + 1 ≤ b) w5 wr := fun p u hp hu => (World.cell?_of_block (HK.out.out p.block (by omega))).trans hu
      have hT6 : TeachB wr (fun b => w1.heap.size + 1 ≤ b ∧ b < Bt) Bt (plainD d) 0 0 := HT5.out.keep (hkT.sub fun b hb => hb.1) (HK.out.out _ (by omega))
      have hsv6 := HSV5.out.keep (hkT.sub fun b hb => by have : w3.heap.size ≤ b := hb; omega)
      go_wp2_with fail
      refine (teachMember _ _ _ _ _ _ hT6 (plain_valid HV.out) (by omega) (fun h => by have := h.2; omega) _ _ _ _ l hsv6 (by omega) HX.out).mono ?_
      rintro e w7 ⟨rfl, hT7, hg7⟩
      have HT7 := Lib.hid hT7
      have HG7 := Lib.hid hg7
      clear hT7 hg7 hT6 hsv6 hkT hk hd1 hd2
      go_wp2_with fail
      refine (teachAsked _ _ _ _ _ _ HT7.out).mono ?_
      rintro e w8 ⟨rfl, nd, rfl⟩
      rw [plain_accept]
      have hbb : ((daccept d l) == (daccept d l)) = true := by simp
      go_wp2_with fail
      go_ret
      refine ⟨rfl, ?_⟩
      have h5 : Below W.heap.size W wr := by
        have h := HK.out
        refine ⟨h.os.1.trans HB5.out.os, h.os.2.1.trans HB5.out.tape, h.os.2.2.trans HB5.out.output, by rw [h.size]; exact HB5.out.size, fun k hk => ?_⟩
        rw [h.out k (by omega)]
        exact HB5.out.block k hk
      exact below_drewN (h5.grown HG7.out h5.size (fun k e => by injection e with e; have := HB1.out.size; omega)) _
end Go.Proofs.Ytmfahplimnakcaa
