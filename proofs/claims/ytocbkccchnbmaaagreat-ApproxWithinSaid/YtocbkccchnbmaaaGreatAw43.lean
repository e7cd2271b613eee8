/- ApxOf -/
import Derived.Test.YtocbkccchnbmaaaGreatAw19
import Derived.Test.YtocbkccchnbmaaaGreatAw30
import Derived.Test.YtocbkccchnbmaaaGreatAw35
import Derived.Test.YtocbkccchnbmaaaGreatAw36
import Derived.Test.YtocbkccchnbmaaaGreatAw37
import Derived.Test.YtocbkccchnbmaaaGreatAw38
import Derived.Test.YtocbkccchnbmaaaGreatAw39
import Derived.Test.YtocbkccchnbmaaaGreatAw40
import Derived.Test.YtocbkccchnbmaaaGreatAw41
import Derived.Test.YtocbkccchnbmaaaGreatAw42
namespace Go.Proofs.YtocbkccchnbmaaaGreat
open Go.RowKit Go.Maps
theorem Mem4.apart {W0 w : World} {Tm N st : Int} {AR : Option Addr} {nR cR Nn B3 B7 c7 B8 B9 Bb Bp : Nat} (h : Mem4 W0 Tm N st AR nR cR Nn B3 B7 c7 B8 B9 Bb Bp w) (hN : 1 ≤ Nn) :
    (Bb ≠ B7 ∧ Bb ≠ B8 ∧ Bb ≠ B9 ∧ B7 ≠ B8 ∧ B7 ≠ B9 ∧ B8 ≠ B9) ∧ (B3 ≠ B7 ∧ B3 ≠ B8 ∧ B3 ≠ B9) ∧ B7 < w.heap.size ∧ Bp ≠ B7 := by
 obtain ⟨cur, h7⟩ : ∃ cur, w.heap[B7]? = some (.cells cur 3 (0, 0)) := by
  rcases h.sz with ⟨_, ⟨_, h2⟩ | ⟨g', cap, cur, e, hb, hh, _⟩⟩ | ⟨_, _, h2, _⟩
  ·
   omega
  ·
   injection e with e1 _ _
   injection e1 with e1
   injection e1 with e1
   exact ⟨cur, by rw [e1]; exact hh⟩
  ·
   omega
 have b := h.bb
 have o := h.of
 have e8 := h.e8
 have e9 := h.e9
 refine ⟨⟨fun e => ?_, fun e => ?_, fun e => ?_, fun e => ?_, fun e => ?_, h.ne⟩, ⟨fun e => ?_, fun e => ?_, fun e => ?_⟩, heap_lt h7, fun e => ?_⟩
 ·
  rw [e, h7] at b; simp at b
 ·
  rw [e, e8] at b; simp at b
 ·
  rw [e, e9] at b; simp at b
 ·
  rw [e, e8] at h7; simp at h7
 ·
  rw [e, e9] at h7; simp at h7
 ·
  rw [e, h7] at o; simp at o
 ·
  rw [e, e8] at o; simp at o
 ·
  rw [e, e9] at o; simp at o
 ·
  have p := h.bp; rw [e, h7] at p; simp at p
theorem Stp.setHi {L : Bdr} {FB FB' : Nat → Prop} {w w' : World} (h : Stp L FB w FB' w') {A : Nat} (hA : w.heap.size ≤ A) (i : Nat) (v : Value) : Stp L FB w FB' (w'.setCell ⟨A, i, none⟩ v) :=
 ⟨⟨h.only.os, h.only.tape, h.only.output, by have := h.only.size; simpa [World.setCell] using this, fun b hb hx => (Below.heap_setCell w' ⟨A, i, none⟩ _ b (fun e => by have e2 : b = A := e; omega)).trans (h.only.block b hb hx)⟩, h.new⟩
theorem Bst.setHi {L : Bdr} {w : World} {FB : Nat → Prop} {st : NfD} (h : Bst L w FB st) {A : Nat} (hA : ¬ BX L FB A ∧ ¬ L.S A) (i : Nat) (v : Value) : Bst L (w.setCell ⟨A, i, none⟩ v) FB st :=
 h.only (X := fun b => b = A) (Only.set _ _ _ _ rfl) fun c hc => by
  have e : c = A := hc
  rw [e]
  exact hA
def ApxR (T N s0 : Nat) (R : List RuleD) (base : Nat) (e : Ending) (w' : World) : Prop :=
 ∃ cf : Int → CompD, CfOk R N cf ∧
  ((e = .returned (.tuple #[.agg #[.int .i64 0, .slice none 0 0, .slice none 0 0], .bool false, .int .i64 2]) ∧ (1000 < 2 + sizeN R cf N (s0 : Int) ∨ ∃ ks : List ByteArray, ks.Nodup ∧ (∀ k ∈ ks, GoodL (wholeN R cf N (s0 : Int)) k) ∧ 200 < ks.length)) ∨
  ∃ (accs : List Int) (rows : List (List Int)) (ex : Bool) (A : Option Addr) (n c : Nat) (NN : Option Addr) (m c' : Nat), e = .returned (.tuple #[.agg #[.int .i64 0, .slice A n c, .slice NN m c'], .bool ex, .int .i64 0]) ∧ ApxA (wholeN R cf N (s0 : Int)) T T accs rows ∧ (ex = true ↔ ExactP R cf (s0 : Int)) ∧
   Sl Rep.int w' (fun b => base ≤ b) A n c (canonD (ExD accs rows)).2.1 ∧ Sl RI w' (fun b => base ≤ b) NN m c' (canonD (ExD accs rows)).2.2)
def exB (R : List RuleD) (N : Nat) (cf : Int → CompD) (s0 j : Nat) : Bool := ((cf (s0 : Int)).1 != 2) && (List.range j).all fun b => !war (edgN R) N s0 b || ((cf (b : Int)).1 != 2)
theorem exB_succ (R : List RuleD) (N : Nat) (cf : Int → CompD) (s0 j : Nat) : exB R N cf s0 (j + 1) = (exB R N cf s0 j && (!war (edgN R) N s0 j || ((cf (j : Int)).1 != 2))) := by
 unfold exB
 rw [List.range_succ, List.all_append, Bool.and_assoc]
 simp
theorem exB_iff {R : List RuleD} {N : Nat} {cf : Int → CompD} (H : CfOk R N cf) (s0 : Nat) : exB R N cf s0 N = true ↔ ExactP R cf (s0 : Int) := by
 have he : ∀ i j, edgN R i j = true → j < N := fun i j => edg_lt H.rules
 have hr : ∀ {i j : Nat}, Reach (fun i j => edgN R i j = true) i j → j < N := by
  intro i j h
  induction h with
  | one h => exact he _ _ h
  | step _ _ ih => exact ih
 unfold exB ExactP
 rw [Int.toNat_natCast, Bool.and_eq_true, bne_iff_ne, List.all_eq_true]
 refine and_congr_right fun _ => ⟨fun h b hb => ?_, fun h b hb => ?_⟩
 ·
  have h1 := h b (List.mem_range.2 (hr hb))
  rw [(war_iff he).2 hb] at h1
  simpa using h1
 ·
  cases hw : war (edgN R) N s0 b with
  | false => rfl
  | true => simpa using h b ((war_iff he).1 hw)
theorem step_calls {P : Program} {o : Oper} {a : Act} {w : World} {K : Act → World → Prop} {ops : Array Oper} {Q : Exit → Act → World → Prop} {R : Ending → World → Prop} (F : FuncId) (args : Array Value) (hg : o.guard = none) (hrun : (execOp a.eval o).run P w = .ok (.enter F args) w) (hc : Calls P F args w R)
    (hK : ∀ e w', R e w' → ∃ v, e = .returned v ∧ K (a.put o.dst v) w') : if Region.wanted o (yielded ops a.tmps) = true then Oper.wp P o a w K Q else K (a.put o.dst undef) w := by
 rw [if_pos (by simp [Region.wanted, hg])]
 unfold Oper.wp
 rw [hrun]
 refine Calls.mono hc fun e w' he => ?_
 obtain ⟨v, rfl, h⟩ := hK e w' he
 exact h
def ExpO (stp : ByteArray → Nat → Option ByteArray) (acc : ByteArray → Int) (Good : ByteArray → Prop) (first : ByteArray) (C : Nat) (S : Nat → Prop) (A : Option Addr) (n c : Nat) (N : Option Addr) (m c' : Nat) (b : Bool) (w' : World) : Prop :=
 (b = false ∧ ∃ ks : List ByteArray, ks.Nodup ∧ (∀ k ∈ ks, Good k) ∧ 200 < ks.length) ∨
 (b = true ∧ ∃ (ks : List ByteArray) (accs : List Int) (rows : List (List Int)), Sl Rep.int w' S A n c accs ∧ Sl RI w' S N m c' rows ∧ ExMid stp acc Good first C ks.length ks accs rows)
theorem ExpO.keep {stp : ByteArray → Nat → Option ByteArray} {acc : ByteArray → Int} {Good : ByteArray → Prop} {first : ByteArray} {C : Nat} {S : Nat → Prop} {A : Option Addr} {n c : Nat} {N : Option Addr} {m c' : Nat} {b : Bool} {w w' : World} (h : ExpO stp acc Good first C S A n c N m c' b w) (hk : Kept S w w') : ExpO stp acc Good first C S A n c N m c' b w' :=
 h.imp id fun ⟨e, ks, accs, rows, h1, h2, h3⟩ => ⟨e, ks, accs, rows, h1.keep hk, h2.keep hk, h3⟩
theorem ExpR.one {stp : ByteArray → Nat → Option ByteArray} {acc : ByteArray → Int} {Good : ByteArray → Prop} {first : ByteArray} {C base : Nat} {e : Ending} {w' : World} (h : ExpR stp acc Good first C base e w') :
    ∃ (A : Option Addr) (n c : Nat) (N : Option Addr) (m c' : Nat) (b : Bool), e = .returned (.tuple #[.agg #[.int .i64 0, .slice A n c, .slice N m c'], .bool b]) ∧ ExpO stp acc Good first C (fun b => base ≤ b ∧ b < w'.heap.size) A n c N m c' b w' := by
 rcases h with ⟨rfl, h⟩ | ⟨ks, accs, rows, A, n, c, N, m, c', rfl, h1, h2, h3⟩
 ·
  exact ⟨none, 0, 0, none, 0, 0, false, rfl, .inl ⟨rfl, h⟩⟩
 ·
  exact ⟨A, n, c, N, m, c', true, rfl, .inr ⟨rfl, ks, accs, rows, h1.fit, h2.fit, h3⟩⟩
set_option linter.unusedSimpArgs false in
set_option maxRecDepth 1000000 in
set_option maxHeartbeats 20000000 in
theorem apxOf (w : World) (S : Nat → Prop) (AR : Option Addr) (nR cR : Nat) (g : GramD) (hg : Sl RRule w S AR nR cR g.2.2.2) (hv : GValid g) :
    Calls Tryz.prog 5 #[.agg #[.int .i64 g.1, .int .i64 g.2.1, .int .i64 g.2.2.1, .slice AR nR cR]] w fun e w' => ApxR g.1.toNat g.2.1.toNat g.2.2.1.toNat g.2.2.2 w.heap.size e w' ∧ Below w.heap.size w w' := by
 have HG := Lib.hid hg.fit
 have HV := Lib.hid hv
 obtain ⟨Tm, Nn, st, R⟩ := g
 obtain ⟨N, rfl⟩ : ∃ N : Nat, Nn = (N : Int) := ⟨Nn.toNat, by have := hv.n1; simp only at this; omega⟩
 obtain ⟨s0, rfl⟩ : ∃ s0 : Nat, st = (s0 : Int) := ⟨st.toNat, by have := hv.st; simp only at this; omega⟩
 have hN1 : 1 ≤ N := by have := hv.n1; simp only at this; omega
 have hN2 : N ≤ 10 := by have := hv.n2; simp only at this; omega
 have hs0 : s0 < N := by have := hv.st; simp only at this; omega
 simp only [Int.toNat_natCast]
 clear hg hv
 obtain ⟨w1, hw1⟩ : ∃ w1 : World, w1 = (w.alloc (.cells #[.int .i64 Tm, .int .i64 (N : Int), .int .i64 (s0 : Int), .slice AR nR cR] 25)).alloc (.cells #[.int .i64 0, .slice none 0 0, .slice none 0 0] 29) := ⟨_, rfl⟩
 have hb1 : Below w.heap.size w w1 := by rw [hw1]; exact ((Below.refl _ _).alloc (Nat.le_refl _) _).alloc (by simp) _
 have hz1 : w1.heap.size = w.heap.size + 1 + 1 := by rw [hw1]; simp
 have HBG1 := Lib.hid (show w1.heap[w.heap.size]? = some (.cells #[.int .i64 Tm, .int .i64 (N : Int), .int .i64 (s0 : Int), .slice AR nR cR] 25 (0, 0)) by rw [hw1]; exact (Below.heap_alloc _ _ _ (by simp)).trans (heap_alloc_new _ _))
 have HRB1 := Lib.hid (show w1.heap[w.heap.size + 1]? = some (.cells #[.int .i64 0, .slice none 0 0, .slice none 0 0] 29 (0, 0)) by rw [hw1]; exact heap_new _ _ _ (by simp))
 have HB1 := Lib.hid hb1
 have HCG := Lib.hid (show ∀ u : World, u.heap[w.heap.size]? = some (.cells #[.int .i64 Tm, .int .i64 (N : Int), .int .i64 (s0 : Int), .slice AR nR cR] 25 (0, 0)) → u.cell? ⟨w.heap.size, 0, none⟩ = some (.int .i64 Tm) ∧ u.cell? ⟨w.heap.size, 1, none⟩ = some (.int .i64 (N : Int)) ∧ u.cell? ⟨w.heap.size, 2, none⟩ = some (.int .i64 (s0 : Int)) ∧ u.cell? ⟨w.heap.size, 3, none⟩ = some (.slice AR nR cR) from fun u h =>
  ⟨by simp [World.cell?, h], by simp [World.cell?, h], by simp [World.cell?, h], by simp [World.cell?, h]⟩)
 have HG1 := Lib.hid (HG.out.below hb1)
 obtain ⟨g0, g1, g2, g3⟩ := HCG.out w1 HBG1.out
 rw [hw1] at g0 g1 g2 g3
 have HZ1 := Lib.hid hz1
 have heC := @entersSize
 clear hb1 hz1
 go_enter Tryz.func5, Tryz.ntmps5
 go_wp2_with fail
 rw [← hw1]
 clear hw1 g0 g1 g2 g3
 refine (gramCheck w1 _ AR nR cR (Tm, (N : Int), (s0 : Int), R) HG1.out HV.out).mono ?_
 rintro e w2 ⟨rfl, hb2⟩
 have HB2 := Lib.hid hb2
 have HBG2 := Lib.hid ((hb2.block _ (by have := HZ1.out; omega)).trans HBG1.out)
 have HRB2 := Lib.hid ((hb2.block _ (by have := HZ1.out; omega)).trans HRB1.out)
 clear hb2
 go_wp2_with fail
 have hz2 : w.heap.size < w2.heap.size := by have := HB2.out.size; have := HZ1.out; omega
 have hmk := fun W => tComps.makeS N (by omega) (by omega) W
 rw [show (Value.agg #[.int .i64 0, .slice none 0 0]).cells = #[.int .i64 0, .slice none 0 0] from rfl] at hmk
 have hmm := @run_makeMap Tryz.prog
 refine wp_region_inv (by kernel_rfl) (I4e _ w2.drew Tm (N : Int) (s0 : Int) AR nR cR N w.heap.size) (.inl ⟨rfl, .refl _ _, .refl _ _, (fun h => by cases h), (fun h => by cases h), (fun h => by cases h), (fun h => by cases h), (fun h => by cases h), (fun h => by cases h), (fun h => by cases h), (fun h => by cases h), (fun h => by cases h), (fun h => by cases h), (fun h => by cases h), (fun h => by cases h), (fun h => by cases h), (fun h => by cases h), (fun h => by cases h), (fun h => by cases h)⟩) ?hs ?he ?hd
 case hd => exact deps_of (by kernel_rfl)
 case he =>
  rintro f a w3 hI hall
  rcases hI with ⟨h13, _⟩ | ⟨_, hs, B3, B4, B7, c7, B8, B9, Bb, Bp, ⟨k24, k25, k26, k27, k28, k29, k30, k31, k32, k33, k34, k35, k6⟩, hM⟩
  ·
   rw [hall 13 (of_decide_eq_true (by kernel_rfl))] at h13; cases h13
  have e := hs.eq (fun d hd => by
   simp only [r4D, List.mem_cons, List.not_mem_nil, or_false] at hd
   show d < 138
   omega)
  replace k24 : a.tmps.getD 24 undef = _ := k24
  replace k25 : a.tmps.getD 25 undef = _ := k25
  replace k26 : a.tmps.getD 26 undef = _ := k26
  replace k27 : a.tmps.getD 27 undef = _ := k27
  replace k28 : a.tmps.getD 28 undef = _ := k28
  replace k29 : a.tmps.getD 29 undef = _ := k29
  replace k30 : a.tmps.getD 30 undef = _ := k30
  replace k31 : a.tmps.getD 31 undef = _ := k31
  replace k32 : a.tmps.getD 32 undef = _ := k32
  replace k33 : a.tmps.getD 33 undef = _ := k33
  replace k34 : a.tmps.getD 34 undef = _ := k34
  replace k35 : a.tmps.getD 35 undef = _ := k35
  replace k6 : a.tmps.getD 6 undef = _ := k6
  simp only [r4D, List.foldl_cons, List.foldl_nil] at e
  rw [k24, k25, k26, k27, k28, k29, k30, k31, k32, k33, k34, k35, k6] at e
  simp only [Act.put, List.setIfInBounds_toArray, List.set_cons_zero, List.set_cons_succ] at e
  have HM := Lib.hid hM
  have hM0 := hM
  clear k24 k25 k26 k27 k28 k29 k30 k31 k32 k33 k34 k35 k6 hs hall hM hmk hmm
  subst e
  have HBG3 := Lib.hid ((hM0.below.block _ hz2).trans HBG2.out)
  have HRB3 := Lib.hid ((hM0.below.block _ (by have := HB2.out.size; have := HZ1.out; show w.heap.size + 1 < w2.heap.size; omega)).trans HRB2.out)
  have HB3 := Lib.hid (HB1.out.trans ((HB2.out.mono (by have := HZ1.out; omega)).trans ((Below.refl w.heap.size w2).drew.trans (hM0.below.mono (show w.heap.size ≤ w2.heap.size by omega)))))
  have HG3 := Lib.hid ((HG.out.keep (Kept.belowB HB3.out fun b hb => hb.2)))
  obtain ⟨g0, g1, g2, g3⟩ := HCG.out w3 HBG3.out
  have hRN : RulesN N R := fun r hr => by
   obtain ⟨h1, _, h3⟩ := HV.out.rules r hr
   simp only at h1
   refine ⟨⟨h1.1, by omega⟩, fun s hs hn => ?_⟩
   have h4 := h3 s hs
   unfold SymOk at h4
   rw [hn] at h4
   simp at h4
   omega
  have hlen : ∀ r ∈ R, r.2.length ≤ 4 := fun r hr => (HV.out.rules r hr).2.1
  have hnR : nR ≤ 64 := by
   have := HG.out.len
   have := HV.out.rl
   simp only at this
   omega
  have HRN := Lib.hid hRN
  have HLE := Lib.hid hlen
  clear hRN hlen hM0 hz2
  go_wp2_with fail
  refine (apxComps w3 _ AR nR cR Tm N s0 R HG3.out HRN.out HLE.out hN1 hN2 hnR).mono ?_
  rintro e w4 ⟨⟨AC, nC, cC, cs, rfl, hcs, hcu⟩, hb4⟩
  have HCU := Lib.hid hcu
  have HCS := Lib.hid hcs.fit
  have HNCL := Lib.hid hcs.len
  have hnc10 : nC ≤ 10 := by have := hcu.few; have := HNCL.out; omega
  have hcap := hcs.cap
  have hM4 := HM.out
  have HB4 := Lib.hid (HB3.out.trans (hb4.mono HB3.out.size))
  have HBG4 := Lib.hid ((hb4.block _ (heap_lt HBG3.out)).trans HBG3.out)
  have HRB4 := Lib.hid ((hb4.block _ (heap_lt HRB3.out)).trans HRB3.out)
  have h3of := heap_lt hM4.of
  have h3bb := heap_lt hM4.bb
  have h3bp := heap_lt hM4.bp
  have HOF4 := Lib.hid ((OfB.start (Sc := fun b => w3.heap.size ≤ b ∧ b < w4.heap.size) ((hb4.block _ h3of).trans hM4.of)))
  have HBB4 := Lib.hid ((hb4.block _ h3bb).trans hM4.bb)
  have HBP4 := Lib.hid ((hb4.block _ h3bp).trans hM4.bp)
  have hB3bb : B3 ≠ Bb := fun e => by have h1 := hM4.of; rw [e, hM4.bb] at h1; simp at h1
  have hB3bp : B3 ≠ Bp := fun e => by have h1 := hM4.of; rw [e, hM4.bp] at h1; simp at h1
  have hB3w : w.heap.size + 1 < B3 := by
   have h1 := hM4.low.1
   have h2 : w2.drew.heap.size = w2.heap.size := rfl
   have h3 := HB2.out.size
   have h4 := HZ1.out
   omega
  have HPT := Lib.hid (show ∀ u : World, u.heap[Bp]? = some (.cells #[.pointer (some ⟨Bb, 0, none⟩)] 48 (0, 0)) → u.heap[Bb]? = some (.cells #[.int .i64 Tm, .int .i64 (N : Int), .int .i64 (s0 : Int), .slice AR nR cR, .slice (some ⟨B3, 0, none⟩) N N, .slice (some ⟨B7, 0, none⟩) N c7, .int .i64 0, .map (some B8), .map (some B9)] 54 (0, 0)) → u.cell? ⟨Bp, 0, none⟩ = some (.pointer (some ⟨Bb, 0, none⟩)) ∧ u.cell? ⟨Bb, 4, none⟩ = some (.slice (some ⟨B3, 0, none⟩) N N) from fun u h1 h2 => ⟨by simp [World.cell?, h1], by simp [World.cell?, h2]⟩)
  have HE8 := Lib.hid ((hb4.block _ (heap_lt hM4.e8)).trans hM4.e8)
  have HE9 := Lib.hid ((hb4.block _ (heap_lt hM4.e9)).trans hM4.e9)
  have HMM := Lib.hid (fun f : Int → Nat => ((memo_start hN1 hM4.sz f).1).below hb4)
  have hc7 := (memo_start hN1 hM4.sz (fun _ => 0)).2
  obtain ⟨hap, hap3, h37, hbp7⟩ := hM4.apart hN1
  have HAP := Lib.hid hap
  have HAP3 := Lib.hid hap3
  have H3L := Lib.hid (And.intro h37 (And.intro (heap_lt hM4.e8) (heap_lt hM4.e9)))
  have HLOW := Lib.hid (show w.heap.size + 1 < B3 ∧ w.heap.size + 1 < B7 ∧ w.heap.size + 1 < B8 ∧ w.heap.size + 1 < B9 ∧ w.heap.size + 1 < Bb by
   obtain ⟨l1, l2, l3, l4, l5, _⟩ := hM4.low
   have h2 : w2.drew.heap.size = w2.heap.size := rfl
   have h3 := HB2.out.size
   have h4 := HZ1.out
   omega)
  have H34 := Lib.hid hb4.size
  clear hcu hcs hb4 hM4 g0 g1 g2 g3 hap hap3 h37
  go_wp2_with fail
  go_loopg [39] nC (fun gk v39 wr => ∃ (i : Nat) (l : List CompD), i ≤ nC ∧ gk = nC - i ∧ v39 = .int .i64 i ∧ OfB wr B3 (fun b => w3.heap.size ≤ b ∧ b < w4.heap.size) l ∧ OfI cs N l (fun n => ∃ (i' : Nat) (c : CompD), i' < i ∧ cs[i']? = some c ∧ (n : Int) ∈ c.2) ∧ Only w4 wr (fun b => b = B3))
  case atStart => exact ⟨0, _, Nat.zero_le _, rfl, rfl, HOF4.out, (OfI.start cs N).mono fun m ⟨i', c, h, _⟩ => (by omega), .refl _ _⟩
  case round =>
   obtain ⟨i, l, hi, hgk, rfl, hof, hoi, hon⟩ := hrel
   have HGK := Lib.hid hgk
   have HOF := Lib.hid hof
   have HOI := Lib.hid hoi
   have HON := Lib.hid hon
   obtain ⟨w5, rfl⟩ : ∃ w5 : World, w5 = wr := ⟨_, rfl⟩
   clear hgk hof hoi hon
   by_cases hlt : i < nC
   ·
    have hiI : (i : Int) < (nC : Int) := by omega
    have hi0 : (0 : Int) ≤ (i : Int) := by omega
    obtain ⟨bc, oc, A2, m2, c2, cc, rfl, hbc, _, hc1, hc2, hcx, hcq⟩ := comp_at (HCS.out.keep (HON.out.kept fun b hb e => by have := hb.1; omega)) hlt
    have HCX := Lib.hid hcx
    have HCQ := Lib.hid hcq
    have HM2L := Lib.hid hcq.len
    have hmc2 := hcq.cap
    obtain ⟨_, n', hn', hck⟩ := HCU.out.each cc (List.mem_of_getElem? hcx)
    have hm10 : m2 ≤ 10 := by
     rw [HM2L.out, hck]
     have := compK_len (war (edgN R) N) n' N
     omega
    have HNM := Lib.hid (show ∀ x ∈ cc.2, 0 ≤ x ∧ x < (N : Int) from fun x hx => by
     rw [hck] at hx
     obtain ⟨m, h1, h2, _⟩ := compK_mem.1 hx
     omega)
    obtain ⟨w6, hw6⟩ : ∃ w6 : World, w6 = w5.alloc (.cells #[.int .i64 cc.1, .slice A2 m2 c2] 57) := ⟨_, rfl⟩
    have hb6 : Below w5.heap.size w5 w6 := by rw [hw6]; exact (Below.refl _ _).alloc (Nat.le_refl _) _
    have HON6 := Lib.hid (HON.out.trans (.of_below hb6 (Nat.le_refl _) _))
    have HO56 := Lib.hid (Only.of_below hb6 (Nat.le_refl _) (fun b => b = B3))
    have HOF6 := Lib.hid (HOF.out.only (X := fun _ => False) (.of_below hb6 (Nat.le_refl _) _) fun _ h => h.elim)
    have hbx6 : w6.heap[w5.heap.size]? = some (.cells #[.int .i64 cc.1, .slice A2 m2 c2] 57 (0, 0)) := by rw [hw6]; exact heap_alloc_new _ _
    have HBX6 := Lib.hid hbx6
    have k1 : w6.cell? ⟨w5.heap.size, 1, none⟩ = some (.slice A2 m2 c2) := by simp [World.cell?, hbx6]
    have hz45 : w4.heap.size ≤ w5.heap.size := HON.out.size
    have HZ56 := Lib.hid (show w5.heap.size < w6.heap.size by rw [hw6]; simp)
    rw [hw6] at k1
    clear hb6 hbx6 hcx hcq hck
    go_wp2_with fail
    rw [← hw6]
    clear k1 hw6 hc1 hc2
    go_loopg [46] m2 (fun gq v46 wr => ∃ (j : Nat) (l2 : List CompD), j ≤ m2 ∧ gq = m2 - j ∧ v46 = .int .i64 j ∧ OfB wr B3 (fun b => w3.heap.size ≤ b ∧ b < w4.heap.size) l2 ∧ OfI cs N l2 (fun n => (∃ (i' : Nat) (c : CompD), i' < i ∧ cs[i']? = some c ∧ (n : Int) ∈ c.2) ∨ ∃ j' : Nat, j' < j ∧ cc.2[j']? = some (n : Int)) ∧ Only w4 wr (fun b => b = B3) ∧ Only w5 wr (fun b => b = B3) ∧ wr.heap[w5.heap.size]? = some (.cells #[.int .i64 cc.1, (.slice A2 m2 c2)] 57 (0, 0)))
    case atStart => exact ⟨0, l, Nat.zero_le _, rfl, rfl, HOF6.out, HOI.out.mono fun n h => h.elim id fun ⟨j', h1, _⟩ => (by omega), HON6.out, HO56.out, HBX6.out⟩
    case round =>
     obtain ⟨j, l2, hj, hgq, rfl, hof, hoi, hon, hon5, hbx⟩ := hrel
     have HGQ := Lib.hid hgq
     have HOF7 := Lib.hid hof
     have HOI7 := Lib.hid hoi
     have HON7 := Lib.hid hon
     have HBX7 := Lib.hid hbx
     have HO57 := Lib.hid hon5
     obtain ⟨w7, rfl⟩ : ∃ w7 : World, w7 = wr := ⟨_, rfl⟩
     clear hgq hof hoi hon hon5 hbx
     by_cases hjl : j < m2
     ·
      have hjI : (j : Int) < (m2 : Int) := by omega
      have hj0 : (0 : Int) ≤ (j : Int) := by omega
      have HCQ7 := Lib.hid (HCQ.out.keep (HO57.out.kept fun b hb e => by have := hb.1; omega))
      obtain ⟨bn, on, u7, hA2, _, hux, hcl⟩ := HCQ7.out.ints.at_ hjl
      obtain ⟨xI, hxI⟩ : ∃ xI, cc.2[j]? = some xI := ⟨_, List.getElem?_eq_getElem (by rw [← HM2L.out]; exact hjl)⟩
      obtain rfl : u7 = .int .i64 xI := by
       rw [List.getElem?_map, hxI] at hux
       injection hux with hux
       exact hux.symm
      obtain ⟨hx0, hx1⟩ := HNM.out xI (List.mem_of_getElem? hxI)
      obtain ⟨n, rfl⟩ : ∃ n : Nat, xI = (n : Int) := ⟨xI.toNat, by omega⟩
      have hnN : n < N := by omega
      have HXI := Lib.hid hxI
      obtain ⟨b1, b2⟩ := HPT.out w7 ((HON7.out.block _ (heap_lt HBP4.out) fun e => hB3bp e.symm).trans HBP4.out) ((HON7.out.block _ (heap_lt HBB4.out) fun e => hB3bb e.symm).trans HBB4.out)
      have q0 : w7.cell? ⟨w5.heap.size, 0, none⟩ = some (.int .i64 cc.1) := by simp [World.cell?, HBX7.out]
      have q1 : w7.cell? ⟨w5.heap.size, 1, none⟩ = some (.slice A2 m2 c2) := by simp [World.cell?, HBX7.out]
      have hof7 : OfB w7.drew B3 (fun b => w3.heap.size ≤ b ∧ b < w4.heap.size) l2 := HOF7.out.only (Only.drew w7 (fun _ => False)) fun _ h => h.elim
      have hset := hof7.set (fun h => by have := h.1; omega) (n := n) (by rw [HOI7.out.len]; exact hnN) (kd := cc.1) ((HCQ7.out.more fun b hb => hb).drew)
      clear hof7
      obtain ⟨⟨kk0, A0', n0', c0', hs0, hs1⟩, hf0, hf1, hof8⟩ := hset
      have HOF8 := Lib.hid hof8
      have HS0 := Lib.hid hs0
      have HS1 := Lib.hid hs1
      have HF0 := Lib.hid hf0
      have HF1 := Lib.hid hf1
      have HOI8 := Lib.hid (HOI7.out.set (P' := fun n' => (∃ (i' : Nat) (c : CompD), i' < i ∧ cs[i']? = some c ∧ (n' : Int) ∈ c.2) ∨ ∃ j' : Nat, j' < j + 1 ∧ cc.2[j']? = some (n' : Int)) (c := (cc.1, cc.2)) (List.mem_of_getElem? HCX.out) (n := n) (List.mem_of_getElem? hxI) hnN fun n' h => by
       rcases h with h | ⟨j', h1, h2⟩
       ·
        exact .inl (.inl h)
       ·
        rcases Nat.lt_succ_iff_lt_or_eq.1 h1 with h3 | rfl
        ·
         exact .inl (.inr ⟨j', h3, h2⟩)
        ·
         rw [hxI] at h2
         injection h2 with h2
         exact .inr (by omega))
      have h75 : w5.heap.size < w7.heap.size := heap_lt HBX7.out
      have hB35 : B3 < w5.heap.size := by have := HON.out.size; have := heap_lt HBP4.out; omega
      have HALL := Lib.hid (And.intro b1 (And.intro b2 (And.intro q0 q1)))
      obtain ⟨w8, hw8⟩ : ∃ w8 : World, w8 = (w7.drew.setCell ⟨B3, n * 2, none⟩ (.int .i64 cc.1)).setCell ⟨B3, n * 2 + 1, none⟩ (.slice A2 m2 c2) := ⟨_, rfl⟩
      have hset : Only w7 w8 (fun b => b = B3) := by rw [hw8]; exact (Only.drew w7 _).trans ((Only.set (X := fun b => b = B3) _ B3 (n * 2) _ rfl).trans (.set (X := fun b => b = B3) _ B3 (n * 2 + 1) _ rfl))
      have hbx8 := (hset.block _ h75 (by omega)).trans HBX7.out
      have HON8 := Lib.hid (HON7.out.trans hset)
      have HO58 := Lib.hid (HO57.out.trans hset)
      have HBX8 := Lib.hid hbx8
      obtain ⟨b3, b4⟩ := HPT.out w8 ((HON8.out.block _ (heap_lt HBP4.out) fun e => hB3bp e.symm).trans HBP4.out) ((HON8.out.block _ (heap_lt HBB4.out) fun e => hB3bb e.symm).trans HBB4.out)
      have HS8 := Lib.hid (And.intro b3 (And.intro b4 (And.intro (show w8.cell? ⟨w5.heap.size, 0, none⟩ = some (.int .i64 cc.1) by simp [World.cell?, hbx8]) (show w8.cell? ⟨w5.heap.size, 1, none⟩ = some (.slice A2 m2 c2) by simp [World.cell?, hbx8]))))
      have HW8 := Lib.hid (show w8 = ((w7.setCell ⟨B3, n * 2, none⟩ (.int .i64 cc.1)).setCell ⟨B3, n * 2 + 1, none⟩ (.slice A2 m2 c2)).drew by rw [hw8]; rfl)
      clear hset hbx8 b3 b4 hw8
      clear hux hxI hof8 hs0 hs1 hf0 hf1
      go_wp2_with fail
      refine wp_region_late (late := []) (S1 := fun u => u.cell? ⟨Bp, 0, none⟩ = some (.pointer (some ⟨Bb, 0, none⟩)) ∧ u.cell? ⟨Bb, 4, none⟩ = some (.slice (some ⟨B3, 0, none⟩) N N) ∧ u.cell? ⟨w5.heap.size, 0, none⟩ = some (.int .i64 cc.1) ∧ u.cell? ⟨w5.heap.size, 1, none⟩ = some (.slice A2 m2 c2)) (S := fun _ => True) (by kernel_rfl) ?_
      clear b1 b2 q0 q1 hA2
      refine wpAnyL_pure (i := 0) rfl (by kernel_rfl) (fun _ _ _ h => h) (Or.inl ⟨by rfl, (fun u hu => by obtain ⟨k0, k1, k2, k3⟩ := hu; go_simp; try rfl)⟩) HALL.out (fun _ => trivial) ?_
      simp only [Act.put, List.setIfInBounds_toArray, List.set_cons_zero, List.set_cons_succ, List.getElem_toArray, List.getElem_cons_zero, List.getElem_cons_succ]
      refine wpAnyL_pure (i := 1) rfl (by kernel_rfl) (fun _ _ _ h => h) (Or.inl ⟨by rfl, (fun u hu => by obtain ⟨k0, k1, k2, k3⟩ := hu; go_simp; try rfl)⟩) HALL.out (fun _ => trivial) ?_
      simp only [Act.put, List.setIfInBounds_toArray, List.set_cons_zero, List.set_cons_succ, List.getElem_toArray, List.getElem_cons_zero, List.getElem_cons_succ]
      refine wpAnyL_pure (i := 2) rfl (by kernel_rfl) (fun _ _ _ h => h) (Or.inl ⟨by rfl, (fun u hu => by obtain ⟨k0, k1, k2, k3⟩ := hu; go_simp; try rfl)⟩) HALL.out (fun _ => trivial) ?_
      simp only [Act.put, List.setIfInBounds_toArray, List.set_cons_zero, List.set_cons_succ, List.getElem_toArray, List.getElem_cons_zero, List.getElem_cons_succ]
      refine wpAnyL_pure (i := 3) rfl (by kernel_rfl) (fun _ _ _ h => h) (Or.inl ⟨by rfl, (fun u hu => by obtain ⟨k0, k1, k2, k3⟩ := hu; go_simp; try rfl)⟩) HALL.out (fun _ => trivial) ?_
      simp only [Act.put, List.setIfInBounds_toArray, List.set_cons_zero, List.set_cons_succ, List.getElem_toArray, List.getElem_cons_zero, List.getElem_cons_succ]
      refine wpAnyL_pure (i := 4) rfl (by kernel_rfl) (fun _ _ _ h => h) (Or.inl ⟨by rfl, (fun u hu => by obtain ⟨k0, k1, k2, k3⟩ := hu; go_simp; try rfl)⟩) HALL.out (fun _ => trivial) ?_
      simp only [Act.put, List.setIfInBounds_toArray, List.set_cons_zero, List.set_cons_succ, List.getElem_toArray, List.getElem_cons_zero, List.getElem_cons_succ]
      refine wpAnyL_pure (i := 5) rfl (by kernel_rfl) (fun _ _ _ h => h) (Or.inl ⟨by rfl, (fun u hu => by obtain ⟨k0, k1, k2, k3⟩ := hu; go_simp; try rfl)⟩) HALL.out (fun _ => trivial) ?_
      simp only [Act.put, List.setIfInBounds_toArray, List.set_cons_zero, List.set_cons_succ, List.getElem_toArray, List.getElem_cons_zero, List.getElem_cons_succ]
      refine wpAnyL_pure (i := 6) rfl (by kernel_rfl) (fun _ _ _ h => h) (Or.inl ⟨by rfl, (fun u hu => by obtain ⟨k0, k1, k2, k3⟩ := hu; go_simp; try rfl)⟩) HALL.out (fun _ => trivial) ?_
      simp only [Act.put, List.setIfInBounds_toArray, List.set_cons_zero, List.set_cons_succ, List.getElem_toArray, List.getElem_cons_zero, List.getElem_cons_succ]
      refine wpAnyL_ready (rs := [7]) (by kernel_rfl) (by simp) ?_
      refine AllL.cons rfl (fun K hK => ?_) ?_
      ·
       have hs0 : w7.cell? _ = _ := HS0.out
       have hs1 : w7.cell? _ = _ := HS1.out
       have hf0 : w7.frozen? _ = _ := HF0.out
       have hf1 : w7.frozen? _ = _ := HF1.out
       go_simp
       rw [← HW8.out]
       clear hs0 hs1 hf0 hf1
       refine hK.out _ _ HS8.out (fun _ => trivial) ?_
       clear hK K
       refine wpAnyL_done (by kernel_rfl) ?_ _
       go_wp2_with fail
       go_roundg (m2 - (j + 1))
       case measure => rw [HGQ.out]; omega
       case rel =>
        exact ⟨j + 1, _, by omega, rfl, by go_num, by rw [HW8.out]; exact HOF8.out, HOI8.out, HON8.out, HO58.out, HBX8.out⟩
      exact AllL.nil
     ·
      obtain rfl : m2 = j := by omega
      go_wp2_with fail
      go_roundg (nC - (i + 1))
      case measure => rw [HGK.out]; omega
      case rel =>
       refine ⟨i + 1, l2, by omega, rfl, by go_num, HOF7.out, HOI7.out.mono fun n h => ?_, HON7.out⟩
       obtain ⟨i', c, h1, h2, h3⟩ := h
       rcases Nat.lt_succ_iff_lt_or_eq.1 h1 with h4 | rfl
       ·
        exact .inl ⟨i', c, h4, h2, h3⟩
       ·
        rw [HCX.out] at h2
        injection h2 with h2
        subst h2
        obtain ⟨j', h5⟩ := List.getElem?_of_mem h3
        refine .inr ⟨j', ?_, h5⟩
        rw [HM2L.out]
        exact (List.getElem?_eq_some_iff.1 h5).1
   ·
    obtain rfl : nC = i := by omega
    have hoiT : OfI cs N l (fun _ => True) := HOI.out.mono' fun n hn _ => by
     obtain ⟨c, h1, h2⟩ := HCU.out.all n hn
     obtain ⟨i', h3⟩ := List.getElem?_of_mem h1
     exact ⟨i', c, by have := (List.getElem?_eq_some_iff.1 h3).1; have := HNCL.out; omega, h3, h2⟩
    have ho3 := HON.out
    have hr5 : Sl RRule w5 (fun b => (S b ∧ b < w.heap.size) ∨ (b = B3 ∨ (w3.heap.size ≤ b ∧ b < w4.heap.size))) AR nR cR R :=
     ((HG.out.keep (Kept.belowB HB4.out fun b hb => hb.2)).keep (ho3.kept fun b hb e => by have := hb.2; have := HLOW.out.1; omega)).more fun b hb => .inl hb
    have hof5 : Sl RComp w5 (fun b => (S b ∧ b < w.heap.size) ∨ (b = B3 ∨ (w3.heap.size ≤ b ∧ b < w4.heap.size))) (some ⟨B3, 0, none⟩) N N l := (HOF.out.sl hoiT.len).more fun b hb => .inr hb
    have hin : (ofBdr Bb B3 B7 c7 B8 B9 AR nR cR Tm N s0 R l (fun b => (S b ∧ b < w.heap.size) ∨ (b = B3 ∨ (w3.heap.size ≤ b ∧ b < w4.heap.size)))).In w5 0 :=
     ofBdr_in ((ho3.block _ (heap_lt HBB4.out) fun e => hB3bb e.symm).trans HBB4.out) hr5 hof5 fun b hb => by
      have := ho3.size
      have := H34.out
      have := HB4.out.size
      rcases hb with h | h | h <;> omega
    have hbst := ofBdr_bst hin ((ho3.block _ (heap_lt HE8.out) fun e => HAP3.out.2.1 e.symm).trans HE8.out) ((ho3.block _ (heap_lt HE9.out) fun e => HAP3.out.2.2 e.symm).trans HE9.out)
    have hok : (ofBdr Bb B3 B7 c7 B8 B9 AR nR cR Tm N s0 R l (fun b => (S b ∧ b < w.heap.size) ∨ (b = B3 ∨ (w3.heap.size ≤ b ∧ b < w4.heap.size)))).Ok :=
     ofBdr_ok HRN.out HLE.out hnR HG.out.len.symm hN2 HCU.out hoiT hc7 (fun b hb => by
      obtain ⟨l1, l2, l3, l4, l5⟩ := HLOW.out
      obtain ⟨m1, m2, m3⟩ := H3L.out
      obtain ⟨a1, a2, a3⟩ := HAP3.out
      rcases hb with h | h | h
      ·
       omega
      ·
       subst h; exact ⟨hB3bb, a1, a2, a3⟩
      ·
       omega) HAP.out
    have HCF := Lib.hid (OfI.ok HRN.out HCU.out hoiT)
    have HBST := Lib.hid hbst
    have HOK := Lib.hid hok
    have HIN := Lib.hid hin
    have HMEM := Lib.hid ((HMM.out (sizeN R (ofBdr Bb B3 B7 c7 B8 B9 AR nR cR Tm N s0 R l (fun b => (S b ∧ b < w.heap.size) ∨ (b = B3 ∨ (w3.heap.size ≤ b ∧ b < w4.heap.size)))).cf N)).only ho3 fun e => HAP3.out.1 e.symm)
    have HBP5 := Lib.hid ((ho3.block _ (heap_lt HBP4.out) fun e => hB3bp e.symm).trans HBP4.out)
    have HBB5 := Lib.hid ((ho3.block _ (heap_lt HBB4.out) fun e => hB3bb e.symm).trans HBB4.out)
    have HBG5 := Lib.hid ((ho3.block _ (heap_lt HBG4.out) fun e => by omega).trans HBG4.out)
    have HRB5 := Lib.hid ((ho3.block _ (heap_lt HRB4.out) fun e => by omega).trans HRB4.out)
    obtain ⟨b1, b2⟩ := HPT.out w5 HBP5.out HBB5.out
    obtain ⟨g0, g1, g2, g3⟩ := HCG.out w5 HBG5.out
    clear hbst hok hin hr5 hof5 ho3 hoiT
    go_wp2_with fail
    refine (apxSizeF (ofBdr Bb B3 B7 c7 B8 B9 AR nR cR Tm N s0 R l (fun b => (S b ∧ b < w.heap.size) ∨ (b = B3 ∨ (w3.heap.size ≤ b ∧ b < w4.heap.size)))) HOK.out _ rfl 0 _ s0 hs0 (Nat.le_refl _) w5 HIN.out HMEM.out).mono ?_
    rintro e w6 ⟨rfl, hin6, hmem6, ho6⟩
    obtain ⟨z, hz⟩ : ∃ z : Nat, z = sizeN (ofBdr Bb B3 B7 c7 B8 B9 AR nR cR Tm N s0 R l (fun b => (S b ∧ b < w.heap.size) ∨ (b = B3 ∨ (w3.heap.size ≤ b ∧ b < w4.heap.size)))).R (ofBdr Bb B3 B7 c7 B8 B9 AR nR cR Tm N s0 R l (fun b => (S b ∧ b < w.heap.size) ∨ (b = B3 ∨ (w3.heap.size ≤ b ∧ b < w4.heap.size)))).cf (ofBdr Bb B3 B7 c7 B8 B9 AR nR cR Tm N s0 R l (fun b => (S b ∧ b < w.heap.size) ∨ (b = B3 ∨ (w3.heap.size ≤ b ∧ b < w4.heap.size)))).N (s0 : Int) := ⟨_, rfl⟩
    have hz4 : z ≤ 4000 := by rw [hz]; exact sizeN_le HOK.out _
    rw [← hz]
    have HZN := Lib.hid hz
    have HIN6 := Lib.hid hin6
    have HO6 := Lib.hid ho6
    have HBP6 := Lib.hid ((ho6.block _ (heap_lt HBP5.out) hbp7).trans HBP5.out)
    have HBG6 := Lib.hid ((ho6.block _ (heap_lt HBG5.out) fun e => by have h1 := HLOW.out.2.1; have h2 : w.heap.size = B7 := e; omega).trans HBG5.out)
    have HRB6 := Lib.hid ((ho6.block _ (heap_lt HRB5.out) fun e => by have h1 := HLOW.out.2.1; have h2 : w.heap.size + 1 = B7 := e; omega).trans HRB5.out)
    have HB6 := Lib.hid (HB4.out.trans ((HON.out.below (B := w.heap.size) (fun b e => by have := HLOW.out.1; omega) HB4.out.size).trans (HO6.out.below (B := w.heap.size) (fun b e => by have h2 : b = B7 := e; have := HLOW.out.2.1; omega) (Nat.le_trans HB4.out.size HON.out.size))))
    clear hz hin6 hmem6 ho6 b1 b2 g0 g1 g2 g3
    by_cases hbig : 1000 < 2 + z
    ·
     have hbI : (1000 : Int) < 2 + (z : Int) := by omega
     have hrb6 := HRB6.out
     have r0 : w6.cell? ⟨w.heap.size + 1, 0, none⟩ = some (.int .i64 0) := by simp [World.cell?, hrb6]
     have r1 : w6.cell? ⟨w.heap.size + 1, 1, none⟩ = some (.slice none 0 0) := by simp [World.cell?, hrb6]
     have r2 : w6.cell? ⟨w.heap.size + 1, 2, none⟩ = some (.slice none 0 0) := by simp [World.cell?, hrb6]
     have f0 : w6.frozen? ⟨w.heap.size + 1, 0, none⟩ = false := by simp [World.frozen?, hrb6]
     have f1 : w6.frozen? ⟨w.heap.size + 1, 1, none⟩ = false := by simp [World.frozen?, hrb6]
     have f2 : w6.frozen? ⟨w.heap.size + 1, 2, none⟩ = false := by simp [World.frozen?, hrb6]
     clear hrb6
     go_wp2_with fail
     refine bodyPost_ret (v := .tuple #[.agg #[.int .i64 0, .slice none 0 0, .slice none 0 0], .bool false, .int .i64 2]) (by simp [results, Tryz.results5, go_sem, r0, r1, r2, f0, f1, f2]) rfl ?_
     refine ⟨⟨_, HCF.out, .inl ⟨rfl, .inl ?_⟩⟩, ((HB6.out.setCell (by simp) _).setCell (by simp) _).setCell (by simp) _⟩
     have hzn : z = sizeN R (fun n => (l[n.toNat]?).getD (0, [])) N (s0 : Int) := HZN.out
     omega
    ·
     have hbI : ¬ (1000 : Int) < 2 + (z : Int) := by omega
     have hO6 := HO6.out
     have he8 : w6.heap[B8]? = some (.map #[] 0) := (hO6.block _ (heap_lt ((HON.out.block _ (heap_lt HE8.out) fun e => HAP3.out.2.1 e.symm).trans HE8.out)) fun e => HAP.out.2.2.2.1 (show B8 = B7 from e).symm).trans ((HON.out.block _ (heap_lt HE8.out) fun e => HAP3.out.2.1 e.symm).trans HE8.out)
     have he9 : w6.heap[B9]? = some (.map #[] 0) := (hO6.block _ (heap_lt ((HON.out.block _ (heap_lt HE9.out) fun e => HAP3.out.2.2 e.symm).trans HE9.out)) fun e => HAP.out.2.2.2.2.1 (show B9 = B7 from e).symm).trans ((HON.out.block _ (heap_lt HE9.out) fun e => HAP3.out.2.2 e.symm).trans HE9.out)
     have hbx : w6.heap[Bb]? = _ := HIN6.out.box
     have HPX := Lib.hid (show Bp ≠ Bb ∧ Bp ≠ B8 ∧ Bp ≠ B9 from ⟨fun e => by have h := HBP6.out; rw [e, hbx] at h; simp at h, fun e => by have h := HBP6.out; rw [e, he8] at h; simp at h, fun e => by have h := HBP6.out; rw [e, he9] at h; simp at h⟩)
     obtain ⟨L, hL⟩ : ∃ L : Bdr, L = (ofBdr Bb B3 B7 c7 B8 B9 AR nR cR Tm N s0 R l (fun b => (S b ∧ b < w.heap.size) ∨ (b = B3 ∨ (w3.heap.size ≤ b ∧ b < w4.heap.size)))) := ⟨_, rfl⟩
     have HOKL := Lib.hid (show L.Ok by rw [hL]; exact HOK.out)
     have HBL0 := Lib.hid (show Bst L w6 (fun _ => False) ⟨0, [], []⟩ by rw [hL]; exact ofBdr_bst HIN6.out he8 he9)
     have HCFL := Lib.hid (show CfOk R N L.cf by rw [hL]; exact HCF.out)
     have HZL := Lib.hid (show z = sizeN L.R L.cf L.N (s0 : Int) by rw [hL]; exact HZN.out)
     have HLF := Lib.hid (show L.Bb = Bb ∧ L.BE = B8 ∧ L.BD = B9 ∧ L.R = R ∧ L.N = N by rw [hL]; exact ⟨rfl, rfl, rfl, rfl, rfl⟩)
     have HLG := Lib.hid (show L.AC = some ⟨B3, 0, none⟩ ∧ L.cC = N by rw [hL]; exact ⟨rfl, rfl⟩)
     have HLX := Lib.hid (show ∀ b, L.S b → b < w6.heap.size from HBL0.out.inn.fit)
     have HNODE := Lib.hid (show ∀ (u : World) (FB : Nat → Prop) (st : NfD), Bst L u FB st → st.nodes ≤ 1000000 → Calls Tryz.prog 14 #[.pointer (some ⟨Bb, 0, none⟩)] u (fun e w' => e = .returned (.int .i64 (st.nodes : Int)) ∧ Bst L w' FB { st with nodes := st.nodes + 1 } ∧ Stp L FB u FB w') by
      rw [← HLF.out.1]
      exact fun u FB st h hn => apxNode L HOKL.out u FB st h hn)
     have HALL := Lib.hid (show ∀ (u : World) (FB : Nat → Prop), Stp L (fun _ => False) w6 FB u → u.heap[Bp]? = some (.cells #[.pointer (some ⟨Bb, 0, none⟩)] 48 (0, 0)) ∧ u.heap[w.heap.size]? = some (.cells #[.int .i64 Tm, .int .i64 (N : Int), .int .i64 (s0 : Int), .slice AR nR cR] 25 (0, 0)) ∧ u.heap[w.heap.size + 1]? = some (.cells #[.int .i64 0, .slice none 0 0, .slice none 0 0] 29 (0, 0)) from fun u FB h => by
      obtain ⟨f1, f2, f3, _, _⟩ := HLF.out
      obtain ⟨l1, l2, l3, l4, l5⟩ := HLOW.out
      obtain ⟨p1, p2, p3⟩ := HPX.out
      refine ⟨(h.only.block _ (heap_lt HBP6.out) ?_).trans HBP6.out, (h.only.block _ (heap_lt HBG6.out) ?_).trans HBG6.out, (h.only.block _ (heap_lt HRB6.out) ?_).trans HRB6.out⟩
      ·
       rintro (e | e | e | e)
       ·
        exact p1 (e.trans f1)
       ·
        exact p2 (e.trans f2)
       ·
        exact p3 (e.trans f3)
       ·
        exact e
      ·
       rintro (e | e | e | e)
       ·
        rw [f1] at e; omega
       ·
        rw [f2] at e; omega
       ·
        rw [f3] at e; omega
       ·
        exact e
      ·
       rintro (e | e | e | e)
       ·
        rw [f1] at e; omega
       ·
        rw [f2] at e; omega
       ·
        rw [f3] at e; omega
       ·
        exact e)
     have HLOW6 := Lib.hid (show ∀ b, BX L (fun _ => False) b ∨ L.S b → b < w6.heap.size from fun b hb => by
      rcases hb with h | h
      ·
       rcases Nat.lt_or_ge b w6.heap.size with h1 | h1
       ·
        exact h1
       ·
        exact absurd h (HBL0.out.off b h1)
      ·
       exact HLX.out b h)
     have hz4' : 2 + z ≤ 1000 := by omega
     clear hO6 he8 he9 hbx hL HOK HBST HIN6 HCF HZN HPT HMM HMEM HIN HOI HOF HBB5 HBB4 HE8 HE9 HBP5 HBP4
     go_upto_region 16 with fail
     go_cut [11, 12] from 66 to 69 (fun v a wx => ∃ Bo, v = .int .i64 0 ∧ a = .pointer (some ⟨Bo, 0, none⟩) ∧ Bst L wx (fun _ => False) ⟨2, [], []⟩ ∧ Stp L (fun _ => False) w6 (fun _ => False) wx ∧ w6.heap.size ≤ Bo ∧ wx.heap[Bo]? = some (.cells #[.int .i64 1] 3 (0, 0)))
     case first =>
      have HALP := Lib.hid (show ∀ (u : World) (FB : Nat → Prop), Stp L (fun _ => False) w6 FB u → u.cell? ⟨Bp, 0, none⟩ = some (.pointer (some ⟨Bb, 0, none⟩)) from fun u FB h => by
       have := (HALL.out u FB h).1
       simp [World.cell?, this])
      refine wp_region_late (late := []) (S1 := fun u => u.cell? ⟨Bp, 0, none⟩ = some (.pointer (some ⟨Bb, 0, none⟩))) (S := fun _ => True) (by kernel_rfl) ?_
      obtain ⟨u0, hu0⟩ : ∃ u0 : World, u0 = w6.drew := ⟨_, rfl⟩
      rw [← hu0]
      have HH0 := Lib.hid (show Bst L u0 (fun _ => False) ⟨0, [], []⟩ ∧ Stp L (fun _ => False) w6 (fun _ => False) u0 by rw [hu0]; exact ⟨HBL0.out.below (Below.refl _ _).drew, .below (Below.refl _ _).drew⟩)
      clear hu0
      refine wpAnyL_pure (i := 0) rfl (by kernel_rfl) (fun _ _ _ h => h) (Or.inl ⟨by rfl, (fun u hu => by have k0 := hu; go_simp; try rfl)⟩) (HALP.out _ _ HH0.out.2) (fun _ => trivial) ?_
      simp only [Act.put, List.setIfInBounds_toArray, List.set_cons_zero, List.set_cons_succ, List.getElem_toArray, List.getElem_cons_zero, List.getElem_cons_succ]
      refine wpAnyL_pure (i := 2) rfl (by kernel_rfl) (fun _ _ _ h => h) (Or.inl ⟨by rfl, (fun u hu => by have k0 := hu; go_simp; try rfl)⟩) (HALP.out _ _ HH0.out.2) (fun _ => trivial) ?_
      simp only [Act.put, List.setIfInBounds_toArray, List.set_cons_zero, List.set_cons_succ, List.getElem_toArray, List.getElem_cons_zero, List.getElem_cons_succ]
      refine wpAnyL_ready (rs := [1, 4]) (by kernel_rfl) (by simp) ?_
      refine AllL.cons rfl (fun K hK => ?_) ?_
      ·
       refine step_calls 14 #[.pointer (some ⟨Bb, 0, none⟩)] rfl (by kernel_rfl) (HNODE.out u0 _ ⟨0, [], []⟩ HH0.out.1 (by show 0 ≤ 1000000; omega)) ?_
       rintro e u1 ⟨rfl, hb1, hs1⟩
       refine ⟨_, rfl, ?_⟩
       simp only [Act.put, List.setIfInBounds_toArray, List.set_cons_zero, List.set_cons_succ, List.getElem_toArray, List.getElem_cons_zero, List.getElem_cons_succ]
       have HH1 := Lib.hid (show Bst L u1 (fun _ => False) ⟨1, [], []⟩ ∧ Stp L (fun _ => False) w6 (fun _ => False) u1 from ⟨hb1, HH0.out.2.trans hs1⟩)
       clear hb1 hs1
       refine hK.out _ _ (HALP.out _ _ HH1.out.2) (fun _ => trivial) ?_
       clear hK K
       refine wpAnyL_ready (rs := [3, 4]) (by kernel_rfl) (by simp) ?_
       refine AllL.cons rfl (fun K hK => ?_) ?_
       ·
        refine step_calls 14 #[.pointer (some ⟨Bb, 0, none⟩)] rfl (by kernel_rfl) (HNODE.out u1 _ ⟨1, [], []⟩ HH1.out.1 (by show 1 ≤ 1000000; omega)) ?_
        rintro e u2 ⟨rfl, hb2, hs2⟩
        refine ⟨_, rfl, ?_⟩
        simp only [Act.put, List.setIfInBounds_toArray, List.set_cons_zero, List.set_cons_succ, List.getElem_toArray, List.getElem_cons_zero, List.getElem_cons_succ]
        have HH2 := Lib.hid (show Bst L u2 (fun _ => False) ⟨2, [], []⟩ ∧ Stp L (fun _ => False) w6 (fun _ => False) u2 from ⟨hb2, HH1.out.2.trans hs2⟩)
        clear hb2 hs2
        refine hK.out _ _ (HALP.out _ _ HH2.out.2) (fun _ => trivial) ?_
        clear hK K
        refine wpAnyL_ready (rs := [4]) (by kernel_rfl) (by simp) ?_
        refine AllL.cons rfl (fun K hK => ?_) ?_
        ·
         go_simp
         obtain ⟨u3, hu3⟩ : ∃ u : World, u = u2.alloc (.cells #[.int .i64 0] 3) := ⟨_, rfl⟩
         rw [← hu3]
         have hb3 : Below u2.heap.size u2 u3 := by rw [hu3]; exact (Below.refl _ _).alloc (Nat.le_refl _) _
         have HO3 := Lib.hid (show u3.heap[u2.heap.size]? = some (.cells #[.int .i64 0] 3 (0, 0)) by rw [hu3]; exact heap_alloc_new _ _)
         have HL3 := Lib.hid (show w6.heap.size ≤ u2.heap.size from HH2.out.2.only.size)
         have HH3 := Lib.hid (And.intro (HH2.out.1.below hb3) (HH2.out.2.trans (.below hb3)))
         clear hu3 hb3
         refine hK.out _ _ (HALP.out _ _ HH3.out.2) (fun _ => trivial) ?_
         clear hK K
         refine wpAnyL_pure (i := 5) rfl (by kernel_rfl) (fun _ _ _ h => h) (Or.inl ⟨by rfl, (fun u hu => by have k0 := hu; go_simp; try rfl)⟩) (HALP.out _ _ HH3.out.2) (fun _ => trivial) ?_
         simp only [Act.put, List.setIfInBounds_toArray, List.set_cons_zero, List.set_cons_succ, List.getElem_toArray, List.getElem_cons_zero, List.getElem_cons_succ]
         refine wpAnyL_ready (rs := [6]) (by kernel_rfl) (by simp) ?_
         refine AllL.cons rfl (fun K hK => ?_) ?_
         ·
          have hc4 : u3.cell? ⟨u2.heap.size, 0, none⟩ = some (.int .i64 0) := by have := HO3.out; simp [World.cell?, this]
          have hf4 : u3.frozen? ⟨u2.heap.size, 0, none⟩ = false := by have := HO3.out; simp [World.frozen?, this]
          have hq4 : Bp ≠ u2.heap.size := by have h1 := heap_lt HBP6.out; have h2 := HL3.out; omega
          go_simp
          clear hc4 hf4
          refine hK.out _ _ (setOther _ (p := ⟨u2.heap.size, 0, none⟩) (HALP.out _ _ HH3.out.2) hq4) (fun _ => trivial) ?_
          clear hK K
          refine wpAnyL_done (by kernel_rfl) ?_ _
          go_wp2_with fail
          go_meet
          exact ⟨_, rfl, rfl, HH3.out.1.setHi ⟨HBL0.out.off _ HL3.out, fun hx => by have h1 := HLX.out _ hx; have h2 := HL3.out; omega⟩ _ _, HH3.out.2.setHi HL3.out _ _, HL3.out, blk_set HO3.out _ _⟩
         exact AllL.nil
        exact AllL.nil
       refine AllL.cons rfl (fun K hK => ?_) ?_
       ·
        go_simp
        obtain ⟨u5, hu5⟩ : ∃ u : World, u = u1.alloc (.cells #[.int .i64 0] 3) := ⟨_, rfl⟩
        rw [← hu5]
        have hb5 : Below u1.heap.size u1 u5 := by rw [hu5]; exact (Below.refl _ _).alloc (Nat.le_refl _) _
        have HO5 := Lib.hid (show u5.heap[u1.heap.size]? = some (.cells #[.int .i64 0] 3 (0, 0)) by rw [hu5]; exact heap_alloc_new _ _)
        have HL5 := Lib.hid (show w6.heap.size ≤ u1.heap.size from HH1.out.2.only.size)
        have HH5 := Lib.hid (And.intro (HH1.out.1.below hb5) (HH1.out.2.trans (.below hb5)))
        clear hu5 hb5
        refine hK.out _ _ (HALP.out _ _ HH5.out.2) (fun _ => trivial) ?_
        clear hK K
        refine wpAnyL_ready (rs := [3]) (by kernel_rfl) (by simp) ?_
        refine AllL.cons rfl (fun K hK => ?_) ?_
        ·
         refine step_calls 14 #[.pointer (some ⟨Bb, 0, none⟩)] rfl (by kernel_rfl) (HNODE.out u5 _ ⟨1, [], []⟩ HH5.out.1 (by show 1 ≤ 1000000; omega)) ?_
         rintro e u6 ⟨rfl, hb6, hs6⟩
         refine ⟨_, rfl, ?_⟩
         simp only [Act.put, List.setIfInBounds_toArray, List.set_cons_zero, List.set_cons_succ, List.getElem_toArray, List.getElem_cons_zero, List.getElem_cons_succ]
         have HH6 := Lib.hid (show Bst L u6 (fun _ => False) ⟨2, [], []⟩ ∧ Stp L (fun _ => False) w6 (fun _ => False) u6 from ⟨hb6, HH5.out.2.trans hs6⟩)
         have HO6 := Lib.hid ((hs6.only.block _ (heap_lt HO5.out) (HBL0.out.off _ HL5.out)).trans HO5.out)
         clear hb6 hs6
         refine hK.out _ _ (HALP.out _ _ HH6.out.2) (fun _ => trivial) ?_
         clear hK K
         refine wpAnyL_pure (i := 5) rfl (by kernel_rfl) (fun _ _ _ h => h) (Or.inl ⟨by rfl, (fun u hu => by have k0 := hu; go_simp; try rfl)⟩) (HALP.out _ _ HH6.out.2) (fun _ => trivial) ?_
         simp only [Act.put, List.setIfInBounds_toArray, List.set_cons_zero, List.set_cons_succ, List.getElem_toArray, List.getElem_cons_zero, List.getElem_cons_succ]
         refine wpAnyL_ready (rs := [6]) (by kernel_rfl) (by simp) ?_
         refine AllL.cons rfl (fun K hK => ?_) ?_
         ·
          have hc7 : u6.cell? ⟨u1.heap.size, 0, none⟩ = some (.int .i64 0) := by have := HO6.out; simp [World.cell?, this]
          have hf7 : u6.frozen? ⟨u1.heap.size, 0, none⟩ = false := by have := HO6.out; simp [World.frozen?, this]
          have hq7 : Bp ≠ u1.heap.size := by have h1 := heap_lt HBP6.out; have h2 := HL5.out; omega
          go_simp
          clear hc7 hf7
          refine hK.out _ _ (setOther _ (p := ⟨u1.heap.size, 0, none⟩) (HALP.out _ _ HH6.out.2) hq7) (fun _ => trivial) ?_
          clear hK K
          refine wpAnyL_done (by kernel_rfl) ?_ _
          go_wp2_with fail
          go_meet
          exact ⟨_, rfl, rfl, HH6.out.1.setHi ⟨HBL0.out.off _ HL5.out, fun hx => by have h1 := HLX.out _ hx; have h2 := HL5.out; omega⟩ _ _, HH6.out.2.setHi HL5.out _ _, HL5.out, blk_set HO6.out _ _⟩
         exact AllL.nil
        exact AllL.nil
       exact AllL.nil
      refine AllL.cons rfl (fun K hK => ?_) ?_
      ·
       go_simp
       obtain ⟨u8, hu8⟩ : ∃ u : World, u = u0.alloc (.cells #[.int .i64 0] 3) := ⟨_, rfl⟩
       rw [← hu8]
       have hb8 : Below u0.heap.size u0 u8 := by rw [hu8]; exact (Below.refl _ _).alloc (Nat.le_refl _) _
       have HO8 := Lib.hid (show u8.heap[u0.heap.size]? = some (.cells #[.int .i64 0] 3 (0, 0)) by rw [hu8]; exact heap_alloc_new _ _)
       have HL8 := Lib.hid (show w6.heap.size ≤ u0.heap.size from HH0.out.2.only.size)
       have HH8 := Lib.hid (And.intro (HH0.out.1.below hb8) (HH0.out.2.trans (.below hb8)))
       clear hu8 hb8
       refine hK.out _ _ (HALP.out _ _ HH8.out.2) (fun _ => trivial) ?_
       clear hK K
       refine wpAnyL_ready (rs := [1]) (by kernel_rfl) (by simp) ?_
       refine AllL.cons rfl (fun K hK => ?_) ?_
       ·
        refine step_calls 14 #[.pointer (some ⟨Bb, 0, none⟩)] rfl (by kernel_rfl) (HNODE.out u8 _ ⟨0, [], []⟩ HH8.out.1 (by show 0 ≤ 1000000; omega)) ?_
        rintro e u9 ⟨rfl, hb9, hs9⟩
        refine ⟨_, rfl, ?_⟩
        simp only [Act.put, List.setIfInBounds_toArray, List.set_cons_zero, List.set_cons_succ, List.getElem_toArray, List.getElem_cons_zero, List.getElem_cons_succ]
        have HH9 := Lib.hid (show Bst L u9 (fun _ => False) ⟨1, [], []⟩ ∧ Stp L (fun _ => False) w6 (fun _ => False) u9 from ⟨hb9, HH8.out.2.trans hs9⟩)
        have HO9 := Lib.hid ((hs9.only.block _ (heap_lt HO8.out) (HBL0.out.off _ HL8.out)).trans HO8.out)
        clear hb9 hs9
        refine hK.out _ _ (HALP.out _ _ HH9.out.2) (fun _ => trivial) ?_
        clear hK K
        refine wpAnyL_ready (rs := [3]) (by kernel_rfl) (by simp) ?_
        refine AllL.cons rfl (fun K hK => ?_) ?_
        ·
         refine step_calls 14 #[.pointer (some ⟨Bb, 0, none⟩)] rfl (by kernel_rfl) (HNODE.out u9 _ ⟨1, [], []⟩ HH9.out.1 (by show 1 ≤ 1000000; omega)) ?_
         rintro e u10 ⟨rfl, hb10, hs10⟩
         refine ⟨_, rfl, ?_⟩
         simp only [Act.put, List.setIfInBounds_toArray, List.set_cons_zero, List.set_cons_succ, List.getElem_toArray, List.getElem_cons_zero, List.getElem_cons_succ]
         have HH10 := Lib.hid (show Bst L u10 (fun _ => False) ⟨2, [], []⟩ ∧ Stp L (fun _ => False) w6 (fun _ => False) u10 from ⟨hb10, HH9.out.2.trans hs10⟩)
         have HO10 := Lib.hid ((hs10.only.block _ (heap_lt HO9.out) (HBL0.out.off _ HL8.out)).trans HO9.out)
         clear hb10 hs10
         refine hK.out _ _ (HALP.out _ _ HH10.out.2) (fun _ => trivial) ?_
         clear hK K
         refine wpAnyL_pure (i := 5) rfl (by kernel_rfl) (fun _ _ _ h => h) (Or.inl ⟨by rfl, (fun u hu => by have k0 := hu; go_simp; try rfl)⟩) (HALP.out _ _ HH10.out.2) (fun _ => trivial) ?_
         simp only [Act.put, List.setIfInBounds_toArray, List.set_cons_zero, List.set_cons_succ, List.getElem_toArray, List.getElem_cons_zero, List.getElem_cons_succ]
         refine wpAnyL_ready (rs := [6]) (by kernel_rfl) (by simp) ?_
         refine AllL.cons rfl (fun K hK => ?_) ?_
         ·
          have hc11 : u10.cell? ⟨u0.heap.size, 0, none⟩ = some (.int .i64 0) := by have := HO10.out; simp [World.cell?, this]
          have hf11 : u10.frozen? ⟨u0.heap.size, 0, none⟩ = false := by have := HO10.out; simp [World.frozen?, this]
          have hq11 : Bp ≠ u0.heap.size := by have h1 := heap_lt HBP6.out; have h2 := HL8.out; omega
          go_simp
          clear hc11 hf11
          refine hK.out _ _ (setOther _ (p := ⟨u0.heap.size, 0, none⟩) (HALP.out _ _ HH10.out.2) hq11) (fun _ => trivial) ?_
          clear hK K
          refine wpAnyL_done (by kernel_rfl) ?_ _
          go_wp2_with fail
          go_meet
          exact ⟨_, rfl, rfl, HH10.out.1.setHi ⟨HBL0.out.off _ HL8.out, fun hx => by have h1 := HLX.out _ hx; have h2 := HL8.out; omega⟩ _ _, HH10.out.2.setHi HL8.out _ _, HL8.out, blk_set HO10.out _ _⟩
         exact AllL.nil
        exact AllL.nil
       exact AllL.nil
      exact AllL.nil
     case rest =>
      obtain ⟨Bo, rfl, rfl, hbst, hstp, hbo, hob⟩ := hcut
      obtain ⟨w7, rfl⟩ : ∃ w7 : World, w7 = wc := ⟨_, rfl⟩
      have HOB7 := Lib.hid hob
      have HBO := Lib.hid hbo
      have HS7 := Lib.hid hstp
      have hal := HALL.out _ _ hstp
      have p1 : w7.cell? ⟨Bp, 0, none⟩ = some (.pointer (some ⟨Bb, 0, none⟩)) := by simp [World.cell?, hal.1]
      have g2 : w7.cell? ⟨w.heap.size, 2, none⟩ = some (.int .i64 (s0 : Int)) := (HCG.out w7 hal.2.1).2.2.1
      have o1 : w7.cell? ⟨Bo, 0, none⟩ = some (.int .i64 1) := by simp [World.cell?, hob]
      obtain ⟨E, hE⟩ : ∃ E, E = wholeN R L.cf N (s0 : Int) := ⟨_, rfl⟩
      have HEE := Lib.hid hE
      have hTO : TermsOk R Tm.toNat := fun r hr s hs ht => by
       have h1 := (HV.out.rules r hr).2.2 s hs
       have h2 := HV.out.t1
       unfold SymOk at h1
       rw [ht] at h1
       simp only [if_true] at h1 h2
       omega
      have HAD := Lib.hid (show Adds Tm.toNat 0 z ⟨2, [], []⟩ E by
       obtain ⟨f1, f2, f3, f4, f5⟩ := HLF.out
       rw [hE, HZL.out]
       unfold wholeN
       rw [← f4] at hTO ⊢
       rw [← f5]
       exact buildN_adds HOKL.out.net hTO HOKL.out.len (by rw [HOKL.out.rl]; exact HOKL.out.nR) (by rw [f5]; omega) (by show 0 < 2; omega) (by show 1 < 2; omega))
      have HBUILD := Lib.hid (show Calls Tryz.prog 15 #[.pointer (some ⟨Bb, 0, none⟩), .int .i64 (s0 : Int), .int .i64 0, .int .i64 1] w7 (fun e w' => e = .returned (.tuple #[]) ∧ ∃ FB', Bst L w' FB' E ∧ Stp L (fun _ => False) w7 FB' w') by
       obtain ⟨f1, f2, f3, f4, f5⟩ := HLF.out
       have hnd := HAD.out.size (by omega)
       rw [hE] at hnd ⊢
       unfold wholeN at hnd ⊢
       rw [← f4] at hTO hnd ⊢
       rw [← f5] at hnd ⊢
       rw [← f1]
       exact apxBuildF L HOKL.out Tm.toNat hTO (L.rk (s0 : Int)) s0 (by rw [f5]; exact hs0) (Nat.le_refl _) w7 _ ⟨2, [], []⟩ 0 1 hbst (by show 0 < 2; omega) (by show 1 < 2; omega) ⟨by simp⟩ (by rw [hnd]; exact hz4'))
      have HEF := Lib.hid (show NfOk Tm.toNat E ∧ E.nodes = 2 + z ∧ E.eps.length + E.edges.length ≤ 600 * E.nodes from ⟨HAD.out.ok ⟨fun x hx => (by cases hx), fun x hx => (by cases hx)⟩, HAD.out.size (by omega), by have h1 := HAD.out.few; simp at h1; omega⟩)
      clear hal hob hbo hstp hbst hE hTO HAD
      have heB := @entersBuild
      go_wp2_with fail
      clear heB
      refine HBUILD.out.mono ?_
      rintro e w8 ⟨rfl, FB, hb8, hs8⟩
      have HB8 := Lib.hid hb8
      have HS8 := Lib.hid (HS7.out.trans hs8)
      have HOB8 := Lib.hid ((hs8.only.block _ (heap_lt HOB7.out) (HBL0.out.off _ HBO.out)).trans HOB7.out)
      have HK8 := Lib.hid (show ∀ b, BX L FB b ∨ L.S b → b < w8.heap.size from fun b hb => by
       rcases hb with h | h
       ·
        rcases Nat.lt_or_ge b w8.heap.size with h1 | h1
        ·
         exact h1
        ·
         exact absurd h (hb8.off b h1)
       ·
        exact hb8.inn.fit b h)
      have hlo8 : Bp < w8.heap.size ∧ Bb < w8.heap.size ∧ w.heap.size < w8.heap.size := by
       have h1 := hs8.only.size
       have h2 := HS7.out.only.size
       have h3 := heap_lt HBP6.out
       have h4 := heap_lt HBG6.out
       have h5 := HLOW6.out Bb (.inl (.inl HLF.out.1.symm))
       omega
      have HLO8 := Lib.hid hlo8
      have HFAR := Lib.hid (show ∀ u : World, Below w8.heap.size w8 u → u.cell? ⟨Bp, 0, none⟩ = some (.pointer (some ⟨Bb, 0, none⟩)) ∧ u.cell? ⟨Bb, 6, none⟩ = some (.int .i64 (E.nodes : Int)) ∧ u.cell? ⟨w.heap.size, 0, none⟩ = some (.int .i64 Tm) from fun u hu => by
       obtain ⟨a1, a2, _⟩ := HALL.out _ _ (HS8.out.trans (.of_only (X := fun _ => False) ⟨hu.os, hu.tape, hu.output, hu.size, fun b hb _ => hu.block b hb⟩ fun _ h => h.elim))
       have h6 : u.cell? ⟨L.Bb, 6, none⟩ = some (.int .i64 (E.nodes : Int)) := by simp [World.cell?, (HB8.out.belowK HK8.out hu).inn.box]
       rw [HLF.out.1] at h6
       exact ⟨by simp [World.cell?, a1], h6, (HCG.out u a2).1⟩)
      obtain ⟨key, hkey⟩ : ∃ key, key = strOf (bitsB (cloL E (· ∈ [0]))) := ⟨_, rfl⟩
      have hnE : E.nodes ≤ 1000 := by have := HEF.out.2.1; omega
      have HCLOSE := Lib.hid (show ∀ (u : World) (bs g : Nat), Below w8.heap.size w8 u → w8.heap.size ≤ bs → ByB u bs (bitsB (List.replicate E.nodes false)) → Own u w8.heap.size 3 1 (.slice (some ⟨g, 0, none⟩) 1 1) 1 (natsV [0]) → g ≠ bs → Calls Tryz.prog 17 #[.pointer (some ⟨Bb, 0, none⟩), .slice (some ⟨bs, 0, none⟩) E.nodes E.nodes, .slice (some ⟨g, 0, none⟩) 1 1] u (fun e w' => e = .returned (.string key) ∧ Only u w' (fun b => b = bs ∨ b = g) ∧ Below w8.heap.size u w') by
       rw [← HLF.out.1, hkey]
       intro u bs g hu hbs hby how hne
       refine (apxCloseO L u FB E (HB8.out.belowK HK8.out hu) w8.heap.size HK8.out hu.size bs hbs hby _ [0] how (fun e => hne (Option.some.inj e)) (fun x hx => by rw [List.mem_singleton.1 hx]; have := HEF.out.2.1; omega) (by decide) hnE (fun p hp => (HEF.out.1.eps p hp).2) (by have := HEF.out.2.2; omega)).mono ?_
       rintro e w' ⟨h1, h2, h3⟩
       exact ⟨h1, h3.more fun b _ hb => hb.imp id fun e => (Option.some.inj e).symm, h2⟩)
      have HEXP := Lib.hid (show ∀ u : World, Below w8.heap.size w8 u → u.heap[Bo]? = some (.cells #[.int .i64 1] 3 (0, 0)) → Calls Tryz.prog 16 #[.string key, .int .i64 Tm, .func (.func 18) #[] #[.pointer (some ⟨Bp, 0, none⟩)], .func (.func 19) #[] #[.pointer (some ⟨Bo, 0, none⟩)], .int .i64 200] u (fun e w' => ExpR (stepL E) (accL 1) (GoodL E) (keyS E (· ∈ [0])) Tm.toNat u.heap.size e w' ∧ Below u.heap.size u w') from fun u hu hob => by
       have h1 := HV.out.t1
       have h2 := HV.out.t2
       simp only at h1 h2
       have hx := apxExplore u (keyS E (· ∈ [0])) Tm.toNat 18 19 #[.pointer (some ⟨Bp, 0, none⟩)] #[.pointer (some ⟨Bo, 0, none⟩)] (stepL E) (accL 1) (GoodL E) entersOf1 entersOf2
        (fun v hv k hk c hc => apxStepF L v FB E (HB8.out.belowK HK8.out (hu.trans (hv.mono hu.size))) Bp (by rw [HLF.out.1]; exact (HFAR.out v (hu.trans (hv.mono hu.size))).1) k hk c hnE (by have := HEF.out.2.2; omega) (by have := HEF.out.2.2; omega) (fun p hp => (HEF.out.1.eps p hp).2) (fun p hp => (HEF.out.1.edges p hp).2.1))
        (fun v hv k hk => (apxAcc v Bo 1 (by have h3 := (hv.block Bo (heap_lt hob)).trans hob; simp [World.cell?, h3]) E k hk (by have := HEF.out.2.1; omega)).mono fun e w' h => ⟨h.1, by rw [← h.2]; exact .refl _ _⟩)
        (keyS_good E _) (fun k c k' hk hc e => by
         unfold stepL at e
         split at e
         ·
          cases e
         ·
          injection e with e
          rw [← e]
          exact keyS_good E _) (fun k hk => by rw [hk.size]; unfold maxLen; omega) (by omega) (by omega)
       rw [show ((Tm.toNat : Nat) : Int) = Tm by omega] at hx
       rw [hkey]
       exact hx)
      have hmk := fun W => tBytes.make rfl E.nodes (by omega) (by omega) W
      simp only [made_bytesA] at hmk
      have HBY0 := Lib.hid (show ∀ W : World, ByB (W.alloc (.cells (Array.replicate E.nodes (Value.int .u8 0)) 5)) W.heap.size (bitsB (List.replicate E.nodes false)) from fun W => by
       rw [show bitsB (List.replicate E.nodes false) = List.replicate E.nodes 0 by simp [bitsB]]
       exact ByB.made W E.nodes)
      have hnE0 : (0 : Int) ≤ (E.nodes : Int) := by omega
      clear hs8 hb8 p1 g2 o1 HBUILD hkey hlo8
      go_upto_region 18 with fail
      go_cut [13, 14] from 76 to 92 (fun p ok wx => ∃ (Bx : Nat) (A : Option Addr) (n c : Nat) (NN : Option Addr) (m c' : Nat) (b : Bool) (S : Nat → Prop), p = .pointer (some ⟨Bx, 0, none⟩) ∧ ok = .bool b ∧ wx.heap[Bx]? = some (.cells #[.int .i64 0, .slice A n c, .slice NN m c'] 29 (0, 0)) ∧ w8.heap.size ≤ Bx ∧ ExpO (stepL E) (accL 1) (GoodL E) (keyS E (· ∈ [0])) Tm.toNat S A n c NN m c' b wx ∧ Below w8.heap.size w8 wx)
      case first =>
       refine wp_region_late (late := []) (S1 := fun u => u.cell? ⟨Bp, 0, none⟩ = some (.pointer (some ⟨Bb, 0, none⟩)) ∧ u.cell? ⟨Bb, 6, none⟩ = some (.int .i64 (E.nodes : Int)) ∧ u.cell? ⟨w.heap.size, 0, none⟩ = some (.int .i64 Tm)) (S := fun _ => True) (by kernel_rfl) ?_
       obtain ⟨u0, hu0⟩ : ∃ u0 : World, u0 = w8.drew := ⟨_, rfl⟩
       rw [← hu0]
       have HH0 := Lib.hid (show Below w8.heap.size w8 u0 by rw [hu0]; exact (Below.refl _ _).drew)
       clear hu0
       refine wpAnyL_pure (i := 0) rfl (by kernel_rfl) (fun _ _ _ h => h) (Or.inl ⟨by rfl, (fun u hu => by obtain ⟨k0, k1, k2⟩ := hu; go_simp; try rfl)⟩) (HFAR.out _ HH0.out) (fun _ => trivial) ?_
       simp only [Act.put, List.setIfInBounds_toArray, List.set_cons_zero, List.set_cons_succ, List.getElem_toArray, List.getElem_cons_zero, List.getElem_cons_succ]
       refine wpAnyL_pure (i := 1) rfl (by kernel_rfl) (fun _ _ _ h => h) (Or.inl ⟨by rfl, (fun u hu => by obtain ⟨k0, k1, k2⟩ := hu; go_simp; try rfl)⟩) (HFAR.out _ HH0.out) (fun _ => trivial) ?_
       simp only [Act.put, List.setIfInBounds_toArray, List.set_cons_zero, List.set_cons_succ, List.getElem_toArray, List.getElem_cons_zero, List.getElem_cons_succ]
       refine wpAnyL_pure (i := 2) rfl (by kernel_rfl) (fun _ _ _ h => h) (Or.inl ⟨by rfl, (fun u hu => by obtain ⟨k0, k1, k2⟩ := hu; go_simp; try rfl)⟩) (HFAR.out _ HH0.out) (fun _ => trivial) ?_
       simp only [Act.put, List.setIfInBounds_toArray, List.set_cons_zero, List.set_cons_succ, List.getElem_toArray, List.getElem_cons_zero, List.getElem_cons_succ]
       refine wpAnyL_pure (i := 3) rfl (by kernel_rfl) (fun _ _ _ h => h) (Or.inl ⟨by rfl, (fun u hu => by obtain ⟨k0, k1, k2⟩ := hu; go_simp; try rfl)⟩) (HFAR.out _ HH0.out) (fun _ => trivial) ?_
       simp only [Act.put, List.setIfInBounds_toArray, List.set_cons_zero, List.set_cons_succ, List.getElem_toArray, List.getElem_cons_zero, List.getElem_cons_succ]
       refine wpAnyL_pure (i := 4) rfl (by kernel_rfl) (fun _ _ _ h => h) (Or.inl ⟨by rfl, (fun u hu => by obtain ⟨k0, k1, k2⟩ := hu; go_simp; try rfl)⟩) (HFAR.out _ HH0.out) (fun _ => trivial) ?_
       simp only [Act.put, List.setIfInBounds_toArray, List.set_cons_zero, List.set_cons_succ, List.getElem_toArray, List.getElem_cons_zero, List.getElem_cons_succ]
       refine wpAnyL_pure (i := 6) rfl (by kernel_rfl) (fun _ _ _ h => h) (Or.inl ⟨by rfl, (fun u hu => by obtain ⟨k0, k1, k2⟩ := hu; go_simp; try rfl)⟩) (HFAR.out _ HH0.out) (fun _ => trivial) ?_
       simp only [Act.put, List.setIfInBounds_toArray, List.set_cons_zero, List.set_cons_succ, List.getElem_toArray, List.getElem_cons_zero, List.getElem_cons_succ]
       refine wpAnyL_pure (i := 9) rfl (by kernel_rfl) (fun _ _ _ h => h) (Or.inl ⟨by rfl, (fun u hu => by obtain ⟨k0, k1, k2⟩ := hu; go_simp; try rfl)⟩) (HFAR.out _ HH0.out) (fun _ => trivial) ?_
       simp only [Act.put, List.setIfInBounds_toArray, List.set_cons_zero, List.set_cons_succ, List.getElem_toArray, List.getElem_cons_zero, List.getElem_cons_succ]
       refine wpAnyL_pure (i := 10) rfl (by kernel_rfl) (fun _ _ _ h => h) (Or.inl ⟨by rfl, (fun u hu => by obtain ⟨k0, k1, k2⟩ := hu; go_simp; try rfl)⟩) (HFAR.out _ HH0.out) (fun _ => trivial) ?_
       simp only [Act.put, List.setIfInBounds_toArray, List.set_cons_zero, List.set_cons_succ, List.getElem_toArray, List.getElem_cons_zero, List.getElem_cons_succ]
       refine wpAnyL_pure (i := 11) rfl (by kernel_rfl) (fun _ _ _ h => h) (Or.inl ⟨by rfl, (fun u hu => by obtain ⟨k0, k1, k2⟩ := hu; go_simp; try rfl)⟩) (HFAR.out _ HH0.out) (fun _ => trivial) ?_
       simp only [Act.put, List.setIfInBounds_toArray, List.set_cons_zero, List.set_cons_succ, List.getElem_toArray, List.getElem_cons_zero, List.getElem_cons_succ]
       refine wpAnyL_pure (i := 12) rfl (by kernel_rfl) (fun _ _ _ h => h) (Or.inl ⟨by rfl, (fun u hu => by obtain ⟨k0, k1, k2⟩ := hu; go_simp; try rfl)⟩) (HFAR.out _ HH0.out) (fun _ => trivial) ?_
       simp only [Act.put, List.setIfInBounds_toArray, List.set_cons_zero, List.set_cons_succ, List.getElem_toArray, List.getElem_cons_zero, List.getElem_cons_succ]
       refine wpAnyL_ready (rs := [5, 7, 17]) (by kernel_rfl) (by simp) ?_
       refine AllL.cons rfl (fun K hK => ?_) ?_
       ·
        go_simp
        obtain ⟨u1, hu1⟩ : ∃ u : World, u = u0.alloc (.cells (Array.replicate E.nodes (Value.int .u8 0)) 5) := ⟨_, rfl⟩
        rw [← hu1]
        have hb1 : Below u0.heap.size u0 u1 := by rw [hu1]; exact (Below.refl _ _).alloc (Nat.le_refl _) _
        have HN1 := Lib.hid (show ByB u1 u0.heap.size (bitsB (List.replicate E.nodes false)) by rw [hu1]; exact HBY0.out u0)
        have HL1 := Lib.hid (show w8.heap.size ≤ u0.heap.size ∧ u0.heap.size < u1.heap.size from ⟨HH0.out.size, by rw [hu1]; simp⟩)
        have HH1 := Lib.hid (HH0.out.trans (hb1.mono HH0.out.size))
        have HSZ1 := Lib.hid hb1.size
        clear hu1 hb1
        refine hK.out _ _ (HFAR.out _ HH1.out) (fun _ => trivial) ?_
        clear hK K
        refine wpAnyL_ready (rs := [7, 17]) (by kernel_rfl) (by simp) ?_
        refine AllL.cons rfl (fun K hK => ?_) ?_
        ·
         go_simp
         obtain ⟨u2, hu2⟩ : ∃ u : World, u = u1.alloc (.cells #[.int .i64 0] 3) := ⟨_, rfl⟩
         rw [← hu2]
         have hb2 : Below u1.heap.size u1 u2 := by rw [hu2]; exact (Below.refl _ _).alloc (Nat.le_refl _) _
         have HN2 := Lib.hid (show Own u2 w8.heap.size 3 1 (.slice (some ⟨u1.heap.size, 0, none⟩) 1 1) 1 (natsV [0]) by rw [hu2]; exact .inl (World.ownsRow_lit (e := 3) (size := 1) (base := w8.heap.size) u1 #[.int .i64 0] 1 HH1.out.size (by simp [maxLen]) (by simp)))
         have HL2 := Lib.hid (show w8.heap.size ≤ u1.heap.size ∧ u1.heap.size < u2.heap.size from ⟨HH1.out.size, by rw [hu2]; simp⟩)
         have HH2 := Lib.hid (HH1.out.trans (hb2.mono HH1.out.size))
         have HBY2 := Lib.hid (HN1.out.below hb2)
         have HSZ2 := Lib.hid hb2.size
         clear hu2 hb2
         refine hK.out _ _ (HFAR.out _ HH2.out) (fun _ => trivial) ?_
         clear hK K
         refine wpAnyL_ready (rs := [8, 17]) (by kernel_rfl) (by simp) ?_
         refine AllL.cons rfl (fun K hK => ?_) ?_
         ·
          have hne3 : u1.heap.size ≠ u0.heap.size := (by have hz0 := HSZ1.out; have hz1 := HSZ2.out; have hq0 := HL1.out; have hq1 := HL2.out; omega)
          refine step_calls 17 #[.pointer (some ⟨Bb, 0, none⟩), .slice (some ⟨u0.heap.size, 0, none⟩) E.nodes E.nodes, .slice (some ⟨u1.heap.size, 0, none⟩) 1 1] rfl (by kernel_rfl) (HCLOSE.out u2 u0.heap.size u1.heap.size HH2.out HL1.out.1 HBY2.out HN2.out hne3) ?_
          rintro e u3 ⟨rfl, ho3, hb3⟩
          refine ⟨_, rfl, ?_⟩
          simp only [Act.put, List.setIfInBounds_toArray, List.set_cons_zero, List.set_cons_succ, List.getElem_toArray, List.getElem_cons_zero, List.getElem_cons_succ]
          have HH3 := Lib.hid (HH2.out.trans hb3)
          have HSZ3 := Lib.hid hb3.size
          clear ho3 hb3 hne3
          refine hK.out _ _ (HFAR.out _ HH3.out) (fun _ => trivial) ?_
          clear hK K
          refine wpAnyL_ready (rs := [13, 17]) (by kernel_rfl) (by simp) ?_
          refine AllL.cons rfl (fun K hK => ?_) ?_
          ·
           refine step_calls 16 #[.string key, .int .i64 Tm, .func (.func 18) #[] #[.pointer (some ⟨Bp, 0, none⟩)], .func (.func 19) #[] #[.pointer (some ⟨Bo, 0, none⟩)], .int .i64 200] rfl (by kernel_rfl) (HEXP.out u3 HH3.out ((HH3.out.block _ (heap_lt HOB8.out)).trans HOB8.out)) ?_
           rintro e u4 ⟨hr4, hb4⟩
           obtain ⟨A, n, c, NN, m, c', bb, rfl, hx4⟩ := hr4.one
           refine ⟨_, rfl, ?_⟩
           simp only [Act.put, List.setIfInBounds_toArray, List.set_cons_zero, List.set_cons_succ, List.getElem_toArray, List.getElem_cons_zero, List.getElem_cons_succ]
           have HH4 := Lib.hid (HH3.out.trans (hb4.mono HH3.out.size))
           have HSZ4 := Lib.hid hb4.size
           have HXO4 := Lib.hid hx4
           clear hb4 hx4 hr4
           refine hK.out _ _ (HFAR.out _ HH4.out) (fun _ => trivial) ?_
           clear hK K
           refine wpAnyL_pure (i := 14) rfl (by kernel_rfl) (fun _ _ _ h => h) (Or.inl ⟨by rfl, (fun u hu => by obtain ⟨k0, k1, k2⟩ := hu; go_simp; try rfl)⟩) (HFAR.out _ HH4.out) (fun _ => trivial) ?_
           simp only [Act.put, List.setIfInBounds_toArray, List.set_cons_zero, List.set_cons_succ, List.getElem_toArray, List.getElem_cons_zero, List.getElem_cons_succ]
           refine wpAnyL_pure (i := 15) rfl (by kernel_rfl) (fun _ _ _ h => h) (Or.inl ⟨by rfl, (fun u hu => by obtain ⟨k0, k1, k2⟩ := hu; go_simp; try rfl)⟩) (HFAR.out _ HH4.out) (fun _ => trivial) ?_
           simp only [Act.put, List.setIfInBounds_toArray, List.set_cons_zero, List.set_cons_succ, List.getElem_toArray, List.getElem_cons_zero, List.getElem_cons_succ]
           refine wpAnyL_pure (i := 16) rfl (by kernel_rfl) (fun _ _ _ h => h) (Or.inl ⟨by rfl, (fun u hu => by obtain ⟨k0, k1, k2⟩ := hu; go_simp; try rfl)⟩) (HFAR.out _ HH4.out) (fun _ => trivial) ?_
           simp only [Act.put, List.setIfInBounds_toArray, List.set_cons_zero, List.set_cons_succ, List.getElem_toArray, List.getElem_cons_zero, List.getElem_cons_succ]
           refine wpAnyL_ready (rs := [17]) (by kernel_rfl) (by simp) ?_
           refine AllL.cons rfl (fun K hK => ?_) ?_
           ·
            go_simp
            obtain ⟨u5, hu5⟩ : ∃ u : World, u = u4.alloc (.cells #[.int .i64 0, .slice none 0 0, .slice none 0 0] 29) := ⟨_, rfl⟩
            rw [← hu5]
            have hb5 : Below u4.heap.size u4 u5 := by rw [hu5]; exact (Below.refl _ _).alloc (Nat.le_refl _) _
            have HN5 := Lib.hid (show u5.heap[u4.heap.size]? = some (.cells #[.int .i64 0, .slice none 0 0, .slice none 0 0] 29 (0, 0)) by rw [hu5]; exact heap_alloc_new _ _)
            have HL5 := Lib.hid (show w8.heap.size ≤ u4.heap.size ∧ u4.heap.size < u5.heap.size from ⟨HH4.out.size, by rw [hu5]; simp⟩)
            have HH5 := Lib.hid (HH4.out.trans (hb5.mono HH4.out.size))
            have HXO5 := Lib.hid (HXO4.out.keep (Kept.belowB hb5 fun b hb => hb.2))
            have HSZ5 := Lib.hid hb5.size
            clear hu5 hb5
            refine hK.out _ _ (HFAR.out _ HH5.out) (fun _ => trivial) ?_
            clear hK K
            refine wpAnyL_ready (rs := [18]) (by kernel_rfl) (by simp) ?_
            refine AllL.cons rfl (fun K hK => ?_) ?_
            ·
             have hbx6 := HN5.out
             have hc60 : u5.cell? ⟨u4.heap.size, 0, none⟩ = some (.int .i64 0) := by simp [World.cell?, hbx6]
             have hf60 : u5.frozen? ⟨u4.heap.size, 0, none⟩ = false := by simp [World.frozen?, hbx6]
             have hc61 : u5.cell? ⟨u4.heap.size, 1, none⟩ = some (.slice none 0 0) := by simp [World.cell?, hbx6]
             have hf61 : u5.frozen? ⟨u4.heap.size, 1, none⟩ = false := by simp [World.frozen?, hbx6]
             have hc62 : u5.cell? ⟨u4.heap.size, 2, none⟩ = some (.slice none 0 0) := by simp [World.cell?, hbx6]
             have hf62 : u5.frozen? ⟨u4.heap.size, 2, none⟩ = false := by simp [World.frozen?, hbx6]
             have HBF6 := Lib.hid (blk_set (blk_set (blk_set hbx6 0 (.int .i64 0)) 1 (.slice A n c)) 2 (.slice NN m c'))
             have HXF6 := Lib.hid (HXO5.out.keep (w' := ((u5.setCell ⟨u4.heap.size, 0, none⟩ (.int .i64 0)).setCell ⟨u4.heap.size, 1, none⟩ (.slice A n c)).setCell ⟨u4.heap.size, 2, none⟩ (.slice NN m c')) (((Only.set u5 u4.heap.size 0 (.int .i64 0) (X := fun b => b = u4.heap.size) rfl).trans ((Only.set _ u4.heap.size 1 (.slice A n c) (X := fun b => b = u4.heap.size) rfl).trans (Only.set _ u4.heap.size 2 (.slice NN m c') (X := fun b => b = u4.heap.size) rfl))).kept fun b hb e => by have hb1 := hb.1; have hb2 := hb.2; have hz0 := HSZ1.out; have hz1 := HSZ2.out; have hz2 := HSZ3.out; have hz3 := HSZ4.out; have hz4 := HSZ5.out; have hq0 := HL1.out; have hq1 := HL2.out; have hq2 := HL5.out; omega))
             have hge6 : w8.heap.size ≤ u4.heap.size := HL5.out.1
             have HBW6 := Lib.hid (((HH5.out.setCell (show w8.heap.size ≤ (⟨u4.heap.size, 0, none⟩ : Addr).block from hge6) (.int .i64 0)).setCell (show w8.heap.size ≤ (⟨u4.heap.size, 1, none⟩ : Addr).block from hge6) (.slice A n c)).setCell (show w8.heap.size ≤ (⟨u4.heap.size, 2, none⟩ : Addr).block from hge6) (.slice NN m c'))
             clear hbx6
             go_simp
             clear hc60 hf60 hc61 hf61 hc62 hf62
             refine hK.out _ _ (by obtain ⟨q0, q1, q2⟩ := HFAR.out _ HH5.out; obtain ⟨l0, l1, l2⟩ := HLO8.out; refine ⟨?_, ?_, ?_⟩ <;> (refine setOther _ (setOther _ (setOther _ (by assumption) ?_) ?_) ?_ <;> (simp only []; omega))) (fun _ => trivial) ?_
             clear hK K
             refine wpAnyL_pure (i := 19) rfl (by kernel_rfl) (fun _ _ _ h => h) (Or.inl ⟨by rfl, (fun u hu => by obtain ⟨k0, k1, k2⟩ := hu; go_simp; try rfl)⟩) (by obtain ⟨q0, q1, q2⟩ := HFAR.out _ HH5.out; obtain ⟨l0, l1, l2⟩ := HLO8.out; refine ⟨?_, ?_, ?_⟩ <;> (refine setOther _ (setOther _ (setOther _ (by assumption) ?_) ?_) ?_ <;> (simp only []; omega))) (fun _ => trivial) ?_
             simp only [Act.put, List.setIfInBounds_toArray, List.set_cons_zero, List.set_cons_succ, List.getElem_toArray, List.getElem_cons_zero, List.getElem_cons_succ]
             refine wpAnyL_done (by kernel_rfl) ?_ _
             go_wp2_with fail
             go_meet
             exact ⟨_, A, n, c, NN, m, c', bb, _, rfl, rfl, HBF6.out, hge6, HXF6.out, HBW6.out⟩
            exact AllL.nil
           exact AllL.nil
          refine AllL.cons rfl (fun K hK => ?_) ?_
          ·
           go_simp
           obtain ⟨u7, hu7⟩ : ∃ u : World, u = u3.alloc (.cells #[.int .i64 0, .slice none 0 0, .slice none 0 0] 29) := ⟨_, rfl⟩
           rw [← hu7]
           have hb7 : Below u3.heap.size u3 u7 := by rw [hu7]; exact (Below.refl _ _).alloc (Nat.le_refl _) _
           have HN7 := Lib.hid (show u7.heap[u3.heap.size]? = some (.cells #[.int .i64 0, .slice none 0 0, .slice none 0 0] 29 (0, 0)) by rw [hu7]; exact heap_alloc_new _ _)
           have HL7 := Lib.hid (show w8.heap.size ≤ u3.heap.size ∧ u3.heap.size < u7.heap.size from ⟨HH3.out.size, by rw [hu7]; simp⟩)
           have HH7 := Lib.hid (HH3.out.trans (hb7.mono HH3.out.size))
           have HSZ7 := Lib.hid hb7.size
           clear hu7 hb7
           refine hK.out _ _ (HFAR.out _ HH7.out) (fun _ => trivial) ?_
           clear hK K
           refine wpAnyL_ready (rs := [13]) (by kernel_rfl) (by simp) ?_
           refine AllL.cons rfl (fun K hK => ?_) ?_
           ·
            refine step_calls 16 #[.string key, .int .i64 Tm, .func (.func 18) #[] #[.pointer (some ⟨Bp, 0, none⟩)], .func (.func 19) #[] #[.pointer (some ⟨Bo, 0, none⟩)], .int .i64 200] rfl (by kernel_rfl) (HEXP.out u7 HH7.out ((HH7.out.block _ (heap_lt HOB8.out)).trans HOB8.out)) ?_
            rintro e u8 ⟨hr8, hb8⟩
            obtain ⟨A, n, c, NN, m, c', bb, rfl, hx8⟩ := hr8.one
            refine ⟨_, rfl, ?_⟩
            simp only [Act.put, List.setIfInBounds_toArray, List.set_cons_zero, List.set_cons_succ, List.getElem_toArray, List.getElem_cons_zero, List.getElem_cons_succ]
            have HH8 := Lib.hid (HH7.out.trans (hb8.mono HH7.out.size))
            have HBX8 := Lib.hid ((hb8.block _ (heap_lt HN7.out)).trans HN7.out)
            have HSZ8 := Lib.hid hb8.size
            have HXO8 := Lib.hid hx8
            clear hb8 hx8 hr8
            refine hK.out _ _ (HFAR.out _ HH8.out) (fun _ => trivial) ?_
            clear hK K
            refine wpAnyL_pure (i := 14) rfl (by kernel_rfl) (fun _ _ _ h => h) (Or.inl ⟨by rfl, (fun u hu => by obtain ⟨k0, k1, k2⟩ := hu; go_simp; try rfl)⟩) (HFAR.out _ HH8.out) (fun _ => trivial) ?_
            simp only [Act.put, List.setIfInBounds_toArray, List.set_cons_zero, List.set_cons_succ, List.getElem_toArray, List.getElem_cons_zero, List.getElem_cons_succ]
            refine wpAnyL_pure (i := 15) rfl (by kernel_rfl) (fun _ _ _ h => h) (Or.inl ⟨by rfl, (fun u hu => by obtain ⟨k0, k1, k2⟩ := hu; go_simp; try rfl)⟩) (HFAR.out _ HH8.out) (fun _ => trivial) ?_
            simp only [Act.put, List.setIfInBounds_toArray, List.set_cons_zero, List.set_cons_succ, List.getElem_toArray, List.getElem_cons_zero, List.getElem_cons_succ]
            refine wpAnyL_pure (i := 16) rfl (by kernel_rfl) (fun _ _ _ h => h) (Or.inl ⟨by rfl, (fun u hu => by obtain ⟨k0, k1, k2⟩ := hu; go_simp; try rfl)⟩) (HFAR.out _ HH8.out) (fun _ => trivial) ?_
            simp only [Act.put, List.setIfInBounds_toArray, List.set_cons_zero, List.set_cons_succ, List.getElem_toArray, List.getElem_cons_zero, List.getElem_cons_succ]
            refine wpAnyL_ready (rs := [18]) (by kernel_rfl) (by simp) ?_
            refine AllL.cons rfl (fun K hK => ?_) ?_
            ·
             have hbx9 := HBX8.out
             have hc90 : u8.cell? ⟨u3.heap.size, 0, none⟩ = some (.int .i64 0) := by simp [World.cell?, hbx9]
             have hf90 : u8.frozen? ⟨u3.heap.size, 0, none⟩ = false := by simp [World.frozen?, hbx9]
             have hc91 : u8.cell? ⟨u3.heap.size, 1, none⟩ = some (.slice none 0 0) := by simp [World.cell?, hbx9]
             have hf91 : u8.frozen? ⟨u3.heap.size, 1, none⟩ = false := by simp [World.frozen?, hbx9]
             have hc92 : u8.cell? ⟨u3.heap.size, 2, none⟩ = some (.slice none 0 0) := by simp [World.cell?, hbx9]
             have hf92 : u8.frozen? ⟨u3.heap.size, 2, none⟩ = false := by simp [World.frozen?, hbx9]
             have HBF9 := Lib.hid (blk_set (blk_set (blk_set hbx9 0 (.int .i64 0)) 1 (.slice A n c)) 2 (.slice NN m c'))
             have HXF9 := Lib.hid (HXO8.out.keep (w' := ((u8.setCell ⟨u3.heap.size, 0, none⟩ (.int .i64 0)).setCell ⟨u3.heap.size, 1, none⟩ (.slice A n c)).setCell ⟨u3.heap.size, 2, none⟩ (.slice NN m c')) (((Only.set u8 u3.heap.size 0 (.int .i64 0) (X := fun b => b = u3.heap.size) rfl).trans ((Only.set _ u3.heap.size 1 (.slice A n c) (X := fun b => b = u3.heap.size) rfl).trans (Only.set _ u3.heap.size 2 (.slice NN m c') (X := fun b => b = u3.heap.size) rfl))).kept fun b hb e => by have hb1 := hb.1; have hb2 := hb.2; have hz0 := HSZ1.out; have hz1 := HSZ2.out; have hz2 := HSZ3.out; have hz3 := HSZ7.out; have hz4 := HSZ8.out; have hq0 := HL1.out; have hq1 := HL2.out; have hq2 := HL7.out; omega))
             have hge9 : w8.heap.size ≤ u3.heap.size := HL7.out.1
             have HBW9 := Lib.hid (((HH8.out.setCell (show w8.heap.size ≤ (⟨u3.heap.size, 0, none⟩ : Addr).block from hge9) (.int .i64 0)).setCell (show w8.heap.size ≤ (⟨u3.heap.size, 1, none⟩ : Addr).block from hge9) (.slice A n c)).setCell (show w8.heap.size ≤ (⟨u3.heap.size, 2, none⟩ : Addr).block from hge9) (.slice NN m c'))
             clear hbx9
             go_simp
             clear hc90 hf90 hc91 hf91 hc92 hf92
             refine hK.out _ _ (by obtain ⟨q0, q1, q2⟩ := HFAR.out _ HH8.out; obtain ⟨l0, l1, l2⟩ := HLO8.out; refine ⟨?_, ?_, ?_⟩ <;> (refine setOther _ (setOther _ (setOther _ (by assumption) ?_) ?_) ?_ <;> (simp only []; omega))) (fun _ => trivial) ?_
             clear hK K
             refine wpAnyL_pure (i := 19) rfl (by kernel_rfl) (fun _ _ _ h => h) (Or.inl ⟨by rfl, (fun u hu => by obtain ⟨k0, k1, k2⟩ := hu; go_simp; try rfl)⟩) (by obtain ⟨q0, q1, q2⟩ := HFAR.out _ HH8.out; obtain ⟨l0, l1, l2⟩ := HLO8.out; refine ⟨?_, ?_, ?_⟩ <;> (refine setOther _ (setOther _ (setOther _ (by assumption) ?_) ?_) ?_ <;> (simp only []; omega))) (fun _ => trivial) ?_
             simp only [Act.put, List.setIfInBounds_toArray, List.set_cons_zero, List.set_cons_succ, List.getElem_toArray, List.getElem_cons_zero, List.getElem_cons_succ]
             refine wpAnyL_done (by kernel_rfl) ?_ _
             go_wp2_with fail
             go_meet
             exact ⟨_, A, n, c, NN, m, c', bb, _, rfl, rfl, HBF9.out, hge9, HXF9.out, HBW9.out⟩
            exact AllL.nil
           exact AllL.nil
          exact AllL.nil
         refine AllL.cons rfl (fun K hK => ?_) ?_
         ·
          go_simp
          obtain ⟨u10, hu10⟩ : ∃ u : World, u = u2.alloc (.cells #[.int .i64 0, .slice none 0 0, .slice none 0 0] 29) := ⟨_, rfl⟩
          rw [← hu10]
          have hb10 : Below u2.heap.size u2 u10 := by rw [hu10]; exact (Below.refl _ _).alloc (Nat.le_refl _) _
          have HN10 := Lib.hid (show u10.heap[u2.heap.size]? = some (.cells #[.int .i64 0, .slice none 0 0, .slice none 0 0] 29 (0, 0)) by rw [hu10]; exact heap_alloc_new _ _)
          have HL10 := Lib.hid (show w8.heap.size ≤ u2.heap.size ∧ u2.heap.size < u10.heap.size from ⟨HH2.out.size, by rw [hu10]; simp⟩)
          have HH10 := Lib.hid (HH2.out.trans (hb10.mono HH2.out.size))
          have HBY10 := Lib.hid (HBY2.out.below hb10)
          have HOW10 := Lib.hid (HN2.out.below hb10 (Nat.le_refl _))
          have HSZ10 := Lib.hid hb10.size
          clear hu10 hb10
          refine hK.out _ _ (HFAR.out _ HH10.out) (fun _ => trivial) ?_
          clear hK K
          refine wpAnyL_ready (rs := [8]) (by kernel_rfl) (by simp) ?_
          refine AllL.cons rfl (fun K hK => ?_) ?_
          ·
           have hne11 : u1.heap.size ≠ u0.heap.size := (by have hz0 := HSZ1.out; have hz1 := HSZ2.out; have hz2 := HSZ10.out; have hq0 := HL1.out; have hq1 := HL2.out; have hq2 := HL10.out; omega)
           refine step_calls 17 #[.pointer (some ⟨Bb, 0, none⟩), .slice (some ⟨u0.heap.size, 0, none⟩) E.nodes E.nodes, .slice (some ⟨u1.heap.size, 0, none⟩) 1 1] rfl (by kernel_rfl) (HCLOSE.out u10 u0.heap.size u1.heap.size HH10.out HL1.out.1 HBY10.out HOW10.out hne11) ?_
           rintro e u11 ⟨rfl, ho11, hb11⟩
           refine ⟨_, rfl, ?_⟩
           simp only [Act.put, List.setIfInBounds_toArray, List.set_cons_zero, List.set_cons_succ, List.getElem_toArray, List.getElem_cons_zero, List.getElem_cons_succ]
           have hoff11 : ¬ (u2.heap.size = u0.heap.size ∨ u2.heap.size = u1.heap.size) := (by have hz0 := HSZ1.out; have hz1 := HSZ2.out; have hz2 := HSZ10.out; have hq0 := HL1.out; have hq1 := HL2.out; have hq2 := HL10.out; omega)
           have HH11 := Lib.hid (HH10.out.trans hb11)
           have HBX11 := Lib.hid ((ho11.block _ (heap_lt HN10.out) hoff11).trans HN10.out)
           have HSZ11 := Lib.hid hb11.size
           clear ho11 hb11 hne11
           refine hK.out _ _ (HFAR.out _ HH11.out) (fun _ => trivial) ?_
           clear hK K
           refine wpAnyL_ready (rs := [13]) (by kernel_rfl) (by simp) ?_
           refine AllL.cons rfl (fun K hK => ?_) ?_
           ·
            refine step_calls 16 #[.string key, .int .i64 Tm, .func (.func 18) #[] #[.pointer (some ⟨Bp, 0, none⟩)], .func (.func 19) #[] #[.pointer (some ⟨Bo, 0, none⟩)], .int .i64 200] rfl (by kernel_rfl) (HEXP.out u11 HH11.out ((HH11.out.block _ (heap_lt HOB8.out)).trans HOB8.out)) ?_
            rintro e u12 ⟨hr12, hb12⟩
            obtain ⟨A, n, c, NN, m, c', bb, rfl, hx12⟩ := hr12.one
            refine ⟨_, rfl, ?_⟩
            simp only [Act.put, List.setIfInBounds_toArray, List.set_cons_zero, List.set_cons_succ, List.getElem_toArray, List.getElem_cons_zero, List.getElem_cons_succ]
            have HH12 := Lib.hid (HH11.out.trans (hb12.mono HH11.out.size))
            have HBX12 := Lib.hid ((hb12.block _ (heap_lt HBX11.out)).trans HBX11.out)
            have HSZ12 := Lib.hid hb12.size
            have HXO12 := Lib.hid hx12
            clear hb12 hx12 hr12
            refine hK.out _ _ (HFAR.out _ HH12.out) (fun _ => trivial) ?_
            clear hK K
            refine wpAnyL_pure (i := 14) rfl (by kernel_rfl) (fun _ _ _ h => h) (Or.inl ⟨by rfl, (fun u hu => by obtain ⟨k0, k1, k2⟩ := hu; go_simp; try rfl)⟩) (HFAR.out _ HH12.out) (fun _ => trivial) ?_
            simp only [Act.put, List.setIfInBounds_toArray, List.set_cons_zero, List.set_cons_succ, List.getElem_toArray, List.getElem_cons_zero, List.getElem_cons_succ]
            refine wpAnyL_pure (i := 15) rfl (by kernel_rfl) (fun _ _ _ h => h) (Or.inl ⟨by rfl, (fun u hu => by obtain ⟨k0, k1, k2⟩ := hu; go_simp; try rfl)⟩) (HFAR.out _ HH12.out) (fun _ => trivial) ?_
            simp only [Act.put, List.setIfInBounds_toArray, List.set_cons_zero, List.set_cons_succ, List.getElem_toArray, List.getElem_cons_zero, List.getElem_cons_succ]
            refine wpAnyL_pure (i := 16) rfl (by kernel_rfl) (fun _ _ _ h => h) (Or.inl ⟨by rfl, (fun u hu => by obtain ⟨k0, k1, k2⟩ := hu; go_simp; try rfl)⟩) (HFAR.out _ HH12.out) (fun _ => trivial) ?_
            simp only [Act.put, List.setIfInBounds_toArray, List.set_cons_zero, List.set_cons_succ, List.getElem_toArray, List.getElem_cons_zero, List.getElem_cons_succ]
            refine wpAnyL_ready (rs := [18]) (by kernel_rfl) (by simp) ?_
            refine AllL.cons rfl (fun K hK => ?_) ?_
            ·
             have hbx13 := HBX12.out
             have hc130 : u12.cell? ⟨u2.heap.size, 0, none⟩ = some (.int .i64 0) := by simp [World.cell?, hbx13]
             have hf130 : u12.frozen? ⟨u2.heap.size, 0, none⟩ = false := by simp [World.frozen?, hbx13]
             have hc131 : u12.cell? ⟨u2.heap.size, 1, none⟩ = some (.slice none 0 0) := by simp [World.cell?, hbx13]
             have hf131 : u12.frozen? ⟨u2.heap.size, 1, none⟩ = false := by simp [World.frozen?, hbx13]
             have hc132 : u12.cell? ⟨u2.heap.size, 2, none⟩ = some (.slice none 0 0) := by simp [World.cell?, hbx13]
             have hf132 : u12.frozen? ⟨u2.heap.size, 2, none⟩ = false := by simp [World.frozen?, hbx13]
             have HBF13 := Lib.hid (blk_set (blk_set (blk_set hbx13 0 (.int .i64 0)) 1 (.slice A n c)) 2 (.slice NN m c'))
             have HXF13 := Lib.hid (HXO12.out.keep (w' := ((u12.setCell ⟨u2.heap.size, 0, none⟩ (.int .i64 0)).setCell ⟨u2.heap.size, 1, none⟩ (.slice A n c)).setCell ⟨u2.heap.size, 2, none⟩ (.slice NN m c')) (((Only.set u12 u2.heap.size 0 (.int .i64 0) (X := fun b => b = u2.heap.size) rfl).trans ((Only.set _ u2.heap.size 1 (.slice A n c) (X := fun b => b = u2.heap.size) rfl).trans (Only.set _ u2.heap.size 2 (.slice NN m c') (X := fun b => b = u2.heap.size) rfl))).kept fun b hb e => by have hb1 := hb.1; have hb2 := hb.2; have hz0 := HSZ1.out; have hz1 := HSZ2.out; have hz2 := HSZ10.out; have hz3 := HSZ11.out; have hz4 := HSZ12.out; have hq0 := HL1.out; have hq1 := HL2.out; have hq2 := HL10.out; omega))
             have hge13 : w8.heap.size ≤ u2.heap.size := HL10.out.1
             have HBW13 := Lib.hid (((HH12.out.setCell (show w8.heap.size ≤ (⟨u2.heap.size, 0, none⟩ : Addr).block from hge13) (.int .i64 0)).setCell (show w8.heap.size ≤ (⟨u2.heap.size, 1, none⟩ : Addr).block from hge13) (.slice A n c)).setCell (show w8.heap.size ≤ (⟨u2.heap.size, 2, none⟩ : Addr).block from hge13) (.slice NN m c'))
             clear hbx13
             go_simp
             clear hc130 hf130 hc131 hf131 hc132 hf132
             refine hK.out _ _ (by obtain ⟨q0, q1, q2⟩ := HFAR.out _ HH12.out; obtain ⟨l0, l1, l2⟩ := HLO8.out; refine ⟨?_, ?_, ?_⟩ <;> (refine setOther _ (setOther _ (setOther _ (by assumption) ?_) ?_) ?_ <;> (simp only []; omega))) (fun _ => trivial) ?_
             clear hK K
             refine wpAnyL_pure (i := 19) rfl (by kernel_rfl) (fun _ _ _ h => h) (Or.inl ⟨by rfl, (fun u hu => by obtain ⟨k0, k1, k2⟩ := hu; go_simp; try rfl)⟩) (by obtain ⟨q0, q1, q2⟩ := HFAR.out _ HH12.out; obtain ⟨l0, l1, l2⟩ := HLO8.out; refine ⟨?_, ?_, ?_⟩ <;> (refine setOther _ (setOther _ (setOther _ (by assumption) ?_) ?_) ?_ <;> (simp only []; omega))) (fun _ => trivial) ?_
             simp only [Act.put, List.setIfInBounds_toArray, List.set_cons_zero, List.set_cons_succ, List.getElem_toArray, List.getElem_cons_zero, List.getElem_cons_succ]
             refine wpAnyL_done (by kernel_rfl) ?_ _
             go_wp2_with fail
             go_meet
             exact ⟨_, A, n, c, NN, m, c', bb, _, rfl, rfl, HBF13.out, hge13, HXF13.out, HBW13.out⟩
            exact AllL.nil
           exact AllL.nil
          exact AllL.nil
         exact AllL.nil
        refine AllL.cons rfl (fun K hK => ?_) ?_
        ·
         go_simp
         obtain ⟨u14, hu14⟩ : ∃ u : World, u = u1.alloc (.cells #[.int .i64 0, .slice none 0 0, .slice none 0 0] 29) := ⟨_, rfl⟩
         rw [← hu14]
         have hb14 : Below u1.heap.size u1 u14 := by rw [hu14]; exact (Below.refl _ _).alloc (Nat.le_refl _) _
         have HN14 := Lib.hid (show u14.heap[u1.heap.size]? = some (.cells #[.int .i64 0, .slice none 0 0, .slice none 0 0] 29 (0, 0)) by rw [hu14]; exact heap_alloc_new _ _)
         have HL14 := Lib.hid (show w8.heap.size ≤ u1.heap.size ∧ u1.heap.size < u14.heap.size from ⟨HH1.out.size, by rw [hu14]; simp⟩)
         have HH14 := Lib.hid (HH1.out.trans (hb14.mono HH1.out.size))
         have HBY14 := Lib.hid (HN1.out.below hb14)
         have HSZ14 := Lib.hid hb14.size
         clear hu14 hb14
         refine hK.out _ _ (HFAR.out _ HH14.out) (fun _ => trivial) ?_
         clear hK K
         refine wpAnyL_ready (rs := [7]) (by kernel_rfl) (by simp) ?_
         refine AllL.cons rfl (fun K hK => ?_) ?_
         ·
          go_simp
          obtain ⟨u15, hu15⟩ : ∃ u : World, u = u14.alloc (.cells #[.int .i64 0] 3) := ⟨_, rfl⟩
          rw [← hu15]
          have hb15 : Below u14.heap.size u14 u15 := by rw [hu15]; exact (Below.refl _ _).alloc (Nat.le_refl _) _
          have HN15 := Lib.hid (show Own u15 w8.heap.size 3 1 (.slice (some ⟨u14.heap.size, 0, none⟩) 1 1) 1 (natsV [0]) by rw [hu15]; exact .inl (World.ownsRow_lit (e := 3) (size := 1) (base := w8.heap.size) u14 #[.int .i64 0] 1 HH14.out.size (by simp [maxLen]) (by simp)))
          have HL15 := Lib.hid (show w8.heap.size ≤ u14.heap.size ∧ u14.heap.size < u15.heap.size from ⟨HH14.out.size, by rw [hu15]; simp⟩)
          have HH15 := Lib.hid (HH14.out.trans (hb15.mono HH14.out.size))
          have HBY15 := Lib.hid (HBY14.out.below hb15)
          have HBX15 := Lib.hid ((hb15.block _ (heap_lt HN14.out)).trans HN14.out)
          have HSZ15 := Lib.hid hb15.size
          clear hu15 hb15
          refine hK.out _ _ (HFAR.out _ HH15.out) (fun _ => trivial) ?_
          clear hK K
          refine wpAnyL_ready (rs := [8]) (by kernel_rfl) (by simp) ?_
          refine AllL.cons rfl (fun K hK => ?_) ?_
          ·
           have hne16 : u14.heap.size ≠ u0.heap.size := (by have hz0 := HSZ1.out; have hz1 := HSZ14.out; have hz2 := HSZ15.out; have hq0 := HL1.out; have hq1 := HL14.out; have hq2 := HL15.out; omega)
           refine step_calls 17 #[.pointer (some ⟨Bb, 0, none⟩), .slice (some ⟨u0.heap.size, 0, none⟩) E.nodes E.nodes, .slice (some ⟨u14.heap.size, 0, none⟩) 1 1] rfl (by kernel_rfl) (HCLOSE.out u15 u0.heap.size u14.heap.size HH15.out HL1.out.1 HBY15.out HN15.out hne16) ?_
           rintro e u16 ⟨rfl, ho16, hb16⟩
           refine ⟨_, rfl, ?_⟩
           simp only [Act.put, List.setIfInBounds_toArray, List.set_cons_zero, List.set_cons_succ, List.getElem_toArray, List.getElem_cons_zero, List.getElem_cons_succ]
           have hoff16 : ¬ (u1.heap.size = u0.heap.size ∨ u1.heap.size = u14.heap.size) := (by have hz0 := HSZ1.out; have hz1 := HSZ14.out; have hz2 := HSZ15.out; have hq0 := HL1.out; have hq1 := HL14.out; have hq2 := HL15.out; omega)
           have HH16 := Lib.hid (HH15.out.trans hb16)
           have HBX16 := Lib.hid ((ho16.block _ (heap_lt HBX15.out) hoff16).trans HBX15.out)
           have HSZ16 := Lib.hid hb16.size
           clear ho16 hb16 hne16
           refine hK.out _ _ (HFAR.out _ HH16.out) (fun _ => trivial) ?_
           clear hK K
           refine wpAnyL_ready (rs := [13]) (by kernel_rfl) (by simp) ?_
           refine AllL.cons rfl (fun K hK => ?_) ?_
           ·
            refine step_calls 16 #[.string key, .int .i64 Tm, .func (.func 18) #[] #[.pointer (some ⟨Bp, 0, none⟩)], .func (.func 19) #[] #[.pointer (some ⟨Bo, 0, none⟩)], .int .i64 200] rfl (by kernel_rfl) (HEXP.out u16 HH16.out ((HH16.out.block _ (heap_lt HOB8.out)).trans HOB8.out)) ?_
            rintro e u17 ⟨hr17, hb17⟩
            obtain ⟨A, n, c, NN, m, c', bb, rfl, hx17⟩ := hr17.one
            refine ⟨_, rfl, ?_⟩
            simp only [Act.put, List.setIfInBounds_toArray, List.set_cons_zero, List.set_cons_succ, List.getElem_toArray, List.getElem_cons_zero, List.getElem_cons_succ]
            have HH17 := Lib.hid (HH16.out.trans (hb17.mono HH16.out.size))
            have HBX17 := Lib.hid ((hb17.block _ (heap_lt HBX16.out)).trans HBX16.out)
            have HSZ17 := Lib.hid hb17.size
            have HXO17 := Lib.hid hx17
            clear hb17 hx17 hr17
            refine hK.out _ _ (HFAR.out _ HH17.out) (fun _ => trivial) ?_
            clear hK K
            refine wpAnyL_pure (i := 14) rfl (by kernel_rfl) (fun _ _ _ h => h) (Or.inl ⟨by rfl, (fun u hu => by obtain ⟨k0, k1, k2⟩ := hu; go_simp; try rfl)⟩) (HFAR.out _ HH17.out) (fun _ => trivial) ?_
            simp only [Act.put, List.setIfInBounds_toArray, List.set_cons_zero, List.set_cons_succ, List.getElem_toArray, List.getElem_cons_zero, List.getElem_cons_succ]
            refine wpAnyL_pure (i := 15) rfl (by kernel_rfl) (fun _ _ _ h => h) (Or.inl ⟨by rfl, (fun u hu => by obtain ⟨k0, k1, k2⟩ := hu; go_simp; try rfl)⟩) (HFAR.out _ HH17.out) (fun _ => trivial) ?_
            simp only [Act.put, List.setIfInBounds_toArray, List.set_cons_zero, List.set_cons_succ, List.getElem_toArray, List.getElem_cons_zero, List.getElem_cons_succ]
            refine wpAnyL_pure (i := 16) rfl (by kernel_rfl) (fun _ _ _ h => h) (Or.inl ⟨by rfl, (fun u hu => by obtain ⟨k0, k1, k2⟩ := hu; go_simp; try rfl)⟩) (HFAR.out _ HH17.out) (fun _ => trivial) ?_
            simp only [Act.put, List.setIfInBounds_toArray, List.set_cons_zero, List.set_cons_succ, List.getElem_toArray, List.getElem_cons_zero, List.getElem_cons_succ]
            refine wpAnyL_ready (rs := [18]) (by kernel_rfl) (by simp) ?_
            refine AllL.cons rfl (fun K hK => ?_) ?_
            ·
             have hbx18 := HBX17.out
             have hc180 : u17.cell? ⟨u1.heap.size, 0, none⟩ = some (.int .i64 0) := by simp [World.cell?, hbx18]
             have hf180 : u17.frozen? ⟨u1.heap.size, 0, none⟩ = false := by simp [World.frozen?, hbx18]
             have hc181 : u17.cell? ⟨u1.heap.size, 1, none⟩ = some (.slice none 0 0) := by simp [World.cell?, hbx18]
             have hf181 : u17.frozen? ⟨u1.heap.size, 1, none⟩ = false := by simp [World.frozen?, hbx18]
             have hc182 : u17.cell? ⟨u1.heap.size, 2, none⟩ = some (.slice none 0 0) := by simp [World.cell?, hbx18]
             have hf182 : u17.frozen? ⟨u1.heap.size, 2, none⟩ = false := by simp [World.frozen?, hbx18]
             have HBF18 := Lib.hid (blk_set (blk_set (blk_set hbx18 0 (.int .i64 0)) 1 (.slice A n c)) 2 (.slice NN m c'))
             have HXF18 := Lib.hid (HXO17.out.keep (w' := ((u17.setCell ⟨u1.heap.size, 0, none⟩ (.int .i64 0)).setCell ⟨u1.heap.size, 1, none⟩ (.slice A n c)).setCell ⟨u1.heap.size, 2, none⟩ (.slice NN m c')) (((Only.set u17 u1.heap.size 0 (.int .i64 0) (X := fun b => b = u1.heap.size) rfl).trans ((Only.set _ u1.heap.size 1 (.slice A n c) (X := fun b => b = u1.heap.size) rfl).trans (Only.set _ u1.heap.size 2 (.slice NN m c') (X := fun b => b = u1.heap.size) rfl))).kept fun b hb e => by have hb1 := hb.1; have hb2 := hb.2; have hz0 := HSZ1.out; have hz1 := HSZ14.out; have hz2 := HSZ15.out; have hz3 := HSZ16.out; have hz4 := HSZ17.out; have hq0 := HL1.out; have hq1 := HL14.out; have hq2 := HL15.out; omega))
             have hge18 : w8.heap.size ≤ u1.heap.size := HL14.out.1
             have HBW18 := Lib.hid (((HH17.out.setCell (show w8.heap.size ≤ (⟨u1.heap.size, 0, none⟩ : Addr).block from hge18) (.int .i64 0)).setCell (show w8.heap.size ≤ (⟨u1.heap.size, 1, none⟩ : Addr).block from hge18) (.slice A n c)).setCell (show w8.heap.size ≤ (⟨u1.heap.size, 2, none⟩ : Addr).block from hge18) (.slice NN m c'))
             clear hbx18
             go_simp
             clear hc180 hf180 hc181 hf181 hc182 hf182
             refine hK.out _ _ (by obtain ⟨q0, q1, q2⟩ := HFAR.out _ HH17.out; obtain ⟨l0, l1, l2⟩ := HLO8.out; refine ⟨?_, ?_, ?_⟩ <;> (refine setOther _ (setOther _ (setOther _ (by assumption) ?_) ?_) ?_ <;> (simp only []; omega))) (fun _ => trivial) ?_
             clear hK K
             refine wpAnyL_pure (i := 19) rfl (by kernel_rfl) (fun _ _ _ h => h) (Or.inl ⟨by rfl, (fun u hu => by obtain ⟨k0, k1, k2⟩ := hu; go_simp; try rfl)⟩) (by obtain ⟨q0, q1, q2⟩ := HFAR.out _ HH17.out; obtain ⟨l0, l1, l2⟩ := HLO8.out; refine ⟨?_, ?_, ?_⟩ <;> (refine setOther _ (setOther _ (setOther _ (by assumption) ?_) ?_) ?_ <;> (simp only []; omega))) (fun _ => trivial) ?_
             simp only [Act.put, List.setIfInBounds_toArray, List.set_cons_zero, List.set_cons_succ, List.getElem_toArray, List.getElem_cons_zero, List.getElem_cons_succ]
             refine wpAnyL_done (by kernel_rfl) ?_ _
             go_wp2_with fail
             go_meet
             exact ⟨_, A, n, c, NN, m, c', bb, _, rfl, rfl, HBF18.out, hge18, HXF18.out, HBW18.out⟩
            exact AllL.nil
           exact AllL.nil
          exact AllL.nil
         exact AllL.nil
        exact AllL.nil
       refine AllL.cons rfl (fun K hK => ?_) ?_
       ·
        go_simp
        obtain ⟨u19, hu19⟩ : ∃ u : World, u = u0.alloc (.cells #[.int .i64 0] 3) := ⟨_, rfl⟩
        rw [← hu19]
        have hb19 : Below u0.heap.size u0 u19 := by rw [hu19]; exact (Below.refl _ _).alloc (Nat.le_refl _) _
        have HN19 := Lib.hid (show Own u19 w8.heap.size 3 1 (.slice (some ⟨u0.heap.size, 0, none⟩) 1 1) 1 (natsV [0]) by rw [hu19]; exact .inl (World.ownsRow_lit (e := 3) (size := 1) (base := w8.heap.size) u0 #[.int .i64 0] 1 HH0.out.size (by simp [maxLen]) (by simp)))
        have HL19 := Lib.hid (show w8.heap.size ≤ u0.heap.size ∧ u0.heap.size < u19.heap.size from ⟨HH0.out.size, by rw [hu19]; simp⟩)
        have HH19 := Lib.hid (HH0.out.trans (hb19.mono HH0.out.size))
        have HSZ19 := Lib.hid hb19.size
        clear hu19 hb19
        refine hK.out _ _ (HFAR.out _ HH19.out) (fun _ => trivial) ?_
        clear hK K
        refine wpAnyL_ready (rs := [5, 17]) (by kernel_rfl) (by simp) ?_
        refine AllL.cons rfl (fun K hK => ?_) ?_
        ·
         go_simp
         obtain ⟨u20, hu20⟩ : ∃ u : World, u = u19.alloc (.cells (Array.replicate E.nodes (Value.int .u8 0)) 5) := ⟨_, rfl⟩
         rw [← hu20]
         have hb20 : Below u19.heap.size u19 u20 := by rw [hu20]; exact (Below.refl _ _).alloc (Nat.le_refl _) _
         have HN20 := Lib.hid (show ByB u20 u19.heap.size (bitsB (List.replicate E.nodes false)) by rw [hu20]; exact HBY0.out u19)
         have HL20 := Lib.hid (show w8.heap.size ≤ u19.heap.size ∧ u19.heap.size < u20.heap.size from ⟨HH19.out.size, by rw [hu20]; simp⟩)
         have HH20 := Lib.hid (HH19.out.trans (hb20.mono HH19.out.size))
         have HOW20 := Lib.hid (HN19.out.below hb20 (Nat.le_refl _))
         have HSZ20 := Lib.hid hb20.size
         clear hu20 hb20
         refine hK.out _ _ (HFAR.out _ HH20.out) (fun _ => trivial) ?_
         clear hK K
         refine wpAnyL_ready (rs := [8, 17]) (by kernel_rfl) (by simp) ?_
         refine AllL.cons rfl (fun K hK => ?_) ?_
         ·
          have hne21 : u0.heap.size ≠ u19.heap.size := (by have hz0 := HSZ19.out; have hz1 := HSZ20.out; have hq0 := HL19.out; have hq1 := HL20.out; omega)
          refine step_calls 17 #[.pointer (some ⟨Bb, 0, none⟩), .slice (some ⟨u19.heap.size, 0, none⟩) E.nodes E.nodes, .slice (some ⟨u0.heap.size, 0, none⟩) 1 1] rfl (by kernel_rfl) (HCLOSE.out u20 u19.heap.size u0.heap.size HH20.out HL20.out.1 HN20.out HOW20.out hne21) ?_
          rintro e u21 ⟨rfl, ho21, hb21⟩
          refine ⟨_, rfl, ?_⟩
          simp only [Act.put, List.setIfInBounds_toArray, List.set_cons_zero, List.set_cons_succ, List.getElem_toArray, List.getElem_cons_zero, List.getElem_cons_succ]
          have HH21 := Lib.hid (HH20.out.trans hb21)
          have HSZ21 := Lib.hid hb21.size
          clear ho21 hb21 hne21
          refine hK.out _ _ (HFAR.out _ HH21.out) (fun _ => trivial) ?_
          clear hK K
          refine wpAnyL_ready (rs := [13, 17]) (by kernel_rfl) (by simp) ?_
          refine AllL.cons rfl (fun K hK => ?_) ?_
          ·
           refine step_calls 16 #[.string key, .int .i64 Tm, .func (.func 18) #[] #[.pointer (some ⟨Bp, 0, none⟩)], .func (.func 19) #[] #[.pointer (some ⟨Bo, 0, none⟩)], .int .i64 200] rfl (by kernel_rfl) (HEXP.out u21 HH21.out ((HH21.out.block _ (heap_lt HOB8.out)).trans HOB8.out)) ?_
           rintro e u22 ⟨hr22, hb22⟩
           obtain ⟨A, n, c, NN, m, c', bb, rfl, hx22⟩ := hr22.one
           refine ⟨_, rfl, ?_⟩
           simp only [Act.put, List.setIfInBounds_toArray, List.set_cons_zero, List.set_cons_succ, List.getElem_toArray, List.getElem_cons_zero, List.getElem_cons_succ]
           have HH22 := Lib.hid (HH21.out.trans (hb22.mono HH21.out.size))
           have HSZ22 := Lib.hid hb22.size
           have HXO22 := Lib.hid hx22
           clear hb22 hx22 hr22
           refine hK.out _ _ (HFAR.out _ HH22.out) (fun _ => trivial) ?_
           clear hK K
           refine wpAnyL_pure (i := 14) rfl (by kernel_rfl) (fun _ _ _ h => h) (Or.inl ⟨by rfl, (fun u hu => by obtain ⟨k0, k1, k2⟩ := hu; go_simp; try rfl)⟩) (HFAR.out _ HH22.out) (fun _ => trivial) ?_
           simp only [Act.put, List.setIfInBounds_toArray, List.set_cons_zero, List.set_cons_succ, List.getElem_toArray, List.getElem_cons_zero, List.getElem_cons_succ]
           refine wpAnyL_pure (i := 15) rfl (by kernel_rfl) (fun _ _ _ h => h) (Or.inl ⟨by rfl, (fun u hu => by obtain ⟨k0, k1, k2⟩ := hu; go_simp; try rfl)⟩) (HFAR.out _ HH22.out) (fun _ => trivial) ?_
           simp only [Act.put, List.setIfInBounds_toArray, List.set_cons_zero, List.set_cons_succ, List.getElem_toArray, List.getElem_cons_zero, List.getElem_cons_succ]
           refine wpAnyL_pure (i := 16) rfl (by kernel_rfl) (fun _ _ _ h => h) (Or.inl ⟨by rfl, (fun u hu => by obtain ⟨k0, k1, k2⟩ := hu; go_simp; try rfl)⟩) (HFAR.out _ HH22.out) (fun _ => trivial) ?_
           simp only [Act.put, List.setIfInBounds_toArray, List.set_cons_zero, List.set_cons_succ, List.getElem_toArray, List.getElem_cons_zero, List.getElem_cons_succ]
           refine wpAnyL_ready (rs := [17]) (by kernel_rfl) (by simp) ?_
           refine AllL.cons rfl (fun K hK => ?_) ?_
           ·
            go_simp
            obtain ⟨u23, hu23⟩ : ∃ u : World, u = u22.alloc (.cells #[.int .i64 0, .slice none 0 0, .slice none 0 0] 29) := ⟨_, rfl⟩
            rw [← hu23]
            have hb23 : Below u22.heap.size u22 u23 := by rw [hu23]; exact (Below.refl _ _).alloc (Nat.le_refl _) _
            have HN23 := Lib.hid (show u23.heap[u22.heap.size]? = some (.cells #[.int .i64 0, .slice none 0 0, .slice none 0 0] 29 (0, 0)) by rw [hu23]; exact heap_alloc_new _ _)
            have HL23 := Lib.hid (show w8.heap.size ≤ u22.heap.size ∧ u22.heap.size < u23.heap.size from ⟨HH22.out.size, by rw [hu23]; simp⟩)
            have HH23 := Lib.hid (HH22.out.trans (hb23.mono HH22.out.size))
            have HXO23 := Lib.hid (HXO22.out.keep (Kept.belowB hb23 fun b hb => hb.2))
            have HSZ23 := Lib.hid hb23.size
            clear hu23 hb23
            refine hK.out _ _ (HFAR.out _ HH23.out) (fun _ => trivial) ?_
            clear hK K
            refine wpAnyL_ready (rs := [18]) (by kernel_rfl) (by simp) ?_
            refine AllL.cons rfl (fun K hK => ?_) ?_
            ·
             have hbx24 := HN23.out
             have hc240 : u23.cell? ⟨u22.heap.size, 0, none⟩ = some (.int .i64 0) := by simp [World.cell?, hbx24]
             have hf240 : u23.frozen? ⟨u22.heap.size, 0, none⟩ = false := by simp [World.frozen?, hbx24]
             have hc241 : u23.cell? ⟨u22.heap.size, 1, none⟩ = some (.slice none 0 0) := by simp [World.cell?, hbx24]
             have hf241 : u23.frozen? ⟨u22.heap.size, 1, none⟩ = false := by simp [World.frozen?, hbx24]
             have hc242 : u23.cell? ⟨u22.heap.size, 2, none⟩ = some (.slice none 0 0) := by simp [World.cell?, hbx24]
             have hf242 : u23.frozen? ⟨u22.heap.size, 2, none⟩ = false := by simp [World.frozen?, hbx24]
             have HBF24 := Lib.hid (blk_set (blk_set (blk_set hbx24 0 (.int .i64 0)) 1 (.slice A n c)) 2 (.slice NN m c'))
             have HXF24 := Lib.hid (HXO23.out.keep (w' := ((u23.setCell ⟨u22.heap.size, 0, none⟩ (.int .i64 0)).setCell ⟨u22.heap.size, 1, none⟩ (.slice A n c)).setCell ⟨u22.heap.size, 2, none⟩ (.slice NN m c')) (((Only.set u23 u22.heap.size 0 (.int .i64 0) (X := fun b => b = u22.heap.size) rfl).trans ((Only.set _ u22.heap.size 1 (.slice A n c) (X := fun b => b = u22.heap.size) rfl).trans (Only.set _ u22.heap.size 2 (.slice NN m c') (X := fun b => b = u22.heap.size) rfl))).kept fun b hb e => by have hb1 := hb.1; have hb2 := hb.2; have hz0 := HSZ19.out; have hz1 := HSZ20.out; have hz2 := HSZ21.out; have hz3 := HSZ22.out; have hz4 := HSZ23.out; have hq0 := HL19.out; have hq1 := HL20.out; have hq2 := HL23.out; omega))
             have hge24 : w8.heap.size ≤ u22.heap.size := HL23.out.1
             have HBW24 := Lib.hid (((HH23.out.setCell (show w8.heap.size ≤ (⟨u22.heap.size, 0, none⟩ : Addr).block from hge24) (.int .i64 0)).setCell (show w8.heap.size ≤ (⟨u22.heap.size, 1, none⟩ : Addr).block from hge24) (.slice A n c)).setCell (show w8.heap.size ≤ (⟨u22.heap.size, 2, none⟩ : Addr).block from hge24) (.slice NN m c'))
             clear hbx24
             go_simp
             clear hc240 hf240 hc241 hf241 hc242 hf242
             refine hK.out _ _ (by obtain ⟨q0, q1, q2⟩ := HFAR.out _ HH23.out; obtain ⟨l0, l1, l2⟩ := HLO8.out; refine ⟨?_, ?_, ?_⟩ <;> (refine setOther _ (setOther _ (setOther _ (by assumption) ?_) ?_) ?_ <;> (simp only []; omega))) (fun _ => trivial) ?_
             clear hK K
             refine wpAnyL_pure (i := 19) rfl (by kernel_rfl) (fun _ _ _ h => h) (Or.inl ⟨by rfl, (fun u hu => by obtain ⟨k0, k1, k2⟩ := hu; go_simp; try rfl)⟩) (by obtain ⟨q0, q1, q2⟩ := HFAR.out _ HH23.out; obtain ⟨l0, l1, l2⟩ := HLO8.out; refine ⟨?_, ?_, ?_⟩ <;> (refine setOther _ (setOther _ (setOther _ (by assumption) ?_) ?_) ?_ <;> (simp only []; omega))) (fun _ => trivial) ?_
             simp only [Act.put, List.setIfInBounds_toArray, List.set_cons_zero, List.set_cons_succ, List.getElem_toArray, List.getElem_cons_zero, List.getElem_cons_succ]
             refine wpAnyL_done (by kernel_rfl) ?_ _
             go_wp2_with fail
             go_meet
             exact ⟨_, A, n, c, NN, m, c', bb, _, rfl, rfl, HBF24.out, hge24, HXF24.out, HBW24.out⟩
            exact AllL.nil
           exact AllL.nil
          refine AllL.cons rfl (fun K hK => ?_) ?_
          ·
           go_simp
           obtain ⟨u25, hu25⟩ : ∃ u : World, u = u21.alloc (.cells #[.int .i64 0, .slice none 0 0, .slice none 0 0] 29) := ⟨_, rfl⟩
           rw [← hu25]
           have hb25 : Below u21.heap.size u21 u25 := by rw [hu25]; exact (Below.refl _ _).alloc (Nat.le_refl _) _
           have HN25 := Lib.hid (show u25.heap[u21.heap.size]? = some (.cells #[.int .i64 0, .slice none 0 0, .slice none 0 0] 29 (0, 0)) by rw [hu25]; exact heap_alloc_new _ _)
           have HL25 := Lib.hid (show w8.heap.size ≤ u21.heap.size ∧ u21.heap.size < u25.heap.size from ⟨HH21.out.size, by rw [hu25]; simp⟩)
           have HH25 := Lib.hid (HH21.out.trans (hb25.mono HH21.out.size))
           have HSZ25 := Lib.hid hb25.size
           clear hu25 hb25
           refine hK.out _ _ (HFAR.out _ HH25.out) (fun _ => trivial) ?_
           clear hK K
           refine wpAnyL_ready (rs := [13]) (by kernel_rfl) (by simp) ?_
           refine AllL.cons rfl (fun K hK => ?_) ?_
           ·
            refine step_calls 16 #[.string key, .int .i64 Tm, .func (.func 18) #[] #[.pointer (some ⟨Bp, 0, none⟩)], .func (.func 19) #[] #[.pointer (some ⟨Bo, 0, none⟩)], .int .i64 200] rfl (by kernel_rfl) (HEXP.out u25 HH25.out ((HH25.out.block _ (heap_lt HOB8.out)).trans HOB8.out)) ?_
            rintro e u26 ⟨hr26, hb26⟩
            obtain ⟨A, n, c, NN, m, c', bb, rfl, hx26⟩ := hr26.one
            refine ⟨_, rfl, ?_⟩
            simp only [Act.put, List.setIfInBounds_toArray, List.set_cons_zero, List.set_cons_succ, List.getElem_toArray, List.getElem_cons_zero, List.getElem_cons_succ]
            have HH26 := Lib.hid (HH25.out.trans (hb26.mono HH25.out.size))
            have HBX26 := Lib.hid ((hb26.block _ (heap_lt HN25.out)).trans HN25.out)
            have HSZ26 := Lib.hid hb26.size
            have HXO26 := Lib.hid hx26
            clear hb26 hx26 hr26
            refine hK.out _ _ (HFAR.out _ HH26.out) (fun _ => trivial) ?_
            clear hK K
            refine wpAnyL_pure (i := 14) rfl (by kernel_rfl) (fun _ _ _ h => h) (Or.inl ⟨by rfl, (fun u hu => by obtain ⟨k0, k1, k2⟩ := hu; go_simp; try rfl)⟩) (HFAR.out _ HH26.out) (fun _ => trivial) ?_
            simp only [Act.put, List.setIfInBounds_toArray, List.set_cons_zero, List.set_cons_succ, List.getElem_toArray, List.getElem_cons_zero, List.getElem_cons_succ]
            refine wpAnyL_pure (i := 15) rfl (by kernel_rfl) (fun _ _ _ h => h) (Or.inl ⟨by rfl, (fun u hu => by obtain ⟨k0, k1, k2⟩ := hu; go_simp; try rfl)⟩) (HFAR.out _ HH26.out) (fun _ => trivial) ?_
            simp only [Act.put, List.setIfInBounds_toArray, List.set_cons_zero, List.set_cons_succ, List.getElem_toArray, List.getElem_cons_zero, List.getElem_cons_succ]
            refine wpAnyL_pure (i := 16) rfl (by kernel_rfl) (fun _ _ _ h => h) (Or.inl ⟨by rfl, (fun u hu => by obtain ⟨k0, k1, k2⟩ := hu; go_simp; try rfl)⟩) (HFAR.out _ HH26.out) (fun _ => trivial) ?_
            simp only [Act.put, List.setIfInBounds_toArray, List.set_cons_zero, List.set_cons_succ, List.getElem_toArray, List.getElem_cons_zero, List.getElem_cons_succ]
            refine wpAnyL_ready (rs := [18]) (by kernel_rfl) (by simp) ?_
            refine AllL.cons rfl (fun K hK => ?_) ?_
            ·
             have hbx27 := HBX26.out
             have hc270 : u26.cell? ⟨u21.heap.size, 0, none⟩ = some (.int .i64 0) := by simp [World.cell?, hbx27]
             have hf270 : u26.frozen? ⟨u21.heap.size, 0, none⟩ = false := by simp [World.frozen?, hbx27]
             have hc271 : u26.cell? ⟨u21.heap.size, 1, none⟩ = some (.slice none 0 0) := by simp [World.cell?, hbx27]
             have hf271 : u26.frozen? ⟨u21.heap.size, 1, none⟩ = false := by simp [World.frozen?, hbx27]
             have hc272 : u26.cell? ⟨u21.heap.size, 2, none⟩ = some (.slice none 0 0) := by simp [World.cell?, hbx27]
             have hf272 : u26.frozen? ⟨u21.heap.size, 2, none⟩ = false := by simp [World.frozen?, hbx27]
             have HBF27 := Lib.hid (blk_set (blk_set (blk_set hbx27 0 (.int .i64 0)) 1 (.slice A n c)) 2 (.slice NN m c'))
             have HXF27 := Lib.hid (HXO26.out.keep (w' := ((u26.setCell ⟨u21.heap.size, 0, none⟩ (.int .i64 0)).setCell ⟨u21.heap.size, 1, none⟩ (.slice A n c)).setCell ⟨u21.heap.size, 2, none⟩ (.slice NN m c')) (((Only.set u26 u21.heap.size 0 (.int .i64 0) (X := fun b => b = u21.heap.size) rfl).trans ((Only.set _ u21.heap.size 1 (.slice A n c) (X := fun b => b = u21.heap.size) rfl).trans (Only.set _ u21.heap.size 2 (.slice NN m c') (X := fun b => b = u21.heap.size) rfl))).kept fun b hb e => by have hb1 := hb.1; have hb2 := hb.2; have hz0 := HSZ19.out; have hz1 := HSZ20.out; have hz2 := HSZ21.out; have hz3 := HSZ25.out; have hz4 := HSZ26.out; have hq0 := HL19.out; have hq1 := HL20.out; have hq2 := HL25.out; omega))
             have hge27 : w8.heap.size ≤ u21.heap.size := HL25.out.1
             have HBW27 := Lib.hid (((HH26.out.setCell (show w8.heap.size ≤ (⟨u21.heap.size, 0, none⟩ : Addr).block from hge27) (.int .i64 0)).setCell (show w8.heap.size ≤ (⟨u21.heap.size, 1, none⟩ : Addr).block from hge27) (.slice A n c)).setCell (show w8.heap.size ≤ (⟨u21.heap.size, 2, none⟩ : Addr).block from hge27) (.slice NN m c'))
             clear hbx27
             go_simp
             clear hc270 hf270 hc271 hf271 hc272 hf272
             refine hK.out _ _ (by obtain ⟨q0, q1, q2⟩ := HFAR.out _ HH26.out; obtain ⟨l0, l1, l2⟩ := HLO8.out; refine ⟨?_, ?_, ?_⟩ <;> (refine setOther _ (setOther _ (setOther _ (by assumption) ?_) ?_) ?_ <;> (simp only []; omega))) (fun _ => trivial) ?_
             clear hK K
             refine wpAnyL_pure (i := 19) rfl (by kernel_rfl) (fun _ _ _ h => h) (Or.inl ⟨by rfl, (fun u hu => by obtain ⟨k0, k1, k2⟩ := hu; go_simp; try rfl)⟩) (by obtain ⟨q0, q1, q2⟩ := HFAR.out _ HH26.out; obtain ⟨l0, l1, l2⟩ := HLO8.out; refine ⟨?_, ?_, ?_⟩ <;> (refine setOther _ (setOther _ (setOther _ (by assumption) ?_) ?_) ?_ <;> (simp only []; omega))) (fun _ => trivial) ?_
             simp only [Act.put, List.setIfInBounds_toArray, List.set_cons_zero, List.set_cons_succ, List.getElem_toArray, List.getElem_cons_zero, List.getElem_cons_succ]
             refine wpAnyL_done (by kernel_rfl) ?_ _
             go_wp2_with fail
             go_meet
             exact ⟨_, A, n, c, NN, m, c', bb, _, rfl, rfl, HBF27.out, hge27, HXF27.out, HBW27.out⟩
            exact AllL.nil
           exact AllL.nil
          exact AllL.nil
         refine AllL.cons rfl (fun K hK => ?_) ?_
         ·
          go_simp
          obtain ⟨u28, hu28⟩ : ∃ u : World, u = u20.alloc (.cells #[.int .i64 0, .slice none 0 0, .slice none 0 0] 29) := ⟨_, rfl⟩
          rw [← hu28]
          have hb28 : Below u20.heap.size u20 u28 := by rw [hu28]; exact (Below.refl _ _).alloc (Nat.le_refl _) _
          have HN28 := Lib.hid (show u28.heap[u20.heap.size]? = some (.cells #[.int .i64 0, .slice none 0 0, .slice none 0 0] 29 (0, 0)) by rw [hu28]; exact heap_alloc_new _ _)
          have HL28 := Lib.hid (show w8.heap.size ≤ u20.heap.size ∧ u20.heap.size < u28.heap.size from ⟨HH20.out.size, by rw [hu28]; simp⟩)
          have HH28 := Lib.hid (HH20.out.trans (hb28.mono HH20.out.size))
          have HBY28 := Lib.hid (HN20.out.below hb28)
          have HOW28 := Lib.hid (HOW20.out.below hb28 (Nat.le_refl _))
          have HSZ28 := Lib.hid hb28.size
          clear hu28 hb28
          refine hK.out _ _ (HFAR.out _ HH28.out) (fun _ => trivial) ?_
          clear hK K
          refine wpAnyL_ready (rs := [8]) (by kernel_rfl) (by simp) ?_
          refine AllL.cons rfl (fun K hK => ?_) ?_
          ·
           have hne29 : u0.heap.size ≠ u19.heap.size := (by have hz0 := HSZ19.out; have hz1 := HSZ20.out; have hz2 := HSZ28.out; have hq0 := HL19.out; have hq1 := HL20.out; have hq2 := HL28.out; omega)
           refine step_calls 17 #[.pointer (some ⟨Bb, 0, none⟩), .slice (some ⟨u19.heap.size, 0, none⟩) E.nodes E.nodes, .slice (some ⟨u0.heap.size, 0, none⟩) 1 1] rfl (by kernel_rfl) (HCLOSE.out u28 u19.heap.size u0.heap.size HH28.out HL20.out.1 HBY28.out HOW28.out hne29) ?_
           rintro e u29 ⟨rfl, ho29, hb29⟩
           refine ⟨_, rfl, ?_⟩
           simp only [Act.put, List.setIfInBounds_toArray, List.set_cons_zero, List.set_cons_succ, List.getElem_toArray, List.getElem_cons_zero, List.getElem_cons_succ]
           have hoff29 : ¬ (u20.heap.size = u19.heap.size ∨ u20.heap.size = u0.heap.size) := (by have hz0 := HSZ19.out; have hz1 := HSZ20.out; have hz2 := HSZ28.out; have hq0 := HL19.out; have hq1 := HL20.out; have hq2 := HL28.out; omega)
           have HH29 := Lib.hid (HH28.out.trans hb29)
           have HBX29 := Lib.hid ((ho29.block _ (heap_lt HN28.out) hoff29).trans HN28.out)
           have HSZ29 := Lib.hid hb29.size
           clear ho29 hb29 hne29
           refine hK.out _ _ (HFAR.out _ HH29.out) (fun _ => trivial) ?_
           clear hK K
           refine wpAnyL_ready (rs := [13]) (by kernel_rfl) (by simp) ?_
           refine AllL.cons rfl (fun K hK => ?_) ?_
           ·
            refine step_calls 16 #[.string key, .int .i64 Tm, .func (.func 18) #[] #[.pointer (some ⟨Bp, 0, none⟩)], .func (.func 19) #[] #[.pointer (some ⟨Bo, 0, none⟩)], .int .i64 200] rfl (by kernel_rfl) (HEXP.out u29 HH29.out ((HH29.out.block _ (heap_lt HOB8.out)).trans HOB8.out)) ?_
            rintro e u30 ⟨hr30, hb30⟩
            obtain ⟨A, n, c, NN, m, c', bb, rfl, hx30⟩ := hr30.one
            refine ⟨_, rfl, ?_⟩
            simp only [Act.put, List.setIfInBounds_toArray, List.set_cons_zero, List.set_cons_succ, List.getElem_toArray, List.getElem_cons_zero, List.getElem_cons_succ]
            have HH30 := Lib.hid (HH29.out.trans (hb30.mono HH29.out.size))
            have HBX30 := Lib.hid ((hb30.block _ (heap_lt HBX29.out)).trans HBX29.out)
            have HSZ30 := Lib.hid hb30.size
            have HXO30 := Lib.hid hx30
            clear hb30 hx30 hr30
            refine hK.out _ _ (HFAR.out _ HH30.out) (fun _ => trivial) ?_
            clear hK K
            refine wpAnyL_pure (i := 14) rfl (by kernel_rfl) (fun _ _ _ h => h) (Or.inl ⟨by rfl, (fun u hu => by obtain ⟨k0, k1, k2⟩ := hu; go_simp; try rfl)⟩) (HFAR.out _ HH30.out) (fun _ => trivial) ?_
            simp only [Act.put, List.setIfInBounds_toArray, List.set_cons_zero, List.set_cons_succ, List.getElem_toArray, List.getElem_cons_zero, List.getElem_cons_succ]
            refine wpAnyL_pure (i := 15) rfl (by kernel_rfl) (fun _ _ _ h => h) (Or.inl ⟨by rfl, (fun u hu => by obtain ⟨k0, k1, k2⟩ := hu; go_simp; try rfl)⟩) (HFAR.out _ HH30.out) (fun _ => trivial) ?_
            simp only [Act.put, List.setIfInBounds_toArray, List.set_cons_zero, List.set_cons_succ, List.getElem_toArray, List.getElem_cons_zero, List.getElem_cons_succ]
            refine wpAnyL_pure (i := 16) rfl (by kernel_rfl) (fun _ _ _ h => h) (Or.inl ⟨by rfl, (fun u hu => by obtain ⟨k0, k1, k2⟩ := hu; go_simp; try rfl)⟩) (HFAR.out _ HH30.out) (fun _ => trivial) ?_
            simp only [Act.put, List.setIfInBounds_toArray, List.set_cons_zero, List.set_cons_succ, List.getElem_toArray, List.getElem_cons_zero, List.getElem_cons_succ]
            refine wpAnyL_ready (rs := [18]) (by kernel_rfl) (by simp) ?_
            refine AllL.cons rfl (fun K hK => ?_) ?_
            ·
             have hbx31 := HBX30.out
             have hc310 : u30.cell? ⟨u20.heap.size, 0, none⟩ = some (.int .i64 0) := by simp [World.cell?, hbx31]
             have hf310 : u30.frozen? ⟨u20.heap.size, 0, none⟩ = false := by simp [World.frozen?, hbx31]
             have hc311 : u30.cell? ⟨u20.heap.size, 1, none⟩ = some (.slice none 0 0) := by simp [World.cell?, hbx31]
             have hf311 : u30.frozen? ⟨u20.heap.size, 1, none⟩ = false := by simp [World.frozen?, hbx31]
             have hc312 : u30.cell? ⟨u20.heap.size, 2, none⟩ = some (.slice none 0 0) := by simp [World.cell?, hbx31]
             have hf312 : u30.frozen? ⟨u20.heap.size, 2, none⟩ = false := by simp [World.frozen?, hbx31]
             have HBF31 := Lib.hid (blk_set (blk_set (blk_set hbx31 0 (.int .i64 0)) 1 (.slice A n c)) 2 (.slice NN m c'))
             have HXF31 := Lib.hid (HXO30.out.keep (w' := ((u30.setCell ⟨u20.heap.size, 0, none⟩ (.int .i64 0)).setCell ⟨u20.heap.size, 1, none⟩ (.slice A n c)).setCell ⟨u20.heap.size, 2, none⟩ (.slice NN m c')) (((Only.set u30 u20.heap.size 0 (.int .i64 0) (X := fun b => b = u20.heap.size) rfl).trans ((Only.set _ u20.heap.size 1 (.slice A n c) (X := fun b => b = u20.heap.size) rfl).trans (Only.set _ u20.heap.size 2 (.slice NN m c') (X := fun b => b = u20.heap.size) rfl))).kept fun b hb e => by have hb1 := hb.1; have hb2 := hb.2; have hz0 := HSZ19.out; have hz1 := HSZ20.out; have hz2 := HSZ28.out; have hz3 := HSZ29.out; have hz4 := HSZ30.out; have hq0 := HL19.out; have hq1 := HL20.out; have hq2 := HL28.out; omega))
             have hge31 : w8.heap.size ≤ u20.heap.size := HL28.out.1
             have HBW31 := Lib.hid (((HH30.out.setCell (show w8.heap.size ≤ (⟨u20.heap.size, 0, none⟩ : Addr).block from hge31) (.int .i64 0)).setCell (show w8.heap.size ≤ (⟨u20.heap.size, 1, none⟩ : Addr).block from hge31) (.slice A n c)).setCell (show w8.heap.size ≤ (⟨u20.heap.size, 2, none⟩ : Addr).block from hge31) (.slice NN m c'))
             clear hbx31
             go_simp
             clear hc310 hf310 hc311 hf311 hc312 hf312
             refine hK.out _ _ (by obtain ⟨q0, q1, q2⟩ := HFAR.out _ HH30.out; obtain ⟨l0, l1, l2⟩ := HLO8.out; refine ⟨?_, ?_, ?_⟩ <;> (refine setOther _ (setOther _ (setOther _ (by assumption) ?_) ?_) ?_ <;> (simp only []; omega))) (fun _ => trivial) ?_
             clear hK K
             refine wpAnyL_pure (i := 19) rfl (by kernel_rfl) (fun _ _ _ h => h) (Or.inl ⟨by rfl, (fun u hu => by obtain ⟨k0, k1, k2⟩ := hu; go_simp; try rfl)⟩) (by obtain ⟨q0, q1, q2⟩ := HFAR.out _ HH30.out; obtain ⟨l0, l1, l2⟩ := HLO8.out; refine ⟨?_, ?_, ?_⟩ <;> (refine setOther _ (setOther _ (setOther _ (by assumption) ?_) ?_) ?_ <;> (simp only []; omega))) (fun _ => trivial) ?_
             simp only [Act.put, List.setIfInBounds_toArray, List.set_cons_zero, List.set_cons_succ, List.getElem_toArray, List.getElem_cons_zero, List.getElem_cons_succ]
             refine wpAnyL_done (by kernel_rfl) ?_ _
             go_wp2_with fail
             go_meet
             exact ⟨_, A, n, c, NN, m, c', bb, _, rfl, rfl, HBF31.out, hge31, HXF31.out, HBW31.out⟩
            exact AllL.nil
           exact AllL.nil
          exact AllL.nil
         exact AllL.nil
        refine AllL.cons rfl (fun K hK => ?_) ?_
        ·
         go_simp
         obtain ⟨u32, hu32⟩ : ∃ u : World, u = u19.alloc (.cells #[.int .i64 0, .slice none 0 0, .slice none 0 0] 29) := ⟨_, rfl⟩
         rw [← hu32]
         have hb32 : Below u19.heap.size u19 u32 := by rw [hu32]; exact (Below.refl _ _).alloc (Nat.le_refl _) _
         have HN32 := Lib.hid (show u32.heap[u19.heap.size]? = some (.cells #[.int .i64 0, .slice none 0 0, .slice none 0 0] 29 (0, 0)) by rw [hu32]; exact heap_alloc_new _ _)
         have HL32 := Lib.hid (show w8.heap.size ≤ u19.heap.size ∧ u19.heap.size < u32.heap.size from ⟨HH19.out.size, by rw [hu32]; simp⟩)
         have HH32 := Lib.hid (HH19.out.trans (hb32.mono HH19.out.size))
         have HOW32 := Lib.hid (HN19.out.below hb32 (Nat.le_refl _))
         have HSZ32 := Lib.hid hb32.size
         clear hu32 hb32
         refine hK.out _ _ (HFAR.out _ HH32.out) (fun _ => trivial) ?_
         clear hK K
         refine wpAnyL_ready (rs := [5]) (by kernel_rfl) (by simp) ?_
         refine AllL.cons rfl (fun K hK => ?_) ?_
         ·
          go_simp
          obtain ⟨u33, hu33⟩ : ∃ u : World, u = u32.alloc (.cells (Array.replicate E.nodes (Value.int .u8 0)) 5) := ⟨_, rfl⟩
          rw [← hu33]
          have hb33 : Below u32.heap.size u32 u33 := by rw [hu33]; exact (Below.refl _ _).alloc (Nat.le_refl _) _
          have HN33 := Lib.hid (show ByB u33 u32.heap.size (bitsB (List.replicate E.nodes false)) by rw [hu33]; exact HBY0.out u32)
          have HL33 := Lib.hid (show w8.heap.size ≤ u32.heap.size ∧ u32.heap.size < u33.heap.size from ⟨HH32.out.size, by rw [hu33]; simp⟩)
          have HH33 := Lib.hid (HH32.out.trans (hb33.mono HH32.out.size))
          have HOW33 := Lib.hid (HOW32.out.below hb33 (Nat.le_refl _))
          have HBX33 := Lib.hid ((hb33.block _ (heap_lt HN32.out)).trans HN32.out)
          have HSZ33 := Lib.hid hb33.size
          clear hu33 hb33
          refine hK.out _ _ (HFAR.out _ HH33.out) (fun _ => trivial) ?_
          clear hK K
          refine wpAnyL_ready (rs := [8]) (by kernel_rfl) (by simp) ?_
          refine AllL.cons rfl (fun K hK => ?_) ?_
          ·
           have hne34 : u0.heap.size ≠ u32.heap.size := (by have hz0 := HSZ19.out; have hz1 := HSZ32.out; have hz2 := HSZ33.out; have hq0 := HL19.out; have hq1 := HL32.out; have hq2 := HL33.out; omega)
           refine step_calls 17 #[.pointer (some ⟨Bb, 0, none⟩), .slice (some ⟨u32.heap.size, 0, none⟩) E.nodes E.nodes, .slice (some ⟨u0.heap.size, 0, none⟩) 1 1] rfl (by kernel_rfl) (HCLOSE.out u33 u32.heap.size u0.heap.size HH33.out HL33.out.1 HN33.out HOW33.out hne34) ?_
           rintro e u34 ⟨rfl, ho34, hb34⟩
           refine ⟨_, rfl, ?_⟩
           simp only [Act.put, List.setIfInBounds_toArray, List.set_cons_zero, List.set_cons_succ, List.getElem_toArray, List.getElem_cons_zero, List.getElem_cons_succ]
           have hoff34 : ¬ (u19.heap.size = u32.heap.size ∨ u19.heap.size = u0.heap.size) := (by have hz0 := HSZ19.out; have hz1 := HSZ32.out; have hz2 := HSZ33.out; have hq0 := HL19.out; have hq1 := HL32.out; have hq2 := HL33.out; omega)
           have HH34 := Lib.hid (HH33.out.trans hb34)
           have HBX34 := Lib.hid ((ho34.block _ (heap_lt HBX33.out) hoff34).trans HBX33.out)
           have HSZ34 := Lib.hid hb34.size
           clear ho34 hb34 hne34
           refine hK.out _ _ (HFAR.out _ HH34.out) (fun _ => trivial) ?_
           clear hK K
           refine wpAnyL_ready (rs := [13]) (by kernel_rfl) (by simp) ?_
           refine AllL.cons rfl (fun K hK => ?_) ?_
           ·
            refine step_calls 16 #[.string key, .int .i64 Tm, .func (.func 18) #[] #[.pointer (some ⟨Bp, 0, none⟩)], .func (.func 19) #[] #[.pointer (some ⟨Bo, 0, none⟩)], .int .i64 200] rfl (by kernel_rfl) (HEXP.out u34 HH34.out ((HH34.out.block _ (heap_lt HOB8.out)).trans HOB8.out)) ?_
            rintro e u35 ⟨hr35, hb35⟩
            obtain ⟨A, n, c, NN, m, c', bb, rfl, hx35⟩ := hr35.one
            refine ⟨_, rfl, ?_⟩
            simp only [Act.put, List.setIfInBounds_toArray, List.set_cons_zero, List.set_cons_succ, List.getElem_toArray, List.getElem_cons_zero, List.getElem_cons_succ]
            have HH35 := Lib.hid (HH34.out.trans (hb35.mono HH34.out.size))
            have HBX35 := Lib.hid ((hb35.block _ (heap_lt HBX34.out)).trans HBX34.out)
            have HSZ35 := Lib.hid hb35.size
            have HXO35 := Lib.hid hx35
            clear hb35 hx35 hr35
            refine hK.out _ _ (HFAR.out _ HH35.out) (fun _ => trivial) ?_
            clear hK K
            refine wpAnyL_pure (i := 14) rfl (by kernel_rfl) (fun _ _ _ h => h) (Or.inl ⟨by rfl, (fun u hu => by obtain ⟨k0, k1, k2⟩ := hu; go_simp; try rfl)⟩) (HFAR.out _ HH35.out) (fun _ => trivial) ?_
            simp only [Act.put, List.setIfInBounds_toArray, List.set_cons_zero, List.set_cons_succ, List.getElem_toArray, List.getElem_cons_zero, List.getElem_cons_succ]
            refine wpAnyL_pure (i := 15) rfl (by kernel_rfl) (fun _ _ _ h => h) (Or.inl ⟨by rfl, (fun u hu => by obtain ⟨k0, k1, k2⟩ := hu; go_simp; try rfl)⟩) (HFAR.out _ HH35.out) (fun _ => trivial) ?_
            simp only [Act.put, List.setIfInBounds_toArray, List.set_cons_zero, List.set_cons_succ, List.getElem_toArray, List.getElem_cons_zero, List.getElem_cons_succ]
            refine wpAnyL_pure (i := 16) rfl (by kernel_rfl) (fun _ _ _ h => h) (Or.inl ⟨by rfl, (fun u hu => by obtain ⟨k0, k1, k2⟩ := hu; go_simp; try rfl)⟩) (HFAR.out _ HH35.out) (fun _ => trivial) ?_
            simp only [Act.put, List.setIfInBounds_toArray, List.set_cons_zero, List.set_cons_succ, List.getElem_toArray, List.getElem_cons_zero, List.getElem_cons_succ]
            refine wpAnyL_ready (rs := [18]) (by kernel_rfl) (by simp) ?_
            refine AllL.cons rfl (fun K hK => ?_) ?_
            ·
             have hbx36 := HBX35.out
             have hc360 : u35.cell? ⟨u19.heap.size, 0, none⟩ = some (.int .i64 0) := by simp [World.cell?, hbx36]
             have hf360 : u35.frozen? ⟨u19.heap.size, 0, none⟩ = false := by simp [World.frozen?, hbx36]
             have hc361 : u35.cell? ⟨u19.heap.size, 1, none⟩ = some (.slice none 0 0) := by simp [World.cell?, hbx36]
             have hf361 : u35.frozen? ⟨u19.heap.size, 1, none⟩ = false := by simp [World.frozen?, hbx36]
             have hc362 : u35.cell? ⟨u19.heap.size, 2, none⟩ = some (.slice none 0 0) := by simp [World.cell?, hbx36]
             have hf362 : u35.frozen? ⟨u19.heap.size, 2, none⟩ = false := by simp [World.frozen?, hbx36]
             have HBF36 := Lib.hid (blk_set (blk_set (blk_set hbx36 0 (.int .i64 0)) 1 (.slice A n c)) 2 (.slice NN m c'))
             have HXF36 := Lib.hid (HXO35.out.keep (w' := ((u35.setCell ⟨u19.heap.size, 0, none⟩ (.int .i64 0)).setCell ⟨u19.heap.size, 1, none⟩ (.slice A n c)).setCell ⟨u19.heap.size, 2, none⟩ (.slice NN m c')) (((Only.set u35 u19.heap.size 0 (.int .i64 0) (X := fun b => b = u19.heap.size) rfl).trans ((Only.set _ u19.heap.size 1 (.slice A n c) (X := fun b => b = u19.heap.size) rfl).trans (Only.set _ u19.heap.size 2 (.slice NN m c') (X := fun b => b = u19.heap.size) rfl))).kept fun b hb e => by have hb1 := hb.1; have hb2 := hb.2; have hz0 := HSZ19.out; have hz1 := HSZ32.out; have hz2 := HSZ33.out; have hz3 := HSZ34.out; have hz4 := HSZ35.out; have hq0 := HL19.out; have hq1 := HL32.out; have hq2 := HL33.out; omega))
             have hge36 : w8.heap.size ≤ u19.heap.size := HL32.out.1
             have HBW36 := Lib.hid (((HH35.out.setCell (show w8.heap.size ≤ (⟨u19.heap.size, 0, none⟩ : Addr).block from hge36) (.int .i64 0)).setCell (show w8.heap.size ≤ (⟨u19.heap.size, 1, none⟩ : Addr).block from hge36) (.slice A n c)).setCell (show w8.heap.size ≤ (⟨u19.heap.size, 2, none⟩ : Addr).block from hge36) (.slice NN m c'))
             clear hbx36
             go_simp
             clear hc360 hf360 hc361 hf361 hc362 hf362
             refine hK.out _ _ (by obtain ⟨q0, q1, q2⟩ := HFAR.out _ HH35.out; obtain ⟨l0, l1, l2⟩ := HLO8.out; refine ⟨?_, ?_, ?_⟩ <;> (refine setOther _ (setOther _ (setOther _ (by assumption) ?_) ?_) ?_ <;> (simp only []; omega))) (fun _ => trivial) ?_
             clear hK K
             refine wpAnyL_pure (i := 19) rfl (by kernel_rfl) (fun _ _ _ h => h) (Or.inl ⟨by rfl, (fun u hu => by obtain ⟨k0, k1, k2⟩ := hu; go_simp; try rfl)⟩) (by obtain ⟨q0, q1, q2⟩ := HFAR.out _ HH35.out; obtain ⟨l0, l1, l2⟩ := HLO8.out; refine ⟨?_, ?_, ?_⟩ <;> (refine setOther _ (setOther _ (setOther _ (by assumption) ?_) ?_) ?_ <;> (simp only []; omega))) (fun _ => trivial) ?_
             simp only [Act.put, List.setIfInBounds_toArray, List.set_cons_zero, List.set_cons_succ, List.getElem_toArray, List.getElem_cons_zero, List.getElem_cons_succ]
             refine wpAnyL_done (by kernel_rfl) ?_ _
             go_wp2_with fail
             go_meet
             exact ⟨_, A, n, c, NN, m, c', bb, _, rfl, rfl, HBF36.out, hge36, HXF36.out, HBW36.out⟩
            exact AllL.nil
           exact AllL.nil
          exact AllL.nil
         exact AllL.nil
        exact AllL.nil
       refine AllL.cons rfl (fun K hK => ?_) ?_
       ·
        go_simp
        obtain ⟨u37, hu37⟩ : ∃ u : World, u = u0.alloc (.cells #[.int .i64 0, .slice none 0 0, .slice none 0 0] 29) := ⟨_, rfl⟩
        rw [← hu37]
        have hb37 : Below u0.heap.size u0 u37 := by rw [hu37]; exact (Below.refl _ _).alloc (Nat.le_refl _) _
        have HN37 := Lib.hid (show u37.heap[u0.heap.size]? = some (.cells #[.int .i64 0, .slice none 0 0, .slice none 0 0] 29 (0, 0)) by rw [hu37]; exact heap_alloc_new _ _)
        have HL37 := Lib.hid (show w8.heap.size ≤ u0.heap.size ∧ u0.heap.size < u37.heap.size from ⟨HH0.out.size, by rw [hu37]; simp⟩)
        have HH37 := Lib.hid (HH0.out.trans (hb37.mono HH0.out.size))
        have HSZ37 := Lib.hid hb37.size
        clear hu37 hb37
        refine hK.out _ _ (HFAR.out _ HH37.out) (fun _ => trivial) ?_
        clear hK K
        refine wpAnyL_ready (rs := [5, 7]) (by kernel_rfl) (by simp) ?_
        refine AllL.cons rfl (fun K hK => ?_) ?_
        ·
         go_simp
         obtain ⟨u38, hu38⟩ : ∃ u : World, u = u37.alloc (.cells (Array.replicate E.nodes (Value.int .u8 0)) 5) := ⟨_, rfl⟩
         rw [← hu38]
         have hb38 : Below u37.heap.size u37 u38 := by rw [hu38]; exact (Below.refl _ _).alloc (Nat.le_refl _) _
         have HN38 := Lib.hid (show ByB u38 u37.heap.size (bitsB (List.replicate E.nodes false)) by rw [hu38]; exact HBY0.out u37)
         have HL38 := Lib.hid (show w8.heap.size ≤ u37.heap.size ∧ u37.heap.size < u38.heap.size from ⟨HH37.out.size, by rw [hu38]; simp⟩)
         have HH38 := Lib.hid (HH37.out.trans (hb38.mono HH37.out.size))
         have HBX38 := Lib.hid ((hb38.block _ (heap_lt HN37.out)).trans HN37.out)
         have HSZ38 := Lib.hid hb38.size
         clear hu38 hb38
         refine hK.out _ _ (HFAR.out _ HH38.out) (fun _ => trivial) ?_
         clear hK K
         refine wpAnyL_ready (rs := [7]) (by kernel_rfl) (by simp) ?_
         refine AllL.cons rfl (fun K hK => ?_) ?_
         ·
          go_simp
          obtain ⟨u39, hu39⟩ : ∃ u : World, u = u38.alloc (.cells #[.int .i64 0] 3) := ⟨_, rfl⟩
          rw [← hu39]
          have hb39 : Below u38.heap.size u38 u39 := by rw [hu39]; exact (Below.refl _ _).alloc (Nat.le_refl _) _
          have HN39 := Lib.hid (show Own u39 w8.heap.size 3 1 (.slice (some ⟨u38.heap.size, 0, none⟩) 1 1) 1 (natsV [0]) by rw [hu39]; exact .inl (World.ownsRow_lit (e := 3) (size := 1) (base := w8.heap.size) u38 #[.int .i64 0] 1 HH38.out.size (by simp [maxLen]) (by simp)))
          have HL39 := Lib.hid (show w8.heap.size ≤ u38.heap.size ∧ u38.heap.size < u39.heap.size from ⟨HH38.out.size, by rw [hu39]; simp⟩)
          have HH39 := Lib.hid (HH38.out.trans (hb39.mono HH38.out.size))
          have HBY39 := Lib.hid (HN38.out.below hb39)
          have HBX39 := Lib.hid ((hb39.block _ (heap_lt HBX38.out)).trans HBX38.out)
          have HSZ39 := Lib.hid hb39.size
          clear hu39 hb39
          refine hK.out _ _ (HFAR.out _ HH39.out) (fun _ => trivial) ?_
          clear hK K
          refine wpAnyL_ready (rs := [8]) (by kernel_rfl) (by simp) ?_
          refine AllL.cons rfl (fun K hK => ?_) ?_
          ·
           have hne40 : u38.heap.size ≠ u37.heap.size := (by have hz0 := HSZ37.out; have hz1 := HSZ38.out; have hz2 := HSZ39.out; have hq0 := HL37.out; have hq1 := HL38.out; have hq2 := HL39.out; omega)
           refine step_calls 17 #[.pointer (some ⟨Bb, 0, none⟩), .slice (some ⟨u37.heap.size, 0, none⟩) E.nodes E.nodes, .slice (some ⟨u38.heap.size, 0, none⟩) 1 1] rfl (by kernel_rfl) (HCLOSE.out u39 u37.heap.size u38.heap.size HH39.out HL38.out.1 HBY39.out HN39.out hne40) ?_
           rintro e u40 ⟨rfl, ho40, hb40⟩
           refine ⟨_, rfl, ?_⟩
           simp only [Act.put, List.setIfInBounds_toArray, List.set_cons_zero, List.set_cons_succ, List.getElem_toArray, List.getElem_cons_zero, List.getElem_cons_succ]
           have hoff40 : ¬ (u0.heap.size = u37.heap.size ∨ u0.heap.size = u38.heap.size) := (by have hz0 := HSZ37.out; have hz1 := HSZ38.out; have hz2 := HSZ39.out; have hq0 := HL37.out; have hq1 := HL38.out; have hq2 := HL39.out; omega)
           have HH40 := Lib.hid (HH39.out.trans hb40)
           have HBX40 := Lib.hid ((ho40.block _ (heap_lt HBX39.out) hoff40).trans HBX39.out)
           have HSZ40 := Lib.hid hb40.size
           clear ho40 hb40 hne40
           refine hK.out _ _ (HFAR.out _ HH40.out) (fun _ => trivial) ?_
           clear hK K
           refine wpAnyL_ready (rs := [13]) (by kernel_rfl) (by simp) ?_
           refine AllL.cons rfl (fun K hK => ?_) ?_
           ·
            refine step_calls 16 #[.string key, .int .i64 Tm, .func (.func 18) #[] #[.pointer (some ⟨Bp, 0, none⟩)], .func (.func 19) #[] #[.pointer (some ⟨Bo, 0, none⟩)], .int .i64 200] rfl (by kernel_rfl) (HEXP.out u40 HH40.out ((HH40.out.block _ (heap_lt HOB8.out)).trans HOB8.out)) ?_
            rintro e u41 ⟨hr41, hb41⟩
            obtain ⟨A, n, c, NN, m, c', bb, rfl, hx41⟩ := hr41.one
            refine ⟨_, rfl, ?_⟩
            simp only [Act.put, List.setIfInBounds_toArray, List.set_cons_zero, List.set_cons_succ, List.getElem_toArray, List.getElem_cons_zero, List.getElem_cons_succ]
            have HH41 := Lib.hid (HH40.out.trans (hb41.mono HH40.out.size))
            have HBX41 := Lib.hid ((hb41.block _ (heap_lt HBX40.out)).trans HBX40.out)
            have HSZ41 := Lib.hid hb41.size
            have HXO41 := Lib.hid hx41
            clear hb41 hx41 hr41
            refine hK.out _ _ (HFAR.out _ HH41.out) (fun _ => trivial) ?_
            clear hK K
            refine wpAnyL_pure (i := 14) rfl (by kernel_rfl) (fun _ _ _ h => h) (Or.inl ⟨by rfl, (fun u hu => by obtain ⟨k0, k1, k2⟩ := hu; go_simp; try rfl)⟩) (HFAR.out _ HH41.out) (fun _ => trivial) ?_
            simp only [Act.put, List.setIfInBounds_toArray, List.set_cons_zero, List.set_cons_succ, List.getElem_toArray, List.getElem_cons_zero, List.getElem_cons_succ]
            refine wpAnyL_pure (i := 15) rfl (by kernel_rfl) (fun _ _ _ h => h) (Or.inl ⟨by rfl, (fun u hu => by obtain ⟨k0, k1, k2⟩ := hu; go_simp; try rfl)⟩) (HFAR.out _ HH41.out) (fun _ => trivial) ?_
            simp only [Act.put, List.setIfInBounds_toArray, List.set_cons_zero, List.set_cons_succ, List.getElem_toArray, List.getElem_cons_zero, List.getElem_cons_succ]
            refine wpAnyL_pure (i := 16) rfl (by kernel_rfl) (fun _ _ _ h => h) (Or.inl ⟨by rfl, (fun u hu => by obtain ⟨k0, k1, k2⟩ := hu; go_simp; try rfl)⟩) (HFAR.out _ HH41.out) (fun _ => trivial) ?_
            simp only [Act.put, List.setIfInBounds_toArray, List.set_cons_zero, List.set_cons_succ, List.getElem_toArray, List.getElem_cons_zero, List.getElem_cons_succ]
            refine wpAnyL_ready (rs := [18]) (by kernel_rfl) (by simp) ?_
            refine AllL.cons rfl (fun K hK => ?_) ?_
            ·
             have hbx42 := HBX41.out
             have hc420 : u41.cell? ⟨u0.heap.size, 0, none⟩ = some (.int .i64 0) := by simp [World.cell?, hbx42]
             have hf420 : u41.frozen? ⟨u0.heap.size, 0, none⟩ = false := by simp [World.frozen?, hbx42]
             have hc421 : u41.cell? ⟨u0.heap.size, 1, none⟩ = some (.slice none 0 0) := by simp [World.cell?, hbx42]
             have hf421 : u41.frozen? ⟨u0.heap.size, 1, none⟩ = false := by simp [World.frozen?, hbx42]
             have hc422 : u41.cell? ⟨u0.heap.size, 2, none⟩ = some (.slice none 0 0) := by simp [World.cell?, hbx42]
             have hf422 : u41.frozen? ⟨u0.heap.size, 2, none⟩ = false := by simp [World.frozen?, hbx42]
             have HBF42 := Lib.hid (blk_set (blk_set (blk_set hbx42 0 (.int .i64 0)) 1 (.slice A n c)) 2 (.slice NN m c'))
             have HXF42 := Lib.hid (HXO41.out.keep (w' := ((u41.setCell ⟨u0.heap.size, 0, none⟩ (.int .i64 0)).setCell ⟨u0.heap.size, 1, none⟩ (.slice A n c)).setCell ⟨u0.heap.size, 2, none⟩ (.slice NN m c')) (((Only.set u41 u0.heap.size 0 (.int .i64 0) (X := fun b => b = u0.heap.size) rfl).trans ((Only.set _ u0.heap.size 1 (.slice A n c) (X := fun b => b = u0.heap.size) rfl).trans (Only.set _ u0.heap.size 2 (.slice NN m c') (X := fun b => b = u0.heap.size) rfl))).kept fun b hb e => by have hb1 := hb.1; have hb2 := hb.2; have hz0 := HSZ37.out; have hz1 := HSZ38.out; have hz2 := HSZ39.out; have hz3 := HSZ40.out; have hz4 := HSZ41.out; have hq0 := HL37.out; have hq1 := HL38.out; have hq2 := HL39.out; omega))
             have hge42 : w8.heap.size ≤ u0.heap.size := HL37.out.1
             have HBW42 := Lib.hid (((HH41.out.setCell (show w8.heap.size ≤ (⟨u0.heap.size, 0, none⟩ : Addr).block from hge42) (.int .i64 0)).setCell (show w8.heap.size ≤ (⟨u0.heap.size, 1, none⟩ : Addr).block from hge42) (.slice A n c)).setCell (show w8.heap.size ≤ (⟨u0.heap.size, 2, none⟩ : Addr).block from hge42) (.slice NN m c'))
             clear hbx42
             go_simp
             clear hc420 hf420 hc421 hf421 hc422 hf422
             refine hK.out _ _ (by obtain ⟨q0, q1, q2⟩ := HFAR.out _ HH41.out; obtain ⟨l0, l1, l2⟩ := HLO8.out; refine ⟨?_, ?_, ?_⟩ <;> (refine setOther _ (setOther _ (setOther _ (by assumption) ?_) ?_) ?_ <;> (simp only []; omega))) (fun _ => trivial) ?_
             clear hK K
             refine wpAnyL_pure (i := 19) rfl (by kernel_rfl) (fun _ _ _ h => h) (Or.inl ⟨by rfl, (fun u hu => by obtain ⟨k0, k1, k2⟩ := hu; go_simp; try rfl)⟩) (by obtain ⟨q0, q1, q2⟩ := HFAR.out _ HH41.out; obtain ⟨l0, l1, l2⟩ := HLO8.out; refine ⟨?_, ?_, ?_⟩ <;> (refine setOther _ (setOther _ (setOther _ (by assumption) ?_) ?_) ?_ <;> (simp only []; omega))) (fun _ => trivial) ?_
             simp only [Act.put, List.setIfInBounds_toArray, List.set_cons_zero, List.set_cons_succ, List.getElem_toArray, List.getElem_cons_zero, List.getElem_cons_succ]
             refine wpAnyL_done (by kernel_rfl) ?_ _
             go_wp2_with fail
             go_meet
             exact ⟨_, A, n, c, NN, m, c', bb, _, rfl, rfl, HBF42.out, hge42, HXF42.out, HBW42.out⟩
            exact AllL.nil
           exact AllL.nil
          exact AllL.nil
         exact AllL.nil
        refine AllL.cons rfl (fun K hK => ?_) ?_
        ·
         go_simp
         obtain ⟨u43, hu43⟩ : ∃ u : World, u = u37.alloc (.cells #[.int .i64 0] 3) := ⟨_, rfl⟩
         rw [← hu43]
         have hb43 : Below u37.heap.size u37 u43 := by rw [hu43]; exact (Below.refl _ _).alloc (Nat.le_refl _) _
         have HN43 := Lib.hid (show Own u43 w8.heap.size 3 1 (.slice (some ⟨u37.heap.size, 0, none⟩) 1 1) 1 (natsV [0]) by rw [hu43]; exact .inl (World.ownsRow_lit (e := 3) (size := 1) (base := w8.heap.size) u37 #[.int .i64 0] 1 HH37.out.size (by simp [maxLen]) (by simp)))
         have HL43 := Lib.hid (show w8.heap.size ≤ u37.heap.size ∧ u37.heap.size < u43.heap.size from ⟨HH37.out.size, by rw [hu43]; simp⟩)
         have HH43 := Lib.hid (HH37.out.trans (hb43.mono HH37.out.size))
         have HBX43 := Lib.hid ((hb43.block _ (heap_lt HN37.out)).trans HN37.out)
         have HSZ43 := Lib.hid hb43.size
         clear hu43 hb43
         refine hK.out _ _ (HFAR.out _ HH43.out) (fun _ => trivial) ?_
         clear hK K
         refine wpAnyL_ready (rs := [5]) (by kernel_rfl) (by simp) ?_
         refine AllL.cons rfl (fun K hK => ?_) ?_
         ·
          go_simp
          obtain ⟨u44, hu44⟩ : ∃ u : World, u = u43.alloc (.cells (Array.replicate E.nodes (Value.int .u8 0)) 5) := ⟨_, rfl⟩
          rw [← hu44]
          have hb44 : Below u43.heap.size u43 u44 := by rw [hu44]; exact (Below.refl _ _).alloc (Nat.le_refl _) _
          have HN44 := Lib.hid (show ByB u44 u43.heap.size (bitsB (List.replicate E.nodes false)) by rw [hu44]; exact HBY0.out u43)
          have HL44 := Lib.hid (show w8.heap.size ≤ u43.heap.size ∧ u43.heap.size < u44.heap.size from ⟨HH43.out.size, by rw [hu44]; simp⟩)
          have HH44 := Lib.hid (HH43.out.trans (hb44.mono HH43.out.size))
          have HOW44 := Lib.hid (HN43.out.below hb44 (Nat.le_refl _))
          have HBX44 := Lib.hid ((hb44.block _ (heap_lt HBX43.out)).trans HBX43.out)
          have HSZ44 := Lib.hid hb44.size
          clear hu44 hb44
          refine hK.out _ _ (HFAR.out _ HH44.out) (fun _ => trivial) ?_
          clear hK K
          refine wpAnyL_ready (rs := [8]) (by kernel_rfl) (by simp) ?_
          refine AllL.cons rfl (fun K hK => ?_) ?_
          ·
           have hne45 : u37.heap.size ≠ u43.heap.size := (by have hz0 := HSZ37.out; have hz1 := HSZ43.out; have hz2 := HSZ44.out; have hq0 := HL37.out; have hq1 := HL43.out; have hq2 := HL44.out; omega)
           refine step_calls 17 #[.pointer (some ⟨Bb, 0, none⟩), .slice (some ⟨u43.heap.size, 0, none⟩) E.nodes E.nodes, .slice (some ⟨u37.heap.size, 0, none⟩) 1 1] rfl (by kernel_rfl) (HCLOSE.out u44 u43.heap.size u37.heap.size HH44.out HL44.out.1 HN44.out HOW44.out hne45) ?_
           rintro e u45 ⟨rfl, ho45, hb45⟩
           refine ⟨_, rfl, ?_⟩
           simp only [Act.put, List.setIfInBounds_toArray, List.set_cons_zero, List.set_cons_succ, List.getElem_toArray, List.getElem_cons_zero, List.getElem_cons_succ]
           have hoff45 : ¬ (u0.heap.size = u43.heap.size ∨ u0.heap.size = u37.heap.size) := (by have hz0 := HSZ37.out; have hz1 := HSZ43.out; have hz2 := HSZ44.out; have hq0 := HL37.out; have hq1 := HL43.out; have hq2 := HL44.out; omega)
           have HH45 := Lib.hid (HH44.out.trans hb45)
           have HBX45 := Lib.hid ((ho45.block _ (heap_lt HBX44.out) hoff45).trans HBX44.out)
           have HSZ45 := Lib.hid hb45.size
           clear ho45 hb45 hne45
           refine hK.out _ _ (HFAR.out _ HH45.out) (fun _ => trivial) ?_
           clear hK K
           refine wpAnyL_ready (rs := [13]) (by kernel_rfl) (by simp) ?_
           refine AllL.cons rfl (fun K hK => ?_) ?_
           ·
            refine step_calls 16 #[.string key, .int .i64 Tm, .func (.func 18) #[] #[.pointer (some ⟨Bp, 0, none⟩)], .func (.func 19) #[] #[.pointer (some ⟨Bo, 0, none⟩)], .int .i64 200] rfl (by kernel_rfl) (HEXP.out u45 HH45.out ((HH45.out.block _ (heap_lt HOB8.out)).trans HOB8.out)) ?_
            rintro e u46 ⟨hr46, hb46⟩
            obtain ⟨A, n, c, NN, m, c', bb, rfl, hx46⟩ := hr46.one
            refine ⟨_, rfl, ?_⟩
            simp only [Act.put, List.setIfInBounds_toArray, List.set_cons_zero, List.set_cons_succ, List.getElem_toArray, List.getElem_cons_zero, List.getElem_cons_succ]
            have HH46 := Lib.hid (HH45.out.trans (hb46.mono HH45.out.size))
            have HBX46 := Lib.hid ((hb46.block _ (heap_lt HBX45.out)).trans HBX45.out)
            have HSZ46 := Lib.hid hb46.size
            have HXO46 := Lib.hid hx46
            clear hb46 hx46 hr46
            refine hK.out _ _ (HFAR.out _ HH46.out) (fun _ => trivial) ?_
            clear hK K
            refine wpAnyL_pure (i := 14) rfl (by kernel_rfl) (fun _ _ _ h => h) (Or.inl ⟨by rfl, (fun u hu => by obtain ⟨k0, k1, k2⟩ := hu; go_simp; try rfl)⟩) (HFAR.out _ HH46.out) (fun _ => trivial) ?_
            simp only [Act.put, List.setIfInBounds_toArray, List.set_cons_zero, List.set_cons_succ, List.getElem_toArray, List.getElem_cons_zero, List.getElem_cons_succ]
            refine wpAnyL_pure (i := 15) rfl (by kernel_rfl) (fun _ _ _ h => h) (Or.inl ⟨by rfl, (fun u hu => by obtain ⟨k0, k1, k2⟩ := hu; go_simp; try rfl)⟩) (HFAR.out _ HH46.out) (fun _ => trivial) ?_
            simp only [Act.put, List.setIfInBounds_toArray, List.set_cons_zero, List.set_cons_succ, List.getElem_toArray, List.getElem_cons_zero, List.getElem_cons_succ]
            refine wpAnyL_pure (i := 16) rfl (by kernel_rfl) (fun _ _ _ h => h) (Or.inl ⟨by rfl, (fun u hu => by obtain ⟨k0, k1, k2⟩ := hu; go_simp; try rfl)⟩) (HFAR.out _ HH46.out) (fun _ => trivial) ?_
            simp only [Act.put, List.setIfInBounds_toArray, List.set_cons_zero, List.set_cons_succ, List.getElem_toArray, List.getElem_cons_zero, List.getElem_cons_succ]
            refine wpAnyL_ready (rs := [18]) (by kernel_rfl) (by simp) ?_
            refine AllL.cons rfl (fun K hK => ?_) ?_
            ·
             have hbx47 := HBX46.out
             have hc470 : u46.cell? ⟨u0.heap.size, 0, none⟩ = some (.int .i64 0) := by simp [World.cell?, hbx47]
             have hf470 : u46.frozen? ⟨u0.heap.size, 0, none⟩ = false := by simp [World.frozen?, hbx47]
             have hc471 : u46.cell? ⟨u0.heap.size, 1, none⟩ = some (.slice none 0 0) := by simp [World.cell?, hbx47]
             have hf471 : u46.frozen? ⟨u0.heap.size, 1, none⟩ = false := by simp [World.frozen?, hbx47]
             have hc472 : u46.cell? ⟨u0.heap.size, 2, none⟩ = some (.slice none 0 0) := by simp [World.cell?, hbx47]
             have hf472 : u46.frozen? ⟨u0.heap.size, 2, none⟩ = false := by simp [World.frozen?, hbx47]
             have HBF47 := Lib.hid (blk_set (blk_set (blk_set hbx47 0 (.int .i64 0)) 1 (.slice A n c)) 2 (.slice NN m c'))
             have HXF47 := Lib.hid (HXO46.out.keep (w' := ((u46.setCell ⟨u0.heap.size, 0, none⟩ (.int .i64 0)).setCell ⟨u0.heap.size, 1, none⟩ (.slice A n c)).setCell ⟨u0.heap.size, 2, none⟩ (.slice NN m c')) (((Only.set u46 u0.heap.size 0 (.int .i64 0) (X := fun b => b = u0.heap.size) rfl).trans ((Only.set _ u0.heap.size 1 (.slice A n c) (X := fun b => b = u0.heap.size) rfl).trans (Only.set _ u0.heap.size 2 (.slice NN m c') (X := fun b => b = u0.heap.size) rfl))).kept fun b hb e => by have hb1 := hb.1; have hb2 := hb.2; have hz0 := HSZ37.out; have hz1 := HSZ43.out; have hz2 := HSZ44.out; have hz3 := HSZ45.out; have hz4 := HSZ46.out; have hq0 := HL37.out; have hq1 := HL43.out; have hq2 := HL44.out; omega))
             have hge47 : w8.heap.size ≤ u0.heap.size := HL37.out.1
             have HBW47 := Lib.hid (((HH46.out.setCell (show w8.heap.size ≤ (⟨u0.heap.size, 0, none⟩ : Addr).block from hge47) (.int .i64 0)).setCell (show w8.heap.size ≤ (⟨u0.heap.size, 1, none⟩ : Addr).block from hge47) (.slice A n c)).setCell (show w8.heap.size ≤ (⟨u0.heap.size, 2, none⟩ : Addr).block from hge47) (.slice NN m c'))
             clear hbx47
             go_simp
             clear hc470 hf470 hc471 hf471 hc472 hf472
             refine hK.out _ _ (by obtain ⟨q0, q1, q2⟩ := HFAR.out _ HH46.out; obtain ⟨l0, l1, l2⟩ := HLO8.out; refine ⟨?_, ?_, ?_⟩ <;> (refine setOther _ (setOther _ (setOther _ (by assumption) ?_) ?_) ?_ <;> (simp only []; omega))) (fun _ => trivial) ?_
             clear hK K
             refine wpAnyL_pure (i := 19) rfl (by kernel_rfl) (fun _ _ _ h => h) (Or.inl ⟨by rfl, (fun u hu => by obtain ⟨k0, k1, k2⟩ := hu; go_simp; try rfl)⟩) (by obtain ⟨q0, q1, q2⟩ := HFAR.out _ HH46.out; obtain ⟨l0, l1, l2⟩ := HLO8.out; refine ⟨?_, ?_, ?_⟩ <;> (refine setOther _ (setOther _ (setOther _ (by assumption) ?_) ?_) ?_ <;> (simp only []; omega))) (fun _ => trivial) ?_
             simp only [Act.put, List.setIfInBounds_toArray, List.set_cons_zero, List.set_cons_succ, List.getElem_toArray, List.getElem_cons_zero, List.getElem_cons_succ]
             refine wpAnyL_done (by kernel_rfl) ?_ _
             go_wp2_with fail
             go_meet
             exact ⟨_, A, n, c, NN, m, c', bb, _, rfl, rfl, HBF47.out, hge47, HXF47.out, HBW47.out⟩
            exact AllL.nil
           exact AllL.nil
          exact AllL.nil
         exact AllL.nil
        exact AllL.nil
       exact AllL.nil
      case rest =>
       obtain ⟨Bx, A, n, c, NN, m, c', b, SX, rfl, rfl, hbx, hge, hxo, hbw⟩ := hcut
       obtain ⟨w9, rfl⟩ : ∃ w9 : World, w9 = wc := ⟨_, rfl⟩
       have HBX9 := Lib.hid hbx
       have HB89 := Lib.hid hbw
       have HS9 := Lib.hid (HS8.out.trans (Stp.of_only (X := fun _ => False) (FB := FB) (L := L) ⟨hbw.os, hbw.tape, hbw.output, hbw.size, fun b hb _ => hbw.block b hb⟩ fun _ h => h.elim))
       have hal := HALL.out _ _ HS9.out
       have HB9 := Lib.hid (show Below w.heap.size w w9 from HB6.out.trans (HS9.out.only.below (B := w.heap.size) (fun b e => by
        obtain ⟨f1, f2, f3, _, _⟩ := HLF.out
        obtain ⟨l1, l2, l3, l4, l5⟩ := HLOW.out
        rcases e with e | e | e | e
        ·
         omega
        ·
         omega
        ·
         omega
        ·
         exact e.elim) HB6.out.size))
       have HG9 := Lib.hid (HG.out.keep (Kept.belowB HB9.out fun b hb => hb.2))
       rcases hxo with ⟨rfl, hks⟩ | ⟨rfl, ks, accs, rows, hsA, hsN, hmid⟩
       ·
        have HKS := Lib.hid hks
        have hrb9 := hal.2.2
        have r0 : w9.cell? ⟨w.heap.size + 1, 0, none⟩ = some (.int .i64 0) := by simp [World.cell?, hrb9]
        have r1 : w9.cell? ⟨w.heap.size + 1, 1, none⟩ = some (.slice none 0 0) := by simp [World.cell?, hrb9]
        have r2 : w9.cell? ⟨w.heap.size + 1, 2, none⟩ = some (.slice none 0 0) := by simp [World.cell?, hrb9]
        have f0 : w9.frozen? ⟨w.heap.size + 1, 0, none⟩ = false := by simp [World.frozen?, hrb9]
        have f1 : w9.frozen? ⟨w.heap.size + 1, 1, none⟩ = false := by simp [World.frozen?, hrb9]
        have f2 : w9.frozen? ⟨w.heap.size + 1, 2, none⟩ = false := by simp [World.frozen?, hrb9]
        clear hrb9 hal hks hbx hge hbw hmk
        go_wp2_with fail
        refine bodyPost_ret (v := .tuple #[.agg #[.int .i64 0, .slice none 0 0, .slice none 0 0], .bool false, .int .i64 2]) (by simp [results, Tryz.results5, go_sem, r0, r1, r2, f0, f1, f2]) rfl ?_
        refine ⟨⟨L.cf, HCFL.out, .inl ⟨rfl, .inr ?_⟩⟩, ((HB9.out.setCell (by simp) _).setCell (by simp) _).setCell (by simp) _⟩
        rw [← HEE.out]
        exact HKS.out
       ·
        have HSA := Lib.hid hsA
        have HSN := Lib.hid hsN
        have HMID := Lib.hid hmid
        have HKD := Lib.hid (show ∀ u : World, Bst L u FB E → u.cell? ⟨Bb, 4, none⟩ = some (.slice (some ⟨B3, 0, none⟩) N N) ∧ ∀ j, j < N → u.cell? ⟨B3, j * 2, none⟩ = some (.int .i64 (L.cf (j : Int)).1) from fun u hu => by
         obtain ⟨a1, a2⟩ := HLG.out
         obtain ⟨f1, f2, f3, f4, f5⟩ := HLF.out
         refine ⟨?_, fun j hj => ?_⟩
         ·
          have h := hu.inn.box
          rw [f1] at h
          simp only [Bdr.box, a1, a2, f5] at h
          simp [World.cell?, h]
         ·
          have hs := hu.inn.of
          rw [a1, a2, f5] at hs
          obtain ⟨bc, oc, A', m', c'', r, e, _, _, h1, _, h3, _⟩ := comp_at hs hj
          injection e with e
          injection e with e1 e2
          subst e1 e2
          rw [Nat.zero_add] at h1
          rw [h1]
          simp only [Bdr.cf, Int.toNat_natCast, h3, Option.getD_some])
        have hb9 := HB8.out.belowK HK8.out HB89.out
        have HBL9 := Lib.hid hb9
        have p1 : w9.cell? ⟨Bp, 0, none⟩ = some (.pointer (some ⟨Bb, 0, none⟩)) := by simp [World.cell?, hal.1]
        have q4 := (HKD.out w9 hb9).1
        have kd := (HKD.out w9 hb9).2 s0 hs0
        obtain ⟨g0, g1, g2, g3⟩ := HCG.out w9 hal.2.1
        have hs0a : (0 : Int) ≤ (s0 : Int) := by omega
        have hs0b : (s0 : Int) < (N : Int) := by omega
        clear hal hbx hge hbw hsA hsN hmid hb9 hmk
        go_wp2_with fail
        go_quiet (fail)
        obtain ⟨w10, hw10⟩ : ∃ w10 : World, w10 = w9.drewN nq := ⟨_, rfl⟩
        rw [← hw10]
        have HB90 := Lib.hid (show Below w9.heap.size w9 w10 by rw [hw10]; exact belowN (Below.refl _ _) _)
        have HG10 := Lib.hid (HG9.out.keep (Kept.belowB HB90.out fun b hb => by have := HB9.out.size; omega))
        have HB10 := Lib.hid (HB9.out.trans (HB90.out.mono HB9.out.size))
        have HBG10 := Lib.hid ((HB90.out.block _ (heap_lt (HALL.out _ _ HS9.out).2.1)).trans (HALL.out _ _ HS9.out).2.1)
        obtain ⟨k0, k1, k2, k3⟩ := HCG.out w10 HBG10.out
        clear hw10 p1 q4 kd g0 g1 g2 g3
        go_upto_region 22 with fail
        refine wp_region_late (late := []) (S1 := fun u => u.cell? ⟨w.heap.size, 0, none⟩ = some (.int .i64 Tm) ∧ u.cell? ⟨w.heap.size, 1, none⟩ = some (.int .i64 (N : Int)) ∧ u.cell? ⟨w.heap.size, 2, none⟩ = some (.int .i64 (s0 : Int)) ∧ u.cell? ⟨w.heap.size, 3, none⟩ = some (.slice AR nR cR)) (S := fun _ => True) (by kernel_rfl) ?_
        clear k0 k1 k2 k3
        have HALG := Lib.hid (show ∀ u : World, Below w10.heap.size w10 u → u.cell? ⟨w.heap.size, 0, none⟩ = some (.int .i64 Tm) ∧ u.cell? ⟨w.heap.size, 1, none⟩ = some (.int .i64 (N : Int)) ∧ u.cell? ⟨w.heap.size, 2, none⟩ = some (.int .i64 (s0 : Int)) ∧ u.cell? ⟨w.heap.size, 3, none⟩ = some (.slice AR nR cR) from fun u hu => HCG.out u ((hu.block _ (heap_lt HBG10.out)).trans HBG10.out))
        have HDR := Lib.hid (Below.refl w10.heap.size w10).drew
        refine wpAnyL_pure (i := 0) rfl (by kernel_rfl) (fun _ _ _ h => h) (Or.inl ⟨by rfl, (fun u hu => by obtain ⟨k0, k1, k2, k3⟩ := hu; go_simp; try rfl)⟩) (HALG.out _ HDR.out) (fun _ => trivial) ?_
        simp only [Act.put, List.setIfInBounds_toArray, List.set_cons_zero, List.set_cons_succ, List.getElem_toArray, List.getElem_cons_zero, List.getElem_cons_succ]
        refine wpAnyL_pure (i := 2) rfl (by kernel_rfl) (fun _ _ _ h => h) (Or.inl ⟨by rfl, (fun u hu => by obtain ⟨k0, k1, k2, k3⟩ := hu; go_simp; try rfl)⟩) (HALG.out _ HDR.out) (fun _ => trivial) ?_
        simp only [Act.put, List.setIfInBounds_toArray, List.set_cons_zero, List.set_cons_succ, List.getElem_toArray, List.getElem_cons_zero, List.getElem_cons_succ]
        refine wpAnyL_pure (i := 3) rfl (by kernel_rfl) (fun _ _ _ h => h) (Or.inl ⟨by rfl, (fun u hu => by obtain ⟨k0, k1, k2, k3⟩ := hu; go_simp; try rfl)⟩) (HALG.out _ HDR.out) (fun _ => trivial) ?_
        simp only [Act.put, List.setIfInBounds_toArray, List.set_cons_zero, List.set_cons_succ, List.getElem_toArray, List.getElem_cons_zero, List.getElem_cons_succ]
        refine wpAnyL_pure (i := 7) rfl (by kernel_rfl) (fun _ _ _ h => h) (Or.inl ⟨by rfl, (fun u hu => by obtain ⟨k0, k1, k2, k3⟩ := hu; go_simp; try rfl)⟩) (HALG.out _ HDR.out) (fun _ => trivial) ?_
        simp only [Act.put, List.setIfInBounds_toArray, List.set_cons_zero, List.set_cons_succ, List.getElem_toArray, List.getElem_cons_zero, List.getElem_cons_succ]
        refine wpAnyL_ready (rs := [1]) (by kernel_rfl) (by simp) ?_
        refine AllL.cons rfl (fun K hK => ?_) ?_
        ·
         refine step_calls 20 #[.agg #[.int .i64 Tm, .int .i64 (N : Int), .int .i64 (s0 : Int), .slice AR nR cR]] rfl (by kernel_rfl) (apxDerives w10.drew _ AR nR cR Tm N s0 R HG10.out.drew HRN.out HLE.out hN1 hN2 hnR) ?_
         rintro e w11 ⟨⟨H0, hH0, rfl, hgr, hzz⟩, hb11⟩
         have HB11 := Lib.hid (HDR.out.trans hb11)
         have HGR := Lib.hid hgr
         have HZZ := Lib.hid hzz
         have HH0 := Lib.hid hH0
         clear hgr hb11 hzz hH0
         refine ⟨_, rfl, ?_⟩
         simp only [Act.put, List.setIfInBounds_toArray, List.set_cons_zero, List.set_cons_succ, List.getElem_toArray, List.getElem_cons_zero, List.getElem_cons_succ]
         refine hK.out _ _ (HALG.out _ HB11.out) (fun _ => trivial) ?_
         clear hK K
         refine wpAnyL_pure (i := 4) rfl (by kernel_rfl) (fun _ _ _ h => h) (Or.inl ⟨by rfl, (fun u hu => by obtain ⟨k0, k1, k2, k3⟩ := hu; go_simp; try rfl)⟩) (HALG.out _ HB11.out) (fun _ => trivial) ?_
         simp only [Act.put, List.setIfInBounds_toArray, List.set_cons_zero, List.set_cons_succ, List.getElem_toArray, List.getElem_cons_zero, List.getElem_cons_succ]
         refine wpAnyL_ready (rs := [5]) (by kernel_rfl) (by simp) ?_
         refine AllL.cons rfl (fun K hK => ?_) ?_
         ·
          have hrow := HGR.out.hdr s0 hs0
          go_simp
          clear hrow
          refine hK.out _ _ (HALG.out _ HB11.out) (fun _ => trivial) ?_
          clear hK K
          refine wpAnyL_ready (rs := [6]) (by kernel_rfl) (by simp) ?_
          refine AllL.cons rfl (fun K hK => ?_) ?_
          ·
           go_simp
           refine hK.out _ _ (HALG.out _ HB11.out) (fun _ => trivial) ?_
           clear hK K
           refine wpAnyL_done (by kernel_rfl) ?_ _
           have HB9b := Lib.hid (HB90.out.trans (HB11.out.mono HB90.out.size))
           have HBL11 := Lib.hid (HBL9.out.below HB9b.out)
           have HS11 := Lib.hid (HS9.out.trans (Stp.below (FB := FB) (L := L) HB9b.out))
           have HBW11 := Lib.hid (show Below w.heap.size w w11 from HB10.out.trans (HB11.out.mono HB10.out.size))
           have hal := HALL.out _ _ HS11.out
           have HRB11 := Lib.hid hal.2.2
           have HKC := Lib.hid (show ∀ j, j < N → w11.cell? ⟨H0 + 1 + s0, j, none⟩ = some (.bool (war (edgN R) N s0 j)) ∧ w11.cell? ⟨B3, j * 2, none⟩ = some (.int .i64 (L.cf (j : Int)).1) from fun j hj => ⟨HGR.out.cell hs0 hj, (HKD.out w11 HBL11.out).2 j hj⟩)
           have p1 : w11.cell? ⟨Bp, 0, none⟩ = some (.pointer (some ⟨Bb, 0, none⟩)) := by simp [World.cell?, hal.1]
           have q4 := (HKD.out w11 HBL11.out).1
           clear hal
           go_wp2_with fail
           go_loopg [15, 113] N (fun gk v15 v113 wr => ∃ j : Nat, j ≤ N ∧ gk = N - j ∧ v15 = .bool (exB R N L.cf s0 j) ∧ v113 = .int .i64 j ∧ wr = w11)
           case atStart => exact ⟨0, Nat.zero_le _, rfl, by simp [exB], rfl, rfl⟩
           case round =>
            obtain ⟨j, hj, hgk, rfl, rfl, rfl⟩ := hrel
            obtain ⟨w11, rfl⟩ : ∃ w11 : World, w11 = wr := ⟨_, rfl⟩
            have HGK := Lib.hid hgk
            clear hgk
            by_cases hlt : j < N
            ·
             have hjI : (j : Int) < (N : Int) := by omega
             have hj0 : (0 : Int) ≤ (j : Int) := by omega
             obtain ⟨kw, kc⟩ := HKC.out j hlt
             have HSU := Lib.hid (exB_succ R N L.cf s0 j)
             have hrd : ∀ x y : Bool, exB R N L.cf s0 j = x → war (edgN R) N s0 j = y → True := fun _ _ _ _ => trivial
             clear hrd
             by_cases hex : exB R N L.cf s0 j = true
             ·
              by_cases hwr : war (edgN R) N s0 j = true
              ·
               rw [hwr] at kw
               rw [hex]
               have HE1 := Lib.hid (show exB R N L.cf s0 (j + 1) = ((L.cf (j : Int)).1 != 2) by rw [HSU.out, hex, hwr]; simp)
               clear hex hwr
               go_wp2_with fail
               go_roundg (N - (j + 1))
               case measure => rw [HGK.out]; omega
               case rel => exact ⟨j + 1, by omega, rfl, by rw [HE1.out], by go_num, rfl⟩
              ·
               have hwr' : war (edgN R) N s0 j = false := by simpa using hwr
               rw [hwr'] at kw
               rw [hex]
               have HE1 := Lib.hid (show exB R N L.cf s0 (j + 1) = true by rw [HSU.out, hex, hwr']; simp)
               clear hex hwr hwr'
               go_wp2_with fail
               go_roundg (N - (j + 1))
               case measure => rw [HGK.out]; omega
               case rel => exact ⟨j + 1, by omega, rfl, by rw [HE1.out], by go_num, rfl⟩
             ·
              have hex' : exB R N L.cf s0 j = false := by simpa using hex
              rw [hex']
              have HE1 := Lib.hid (show exB R N L.cf s0 (j + 1) = false by rw [HSU.out, hex']; simp)
              clear hex hex'
              go_wp2_with fail
              go_roundg (N - (j + 1))
              case measure => rw [HGK.out]; omega
              case rel => exact ⟨j + 1, by omega, rfl, by rw [HE1.out], by go_num, rfl⟩
            ·
             obtain rfl : N = j := by omega
             have HBX11 := Lib.hid ((HB9b.out.block _ (heap_lt HBX9.out)).trans HBX9.out)
             have hbx := HBX11.out
             have x0 : w11.cell? ⟨Bx, 0, none⟩ = some (.int .i64 0) := by simp [World.cell?, hbx]
             have x1 : w11.cell? ⟨Bx, 1, none⟩ = some (.slice A n c) := by simp [World.cell?, hbx]
             have x2 : w11.cell? ⟨Bx, 2, none⟩ = some (.slice NN m c') := by simp [World.cell?, hbx]
             have hxk := HSA.out.fit
             have hxl := HSN.out.fit
             have HSA2 := Lib.hid (hxk.keep (Kept.belowB HB9b.out fun b hb => hb.2))
             have HSN2 := Lib.hid (hxl.keep (Kept.belowB HB9b.out fun b hb => hb.2))
             have HAX := Lib.hid (show ApxA E Tm.toNat Tm.toNat accs rows from ⟨HEF.out.1, by have := HEF.out.2.1; omega, ⟨ks, HMID.out⟩, by have := HV.out.t1; simp only at this; omega, by have := HV.out.t2; simp only at this; omega⟩)
             clear hbx hxk hxl p1 q4
             go_wp2_with fail
             refine (dfaCanon w11 _ A n c NN m c' (ExD accs rows) HSA2.out HSN2.out HAX.out.valid.1 (fun x hx => by have := HAX.out.small x hx; omega)).mono ?_
             rintro e w12 ⟨⟨A', nA', cA', N', n', cN', rfl, hA', hN'⟩, hb12⟩
             have HA12 := Lib.hid hA'
             have HN12 := Lib.hid hN'
             have HB12 := Lib.hid (HBW11.out.trans (hb12.mono HBW11.out.size))
             have HZ12 := Lib.hid (show w.heap.size + 1 < w11.heap.size from heap_lt HRB11.out)
             have hrb12 := (hb12.block _ (heap_lt HRB11.out)).trans HRB11.out
             have r0 : w12.cell? ⟨w.heap.size + 1, 0, none⟩ = some (.int .i64 0) := by simp [World.cell?, hrb12]
             have r1 : w12.cell? ⟨w.heap.size + 1, 1, none⟩ = some (.slice none 0 0) := by simp [World.cell?, hrb12]
             have r2 : w12.cell? ⟨w.heap.size + 1, 2, none⟩ = some (.slice none 0 0) := by simp [World.cell?, hrb12]
             have f0 : w12.frozen? ⟨w.heap.size + 1, 0, none⟩ = false := by simp [World.frozen?, hrb12]
             have f1 : w12.frozen? ⟨w.heap.size + 1, 1, none⟩ = false := by simp [World.frozen?, hrb12]
             have f2 : w12.frozen? ⟨w.heap.size + 1, 2, none⟩ = false := by simp [World.frozen?, hrb12]
             clear hrb12 hA' hN' hb12 x0 x1 x2
             go_wp2_with fail
             refine bodyPost_ret (v := .tuple #[.agg #[.int .i64 0, .slice A' nA' cA', .slice N' n' cN'], .bool (exB R N L.cf s0 N), .int .i64 0]) (by simp [results, Tryz.results5, go_sem, r0, r1, r2, f0, f1, f2]) rfl ?_
             have hkp := ((Only.set w12 (w.heap.size + 1) 0 (.int .i64 0) (X := fun b => b = w.heap.size + 1) rfl).trans ((Only.set _ (w.heap.size + 1) 1 (.slice A' nA' cA') (X := fun b => b = w.heap.size + 1) rfl).trans (Only.set _ (w.heap.size + 1) 2 (.slice N' n' cN') (X := fun b => b = w.heap.size + 1) rfl)))
             refine ⟨⟨L.cf, HCFL.out, .inr ⟨accs, rows, exB R N L.cf s0 N, A', nA', cA', N', n', cN', rfl, by rw [← HEE.out]; exact HAX.out, exB_iff HCFL.out s0, (HA12.out.keep (hkp.kept fun b hb e => ?_)).more fun b hb => ?_, (HN12.out.keep (hkp.kept fun b hb e => ?_)).more fun b hb => ?_⟩⟩, ((HB12.out.setCell (by simp) _).setCell (by simp) _).setCell (by simp) _⟩
             all_goals (have := HZ12.out; omega)
          exact AllL.nil
         exact AllL.nil
        exact AllL.nil
 case hs =>
  rintro f a u i oi hI0 ho hf hd
  have hi14 : i < 14 := by
   rcases Nat.lt_or_ge i 14 with h | h
   ·
    exact h
   ·
    rw [Array.getElem?_eq_none (by simpa using h)] at ho; cases ho
  rcases hI0 with ⟨h13, hs, hI⟩ | ⟨hall, _⟩
  rotate_left
  ·
   rw [hall i hi14] at hf; cases hf
  have hbg : u.heap[w.heap.size]? = _ := (hI.below.block _ hz2).trans HBG2.out
  obtain ⟨g0, g1, g2, g3⟩ := HCG.out u hbg
  have h1 := hs.old 1 (by decide)
  simp at h1
  have hcase : i = 0 ∨ i = 1 ∨ i = 2 ∨ i = 3 ∨ i = 4 ∨ i = 5 ∨ i = 6 ∨ i = 7 ∨ i = 8 ∨ i = 9 ∨ i = 10 ∨ i = 11 ∨ i = 12 ∨ i = 13 := by omega
  rcases hcase with rfl | rfl | rfl | rfl | rfl | rfl | rfl | rfl | rfl | rfl | rfl | rfl | rfl | rfl
  ·
   obtain rfl := Option.some.inj ho
   refine StepI.run (v := .agg #[.int .i64 Tm, .int .i64 (N : Int), .int .i64 (s0 : Int), .slice AR nR cR]) (w2 := u) rfl ?_ (.inl ⟨(upd_old (by decide)).trans h13, I4.put hs (by rfl) (by decide) (hI.step 0 (by omega) hf (Below.refl _ _) _ (n0 := fun _ => rfl))⟩)
   go_simp
  ·
   obtain rfl := Option.some.inj ho
   refine StepI.run (v := .pointer (some ⟨w.heap.size, 1, none⟩)) (w2 := u) rfl ?_ (.inl ⟨(upd_old (by decide)).trans h13, I4.put hs (by rfl) (by decide) (hI.step 1 (by omega) hf (Below.refl _ _) _ (n1 := fun _ => rfl))⟩)
   go_simp
  ·
   obtain rfl := Option.some.inj ho
   have h25 := hI.o1 (dep_of hd 1 (by kernel_rfl))
   simp only [Array.getD_eq_getD_getElem?] at h25
   refine StepI.run (v := .int .i64 (N : Int)) (w2 := u) rfl ?_ (.inl ⟨(upd_old (by decide)).trans h13, I4.put hs (by rfl) (by decide) (hI.step 2 (by omega) hf (Below.refl _ _) _ (n2 := fun _ => rfl))⟩)
   go_simp
  ·
   obtain rfl := Option.some.inj ho
   have h26 := hI.o2 (dep_of hd 2 (by kernel_rfl))
   simp only [Array.getD_eq_getD_getElem?] at h26
   refine StepI.run (v := .slice (some ⟨u.heap.size, 0, none⟩) N N) (w2 := u.alloc (.cells (madeCells #[.int .i64 0, .slice none 0 0] (N * 2)) 57)) rfl ?_ (.inl ⟨(upd_old (by decide)).trans h13, I4.put hs (by rfl) (by decide) (hI.step 3 (by omega) hf ((Below.refl _ _).alloc (Nat.le_refl _) _) _ (n3 := fun _ => ⟨_, rfl, hI.below.size, heap_alloc_new _ _⟩))⟩)
   go_simp
  ·
   obtain rfl := Option.some.inj ho
   refine StepI.run (v := .slice (some ⟨u.heap.size, 0, none⟩) 1 1) (w2 := u.alloc (.cells #[.int .i64 (-1)] 3)) rfl ?_ (.inl ⟨(upd_old (by decide)).trans h13, I4.put hs (by rfl) (by decide) (hI.step 4 (by omega) hf ((Below.refl _ _).alloc (Nat.le_refl _) _) _ (n4 := fun _ => ⟨_, rfl, (World.cell?_alloc_at _ _ _ _ rfl).trans rfl⟩))⟩)
   go_simp
  ·
   obtain rfl := Option.some.inj ho
   refine StepI.run (v := .pointer (some ⟨w.heap.size, 1, none⟩)) (w2 := u) rfl ?_ (.inl ⟨(upd_old (by decide)).trans h13, I4.put hs (by rfl) (by decide) (hI.step 5 (by omega) hf (Below.refl _ _) _ (n5 := fun _ => rfl))⟩)
   go_simp
  ·
   obtain rfl := Option.some.inj ho
   have h29 := hI.o5 (dep_of hd 5 (by kernel_rfl))
   simp only [Array.getD_eq_getD_getElem?] at h29
   refine StepI.run (v := .int .i64 (N : Int)) (w2 := u) rfl ?_ (.inl ⟨(upd_old (by decide)).trans h13, I4.put hs (by rfl) (by decide) (hI.step 6 (by omega) hf (Below.refl _ _) _ (n6 := fun _ => rfl))⟩)
   go_simp
  ·
   obtain rfl := Option.some.inj ho
   obtain ⟨B, h28, hcb⟩ := hI.o4 (dep_of hd 4 (by kernel_rfl))
   have h30 := hI.o6 (dep_of hd 6 (by kernel_rfl))
   simp only [Array.getD_eq_getD_getElem?] at h28 h30
   refine StepI.call (F := 11) (args := #[.slice (some ⟨B, 0, none⟩) 1 1, .int .i64 (N : Int)]) (w2 := u) rfl ?_ (repeatInt u B (-1) N hN1 (by omega) hcb) ?_
   ·
    have heR := entersRepeat
    go_simp
   ·
    rintro e u' ⟨v, rfl, ho7, hb7⟩
    exact ⟨v, rfl, .inl ⟨(upd_old (by decide)).trans h13, I4.put hs (by rfl) (by decide) (hI.step 7 (by omega) hf hb7 _ (n7 := fun _ => ho7.mono hI.below.size))⟩⟩
  ·
   obtain rfl := Option.some.inj ho
   refine StepI.run (v := .map (some u.heap.size)) (w2 := u.alloc (.map #[] 0)) rfl ?_ (.inl ⟨(upd_old (by decide)).trans h13, I4.put hs (by rfl) (by decide) (hI.step 8 (by omega) hf ((Below.refl _ _).alloc (Nat.le_refl _) _) _ (n8 := fun _ => ⟨rfl, heap_alloc_new _ _⟩))⟩)
   go_simp
  ·
   obtain rfl := Option.some.inj ho
   refine StepI.run (v := .map (some u.heap.size)) (w2 := u.alloc (.map #[] 0)) rfl ?_ (.inl ⟨(upd_old (by decide)).trans h13, I4.put hs (by rfl) (by decide) (hI.step 9 (by omega) hf ((Below.refl _ _).alloc (Nat.le_refl _) _) _ (n9 := fun _ => ⟨rfl, heap_alloc_new _ _⟩))⟩)
   go_simp
  ·
   obtain rfl := Option.some.inj ho
   have a0 := dep_of hd 0 (by kernel_rfl)
   have a3 := dep_of hd 3 (by kernel_rfl)
   have a7 := dep_of hd 7 (by kernel_rfl)
   have a8 := dep_of hd 8 (by kernel_rfl)
   have a9 := dep_of hd 9 (by kernel_rfl)
   have h24 := hI.o0 a0
   obtain ⟨B3, h27, _⟩ := hI.o3 a3
   obtain ⟨A7, c7, h31, _⟩ := (hI.o7 a7).form
   obtain ⟨B8, h32, _⟩ := hI.o8 a8
   obtain ⟨B9, h33, _⟩ := hI.o9 a9
   refine StepI.run (v := .agg #[.int .i64 Tm, .int .i64 (N : Int), .int .i64 (s0 : Int), .slice AR nR cR, .slice (some ⟨B3, 0, none⟩) N N, .slice A7 N c7, .int .i64 0, .map (some B8), .map (some B9)]) (w2 := u) rfl ?_ (.inl ⟨(upd_old (by decide)).trans h13, I4.put hs (by rfl) (by decide) (hI.step 10 (by omega) hf (Below.refl _ _) _ (n10 := fun _ => ⟨⟨a0, a3, a7, a8, a9⟩, by rw [h27, h31, h32, h33]⟩))⟩)
   simp only [Array.getD_eq_getD_getElem?] at h24 h27 h31 h32 h33
   go_simp
  ·
   obtain rfl := Option.some.inj ho
   have a10 := dep_of hd 10 (by kernel_rfl)
   obtain ⟨a0, a3, a7, a8, a9⟩ := hI.d10 a10
   obtain ⟨B3, h27, _⟩ := hI.o3 a3
   obtain ⟨A7, c7, h31, _⟩ := (hI.o7 a7).form
   obtain ⟨B8, h32, _⟩ := hI.o8 a8
   obtain ⟨B9, h33, _⟩ := hI.o9 a9
   have h34 := hI.o10 a10
   rw [h27, h31, h32, h33] at h34
   refine StepI.run (v := .pointer (some ⟨u.heap.size, 0, none⟩)) (w2 := u.alloc (.cells #[.int .i64 Tm, .int .i64 (N : Int), .int .i64 (s0 : Int), .slice AR nR cR, .slice (some ⟨B3, 0, none⟩) N N, .slice A7 N c7, .int .i64 0, .map (some B8), .map (some B9)] 54)) rfl ?_ (.inl ⟨(upd_old (by decide)).trans h13, I4.put hs (by rfl) (by decide) (hI.step 11 (by omega) hf ((Below.refl _ _).alloc (Nat.le_refl _) _) _ (n11 := fun _ => ⟨a10, _, rfl, hI.below.size, by rw [h27, h31, h32, h33]; exact heap_alloc_new _ _⟩))⟩)
   simp only [Array.getD_eq_getD_getElem?] at h34
   go_simp
  ·
   obtain rfl := Option.some.inj ho
   refine StepI.run (v := .pointer (some ⟨u.heap.size, 0, none⟩)) (w2 := u.alloc (.cells #[.pointer none] 48)) rfl ?_ (.inl ⟨(upd_old (by decide)).trans h13, I4.put hs (by rfl) (by decide) (hI.step 12 (by omega) hf ((Below.refl _ _).alloc (Nat.le_refl _) _) _ (n12 := fun _ => ⟨_, rfl, hI.below.size, heap_alloc_new _ _⟩))⟩)
   go_simp
  ·
   obtain rfl := Option.some.inj ho
   have hall : ∀ j, j < 13 → f j = true := fun j hj => by
    have hc : j = 0 ∨ j = 1 ∨ j = 2 ∨ j = 3 ∨ j = 4 ∨ j = 5 ∨ j = 6 ∨ j = 7 ∨ j = 8 ∨ j = 9 ∨ j = 10 ∨ j = 11 ∨ j = 12 := by omega
    rcases hc with rfl | rfl | rfl | rfl | rfl | rfl | rfl | rfl | rfl | rfl | rfl | rfl | rfl
    all_goals exact dep_of hd _ (by kernel_rfl)
   obtain ⟨Bb, Bp, h35, h6, hcp, hfp, hfin⟩ := hI.fin hN1 hall
   have HFN := Lib.hid (show I4e _ w2.drew Tm (N : Int) (s0 : Int) AR nR cR N w.heap.size (fun j => if j = 13 then true else f j) a (u.setCell ⟨Bp, 0, none⟩ (.pointer (some ⟨Bb, 0, none⟩))) from .inr ⟨fun j hj => by
    by_cases e : j = 13
    ·
     simp [e]
    ·
     simp only [if_neg e]
     exact hall j (by omega), hs, hfin⟩)
   simp only [Array.getD_eq_getD_getElem?] at h35 h6
   clear hfin hI hs
   intro K' hK'
   go_simp
   exact hK'.out _ _ HFN.out
end Go.Proofs.YtocbkccchnbmaaaGreat
