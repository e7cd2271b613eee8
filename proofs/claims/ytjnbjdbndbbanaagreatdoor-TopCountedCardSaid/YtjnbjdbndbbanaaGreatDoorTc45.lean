/- Build -/
import Derived.Test.YtjnbjdbndbbanaaGreatDoorTc31
import Derived.Test.YtjnbjdbndbbanaaGreatDoorTc44
namespace Go.Proofs.YtjnbjdbndbbanaaGreatDoor
open Go.RowKit Go.Maps
structure BdC where
 g : GramD
 AR : Option Addr
 nR : Nat
 cR : Nat
 Sg : Nat → Prop
 Aw : Option Addr
 nw : Nat
 cw : Nat
 ws : List Int
 Sw : Nat → Prop
 lo : Nat
 hi : Nat
 gN : Nat
 gs : Nat → Nat
 E : Nat → Nat → Nat
 most : Nat
structure BdC.Ok (C : BdC) : Prop where
 hv : GValid C.g
 nw4 : C.nw ≤ 12
 mo : C.most ≤ 1099511627776
 wl : C.ws.length = C.nw
 wb : ∀ c ∈ C.ws, 0 ≤ c ∧ c < 16
 hE : ∀ a i, C.E a i < 2 ^ (C.nw + 1)
 sn : SoundW C.g.2.2.2 C.ws (nonsOf C.g) C.E
 cl : ClosedW C.g.2.2.2 C.ws C.E
structure BdIn (C : BdC) (u : World) : Prop where
 tb : Tab u
 rg : Sl RRule u C.Sg C.AR C.nR C.cR C.g.2.2.2
 rw : Rd u C.Sw 1 C.Aw C.nw (C.ws.map (Value.int .i64))
 gr : Grid mV 99 u C.lo C.hi C.gN C.gs (nonsOf C.g) (C.nw + 1) C.E
 hi : C.hi ≤ u.heap.size
theorem BdIn.below {C : BdC} {u u' : World} (h : BdIn C u) (hb : Below u.heap.size u u') : BdIn C u' :=
 ⟨h.tb.below hb (by have := h.tb.1; omega), h.rg.below hb, h.rw.below hb, h.gr.below hb h.hi, Nat.le_trans h.hi hb.size⟩
def BdC.start (C : BdC) : Nat := C.g.2.2.1.toNat
abbrev BdC.root (C : BdC) : KeyD := ((false, (C.start : Int)), 0, C.nw)
theorem BdC.Ok.rn {C : BdC} (h : C.Ok) : RulesN (nonsOf C.g) C.g.2.2.2 := rulesN_of h.hv
theorem BdC.Ok.n10 {C : BdC} (h : C.Ok) : nonsOf C.g ≤ 10 := by have := h.hv.n2; unfold nonsOf; omega
theorem BdC.Ok.kb {C : BdC} (h : C.Ok) {x : KeyD} (hx : DerK C.g.2.2.2 C.ws x) : KB x := hx.kb h.rn (by have := h.n10; omega) h.wb (by rw [h.wl]; have := h.nw4; omega)
theorem BdC.Ok.few {C : BdC} (h : C.Ok) {L : List KeyD} (hd : L.Nodup) (hL : ∀ x ∈ L, DerK C.g.2.2.2 C.ws x) : L.length ≤ 8192 := keysK_few hd fun x hx => h.kb (hL x hx)
noncomputable def sumPk (R : List RuleD) (ws : List Int) (L : List KeyD) : Nat := (L.map fun x => (packsP R ws x).length).sum
theorem sumPk_take {R : List RuleD} {ws : List Int} {L : List KeyD} {i : Nat} {k : KeyD} (h : L[i]? = some k) : sumPk R ws (L.take (i + 1)) = sumPk R ws (L.take i) + (packsP R ws k).length := by
 unfold sumPk
 rw [List.take_add_one, h, Option.toList_some, List.map_append, List.sum_append]
 simp
theorem sumPk_le {R : List RuleD} {ws : List Int} {c : Nat} : ∀ {L : List KeyD}, (∀ x ∈ L, (packsP R ws x).length ≤ c) → sumPk R ws L ≤ L.length * c
 | [], _ => by simp [sumPk]
 | x :: L, h => by
  have h1 := h x (by simp)
  have h2 := sumPk_le (L := L) fun y hy => h y (by simp [hy])
  unfold sumPk at h2 ⊢
  rw [List.map_cons, List.sum_cons, List.length_cons, Nat.succ_mul]
  omega
def BdR (C : BdC) (z : Nat) (e : Ending) (w' : World) : Prop :=
 (¬ DerW C.g.2.2.2 C.ws [(false, (C.start : Int))] 0 C.nw ∧ e = .returned (.tuple #[.agg #[.slice none 0 0, .int .i64 (-1)], .bool true])) ∨
 (DerW C.g.2.2.2 C.ws [(false, (C.start : Int))] 0 C.nw ∧ ∃ (F : Nat → Prop) (v : Value) (L : List KeyD), e = .returned (.tuple #[.agg #[v, .int .i64 (ixK L C.root : Int)], .bool true]) ∧ GL RNode 106 w' F v (L.map (nodeZ C.g.2.2.2 C.ws L)) ∧ FoX C.g.2.2.2 C.ws C.root L ∧ L.length ≤ 8192 ∧ ∀ b, F b → z ≤ b) ∨
 (∃ L : List KeyD, L.Nodup ∧ (∀ x ∈ L, DerK C.g.2.2.2 C.ws x) ∧ C.most < sumPk C.g.2.2.2 C.ws L ∧ e = .returned (.tuple #[.agg #[.slice none 0 0, .int .i64 0], .bool false]))
theorem gramNB (a : Int) (w : World) : Calls Tryz.prog 23 #[.int .i64 a] w fun e w' => e = .returned (.agg #[.bool false, .int .i64 a]) ∧ Below w.heap.size w w' := by
 go_enter Tryz.func23, Tryz.ntmps23
 go_wp2_with fail
 exact Go.bodyPost_ret (v := .agg #[.bool false, .int .i64 a]) (by simp [results, Tryz.results23, go_sem]) rfl ⟨rfl, (Below.refl _ _).alloc (Nat.le_refl _) _⟩
theorem bit_val0 {X n : Nat} (hX : X < 4294967296) : (bits .and .u32 ((X : Int) / (2 : Int) ^ n) 1 == 0) = !X.testBit n := by
 have e : (X : Int) / (2 : Int) ^ n = ((X / 2 ^ n : Nat) : Int) := by simp
 have h1 : X / 2 ^ n < 4294967296 := Nat.lt_of_le_of_lt (Nat.div_le_self _ _) hX
 rw [e, show (1 : Int) = ((1 : Nat) : Int) from rfl, u32_and_nat _ _ h1 (by decide), Nat.and_one_is_mod, Nat.testBit_eq_decide_div_mod_eq]
 have hq : X / 2 ^ n % 2 < 2 := Nat.mod_lt _ (by decide)
 generalize X / 2 ^ n % 2 = q at hq ⊢
 rw [Bool.eq_iff_iff]
 simp
 omega
theorem packs_few {C : BdC} (hC : C.Ok) {x : KeyD} (h : x.2.2 ≤ C.nw) : (packsP C.g.2.2.2 C.ws x).length ≤ 1000000 := by
 have h1 := pkT_len (R := C.g.2.2.2) (ws := C.ws) (x := x) (by have := hC.nw4; omega) (fun r hr => (hC.hv.rules r hr).2.1) C.g.2.2.2.length (Nat.le_refl _)
 rw [pkT_all (Nat.le_refl _)] at h1
 have := hC.hv.rl
 omega
theorem splP_kids {R : List RuleD} {ws : List Int} : ∀ {l : List SymD} {i j : Nat} {ks : List KeyD}, ks ∈ splP R ws l i j → ks.length = l.length
 | [], i, j, ks, h => by
  unfold splP at h
  split at h
  · rw [List.mem_singleton.1 h]; rfl
  cases h
 | s :: l, i, j, ks, h => by
  obtain ⟨k, ks', _, _, _, h3, rfl⟩ := mem_splP_cons.1 h
  rw [List.length_cons, List.length_cons, splP_kids h3]
theorem packs_kids {C : BdC} (hC : C.Ok) {x : KeyD} {p : Nat × List KeyD} (h : p ∈ packsP C.g.2.2.2 C.ws x) : p.2.length ≤ 4 := by
 obtain ⟨_, r, hr, _, h3⟩ := mem_packsP.1 h
 rw [splP_kids h3]
 exact (hC.hv.rules r (List.mem_of_getElem? hr)).2.1
theorem packsAt {C : BdC} (hC : C.Ok) {u : World} (h : BdIn C u) (key : KeyD) (hk : DerK C.g.2.2.2 C.ws key) :
    Calls Tryz.prog 69 #[.agg #[.int .i64 C.g.1, .int .i64 C.g.2.1, .int .i64 C.g.2.2.1, .slice C.AR C.nR C.cR], .slice C.Aw C.nw C.cw, .slice (some ⟨C.gN, 0, none⟩) (nonsOf C.g) (nonsOf C.g), .agg #[.bool key.1.1, .int .i64 key.1.2, .int .i64 (key.2.1 : Int), .int .i64 (key.2.2 : Int)]] u fun e w' =>
     (∃ (F : Nat → Prop) (A : Option Addr) (c : Nat), e = .returned (.slice A (packsP C.g.2.2.2 C.ws key).length c) ∧ Sl RCPk w' F A (packsP C.g.2.2.2 C.ws key).length c (packsP C.g.2.2.2 C.ws key) ∧ ∀ b, F b → u.heap.size ≤ b ∧ b < w'.heap.size) ∧ Below u.heap.size u w' := by
 have h1 := hk.1.le.1
 have h2 := hk.2
 rw [hC.wl] at h2
 refine (corePacks u h.tb _ _ C.AR C.nR C.cR C.g h.rg hC.hv C.Aw C.nw C.cw C.ws h.rw hC.nw4 C.lo C.hi C.gN C.gs C.E h.gr h.hi hC.hE hC.sn hC.cl key (by omega) h2).mono ?_
 rintro e w' ⟨⟨F, v, rfl, hg, hF⟩, hb⟩
 obtain ⟨A, c, rfl, _⟩ := hg.form
 exact ⟨⟨_, A, c, rfl, hg.fit.sl, fun b hb => ⟨hF b hb.1, hb.2⟩⟩, hb⟩
set_option linter.unusedSimpArgs false in
set_option maxRecDepth 1000000 in
set_option maxHeartbeats 8000000 in
theorem coreBuild (C : BdC) (hC : C.Ok) (w : World) (hin : BdIn C w) :
    Calls Tryz.prog 47 #[.agg #[.int .i64 C.g.1, .int .i64 C.g.2.1, .int .i64 C.g.2.2.1, .slice C.AR C.nR C.cR], .slice C.Aw C.nw C.cw, .slice (some ⟨C.gN, 0, none⟩) (nonsOf C.g) (nonsOf C.g), .int .i64 (C.most : Int)] w fun e w' => BdR C w.heap.size e w' ∧ Below w.heap.size w w' := by
 obtain ⟨st, hst, hstN⟩ : ∃ st : Nat, C.g.2.2.1 = (st : Int) ∧ st < nonsOf C.g := ⟨C.g.2.2.1.toNat, by have := hC.hv.st; omega, by have := hC.hv.st; unfold nonsOf; omega⟩
 have hstS : C.start = st := by unfold BdC.start; omega
 obtain ⟨N, hN⟩ := zE (nonsOf C.g)
 have hnw4 := hC.nw4
 have HC := zh hC
 have HIN := zh hin
 have HN := zh hN
 have HST := zh hst
 have HSS := zh hstS
 rw [← hN, hst]
 rw [← hN] at hstN
 have hstI : (st : Int) < (N : Int) := by omega
 have hst0 : (0 : Int) ≤ (st : Int) := by omega
 obtain ⟨B0, hB0⟩ := zE w.heap.size
 obtain ⟨w2, hw2⟩ : ∃ w2 : World, w2 = (w.alloc (.cells #[.int .i64 C.g.1, .int .i64 C.g.2.1, .int .i64 (st : Int), .slice C.AR C.nR C.cR] 25)).alloc (.cells #[.slice none 0 0, .int .i64 0] 38) := ⟨_, rfl⟩
 have HW2 := zh hw2
 have HB0 := zh hB0
 clear hC hin hN hst hstS hw2 hB0
 go_enter Tryz.func47, Tryz.ntmps47
 go_wp2_with fail
 rw [← HW2.out]
 refine (gramNB _ w2).mono ?_
 rintro e w3 ⟨rfl, hb3⟩
 obtain ⟨w4, hw4⟩ := zE (w3.alloc (.cells #[.bool false, .int .i64 (st : Int), .int .i64 0, .int .i64 (C.nw : Int)] 144))
 have hb02 : Below w.heap.size w w2 := by rw [HW2.out]; exact ((Below.refl _ _).alloc (Nat.le_refl _) _).alloc (by simp) _
 have hz2 : w2.heap.size = B0 + 1 + 1 := by rw [HW2.out, HB0.out]; simp
 have hb24 : Below w2.heap.size w2 w4 := by rw [hw4]; exact hb3.alloc hb3.size _
 have hb04 : Below w.heap.size w w4 := hb02.trans (hb24.mono hb02.size)
 have hz23 := hb3.size
 have hz4 : w4.heap.size = w3.heap.size + 1 := by rw [hw4]; simp
 obtain ⟨B3, hB3⟩ := zE w3.heap.size
 have g0 : w4.heap[B0]? = some (.cells #[.int .i64 C.g.1, .int .i64 C.g.2.1, .int .i64 (st : Int), .slice C.AR C.nR C.cR] 25 (0, 0)) := by
  rw [hb24.block _ (by omega), HW2.out, Below.heap_alloc _ _ _ (by simp [HB0.out]), HB0.out]
  exact heap_alloc_new _ _
 have g1 : w4.heap[B0 + 1]? = some (.cells #[.slice none 0 0, .int .i64 0] 38 (0, 0)) := by
  rw [hb24.block _ (by omega), HW2.out]
  exact heap_new _ _ _ (by simp [HB0.out])
 have g3 : w4.heap[B3]? = some (.cells #[.bool false, .int .i64 (st : Int), .int .i64 0, .int .i64 (C.nw : Int)] 144 (0, 0)) := by
  rw [hw4]
  exact heap_new _ _ _ (by rw [hB3])
 have HIN4 := zh (HIN.out.below hb04)
 have HB04 := zh hb04
 have HG0 := zh g0
 have HG1 := zh g1
 have HG3 := zh g3
 have HZ4 := zh (show w4.heap.size = B3 + 1 ∧ B0 + 1 + 1 ≤ B3 by omega)
 have HW4 := zh hw4
 have k2 : w4.cell? ⟨B0, 2, none⟩ = some (.int .i64 (st : Int)) := by simp [World.cell?, g0]
 have kh : w4.cell? ⟨C.gN, st, none⟩ = some (.slice (some ⟨C.gs st, 0, none⟩) (C.nw + 1) (C.nw + 1)) := HIN4.out.gr.hdr st (by rw [← HN.out]; exact hstN)
 have kc : w4.cell? ⟨C.gs st, 0, none⟩ = some (.int .u32 (C.E st 0 : Int)) := HIN4.out.gr.cell (k := 0) (by rw [← HN.out]; exact hstN) (by omega)
 have hX32 : C.E st 0 < 4294967296 := by
  have h1 := HC.out.hE st 0
  have h2 := Nat.le_trans (Nat.pow_le_pow_right (by omega : 0 < 2) (by omega : C.nw + 1 ≤ 13)) (by decide : 2 ^ 13 ≤ 8192)
  omega
 have hbv := bit_val0 (n := C.nw) hX32
 have HAC := zh (show (C.E st 0).testBit C.nw = true ↔ DerW C.g.2.2.2 C.ws [(false, (C.start : Int))] 0 C.nw by
  rw [HSS.out]
  exact ends_eq HC.out.sn HC.out.cl (by rw [← HN.out]; exact hstN) (Nat.zero_le _))
 obtain ⟨q, hq⟩ : ∃ q, q = (C.E st 0).testBit C.nw := ⟨_, rfl⟩
 rw [← hq] at hbv
 rw [hw4, HB0.out] at k2
 rw [hw4] at kh kc
 have HHQ := zh hq
 have hnw1 : (0 : Int) < ((C.nw + 1 : Nat) : Int) := by omega
 clear hb02 hb3 hb24 hb04 g0 g1 g3 hw4 hz2 hz23 hX32 hq hz4
 cases q with
 | false =>
  have hbq : (bits .and .u32 ((C.E st 0 : Int) / (2 : Int) ^ C.nw) 1 == 0) = true := hbv
  clear hbv
  have g1 := HG1.out
  have d0 : w4.cell? ⟨B0 + 1, 0, none⟩ = some (.slice none 0 0) := by simp [World.cell?, g1]
  have d1 : w4.cell? ⟨B0 + 1, 1, none⟩ = some (.int .i64 0) := by simp [World.cell?, g1]
  have f0 : w4.frozen? ⟨B0 + 1, 0, none⟩ = false := by simp [World.frozen?, g1]
  have f1 : w4.frozen? ⟨B0 + 1, 1, none⟩ = false := by simp [World.frozen?, g1]
  rw [HW4.out, HB0.out] at d0 d1 f0 f1
  clear g1
  go_wp2_with fail
  rw [← HW4.out, ← HB0.out]
  obtain ⟨h5, ho5⟩ := two_set HG1.out (.slice none 0 0) (.int .i64 (-1))
  have r0 : ((w4.setCell ⟨B0 + 1, 0, none⟩ (.slice none 0 0)).setCell ⟨B0 + 1, 1, none⟩ (.int .i64 (-1))).cell? ⟨B0 + 1, 0, none⟩ = some (.slice none 0 0) := by simp [World.cell?, h5]
  have r1 : ((w4.setCell ⟨B0 + 1, 0, none⟩ (.slice none 0 0)).setCell ⟨B0 + 1, 1, none⟩ (.int .i64 (-1))).cell? ⟨B0 + 1, 1, none⟩ = some (.int .i64 (-1)) := by simp [World.cell?, h5]
  have hl5 := cell_lt r0
  refine Go.bodyPost_ret (v := .tuple #[.agg #[.slice none 0 0, .int .i64 (-1)], .bool true]) ?_ rfl ⟨.inl ⟨fun hd => ?_, rfl⟩, ?_⟩
  ·
   rw [results_cell_tmp rfl]
   simp [go_sem, r0, r1, hl5]
  ·
   have := HAC.out.2 hd
   rw [← HHQ.out] at this
   cases this
  have hb5 := ho5.below (B := w.heap.size) (fun b e => by have := HB0.out; omega) HB04.out.size
  have h0 := HB04.out
  rw [← HB0.out] at hb5 h0
  exact h0.trans hb5
 | true =>
  have hbq : (bits .and .u32 ((C.E st 0 : Int) / (2 : Int) ^ C.nw) 1 == 0) = false := hbv
  clear hbv
  have HD := zh (HAC.out.1 HHQ.out.symm)
  obtain ⟨Bm, hBm⟩ := zE w4.heap.size
  obtain ⟨w5, hw5⟩ : ∃ w5 : World, w5 = ((w4.alloc (.map #[] 0)).alloc (.cells #[.bool false, .int .i64 (st : Int), .int .i64 0, .int .i64 (C.nw : Int)] 144)).alloc (.map #[] 0) := ⟨_, rfl⟩
  have hb45 : Below w4.heap.size w4 w5 := by rw [hw5]; exact (((Below.refl _ _).alloc (Nat.le_refl _) _).alloc (by simp) _).alloc (by simp; omega) _
  have m0 : ∀ u : World, Below w4.heap.size w4 u → u.cell? ⟨B3, 0, none⟩ = some (.bool false) ∧ u.cell? ⟨B3, 1, none⟩ = some (.int .i64 (st : Int)) ∧ u.cell? ⟨B3, 2, none⟩ = some (.int .i64 0) ∧ u.cell? ⟨B3, 3, none⟩ = some (.int .i64 (C.nw : Int)) := fun u hu => by
   have h1 := (hu.block _ (heap_lt HG3.out)).trans HG3.out
   exact ⟨by simp [World.cell?, h1], by simp [World.cell?, h1], by simp [World.cell?, h1], by simp [World.cell?, h1]⟩
  obtain ⟨a0, a1, a2, a3⟩ := m0 _ (((Below.refl w4.heap.size w4)).alloc (Nat.le_refl _) (.map #[] 0))
  obtain ⟨b0, b1, b2, b3⟩ := m0 _ hb45
  rw [hw5] at b0 b1 b2 b3
  rw [HW4.out, hB3] at a0 a1 a2 a3 b0 b1 b2 b3
  have hmm := @run_makeMap Tryz.prog
  have HMV := zh (show AMap KKey w5 (Bm + 2) [] from by
   rw [hw5]
   have := AMap.made KKey ((w4.alloc (.map #[] 0)).alloc (.cells #[.bool false, .int .i64 (st : Int), .int .i64 0, .int .i64 (C.nw : Int)] 144))
   rw [show ((w4.alloc (.map #[] 0)).alloc (.cells #[.bool false, .int .i64 (st : Int), .int .i64 0, .int .i64 (C.nw : Int)] 144)).heap.size = Bm + 2 by simp [hBm]] at this
   exact this)
  have HM0 := zh m0
  have HB45 := zh hb45
  have HBM := zh hBm
  have HW5 := zh hw5
  clear m0 hb45 hBm hw5
  go_wp2_with (first
   | (refine wpList_kins _ rfl _ _ _ 147 rfl 4 mapKB (w3.heap.size + 1 + 2) [] rfl (by rw [← HW4.out, ← HW5.out]; have h := HMV.out; rw [HBM.out, HZ4.out.1, hB3] at h; exact h) C.root (by rw [show C.root = ((false, (st : Int)), 0, C.nw) by unfold BdC.root; rw [HSS.out]]; rfl) (HC.out.kb ⟨HD.out, by rw [HC.out.wl]; exact Nat.le_refl _⟩).ok (.bool true) rfl (by simp [maxLen]) ?_; intro w6 hm6 hg6; have HM6 := zh hm6; have HG6 := zh hg6; clear hm6 hg6))
  rw [← HB0.out, ← hB3]
  have HBS := zh (BSt.start (R := C.g.2.2.2) (ws := C.ws) (root := C.root) (w5 := w5) HBM.out (by rw [show C.root = ((false, (st : Int)), 0, C.nw) by unfold BdC.root; rw [HSS.out]]; exact HW5.out) (by have h := HM6.out; rw [hB3.symm, show B3 + 1 + 2 = Bm + 2 by rw [HBM.out, HZ4.out.1]] at h; exact h) (by have h := HG6.out; rw [← HW4.out, ← HW5.out, ← hB3] at h; rw [HBM.out, HZ4.out.1]; exact h))
  rw [show Bm = B3 + 1 by rw [HBM.out, HZ4.out.1]] at HBS
  have HBF := zh (BfI.start (R := C.g.2.2.2) (ws := C.ws) (root := C.root) ⟨HD.out, by rw [HC.out.wl]; exact Nat.le_refl _⟩)
  have HGB := zh (show ∀ u : World, Below (B3 + 1) w4 u → (u.cell? ⟨B0, 0, none⟩ = some (.int .i64 C.g.1) ∧ u.cell? ⟨B0, 1, none⟩ = some (.int .i64 C.g.2.1) ∧ u.cell? ⟨B0, 2, none⟩ = some (.int .i64 (st : Int)) ∧ u.cell? ⟨B0, 3, none⟩ = some (.slice C.AR C.nR C.cR)) from fun u hu => by
   have h1 := (hu.block _ (by have := HZ4.out; omega)).trans HG0.out
   exact ⟨by simp [World.cell?, h1], by simp [World.cell?, h1], by simp [World.cell?, h1], by simp [World.cell?, h1]⟩)
  have HROOT := zh hB3
  clear a0 a1 a2 a3 b0 b1 b2 b3 k2 kh kc hbq hmm HMV hB3
  go_loopg [12, 14, 15] 8192 (fun gk v12 v14 v15 wr => ∃ (i cnt : Nat) (L : List KeyD) (FL PB : Nat → Prop) (es : List (KeyD × Value)), i ≤ L.length ∧ gk = 8192 - i ∧ v15 = .int .i64 i ∧ v14 = .int .i64 cnt ∧ cnt = sumPk C.g.2.2.2 C.ws (L.take i) ∧ BfI C.g.2.2.2 C.ws C.root L i ∧ BSt C.g.2.2.2 C.ws (B3 + 1) w4 (B3 + 1) (B3 + 1 + 1 + 1) wr FL PB v12 L (setK L) (L.take i) es)
  case atStart => exact ⟨0, 0, [C.root], _, _, [], by simp, rfl, rfl, rfl, by simp [sumPk], HBF.out, HBS.out⟩
  case round =>
   obtain ⟨i, cnt, L, FL, PB, es, hiL, hg, rfl, rfl, hcnt, hbf, hbs⟩ := hrel
   obtain ⟨w7, rfl⟩ := zE wr
   obtain ⟨AL, cL, rfl, hcL⟩ := hbs.gl.form
   obtain ⟨m, hm⟩ := zE L.length
   have hm8 : m ≤ 8192 := by rw [hm]; exact HC.out.few hbf.nd hbf.der
   rw [← hm] at hiL hcL hbs ⊢
   have HGK := zh hg
   have HBF7 := zh hbf
   have HBS7 := zh hbs
   have HM := zh hm
   clear hg hbf hbs hm
   by_cases hlt : i < m
   ·
    have hltI : (i : Int) < (m : Int) := by omega
    have hi0 : (0 : Int) ≤ (i : Int) := by omega
    obtain ⟨bL, oL, k, rfl, hbL, hk, c0, c1, c2, c3⟩ := HBS7.out.gl.sl.keyAt hlt
    have HK := zh hk
    have HCK := zh (show ∀ u : World, Below w7.heap.size w7 u → (u.cell? ⟨bL, oL + i * 4, none⟩ = some (.bool k.1.1) ∧ u.cell? ⟨bL, oL + i * 4 + 1, none⟩ = some (.int .i64 k.1.2) ∧ u.cell? ⟨bL, oL + i * 4 + 2, none⟩ = some (.int .i64 (k.2.1 : Int)) ∧ u.cell? ⟨bL, oL + i * 4 + 3, none⟩ = some (.int .i64 (k.2.2 : Int))) from fun u hu => by
     have h1 := hu.block bL (cell_lt c0)
     exact ⟨(World.cell?_of_block h1).trans c0, (World.cell?_of_block h1).trans c1, (World.cell?_of_block h1).trans c2, (World.cell?_of_block h1).trans c3⟩)
    have HDK := zh (HBF7.out.der k (List.mem_of_getElem? hk))
    have HGC := zh (HGB.out _ HBS7.out.low)
    obtain ⟨np, hnp⟩ : ∃ np, np = (packsP C.g.2.2.2 C.ws k).length := ⟨_, rfl⟩
    have hnp2 : np ≤ 1000000 := by rw [hnp]; exact packs_few HC.out (by have := HDK.out.2; rw [HC.out.wl] at this; exact this)
    have HNP := zh hnp
    have HIN7 := zh (HIN4.out.below (u' := w7) (by rw [HZ4.out.1]; exact HBS7.out.low))
    obtain ⟨cn2, hcn2⟩ := zE (cnt + np)
    have hcnI : (cnt : Int) + (np : Int) = (cn2 : Int) := by omega
    have hcn3 : cn2 = sumPk C.g.2.2.2 C.ws (L.take (i + 1)) := by rw [hcn2, hcnt, hnp, sumPk_take hk]
    have hder : ∀ x ∈ L.take (i + 1), DerK C.g.2.2.2 C.ws x := fun x hx => HBF7.out.der x (List.mem_of_mem_take hx)
    have hcn4 : cn2 ≤ 10000000000 := by
     rw [hcn3]
     refine Nat.le_trans (sumPk_le (c := 1000000) fun x hx => packs_few HC.out (by have := (hder x hx).2; rw [HC.out.wl] at this; exact this)) ?_
     have : (L.take (i + 1)).length ≤ 8192 := Nat.le_trans (List.length_take_le' _ _) (by rw [← HM.out]; exact hm8)
     have := Nat.mul_le_mul_right 1000000 this
     omega
    have hmo := HC.out.mo
    have HCN3 := zh hcn3
    have HTOO := zh (show C.most < cn2 → ∃ L : List KeyD, L.Nodup ∧ (∀ x ∈ L, DerK C.g.2.2.2 C.ws x) ∧ C.most < sumPk C.g.2.2.2 C.ws L from fun h => ⟨L.take (i + 1), HBF7.out.nd.sublist (List.take_sublist _ _), hder, by rw [← hcn3]; exact h⟩)
    clear hbL hk c0 c1 c2 c3 hnp hcn2 hcn3 hder hcnt
    go_wp2_with fail
    refine wp_region_late (late := []) (S1 := fun x => (x.cell? ⟨B0, 0, none⟩ = some (.int .i64 C.g.1) ∧ x.cell? ⟨B0, 1, none⟩ = some (.int .i64 C.g.2.1) ∧ x.cell? ⟨B0, 2, none⟩ = some (.int .i64 (st : Int)) ∧ x.cell? ⟨B0, 3, none⟩ = some (.slice C.AR C.nR C.cR)) ∧ x.cell? ⟨bL, oL + i * 4, none⟩ = some (.bool k.1.1) ∧ x.cell? ⟨bL, oL + i * 4 + 1, none⟩ = some (.int .i64 k.1.2) ∧ x.cell? ⟨bL, oL + i * 4 + 2, none⟩ = some (.int .i64 (k.2.1 : Int)) ∧ x.cell? ⟨bL, oL + i * 4 + 3, none⟩ = some (.int .i64 (k.2.2 : Int))) (S := fun _ => True) (by kernel_rfl) ?_
    refine zP (i := 0) rfl (fun u hu => by obtain ⟨⟨k0, k1, k2, k3⟩, c0, c1, c2, c3⟩ := hu; go_simp; try rfl) (And.intro (HGB.out _ HBS7.out.low.drew) (HCK.out _ (Below.refl _ _).drew)) zt ?_
    simp only [Act.put, zA, zB, zC, zD, zF, zG]
    refine zP (i := 1) rfl (fun u hu => by obtain ⟨⟨k0, k1, k2, k3⟩, c0, c1, c2, c3⟩ := hu; go_simp; try rfl) (And.intro (HGB.out _ HBS7.out.low.drew) (HCK.out _ (Below.refl _ _).drew)) zt ?_
    simp only [Act.put, zA, zB, zC, zD, zF, zG]
    refine zP (i := 2) rfl (fun u hu => by obtain ⟨⟨k0, k1, k2, k3⟩, c0, c1, c2, c3⟩ := hu; go_simp; try rfl) (And.intro (HGB.out _ HBS7.out.low.drew) (HCK.out _ (Below.refl _ _).drew)) zt ?_
    simp only [Act.put, zA, zB, zC, zD, zF, zG]
    refine zP (i := 3) rfl (fun u hu => by obtain ⟨⟨k0, k1, k2, k3⟩, c0, c1, c2, c3⟩ := hu; go_simp; try rfl) (And.intro (HGB.out _ HBS7.out.low.drew) (HCK.out _ (Below.refl _ _).drew)) zt ?_
    simp only [Act.put, zA, zB, zC, zD, zF, zG]
    refine zP (i := 4) rfl (fun u hu => by obtain ⟨⟨k0, k1, k2, k3⟩, c0, c1, c2, c3⟩ := hu; go_simp; try rfl) (And.intro (HGB.out _ HBS7.out.low.drew) (HCK.out _ (Below.refl _ _).drew)) zt ?_
    simp only [Act.put, zA, zB, zC, zD, zF, zG]
    refine zP (i := 5) rfl (fun u hu => by obtain ⟨⟨k0, k1, k2, k3⟩, c0, c1, c2, c3⟩ := hu; go_simp; try rfl) (And.intro (HGB.out _ HBS7.out.low.drew) (HCK.out _ (Below.refl _ _).drew)) zt ?_
    simp only [Act.put, zA, zB, zC, zD, zF, zG]
    refine zP (i := 6) rfl (fun u hu => by obtain ⟨⟨k0, k1, k2, k3⟩, c0, c1, c2, c3⟩ := hu; go_simp; try rfl) (And.intro (HGB.out _ HBS7.out.low.drew) (HCK.out _ (Below.refl _ _).drew)) zt ?_
    simp only [Act.put, zA, zB, zC, zD, zF, zG]
    refine zR 7 rfl (fun K hK => ?_)
    go_simp
    have hcall := packsAt HC.out (u := w7.drew) (HIN7.out.below (Below.refl _ _).drew) k HDK.out
    rw [HST.out, ← HN.out, ← HNP.out] at hcall
    refine hcall.mono ?_
    clear hcall
    rintro e w8 ⟨⟨F8, A8, c8, rfl, hs8, hF8⟩, hb8⟩
    have HB8 := zh ((Below.refl w7.heap.size w7).drew.trans hb8)
    have HS8 := zh hs8
    have HF8 := zh hF8
    clear hb8 hs8 hF8
    refine hK.out _ _ (And.intro (HGB.out _ (HBS7.out.low.trans (HB8.out.mono HBS7.out.zw))) (HCK.out _ HB8.out)) zt ?_
    clear hK K
    refine zP (i := 8) rfl (fun u hu => by obtain ⟨⟨k0, k1, k2, k3⟩, c0, c1, c2, c3⟩ := hu; go_simp; try rfl) (And.intro (HGB.out _ (HBS7.out.low.trans (HB8.out.mono HBS7.out.zw))) (HCK.out _ HB8.out)) zt ?_
    simp only [Act.put, zA, zB, zC, zD, zF, zG]
    refine wpAnyL_done (by kernel_rfl) ?_ _
    obtain ⟨c0, c1, c2, c3⟩ := HCK.out _ HB8.out
    have HKOK := zh ((HC.out.kb HDK.out).ok)
    have HLM := zh (show es.length < maxLen from by
     have h1 := congrArg List.length HBS7.out.pk.keys
     rw [List.length_map, List.length_take] at h1
     unfold maxLen
     omega)
    by_cases hmost : C.most < cn2
    ·
     have hmostI : decide ((C.most : Int) < (cn2 : Int)) = true := by simp; omega
     have HX := zh (HTOO.out hmost)
     have hg1 := ((HBS7.out.low.trans (HB8.out.mono HBS7.out.zw)).block (B0 + 1) (by have := HZ4.out; omega)).trans HG1.out
     have d0 : w8.cell? ⟨B0 + 1, 0, none⟩ = some (.slice none 0 0) := by simp [World.cell?, hg1]
     have d1 : w8.cell? ⟨B0 + 1, 1, none⟩ = some (.int .i64 0) := by simp [World.cell?, hg1]
     have f0 : w8.frozen? ⟨B0 + 1, 0, none⟩ = false := by simp [World.frozen?, hg1]
     have f1 : w8.frozen? ⟨B0 + 1, 1, none⟩ = false := by simp [World.frozen?, hg1]
     have HG1B := zh hg1
     clear hg1
     go_wp2_with fail
     obtain ⟨h5, ho5⟩ := two_set HG1B.out (.slice none 0 0) (.int .i64 0)
     have r0 : ((w8.setCell ⟨B0 + 1, 0, none⟩ (.slice none 0 0)).setCell ⟨B0 + 1, 1, none⟩ (.int .i64 0)).cell? ⟨B0 + 1, 0, none⟩ = some (.slice none 0 0) := by simp [World.cell?, h5]
     have r1 : ((w8.setCell ⟨B0 + 1, 0, none⟩ (.slice none 0 0)).setCell ⟨B0 + 1, 1, none⟩ (.int .i64 0)).cell? ⟨B0 + 1, 1, none⟩ = some (.int .i64 0) := by simp [World.cell?, h5]
     have hl5 := cell_lt r0
     have hz := HZ4.out
     have hz8 := HB8.out.size
     have hzb := HBS7.out.zw
     have hB0 := HB0.out
     refine Go.bodyPost_ret (v := .tuple #[.agg #[.slice none 0 0, .int .i64 0], .bool false]) ?_ ?_ ?_
     ·
      rw [results_cell_tmp rfl]
      simp [go_sem, r0, r1, hl5]
     · rfl
     obtain ⟨L0, x1, x2, x3⟩ := HX.out
     refine ⟨.inr (.inr ⟨L0, x1, x2, x3, rfl⟩), ?_⟩
     have h0 := HB04.out
     have h1 := ho5.below (B := w.heap.size) (fun b e => by omega) (by omega)
     have h2 := (HBS7.out.low.trans (HB8.out.mono HBS7.out.zw)).mono (show w.heap.size ≤ B3 + 1 by omega)
     exact h0.trans (h2.trans h1)
    have hmostI : decide ((C.most : Int) < (cn2 : Int)) = false := by simp; omega
    go_wp2_with (at_mapUpdate; refine wpList_amap_put _ rfl _ _ _ 145 rfl 148 mapKPk (B3 + 1) _ rfl (HBS7.out.pk.map.below HB8.out) k rfl HKOK.out (.slice A8 np c8) rfl HLM.out ?_; intro w9 hm9 hg9; have HM9 := zh hm9; have HG9 := zh hg9; clear hm9 hg9)
    have HKN := zh (show k ∉ L.take i from fun h => by
     obtain ⟨j, hj⟩ := List.getElem?_of_mem h
     rw [List.getElem?_take] at hj
     split at hj
     · next hji => have := nodup_at HBF7.out.nd hj HK.out; omega
     cases hj)
    have hs8 := HS8.out
    rw [HNP.out] at hs8
    have hpk := HBS7.out.pack HB8.out (k := k) hs8 HF8.out HKN.out (by rw [← HNP.out]; exact HM9.out) HG9.out
    rw [← HNP.out, show L.take i ++ [k] = L.take (i + 1) by rw [List.take_add_one, HK.out]; rfl] at hpk
    obtain ⟨PB9, hPB9⟩ : ∃ PB9 : Nat → Prop, PB9 = fun b => PB b ∨ F8 b := ⟨_, rfl⟩
    rw [← hPB9] at hpk
    obtain ⟨es9, hes9⟩ := zE (es ++ [(k, Value.slice A8 np c8)])
    rw [← hes9] at hpk
    have HBS9 := zh hpk.1
    have HS9 := zh hpk.2
    have HGC9 := zh (HGB.out _ hpk.1.low)
    clear hs8 hpk hPB9 hes9 c0 c1 c2 c3 HM9 HG9 HS8 HF8 HCK HLM HKOK HIN7 HGC
    go_loopg [12, 88] np (fun gk v12 v88 wr => ∃ (p : Nat) (L1 : List KeyD) (FL1 : Nat → Prop), p ≤ np ∧ gk = np - p ∧ v88 = .int .i64 p ∧ BfM C.g.2.2.2 C.ws C.root L1 i k p 0 ∧ BSt C.g.2.2.2 C.ws (B3 + 1) w4 (B3 + 1) (B3 + 1 + 1 + 1) wr FL1 PB9 v12 L1 (setK L1) (L.take (i + 1)) es9 ∧ L1.take (i + 1) = L.take (i + 1) ∧ Kept PB9 w9 wr)
    case atStart => exact ⟨0, L, _, Nat.zero_le _, rfl, rfl, HBF7.out.mid HK.out, HBS9.out, rfl, Kept.refl _ _⟩
    case round =>
     obtain ⟨p, L1, FL1, hp, hg, rfl, hbf, hbs, htk, hkp⟩ := hrel
     obtain ⟨w10, rfl⟩ := zE wr
     have HG10 := zh hg
     have HBF10 := zh hbf
     have HBS10 := zh hbs
     have HTK10 := zh htk
     have HKP10 := zh hkp
     clear hg hbf hbs htk hkp
     by_cases hpn : p < np
     ·
      have hpI : (p : Int) < (np : Int) := by omega
      have hp0 : (0 : Int) ≤ (p : Int) := by omega
      obtain ⟨bP, oP, u1, u2, pk, rfl, hbP, hpk, hok, q0, q1⟩ := HS9.out.at2 rfl hpn
      obtain ⟨A3, n3, c3, h2, hsk⟩ := RCPk.cells.1 hok
      injection h2 with e1 h2
      injection h2 with e2 _
      subst e1
      subst e2
      have HPK := zh hpk
      have HSK := zh hsk
      replace q0 := HKP10.out _ _ hbP q0
      replace q1 : w10.cell? ⟨bP, oP + p * 2 + 1, none⟩ = some (.slice A3 n3 c3) := HKP10.out _ _ hbP q1
      have hn3 : n3 = pk.2.length := hsk.len
      have hn4 : n3 ≤ 4 := by rw [hn3]; exact packs_kids HC.out (List.mem_of_getElem? hpk)
      have HN3 := zh hn3
      clear hpk hok hsk hn3 hbP
      obtain ⟨w11, hw11⟩ := zE (w10.alloc (.cells #[.int .i64 (pk.1 : Int), .slice A3 n3 c3] 151))
      have HB11 := zh (show Below w10.heap.size w10 w11 by rw [hw11]; exact (Below.refl _ _).alloc (Nat.le_refl _) _)
      have HW11 := zh hw11
      clear hw11
      have HB911 := zh (HBS10.out.below HB11.out)
      have HKP11 := zh (HKP10.out.trans (Kept.below HB11.out))
      go_wp2_with fail
      rw [← HW11.out]
      clear q0 q1
      go_loopg [12, 95] n3 (fun gk v12 v95 wr => ∃ (q : Nat) (L2 : List KeyD) (FL2 : Nat → Prop), q ≤ n3 ∧ gk = n3 - q ∧ v95 = .int .i64 q ∧ BfM C.g.2.2.2 C.ws C.root L2 i k p q ∧ BSt C.g.2.2.2 C.ws (B3 + 1) w4 (B3 + 1) (B3 + 1 + 1 + 1) wr FL2 PB9 v12 L2 (setK L2) (L.take (i + 1)) es9 ∧ L2.take (i + 1) = L.take (i + 1) ∧ Kept PB9 w9 wr)
      case atStart => exact ⟨0, L1, FL1, Nat.zero_le _, rfl, rfl, HBF10.out, HB911.out, HTK10.out, HKP11.out⟩
      case round =>
       obtain ⟨q, L2, FL2, hq, hg, rfl, hbf, hbs, htk, hkp⟩ := hrel
       obtain ⟨w12, rfl⟩ := zE wr
       have HG12 := zh hg
       have HBF12 := zh hbf
       have HBS12 := zh hbs
       have HTK12 := zh htk
       have HKP12 := zh hkp
       clear hg hbf hbs htk hkp
       by_cases hqn : q < n3
       ·
        have hqI : (q : Int) < (n3 : Int) := by omega
        have hq0 : (0 : Int) ≤ (q : Int) := by omega
        obtain ⟨bK, oK, y, rfl, hbK, hy, y0, y1, y2, y3⟩ := HSK.out.keyAt hqn
        replace y0 := HKP12.out _ _ hbK y0
        replace y1 := HKP12.out _ _ hbK y1
        replace y2 := HKP12.out _ _ hbK y2
        replace y3 := HKP12.out _ _ hbK y3
        have HY := zh hy
        have HDY := zh (HBF12.out.kidD HPK.out hy)
        have HOKY := zh ((HC.out.kb HDY.out).ok)
        have HL2 := zh (HC.out.few HBF12.out.b.nd HBF12.out.b.der)
        clear hy hbK
        obtain ⟨w13, hw13⟩ := zE (w12.alloc (.cells #[.bool y.1.1, .int .i64 y.1.2, .int .i64 (y.2.1 : Int), .int .i64 (y.2.2 : Int)] 144))
        have HB13 := zh (show Below w12.heap.size w12 w13 by rw [hw13]; exact (Below.refl _ _).alloc (Nat.le_refl _) _)
        have HW13 := zh hw13
        have HBS13 := zh (HBS12.out.below HB13.out)
        have HKP13 := zh (HKP12.out.trans (Kept.below HB13.out))
        have hlk := AMap.look HBS13.out.sn mapKB zeroKB HOKY.out
        rw [lk_setK, hw13] at hlk
        clear hw13
        by_cases hyL : y ∈ L2
        ·
         rw [decide_eq_true hyL] at hlk
         go_wp2_with fail
         rw [← HW13.out]
         go_roundg (n3 - (q + 1))
         case measure => rw [HG12.out]; omega
         case rel => exact ⟨q + 1, L2, FL2, by omega, rfl, by go_num, HBF12.out.has HPK.out HY.out hyL, HBS13.out, HTK12.out, HKP13.out⟩
        rw [decide_eq_false hyL] at hlk
        have HYN := zh hyL
        go_wp2_with (first
         | (at_mapUpdate; rw [← HW13.out]; refine wpList_amap_put _ rfl _ _ _ 147 rfl 4 mapKB (B3 + 1 + 1 + 1) _ rfl HBS13.out.sn y rfl HOKY.out (.bool true) rfl (by have := HL2.out; unfold setK maxLen; rw [List.length_map]; omega) ?_; intro w14 hm14 hg14; rw [setK_put HYN.out] at hm14; have HBS14 := zh (HBS13.out.seen hm14 hg14); have HKP14 := zh (HKP13.out.trans (Kept.grown hg14 fun b hb e => by injection e with e; exact (HBS13.out.pb b hb).2.2 e.symm)); have hb20 : w14.heap[w12.heap.size]? = some (.cells #[.bool y.1.1, .int .i64 y.1.2, .int .i64 (y.2.1 : Int), .int .i64 (y.2.2 : Int)] 144 (0, 0)) := (hg14.block _ (by rw [HW13.out]; simp) (by have := HBS12.out.sn.lt; intro e; injection e with e; omega)).trans (by rw [HW13.out]; exact heap_alloc_new _ _); have s0 : w14.cell? ⟨w12.heap.size, 0, none⟩ = some (.bool y.1.1) := (by simp [World.cell?, hb20]); have s1 : w14.cell? ⟨w12.heap.size, 1, none⟩ = some (.int .i64 y.1.2) := (by simp [World.cell?, hb20]); have s2 : w14.cell? ⟨w12.heap.size, 2, none⟩ = some (.int .i64 (y.2.1 : Int)) := (by simp [World.cell?, hb20]); have s3 : w14.cell? ⟨w12.heap.size, 3, none⟩ = some (.int .i64 (y.2.2 : Int)) := (by simp [World.cell?, hb20]); obtain ⟨A', c', w15, hrun, hbs15, ho15⟩ := HBS14.out.push y (by have := HL2.out; omega) 146; have HRUN := zh hrun; have HBS15 := zh hbs15; have HKP15 := zh (HKP14.out.trans (ho15.kept fun b hb e => (HBS14.out.fl b e).2.2.2 hb)); clear hm14 hg14 hb20 hrun hbs15 ho15)
         | (at_builtin; refine Lib.wpList_append_run (o := ⟨some 108, _, _, _, _, _⟩) _ rfl _ _ _ _ rfl _ _ rfl rfl _ _ HRUN.out ?_))
        go_roundg (n3 - (q + 1))
        case measure => rw [HG12.out]; omega
        case rel => exact ⟨q + 1, L2 ++ [y], _, by omega, rfl, by go_num, HBF12.out.push HPK.out HY.out HYN.out, HBS15.out, by rw [List.take_append_of_le_length (by have := (List.getElem?_eq_some_iff.1 HBF12.out.key).1; omega)]; exact HTK12.out, HKP15.out⟩
       obtain rfl : q = n3 := by omega
       go_wp2_with fail
       go_roundg (np - (p + 1))
       case measure => rw [HG10.out]; omega
       case rel => exact ⟨p + 1, L2, FL2, by omega, rfl, by go_num, HBF12.out.next HPK.out (by rw [← HN3.out]; exact Nat.le_refl _), HBS12.out, HTK12.out, HKP12.out⟩
     obtain rfl : p = np := by omega
     go_wp2_with fail
     go_roundg (8192 - (i + 1))
     case measure => rw [HGK.out]; omega
     case rel => exact ⟨i + 1, cn2, L1, FL1, PB9, es9, by have := (List.getElem?_eq_some_iff.1 HBF10.out.key).1; omega, rfl, by go_num, rfl, by rw [HTK10.out]; exact HCN3.out, HBF10.out.done (by rw [← HNP.out]; exact Nat.le_refl _), by rw [HTK10.out]; exact HBS10.out⟩
   obtain rfl : i = m := by omega
   have hbs7 := HBS7.out
   rw [show L.take i = L by rw [HM.out]; exact List.take_length] at hbs7
   have HBS7B := zh hbs7
   clear hbs7 HBS7
   go_wp2_with (first
    | (go_at_call 70; refine (sortKeys w7 FL (.slice AL i cL) L HBS7B.out.gl (by rw [← HM.out]; omega)).mono ?_; rintro e w8 ⟨rfl, ⟨L', hg8, hpm, hsr⟩, hgr8⟩; have HBS8 := zh (HBS7B.out.row hg8 hgr8); have HPM := zh hpm; have HSR := zh (show SortedK L' from hsr); have hmm := @run_makeMap Tryz.prog; clear hg8 hpm hsr hgr8))
   clear hmm
   obtain ⟨Bu, hBu⟩ := zE w8.heap.size
   have HBS9 := zh HBS8.out.map2
   obtain ⟨w9, hw9⟩ := zE (w8.alloc (.map #[] 0))
   rw [← hBu, ← hw9] at HBS9
   rw [← hBu, ← hw9]
   have HND := zh (HPM.out.nodup_iff.2 HBF7.out.nd)
   have HLN' := zh (show L'.length = i from by rw [HPM.out.length_eq, ← HM.out])
   have HFO := zh (show FoL C.g.2.2.2 C.ws L' from ⟨HND.out, fun x hx y hy => HPM.out.mem_iff.2 (by
    obtain ⟨j, hj⟩ := List.getElem?_of_mem (HPM.out.mem_iff.1 hx)
    exact HBF7.out.cl j x y (by have := (List.getElem?_eq_some_iff.1 hj).1; have := HM.out; omega) hj hy)⟩)
   have HDE := zh (show ∀ x ∈ L', DerK C.g.2.2.2 C.ws x from fun x hx => HBF7.out.der x (HPM.out.mem_iff.1 hx))
   have HRC := zh (show ∀ x ∈ L', KRch C.g.2.2.2 C.ws C.root x from fun x hx => HBF7.out.rc x (HPM.out.mem_iff.1 hx))
   have HRT := zh (show C.root ∈ L' from HPM.out.mem_iff.2 (List.mem_of_getElem? HBF7.out.rt))
   have HBU := zh hBu
   clear hBu hw9
   go_loopg [116] i (fun gk v116 wr => ∃ j : Nat, j ≤ i ∧ gk = i - j ∧ v116 = .int .i64 j ∧ BSt C.g.2.2.2 C.ws (B3 + 1) w4 (B3 + 1) Bu wr FL PB (.slice AL i cL) L' (nmK (L'.take j)) L es)
   case atStart => exact ⟨0, Nat.zero_le _, rfl, rfl, HBS9.out⟩
   case round =>
    obtain ⟨j, hj, hg, rfl, hbs⟩ := hrel
    obtain ⟨w10, rfl⟩ := zE wr
    have HG10 := zh hg
    have HBS10 := zh hbs
    clear hg hbs
    by_cases hji : j < i
    ·
     have hjI : (j : Int) < (i : Int) := by omega
     have hj0 : (0 : Int) ≤ (j : Int) := by omega
     have hgl := HBS10.out.gl
     have hsl : Sl RKey w10 FL AL i cL L' := by
      have h := hgl.form
      obtain ⟨A', c', e, _⟩ := h
      have hl := HLN'.out
      have h2 := hgl.sl (A := AL) (n := i) (c := cL)
      exact h2
     obtain ⟨bL, oL, x, rfl, hbL, hx, x0, x1, x2, x3⟩ := hsl.keyAt hji
     have HX := zh hx
     have HOKX := zh ((HC.out.kb (HDE.out x (List.mem_of_getElem? hx))).ok)
     clear hgl hsl hbL hx
     obtain ⟨w11, hw11⟩ := zE (w10.alloc (.cells #[.bool x.1.1, .int .i64 x.1.2, .int .i64 (x.2.1 : Int), .int .i64 (x.2.2 : Int)] 144))
     have HBS11 := zh (HBS10.out.below (show Below w10.heap.size w10 w11 by rw [hw11]; exact (Below.refl _ _).alloc (Nat.le_refl _) _))
     have HW11 := zh hw11
     have HPUT := zh (show putL (nmK (L'.take j)) x (.int .i64 (j : Int)) = nmK (L'.take (j + 1)) from by
      have h1 : (L'.take j).length = j := by rw [List.length_take, HLN'.out]; omega
      have h2 := nmK_put (L := L'.take j) (k := x) (fun h => by
       obtain ⟨q, hq⟩ := List.getElem?_of_mem h
       rw [List.getElem?_take] at hq
       split at hq
       · next hqj => have := nodup_at HND.out hq HX.out; omega
       cases hq)
      rw [h1] at h2
      rw [h2, List.take_add_one, HX.out]
      rfl)
     clear hw11
     go_wp2_with (at_mapUpdate; rw [← HW11.out]; refine wpList_amap_put _ rfl _ _ _ 154 rfl 3 mapKI Bu _ rfl HBS11.out.sn x rfl HOKX.out (.int .i64 (j : Int)) rfl (by unfold nmK maxLen; rw [List.length_map, List.length_zipIdx, List.length_take]; omega) ?_; intro w12 hm12 hg12; rw [HPUT.out] at hm12; have HBS12 := zh (HBS11.out.seen hm12 hg12); clear hm12 hg12)
     go_roundg (i - (j + 1))
     case measure => rw [HG10.out]; omega
     case rel => exact ⟨j + 1, by omega, rfl, by go_num, HBS12.out⟩
    obtain rfl : j = i := by omega
    have hbs := HBS10.out
    rw [show L'.take j = L' by rw [← HLN'.out]; exact List.take_length] at hbs
    have HBSA := zh hbs
    obtain ⟨a0, a1, a2, a3⟩ := HM0.out w10 (by rw [HZ4.out.1]; exact hbs.low)
    have hlk := AMap.look hbs.sn mapKI zeroKI (HC.out.kb (HDE.out _ HRT.out)).ok
    rw [lk_nmK HND.out HRT.out, show C.root = ((false, (st : Int)), 0, C.nw) by unfold BdC.root; rw [HSS.out]] at hlk
    obtain ⟨ir, hir⟩ := zE (ixK L' ((false, (st : Int)), 0, C.nw))
    rw [← hir] at hlk
    replace hlk : (Instr.lookup 154 (.map (some Bu)) (.agg #[.bool false, .int .i64 (st : Int), .int .i64 0, .int .i64 (C.nw : Int)]) false).run Tryz.prog w10 = .ok (.int .i64 (ir : Int)) w10 := hlk
    have HIR := zh hir
    clear hbs HBS10 hir
    go_wp2_with fail
    clear a0 a1 a2 a3 hlk
    obtain ⟨Bf, hBf⟩ := zE w10.heap.size
    obtain ⟨w11, hw11⟩ := zE (w10.alloc (.cells #[.slice none 0 0, .int .i64 (ir : Int)] 38))
    rw [← hBf, ← hw11]
    have HB11 := zh (show Below w10.heap.size w10 w11 by rw [hw11]; exact (Below.refl _ _).alloc (Nat.le_refl _) _)
    have HF11 := zh (show w11.heap[Bf]? = some (.cells #[.slice none 0 0, .int .i64 (ir : Int)] 38 (0, 0)) by rw [hw11]; exact heap_new _ _ _ hBf.symm)
    have HZ11 := zh (show w11.heap.size = Bf + 1 by rw [hw11, hBf]; simp)
    have HBFE := zh hBf
    have HLOW := zh (show ∀ u : World, Only w11 u (fun b => b = Bf) → Below w10.heap.size w10 u from fun u hu => HB11.out.trans (hu.below (fun b e => by rw [e, hBf]; exact Nat.le_refl _) HB11.out.size))
    clear hw11 hBf
    go_loopg [131] j (fun gk v131 wr => ∃ (a : Nat) (FN : Nat → Prop) (vN : Value), a ≤ j ∧ gk = j - a ∧ v131 = .int .i64 a ∧ Only w11 wr (fun b => b = Bf) ∧ wr.heap[Bf]? = some (.cells #[vN, .int .i64 (ir : Int)] 38 (0, 0)) ∧ GL RNode 106 wr FN vN ((L'.take a).map (nodeZ C.g.2.2.2 C.ws L')) ∧ ∀ b, FN b → w11.heap.size ≤ b ∧ b < wr.heap.size)
    case atStart => exact ⟨0, fun _ => False, .slice none 0 0, Nat.zero_le _, rfl, rfl, Only.refl _ _, HF11.out, GL.nil _ _, fun b h => h.elim⟩
    case round =>
     obtain ⟨a, FN, vN, haj, hg, rfl, ho, hbf, hgl, hfn⟩ := hrel
     obtain ⟨w12, rfl⟩ := zE wr
     have HG12 := zh hg
     have HO12 := zh ho
     have HBF12 := zh hbf
     have HGL12 := zh hgl
     have HFN12 := zh hfn
     have HBS12 := zh (HBSA.out.below (HLOW.out w12 ho))
     clear hg ho hbf hgl hfn
     by_cases hajl : a < j
     ·
      have haI : (a : Int) < (j : Int) := by omega
      have ha0 : (0 : Int) ≤ (a : Int) := by omega
      obtain ⟨bL, oL, x, rfl, hbL, hx, x0, x1, x2, x3⟩ := (HBS12.out.gl.sl (A := AL) (n := j) (c := cL)).keyAt hajl
      have HX := zh hx
      have HOKX := zh ((HC.out.kb (HDE.out x (List.mem_of_getElem? hx))).ok)
      obtain ⟨w13, hw13⟩ := zE (w12.alloc (.cells #[.bool x.1.1, .int .i64 x.1.2, .int .i64 (x.2.1 : Int), .int .i64 (x.2.2 : Int)] 144))
      obtain ⟨w14, hw14⟩ := zE (w13.alloc (.cells #[.bool x.1.1, .int .i64 x.1.2, .int .i64 (x.2.1 : Int), .int .i64 (x.2.2 : Int), .slice none 0 0] 106))
      have z14 : w14.heap.size = w12.heap.size + 1 + 1 := by rw [hw14, hw13]; simp
      have hb14 : Below w12.heap.size w12 w14 := by rw [hw14, hw13]; exact ((Below.refl _ _).alloc (Nat.le_refl _) _).alloc (by simp) _
      have hk14 : w14.heap[w12.heap.size]? = some (.cells #[.bool x.1.1, .int .i64 x.1.2, .int .i64 (x.2.1 : Int), .int .i64 (x.2.2 : Int)] 144 (0, 0)) := by
       rw [hw14, Below.heap_alloc _ _ _ (by rw [hw13]; simp), hw13]
       exact heap_alloc_new _ _
      have HN14 := zh (show w14.heap[w12.heap.size + 1]? = some (.cells #[.bool x.1.1, .int .i64 x.1.2, .int .i64 (x.2.1 : Int), .int .i64 (x.2.2 : Int), .slice none 0 0] 106 (0, 0)) by
       rw [hw14]
       exact heap_new _ _ _ (by rw [hw13]; simp))
      have HBS14 := zh (HBS12.out.below hb14)
      obtain ⟨AP, np, cP, hget, hsl⟩ := HBS14.out.pk.get (k := x) (HPM.out.mem_iff.1 (List.mem_of_getElem? hx))
      have hnp : np = (packsP C.g.2.2.2 C.ws x).length := hsl.len
      have hnp2 : np ≤ 1000000 := by rw [hnp]; exact packs_few HC.out (by have := (HDE.out x (List.mem_of_getElem? hx)).2; rw [HC.out.wl] at this; exact this)
      have hlk := AMap.look HBS14.out.pk.map mapKPk zeroKP HOKX.out
      rw [hget] at hlk
      have k0 : w14.cell? ⟨w12.heap.size, 0, none⟩ = some (.bool x.1.1) := by simp [World.cell?, hk14]
      have k1 : w14.cell? ⟨w12.heap.size, 1, none⟩ = some (.int .i64 x.1.2) := by simp [World.cell?, hk14]
      have k2 : w14.cell? ⟨w12.heap.size, 2, none⟩ = some (.int .i64 (x.2.1 : Int)) := by simp [World.cell?, hk14]
      have k3 : w14.cell? ⟨w12.heap.size, 3, none⟩ = some (.int .i64 (x.2.2 : Int)) := by simp [World.cell?, hk14]
      rw [hw14, hw13] at hlk k0 k1 k2 k3
      have HW14 := zh (show w14 = (w12.alloc (.cells #[.bool x.1.1, .int .i64 x.1.2, .int .i64 (x.2.1 : Int), .int .i64 (x.2.2 : Int)] 144)).alloc (.cells #[.bool x.1.1, .int .i64 x.1.2, .int .i64 (x.2.1 : Int), .int .i64 (x.2.2 : Int), .slice none 0 0] 106) by rw [hw14, hw13])
      have HB14 := zh hb14
      have HZ14 := zh z14
      have HSP := zh hsl
      have HNP := zh hnp
      clear hx hbL hw13 hw14 hb14 z14 hk14 hget hsl hnp
      go_wp2_with fail
      rw [← HW14.out]
      clear k0 k1 k2 k3 hlk x0 x1 x2 x3
      obtain ⟨Bd, hBd⟩ := zE (w12.heap.size + 1)
      rw [← hBd] at HN14
      rw [← hBd]
      have HBD := zh hBd
      have HLOW14 := zh (show ∀ u : World, Only w14 u (fun b => b = Bd) → Below w12.heap.size w12 u from fun u hu => HB14.out.trans (hu.below (fun b e => by rw [e, hBd]; omega) HB14.out.size))
      clear hBd
      go_loopg [146] np (fun gk v146 wr => ∃ (p : Nat) (FP : Nat → Prop) (vP : Value), p ≤ np ∧ gk = np - p ∧ v146 = .int .i64 p ∧ Only w14 wr (fun b => b = Bd) ∧ wr.heap[Bd]? = some (.cells #[.bool x.1.1, .int .i64 x.1.2, .int .i64 (x.2.1 : Int), .int .i64 (x.2.2 : Int), vP] 106 (0, 0)) ∧ GL RPack 111 wr FP vP (((packsP C.g.2.2.2 C.ws x).take p).map (pkZ L')) ∧ ∀ b, FP b → w14.heap.size ≤ b ∧ b < wr.heap.size)
      case atStart => exact ⟨0, fun _ => False, .slice none 0 0, Nat.zero_le _, rfl, rfl, Only.refl _ _, HN14.out, GL.nil _ _, fun b h => h.elim⟩
      case round =>
       obtain ⟨p, FP, vP, hpn, hg, rfl, ho, hbf, hgl, hfn⟩ := hrel
       obtain ⟨w15, rfl⟩ := zE wr
       have HG15 := zh hg
       have HO15 := zh ho
       have HBN15 := zh hbf
       have HGL15 := zh hgl
       have HFP15 := zh hfn
       have HBS15 := zh (HBS12.out.below (HLOW14.out w15 ho))
       have HSP15 := zh (HSP.out.keep (ho.kept fun b hb e => by have := (HBS12.out.pb b hb).1.2; have := HBD.out; omega))
       clear hg ho hbf hgl hfn
       by_cases hpl : p < np
       ·
        have hpI : (p : Int) < (np : Int) := by omega
        have hp0 : (0 : Int) ≤ (p : Int) := by omega
        obtain ⟨bP, oP, u1, u2, pk, rfl, hbP, hpk, hok, q0, q1⟩ := HSP15.out.at2 rfl hpl
        obtain ⟨A3, n3, c3, h2, hsk⟩ := RCPk.cells.1 hok
        injection h2 with e1 h2
        injection h2 with e2 _
        subst e1
        subst e2
        replace q1 : w15.cell? ⟨bP, oP + p * 2 + 1, none⟩ = some (.slice A3 n3 c3) := q1
        have HPK := zh hpk
        have HSK := zh hsk
        have hn3 : n3 = pk.2.length := hsk.len
        have hn4 : n3 ≤ 4 := by rw [hn3]; exact packs_kids HC.out (List.mem_of_getElem? hpk)
        have HN3 := zh hn3
        obtain ⟨w16, hw16⟩ := zE (w15.alloc (.cells #[.int .i64 (pk.1 : Int), .slice A3 n3 c3] 151))
        obtain ⟨w17, hw17⟩ := zE (w16.alloc (.cells #[.int .i64 (pk.1 : Int), .slice none 0 0] 111))
        have z17 : w17.heap.size = w15.heap.size + 1 + 1 := by rw [hw17, hw16]; simp
        have hb17 : Below w15.heap.size w15 w17 := by rw [hw17, hw16]; exact ((Below.refl _ _).alloc (Nat.le_refl _) _).alloc (by simp) _
        have hk17 : w17.heap[w15.heap.size]? = some (.cells #[.int .i64 (pk.1 : Int), .slice A3 n3 c3] 151 (0, 0)) := by
         rw [hw17, Below.heap_alloc _ _ _ (by rw [hw16]; simp), hw16]
         exact heap_alloc_new _ _
        have HX17 := zh (show w17.heap[w15.heap.size + 1]? = some (.cells #[.int .i64 (pk.1 : Int), .slice none 0 0] 111 (0, 0)) by
         rw [hw17]
         exact heap_new _ _ _ (by rw [hw16]; simp))
        have k0 : w17.cell? ⟨w15.heap.size, 0, none⟩ = some (.int .i64 (pk.1 : Int)) := by simp [World.cell?, hk17]
        have k1 : w17.cell? ⟨w15.heap.size, 1, none⟩ = some (.slice A3 n3 c3) := by simp [World.cell?, hk17]
        rw [hw17, hw16] at k0 k1
        have HW17 := zh (show w17 = (w15.alloc (.cells #[.int .i64 (pk.1 : Int), .slice A3 n3 c3] 151)).alloc (.cells #[.int .i64 (pk.1 : Int), .slice none 0 0] 111) by rw [hw17, hw16])
        have HB17 := zh hb17
        have HZ17 := zh z17
        clear hpk hok hsk hn3 hbP hw16 hw17 hb17 z17 hk17
        go_wp2_with fail
        rw [← HW17.out]
        clear k0 k1 q0 q1
        obtain ⟨Bx, hBx⟩ := zE (w15.heap.size + 1)
        rw [← hBx] at HX17
        rw [← hBx]
        have HBX := zh hBx
        have HLOW17 := zh (show ∀ u : World, Only w17 u (fun b => b = Bx) → Below w15.heap.size w15 u from fun u hu => HB17.out.trans (hu.below (fun b e => by rw [e, hBx]; omega) HB17.out.size))
        clear hBx
        go_loopg [156] n3 (fun gk v156 wr => ∃ (q : Nat) (FK : Nat → Prop) (vK : Value), q ≤ n3 ∧ gk = n3 - q ∧ v156 = .int .i64 q ∧ Only w17 wr (fun b => b = Bx) ∧ wr.heap[Bx]? = some (.cells #[.int .i64 (pk.1 : Int), vK] 111 (0, 0)) ∧ GL Rep.int 3 wr FK vK ((pk.2.take q).map fun y => (ixK L' y : Int)) ∧ ∀ b, FK b → w17.heap.size ≤ b ∧ b < wr.heap.size)
        case atStart => exact ⟨0, fun _ => False, .slice none 0 0, Nat.zero_le _, rfl, rfl, Only.refl _ _, HX17.out, GL.nil _ _, fun b h => h.elim⟩
        case round =>
         obtain ⟨q, FK, vK, hqn, hg, rfl, ho, hbf, hgl, hfn⟩ := hrel
         obtain ⟨w18, rfl⟩ := zE wr
         have HG18 := zh hg
         have HO18 := zh ho
         have HBX18 := zh hbf
         have HGL18 := zh hgl
         have HFK18 := zh hfn
         have HBS18 := zh (HBS15.out.below (HLOW17.out w18 ho))
         have HSK18 := zh ((HSK.out.below HB17.out).keep (ho.kept fun b hb e => by have := (HBS15.out.pb b hb).1.2; have := HBX.out; omega))
         clear hg ho hbf hgl hfn
         by_cases hql : q < n3
         ·
          have hqI : (q : Int) < (n3 : Int) := by omega
          have hq0 : (0 : Int) ≤ (q : Int) := by omega
          obtain ⟨bK, oK, y, rfl, hbK, hy, y0, y1, y2, y3⟩ := HSK18.out.keyAt hql
          have HY := zh hy
          have HYL := zh (HFO.out.cl x (List.mem_of_getElem? HX.out) y ⟨pk, List.mem_of_getElem? HPK.out, List.mem_of_getElem? hy⟩)
          have HOKY := zh ((HC.out.kb (HDE.out y HYL.out)).ok)
          obtain ⟨w19, hw19⟩ := zE (w18.alloc (.cells #[.bool y.1.1, .int .i64 y.1.2, .int .i64 (y.2.1 : Int), .int .i64 (y.2.2 : Int)] 144))
          have hb19 : Below w18.heap.size w18 w19 := by rw [hw19]; exact (Below.refl _ _).alloc (Nat.le_refl _) _
          have hk19 : w19.heap[w18.heap.size]? = some (.cells #[.bool y.1.1, .int .i64 y.1.2, .int .i64 (y.2.1 : Int), .int .i64 (y.2.2 : Int)] 144 (0, 0)) := by
           rw [hw19]
           exact heap_alloc_new _ _
          have HW19 := zh hw19
          have HB19 := zh hb19
          have HBS19 := zh (HBS18.out.below hb19)
          have HK19 := zh hk19
          have HZ19 := zh (show w19.heap.size = w18.heap.size + 1 by rw [hw19]; simp)
          have HBX19 := zh ((hb19.block _ (heap_lt HBX18.out)).trans HBX18.out)
          obtain ⟨iy, hiy⟩ := zE (ixK L' y)
          have HIY := zh hiy
          obtain ⟨A', c', w20, hrun, ⟨s0, s1⟩, hgl20, hbx20, ho20, hoF⟩ := ((HGL18.out.below hb19).below (Below.refl _ w19).drew).field tInts rfl (x := (iy : Int)) (ys := [.int .i64 (iy : Int)]) (G := fun _ => False) rfl (fun b hb => hb.elim) (by rw [List.length_map, List.length_take]; omega) (by omega) 22 (B := Bx) (i := 1) HBX19.out rfl (fun h => by have := (HFK18.out _ h).1; have := HZ17.out; have := HBX.out; omega) id
          rw [show ((pk.2.take q).map fun y => (ixK L' y : Int)).length = q by rw [List.length_map, List.length_take]; have := HN3.out; omega] at hrun hgl20 hbx20 ho20
          have HRUN := zh hrun
          have HGL20 := zh hgl20
          have HBX20 := zh (show (w20.setCell ⟨Bx, 1, none⟩ (.slice A' (q + 1) c')).heap[Bx]? = some (.cells #[.int .i64 (pk.1 : Int), .slice A' (q + 1) c'] 111 (0, 0)) from hbx20)
          have HO20 := zh ho20
          have HS19 := zh (show ∀ u : World, Below w19.heap.size w19 u → ((u.cell? ⟨w18.heap.size, 0, none⟩ = some (.bool y.1.1) ∧ u.cell? ⟨w18.heap.size, 1, none⟩ = some (.int .i64 y.1.2) ∧ u.cell? ⟨w18.heap.size, 2, none⟩ = some (.int .i64 (y.2.1 : Int)) ∧ u.cell? ⟨w18.heap.size, 3, none⟩ = some (.int .i64 (y.2.2 : Int))) ∧ AMap KKey u Bu (nmK L')) ∧ u.cell? ⟨Bx, 1, none⟩ = some vK from fun u hu => by
           have h1 := (hu.block _ (heap_lt hk19)).trans hk19
           have h2 := (hu.block _ (heap_lt HBX19.out)).trans HBX19.out
           exact ⟨⟨⟨by simp [World.cell?, h1], by simp [World.cell?, h1], by simp [World.cell?, h1], by simp [World.cell?, h1]⟩, HBS19.out.sn.below hu⟩, by simp [World.cell?, h2]⟩)
          have HUX := zh (show w18.heap.size < w19.heap.size ∧ w18.heap.size ≠ Bx ∧ Bu ≠ Bx ∧ Bu < w19.heap.size ∧ ∀ b, FK b → b ≠ w18.heap.size ∧ b ≠ Bu from by
           have h1 := HBS15.out.sn.lt
           have h2 := HB17.out.size
           have h3 := HO18.out.size
           have h4 := HZ17.out
           have h5 := HZ19.out
           have h6 := HBX.out
           exact ⟨by omega, by omega, by omega, by omega, fun b hb => by have := HFK18.out b hb; exact ⟨by omega, by omega⟩⟩)
          have HSO := zh (show ∀ (u : World) (X : Nat → Prop), Only w19.drew u X → (∀ b, X b → b ≠ w18.heap.size ∧ b ≠ Bu) → ((u.cell? ⟨w18.heap.size, 0, none⟩ = some (.bool y.1.1) ∧ u.cell? ⟨w18.heap.size, 1, none⟩ = some (.int .i64 y.1.2) ∧ u.cell? ⟨w18.heap.size, 2, none⟩ = some (.int .i64 (y.2.1 : Int)) ∧ u.cell? ⟨w18.heap.size, 3, none⟩ = some (.int .i64 (y.2.2 : Int))) ∧ AMap KKey u Bu (nmK L')) from fun u X hu hX => by
           have h1 := (hu.block _ HUX.out.1 (fun h => (hX _ h).1 rfl)).trans hk19
           exact ⟨⟨by simp [World.cell?, h1], by simp [World.cell?, h1], by simp [World.cell?, h1], by simp [World.cell?, h1]⟩, HBS19.out.sn.drew.only hu fun h => (hX _ h).2 rfl⟩)
          have HS20 := zh (And.intro (HSO.out w20 _ hoF HUX.out.2.2.2.2) s0)
          have HS21 := zh (HSO.out _ _ ho20 (fun b hb => by
           have h := HUX.out
           rcases hb with hb | hb
           · exact h.2.2.2.2 b hb
           exact ⟨fun e => h.2.1 (e ▸ hb), fun e => h.2.2.1 (e ▸ hb)⟩))
          clear hy hbK hw19 hb19 hk19 hiy hrun hgl20 hbx20 ho20 hoF
          go_wp2_with fail
          rw [← HW19.out]
          refine wp_region_late (late := [8]) (S1 := fun u => (u.cell? ⟨w18.heap.size, 0, none⟩ = some (.bool y.1.1) ∧ u.cell? ⟨w18.heap.size, 1, none⟩ = some (.int .i64 y.1.2) ∧ u.cell? ⟨w18.heap.size, 2, none⟩ = some (.int .i64 (y.2.1 : Int)) ∧ u.cell? ⟨w18.heap.size, 3, none⟩ = some (.int .i64 (y.2.2 : Int))) ∧ AMap KKey u Bu (nmK L')) (S := fun u => u.cell? ⟨Bx, 1, none⟩ = some vK) (by kernel_rfl) ?_
          refine zP (i := 0) rfl (fun u hu => by go_simp; try rfl) (HS19.out _ (Below.refl w19.heap.size w19).drew).1 (fun _ => (HS19.out _ (Below.refl w19.heap.size w19).drew).2) ?_
          simp only [Act.put, zA, zB, zC, zD, zF, zG]
          refine wpAnyL_take (i := 1) rfl (by kernel_rfl) (fun _ _ _ h => h) (Or.inl ⟨by rfl, (fun u hu => by have hu2 := hu.2; go_simp; try rfl)⟩) (HS19.out _ (Below.refl w19.heap.size w19).drew).1 (fun _ => (HS19.out _ (Below.refl w19.heap.size w19).drew).2) ?_
          simp only [Act.put, zA, zB, zC, zD, zF, zG]
          refine zP (i := 2) rfl (fun u hu => by go_simp; try rfl) (HS19.out _ (Below.refl w19.heap.size w19).drew).1 (fun _ => (HS19.out _ (Below.refl w19.heap.size w19).drew).2) ?_
          simp only [Act.put, zA, zB, zC, zD, zF, zG]
          refine zP (i := 3) rfl (fun u hu => by obtain ⟨⟨j0, j1, j2, j3⟩, _⟩ := hu; go_simp; try rfl) (HS19.out _ (Below.refl w19.heap.size w19).drew).1 (fun _ => (HS19.out _ (Below.refl w19.heap.size w19).drew).2) ?_
          simp only [Act.put, zA, zB, zC, zD, zF, zG]
          refine zP (i := 4) rfl (fun u hu => by have hm := hu.2; have hl : (Instr.lookup 154 (.map (some Bu)) (.agg #[.bool y.1.1, .int .i64 y.1.2, .int .i64 (y.2.1 : Int), .int .i64 (y.2.2 : Int)]) false).run Tryz.prog u = .ok (.int .i64 (iy : Int)) u := (AMap.look (K := KKey) hm mapKI zeroKI HOKY.out).trans (by rw [lk_nmK HND.out HYL.out, ← HIY.out]); clear hm hu; go_simp; try rfl) (HS19.out _ (Below.refl w19.heap.size w19).drew).1 (fun _ => (HS19.out _ (Below.refl w19.heap.size w19).drew).2) ?_
          simp only [Act.put, zA, zB, zC, zD, zF, zG]
          refine zR 5 rfl (fun K hK => ?_)
          go_simp
          refine hK.out _ _ (HS19.out _ ((Below.refl w19.heap.size w19).drew.alloc (Nat.le_refl _) _)).1 (fun _ => (HS19.out _ ((Below.refl w19.heap.size w19).drew.alloc (Nat.le_refl _) _)).2) ?_
          clear hK K
          refine zR 6 rfl (fun K hK => ?_)
          refine step_append_run _ (by rfl) _ _ _ _ (by rfl) _ _ (by rfl) (by rfl) _ _ HRUN.out ?_
          simp only [Act.put, zA, zB, zC, zD, zF, zG]
          refine hK.out _ _ HS20.out.1 (fun _ => HS20.out.2) ?_
          clear hK K
          refine zP (i := 7) rfl (fun u hu => by go_simp; try rfl) HS20.out.1 (fun _ => HS20.out.2) ?_
          simp only [Act.put, zA, zB, zC, zD, zF, zG]
          refine zR 8 rfl (fun K hK => ?_)
          go_simp
          refine hK.out _ _ HS21.out (fun h => absurd (h 8 (by simp)) (by decide)) ?_
          clear hK K
          refine wpAnyL_done (by kernel_rfl) ?_ _
          go_wp2_with fail
          go_roundg (n3 - (q + 1))
          case measure => rw [HG18.out]; omega
          case rel =>
           have hz1 := HO18.out.size
           have hz2 := HZ19.out
           have hz3 := HO20.out.size
           have hz4 : w19.drew.heap.size = w19.heap.size := rfl
           refine ⟨q + 1, fun b => (FK b ∨ False ∨ b = w19.drew.heap.size + 1) ∧ b < (w20.setCell ⟨Bx, 1, none⟩ (.slice A' (q + 1) c')).heap.size, .slice A' (q + 1) c', by omega, rfl, by go_num, (HO18.out.trans (.of_below HB19.out.drew (Nat.le_refl _) _)).newerP HO20.out ?_, HBX20.out, ?_, fun b hb => ?_⟩
           ·
            intro b hb hy
            rcases hy with h | h
            · have := (HFK18.out b h).1; omega
            exact h
           ·
            rw [List.take_add_one, HY.out, List.map_append, show (some y).toList.map (fun y => (ixK L' y : Int)) = [(iy : Int)] by rw [HIY.out]; rfl]
            exact HGL20.out.fit
           refine ⟨?_, hb.2⟩
           rcases hb.1 with h | h | h
           · exact (HFK18.out b h).1
           · exact h.elim
           omega
         obtain rfl : q = n3 := by omega
         have hgl := HGL18.out
         have htk : pk.2.take q = pk.2 := List.take_of_length_le (by rw [← HN3.out]; exact Nat.le_refl _)
         rw [htk] at hgl
         obtain ⟨AK, cK, hvK, _⟩ := hgl.form
         rw [List.length_map, ← HN3.out] at hvK
         subst hvK
         have hz1 := HO18.out.size
         have hz2 := HZ17.out
         have hz3 := HBX.out
         have hz4 := HBD.out
         have hz5 := HZ14.out
         have hbd18 := ((HLOW17.out w18 HO18.out).block _ (heap_lt HBN15.out)).trans HBN15.out
         have hsl := hgl.sl (A := AK) (n := q) (c := cK)
         obtain ⟨A', c', w20, hrun, ⟨s0, s1⟩, hgl20, hbx20, ho20, _⟩ := (HGL15.out.below (HLOW17.out w18 HO18.out)).field tPacks rfl (x := pkZ L' pk) (ys := [.int .i64 (pk.1 : Int), .slice AK q cK]) (G := FK) (RPack.cells.2 ⟨AK, q, cK, rfl, hsl⟩) (fun b hb e => by have h1 := (HFK18.out b hb).1; have h2 := (HFP15.out _ (HGL15.out.row _ e)).2; omega) (by rw [List.length_map, List.length_take]; omega) (by omega) 104 (B := Bd) (i := 4) hbd18 rfl (fun h => by have := (HFP15.out _ h).1; omega) (fun h => by have := (HFK18.out _ h).1; have := heap_lt HBN15.out; omega)
         rw [show (((packsP C.g.2.2.2 C.ws x).take p).map (pkZ L')).length = p by rw [List.length_map, List.length_take, ← HNP.out]; omega] at hrun hgl20 hbx20 ho20
         have HRUN := zh hrun
         have HGL20 := zh hgl20
         have HBX20 := zh (show (w20.setCell ⟨Bd, 4, none⟩ (.slice A' (p + 1) c')).heap[Bd]? = some (.cells #[.bool x.1.1, .int .i64 x.1.2, .int .i64 (x.2.1 : Int), .int .i64 (x.2.2 : Int), .slice A' (p + 1) c'] 106 (0, 0)) from hbx20)
         have HO20 := zh ho20
         have n4 : w18.cell? ⟨Bd, 4, none⟩ = some vP := by simp [World.cell?, hbd18]
         have hbx := HBX18.out
         have n5 : w18.cell? ⟨Bx, 0, none⟩ = some (.int .i64 (pk.1 : Int)) := by simp [World.cell?, hbx]
         have n6 : w18.cell? ⟨Bx, 1, none⟩ = some (.slice AK q cK) := by simp [World.cell?, hbx]
         clear hgl htk hz1 hz2 hz3 hz4 hz5 hbd18 hsl hrun hgl20 hbx20 ho20 hbx
         go_wp2_with (at_builtin; refine Lib.wpList_append_run (o := ⟨some 173, _, _, _, _, _⟩) _ rfl _ _ _ _ rfl _ _ rfl rfl _ _ HRUN.out ?_)
         go_roundg (np - (p + 1))
         case measure => rw [HG15.out]; omega
         case rel =>
          have hz1 := HO18.out.size
          have hz2 := HZ17.out
          have hz3 := HO15.out.size
          have hz4 := HO20.out.size
          refine ⟨p + 1, fun b => (FP b ∨ FK b ∨ b = w18.heap.size + 1) ∧ b < (w20.setCell ⟨Bd, 4, none⟩ (.slice A' (p + 1) c')).heap.size, .slice A' (p + 1) c', by omega, rfl, by go_num, (HO15.out.trans (.of_below (HLOW17.out w18 HO18.out) (Nat.le_refl _) _)).newerP HO20.out ?_, HBX20.out, ?_, fun b hb => ?_⟩
          ·
           intro b hb hy
           rcases hy with h | h
           · have := (HFP15.out b h).1; omega
           exact h
          ·
           rw [List.take_add_one, HPK.out, List.map_append]
           exact HGL20.out.fit
          refine ⟨?_, hb.2⟩
          rcases hb.1 with h | h | h
          · exact (HFP15.out b h).1
          · have := (HFK18.out b h).1; omega
          omega
       obtain rfl : p = np := by omega
       have hgl := HGL15.out
       have htk : (packsP C.g.2.2.2 C.ws x).take p = packsP C.g.2.2.2 C.ws x := List.take_of_length_le (by rw [← HNP.out]; exact Nat.le_refl _)
       rw [htk] at hgl
       obtain ⟨AQ, cQ, hvQ, _⟩ := hgl.form
       rw [List.length_map, ← HNP.out] at hvQ
       subst hvQ
       have HGLQ := zh hgl
       have hsl := hgl.sl (A := AQ) (n := p) (c := cQ)
       have HSTP := zh (show StP w15 FP AQ p cQ ((packsP C.g.2.2.2 C.ws x).map (pkZ L')) from ⟨hsl, packs_ord HSR.out fun y hy => HFO.out.cl x (List.mem_of_getElem? HX.out) y hy, fun z hz => by
        obtain ⟨pk, hpk, rfl⟩ := List.mem_map.1 hz
        have := packs_kids HC.out hpk
        show ((pk.2.map fun y => (ixK L' y : Int)).length ≤ 1000000)
        rw [List.length_map]
        omega, by omega⟩)
       have hbn := HBN15.out
       have n4 : w15.cell? ⟨Bd, 4, none⟩ = some (.slice AQ p cQ) := by simp [World.cell?, hbn]
       clear hgl htk hsl hbn
       go_wp2_with (first
        | (go_at_call 72; refine (sortStable w15 FP AQ p cQ _ HSTP.out).mono ?_; rintro e w16 ⟨rfl, hb16⟩; have hbn := (hb16.block _ (heap_lt HBN15.out)).trans HBN15.out; have m0 : w16.cell? ⟨Bd, 0, none⟩ = some (.bool x.1.1) := (by simp [World.cell?, hbn]); have m1 : w16.cell? ⟨Bd, 1, none⟩ = some (.int .i64 x.1.2) := (by simp [World.cell?, hbn]); have m2 : w16.cell? ⟨Bd, 2, none⟩ = some (.int .i64 (x.2.1 : Int)) := (by simp [World.cell?, hbn]); have m3 : w16.cell? ⟨Bd, 3, none⟩ = some (.int .i64 (x.2.2 : Int)) := (by simp [World.cell?, hbn]); have m4 : w16.cell? ⟨Bd, 4, none⟩ = some (.slice AQ p cQ) := (by simp [World.cell?, hbn]); have hlw := (HLOW14.out w15 HO15.out).trans (hb16.mono (HLOW14.out w15 HO15.out).size); have hbf := (hlw.block _ (heap_lt HBF12.out)).trans HBF12.out; have m5 : w16.cell? ⟨Bf, 0, none⟩ = some vN := (by simp [World.cell?, hbf]); have hs16 := (HGLQ.out.below hb16).sl (A := AQ) (n := p) (c := cQ); have hz1 := HZ11.out; have hz2 := HO12.out.size; have hz3 := HB14.out.size; obtain ⟨A', c', w17, hrun, ⟨s0, s1⟩, hgl17, hbx17, ho17, _⟩ := (HGL12.out.below hlw).field tNodes rfl (x := nodeZ C.g.2.2.2 C.ws L' x) (ys := [.bool x.1.1, .int .i64 x.1.2, .int .i64 (x.2.1 : Int), .int .i64 (x.2.2 : Int), .slice AQ p cQ]) (G := FP) (RNode.cells.2 ⟨AQ, p, cQ, rfl, hs16⟩) (fun b hb e => (by have h1 := (HFP15.out b hb).1; have h2 := (HFN12.out _ (HGL12.out.row _ e)).2; omega)) (by rw [List.length_map, List.length_take]; omega) (by omega) 36 (B := Bf) (i := 0) hbf rfl (fun h => by have := (HFN12.out _ h).1; omega) (fun h => by have := (HFP15.out _ h).1; omega); rw [show ((L'.take a).map (nodeZ C.g.2.2.2 C.ws L')).length = a by rw [List.length_map, List.length_take, HLN'.out]; omega] at hrun hgl17 hbx17 ho17; have HRUN := zh hrun; have HGL17 := zh hgl17; have HBX17 := zh (show (w17.setCell ⟨Bf, 0, none⟩ (.slice A' (a + 1) c')).heap[Bf]? = some (.cells #[.slice A' (a + 1) c', .int .i64 (ir : Int)] 38 (0, 0)) from hbx17); have HO17 := zh ho17; have HLW := zh hlw; clear hb16 hbn hlw hbf hs16 hz1 hz2 hz3 hrun hgl17 hbx17 ho17)
        | (at_builtin; refine Lib.wpList_append_run (o := ⟨some 183, _, _, _, _, _⟩) _ rfl _ _ _ _ rfl _ _ rfl rfl _ _ HRUN.out ?_))
       go_roundg (j - (a + 1))
       case measure => rw [HG12.out]; omega
       case rel =>
        have hz1 := HO12.out.size
        have hz2 := HB14.out.size
        have hz3 := HLW.out.size
        have hz4 := HO17.out.size
        refine ⟨a + 1, fun b => (FN b ∨ FP b ∨ b = w16.heap.size + 1) ∧ b < (w17.setCell ⟨Bf, 0, none⟩ (.slice A' (a + 1) c')).heap.size, .slice A' (a + 1) c', by omega, rfl, by go_num, (HO12.out.trans (.of_below HLW.out (Nat.le_refl _) _)).newerP HO17.out ?_, HBX17.out, ?_, fun b hb => ?_⟩
        ·
         intro b hb hy
         rcases hy with h | h
         · have := (HFN12.out b h).1; omega
         exact h
        ·
         rw [List.take_add_one, HX.out, List.map_append]
         exact HGL17.out.fit
        refine ⟨?_, hb.2⟩
        rcases hb.1 with h | h | h
        · exact (HFN12.out b h).1
        · have := (HFP15.out b h).1; omega
        omega
     obtain rfl : a = j := by omega
     have hgl := HGL12.out
     have htk : L'.take a = L' := by rw [← HLN'.out]; exact List.take_length
     rw [htk] at hgl
     obtain ⟨AN, cN, hvN, _⟩ := hgl.form
     rw [List.length_map, HLN'.out] at hvN
     subst hvN
     have HGLA := zh hgl
     have hg1 := (HBS12.out.low.block (B0 + 1) (by have := HZ4.out; omega)).trans HG1.out
     have hbf := HBF12.out
     have d0 : w12.cell? ⟨B0 + 1, 0, none⟩ = some (.slice none 0 0) := by simp [World.cell?, hg1]
     have d1 : w12.cell? ⟨B0 + 1, 1, none⟩ = some (.int .i64 0) := by simp [World.cell?, hg1]
     have f0 : w12.frozen? ⟨B0 + 1, 0, none⟩ = false := by simp [World.frozen?, hg1]
     have f1 : w12.frozen? ⟨B0 + 1, 1, none⟩ = false := by simp [World.frozen?, hg1]
     have m0 : w12.cell? ⟨Bf, 0, none⟩ = some (.slice AN a cN) := by simp [World.cell?, hbf]
     have m1 : w12.cell? ⟨Bf, 1, none⟩ = some (.int .i64 (ir : Int)) := by simp [World.cell?, hbf]
     have HG1B := zh hg1
     clear hgl htk hg1 hbf
     go_wp2_with fail
     obtain ⟨h5, ho5⟩ := two_set HG1B.out (.slice AN a cN) (.int .i64 (ir : Int))
     have r0 : ((w12.setCell ⟨B0 + 1, 0, none⟩ (.slice AN a cN)).setCell ⟨B0 + 1, 1, none⟩ (.int .i64 (ir : Int))).cell? ⟨B0 + 1, 0, none⟩ = some (.slice AN a cN) := by simp [World.cell?, h5]
     have r1 : ((w12.setCell ⟨B0 + 1, 0, none⟩ (.slice AN a cN)).setCell ⟨B0 + 1, 1, none⟩ (.int .i64 (ir : Int))).cell? ⟨B0 + 1, 1, none⟩ = some (.int .i64 (ir : Int)) := by simp [World.cell?, h5]
     have hl5 := cell_lt r0
     have hz := HZ4.out
     have hz0 := HBS12.out.low.size
     have hz11 := HB11.out.size
     have hzb := HBSA.out.zw
     have hB0 := HB0.out
     refine Go.bodyPost_ret (v := .tuple #[.agg #[(.slice AN a cN), .int .i64 (ir : Int)], .bool true]) ?_ ?_ ?_
     ·
      rw [results_cell_tmp rfl]
      simp [go_sem, r0, r1, hl5]
     · rfl
     refine ⟨.inr (.inl ⟨HD.out, FN, (.slice AN a cN), L', ?_, ?_, ⟨HFO.out, HDE.out, HRC.out, HSR.out, HRT.out⟩, by rw [HLN'.out]; exact hm8, fun b hb => ?_⟩), ?_⟩
     · rw [HIR.out, show C.root = ((false, (st : Int)), 0, C.nw) by unfold BdC.root; rw [HSS.out]]
     · exact HGLA.out.only ho5 fun b hb _ e => by have := (HFN12.out b hb).1; omega
     · have := (HFN12.out b hb).1; omega
     have h0 := HB04.out
     have h1 := ho5.below (B := w.heap.size) (fun b e => by omega) (by omega)
     have h2 := HBS12.out.low.mono (show w.heap.size ≤ B3 + 1 by omega)
     exact h0.trans (h2.trans h1)
end Go.Proofs.YtjnbjdbndbbanaaGreatDoor
