/- PkS -/
import Derived.Test.YtjnbjdbndbbanaaGreatDoorTc27
namespace Go.Proofs.YtjnbjdbndbbanaaGreatDoor
open Go.RowKit
theorem bit0_val {X n : Nat} (hX : X < 4294967296) : (bits .and .u32 ((X : Int) / (2 : Int) ^ n) 1 == 0) = !X.testBit n := by
 have e : (X : Int) / (2 : Int) ^ n = ((X / 2 ^ n : Nat) : Int) := by simp
 have h1 : X / 2 ^ n < 4294967296 := Nat.lt_of_le_of_lt (Nat.div_le_self _ _) hX
 rw [e, show (1 : Int) = ((1 : Nat) : Int) from rfl, u32_and_nat _ _ h1 (by decide), Nat.and_one_is_mod, Nat.testBit_eq_decide_div_mod_eq]
 have hq : X / 2 ^ n % 2 < 2 := Nat.mod_lt _ (by omega)
 generalize X / 2 ^ n % 2 = q at hq
 rw [Bool.eq_iff_iff, beq_iff_eq, Bool.not_eq_true', decide_eq_false_iff_not]
 omega
theorem low_min {x : Nat} (h : x ≠ 0) : ∃ p, x.testBit p = true ∧ (∀ i, (x &&& (x - 1)).testBit i = (x.testBit i && !decide (i = p))) ∧ x &&& (x - 1) < x ∧ (∀ n, x < 2 ^ n → p < n ∧ x &&& (2 ^ n - x) = 2 ^ p) ∧ ∀ i, i < p → x.testBit i = false := by
 obtain ⟨p, h1, h2, h3, h4⟩ := low_of h
 refine ⟨p, h1, h2, h3, h4, fun i hi => ?_⟩
 obtain ⟨q, m, rfl⟩ := low_split x h
 have hq : (2 ^ q * (2 * m + 1)).testBit q = true := by rw [low_bit, if_neg (by omega), if_pos rfl]
 have h5 := h2 q
 rw [Nat.testBit_and, pred_bit, if_neg (by omega), if_pos rfl, hq] at h5
 have e : q = p := by simpa using h5
 subst e
 rw [low_bit, if_pos hi]
theorem Sl.take1 {α : Type} {R : Rep α} {w : World} {S : Nat → Prop} {A : Option Addr} {n c : Nat} {x : α} {l : List α} (h : Sl R w S A n c (x :: l)) : Sl R w S A 1 c [x] := by
 obtain ⟨xs, e1, e2, h3, cs, rest, rfl, h4, _⟩ := h
 have hn : 0 < n := by rw [e1]; simp
 obtain ⟨b, off, e, hS, hc⟩ := h3.2 hn
 refine ⟨cs, rfl, by omega, ⟨by rw [R.len h4, Nat.one_mul], fun _ => ⟨b, off, e, hS, fun j u hu => hc j u ?_⟩⟩, Cells.single h4⟩
 rw [List.getElem?_append_left (List.getElem?_eq_some_iff.1 hu).1]
 exact hu
theorem cutP {α : Type} {R : Rep α} {P : Program} {T E s bytes : Nat} {z : Value} (hT : SlType P T E s bytes z) (hs : R.size = s) {w : World} {S : Nat → Prop} {A : Option Addr} {n c : Nat} {l : List α} (h : Sl R w S A n c l) (k : Nat) (hk : k ≤ n) :
    ∃ A', (∀ u, (Instr.slice T (.slice A n c) (some (.int .i64 (k : Int))) none none).run P u = .ok (.slice A' (n - k) (c - k)) u) ∧ Sl R w S A' (n - k) (c - k) (l.drop k) := by
 subst hs
 obtain ⟨xs, h1, h2, h3, h4⟩ := h
 obtain ⟨A', hrun, hr⟩ := hT.cutl (c := c) h3 (k : Int) (by omega) (by omega) h2
 rw [Int.toNat_natCast] at hr
 refine ⟨A', fun u => by rw [hrun u, Int.toNat_natCast], xs.drop (k * R.size), by rw [List.length_drop]; omega, by omega, hr, h4.drop⟩
theorem rd_lit (w : World) (S : Nat → Prop) (E : TypeId) (ys : List Value) (sz : Nat) (hl : ys.length = sz) (hS : S w.heap.size) : Rd (w.alloc (.cells ys.toArray E)) S sz (some ⟨w.heap.size, 0, none⟩) 1 ys :=
 ⟨by rw [hl, Nat.one_mul], fun _ => ⟨w.heap.size, 0, rfl, hS, fun j u hu => by rw [World.cell?_alloc_at _ _ _ _ rfl]; simpa using hu⟩⟩
theorem Only.newerP {w w' w'' : World} {X Y : Nat → Prop} (h : Only w w' X) (h' : Only w' w'' Y) (hY : ∀ b, b < w.heap.size → Y b → X b) : Only w w'' X :=
 ⟨h'.os.trans h.os, h'.tape.trans h.tape, h'.output.trans h.output, Nat.le_trans h.size h'.size, fun b hb hx => (h'.block b (Nat.lt_of_lt_of_le hb h.size) fun hy => hx (hY b hb hy)).trans (h.block b hb hx)⟩
theorem splP_none {R : List RuleD} {ws : List Int} {l : List SymD} {i j : Nat} (h : ¬ DerW R ws l i j) : splP R ws l i j = [] := by
 apply List.eq_nil_iff_forall_not_mem.2
 intro ks hk
 cases l with
 | nil =>
  rw [splP_nil] at hk
  split at hk
  · next e => subst e; exact h .nil
  cases hk
 | cons s l =>
  obtain ⟨k, _, _, h1, h2, _⟩ := mem_splP_cons.1 hk
  exact h (h1.cons h2)
open Classical in
noncomputable def splU (R : List RuleD) (ws : List Int) (s : SymD) (l : List SymD) (i j q : Nat) : List (List KeyD) := ((List.range q).filter fun k => decide (DerW R ws [s] i k ∧ DerW R ws l k j)).flatMap fun k => (splP R ws l k j).map fun ks => (s, i, k) :: ks
section
variable {R : List RuleD} {ws : List Int} {s : SymD} {l : List SymD} {i j : Nat}
theorem splU_all : splU R ws s l i j (j + 1) = splP R ws (s :: l) i j := rfl
open Classical in
theorem splU_succ (q : Nat) : splU R ws s l i j (q + 1) = splU R ws s l i j q ++ (if DerW R ws [s] i q ∧ DerW R ws l q j then (splP R ws l q j).map fun ks => (s, i, q) :: ks else []) := by
 unfold splU
 rw [List.range_succ, List.filter_append, List.flatMap_append]
 congr 1
 by_cases h : DerW R ws [s] i q ∧ DerW R ws l q j
 ·
  rw [if_pos h]
  simp [h]
 rw [if_neg h]
 simp [h]
theorem splU_bit {q : Nat} (h : DerW R ws [s] i q) : splU R ws s l i j (q + 1) = splU R ws s l i j q ++ (splP R ws l q j).map fun ks => (s, i, q) :: ks := by
 rw [splU_succ]
 by_cases h2 : DerW R ws l q j
 · rw [if_pos ⟨h, h2⟩]
 rw [if_neg (fun e => h2 e.2), splP_none h2]
 rfl
theorem splU_skip {q : Nat} (h : ¬ DerW R ws [s] i q ∨ j < q) : splU R ws s l i j (q + 1) = splU R ws s l i j q := by
 rw [splU_succ, if_neg, List.append_nil]
 rintro ⟨h1, h2⟩
 rcases h with h | h
 · exact h h1
 have := h2.le.1; omega
theorem splU_same {q : Nat} : ∀ (d : Nat), (∀ k, q ≤ k → k < q + d → ¬ DerW R ws [s] i k ∨ j < k) → splU R ws s l i j (q + d) = splU R ws s l i j q
 | 0, _ => rfl
 | d + 1, h => by
  rw [← Nat.add_assoc, splU_skip (h (q + d) (by omega) (by omega)), splU_same d fun k h1 h2 => h k h1 (by omega)]
theorem splU_end {q : Nat} (h : ∀ k, q ≤ k → ¬ DerW R ws [s] i k ∨ j < k) : splU R ws s l i j q = splP R ws (s :: l) i j := by
 rw [← splU_all]
 rcases Nat.lt_or_ge j q with h1 | h1
 ·
  obtain ⟨d, rfl⟩ : ∃ d, q = j + 1 + d := ⟨q - (j + 1), by omega⟩
  exact splU_same d fun k h2 _ => .inr (by omega)
 obtain ⟨d, e⟩ : ∃ d, j + 1 = q + d := ⟨j + 1 - q, by omega⟩
 rw [e]
 exact (splU_same d fun k h2 _ => h k h2).symm
theorem splU_len (q : Nat) : (splU R ws s l i j q).length ≤ (splP R ws (s :: l) i j).length := by
 have hm : ∀ d, (splU R ws s l i j q).length ≤ (splU R ws s l i j (q + d)).length := by
  intro d
  induction d with
  | zero => exact Nat.le_refl _
  | succ d ih => rw [← Nat.add_assoc, splU_succ, List.length_append]; omega
 have h1 := hm (j + 1)
 rw [splU_end (q := q + (j + 1)) fun k hk => .inr (by omega)] at h1
 exact h1
end
set_option linter.unusedSimpArgs false in
set_option maxRecDepth 1000000 in
set_option maxHeartbeats 8000000 in
theorem pkS (C : PkC) (hC : C.Ok) (s : SymD) (l : List SymD) (ih : PkAt C l) : PkAt C (s :: l) := by
 intro u F v ps S1 A1 n1 c1 fr S2 A2 n2 c2 ini hin hl hS1 hno hll hfr hsl hS2 hil hpl
 have HC := zh hC
 have HIH := zh ih
 have HI := zh hin.fit
 have HSL := zh hsl
 have HL1 := zh hl
 have HNO := zh hno
 have HPL := zh hpl
 have hn1 := hl.len
 obtain ⟨nn, hnn⟩ := zE l.length
 have HNN := zh hnn
 have hn2 := hsl.len
 have hn2b : n2 ≤ 100 := by omega
 simp only [List.length_cons] at hn1 hll hil
 rw [← hnn] at hn1 hll hil
 have hil2 : n2 + (nn + 1) ≤ 100 := by omega
 have HIL := zh (show ini.length = n2 from hn2.symm)
 subst hn1
 obtain ⟨bl, ol, u1, u2, s', hA, hSb, hls, hok, hc1, hc2⟩ := hl.at2 (k := 0) rfl (by omega)
 have h2 := RSym.cells.1 hok
 injection h2 with e1 h2
 injection h2 with e2 _
 subst e1
 subst e2
 subst hA
 simp only [List.getElem?_cons_zero, Option.some.injEq] at hls
 subst hls
 obtain ⟨sb, sx⟩ := s
 have hc1 : u.cell? ⟨bl, ol, none⟩ = some (.bool sb) := by simpa using hc1
 have hc2 : u.cell? ⟨bl, ol + 1, none⟩ = some (.int .i64 sx) := by simpa using hc2
 have HCC := zh (And.intro hc1 hc2)
 have HSB := zh (hS1 bl hSb)
 have HS1 := zh hS1
 have HS2 := zh hS2
 obtain ⟨⟨_, _, _, k3⟩, k4, k5, k6, k7⟩ := hin.b.cells
 obtain ⟨kt, hkt⟩ := zE C.key.2.2
 rw [← hkt] at k3
 have hktn : kt ≤ C.nw := by rw [hkt]; exact hC.kt
 have HKT := zh hkt
 have hnw := hC.nw
 have hN10 := hC.N10
 have HS := zh (show ∀ x : World, Below u.heap.size u x → x.cell? ⟨C.Bk, 3, none⟩ = some (.int .i64 (kt : Int)) ∧ x.cell? ⟨C.Bw, 0, none⟩ = some (.slice C.Aw C.nw C.cw) ∧ x.cell? ⟨C.Be, 0, none⟩ = some (.slice (some ⟨C.gN, 0, none⟩) C.N C.N) from fun x hx => by
  have h1 := (hin.b.below hx).cells
  rw [hkt]
  exact ⟨h1.1.2.2.2, h1.2.2.1, h1.2.2.2.1⟩)
 have HBX := zh (show ∀ x : World, Below u.heap.size u x → PkB C x from fun x hx => hin.b.below hx)
 have hn0 : ((nn : Int) + 1 == 0) = false := by simp; omega
 have hn0b : ((nn : Int) + 1 != 0) = true := by simp; omega
 have hcut1 : ∀ x : World, (Instr.slice 58 (.slice (some ⟨bl, ol, none⟩) (nn + 1) c1) none (some (.int .i64 1)) none).run Tryz.prog x = .ok (.slice (some ⟨bl, ol, none⟩) 1 c1) x := fun x => tSyms.hN _ (nn + 1) c1 1 (by have := hl.cap; omega) x
 have hp13 : 2 ^ (C.nw + 1) ≤ 8192 := Nat.le_trans (Nat.pow_le_pow_right (by omega) (by omega : C.nw + 1 ≤ 13)) (by decide)
 have HP := zh hp13
 clear hC ih hin hl hS1 hno hsl hS2 hpl hok hn2 hkt hnn hp13 hc1 hc2 hSb
 go_enter Tryz.func85, Tryz.ntmps85
 go_wp2_with fail
 refine wp_region_late (late := []) (S1 := fun x => x.cell? ⟨C.Bk, 3, none⟩ = some (.int .i64 (kt : Int)) ∧ x.cell? ⟨C.Bw, 0, none⟩ = some (.slice C.Aw C.nw C.cw) ∧ x.cell? ⟨C.Be, 0, none⟩ = some (.slice (some ⟨C.gN, 0, none⟩) C.N C.N)) (S := fun _ => True) (by kernel_rfl) ?_
 clear k3 k4 k5 k6 k7
 refine zP (i := 0) rfl (fun u hu => by obtain ⟨k0, k1, k2⟩ := hu; go_simp; try rfl) (HS.out _ (Below.refl _ _).drew) zt ?_
 simp only [Act.put, zA, zB, zC, zD, zF, zG]
 refine zP (i := 1) rfl (fun u hu => by obtain ⟨k0, k1, k2⟩ := hu; go_simp; try rfl) (HS.out _ (Below.refl _ _).drew) zt ?_
 simp only [Act.put, zA, zB, zC, zD, zF, zG]
 refine zP (i := 2) rfl (fun u hu => by obtain ⟨k0, k1, k2⟩ := hu; go_simp; try rfl) (HS.out _ (Below.refl _ _).drew) zt ?_
 simp only [Act.put, zA, zB, zC, zD, zF, zG]
 refine zP (i := 3) rfl (fun u hu => by obtain ⟨k0, k1, k2⟩ := hu; go_simp; try rfl) (HS.out _ (Below.refl _ _).drew) zt ?_
 simp only [Act.put, zA, zB, zC, zD, zF, zG]
 refine zP (i := 5) rfl (fun u hu => by obtain ⟨k0, k1, k2⟩ := hu; go_simp; try rfl) (HS.out _ (Below.refl _ _).drew) zt ?_
 simp only [Act.put, zA, zB, zC, zD, zF, zG]
 refine zP (i := 6) rfl (fun u hu => by obtain ⟨k0, k1, k2⟩ := hu; go_simp; try rfl) (HS.out _ (Below.refl _ _).drew) zt ?_
 simp only [Act.put, zA, zB, zC, zD, zF, zG]
 refine zR 4 rfl (fun K hK => ?_)
 go_simp
 refine (coreReach (u.drew) (HBX.out _ (Below.refl _ _).drew).tb C.Sw _ C.Aw C.nw C.cw C.ws (HBX.out _ (Below.refl _ _).drew).rd hnw C.lo C.hi C.gN C.gs C.N C.E (HBX.out _ (Below.refl _ _).drew).gr (HBX.out _ (Below.refl _ _).drew).hi hN10 HC.out.hE _ _ c1 ((sb, sx) :: l) HL1.out.drew HNO.out (by omega) fr hfr).mono ?_
 rintro e w5 ⟨X, rfl, hX, hXR, hb5⟩
 have hb5 : Below u.heap.size u w5 := ((Below.refl _ _).drew).trans hb5
 have HB5 := zh hb5
 have HXR := zh hXR
 have HBT := zh (bit0_val (X := X) (n := kt) (by have := HP.out; omega))
 clear hX hXR hb5
 refine hK.out _ _ (HS.out _ HB5.out) zt ?_
 clear hK K
 refine zP (i := 7) rfl (fun u hu => by obtain ⟨k0, k1, k2⟩ := hu; go_simp; try rfl) (HS.out _ HB5.out) zt ?_
 simp only [Act.put, zA, zB, zC, zD, zF, zG]
 refine zP (i := 8) rfl (fun u hu => by obtain ⟨k0, k1, k2⟩ := hu; go_simp; try rfl) (HS.out _ HB5.out) zt ?_
 simp only [Act.put, zA, zB, zC, zD, zF, zG]
 refine zP (i := 9) rfl (fun u hu => by have htb := HBT.out; go_simp; try rfl) (HS.out _ HB5.out) zt ?_
 simp only [Act.put, zA, zB, zC, zD, zF, zG]
 refine wpAnyL_done (by kernel_rfl) ?_ _
 obtain ⟨b2, hb2⟩ := zE (X.testBit kt)
 rw [← hb2] at HBT ⊢
 cases b2 with
 | false =>
  have HNX := zh (show addK C ((sb, sx) :: l) fr ini = [] by
   unfold addK
   rw [splP_none (fun h => ?_)]
   · rfl
   have h1 := (HXR.out kt).2 (rch_complete HC.out.cl (by rw [HKT.out]; exact h) (by rw [HC.out.wl]; exact hfr))
   rw [← hb2] at h1
   cases h1)
  have HI5 := zh (HI.out.below HB5.out)
  clear hb2
  go_wp2_with fail
  refine Go.bodyPost_ret (v := .tuple #[]) (by simp [results, Tryz.results85, go_sem]) rfl ⟨fun b => F b ∧ b < u.heap.size, v, rfl, ?_, .of_below HB5.out (Nat.le_refl _) _, fun b hb => .inl hb.1⟩
  rw [HNX.out, List.append_nil]
  exact HI5.out
 | true =>
  clear hb2
  go_wp2_with fail
  refine wp_region_late (late := []) (S1 := fun x => x.cell? ⟨C.Bk, 3, none⟩ = some (.int .i64 (kt : Int)) ∧ x.cell? ⟨C.Bw, 0, none⟩ = some (.slice C.Aw C.nw C.cw) ∧ x.cell? ⟨C.Be, 0, none⟩ = some (.slice (some ⟨C.gN, 0, none⟩) C.N C.N)) (S := fun _ => True) (by kernel_rfl) ?_
  refine zP (i := 0) rfl (fun u hu => by obtain ⟨k0, k1, k2⟩ := hu; go_simp; try rfl) (HS.out _ HB5.out.drew) zt ?_
  simp only [Act.put, zA, zB, zC, zD, zF, zG]
  refine zP (i := 1) rfl (fun u hu => by obtain ⟨k0, k1, k2⟩ := hu; go_simp; try rfl) (HS.out _ HB5.out.drew) zt ?_
  simp only [Act.put, zA, zB, zC, zD, zF, zG]
  refine zP (i := 2) rfl (fun u hu => by obtain ⟨k0, k1, k2⟩ := hu; go_simp; try rfl) (HS.out _ HB5.out.drew) zt ?_
  simp only [Act.put, zA, zB, zC, zD, zF, zG]
  refine zP (i := 3) rfl (fun u hu => by obtain ⟨k0, k1, k2⟩ := hu; go_simp; try rfl) (HS.out _ HB5.out.drew) zt ?_
  simp only [Act.put, zA, zB, zC, zD, zF, zG]
  refine zP (i := 4) rfl (fun u hu => by obtain ⟨k0, k1, k2⟩ := hu; go_simp; try rfl) (HS.out _ HB5.out.drew) zt ?_
  simp only [Act.put, zA, zB, zC, zD, zF, zG]
  refine zR 5 rfl (fun K hK => ?_)
  go_simp
  refine (coreReach (w5.drew) (HBX.out _ HB5.out.drew).tb C.Sw _ C.Aw C.nw C.cw C.ws (HBX.out _ HB5.out.drew).rd hnw C.lo C.hi C.gN C.gs C.N C.E (HBX.out _ HB5.out.drew).gr (HBX.out _ HB5.out.drew).hi hN10 HC.out.hE _ _ c1 [(sb, sx)] (HL1.out.below HB5.out.drew).take1 HNO.out.head (by omega) fr hfr).mono ?_
  rintro e w6 ⟨X0, rfl, hX0, hXR0, hb6⟩
  have HB6 := zh (show Below u.heap.size u w6 from HB5.out.trans (((Below.refl w5.heap.size w5).drew.trans hb6).mono HB5.out.size))
  have HX0 := zh hX0
  have HXR0 := zh hXR0
  clear hX0 hXR0 hb6
  refine hK.out _ _ (HS.out _ HB6.out) zt ?_
  clear hK K
  refine zP (i := 6) rfl (fun u hu => by obtain ⟨k0, k1, k2⟩ := hu; go_simp; try rfl) (HS.out _ HB6.out) zt ?_
  simp only [Act.put, zA, zB, zC, zD, zF, zG]
  refine wpAnyL_done (by kernel_rfl) ?_ _
  have HXD := zh (show ∀ j, X0.testBit j = true ↔ DerW C.R C.ws [(sb, sx)] fr j from fun j => by
   rw [HXR0.out j]
   exact ⟨fun h => rch_sound HC.out.sn HNO.out.head h, fun h => rch_complete HC.out.cl h (by rw [HC.out.wl]; exact hfr)⟩)
  have HI6 := zh (HI.out.below HB6.out)
  have HT6 := zh (HBX.out w6 HB6.out).tb
  have HF6 := zh (show ∀ b, (F b ∧ b < u.heap.size) → b < u.heap.size from fun b hb => hb.2)
  clear HXR HXR0 HBT
  go_wp2_with fail
  go_loopg [12] X0 (fun gx xv wr => ∃ (X q : Nat) (F' : Nat → Prop) (v' : Value), xv = mV X ∧ gx = X ∧ X < 2 ^ (C.nw + 1) ∧ (∀ j, X.testBit j = true ↔ q ≤ j ∧ X0.testBit j = true) ∧ PkIn C wr F' v' (ps ++ (splU C.R C.ws (sb, sx) l fr C.key.2.2 q).map fun ks => (C.i, ini ++ ks)) ∧ Only u wr (fun b => b = C.Bo ∨ F b) ∧ (∀ b, F' b → F b ∨ u.heap.size ≤ b) ∧ (∀ b, F' b → b < wr.heap.size))
  case atStart =>
   refine ⟨X0, 0, fun b => F b ∧ b < u.heap.size, v, rfl, rfl, HX0.out, fun j => by simp, ?_, .of_below HB6.out (Nat.le_refl _) _, fun b hb => .inl hb.1, fun b hb => Nat.lt_of_lt_of_le hb.2 HB6.out.size⟩
   have h1 := HI6.out
   rw [show splU C.R C.ws (sb, sx) l fr C.key.2.2 0 = [] from rfl]
   simpa using h1
  case round =>
   obtain ⟨X, q, F', v', rfl, hgx, hX, hXB, hpk, ho, hf1, hf2⟩ := hrel
   obtain ⟨w7, rfl⟩ := zE wr
   have HGX := zh hgx
   have HX := zh hX
   have HXB := zh hXB
   have HP7 := zh hpk
   have HO7 := zh ho
   have HF7 := zh (And.intro hf1 hf2)
   have hp13 := HP.out
   have hX32 : X < 4294967296 := by omega
   clear hgx hX hXB hpk ho hf1 hf2 hp13
   by_cases hX0 : X = 0
   ·
    subst hX0
    have hne : ((((0 : Nat) : Int)) != 0) = false := by simp
    have HEN := zh (show splU C.R C.ws (sb, sx) l fr C.key.2.2 q = splP C.R C.ws ((sb, sx) :: l) fr C.key.2.2 from splU_end fun k hk => .inl fun h => by
     have h1 := (HXB.out k).2 ⟨hk, (HXD.out k).2 h⟩
     simp at h1)
    go_wp2_with fail
    refine Go.bodyPost_end (v := .tuple #[]) (by simp [results, Tryz.results85, go_sem]) rfl ⟨F', v', rfl, ?_, HO7.out, HF7.out.1⟩
    have h1 := HP7.out
    rw [HEN.out] at h1
    exact h1
   obtain ⟨p, hpX, hpB, hpL, hpS, hpM⟩ := low_min hX0
   obtain ⟨_, h32⟩ := hpS 32 (by omega)
   have hpn : p < C.nw + 1 := (hpS (C.nw + 1) HX.out).1
   have hne : ((X : Int) != 0) = true := by simp; omega
   have hd : bits .and .u32 (X : Int) ((X : Int) - 1) = ((X &&& (X - 1) : Nat) : Int) := by
    rw [show (X : Int) - 1 = ((X - 1 : Nat) : Int) by omega]
    exact u32_and_nat _ _ hX32 (by omega)
   obtain ⟨hqp, hbit⟩ := (HXB.out p).1 hpX
   have HDP := zh ((HXD.out p).1 hbit)
   have HUP := zh (show splU C.R C.ws (sb, sx) l fr C.key.2.2 p = splU C.R C.ws (sb, sx) l fr C.key.2.2 q from by
    obtain ⟨d, rfl⟩ : ∃ d, p = q + d := ⟨p - q, by omega⟩
    exact splU_same d fun k h1 h2 => .inl fun h => by
     have h3 := (HXB.out k).2 ⟨h1, (HXD.out k).2 h⟩
     rw [hpM k h2] at h3
     cases h3)
   have HPB := zh (show ∀ j, (X &&& (X - 1)).testBit j = true ↔ p + 1 ≤ j ∧ X0.testBit j = true from fun j => by
    rw [hpB j, Bool.and_eq_true, HXB.out j]
    constructor
    ·
     rintro ⟨⟨h1, h2⟩, h3⟩
     have h4 : j ≠ p := by simpa using h3
     refine ⟨?_, h2⟩
     rcases Nat.lt_or_ge j p with h5 | h5
     ·
      have h6 := (HXB.out j).2 ⟨h1, h2⟩
      rw [hpM j h5] at h6
      cases h6
     omega
    rintro ⟨h1, h2⟩
    exact ⟨⟨by omega, h2⟩, by simp; omega⟩)
   have HPL2 := zh hpL
   have hX1 : 1 ≤ X := by omega
   have hXl : X &&& (X - 1) < 2 ^ (C.nw + 1) := Nat.lt_trans hpL HX.out
   have HXL := zh hXl
   have HD := zh hd
   clear hpX hpB hpL hpS hpM hd hXl hbit
   go_wp2_with fail
   refine (trailingZeros w7 (HP7.out.b.tb) X p hX0 hX32 (by omega) h32).mono ?_
   rintro e _ ⟨rfl, rfl⟩
   have k3 := HP7.out.b.cells.1.2.2.2
   rw [← HKT.out] at k3
   have hd := HD.out
   by_cases hpt : p ≤ kt
   ·
    have hptI : (p : Int) ≤ (kt : Int) := by omega
    have HKP := zh (show Kept (fun b => b < u.heap.size ∧ b ≠ C.Bo ∧ ¬ F b) u w7 from HO7.out.kept fun b hb h => h.elim hb.2.1 hb.2.2)
    have hl7 := HL1.out.keep (HKP.out.sub fun b hb => HS1.out b hb)
    obtain ⟨xs2, e1, e2, hrd, hcs⟩ := HSL.out.keep (HKP.out.sub fun b hb => HS2.out b hb)
    have HRD := zh hrd
    have HCS := zh hcs
    have HE1 := zh e1
    obtain ⟨A3, hcut, hsl3⟩ := cutP tSyms rfl hl7 1 (by omega)
    have hcut : ∀ x, (Instr.slice 58 (.slice (some ⟨bl, ol, none⟩) (nn + 1) c1) (some (.int .i64 1)) none none).run Tryz.prog x = .ok (.slice A3 nn (c1 - 1)) x := hcut
    have HSL3 := zh (show Sl RSym w7 (fun b => b < w7.heap.size ∧ b ≠ C.Bo ∧ ¬ F' b) A3 nn (c1 - 1) l from hsl3.more fun b hb => by
     have h1 := HS1.out b hb
     refine ⟨by have := HO7.out.size; omega, h1.2.1, fun h => ?_⟩
     rcases HF7.out.1 b h with h2 | h2
     · exact h1.2.2 h2
     omega)
    have hblk := HO7.out.block bl HSB.out.1 (fun h => h.elim HSB.out.2.1 HSB.out.2.2)
    have HKA := zh (show ∀ x : World, Below w7.heap.size w7 x → x.cell? ⟨C.Bv, 0, none⟩ = some (.func (.func 85) #[] #[.pointer (some ⟨C.Bk, 0, none⟩), .pointer (some ⟨C.Bo, 0, none⟩), .pointer (some ⟨C.Bi, 0, none⟩), .pointer (some ⟨C.Bw, 0, none⟩), .pointer (some ⟨C.Be, 0, none⟩), .pointer (some ⟨C.Bv, 0, none⟩)]) ∧ x.cell? ⟨bl, ol, none⟩ = some (.bool sb) ∧ x.cell? ⟨bl, ol + 1, none⟩ = some (.int .i64 sx) from fun x hx => by
     have h1 : x.heap[bl]? = u.heap[bl]? := (hx.block bl (Nat.lt_of_lt_of_le HSB.out.1 HO7.out.size)).trans hblk
     exact ⟨(HP7.out.b.below hx).cells.2.2.2.2, (World.cell?_of_block h1).trans HCC.out.1, (World.cell?_of_block h1).trans HCC.out.2⟩)
    obtain ⟨k, hk⟩ : ∃ k : KeyD, k = ((sb, sx), fr, p) := ⟨_, rfl⟩
    have HEQ := zh (show ps ++ (splU C.R C.ws (sb, sx) l fr C.key.2.2 (p + 1)).map (fun ks => (C.i, ini ++ ks)) = (ps ++ (splU C.R C.ws (sb, sx) l fr C.key.2.2 q).map fun ks => (C.i, ini ++ ks)) ++ addK C l p (ini ++ [k]) from by
     rw [splU_bit HDP.out, HUP.out, List.map_append, ← List.append_assoc]
     congr 1
     unfold addK
     rw [List.map_map]
     refine List.map_congr_left fun ks _ => ?_
     rw [hk]
     simp)
    have HLEN := zh (show ((ps ++ (splU C.R C.ws (sb, sx) l fr C.key.2.2 q).map fun ks => (C.i, ini ++ ks)) ++ addK C l p (ini ++ [k])).length ≤ 1000000 from by
     rw [← HEQ.out]
     have h1 := HPL.out
     have h2 := splU_len (R := C.R) (ws := C.ws) (s := (sb, sx)) (l := l) (i := fr) (j := C.key.2.2) (p + 1)
     unfold addK at h1
     rw [List.length_map] at h1
     rw [List.length_append, List.length_map]
     omega)
    have HK := zh hk
    have hent := enters_pk
    clear hk hl7 e1 e2 hrd hcs hsl3 hblk
    go_wp2_with fail
    refine wp_region_late (late := []) (S1 := fun x => x.cell? ⟨C.Bv, 0, none⟩ = some (.func (.func 85) #[] #[.pointer (some ⟨C.Bk, 0, none⟩), .pointer (some ⟨C.Bo, 0, none⟩), .pointer (some ⟨C.Bi, 0, none⟩), .pointer (some ⟨C.Bw, 0, none⟩), .pointer (some ⟨C.Be, 0, none⟩), .pointer (some ⟨C.Bv, 0, none⟩)]) ∧ x.cell? ⟨bl, ol, none⟩ = some (.bool sb) ∧ x.cell? ⟨bl, ol + 1, none⟩ = some (.int .i64 sx)) (S := fun _ => True) (by kernel_rfl) ?_
    clear k3
    refine zP (i := 0) rfl (fun u hu => by obtain ⟨j0, j1, j2⟩ := hu; go_simp; try rfl) (HKA.out _ (Below.refl _ _).drew) zt ?_
    simp only [Act.put, zA, zB, zC, zD, zF, zG]
    refine zP (i := 1) rfl (fun u hu => by obtain ⟨j0, j1, j2⟩ := hu; go_simp; try rfl) (HKA.out _ (Below.refl _ _).drew) zt ?_
    simp only [Act.put, zA, zB, zC, zD, zF, zG]
    refine zP (i := 2) rfl (fun u hu => by obtain ⟨j0, j1, j2⟩ := hu; go_simp; try rfl) (HKA.out _ (Below.refl _ _).drew) zt ?_
    simp only [Act.put, zA, zB, zC, zD, zF, zG]
    refine zP (i := 3) rfl (fun u hu => by obtain ⟨j0, j1, j2⟩ := hu; go_simp; try rfl) (HKA.out _ (Below.refl _ _).drew) zt ?_
    simp only [Act.put, zA, zB, zC, zD, zF, zG]
    refine zP (i := 4) rfl (fun u hu => by obtain ⟨j0, j1, j2⟩ := hu; go_simp; try rfl) (HKA.out _ (Below.refl _ _).drew) zt ?_
    simp only [Act.put, zA, zB, zC, zD, zF, zG]
    refine zP (i := 6) rfl (fun u hu => by obtain ⟨j0, j1, j2⟩ := hu; go_simp; try rfl) (HKA.out _ (Below.refl _ _).drew) zt ?_
    simp only [Act.put, zA, zB, zC, zD, zF, zG]
    refine zP (i := 7) rfl (fun u hu => by obtain ⟨j0, j1, j2⟩ := hu; go_simp; try rfl) (HKA.out _ (Below.refl _ _).drew) zt ?_
    simp only [Act.put, zA, zB, zC, zD, zF, zG]
    refine zP (i := 8) rfl (fun u hu => by obtain ⟨j0, j1, j2⟩ := hu; go_simp; try rfl) (HKA.out _ (Below.refl _ _).drew) zt ?_
    simp only [Act.put, zA, zB, zC, zD, zF, zG]
    refine zP (i := 9) rfl (fun u hu => by obtain ⟨j0, j1, j2⟩ := hu; go_simp; try rfl) (HKA.out _ (Below.refl _ _).drew) zt ?_
    simp only [Act.put, zA, zB, zC, zD, zF, zG]
    refine zP (i := 10) rfl (fun u hu => by obtain ⟨j0, j1, j2⟩ := hu; go_simp; try rfl) (HKA.out _ (Below.refl _ _).drew) zt ?_
    simp only [Act.put, zA, zB, zC, zD, zF, zG]
    refine zP (i := 11) rfl (fun u hu => by obtain ⟨j0, j1, j2⟩ := hu; go_simp; try rfl) (HKA.out _ (Below.refl _ _).drew) zt ?_
    simp only [Act.put, zA, zB, zC, zD, zF, zG]
    refine wpAnyL_ready (rs := [5, 12]) (by kernel_rfl) (by simp) ?_
    refine AllL.cons rfl (fun K hK => ?_) ?_
    ·
     go_simp
     refine (cloneKey A2 n2 c2 _ xs2 _ HRD.out.drew (by omega)).mono ?_
     rintro e w9 ⟨v9, rfl, ho9, hb9⟩
     obtain ⟨A9, c9, rfl, hc9, _⟩ := ho9.form
     have hb9 : Below w7.heap.size w7 w9 := ((Below.refl _ _).drew).trans hb9
     have ho9 : Own w9 w7.heap.size 144 4 (.slice A9 n2 c9) n2 xs2 := ho9
     have HB9 := zh hb9
     have HO9 := zh ho9
     clear ho9 hb9
     refine hK.out _ _ (HKA.out _ HB9.out) zt ?_
     clear hK K
     refine zR 12 rfl (fun K hK => ?_)
     go_simp
     refine hK.out _ _ (HKA.out _ (HB9.out.alloc HB9.out.size _)) zt ?_
     clear hK K
     refine zR 13 rfl (fun K hK => ?_)
     obtain ⟨v4, w4, hrun, ho4, hg4, hrow4⟩ := run_append_Own tKeys (w9.alloc (.cells #[.bool sb, .int .i64 sx, .int .i64 (fr : Int), .int .i64 (p : Int)] 144)) 146 w7.heap.size _ _ _ (HO9.out.alloc _) (fun _ => True) (some ⟨w9.heap.size, 0, none⟩) 1 1 [.bool sb, .int .i64 sx, .int .i64 (fr : Int), .int .i64 (p : Int)] (rd_lit w9 (fun _ => True) 144 [.bool sb, .int .i64 sx, .int .i64 (fr : Int), .int .i64 (p : Int)] 4 rfl trivial) (by intro u hu; simp only [List.mem_cons, List.not_mem_nil, or_false] at hu; rcases hu with rfl | rfl | rfl | rfl <;> rfl) (by unfold maxLen; omega) (by omega) (by have := HB9.out.size; simp; omega)
     obtain ⟨A4, c4, rfl, hc4, _⟩ := ho4.form
     refine step_append_run _ (by rfl) _ _ _ _ (by rfl) _ _ (by rfl) (by rfl) _ _ hrun ?_
     simp only [Act.put, zA, zB, zC, zD, zF, zG]
     have HB4 := zh (show Below w7.heap.size w7 w4 from Below.own (HB9.out.alloc HB9.out.size _) (HO9.out.alloc _) hg4 (Nat.le_refl _) (by have := HB9.out.size; simp; omega))
     have HSL4 := zh (show Sl RKey w4 (fun b => w7.heap.size ≤ b ∧ b < w4.heap.size) A4 (n2 + 1) c4 (ini ++ [k]) from (show Sl RKey w4 (fun b => w7.heap.size ≤ b) A4 (n2 + 1) c4 (ini ++ [k]) from ⟨(xs2 ++ [Value.bool sb, Value.int .i64 sx, Value.int .i64 (fr : Int), Value.int .i64 (p : Int)] : List Value), by rw [List.length_append, ← HE1.out]; rfl, hc4, ho4.rd.more fun b hb => hb, (cellsK HCS.out).append (Cells.single (by rw [HK.out]; exact RKey.cells.2 rfl))⟩).fit)
     clear hrun ho4 hg4 hrow4
     refine hK.out _ _ (HKA.out _ HB4.out) zt ?_
     clear hK K
     refine zR 14 rfl (fun K hK => ?_)
     have HP4 := zh (HP7.out.below HB4.out)
     have hz47 := HB4.out.size
     have hc := HIH.out w4 F' v' _ _ A3 nn (c1 - 1) p (fun b => w7.heap.size ≤ b ∧ b < w4.heap.size) A4 (n2 + 1) c4 (ini ++ [k]) HP4.out (HSL3.out.below HB4.out) (fun b hb => ⟨by omega, hb.2⟩) HNO.out.tail (by rw [← HNN.out]; omega) (by omega) HSL4.out (fun b hb => ⟨hb.2, by have := heap_lt HP7.out.bo; omega, fun h => by have := HF7.out.2 b h; omega⟩) (by rw [List.length_append, ← HNN.out, HIL.out]; simp only [List.length_cons, List.length_nil]; omega) (by have h := HLEN.out; rw [List.length_append] at h; exact h)
     go_simp
     refine hc.mono ?_
     clear hc
     rintro e w10 ⟨F2, v2, rfl, hp10, ho10, hf10⟩
     have HP10 := zh hp10.fit
     have HF10 := zh hf10
     have HO10 := zh (show Only u w10 (fun b => b = C.Bo ∨ F b) from HO7.out.newerP ((Only.of_below HB4.out (Nat.le_refl _) _).trans ho10) fun b hb hy => hy.imp id fun h => (HF7.out.1 b h).resolve_right (by omega))
     have HK10 := zh (show w10.cell? ⟨C.Bv, 0, none⟩ = some (.func (.func 85) #[] #[.pointer (some ⟨C.Bk, 0, none⟩), .pointer (some ⟨C.Bo, 0, none⟩), .pointer (some ⟨C.Bi, 0, none⟩), .pointer (some ⟨C.Bw, 0, none⟩), .pointer (some ⟨C.Be, 0, none⟩), .pointer (some ⟨C.Bv, 0, none⟩)]) ∧ w10.cell? ⟨bl, ol, none⟩ = some (.bool sb) ∧ w10.cell? ⟨bl, ol + 1, none⟩ = some (.int .i64 sx) from by
      have h1 : w10.heap[bl]? = u.heap[bl]? := HO10.out.block bl HSB.out.1 (fun h => h.elim HSB.out.2.1 HSB.out.2.2)
      exact ⟨HP10.out.b.cells.2.2.2.2, (World.cell?_of_block h1).trans HCC.out.1, (World.cell?_of_block h1).trans HCC.out.2⟩)
     clear hp10 ho10 hf10
     refine hK.out _ _ HK10.out zt ?_
     clear hK K
     refine wpAnyL_done (by kernel_rfl) ?_ _
     have hd := HD.out
     go_wp2_with fail
     go_roundg (X &&& (X - 1))
     case measure => rw [HGX.out]; exact HPL2.out
     case rel => exact ⟨_, p + 1, (fun b => F2 b ∧ b < w10.heap.size), v2, by first | rfl | rw [hd], rfl, HXL.out, HPB.out, by rw [HEQ.out]; exact HP10.out, HO10.out, fun b hb => by (rcases HF10.out b hb.1 with h | h; exact HF7.out.1 b h; exact .inr (by have := HO7.out.size; have := HB4.out.size; omega)), fun b hb => hb.2⟩
    refine AllL.cons rfl (fun K hK => ?_) ?_
    ·
     obtain ⟨wB, hwB⟩ := zE (w7.drew.alloc (.cells #[.bool sb, .int .i64 sx, .int .i64 (fr : Int), .int .i64 (p : Int)] 144))
     have hbB : Below w7.heap.size w7 wB := by rw [hwB]; exact (Below.refl _ w7).drew.alloc (Nat.le_refl _) _
     have HBB := zh hbB
     have HRS0 := zh (show Rd wB (fun b => b = w7.heap.size) 4 (some ⟨w7.heap.size, 0, none⟩) 1 [.bool sb, .int .i64 sx, .int .i64 (fr : Int), .int .i64 (p : Int)] by rw [hwB]; exact rd_lit w7.drew (fun b => b = w7.heap.size) 144 [.bool sb, .int .i64 sx, .int .i64 (fr : Int), .int .i64 (p : Int)] 4 rfl rfl)
     have hw2' : (w7.alloc (.cells #[.bool sb, .int .i64 sx, .int .i64 (fr : Int), .int .i64 (p : Int)] 144)).drew = wB := hwB.symm
     have HWB := zh hw2'
     clear hbB hwB hw2'
     go_simp
     rw [HWB.out]
     refine hK.out _ _ (HKA.out _ HBB.out) zt ?_
     clear hK K
     refine zR 5 rfl (fun K hK => ?_)
     go_simp
     refine (cloneKey A2 n2 c2 _ xs2 _ (Rd.below HRD.out HBB.out) (by omega)).mono ?_
     rintro e w9 ⟨v9, rfl, ho9, hb9⟩
     obtain ⟨A9, c9, rfl, hc9, _⟩ := ho9.form
     have hb90 := hb9
     have hb9 : Below w7.heap.size w7 w9 := HBB.out.trans (hb9.mono HBB.out.size)
     have ho9 := ho9.mono HBB.out.size
     have HRS := zh (HRS0.out.below hb90)
     have HB9 := zh hb9
     have HO9 := zh ho9
     clear ho9 hb9 hb90
     refine hK.out _ _ (HKA.out _ HB9.out) zt ?_
     clear hK K
     refine zR 13 rfl (fun K hK => ?_)
     obtain ⟨v4, w4, hrun, ho4, hg4, hrow4⟩ := run_append_Own tKeys w9 146 w7.heap.size _ _ _ HO9.out _ (some ⟨w7.heap.size, 0, none⟩) 1 1 [.bool sb, .int .i64 sx, .int .i64 (fr : Int), .int .i64 (p : Int)] HRS.out (by intro u hu; simp only [List.mem_cons, List.not_mem_nil, or_false] at hu; rcases hu with rfl | rfl | rfl | rfl <;> rfl) (by unfold maxLen; omega) (by omega) HB9.out.size
     obtain ⟨A4, c4, rfl, hc4, _⟩ := ho4.form
     refine step_append_run _ (by rfl) _ _ _ _ (by rfl) _ _ (by rfl) (by rfl) _ _ hrun ?_
     simp only [Act.put, zA, zB, zC, zD, zF, zG]
     have HB4 := zh (show Below w7.heap.size w7 w4 from Below.own HB9.out HO9.out hg4 (Nat.le_refl _) HB9.out.size)
     have HSL4 := zh (show Sl RKey w4 (fun b => w7.heap.size ≤ b ∧ b < w4.heap.size) A4 (n2 + 1) c4 (ini ++ [k]) from (show Sl RKey w4 (fun b => w7.heap.size ≤ b) A4 (n2 + 1) c4 (ini ++ [k]) from ⟨(xs2 ++ [Value.bool sb, Value.int .i64 sx, Value.int .i64 (fr : Int), Value.int .i64 (p : Int)] : List Value), by rw [List.length_append, ← HE1.out]; rfl, hc4, ho4.rd.more fun b hb => hb, (cellsK HCS.out).append (Cells.single (by rw [HK.out]; exact RKey.cells.2 rfl))⟩).fit)
     clear hrun ho4 hg4 hrow4
     refine hK.out _ _ (HKA.out _ HB4.out) zt ?_
     clear hK K
     refine zR 14 rfl (fun K hK => ?_)
     have HP4 := zh (HP7.out.below HB4.out)
     have hz47 := HB4.out.size
     have hc := HIH.out w4 F' v' _ _ A3 nn (c1 - 1) p (fun b => w7.heap.size ≤ b ∧ b < w4.heap.size) A4 (n2 + 1) c4 (ini ++ [k]) HP4.out (HSL3.out.below HB4.out) (fun b hb => ⟨by omega, hb.2⟩) HNO.out.tail (by rw [← HNN.out]; omega) (by omega) HSL4.out (fun b hb => ⟨hb.2, by have := heap_lt HP7.out.bo; omega, fun h => by have := HF7.out.2 b h; omega⟩) (by rw [List.length_append, ← HNN.out, HIL.out]; simp only [List.length_cons, List.length_nil]; omega) (by have h := HLEN.out; rw [List.length_append] at h; exact h)
     go_simp
     refine hc.mono ?_
     clear hc
     rintro e w10 ⟨F2, v2, rfl, hp10, ho10, hf10⟩
     have HP10 := zh hp10.fit
     have HF10 := zh hf10
     have HO10 := zh (show Only u w10 (fun b => b = C.Bo ∨ F b) from HO7.out.newerP ((Only.of_below HB4.out (Nat.le_refl _) _).trans ho10) fun b hb hy => hy.imp id fun h => (HF7.out.1 b h).resolve_right (by omega))
     have HK10 := zh (show w10.cell? ⟨C.Bv, 0, none⟩ = some (.func (.func 85) #[] #[.pointer (some ⟨C.Bk, 0, none⟩), .pointer (some ⟨C.Bo, 0, none⟩), .pointer (some ⟨C.Bi, 0, none⟩), .pointer (some ⟨C.Bw, 0, none⟩), .pointer (some ⟨C.Be, 0, none⟩), .pointer (some ⟨C.Bv, 0, none⟩)]) ∧ w10.cell? ⟨bl, ol, none⟩ = some (.bool sb) ∧ w10.cell? ⟨bl, ol + 1, none⟩ = some (.int .i64 sx) from by
      have h1 : w10.heap[bl]? = u.heap[bl]? := HO10.out.block bl HSB.out.1 (fun h => h.elim HSB.out.2.1 HSB.out.2.2)
      exact ⟨HP10.out.b.cells.2.2.2.2, (World.cell?_of_block h1).trans HCC.out.1, (World.cell?_of_block h1).trans HCC.out.2⟩)
     clear hp10 ho10 hf10
     refine hK.out _ _ HK10.out zt ?_
     clear hK K
     refine wpAnyL_done (by kernel_rfl) ?_ _
     have hd := HD.out
     go_wp2_with fail
     go_roundg (X &&& (X - 1))
     case measure => rw [HGX.out]; exact HPL2.out
     case rel => exact ⟨_, p + 1, (fun b => F2 b ∧ b < w10.heap.size), v2, by first | rfl | rw [hd], rfl, HXL.out, HPB.out, by rw [HEQ.out]; exact HP10.out, HO10.out, fun b hb => by (rcases HF10.out b hb.1 with h | h; exact HF7.out.1 b h; exact .inr (by have := HO7.out.size; have := HB4.out.size; omega)), fun b hb => hb.2⟩
    exact AllL.nil
   have hptI : ¬ (p : Int) ≤ (kt : Int) := by omega
   have HSK := zh (show splU C.R C.ws (sb, sx) l fr C.key.2.2 (p + 1) = splU C.R C.ws (sb, sx) l fr C.key.2.2 q from by rw [splU_skip (.inr (by rw [← HKT.out]; omega)), HUP.out])
   go_wp2_with fail
   go_roundg (X &&& (X - 1))
   case measure => rw [HGX.out]; exact HPL2.out
   case rel => exact ⟨_, p + 1, F', v', by first | rfl | rw [hd], rfl, HXL.out, HPB.out, by rw [HSK.out]; exact HP7.out, HO7.out, HF7.out.1, HF7.out.2⟩
end Go.Proofs.YtjnbjdbndbbanaaGreatDoor
