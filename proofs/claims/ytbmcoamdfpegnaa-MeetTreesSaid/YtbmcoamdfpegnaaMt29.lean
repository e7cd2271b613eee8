/- MkP2 -/
import Derived.Test.YtbmcoamdfpegnaaMt28
namespace Go.Proofs.Ytbmcoamdfpegnaa
open Go.RowKit Go.Maps
theorem step_amap_put {P : Program} {k : TypeId} {κ : Type} [DecidableEq κ] {K : KeyRep P k κ} {w : World} {o : Oper} {a : Act} {Q : Exit → Act → World → Prop} {K' : Act → World → Prop} (m x v : Operand) (t : TypeId) (hop : o.op = Op.mapUpdate t m x v) (e : TypeId) (ht : P.underlying t = some (.map k e)) (b : Nat) (l : List (κ × Value)) (hm : a.eval m = .map (some b)) (hown : AMap K w b l) (q : κ) (hx : a.eval x = K.val q) (hq : K.ok q) (u : Value) (hv : a.eval v = u) (hl : l.length < maxLen)
    (hK : ∀ w', AMap K w' b (putL l q u) → w.grownBy w' (some b) → K' (a.put o.dst undef) w') : Oper.wp P o a w K' Q := by
 obtain ⟨w', hrun, r1, r2⟩ := hown.put ht hq u hl
 unfold Oper.wp
 simp [execOp, hop, hm, hx, hv, hrun, Result.andThen]
 exact hK w' r1 r2
def instSym (L : List TriD) (qs : List Nat) (k : Nat) (s : SymD) : SymD := if s.1 = true then s else (false, (numT L ((qs[k]?).getD 0, s.2.toNat, (qs[k + 1]?).getD 0) : Int))
def instPre (L : List TriD) (rhs : List SymD) (qs : List Nat) (k : Nat) : List SymD := (List.range k).map fun j => instSym L qs j ((rhs[j]?).getD (true, 0))
theorem instPre_succ {L : List TriD} {rhs : List SymD} {qs : List Nat} {k : Nat} {s : SymD} (h : rhs[k]? = some s) : instPre L rhs qs (k + 1) = instPre L rhs qs k ++ [instSym L qs k s] := by
 unfold instPre
 rw [List.range_succ, List.map_append, List.map_singleton, h]
 rfl
theorem instPre_len (L : List TriD) (rhs : List SymD) (qs : List Nat) (k : Nat) : (instPre L rhs qs k).length = k := by simp [instPre]
theorem instS_pre (L : List TriD) : ∀ (rhs : List SymD) (qs : List Nat), qs.length = rhs.length + 1 → instS L rhs qs = instPre L rhs qs rhs.length
 | [], qs, _ => by cases qs <;> rfl
 | s :: l, qs, h => by
  match qs, h with
  | [_], h => simp at h
  | q :: p :: qs, h =>
   show (if s.1 = true then s else (false, (numT L (q, s.2.toNat, p) : Int))) :: instS L l (p :: qs) = _
   rw [instS_pre L l (p :: qs) (by simpa using h)]
   unfold instPre
   rw [List.length_cons, List.range_succ_eq_map, List.map_cons, List.map_map]
   rfl
def P2R (M : Mkr) (X : PX) (W L : List TriD) (w : World) (FR FF : Nat → Prop) (vN : Value) (rs : List RuleD) (fr : List Int) (km : List (ByteArray × Value)) (e : Ending) (w' : World) : Prop :=
 ∃ (FR' FF' : Nat → Prop) (vR' vF' : Value), e = .returned (.bool (decide (fr.length ≤ 4000))) ∧ PrSt M X W L w' FR' FF' vR' vN vF' rs fr km ∧ Only w w' (fun b => b = X.Bo ∨ b = X.Bq ∨ FR b ∨ FF b) ∧ ∀ b, FR' b ∨ FF' b → FR b ∨ FF b ∨ w.heap.size ≤ b
structure IBox (w : World) (t : TriD) (rule i : Nat) (an : Int) (A1 : Option Addr) (n1 c1 : Nat) (Bt Bri Br Bi : Nat) : Prop where
 t : w.heap[Bt]? = some (.cells #[.int .i64 (t.1 : Int), .int .i64 (t.2.1 : Int), .int .i64 (t.2.2 : Int)] 92 (0, 0))
 ri : w.heap[Bri]? = some (.cells #[.int .i64 (rule : Int)] 3 (0, 0))
 r : w.heap[Br]? = some (.cells #[.int .i64 an, .slice A1 n1 c1] 40 (0, 0))
 i : w.heap[Bi]? = some (.cells #[.int .i64 (i : Int)] 3 (0, 0))
theorem IBox.only {w w' : World} {Y : Nat → Prop} {t : TriD} {rule i : Nat} {an : Int} {A1 : Option Addr} {n1 c1 Bt Bri Br Bi : Nat} (h : IBox w t rule i an A1 n1 c1 Bt Bri Br Bi) (ho : Only w w' Y) (hY : ∀ b, b = Bt ∨ b = Bri ∨ b = Br ∨ b = Bi → ¬ Y b) : IBox w' t rule i an A1 n1 c1 Bt Bri Br Bi :=
 ⟨(ho.block _ (heap_lt h.t) (hY _ (.inl rfl))).trans h.t, (ho.block _ (heap_lt h.ri) (hY _ (.inr (.inl rfl)))).trans h.ri, (ho.block _ (heap_lt h.r) (hY _ (.inr (.inr (.inl rfl))))).trans h.r, (ho.block _ (heap_lt h.i) (hY _ (.inr (.inr (.inr rfl))))).trans h.i⟩
theorem enters_padd : ∀ (args : Array Value) (u : World), (callFunc 56 args).run Try.prog u = .ok (.enter 56 args) u := enters_of Try.func56 (by kernel_rfl) rfl
theorem mapTriI : Try.prog.underlying 109 = some (.map 92 3) := by kernel_rfl
theorem mapStrI : Try.prog.underlying 69 = some (.map 9 3) := by kernel_rfl
theorem zeroIM (u : World) : (zeroValue 3).run Try.prog u = .ok (.int .i64 0) u := by
 have := tInts.info
 obtain ⟨i, hi, hz0, _, _⟩ := info_parts this
 simp [zeroValue, typeInfo, hi, hz0]
set_option linter.unusedSimpArgs false in
set_option maxRecDepth 100000 in
set_option maxHeartbeats 8000000 in
theorem mkP2 (M : Mkr) (hM : M.Ok) (X : PX) (hX : X.Ok M) (W L : List TriD) (hLd : L.Nodup) (w : World) (FR FF : Nat → Prop) (vR vN vF : Value) (rs : List RuleD) (fr : List Int) (km : List (ByteArray × Value)) (h : PrSt M X W L w FR FF vR vN vF rs fr km) (t : TriD) (ht : M.Tri t) (rule i : Nat) (an : Int) (rhs : List SymD) (hr : M.R[rule]? = some (an, rhs)) (A1 : Option Addr) (n1 c1 Bt Bri Br Bi : Nat) (hb : IBox w t rule i an A1 n1 c1 Bt Bri Br Bi) (hl : Sl RSym w M.S A1 n1 c1 rhs)
    (hbx : ∀ b, b = Bt ∨ b = Bri ∨ b = Br ∨ b = Bi → b ≠ X.Bo ∧ b ≠ X.Bq ∧ ¬ FR b ∧ ¬ FF b) (S : Nat → Prop) (A : Option Addr) (n c : Nat) (qs : List Nat) (hs : Sl Rep.int w S A n c (natI qs)) (hS : ∀ b, S b → b < w.heap.size ∧ b ≠ X.Bo ∧ b ≠ X.Bq ∧ ¬ FR b ∧ ¬ FF b) (hq : qs.length = rhs.length + 1) (hqn : ∀ x ∈ qs, x < M.n) (hlen : rs.length ≤ 9000) (hi : i ≤ 9000) (hkm : km.length ≤ 10000) :
    Calls Try.prog 58 #[.agg #[.int .i64 (t.1 : Int), .int .i64 (t.2.1 : Int), .int .i64 (t.2.2 : Int), .int .i64 (rule : Int), .slice A n c], .pointer (some ⟨X.Bo, 0, none⟩), .pointer (some ⟨X.Bk, 0, none⟩), .pointer (some ⟨Bt, 0, none⟩), .pointer (some ⟨Bri, 0, none⟩), .pointer (some ⟨Br, 0, none⟩), .pointer (some ⟨X.Bm, 0, none⟩), .pointer (some ⟨X.Ba, 0, none⟩), .pointer (some ⟨Bi, 0, none⟩)] w
     (P2R M X W L w FR FF vN (rs ++ [(((i + 1 : Nat) : Int), instS L rhs qs)]) (fr ++ [(rule : Int)]) (putL km (strOf (keyD t rule qs)) (.int .i64 (fr.length : Int)))) := by
 have HM := Lib.hid hM
 have HX := Lib.hid hX
 have HST := Lib.hid h
 have HLD := Lib.hid hLd
 have HR := Lib.hid hr
 have HIB := Lib.hid hb
 have HSL := Lib.hid hl
 have HBX := Lib.hid hbx
 have HS := Lib.hid hs
 have HSS := Lib.hid hS
 have HQ := Lib.hid hq
 have HQN := Lib.hid hqn
 have HT := Lib.hid ht
 have hn12 := hM.n12
 have hN10 : M.N ≤ 10 := by have := hM.g.n2; simp only at this; omega
 have hrule : rule < 32 := by have := (List.getElem?_eq_some_iff.1 hr).1; have := hM.g.rl; simp only at this; omega
 obtain ⟨hr1, hr4, hsy⟩ := hM.rule (List.mem_of_getElem? hr)
 have HSY := Lib.hid hsy
 have hn1 : n1 ≤ 4 := by rw [hl.len]; exact hr4
 have hnq : n = n1 + 1 := by have h1 := hs.len; have h2 := hl.len; simp only [natI, List.length_map] at h1; rw [h1, hq, h2]
 have HNL := Lib.hid hl.len
 subst hnq
 obtain ⟨AF, cF, hvF, _⟩ := h.out.fm.form
 subst hvF
 obtain ⟨nf, hnf⟩ : ∃ nf, nf = fr.length := ⟨_, rfl⟩
 have hnf2 : nf ≤ 9000 := by rw [hnf, ← h.len]; exact hlen
 rw [← hnf] at HST ⊢
 have HNF := Lib.hid hnf
 have HKM := Lib.hid hkm
 obtain ⟨tq, ta, tp⟩ := t
 obtain ⟨ht1, ht2, ht3⟩ := ht
 simp only at ht1 ht2 ht3 ⊢
 obtain ⟨w1, hw1⟩ : ∃ w1 : World, w1 = w.alloc (.cells #[.int .i64 (tq : Int), .int .i64 (ta : Int), .int .i64 (tp : Int), .int .i64 (rule : Int), .slice A (n1 + 1) c] 113) := ⟨_, rfl⟩
 have hb1 : Below w.heap.size w w1 := by rw [hw1]; exact (Below.refl _ _).alloc (Nat.le_refl _) _
 have hbi : w1.heap[w.heap.size]? = some (.cells #[.int .i64 (tq : Int), .int .i64 (ta : Int), .int .i64 (tp : Int), .int .i64 (rule : Int), .slice A (n1 + 1) c] 113 (0, 0)) := by rw [hw1]; exact heap_alloc_new _ _
 have HST1 := Lib.hid (h.below hX hb1)
 rw [← hnf] at HST1
 have HB1 := Lib.hid hb1
 have HBI := Lib.hid hbi
 have HIB1 := Lib.hid (hb.only (Y := fun _ => False) (.of_below hb1 (Nat.le_refl _) _) fun _ _ => id)
 have HW1 := Lib.hid hw1
 have HC := Lib.hid (show ∀ u : World, Only w1 u (fun b => b = X.Bq) → u.cell? ⟨X.Bk, 0, none⟩ = some (.map (some X.Bq)) ∧ u.cell? ⟨Bt, 0, none⟩ = some (.int .i64 (tq : Int)) ∧ u.cell? ⟨Bt, 1, none⟩ = some (.int .i64 (ta : Int)) ∧ u.cell? ⟨Bt, 2, none⟩ = some (.int .i64 (tp : Int)) ∧ u.cell? ⟨Bri, 0, none⟩ = some (.int .i64 (rule : Int)) ∧ u.cell? ⟨w.heap.size, 4, none⟩ = some (.slice A (n1 + 1) c) ∧ u.cell? ⟨X.Bo, 5, none⟩ = some (.slice AF nf cF) from fun u hu => by
  have h1 := (hu.block _ (heap_lt HST1.out.kb) HX.out.ok.2).trans HST1.out.kb
  have h2 := (hu.block _ (heap_lt HIB1.out.t) (HBX.out _ (.inl rfl)).2.1).trans HIB1.out.t
  have h3 := (hu.block _ (heap_lt HIB1.out.ri) (HBX.out _ (.inr (.inl rfl))).2.1).trans HIB1.out.ri
  have h4 := (hu.block _ (heap_lt HBI.out) (by have := HX.out.bq; have := HST.out.low; omega)).trans HBI.out
  have h5 := (hu.block _ (heap_lt HST1.out.out.box) HX.out.oq).trans HST1.out.out.box
  exact ⟨by simp [World.cell?, h1], by simp [World.cell?, h2], by simp [World.cell?, h2], by simp [World.cell?, h2], by simp [World.cell?, h3], by simp [World.cell?, h4], by simp [World.cell?, h5]⟩)
 obtain ⟨rs', hrs'⟩ : ∃ rs', rs' = rs ++ [(((i + 1 : Nat) : Int), instS L rhs qs)] := ⟨_, rfl⟩
 obtain ⟨km', hkm'⟩ : ∃ km', km' = putL km (strOf (keyD (tq, ta, tp) rule qs)) (.int .i64 (nf : Int)) := ⟨_, rfl⟩
 rw [← hrs', ← hkm']
 have HRS := Lib.hid hrs'
 have HKM2 := Lib.hid hkm'
 clear hM hX h hLd hr hb hl hbx hs hS hq hqn hr1 hr4 hsy hb1 hbi hw1 hkm hnf hrs' hkm'
 go_enter Try.func58, Try.ntmps58
 go_wp2_with fail
 rw [← HW1.out]
 refine wp_region_late (late := []) (S1 := fun u => u.cell? ⟨X.Bk, 0, none⟩ = some (.map (some X.Bq)) ∧ u.cell? ⟨Bt, 0, none⟩ = some (.int .i64 (tq : Int)) ∧ u.cell? ⟨Bt, 1, none⟩ = some (.int .i64 (ta : Int)) ∧ u.cell? ⟨Bt, 2, none⟩ = some (.int .i64 (tp : Int)) ∧ u.cell? ⟨Bri, 0, none⟩ = some (.int .i64 (rule : Int)) ∧ u.cell? ⟨w.heap.size, 4, none⟩ = some (.slice A (n1 + 1) c) ∧ u.cell? ⟨X.Bo, 5, none⟩ = some (.slice AF nf cF)) (S := fun _ => True) (by kernel_rfl) ?_
 refine wpAnyL_pure (i := 0) rfl (by kernel_rfl) (fun _ _ _ h => h) (Or.inl ⟨by rfl, (fun u hu => by obtain ⟨k0, k1, k2, k3, k4, k5, k6⟩ := hu; go_simp; try rfl)⟩) (HC.out _ (.drew _ _)) (fun _ => trivial) ?_
 simp only [Act.put, List.setIfInBounds_toArray, List.set_cons_zero, List.set_cons_succ, List.getElem_toArray, List.getElem_cons_zero, List.getElem_cons_succ]
 refine wpAnyL_pure (i := 1) rfl (by kernel_rfl) (fun _ _ _ h => h) (Or.inl ⟨by rfl, (fun u hu => by obtain ⟨k0, k1, k2, k3, k4, k5, k6⟩ := hu; go_simp; try rfl)⟩) (HC.out _ (.drew _ _)) (fun _ => trivial) ?_
 simp only [Act.put, List.setIfInBounds_toArray, List.set_cons_zero, List.set_cons_succ, List.getElem_toArray, List.getElem_cons_zero, List.getElem_cons_succ]
 refine wpAnyL_pure (i := 2) rfl (by kernel_rfl) (fun _ _ _ h => h) (Or.inl ⟨by rfl, (fun u hu => by obtain ⟨k0, k1, k2, k3, k4, k5, k6⟩ := hu; go_simp; try rfl)⟩) (HC.out _ (.drew _ _)) (fun _ => trivial) ?_
 simp only [Act.put, List.setIfInBounds_toArray, List.set_cons_zero, List.set_cons_succ, List.getElem_toArray, List.getElem_cons_zero, List.getElem_cons_succ]
 refine wpAnyL_pure (i := 3) rfl (by kernel_rfl) (fun _ _ _ h => h) (Or.inl ⟨by rfl, (fun u hu => by obtain ⟨k0, k1, k2, k3, k4, k5, k6⟩ := hu; go_simp; try rfl)⟩) (HC.out _ (.drew _ _)) (fun _ => trivial) ?_
 simp only [Act.put, List.setIfInBounds_toArray, List.set_cons_zero, List.set_cons_succ, List.getElem_toArray, List.getElem_cons_zero, List.getElem_cons_succ]
 refine wpAnyL_pure (i := 4) rfl (by kernel_rfl) (fun _ _ _ h => h) (Or.inl ⟨by rfl, (fun u hu => by obtain ⟨k0, k1, k2, k3, k4, k5, k6⟩ := hu; go_simp; try rfl)⟩) (HC.out _ (.drew _ _)) (fun _ => trivial) ?_
 simp only [Act.put, List.setIfInBounds_toArray, List.set_cons_zero, List.set_cons_succ, List.getElem_toArray, List.getElem_cons_zero, List.getElem_cons_succ]
 refine wpAnyL_pure (i := 6) rfl (by kernel_rfl) (fun _ _ _ h => h) (Or.inl ⟨by rfl, (fun u hu => by obtain ⟨k0, k1, k2, k3, k4, k5, k6⟩ := hu; go_simp; try rfl)⟩) (HC.out _ (.drew _ _)) (fun _ => trivial) ?_
 simp only [Act.put, List.setIfInBounds_toArray, List.set_cons_zero, List.set_cons_succ, List.getElem_toArray, List.getElem_cons_zero, List.getElem_cons_succ]
 refine wpAnyL_pure (i := 7) rfl (by kernel_rfl) (fun _ _ _ h => h) (Or.inl ⟨by rfl, (fun u hu => by obtain ⟨k0, k1, k2, k3, k4, k5, k6⟩ := hu; go_simp; try rfl)⟩) (HC.out _ (.drew _ _)) (fun _ => trivial) ?_
 simp only [Act.put, List.setIfInBounds_toArray, List.set_cons_zero, List.set_cons_succ, List.getElem_toArray, List.getElem_cons_zero, List.getElem_cons_succ]
 refine wpAnyL_pure (i := 8) rfl (by kernel_rfl) (fun _ _ _ h => h) (Or.inl ⟨by rfl, (fun u hu => by obtain ⟨k0, k1, k2, k3, k4, k5, k6⟩ := hu; go_simp; try rfl)⟩) (HC.out _ (.drew _ _)) (fun _ => trivial) ?_
 simp only [Act.put, List.setIfInBounds_toArray, List.set_cons_zero, List.set_cons_succ, List.getElem_toArray, List.getElem_cons_zero, List.getElem_cons_succ]
 refine wpAnyL_ready (rs := [5]) (by kernel_rfl) (by simp) ?_
 refine AllL.cons rfl (fun K hK => ?_) ?_
 ·
  go_simp
  refine (mkKey _ (tq, ta, tp) (by show tq < 256; omega) (by show ta < 256; omega) (by show tp < 256; omega) rule (by omega) S A (n1 + 1) c qs (HS.out.below HB1.out).drew (fun x hx => by have := HQN.out x hx; omega) (by omega)).mono ?_
  rintro e w2 ⟨rfl, hb2⟩
  have HB2 := Lib.hid (show Below w1.heap.size w1 w2 from ((Below.refl _ _).drew).trans hb2)
  obtain ⟨ky, hky⟩ : ∃ ky, ky = strOf (keyD (tq, ta, tp) rule qs) := ⟨_, rfl⟩
  have HKY := Lib.hid hky
  rw [← hky]
  clear hb2 hky
  refine hK.out _ _ (HC.out _ (.of_below HB2.out (Nat.le_refl _) _)) (fun _ => trivial) ?_
  clear hK K
  refine wpAnyL_ready (rs := [9]) (by kernel_rfl) (by simp) ?_
  refine AllL.cons rfl (fun K hK => ?_) ?_
  ·
   rw [if_pos (by simp [Region.wanted])]
   have hst2 := HST1.out.below HX.out HB2.out
   refine step_amap_put _ _ _ 69 rfl 3 mapStrI X.Bq _ rfl hst2.km ky rfl (by show ky.size ≤ maxLen; rw [HKY.out, strOf_size]; have := HQ.out; have := HNL.out; simp only [keyD, List.length_append, List.length_map, List.length_cons, List.length_nil]; unfold maxLen; omega) (.int .i64 (nf : Int)) rfl (by have := HKM.out; unfold maxLen; omega) ?_
   intro w3 hm3 hg3
   have ho23 : Only w2 w3 (fun b => b = X.Bq) := Only.of_grown hg3 fun b e => by injection e with e; exact e.symm
   have HST3 := Lib.hid (hst2.putK HX.out ho23 hm3)
   have HO3 := Lib.hid ((Only.of_below HB2.out (Nat.le_refl _) _).trans ho23)
   clear hst2 hm3 hg3 ho23
   change K (Act.put _ none _) _
   refine hK.out _ _ (HC.out _ HO3.out) (fun _ => trivial) ?_
   clear hK K
   refine wpAnyL_done (by kernel_rfl) ?_ _
   have HIB3 := Lib.hid (HIB1.out.only HO3.out fun b hb => (HBX.out b hb).2.1)
   have hrr : w3.cell? ⟨Br, 1, none⟩ = some (.slice A1 n1 c1) := by simp [World.cell?, HIB3.out.r]
   have HI3 := Lib.hid ((HO3.out.block _ (heap_lt HBI.out) (by have := HX.out.bq; have := HST.out.low; omega)).trans HBI.out)
   have hlowz : X.K ≤ w.heap.size := HST.out.low
   have hz13 : w1.heap.size ≤ w3.heap.size := HO3.out.size
   have hz01 : w.heap.size < w1.heap.size := heap_lt HBI.out
   have HSL3 := Lib.hid ((HSL.out.below HB1.out).keep (HO3.out.kept fun b hb e => (HX.out.moq b (.inr (.inr hb))).2 e))
   have HS3 := Lib.hid ((HS.out.below HB1.out).keep (HO3.out.kept fun b hb e => (HSS.out b hb).2.2.1 e))
   go_wp2_with fail
   clear hrr
   go_loopg [11, 26] n1 (fun gk v11 v26 wr => ∃ k : Nat, k ≤ n1 ∧ gk = n1 - k ∧ v26 = .int .i64 k ∧ GL RSym 42 wr (fun b => w3.heap.size ≤ b) v11 (instPre L rhs qs k) ∧ Below w3.heap.size w3 wr)
   case atStart => exact ⟨0, Nat.zero_le _, rfl, rfl, GL.nil _ _, .refl _ _⟩
   case round =>
    obtain ⟨k, hk, hgk, rfl, hgl, hb⟩ := hrel
    obtain ⟨w4, rfl⟩ : ∃ w4 : World, w4 = wr := ⟨_, rfl⟩
    have HGK := Lib.hid hgk
    obtain ⟨A4, c4, hv, hc4⟩ := hgl.form
    subst hv
    have HGL := Lib.hid hgl
    have HB := Lib.hid hb
    rw [instPre_len]
    have hst4 := HST3.out.below HX.out (hb.mono (Nat.le_refl _))
    have HST4 := Lib.hid hst4
    have HLN4 := Lib.hid (instPre_len L rhs qs k)
    clear hgk hgl hb hst4
    by_cases hkl : k < n1
    ·
     have hkI : (k : Int) < (n1 : Int) := by omega
     have hk0 : (0 : Int) ≤ (k : Int) := by omega
     have hsl4 := HSL3.out.below HB.out
     obtain ⟨bl, ol, u1, u2, s, hA, _, hls, hok, hc1, hc2⟩ := hsl4.at2 (k := k) rfl hkl
     have h2 := RSym.cells.1 hok
     injection h2 with e1 h2
     injection h2 with e2 _
     subst e1
     subst e2
     subst hA
     obtain ⟨sb, sx⟩ := s
     have hc2 : w4.cell? ⟨bl, ol + k * 2 + 1, none⟩ = some (.int .i64 sx) := hc2
     have HPS := Lib.hid (instPre_succ (L := L) (qs := qs) hls)
     have hsm := HSY.out _ (List.mem_of_getElem? hls)
     obtain ⟨w5, hw5⟩ : ∃ w5 : World, w5 = w4.alloc (.cells #[.bool sb, .int .i64 sx] 42) := ⟨_, rfl⟩
     have hb45 : Below w4.heap.size w4 w5 := by rw [hw5]; exact (Below.refl _ _).alloc (Nat.le_refl _) _
     have HSB5 := Lib.hid (show w5.heap[w4.heap.size]? = some (.cells #[.bool sb, .int .i64 sx] 42 (0, 0)) by rw [hw5]; exact heap_alloc_new _ _)
     have HB5 := Lib.hid (HB.out.trans (hb45.mono HB.out.size))
     have HGL5 := Lib.hid (HGL.out.fit.below hb45)
     rw [HLN4.out] at HGL5
     have HW5 := Lib.hid hw5
     cases sb with
     | true =>
      rw [show instSym L qs k (true, sx) = (true, sx) from rfl] at HPS
      clear hsl4 hok hls hb45 hsm
      have hz5 : w5.heap.size = w4.heap.size + 1 := by rw [hw5]; simp
      have hsy0 : w5.cell? ⟨w4.heap.size, 0, none⟩ = some (.bool true) := by simp [World.cell?, HSB5.out]
      have hsy1 : w5.cell? ⟨w4.heap.size, 1, none⟩ = some (.int .i64 sx) := by simp [World.cell?, HSB5.out]
      obtain ⟨A7, c7, w7, hrun, hgl, hg7, hrow7⟩ := (HGL5.out).push tSyms rfl (x := (true, sx)) (ys := [.bool true, .int .i64 sx]) (G := fun _ => False) (RSym.cells.2 rfl) (fun b hb => hb.elim) (by rw [instPre_len]; omega) (by omega) 38
      rw [instPre_len] at hrun hgl hrow7
      have HGL7 := Lib.hid (show GL RSym 42 w7 (fun b => w3.heap.size ≤ b) (.slice A7 (k + 1) c7) (instPre L rhs qs (k + 1)) from by
       rw [HPS.out]
       exact hgl.more fun b hb => by
        rcases hb with h | h | h
        ·
         exact h.1
        ·
         exact h.elim
        ·
         have := HB5.out.size; omega)
      have HB7 := Lib.hid (show Below w3.heap.size w3 w7 from HB5.out.trans (((Below.refl _ _).alloc HB5.out.size _).trans ((Only.of_grown hg7 (X := fun b => w3.heap.size ≤ b) fun b e => (HGL5.out.row b e).1).below (fun b hb => hb) (by have := HB5.out.size; simp; omega))))
      rw [hz5, hw5] at hrun
      rw [hw5] at hsy0 hsy1
      clear hz5 hw5
      have HRUN := Lib.hid hrun
      clear hrun hgl hg7 hrow7
      go_wp2_with (at_builtin; refine Lib.wpList_append_run (o := ⟨some 54, _, _, _, _, _⟩) _ rfl _ _ _ _ rfl _ _ rfl rfl _ _ HRUN.out ?_)
      go_roundg (n1 - (k + 1))
      case measure => rw [HGK.out]; omega
      case rel => exact ⟨k + 1, by omega, rfl, by go_num, HGL7.out, HB7.out⟩
     | false =>
      obtain ⟨hx0, hx1⟩ := hsm.2 rfl
      obtain ⟨xn, rfl⟩ : ∃ xn : Nat, sx = (xn : Int) := ⟨sx.toNat, by simp only at hx0; omega⟩
      have hxN : xn < M.N := by simp only at hx1; omega
      have hqk : qs[k]? = some (qs[k]'(by have := HQ.out; have := HNL.out; omega)) := List.getElem?_eq_getElem _
      generalize qs[k]'(by have := HQ.out; have := HNL.out; omega) = q1 at hqk
      have hqk2 : qs[k + 1]? = some (qs[k + 1]'(by have := HQ.out; have := HNL.out; omega)) := List.getElem?_eq_getElem _
      generalize qs[k + 1]'(by have := HQ.out; have := HNL.out; omega) = q2 at hqk2
      have hs5 := (HS3.out.below HB.out).below hb45
      obtain ⟨bq, oq, y1, hA1, hSq, hy1, hcy1⟩ := hs5.ints.int_at (k := k) (by omega)
      obtain ⟨bq2, oq2, y2, hA2, _, hy2, hcy2⟩ := hs5.ints.int_at (k := k + 1) (by omega)
      subst hA1
      injection hA2 with hA2
      injection hA2 with e1 e2
      subst e1
      subst e2
      have hyx1 : y1 = (q1 : Int) := by
       rw [List.getElem?_map, hqk] at hy1
       simpa using hy1.symm
      have hyx2 : y2 = (q2 : Int) := by
       rw [List.getElem?_map, hqk2] at hy2
       simpa using hy2.symm
      subst hyx1
      subst hyx2
      have hq1n := HQN.out q1 (List.mem_of_getElem? hqk)
      have hq2n := HQN.out q2 (List.mem_of_getElem? hqk2)
      obtain ⟨nm, hnm⟩ : ∃ nm, nm = numT L (q1, xn, q2) := ⟨_, rfl⟩
      rw [show instSym L qs k (false, (xn : Int)) = (false, (nm : Int)) by
       unfold instSym
       rw [if_neg (by simp), hqk, hqk2, hnm]
       rfl] at HPS
      have HNM := Lib.hid hnm
      have hsb1 : w5.cell? ⟨w4.heap.size, 1, none⟩ = some (.int .i64 (xn : Int)) := by simp [World.cell?, HSB5.out]
      have hsbf : w5.frozen? ⟨w4.heap.size, 1, none⟩ = false := by simp [World.frozen?, HSB5.out]
      have hbq : bq < w4.heap.size := by
       have h1 := (HSS.out bq hSq).1
       have := HB.out.size
       omega
      have HS1 := Lib.hid (show ∀ u : World, Only w5 u (fun b => b = w4.heap.size) → u.cell? ⟨X.Bm, 0, none⟩ = some (.map (some X.Bn)) ∧ u.cell? ⟨w.heap.size, 4, none⟩ = some (.slice (some ⟨bq, oq, none⟩) (n1 + 1) c) ∧ u.cell? ⟨bq, oq + k, none⟩ = some (.int .i64 (q1 : Int)) ∧ u.cell? ⟨bq, oq + (k + 1), none⟩ = some (.int .i64 (q2 : Int)) ∧ (Instr.lookup 109 (.map (some X.Bn)) (.agg #[.int .i64 (q1 : Int), .int .i64 (xn : Int), .int .i64 (q2 : Int)]) false).run Try.prog u = .ok (.int .i64 (nm : Int)) u from fun u hu => by
       have hst5 := HST4.out.below HX.out hb45
       have hz4 : w3.heap.size ≤ w4.heap.size := HB.out.size
       have h1 := (hu.block _ (heap_lt hst5.nb) (by have := HX.out.bm; omega)).trans hst5.nb
       have h2 := (hu.block _ (Nat.lt_of_lt_of_le (heap_lt HI3.out) (Nat.le_trans HB.out.size hb45.size)) (by omega)).trans ((hb45.block _ (Nat.lt_of_lt_of_le (heap_lt HI3.out) HB.out.size)).trans ((HB.out.block _ (heap_lt HI3.out)).trans HI3.out))
       have key : ∀ {o : Nat} {v : Value}, w5.cell? ⟨bq, o, none⟩ = some v → u.cell? ⟨bq, o, none⟩ = some v := fun {o v} h => by
        rw [World.cell?_of_block (hu.block bq (cell_lt h) (by omega))]; exact h
       have h3 := AMap.look (w := u) (hst5.num.only hu (by have := HX.out.bn; omega)) mapTriI zeroIM (triOk q1 xn q2 (by omega) (by omega) (by omega))
       rw [lk_num HLD.out, ← HNM.out] at h3
       exact ⟨by simp [World.cell?, h1], by simp [World.cell?, h2], key hcy1, key hcy2, h3⟩)
      have HSB1 := Lib.hid hsb1
      have HSBF := Lib.hid hsbf
      clear hsl4 hok hls hsm hs5 hy1 hy2 hqk hqk2 hnm hcy1 hcy2 hsb1 hsbf hx0 hx1
      have hsm0 : w5.cell? ⟨w4.heap.size, 0, none⟩ = some (.bool false) := by simp [World.cell?, HSB5.out]
      rw [hw5] at hsm0
      clear hw5
      go_wp2_with fail
      rw [← HW5.out]
      clear hsm0 hc1 hc2
      refine wp_region_late (late := [17]) (S1 := fun u => u.cell? ⟨X.Bm, 0, none⟩ = some (.map (some X.Bn)) ∧ u.cell? ⟨w.heap.size, 4, none⟩ = some (.slice (some ⟨bq, oq, none⟩) (n1 + 1) c) ∧ u.cell? ⟨bq, oq + k, none⟩ = some (.int .i64 (q1 : Int)) ∧ u.cell? ⟨bq, oq + (k + 1), none⟩ = some (.int .i64 (q2 : Int)) ∧ (Instr.lookup 109 (.map (some X.Bn)) (.agg #[.int .i64 (q1 : Int), .int .i64 (xn : Int), .int .i64 (q2 : Int)]) false).run Try.prog u = .ok (.int .i64 (nm : Int)) u) (S := fun u => u.cell? ⟨w4.heap.size, 1, none⟩ = some (.int .i64 (xn : Int))) (by kernel_rfl) ?_
      have hwr : IntKind.i64.wrap ((k : Int) + 1) = (k : Int) + 1 := by rw [IntKind.wrap_i64]; omega
      have hk10 : (0 : Int) ≤ (k : Int) + 1 := by omega
      have hk1n : (k : Int) + 1 < (n1 : Int) + 1 := by omega
      have hk0n : (k : Int) < (n1 : Int) + 1 := by omega
      have hktn : ((k : Int) + 1).toNat = k + 1 := by omega
      refine wpAnyL_pure (i := 0) rfl (by kernel_rfl) (fun _ _ _ h => h) (Or.inl ⟨by rfl, (fun u hu => by obtain ⟨k0, k1, k2, k3, k4⟩ := hu; go_simp; try rfl)⟩) (HS1.out _ (.drew _ _)) (fun _ => HSB1.out) ?_
      simp only [Act.put, List.setIfInBounds_toArray, List.set_cons_zero, List.set_cons_succ, List.getElem_toArray, List.getElem_cons_zero, List.getElem_cons_succ]
      refine wpAnyL_pure (i := 1) rfl (by kernel_rfl) (fun _ _ _ h => h) (Or.inl ⟨by rfl, (fun u hu => by obtain ⟨k0, k1, k2, k3, k4⟩ := hu; go_simp; try rfl)⟩) (HS1.out _ (.drew _ _)) (fun _ => HSB1.out) ?_
      simp only [Act.put, List.setIfInBounds_toArray, List.set_cons_zero, List.set_cons_succ, List.getElem_toArray, List.getElem_cons_zero, List.getElem_cons_succ]
      refine wpAnyL_pure (i := 2) rfl (by kernel_rfl) (fun _ _ _ h => h) (Or.inl ⟨by rfl, (fun u hu => by obtain ⟨k0, k1, k2, k3, k4⟩ := hu; go_simp; try rfl)⟩) (HS1.out _ (.drew _ _)) (fun _ => HSB1.out) ?_
      simp only [Act.put, List.setIfInBounds_toArray, List.set_cons_zero, List.set_cons_succ, List.getElem_toArray, List.getElem_cons_zero, List.getElem_cons_succ]
      refine wpAnyL_pure (i := 3) rfl (by kernel_rfl) (fun _ _ _ h => h) (Or.inl ⟨by rfl, (fun u hu => by obtain ⟨k0, k1, k2, k3, k4⟩ := hu; go_simp; try rfl)⟩) (HS1.out _ (.drew _ _)) (fun _ => HSB1.out) ?_
      simp only [Act.put, List.setIfInBounds_toArray, List.set_cons_zero, List.set_cons_succ, List.getElem_toArray, List.getElem_cons_zero, List.getElem_cons_succ]
      refine wpAnyL_pure (i := 4) rfl (by kernel_rfl) (fun _ _ _ h => h) (Or.inl ⟨by rfl, (fun u hu => by obtain ⟨k0, k1, k2, k3, k4⟩ := hu; go_simp; try rfl)⟩) (HS1.out _ (.drew _ _)) (fun _ => HSB1.out) ?_
      simp only [Act.put, List.setIfInBounds_toArray, List.set_cons_zero, List.set_cons_succ, List.getElem_toArray, List.getElem_cons_zero, List.getElem_cons_succ]
      refine wpAnyL_pure (i := 5) rfl (by kernel_rfl) (fun _ _ _ h => h) (Or.inl ⟨by rfl, (fun u hu => by obtain ⟨k0, k1, k2, k3, k4⟩ := hu; go_simp; try rfl)⟩) (HS1.out _ (.drew _ _)) (fun _ => HSB1.out) ?_
      simp only [Act.put, List.setIfInBounds_toArray, List.set_cons_zero, List.set_cons_succ, List.getElem_toArray, List.getElem_cons_zero, List.getElem_cons_succ]
      refine wpAnyL_pure (i := 6) rfl (by kernel_rfl) (fun _ _ _ h => h) (Or.inl ⟨by rfl, (fun u hu => by obtain ⟨k0, k1, k2, k3, k4⟩ := hu; go_simp; try rfl)⟩) (HS1.out _ (.drew _ _)) (fun _ => HSB1.out) ?_
      simp only [Act.put, List.setIfInBounds_toArray, List.set_cons_zero, List.set_cons_succ, List.getElem_toArray, List.getElem_cons_zero, List.getElem_cons_succ]
      refine wpAnyL_take (i := 7) rfl (by kernel_rfl) (fun _ _ _ h => h) (Or.inl ⟨by rfl, (fun u hu => by obtain ⟨_, hu1⟩ := hu; go_simp; try rfl)⟩) (HS1.out _ (.drew _ _)) (fun _ => HSB1.out) ?_
      simp only [Act.put, List.setIfInBounds_toArray, List.set_cons_zero, List.set_cons_succ, List.getElem_toArray, List.getElem_cons_zero, List.getElem_cons_succ]
      refine wpAnyL_pure (i := 8) rfl (by kernel_rfl) (fun _ _ _ h => h) (Or.inl ⟨by rfl, (fun u hu => by obtain ⟨k0, k1, k2, k3, k4⟩ := hu; go_simp; try rfl)⟩) (HS1.out _ (.drew _ _)) (fun _ => HSB1.out) ?_
      simp only [Act.put, List.setIfInBounds_toArray, List.set_cons_zero, List.set_cons_succ, List.getElem_toArray, List.getElem_cons_zero, List.getElem_cons_succ]
      refine wpAnyL_pure (i := 9) rfl (by kernel_rfl) (fun _ _ _ h => h) (Or.inl ⟨by rfl, (fun u hu => by obtain ⟨k0, k1, k2, k3, k4⟩ := hu; go_simp; try rfl)⟩) (HS1.out _ (.drew _ _)) (fun _ => HSB1.out) ?_
      simp only [Act.put, List.setIfInBounds_toArray, List.set_cons_zero, List.set_cons_succ, List.getElem_toArray, List.getElem_cons_zero, List.getElem_cons_succ]
      refine wpAnyL_pure (i := 10) rfl (by kernel_rfl) (fun _ _ _ h => h) (Or.inl ⟨by rfl, (fun u hu => by obtain ⟨k0, k1, k2, k3, k4⟩ := hu; go_simp; try rfl)⟩) (HS1.out _ (.drew _ _)) (fun _ => HSB1.out) ?_
      simp only [Act.put, List.setIfInBounds_toArray, List.set_cons_zero, List.set_cons_succ, List.getElem_toArray, List.getElem_cons_zero, List.getElem_cons_succ]
      refine wpAnyL_pure (i := 11) rfl (by kernel_rfl) (fun _ _ _ h => h) (Or.inl ⟨by rfl, (fun u hu => by obtain ⟨k0, k1, k2, k3, k4⟩ := hu; go_simp; try rfl)⟩) (HS1.out _ (.drew _ _)) (fun _ => HSB1.out) ?_
      simp only [Act.put, List.setIfInBounds_toArray, List.set_cons_zero, List.set_cons_succ, List.getElem_toArray, List.getElem_cons_zero, List.getElem_cons_succ]
      refine wpAnyL_pure (i := 12) rfl (by kernel_rfl) (fun _ _ _ h => h) (Or.inl ⟨by rfl, (fun u hu => by obtain ⟨k0, k1, k2, k3, k4⟩ := hu; go_simp; try rfl)⟩) (HS1.out _ (.drew _ _)) (fun _ => HSB1.out) ?_
      simp only [Act.put, List.setIfInBounds_toArray, List.set_cons_zero, List.set_cons_succ, List.getElem_toArray, List.getElem_cons_zero, List.getElem_cons_succ]
      refine wpAnyL_pure (i := 13) rfl (by kernel_rfl) (fun _ _ _ h => h) (Or.inl ⟨by rfl, (fun u hu => by obtain ⟨k0, k1, k2, k3, k4⟩ := hu; go_simp; try rfl)⟩) (HS1.out _ (.drew _ _)) (fun _ => HSB1.out) ?_
      simp only [Act.put, List.setIfInBounds_toArray, List.set_cons_zero, List.set_cons_succ, List.getElem_toArray, List.getElem_cons_zero, List.getElem_cons_succ]
      refine wpAnyL_pure (i := 14) rfl (by kernel_rfl) (fun _ _ _ h => h) (Or.inl ⟨by rfl, (fun u hu => by obtain ⟨k0, k1, k2, k3, k4⟩ := hu; go_simp; try rfl)⟩) (HS1.out _ (.drew _ _)) (fun _ => HSB1.out) ?_
      simp only [Act.put, List.setIfInBounds_toArray, List.set_cons_zero, List.set_cons_succ, List.getElem_toArray, List.getElem_cons_zero, List.getElem_cons_succ]
      refine wpAnyL_pure (i := 15) rfl (by kernel_rfl) (fun _ _ _ h => h) (Or.inl ⟨by rfl, (fun u hu => by obtain ⟨k0, k1, k2, k3, k4⟩ := hu; go_simp; try rfl)⟩) (HS1.out _ (.drew _ _)) (fun _ => HSB1.out) ?_
      simp only [Act.put, List.setIfInBounds_toArray, List.set_cons_zero, List.set_cons_succ, List.getElem_toArray, List.getElem_cons_zero, List.getElem_cons_succ]
      refine wpAnyL_pure (i := 16) rfl (by kernel_rfl) (fun _ _ _ h => h) (Or.inl ⟨by rfl, (fun u hu => by obtain ⟨k0, k1, k2, k3, k4⟩ := hu; go_simp; try rfl)⟩) (HS1.out _ (.drew _ _)) (fun _ => HSB1.out) ?_
      simp only [Act.put, List.setIfInBounds_toArray, List.set_cons_zero, List.set_cons_succ, List.getElem_toArray, List.getElem_cons_zero, List.getElem_cons_succ]
      refine wpAnyL_ready (rs := [17]) (by kernel_rfl) (by simp) ?_
      refine AllL.cons rfl (fun K hK => ?_) ?_
      ·
       have hc := HSB1.out
       have hf := HSBF.out
       go_simp
       clear hc hf
       obtain ⟨w6, hw6⟩ : ∃ w6 : World, w6 = (w5.setCell ⟨w4.heap.size, 1, none⟩ (.int .i64 (nm : Int))).drew := ⟨_, rfl⟩
       have HO6 := Lib.hid (show Only w5 w6 (fun b => b = w4.heap.size) by rw [hw6]; exact Only.trans (X := fun b => b = w4.heap.size) (Only.set _ _ _ _ rfl) (Only.drew _ _))
       have HSB6 := Lib.hid (show w6.heap[w4.heap.size]? = some (.cells #[.bool false, .int .i64 (nm : Int)] 42 (0, 0)) by rw [hw6]; exact blk_set (w := w5) HSB5.out 1 _)
       have HW6 := Lib.hid hw6
       clear hw6
       first | rw [← HW6.out] | rw [show _ = w6 from HW6.out.symm]
       refine hK.out _ _ (HS1.out _ HO6.out) (fun h => absurd (h 17 (by simp)) (by decide)) ?_
       clear hK K
       refine wpAnyL_done (by kernel_rfl) ?_ _
       have HB6 := Lib.hid (HB5.out.trans (HO6.out.below (fun b e => by subst e; exact HB.out.size) HB5.out.size))
       have HGL6 := Lib.hid (HGL5.out.only HO6.out fun b hb _ e => by have := hb.2; omega)
       have hsy0 : w6.cell? ⟨w4.heap.size, 0, none⟩ = some (.bool false) := by simp [World.cell?, HSB6.out]
       have hsy1 : w6.cell? ⟨w4.heap.size, 1, none⟩ = some (.int .i64 (nm : Int)) := by simp [World.cell?, HSB6.out]
       obtain ⟨A7, c7, w7, hrun, hgl, hg7, hrow7⟩ := (HGL6.out).push tSyms rfl (x := (false, (nm : Int))) (ys := [.bool false, .int .i64 (nm : Int)]) (G := fun _ => False) (RSym.cells.2 rfl) (fun b hb => hb.elim) (by rw [instPre_len]; omega) (by omega) 38
       rw [instPre_len] at hrun hgl hrow7
       have HGL7 := Lib.hid (show GL RSym 42 w7 (fun b => w3.heap.size ≤ b) (.slice A7 (k + 1) c7) (instPre L rhs qs (k + 1)) from by
        rw [HPS.out]
        exact hgl.more fun b hb => by
         rcases hb with h | h | h
         ·
          exact h.1
         ·
          exact h.elim
         ·
          have := HB6.out.size; omega)
       have HB7 := Lib.hid (show Below w3.heap.size w3 w7 from HB6.out.trans (((Below.refl _ _).alloc HB6.out.size _).trans ((Only.of_grown hg7 (X := fun b => w3.heap.size ≤ b) fun b e => (HGL6.out.row b e).1).below (fun b hb => hb) (by have := HB6.out.size; simp; omega))))
       have HRUN := Lib.hid hrun
       clear hrun hgl hg7 hrow7
       go_wp2_with (at_builtin; refine Lib.wpList_append_run (o := ⟨some 54, _, _, _, _, _⟩) _ rfl _ _ _ _ rfl _ _ rfl rfl _ _ HRUN.out ?_)
       go_roundg (n1 - (k + 1))
       case measure => rw [HGK.out]; omega
       case rel => exact ⟨k + 1, by omega, rfl, by go_num, HGL7.out, HB7.out⟩
      exact AllL.nil
    ·
     obtain rfl : n1 = k := by omega
     have hz4 : w3.heap.size ≤ w4.heap.size := HB.out.size
     have hIB4 := HIB3.out.only (Y := fun b => w3.heap.size ≤ b) ⟨HB.out.os, HB.out.tape, HB.out.output, HB.out.size, fun b h1 h2 => HB.out.block b (by omega)⟩ fun b hb hx => by
      rcases hb with rfl | rfl | rfl | rfl
      ·
       have := heap_lt HIB3.out.t; omega
      ·
       have := heap_lt HIB3.out.ri; omega
      ·
       have := heap_lt HIB3.out.r; omega
      ·
       have := heap_lt HIB3.out.i; omega
     have c0 : w4.cell? ⟨X.Ba, 0, none⟩ = some (.func (.func 56) #[] #[.pointer (some ⟨X.Bo, 0, none⟩)]) := by simp [World.cell?, HST4.out.ab]
     have c1' : w4.cell? ⟨Bi, 0, none⟩ = some (.int .i64 (i : Int)) := by simp [World.cell?, hIB4.i]
     have c2' : w4.cell? ⟨Bri, 0, none⟩ = some (.int .i64 (rule : Int)) := by simp [World.cell?, hIB4.ri]
     have HIS := Lib.hid (show instS L rhs qs = instPre L rhs qs n1 by rw [instS_pre L rhs qs HQ.out, HNL.out])
     have hgl4 := HGL.out
     rw [HLN4.out] at hgl4
     have HSLR := Lib.hid hgl4.sl.fit
     have he := enters_padd
     have hrow := HST4.out.out.R.row
     have hrl := fun b e => HST4.out.out.R.lt (g := b) e
     have hcall := mkPAdd w4 X.Bo FR FF vR vN (.slice AF nf cF) rs fr HST4.out.out ((i : Int) + 1) (rule : Int) (fun b => w3.heap.size ≤ b ∧ b < w4.heap.size) A4 n1 c4 (instPre L rhs qs n1) HSLR.out (fun b hb => ⟨hb.2, by have := HX.out.bo; have := hb.1; omega, fun h => by have := HST.out.fit b (.inr h); have := hb.1; omega, fun e => by have := HST.out.fit b (.inl (HST.out.out.R.row b e)); have := hb.1; omega⟩) HST.out.len (by omega) (fun b hb => HST4.out.fit b hb)
     have HCALL := Lib.hid hcall
     have hi0 : (0 : Int) ≤ (i : Int) + 1 := by omega
     clear hIB4 hgl4 hrow hrl hcall
     go_wp2_with fail
     refine HCALL.out.mono ?_
     rintro e w9 ⟨FR2, FF2, vR2, vF2, rfl, hp9, ho9, hf9, hf9'⟩
     have HP2R := Lib.hid (show P2R M X W L w FR FF vN rs' (fr ++ [(rule : Int)]) km' (.returned (.bool (decide ((fr ++ [(rule : Int)]).length ≤ 4000)))) w9 from by
      have hlow := HST.out.low
      refine ⟨fun b => FR2 b ∧ b < w9.heap.size, fun b => FF2 b ∧ b < w9.heap.size, vR2, vF2, rfl, ?_, ?_, ?_⟩
      ·
       rw [HRS.out, HKM2.out, HIS.out, ← HKY.out]
       exact HST4.out.added HX.out (G := fun b => w3.heap.size ≤ b ∧ b < w4.heap.size) (fun b hb => ⟨by have := hb.1; omega, hb.2⟩) ho9 hp9 hf9 hf9'
      ·
       have a1 : Only w w1 (fun b => b = X.Bo ∨ b = X.Bq ∨ FR b ∨ FF b) := .of_below HB1.out (Nat.le_refl _) _
       have a3 : Only w1 w3 (fun b => b = X.Bo ∨ b = X.Bq ∨ FR b ∨ FF b) := HO3.out.more fun b _ h => .inr (.inl h)
       have a4 : Only w3 w4 (fun b => b = X.Bo ∨ b = X.Bq ∨ FR b ∨ FF b) := .of_below HB.out (Nat.le_refl _) _
       exact a1.trans (a3.trans (a4.trans (ho9.more fun b _ h => h.imp id .inr)))
      ·
       rintro b (hb | hb)
       ·
        rcases hf9 b hb.1 with h | h | h
        ·
         exact .inl h
        ·
         exact .inr (.inr (by have := h.1; omega))
        ·
         exact .inr (.inr (by omega))
       ·
        rcases hf9' b hb.1 with h | h
        ·
         exact .inr (.inl h)
        ·
         exact .inr (.inr (by omega)))
     obtain ⟨bb, hbb⟩ : ∃ bb, bb = decide ((fr ++ [(rule : Int)]).length ≤ 4000) := ⟨_, rfl⟩
     rw [← hbb] at HP2R ⊢
     clear hbb
     go_wp2_with fail
     go_ret
     exact HP2R.out
  exact AllL.nil
 exact AllL.nil
end Go.Proofs.Ytbmcoamdfpegnaa
