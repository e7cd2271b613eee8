/- Parts -/
import Derived.Test.YtocbkccchnbmaaaGreatAw29
namespace Go.Proofs.YtocbkccchnbmaaaGreat
open Go.RowKit
theorem entersNum : ∀ (args : Array Value) (u : World), (callFunc 65 args).run Tryz.prog u = .ok (.enter 65 args) u := enters_of Tryz.func65 (by kernel_rfl) rfl
structure PBox (w : World) (Bd Bl BL Bp BN Bc Bw n : Nat) (A : Option Addr) (nA cA : Nat) (N : Option Addr) (cN : Nat) (d : DfaD) (L : List Bool) (p : List Int) (cnt : Int) (wr : World) : Prop where
 bd : wr.heap[Bd]? = some (.cells #[.int .i64 d.1, .slice A nA cA, .slice N n cN] 29 (0, 0))
 bl : wr.heap[Bl]? = some (.cells #[.slice (some ⟨BL, 0, none⟩) n n] 68 (0, 0))
 bp : wr.heap[Bp]? = some (.cells #[.slice (some ⟨BN, 0, none⟩) n n] 22 (0, 0))
 bc : wr.heap[Bc]? = some (.cells #[.int .i64 cnt] 3 (0, 0))
 bw : wr.heap[Bw]? = some (.cells #[.func (.func 66) #[] #[]] 131 (0, 0))
 lv : LvB wr BL L
 inb : InB wr BN p
 ge : w.heap.size ≤ Bd ∧ w.heap.size ≤ Bp ∧ w.heap.size ≤ Bc
 gn : w.heap.size ≤ BN
 below : Below w.heap.size w wr
section
variable {w wr wr' : World} {Bd Bl BL Bp BN Bc Bw n : Nat} {A : Option Addr} {nA cA : Nat} {N : Option Addr} {cN : Nat} {d : DfaD} {L : List Bool} {p : List Int} {cnt : Int}
theorem PBox.mono (h : PBox w Bd Bl BL Bp BN Bc Bw n A nA cA N cN d L p cnt wr) (hb : Below wr.heap.size wr wr') : PBox w Bd Bl BL Bp BN Bc Bw n A nA cA N cN d L p cnt wr' :=
 ⟨(hb.block _ (heap_lt h.bd)).trans h.bd, (hb.block _ (heap_lt h.bl)).trans h.bl, (hb.block _ (heap_lt h.bp)).trans h.bp, (hb.block _ (heap_lt h.bc)).trans h.bc, (hb.block _ (heap_lt h.bw)).trans h.bw, h.lv.below hb, h.inb.below hb, h.ge, h.gn, h.below.trans (hb.mono h.below.size)⟩
theorem PBox.num (h : PBox w Bd Bl BL Bp BN Bc Bw n A nA cA N cN d L p cnt wr) {lv : Nat → Prop} {K : Nat → ByteArray} {m : Nat} (hr : NumR wr lv K n Bp Bc wr') (hm : m = n) : ∃ BN' next ks, NumInv lv K m m next ks ∧ PBox w Bd Bl BL Bp BN' Bc Bw n A nA cA N cN d L next (ks.length : Int) wr' := by
 subst hm
 obtain ⟨w2, BN', next, ks, hb, hge, hi, hni, rfl⟩ := hr
 have h2 := h.mono hb
 have hpc : Bp ≠ Bc := fun e => by
  have h1 := h2.bp
  rw [e, h2.bc] at h1
  simp at h1
 have hlt := heap_lt h2.bp
 have hltc := heap_lt h2.bc
 have hlt1 := heap_lt h.bp
 have hlt1c := heap_lt h.bc
 have keep : ∀ b : Nat, b ≠ Bp → b ≠ Bc → ((w2.setCell ⟨Bp, 0, none⟩ (.slice (some ⟨BN', 0, none⟩) m m)).setCell ⟨Bc, 0, none⟩ (.int .i64 (ks.length : Int))).heap[b]? = w2.heap[b]? := fun b h1 h2 => by
  rw [Below.heap_setCell _ _ _ _ h2, Below.heap_setCell _ _ _ _ h1]
 have nd : ∀ b : Nat, ∀ {cs : Array Value} {t : TypeId}, w2.heap[b]? = some (.cells cs t (0, 0)) → cs.size ≠ 1 → b ≠ Bp ∧ b ≠ Bc := fun b cs t e hs => by
  refine ⟨fun e1 => ?_, fun e1 => ?_⟩
  ·
   subst e1; rw [h2.bp] at e; injection e with e; injection e with e; subst e; exact hs rfl
  ·
   subst e1; rw [h2.bc] at e; injection e with e; injection e with e; subst e; exact hs rfl
 have nt : ∀ b : Nat, ∀ {cs : Array Value} {t : TypeId}, w2.heap[b]? = some (.cells cs t (0, 0)) → t ≠ 22 → t ≠ 3 → b ≠ Bp ∧ b ≠ Bc := fun b cs t e ht1 ht2 => by
  refine ⟨fun e1 => ?_, fun e1 => ?_⟩
  ·
   subst e1; rw [h2.bp] at e; injection e with e; injection e with _ e; exact ht1 e.symm
  ·
   subst e1; rw [h2.bc] at e; injection e with e; injection e with _ e; exact ht2 e.symm
 obtain ⟨d1, d2⟩ := nt Bd h2.bd (by decide) (by decide)
 obtain ⟨l1, l2⟩ := nt Bl h2.bl (by decide) (by decide)
 obtain ⟨w1, w2'⟩ := nt Bw h2.bw (by decide) (by decide)
 obtain ⟨v1, v2⟩ := nt BL h2.lv (by decide) (by decide)
 refine ⟨BN', next, ks, hni, ⟨(keep _ d1 d2).trans h2.bd, (keep _ l1 l2).trans h2.bl, ?_, ?_, (keep _ w1 w2').trans h2.bw, (keep _ v1 v2).trans h2.lv, (keep _ (by omega) (by omega)).trans hi, h2.ge, Nat.le_trans h.below.size hge, ?_⟩⟩
 ·
  rw [Below.heap_setCell _ _ _ _ hpc]
  have := blk_set h2.bp 0 (.slice (some ⟨BN', 0, none⟩) m m)
  simpa using this
 ·
  have h3 : (w2.setCell ⟨Bp, 0, none⟩ (.slice (some ⟨BN', 0, none⟩) m m)).heap[Bc]? = _ := (Below.heap_setCell _ _ _ _ (Ne.symm hpc)).trans h2.bc
  have := blk_set h3 0 (.int .i64 (ks.length : Int))
  simpa using this
 ·
  exact (h2.below.setCell h2.ge.2.1 _).setCell h2.ge.2.2 _
end
set_option linter.unusedSimpArgs false in
set_option maxRecDepth 1000000 in
set_option maxHeartbeats 4000000 in
theorem dfaParts (w : World) (S : Nat → Prop) (A : Option Addr) (nA cA : Nat) (N : Option Addr) (n cN : Nat) (d : DfaD) (hA : Sl Rep.int w S A nA cA d.2.1) (hN : Sl RI w S N n cN d.2.2) (hv : Valid d) (hx : ∀ x ∈ d.2.1, x < 2147483648) :
    Calls Tryz.prog 42 #[.agg #[.int .i64 d.1, .slice A nA cA, .slice N n cN]] w fun e w' => ∃ (BN : Nat) (p : List Int), e = .returned (.slice (some ⟨BN, 0, none⟩) n n) ∧ w.heap.size ≤ BN ∧ InB w' BN p ∧ PartOk d p ∧ Below w.heap.size w w' := by
 have hnn := hN.len
 have hn1 : 1 ≤ n := by have := hv.n1; omega
 have hn2 : n ≤ 200 := by have := hv.n2; omega
 have hmk := fun W => tInts.make rfl n (by omega) (by omega) W
 simp only [made_intsA] at hmk
 obtain ⟨w1, hw1⟩ : ∃ w1 : World, w1 = w.alloc (.cells #[.int .i64 d.1, .slice A nA cA, .slice N n cN] 29) := ⟨_, rfl⟩
 have hb1 : Below w.heap.size w w1 := by rw [hw1]; exact (Below.refl _ _).alloc (Nat.le_refl _) _
 have hg1 : w1.heap[w.heap.size]? = some (.cells #[.int .i64 d.1, .slice A nA cA, .slice N n cN] 29 (0, 0)) := by rw [hw1]; exact heap_alloc_new w _
 have HW1 := Lib.hid hw1
 have HB1 := Lib.hid hb1
 have HG1 := Lib.hid hg1
 have HAW := Lib.hid hA.fit
 have HNW := Lib.hid hN.fit
 have HA := Lib.hid (hA.below hb1)
 have HN := Lib.hid (hN.below hb1)
 have HV := Lib.hid hv
 have HX := Lib.hid hx
 have HNN := Lib.hid hnn
 clear hA hN hv hx hnn hw1 hb1 hg1
 go_enter Tryz.func42, Tryz.ntmps42
 go_wp2_with fail
 rw [← HW1.out]
 refine (dfaLive w1 S A nA cA N n cN d HA.out HN.out HV.out).mono ?_
 rintro e w2 ⟨⟨BL, L, hBL, rfl, hlb, hLn, hLL⟩, hb2⟩
 have HB2 := Lib.hid hb2
 have HLB := Lib.hid hlb
 have HLN := Lib.hid hLn
 have HLL := Lib.hid hLL
 have hk2 : w2.cell? ⟨w.heap.size, 2, none⟩ = some (.slice N n cN) := by
  have := (hb2.block _ (heap_lt HG1.out)).trans HG1.out
  simp [World.cell?, this]
 have hl0 : w.heap.size < w2.heap.size := by have := heap_lt HG1.out; have := hb2.size; omega
 clear hlb hLn hLL hb2
 have he := entersNum
 go_wp2_with fail
 obtain ⟨Bw, hBw⟩ : ∃ b, b = w2.heap.size + 1 + 1 + 1 + 1 := ⟨_, rfl⟩
 obtain ⟨Bc, hBc⟩ : ∃ b, b = w2.heap.size + 1 + 1 + 1 := ⟨_, rfl⟩
 obtain ⟨Bp, hBp⟩ : ∃ b, b = w2.heap.size + 1 + 1 := ⟨_, rfl⟩
 obtain ⟨BN, hBN⟩ : ∃ b, b = w2.heap.size + 1 := ⟨_, rfl⟩
 obtain ⟨Bl, hBl⟩ : ∃ b, b = w2.heap.size := ⟨_, rfl⟩
 rw [← hBw, ← hBc, ← hBp, ← hBN, ← hBl]
 obtain ⟨w3, hw3⟩ : ∃ w3 : World, w3 = ((((w2.alloc (.cells #[.slice (some ⟨BL, 0, none⟩) n n] 68)).alloc (.cells (Array.replicate n (Value.int .i64 0)) 3)).alloc (.cells #[.slice (some ⟨BN, 0, none⟩) n n] 22)).alloc (.cells #[.int .i64 0] 3)).alloc (.cells #[.func (.func 66) #[] #[]] 131) := ⟨_, rfl⟩
 rw [← hw3]
 have HB3 := Lib.hid (show Below w1.heap.size w1 w3 by
  rw [hw3]
  exact HB2.out.trans (((((((Below.refl _ _).alloc (Nat.le_refl _) _).alloc (by simp) _).alloc (by simp; omega) _).alloc (by simp; omega) _).alloc (by simp; omega) _).mono HB2.out.size))
 have HPB := Lib.hid (show PBox w w.heap.size Bl BL Bp BN Bc Bw n A nA cA N cN d L (List.replicate n 0) 0 w3 by
  have hb3 : Below w2.heap.size w2 w3 := by
   rw [hw3]
   exact (((((Below.refl _ _).alloc (Nat.le_refl _) _).alloc (by simp) _).alloc (by simp; omega) _).alloc (by simp; omega) _).alloc (by simp; omega) _
  have hlt1 := heap_lt HG1.out
  have hlt2 := HB2.out.size
  refine ⟨(hb3.block _ hl0).trans ((HB2.out.block _ hlt1).trans HG1.out), ?_, ?_, ?_, ?_, HLB.out.below hb3, ?_, by omega, by omega, HB1.out.trans ((HB2.out.mono (by omega)).trans (hb3.mono (by omega)))⟩
  ·
   rw [hw3, hBl, Below.heap_alloc _ _ _ (by simp; omega), Below.heap_alloc _ _ _ (by simp; omega), Below.heap_alloc _ _ _ (by simp; omega), Below.heap_alloc _ _ _ (by simp)]
   exact heap_alloc_new _ _
  ·
   rw [hw3, Below.heap_alloc _ _ _ (by simp; omega), Below.heap_alloc _ _ _ (by simp; omega)]
   exact heap_new _ _ _ (by simp; omega)
  ·
   rw [hw3, Below.heap_alloc _ _ _ (by simp; omega)]
   exact heap_new _ _ _ (by simp; omega)
  ·
   rw [hw3]
   exact heap_new _ _ _ (by simp; omega)
  ·
   unfold InB
   rw [hw3, Below.heap_alloc _ _ _ (by simp; omega), Below.heap_alloc _ _ _ (by simp; omega), Below.heap_alloc _ _ _ (by simp; omega)]
   rw [show ((List.replicate n (0 : Int)).map (Value.int .i64)).toArray = Array.replicate n (Value.int .i64 0) by simp]
   exact heap_new _ _ _ (by simp; omega))
 clear hw3 hBw hBc hBp hBN hBl he hk2 hl0 hmk
 have HLV := Lib.hid (show ∀ s : Nat, s < n → (L[s]? = some true ↔ LvN d s) from HLL.out)
 have HRG := Lib.hid (show ∀ (p : List Int) (cnt : Nat), PInv d p cnt → ∀ x ∈ p, -1 ≤ x ∧ x < 2147483648 from fun p cnt h x hx => by
  obtain ⟨s, hs, rfl⟩ := List.getElem_of_mem hx
  have hs' : s < d.2.2.length := by rw [← h.len]; exact hs
  have hle := h.le
  by_cases hl : LvN d s
  ·
   obtain ⟨m, h1, h2⟩ := h.live s hs' hl
   rw [List.getElem?_eq_getElem hs] at h2
   injection h2 with h2
   have := HNN.out
   omega
  ·
   have h2 := h.dead s hs' hl
   rw [List.getElem?_eq_getElem hs] at h2
   injection h2 with h2
   omega)
 refine (partsNum w3 Bp Bl Bc BL n L _ n 0 HPB.out.bp HPB.out.bl HPB.out.bc HPB.out.lv HLN.out hn2 (LvN d) HLV.out (key1 d) (fun s => by unfold key1; rw [strOf_size]; simp [word4]) 67 _ entersKey1 ?_).mono ?_
 ·
  intro u hu s hs
  exact tellsKey1 w3 S Bw w.heap.size A nA cA N n cN d (HA.out.below HB3.out) HV.out HPB.out.bw HPB.out.bd u hu s (by rw [← HNN.out]; exact hs.1)
 ·
  rintro e w4 ⟨rfl, hnr⟩
  obtain ⟨BN1, p1, ks1, hni, hpb⟩ := HPB.out.num hnr rfl
  have hpi : PInv d p1 ks1.length := PInv.start (by
   have := hni.out (E := fun s t => dat d s = dat d t) (fun s t _ _ _ _ => key1_iff HV.out HX.out s t)
   rw [HNN.out] at this
   exact this)
  have HPB1 := Lib.hid hpb
  have HPI := Lib.hid hpi
  have HW4 := Lib.hid (show Below w1.heap.size w1 w1 from Below.refl _ _)
  clear hnr hni hpb hpi HW4
  go_wp2_with fail
  go_loopg [8, 9] (n - ks1.length) (fun gk va vb wr => ∃ (BN : Nat) (p : List Int) (cnt : Nat), gk = n - cnt ∧ PBox w w.heap.size Bl BL Bp BN Bc Bw n A nA cA N cN d L p (cnt : Int) wr ∧ PInv d p cnt)
  case atStart => exact ⟨BN1, p1, _, rfl, HPB1.out, HPI.out⟩
  case round =>
   obtain ⟨BN5, p, cnt, hgk, hpb, hpi⟩ := hrel
   obtain ⟨w5, rfl⟩ : ∃ w5 : World, w5 = wr := ⟨_, rfl⟩
   have HGK := Lib.hid hgk
   have HPB5 := Lib.hid hpb
   have HPI5 := Lib.hid hpi
   have HCELL := Lib.hid (show ∀ u : World, Below w5.heap.size w5 u → u.cell? ⟨Bc, 0, none⟩ = some (.int .i64 (cnt : Int)) ∧ u.cell? ⟨Bp, 0, none⟩ = some (.slice (some ⟨BN5, 0, none⟩) n n) from fun u hu => by
    have h := hpb.mono hu
    simp [World.cell?, h.bc, h.bp])
   have HK0 := Lib.hid (HCELL.out w5.drew (Below.refl _ _).drew)
   clear hgk hpb hpi
   go_wp2_with fail
   refine wp_region_late (late := []) (S1 := fun u => u.cell? ⟨Bc, 0, none⟩ = some (.int .i64 (cnt : Int)) ∧ u.cell? ⟨Bp, 0, none⟩ = some (.slice (some ⟨BN5, 0, none⟩) n n)) (S := fun _ => True) (by kernel_rfl) ?_
   refine wpAnyL_pure (i := 0) rfl (by kernel_rfl) (fun _ _ _ h => h) (Or.inl ⟨by rfl, (fun u hu => by obtain ⟨k0, k1⟩ := hu; go_simp; try rfl)⟩) HK0.out (fun _ => trivial) ?_
   simp only [Act.put, List.setIfInBounds_toArray, List.set_cons_zero, List.set_cons_succ, List.getElem_toArray, List.getElem_cons_zero, List.getElem_cons_succ]
   refine wpAnyL_pure (i := 1) rfl (by kernel_rfl) (fun _ _ _ h => h) (Or.inl ⟨by rfl, (fun u hu => by obtain ⟨k0, k1⟩ := hu; go_simp; try rfl)⟩) HK0.out (fun _ => trivial) ?_
   simp only [Act.put, List.setIfInBounds_toArray, List.set_cons_zero, List.set_cons_succ, List.getElem_toArray, List.getElem_cons_zero, List.getElem_cons_succ]
   refine wpAnyL_ready (rs := [2]) (by kernel_rfl) (by simp) ?_
   refine AllL.cons rfl (fun K hK => ?_) ?_
   ·
    go_simp
    have HK1 := Lib.hid (HCELL.out (w5.drew.alloc (.cells #[.slice none 0 0] 22)) ((Below.refl _ _).drew.alloc (Nat.le_refl _) _))
    refine hK.out _ _ HK1.out (fun _ => trivial) ?_
    clear hK K
    refine wpAnyL_pure (i := 3) rfl (by kernel_rfl) (fun _ _ _ h => h) (Or.inl ⟨by rfl, (fun u hu => by obtain ⟨k0, k1⟩ := hu; go_simp; try rfl)⟩) HK1.out (fun _ => trivial) ?_
    simp only [Act.put, List.setIfInBounds_toArray, List.set_cons_zero, List.set_cons_succ, List.getElem_toArray, List.getElem_cons_zero, List.getElem_cons_succ]
    refine wpAnyL_ready (rs := [4]) (by kernel_rfl) (by simp) ?_
    refine AllL.cons rfl (fun K hK => ?_) ?_
    ·
     go_simp
     have HK2 := Lib.hid (HCELL.out (w5.drew.alloc (.cells #[.slice (some ⟨BN5, 0, none⟩) n n] 22)) ((Below.refl _ _).drew.alloc (Nat.le_refl _) _))
     refine hK.out _ _ HK2.out (fun _ => trivial) ?_
     clear hK K
     refine wpAnyL_done (by kernel_rfl) ?_ _
     obtain ⟨w6, hw6⟩ : ∃ w6 : World, w6 = (w5.alloc (.cells #[.slice (some ⟨BN5, 0, none⟩) n n] 22)).drew := ⟨_, rfl⟩
     obtain ⟨Bo, hBo⟩ : ∃ b, b = w5.heap.size := ⟨_, rfl⟩
     have hb6 : Below w5.heap.size w5 w6 := by rw [hw6]; exact ((Below.refl _ _).alloc (Nat.le_refl _) _).drew
     have HPB6 := Lib.hid (HPB5.out.mono hb6)
     have HBO := Lib.hid (show w6.heap[Bo]? = some (.cells #[.slice (some ⟨BN5, 0, none⟩) n n] 22 (0, 0)) by rw [hw6, hBo]; exact heap_alloc_new w5 _)
     rw [← hw6, ← hBo]
     have he := entersNum
     clear hw6 hBo hb6 HK0 HK1 HK2
     go_wp2_with fail
     have HSL := Lib.hid (show Sl RI w6 (fun b => S b ∧ b < w.heap.size) N n cN d.2.2 from HNW.out.keep (Kept.belowB HPB6.out.below (fun b hb => hb.2)))
     refine (partsNum w6 Bp Bl Bc BL n L _ n (cnt : Int) HPB6.out.bp HPB6.out.bl HPB6.out.bc HPB6.out.lv HLN.out hn2 (LvN d) HLV.out (key2 d p) (fun s => ?_) 68 _ entersKey2 ?_).mono ?_
     ·
      unfold key2
      rw [strOf_size, List.length_append, row2_len]
      have h4 : (word4 (numPt p (s : Int))).length = 4 := by simp [word4]
      have hr16 : ((d.2.2[s]?).getD []).length ≤ 16 := by
       cases hrs : d.2.2[s]? with
       | none => simp
       | some r => have := (HV.out.rows r (List.mem_of_getElem? hrs)).1; have := HV.out.c2; simp; omega
      omega
     ·
      intro u hu s hs
      exact tellsKey2 w6 _ Bw Bo w.heap.size BN5 A nA cA N n cN d p HSL.out HV.out HPB6.out.bw HPB6.out.bd HBO.out HPB6.out.inb (by rw [HPI5.out.len, HNN.out]) u hu s (by rw [← HNN.out]; exact hs.1)
     ·
      rintro e w7 ⟨rfl, hnr⟩
      obtain ⟨BN7, p7, ks7, hni, hpb⟩ := HPB6.out.num hnr rfl
      have hno : NumOk (LvN d) (StepE d p) d.2.2.length p7 ks7.length := by
       have := hni.out (E := StepE d p) (fun s t hs ht _ _ => key2_iff HV.out HPI5.out.len (HRG.out p cnt HPI5.out) s t (by rw [← HNN.out]; exact hs) (by rw [← HNN.out]; exact ht))
       rw [HNN.out] at this
       exact this
      have hgr := HPI5.out.grow hno
      have hst := PInv.step HV.out HPI5.out hno
      have hle := hno.le
      have hc7 : w7.cell? ⟨Bc, 0, none⟩ = some (.int .i64 (ks7.length : Int)) := by simp [World.cell?, hpb.bc]
      have hp7 : w7.cell? ⟨Bp, 0, none⟩ = some (.slice (some ⟨BN7, 0, none⟩) n n) := by simp [World.cell?, hpb.bp]
      have HPB7 := Lib.hid hpb
      by_cases heq : ks7.length = cnt
      ·
       have hfin : PartOk d p7 := PInv.final HV.out HPI5.out (by rw [heq] at hno; exact hno)
       have HFIN := Lib.hid hfin
       have heqI : ((ks7.length : Int) == (cnt : Int)) = true := by simp; omega
       clear hnr hni hpb hno hst heq hfin
       go_wp2_with fail
       go_ret
       exact ⟨BN7, p7, rfl, HPB7.out.gn, HPB7.out.inb, HFIN.out, HPB7.out.below⟩
      ·
       have HST := Lib.hid hst
       have heqI : ((ks7.length : Int) == (cnt : Int)) = false := by simp; omega
       have hln : ks7.length ≤ n := by rw [HNN.out]; exact hle
       clear hnr hni hpb hno hst hp7 hle
       go_wp2_with fail
       go_roundg (n - ks7.length)
       case measure => rw [HGK.out]; omega
       case rel => exact ⟨BN7, p7, ks7.length, rfl, HPB7.out, HST.out⟩
    exact AllL.nil
   exact AllL.nil
end Go.Proofs.YtocbkccchnbmaaaGreat
