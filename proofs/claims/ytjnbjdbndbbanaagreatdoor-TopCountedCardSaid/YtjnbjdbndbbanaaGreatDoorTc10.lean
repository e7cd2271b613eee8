/- CntF Make -/
import Derived.Test.YtjnbjdbndbbanaaGreatDoorTc09
namespace Go.Proofs.YtjnbjdbndbbanaaGreatDoor
def cntF (N n : Nat) (S : Nat → Nat → Bool) : Nat := ((List.range (N * (n + 1))).filter (fun x => !S (nodeOf n x).1 (nodeOf n x).2)).length
theorem filter_len_le {α : Type} {p q : α → Bool} : ∀ {l : List α}, (∀ x ∈ l, p x = true → q x = true) → (l.filter p).length ≤ (l.filter q).length
 | [], _ => Nat.le_refl _
 | x :: l, h => by
  have ih := filter_len_le (l := l) fun y hy => h y (by simp [hy])
  by_cases hp : p x = true
  · rw [List.filter_cons_of_pos hp, List.filter_cons_of_pos (h x (by simp) hp), List.length_cons, List.length_cons]; omega
  rw [List.filter_cons_of_neg hp]
  by_cases hq : q x = true
  · rw [List.filter_cons_of_pos hq, List.length_cons]; omega
  rw [List.filter_cons_of_neg hq]; exact ih
theorem filter_len_lt {α : Type} {p q : α → Bool} : ∀ {l : List α} {y : α}, (∀ x ∈ l, p x = true → q x = true) → y ∈ l → p y = false → q y = true → (l.filter p).length < (l.filter q).length
 | x :: l, y, h, hy, hp, hq => by
  have ih := filter_len_le (p := p) (q := q) (l := l) fun z hz => h z (by simp [hz])
  rcases List.mem_cons.1 hy with rfl | hy
  · rw [List.filter_cons_of_neg (by simp [hp]), List.filter_cons_of_pos hq, List.length_cons]; omega
  have ih2 := filter_len_lt (l := l) (fun z hz => h z (by simp [hz])) hy hp hq
  by_cases hpx : p x = true
  · rw [List.filter_cons_of_pos hpx, List.filter_cons_of_pos (h x (by simp) hpx), List.length_cons, List.length_cons]; omega
  rw [List.filter_cons_of_neg hpx]
  by_cases hqx : q x = true
  · rw [List.filter_cons_of_pos hqx, List.length_cons]; omega
  rw [List.filter_cons_of_neg hqx]; exact ih2
theorem cntF_set {N n : Nat} {S : Nat → Nat → Bool} {a k : Nat} (ha : a < N) (hk : k ≤ n) (h : S a k = false) : cntF N n (fun b j => if b = a ∧ j = k then true else S b j) < cntF N n S := by
 unfold cntF
 refine filter_len_lt (y := numOf n (a, k)) (fun x _ hx => ?_) (List.mem_range.2 (numOf_lt ha hk)) ?_ ?_
 ·
  by_cases e : (nodeOf n x).1 = a ∧ (nodeOf n x).2 = k
  · simp [e] at hx
  simpa [e] using hx
 · rw [nodeOf_num (x := (a, k)) hk]; simp
 rw [nodeOf_num (x := (a, k)) hk]; simp [h]
theorem sound_set {R : List RuleD} {N n : Nat} {S : Nat → Nat → Bool} (hS : Sound R N n S) (hR : RulesN N R) {r : RuleD} (hr : r ∈ R) {k : Nat} (hk : k ≤ n) (hc : canT S r.2 k = true) {a : Nat} (ha : r.1 = (a : Int)) : Sound R N n (fun b j => if b = a ∧ j = k then true else S b j) := by
 intro b j hb hj h
 by_cases e : b = a ∧ j = k
 ·
  obtain ⟨rfl, rfl⟩ := e
  have := canT_sound hS (hR r hr).2 hk hc
  rw [← ha]
  exact Der.non_iff.2 ⟨r.2, hr, this⟩
 dsimp only at h
 rw [if_neg e] at h
 exact hS b j hb hj h
def ClosedUpto (R : List RuleD) (n : Nat) (S : Nat → Nat → Bool) (i : Nat) : Prop := ∀ j r, j < i → R[j]? = some r → ∀ k, k ≤ n → canT S r.2 k = true → S r.1.toNat k = true
end Go.Proofs.YtjnbjdbndbbanaaGreatDoor
namespace Go.Proofs.YtjnbjdbndbbanaaGreatDoor
open Go.RowKit
theorem Grid.lo_eq {α : Type} {enc : α → Value} {E : TypeId} {w : World} {lo lo' hi gN R C : Nat} {gs : Nat → Nat} {T : Nat → Nat → α} (h : Grid enc E w lo hi gN gs R C T) (e : lo = lo') : Grid enc E w lo' hi gN gs R C T := by subst e; exact h
open Classical in
noncomputable def manyD (R : List RuleD) (a k : Nat) : Bool := decide (Many R (a, k))
set_option linter.unusedSimpArgs false in
set_option maxRecDepth 1000000 in
set_option maxHeartbeats 8000000 in
theorem censusMake (w : World) (Sg : Nat → Prop) (AR : Option Addr) (nR cR : Nat) (g : GramD) (hg : Sl RRule w Sg AR nR cR g.2.2.2) (hv : GValid g) (n : Nat) (hn : n ≤ 1000) :
    Calls Tryz.prog 21 #[.agg #[.int .i64 g.1, .int .i64 g.2.1, .int .i64 g.2.2.1, .slice AR nR cR], .int .i64 n] w fun e w' =>
     ∃ L : Lay, e = .returned (.pointer (some ⟨L.Bc, 0, none⟩)) ∧ Ctr w' L g n (lenD g.2.2.2) (manyD g.2.2.2) (fun _ _ => -1) ∧ w.heap.size ≤ L.lo ∧ Below w.heap.size w w' := by
 have hN1 : 1 ≤ g.2.1 ∧ g.2.1 ≤ 100 := ⟨hv.n1, by have := hv.n2; omega⟩
 have hRN := rulesN_of hv
 have HG := zh hg.fit
 have HV := zh hv
 have HRN := zh hRN
 clear hg hv hRN
 go_enter Tryz.func21, Tryz.ntmps21
 go_wp2_with fail
 have hall : ∀ u : World, Below (w.heap.size + 1) (w.alloc (.cells #[.int .i64 g.1, .int .i64 g.2.1, .int .i64 g.2.2.1, .slice AR nR cR] 25)).drew u → u.cell? ⟨w.heap.size, 0, none⟩ = some (.int .i64 g.1) ∧ u.cell? ⟨w.heap.size, 1, none⟩ = some (.int .i64 g.2.1) ∧ u.cell? ⟨w.heap.size, 2, none⟩ = some (.int .i64 g.2.2.1) ∧ u.cell? ⟨w.heap.size, 3, none⟩ = some (.slice AR nR cR) := by
  intro u hu
  refine ⟨(hu.cell (by simp)).trans ?_, (hu.cell (by simp)).trans ?_, (hu.cell (by simp)).trans ?_, (hu.cell (by simp)).trans ?_⟩ <;> simp
 have HALL := zh hall
 have HK0 := zh (hall _ (Below.refl _ _))
 have HB0 := zh (((Below.refl w.heap.size w).alloc (Nat.le_refl _) (.cells #[.int .i64 g.1, .int .i64 g.2.1, .int .i64 g.2.2.1, .slice AR nR cR] 25)).drew)
 clear hall
 go_upto_region 1 with fail
 go_cut [5] from 10 to 22 (fun v wx => ∃ L : Lay, v = .pointer (some ⟨L.Bc, 0, none⟩) ∧ Ctr wx L g n (fun _ _ => false) (fun _ _ => false) (fun _ _ => -1) ∧ w.heap.size + 1 ≤ L.lo ∧ wx.heap[w.heap.size]? = some (.cells #[.int .i64 g.1, .int .i64 g.2.1, .int .i64 g.2.2.1, .slice AR nR cR] 25 (0, 0)) ∧ L.AR = AR ∧ L.nR = nR ∧ L.cR = cR ∧ Below w.heap.size w wx)
 case first =>
  refine wp_region_late (late := []) (S1 := fun u => u.cell? ⟨w.heap.size, 0, none⟩ = some (.int .i64 g.1) ∧ u.cell? ⟨w.heap.size, 1, none⟩ = some (.int .i64 g.2.1) ∧ u.cell? ⟨w.heap.size, 2, none⟩ = some (.int .i64 g.2.2.1) ∧ u.cell? ⟨w.heap.size, 3, none⟩ = some (.slice AR nR cR)) (S := fun _ => True) (by kernel_rfl) ?_
  refine zP (i := 0) rfl (fun u hu => by obtain ⟨k0, k1, k2, k3⟩ := hu; go_simp; try rfl) HK0.out zt ?_
  simp only [Act.put, zA, zB, zC, zD, zF, zG]
  refine zP (i := 1) rfl (fun u hu => by obtain ⟨k0, k1, k2, k3⟩ := hu; go_simp; try rfl) HK0.out zt ?_
  simp only [Act.put, zA, zB, zC, zD, zF, zG]
  refine zP (i := 2) rfl (fun u hu => by obtain ⟨k0, k1, k2, k3⟩ := hu; go_simp; try rfl) HK0.out zt ?_
  simp only [Act.put, zA, zB, zC, zD, zF, zG]
  refine zP (i := 3) rfl (fun u hu => by obtain ⟨k0, k1, k2, k3⟩ := hu; go_simp; try rfl) HK0.out zt ?_
  simp only [Act.put, zA, zB, zC, zD, zF, zG]
  refine zP (i := 5) rfl (fun u hu => by obtain ⟨k0, k1, k2, k3⟩ := hu; go_simp; try rfl) HK0.out zt ?_
  simp only [Act.put, zA, zB, zC, zD, zF, zG]
  refine zP (i := 6) rfl (fun u hu => by obtain ⟨k0, k1, k2, k3⟩ := hu; go_simp; try rfl) HK0.out zt ?_
  simp only [Act.put, zA, zB, zC, zD, zF, zG]
  refine zP (i := 8) rfl (fun u hu => by obtain ⟨k0, k1, k2, k3⟩ := hu; go_simp; try rfl) HK0.out zt ?_
  simp only [Act.put, zA, zB, zC, zD, zF, zG]
  refine zP (i := 9) rfl (fun u hu => by obtain ⟨k0, k1, k2, k3⟩ := hu; go_simp; try rfl) HK0.out zt ?_
  simp only [Act.put, zA, zB, zC, zD, zF, zG]
  refine zR 4 rfl (fun K hK => ?_)
  go_simp
  refine (tableBool _ g.1 g.2.1 g.2.2.1 AR nR cR n false hN1 hn).mono ?_
  rintro e v1 ⟨gN1, cp1, gs1, rfl, hgr1, hb⟩
  have HGR1 := zh hgr1
  have HBT1 := zh hb
  have hz1 := hb.size
  have hz1' : w.heap.size + 1 ≤ v1.heap.size := by have := hb.size; simp at this; omega
  have HBA1 := zh ((Below.refl (w.heap.size + 1) _).trans (hb.mono (by first | omega | (simp; done) | (simp; omega))))
  have HKA1 := zh (HALL.out _ HBA1.out)
  clear hgr1 hb
  refine hK.out _ _ HKA1.out zt ?_
  clear hK K
  refine zR 7 rfl (fun K hK => ?_)
  go_simp
  refine (tableBool _ g.1 g.2.1 g.2.2.1 AR nR cR n false hN1 hn).mono ?_
  rintro e v2 ⟨gN2, cp2, gs2, rfl, hgr2, hb⟩
  have HGR2 := zh hgr2
  have HBT2 := zh hb
  have hz2 := hb.size
  have HBA2 := zh (HBA1.out.trans (hb.mono (by first | omega | (simp; done) | (simp; omega))))
  have HKA2 := zh (HALL.out _ HBA2.out)
  clear hgr2 hb
  refine hK.out _ _ HKA2.out zt ?_
  clear hK K
  refine zR 10 rfl (fun K hK => ?_)
  go_simp
  refine (tableInt _ g.1 g.2.1 g.2.2.1 AR nR cR n (-1) hN1 hn).mono ?_
  rintro e v3 ⟨gN3, cp3, gs3, rfl, hgr3, hb⟩
  have HGR3 := zh hgr3
  have HBT3 := zh hb
  have hz3 := hb.size
  have HBA3 := zh (HBA2.out.trans (hb.mono (by first | omega | (simp; done) | (simp; omega))))
  have HKA3 := zh (HALL.out _ HBA3.out)
  clear hgr3 hb
  refine hK.out _ _ HKA3.out zt ?_
  clear hK K
  refine zP (i := 11) rfl (fun u hu => by obtain ⟨k0, k1, k2, k3⟩ := hu; go_simp; try rfl) HKA3.out zt ?_
  simp only [Act.put, zA, zB, zC, zD, zF, zG]
  refine zR 12 rfl (fun K hK => ?_)
  go_simp
  refine hK.out _ _ (HALL.out _ (HBA3.out.alloc (by omega) _)) zt ?_
  clear hK K
  refine zP (i := 13) rfl (fun u hu => by obtain ⟨k0, k1, k2, k3⟩ := hu; go_simp; try rfl) (HALL.out _ (HBA3.out.alloc (by omega) _)) zt ?_
  simp only [Act.put, zA, zB, zC, zD, zF, zG]
  refine wpAnyL_done (by kernel_rfl) ?_ _
  go_wp2_with fail
  go_meet
  obtain ⟨L, hL⟩ : ∃ L : Lay, L = ⟨v3.heap.size, w.heap.size + 1, v1.heap.size, v2.heap.size, v3.heap.size, gN1, gN2, gN3, cp1, cp2, cp3, gs1, gs2, gs3, AR, nR, cR⟩ := ⟨_, rfl⟩
  refine ⟨L, by rw [hL], ?_, by rw [hL]; exact Nat.le_refl _, ?_, by rw [hL], by rw [hL], by rw [hL], (HB0.out.trans (HBA3.out.mono (by omega))).alloc (by omega) _⟩
  ·
   have hb01 := HB0.out.trans (HBA3.out.mono (Nat.le_succ _))
   subst hL
   refine ⟨heap_alloc_new v3 _, ((HG.out.below hb01).more (fun b hb => by have := hb.2; show b < w.heap.size + 1; omega)).alloc _, ?_, ?_, ?_, hz1', hz2, hz3, Nat.le_refl _⟩
   ·
    refine Grid.lo_eq (HGR1.out.keep (w' := v3.alloc _) fun q _ hq => ?_) (by simp)
    rw [Below.heap_alloc _ _ _ (by omega), HBT3.out.block _ (by omega), HBT2.out.block _ hq]
   ·
    refine HGR2.out.keep fun q _ hq => ?_
    rw [Below.heap_alloc _ _ _ (by omega), HBT3.out.block _ hq]
   refine HGR3.out.keep fun q _ hq => ?_
   rw [Below.heap_alloc _ _ _ hq]
  rw [Below.heap_alloc _ _ _ (by omega), HBA3.out.block _ (by omega)]
  exact heap_alloc_new w _
 case rest =>
  obtain ⟨L, rfl, hctr, hlo, hbx, hAR, hnR', hcR', hb⟩ := hcut
  clear HALL HK0 HB0
  have HC0 := zh hctr
  have HBX0 := zh hbx
  have HB0 := zh hb
  have hnR : nR ≤ 32 := by have := HV.out.rl; have := HG.out.len; omega
  have HRL := zh HG.out.len
  clear hctr hbx hb hAR hnR' hcR'
  go_wp2_with fail
  go_loopg [6] (cntF (nonsOf g) n (fun _ _ => false) + 1) (fun gk t wr => ∃ (S : Nat → Nat → Bool) (ag : Bool), t = .bool ag ∧ gk = cntF (nonsOf g) n S + (if ag then 1 else 0) ∧ Ctr wr L g n S (fun _ _ => false) (fun _ _ => -1) ∧ Sound g.2.2.2 (nonsOf g) n S ∧ (ag = false → Closed g.2.2.2 n S) ∧ wr.heap[w.heap.size]? = some (.cells #[.int .i64 g.1, .int .i64 g.2.1, .int .i64 g.2.2.1, .slice AR nR cR] 25 (0, 0)) ∧ Below w.heap.size w wr)
  case atStart => exact ⟨fun _ _ => false, true, rfl, rfl, HC0.out, (fun _ _ _ _ h => by cases h), (fun h => by cases h), HBX0.out, HB0.out⟩
  case round =>
   obtain ⟨S0, ag, rfl, hgk, hctr, hsn, hcl, hbx, hb⟩ := hrel
   have HC1 := zh hctr
   have HSN1 := zh hsn
   have HBX1 := zh hbx
   have HB1 := zh hb
   have hcA : wr.cell? ⟨w.heap.size, 3, none⟩ = some (.slice AR nR cR) := by simp [World.cell?, hbx]
   clear hctr hsn hbx hb HC0 HBX0 HB0
   cases ag with
   | true =>
    have HGK := zh hgk
    clear hgk hcl
    go_wp2_with fail
    clear hcA
    go_loopg [6, 27] nR (fun gk t q wr => ∃ (i : Nat) (S1 : Nat → Nat → Bool) (ag : Bool), i ≤ nR ∧ gk = nR - i ∧ q = .int .i64 i ∧ t = .bool ag ∧ Ctr wr L g n S1 (fun _ _ => false) (fun _ _ => -1) ∧ Sound g.2.2.2 (nonsOf g) n S1 ∧ (ag = false → S1 = S0 ∧ ClosedUpto g.2.2.2 n S0 i) ∧ (ag = true → cntF (nonsOf g) n S1 < cntF (nonsOf g) n S0) ∧ wr.heap[w.heap.size]? = some (.cells #[.int .i64 g.1, .int .i64 g.2.1, .int .i64 g.2.2.1, .slice AR nR cR] 25 (0, 0)) ∧ Below w.heap.size w wr)
    case atStart => exact ⟨0, S0, false, Nat.zero_le _, rfl, rfl, rfl, HC1.out, HSN1.out, (fun _ => ⟨rfl, fun j r hj => absurd hj (by omega)⟩), (fun h => by cases h), HBX1.out, HB1.out⟩
    case round =>
     obtain ⟨i, S1, ag1, hi, hgi, rfl, rfl, hctr, hsn, hf1, ht1, hbx, hb⟩ := hrel
     have HGI := zh hgi
     have HC2 := zh hctr
     have HSN2 := zh hsn
     have HF2 := zh hf1
     have HT2 := zh ht1
     have HBX2 := zh hbx
     have HB2 := zh hb
     clear hgi hctr hsn hf1 ht1 hbx hb
     by_cases hin : i < nR
     ·
      obtain ⟨b0, off, AQ, m, cQ, r, hAR, _, _, hr1, hr2, hr, hrs⟩ := rule_at HG.out hin
      replace hr1 := Kept.below (S := fun _ => True) HB2.out _ _ trivial hr1
      replace hr2 := Kept.below (S := fun _ => True) HB2.out _ _ trivial hr2
      subst hAR
      obtain ⟨⟨hr0, hrN⟩, hrn⟩ := HRN.out r (List.mem_of_getElem? hr)
      obtain ⟨left, hleft⟩ : ∃ left : Nat, r.1 = (left : Int) := ⟨r.1.toNat, by omega⟩
      rw [hleft, Int.toNat_natCast] at hrN
      rw [hleft] at hr1
      have HR := zh hr
      have HRS := zh hrs
      have HLF := zh hleft
      have HRN2 := zh hrn
      obtain ⟨w2, rfl⟩ := zE wr
      have hz2 := HC2.out.lt
      clear hr hrs hleft hrn hr0
      go_wp2_with fail
      clear hr1 hr2
      have hbr0 : (w2.alloc (.cells #[.int .i64 (left : Int), .slice AQ m cQ] 60)).heap[w2.heap.size]? = some (.cells #[.int .i64 (left : Int), .slice AQ m cQ] 60 (0, 0)) := heap_alloc_new w2 _
      have HBR0 := zh hbr0
      have hlw2 := heap_lt HBX2.out
      clear hbr0
      go_loopg [6, 33] (n + 1) (fun gk t q wr => ∃ (k : Nat) (S2 : Nat → Nat → Bool) (ag : Bool), k ≤ n + 1 ∧ gk = n + 1 - k ∧ q = .int .i64 k ∧ t = .bool ag ∧ Ctr wr L g n S2 (fun _ _ => false) (fun _ _ => -1) ∧ Sound g.2.2.2 (nonsOf g) n S2 ∧ (ag = false → S2 = S0 ∧ ClosedUpto g.2.2.2 n S0 i ∧ ∀ q, q < k → canT S0 r.2 q = true → S0 left q = true) ∧ (ag = true → cntF (nonsOf g) n S2 < cntF (nonsOf g) n S0) ∧ wr.heap[w2.heap.size]? = some (.cells #[.int .i64 (left : Int), .slice AQ m cQ] 60 (0, 0)) ∧ wr.heap[w.heap.size]? = some (.cells #[.int .i64 g.1, .int .i64 g.2.1, .int .i64 g.2.2.1, .slice (some ⟨b0, off, none⟩) nR cR] 25 (0, 0)) ∧ Below w.heap.size w wr)
      case atStart => exact ⟨0, S1, ag1, Nat.zero_le _, rfl, rfl, rfl, HC2.out.below ((Below.refl _ _).alloc (Nat.le_refl _) _), HSN2.out, (fun h => ⟨(HF2.out h).1, (HF2.out h).2, fun q hq => absurd hq (by omega)⟩), HT2.out, HBR0.out, (Below.heap_alloc _ _ _ hlw2).trans HBX2.out, HB2.out.alloc HB2.out.size _⟩
      case round =>
       obtain ⟨k, S2, ag2, hk, hgk2, rfl, rfl, hctr, hsn, hf, ht, hbr, hbx, hb⟩ := hrel
       have HGK2 := zh hgk2
       have HC3 := zh hctr
       have HSN3 := zh hsn
       have HF3 := zh hf
       have HT3 := zh ht
       have HBR3 := zh hbr
       have HBX3 := zh hbx
       have HB3 := zh hb
       clear hgk2 hsn hf ht hbx hb HBR0
       by_cases hkn : k < n + 1
       ·
        have c5 : wr.cell? ⟨L.Bc, 5, none⟩ = some (.slice (some ⟨L.g1, 0, none⟩) (nonsOf g) L.c1) := hctr.cell 5
        have ch := hctr.gS.hdr left hrN
        have cc := hctr.gS.cell hrN hkn
        have cf := hctr.gS.fr hrN k
        obtain ⟨rg1, rg2, rg3⟩ := hctr.gS.rng left hrN
        have or1 := hctr.o1
        have or2 := hctr.o2
        have or3 := hctr.o3
        have or4 := hctr.o4
        have hlBc := hctr.lt
        have cl : wr.cell? ⟨w2.heap.size, 0, none⟩ = some (.int .i64 (left : Int)) := by simp [World.cell?, hbr]
        have cr : wr.cell? ⟨w2.heap.size, 1, none⟩ = some (.slice AQ m cQ) := by simp [World.cell?, hbr]
        have hknd : decide ((k : Int) < (n : Int) + 1) = true := by simp; omega
        have i1 : (left : Int) < (nonsOf g : Int) := by omega
        have i2 : (0 : Int) ≤ (left : Int) := by omega
        have i3 : (k : Int) < ((n + 1 : Nat) : Int) := by omega
        have i4 : (0 : Int) ≤ (k : Int) := by omega
        have i5 : (k : Int) < (n : Int) + 1 := by omega
        clear hctr hbr
        cases hsk : S2 left k with
        | true =>
         have HSK := zh hsk
         rw [hsk] at cc
         clear hsk cf
         go_wp2_with fail
         go_quiet (fail)
         go_wp2_with fail
         go_roundg (n + 1 - (k + 1))
         case measure => rw [HGK2.out]; omega
         case rel =>
          refine ⟨k + 1, S2, ag2, by omega, rfl, by go_num, rfl, HC3.out.drewN _, HSN3.out, fun h => ?_, HT3.out, HBR3.out, HBX3.out, belowN HB3.out _⟩
          obtain ⟨e1, e2, e3⟩ := HF3.out h
          refine ⟨e1, e2, fun q hq hc => ?_⟩
          rcases Nat.lt_succ_iff_lt_or_eq.1 hq with h' | rfl
          · exact e3 q h' hc
          rw [← e1]; exact HSK.out
        | false =>
         have HSK := zh hsk
         rw [hsk] at cc
         clear hsk
         have hall : ∀ u : World, Below wr.drew.heap.size wr.drew u → u.cell? ⟨L.Bc, 5, none⟩ = some (.slice (some ⟨L.g1, 0, none⟩) (nonsOf g) L.c1) ∧ u.cell? ⟨L.g1, left, none⟩ = some (.slice (some ⟨L.s1 left, 0, none⟩) (n + 1) (n + 1)) ∧ u.cell? ⟨L.s1 left, k, none⟩ = some (.bool false) ∧ u.cell? ⟨w2.heap.size, 0, none⟩ = some (.int .i64 (left : Int)) ∧ u.cell? ⟨w2.heap.size, 1, none⟩ = some (.slice AQ m cQ) := fun u hu =>
          ⟨(hu.cell (cell_lt c5)).trans c5, (hu.cell (cell_lt ch)).trans ch, (hu.cell (cell_lt cc)).trans cc, (hu.cell (cell_lt cl)).trans cl, (hu.cell (cell_lt cr)).trans cr⟩
         have HALL := zh hall
         have HK0 := zh (hall _ (Below.refl _ _))
         clear hall cf
         go_wp2_with fail
         refine wp_region_late (late := []) (S1 := fun u => u.cell? ⟨L.Bc, 5, none⟩ = some (.slice (some ⟨L.g1, 0, none⟩) (nonsOf g) L.c1) ∧ u.cell? ⟨L.g1, left, none⟩ = some (.slice (some ⟨L.s1 left, 0, none⟩) (n + 1) (n + 1)) ∧ u.cell? ⟨L.s1 left, k, none⟩ = some (.bool false) ∧ u.cell? ⟨w2.heap.size, 0, none⟩ = some (.int .i64 (left : Int)) ∧ u.cell? ⟨w2.heap.size, 1, none⟩ = some (.slice AQ m cQ)) (S := fun _ => True) (by kernel_rfl) ?_
         refine zP (i := 0) rfl (fun u hu => by obtain ⟨k0, k1, k2, k3, k4⟩ := hu; go_simp; try rfl) HK0.out zt ?_
         simp only [Act.put, zA, zB, zC, zD, zF, zG]
         refine zP (i := 1) rfl (fun u hu => by obtain ⟨k0, k1, k2, k3, k4⟩ := hu; go_simp; try rfl) HK0.out zt ?_
         simp only [Act.put, zA, zB, zC, zD, zF, zG]
         refine zP (i := 2) rfl (fun u hu => by obtain ⟨k0, k1, k2, k3, k4⟩ := hu; go_simp; try rfl) HK0.out zt ?_
         simp only [Act.put, zA, zB, zC, zD, zF, zG]
         refine zP (i := 3) rfl (fun u hu => by obtain ⟨k0, k1, k2, k3, k4⟩ := hu; go_simp; try rfl) HK0.out zt ?_
         simp only [Act.put, zA, zB, zC, zD, zF, zG]
         refine zP (i := 4) rfl (fun u hu => by obtain ⟨k0, k1, k2, k3, k4⟩ := hu; go_simp; try rfl) HK0.out zt ?_
         simp only [Act.put, zA, zB, zC, zD, zF, zG]
         refine zP (i := 5) rfl (fun u hu => by obtain ⟨k0, k1, k2, k3, k4⟩ := hu; go_simp; try rfl) HK0.out zt ?_
         simp only [Act.put, zA, zB, zC, zD, zF, zG]
         refine zP (i := 6) rfl (fun u hu => by obtain ⟨k0, k1, k2, k3, k4⟩ := hu; go_simp; try rfl) HK0.out zt ?_
         simp only [Act.put, zA, zB, zC, zD, zF, zG]
         refine zP (i := 7) rfl (fun u hu => by obtain ⟨k0, k1, k2, k3, k4⟩ := hu; go_simp; try rfl) HK0.out zt ?_
         simp only [Act.put, zA, zB, zC, zD, zF, zG]
         refine zP (i := 8) rfl (fun u hu => by obtain ⟨k0, k1, k2, k3, k4⟩ := hu; go_simp; try rfl) HK0.out zt ?_
         simp only [Act.put, zA, zB, zC, zD, zF, zG]
         refine zP (i := 9) rfl (fun u hu => by obtain ⟨k0, k1, k2, k3, k4⟩ := hu; go_simp; try rfl) HK0.out zt ?_
         simp only [Act.put, zA, zB, zC, zD, zF, zG]
         refine zP (i := 10) rfl (fun u hu => by obtain ⟨k0, k1, k2, k3, k4⟩ := hu; go_simp; try rfl) HK0.out zt ?_
         simp only [Act.put, zA, zB, zC, zD, zF, zG]
         refine zP (i := 11) rfl (fun u hu => by obtain ⟨k0, k1, k2, k3, k4⟩ := hu; go_simp; try rfl) HK0.out zt ?_
         simp only [Act.put, zA, zB, zC, zD, zF, zG]
         refine zP (i := 12) rfl (fun u hu => by obtain ⟨k0, k1, k2, k3, k4⟩ := hu; go_simp; try rfl) HK0.out zt ?_
         simp only [Act.put, zA, zB, zC, zD, zF, zG]
         refine zP (i := 13) rfl (fun u hu => by obtain ⟨k0, k1, k2, k3, k4⟩ := hu; go_simp; try rfl) HK0.out zt ?_
         simp only [Act.put, zA, zB, zC, zD, zF, zG]
         refine zP (i := 14) rfl (fun u hu => by obtain ⟨k0, k1, k2, k3, k4⟩ := hu; go_simp; try rfl) HK0.out zt ?_
         simp only [Act.put, zA, zB, zC, zD, zF, zG]
         refine zP (i := 15) rfl (fun u hu => by obtain ⟨k0, k1, k2, k3, k4⟩ := hu; go_simp; try rfl) HK0.out zt ?_
         simp only [Act.put, zA, zB, zC, zD, zF, zG]
         refine zP (i := 16) rfl (fun u hu => by obtain ⟨k0, k1, k2, k3, k4⟩ := hu; go_simp; try rfl) HK0.out zt ?_
         simp only [Act.put, zA, zB, zC, zD, zF, zG]
         refine zR 17 rfl (fun K hK => ?_)
         go_simp
         refine (ctrCan hn r.2 _ HC3.out.drew _ _ _ _ ((HRS.out.below HB3.out).drew) HRN2.out k (by omega)).mono ?_
         rintro e w9 ⟨rfl, hb9⟩
         have HC9 := zh (HC3.out.drew.below hb9)
         have HB9 := zh (HB3.out.drew.trans (hb9.mono HB3.out.size))
         have HKK := zh (HALL.out _ hb9)
         have HBR9 := zh ((hb9.block _ (heap_lt HBR3.out)).trans HBR3.out)
         have HBX9 := zh ((hb9.block _ (heap_lt HBX3.out)).trans HBX3.out)
         have hz9 := hb9.size
         clear hb9
         refine hK.out _ _ HKK.out zt ?_
         clear hK K
         refine zP (i := 18) rfl (fun u hu => by obtain ⟨k0, k1, k2, k3, k4⟩ := hu; go_simp; try rfl) HKK.out zt ?_
         simp only [Act.put, zA, zB, zC, zD, zF, zG]
         refine wpAnyL_done (by kernel_rfl) ?_ _
         cases hcan : canT S2 r.2 k with
         | false =>
          have HCAN := zh hcan
          clear hcan
          go_wp2_with fail
          go_roundg (n + 1 - (k + 1))
          case measure => rw [HGK2.out]; omega
          case rel =>
           refine ⟨k + 1, S2, ag2, by omega, rfl, by go_num, rfl, HC9.out, HSN3.out, fun h => ?_, HT3.out, HBR9.out, HBX9.out, HB9.out⟩
           obtain ⟨e1, e2, e3⟩ := HF3.out h
           refine ⟨e1, e2, fun q hq hc => ?_⟩
           rcases Nat.lt_succ_iff_lt_or_eq.1 hq with h' | rfl
           · exact e3 q h' hc
           rw [← e1, HCAN.out] at hc
           cases hc
         | true =>
          have HCAN := zh hcan
          clear hcan
          have hk1 := HKK.out
          have hc9c := HC9.out.drew.gS.cell hrN hkn
          rw [HSK.out] at hc9c
          have HCT := zh hc9c
          have HFT := zh (HC9.out.drew.gS.fr hrN k)
          have HK1 := zh (show w9.drew.cell? ⟨L.Bc, 5, none⟩ = some (.slice (some ⟨L.g1, 0, none⟩) (nonsOf g) L.c1) ∧ w9.drew.cell? ⟨L.g1, left, none⟩ = some (.slice (some ⟨L.s1 left, 0, none⟩) (n + 1) (n + 1)) ∧ w9.drew.cell? ⟨w2.heap.size, 0, none⟩ = some (.int .i64 (left : Int)) from ⟨hk1.1, hk1.2.1, hk1.2.2.2.1⟩)
          have HS10 := zh (And.intro (setOther (.bool true) (p := ⟨L.s1 left, k, none⟩) HK1.out.1 (by simp; omega)) (And.intro (setOther (.bool true) (p := ⟨L.s1 left, k, none⟩) HK1.out.2.1 (Ne.symm rg3)) (setOther (.bool true) (p := ⟨L.s1 left, k, none⟩) HK1.out.2.2 (by simp; omega))))
          have HC10 := zh (HC9.out.drew.setS k hrN true)
          have HSN10 := zh (sound_set HSN3.out HRN.out (List.mem_of_getElem? HR.out) (by omega) HCAN.out HLF.out)
          have HLT10 := zh (show cntF (nonsOf g) n (fun b j => if b = left ∧ j = k then true else S2 b j) < cntF (nonsOf g) n S0 by
           have h1 := cntF_set hrN (show k ≤ n by omega) HSK.out
           cases ag2 with
           | true => have := HT3.out rfl; omega
           | false => rw [(HF3.out rfl).1] at h1 ⊢; exact h1)
          clear hk1 hc9c c5 ch cc cl cr
          go_wp2_with fail
          refine wp_region_late (late := []) (S1 := fun u => u.cell? ⟨L.Bc, 5, none⟩ = some (.slice (some ⟨L.g1, 0, none⟩) (nonsOf g) L.c1) ∧ u.cell? ⟨L.g1, left, none⟩ = some (.slice (some ⟨L.s1 left, 0, none⟩) (n + 1) (n + 1)) ∧ u.cell? ⟨w2.heap.size, 0, none⟩ = some (.int .i64 (left : Int))) (S := fun _ => True) (by kernel_rfl) ?_
          refine zP (i := 0) rfl (fun u hu => by obtain ⟨k0, k1, k3⟩ := hu; go_simp; try rfl) HK1.out zt ?_
          simp only [Act.put, zA, zB, zC, zD, zF, zG]
          refine zP (i := 1) rfl (fun u hu => by obtain ⟨k0, k1, k3⟩ := hu; go_simp; try rfl) HK1.out zt ?_
          simp only [Act.put, zA, zB, zC, zD, zF, zG]
          refine zP (i := 2) rfl (fun u hu => by obtain ⟨k0, k1, k3⟩ := hu; go_simp; try rfl) HK1.out zt ?_
          simp only [Act.put, zA, zB, zC, zD, zF, zG]
          refine zP (i := 3) rfl (fun u hu => by obtain ⟨k0, k1, k3⟩ := hu; go_simp; try rfl) HK1.out zt ?_
          simp only [Act.put, zA, zB, zC, zD, zF, zG]
          refine zP (i := 4) rfl (fun u hu => by obtain ⟨k0, k1, k3⟩ := hu; go_simp; try rfl) HK1.out zt ?_
          simp only [Act.put, zA, zB, zC, zD, zF, zG]
          refine zP (i := 5) rfl (fun u hu => by obtain ⟨k0, k1, k3⟩ := hu; go_simp; try rfl) HK1.out zt ?_
          simp only [Act.put, zA, zB, zC, zD, zF, zG]
          refine zP (i := 6) rfl (fun u hu => by obtain ⟨k0, k1, k3⟩ := hu; go_simp; try rfl) HK1.out zt ?_
          simp only [Act.put, zA, zB, zC, zD, zF, zG]
          refine zP (i := 7) rfl (fun u hu => by obtain ⟨k0, k1, k3⟩ := hu; go_simp; try rfl) HK1.out zt ?_
          simp only [Act.put, zA, zB, zC, zD, zF, zG]
          refine zP (i := 8) rfl (fun u hu => by obtain ⟨k0, k1, k3⟩ := hu; go_simp; try rfl) HK1.out zt ?_
          simp only [Act.put, zA, zB, zC, zD, zF, zG]
          refine zP (i := 9) rfl (fun u hu => by obtain ⟨k0, k1, k3⟩ := hu; go_simp; try rfl) HK1.out zt ?_
          simp only [Act.put, zA, zB, zC, zD, zF, zG]
          refine zR 10 rfl (fun K hK => ?_)
          have hc := HCT.out
          have hf := HFT.out
          go_simp
          clear hc hf
          refine hK.out _ _ HS10.out zt ?_
          clear hK K
          refine zP (i := 11) rfl (fun u hu => by obtain ⟨k0, k1, k3⟩ := hu; go_simp; try rfl) HS10.out zt ?_
          simp only [Act.put, zA, zB, zC, zD, zF, zG]
          refine wpAnyL_done (by kernel_rfl) ?_ _
          go_wp2_with fail
          go_roundg (n + 1 - (k + 1))
          case measure => rw [HGK2.out]; omega
          case rel => exact ⟨k + 1, _, true, by omega, rfl, by go_num, rfl, HC10.out, HSN10.out, (fun h => by cases h), (fun _ => HLT10.out), (Below.heap_setCell _ _ _ _ (by simp; omega)).trans HBR9.out, (Below.heap_setCell _ _ _ _ (by simp; omega)).trans HBX9.out, HB9.out.drew.setCell (by simp; omega) _⟩
       go_wp2_with fail
       go_roundg (nR - (i + 1))
       case measure => rw [HGI.out]; omega
       case rel =>
        refine ⟨i + 1, S2, ag2, by omega, rfl, by go_num, rfl, HC3.out, HSN3.out, fun h => ?_, HT3.out, HBX3.out, HB3.out⟩
        obtain ⟨e1, e2, e3⟩ := HF3.out h
        refine ⟨e1, fun q r' hq hr' k' hk' hc => ?_⟩
        rcases Nat.lt_succ_iff_lt_or_eq.1 hq with h' | rfl
        · exact e2 q r' h' hr' k' hk' hc
        rw [HR.out] at hr'
        injection hr' with hr'
        subst hr'
        rw [HLF.out, Int.toNat_natCast]
        exact e3 k' (by omega) hc
     obtain rfl : i = nR := by omega
     go_wp2_with fail
     go_roundg (cntF (nonsOf g) n S1 + (if ag1 then 1 else 0))
     case measure =>
      rw [HGK.out]
      cases ag1 with
      | true => have := HT2.out rfl; simp; omega
      | false => rw [(HF2.out rfl).1]; simp
     case rel =>
      refine ⟨S1, ag1, rfl, rfl, HC2.out, HSN2.out, fun h => ?_, HBX2.out, HB2.out⟩
      obtain ⟨e1, e2⟩ := HF2.out h
      rw [e1]
      intro r hr k hk hc
      obtain ⟨q, hq⟩ := List.getElem?_of_mem hr
      exact e2 q r (by have := (List.getElem?_eq_some_iff.1 hq).1; have := HRL.out; omega) hq k hk hc
   | false =>
    have HCL := zh (hcl rfl)
    clear hgk hcl hcA
    go_wp2_with fail
    refine (ctrLoops _ HC1.out HV.out hn).mono ?_
    rintro e w5 ⟨rfl, hc5, hfr, hos, hz⟩
    have HC5 := zh hc5
    have HFR := zh hfr
    have HOS := zh hos
    clear hc5 hfr hos
    go_wp2_with fail
    go_ret
    have hteq := fun a k ha hk => table_eq HSN1.out HCL.out a k ha hk
    refine ⟨L, rfl, ?_, by omega, ?_⟩
    ·
     have h1 := HC5.out.congrS (S' := lenD g.2.2.2) (fun a k ha hk => hteq a k ha (by omega))
     exact { h1 with gM := h1.gM.congr (fun a k ha hk => by
      rw [Bool.eq_iff_iff, manyB_iff HRN.out hteq, nodeOf_num (show (a, k).2 ≤ n by dsimp only; omega)]
      simp [manyD]) }
    have ho := HC1.out.o1
    refine ⟨HOS.out.1.trans HB1.out.os, HOS.out.2.1.trans HB1.out.tape, HOS.out.2.2.trans HB1.out.output, Nat.le_trans HB1.out.size hz, fun q hq => ?_⟩
    rw [HFR.out q (by have := HB1.out.size; omega) (by omega)]
    exact HB1.out.block q hq
end Go.Proofs.YtjnbjdbndbbanaaGreatDoor
