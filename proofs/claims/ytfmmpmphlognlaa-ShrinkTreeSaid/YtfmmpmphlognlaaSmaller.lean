/- shrink.smaller: the smaller trees. -/
import Derived.Test.YtfmmpmphlognlaaShPaths
import Derived.Test.YtfmmpmphlognlaaTreeC
namespace Go.Proofs.Ytfmmpmphlognlaa
open Go.RowKit

/-- the blocks from lo to hi are as they were -/
def Mid (lo hi : Nat) (w w' : World) : Prop := ∀ b, lo ≤ b → b < hi → w'.heap[b]? = w.heap[b]?
theorem Mid.refl (lo hi : Nat) (w : World) : Mid lo hi w w := fun _ _ _ => rfl
theorem Mid.trans {lo hi : Nat} {w w' w'' : World} (h : Mid lo hi w w') (k : Mid lo hi w' w'') : Mid lo hi w w'' := fun b h1 h2 => (k b h1 h2).trans (h b h1 h2)
theorem Mid.below {lo hi B : Nat} {w w' : World} (h : Below B w w') (hB : hi ≤ B) : Mid lo hi w w' := fun b _ h2 => h.block b (by omega)
theorem Kept.mid {S : Nat → Prop} {lo hi : Nat} {w w' : World} (h : Mid lo hi w w') (hS : ∀ b, S b → lo ≤ b ∧ b < hi) : Kept S w w' := fun p u hp hu => by
  rw [World.cell?_of_block (h _ (hS _ hp).1 (hS _ hp).2)]
  exact hu
/-- the row that is appended to lies outside of the blocks from lo to hi -/
def RowOut (lo hi : Nat) (v : Value) : Prop := ∀ b, rowOf v = some b → b < lo ∨ hi ≤ b
/-- a path read out of a list of paths -/
theorem path_at {w : World} {S : Nat → Prop} {A : Option Addr} {n c k : Nat} {l : List (List Int)} (h : Sl RIL w S A n c l) (hk : k < n) :
    ∃ (b off : Nat) (Ap : Option Addr) (np cp : Nat) (p : List Int), A = some ⟨b, off, none⟩ ∧ b < w.heap.size ∧ w.cell? ⟨b, off + k, none⟩ = some (.slice Ap np cp) ∧ l[k]? = some p ∧ Rd w S 1 Ap np (p.map (Value.int .i64)) ∧ np ≤ cp ∧ p.length = np := by
  obtain ⟨b, off, u, p, rfl, _, hp, ⟨Ap, np, cp, hu, hs⟩, hc⟩ := h.at_ rfl hk
  obtain rfl : u = .slice Ap np cp := by simpa using hu
  exact ⟨b, off, Ap, np, cp, p, rfl, cell_lt hc, hc, hp, hs.ints, hs.cap, hs.len.symm⟩
theorem Sl.cutl2 {α : Type} {R : Rep α} {P : Program} {T E s bytes : Nat} {z : Value} (hT : SlType P T E s bytes z) (hs : R.size = s) {w : World} {S : Nat → Prop} {A : Option Addr} {n c : Nat} {l : List α} (h : Sl R w S A n c l) (k : Nat) (hk : k ≤ n) :
    ∃ A', (∀ u, (Instr.slice T (.slice A n c) (some (.int .i64 (k : Int))) none none).run P u = .ok (.slice A' (n - k) (c - k)) u) ∧ Sl R w S A' (n - k) (c - k) (l.drop k) := by
  subst hs
  obtain ⟨xs, h1, h2, h3, h4⟩ := h
  obtain ⟨A', hrun, hr⟩ := hT.cutl (c := c) h3 (k : Int) (by omega) (by omega) h2
  rw [Int.toNat_natCast] at hr
  refine ⟨A', fun u => by rw [hrun u, Int.toNat_natCast], xs.drop (k * R.size), by rw [List.length_drop]; omega, by omega, hr, h4.drop⟩
/-- the smaller trees, in new memory -/
def SmallMade (l : List TreeD) (base : Nat) (e : Ending) (w' : World) : Prop := ∃ (A : Option Addr) (n c : Nat), e = .returned (.slice A n c) ∧ Sl RTree w' (fun b => base ≤ b) A n c l
theorem paths_small {t x : TreeD} {p : List Int} (hp : p ∈ pathsT t []) (hx : subAt t p = some x) : p.length + sizeT x ≤ sizeT t := by
  obtain ⟨y, h1, _, h2⟩ := paths_sub _ t t [] (Nat.le_refl _) rfl p hp
  rw [hx] at h1
  injection h1 with h1
  subst h1
  simpa using h2
set_option linter.unusedSimpArgs false in
set_option maxRecDepth 1000000 in
set_option maxHeartbeats 20000000 in
theorem shrinkSmaller (w : World) (S S' : Nat → Prop) (AR : Option Addr) (nR cR : Nat) (g : GramD) (hg : Sl RRule w S AR nR cR g.2.2.2) (t : TreeD) (s0 : SymD) (A : Option Addr) (m c : Nat) (hs : Sl RTree w S' A m c t.kids) (ht : TV g.2.2.2 s0 t) (hsz : sizeT t ≤ 100) :
    Calls Try.prog 52 #[.agg #[.int .i64 g.1, .int .i64 g.2.1, .int .i64 g.2.2.1, .slice AR nR cR], .agg #[.int .i64 t.rule, .int .i64 t.term, .slice A m c]] w fun e w' => SmallMade (smallerT g.2.2.2 t) w.heap.size e w' ∧ Below w.heap.size w w' := by
  obtain ⟨w1, hw1⟩ : ∃ w1 : World, w1 = (w.alloc (.cells #[.int .i64 g.1, .int .i64 g.2.1, .int .i64 g.2.2.1, .slice AR nR cR] 25)).alloc (.cells #[.int .i64 t.rule, .int .i64 t.term, .slice A m c] 31) := ⟨_, rfl⟩
  have hz1 : w1.heap.size = w.heap.size + 2 := by rw [hw1]; simp
  have hb1 : Below w.heap.size w w1 := by rw [hw1]; exact ((Below.refl _ _).alloc (Nat.le_refl _) _).alloc (by simp) _
  have b1 : w1.heap[w.heap.size]? = some (.cells #[.int .i64 g.1, .int .i64 g.2.1, .int .i64 g.2.2.1, .slice AR nR cR] 25 (0, 0)) := by rw [hw1]; exact (Below.heap_alloc _ _ _ (by simp)).trans (heap_alloc_new w _)
  have b2 : w1.heap[w.heap.size + 1]? = some (.cells #[.int .i64 t.rule, .int .i64 t.term, .slice A m c] 31 (0, 0)) := by rw [hw1]; exact heap_new _ _ _ (by simp)
  have hall : ∀ u : World, Below (w.heap.size + 2) w1 u → (u.cell? ⟨w.heap.size, 0, none⟩ = some (.int .i64 g.1) ∧ u.cell? ⟨w.heap.size, 1, none⟩ = some (.int .i64 g.2.1) ∧ u.cell? ⟨w.heap.size, 2, none⟩ = some (.int .i64 g.2.2.1) ∧ u.cell? ⟨w.heap.size, 3, none⟩ = some (.slice AR nR cR)) ∧
      (u.cell? ⟨w.heap.size + 1, 0, none⟩ = some (.int .i64 t.rule) ∧ u.cell? ⟨w.heap.size + 1, 1, none⟩ = some (.int .i64 t.term) ∧ u.cell? ⟨w.heap.size + 1, 2, none⟩ = some (.slice A m c)) ∧
      Sl RRule u (fun b => S b ∧ b < w.heap.size) AR nR cR g.2.2.2 ∧ Sl RTree u (fun b => S' b ∧ b < w.heap.size) A m c t.kids := by
    intro u hu
    have e1 := (hu.block _ (by omega)).trans b1
    have e2 := (hu.block _ (by omega)).trans b2
    have hwu : Below w.heap.size w u := hb1.trans (hu.mono (by omega))
    refine ⟨by simp [World.cell?, e1], by simp [World.cell?, e2], hg.fit.keep (.belowB hwu fun b hb => hb.2), hs.fit.keep (.belowB hwu fun b hb => hb.2)⟩
  have HALL := Lib.hid hall
  have HB1 := Lib.hid hb1
  have HTV := Lib.hid ht
  have HLV := Lib.hid ht.leaves
  obtain ⟨k0, k1, k2, k3⟩ := hall w1 (Below.refl _ _)
  clear hg hs ht hb1 b1 b2 hall k0 k1 k2
  have HKT := Lib.hid k3
  clear k3
  go_enter Try.func52, Try.ntmps52
  --@1
  go_wp2_with fail
  rw [← hw1]
  clear hw1
  refine (shrinkPaths (sizeT t) t w1 _ (fun _ => False) A m c none 0 0 [] (Nat.le_refl _) (by omega) HKT.out Rd.nil (Nat.le_refl _) (by omega)).mono ?_
  rintro e w2 ⟨⟨A2, c2, rfl, hs2⟩, hb2⟩
  have hpl : (pathsT t []).length = sizeT t := paths_len _ t [] (Nat.le_refl _)
  rw [hpl] at hs2 ⊢
  obtain ⟨nP, hnP⟩ : ∃ nP, nP = sizeT t := ⟨_, rfl⟩
  rw [← hnP] at hs2 hsz hpl ⊢
  have hz2 := hb2.size
  have HP2 := Lib.hid (hs2.more (S' := fun b => w1.heap.size ≤ b) (fun b hb => by rcases hb with h | h; exact h.1.elim; exact h))
  have HP2F := Lib.hid ((hs2.fit.more (S' := fun b => w1.heap.size ≤ b ∧ b < w2.heap.size) (fun b hb => ⟨by rcases hb.1 with h | h; exact h.1.elim; exact h, hb.2⟩)))
  have HB2 := Lib.hid hb2
  have HPL := Lib.hid hpl
  have HNP := Lib.hid hnP
  clear hs2 hb2 hpl hnP HKT HP2
  --@2
  go_wp2_with fail
  go_loopg [5, 19] nP (fun gk v i wr => ∃ (j : Nat), j ≤ nP ∧ gk = nP - j ∧ i = .int .i64 j ∧ OwnL RTree wr (fun _ => False) w2.heap.size 31 v (((pathsT t []).take j).flatMap (smallP g.2.2.2 t)) ∧ Below w2.heap.size w2 wr)
  case atStart => exact ⟨0, Nat.zero_le _, rfl, rfl, OwnL.nil _ _ _ _ _, Below.refl _ _⟩
  case round =>
    obtain ⟨j, hj, hgk, rfl, hown, hb⟩ := hrel
    have HGK := Lib.hid hgk
    have HOW := Lib.hid hown
    have HB := Lib.hid hb
    obtain ⟨ln, hln⟩ : ∃ ln, ln = (((pathsT t []).take j).flatMap (smallP g.2.2.2 t)).length := ⟨_, rfl⟩
    obtain ⟨AK, cK, rfl, hcK⟩ := hown.formK hln.symm
    have HLN := Lib.hid hln
    obtain ⟨w3, rfl⟩ : ∃ w3 : World, w3 = wr := ⟨_, rfl⟩
    have hz3 := hb.size
    clear hgk hown hb hln
    by_cases hlt : j < nP
    · obtain ⟨bp, op, Ap, np, cp, p, rfl, hbp, hcp, hp, hrp0, hpc, hpl⟩ := path_at HP2F.out hlt
      replace hcp := (HB.out.cell (p := ⟨bp, op + j, none⟩) hbp).trans hcp
      have hrp := hrp0.keep (.belowB HB.out (fun b hb => hb.2))
      have HRP2 := Lib.hid hrp0
      clear hrp0
      obtain ⟨x, hx, _, hsx⟩ := paths_sub _ t t [] (Nat.le_refl _) rfl p (List.mem_of_getElem? hp)
      have hsx' : p.length + sizeT x ≤ nP := by rw [HNP.out]; simpa using hsx
      have hnp : np ≤ 100 := by omega
      have hjI : (j : Int) < (nP : Int) := by omega
      have hj0 : (0 : Int) ≤ (j : Int) := by omega
      have h13 : Below (w.heap.size + 2) w1 w3 := (HB2.out.mono (by omega)).trans (HB.out.mono (by omega))
      obtain ⟨⟨g0, g1, g2, g3⟩, ⟨t0, t1, t2⟩, hgr, htr⟩ := HALL.out w3 h13
      obtain ⟨s1, hs1⟩ := TV.sub p HTV.out hx
      have HTVX := Lib.hid hs1
      have HPX := Lib.hid hp
      have HX := Lib.hid hx
      have HRP := Lib.hid hrp
      have HPL1 := Lib.hid hpl
      have HTR := Lib.hid htr
      have HGR := Lib.hid hgr
      have H13 := Lib.hid h13
      have ltb := cell_lt t0
      clear hp hx hrp hsx hpl htr hgr h13 hs1
      --@3
      go_wp2_with fail
      clear t0 t1 t2
      refine (treeAt t x w3 _ _ A m c (by have := HNP.out; omega) HTR.out HLV.out Ap np cp p HRP.out (by omega) HX.out).mono ?_
      rintro e w4 ⟨⟨A4, m4, c4, rfl, hs4⟩, hb4⟩
      have hz4 := hb4.size
      obtain ⟨w5, hw5⟩ : ∃ w5 : World, w5 = w4.alloc (.cells #[.int .i64 x.rule, .int .i64 x.term, .slice A4 m4 c4] 31) := ⟨_, rfl⟩
      have hz5a : w4.heap.size + 1 ≤ w5.heap.size := by rw [hw5]; simp
      have hz5b : w5.heap.size ≤ w4.heap.size + 1 := by rw [hw5]; simp
      have hb5 : Below w3.heap.size w3 w5 := by rw [hw5]; exact hb4.alloc hz4 _
      have hbx : w5.heap[w4.heap.size]? = some (.cells #[.int .i64 x.rule, .int .i64 x.term, .slice A4 m4 c4] 31 (0, 0)) := by rw [hw5]; exact heap_alloc_new w4 _
      have hsx5 : Sl RTree w5 (fun b => w3.heap.size ≤ b) A4 m4 c4 x.kids := by rw [hw5]; exact hs4.alloc _
      obtain ⟨d0, d1, d2, _, _, _⟩ := tree_cells' hbx
      rw [hw5] at d0 d1 d2
      have HB5 := Lib.hid hb5
      have HBX := Lib.hid hbx
      have HSX5 := Lib.hid hsx5
      have HPT := Lib.hid (take_flatMap (f := smallP g.2.2.2 t) HPX.out)
      have HLX := Lib.hid HTVX.out.leaves
      have hszx : sizeT x ≤ 100 := by omega
      clear hb4 hs4 hb5 hbx hsx5 g0 g1 g2 g3
      by_cases hxr : x.rule < 0
      · have hxd : decide (x.rule < 0) = true := by simpa using hxr
        have hsp : smallP g.2.2.2 t p = [] := by unfold smallP; rw [HX.out]; simp only; rw [if_pos hxr]
        have HSP := Lib.hid hsp
        clear hsp hxr
        --@4
        go_wp2_with fail
        rw [← hw5]
        clear hw5 d0 d1 d2
        go_roundg (nP - (j + 1))
        case measure => rw [HGK.out]; omega
        case rel => exact ⟨j + 1, by omega, rfl, by go_num, by rw [HPT.out, HSP.out, List.append_nil]; exact HOW.out.below HB5.out, HB.out.trans (HB5.out.mono (by omega))⟩
      · have hxd : decide (x.rule < 0) = false := by simpa using hxr
        have hsp : smallP g.2.2.2 t p = (pathsT x []).tail.flatMap (smallAt g.2.2.2 t p x) := by unfold smallP; rw [HX.out]; simp only; rw [if_neg hxr]
        have HSP := Lib.hid hsp
        clear hsp hxr
        --@5
        go_wp2_with fail
        rw [← hw5]
        clear hw5 d0 d1 d2
        refine (shrinkPaths (sizeT x) x w5 _ (fun _ => False) A4 m4 c4 none 0 0 [] (Nat.le_refl _) (by omega) HSX5.out Rd.nil (Nat.le_refl _) (by omega)).mono ?_
        rintro e w6 ⟨⟨A6, c6, rfl, hs6⟩, hb6⟩
        have hpl6 : (pathsT x []).length = sizeT x := paths_len _ x [] (Nat.le_refl _)
        rw [hpl6] at hs6 ⊢
        obtain ⟨nX, hnX⟩ : ∃ nX, nX = sizeT x := ⟨_, rfl⟩
        rw [← hnX] at hs6 hszx hpl6 ⊢
        have hnX1 : 1 ≤ nX := by rw [hnX, sizeT_eq]; omega
        have hz6 := hb6.size
        have hcap6 := hs6.cap
        obtain ⟨A7, hcut, hs7⟩ := hs6.cutl2 tIntssP rfl 1 hnX1
        rw [Int.cast_ofNat_Int] at hcut
        have HCUT := Lib.hid hcut
        have HQ7 := Lib.hid (hs7.fit.more (S' := fun b => w3.heap.size ≤ b ∧ b < w6.heap.size) (fun b hb => ⟨by rcases hb.1 with h | h; exact h.1.elim; omega, hb.2⟩))
        have HX6 := Lib.hid (((HSX5.out.below hb6).fit).more (S' := fun b => w3.heap.size ≤ b ∧ b < w6.heap.size) (fun b hb => ⟨hb.1, hb.2⟩))
        have HBX6 := Lib.hid ((hb6.block _ (by omega)).trans HBX.out)
        have HB6 := Lib.hid (HB5.out.trans (hb6.mono (by omega)))
        have HNX := Lib.hid hnX
        have HPL6 := Lib.hid hpl6
        have hq1 : ∀ q ∈ (pathsT x []).drop 1, q ∈ (pathsT x []).tail := fun q hq => by rw [List.drop_one] at hq; exact hq
        have HQT := Lib.hid hq1
        have hcutx := hcut
        have hro : RowOut w3.heap.size w6.heap.size (.slice AK ln cK) := fun b hb => Or.inl (HOW.out.row hb).2
        have HRO := Lib.hid hro
        obtain ⟨mX, hmX⟩ : ∃ mX, mX = nX - 1 := ⟨_, rfl⟩
        rw [← hmX] at hcutx HQ7
        have HMX := Lib.hid hmX
        have hmX9 : mX ≤ 100 := by omega
        clear hs6 hb6 hpl6 hnX hcut hs7 hq1 hro hmX
        --@6
        go_wp2_with fail
        clear hcutx
        obtain ⟨BL, hBL⟩ : ∃ BL, BL = ((pathsT t []).take j).flatMap (smallP g.2.2.2 t) := ⟨_, rfl⟩
        have hlnB : ln ≤ j * 100 := by
          rw [HLN.out]
          refine Nat.le_trans (flatMap_len (B := 100) _ fun q hq => ?_) (by rw [List.length_take]; exact Nat.mul_le_mul_right _ (Nat.min_le_left _ _))
          unfold smallP
          split
          · split
            · simp
            · rename_i y hy _
              refine Nat.le_trans (flatMap_len (B := 1) _ fun _ _ => smallAt_len) ?_
              have h1 := paths_small (List.mem_of_mem_take hq) hy
              have h2 := paths_len _ y [] (Nat.le_refl _)
              have h3 := HNP.out
              rw [List.length_tail, h2]
              omega
          · simp
        have hBLl : BL.length = ln := by rw [hBL]; exact HLN.out.symm
        have HOWB := Lib.hid (show OwnL RTree w6 (fun _ => False) w2.heap.size 31 (.slice AK ln cK) BL by rw [hBL]; exact HOW.out.below HB6.out)
        have HBL := Lib.hid hBL
        have HBLL := Lib.hid hBLl
        clear hBL hBLl
        go_loopg [5, 36] mX (fun gk v i wr => ∃ (k : Nat), k ≤ mX ∧ gk = mX - k ∧ i = .int .i64 k ∧ OwnL RTree wr (fun _ => False) w2.heap.size 31 v (BL ++ (((pathsT x []).drop 1).take k).flatMap (smallAt g.2.2.2 t p x)) ∧ RowOut w3.heap.size w6.heap.size v ∧ Mid w3.heap.size w6.heap.size w6 wr ∧ w6.heap.size ≤ wr.heap.size ∧ Below w2.heap.size w2 wr)
        case atStart => exact ⟨0, Nat.zero_le _, rfl, rfl, by rw [List.take_zero, List.flatMap_nil, List.append_nil]; exact HOWB.out, HRO.out, Mid.refl _ _ _, Nat.le_refl _, HB.out.trans (HB6.out.mono (by omega))⟩
        case round =>
          obtain ⟨k, hk, hgk, rfl, hown, hro, hmid, hzr, hb⟩ := hrel
          have HGK7 := Lib.hid hgk
          have HOW7 := Lib.hid hown
          have HRO7 := Lib.hid hro
          have HMID := Lib.hid hmid
          have HB7 := Lib.hid hb
          obtain ⟨l7, hl7⟩ : ∃ l7, l7 = (BL ++ (((pathsT x []).drop 1).take k).flatMap (smallAt g.2.2.2 t p x)).length := ⟨_, rfl⟩
          obtain ⟨AO, cO, rfl, hcO⟩ := hown.formK hl7.symm
          have hl7B : l7 ≤ ln + k := by
            rw [hl7, List.length_append, HBLL.out]
            have := flatMap_len (f := smallAt g.2.2.2 t p x) (B := 1) (((pathsT x []).drop 1).take k) (fun _ _ => smallAt_len)
            rw [List.length_take] at this
            omega
          have HL7 := Lib.hid hl7
          obtain ⟨w7, rfl⟩ : ∃ w7 : World, w7 = wr := ⟨_, rfl⟩
          clear hgk hown hro hmid hb hl7
          by_cases hkm : k < mX
          · obtain ⟨bq, oq, Aq, nq, cq, q, rfl, hbq, hcq, hq, hrq, hqc, hql⟩ := path_at (HQ7.out.keep (.mid HMID.out (fun b hb => hb))) hkm
            obtain ⟨y, hy, hqy, hys⟩ := paths_tail (HQT.out q (List.mem_of_getElem? hq))
            obtain ⟨s1, hs1⟩ := TV.sub p HTV.out HX.out
            obtain ⟨s2, hs2⟩ := TV.sub q hs1 hy
            have hnq : nq ≤ 100 := by have := HNX.out; omega
            have hkI : (k : Int) < (mX : Int) := by omega
            have hk0 : (0 : Int) ≤ (k : Int) := by omega
            have hbx7 := (HMID.out w4.heap.size hz4 (by omega)).trans HBX6.out
            obtain ⟨d0, d1, d2, _, _, _⟩ := tree_cells' hbx7
            have ld := cell_lt d0
            have HQ := Lib.hid hq
            have HY := Lib.hid hy
            have HRQ := Lib.hid hrq
            have HS1 := Lib.hid hs1
            have HS2 := Lib.hid hs2
            have HX7 := Lib.hid (HX6.out.keep (.mid HMID.out (fun b hb => hb)))
            have hys100 : sizeT y ≤ 100 := by have := HNX.out; omega
            have HBX7 := Lib.hid hbx7
            clear hq hy hrq hs1 hs2 hbx7 hql hqy
            --@7
            go_wp2_with fail
            clear d0 d1 d2 hcq
            refine (treeAt x y w7 _ _ A4 m4 c4 (by have := HNX.out; omega) HX7.out HLX.out Aq nq cq q HRQ.out (by omega) HY.out).mono ?_
            rintro e w8 ⟨⟨A8, m8, c8, rfl, hs8⟩, hb8⟩
            have hz8 := hb8.size
            obtain ⟨w9, hw9⟩ : ∃ w9 : World, w9 = w8.alloc (.cells #[.int .i64 y.rule, .int .i64 y.term, .slice A8 m8 c8] 31) := ⟨_, rfl⟩
            have hz9a : w8.heap.size + 1 ≤ w9.heap.size := by rw [hw9]; simp
            have hz9b : w9.heap.size ≤ w8.heap.size + 1 := by rw [hw9]; simp
            have hb9 : Below w7.heap.size w7 w9 := by rw [hw9]; exact hb8.alloc hz8 _
            have hby : w9.heap[w8.heap.size]? = some (.cells #[.int .i64 y.rule, .int .i64 y.term, .slice A8 m8 c8] 31 (0, 0)) := by rw [hw9]; exact heap_alloc_new w8 _
            have hsy9 : Sl RTree w9 (fun b => w7.heap.size ≤ b) A8 m8 c8 y.kids := by rw [hw9]; exact hs8.alloc _
            have h19 : Below (w.heap.size + 2) w1 w9 := (HB2.out.mono (by omega)).trans ((HB7.out.mono (by omega)).trans (hb9.mono (by omega)))
            have hall9 : ∀ u : World, Below w9.heap.size w9 u → ((u.cell? ⟨w.heap.size, 0, none⟩ = some (.int .i64 g.1) ∧ u.cell? ⟨w.heap.size, 1, none⟩ = some (.int .i64 g.2.1) ∧ u.cell? ⟨w.heap.size, 2, none⟩ = some (.int .i64 g.2.2.1) ∧ u.cell? ⟨w.heap.size, 3, none⟩ = some (.slice AR nR cR)) ∧
                (u.cell? ⟨w4.heap.size, 0, none⟩ = some (.int .i64 x.rule) ∧ u.cell? ⟨w4.heap.size, 1, none⟩ = some (.int .i64 x.term) ∧ u.cell? ⟨w4.heap.size, 2, none⟩ = some (.slice A4 m4 c4))) ∧
                (u.cell? ⟨w8.heap.size, 0, none⟩ = some (.int .i64 y.rule) ∧ u.cell? ⟨w8.heap.size, 1, none⟩ = some (.int .i64 y.term) ∧ u.cell? ⟨w8.heap.size, 2, none⟩ = some (.slice A8 m8 c8)) := fun u hu => by
              obtain ⟨q0, q1, q2, _, _, _⟩ := tree_cells' ((hu.block _ (by omega)).trans ((hb9.block _ ld).trans HBX7.out))
              obtain ⟨r0, r1, r2, _, _, _⟩ := tree_cells' ((hu.block _ (by omega)).trans hby)
              exact ⟨⟨(HALL.out u (h19.trans (hu.mono (by omega)))).1, q0, q1, q2⟩, r0, r1, r2⟩
            have HALL9 := Lib.hid hall9
            have HK9 := Lib.hid (hall9 w9.drew (Below.refl _ _).drew)
            have HB9 := Lib.hid hb9
            have HBY := Lib.hid hby
            have HSY := Lib.hid hsy9
            have H19 := Lib.hid h19
            have HQF := Lib.hid (take_flatMap (f := smallAt g.2.2.2 t p x) HQ.out)
            have hroot : rootT g.2.2.2 y = s2 ∧ rootT g.2.2.2 x = s1 := ⟨HS2.out.root, HS1.out.root⟩
            obtain ⟨yr, hyr⟩ : ∃ yr, yr = y.rule := ⟨_, rfl⟩
            have HROOT := Lib.hid hroot
            have HYR := Lib.hid hyr
            clear hb8 hs8 hb9 hby hsy9 h19 hall9 hroot
            by_cases hy0 : 0 ≤ y.rule
            · have hyd : decide ((0 : Int) ≤ y.rule) = true := by simpa using hy0
              have HY0 := Lib.hid hy0
              clear hy0
              by_cases hs12 : s2 = s1
              · have hse : (s2.1 == s1.1 && s2.2 == s1.2) = true := by rw [hs12]; simp
                have HNE := Lib.hid hs12
                have hsa : smallAt g.2.2.2 t p x q = [putT t p y] := by unfold smallAt; rw [HY.out]; simp only; rw [if_pos ⟨HY0.out, by rw [HROOT.out.1, HROOT.out.2]; exact hs12⟩]
                obtain ⟨z, hz⟩ : ∃ z, z = putT t p y := ⟨_, rfl⟩
                rw [← hz] at hsa
                have HSAZ := Lib.hid hsa
                have HZE := Lib.hid hz
                clear hse hsa hs12 hz
                --@8
                go_wp2_with fail
                rw [← hw9]
                clear hw9
                refine wp_region_late (late := []) (S1 := fun u => ((u.cell? ⟨w.heap.size, 0, none⟩ = some (.int .i64 g.1) ∧ u.cell? ⟨w.heap.size, 1, none⟩ = some (.int .i64 g.2.1) ∧ u.cell? ⟨w.heap.size, 2, none⟩ = some (.int .i64 g.2.2.1) ∧ u.cell? ⟨w.heap.size, 3, none⟩ = some (.slice AR nR cR)) ∧ (u.cell? ⟨w4.heap.size, 0, none⟩ = some (.int .i64 x.rule) ∧ u.cell? ⟨w4.heap.size, 1, none⟩ = some (.int .i64 x.term) ∧ u.cell? ⟨w4.heap.size, 2, none⟩ = some (.slice A4 m4 c4))) ∧ (u.cell? ⟨w8.heap.size, 0, none⟩ = some (.int .i64 y.rule) ∧ u.cell? ⟨w8.heap.size, 1, none⟩ = some (.int .i64 y.term) ∧ u.cell? ⟨w8.heap.size, 2, none⟩ = some (.slice A8 m8 c8))) (S := fun _ => True) (by kernel_rfl) ?_
                refine wpAnyL_pure (i := 0) rfl (by kernel_rfl) (fun _ _ _ h => h) (Or.inl ⟨by rfl, (fun u hu => by obtain ⟨⟨⟨k0, k1, k2, k3⟩, k4, k5, k6⟩, k7, k8, k9⟩ := hu; go_simp; try rfl)⟩) HK9.out (fun _ => trivial) ?_
                simp only [Act.put, List.setIfInBounds_toArray, List.set_cons_zero, List.set_cons_succ, List.getElem_toArray, List.getElem_cons_zero, List.getElem_cons_succ]
                refine wpAnyL_pure (i := 1) rfl (by kernel_rfl) (fun _ _ _ h => h) (Or.inl ⟨by rfl, (fun u hu => by obtain ⟨⟨⟨k0, k1, k2, k3⟩, k4, k5, k6⟩, k7, k8, k9⟩ := hu; go_simp; try rfl)⟩) HK9.out (fun _ => trivial) ?_
                simp only [Act.put, List.setIfInBounds_toArray, List.set_cons_zero, List.set_cons_succ, List.getElem_toArray, List.getElem_cons_zero, List.getElem_cons_succ]
                refine wpAnyL_pure (i := 2) rfl (by kernel_rfl) (fun _ _ _ h => h) (Or.inl ⟨by rfl, (fun u hu => by obtain ⟨⟨⟨k0, k1, k2, k3⟩, k4, k5, k6⟩, k7, k8, k9⟩ := hu; go_simp; try rfl)⟩) HK9.out (fun _ => trivial) ?_
                simp only [Act.put, List.setIfInBounds_toArray, List.set_cons_zero, List.set_cons_succ, List.getElem_toArray, List.getElem_cons_zero, List.getElem_cons_succ]
                refine wpAnyL_pure (i := 3) rfl (by kernel_rfl) (fun _ _ _ h => h) (Or.inl ⟨by rfl, (fun u hu => by obtain ⟨⟨⟨k0, k1, k2, k3⟩, k4, k5, k6⟩, k7, k8, k9⟩ := hu; go_simp; try rfl)⟩) HK9.out (fun _ => trivial) ?_
                simp only [Act.put, List.setIfInBounds_toArray, List.set_cons_zero, List.set_cons_succ, List.getElem_toArray, List.getElem_cons_zero, List.getElem_cons_succ]
                refine wpAnyL_pure (i := 4) rfl (by kernel_rfl) (fun _ _ _ h => h) (Or.inl ⟨by rfl, (fun u hu => by obtain ⟨⟨⟨k0, k1, k2, k3⟩, k4, k5, k6⟩, k7, k8, k9⟩ := hu; go_simp; try rfl)⟩) HK9.out (fun _ => trivial) ?_
                simp only [Act.put, List.setIfInBounds_toArray, List.set_cons_zero, List.set_cons_succ, List.getElem_toArray, List.getElem_cons_zero, List.getElem_cons_succ]
                refine wpAnyL_pure (i := 5) rfl (by kernel_rfl) (fun _ _ _ h => h) (Or.inl ⟨by rfl, (fun u hu => by obtain ⟨⟨⟨k0, k1, k2, k3⟩, k4, k5, k6⟩, k7, k8, k9⟩ := hu; go_simp; try rfl)⟩) HK9.out (fun _ => trivial) ?_
                simp only [Act.put, List.setIfInBounds_toArray, List.set_cons_zero, List.set_cons_succ, List.getElem_toArray, List.getElem_cons_zero, List.getElem_cons_succ]
                refine wpAnyL_pure (i := 7) rfl (by kernel_rfl) (fun _ _ _ h => h) (Or.inl ⟨by rfl, (fun u hu => by obtain ⟨⟨⟨k0, k1, k2, k3⟩, k4, k5, k6⟩, k7, k8, k9⟩ := hu; go_simp; try rfl)⟩) HK9.out (fun _ => trivial) ?_
                simp only [Act.put, List.setIfInBounds_toArray, List.set_cons_zero, List.set_cons_succ, List.getElem_toArray, List.getElem_cons_zero, List.getElem_cons_succ]
                refine wpAnyL_pure (i := 8) rfl (by kernel_rfl) (fun _ _ _ h => h) (Or.inl ⟨by rfl, (fun u hu => by obtain ⟨⟨⟨k0, k1, k2, k3⟩, k4, k5, k6⟩, k7, k8, k9⟩ := hu; go_simp; try rfl)⟩) HK9.out (fun _ => trivial) ?_
                simp only [Act.put, List.setIfInBounds_toArray, List.set_cons_zero, List.set_cons_succ, List.getElem_toArray, List.getElem_cons_zero, List.getElem_cons_succ]
                refine wpAnyL_ready (rs := [6]) (by kernel_rfl) (by simp) ?_
                refine AllL.cons rfl (fun K hK => ?_) ?_
                · go_simp
                  refine (gramRoot _ _ AR nR cR g (HALL.out _ (H19.out.trans (Below.refl _ _).drew)).2.2.1 s2 y HS2.out A8 m8 c8).mono ?_
                  rintro e w10 ⟨rfl, hb10⟩
                  have HB10 := Lib.hid ((Below.refl w9.heap.size w9).drew.trans hb10)
                  clear hb10
                  refine hK.out _ _ (HALL9.out _ HB10.out) (fun _ => trivial) ?_
                  clear hK K
                  refine wpAnyL_ready (rs := [9]) (by kernel_rfl) (by simp) ?_
                  refine AllL.cons rfl (fun K hK => ?_) ?_
                  · go_simp
                    have hz10 := HB10.out.size
                    refine (gramRoot _ _ AR nR cR g (HALL.out _ (H19.out.trans (HB10.out.mono (by omega)))).2.2.1 s1 x HS1.out A4 m4 c4).mono ?_
                    rintro e w11 ⟨rfl, hb11⟩
                    have HB11 := Lib.hid (HB10.out.trans (hb11.mono hz10))
                    clear hb11
                    refine hK.out _ _ (HALL9.out _ HB11.out) (fun _ => trivial) ?_
                    clear hK K
                    refine wpAnyL_pure (i := 10) (v := .bool true) rfl (by kernel_rfl) (fun _ _ _ h => h) (Or.inl ⟨by rfl, (fun u hu => by obtain ⟨⟨⟨k0, k1, k2, k3⟩, k4, k5, k6⟩, k7, k8, k9⟩ := hu; go_simp; rw [HNE.out]; simp)⟩) (HALL9.out _ HB11.out) (fun _ => trivial) ?_
                    simp only [Act.put, List.setIfInBounds_toArray, List.set_cons_zero, List.set_cons_succ, List.getElem_toArray, List.getElem_cons_zero, List.getElem_cons_succ]
                    refine wpAnyL_pure (i := 11) rfl (by kernel_rfl) (fun _ _ _ h => h) (Or.inl ⟨by rfl, (fun u hu => by obtain ⟨⟨⟨k0, k1, k2, k3⟩, k4, k5, k6⟩, k7, k8, k9⟩ := hu; go_simp; try rfl)⟩) (HALL9.out _ HB11.out) (fun _ => trivial) ?_
                    simp only [Act.put, List.setIfInBounds_toArray, List.set_cons_zero, List.set_cons_succ, List.getElem_toArray, List.getElem_cons_zero, List.getElem_cons_succ]
                    refine wpAnyL_done (by kernel_rfl) ?_ _
                    have hz11 := HB11.out.size
                    have HB711 := Lib.hid (HB9.out.trans (HB11.out.mono (by omega)))
                    obtain ⟨⟨⟨g0, g1, g2, g3⟩, q0, q1, q2⟩, r0, r1, r2⟩ := HALL9.out w11 HB11.out
                    have h111 := H19.out.trans (HB11.out.mono (by omega))
                    obtain ⟨_, ⟨t0, t1, t2⟩, _, htr⟩ := HALL.out w11 h111
                    have HTR11 := Lib.hid htr
                    have HB211 := Lib.hid (HB7.out.trans (HB711.out.mono (by have := HB7.out.size; omega)))
                    have HRP11 := Lib.hid (HRP2.out.keep (.belowB HB211.out (fun b hb => hb.2)))
                    clear g0 g1 g2 g3 q0 q1 q2 htr h111
                    --@11
                    go_wp2_with fail
                    clear t0 t1 t2 r0 r1 r2
                    refine (treePut p t x y w11 _ _ _ A m c Ap np cp A8 m8 c8 (by have := HNP.out; omega) (by omega) HTR11.out HLV.out HRP11.out hpc (by omega) (HSY.out.below HB11.out) HX.out).mono ?_
                    rw [← HZE.out]
                    rintro e w12 ⟨⟨A12, m12, c12, rfl, hz12⟩, hb12⟩
                    have hs12 := hb12.size
                    obtain ⟨w13, hw13⟩ : ∃ w13 : World, w13 = w12.alloc (.cells #[.int .i64 z.rule, .int .i64 z.term, .slice A12 m12 c12] 31) := ⟨_, rfl⟩
                    have hz13a : w12.heap.size + 1 ≤ w13.heap.size := by rw [hw13]; simp
                    have hz13b : w13.heap.size ≤ w12.heap.size + 1 := by rw [hw13]; simp
                    have hb713 : Below w7.heap.size w7 w13 := by rw [hw13]; exact (HB711.out.trans (hb12.mono (by have := HB711.out.size; omega))).alloc (by have := HB711.out.size; omega) _
                    have hbz : w13.heap[w12.heap.size]? = some (.cells #[.int .i64 z.rule, .int .i64 z.term, .slice A12 m12 c12] 31 (0, 0)) := by rw [hw13]; exact heap_alloc_new w12 _
                    have hz13 : Sl RTree w13 (fun b => w11.heap.size ≤ b) A12 m12 c12 z.kids := by rw [hw13]; exact hz12.alloc _
                    obtain ⟨d0, d1, d2, _, _, _⟩ := tree_cells' hbz
                    rw [hw13] at d0 d1 d2
                    have hs711 := HB711.out.size
                    have hs7 := hb713.size
                    obtain ⟨v14, w14, hrun, ho14, hg14, hb14, hrow14⟩ := run_append_litR (R := RTree) tTreesB rfl w13 27 w2.heap.size (fun _ => False) _ _ (HOW7.out.below hb713) 1 [z] [.int .i64 z.rule, .int .i64 z.term, .slice A12 m12 c12] (Cells.single (RTree.cells.2 ⟨A12, m12, c12, rfl, hz13.more fun b hb => ⟨Or.inr (by have := HB7.out.size; omega), fun e => by have h1 := HOW7.out.row e; omega⟩⟩)) rfl (by rw [← HL7.out]; unfold maxLen; omega) (by rw [← HL7.out]; omega) (by have := HB7.out.size; omega)
                    have HRO14 := Lib.hid (show RowOut w3.heap.size w6.heap.size v14 from fun b hb => by
                      rcases hrow14 with h | h
                      · exact HRO7.out b (by rw [← h]; exact hb)
                      · exact Or.inr (by have := h b hb; omega))
                    have HMID14 := Lib.hid ((HMID.out.trans (.below hb713 hzr)).trans (show Mid w3.heap.size w6.heap.size w13 w14 from fun b h1 h2 => (hg14.block b (by simp; omega) (fun e => by have := HRO7.out b e.symm; omega)).trans (Below.heap_alloc _ _ _ (by omega))))
                    rw [hw13] at hrun
                    simp only [World.size_alloc] at hrun
                    have HRUN := Lib.hid hrun
                    have HO14 := Lib.hid ho14
                    have HB14 := Lib.hid ((HB7.out.trans (hb713.mono (by have := HB7.out.size; omega))).trans hb14)
                    have hs14 : w13.heap.size ≤ w14.heap.size := by have := hg14.size; simp at this; omega
                    clear hz12 hb12 hb713 hbz hz13 hrun ho14 hg14 hb14 hrow14
                    --@13
                    go_wp2_with (at_builtin; refine Lib.wpList_append_run (o := ⟨some 68, _, _, _, _, _⟩) _ rfl _ _ _ _ rfl _ _ rfl rfl _ _ HRUN.out ?_)
                    go_roundg (mX - (k + 1))
                    case measure => rw [HGK7.out]; omega
                    case rel => exact ⟨k + 1, by omega, rfl, by go_num, by rw [HQF.out, HSAZ.out, ← List.append_assoc]; exact HO14.out, HRO14.out, HMID14.out, by omega, HB14.out⟩
                  exact AllL.nil
                exact AllL.nil
              · have hse : (s2.1 == s1.1 && s2.2 == s1.2) = false := by
                  rw [Bool.eq_false_iff]
                  intro h
                  rw [Bool.and_eq_true, beq_iff_eq, beq_iff_eq] at h
                  exact hs12 (Prod.ext h.1 h.2)
                have HNE := Lib.hid hs12
                have hsa : smallAt g.2.2.2 t p x q = [] := by unfold smallAt; rw [HY.out]; simp only; rw [if_neg (fun h => hs12 (by rw [← HROOT.out.1, ← HROOT.out.2]; exact h.2))]
                have HSA := Lib.hid hsa
                clear hse hsa hs12
                --@12
                go_wp2_with fail
                rw [← hw9]
                clear hw9
                refine wp_region_late (late := []) (S1 := fun u => ((u.cell? ⟨w.heap.size, 0, none⟩ = some (.int .i64 g.1) ∧ u.cell? ⟨w.heap.size, 1, none⟩ = some (.int .i64 g.2.1) ∧ u.cell? ⟨w.heap.size, 2, none⟩ = some (.int .i64 g.2.2.1) ∧ u.cell? ⟨w.heap.size, 3, none⟩ = some (.slice AR nR cR)) ∧ (u.cell? ⟨w4.heap.size, 0, none⟩ = some (.int .i64 x.rule) ∧ u.cell? ⟨w4.heap.size, 1, none⟩ = some (.int .i64 x.term) ∧ u.cell? ⟨w4.heap.size, 2, none⟩ = some (.slice A4 m4 c4))) ∧ (u.cell? ⟨w8.heap.size, 0, none⟩ = some (.int .i64 y.rule) ∧ u.cell? ⟨w8.heap.size, 1, none⟩ = some (.int .i64 y.term) ∧ u.cell? ⟨w8.heap.size, 2, none⟩ = some (.slice A8 m8 c8))) (S := fun _ => True) (by kernel_rfl) ?_
                refine wpAnyL_pure (i := 0) rfl (by kernel_rfl) (fun _ _ _ h => h) (Or.inl ⟨by rfl, (fun u hu => by obtain ⟨⟨⟨k0, k1, k2, k3⟩, k4, k5, k6⟩, k7, k8, k9⟩ := hu; go_simp; try rfl)⟩) HK9.out (fun _ => trivial) ?_
                simp only [Act.put, List.setIfInBounds_toArray, List.set_cons_zero, List.set_cons_succ, List.getElem_toArray, List.getElem_cons_zero, List.getElem_cons_succ]
                refine wpAnyL_pure (i := 1) rfl (by kernel_rfl) (fun _ _ _ h => h) (Or.inl ⟨by rfl, (fun u hu => by obtain ⟨⟨⟨k0, k1, k2, k3⟩, k4, k5, k6⟩, k7, k8, k9⟩ := hu; go_simp; try rfl)⟩) HK9.out (fun _ => trivial) ?_
                simp only [Act.put, List.setIfInBounds_toArray, List.set_cons_zero, List.set_cons_succ, List.getElem_toArray, List.getElem_cons_zero, List.getElem_cons_succ]
                refine wpAnyL_pure (i := 2) rfl (by kernel_rfl) (fun _ _ _ h => h) (Or.inl ⟨by rfl, (fun u hu => by obtain ⟨⟨⟨k0, k1, k2, k3⟩, k4, k5, k6⟩, k7, k8, k9⟩ := hu; go_simp; try rfl)⟩) HK9.out (fun _ => trivial) ?_
                simp only [Act.put, List.setIfInBounds_toArray, List.set_cons_zero, List.set_cons_succ, List.getElem_toArray, List.getElem_cons_zero, List.getElem_cons_succ]
                refine wpAnyL_pure (i := 3) rfl (by kernel_rfl) (fun _ _ _ h => h) (Or.inl ⟨by rfl, (fun u hu => by obtain ⟨⟨⟨k0, k1, k2, k3⟩, k4, k5, k6⟩, k7, k8, k9⟩ := hu; go_simp; try rfl)⟩) HK9.out (fun _ => trivial) ?_
                simp only [Act.put, List.setIfInBounds_toArray, List.set_cons_zero, List.set_cons_succ, List.getElem_toArray, List.getElem_cons_zero, List.getElem_cons_succ]
                refine wpAnyL_pure (i := 4) rfl (by kernel_rfl) (fun _ _ _ h => h) (Or.inl ⟨by rfl, (fun u hu => by obtain ⟨⟨⟨k0, k1, k2, k3⟩, k4, k5, k6⟩, k7, k8, k9⟩ := hu; go_simp; try rfl)⟩) HK9.out (fun _ => trivial) ?_
                simp only [Act.put, List.setIfInBounds_toArray, List.set_cons_zero, List.set_cons_succ, List.getElem_toArray, List.getElem_cons_zero, List.getElem_cons_succ]
                refine wpAnyL_pure (i := 5) rfl (by kernel_rfl) (fun _ _ _ h => h) (Or.inl ⟨by rfl, (fun u hu => by obtain ⟨⟨⟨k0, k1, k2, k3⟩, k4, k5, k6⟩, k7, k8, k9⟩ := hu; go_simp; try rfl)⟩) HK9.out (fun _ => trivial) ?_
                simp only [Act.put, List.setIfInBounds_toArray, List.set_cons_zero, List.set_cons_succ, List.getElem_toArray, List.getElem_cons_zero, List.getElem_cons_succ]
                refine wpAnyL_pure (i := 7) rfl (by kernel_rfl) (fun _ _ _ h => h) (Or.inl ⟨by rfl, (fun u hu => by obtain ⟨⟨⟨k0, k1, k2, k3⟩, k4, k5, k6⟩, k7, k8, k9⟩ := hu; go_simp; try rfl)⟩) HK9.out (fun _ => trivial) ?_
                simp only [Act.put, List.setIfInBounds_toArray, List.set_cons_zero, List.set_cons_succ, List.getElem_toArray, List.getElem_cons_zero, List.getElem_cons_succ]
                refine wpAnyL_pure (i := 8) rfl (by kernel_rfl) (fun _ _ _ h => h) (Or.inl ⟨by rfl, (fun u hu => by obtain ⟨⟨⟨k0, k1, k2, k3⟩, k4, k5, k6⟩, k7, k8, k9⟩ := hu; go_simp; try rfl)⟩) HK9.out (fun _ => trivial) ?_
                simp only [Act.put, List.setIfInBounds_toArray, List.set_cons_zero, List.set_cons_succ, List.getElem_toArray, List.getElem_cons_zero, List.getElem_cons_succ]
                refine wpAnyL_ready (rs := [6]) (by kernel_rfl) (by simp) ?_
                refine AllL.cons rfl (fun K hK => ?_) ?_
                · go_simp
                  refine (gramRoot _ _ AR nR cR g (HALL.out _ (H19.out.trans (Below.refl _ _).drew)).2.2.1 s2 y HS2.out A8 m8 c8).mono ?_
                  rintro e w10 ⟨rfl, hb10⟩
                  have HB10 := Lib.hid ((Below.refl w9.heap.size w9).drew.trans hb10)
                  clear hb10
                  refine hK.out _ _ (HALL9.out _ HB10.out) (fun _ => trivial) ?_
                  clear hK K
                  refine wpAnyL_ready (rs := [9]) (by kernel_rfl) (by simp) ?_
                  refine AllL.cons rfl (fun K hK => ?_) ?_
                  · go_simp
                    have hz10 := HB10.out.size
                    refine (gramRoot _ _ AR nR cR g (HALL.out _ (H19.out.trans (HB10.out.mono (by omega)))).2.2.1 s1 x HS1.out A4 m4 c4).mono ?_
                    rintro e w11 ⟨rfl, hb11⟩
                    have HB11 := Lib.hid (HB10.out.trans (hb11.mono hz10))
                    clear hb11
                    refine hK.out _ _ (HALL9.out _ HB11.out) (fun _ => trivial) ?_
                    clear hK K
                    refine wpAnyL_pure (i := 10) (v := .bool false) rfl (by kernel_rfl) (fun _ _ _ h => h) (Or.inl ⟨by rfl, (fun u hu => by obtain ⟨⟨⟨k0, k1, k2, k3⟩, k4, k5, k6⟩, k7, k8, k9⟩ := hu; go_simp; intro h1 h2; exact HNE.out (Prod.ext h1 h2))⟩) (HALL9.out _ HB11.out) (fun _ => trivial) ?_
                    simp only [Act.put, List.setIfInBounds_toArray, List.set_cons_zero, List.set_cons_succ, List.getElem_toArray, List.getElem_cons_zero, List.getElem_cons_succ]
                    refine wpAnyL_pure (i := 11) rfl (by kernel_rfl) (fun _ _ _ h => h) (Or.inl ⟨by rfl, (fun u hu => by obtain ⟨⟨⟨k0, k1, k2, k3⟩, k4, k5, k6⟩, k7, k8, k9⟩ := hu; go_simp; try rfl)⟩) (HALL9.out _ HB11.out) (fun _ => trivial) ?_
                    simp only [Act.put, List.setIfInBounds_toArray, List.set_cons_zero, List.set_cons_succ, List.getElem_toArray, List.getElem_cons_zero, List.getElem_cons_succ]
                    refine wpAnyL_done (by kernel_rfl) ?_ _
                    have HB711 := Lib.hid (HB9.out.trans (HB11.out.mono (by omega)))
                    go_wp2_with fail
                    go_roundg (mX - (k + 1))
                    case measure => rw [HGK7.out]; omega
                    case rel => exact ⟨k + 1, by omega, rfl, by go_num, by rw [HQF.out, HSA.out, List.append_nil]; exact HOW7.out.below HB711.out, HRO7.out, HMID.out.trans (.below HB711.out hzr), by have := HB711.out.size; omega, HB7.out.trans (HB711.out.mono (by omega))⟩
                  exact AllL.nil
                exact AllL.nil
            · have hyd : decide ((0 : Int) ≤ y.rule) = false := by simpa using hy0
              have hsa : smallAt g.2.2.2 t p x q = [] := by unfold smallAt; rw [HY.out]; simp only; rw [if_neg (fun h => hy0 h.1)]
              have HSA := Lib.hid hsa
              clear hy0 hsa
              go_wp2_with fail
              rw [← hw9]
              clear hw9
              refine wp_region_late (late := []) (S1 := fun u => ((u.cell? ⟨w.heap.size, 0, none⟩ = some (.int .i64 g.1) ∧ u.cell? ⟨w.heap.size, 1, none⟩ = some (.int .i64 g.2.1) ∧ u.cell? ⟨w.heap.size, 2, none⟩ = some (.int .i64 g.2.2.1) ∧ u.cell? ⟨w.heap.size, 3, none⟩ = some (.slice AR nR cR)) ∧ (u.cell? ⟨w4.heap.size, 0, none⟩ = some (.int .i64 x.rule) ∧ u.cell? ⟨w4.heap.size, 1, none⟩ = some (.int .i64 x.term) ∧ u.cell? ⟨w4.heap.size, 2, none⟩ = some (.slice A4 m4 c4))) ∧ (u.cell? ⟨w8.heap.size, 0, none⟩ = some (.int .i64 y.rule) ∧ u.cell? ⟨w8.heap.size, 1, none⟩ = some (.int .i64 y.term) ∧ u.cell? ⟨w8.heap.size, 2, none⟩ = some (.slice A8 m8 c8))) (S := fun _ => True) (by kernel_rfl) ?_
              refine wpAnyL_pure (i := 0) rfl (by kernel_rfl) (fun _ _ _ h => h) (Or.inl ⟨by rfl, (fun u hu => by obtain ⟨⟨⟨k0, k1, k2, k3⟩, k4, k5, k6⟩, k7, k8, k9⟩ := hu; go_simp; try rfl)⟩) HK9.out (fun _ => trivial) ?_
              simp only [Act.put, List.setIfInBounds_toArray, List.set_cons_zero, List.set_cons_succ, List.getElem_toArray, List.getElem_cons_zero, List.getElem_cons_succ]
              refine wpAnyL_pure (i := 1) rfl (by kernel_rfl) (fun _ _ _ h => h) (Or.inl ⟨by rfl, (fun u hu => by obtain ⟨⟨⟨k0, k1, k2, k3⟩, k4, k5, k6⟩, k7, k8, k9⟩ := hu; go_simp; try rfl)⟩) HK9.out (fun _ => trivial) ?_
              simp only [Act.put, List.setIfInBounds_toArray, List.set_cons_zero, List.set_cons_succ, List.getElem_toArray, List.getElem_cons_zero, List.getElem_cons_succ]
              refine wpAnyL_pure (i := 2) rfl (by kernel_rfl) (fun _ _ _ h => h) (Or.inl ⟨by rfl, (fun u hu => by obtain ⟨⟨⟨k0, k1, k2, k3⟩, k4, k5, k6⟩, k7, k8, k9⟩ := hu; go_simp; try rfl)⟩) HK9.out (fun _ => trivial) ?_
              simp only [Act.put, List.setIfInBounds_toArray, List.set_cons_zero, List.set_cons_succ, List.getElem_toArray, List.getElem_cons_zero, List.getElem_cons_succ]
              refine wpAnyL_pure (i := 3) rfl (by kernel_rfl) (fun _ _ _ h => h) (Or.inl ⟨by rfl, (fun u hu => by obtain ⟨⟨⟨k0, k1, k2, k3⟩, k4, k5, k6⟩, k7, k8, k9⟩ := hu; go_simp; try rfl)⟩) HK9.out (fun _ => trivial) ?_
              simp only [Act.put, List.setIfInBounds_toArray, List.set_cons_zero, List.set_cons_succ, List.getElem_toArray, List.getElem_cons_zero, List.getElem_cons_succ]
              refine wpAnyL_pure (i := 4) (v := undef) rfl (by kernel_rfl) (fun _ _ _ h => h) (Or.inr ⟨by rfl, rfl⟩) HK9.out (fun _ => trivial) ?_
              simp only [Act.put, List.setIfInBounds_toArray, List.set_cons_zero, List.set_cons_succ, List.getElem_toArray, List.getElem_cons_zero, List.getElem_cons_succ]
              refine wpAnyL_pure (i := 5) (v := undef) rfl (by kernel_rfl) (fun _ _ _ h => h) (Or.inr ⟨by rfl, rfl⟩) HK9.out (fun _ => trivial) ?_
              simp only [Act.put, List.setIfInBounds_toArray, List.set_cons_zero, List.set_cons_succ, List.getElem_toArray, List.getElem_cons_zero, List.getElem_cons_succ]
              refine wpAnyL_pure (i := 6) (v := undef) rfl (by kernel_rfl) (fun _ _ _ h => h) (Or.inr ⟨by rfl, rfl⟩) HK9.out (fun _ => trivial) ?_
              simp only [Act.put, List.setIfInBounds_toArray, List.set_cons_zero, List.set_cons_succ, List.getElem_toArray, List.getElem_cons_zero, List.getElem_cons_succ]
              refine wpAnyL_pure (i := 7) (v := undef) rfl (by kernel_rfl) (fun _ _ _ h => h) (Or.inr ⟨by rfl, rfl⟩) HK9.out (fun _ => trivial) ?_
              simp only [Act.put, List.setIfInBounds_toArray, List.set_cons_zero, List.set_cons_succ, List.getElem_toArray, List.getElem_cons_zero, List.getElem_cons_succ]
              refine wpAnyL_pure (i := 8) (v := undef) rfl (by kernel_rfl) (fun _ _ _ h => h) (Or.inr ⟨by rfl, rfl⟩) HK9.out (fun _ => trivial) ?_
              simp only [Act.put, List.setIfInBounds_toArray, List.set_cons_zero, List.set_cons_succ, List.getElem_toArray, List.getElem_cons_zero, List.getElem_cons_succ]
              refine wpAnyL_pure (i := 9) (v := undef) rfl (by kernel_rfl) (fun _ _ _ h => h) (Or.inr ⟨by rfl, rfl⟩) HK9.out (fun _ => trivial) ?_
              simp only [Act.put, List.setIfInBounds_toArray, List.set_cons_zero, List.set_cons_succ, List.getElem_toArray, List.getElem_cons_zero, List.getElem_cons_succ]
              refine wpAnyL_pure (i := 10) (v := undef) rfl (by kernel_rfl) (fun _ _ _ h => h) (Or.inr ⟨by rfl, rfl⟩) HK9.out (fun _ => trivial) ?_
              simp only [Act.put, List.setIfInBounds_toArray, List.set_cons_zero, List.set_cons_succ, List.getElem_toArray, List.getElem_cons_zero, List.getElem_cons_succ]
              refine wpAnyL_pure (i := 11) rfl (by kernel_rfl) (fun _ _ _ h => h) (Or.inl ⟨by rfl, (fun u hu => by obtain ⟨⟨⟨k0, k1, k2, k3⟩, k4, k5, k6⟩, k7, k8, k9⟩ := hu; go_simp; try rfl)⟩) HK9.out (fun _ => trivial) ?_
              simp only [Act.put, List.setIfInBounds_toArray, List.set_cons_zero, List.set_cons_succ, List.getElem_toArray, List.getElem_cons_zero, List.getElem_cons_succ]
              refine wpAnyL_done (by kernel_rfl) ?_ _
              go_wp2_with fail
              go_roundg (mX - (k + 1))
              case measure => rw [HGK7.out]; omega
              case rel => exact ⟨k + 1, by omega, rfl, by go_num, by rw [HQF.out, HSA.out, List.append_nil]; exact HOW7.out.below HB9.out.drew, HRO7.out, HMID.out.trans (.below HB9.out.drew hzr), by have := HB9.out.drew.size; omega, HB7.out.trans (HB9.out.drew.mono (by omega))⟩
          · obtain rfl : mX = k := by omega
            have htk : ((pathsT x []).drop 1).take mX = (pathsT x []).tail := by rw [List.take_of_length_le (by rw [List.length_drop, HPL6.out, HMX.out]; exact Nat.le_refl _), List.drop_one]
            have hown := HOW7.out
            rw [htk, ← HSP.out, HBL.out, ← HPT.out] at hown
            have HOWF := Lib.hid hown
            clear htk hown
            --@10
            go_wp2_with fail
            go_roundg (nP - (j + 1))
            case measure => rw [HGK.out]; omega
            case rel => exact ⟨j + 1, by omega, rfl, by go_num, HOWF.out, HB7.out⟩
    · obtain rfl : nP = j := by omega
      have htk : (pathsT t []).take nP = pathsT t [] := List.take_of_length_le (by have := HPL.out; omega)
      have hsl := HOW.out.sl
      rw [htk] at hsl
      have HSL := Lib.hid hsl
      clear htk hsl
      --@9
      go_wp2_with fail
      go_ret
      refine ⟨⟨AK, ln, cK, rfl, HSL.out.more (fun b hb => by rcases hb with h | h; exact h.elim; omega)⟩, HB1.out.trans ((HB2.out.trans (HB.out.mono (by omega))).mono (by omega))⟩
end Go.Proofs.Ytfmmpmphlognlaa
