/- learner.split's closure: whether a word's end says the same behind the state that its beginning leads to. -/
import Derived.Test.YtgaahpddlohjoaaLearnRow
import Derived.Test.YtgaahpddlohjoaaLate
import Derived.Test.YtgaahpddlohjoaaDfaCheck
namespace Go.Proofs.Ytgaahpddlohjoaa
open Go.RowKit Go.Maps

/-- a cell that no question turns -/
def Cls (L : LCtx) (w : World) (p : Addr) (v : Value) : Prop := w.cell? p = some v ∧ L.B0 ≤ p.block ∧ p.block ≠ L.BK
theorem Cls.only {L : LCtx} {w u : World} {p : Addr} {v : Value} (h : Cls L w p v) (ho : Only w u (fun b => b < L.B0 ∨ b = L.BK)) : Cls L u p v :=
  ⟨(World.cell?_of_block (ho.block p.block (cell_lt h.1) (by have := h.2; omega))).trans h.1, h.2⟩
theorem Only.keptS {L : LCtx} {w u : World} (ho : Only w u (fun b => b < L.B0 ∨ b = L.BK)) {S : Nat → Prop} (hS : ∀ b, S b → L.B0 ≤ b ∧ b ≠ L.BK) : Kept S w u := ho.kept fun b hb => by have := hS b hb; omega
theorem Sl.dropInt {w : World} {S : Nat → Prop} {A : Option Addr} {n c : Nat} {l : List Int} (h : Sl Rep.int w S A n c l) (k : Nat) (hk : k ≤ n) :
    ∃ A', (∀ u, (Instr.slice 22 (.slice A n c) (some (.int .i64 (k : Int))) none none).run Try.prog u = .ok (.slice A' (n - k) (c - k)) u) ∧ Sl Rep.int w S A' (n - k) (c - k) (l.drop k) := by
  obtain ⟨A', h1, h2⟩ := tInts.cutl (c := c) h.ints (k : Int) (by omega) (by omega) h.cap
  rw [Int.toNat_natCast] at h1 h2
  rw [Nat.mul_one, ← List.map_drop] at h2
  exact ⟨A', h1, h2.slInts (by have := h.cap; omega)⟩
theorem entersSame : ∀ (args : Array Value) (u : World), (callFunc 86 args).run Try.prog u = .ok (.enter 86 args) u := enters_of Try.func86 (by kernel_rfl) rfl
set_option linter.unusedSimpArgs false in
set_option maxRecDepth 1000000 in
set_option maxHeartbeats 4000000 in
theorem learnSame (L : LCtx) (hL : L.Ok) (w : World) (FL : Nat → Prop) (ws : List (List Int)) (q : Nat) (vA vT vR : Value) (access tests : List (List Int)) (h : LSt L w FL ws q vA vT vR access tests)
    (Bl Bs Bw Br : Nat) (AS : Option Addr) (ns cs : Nat) (Aw : Option Addr) (nw cw : Nat) (x sts : List Int) (SS SW : Nat → Prop) (hl : Cls L w ⟨Bl, 0, none⟩ (.pointer (some ⟨L.BL, 0, none⟩))) (hs : Cls L w ⟨Bs, 0, none⟩ (.slice AS ns cs)) (hw : Cls L w ⟨Bw, 0, none⟩ (.slice Aw nw cw)) (hr : Cls L w ⟨Br, 0, none⟩ (.bool (L.acc x)))
    (hst : Sl Rep.int w SS AS ns cs sts) (hSS : ∀ b, SS b → L.B0 ≤ b ∧ b ≠ L.BK) (hx : Sl Rep.int w SW Aw nw cw x) (hxl : x.length ≤ 1000) (hwo : WOkT L.T x)
    (i k : Nat) (u : List Int) (hi : i < ns) (hin : i ≤ nw) (hk : sts[i]? = some (k : Int)) (hu : access[k]? = some u) (huo : WOkT L.T u) (hul : u.length ≤ 1000) (hws : ws.length ≤ 100000000) :
    Calls Try.prog 86 #[.int .i64 (i : Int), .pointer (some ⟨Bl, 0, none⟩), .pointer (some ⟨Bs, 0, none⟩), .pointer (some ⟨Bw, 0, none⟩), .pointer (some ⟨Br, 0, none⟩)] w fun e w' => e = .returned (.bool (L.acc (u ++ x.drop i) == L.acc x)) ∧ MemPost L w FL ws q vA vT vR access tests 1 w' := by
  obtain ⟨AA, cA, rfl, hcA⟩ := h.formA
  have hka : k < access.length := (List.getElem?_eq_some_iff.1 hu).1
  obtain ⟨bN, oN, AR, mR, cR, u', hAe, hcR, hu', hsu⟩ := h.wordA hka
  subst hAe
  rw [hu] at hu'
  injection hu' with hu'
  subst hu'
  obtain ⟨bS, oS, s, hSe, hSb, hs2, hcs⟩ := hst.ints.int_at hi
  subst hSe
  rw [hk] at hs2
  injection hs2 with hs2
  subst hs2
  obtain ⟨na, hna⟩ : ∃ na, na = access.length := ⟨_, rfl⟩
  rw [← hna] at hka hcA h hsu
  have hbN : L.B0 ≤ bN ∧ bN ≠ L.BK := by
    obtain ⟨b, off, _, _, e, hb, _⟩ := h.slA.at_ rfl (k := k) (by omega)
    injection e with e
    injection e with e
    subst e
    exact ⟨h.fl _ hb.1, hb.2.2⟩
  have hbox : Cls L w ⟨L.BL, 3, none⟩ (.slice (some ⟨bN, oN, none⟩) na cA) := ⟨h.cells.2.2.2.1, hL.bl, hL.ne⟩
  have hcR' : Cls L w ⟨bN, oN + k, none⟩ (.slice AR mR cR) := ⟨hcR, hbN⟩
  have hcs' : Cls L w ⟨bS, oS + i, none⟩ (.int .i64 (k : Int)) := ⟨hcs, hSS bS hSb⟩
  have HALL := Lib.hid (show ∀ z : World, Only w z (fun b => b < L.B0 ∨ b = L.BK) → z.cell? ⟨Bl, 0, none⟩ = some (.pointer (some ⟨L.BL, 0, none⟩)) ∧ z.cell? ⟨L.BL, 3, none⟩ = some (.slice (some ⟨bN, oN, none⟩) na cA) ∧ z.cell? ⟨Bs, 0, none⟩ = some (.slice (some ⟨bS, oS, none⟩) ns cs) ∧ z.cell? ⟨bS, oS + i, none⟩ = some (.int .i64 (k : Int)) ∧ z.cell? ⟨bN, oN + k, none⟩ = some (.slice AR mR cR) ∧ z.cell? ⟨Bw, 0, none⟩ = some (.slice Aw nw cw) ∧ z.cell? ⟨Br, 0, none⟩ = some (.bool (L.acc x)) from fun z hz =>
    ⟨(hl.only hz).1, (hbox.only hz).1, (hs.only hz).1, (hcs'.only hz).1, (hcR'.only hz).1, (hw.only hz).1, (hr.only hz).1⟩)
  obtain ⟨A2, hcut, hsl2⟩ := hx.dropInt i hin
  have HSU := Lib.hid hsu
  have HSL2 := Lib.hid hsl2
  have HST := Lib.hid h
  have HL := Lib.hid hL
  have HWO := Lib.hid (show WOkT L.T (u ++ x.drop i) from huo.app (hwo.drop i))
  have HLN := Lib.hid (show (u ++ x.drop i).length ≤ 2000 by rw [List.length_append, List.length_drop]; omega)
  have hmR : mR ≤ 1000 := by have := hsu.len; omega
  have hnw : nw - i ≤ 1000 := by have := hsl2.len; rw [List.length_drop] at this; omega
  have hnw2 : nw ≤ 1000 := by have := hx.len; omega
  have HS0 := Lib.hid (HALL.out w.drew (Only.drew w _))
  have hi0 : (0 : Int) ≤ (i : Int) := by omega
  have hi1 : (i : Int) < (ns : Int) := by omega
  have hk0 : (0 : Int) ≤ (k : Int) := by omega
  have hk1 : (k : Int) < (na : Int) := by omega
  have HNA := Lib.hid hna
  clear h hL hl hs hw hr hst hSS hx hwo hk hu huo hsu hSb hcs hcR hbN hbox hcR' hcs' hsl2 hna hxl hul
  go_enter Try.func86, Try.ntmps86
  go_wp2_with fail
  refine wp_region_late (late := []) (S1 := fun z => z.cell? ⟨Bl, 0, none⟩ = some (.pointer (some ⟨L.BL, 0, none⟩)) ∧ z.cell? ⟨L.BL, 3, none⟩ = some (.slice (some ⟨bN, oN, none⟩) na cA) ∧ z.cell? ⟨Bs, 0, none⟩ = some (.slice (some ⟨bS, oS, none⟩) ns cs) ∧ z.cell? ⟨bS, oS + i, none⟩ = some (.int .i64 (k : Int)) ∧ z.cell? ⟨bN, oN + k, none⟩ = some (.slice AR mR cR) ∧ z.cell? ⟨Bw, 0, none⟩ = some (.slice Aw nw cw) ∧ z.cell? ⟨Br, 0, none⟩ = some (.bool (L.acc x))) (S := fun _ => True) (by kernel_rfl) ?_
  refine wpAnyL_pure (i := 0) rfl (by kernel_rfl) (fun _ _ _ h => h) (Or.inl ⟨by rfl, (fun u hu => by obtain ⟨k0, k1, k2, k3, k4, k5, k6⟩ := hu; go_simp; try rfl)⟩) HS0.out (fun _ => trivial) ?_
  simp only [Act.put, List.setIfInBounds_toArray, List.set_cons_zero, List.set_cons_succ, List.getElem_toArray, List.getElem_cons_zero, List.getElem_cons_succ]
  refine wpAnyL_pure (i := 1) rfl (by kernel_rfl) (fun _ _ _ h => h) (Or.inl ⟨by rfl, (fun u hu => by obtain ⟨k0, k1, k2, k3, k4, k5, k6⟩ := hu; go_simp; try rfl)⟩) HS0.out (fun _ => trivial) ?_
  simp only [Act.put, List.setIfInBounds_toArray, List.set_cons_zero, List.set_cons_succ, List.getElem_toArray, List.getElem_cons_zero, List.getElem_cons_succ]
  refine wpAnyL_pure (i := 2) rfl (by kernel_rfl) (fun _ _ _ h => h) (Or.inl ⟨by rfl, (fun u hu => by obtain ⟨k0, k1, k2, k3, k4, k5, k6⟩ := hu; go_simp; try rfl)⟩) HS0.out (fun _ => trivial) ?_
  simp only [Act.put, List.setIfInBounds_toArray, List.set_cons_zero, List.set_cons_succ, List.getElem_toArray, List.getElem_cons_zero, List.getElem_cons_succ]
  refine wpAnyL_pure (i := 3) rfl (by kernel_rfl) (fun _ _ _ h => h) (Or.inl ⟨by rfl, (fun u hu => by obtain ⟨k0, k1, k2, k3, k4, k5, k6⟩ := hu; go_simp; try rfl)⟩) HS0.out (fun _ => trivial) ?_
  simp only [Act.put, List.setIfInBounds_toArray, List.set_cons_zero, List.set_cons_succ, List.getElem_toArray, List.getElem_cons_zero, List.getElem_cons_succ]
  refine wpAnyL_pure (i := 4) rfl (by kernel_rfl) (fun _ _ _ h => h) (Or.inl ⟨by rfl, (fun u hu => by obtain ⟨k0, k1, k2, k3, k4, k5, k6⟩ := hu; go_simp; try rfl)⟩) HS0.out (fun _ => trivial) ?_
  simp only [Act.put, List.setIfInBounds_toArray, List.set_cons_zero, List.set_cons_succ, List.getElem_toArray, List.getElem_cons_zero, List.getElem_cons_succ]
  refine wpAnyL_pure (i := 5) rfl (by kernel_rfl) (fun _ _ _ h => h) (Or.inl ⟨by rfl, (fun u hu => by obtain ⟨k0, k1, k2, k3, k4, k5, k6⟩ := hu; go_simp; try rfl)⟩) HS0.out (fun _ => trivial) ?_
  simp only [Act.put, List.setIfInBounds_toArray, List.set_cons_zero, List.set_cons_succ, List.getElem_toArray, List.getElem_cons_zero, List.getElem_cons_succ]
  refine wpAnyL_pure (i := 6) rfl (by kernel_rfl) (fun _ _ _ h => h) (Or.inl ⟨by rfl, (fun u hu => by obtain ⟨k0, k1, k2, k3, k4, k5, k6⟩ := hu; go_simp; try rfl)⟩) HS0.out (fun _ => trivial) ?_
  simp only [Act.put, List.setIfInBounds_toArray, List.set_cons_zero, List.set_cons_succ, List.getElem_toArray, List.getElem_cons_zero, List.getElem_cons_succ]
  refine wpAnyL_pure (i := 7) rfl (by kernel_rfl) (fun _ _ _ h => h) (Or.inl ⟨by rfl, (fun u hu => by obtain ⟨k0, k1, k2, k3, k4, k5, k6⟩ := hu; go_simp; try rfl)⟩) HS0.out (fun _ => trivial) ?_
  simp only [Act.put, List.setIfInBounds_toArray, List.set_cons_zero, List.set_cons_succ, List.getElem_toArray, List.getElem_cons_zero, List.getElem_cons_succ]
  refine wpAnyL_pure (i := 8) rfl (by kernel_rfl) (fun _ _ _ h => h) (Or.inl ⟨by rfl, (fun u hu => by obtain ⟨k0, k1, k2, k3, k4, k5, k6⟩ := hu; go_simp; try rfl)⟩) HS0.out (fun _ => trivial) ?_
  simp only [Act.put, List.setIfInBounds_toArray, List.set_cons_zero, List.set_cons_succ, List.getElem_toArray, List.getElem_cons_zero, List.getElem_cons_succ]
  refine wpAnyL_pure (i := 9) rfl (by kernel_rfl) (fun _ _ _ h => h) (Or.inl ⟨by rfl, (fun u hu => by obtain ⟨k0, k1, k2, k3, k4, k5, k6⟩ := hu; go_simp; try rfl)⟩) HS0.out (fun _ => trivial) ?_
  simp only [Act.put, List.setIfInBounds_toArray, List.set_cons_zero, List.set_cons_succ, List.getElem_toArray, List.getElem_cons_zero, List.getElem_cons_succ]
  refine wpAnyL_pure (i := 10) rfl (by kernel_rfl) (fun _ _ _ h => h) (Or.inl ⟨by rfl, (fun u hu => by obtain ⟨k0, k1, k2, k3, k4, k5, k6⟩ := hu; go_simp; try rfl)⟩) HS0.out (fun _ => trivial) ?_
  simp only [Act.put, List.setIfInBounds_toArray, List.set_cons_zero, List.set_cons_succ, List.getElem_toArray, List.getElem_cons_zero, List.getElem_cons_succ]
  refine wpAnyL_pure (i := 11) rfl (by kernel_rfl) (fun _ _ _ h => h) (Or.inl ⟨by rfl, (fun u hu => by obtain ⟨k0, k1, k2, k3, k4, k5, k6⟩ := hu; go_simp; try rfl)⟩) HS0.out (fun _ => trivial) ?_
  simp only [Act.put, List.setIfInBounds_toArray, List.set_cons_zero, List.set_cons_succ, List.getElem_toArray, List.getElem_cons_zero, List.getElem_cons_succ]
  refine wpAnyL_pure (i := 12) rfl (by kernel_rfl) (fun _ _ _ h => h) (Or.inl ⟨by rfl, (fun u hu => by obtain ⟨k0, k1, k2, k3, k4, k5, k6⟩ := hu; go_simp; try rfl)⟩) HS0.out (fun _ => trivial) ?_
  simp only [Act.put, List.setIfInBounds_toArray, List.set_cons_zero, List.set_cons_succ, List.getElem_toArray, List.getElem_cons_zero, List.getElem_cons_succ]
  refine wpAnyL_pure (i := 13) rfl (by kernel_rfl) (fun _ _ _ h => h) (Or.inl ⟨by rfl, (fun u hu => by obtain ⟨k0, k1, k2, k3, k4, k5, k6⟩ := hu; go_simp; try rfl)⟩) HS0.out (fun _ => trivial) ?_
  simp only [Act.put, List.setIfInBounds_toArray, List.set_cons_zero, List.set_cons_succ, List.getElem_toArray, List.getElem_cons_zero, List.getElem_cons_succ]
  refine wpAnyL_pure (i := 17) rfl (by kernel_rfl) (fun _ _ _ h => h) (Or.inl ⟨by rfl, (fun u hu => by obtain ⟨k0, k1, k2, k3, k4, k5, k6⟩ := hu; go_simp; try rfl)⟩) HS0.out (fun _ => trivial) ?_
  simp only [Act.put, List.setIfInBounds_toArray, List.set_cons_zero, List.set_cons_succ, List.getElem_toArray, List.getElem_cons_zero, List.getElem_cons_succ]
  refine wpAnyL_ready (rs := [14]) (by kernel_rfl) (by simp) ?_
  refine AllL.cons rfl (fun K hK => ?_) ?_
  · go_simp
    refine hK.out _ _ (HALL.out _ ((Only.drew w _).trans (Only.alloc _ _ _))) (fun _ => trivial) ?_
    clear hK K
    refine wpAnyL_ready (rs := [15]) (by kernel_rfl) (by simp) ?_
    refine AllL.cons rfl (fun K hK => ?_) ?_
    · go_simp
      refine (concat2 w.drew _ _ AR A2 mR cR (nw - i) (cw - i) u (x.drop i) HSU.out.drew HSL2.out.drew (by omega) (by omega)).mono ?_
      rintro e w2 ⟨A3, c3, rfl, hsl3, hb3⟩
      have HSL3 := Lib.hid hsl3
      have HST3 := Lib.hid ((HST.out.drew HL.out).below HL.out hb3)
      have HO3 := Lib.hid (show Only w w2 (fun b => b < L.B0 ∨ b = L.BK) from (Only.drew w _).trans (Only.of_below hb3 (Nat.le_refl _) _))
      have HS2 := Lib.hid (HALL.out _ HO3.out)
      clear hsl3 hb3
      refine hK.out _ _ HS2.out (fun _ => trivial) ?_
      clear hK K
      refine wpAnyL_ready (rs := [16]) (by kernel_rfl) (by simp) ?_
      refine AllL.cons rfl (fun K hK => ?_) ?_
      · go_simp
        refine (learnMember L HL.out w2 FL ws q _ vT vR access tests HST3.out _ A3 (mR + (nw - i)) c3 (u ++ x.drop i) HSL3.out HWO.out HLN.out hws).mono ?_
        rintro e w4 ⟨rfl, hmp4⟩
        have HMP := Lib.hid (MemPost.more hmp4 HO3.out (Nat.le_refl _))
        obtain ⟨_, _, _, ho4⟩ := hmp4
        have HS4 := Lib.hid (HALL.out _ (HO3.out.trans ho4))
        clear ho4
        refine hK.out _ _ HS4.out (fun _ => trivial) ?_
        clear hK K
        refine wpAnyL_pure (i := 18) rfl (by kernel_rfl) (fun _ _ _ h => h) (Or.inl ⟨by rfl, (fun u hu => by obtain ⟨k0, k1, k2, k3, k4, k5, k6⟩ := hu; go_simp; try rfl)⟩) HS4.out (fun _ => trivial) ?_
        simp only [Act.put, List.setIfInBounds_toArray, List.set_cons_zero, List.set_cons_succ, List.getElem_toArray, List.getElem_cons_zero, List.getElem_cons_succ]
        refine wpAnyL_pure (i := 19) rfl (by kernel_rfl) (fun _ _ _ h => h) (Or.inl ⟨by rfl, (fun u hu => by obtain ⟨k0, k1, k2, k3, k4, k5, k6⟩ := hu; go_simp; try rfl)⟩) HS4.out (fun _ => trivial) ?_
        simp only [Act.put, List.setIfInBounds_toArray, List.set_cons_zero, List.set_cons_succ, List.getElem_toArray, List.getElem_cons_zero, List.getElem_cons_succ]
        refine wpAnyL_done (by kernel_rfl) ?_ _
        go_wp2_with fail
        go_ret
        exact ⟨rfl, by rw [← HNA.out]; exact HMP.out⟩
      exact AllL.nil
    exact AllL.nil
  exact AllL.nil
end Go.Proofs.Ytgaahpddlohjoaa
