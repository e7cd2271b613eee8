/- MakeDfaM -/
import Derived.Test.YtbmcoamdfpegnaaMt46
namespace Go.Proofs.Ytbmcoamdfpegnaa
open Go.RowKit
def Dist (xs : List Value) : Prop := ∀ (i j : Nat) (u v : Value) (g : Nat), i < j → xs[i]? = some u → xs[j]? = some v → rowOf u = some g → rowOf v ≠ some g
theorem Dist.nil : Dist [] := fun i j u v g _ h => by simp at h
theorem Dist.push {xs : List Value} {w : Value} (h : Dist xs) (hw : ∀ (i : Nat) (u : Value) (g : Nat), xs[i]? = some u → rowOf u = some g → rowOf w ≠ some g) : Dist (xs ++ [w]) := by
 intro i j u v g hij hu hv hg
 rcases Nat.lt_or_ge j xs.length with hj | hj
 ·
  rw [List.getElem?_append_left hj] at hv
  rw [List.getElem?_append_left (by omega)] at hu
  exact h i j u v g hij hu hv hg
 ·
  rw [List.getElem?_append_right hj] at hv
  have hj0 : j - xs.length = 0 := by
   rcases Nat.eq_zero_or_pos (j - xs.length) with h0 | h0
   ·
    exact h0
   ·
    rw [List.getElem?_eq_none (by simp; omega)] at hv; cases hv
  rw [hj0] at hv
  have e : w = v := by simpa using hv
  subst e
  rw [List.getElem?_append_left (by omega)] at hu
  exact hw i u g hu hg
def MkStM (w : World) (S : Nat → Prop) (l : List Int) (Br Bs Bd base : Nat) (s : Nat) (wr : World) : Prop :=
 ∃ vA vN xs, DfaB wr base Bd (nv l 2 (dfaN l)) ((List.range s).map (dfaAcc l)) ((List.range s).map (dfaRow l)) vA vN xs ∧ Dist xs ∧ StreamAt wr S Bs (l.drop (3 + s * (dfaC l + 1))) ∧
  wr.heap[Br]? = some (.cells #[.int .i64 0, .slice none 0 0, .slice none 0 0] 28 (0, 0)) ∧ Below w.heap.size w wr
def MkMidM (w : World) (S : Nat → Prop) (l : List Int) (Br Bs Bd base K : Nat) (s j : Nat) (v7 : Value) (wr : World) : Prop :=
 ∃ vA vN xs, DfaB wr base Bd (nv l 2 (dfaN l)) ((List.range (s + 1)).map (dfaAcc l)) ((List.range s).map (dfaRow l)) vA vN xs ∧ DfaLow K vA vN xs ∧ Dist xs ∧ Own wr K 3 1 v7 j (((List.range j).map (dfaCell l s)).map (Value.int .i64)) ∧
  StreamAt wr S Bs (l.drop (3 + s * (dfaC l + 1) + 1 + j)) ∧
  wr.heap[Br]? = some (.cells #[.int .i64 0, .slice none 0 0, .slice none 0 0] 28 (0, 0)) ∧ Below w.heap.size w wr ∧ K ≤ wr.heap.size ∧ base ≤ K
section
variable {w wr w4 : World} {S : Nat → Prop} {l : List Int} {Bd K s j : Nat} {v7 : Value}
theorem MkMidM.step (h : MkMidM w (fun b => S b ∧ b < w.heap.size) l w.heap.size (w.heap.size + 1) Bd (Bd + 1) K s j v7 wr) (hBd : w.heap.size + 2 ≤ Bd) (hj : j ≤ 1000)
    (hs4 : StreamAt w4 (fun b => S b ∧ b < w.heap.size) (w.heap.size + 1) (l.drop (3 + s * (dfaC l + 1) + 1 + j + 1))) (hg : wr.grownBy w4 (some (w.heap.size + 1))) :
    ∃ A7 c7 A2 c2 w2, v7 = .slice A7 j c7 ∧ (Builtin.append_ #[22, 22] 22 #[.slice A7 j c7, .slice (some ⟨w4.heap.size, 0, none⟩) 1 1]).run Try.prog (w4.alloc (.cells #[.int .i64 (dfaCell l s j)] 3)) = .ok (.slice A2 (j + 1) c2) w2 ∧
     MkMidM w (fun b => S b ∧ b < w.heap.size) l w.heap.size (w.heap.size + 1) Bd (Bd + 1) K s (j + 1) (.slice A2 (j + 1) c2) w2 := by
 obtain ⟨vA, vN, xs, hd, hlow, hdist, ho, hst, hbr, hb, hK, hKb⟩ := h
 have hne : ∀ k, k ≠ w.heap.size + 1 → some k ≠ some (w.heap.size + 1) := fun k h e => h (by injection e)
 have hd4 := hd.grown hg (fun g e => by injection e with e; omega)
 have ho4 := ho.kept hg (fun g e e2 => by
  injection e with e
  have := (ho.row e2).1
  omega)
 have hs := hg.size
 have hbr4 := (hg.block w.heap.size (by have := hb.size; omega) (hne _ (by omega))).trans hbr
 have hb4 : Below w.heap.size w w4 := hb.grown hg hb.size (fun k e => by injection e with e; omega)
 obtain ⟨v2, w2, hrun, ho2, hg2, _⟩ := run_append_Own tInts (w4.alloc (.cells #[.int .i64 (dfaCell l s j)] 3)) 22 K v7 j _ (ho4.alloc _) (fun _ => True) (some ⟨w4.heap.size, 0, none⟩) 1 1 [.int .i64 (dfaCell l s j)]
  (Rd.new w4 _ _ [.int .i64 (dfaCell l s j)] _ rfl trivial) (by intro u hu; obtain rfl := List.mem_singleton.1 hu; rfl) (by unfold maxLen; omega) (by omega) (by simp; omega)
 obtain ⟨A7, c7, rfl, _, _⟩ := ho.form
 obtain ⟨A2, c2, rfl, _, _⟩ := ho2.form
 have hrow : ∀ g, rowOf (.slice A7 j c7) = some g → g ≠ Bd ∧ K ≤ g := fun g e => by
  have := (ho.row e).1
  omega
 have hba : Below w.heap.size w (w4.alloc (.cells #[.int .i64 (dfaCell l s j)] 3)) := hb4.alloc hb4.size _
 have hs2 := hg2.size
 have hsw := hb.size
 simp only [World.size_alloc] at hs2
 refine ⟨A7, c7, A2, c2, w2, rfl, hrun, vA, vN, xs, (hd4.alloc _).grown2 hlow hg2 hrow, hlow, hdist, ?_, ?_, ?_, ?_, by omega, hKb⟩
 ·
  rw [range_snoc, List.map_append]
  exact ho2
 ·
  refine (hs4.alloc _).grown hg2 (fun e => ?_) (fun b hb' e => ?_)
  ·
   have := (hrow _ e).2
   omega
  ·
   have := (hrow _ e).2
   have := hb'.2
   omega
 ·
  rw [hg2.block w.heap.size (by simp; omega) (fun e => by have := (hrow _ e.symm).2; omega), Below.heap_alloc _ _ _ (by omega)]
  exact hbr4
 ·
  exact hba.grown hg2 hba.size (fun k e => by have := (hrow _ e).2; omega)
theorem MkMidM.push (h : MkMidM w (fun b => S b ∧ b < w.heap.size) l w.heap.size (w.heap.size + 1) Bd (Bd + 1) K s (dfaC l) v7 wr) (hBd : w.heap.size + 2 ≤ Bd) (hs6 : s ≤ 1000) :
    ∃ vN A2 c2 w2, wr.cell? ⟨Bd, 2, none⟩ = some vN ∧ (Builtin.append_ #[26, 26] 26 #[vN, .slice (some ⟨wr.heap.size, 0, none⟩) 1 1]).run Try.prog (wr.alloc (.cells #[v7] 22)) = .ok (.slice A2 (s + 1) c2) w2 ∧
     w2.cell? ⟨Bd, 2, none⟩ = some vN ∧ w2.frozen? ⟨Bd, 2, none⟩ = false ∧ Bd < wr.heap.size ∧
     MkStM w (fun b => S b ∧ b < w.heap.size) l w.heap.size (w.heap.size + 1) Bd (Bd + 1) (s + 1) (w2.setCell ⟨Bd, 2, none⟩ (.slice A2 (s + 1) c2)) := by
 obtain ⟨vA, vN, xs, hd, hlow, hdist, ho, hst, hbr, hb, hK, hKb⟩ := h
 have ho' : Own wr (Bd + 1) 3 1 v7 (dfaRow l s).length ((dfaRow l s).map (Value.int .i64)) := by
  have := ho.mono hKb
  simpa [dfaRow] using this
 obtain ⟨v2, w2, hrun, hc2, hf2, hd2, hb2⟩ := hd.pushN v7 (dfaRow l s) ho' (fun g e => by
  have := (ho.row e).1
  exact ⟨fun e2 => by have := hlow.1 g e2; omega, fun e2 => by have := hlow.2.1 g e2; omega⟩) (by simp; omega)
 obtain ⟨A2, c2, hv2, _, _⟩ := hd2.ownN.form
 have hl : ((List.range s).map (dfaRow l) ++ [dfaRow l s]).length = s + 1 := by simp
 rw [hl] at hv2
 subst hv2
 have hsw := hb.size
 have hs2 := hb2.size
 have hlt := hd.le
 refine ⟨vN, A2, c2, w2, hd.cellN, hrun, hc2, hf2, by omega, vA, .slice A2 (s + 1) c2, xs ++ [v7], ?_, ?_, ?_, ?_, ?_⟩
 ·
  rw [range_snoc (dfaRow l)]
  exact hd2
 ·
  exact hdist.push fun i u g hu hg e => by
   have h1 := hlow.2.2 i u g hu hg
   have h2 := (ho.row e).1
   omega
 ·
  have e : 3 + s * (dfaC l + 1) + 1 + dfaC l = 3 + (s + 1) * (dfaC l + 1) := by rw [Nat.add_mul]; omega
  rw [← e]
  have hset := set_grown (Bd := Bd) w2 2 (.slice A2 (s + 1) c2)
  have h1 : StreamAt w2 (fun b => S b ∧ b < w.heap.size) (w.heap.size + 1) (l.drop (3 + s * (dfaC l + 1) + 1 + dfaC l)) := hst.keep (.belowB hb2 (fun b hb' => by have := hb'.2; omega)) (hb2.block _ (by omega))
  exact h1.grown hset (fun e => by injection e with e; omega) (fun b hb' e => by injection e with e; have := hb'.2; omega)
 ·
  rw [Below.heap_setCell w2 ⟨Bd, 2, none⟩ _ _ (by simp; omega), hb2.block _ (by omega)]
  exact hbr
 ·
  exact (hb.trans (hb2.mono (by omega))).setCell (by simp; omega) _
theorem mkAM {vA vN : Value} {xs : List Value} {w2 : World} {v2 : Value} (hdist : Dist xs) (hBd : w.heap.size + 2 ≤ Bd) (hd : DfaB wr.drew (Bd + 1) Bd (nv l 2 (dfaN l)) ((List.range s).map (dfaAcc l)) ((List.range s).map (dfaRow l)) vA vN xs)
    (hb : Below w.heap.size w wr) (hbr : wr.heap[w.heap.size]? = some (.cells #[.int .i64 0, .slice none 0 0, .slice none 0 0] 28 (0, 0))) (hg : wr.drew.grownBy w4 (some (w.heap.size + 1)))
    (hs4 : StreamAt w4 (fun b => S b ∧ b < w.heap.size) (w.heap.size + 1) (l.drop (3 + s * (dfaC l + 1) + 1))) (hb2 : Below (Bd + 1) w4 w2)
    (hd2 : DfaB (w2.setCell ⟨Bd, 1, none⟩ v2) (Bd + 1) Bd (nv l 2 (dfaN l)) ((List.range s).map (dfaAcc l) ++ [nv l (3 + s * (dfaC l + 1)) 3 - 1]) ((List.range s).map (dfaRow l)) v2 vN xs) :
    MkMidM w (fun b => S b ∧ b < w.heap.size) l w.heap.size (w.heap.size + 1) Bd (Bd + 1) (w2.setCell ⟨Bd, 1, none⟩ v2).heap.size s 0 (.slice none 0 0) (w2.setCell ⟨Bd, 1, none⟩ v2) := by
 have hsw := hb.size
 have hsd := hd.le
 have hs := hg.size
 have hs2 := hb2.size
 have e1 : wr.drew.heap.size = wr.heap.size := rfl
 have hset := set_grown (Bd := Bd) w2 1 v2
 refine ⟨v2, vN, xs, ?_, hd2.low, hdist, Own.nil _ _ _ _ _, ?_, ?_, ?_, Nat.le_refl _, hd2.le⟩
 ·
  rw [range_snoc (dfaAcc l)]
  exact hd2
 ·
  have h1 : StreamAt w2 (fun b => S b ∧ b < w.heap.size) (w.heap.size + 1) (l.drop (3 + s * (dfaC l + 1) + 1 + 0)) := hs4.keep (.belowB hb2 (fun b hb' => by have := hb'.2; omega)) (hb2.block _ (by omega))
  exact h1.grown hset (fun e => by injection e with e; omega) (fun b hb' e => by injection e with e; have := hb'.2; omega)
 ·
  rw [Below.heap_setCell w2 ⟨Bd, 1, none⟩ _ _ (by simp; omega), hb2.block _ (by omega), hg.block _ (by omega) (fun e => by injection e with e; omega)]
  exact hbr
 ·
  have h4 : Below w.heap.size w w4 := hb.drew.grown hg (by omega) (fun k e => by injection e with e; omega)
  exact (h4.trans (hb2.mono (by omega))).setCell (by simp; omega) _
end
set_option maxRecDepth 100000 in
set_option maxHeartbeats 4000000 in
theorem makeDfaM (w : World) (A : Option Addr) (n c : Nat) (S : Nat → Prop) (l : List Int) (hr : Sl Rep.int w S A n c l) (hn : n ≤ 1000000000000000) :
    Calls Try.prog 21 #[.slice A n c] w fun e w' => ∃ Bd vA vN xs, w.heap.size ≤ Bd ∧ e = .returned (.agg #[.int .i64 (dfaOf l).1, vA, vN]) ∧ DfaB w' (Bd + 1) Bd (dfaOf l).1 (dfaOf l).2.1 (dfaOf l).2.2 vA vN xs ∧ Dist xs ∧ Below w.heap.size w w' := by
 have hN := dfaN_range l
 have hC := dfaC_range l
 have HR := Lib.hid hr.fit
 clear hr
 obtain ⟨hN1, hN2, hN3⟩ := hN
 obtain ⟨hC1, hC2, hC3⟩ := hC
 have HN3 := Lib.hid hN3
 have HC3 := Lib.hid hC3
 clear hN3 hC3
 go_enter Try.func21, Try.ntmps21
 go_wp2_with fail
 refine (streamNext _ (fun b => S b ∧ b < w.heap.size) (w.heap.size + 1) 0 6 l (streamStart _ _ A n c _ _ l (HR.out.alloc _) hn (by simp)) (fun h => by have := h.2; omega) (by omega) (by omega)).mono ?_
 rintro e w1 ⟨rfl, hs1, hg1⟩
 have HS1 := Lib.hid hs1
 have HG1 := Lib.hid hg1
 clear hs1 hg1
 have hb1 := nv_range l 0 6 (by omega)
 have hb2 := nv_range l 1 3 (by omega)
 go_wp2_with fail
 refine (streamNext _ (fun b => S b ∧ b < w.heap.size) (w.heap.size + 1) 1 3 l HS1.out (fun h => by have := h.2; omega) (by omega) (by omega)).mono ?_
 rintro e w2 ⟨rfl, hs2, hg2⟩
 have HS2 := Lib.hid hs2
 have HG2 := Lib.hid hg2
 clear hs2 hg2
 go_wp2_with fail
 rw [← HN3.out, ← HC3.out]
 refine (streamNext _ (fun b => S b ∧ b < w.heap.size) (w.heap.size + 1) 2 (dfaN l) l HS2.out (fun h => by have := h.2; omega) (by omega) (by omega)).mono ?_
 rintro e w3 ⟨rfl, hs3, hg3⟩
 have hW : (w.alloc (.cells #[.int .i64 0, .slice none 0 0, .slice none 0 0] 28)).heap.size = w.heap.size + 1 := by simp
 have hgall : ∀ k, k < w.heap.size + 1 → w3.heap[k]? = (w.alloc (.cells #[.int .i64 0, .slice none 0 0, .slice none 0 0] 28)).heap[k]? := by
  intro k hk
  have hne : some k ≠ some (w.heap.size + 1) := fun e => by injection e with e; omega
  have s1 := HG1.out.size
  have s2 := HG2.out.size
  simp only [World.size_alloc] at s1
  rw [hg3.block k (by omega) hne, HG2.out.block k (by omega) hne, HG1.out.block k (by simp; omega) hne]
  exact Below.heap_alloc _ _ k (by rw [hW]; exact hk)
 have hsz3 : w.heap.size + 2 ≤ w3.heap.size := by
  have s1 := HG1.out.size
  have s2 := HG2.out.size
  have s3 := hg3.size
  simp only [World.size_alloc] at s1
  omega
 have hb3 : Below w.heap.size w w3 := by
  refine ⟨?_, ?_, ?_, by omega, fun k hk => ?_⟩
  ·
   rw [hg3.os, HG2.out.os, HG1.out.os]; rfl
  ·
   rw [hg3.tape, HG2.out.tape, HG1.out.tape]; rfl
  ·
   rw [hg3.output, HG2.out.output, HG1.out.output]; rfl
  ·
   rw [hgall k (by omega)]
   exact Below.heap_alloc _ _ k hk
 have hst0 : MkStM w (fun b => S b ∧ b < w.heap.size) l w.heap.size (w.heap.size + 1) w3.heap.size (w3.heap.size + 1) 0 (w3.alloc (.cells #[.int .i64 (nv l 2 (dfaN l)), .slice none 0 0, .slice none 0 0] 28)) := by
  refine ⟨_, _, _, DfaB.start_ w3 _, Dist.nil, by simpa using hs3.alloc _, ?_, hb3.alloc hb3.size _⟩
  rw [Below.heap_alloc _ _ _ (by omega), hgall _ (by omega)]
  exact heap_alloc_new w _
 have HST0 := Lib.hid hst0
 have hBd : w.heap.size + 2 ≤ w3.heap.size := hsz3
 clear hst0 hb3 hgall hsz3 hs3 hg3 hW
 go_wp2_with fail
 obtain ⟨Bd, hBdd⟩ : ∃ Bd, Bd = w3.heap.size := ⟨_, rfl⟩
 rw [← hBdd] at HST0 hBd ⊢
 go_loopg [22] (dfaN l) (fun k i wr => ∃ s : Nat, s ≤ dfaN l ∧ k = dfaN l - s ∧ i = .int .i64 s ∧ MkStM w (fun b => S b ∧ b < w.heap.size) l w.heap.size (w.heap.size + 1) Bd (Bd + 1) s wr)
 case atStart => exact ⟨0, Nat.zero_le _, rfl, rfl, HST0.out⟩
 case round =>
  obtain ⟨s, hs, hgk, rfl, vA, vN, xs, hd, hdi, hst, hbr, hb⟩ := hrel
  have HDI := Lib.hid hdi
  clear hdi
  clear hBdd HST0 HS1 HG1 HS2 HG2
  have HGK := Lib.hid hgk
  have HD := Lib.hid hd
  have HSTR := Lib.hid hst
  have HBR := Lib.hid hbr
  have HB := Lib.hid hb
  clear hst hbr hb hgk
  by_cases hlt : s < dfaN l
  ·
   have hcA := hd.cellA
   have hfA := hd.fr 1
   clear hd
   have hx3 := nv_range l (3 + s * (dfaC l + 1)) 3 (by omega)
   go_upto_region 6 with fail
   have hwrap : IntKind.i64.wrap (nv l (3 + s * (dfaC l + 1)) 3 - 1) = nv l (3 + s * (dfaC l + 1)) 3 - 1 := IntWalk.i64_in _ (by omega)
   go_cut [22] from 22 to 50 (fun i wx => i = .int .i64 s ∧ MkMidM w (fun b => S b ∧ b < w.heap.size) l w.heap.size (w.heap.size + 1) Bd (Bd + 1) wx.heap.size s 0 (.slice none 0 0) wx)
   case first =>
    go_region_law (first
        | (go_simp; go_at_call 28; refine (streamNext _ (fun b => S b ∧ b < w.heap.size) (w.heap.size + 1) (3 + s * (dfaC l + 1)) 3 l (by exact HSTR.out.keep (.drew _ _) rfl) (fun h => by have := h.2; omega) (by omega) (by omega)).mono ?_; rintro e w4 ⟨rfl, hs4, hg4⟩; have HS4 := Lib.hid hs4; have HD1 := Lib.hid (HD.out.drew.grown hg4 (fun g e => by injection e with e; omega)); obtain ⟨v2, w2, hrun, hc2, hf2, hd2, hb2⟩ := HD1.out.pushA (nv l (3 + s * (dfaC l + 1)) 3 - 1) (by simp; omega); obtain ⟨Ax, cx, hvx, _, _⟩ := hd2.ownA.form; subst hvx; have HRUN := Lib.hid hrun; have HD2 := Lib.hid hd2; have HB2 := Lib.hid hb2; have HG4 := Lib.hid hg4; have hc4 := HD1.out.cellA; have hlt4 : Bd < w4.heap.size := cell_lt hc4; clear hs4 hg4 hrun hd2 hb2)
        | (refine step_append_run _ (by rfl) _ _ _ _ (by rfl) _ _ (by rfl) (by rfl) _ _ HRUN.out ?_))
    all_goals (go_wp2_with fail; go_meet; refine ⟨rfl, mkAM HDI.out hBd HD.out.drew HB.out HBR.out HG4.out HS4.out HB2.out (by have h := HD2.out; simp only [List.length_append, List.length_map, List.length_range, List.length_cons, List.length_nil] at h; exact h)⟩)
   case rest =>
    obtain ⟨rfl, hmid⟩ := hcut
    clear hwrap hcA hfA HSTR HD HBR HB
    have HMID := Lib.hid hmid
    clear hmid
    go_wp2_with fail
    go_loopg [7, 33] (dfaC l) (fun k v i wi => ∃ j : Nat, j ≤ dfaC l ∧ k = dfaC l - j ∧ i = .int .i64 j ∧ MkMidM w (fun b => S b ∧ b < w.heap.size) l w.heap.size (w.heap.size + 1) Bd (Bd + 1) wc.heap.size s j v wi)
    case atStart => exact ⟨0, Nat.zero_le _, rfl, rfl, HMID.out⟩
    case round =>
     obtain ⟨j, hj, hgk, rfl, hmj⟩ := hrel
     have HGJ := Lib.hid hgk
     clear hgk HMID
     by_cases hjl : j < dfaC l
     ·
      obtain ⟨vA', vN', xs', _, _, _, hoj, hsj, _⟩ := id hmj
      obtain ⟨A7, c7, rfl, _, _⟩ := hoj.form
      have HSJ := Lib.hid hsj
      have HMJ := Lib.hid hmj
      clear hsj hmj hoj
      have hx := nv_range l (3 + s * (dfaC l + 1) + 1 + j) ((dfaN l : Int) + 1) (by omega)
      go_wp2_with fail
      refine (streamNext _ (fun b => S b ∧ b < w.heap.size) (w.heap.size + 1) (3 + s * (dfaC l + 1) + 1 + j) ((dfaN l : Int) + 1) l HSJ.out (fun h => by have := h.2; omega) (by omega) (by omega)).mono ?_
      rintro e w4 ⟨rfl, hs4, hg4⟩
      obtain ⟨A7', c7', A2, c2, w2, e7, hrun, hm2⟩ := HMJ.out.step hBd (by omega) hs4 hg4
      injection e7 with e71 e72 e73
      subst e71 e73
      unfold dfaCell at hrun
      have HRUN := Lib.hid hrun
      have HM2 := Lib.hid hm2
      clear hrun hm2 hs4 hg4
      go_wp2_with (at_builtin; refine Lib.wpList_append_run (o := ⟨some 42, _, _, _, _, _⟩) _ rfl _ _ _ _ rfl _ _ rfl rfl _ _ HRUN.out ?_)
      go_roundg (dfaC l - (j + 1))
      case measure => rw [HGJ.out]; omega
      case rel => exact ⟨j + 1, by omega, rfl, by go_num, HM2.out⟩
     ·
      obtain rfl : j = dfaC l := by omega
      obtain ⟨vA', vN', xs', _, _, _, hoj, _, _⟩ := id hmj
      obtain ⟨A7, c7, rfl, _, _⟩ := hoj.form
      obtain ⟨vN, A2, c2, w2, hcN, hrun, hcN2, hfN2, hltB, hst2⟩ := MkMidM.push hmj hBd (by omega)
      have HRUN := Lib.hid hrun
      have HST2 := Lib.hid hst2
      clear hrun hst2 hmj hoj
      go_wp2_with (at_builtin; refine Lib.wpList_append_run (o := ⟨some 48, _, _, _, _, _⟩) _ rfl _ _ _ _ rfl _ _ rfl rfl _ _ HRUN.out ?_)
      go_roundg (dfaN l - (s + 1))
      case measure => rw [HGK.out]; omega
      case rel => exact ⟨s + 1, by omega, rfl, by go_num, HST2.out⟩
  ·
   obtain rfl : s = dfaN l := by omega
   have hbrc : wr.cell? ⟨w.heap.size, 0, none⟩ = some (.int .i64 0) ∧ wr.cell? ⟨w.heap.size, 1, none⟩ = some (.slice none 0 0) ∧ wr.cell? ⟨w.heap.size, 2, none⟩ = some (.slice none 0 0) := by simp [World.cell?, HBR.out]
   have hc0 := hd.cellS
   have hc1 := hd.cellA
   have hc2 := hd.cellN
   obtain ⟨hr0, hr1, hr2⟩ := hbrc
   have hf0 : wr.frozen? ⟨w.heap.size, 0, none⟩ = false := by simp [World.frozen?, HBR.out]
   have hf1 : wr.frozen? ⟨w.heap.size, 1, none⟩ = false := by simp [World.frozen?, HBR.out]
   have hf2 : wr.frozen? ⟨w.heap.size, 2, none⟩ = false := by simp [World.frozen?, HBR.out]
   obtain ⟨A1, c1, rfl, _, _⟩ := hd.ownA.form
   obtain ⟨A3, c3, rfl, _, _⟩ := hd.ownN.form
   simp only [List.length_map, List.length_range] at hc1 hc2
   clear hd
   go_wp2_with fail
   refine bodyPost_ret (v := .agg #[.int .i64 (nv l 2 (dfaN l)), .slice A1 (dfaN l) c1, .slice A3 (dfaN l) c3]) (by simp [results, Try.results21, go_sem, hr0, hr1, hr2]) rfl ?_
   have h := HD.out
   simp only [List.length_map, List.length_range] at h
   have hset : ∀ (u : World) (i : Nat) (v : Value), u.grownBy (u.setCell ⟨w.heap.size, i, none⟩ v) (some w.heap.size) := fun u i v => set_grown u i v
   have hne : ∀ g, some w.heap.size = some g → g ≠ Bd ∧ g < Bd + 1 := fun g e => by injection e with e; omega
   exact ⟨Bd, _, _, xs, by omega, rfl, ((h.grown (hset _ _ _) hne).grown (hset _ _ _) hne).grown (hset _ _ _) hne, HDI.out, ((HB.out.setCell (Nat.le_refl _) _).setCell (Nat.le_refl _) _).setCell (Nat.le_refl _) _⟩
end Go.Proofs.Ytbmcoamdfpegnaa
