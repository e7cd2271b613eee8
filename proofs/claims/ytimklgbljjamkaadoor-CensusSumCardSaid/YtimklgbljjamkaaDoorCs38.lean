/- Bins CoreCount2 -/
import Derived.Test.YtimklgbljjamkaaDoorCs04
import Derived.Test.YtimklgbljjamkaaDoorCs05
import Derived.Test.YtimklgbljjamkaaDoorCs06
import Derived.Test.YtimklgbljjamkaaDoorCs37
namespace Go.Proofs.YtimklgbljjamkaaDoor
open Go.RowKit
section
variable {w w' : World} {base BI : Nat} {ls : List (List Int)} {vs : List Value}
theorem made_intsA (n : Nat) : madeCells #[Value.int .i64 0] n = Array.replicate n (Value.int .i64 0) := by
 apply Array.ext'
 rw [toList_madeCells_one]
 simp
end
end Go.Proofs.YtimklgbljjamkaaDoor
namespace Go.Proofs.YtimklgbljjamkaaDoor
open Go.RowKit
theorem visitAll (L : CnL) (hL : L.Ok) (m : Nat) : VisitAt L m := by
 induction m using Nat.strongRecOn with
 | ind m ih => exact visitS L hL m ih
open Classical in
noncomputable def cntK (ns : List NodeD) (root : Int) : Int :=
 if root < 0 then 0 else if Acc (fun y x => NEdge ns x y) root.toNat then (nC ns root.toNat : Int) else -1
theorem CnS.start (ns : List NodeD) : CnS ns (List.replicate ns.length 0) (List.replicate ns.length 0) := by
 refine ⟨by simp, by simp, fun i x hx => ?_, fun i hi => hi, fun i hi => ?_⟩
 ·
  rw [List.getElem?_replicate] at hx
  split at hx
  ·
   injection hx with hx; omega
  ·
   cases hx
 ·
  rw [List.getElem?_replicate] at hi
  split at hi
  ·
   injection hi with hi; omega
  ·
   cases hi
set_option linter.unusedSimpArgs false in
set_option maxRecDepth 100000 in
set_option maxHeartbeats 4000000 in
theorem coreCount (w : World) (S : Nat → Prop) (A : Option Addr) (n c : Nat) (ns : List NodeD) (root : Int) (h : Sl RNode w S A n c ns) (hn : n ≤ 1000000) (hk : NOk ns) (hp : ∀ nd ∈ ns, nd.2.2.2.length ≤ 1000000 ∧ (nd.1.1 = true → nd.2.2.2 = []) ∧ ∀ p ∈ nd.2.2.2, p.2.length ≤ 1000000) (hr : root < (n : Int)) :
    Calls Tryd.prog 29 #[.agg #[.slice A n c, .int .i64 root]] w fun e w' => e = .returned (.int .i64 (cntK ns root)) ∧ Below w.heap.size w w' := by
 obtain ⟨B0, hB0⟩ : ∃ B0, B0 = w.heap.size := ⟨_, rfl⟩
 have HB0 := Lib.hid hB0
 by_cases h0 : root < 0
 ·
  have HK := Lib.hid (show cntK ns root = 0 by unfold cntK; rw [if_pos h0])
  clear h hk hp hr
  go_enter Tryd.func29, Tryd.ntmps29
  go_wp2_with fail
  go_ret
  exact ⟨by rw [HK.out]; rfl, (Below.refl _ _).alloc (Nat.le_refl _) _⟩
 ·
  obtain ⟨rn, rfl⟩ : ∃ rn : Nat, root = (rn : Int) := ⟨root.toNat, by omega⟩
  have hrn : rn < n := by omega
  have hnl := h.len
  have hmk := fun u => tInts.make rfl n (by omega) (by omega) u
  simp only [made_intsA] at hmk
  obtain ⟨wF, hwF⟩ : ∃ wF : World, wF = w.alloc (.cells #[.slice A n c, .int .i64 (rn : Int)] 76) := ⟨_, rfl⟩
  obtain ⟨wa, hwa⟩ : ∃ wa : World, wa = wF.alloc (.cells (Array.replicate n (Value.int .i64 0)) 3) := ⟨_, rfl⟩
  obtain ⟨wb, hwb⟩ : ∃ wb : World, wb = wa.alloc (.cells #[.slice (some ⟨B0 + 1, 0, none⟩) n n] 22) := ⟨_, rfl⟩
  obtain ⟨wc, hwc⟩ : ∃ wc : World, wc = wb.alloc (.cells (Array.replicate n (Value.int .i64 0)) 3) := ⟨_, rfl⟩
  obtain ⟨wd, hwd⟩ : ∃ wd : World, wd = wc.alloc (.cells #[.slice (some ⟨B0 + 1 + 1 + 1, 0, none⟩) n n] 22) := ⟨_, rfl⟩
  obtain ⟨wf, hwf⟩ : ∃ wf : World, wf = wd.alloc (.cells #[.func (.func 49) #[] #[.pointer (some ⟨B0 + 1 + 1 + 1 + 1, 0, none⟩), .pointer (some ⟨B0, 0, none⟩), .pointer (some ⟨B0 + 1 + 1, 0, none⟩), .pointer (some ⟨B0 + 1 + 1 + 1 + 1 + 1, 0, none⟩)]] 108) := ⟨_, rfl⟩
  have zF : wF.heap.size = B0 + 1 := by rw [hwF, hB0]; simp
  have za : wa.heap.size = B0 + 1 + 1 := by rw [hwa, World.size_alloc, zF]
  have zb : wb.heap.size = B0 + 1 + 1 + 1 := by rw [hwb, World.size_alloc, za]
  have zc : wc.heap.size = B0 + 1 + 1 + 1 + 1 := by rw [hwc, World.size_alloc, zb]
  have zd : wd.heap.size = B0 + 1 + 1 + 1 + 1 + 1 := by rw [hwd, World.size_alloc, zc]
  have hbf : Below B0 w wf := by
   rw [hwf, hwd, hwc, hwb, hwa, hwF, hB0]
   exact ((((((Below.refl _ _).alloc (Nat.le_refl _) _).alloc (by simp) _).alloc (by simp; omega) _).alloc (by simp; omega) _).alloc (by simp; omega) _).alloc (by simp; omega) _
  have hX : ∀ b, b < B0 + 1 + 1 + 1 + 1 + 1 → wf.heap[b]? = wd.heap[b]? := fun b hb => by rw [hwf]; exact Below.heap_alloc _ _ _ (by omega)
  have hD : ∀ b, b < B0 + 1 + 1 + 1 + 1 → wd.heap[b]? = wc.heap[b]? := fun b hb => by rw [hwd]; exact Below.heap_alloc _ _ _ (by omega)
  have hC : ∀ b, b < B0 + 1 + 1 + 1 → wc.heap[b]? = wb.heap[b]? := fun b hb => by rw [hwc]; exact Below.heap_alloc _ _ _ (by omega)
  have hBb : ∀ b, b < B0 + 1 + 1 → wb.heap[b]? = wa.heap[b]? := fun b hb => by rw [hwb]; exact Below.heap_alloc _ _ _ (by omega)
  have hAa : ∀ b, b < B0 + 1 → wa.heap[b]? = wF.heap[b]? := fun b hb => by rw [hwa]; exact Below.heap_alloc _ _ _ (by omega)
  obtain ⟨L, hL⟩ : ∃ L : CnL, L = ⟨B0 + 1 + 1 + 1 + 1, B0, B0 + 1 + 1, B0 + 1 + 1 + 1 + 1 + 1, B0 + 1 + 1 + 1, B0 + 1, A, n, c, (rn : Int), ns, fun b => S b ∧ b < w.heap.size⟩ := ⟨_, rfl⟩
  have HLO := Lib.hid (show L.Ok by
   rw [hL]
   refine ⟨hnl, hn, hk, hp, by dsimp only; omega, by dsimp only; omega, by dsimp only; omega, by dsimp only; omega, by dsimp only; omega, fun b hb => ?_⟩
   have := hb.2
   dsimp only
   omega)
  have HIN := Lib.hid (show CnIn L wf (List.replicate ns.length 0) (List.replicate ns.length 0) by
   rw [hL]
   refine ⟨?_, ?_, ?_, ?_, ?_, ?_, h.fit.below (by rw [← hB0]; exact hbf), fun b hb => Nat.lt_of_lt_of_le hb.2 hbf.size⟩
   ·
    dsimp only
    rw [hX _ (by omega), hwd, ← zc]
    exact heap_alloc_new _ _
   ·
    dsimp only
    rw [hX _ (by omega), hD _ (by omega), hC _ (by omega), hBb _ (by omega), hAa _ (by omega), hwF, hB0]
    exact heap_alloc_new _ _
   ·
    dsimp only
    rw [hX _ (by omega), hD _ (by omega), hC _ (by omega), hwb, ← za]
    exact heap_alloc_new _ _
   ·
    dsimp only
    rw [hwf, ← zd]
    exact heap_alloc_new _ _
   ·
    dsimp only
    unfold BlI
    rw [hX _ (by omega), hD _ (by omega)]
    have h1 := BlI.made wb n
    rw [← hwc, zb, hnl] at h1
    exact h1
   ·
    dsimp only
    unfold BlI
    rw [hX _ (by omega), hD _ (by omega), hC _ (by omega), hBb _ (by omega)]
    have h1 := BlI.made wF n
    rw [← hwa, zF, hnl] at h1
    exact h1)
  have hF0 : wF.heap[B0]? = some (.cells #[.slice A n c, .int .i64 (rn : Int)] 76 (0, 0)) := by rw [hwF, hB0]; exact heap_alloc_new _ _
  have q1 : wb.cell? ⟨B0, 0, none⟩ = some (.slice A n c) := by
   have h1 := (hBb B0 (by omega)).trans ((hAa B0 (by omega)).trans hF0)
   simp [World.cell?, h1]
  have HWB := Lib.hid (show wb = ((w.alloc (.cells #[.slice A n c, .int .i64 (rn : Int)] 76)).alloc (.cells (Array.replicate n (Value.int .i64 0)) 3)).alloc (.cells #[.slice (some ⟨w.heap.size + 1, 0, none⟩) n n] 22) by rw [hwb, hwa, hwF, hB0])
  have HWF := Lib.hid (show wf = (((((w.alloc (.cells #[.slice A n c, .int .i64 (rn : Int)] 76)).alloc (.cells (Array.replicate n (Value.int .i64 0)) 3)).alloc (.cells #[.slice (some ⟨w.heap.size + 1, 0, none⟩) n n] 22)).alloc (.cells (Array.replicate n (Value.int .i64 0)) 3)).alloc (.cells #[.slice (some ⟨w.heap.size + 1 + 1 + 1, 0, none⟩) n n] 22)).alloc (.cells #[.func (.func 49) #[] #[.pointer (some ⟨w.heap.size + 1 + 1 + 1 + 1, 0, none⟩), .pointer (some ⟨w.heap.size, 0, none⟩), .pointer (some ⟨w.heap.size + 1 + 1, 0, none⟩), .pointer (some ⟨w.heap.size + 1 + 1 + 1 + 1 + 1, 0, none⟩)]] 108) by rw [hwf, hwd, hwc, hwb, hwa, hwF, hB0])
  have HBF := Lib.hid hbf
  have HLE := Lib.hid hL
  have hent := enters_visit
  rw [HWB.out, hB0] at q1
  have HNL := Lib.hid hnl
  have HKD := Lib.hid hk
  have hrn0 : ¬ (rn : Int) < 0 := by omega
  clear hnl hk hp hwF hwa hwb hwc hwd hwf zF za zb zc zd hbf hX hD hC hBb hAa hF0 hL h h0
  go_enter Tryd.func29, Tryd.ntmps29
  go_wp2_with fail
  go_at_call 49
  rw [← HWF.out, ← HB0.out]
  have hv : VisitAt L (zs (List.replicate ns.length (0 : Int))) := visitAll L HLO.out _
  have hcall := hv wf (List.replicate ns.length 0) (List.replicate ns.length 0) rn (Nat.le_refl _) (by rw [HLE.out]; exact hrn) HIN.out (by rw [HLE.out]; exact CnS.start ns) (fun i hi => by
   rw [List.getElem?_replicate] at hi
   split at hi
   ·
    injection hi with hi; omega
   ·
    cases hi)
  rw [show L.Bst = B0 + 1 + 1 + 1 + 1 by rw [HLE.out], show L.Bf = B0 by rw [HLE.out], show L.Bc = B0 + 1 + 1 by rw [HLE.out], show L.Bv = B0 + 1 + 1 + 1 + 1 + 1 by rw [HLE.out]] at hcall
  refine hcall.mono ?_
  rintro e w8 ⟨h, ho8⟩
  have HB8 := Lib.hid (show Below B0 w w8 from HBF.out.trans (ho8.below (B := B0) (fun b e => by rw [HLE.out] at e; rcases e with e | e <;> (dsimp only at e; omega)) (by have h1 := HBF.out.size; have h2 := HB0.out; omega)))
  clear hcall hv ho8 hmk q1
  rcases h with ⟨st3, ct3, rfl, hi8, hs8, hn8, ht8⟩ | ⟨rfl, hna⟩
  ·
   obtain ⟨hac, hcv⟩ := hs8.done rn ht8
   obtain ⟨_, y2, y2r, y3, _⟩ := hi8.cells
   obtain ⟨yc, _⟩ := hi8.bc.at_ hcv
   rw [show L.Bf = B0 by rw [HLE.out], show L.root = (rn : Int) by rw [HLE.out]] at y2r
   rw [show L.Bc = B0 + 1 + 1 by rw [HLE.out], show L.bc = B0 + 1 by rw [HLE.out], show L.n = n by rw [HLE.out]] at y3
   rw [show L.bc = B0 + 1 by rw [HLE.out]] at yc
   have HV := Lib.hid (show cntK ns (rn : Int) = (nC L.ns rn : Int) by
    have e : L.ns = ns := by rw [HLE.out]
    rw [e] at hac ⊢
    unfold cntK
    rw [if_neg (by omega), Int.toNat_natCast, if_pos hac])
   have hrnI : (rn : Int) < (n : Int) := by omega
   have hrn1 : (0 : Int) ≤ (rn : Int) := by omega
   clear hi8 hs8 hn8 ht8 hac hcv y2
   rw [HB0.out] at y2r y3 yc
   go_wp2_with fail
   go_ret
   exact ⟨by rw [HV.out]; rfl, by rw [← HB0.out]; exact HB8.out⟩
  ·
   have HV := Lib.hid (show cntK ns (rn : Int) = -1 by
    have e : L.ns = ns := by rw [HLE.out]
    rw [e] at hna
    unfold cntK
    rw [if_neg (by omega), Int.toNat_natCast, if_neg hna])
   clear hna
   go_wp2_with fail
   go_ret
   exact ⟨by rw [HV.out]; rfl, by rw [← HB0.out]; exact HB8.out⟩
end Go.Proofs.YtimklgbljjamkaaDoor
