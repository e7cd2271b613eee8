/- Bins CoreCount2 BdP -/
import Derived.Test.YtjnbjdbndbbanaaGreatDoorTc23
import Derived.Test.YtjnbjdbndbbanaaGreatDoorTc25
namespace Go.Proofs.YtjnbjdbndbbanaaGreatDoor
open Go.RowKit
section
variable {w w' : World} {base BI : Nat} {ls : List (List Int)} {vs : List Value}
theorem made_rows (n : Nat) : madeCells #[Value.slice none 0 0] n = (List.replicate n (Value.slice none 0 0)).toArray := by
 apply Array.ext'
 rw [toList_madeCells_one]
theorem made_intsA (n : Nat) : madeCells #[Value.int .i64 0] n = Array.replicate n (Value.int .i64 0) := by
 apply Array.ext'
 rw [toList_madeCells_one]
 simp
end
theorem visitAll (L : CnL) (hL : L.Ok) (m : Nat) : VisitAt L m := by
 induction m using Nat.strongRecOn with
 | ind m ih => exact visitS L hL m ih
open Classical in
noncomputable def cntK (ns : List NodeD) (root : Int) : Int :=
 if root < 0 then 0 else if Acc (fun y x => NEdge ns x y) root.toNat then (nC ns root.toNat : Int) else -1
theorem CnS.start (ns : List NodeD) : CnS ns (List.replicate ns.length 0) (List.replicate ns.length 0) := by
 refine ⟨by simp, by simp, fun i x hx => ?_, fun i hi => hi, fun i hi => ?_⟩
 ·
  rw [List.getElem?_replicate] at hx
  split at hx
  · injection hx with hx; omega
  cases hx
 rw [List.getElem?_replicate] at hi
 split at hi
 · injection hi with hi; omega
 cases hi
set_option linter.unusedSimpArgs false in
set_option maxRecDepth 100000 in
set_option maxHeartbeats 4000000 in
theorem coreCount (w : World) (S : Nat → Prop) (A : Option Addr) (n c : Nat) (ns : List NodeD) (root : Int) (h : Sl RNode w S A n c ns) (hn : n ≤ 1000000) (hk : NOk ns) (hp : ∀ nd ∈ ns, nd.2.2.2.length ≤ 1000000 ∧ (nd.1.1 = true → nd.2.2.2 = []) ∧ ∀ p ∈ nd.2.2.2, p.2.length ≤ 1000000) (hr : root < (n : Int)) :
    Calls Tryz.prog 28 #[.agg #[.slice A n c, .int .i64 root]] w fun e w' => e = .returned (.int .i64 (cntK ns root)) ∧ Below w.heap.size w w' := by
 obtain ⟨B0, hB0⟩ : ∃ B0, B0 = w.heap.size := ⟨_, rfl⟩
 have HB0 := Lib.hid hB0
 by_cases h0 : root < 0
 ·
  have HK := Lib.hid (show cntK ns root = 0 by unfold cntK; rw [if_pos h0])
  clear h hk hp hr
  go_enter Tryz.func28, Tryz.ntmps28
  go_wp2_with fail
  go_ret
  exact ⟨by rw [HK.out]; rfl, (Below.refl _ _).alloc (Nat.le_refl _) _⟩
 obtain ⟨rn, rfl⟩ : ∃ rn : Nat, root = (rn : Int) := ⟨root.toNat, by omega⟩
 have hrn : rn < n := by omega
 have hnl := h.len
 have hmk := fun u => tInts.make rfl n (by omega) (by omega) u
 simp only [made_intsA] at hmk
 obtain ⟨wF, hwF⟩ : ∃ wF : World, wF = w.alloc (.cells #[.slice A n c, .int .i64 (rn : Int)] 38) := ⟨_, rfl⟩
 obtain ⟨wa, hwa⟩ : ∃ wa : World, wa = wF.alloc (.cells (Array.replicate n (Value.int .i64 0)) 3) := ⟨_, rfl⟩
 obtain ⟨wb, hwb⟩ : ∃ wb : World, wb = wa.alloc (.cells #[.slice (some ⟨B0 + 1, 0, none⟩) n n] 22) := ⟨_, rfl⟩
 obtain ⟨wc, hwc⟩ : ∃ wc : World, wc = wb.alloc (.cells (Array.replicate n (Value.int .i64 0)) 3) := ⟨_, rfl⟩
 obtain ⟨wd, hwd⟩ : ∃ wd : World, wd = wc.alloc (.cells #[.slice (some ⟨B0 + 1 + 1 + 1, 0, none⟩) n n] 22) := ⟨_, rfl⟩
 obtain ⟨wf, hwf⟩ : ∃ wf : World, wf = wd.alloc (.cells #[.func (.func 51) #[] #[.pointer (some ⟨B0 + 1 + 1 + 1 + 1, 0, none⟩), .pointer (some ⟨B0, 0, none⟩), .pointer (some ⟨B0 + 1 + 1, 0, none⟩), .pointer (some ⟨B0 + 1 + 1 + 1 + 1 + 1, 0, none⟩)]] 109) := ⟨_, rfl⟩
 have zF : wF.heap.size = B0 + 1 := by rw [hwF, hB0]; simp
 have za : wa.heap.size = B0 + 1 + 1 := by rw [hwa, World.size_alloc, zF]
 have zb : wb.heap.size = B0 + 1 + 1 + 1 := by rw [hwb, World.size_alloc, za]
 have zc : wc.heap.size = B0 + 1 + 1 + 1 + 1 := by rw [hwc, World.size_alloc, zb]
 have zd : wd.heap.size = B0 + 1 + 1 + 1 + 1 + 1 := by rw [hwd, World.size_alloc, zc]
 have hbf : Below B0 w wf := by
  rw [hwf, hwd, hwc, hwb, hwa, hwF, hB0]
  exact ((((((Below.refl _ _).alloc (Nat.le_refl _) _).alloc (by simp) _).alloc (by simp; omega) _).alloc (by simp; omega) _).alloc (by simp; omega) _).alloc (by simp; omega) _
 have hX : ∀ b, b < B0 + 1 + 1 + 1 + 1 + 1 → wf.heap[b]? = wd.heap[b]? := fun b hb => by rw [hwf]; exact Below.heap_alloc _ _ _ (by omega)
 have hD : ∀ b, b < B0 + 1 + 1 + 1 + 1 → wd.heap[b]? = wc.heap[b]? := fun b hb => by rw [hwd]; exact Below.heap_alloc _ _ _ (by omega)
 have hC : ∀ b, b < B0 + 1 + 1 + 1 → wc.heap[b]? = wb.heap[b]? := fun b hb => by rw [hwc]; exact Below.heap_alloc _ _ _ (by omega)
 have hBb : ∀ b, b < B0 + 1 + 1 → wb.heap[b]? = wa.heap[b]? := fun b hb => by rw [hwb]; exact Below.heap_alloc _ _ _ (by omega)
 have hAa : ∀ b, b < B0 + 1 → wa.heap[b]? = wF.heap[b]? := fun b hb => by rw [hwa]; exact Below.heap_alloc _ _ _ (by omega)
 obtain ⟨L, hL⟩ : ∃ L : CnL, L = ⟨B0 + 1 + 1 + 1 + 1, B0, B0 + 1 + 1, B0 + 1 + 1 + 1 + 1 + 1, B0 + 1 + 1 + 1, B0 + 1, A, n, c, (rn : Int), ns, fun b => S b ∧ b < w.heap.size⟩ := ⟨_, rfl⟩
 have HLO := Lib.hid (show L.Ok by
  rw [hL]
  refine ⟨hnl, hn, hk, hp, by dsimp only; omega, by dsimp only; omega, by dsimp only; omega, by dsimp only; omega, by dsimp only; omega, fun b hb => ?_⟩
  have := hb.2
  dsimp only
  omega)
 have HIN := Lib.hid (show CnIn L wf (List.replicate ns.length 0) (List.replicate ns.length 0) by
  rw [hL]
  refine ⟨?_, ?_, ?_, ?_, ?_, ?_, h.fit.below (by rw [← hB0]; exact hbf), fun b hb => Nat.lt_of_lt_of_le hb.2 hbf.size⟩
  ·
   dsimp only
   rw [hX _ (by omega), hwd, ← zc]
   exact heap_alloc_new _ _
  ·
   dsimp only
   rw [hX _ (by omega), hD _ (by omega), hC _ (by omega), hBb _ (by omega), hAa _ (by omega), hwF, hB0]
   exact heap_alloc_new _ _
  ·
   dsimp only
   rw [hX _ (by omega), hD _ (by omega), hC _ (by omega), hwb, ← za]
   exact heap_alloc_new _ _
  ·
   dsimp only
   rw [hwf, ← zd]
   exact heap_alloc_new _ _
  ·
   dsimp only
   unfold BlI
   rw [hX _ (by omega), hD _ (by omega)]
   have h1 := BlI.made wb n
   rw [← hwc, zb, hnl] at h1
   exact h1
  dsimp only
  unfold BlI
  rw [hX _ (by omega), hD _ (by omega), hC _ (by omega), hBb _ (by omega)]
  have h1 := BlI.made wF n
  rw [← hwa, zF, hnl] at h1
  exact h1)
 have hF0 : wF.heap[B0]? = some (.cells #[.slice A n c, .int .i64 (rn : Int)] 38 (0, 0)) := by rw [hwF, hB0]; exact heap_alloc_new _ _
 have q1 : wb.cell? ⟨B0, 0, none⟩ = some (.slice A n c) := by
  have h1 := (hBb B0 (by omega)).trans ((hAa B0 (by omega)).trans hF0)
  simp [World.cell?, h1]
 have HWB := Lib.hid (show wb = ((w.alloc (.cells #[.slice A n c, .int .i64 (rn : Int)] 38)).alloc (.cells (Array.replicate n (Value.int .i64 0)) 3)).alloc (.cells #[.slice (some ⟨w.heap.size + 1, 0, none⟩) n n] 22) by rw [hwb, hwa, hwF, hB0])
 have HWF := Lib.hid (show wf = (((((w.alloc (.cells #[.slice A n c, .int .i64 (rn : Int)] 38)).alloc (.cells (Array.replicate n (Value.int .i64 0)) 3)).alloc (.cells #[.slice (some ⟨w.heap.size + 1, 0, none⟩) n n] 22)).alloc (.cells (Array.replicate n (Value.int .i64 0)) 3)).alloc (.cells #[.slice (some ⟨w.heap.size + 1 + 1 + 1, 0, none⟩) n n] 22)).alloc (.cells #[.func (.func 51) #[] #[.pointer (some ⟨w.heap.size + 1 + 1 + 1 + 1, 0, none⟩), .pointer (some ⟨w.heap.size, 0, none⟩), .pointer (some ⟨w.heap.size + 1 + 1, 0, none⟩), .pointer (some ⟨w.heap.size + 1 + 1 + 1 + 1 + 1, 0, none⟩)]] 109) by rw [hwf, hwd, hwc, hwb, hwa, hwF, hB0])
 have HBF := Lib.hid hbf
 have HLE := Lib.hid hL
 have hent := enters_visit
 rw [HWB.out, hB0] at q1
 have HNL := Lib.hid hnl
 have HKD := Lib.hid hk
 have hrn0 : ¬ (rn : Int) < 0 := by omega
 clear hnl hk hp hwF hwa hwb hwc hwd hwf zF za zb zc zd hbf hX hD hC hBb hAa hF0 hL h h0
 go_enter Tryz.func28, Tryz.ntmps28
 go_wp2_with fail
 go_at_call 51
 rw [← HWF.out, ← HB0.out]
 have hv : VisitAt L (zs (List.replicate ns.length (0 : Int))) := visitAll L HLO.out _
 have hcall := hv wf (List.replicate ns.length 0) (List.replicate ns.length 0) rn (Nat.le_refl _) (by rw [HLE.out]; exact hrn) HIN.out (by rw [HLE.out]; exact CnS.start ns) (fun i hi => by
  rw [List.getElem?_replicate] at hi
  split at hi
  · injection hi with hi; omega
  cases hi)
 rw [show L.Bst = B0 + 1 + 1 + 1 + 1 by rw [HLE.out], show L.Bf = B0 by rw [HLE.out], show L.Bc = B0 + 1 + 1 by rw [HLE.out], show L.Bv = B0 + 1 + 1 + 1 + 1 + 1 by rw [HLE.out]] at hcall
 refine hcall.mono ?_
 rintro e w8 ⟨h, ho8⟩
 have HB8 := Lib.hid (show Below B0 w w8 from HBF.out.trans (ho8.below (B := B0) (fun b e => by rw [HLE.out] at e; rcases e with e | e <;> (dsimp only at e; omega)) (by have h1 := HBF.out.size; have h2 := HB0.out; omega)))
 clear hcall hv ho8 hmk q1
 rcases h with ⟨st3, ct3, rfl, hi8, hs8, hn8, ht8⟩ | ⟨rfl, hna⟩
 ·
  obtain ⟨hac, hcv⟩ := hs8.done rn ht8
  obtain ⟨_, y2, y2r, y3, _⟩ := hi8.cells
  obtain ⟨yc, _⟩ := hi8.bc.at_ hcv
  rw [show L.Bf = B0 by rw [HLE.out], show L.root = (rn : Int) by rw [HLE.out]] at y2r
  rw [show L.Bc = B0 + 1 + 1 by rw [HLE.out], show L.bc = B0 + 1 by rw [HLE.out], show L.n = n by rw [HLE.out]] at y3
  rw [show L.bc = B0 + 1 by rw [HLE.out]] at yc
  have HV := Lib.hid (show cntK ns (rn : Int) = (nC L.ns rn : Int) by
   have e : L.ns = ns := by rw [HLE.out]
   rw [e] at hac ⊢
   unfold cntK
   rw [if_neg (by omega), Int.toNat_natCast, if_pos hac])
  have hrnI : (rn : Int) < (n : Int) := by omega
  have hrn1 : (0 : Int) ≤ (rn : Int) := by omega
  clear hi8 hs8 hn8 ht8 hac hcv y2
  rw [HB0.out] at y2r y3 yc
  go_wp2_with fail
  go_ret
  exact ⟨by rw [HV.out]; rfl, by rw [← HB0.out]; exact HB8.out⟩
 have HV := Lib.hid (show cntK ns (rn : Int) = -1 by
  have e : L.ns = ns := by rw [HLE.out]
  rw [e] at hna
  unfold cntK
  rw [if_neg (by omega), Int.toNat_natCast, if_neg hna])
 clear hna
 go_wp2_with fail
 go_ret
 exact ⟨by rw [HV.out]; rfl, by rw [← HB0.out]; exact HB8.out⟩
end Go.Proofs.YtjnbjdbndbbanaaGreatDoor
namespace Go.Proofs.YtjnbjdbndbbanaaGreatDoor
def DerK (R : List RuleD) (ws : List Int) (x : KeyD) : Prop := DerW R ws [x.1] x.2.1 x.2.2 ∧ x.2.2 ≤ ws.length
def KB (x : KeyD) : Prop := (0 ≤ x.1.2 ∧ x.1.2 < 16) ∧ x.2.1 < 16 ∧ x.2.2 < 16
def codeK (x : KeyD) : Nat := ((bI x.1.1 * 16 + x.1.2.toNat) * 16 + x.2.1) * 16 + x.2.2
theorem bI_le (b : Bool) : bI b ≤ 1 := by cases b <;> decide
theorem codeK_inj {x y : KeyD} (hx : KB x) (hy : KB y) (h : codeK x = codeK y) : x = y := by
 obtain ⟨⟨a, b⟩, c, d⟩ := x
 obtain ⟨⟨a', b'⟩, c', d'⟩ := y
 obtain ⟨h1, h2, h3⟩ := hx
 obtain ⟨k1, k2, k3⟩ := hy
 unfold codeK at h
 simp only at h h1 h2 h3 k1 k2 k3
 have e1 : bI a = bI a' := by omega
 have e2 : b = b' := by omega
 have e3 : c = c' := by omega
 have e4 : d = d' := by omega
 rw [bI_inj e1, e2, e3, e4]
theorem keysK_few {L : List KeyD} (hd : L.Nodup) (h : ∀ x ∈ L, KB x) : L.length ≤ 8192 := by
 have h1 : (L.map codeK).Nodup := by
  unfold List.Nodup
  rw [List.pairwise_map]
  exact hd.imp_of_mem fun ha hb hne e => hne (codeK_inj (h _ ha) (h _ hb) e)
 have h2 := pigeon (n := 8192) h1 fun x hx => by
  obtain ⟨t, ht, rfl⟩ := List.mem_map.1 hx
  obtain ⟨k1, k2, k3⟩ := h t ht
  have := bI_le t.1.1
  unfold codeK
  omega
 rw [List.length_map] at h2
 exact h2
section
variable {R : List RuleD} {ws : List Int} {N : Nat}
theorem DerK.kid {x y : KeyD} (h : DerK R ws x) (he : FEdge R ws x y) : DerK R ws y := by
 obtain ⟨_, r, _, _, a, b, _, _, h5, h6⟩ := fEdge_iff.1 he
 exact ⟨h5, by have := h6.le.1; have := h.2; omega⟩
theorem DerK.kb (hR : RulesN N R) (hN : N ≤ 16) (hw : ∀ c ∈ ws, 0 ≤ c ∧ c < 16) (hn : ws.length < 16) {x : KeyD} (h : DerK R ws x) : KB x := by
 obtain ⟨⟨b, a⟩, i, j⟩ := x
 obtain ⟨h1, h2⟩ := h
 have h3 := h1.le.1
 simp only at h1 h2 h3
 refine ⟨?_, by simp only; omega, by simp only; omega⟩
 cases h1 with
 | term h4 _ => exact hw _ (List.mem_of_getElem? h4)
 | non h4 _ _ => have := (hR _ h4).1; simp only at this ⊢; omega
inductive KRch (R : List RuleD) (ws : List Int) (root : KeyD) : KeyD → Prop
 | root : KRch R ws root root
 | step {x y : KeyD} : KRch R ws root x → FEdge R ws x y → KRch R ws root y
structure BfI (R : List RuleD) (ws : List Int) (root : KeyD) (L : List KeyD) (i : Nat) : Prop where
 nd : L.Nodup
 rt : L[0]? = some root
 der : ∀ x ∈ L, DerK R ws x
 rc : ∀ x ∈ L, KRch R ws root x
 cl : ∀ (j : Nat) (x y : KeyD), j < i → L[j]? = some x → FEdge R ws x y → y ∈ L
structure BfM (R : List RuleD) (ws : List Int) (root : KeyD) (L : List KeyD) (i : Nat) (k : KeyD) (p q : Nat) : Prop where
 b : BfI R ws root L i
 key : L[i]? = some k
 kp : ∀ (j : Nat) (pk : Nat × List KeyD) (y : KeyD), j < p → (packsP R ws k)[j]? = some pk → y ∈ pk.2 → y ∈ L
 kq : ∀ (pk : Nat × List KeyD) (j : Nat) (y : KeyD), (packsP R ws k)[p]? = some pk → j < q → pk.2[j]? = some y → y ∈ L
variable {root : KeyD} {L : List KeyD} {i p q : Nat} {k : KeyD}
theorem BfI.start (h : DerK R ws root) : BfI R ws root [root] 0 := ⟨by simp, rfl, fun x hx => by rw [List.mem_singleton.1 hx]; exact h, fun x hx => by rw [List.mem_singleton.1 hx]; exact .root, fun j x y hj => by omega⟩
theorem BfI.mid (h : BfI R ws root L i) (hk : L[i]? = some k) : BfM R ws root L i k 0 0 := ⟨h, hk, fun j _ _ hj => by omega, fun _ j _ _ hj => by omega⟩
theorem BfM.next (h : BfM R ws root L i k p q) {pk : Nat × List KeyD} (hp : (packsP R ws k)[p]? = some pk) (hq : pk.2.length ≤ q) : BfM R ws root L i k (p + 1) 0 := by
 refine ⟨h.b, h.key, fun j pk' y hj h1 h2 => ?_, fun _ j _ _ hj => by omega⟩
 by_cases e : j = p
 ·
  subst e
  rw [hp] at h1
  injection h1 with h1
  subst h1
  obtain ⟨m, hm⟩ := List.getElem?_of_mem h2
  exact h.kq pk m y hp (by have := (List.getElem?_eq_some_iff.1 hm).1; omega) hm
 exact h.kp j pk' y (by omega) h1 h2
theorem BfM.done (h : BfM R ws root L i k p q) (hp : (packsP R ws k).length ≤ p) : BfI R ws root L (i + 1) := by
 refine ⟨h.b.nd, h.b.rt, h.b.der, h.b.rc, fun j x y hj hx he => ?_⟩
 by_cases e : j = i
 ·
  subst e
  have := h.key.symm.trans hx
  injection this with this
  subst this
  obtain ⟨pk, h1, h2⟩ := he
  obtain ⟨m, hm⟩ := List.getElem?_of_mem h1
  exact h.kp m pk y (by have := (List.getElem?_eq_some_iff.1 hm).1; omega) hm h2
 exact h.b.cl j x y (by omega) hx he
theorem BfM.has (h : BfM R ws root L i k p q) {pk : Nat × List KeyD} (hp : (packsP R ws k)[p]? = some pk) {y : KeyD} (hy : pk.2[q]? = some y) (hm : y ∈ L) : BfM R ws root L i k p (q + 1) := by
 refine ⟨h.b, h.key, h.kp, fun pk' j z h1 h2 h3 => ?_⟩
 by_cases e : j = q
 ·
  subst e
  rw [hp] at h1
  injection h1 with h1
  subst h1
  rw [hy] at h3
  injection h3 with h3
  subst h3
  exact hm
 exact h.kq pk' j z h1 (by omega) h3
theorem BfM.kidD (h : BfM R ws root L i k p q) {pk : Nat × List KeyD} (hp : (packsP R ws k)[p]? = some pk) {y : KeyD} (hy : pk.2[q]? = some y) : DerK R ws y :=
 (h.b.der k (List.mem_of_getElem? h.key)).kid ⟨pk, List.mem_of_getElem? hp, List.mem_of_getElem? hy⟩
theorem getElem?_push {α : Type} {l : List α} {x y : α} {i : Nat} (h : l[i]? = some x) : (l ++ [y])[i]? = some x := by
 rw [List.getElem?_append_left (List.getElem?_eq_some_iff.1 h).1]
 exact h
theorem BfM.push (h : BfM R ws root L i k p q) {pk : Nat × List KeyD} (hp : (packsP R ws k)[p]? = some pk) {y : KeyD} (hy : pk.2[q]? = some y) (hm : y ∉ L) : BfM R ws root (L ++ [y]) i k p (q + 1) := by
 refine BfM.has ⟨⟨?_, getElem?_push h.b.rt, fun x hx => ?_, fun x hx => ?_, fun j x z hj hx he => ?_⟩, getElem?_push h.key, fun j pk' z hj h1 h2 => ?_, fun pk' j z h1 h2 h3 => ?_⟩ hp hy (by simp)
 ·
  rw [List.nodup_append]
  exact ⟨h.b.nd, by simp, fun a ha c hc => by obtain rfl := List.mem_singleton.1 hc; exact fun e => hm (e ▸ ha)⟩
 ·
  rcases List.mem_append.1 hx with hx | hx
  · exact h.b.der x hx
  rw [List.mem_singleton.1 hx]
  exact h.kidD hp hy
 ·
  rcases List.mem_append.1 hx with hx | hx
  · exact h.b.rc x hx
  rw [List.mem_singleton.1 hx]
  exact .step (h.b.rc k (List.mem_of_getElem? h.key)) ⟨pk, List.mem_of_getElem? hp, List.mem_of_getElem? hy⟩
 ·
  have hi := (List.getElem?_eq_some_iff.1 h.key).1
  rw [List.getElem?_append_left (by omega)] at hx
  exact List.mem_append_left _ (h.b.cl j x z hj hx he)
 · exact List.mem_append_left _ (h.kp j pk' z hj h1 h2)
 exact List.mem_append_left _ (h.kq pk' j z h1 h2 h3)
end
def SortedK (L : List KeyD) : Prop := ∀ (i j : Nat) (x y : KeyD), i < j → L[i]? = some x → L[j]? = some y → ¬ KLt y x
def ixK : List KeyD → KeyD → Nat
 | [], _ => 0
 | y :: l, x => if y = x then 0 else ixK l x + 1
theorem ixK_at : ∀ {L : List KeyD} {x : KeyD}, x ∈ L → L[ixK L x]? = some x
 | y :: l, x, h => by
  unfold ixK
  by_cases e : y = x
  · rw [if_pos e, e]; rfl
  rw [if_neg e, List.getElem?_cons_succ]
  exact ixK_at ((List.mem_cons.1 h).elim (fun h => absurd h.symm e) id)
theorem ixK_lt {L : List KeyD} {x : KeyD} (h : x ∈ L) : ixK L x < L.length := (List.getElem?_eq_some_iff.1 (ixK_at h)).1
theorem nodup_at {α : Type} {L : List α} (hd : L.Nodup) {i j : Nat} {x : α} (h1 : L[i]? = some x) (h2 : L[j]? = some x) : i = j := by
 obtain ⟨a1, a2⟩ := List.getElem?_eq_some_iff.1 h1
 obtain ⟨b1, b2⟩ := List.getElem?_eq_some_iff.1 h2
 have h3 := (List.pairwise_iff_getElem.1 hd)
 rcases Nat.lt_trichotomy i j with h | h | h
 · exact absurd (a2.trans b2.symm) (h3 i j a1 b1 h)
 · exact h
 exact absurd (b2.trans a2.symm) (h3 j i b1 a1 h)
theorem ixK_eq {L : List KeyD} (hd : L.Nodup) {i : Nat} {x : KeyD} (h : L[i]? = some x) : ixK L x = i := nodup_at hd (ixK_at (List.mem_of_getElem? h)) h
theorem KLt.irr (x : KeyD) : ¬ KLt x x := by
 unfold KLt
 omega
theorem ixK_mono {L : List KeyD} (hs : SortedK L) {x y : KeyD} (hx : x ∈ L) (hy : y ∈ L) (h : KLt x y) : ixK L x < ixK L y := by
 have h1 := ixK_at hx
 have h2 := ixK_at hy
 rcases Nat.lt_trichotomy (ixK L x) (ixK L y) with h3 | h3 | h3
 · exact h3
 ·
  rw [h3, h2] at h1
  injection h1 with h1
  rw [h1] at h
  exact absurd h (KLt.irr x)
 exact absurd h (hs _ _ _ _ h3 h2 h1)
def pkZ (L : List KeyD) (p : Nat × List KeyD) : PackD := ((p.1 : Int), p.2.map fun y => (ixK L y : Int))
noncomputable def nodeZ (R : List RuleD) (ws : List Int) (L : List KeyD) (x : KeyD) : NodeD := (x.1, (x.2.1 : Int), (x.2.2 : Int), (packsP R ws x).map (pkZ L))
section
variable {R : List RuleD} {ws : List Int} {L : List KeyD}
open Classical in
theorem splP_ord (hs : SortedK L) : ∀ (l : List SymD) (i j : Nat), (∀ ks ∈ splP R ws l i j, ∀ y ∈ ks, y ∈ L) → (splP R ws l i j).Pairwise fun a b => ¬ cmpL (b.map fun y => (ixK L y : Int)) (a.map fun y => (ixK L y : Int)) < 0
 | [], i, j, _ => by
  rw [splP_nil]
  split <;> simp
 | s :: l, i, j, h => by
  rw [splP_cons]
  rw [List.pairwise_flatMap]
  constructor
  ·
   intro k hk
   rw [List.mem_filter, decide_eq_true_eq, List.mem_range] at hk
   rw [List.pairwise_map]
   refine (splP_ord hs l k j fun ks hks y hy => h ((s, i, k) :: ks) (mem_splP_cons.2 ⟨k, ks, by omega, hk.2.1, hk.2.2, hks, rfl⟩) y (by simp [hy])).imp fun {a b} hab => ?_
   rw [List.map_cons, List.map_cons]
   unfold cmpL
   rw [if_pos (cmpI_zeroT.2 rfl)]
   exact hab
  refine (List.pairwise_lt_range.filter _).imp_of_mem fun {k k'} hk hk' hlt x hx y hy => ?_
  rw [List.mem_filter, decide_eq_true_eq, List.mem_range] at hk hk'
  obtain ⟨u, hu, rfl⟩ := List.mem_map.1 hx
  obtain ⟨v, hv, rfl⟩ := List.mem_map.1 hy
  have h1 : ((s, i, k) : KeyD) ∈ L := h ((s, i, k) :: u) (mem_splP_cons.2 ⟨k, u, by omega, hk.2.1, hk.2.2, hu, rfl⟩) _ (by simp)
  have h2 : ((s, i, k') : KeyD) ∈ L := h ((s, i, k') :: v) (mem_splP_cons.2 ⟨k', v, by omega, hk'.2.1, hk'.2.2, hv, rfl⟩) _ (by simp)
  have h3 := ixK_mono hs h1 h2 (.inr ⟨rfl, .inl hlt⟩)
  rw [List.map_cons, List.map_cons]
  unfold cmpL
  rw [if_neg (fun e => by have := cmpI_zeroT.1 e; omega), cmpI_negT]
  omega
theorem packs_ord (hs : SortedK L) {x : KeyD} (h : ∀ y, FEdge R ws x y → y ∈ L) : InOrd ((packsP R ws x).map (pkZ L)) := by
 have h1 : ((packsP R ws x).map (pkZ L)).Pairwise fun a b => ¬ cmpPk b a < 0 := by
  rw [List.pairwise_map]
  have hm : ∀ p ∈ packsP R ws x, ∀ y ∈ p.2, y ∈ L := fun p hp y hy => h y ⟨p, hp, hy⟩
  unfold packsP at hm ⊢
  split
  · exact List.Pairwise.nil
  next hx =>
  rw [if_neg hx] at hm
  rw [List.pairwise_flatMap]
  constructor
  ·
   intro p hp
   split
   ·
    next e =>
    rw [List.pairwise_map]
    refine (splP_ord hs p.1.2 x.2.1 x.2.2 fun ks hks y hy => hm (p.2, ks) (List.mem_flatMap.2 ⟨p, hp, by rw [if_pos e]; exact List.mem_map.2 ⟨ks, hks, rfl⟩⟩) y hy).imp fun {a b} hab => ?_
    unfold cmpPk pkZ
    rw [if_pos (cmpI_zeroT.2 rfl)]
    exact hab
   exact List.Pairwise.nil
  have hz : R.zipIdx.Pairwise fun p q => p.2 < q.2 := by
   rw [List.pairwise_iff_getElem]
   intro i j hi hj hij
   simp
   exact hij
  refine hz.imp fun {p q} hlt a ha b hb => ?_
  have e1 : a.1 = p.2 := by
   split at ha
   · obtain ⟨_, _, rfl⟩ := List.mem_map.1 ha; rfl
   cases ha
  have e2 : b.1 = q.2 := by
   split at hb
   · obtain ⟨_, _, rfl⟩ := List.mem_map.1 hb; rfl
   cases hb
  unfold cmpPk pkZ
  simp only
  rw [if_neg (fun e => by have := cmpI_zeroT.1 e; omega), cmpI_negT]
  omega
 intro i j a b hij ha hb
 obtain ⟨a1, a2⟩ := List.getElem?_eq_some_iff.1 ha
 obtain ⟨b1, b2⟩ := List.getElem?_eq_some_iff.1 hb
 have := List.pairwise_iff_getElem.1 h1 i j a1 b1 hij
 rw [a2, b2] at this
 exact this
structure FoL (R : List RuleD) (ws : List Int) (L : List KeyD) : Prop where
 nd : L.Nodup
 cl : ∀ x ∈ L, ∀ y, FEdge R ws x y → y ∈ L
structure FoX (R : List RuleD) (ws : List Int) (root : KeyD) (L : List KeyD) : Prop extends FoL R ws L where
 der : ∀ x ∈ L, DerK R ws x
 rc : ∀ x ∈ L, KRch R ws root x
 srt : SortedK L
 rt : root ∈ L
theorem FoX.mem {R : List RuleD} {ws : List Int} {root : KeyD} {L : List KeyD} (h : FoX R ws root L) {x : KeyD} : x ∈ L ↔ KRch R ws root x := by
 refine ⟨h.rc x, fun hx => ?_⟩
 induction hx with
 | root => exact h.rt
 | step _ he ih => exact h.cl _ ih _ he
theorem sorted_eq : ∀ {L L' : List KeyD}, L.Nodup → L'.Nodup → SortedK L → SortedK L' → (∀ x, x ∈ L ↔ x ∈ L') → L = L'
 | [], [], _, _, _, _, _ => rfl
 | [], y :: l', _, _, _, _, h => by have := (h y).2 (by simp); cases this
 | x :: l, [], _, _, _, _, h => by have := (h x).1 (by simp); cases this
 | x :: l, y :: l', hd, hd', hs, hs', h => by
  have hxy : x = y := by
   rcases KLt.total x y with h1 | h1 | h1
   ·
    rcases List.mem_cons.1 ((h x).1 (by simp)) with h2 | h2
    · exact h2
    obtain ⟨j, hj⟩ := List.getElem?_of_mem h2
    exact absurd h1 (hs' 0 (j + 1) y x (by omega) rfl (by simpa using hj))
   · exact h1
   rcases List.mem_cons.1 ((h y).2 (by simp)) with h2 | h2
   · exact h2.symm
   obtain ⟨j, hj⟩ := List.getElem?_of_mem h2
   exact absurd h1 (hs 0 (j + 1) x y (by omega) rfl (by simpa using hj))
  subst hxy
  have hn := List.nodup_cons.1 hd
  have hn' := List.nodup_cons.1 hd'
  rw [sorted_eq hn.2 hn'.2 (fun i j a b hij ha hb => hs (i + 1) (j + 1) a b (by omega) (by simpa using ha) (by simpa using hb)) (fun i j a b hij ha hb => hs' (i + 1) (j + 1) a b (by omega) (by simpa using ha) (by simpa using hb)) fun z => ?_]
  have hz := h z
  rw [List.mem_cons, List.mem_cons] at hz
  constructor
  ·
   intro h1
   rcases hz.1 (.inr h1) with rfl | h2
   · exact absurd h1 hn.1
   exact h2
  intro h1
  rcases hz.2 (.inr h1) with rfl | h2
  · exact absurd h1 hn'.1
  exact h2
theorem FoX.uniq {R : List RuleD} {ws : List Int} {root : KeyD} {L L' : List KeyD} (h : FoX R ws root L) (h' : FoX R ws root L') : L = L' :=
 sorted_eq h.nd h'.nd h.srt h'.srt fun _ => h.mem.trans h'.mem.symm
theorem FoL.at_ (i : Nat) : (L.map (nodeZ R ws L))[i]? = (L[i]?).map (nodeZ R ws L) := by rw [List.getElem?_map]
theorem FoL.edge (h : FoL R ws L) {i j : Nat} : NEdge (L.map (nodeZ R ws L)) i j ↔ ∃ x y, L[i]? = some x ∧ L[j]? = some y ∧ FEdge R ws x y := by
 constructor
 ·
  rintro ⟨nd, h1, p, hp, hj⟩
  rw [FoL.at_, Option.map_eq_some_iff] at h1
  obtain ⟨x, hx, rfl⟩ := h1
  obtain ⟨p0, hp0, rfl⟩ := List.mem_map.1 hp
  obtain ⟨y, hy, e⟩ := List.mem_map.1 hj
  have he : FEdge R ws x y := ⟨p0, hp0, hy⟩
  have hyL := h.cl x (List.mem_of_getElem? hx) y he
  have h2 := ixK_at hyL
  rw [show ixK L y = j by omega] at h2
  exact ⟨x, y, hx, h2, he⟩
 rintro ⟨x, y, hx, hy, p, hp, hyp⟩
 refine ⟨nodeZ R ws L x, by rw [FoL.at_, hx]; rfl, pkZ L p, List.mem_map.2 ⟨p, hp, rfl⟩, List.mem_map.2 ⟨y, hyp, ?_⟩⟩
 rw [ixK_eq h.nd hy]
theorem FoL.ok (h : FoL R ws L) : NOk (L.map (nodeZ R ws L)) := by
 intro nd hnd p hp k hk
 obtain ⟨x, hx, rfl⟩ := List.mem_map.1 hnd
 obtain ⟨p0, hp0, rfl⟩ := List.mem_map.1 hp
 obtain ⟨y, hy, rfl⟩ := List.mem_map.1 hk
 have := ixK_lt (h.cl x hx y ⟨p0, hp0, hy⟩)
 rw [List.length_map]
 omega
theorem FoL.acc (h : FoL R ws L) {x : KeyD} (ha : Acc (fun y x => FEdge R ws x y) x) : x ∈ L → Acc (fun y x => NEdge (L.map (nodeZ R ws L)) x y) (ixK L x) := by
 induction ha with
 | intro x _ ih =>
  intro hx
  refine Acc.intro _ fun j hj => ?_
  obtain ⟨x', y, h1, h2, h3⟩ := h.edge.1 hj
  rw [ixK_at hx] at h1
  injection h1 with h1
  subst h1
  have := ih y h3 (List.mem_of_getElem? h2)
  rw [ixK_eq h.nd h2] at this
  exact this
theorem FoL.accB (h : FoL R ws L) {i : Nat} (ha : Acc (fun y x => NEdge (L.map (nodeZ R ws L)) x y) i) : ∀ x, L[i]? = some x → Acc (fun y x => FEdge R ws x y) x := by
 induction ha with
 | intro i _ ih =>
  intro x hx
  refine Acc.intro _ fun y hy => ?_
  have hyL := h.cl x (List.mem_of_getElem? hx) y hy
  exact ih (ixK L y) (h.edge.2 ⟨x, y, hx, ixK_at hyL, hy⟩) y (ixK_at hyL)
theorem nodeV_nodeC (ns : List NodeD) (c : Nat → Nat) (x : KeyD) {i : Nat} (h : ns[i]? = some (nodeZ R ws L x)) : nodeV ns c i = nodeC R ws (fun y => c (ixK L y)) x := by
 unfold nodeV nodeC
 rw [h]
 simp only
 by_cases hx : x.1.1 = true
 ·
  rw [if_pos hx]
  have hp : packsP R ws x = [] := by unfold packsP; rw [if_pos hx]
  unfold packsV baseV nodeZ
  rw [if_pos hx, hp]
  rfl
 rw [if_neg hx]
 unfold packsV baseV nodeZ prodV pkZ
 simp only
 rw [if_neg hx, List.foldl_map]
 simp only [List.foldl_map, Int.toNat_natCast]
theorem FoL.count (h : FoL R ws L) {x : KeyD} (ha : Acc (fun y x => FEdge R ws x y) x) : x ∈ L → nC (L.map (nodeZ R ws L)) (ixK L x) = fC R ws x := by
 induction ha with
 | intro x hacc ih =>
  intro hx
  rw [nC_eq h.ok (h.acc (Acc.intro x hacc) hx), fC_eq (Acc.intro x hacc), nodeV_nodeC (R := R) (ws := ws) (L := L) _ _ x (by rw [FoL.at_, ixK_at hx]; rfl)]
  exact nodeC_congr fun y hy => ih y hy (h.cl x hx y hy)
open Classical in
theorem FoL.cnt (h : FoL R ws L) {x : KeyD} (hx : x ∈ L) : cntK (L.map (nodeZ R ws L)) (ixK L x : Int) = if Acc (fun y x => FEdge R ws x y) x then (fC R ws x : Int) else -1 := by
 unfold cntK
 rw [if_neg (by omega), Int.toNat_natCast]
 by_cases ha : Acc (fun y x => FEdge R ws x y) x
 · rw [if_pos ha, if_pos (h.acc ha hx), h.count ha hx]
 rw [if_neg ha, if_neg (fun e => ha (h.accB e x (ixK_at hx)))]
end
end Go.Proofs.YtjnbjdbndbbanaaGreatDoor
