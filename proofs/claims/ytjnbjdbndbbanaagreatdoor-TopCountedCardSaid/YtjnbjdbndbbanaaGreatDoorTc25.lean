/- CoreCount -/
import Derived.Laws.EntriesVeiled
import Derived.Test.YtjnbjdbndbbanaaGreatDoorTc24
namespace Go.Proofs.YtjnbjdbndbbanaaGreatDoor
open Go.RowKit
structure CnW (ns : List NodeD) (v : Nat) (st ct : List Int) (c : Nat) (st1 ct1 : List Int) : Prop where
 s : CnS ns st1 ct1
 one : ∀ i : Nat, st1[i]? = some 1 ↔ i = v ∨ st[i]? = some 1
 two : ∀ i : Nat, st[i]? = some 2 → st1[i]? = some 2
 zer : ∀ i : Nat, st1[i]? = some 0 → st[i]? = some 0
 cnt : ∀ i : Nat, i ≠ v → st[i]? = some 1 → ct1[i]? = ct[i]?
 cv : ct1[v]? = some (c : Int)
 lo : st[v]? = some 0
section
variable {ns : List NodeD} {v c : Nat} {st ct st1 ct1 st2 ct2 : List Int}
theorem set_at {l : List Int} {v i : Nat} {y : Int} (hv : v < l.length) : (l.set v y)[i]? = if v = i then some y else l[i]? := by
 rw [List.getElem?_set]
 by_cases h : v = i
 ·
  subst h
  simp [hv]
 simp [h]
theorem CnW.start (h : CnS ns st ct) (h0 : st[v]? = some 0) (b : Nat) : CnW ns v st ct b (st.set v 1) (ct.set v (b : Int)) := by
 have hv : v < st.length := (List.getElem?_eq_some_iff.1 h0).1
 have hc : v < ct.length := by rw [h.cl, ← h.sl]; exact hv
 refine ⟨⟨by rw [List.length_set]; exact h.sl, by rw [List.length_set]; exact h.cl, fun i x hx => ?_, fun i hi => ?_, fun i hi => ?_⟩, fun i => ?_, fun i hi => ?_, fun i hi => ?_, fun i hi _ => ?_, ?_, h0⟩
 ·
  rw [set_at hv] at hx
  split at hx
  · injection hx with hx; omega
  exact h.rng i x hx
 ·
  rw [set_at hv] at hi
  split at hi
  · injection hi with hi; omega
  next e => rw [set_at hc, if_neg e]; exact h.zero i hi
 ·
  rw [set_at hv] at hi
  split at hi
  · injection hi with hi; omega
  next e => rw [set_at hc, if_neg e]; exact h.done i hi
 ·
  rw [set_at hv]
  by_cases e : v = i
  · rw [if_pos e]; simp [e]
  rw [if_neg e]
  exact ⟨.inr, fun h => h.resolve_left (Ne.symm e)⟩
 ·
  rw [set_at hv, if_neg]
  · exact hi
  rintro rfl; rw [h0] at hi; injection hi with hi; omega
 ·
  rw [set_at hv] at hi
  split at hi
  · injection hi with hi; omega
  exact hi
 · rw [set_at hc, if_neg (Ne.symm hi)]
 rw [set_at hc, if_pos rfl]
theorem CnW.visit (h : CnW ns v st ct c st1 ct1) (hs : CnS ns st2 ct2) (hn : CnN st1 ct1 st2 ct2) : CnW ns v st ct c st2 ct2 :=
 ⟨hs, fun i => (hn.one i).trans (h.one i), fun i hi => hn.two i (h.two i hi), fun i hi => h.zer i (hn.zer i hi), fun i hv hi => (hn.cnt i ((h.one i).2 (.inr hi))).trans (h.cnt i hv hi), (hn.cnt v ((h.one v).2 (.inl rfl))).trans h.cv, h.lo⟩
theorem CnW.lt (h : CnW ns v st ct c st1 ct1) : v < st1.length ∧ v < ct1.length := by
 have := (List.getElem?_eq_some_iff.1 h.cv).1
 exact ⟨by rw [h.s.sl, ← h.s.cl]; exact this, this⟩
theorem CnW.add (h : CnW ns v st ct c st1 ct1) (c' : Nat) : CnW ns v st ct c' st1 (ct1.set v (c' : Int)) := by
 obtain ⟨h1, h2⟩ := h.lt
 have hv1 : st1[v]? = some 1 := (h.one v).2 (.inl rfl)
 refine ⟨⟨h.s.sl, by rw [List.length_set]; exact h.s.cl, h.s.rng, fun i hi => ?_, fun i hi => ?_⟩, h.one, h.two, h.zer, fun i hv hi => ?_, ?_, h.lo⟩
 ·
  rw [set_at h2, if_neg (by rintro rfl; rw [hv1] at hi; injection hi with hi; omega)]
  exact h.s.zero i hi
 ·
  rw [set_at h2, if_neg (by rintro rfl; rw [hv1] at hi; injection hi with hi; omega)]
  exact h.s.done i hi
 ·
  rw [set_at h2, if_neg (Ne.symm hv)]
  exact h.cnt i hv hi
 rw [set_at h2, if_pos rfl]
theorem CnW.few (h : CnW ns v st ct c st1 ct1) (hl : st.length = ns.length) : zs st1 < zs st := by
 have h1 := zs_set (y := 1) h.lo (by omega)
 have hv : v < st.length := (List.getElem?_eq_some_iff.1 h.lo).1
 have h2 := zs_mono (st := st.set v 1) (st' := st1) (by rw [List.length_set, h.s.sl, hl]) fun i hi => by
  rw [set_at hv, if_neg]
  · exact h.zer i hi
  rintro rfl
  have := (h.one v).2 (.inl rfl)
  rw [this] at hi
  injection hi with hi
  omega
 omega
theorem CnW.finish (h : CnW ns v st ct c st1 ct1) (hA : Acc (fun y x => NEdge ns x y) v) (hc : c = nC ns v) : CnS ns (st1.set v 2) ct1 ∧ CnN st ct (st1.set v 2) ct1 ∧ (st1.set v 2)[v]? = some 2 := by
 obtain ⟨h1, h2⟩ := h.lt
 refine ⟨⟨by rw [List.length_set]; exact h.s.sl, h.s.cl, fun i x hx => ?_, fun i hi => ?_, fun i hi => ?_⟩, ⟨fun i => ?_, fun i hi => ?_, fun i hi => ?_, fun i hi => ?_⟩, by rw [set_at h1, if_pos rfl]⟩
 ·
  rw [set_at h1] at hx
  split at hx
  · injection hx with hx; omega
  exact h.s.rng i x hx
 ·
  rw [set_at h1] at hi
  split at hi
  · injection hi with hi; omega
  exact h.s.zero i hi
 ·
  rw [set_at h1] at hi
  split at hi
  · next e => subst e; exact ⟨hA, by rw [h.cv, hc]⟩
  exact h.s.done i hi
 ·
  rw [set_at h1]
  split
  ·
   next e =>
   subst e
   rw [h.lo]
   simp
  next e =>
  rw [h.one i]
  exact ⟨fun h => h.resolve_left (Ne.symm e), .inr⟩
 ·
  rw [set_at h1]
  split
  · rfl
  exact h.two i hi
 ·
  rw [set_at h1] at hi
  split at hi
  · injection hi with hi; omega
  exact h.zer i hi
 exact h.cnt i (by rintro rfl; rw [h.lo] at hi; injection hi with hi; omega) hi
end
structure CnL where
 Bst : Nat
 Bf : Nat
 Bc : Nat
 Bv : Nat
 bs : Nat
 bc : Nat
 A : Option Addr
 n : Nat
 c : Nat
 root : Int
 ns : List NodeD
 S : Nat → Prop
structure CnL.Ok (L : CnL) : Prop where
 len : L.n = L.ns.length
 few : L.n ≤ 1000000
 kids : NOk L.ns
 pk : ∀ nd ∈ L.ns, nd.2.2.2.length ≤ 1000000 ∧ (nd.1.1 = true → nd.2.2.2 = []) ∧ ∀ p ∈ nd.2.2.2, p.2.length ≤ 1000000
 sc : L.bs ≠ L.bc
 st : L.Bst ≠ L.bs ∧ L.Bst ≠ L.bc
 f : L.Bf ≠ L.bs ∧ L.Bf ≠ L.bc
 cc : L.Bc ≠ L.bs ∧ L.Bc ≠ L.bc
 vv : L.Bv ≠ L.bs ∧ L.Bv ≠ L.bc
 ap : ∀ b, L.S b → b ≠ L.bs ∧ b ≠ L.bc
structure CnIn (L : CnL) (w : World) (st ct : List Int) : Prop where
 vs : w.heap[L.Bst]? = some (.cells #[.slice (some ⟨L.bs, 0, none⟩) L.n L.n] 22 (0, 0))
 vf : w.heap[L.Bf]? = some (.cells #[.slice L.A L.n L.c, .int .i64 L.root] 38 (0, 0))
 vc : w.heap[L.Bc]? = some (.cells #[.slice (some ⟨L.bc, 0, none⟩) L.n L.n] 22 (0, 0))
 vv : w.heap[L.Bv]? = some (.cells #[.func (.func 51) #[] #[.pointer (some ⟨L.Bst, 0, none⟩), .pointer (some ⟨L.Bf, 0, none⟩), .pointer (some ⟨L.Bc, 0, none⟩), .pointer (some ⟨L.Bv, 0, none⟩)]] 109 (0, 0))
 bs : BlI w L.bs st
 bc : BlI w L.bc ct
 nd : Sl RNode w L.S L.A L.n L.c L.ns
 fit : ∀ b, L.S b → b < w.heap.size
section
variable {L : CnL} {w w' : World} {st ct : List Int} {X : Nat → Prop}
theorem CnIn.only (h : CnIn L w st ct) (ho : Only w w' X) (hX : ∀ b, X b → b ≠ L.Bst ∧ b ≠ L.Bf ∧ b ≠ L.Bc ∧ b ≠ L.Bv ∧ b ≠ L.bs ∧ b ≠ L.bc ∧ ¬ L.S b) : CnIn L w' st ct :=
 ⟨(ho.block _ (heap_lt h.vs) fun e => (hX _ e).1 rfl).trans h.vs, (ho.block _ (heap_lt h.vf) fun e => (hX _ e).2.1 rfl).trans h.vf, (ho.block _ (heap_lt h.vc) fun e => (hX _ e).2.2.1 rfl).trans h.vc, (ho.block _ (heap_lt h.vv) fun e => (hX _ e).2.2.2.1 rfl).trans h.vv,
  h.bs.only ho fun e => (hX _ e).2.2.2.2.1 rfl, h.bc.only ho fun e => (hX _ e).2.2.2.2.2.1 rfl, h.nd.keep (ho.kept fun b hb hx => (hX b hx).2.2.2.2.2.2 hb), fun b hb => Nat.lt_of_lt_of_le (h.fit b hb) ho.size⟩
theorem CnIn.below (h : CnIn L w st ct) (hb : Below w.heap.size w w') : CnIn L w' st ct := h.only (X := fun _ => False) (.of_below hb (Nat.le_refl _) _) fun _ hx => hx.elim
theorem CnIn.setS (hL : L.Ok) (h : CnIn L w st ct) (i : Nat) (x : Int) : CnIn L (w.setCell ⟨L.bs, i, none⟩ (.int .i64 x)) (st.set i x) ct := by
 have ho : Only w (w.setCell ⟨L.bs, i, none⟩ (.int .i64 x)) (fun b => b = L.bs) := Only.set _ _ _ _ rfl
 exact ⟨(ho.block _ (heap_lt h.vs) hL.st.1).trans h.vs, (ho.block _ (heap_lt h.vf) hL.f.1).trans h.vf, (ho.block _ (heap_lt h.vc) hL.cc.1).trans h.vc, (ho.block _ (heap_lt h.vv) hL.vv.1).trans h.vv,
  h.bs.set i x, h.bc.only ho (Ne.symm hL.sc), h.nd.keep (ho.kept fun b hb e => (hL.ap b hb).1 e), fun b hb => Nat.lt_of_lt_of_le (h.fit b hb) ho.size⟩
theorem CnIn.setC (hL : L.Ok) (h : CnIn L w st ct) (i : Nat) (x : Int) : CnIn L (w.setCell ⟨L.bc, i, none⟩ (.int .i64 x)) st (ct.set i x) := by
 have ho : Only w (w.setCell ⟨L.bc, i, none⟩ (.int .i64 x)) (fun b => b = L.bc) := Only.set _ _ _ _ rfl
 exact ⟨(ho.block _ (heap_lt h.vs) hL.st.2).trans h.vs, (ho.block _ (heap_lt h.vf) hL.f.2).trans h.vf, (ho.block _ (heap_lt h.vc) hL.cc.2).trans h.vc, (ho.block _ (heap_lt h.vv) hL.vv.2).trans h.vv,
  h.bs.only ho hL.sc, h.bc.set i x, h.nd.keep (ho.kept fun b hb e => (hL.ap b hb).2 e), fun b hb => Nat.lt_of_lt_of_le (h.fit b hb) ho.size⟩
theorem CnIn.cells (h : CnIn L w st ct) : w.cell? ⟨L.Bst, 0, none⟩ = some (.slice (some ⟨L.bs, 0, none⟩) L.n L.n) ∧ w.cell? ⟨L.Bf, 0, none⟩ = some (.slice L.A L.n L.c) ∧ w.cell? ⟨L.Bf, 1, none⟩ = some (.int .i64 L.root) ∧ w.cell? ⟨L.Bc, 0, none⟩ = some (.slice (some ⟨L.bc, 0, none⟩) L.n L.n) ∧
    w.cell? ⟨L.Bv, 0, none⟩ = some (.func (.func 51) #[] #[.pointer (some ⟨L.Bst, 0, none⟩), .pointer (some ⟨L.Bf, 0, none⟩), .pointer (some ⟨L.Bc, 0, none⟩), .pointer (some ⟨L.Bv, 0, none⟩)]) := by
 have h1 := h.vs
 have h2 := h.vf
 have h3 := h.vc
 have h4 := h.vv
 exact ⟨by simp [World.cell?, h1], by simp [World.cell?, h2], by simp [World.cell?, h2], by simp [World.cell?, h3], by simp [World.cell?, h4]⟩
end
theorem node_at {w : World} {S : Nat → Prop} {A : Option Addr} {n c : Nat} {ns : List NodeD} (h : Sl RNode w S A n c ns) {k : Nat} (hk : k < n) :
    ∃ (b off : Nat) (nd : NodeD) (A' : Option Addr) (m c' : Nat), A = some ⟨b, off, none⟩ ∧ S b ∧ ns[k]? = some nd ∧ w.cell? ⟨b, off + k * 5, none⟩ = some (.bool nd.1.1) ∧ w.cell? ⟨b, off + k * 5 + 1, none⟩ = some (.int .i64 nd.1.2) ∧ w.cell? ⟨b, off + k * 5 + 2, none⟩ = some (.int .i64 nd.2.1) ∧ w.cell? ⟨b, off + k * 5 + 3, none⟩ = some (.int .i64 nd.2.2.1) ∧ w.cell? ⟨b, off + k * 5 + 4, none⟩ = some (.slice A' m c') ∧ Sl RPack w S A' m c' nd.2.2.2 := by
 obtain ⟨xs, e1, e2, h3, h4⟩ := h
 subst e1
 have hg := h4.get hk
 have hl := h4.len
 simp only [show RNode.size = 5 from rfl] at hg hl h3
 obtain ⟨b, off, e, hS, hc⟩ := h3.2 (by omega)
 obtain ⟨A', m, c', hcs, hsl⟩ := RNode.cells.1 hg
 have hx : ∀ (j : Nat) (u : Value), j < 5 → ((xs.drop (k * 5)).take 5)[j]? = some u → w.cell? ⟨b, off + k * 5 + j, none⟩ = some u := by
  intro j u hj hu
  rw [List.getElem?_take, if_pos hj, List.getElem?_drop] at hu
  rw [Nat.add_assoc]
  exact hc _ _ hu
 rw [hcs] at hx
 exact ⟨b, off, ns[k], A', m, c', e, hS, List.getElem?_eq_getElem hk, hx 0 _ (by omega) rfl, hx 1 _ (by omega) rfl, hx 2 _ (by omega) rfl, hx 3 _ (by omega) rfl, hx 4 _ (by omega) rfl, hsl⟩
theorem enters_visit : ∀ (args : Array Value) (u : World), (callFunc 51 args).run Tryz.prog u = .ok (.enter 51 args) u := enters_of Tryz.func51 (by kernel_rfl) rfl
def VisitAt (L : CnL) (m : Nat) : Prop :=
 ∀ (w : World) (st ct : List Int) (v : Nat), zs st ≤ m → v < L.n → CnIn L w st ct → CnS L.ns st ct → (∀ i : Nat, st[i]? = some 1 → Reach (NEdge L.ns) i v) →
  Calls Tryz.prog 51 #[.int .i64 (v : Int), .pointer (some ⟨L.Bst, 0, none⟩), .pointer (some ⟨L.Bf, 0, none⟩), .pointer (some ⟨L.Bc, 0, none⟩), .pointer (some ⟨L.Bv, 0, none⟩)] w fun e w' =>
   ((∃ st' ct' : List Int, e = .returned (.bool true) ∧ CnIn L w' st' ct' ∧ CnS L.ns st' ct' ∧ CnN st ct st' ct' ∧ st'[v]? = some 2) ∨ (e = .returned (.bool false) ∧ ¬ Acc (fun y x => NEdge L.ns x y) v)) ∧ Only w w' (fun b => b = L.bs ∨ b = L.bc)
set_option linter.unusedSimpArgs false in
set_option maxRecDepth 100000 in
set_option maxHeartbeats 8000000 in
theorem visitS (L : CnL) (hL : L.Ok) (m : Nat) (IH : ∀ m', m' < m → VisitAt L m') : VisitAt L m := by
 intro w st ct v hz hv hin hs hr
 have hvl : v < st.length := by rw [hs.sl, ← hL.len]; exact hv
 obtain ⟨x, hx⟩ : ∃ x, st[v]? = some x := ⟨_, List.getElem?_eq_getElem hvl⟩
 have hv0 : (0 : Int) ≤ (v : Int) := by omega
 have hvI : (v : Int) < (L.n : Int) := by omega
 have hfew := hL.few
 obtain ⟨k1, k2, _, k3, k4⟩ := hin.cells
 obtain ⟨kx, kf⟩ := hin.bs.at_ hx
 rcases hs.rng v x hx with rfl | rfl | rfl
 ·
  have hvn : v < L.ns.length := by rw [← hL.len]; exact hv
  obtain ⟨bN, oN, nd, A', mp, c', hA, hSb, hnd, n0, n1, n2, n3, n4, hsp⟩ := node_at hin.nd hv
  obtain ⟨hpl, hpt, hpk⟩ := hL.pk nd (List.mem_of_getElem? hnd)
  have hml : mp = nd.2.2.2.length := hsp.len
  have hmp : mp ≤ 1000000 := by omega
  have HF := Lib.hid hin.fit
  have HL := Lib.hid hL
  have HIH := Lib.hid IH
  have HZ := Lib.hid hz
  have HR := Lib.hid hr
  have HND := Lib.hid hnd
  have HPK := Lib.hid hpk
  have HML := Lib.hid hml
  have HSL := Lib.hid hs.sl
  have HSP := Lib.hid (show ∀ u : World, Only w u (fun b => b = L.bs ∨ b = L.bc) → Sl RPack u L.S A' mp c' nd.2.2.2 from fun u hu => hsp.keep (hu.kept fun b hb e => by
   rcases e with e | e
   · exact (hL.ap b hb).1 e
   exact (hL.ap b hb).2 e))
  have HBS := Lib.hid (And.intro (heap_lt hin.bs) (heap_lt hin.bc))
  have hin1 := hin.setS hL v 1
  have HO1 := Lib.hid (show Only w (w.setCell ⟨L.bs, v, none⟩ (.int .i64 1)) (fun b => b = L.bs ∨ b = L.bc) from (Only.set w L.bs _ _ rfl : Only w (w.setCell ⟨L.bs, v, none⟩ (.int .i64 1)) (fun b => b = L.bs)).more fun b _ h => .inl h)
  obtain ⟨wa, hwa⟩ : ∃ wa : World, wa = w.setCell ⟨L.bs, v, none⟩ (.int .i64 1) := ⟨_, rfl⟩
  rw [← hwa] at hin1 HO1
  have hap := hL.ap bN hSb
  have hmv : ∀ (o : Nat) (u : Value), w.cell? ⟨bN, o, none⟩ = some u → wa.cell? ⟨bN, o, none⟩ = some u := fun o u hu => by
   have h1 := HO1.out.block bN (cell_lt hu) (by rintro (e | e); exact hap.1 e; exact hap.2 e)
   unfold World.cell? at hu ⊢
   rw [h1]
   exact hu
  have q0 := hmv _ _ n0
  have q1 := hmv _ _ n1
  have q2 := hmv _ _ n2
  have q3 := hmv _ _ n3
  have q4 := hmv _ _ n4
  obtain ⟨j1, j2, _, j3, j4⟩ := hin1.cells
  have hct : ct[v]? = some 0 := hs.zero v hx
  obtain ⟨kc, kcf⟩ := hin1.bc.at_ hct
  obtain ⟨w2, hw2⟩ : ∃ w2 : World, w2 = wa.alloc (.cells #[.bool nd.1.1, .int .i64 nd.1.2, .int .i64 nd.2.1, .int .i64 nd.2.2.1, .slice A' mp c'] 106) := ⟨_, rfl⟩
  have hb2 : Below wa.heap.size wa w2 := by rw [hw2]; exact (Below.refl _ _).alloc (Nat.le_refl _) _
  have HIN2 := Lib.hid (hin1.below hb2)
  have HO2 := Lib.hid (show Only w w2 (fun b => b = L.bs ∨ b = L.bc) from HO1.out.trans (Only.of_below hb2 (Nat.le_refl _) _))
  have hbn : w2.heap[wa.heap.size]? = some (.cells #[.bool nd.1.1, .int .i64 nd.1.2, .int .i64 nd.2.1, .int .i64 nd.2.2.1, .slice A' mp c'] 106 (0, 0)) := by rw [hw2]; exact heap_alloc_new _ _
  have HBN := Lib.hid hbn
  have HZA := Lib.hid (show w.heap.size ≤ wa.heap.size from HO1.out.size)
  obtain ⟨i1, i2, _, i3, i4⟩ := HIN2.out.cells
  obtain ⟨ic, icf⟩ := HIN2.out.bc.at_ hct
  have HW2 := Lib.hid hw2
  have HWA := Lib.hid hwa
  have hlt3 := cell_lt i3
  rw [hw2] at i1 i2 i3 i4 ic icf
  rw [hwa] at j1 j2 j3 j4 kc kcf q0 q1 q2 q3 q4 i1 i2 i3 i4 ic icf
  rw [hA] at k2 j2 i2
  clear hw2 hwa hb2 hmv hap n0 n1 n2 n3 n4 hbn
  by_cases ht : nd.1.1 = true
  ·
   have hp0 := hpt ht
   have hm0 : mp = 0 := by rw [hml, hp0]; rfl
   have HW0 := Lib.hid (CnW.start hs hx 1)
   have HAC := Lib.hid (show Acc (fun y x => NEdge L.ns x y) v from Acc.intro _ fun y hy => by
    obtain ⟨nd', h1, p, hp, hk⟩ := hy
    rw [HND.out] at h1
    injection h1 with h1
    subst h1
    rw [hp0] at hp
    cases hp)
   have hval : 1 = nC L.ns v := by
    rw [nC_eq HL.out.kids HAC.out]
    unfold nodeV
    rw [HND.out]
    show _ = packsV (nC L.ns) (baseV nd) nd.2.2.2
    rw [hp0, show baseV nd = 1 by unfold baseV; rw [ht]; rfl]
    rfl
   have HFI := Lib.hid (HW0.out.finish HAC.out hval)
   have HI3 := Lib.hid (HIN2.out.setC HL.out v 1)
   have HO3 := Lib.hid (show Only w (w2.setCell ⟨L.bc, v, none⟩ (.int .i64 1)) (fun b => b = L.bs ∨ b = L.bc) from HO2.out.trans ((Only.set w2 L.bc _ _ rfl : Only w2 (w2.setCell ⟨L.bc, v, none⟩ (.int .i64 1)) (fun b => b = L.bc)).more fun b _ h => .inr h))
   have HW3 := Lib.hid (show w2 = (w.setCell ⟨L.bs, v, none⟩ (.int .i64 1)).alloc (.cells #[.bool true, .int .i64 nd.1.2, .int .i64 nd.2.1, .int .i64 nd.2.2.1, .slice A' mp c'] 106) by rw [HW2.out, HWA.out, ht])
   rw [ht] at q0 i1 i2 i3 i4 ic icf
   subst hm0
   have hb5 : (w.setCell ⟨L.bs, v, none⟩ (.int .i64 1)).heap.size = wa.heap.size := by rw [HWA.out]
   obtain ⟨w3, hw3⟩ : ∃ w3 : World, w3 = w2.setCell ⟨L.bc, v, none⟩ (.int .i64 1) := ⟨_, rfl⟩
   rw [← hw3] at HI3 HO3
   have HW4 := Lib.hid (show w3 = ((w.setCell ⟨L.bs, v, none⟩ (.int .i64 1)).alloc (.cells #[.bool true, .int .i64 nd.1.2, .int .i64 nd.2.1, .int .i64 nd.2.2.1, .slice A' 0 c'] 106)).setCell ⟨L.bc, v, none⟩ (.int .i64 1) by rw [hw3, HW3.out])
   have hbn3 : w3.heap[wa.heap.size]? = some (.cells #[.bool nd.1.1, .int .i64 nd.1.2, .int .i64 nd.2.1, .int .i64 nd.2.2.1, .slice A' 0 c'] 106 (0, 0)) := by
    rw [hw3, Below.heap_setCell _ _ _ _ (by have h1 := HBS.out.2; have h2 := HZA.out; show wa.heap.size ≠ L.bc; omega)]
    exact HBN.out
   have kn : w3.cell? ⟨wa.heap.size, 4, none⟩ = some (.slice A' 0 c') := by simp [World.cell?, hbn3]
   obtain ⟨y1, _, _, _, _⟩ := HI3.out.cells
   obtain ⟨ys, ysf⟩ := HI3.out.bs.at_ ((HW0.out.one v).2 (.inl rfl))
   have HI4 := Lib.hid (HI3.out.setS HL.out v 2)
   have HO4 := Lib.hid (show Only w (w3.setCell ⟨L.bs, v, none⟩ (.int .i64 2)) (fun b => b = L.bs ∨ b = L.bc) from HO3.out.trans ((Only.set w3 L.bs _ _ rfl : Only w3 (w3.setCell ⟨L.bs, v, none⟩ (.int .i64 2)) (fun b => b = L.bs)).more fun b _ h => .inl h))
   have HY := Lib.hid (And.intro y1 (And.intro ys ysf))
   rw [HW4.out] at kn
   clear hs hx hct hin hin1 hL IH hz hr hvn hpl hpt hpk hsp hnd hSb hml hval hp0 hbn3 hw3 y1 ys ysf
   go_enter Tryz.func51, Tryz.ntmps51
   go_wp2_with fail
   rw [← HW4.out]
   clear k1 k2 k3 k4 kx kf j1 j2 j3 j4 kc kcf i1 i2 i3 i4 ic icf q0 q1 q2 q3 q4 kn
   go_loopg [40] 0 (fun gk v40 wr => gk = 0 ∧ v40 = .int .i64 0 ∧ wr = w3)
   case atStart => exact ⟨rfl, rfl, rfl⟩
   case round =>
    obtain ⟨_, rfl, rfl⟩ := hrel
    obtain ⟨y1, ys, ysf⟩ := HY.out
    go_wp2_with fail
    go_ret
    exact ⟨.inl ⟨_, _, rfl, HI4.out, HFI.out.1, HFI.out.2.1, HFI.out.2.2⟩, HO4.out⟩
  have htb : nd.1.1 = false := by simpa using ht
  have HW0 := Lib.hid (show CnW L.ns v st ct 0 (st.set v 1) ct by
   have h1 := CnW.start hs hx 0
   rw [show ct.set v ((0 : Nat) : Int) = ct from by
    apply List.ext_getElem?
    intro i
    rw [List.getElem?_set]
    by_cases e : v = i
    ·
     subst e
     rw [hct]
     simp [show v < ct.length by rw [hs.cl]; exact hvn]
    simp [e]] at h1
   exact h1)
  have HTB := Lib.hid htb
  rw [htb] at q0
  have hb5 : (w.setCell ⟨L.bs, v, none⟩ (.int .i64 1)).heap.size = wa.heap.size := by rw [HWA.out]
  clear hs hx hct hin hin1 hL IH hz hr hvn hpl hpt hpk hsp hnd hSb hml
  go_enter Tryz.func51, Tryz.ntmps51
  have HW3 := Lib.hid (show w2 = (w.setCell ⟨L.bs, v, none⟩ (.int .i64 1)).alloc (.cells #[.bool false, .int .i64 nd.1.2, .int .i64 nd.2.1, .int .i64 nd.2.2.1, .slice A' mp c'] 106) by rw [HW2.out, HWA.out, HTB.out])
  go_wp2_with fail
  rw [← HW3.out]
  clear k1 k2 k3 k4 kx kf j1 j2 j3 j4 kc kcf i1 i2 i3 i4 ic icf q0 q1 q2 q3 q4
  go_loopg [40] mp (fun gk v40 wr => ∃ (i : Nat) (st1 ct1 : List Int), i ≤ mp ∧ gk = mp - i ∧ v40 = .int .i64 i ∧ CnIn L wr st1 ct1 ∧ CnW L.ns v st ct (packsV (nC L.ns) 0 (nd.2.2.2.take i)) st1 ct1 ∧ (∀ p ∈ nd.2.2.2.take i, ∀ k ∈ p.2, st1[k.toNat]? = some 2) ∧ Only w wr (fun b => b = L.bs ∨ b = L.bc))
  case atStart => exact ⟨0, _, _, Nat.zero_le _, rfl, rfl, HIN2.out, HW0.out, (fun p hp => by cases hp), HO2.out⟩
  case round =>
   obtain ⟨i, st1, ct1, hi, hgi, rfl, hin, hcw, hkd, ho⟩ := hrel
   obtain ⟨w5, rfl⟩ : ∃ w5 : World, w5 = wr := ⟨_, rfl⟩
   have HGI := Lib.hid hgi
   have HI5 := Lib.hid hin
   have HC5 := Lib.hid hcw
   have HK5 := Lib.hid hkd
   have HO5 := Lib.hid ho
   clear hgi hin hcw hkd ho
   by_cases hil : i < mp
   ·
    have hiI : (i : Int) < (mp : Int) := by omega
    have hi0 : (0 : Int) ≤ (i : Int) := by omega
    obtain ⟨bP, oP, u1, u2, p, rfl, hPb, hp, hok, hc1, hc2⟩ := (HSP.out w5 HO5.out).at2 (k := i) rfl hil
    obtain ⟨A1, m1, c1, h2, hsl⟩ := RPack.cells.1 hok
    injection h2 with e1 h2
    injection h2 with e2 _
    subst e1
    subst e2
    have hc1 : w5.cell? ⟨bP, oP + i * 2, none⟩ = some (.int .i64 p.1) := hc1
    have hc2 : w5.cell? ⟨bP, oP + i * 2 + 1, none⟩ = some (.slice A1 m1 c1) := hc2
    have hpm := List.mem_of_getElem? hp
    have hm1 : m1 ≤ 1000000 := by rw [hsl.len]; exact HPK.out p hpm
    have HP := Lib.hid hp
    have HPM := Lib.hid hpm
    have HSL1 := Lib.hid hsl
    obtain ⟨w6, hw6⟩ : ∃ w6 : World, w6 = w5.alloc (.cells #[.int .i64 p.1, .slice A1 m1 c1] 111) := ⟨_, rfl⟩
    have hb6 : Below w5.heap.size w5 w6 := by rw [hw6]; exact (Below.refl _ _).alloc (Nat.le_refl _) _
    have HI6 := Lib.hid (HI5.out.below hb6)
    have HO56 := Lib.hid (show Only w5 w6 (fun b => b = L.bs ∨ b = L.bc) from Only.of_below hb6 (Nat.le_refl _) _)
    have HW6 := Lib.hid hw6
    obtain ⟨c, hcq⟩ : ∃ c, c = packsV (nC L.ns) 0 (nd.2.2.2.take i) := ⟨_, rfl⟩
    have HCQ := Lib.hid hcq
    rw [← hcq] at HC5
    clear hok hsl hp hpm hw6 hb6 hcq
    go_wp2_with fail
    rw [← HW6.out]
    clear hc1 hc2
    go_loopg [10, 47] m1 (fun gk v10 v47 wr => ∃ (j : Nat) (st2 ct2 : List Int), j ≤ m1 ∧ gk = m1 - j ∧ v47 = .int .i64 j ∧ v10 = .int .i64 (prodV (nC L.ns) (p.2.take j) : Int) ∧ CnIn L wr st2 ct2 ∧ CnW L.ns v st ct c st2 ct2 ∧ (∀ p ∈ nd.2.2.2.take i, ∀ k ∈ p.2, st2[k.toNat]? = some 2) ∧ (∀ k ∈ p.2.take j, st2[k.toNat]? = some 2) ∧ Only w5 wr (fun b => b = L.bs ∨ b = L.bc))
    case atStart => exact ⟨0, _, _, Nat.zero_le _, rfl, rfl, rfl, HI6.out, HC5.out, HK5.out, (fun k hk => by cases hk), HO56.out⟩
    case round =>
     obtain ⟨j, st2, ct2, hj, hgj, rfl, rfl, hin, hcw, hkd, hkj, ho⟩ := hrel
     obtain ⟨w7, rfl⟩ : ∃ w7 : World, w7 = wr := ⟨_, rfl⟩
     have HGJ := Lib.hid hgj
     have HI7 := Lib.hid hin
     have HC7 := Lib.hid hcw
     have HK7 := Lib.hid hkd
     have HJ7 := Lib.hid hkj
     have HO7 := Lib.hid (HO5.out.trans ho)
     have HO57 := Lib.hid ho
     obtain ⟨X, hX⟩ : ∃ X, X = prodV (nC L.ns) (p.2.take j) := ⟨_, rfl⟩
     have hXl : X ≤ 1000000000 := by rw [hX]; exact prodV_le _ _
     have HX := Lib.hid hX
     rw [← hX]
     clear hgj hin hcw hkd hkj ho hX
     by_cases hjl : j < m1
     ·
      have hjI : (j : Int) < (m1 : Int) := by omega
      have hj0 : (0 : Int) ≤ (j : Int) := by omega
      obtain ⟨bK, oK, k, rfl, _, hk, hck⟩ := (HSL1.out.keep (HO57.out.kept fun b hb e => by
       rcases e with e | e
       · exact (HL.out.ap b hb).1 e
       exact (HL.out.ap b hb).2 e)).ints.int_at hjl
      have hkm := List.mem_of_getElem? hk
      have hkr := HL.out.kids nd (List.mem_of_getElem? HND.out) p HPM.out k hkm
      obtain ⟨kn, rfl⟩ : ∃ kn : Nat, k = (kn : Int) := ⟨k.toNat, by omega⟩
      have hknL : kn < L.n := by rw [HL.out.len]; omega
      have hknI : (kn : Int) < (L.n : Int) := by omega
      have hkn0 : (0 : Int) ≤ (kn : Int) := by omega
      have HEDG := Lib.hid (show NEdge L.ns v kn from ⟨nd, HND.out, p, HPM.out, hkm⟩)
      have HKK := Lib.hid hk
      have hfv := HI7.out.cells.2.2.2.2
      have hent := enters_visit
      clear hkm hkr hk
      go_wp2_with fail
      go_at_call 51
      refine (HIH.out (zs st2) (by have := HC7.out.few HSL.out; have := HZ.out; omega) w7 st2 ct2 kn (Nat.le_refl _) hknL HI7.out HC7.out.s (fun q hq => by
       rcases (HC7.out.one q).1 hq with rfl | h
       · exact .one HEDG.out
       exact (HR.out q h).trans (.one HEDG.out))).mono ?_
      rintro e w8 ⟨h, ho8⟩
      have HO8 := Lib.hid ho8
      clear ho8 hfv hck
      rcases h with ⟨st3, ct3, rfl, hi8, hs8, hn8, ht8⟩ | ⟨rfl, hna⟩
      ·
       have HI8 := Lib.hid hi8
       have HS8 := Lib.hid hs8
       have HN8 := Lib.hid hn8
       have HT8 := Lib.hid ht8
       obtain ⟨_, _, _, y3, _⟩ := hi8.cells
       obtain ⟨yc, _⟩ := hi8.bc.at_ (hs8.done kn ht8).2
       obtain ⟨C, hC⟩ : ∃ C, C = nC L.ns kn := ⟨_, rfl⟩
       have hCl : C ≤ 1000000000 := by rw [hC]; exact nC_le HL.out.kids kn
       have HCN := Lib.hid hC
       rw [← hC] at yc
       have hmul : (X : Int) * (C : Int) = ((X * C : Nat) : Int) := by simp
       have hxc : X * C ≤ 1000000000000000000 := Nat.le_trans (Nat.mul_le_mul hXl hCl) (by decide)
       obtain ⟨Y, hY⟩ : ∃ Y, Y = X * C := ⟨_, rfl⟩
       rw [← hY] at hmul hxc
       have HY := Lib.hid hY
       clear hi8 hs8 hn8 ht8 hC hY
       have HPV := Lib.hid (show prodV (nC L.ns) (p.2.take (j + 1)) = cp Y by rw [prodV_take HKK.out, Int.toNat_natCast, HY.out, HX.out, HCN.out])
       have HREL := Lib.hid (show CnW L.ns v st ct c st3 ct3 ∧ (∀ p ∈ nd.2.2.2.take i, ∀ k ∈ p.2, st3[k.toNat]? = some 2) ∧ (∀ k ∈ p.2.take (j + 1), st3[k.toNat]? = some 2) ∧ Only w5 w8 (fun b => b = L.bs ∨ b = L.bc) from ⟨HC7.out.visit HS8.out HN8.out, fun q hq k hk => HN8.out.two _ (HK7.out q hq k hk), fun k hk => by
        rw [List.take_add_one, HKK.out, Option.toList_some] at hk
        rcases List.mem_append.1 hk with h | h
        · exact HN8.out.two _ (HJ7.out k h)
        rw [List.mem_singleton.1 h, Int.toNat_natCast]; exact HT8.out, HO57.out.trans HO8.out⟩)
       go_wp2_with fail
       ·
        go_roundg (m1 - (j + 1))
        case measure => rw [HGJ.out]; omega
        case rel => exact ⟨j + 1, st3, ct3, by omega, rfl, by go_num, by rw [HPV.out]; unfold cp MC; rw [Nat.min_eq_right (by omega)]; rfl, HI8.out, HREL.out⟩
       go_roundg (m1 - (j + 1))
       case measure => rw [HGJ.out]; omega
       case rel => exact ⟨j + 1, st3, ct3, by omega, rfl, by go_num, by rw [HPV.out]; unfold cp MC; rw [Nat.min_eq_left (by omega)], HI8.out, HREL.out⟩
      have HNA := Lib.hid hna
      clear hna
      go_wp2_with fail
      go_ret
      exact ⟨.inr ⟨rfl, fun h => HNA.out (h.inv HEDG.out)⟩, HO7.out.trans HO8.out⟩
     obtain rfl : m1 = j := by omega
     obtain ⟨_, _, _, y3, _⟩ := HI7.out.cells
     obtain ⟨yc, ycf⟩ := HI7.out.bc.at_ HC7.out.cv
     have hcl : c ≤ 1000000000 := by rw [HCQ.out]; exact packsV_le _ _ (by decide)
     have HJA := Lib.hid (show p.2.take m1 = p.2 from List.take_of_length_le (by rw [HSL1.out.len]; exact Nat.le_refl _))
     have HPV := Lib.hid (show packsV (nC L.ns) 0 (nd.2.2.2.take (i + 1)) = cp (c + X) by rw [packsV_take HP.out, ← HCQ.out, HX.out, HJA.out])
     have HREL := Lib.hid (show ∀ p ∈ nd.2.2.2.take (i + 1), ∀ k ∈ p.2, st2[k.toNat]? = some 2 from fun q hq k hk => by
      rw [List.take_add_one, HP.out, Option.toList_some] at hq
      rcases List.mem_append.1 hq with h | h
      · exact HK7.out q h k hk
      rw [List.mem_singleton.1 h] at hk
      exact HJ7.out k (by rw [HJA.out]; exact hk))
     go_wp2_with fail
     go_region
     have hE : (if (1000000000 : Int) < (c : Int) + (X : Int) then (1000000000 : Int) else (c : Int) + (X : Int)) = ((cp (c + X) : Nat) : Int) := by
      unfold cp MC
      split
      · rw [Nat.min_eq_right (by omega)]; rfl
      rw [Nat.min_eq_left (by omega)]; simp
     rw [hE]
     obtain ⟨w9, hw9⟩ : ∃ w9 : World, w9 = (w7.setCell ⟨L.bc, v, none⟩ (.int .i64 ((cp (c + X) : Nat) : Int))).drew := ⟨_, rfl⟩
     rw [← hw9]
     have HI9 := Lib.hid (show CnIn L w9 st2 (ct2.set v ((cp (c + X) : Nat) : Int)) by rw [hw9]; exact (HI7.out.setC HL.out v _).below (Below.refl _ _).drew)
     have HO9 := Lib.hid (show Only w w9 (fun b => b = L.bs ∨ b = L.bc) by
      rw [hw9]
      exact HO7.out.trans (((Only.set w7 L.bc _ _ rfl : Only w7 (w7.setCell ⟨L.bc, v, none⟩ (.int .i64 ((cp (c + X) : Nat) : Int))) (fun b => b = L.bc)).more fun b _ h => .inr h).trans (.drew _ _)))
     have HCN := Lib.hid (HC7.out.add (cp (c + X)))
     clear hw9 hE yc ycf y3
     go_wp2_with fail
     go_roundg (mp - (i + 1))
     case measure => rw [HGI.out]; omega
     case rel => exact ⟨i + 1, st2, _, by omega, rfl, by go_num, HI9.out, by rw [HPV.out]; exact HCN.out, HREL.out, HO9.out⟩
   obtain rfl : mp = i := by omega
   obtain ⟨y1, _, _, _, _⟩ := HI5.out.cells
   obtain ⟨ys, ysf⟩ := HI5.out.bs.at_ ((HC5.out.one v).2 (.inl rfl))
   have HTA := Lib.hid (show nd.2.2.2.take mp = nd.2.2.2 from List.take_of_length_le (by rw [HML.out]; exact Nat.le_refl _))
   have HAC := Lib.hid (show Acc (fun y x => NEdge L.ns x y) v from Acc.intro _ fun y hy => by
    obtain ⟨nd', h1, p, hp, hk⟩ := hy
    rw [HND.out] at h1
    injection h1 with h1
    subst h1
    have h2 := HK5.out p (by rw [HTA.out]; exact hp) _ hk
    rw [Int.toNat_natCast] at h2
    exact (HC5.out.s.done y h2).1)
   have hval : packsV (nC L.ns) 0 (nd.2.2.2.take mp) = nC L.ns v := by
    rw [nC_eq HL.out.kids HAC.out, HTA.out]
    unfold nodeV
    rw [HND.out]
    show _ = packsV (nC L.ns) (baseV nd) nd.2.2.2
    rw [show baseV nd = 0 by unfold baseV; rw [HTB.out]; rfl]
   have HFI := Lib.hid (HC5.out.finish HAC.out hval)
   have HI6 := Lib.hid (HI5.out.setS HL.out v 2)
   have HO6 := Lib.hid (show Only w (w5.setCell ⟨L.bs, v, none⟩ (.int .i64 2)) (fun b => b = L.bs ∨ b = L.bc) from HO5.out.trans ((Only.set w5 L.bs _ _ rfl : Only w5 (w5.setCell ⟨L.bs, v, none⟩ (.int .i64 2)) (fun b => b = L.bs)).more fun b _ h => .inl h))
   clear hval
   go_wp2_with fail
   go_ret
   exact ⟨.inl ⟨_, _, rfl, HI6.out, HFI.out.1, HFI.out.2.1, HFI.out.2.2⟩, HO6.out⟩
 ·
  have hn : ¬ Acc (fun y x => NEdge L.ns x y) v := fun h => acc_irr h (hr v hx)
  have HN := Lib.hid hn
  clear IH hz hin hs hr hL hn hx
  go_enter Tryz.func51, Tryz.ntmps51
  go_wp2_with fail
  go_ret
  exact ⟨.inr ⟨rfl, HN.out⟩, Only.refl _ _⟩
 have HI := Lib.hid hin
 have HS := Lib.hid hs
 have HX := Lib.hid hx
 clear IH hz hin hs hr hL hx
 go_enter Tryz.func51, Tryz.ntmps51
 go_wp2_with fail
 go_ret
 exact ⟨.inl ⟨st, ct, rfl, HI.out, HS.out, .refl _ _, HX.out⟩, Only.refl _ _⟩
end Go.Proofs.YtjnbjdbndbbanaaGreatDoor
