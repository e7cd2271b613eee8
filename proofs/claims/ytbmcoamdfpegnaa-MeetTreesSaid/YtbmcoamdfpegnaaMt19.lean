/- GMapR MkAdd -/
import Derived.Test.YtbmcoamdfpegnaaMt10
import Derived.Test.YtbmcoamdfpegnaaMt18
namespace Go.Proofs.Ytbmcoamdfpegnaa
open Go.RowKit Go.Maps
def ARng {P : Program} {k : TypeId} {κ : Type} (K : KeyRep P k κ) (w : World) (b r : Nat) (l : List (κ × Value)) (seen : κ → Prop) (cnt : Nat) : Prop :=
 ∃ (D : DataW Value) (left : Lit → Bool) (n : Nat), w.ranges P k hvR b r n D left cnt ∧
  (∀ p ∈ l, ∃ kl, keyOf P k (K.val p.1) = some kl ∧ Maps.has D kl = true ∧ ∀ z, D.atKey kl z = .held p.2) ∧
  (∀ kl, Maps.has D kl = true → ∃ p ∈ l, keyOf P k (K.val p.1) = some kl) ∧
  (∀ kl, left kl = true → Maps.has D kl = true) ∧
  ∀ p ∈ l, ∀ kl, keyOf P k (K.val p.1) = some kl → left kl = false → seen p.1
section
variable {P : Program} {k : TypeId} {κ : Type} {K : KeyRep P k κ} {w w' : World} {b r : Nat} {l : List (κ × Value)} {seen : κ → Prop} {cnt : Nat}
theorem ARng.only {X : Nat → Prop} (h : ARng K w b r l seen cnt) (ho : Only w w' X) (hb : ¬ X b) (hr : ¬ X r) : ARng K w' b r l seen cnt := by
 obtain ⟨D, left, n, h1, h2⟩ := h
 have l1 := h1.owns.lt
 have l2 := h1.lt
 obtain ⟨es, clock, since, sn, c0, e1, e2, e3, e4, e5, e6⟩ := h1
 exact ⟨D, left, n, ⟨es, clock, since, sn, c0, (ho.block _ l1 hb).trans e1, e2, e3, e4, (ho.block _ l2 hr).trans e5, e6⟩, h2⟩
variable {ops : Array Oper} {rest : List Oper} {o : Oper} {a : Act} {Q : Exit → Act → World → Prop}
theorem wpList_anext (hg : o.guard = none) (it : Operand) (hop : o.op = Op.next it false) (b r : Nat) (l : List (κ × Value)) (seen : κ → Prop) (cnt : Nat) (hit : a.eval it = .pointer (some ⟨r, 0, none⟩)) (h : ARng K w b r l seen cnt)
    (hDone : (∀ p ∈ l, seen p.1) → wpList P ops Q rest (a.put o.dst (.tuple #[.bool false])) w)
    (hMore : ∀ (x : κ) (v : Value) (w' : World) (cnt' : Nat), (x, v) ∈ l → cnt' < cnt → ARng K w' b r l (fun y => seen y ∨ y = x) cnt' → w.grownBy w' (some r) → w'.heap.size = w.heap.size →
     (Instr.entry (.pointer (some ⟨r, 0, none⟩))).run P w' = .ok (.tuple #[K.val x, v]) w' → wpList P ops Q rest (a.put o.dst (.tuple #[.bool true, K.val x, v])) w') :
    wpList P ops Q (o :: rest) a w := by
 obtain ⟨D, left, n, h1, h2, h3, h4, h5⟩ := h
 refine wpList_plain hg fun K' hK' => ?_
 unfold Oper.wp
 rcases h1.next K.keyed o.type with ⟨h0, hl, hrun⟩ | ⟨key, v, kl, y, w', cnt', hkey, hlk, hv, hat, hrun, hrg, hlt, hgr, hsz, hen⟩
 ·
  simp [execOp, hop, hit, hrun, Result.andThen]
  refine hK' _ _ (hDone fun p hp => ?_)
  obtain ⟨kl, e1, _⟩ := h2 p hp
  exact h5 p hp kl e1 (hl kl)
 ·
  obtain ⟨p, hp, e1⟩ := h3 kl (h4 kl hlk)
  have ek : key = K.val p.1 := K.keyed.inj hkey e1
  subst ek
  have ev : v = p.2 := by
   obtain ⟨kl', e2, _, e3⟩ := h2 p hp
   rw [e1] at e2
   injection e2 with e2
   subst e2
   have e4 := hat (.held v)
   rw [e3] at e4
   injection hv with hv
   rw [← hv] at e4
   injection e4 with e4
   exact e4.symm
  subst ev
  simp [execOp, hop, hit, hrun, Result.andThen]
  refine hK' _ _ (hMore p.1 p.2 w' cnt' hp hlt ⟨D, _, n, hrg, h2, h3, fun z hz => h4 z (by simp only [Bool.and_eq_true] at hz; exact hz.1), fun q hq z hz hzl => ?_⟩ hgr hsz hen)
  by_cases e : left z = false
  ·
   exact .inl (h5 q hq z hz e)
  ·
   simp only [Bool.not_eq_false] at e
   simp only [e, Bool.true_and, Bool.not_eq_false'] at hzl
   have := WideAt.sameKey_eq hzl
   subst this
   exact .inr (K.inj _ _ (K.keyed.inj hz e1))
end
end Go.Proofs.Ytbmcoamdfpegnaa
namespace Go.Proofs.Ytbmcoamdfpegnaa
open Go.RowKit Go.Maps
abbrev RTri : Rep TriD where
 size := 3
 ok := fun _ _ cs t => cs = [.int .i64 (t.1 : Int), .int .i64 (t.2.1 : Int), .int .i64 (t.2.2 : Int)]
 pos := by decide
 len := by rintro _ _ _ _ rfl; rfl
 keep := by intro _ _ _ _ _ h _; exact h
 more := by intro _ _ _ _ _ h _; exact h
 fit := by intro _ _ _ _ h; exact h
 one := by
  rintro _ _ _ _ rfl u hu
  rcases List.mem_cons.1 hu with rfl | hu
  ·
   rfl
  ·
   rcases List.mem_cons.1 hu with rfl | hu
   ·
    rfl
   ·
    obtain rfl := List.mem_singleton.1 hu; rfl
theorem tTris : SlType Try.prog 107 92 3 24 (.agg #[.int .i64 0, .int .i64 0, .int .i64 0]) := ⟨by kernel_rfl, by kernel_rfl, by kernel_rfl, rfl, by decide⟩
theorem Sl.tri {w : World} {S : Nat → Prop} {A : Option Addr} {n c : Nat} {l : List TriD} (h : Sl RTri w S A n c l) {k : Nat} (hk : k < n) :
    ∃ (b off : Nat) (t : TriD), A = some ⟨b, off, none⟩ ∧ S b ∧ l[k]? = some t ∧ w.cell? ⟨b, off + k * 3, none⟩ = some (.int .i64 (t.1 : Int)) ∧ w.cell? ⟨b, off + k * 3 + 1, none⟩ = some (.int .i64 (t.2.1 : Int)) ∧ w.cell? ⟨b, off + k * 3 + 2, none⟩ = some (.int .i64 (t.2.2 : Int)) := by
 obtain ⟨xs, e1, e2, h3, h4⟩ := h
 subst e1
 have hg := h4.get hk
 have hl := h4.len
 simp only at hg hl h3
 obtain ⟨b, off, e, hS, hc⟩ := h3.2 (by omega)
 have i1 : k * 3 < xs.length := by omega
 have i2 : k * 3 + 1 < xs.length := by omega
 have i3 : k * 3 + 2 < xs.length := by omega
 rw [List.drop_eq_getElem_cons i1, List.drop_eq_getElem_cons i2, List.drop_eq_getElem_cons i3] at hg
 have hg : [xs[k * 3], xs[k * 3 + 1], xs[k * 3 + 2]] = _ := hg
 injection hg with g1 hg
 injection hg with g2 hg
 injection hg with g3 _
 refine ⟨b, off, l[k], e, hS, List.getElem?_eq_getElem hk, ?_, ?_, ?_⟩
 ·
  rw [← g1]; exact hc _ _ (List.getElem?_eq_getElem i1)
 ·
  rw [← g2]; exact hc _ _ (List.getElem?_eq_getElem i2)
 ·
  rw [← g3]; exact hc _ _ (List.getElem?_eq_getElem i3)
structure NdBox where
 K : Nat
 Bx : Nat
 Bs : Nat
 Bq : Nat
 Bo : Nat
structure NdBox.Ok (M : Mkr) (N : NdBox) : Prop where
 kx : N.K ≤ N.Bx
 ks : N.K ≤ N.Bs
 kq : N.K ≤ N.Bq
 ko : N.K ≤ N.Bo
 xs : N.Bx ≠ N.Bs
 xq : N.Bx ≠ N.Bq
 xo : N.Bx ≠ N.Bo
 sq : N.Bs ≠ N.Bq
 so : N.Bs ≠ N.Bo
 qo : N.Bq ≠ N.Bo
 mb : M.Bm < N.K
 mw : M.Bw < N.K
 ms : ∀ b, M.S b → b < N.K
structure NdSt (M : Mkr) (N : NdBox) (W : List TriD) (w : World) (F : Nat → Prop) (v : Value) (L : List TriD) : Prop where
 inn : M.In w W
 bx : w.heap[N.Bx]? = some (.cells #[.pointer (some ⟨M.Bm, 0, none⟩)] 71 (0, 0))
 bs : w.heap[N.Bs]? = some (.cells #[.map (some N.Bq)] 104 (0, 0))
 bo : w.heap[N.Bo]? = some (.cells #[v] 107 (0, 0))
 sq : TMap w N.Bq L
 out : GL RTri 92 w F v L
 off : ∀ b, F b → N.K ≤ b ∧ b ≠ N.Bx ∧ b ≠ N.Bs ∧ b ≠ N.Bq ∧ b ≠ N.Bo
 tri : ∀ t ∈ L, M.Tri t
section
variable {M : Mkr} {N : NdBox} {W : List TriD} {w w' : World} {F : Nat → Prop} {v : Value} {L : List TriD}
theorem NdSt.only {X : Nat → Prop} (hN : N.Ok M) (h : NdSt M N W w F v L) (ho : Only w w' X) (hX : ∀ b, X b → N.K ≤ b ∧ b ≠ N.Bx ∧ b ≠ N.Bs ∧ b ≠ N.Bq ∧ b ≠ N.Bo ∧ ¬ (F b ∧ b < w.heap.size)) : NdSt M N W w' F v L := by
 have hm := hN.mb
 have hw := hN.mw
 refine ⟨h.inn.only ho fun b hb => ⟨by have := (hX b hb).1; omega, by have := (hX b hb).1; omega, fun hs => by have := hN.ms b hs; have := (hX b hb).1; omega⟩,
  (ho.block _ (heap_lt h.bx) fun hb => (hX _ hb).2.1 rfl).trans h.bx, (ho.block _ (heap_lt h.bs) fun hb => (hX _ hb).2.2.1 rfl).trans h.bs, (ho.block _ (heap_lt h.bo) fun hb => (hX _ hb).2.2.2.2.1 rfl).trans h.bo,
  h.sq.block (ho.block _ h.sq.map.lt fun hb => (hX _ hb).2.2.2.1 rfl), h.out.only ho fun b hb hl hx => (hX b hx).2.2.2.2.2 ⟨hb, hl⟩, h.off, h.tri⟩
theorem NdSt.below (hN : N.Ok M) (h : NdSt M N W w F v L) (hb : Below w.heap.size w w') : NdSt M N W w' F v L := h.only hN (X := fun _ => False) (.of_below hb (Nat.le_refl _) _) fun _ hx => hx.elim
theorem NdSt.fit (h : NdSt M N W w F v L) : NdSt M N W w (fun b => F b ∧ b < w.heap.size) v L :=
 ⟨h.inn, h.bx, h.bs, h.bo, h.sq, h.out.fit, fun b hb => h.off b hb.1, h.tri⟩
theorem NdSt.few (hM : M.Ok) (h : NdSt M N W w F v L) : L.length ≤ 1440 :=
 tri_few (n := M.n) (N := M.N) hM.n12 (by have := hM.g.n2; simp only at this; omega) h.sq.nodup h.tri
end
def addT (W L : List TriD) (t : TriD) : List TriD := if t ∈ W then insT L t else L
def AddR (M : Mkr) (N : NdBox) (W : List TriD) (w : World) (F : Nat → Prop) (L : List TriD) (e : Ending) (w' : World) : Prop :=
 e = .returned (.tuple #[]) ∧ ∃ (F' : Nat → Prop) (v' : Value), NdSt M N W w' F' v' L ∧ Only w w' (fun b => b = N.Bq ∨ b = N.Bo ∨ F b) ∧ (∀ b, F' b → F b ∨ w.heap.size ≤ b)
set_option linter.unusedSimpArgs false in
set_option maxRecDepth 100000 in
set_option maxHeartbeats 4000000 in
theorem mkAdd (M : Mkr) (hM : M.Ok) (N : NdBox) (hN : N.Ok M) (w : World) (W L : List TriD) (F : Nat → Prop) (v : Value) (h : NdSt M N W w F v L) (t : TriD) (ht : M.Tri t) :
    Calls Try.prog 79 #[.agg #[.int .i64 (t.1 : Int), .int .i64 (t.2.1 : Int), .int .i64 (t.2.2 : Int)], .pointer (some ⟨N.Bx, 0, none⟩), .pointer (some ⟨N.Bs, 0, none⟩), .pointer (some ⟨N.Bo, 0, none⟩)] w (AddR M N W w F (addT W L t)) := by
 have HS := Lib.hid h
 have HM := Lib.hid hM
 have HO := Lib.hid hN
 have HT := Lib.hid ht
 have hn12 := hM.n12
 have hN10 : M.N ≤ 10 := by have := hM.g.n2; simp only at this; omega
 obtain ⟨A, c, hv, hc⟩ := h.out.form
 subst hv
 obtain ⟨tq, ta, tp⟩ := t
 obtain ⟨ht1, ht2, ht3⟩ := ht
 simp only at ht1 ht2 ht3 ⊢
 obtain ⟨w1, hw1⟩ : ∃ w1 : World, w1 = w.alloc (.cells #[.int .i64 (tq : Int), .int .i64 (ta : Int), .int .i64 (tp : Int)] 92) := ⟨_, rfl⟩
 have hb1 : Below w.heap.size w w1 := by rw [hw1]; exact (Below.refl _ _).alloc (Nat.le_refl _) _
 have hbt : w1.heap[w.heap.size]? = some (.cells #[.int .i64 (tq : Int), .int .i64 (ta : Int), .int .i64 (tp : Int)] 92 (0, 0)) := by rw [hw1]; exact heap_alloc_new _ _
 have hst1 := h.below hN hb1
 have hc1 : w1.cell? ⟨N.Bx, 0, none⟩ = some (.pointer (some ⟨M.Bm, 0, none⟩)) ∧ w1.cell? ⟨M.Bm, 7, none⟩ = some (.map (some M.Bw)) ∧ w1.cell? ⟨N.Bs, 0, none⟩ = some (.map (some N.Bq)) ∧ w1.cell? ⟨w.heap.size, 0, none⟩ = some (.int .i64 (tq : Int)) ∧ w1.cell? ⟨w.heap.size, 1, none⟩ = some (.int .i64 (ta : Int)) ∧ w1.cell? ⟨w.heap.size, 2, none⟩ = some (.int .i64 (tp : Int)) :=
  ⟨by simp [World.cell?, hst1.bx], hst1.inn.cells.2.2.2.2.2.2.2, by simp [World.cell?, hst1.bs], by simp [World.cell?, hbt], by simp [World.cell?, hbt], by simp [World.cell?, hbt]⟩
 have hlk : ∀ n, (Instr.lookup 104 (.map (some M.Bw)) (.agg #[.int .i64 (tq : Int), .int .i64 (ta : Int), .int .i64 (tp : Int)]) false).run Try.prog (w1.drewN n) = .ok (.bool (decide ((tq, ta, tp) ∈ W))) (w1.drewN n) := fun n => by
  have h2 := AMap.look (w := w1.drewN n) (hst1.inn.words.map.below (below_drewN _ _ _)) mapTri zeroB (triOk tq ta tp (by omega) (by omega) (by omega))
  rw [lk_triB] at h2
  exact h2
 have hlk2 : ∀ n, (Instr.lookup 104 (.map (some N.Bq)) (.agg #[.int .i64 (tq : Int), .int .i64 (ta : Int), .int .i64 (tp : Int)]) false).run Try.prog (w1.drewN n) = .ok (.bool (decide ((tq, ta, tp) ∈ L))) (w1.drewN n) := fun n => by
  have h2 := AMap.look (w := w1.drewN n) (hst1.sq.map.below (below_drewN _ _ _)) mapTri zeroB (triOk tq ta tp (by omega) (by omega) (by omega))
  rw [lk_triB] at h2
  exact h2
 have HB1 := Lib.hid hb1
 have HS1 := Lib.hid hst1
 have HBT := Lib.hid hbt
 obtain ⟨c0, c1, c2, c3, c4, c5⟩ := hc1
 rw [hw1] at c0 c1 c2 c3 c4 c5 hlk hlk2
 have HW1 := Lib.hid hw1
 clear h hM hN hb1 hbt hst1 hw1
 by_cases hW : (tq, ta, tp) ∈ W
 ·
  have eW : decide ((tq, ta, tp) ∈ W) = true := by simpa using hW
  rw [eW] at hlk
  by_cases hL : (tq, ta, tp) ∈ L
  ·
   have eL : decide ((tq, ta, tp) ∈ L) = true := by simpa using hL
   rw [eL] at hlk2
   have HA := Lib.hid (show addT W L (tq, ta, tp) = L by unfold addT insT; rw [if_pos hW, if_pos hL])
   have HR := Lib.hid (show ∀ n, AddR M N W w F L (.returned (.tuple #[])) (w1.drewN n) from fun n => ⟨rfl, F, _, HS1.out.below HO.out (below_drewN _ _ _), .of_below (HB1.out.trans (below_drewN _ _ _)) (Nat.le_refl _) _, fun b hb => .inl hb⟩)
   clear eW eL hW hL
   go_enter Try.func79, Try.ntmps79
   go_wp2_with fail
   go_quiet (fail)
   go_wp2_with fail
   rw [← HW1.out, HA.out]
   refine Go.bodyPost_end (v := .tuple #[]) (by simp [results, Try.results79, go_sem]) rfl (HR.out _)
  ·
   have eL : decide ((tq, ta, tp) ∈ L) = false := by simpa using hL
   rw [eL] at hlk2
   have HA := Lib.hid (show addT W L (tq, ta, tp) = L ++ [(tq, ta, tp)] by unfold addT insT; rw [if_pos hW, if_neg hL])
   have HNL := Lib.hid hL
   clear eW eL hW hL
   go_enter Try.func79, Try.ntmps79
   go_wp2_with fail
   go_quiet (fail)
   rw [← HW1.out, HA.out]
   clear c0 c1 c2 c3 c4 c5 hlk hlk2
   obtain ⟨w2, hw2⟩ : ∃ w2 : World, w2 = w1.drewN nq := ⟨_, rfl⟩
   rw [← hw2]
   have HB2 := Lib.hid (show Below w.heap.size w w2 by rw [hw2]; exact HB1.out.trans (below_drewN _ _ _))
   have hst2 : NdSt M N W w2 F (.slice A L.length c) L := by rw [hw2]; exact HS1.out.below HO.out (below_drewN _ _ _)
   have hbt2 : w2.heap[w.heap.size]? = some (.cells #[.int .i64 (tq : Int), .int .i64 (ta : Int), .int .i64 (tp : Int)] 92 (0, 0)) := by rw [hw2]; exact HBT.out
   have hcs : w2.cell? ⟨N.Bs, 0, none⟩ = some (.map (some N.Bq)) := by simp [World.cell?, hst2.bs]
   obtain ⟨t0, t1, t2⟩ : w2.cell? ⟨w.heap.size, 0, none⟩ = some (.int .i64 (tq : Int)) ∧ w2.cell? ⟨w.heap.size, 1, none⟩ = some (.int .i64 (ta : Int)) ∧ w2.cell? ⟨w.heap.size, 2, none⟩ = some (.int .i64 (tp : Int)) := ⟨by simp [World.cell?, hbt2], by simp [World.cell?, hbt2], by simp [World.cell?, hbt2]⟩
   have hfew := hst2.few HM.out
   have hlw : N.Bx < w.heap.size ∧ N.Bs < w.heap.size ∧ N.Bq < w.heap.size ∧ N.Bo < w.heap.size := ⟨heap_lt HS.out.bx, heap_lt HS.out.bs, HS.out.sq.map.lt, heap_lt HS.out.bo⟩
   have HLW := Lib.hid hlw
   have HLM := Lib.hid (show (L.map fun t => (triZ t, Value.bool true)).length < maxLen by rw [List.length_map]; unfold maxLen; omega)
   have HS2 := Lib.hid hst2
   have HBT2 := Lib.hid hbt2
   have HKO := Lib.hid (triOk tq ta tp (by omega) (by omega) (by omega))
   have HLF := Lib.hid hfew
   clear hw2 hst2 hbt2 hlw hfew
   go_wp2_with (first
    | (at_mapUpdate; refine wpList_amap_put _ rfl _ _ _ 104 rfl 4 mapTri N.Bq _ rfl HS2.out.sq.map (triZ (tq, ta, tp)) rfl HKO.out (.bool true) rfl HLM.out ?_; intro w3 hm3 hg3; rw [putL_tri HNL.out] at hm3; have HM3 := Lib.hid hm3; have HG3 := Lib.hid hg3; have HBT3 := Lib.hid ((hg3.block _ (heap_lt HBT2.out) (by have := HLW.out; intro e; injection e with e; omega)).trans HBT2.out); have s0 : w3.cell? ⟨w.heap.size, 0, none⟩ = some (.int .i64 (tq : Int)) := (by simp [World.cell?, HBT3.out]); have s1 : w3.cell? ⟨w.heap.size, 1, none⟩ = some (.int .i64 (ta : Int)) := (by simp [World.cell?, HBT3.out]); have s2 : w3.cell? ⟨w.heap.size, 2, none⟩ = some (.int .i64 (tp : Int)) := (by simp [World.cell?, HBT3.out]); have HBO3 := Lib.hid ((hg3.block _ (heap_lt HS2.out.bo) (by intro e; injection e with e; exact HO.out.qo e.symm)).trans HS2.out.bo); have s3 : w3.cell? ⟨N.Bo, 0, none⟩ = some (.slice A L.length c) := (by simp [World.cell?, HBO3.out]); clear hm3 hg3; obtain ⟨A', c', w4, hrun, hgl, hg4, hrow⟩ := (HS2.out.out.only (Only.of_grown HG3.out (X := fun b => b = N.Bq) fun b e => by injection e with e; exact e.symm) (fun b hb _ e => (HS2.out.off b hb).2.2.2.1 e)).push tTris rfl (x := (tq, ta, tp)) (ys := [.int .i64 (tq : Int), .int .i64 (ta : Int), .int .i64 (tp : Int)]) (G := fun _ => False) rfl (fun b hb => hb.elim) (by have := HLF.out; omega) (by omega) 107; have HRUN := Lib.hid hrun; have HGL := Lib.hid hgl; have HG4 := Lib.hid hg4; have HBO4 := Lib.hid ((hg4.block _ (by have := heap_lt HBO3.out; simp; omega) (by intro e; exact (HS2.out.off _ (HS2.out.out.row _ e.symm)).2.2.2.2 rfl)).trans ((Below.heap_alloc w3 (.cells #[.int .i64 (tq : Int), .int .i64 (ta : Int), .int .i64 (tp : Int)] 92) _ (heap_lt HBO3.out)).trans HBO3.out)); have s4 : w4.cell? ⟨N.Bo, 0, none⟩ = some (.slice A L.length c) := (by simp [World.cell?, HBO4.out]); have s5 : w4.frozen? ⟨N.Bo, 0, none⟩ = false := (by simp [World.frozen?, HBO4.out]); clear hrun hgl hg4 hrow)
    | (at_builtin; refine Lib.wpList_append_run (o := ⟨some 22, _, _, _, _, _⟩) _ rfl _ _ _ _ rfl _ _ rfl rfl _ _ HRUN.out ?_))
   rw [HA.out]
   refine Go.bodyPost_end (v := .tuple #[]) (by simp [results, Try.results79, go_sem]) rfl ?_
   have hz2 := HB2.out.size
   have hz3 := HG3.out.size
   have hlw := HLW.out
   have g3 : Only w2 w3 (fun b => b = N.Bq) := Only.of_grown HG3.out fun b e => by injection e with e; exact e.symm
   have g4 : Only w3 w4 F := (Only.alloc _ _ _).trans (Only.of_grown HG4.out fun b e => HS2.out.out.row _ e)
   have g5 : Only w4 (w4.setCell ⟨N.Bo, 0, none⟩ (.slice A' (L.length + 1) c')) (fun b => b = N.Bo) := Only.set _ _ _ _ rfl
   have hmem : ∀ b, b < w3.heap.size → ¬ F b → b ≠ N.Bo → (w4.setCell ⟨N.Bo, 0, none⟩ (.slice A' (L.length + 1) c')).heap[b]? = w3.heap[b]? := fun b h1 h2 h3 => (g5.block b (Nat.lt_of_lt_of_le h1 g4.size) h3).trans (g4.block b h1 h2)
   have hF : ∀ b, F b → N.K ≤ b ∧ b ≠ N.Bx ∧ b ≠ N.Bs ∧ b ≠ N.Bq ∧ b ≠ N.Bo := HS2.out.off
   have hOk := HO.out
   have hall : Only w2 (w4.setCell ⟨N.Bo, 0, none⟩ (.slice A' (L.length + 1) c')) (fun b => b = N.Bq ∨ b = N.Bo ∨ F b) :=
    (g3.more fun b _ h => .inl h).trans ((g4.more fun b _ h => .inr (.inr h)).trans (g5.more fun b _ h => .inr (.inl h)))
   refine ⟨rfl, (fun b => F b ∨ b = w3.heap.size + 1), .slice A' (L.length + 1) c', ⟨HS2.out.inn.only hall ?_, ?_, ?_, ?_, ⟨?_, ?_⟩, ?_, ?_, ?_⟩, (Only.of_below HB2.out (Nat.le_refl _) _).trans hall, fun b hb => hb.imp id fun e => by omega⟩
   ·
    intro b hb
    have h1 := hOk.mb
    have h2 := hOk.mw
    have h3 := hOk.kq
    have h4 := hOk.ko
    have hK : N.K ≤ b := by
     rcases hb with rfl | rfl | hb
     ·
      exact h3
     ·
      exact h4
     ·
      exact (hF b hb).1
    exact ⟨by omega, by omega, fun hs => by have := hOk.ms b hs; omega⟩
   ·
    refine (hmem _ (by omega) (fun h => (hF _ h).2.1 rfl) hOk.xo).trans ((g3.block _ (by omega) hOk.xq).trans HS2.out.bx)
   ·
    refine (hmem _ (by omega) (fun h => (hF _ h).2.2.1 rfl) hOk.so).trans ((g3.block _ (by omega) hOk.sq).trans HS2.out.bs)
   ·
    have h1 := blk_set HBO4.out 0 (.slice A' (L.length + 1) c')
    exact h1
   ·
    exact HM3.out.block (hmem _ (by omega) (fun h => (hF _ h).2.2.2.1 rfl) hOk.qo)
   ·
    exact List.nodup_append.2 ⟨HS2.out.sq.nodup, by simp, fun x hx y hy e => HNL.out (by rw [← List.mem_singleton.1 hy, ← e]; exact hx)⟩
   ·
    refine (HGL.out.more (G := fun b => F b ∨ b = w3.heap.size + 1) fun b hb => ?_).only g5 fun b hb _ e => ?_
    ·
     rcases hb with h | h | h
     ·
      exact .inl h
     ·
      exact h.elim
     ·
      exact .inr h
    ·
     rcases hb with h | h
     ·
      exact (hF b h).2.2.2.2 e
     ·
      omega
   ·
    intro b hb
    rcases hb with h | h
    ·
     exact hF b h
    ·
     have := hOk.kx
     exact ⟨by omega, by omega, by omega, by omega, by omega⟩
   ·
    intro x hx
    rcases List.mem_append.1 hx with h | h
    ·
     exact HS2.out.tri x h
    ·
     rw [List.mem_singleton.1 h]; exact HT.out
 ·
  have eW : decide ((tq, ta, tp) ∈ W) = false := by simpa using hW
  rw [eW] at hlk
  have HA := Lib.hid (show addT W L (tq, ta, tp) = L by unfold addT; rw [if_neg hW])
  have HR := Lib.hid (show ∀ n, AddR M N W w F L (.returned (.tuple #[])) (w1.drewN n) from fun n => ⟨rfl, F, _, HS1.out.below HO.out (below_drewN _ _ _), .of_below (HB1.out.trans (below_drewN _ _ _)) (Nat.le_refl _) _, fun b hb => .inl hb⟩)
  clear eW hW hlk2
  go_enter Try.func79, Try.ntmps79
  go_wp2_with fail
  go_quiet (fail)
  go_wp2_with fail
  rw [← HW1.out, HA.out]
  refine Go.bodyPost_end (v := .tuple #[]) (by simp [results, Try.results79, go_sem]) rfl (HR.out _)
end Go.Proofs.Ytbmcoamdfpegnaa
