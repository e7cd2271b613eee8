/- CmpTr -/
import Derived.Test.YtjnbjdbndbbanaaGreatDoorTc19
namespace Go.Proofs.YtjnbjdbndbbanaaGreatDoor
open Go.RowKit Go.Maps
theorem tPts : SlType Tryz.prog 124 123 1 8 (.pointer none) := ⟨by kernel_rfl, by kernel_rfl, by kernel_rfl, rfl, by decide⟩
theorem ptInfo : ∃ j, Tryz.prog.info? 126 = some j ∧ j.size ≠ 0 := by
 have h : (Tryz.prog.info? 126).map (·.size) = some 4 := by kernel_rfl
 cases hj : Tryz.prog.info? 126 with
 | none => rw [hj] at h; cases h
 | some j => rw [hj] at h; injection h with h; exact ⟨j, rfl, by rw [show j.size = 4 from h]; decide⟩
theorem eqPt (w : World) (b b' : Nat) (hb : ∃ cs ty, w.heap[b]? = some (.cells cs ty (0, 0))) (hb' : ∃ cs ty, w.heap[b']? = some (.cells cs ty (0, 0))) : (binOp .eql 123 (.pointer (some ⟨b, 0, none⟩)) (.pointer (some ⟨b', 0, none⟩))).run Tryz.prog w = .ok (.bool (b == b')) w := by
 obtain ⟨j, hj, hs⟩ := ptInfo
 by_cases e : b = b'
 ·
  subst e
  rw [run_eql_ptr_same (P := Tryz.prog) w ⟨b, 0, none⟩ Tryz.underlying123 hj]
  simp
 obtain ⟨c1, y1, u1⟩ := hb
 obtain ⟨c2, y2, u2⟩ := hb'
 rw [run_eql_ptr_other (P := Tryz.prog) w Tryz.underlying123 hj hs (show (⟨b, 0, none⟩ : Addr) ≠ ⟨b', 0, none⟩ from fun h => by injection h with h; exact e h) u1 u2]
 simp [e]
theorem quiet_leftT {P : Program} {f : FuncId} {args : Array Value} {w : World} {n : Nat} {v : Value}
    (h : Calls P f args (w.drewN n) fun e w' => e = .returned v ∧ w.drewN n = w') : Calls P f args (w.drewN n) fun e w'' => e = .returned v ∧ ∃ m, w'' = w.drewN m :=
 h.mono fun _ _ ⟨he, hm⟩ => ⟨he, n, hm.symm⟩
structure Stk (K : Nat) (T : Nat → Prop) (w : World) (v : Value) (l : List TreeD) : Prop where
 own : ∃ xs, Own w K 123 1 v l.length xs ∧ Cells RPt w T xs l
 le : K ≤ w.heap.size
 lt : ∀ b, T b → b < K
section
variable {K : Nat} {T : Nat → Prop} {w w' : World} {v : Value} {l : List TreeD} {t : TreeD}
theorem Stk.form (h : Stk K T w v l) : ∃ A c, v = .slice A l.length c ∧ l.length ≤ c := by
 obtain ⟨xs, h1, _⟩ := h.own
 obtain ⟨A, c, e, hc, _⟩ := h1.form
 exact ⟨A, c, e, hc⟩
theorem Stk.below (h : Stk K T w v l) (hb : Below w.heap.size w w') : Stk K T w' v l := by
 obtain ⟨xs, h1, h2⟩ := h.own
 exact ⟨⟨xs, h1.below hb (Nat.le_refl _), h2.keep (Kept.below hb)⟩, Nat.le_trans h.le hb.size, h.lt⟩
theorem Stk.one {u : Value} (hK : K ≤ w.heap.size) (hT : ∀ b, T b → b < K) (hx : RPt.ok w T [u] t) : Stk K T (w.alloc (.cells #[u] 123)) (.slice (some ⟨w.heap.size, 0, none⟩) 1 1) [t] := by
 refine ⟨⟨[u], .inl ⟨rfl, .inr ⟨w.heap.size, 1, #[u], rfl, hK, heap_alloc_new _ _, Nat.le_refl _, by unfold maxLen; omega, rfl, rfl⟩⟩, Cells.single (RPt.keep hx (.alloc _ _ _))⟩, by simp; omega, hT⟩
theorem Stk.drop {A : Option Addr} {c : Nat} (h : Stk K T w (.slice A (l.length + 1) c) (l ++ [t])) : Stk K T w (.slice A l.length c) l := by
 obtain ⟨xs, h1, h2⟩ := h.own
 rw [List.length_append, List.length_singleton] at h1
 refine ⟨⟨_, h1.drop, ?_⟩, h.le, h.lt⟩
 have := Cells.front h2
 exact this
theorem Stk.top {A : Option Addr} {c : Nat} (h : Stk K T w (.slice A (l.length + 1) c) (l ++ [t])) : ∃ b off B : Nat, A = some ⟨b, off, none⟩ ∧ w.cell? ⟨b, off + l.length, none⟩ = some (.pointer (some ⟨B, 0, none⟩)) ∧ RPt.ok w T [.pointer (some ⟨B, 0, none⟩)] t := by
 obtain ⟨xs, h1, h2⟩ := h.own
 rw [List.length_append, List.length_singleton] at h1
 obtain ⟨u, hu, hok⟩ := h2.get1 rfl (k := l.length) (by simp)
 rw [List.getElem_append_right (Nat.le_refl _)] at hok
 simp only [Nat.sub_self, List.getElem_cons_zero] at hok
 obtain ⟨b, off, e, _, hc⟩ := h1.rd.2 (by omega)
 obtain ⟨B, _, _, _, e2, _⟩ := RPt.cells.1 hok
 injection e2 with e2 _
 subst e2
 exact ⟨b, off, B, e, hc _ _ hu, hok⟩
theorem Stk.push {u : Value} (h : Stk K T w v l) (hx : RPt.ok w T [u] t) (hl : l.length ≤ 1000000) (ty : TypeId) :
    ∃ A' c' w', (Builtin.append_ #[124, 124] ty #[v, .slice (some ⟨w.heap.size, 0, none⟩) 1 1]).run Tryz.prog (w.alloc (.cells #[u] 123)) = .ok (.slice A' (l.length + 1) c') w' ∧
     Stk K T w' (.slice A' (l.length + 1) c') (l ++ [t]) ∧ (w.alloc (.cells #[u] 123)).grownBy w' (rowOf v) ∧ (rowOf (.slice A' (l.length + 1) c') = rowOf v ∨ rowOf (.slice A' (l.length + 1) c') = some (w.heap.size + 1)) := by
 obtain ⟨xs, h1, h2⟩ := h.own
 have hle := h.le
 have hr : Rd (w.alloc (.cells #[u] 123)) (fun _ => True) 1 (some ⟨w.heap.size, 0, none⟩) 1 [u] := by
  refine ⟨rfl, fun _ => ⟨w.heap.size, 0, rfl, trivial, fun j x hj => ?_⟩⟩
  rw [World.cell?_alloc_at _ _ _ _ rfl]
  simpa using hj
 obtain ⟨v', w', hrun, ho, hg, hrow⟩ := run_append_Own tPts (w.alloc (.cells #[u] 123)) ty K v l.length xs (h1.alloc _) _ _ 1 1 [u] hr (RPt.one hx) (by unfold maxLen; omega) (by omega) (by simp; omega)
 obtain ⟨A', c', rfl, _, _⟩ := ho.form
 have hrow' : ∀ g, rowOf v = some g → K ≤ g := fun g e => (h1.row e).1
 have hk : Kept T (w.alloc (.cells #[u] 123)) w' := Kept.grown hg fun b hb e => by have := hrow' b e; have := h.lt b hb; omega
 have hc : Cells RPt w' T (xs ++ [u]) (l ++ [t]) := (h2.append (Cells.single hx)).keep ((Kept.alloc _ _ _).trans hk)
 refine ⟨A', c', w', hrun, ⟨⟨xs ++ [u], by simpa using ho, hc⟩, ?_, h.lt⟩, hg, ?_⟩
 ·
  have := hg.size
  simp at this
  omega
 rcases hrow with e | e
 · exact .inl e
 exact .inr (by rw [e]; simp)
theorem Stk.lo (h : Stk K T w v l) {g : Nat} (hg : rowOf v = some g) : K ≤ g ∧ g < w.heap.size := by
 obtain ⟨xs, h1, _⟩ := h.own
 exact h1.row hg
theorem Stk.grown {row : Option Nat} (h : Stk K T w v l) (hg : w.grownBy w' row) (hne : ∀ g, row = some g → rowOf v ≠ some g) (hrow : ∀ g, row = some g → K ≤ g) : Stk K T w' v l := by
 obtain ⟨xs, h1, h2⟩ := h.own
 refine ⟨⟨xs, h1.kept hg hne, h2.keep (Kept.grown hg fun b hb e => by have := hrow b e; have := h.lt b hb; omega)⟩, Nat.le_trans h.le hg.size, h.lt⟩
end
theorem rowOf_len (A : Option Addr) (n m c : Nat) : rowOf (.slice A n c) = rowOf (.slice A m c) := by
 cases A <;> cases c <;> rfl
theorem Kept.two {K : Nat} {S : Nat → Prop} {a w w' : World} (h1 : Below K a w) (h2 : Below K a w') (hS : ∀ b, S b → b < K) : Kept S w w' := fun p u hp hu => by
 rw [World.cell?_of_block ((h2.block _ (hS _ hp)).trans (h1.block _ (hS _ hp)).symm)]
 exact hu
theorem drop_rev {α : Type} {l : List α} {k : Nat} {x : α} (h : l[k]? = some x) : (l.drop k).reverse = (l.drop (k + 1)).reverse ++ [x] := by
 obtain ⟨hk, rfl⟩ := List.getElem?_eq_some_iff.1 h
 rw [List.drop_eq_getElem_cons hk, List.reverse_cons]
theorem sizeTs_append (l m : List TreeD) : sizeTs (l ++ m) = sizeTs l + sizeTs m := by unfold sizeTs; rw [nodesTs_append, List.length_append]
theorem sizeTs_reverse : ∀ l : List TreeD, sizeTs l.reverse = sizeTs l
 | [] => rfl
 | t :: l => by rw [List.reverse_cons, sizeTs_append, sizeTs_reverse l, sizeTs_cons, sizeTs_cons, sizeTs_nil]; omega
theorem sizeT_pos (t : TreeD) : 1 ≤ sizeT t := by rw [sizeT_eq]; omega
theorem nil_or_last {α : Type} (l : List α) : l = [] ∨ ∃ l' x, l = l' ++ [x] := by
 rcases List.eq_nil_or_concat l with h | ⟨l', x, h⟩
 · exact .inl h
 exact .inr ⟨l', x, by rw [h, List.concat_eq_append]⟩
theorem len_sizeTs : ∀ l : List TreeD, l.length ≤ sizeTs l
 | [] => by simp
 | t :: l => by rw [List.length_cons, sizeTs_cons]; have := len_sizeTs l; have := sizeT_pos t; omega
set_option linter.unusedSimpArgs false in
set_option maxRecDepth 100000 in
set_option maxHeartbeats 8000000 in
theorem coreCmp (w : World) (T : Nat → Prop) (hu : UnfT w T) (B1 B2 : Nat) (t1 t2 : TreeD) (h1 : RPt.ok w T [.pointer (some ⟨B1, 0, none⟩)] t1) (h2 : RPt.ok w T [.pointer (some ⟨B2, 0, none⟩)] t2) (hs1 : sizeT t1 ≤ 100000) (hs2 : sizeT t2 ≤ 100000) :
    Calls Tryz.prog 140 #[.pointer (some ⟨B1, 0, none⟩), .pointer (some ⟨B2, 0, none⟩)] w fun e w' => (∃ z : Int, e = .returned (.int .i64 z)) ∧ Below w.heap.size w w' := by
 obtain ⟨K, hK⟩ : ∃ K, K = w.heap.size := ⟨_, rfl⟩
 have hTK : ∀ b, T b → b < K := fun b hb => by obtain ⟨cs, ty, h⟩ := hu b hb; rw [hK]; exact heap_lt h
 have HU := Lib.hid hu
 have HTK := Lib.hid hTK
 have hf1 := h1
 have hf2 := h2
 obtain ⟨_, _, _, _, e1, _, a0, a1, a2, a3, _⟩ := RPt.cells.1 hf1
 injection e1 with e1 _
 injection e1 with e1
 injection e1 with e1
 injection e1 with e1 _ _
 subst e1
 obtain ⟨_, _, _, _, e1, _, b0, b1, b2, b3, _⟩ := RPt.cells.1 hf2
 injection e1 with e1 _
 injection e1 with e1
 injection e1 with e1
 injection e1 with e1 _ _
 subst e1
 have HF1 := Lib.hid hf1
 have HF2 := Lib.hid hf2
 have HK := Lib.hid hK
 have hl1 := cell_lt a2
 have hl2 := cell_lt b2
 clear h1 h2 hf1 hf2 hK a0 a1 a3 b0 b1 b3 hu hTK
 go_enter Tryz.func140, Tryz.ntmps140
 by_cases hne : (sizeT t1 : Int) = (sizeT t2 : Int)
 ·
  have hneb : ((sizeT t1 : Int) != (sizeT t2 : Int)) = false := by simpa using hne
  obtain ⟨n1, hn1⟩ : ∃ n1, n1 = sizeT t1 := ⟨_, rfl⟩
  obtain ⟨n2, hn2⟩ : ∃ n2, n2 = sizeT t2 := ⟨_, rfl⟩
  have HN1 := Lib.hid hn1
  have HN2 := Lib.hid hn2
  rw [← hn1] at hneb a2 hs1
  rw [← hn2] at hneb b2 hs2
  clear hn1 hn2 hne
  go_wp2_with fail
  go_quiet (fail)
  clear a2 b2 hneb
  obtain ⟨wq, hwq⟩ : ∃ wq : World, wq = w.drewN nq := ⟨_, rfl⟩
  have hbq : Below w.heap.size w wq := by rw [hwq]; exact drewN_below _ _
  have hzq : wq.heap.size = w.heap.size := by rw [hwq]; rfl
  rw [← hwq]
  have HBQ := Lib.hid hbq
  have HZQ := Lib.hid hzq
  clear hwq hbq hzq
  go_wp2_with fail
  rw [HN1.out] at hs1
  rw [HN2.out] at hs2
  go_loopg [5, 6] (sizeT t1) (fun gk vx vy wr => ∃ lx ly : List TreeD, Stk K T wr vx lx ∧ Stk K T wr vy ly ∧ gk = sizeTs lx ∧ sizeTs lx ≤ 100000 ∧ sizeTs ly ≤ 100000 ∧ (∀ g, rowOf vx = some g → rowOf vy ≠ some g) ∧ Below K w wr)
  case atStart =>
   have hk := HK.out
   have hz := HZQ.out
   have q1 := Stk.one (w := wq) (by omega) HTK.out ((RPt.keep HF1.out (Kept.below HBQ.out)))
   have q2 := Stk.one (w := wq.alloc (.cells #[.pointer (some ⟨B1, 0, none⟩)] 123)) (by simp; omega) HTK.out ((RPt.keep (RPt.keep HF2.out (Kept.below HBQ.out)) (.alloc _ _ _)))
   rw [World.size_alloc] at q2
   have q3 := q1.below ((Below.refl _ _).alloc (Nat.le_refl _) (.cells #[.pointer (some ⟨B2, 0, none⟩)] 123))
   refine ⟨[t1], [t2], q3, q2, ?_, ?_, ?_, ?_, ?_⟩
   · rw [sizeTs_cons, sizeTs_nil]; rfl
   · rw [sizeTs_cons, sizeTs_nil]; omega
   · rw [sizeTs_cons, sizeTs_nil]; omega
   ·
    intro g e1 e2
    injection e1 with e1
    injection e2 with e2
    simp at e1 e2
    omega
   rw [hk]
   exact (HBQ.out.alloc (by omega) _).alloc (by simp; omega) _
  case round =>
   obtain ⟨lx, ly, hsx, hsy, hg, hlx, hly, hap, hbw⟩ := hrel
   obtain ⟨w3, rfl⟩ : ∃ w3 : World, w3 = wr := ⟨_, rfl⟩
   have HG := Lib.hid hg
   have HBW := Lib.hid hbw
   have HAP := Lib.hid hap
   clear hg hbw hap
   rcases nil_or_last lx with rfl | ⟨lx, s, rfl⟩
   ·
    obtain ⟨Ax, cx, rfl, _⟩ := hsx.form
    go_wp2_with fail
    go_ret
    exact ⟨⟨_, rfl⟩, by rw [← HK.out]; exact HBW.out⟩
   rcases nil_or_last ly with rfl | ⟨ly, t, rfl⟩
   ·
    obtain ⟨Ax, cx, rfl, _⟩ := hsx.form
    obtain ⟨Ay, cy, rfl, _⟩ := hsy.form
    go_wp2_with fail
    go_ret
    exact ⟨⟨_, rfl⟩, by rw [← HK.out]; exact HBW.out⟩
   obtain ⟨Ax, cx, rfl, hcx⟩ := hsx.form
   obtain ⟨Ay, cy, rfl, hcy⟩ := hsy.form
   have hfx := len_sizeTs (lx ++ [s])
   have hfy := len_sizeTs (ly ++ [t])
   simp only [List.length_append, List.length_singleton] at hsx hsy hcx hcy hfx hfy ⊢
   have hsz : sizeTs (lx ++ [s]) = sizeTs lx + sizeT s := by rw [sizeTs_append, sizeTs_cons, sizeTs_nil]; omega
   have hsz2 : sizeTs (ly ++ [t]) = sizeTs ly + sizeT t := by rw [sizeTs_append, sizeTs_cons, sizeTs_nil]; omega
   obtain ⟨bx, ox, Bs, rfl, p0, hs⟩ := hsx.top
   obtain ⟨by', oy, Bt, rfl, r0, ht⟩ := hsy.top
   have HSX := Lib.hid hsx.drop
   have HSY := Lib.hid hsy.drop
   have HS := Lib.hid hs
   have HT := Lib.hid ht
   have HSZ := Lib.hid (And.intro hsz hsz2)
   have HLX := Lib.hid (And.intro hlx hly)
   obtain ⟨nx, hnx⟩ : ∃ nx, nx = lx.length := ⟨_, rfl⟩
   obtain ⟨ny, hny⟩ : ∃ ny, ny = ly.length := ⟨_, rfl⟩
   rw [← hnx] at hcx hfx p0 HSX ⊢
   rw [← hny] at hcy hfy r0 HSY ⊢
   have HNX := Lib.hid hnx
   have HNY := Lib.hid hny
   have hnxb : nx ≤ 100000 := by omega
   have hnyb : ny ≤ 100000 := by omega
   have lp := cell_lt p0
   have lr := cell_lt r0
   have hcut1 := fun u => tPts.hN (some ⟨bx, ox, none⟩) (nx + 1) cx nx (by omega) u
   have hcut2 := fun u => tPts.hN (some ⟨by', oy, none⟩) (ny + 1) cy ny (by omega) u
   have hx0 : (0 : Int) ≤ (nx : Int) := by omega
   have hy0 : (0 : Int) ≤ (ny : Int) := by omega
   clear hsx hsy hs ht hsz hsz2 hlx hly hfx hfy hnx hny
   go_wp2_with fail
   go_quiet (fail)
   obtain ⟨w4, hw4⟩ : ∃ w4 : World, w4 = w3.drewN nq := ⟨_, rfl⟩
   have hb4 : Below w3.heap.size w3 w4 := by rw [hw4]; exact drewN_below _ _
   rw [← hw4]
   clear hw4 p0 r0 lp lr
   go_wp2_with fail
   go_quiet (fail)
   obtain ⟨w5, hw5⟩ : ∃ w5 : World, w5 = w4.drewN nq := ⟨_, rfl⟩
   have hb5 : Below w3.heap.size w3 w5 := hb4.trans (by rw [hw5]; exact drewN_below _ _)
   rw [← hw5]
   clear hw5 hb4 hcut1 hcut2
   have HSX5 := Lib.hid (HSX.out.below hb5)
   have HSY5 := Lib.hid (HSY.out.below hb5)
   have hok1 := RPt.keep HS.out (Kept.below hb5)
   have hok2 := RPt.keep HT.out (Kept.below hb5)
   have HB5 := Lib.hid (HBW.out.trans (hb5.mono (by have := HSX.out.le; omega)))
   obtain ⟨_, As, ms, cs, e1, hTs, a0, a1, a2, a3, hks⟩ := RPt.cells.1 hok1
   injection e1 with e1 _
   injection e1 with e1
   injection e1 with e1
   injection e1 with e1 _ _
   subst e1
   obtain ⟨_, At, mt, ct, e1, hTt, b0, b1, b2, b3, hkt⟩ := RPt.cells.1 hok2
   injection e1 with e1 _
   injection e1 with e1
   injection e1 with e1
   injection e1 with e1 _ _
   subst e1
   have HKS := Lib.hid hks
   have HKT := Lib.hid hkt
   have la := cell_lt a0
   have lb := cell_lt b0
   clear hb5 hok1 hok2 hks hkt a1 a2 b1 b2
   by_cases hptr : Bs = Bt
   ·
    subst hptr
    obtain ⟨c1, y1, u1⟩ := HU.out Bs hTs
    have hpe := eqPt w5 Bs Bs ⟨c1, y1, (HB5.out.block Bs (HTK.out Bs hTs)).trans u1⟩ ⟨c1, y1, (HB5.out.block Bs (HTK.out Bs hTs)).trans u1⟩
    rw [show (Bs == Bs) = true by simp] at hpe
    clear u1
    go_wp2_with fail
    go_roundg (sizeTs lx)
    case measure => rw [HG.out, HSZ.out.1]; have := sizeT_pos s; omega
    case rel => exact ⟨lx, ly, HSX5.out, HSY5.out, rfl, by have := HSZ.out.1; have := HLX.out.1; omega, by have := HSZ.out.2; have := HLX.out.2; omega, fun g e1 e2 => HAP.out g (by rw [rowOf_len _ _ nx]; exact e1) (by rw [rowOf_len _ _ ny]; exact e2), HB5.out⟩
   obtain ⟨c1, y1, u1⟩ := HU.out Bs hTs
   obtain ⟨c2, y2, u2⟩ := HU.out Bt hTt
   have hpe := eqPt w5 Bs Bt ⟨c1, y1, (HB5.out.block Bs (HTK.out Bs hTs)).trans u1⟩ ⟨c2, y2, (HB5.out.block Bt (HTK.out Bt hTt)).trans u2⟩
   rw [show (Bs == Bt) = false by simpa using hptr] at hpe
   clear u1 u2
   by_cases hru : s.rule = t.rule
   ·
    have hrub : (s.rule != t.rule) = false := by simpa using hru
    go_wp2_with fail
    go_quiet (fail)
    obtain ⟨w6, hw6⟩ : ∃ w6 : World, w6 = w5.drewN nq := ⟨_, rfl⟩
    have hb6 : Below w5.heap.size w5 w6 := by rw [hw6]; exact drewN_below _ _
    have HB6 := Lib.hid (HB5.out.trans (hb6.mono HSX5.out.le))
    have HSX6 := Lib.hid (HSX5.out.below hb6)
    have HSY6 := Lib.hid (HSY5.out.below hb6)
    replace a3 := (hb6.cell la).trans a3
    rw [← hw6]
    have HA3 := Lib.hid (show ∀ u : World, Below K w u → u.cell? ⟨Bs, 3, none⟩ = some (.slice As ms cs) ∧ u.cell? ⟨Bt, 3, none⟩ = some (.slice At mt ct) ∧ Sl RPt u T As ms cs s.kids ∧ Sl RPt u T At mt ct t.kids from fun u hu => by
     have hk := Kept.two HB6.out hu HTK.out
     exact ⟨hk _ _ hTs a3, hk _ _ hTt ((hb6.cell lb).trans b3), (HKS.out.below hb6).keep hk, (HKT.out.below hb6).keep hk⟩)
    have hms := HKS.out.len
    have hmt := HKT.out.len
    have hmsb : ms ≤ 100000 := by have := len_sizeTs s.kids; have := sizeT_eq s; have := HSZ.out.1; have := HLX.out.1; omega
    have hmtb : mt ≤ 100000 := by have := len_sizeTs t.kids; have := sizeT_eq t; have := HSZ.out.2; have := HLX.out.2; omega
    have HMS := Lib.hid (And.intro hms hmt)
    clear hw6 hb6 a0 b0 b3 hrub hru hms hmt
    go_wp2_with fail
    go_loopg [5, 9] ms (fun gk vx vi wr => ∃ r : Nat, r ≤ ms ∧ gk = r ∧ vi = .int .i64 ((r : Int) - 1) ∧ Stk K T wr vx (lx ++ (s.kids.drop r).reverse) ∧ Stk K T wr (.slice (some ⟨by', oy, none⟩) ny cy) ly ∧ (∀ g, rowOf vx = some g → rowOf (.slice (some ⟨by', oy, none⟩) ny cy) ≠ some g) ∧ Below K w wr)
    case atStart => exact ⟨ms, Nat.le_refl _, rfl, rfl, by rw [List.drop_of_length_le (by have := HMS.out.1; omega)]; simpa using HSX6.out, HSY6.out, fun g e1 e2 => HAP.out g (by rw [rowOf_len _ _ nx]; exact e1) (by rw [rowOf_len _ _ ny]; exact e2), HB6.out⟩
    case round =>
     obtain ⟨r, hr, hg, rfl, hsv, hsy, hap, hbw⟩ := hrel
     obtain ⟨w7, rfl⟩ : ∃ w7 : World, w7 = wr := ⟨_, rfl⟩
     have HG7 := Lib.hid hg
     have HSV7 := Lib.hid hsv
     have HSY7 := Lib.hid hsy
     have HAP7 := Lib.hid hap
     have HBW7 := Lib.hid hbw
     obtain ⟨c3, d3, hks7, hkt7⟩ := HA3.out w7 hbw
     have HKT7 := Lib.hid hkt7
     clear hg hsv hsy hap hbw
     cases r with
     | succ k0 =>
      rw [show ((k0 + 1 : Nat) : Int) - 1 = (k0 : Int) by omega]
      obtain ⟨bk, ok, Bk, kd, rfl, _, hkd, p0, hokk⟩ := pt_at hks7 (k := k0) (by omega)
      obtain ⟨Av, cv, hve, _⟩ := HSV7.out.form
      obtain ⟨nv, hnv⟩ : ∃ nv, nv = (lx ++ (s.kids.drop (k0 + 1)).reverse).length := ⟨_, rfl⟩
      have hnvb : nv ≤ 1000000 := by
       rw [hnv, List.length_append, List.length_reverse, List.length_drop]
       have := HMS.out.1
       have := HNX.out
       omega
      obtain ⟨A8, c8, w8, hrun, hst, hgr, hrow⟩ := HSV7.out.push hokk (by rw [← hnv]; exact hnvb) 124
      rw [← hnv] at hve hrun hst hrow
      subst hve
      rw [List.append_assoc, ← drop_rev hkd] at hst
      have HST := Lib.hid hst
      have HRUN := Lib.hid hrun
      have hal : Below w7.heap.size w7 (w7.alloc (.cells #[.pointer (some ⟨Bk, 0, none⟩)] 123)) := (Below.refl _ _).alloc (Nat.le_refl _) _
      have HY8 := Lib.hid ((HSY7.out.below hal).grown hgr HAP7.out fun g e => (HSV7.out.lo e).1)
      have HAP8 := Lib.hid (show ∀ g, rowOf (.slice A8 (nv + 1) c8) = some g → rowOf (.slice (some ⟨by', oy, none⟩) ny cy) ≠ some g from fun g e1 e2 => by
       rcases hrow with e | e
       · exact HAP7.out g (by rw [← e]; exact e1) e2
       rw [e] at e1
       injection e1 with e1
       have := (HSY7.out.lo e2).2
       omega)
      have HB8 := Lib.hid (show Below K w w8 from (HBW7.out.trans (hal.mono HSV7.out.le)).grown hgr (Nat.le_trans HSV7.out.le hal.size) fun g e => (HSV7.out.lo e).1)
      have hk0I : (k0 : Int) < (ms : Int) := by omega
      have hk00 : (0 : Int) ≤ (k0 : Int) := by omega
      have lk := cell_lt p0
      have l3 := cell_lt c3
      clear hks7 hkt7 hkd hokk hnv hrun hst hgr hrow hal d3
      go_wp2_with (at_builtin; refine Lib.wpList_append_run (o := ⟨some 103, _, _, _, _, _⟩) _ rfl _ _ _ _ rfl _ _ rfl rfl _ _ HRUN.out ?_)
      go_roundg k0
      case measure => rw [HG7.out]; omega
      case rel => exact ⟨k0, by omega, rfl, by go_num, HST.out, HY8.out, HAP8.out, HB8.out⟩
     | zero =>
      rw [show ((0 : Nat) : Int) - 1 = -1 by rfl]
      obtain ⟨Av, cv, hve, _⟩ := HSV7.out.form
      obtain ⟨nv, hnv⟩ : ∃ nv, nv = (lx ++ (s.kids.drop 0).reverse).length := ⟨_, rfl⟩
      rw [← hnv] at hve
      subst hve
      have hld := cell_lt d3
      have HLX2 := Lib.hid (show sizeTs (lx ++ (s.kids.drop 0).reverse) + 1 = sizeTs (lx ++ [s]) by rw [List.drop_zero, sizeTs_append, sizeTs_reverse, HSZ.out.1, sizeT_eq s]; omega)
      clear hks7 hkt7 c3 hnv
      go_wp2_with fail
      go_loopg [6, 10] mt (fun gk vy vi wr => ∃ r : Nat, r ≤ mt ∧ gk = r ∧ vi = .int .i64 ((r : Int) - 1) ∧ Stk K T wr vy (ly ++ (t.kids.drop r).reverse) ∧ Stk K T wr (.slice Av nv cv) (lx ++ (s.kids.drop 0).reverse) ∧ (∀ g, rowOf vy = some g → rowOf (.slice Av nv cv) ≠ some g) ∧ Below K w wr)
      case atStart => exact ⟨mt, Nat.le_refl _, rfl, rfl, by rw [List.drop_of_length_le (by have := HMS.out.2; omega)]; simpa using HSY7.out, HSV7.out, fun g e1 e2 => HAP7.out g e2 e1, HBW7.out⟩
      case round =>
       obtain ⟨r, hr, hg, rfl, hsv, hsx, hap, hbw⟩ := hrel
       obtain ⟨w9, rfl⟩ : ∃ w9 : World, w9 = wr := ⟨_, rfl⟩
       have HG9 := Lib.hid hg
       have HSV9 := Lib.hid hsv
       have HSX9 := Lib.hid hsx
       have HAP9 := Lib.hid hap
       have HBW9 := Lib.hid hbw
       obtain ⟨c3, d3, hks9, hkt9⟩ := HA3.out w9 hbw
       clear hg hsv hsx hap hbw
       cases r with
       | succ k0 =>
        rw [show ((k0 + 1 : Nat) : Int) - 1 = (k0 : Int) by omega]
        obtain ⟨bk, ok, Bk, kd, rfl, _, hkd, p0, hokk⟩ := pt_at hkt9 (k := k0) (by omega)
        obtain ⟨Au, cu, hve, _⟩ := HSV9.out.form
        obtain ⟨nu, hnu⟩ : ∃ nu, nu = (ly ++ (t.kids.drop (k0 + 1)).reverse).length := ⟨_, rfl⟩
        have hnub : nu ≤ 1000000 := by
         rw [hnu, List.length_append, List.length_reverse, List.length_drop]
         have := HMS.out.2
         have := HNY.out
         omega
        obtain ⟨A8, c8, w8, hrun, hst, hgr, hrow⟩ := HSV9.out.push hokk (by rw [← hnu]; exact hnub) 124
        rw [← hnu] at hve hrun hst hrow
        subst hve
        rw [List.append_assoc, ← drop_rev hkd] at hst
        have HST := Lib.hid hst
        have HRUN := Lib.hid hrun
        have hal : Below w9.heap.size w9 (w9.alloc (.cells #[.pointer (some ⟨Bk, 0, none⟩)] 123)) := (Below.refl _ _).alloc (Nat.le_refl _) _
        have HY8 := Lib.hid ((HSX9.out.below hal).grown hgr HAP9.out fun g e => (HSV9.out.lo e).1)
        have HAP8 := Lib.hid (show ∀ g, rowOf (.slice A8 (nu + 1) c8) = some g → rowOf (.slice Av nv cv) ≠ some g from fun g e1 e2 => by
         rcases hrow with e | e
         · exact HAP9.out g (by rw [← e]; exact e1) e2
         rw [e] at e1
         injection e1 with e1
         have := (HSX9.out.lo e2).2
         omega)
        have HB8 := Lib.hid (show Below K w w8 from (HBW9.out.trans (hal.mono HSV9.out.le)).grown hgr (Nat.le_trans HSV9.out.le hal.size) fun g e => (HSV9.out.lo e).1)
        have hk0I : (k0 : Int) < (mt : Int) := by omega
        have hk00 : (0 : Int) ≤ (k0 : Int) := by omega
        have lk := cell_lt p0
        have l3 := cell_lt d3
        clear hks9 hkt9 hkd hokk hnu hrun hst hgr hrow hal c3
        go_wp2_with (at_builtin; refine Lib.wpList_append_run (o := ⟨some 123, _, _, _, _, _⟩) _ rfl _ _ _ _ rfl _ _ rfl rfl _ _ HRUN.out ?_)
        go_roundg k0
        case measure => rw [HG9.out]; omega
        case rel => exact ⟨k0, by omega, rfl, by go_num, HST.out, HY8.out, HAP8.out, HB8.out⟩
       | zero =>
        rw [show ((0 : Nat) : Int) - 1 = -1 by rfl]
        obtain ⟨Au, cu, hve, _⟩ := HSV9.out.form
        obtain ⟨nu, hnu⟩ : ∃ nu, nu = (ly ++ (t.kids.drop 0).reverse).length := ⟨_, rfl⟩
        rw [← hnu] at hve
        subst hve
        have HLY2 := Lib.hid (show sizeTs (ly ++ (t.kids.drop 0).reverse) + 1 = sizeTs (ly ++ [t]) by rw [List.drop_zero, sizeTs_append, sizeTs_reverse, HSZ.out.2, sizeT_eq t]; omega)
        clear hks9 hkt9 c3 d3 hnu
        go_wp2_with fail
        go_roundg (sizeTs (lx ++ (s.kids.drop 0).reverse))
        case measure => rw [HG.out, ← HLX2.out]; omega
        case rel => exact ⟨_, _, HSX9.out, HSV9.out, rfl, by have := HLX2.out; have := HLX.out.1; omega, by have := HLY2.out; have := HLX.out.2; omega, fun g e1 e2 => HAP9.out g e2 e1, HBW9.out⟩
   have hrub : (s.rule != t.rule) = true := by simpa using hru
   go_wp2_with fail
   go_quiet (fail)
   obtain ⟨w6, hw6⟩ : ∃ w6 : World, w6 = w5.drewN nq := ⟨_, rfl⟩
   have hb6 : Below w5.heap.size w5 w6 := by rw [hw6]; exact drewN_below _ _
   replace a0 := (hb6.cell la).trans a0
   replace b0 := (hb6.cell lb).trans b0
   rw [← hw6]
   have HB6 := Lib.hid (HB5.out.trans (hb6.mono HSX5.out.le))
   clear hw6 hb6
   go_wp2_with fail
   go_quiet (exact quiet_leftT (cmpIntC _ _ _))
   go_wp2_with fail
   go_ret
   exact ⟨⟨_, rfl⟩, by rw [← HK.out]; exact Below.drewN' HB6.out _⟩
 have hneb : ((sizeT t1 : Int) != (sizeT t2 : Int)) = true := by simpa using hne
 obtain ⟨n1, hn1⟩ : ∃ n1, n1 = sizeT t1 := ⟨_, rfl⟩
 obtain ⟨n2, hn2⟩ : ∃ n2, n2 = sizeT t2 := ⟨_, rfl⟩
 rw [← hn1] at hneb a2
 rw [← hn2] at hneb b2
 clear hn1 hn2 hne
 go_wp2_with fail
 go_quiet (fail)
 obtain ⟨wq, hwq⟩ : ∃ wq : World, wq = w.drewN nq := ⟨_, rfl⟩
 have hbq : Below w.heap.size w wq := by rw [hwq]; exact drewN_below _ _
 replace a2 := (hbq.cell hl1).trans a2
 replace b2 := (hbq.cell hl2).trans b2
 rw [← hwq]
 have HBQ := Lib.hid hbq
 clear hwq hbq
 go_wp2_with fail
 go_quiet (exact quiet_leftT (cmpIntC _ _ _))
 go_wp2_with fail
 go_ret
 exact ⟨⟨_, rfl⟩, Below.drewN' HBQ.out _⟩
end Go.Proofs.YtjnbjdbndbbanaaGreatDoor
