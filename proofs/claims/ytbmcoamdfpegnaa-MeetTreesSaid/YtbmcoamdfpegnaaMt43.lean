/- MkInto -/
import Derived.Test.YtbmcoamdfpegnaaMt41
import Derived.Test.YtbmcoamdfpegnaaMt42
namespace Go.Proofs.Ytbmcoamdfpegnaa
open Go.RowKit Go.Maps
theorem entersInto : ∀ (args : Array Value) (u : World), (callFunc 40 args).run Try.prog u = .ok (.enter 40 args) u := enters_of Try.func40 (by kernel_rfl) rfl
structure IC where
 Bd : Nat
 Bs : Nat
 Bi : Nat
 Bg : Nat
 Bm : Nat
 Bq : Nat
 AR : Option Addr
 nR : Nat
 cR : Nat
 NN : Option Addr
 n : Nat
 cN : Nat
 S : Nat → Prop
abbrev IC.caps (I : IC) : Array Value := #[.pointer (some ⟨I.Bd, 0, none⟩), .pointer (some ⟨I.Bs, 0, none⟩), .pointer (some ⟨I.Bi, 0, none⟩), .pointer (some ⟨I.Bg, 0, none⟩), .pointer (some ⟨I.Bm, 0, none⟩)]
structure IBx (M : Mkr) (W L : List TriD) (I : IC) (w : World) (q : Nat) : Prop where
 d2 : w.cell? ⟨I.Bd, 2, none⟩ = some (.slice I.NN I.n I.cN)
 nx : Sl RI w I.S I.NN I.n I.cN M.d.2.2
 fn : w.cell? ⟨I.Bi, 0, none⟩ = some (.func (.func 40) #[] I.caps)
 g3 : w.cell? ⟨I.Bg, 3, none⟩ = some (.slice I.AR I.nR I.cR)
 rl : Sl RRule w I.S I.AR I.nR I.cR M.R
 mp : w.cell? ⟨I.Bm, 0, none⟩ = some (.map (some I.Bq))
 km : AMap KS w I.Bq (kmOf (allPR M W L))
 st : w.heap[I.Bs]? = some (.cells #[.int .i64 (q : Int)] 3 (0, 0))
 ne : I.Bs ≠ I.Bd ∧ I.Bs ≠ I.Bi ∧ I.Bs ≠ I.Bg ∧ I.Bs ≠ I.Bm ∧ I.Bs ≠ I.Bq
 sb : ∀ b, I.S b → b ≠ I.Bs ∧ b < w.heap.size
section
variable {M : Mkr} {W L : List TriD} {I : IC} {w w' : World} {q q' : Nat} {X : Nat → Prop}
theorem IBx.only (h : IBx M W L I w q) (ho : Only w w' X) (hX : ∀ b, X b → b = I.Bs ∨ w.heap.size ≤ b) (hst : w'.heap[I.Bs]? = some (.cells #[.int .i64 (q' : Int)] 3 (0, 0))) : IBx M W L I w' q' := by
 obtain ⟨n1, n2, n3, n4, n5⟩ := h.ne
 have hS : ∀ b, I.S b → ¬ X b := fun b hb hx => by have := h.sb b hb; have := hX b hx; omega
 have hc : ∀ {p : Addr} {v : Value}, w.cell? p = some v → p.block ≠ I.Bs → w'.cell? p = some v := fun {p v} hv hne => by
  rw [World.cell?_of_block (ho.block p.block (cell_lt hv) (fun hx => by have := hX _ hx; have := cell_lt hv; omega))]
  exact hv
 exact ⟨hc h.d2 (Ne.symm n1), h.nx.keep (ho.kept hS), hc h.fn (Ne.symm n2), hc h.g3 (Ne.symm n3), h.rl.keep (ho.kept hS), hc h.mp (Ne.symm n4), h.km.only ho (fun hx => by have := hX _ hx; have := h.km.lt; omega), hst, h.ne, fun b hb => ⟨(h.sb b hb).1, Nat.lt_of_lt_of_le (h.sb b hb).2 ho.size⟩⟩
theorem IBx.below (h : IBx M W L I w q) (hb : Below w.heap.size w w') : IBx M W L I w' q :=
 h.only (X := fun _ => False) (.of_below hb (Nat.le_refl _) _) (fun _ h => h.elim) ((hb.block _ (heap_lt h.st)).trans h.st)
end
def IntoR (I : IC) (x : TreeD) (z : Nat) (w : World) (e : Ending) (w' : World) : Prop :=
 (∃ (A : Option Addr) (m c : Nat), e = .returned (.agg #[.int .i64 x.rule, .int .i64 x.term, .slice A m c]) ∧ Sl RTree w' (fun b => w.heap.size ≤ b) A m c x.kids) ∧ w'.heap[I.Bs]? = some (.cells #[.int .i64 (z : Int)] 3 (0, 0)) ∧ Only w w' (fun b => b = I.Bs)
def IntoAt (M : Mkr) (W L : List TriD) (sz : Nat) : Prop :=
 ∀ (t : TreeD) (s : SymD) (q z : Nat) (x : TreeD) (I : IC) (w : World) (S' : Nat → Prop) (A : Option Addr) (m c : Nat), sizeT t ≤ sz → TV M.R s t → (s.1 = true → 0 ≤ s.2 ∧ s.2 < (cols M.d : Int)) → q < M.d.2.2.length → Img M W L q t x z → IBx M W L I w q → Sl RTree w S' A m c t.kids → (∀ b, S' b → b ≠ I.Bs) →
  Calls Try.prog 40 #[.agg #[.int .i64 t.rule, .int .i64 t.term, .slice A m c], .pointer (some ⟨I.Bd, 0, none⟩), .pointer (some ⟨I.Bs, 0, none⟩), .pointer (some ⟨I.Bi, 0, none⟩), .pointer (some ⟨I.Bg, 0, none⟩), .pointer (some ⟨I.Bm, 0, none⟩)] w (IntoR I x z w)
theorem dto_row {M : Mkr} (hM : M.Ok) {q : Nat} (_hq : q < M.d.2.2.length) {row : List Int} (hr : M.d.2.2[q]? = some row) {c : Int} (h0 : 0 ≤ c) (h1 : c < (cols M.d : Int)) : c.toNat < row.length ∧ row[c.toNat]? = some (dto M.d (q : Int) c) ∧ dto M.d (q : Int) c < (M.d.2.2.length : Int) := by
 have h2 := hM.val.rows row (List.mem_of_getElem? hr)
 have h3 : c.toNat < row.length := by rw [h2.1]; omega
 have h4 : dto M.d (q : Int) c = row[c.toNat] := by
  unfold dto
  rw [if_neg (by omega), Int.toNat_natCast, hr, Option.getD_some, List.getElem?_eq_getElem h3]
  rfl
 refine ⟨h3, by rw [h4, List.getElem?_eq_getElem h3], ?_⟩
 rw [h4]
 exact (h2.2 _ (List.getElem_mem h3)).2
theorem Img.lt {M : Mkr} {W L : List TriD} (h : PrIn M W L) {q z : Nat} {t x : TreeD} {s : SymD} (hi : Img M W L q t x z) (ht : TV M.R s t) (hs : s.1 = true → 0 ≤ s.2 ∧ s.2 < (cols M.d : Int)) (hq : q < M.d.2.2.length) : z < M.d.2.2.length := by
 rcases hi.inv with ⟨c, rfl, rfl, hd⟩ | ⟨k, j, i, r, ts, xs, qs, rfl, rfl, _, h2, _⟩
 ·
  rcases ht.inv with ⟨c', rfl, e⟩ | ⟨k, r, ts, rfl, e, _⟩
  ·
   injection e with _ e _
   subst e
   have h1 := hs rfl
   have h5 : dto M.d (q : Int) c < (M.d.2.2.length : Int) := (dto_row h.hM hq (List.getElem?_eq_getElem hq) h1.1 h1.2).2.2
   omega
  ·
   injection e with e
   omega
 ·
  have := h.hT _ (List.mem_of_getElem? h2)
  unfold Mkr.Tri at this
  simp only at this
  rw [← h.hM.n]
  exact this.2.2
theorem ImgL.lt {M : Mkr} {W L : List TriD} (h : PrIn M W L) : ∀ (ts : List TreeD) (l : List SymD) {q z : Nat} {xs : List TreeD} {qs : List Nat}, TVL M.R l ts → TermsL M.d l → q < M.d.2.2.length → ImgL M W L q ts xs qs z → ∀ x ∈ qs, x < M.d.2.2.length
 | [], l, q, z, xs, qs, _, _, _, hi => fun x hx => by rw [hi.inv_nil.2.1] at hx; cases hx
 | t :: ts, [], q, z, xs, qs, hv, _, _, _ => by have := hv.len; simp at this
 | t :: ts, s :: l, q, z, xs, qs, hv, hl, hq, hi => fun x hx => by
  obtain ⟨t', ts', e, g1, g2⟩ := hv.inv
  injection e with e1 e2
  subst e1
  subst e2
  obtain ⟨x', xs', p, qs', rfl, rfl, h1, h2⟩ := hi.inv
  have hp := h1.lt h g1 (hl s List.mem_cons_self) hq
  rcases List.mem_cons.1 hx with rfl | hx
  ·
   exact hp
  ·
   exact ImgL.lt h ts l g2 (fun s' hs' => hl s' (List.mem_cons_of_mem _ hs')) hp h2 x hx
set_option linter.unusedSimpArgs false in
set_option maxRecDepth 100000 in
set_option maxHeartbeats 8000000 in
theorem mkInto0 {M : Mkr} {W L : List TriD} (hpr : PrIn M W L) (y : Int) (q z : Nat) (I : IC) (w : World) (c : Nat) (A : Option Addr) (hy : 0 ≤ y ∧ y < (cols M.d : Int)) (hq : q < M.d.2.2.length) (hd : dto M.d (q : Int) y = (z : Int)) (hbx : IBx M W L I w q) :
    Calls Try.prog 40 #[.agg #[.int .i64 (-1), .int .i64 y, .slice A 0 c], .pointer (some ⟨I.Bd, 0, none⟩), .pointer (some ⟨I.Bs, 0, none⟩), .pointer (some ⟨I.Bi, 0, none⟩), .pointer (some ⟨I.Bg, 0, none⟩), .pointer (some ⟨I.Bm, 0, none⟩)] w (IntoR I (.node (-1) y []) z w) := by
 obtain ⟨w1, hw1⟩ : ∃ w1 : World, w1 = (w.alloc (.cells #[.int .i64 (-1), .int .i64 y, .slice A 0 c] 55)).alloc (.cells #[.int .i64 0, .int .i64 0, .slice none 0 0] 55) := ⟨_, rfl⟩
 have hz1 : w1.heap.size = w.heap.size + 2 := by rw [hw1]; simp
 have hb1 : Below w.heap.size w w1 := by rw [hw1]; exact ((Below.refl _ _).alloc (Nat.le_refl _) _).alloc (by simp) _
 have b1 : w1.heap[w.heap.size]? = some (.cells #[.int .i64 (-1), .int .i64 y, .slice A 0 c] 55 (0, 0)) := by rw [hw1]; exact (Below.heap_alloc _ _ _ (by simp)).trans (heap_alloc_new w _)
 have b2 : w1.heap[w.heap.size + 1]? = some (.cells #[.int .i64 0, .int .i64 0, .slice none 0 0] 55 (0, 0)) := by rw [hw1]; exact heap_new _ _ _ (by simp)
 have hst := heap_lt hbx.st
 have hb1x := hbx.below hb1
 obtain ⟨Bd, Bs, Bi, Bg, Bm, Bq, AR, nR, cR, NN, n, cN, S⟩ := I
 have hn : n = M.d.2.2.length := hbx.nx.len
 obtain ⟨bN, oN, Aw, mw, cw, row, hNN, hSb, _, hcr, hr, hsr⟩ := row_at hb1x.nx (k := q) (by rw [hn]; exact hq)
 simp only at hNN hsr hSb
 subst hNN
 obtain ⟨g1, g2, g3⟩ := dto_row hpr.hM hq hr hy.1 hy.2
 rw [hd] at g2
 have hmw := hsr.len
 obtain ⟨yn, hyn⟩ : ∃ yn : Nat, y = (yn : Int) := ⟨y.toNat, by omega⟩
 subst hyn
 rw [Int.toNat_natCast] at g1 g2
 obtain ⟨bR, oR, x, hAw, hSR, hx, hcx⟩ := hsr.ints.int_at (k := yn) (by omega)
 subst hAw
 rw [g2] at hx
 obtain rfl : (z : Int) = x := Option.some.inj hx
 have hqI : (q : Int) < (n : Int) := by omega
 have hq0 : (0 : Int) ≤ (q : Int) := by omega
 have hyI : (yn : Int) < (mw : Int) := by omega
 have hy0 : (0 : Int) ≤ (yn : Int) := by omega
 have hsc : w1.cell? ⟨Bs, 0, none⟩ = some (.int .i64 (q : Int)) := cell_of_one hb1x.st
 have hsf : w1.frozen? ⟨Bs, 0, none⟩ = false := by have h : w1.heap[Bs]? = _ := hb1x.st; simp [World.frozen?, h]
 have hd2 : w1.cell? ⟨Bd, 2, none⟩ = some (.slice (some ⟨bN, oN, none⟩) n cN) := hb1x.d2
 obtain ⟨q0, q1, q2, _, _, _⟩ := tree_cells' b1
 have HS0 := Lib.hid (show w1.drew.cell? ⟨Bd, 2, none⟩ = some (.slice (some ⟨bN, oN, none⟩) n cN) ∧ w1.drew.cell? ⟨Bs, 0, none⟩ = some (.int .i64 (q : Int)) ∧ w1.drew.cell? ⟨bN, oN + q, none⟩ = some (.slice (some ⟨bR, oR, none⟩) mw cw) ∧ w1.drew.cell? ⟨w.heap.size, 1, none⟩ = some (.int .i64 (yn : Int)) ∧ w1.drew.cell? ⟨bR, oR + yn, none⟩ = some (.int .i64 (z : Int)) from ⟨hd2, hsc, hcr, q1, hcx⟩)
 have HSF := Lib.hid (And.intro hsc hsf)
 have HST := Lib.hid (show w1.heap[Bs]? = some (.cells #[.int .i64 (q : Int)] 3 (0, 0)) from hb1x.st)
 have HBR := Lib.hid b2
 have HB1 := Lib.hid hb1
 have HW1 := Lib.hid hw1
 have HLT := Lib.hid (show Bs < w.heap.size from hst)
 have HZ1 := Lib.hid hz1
 clear hbx hb1x hr hsr hSb hcr g1 g2 g3 hmw hSR hx hcx hsc hsf hd2 q0 q1 q2 b1 b2 hb1 hw1 hst hz1 hn hd hq hy
 go_enter Try.func40, Try.ntmps40
 go_wp2_with fail
 rw [← HW1.out]
 refine wp_region_late (late := [9]) (S1 := fun _ => True) (S := fun u => u.cell? ⟨Bd, 2, none⟩ = some (.slice (some ⟨bN, oN, none⟩) n cN) ∧ u.cell? ⟨Bs, 0, none⟩ = some (.int .i64 (q : Int)) ∧ u.cell? ⟨bN, oN + q, none⟩ = some (.slice (some ⟨bR, oR, none⟩) mw cw) ∧ u.cell? ⟨w.heap.size, 1, none⟩ = some (.int .i64 (yn : Int)) ∧ u.cell? ⟨bR, oR + yn, none⟩ = some (.int .i64 (z : Int))) (by kernel_rfl) ?_
 refine wpAnyL_pure (i := 0) rfl (by kernel_rfl) (fun _ _ _ h => h) (Or.inl ⟨by rfl, (fun u hu => by go_simp; try rfl)⟩) trivial (fun _ => HS0.out) ?_
 simp only [Act.put, List.setIfInBounds_toArray, List.set_cons_zero, List.set_cons_succ, List.getElem_toArray, List.getElem_cons_zero, List.getElem_cons_succ]
 refine wpAnyL_take (i := 1) rfl (by kernel_rfl) (fun _ _ _ h => h) (Or.inl ⟨by rfl, (fun u hu => by obtain ⟨_, g0, g1, g2, g3, g4⟩ := hu; go_simp; try rfl)⟩) trivial (fun _ => HS0.out) ?_
 simp only [Act.put, List.setIfInBounds_toArray, List.set_cons_zero, List.set_cons_succ, List.getElem_toArray, List.getElem_cons_zero, List.getElem_cons_succ]
 refine wpAnyL_take (i := 2) rfl (by kernel_rfl) (fun _ _ _ h => h) (Or.inl ⟨by rfl, (fun u hu => by obtain ⟨_, g0, g1, g2, g3, g4⟩ := hu; go_simp; try rfl)⟩) trivial (fun _ => HS0.out) ?_
 simp only [Act.put, List.setIfInBounds_toArray, List.set_cons_zero, List.set_cons_succ, List.getElem_toArray, List.getElem_cons_zero, List.getElem_cons_succ]
 refine wpAnyL_pure (i := 3) rfl (by kernel_rfl) (fun _ _ _ h => h) (Or.inl ⟨by rfl, (fun u hu => by go_simp; try rfl)⟩) trivial (fun _ => HS0.out) ?_
 simp only [Act.put, List.setIfInBounds_toArray, List.set_cons_zero, List.set_cons_succ, List.getElem_toArray, List.getElem_cons_zero, List.getElem_cons_succ]
 refine wpAnyL_take (i := 4) rfl (by kernel_rfl) (fun _ _ _ h => h) (Or.inl ⟨by rfl, (fun u hu => by obtain ⟨_, g0, g1, g2, g3, g4⟩ := hu; go_simp; try rfl)⟩) trivial (fun _ => HS0.out) ?_
 simp only [Act.put, List.setIfInBounds_toArray, List.set_cons_zero, List.set_cons_succ, List.getElem_toArray, List.getElem_cons_zero, List.getElem_cons_succ]
 refine wpAnyL_pure (i := 5) rfl (by kernel_rfl) (fun _ _ _ h => h) (Or.inl ⟨by rfl, (fun u hu => by go_simp; try rfl)⟩) trivial (fun _ => HS0.out) ?_
 simp only [Act.put, List.setIfInBounds_toArray, List.set_cons_zero, List.set_cons_succ, List.getElem_toArray, List.getElem_cons_zero, List.getElem_cons_succ]
 refine wpAnyL_take (i := 6) rfl (by kernel_rfl) (fun _ _ _ h => h) (Or.inl ⟨by rfl, (fun u hu => by obtain ⟨_, g0, g1, g2, g3, g4⟩ := hu; go_simp; try rfl)⟩) trivial (fun _ => HS0.out) ?_
 simp only [Act.put, List.setIfInBounds_toArray, List.set_cons_zero, List.set_cons_succ, List.getElem_toArray, List.getElem_cons_zero, List.getElem_cons_succ]
 refine wpAnyL_pure (i := 7) rfl (by kernel_rfl) (fun _ _ _ h => h) (Or.inl ⟨by rfl, (fun u hu => by go_simp; try rfl)⟩) trivial (fun _ => HS0.out) ?_
 simp only [Act.put, List.setIfInBounds_toArray, List.set_cons_zero, List.set_cons_succ, List.getElem_toArray, List.getElem_cons_zero, List.getElem_cons_succ]
 refine wpAnyL_take (i := 8) rfl (by kernel_rfl) (fun _ _ _ h => h) (Or.inl ⟨by rfl, (fun u hu => by obtain ⟨_, g0, g1, g2, g3, g4⟩ := hu; go_simp; try rfl)⟩) trivial (fun _ => HS0.out) ?_
 simp only [Act.put, List.setIfInBounds_toArray, List.set_cons_zero, List.set_cons_succ, List.getElem_toArray, List.getElem_cons_zero, List.getElem_cons_succ]
 refine wpAnyL_ready (rs := [9]) (by kernel_rfl) (by simp) ?_
 refine AllL.cons rfl (fun K hK => ?_) ?_
 ·
  have hc := HSF.out.1
  have hf := HSF.out.2
  go_simp
  clear hc hf
  refine hK.out _ _ trivial (fun h => absurd (h 9 (by simp)) (by decide)) ?_
  clear hK K
  refine wpAnyL_done (by kernel_rfl) ?_ _
  obtain ⟨w2, hw2⟩ : ∃ w2 : World, w2 = w1.drew.setCell ⟨Bs, 0, none⟩ (.int .i64 (z : Int)) := ⟨_, rfl⟩
  have ho12 : Only w1 w2 (fun b => b = Bs) := by rw [hw2]; exact (Only.drew _ _).trans (.set _ _ _ _ rfl)
  have hst2 : w2.heap[Bs]? = some (.cells #[.int .i64 (z : Int)] 3 (0, 0)) := by rw [hw2]; have h := blk_set (show w1.drew.heap[Bs]? = _ from HST.out) 0 (.int .i64 (z : Int)); simpa using h
  have hbr2 := (ho12.block (w.heap.size + 1) (heap_lt HBR.out) (by have := HLT.out; omega)).trans HBR.out
  have q1 : w2.cell? ⟨w.heap.size, 1, none⟩ = some (.int .i64 (yn : Int)) := by
   rw [World.cell?_of_block (ho12.block w.heap.size (by have := HZ1.out; omega) (by have := HLT.out; omega))]
   exact HS0.out.2.2.2.1
  have HO12 := Lib.hid ho12
  have HST2 := Lib.hid hst2
  have HBR2 := Lib.hid hbr2
  have HW2 := Lib.hid hw2
  rw [show w2 = (w1.setCell ⟨Bs, 0, none⟩ (.int .i64 (z : Int))).drew from hw2] at q1
  clear ho12 hst2 hbr2 hw2
  go_wp2_with (go_at_call 41; rw [show (w1.setCell ⟨Bs, 0, none⟩ (.int .i64 (z : Int))).drew = w2 from HW2.out.symm]; refine (gramLeafM (yn : Int) w2).mono ?_; rintro e w3 ⟨rfl, hb3⟩; have HB3 := Lib.hid hb3; obtain ⟨d0, d1, d2, f0, f1, f2⟩ := tree_cells' ((hb3.block _ (heap_lt HBR2.out)).trans HBR2.out); have ld := cell_lt d0; clear hb3)
  refine bodyPost_ret (v := .agg #[.int .i64 (-1), .int .i64 (yn : Int), .slice none 0 0]) (by simp [results, Try.results40, go_sem, d0, d1, d2, ld]) rfl ?_
  have ho23 : Only w2 w3 (fun b => b = Bs) := .of_below HB3.out (Nat.le_refl _) _
  have hsz : w.heap.size + 1 ≠ Bs := by have := HLT.out; omega
  have hs1 : ∀ (u : World) (i : Nat) (v : Value), Only u (u.setCell ⟨w.heap.size + 1, i, none⟩ v) (fun b => b = w.heap.size + 1) := fun u i v => Only.set _ _ _ _ rfl
  have ho3 := ((hs1 w3 0 (.int .i64 (-1))).trans (hs1 _ 1 (.int .i64 (yn : Int)))).trans (hs1 _ 2 (.slice none 0 0))
  have hst3 := (HB3.out.block _ (heap_lt HST2.out)).trans HST2.out
  refine ⟨⟨none, 0, 0, rfl, Sl.nil _ _ _ _⟩, (ho3.block _ (heap_lt hst3) (fun e => hsz e.symm)).trans hst3, ?_⟩
  have ho1 : Only w w1 (fun b => b = Bs) := .of_below HB1.out (Nat.le_refl _) _
  have h4 := ho3.more (Y := fun b => b = Bs ∨ w.heap.size ≤ b) fun b _ e => .inr (by omega)
  have h5 : Only w w3 (fun b => b = Bs ∨ w.heap.size ≤ b) := (ho1.trans (HO12.out.trans ho23)).more fun b _ e => .inl e
  exact (h5.trans h4).more fun b hb e => e.elim id fun e => by omega
 exact AllL.nil
structure IntoSt (M : Mkr) (W L : List TriD) (Bs H q z : Nat) (ts xs : List TreeD) (qs : List Nat) (w2 wr : World) (j p : Nat) (F1 F2 : Nat → Prop) (v8 v9 : Value) : Prop where
 gs : GL Rep.int 3 wr F1 v8 (((q :: qs).take (j + 1)).map fun x : Nat => (x : Int))
 gk : GL RTree 55 wr F2 v9 (xs.take j)
 f1 : ∀ b, F1 b → H ≤ b ∧ b < wr.heap.size ∧ ¬ F2 b
 f2 : ∀ b, F2 b → H ≤ b ∧ b < wr.heap.size
 il : ImgL M W L p (ts.drop j) (xs.drop j) (qs.drop j) z
 st : wr.heap[Bs]? = some (.cells #[.int .i64 (p : Int)] 3 (0, 0))
 on : Only w2 wr (fun b => b = Bs ∨ H ≤ b)
 pn : p < M.d.2.2.length
set_option linter.unusedSimpArgs false in
set_option maxRecDepth 100000 in
set_option maxHeartbeats 8000000 in
theorem mkIntoS {M : Mkr} {W L : List TriD} (hpr : PrIn M W L) (sz : Nat) (IH : IntoAt M W L sz) : IntoAt M W L (sz + 1) := by
 intro t s q z x I w S' A m c hsz ht hs hq hi hbx hsl hSs
 rcases hi.inv with ⟨y, rfl, rfl, hd⟩ | ⟨k, jx, i, r, ts, xs, qs, rfl, rfl, h1, h2, h3, h4, h5⟩
 ·
  rcases ht.inv with ⟨y', rfl, e⟩ | ⟨k, r, ts, rfl, e, _⟩
  ·
   injection e with _ e _
   subst e
   have hm := hsl.len
   simp only [TreeD.rule, TreeD.term, TreeD.kids, List.length_nil] at hm ⊢
   subst hm
   exact mkInto0 hpr y q z I w c A (hs rfl) hq hd hbx
  ·
   injection e with e
   omega
 ·
  have htv : TVL M.R r.2 ts := by
   rcases ht.inv with ⟨y', rfl, e⟩ | ⟨k', r', ts', rfl, e, g1, g2⟩
   ·
    injection e with e
    omega
   ·
    injection e with e1 _ e2
    have e1 : k = k' := by omega
    subst e1
    subst e2
    rw [h1] at g1
    obtain rfl : r = r' := Option.some.inj g1
    exact g2
  have hmem := List.mem_of_getElem? h1
  obtain ⟨hr0, hr4, _⟩ := hpr.hM.rule hmem
  have hterm := hpr.term r hmem
  have hm := hsl.len
  have hlen := htv.len
  obtain ⟨hxl, hql⟩ := h5.len
  have hzn : z < M.d.2.2.length := hi.lt hpr ht hs hq
  have hn12 : M.d.2.2.length ≤ 12 := by have := hpr.hM.n12; have := hpr.hM.n; omega
  simp only [TreeD.rule, TreeD.term, TreeD.kids] at hm hsl ⊢
  have hm4 : m ≤ 4 := by omega
  obtain ⟨w1, hw1⟩ : ∃ w1 : World, w1 = (w.alloc (.cells #[.int .i64 (k : Int), .int .i64 0, .slice A m c] 55)).alloc (.cells #[.int .i64 0, .int .i64 0, .slice none 0 0] 55) := ⟨_, rfl⟩
  obtain ⟨w2, hw2⟩ : ∃ w2 : World, w2 = w1.alloc (.cells #[.int .i64 (q : Int)] 3) := ⟨_, rfl⟩
  have hz1 : w1.heap.size = w.heap.size + 2 := by rw [hw1]; simp
  have hz2 : w2.heap.size = w.heap.size + 3 := by rw [hw2]; simp [hz1]
  have hb1 : Below w.heap.size w w1 := by rw [hw1]; exact ((Below.refl _ _).alloc (Nat.le_refl _) _).alloc (by simp) _
  have hb12 : Below w1.heap.size w1 w2 := by rw [hw2]; exact (Below.refl _ _).alloc (Nat.le_refl _) _
  have hb2 : Below w.heap.size w w2 := hb1.trans (hb12.mono (by omega))
  have b1 : w1.heap[w.heap.size]? = some (.cells #[.int .i64 (k : Int), .int .i64 0, .slice A m c] 55 (0, 0)) := by rw [hw1]; exact (Below.heap_alloc _ _ _ (by simp)).trans (heap_alloc_new w _)
  have b2 : w1.heap[w.heap.size + 1]? = some (.cells #[.int .i64 0, .int .i64 0, .slice none 0 0] 55 (0, 0)) := by rw [hw1]; exact heap_new _ _ _ (by simp)
  have hsw : w1.cell? ⟨I.Bs, 0, none⟩ = some (.int .i64 (q : Int)) := cell_of_one (hbx.below hb1).st
  have hone : GL Rep.int 3 w2 (fun b => b = w.heap.size + 2) (.slice (some ⟨w.heap.size + 2, 0, none⟩) 1 1) [(q : Int)] := by
   have h := GL.one (R := Rep.int) (E := 3) w1 (x := (q : Int)) (ys := [.int .i64 (q : Int)]) rfl
   rw [hz1] at h
   rw [hw2]
   exact h
  have HBT := Lib.hid ((hb12.block _ (heap_lt b1)).trans b1)
  have HBR := Lib.hid ((hb12.block _ (heap_lt b2)).trans b2)
  have HIB := Lib.hid (hbx.below hb2)
  have HIB0 := Lib.hid hbx
  have HTS := Lib.hid (hsl.fit.below hb2)
  have HSS := Lib.hid hSs
  have HIL := Lib.hid h5
  have HTV := Lib.hid htv
  have HTM := Lib.hid hterm
  have HIH := Lib.hid IH
  have HSZ := Lib.hid (show ∀ x ∈ ts, sizeT x ≤ sz from fun x hx => by have := sizeT_kid (t := .node (k : Int) 0 ts) (x := x) hx; omega)
  have HB2 := Lib.hid hb2
  have HONE := Lib.hid hone
  have HLS := Lib.hid (show I.Bs < w.heap.size from heap_lt hbx.st)
  have HZ2 := Lib.hid hz2
  have HLK := Lib.hid h4
  have HR1 := Lib.hid h1
  obtain ⟨ra, hra⟩ : ∃ ra, ra = r.1.toNat := ⟨_, rfl⟩
  have HR0 := Lib.hid (show r.1 = (ra : Int) by omega)
  have HTR := Lib.hid (hpr.hT _ (List.mem_of_getElem? h2))
  rw [← hra] at HTR HLK
  have HQS := Lib.hid (show ∀ x ∈ q :: qs, x < 256 from fun x hx => by
   rcases List.mem_cons.1 hx with e | hx
   ·
    omega
   ·
    have := ImgL.lt hpr ts r.2 htv hterm hq h5 x hx; omega)
  clear hra
  have HKL := Lib.hid (show qs.length = m ∧ xs.length = m ∧ r.2.length = m from ⟨by omega, by omega, by omega⟩)
  have HW2 := Lib.hid (show w2 = ((w.alloc (.cells #[.int .i64 (k : Int), .int .i64 0, .slice A m c] 55)).alloc (.cells #[.int .i64 0, .int .i64 0, .slice none 0 0] 55)).alloc (.cells #[.int .i64 (q : Int)] 3) by rw [hw2, hw1])
  have hk32 : k < 32 := by
   have h6 := (List.getElem?_eq_some_iff.1 h1).1
   have h7 := hpr.hM.g.rl
   simp only at h7
   omega
  have hkm : ¬ (k : Int) < 0 := by omega
  obtain ⟨t0, t1, t2, _, _, _⟩ := tree_cells' HBT.out
  rw [hw1] at hsw
  rw [HW2.out] at t2
  have HPR := Lib.hid hpr
  clear ht hs hi hbx hsl hSs h1 h2 h3 h4 h5 htv hmem hr0 hr4 hterm hm hlen hxl hql b1 b2 hb1 hb12 hb2 hw1 hw2 hone IH hsz t0 t1 hz1 hpr
  go_enter Try.func40, Try.ntmps40
  go_wp2_with fail
  rw [← HW2.out]
  clear hsw t2
  obtain ⟨Bd, Bs, Bi, Bg, Bm, Bq, AR, nR, cR, NN, n, cN, S⟩ := I
  have HST0 := Lib.hid (show IntoSt M W L Bs (w.heap.size + 2) q z ts xs qs w2 w2 0 q (fun b => b = w.heap.size + 2) (fun _ => False) (.slice (some ⟨w.heap.size + 2, 0, none⟩) 1 1) (.slice none 0 0) from
   ⟨HONE.out, GL.nil _ _, fun b e => by have := HZ2.out; exact ⟨by omega, by omega, id⟩, fun b h => h.elim, HIL.out, HIB.out.st, .refl _ _, hq⟩)
  have HIW := Lib.hid (show ∀ (u : World) (p : Nat), Only w2 u (fun b => b = Bs ∨ w.heap.size + 2 ≤ b) → u.heap[Bs]? = some (.cells #[.int .i64 (p : Int)] 3 (0, 0)) → IBx M W L ⟨Bd, Bs, Bi, Bg, Bm, Bq, AR, nR, cR, NN, n, cN, S⟩ u p from fun u p ho hst =>
   HIB0.out.only (X := fun b => b = Bs ∨ w.heap.size ≤ b) (((Only.of_below HB2.out (Nat.le_refl _) _)).trans (ho.more fun b _ h => h.elim .inl fun h => .inr (by omega))) (fun b h => h) hst)
  have he := entersInto
  go_loopg [8, 9, 33] m (fun gk v8 v9 v33 wr => ∃ (j p : Nat) (F1 F2 : Nat → Prop), j ≤ m ∧ gk = m - j ∧ v33 = .int .i64 j ∧ IntoSt M W L Bs (w.heap.size + 2) q z ts xs qs w2 wr j p F1 F2 v8 v9)
  case atStart => exact ⟨0, q, _, _, Nat.zero_le _, rfl, rfl, HST0.out⟩
  case round =>
   obtain ⟨j, p, F1, F2, hj, hgk, rfl, hst⟩ := hrel
   obtain ⟨w3, rfl⟩ : ∃ w3 : World, w3 = wr := ⟨_, rfl⟩
   have hkl := HKL.out
   have hQl : (((q :: qs).take (j + 1)).map fun x : Nat => (x : Int)).length = j + 1 := by rw [List.length_map, List.length_take, List.length_cons]; omega
   have hXl : (xs.take j).length = j := by rw [List.length_take]; omega
   obtain ⟨A8, c8, hv8, hc8⟩ := hst.gs.form
   obtain ⟨A9, c9, hv9, hc9⟩ := hst.gk.form
   rw [hQl] at hv8 hc8
   rw [hXl] at hv9 hc9
   subst hv8
   subst hv9
   have HGK := Lib.hid hgk
   have HST := Lib.hid hst
   have hz3 : w.heap.size + 3 ≤ w3.heap.size := by have := hst.on.size; have := HZ2.out; omega
   clear hgk
   by_cases hlt : j < m
   ·
    have hts3 := HTS.out.keep (hst.on.kept fun b hb e => by have := hb.2; have := HSS.out b hb.1; simp only at this; omega)
    obtain ⟨b, off, A3, m3, c3, t, rfl, hSb, hbl, hx0, hx1, hx2, hx, hxs⟩ := tree_at hts3 hlt
    obtain ⟨s, hsj, htv⟩ := HTV.out.get hx
    have hjts : j < ts.length := (List.getElem?_eq_some_iff.1 hx).1
    have hil := hst.il
    rw [List.drop_eq_getElem_cons hjts, show ts[j] = t from (List.getElem?_eq_some_iff.1 hx).2, List.drop_eq_getElem_cons (show j < xs.length by omega), List.drop_eq_getElem_cons (show j < qs.length by omega)] at hil
    obtain ⟨x, xs', p', qs', e1, e2, him, hil2⟩ := hil.inv
    injection e1 with e1 e3
    injection e2 with e2 e4
    have hxj : xs[j]? = some x := by rw [← e1]; exact List.getElem?_eq_getElem _
    have hqj : qs[j]? = some p' := by rw [← e2]; exact List.getElem?_eq_getElem _
    subst e3
    subst e4
    have hsr : s.1 = true → 0 ≤ s.2 ∧ s.2 < (cols M.d : Int) := fun e => HTM.out s (List.mem_of_getElem? hsj) e
    have hpn := him.lt HPR.out htv hsr hst.pn
    have hsize := HSZ.out t (List.mem_of_getElem? hx)
    have hjI : (j : Int) < (m : Int) := by omega
    have hj0 : (0 : Int) ≤ (j : Int) := by omega
    obtain ⟨w4, hw4⟩ : ∃ w4 : World, w4 = w3.alloc (.cells #[.int .i64 t.rule, .int .i64 t.term, .slice A3 m3 c3] 55) := ⟨_, rfl⟩
    have hb34 : Below w3.heap.size w3 w4 := by rw [hw4]; exact (Below.refl _ _).alloc (Nat.le_refl _) _
    have hz4 : w4.heap.size = w3.heap.size + 1 := by rw [hw4]; simp
    have hlb := heap_lt hst.st
    have HB34 := Lib.hid hb34
    have HIB4 := Lib.hid (HIW.out w4 p (hst.on.trans (.of_below hb34 (Nat.le_refl _) _)) ((hb34.block _ hlb).trans hst.st))
    have HX4 := Lib.hid (show Sl RTree w4 (fun b => b ≠ Bs) A3 m3 c3 t.kids from (hxs.below hb34).more fun b hb => by have := HSS.out b hb.1; exact this)
    have HTP := Lib.hid (And.intro hsize (And.intro htv (And.intro hsr (And.intro hst.pn him))))
    have HNX := Lib.hid (And.intro hxj (And.intro hqj (And.intro hil2 hpn)))
    have HW4 := Lib.hid hw4
    have HZ4 := Lib.hid hz4
    have hfn : w3.cell? ⟨Bi, 0, none⟩ = some (.func (.func 40) #[] #[.pointer (some ⟨Bd, 0, none⟩), .pointer (some ⟨Bs, 0, none⟩), .pointer (some ⟨Bi, 0, none⟩), .pointer (some ⟨Bg, 0, none⟩), .pointer (some ⟨Bm, 0, none⟩)]) := (HIW.out w3 p hst.on hst.st).fn
    have hlbi := cell_lt hfn
    clear hst hts3 hSb hbl hx hxs hsj htv hjts hil e1 e2 him hil2 hsr hpn hsize hw4 hb34 hz4 hxj hqj hQl hXl hkl
    go_wp2_with fail
    rw [← HW4.out]
    clear hx0 hx1 hx2 hfn hlbi
    refine (HIH.out t s p p' x ⟨Bd, Bs, Bi, Bg, Bm, Bq, AR, nR, cR, NN, n, cN, S⟩ w4 (fun b => b ≠ Bs) A3 m3 c3 HTP.out.1 HTP.out.2.1 HTP.out.2.2.1 HTP.out.2.2.2.1 HTP.out.2.2.2.2 HIB4.out HX4.out (fun b h => h)).mono ?_
    rintro e w5 ⟨⟨A5, m5, c5, rfl, hx5⟩, hst5, ho5⟩
    have hst5 : w5.heap[Bs]? = some (.cells #[.int .i64 (p' : Int)] 3 (0, 0)) := hst5
    have ho5 : Only w4 w5 (fun b => b = Bs) := ho5
    have hkl := HKL.out
    have hz3' := HZ4.out
    have hls := HLS.out
    have hls : Bs < w.heap.size := hls
    have hXl : (xs.take j).length = j := by rw [List.length_take]; omega
    have hQl : (((q :: qs).take (j + 1)).map fun x : Nat => (x : Int)).length = j + 1 := by rw [List.length_map, List.length_take, List.length_cons]; omega
    have ho35 : Only w3 w5 (fun b => b = Bs) := (Only.of_below HB34.out (Nat.le_refl _) _).trans ho5
    have hz5 := ho5.size
    have hgk5 := HST.out.gk.only ho35 (fun b h _ e => by have := (HST.out.f2 b h).1; omega)
    have hgs5 := HST.out.gs.only ho35 (fun b h _ e => by have := (HST.out.f1 b h).1; omega)
    obtain ⟨A6, c6, w6, hrun6, hgk6, hg6, hr6⟩ := hgk5.push tTreesB rfl (x := x) (ys := [.int .i64 x.rule, .int .i64 x.term, .slice A5 m5 c5]) (G := fun b => w4.heap.size ≤ b ∧ b < w5.heap.size) (RTree.cells.2 ⟨A5, m5, c5, rfl, hx5.fit⟩) (fun b hb e => by have := HST.out.f2 b (hgk5.row b e); omega) (by rw [hXl]; omega) (by decide) 53
    have ho56 : Only w5 w6 F2 := (Only.alloc _ _ _).trans (.of_grown hg6 fun b e => hgk5.row b e)
    have hz6 := ho56.size
    have hst6 : w6.heap[Bs]? = some (.cells #[.int .i64 (p' : Int)] 3 (0, 0)) := (ho56.block Bs (heap_lt hst5) (fun h => by have := (HST.out.f2 Bs h).1; omega)).trans hst5
    have hgs6 := hgs5.only ho56 (fun b h _ h2 => (HST.out.f1 b h).2.2 h2)
    obtain ⟨A7, c7, w7, hrun7, hgs7, hg7, hr7⟩ := hgs6.push tInts rfl (x := (p' : Int)) (ys := [.int .i64 (p' : Int)]) (G := fun _ => False) (by exact rfl) (fun b h => h.elim) (by rw [hQl]; omega) (by decide) 22
    have ho67 : Only w6 w7 F1 := (Only.alloc _ _ _).trans (.of_grown hg7 fun b e => hgs6.row b e)
    have hz7 := ho67.size
    have hst7 : w7.heap[Bs]? = some (.cells #[.int .i64 (p' : Int)] 3 (0, 0)) := (ho67.block Bs (heap_lt hst6) (fun h => by have := (HST.out.f1 Bs h).1; omega)).trans hst6
    have hq1 : ((q :: qs).take (j + 1 + 1)).map (fun x : Nat => (x : Int)) = (((q :: qs).take (j + 1)).map fun x : Nat => (x : Int)) ++ [(p' : Int)] := by
     rw [List.take_add_one (i := j + 1), List.getElem?_cons_succ, HNX.out.2.1, List.map_append]
     rfl
    have hx1 : xs.take (j + 1) = xs.take j ++ [x] := by
     rw [List.take_add_one, HNX.out.1]
     rfl
    have hgs8 := hgs7.fit
    rw [hQl] at hgs8
    have hgk8 := hgk6.fit.only ho67 (fun b h _ h1 => by
     have h2 := HST.out.f1 b h1
     rcases h.1 with h | h | h
     ·
      exact h2.2.2 h
     ·
      omega
     ·
      omega)
    rw [hXl] at hgk8
    have HNEW := Lib.hid (show IntoSt M W L Bs (w.heap.size + 2) q z ts xs qs w2 w7 (j + 1) p' (fun b => (F1 b ∨ False ∨ b = w6.heap.size + 1) ∧ b < w7.heap.size) (fun b => (F2 b ∨ (w4.heap.size ≤ b ∧ b < w5.heap.size) ∨ b = w5.heap.size + 1) ∧ b < w6.heap.size) (.slice A7 (j + 1 + 1) c7) (.slice A6 (j + 1) c6) from by
     refine ⟨by rw [hq1]; exact hgs8, by rw [hx1]; exact hgk8, fun b hb => ?_, fun b hb => ?_, HNX.out.2.2.1, hst7, ?_, HNX.out.2.2.2⟩
     ·
      rcases hb.1 with h | h | h
      ·
       have h2 := HST.out.f1 b h
       refine ⟨h2.1, hb.2, fun h3 => ?_⟩
       rcases h3.1 with h3 | h3 | h3
       ·
        exact h2.2.2 h3
       ·
        omega
       ·
        omega
      ·
       exact h.elim
      ·
       exact ⟨by omega, hb.2, fun h3 => by omega⟩
     ·
      rcases hb.1 with h | h | h
      ·
       have h2 := HST.out.f2 b h
       exact ⟨h2.1, by omega⟩
      ·
       exact ⟨by omega, by omega⟩
      ·
       exact ⟨by omega, by omega⟩
     ·
      exact HST.out.on.trans ((ho35.more fun b _ e => .inl e).trans ((ho56.more fun b _ h => .inr (HST.out.f2 b h).1).trans (ho67.more fun b _ h => .inr (HST.out.f1 b h).1))))
    rw [hXl] at hrun6
    rw [hQl] at hrun7
    have HRUN6 := Lib.hid hrun6
    have HRUN7 := Lib.hid hrun7
    have z6 : w6.cell? ⟨Bs, 0, none⟩ = some (.int .i64 (p' : Int)) := cell_of_one hst6
    clear hgs8 hgk8 hst5 ho5 hkl hz3' hXl hQl ho35 hz5 hgk5 hgs5 hrun6 hgk6 hg6 hr6 ho56 hz6 hst6 hgs6 hrun7 hgs7 hg7 hr7 ho67 hz7 hst7 hq1 hx1 hx5
    go_wp2_with (first
     | (at_builtin; refine Lib.wpList_append_run _ rfl _ _ _ _ rfl _ _ rfl rfl _ _ HRUN6.out ?_)
     | (at_builtin; refine Lib.wpList_append_run _ rfl _ _ _ _ rfl _ _ rfl rfl _ _ HRUN7.out ?_))
    go_roundg (m - (j + 1))
    case measure => rw [HGK.out]; omega
    case rel => exact ⟨j + 1, p', _, _, by omega, rfl, by go_num, HNEW.out⟩
   ·
    obtain rfl : j = m := by omega
    obtain ⟨hkl1, hkl2, hkl3⟩ := HKL.out
    have hil := hst.il
    rw [List.drop_of_length_le (show ts.length ≤ j by have := HTV.out.len; omega), List.drop_of_length_le (show xs.length ≤ j by omega), List.drop_of_length_le (show qs.length ≤ j by omega)] at hil
    obtain ⟨_, _, rfl⟩ := hil.inv_nil
    have hgs := hst.gs.sl
    have hgk := hst.gk.sl
    rw [List.take_of_length_le (show xs.length ≤ j by omega)] at hgk
    rw [List.take_of_length_le (show (q :: qs).length ≤ j + 1 by rw [List.length_cons]; omega)] at hgs
    obtain ⟨b8, o8, x8, hA8, _, hx8, hc8x⟩ := hgs.ints.int_at (k := 0) (by omega)
    subst hA8
    have hx8 : some (q : Int) = some x8 := hx8
    obtain rfl : (q : Int) = x8 := Option.some.inj hx8
    rw [Nat.add_zero] at hc8x
    have hib := HIW.out w3 p hst.on hst.st
    have hkn : k < nR := by have h6 := (List.getElem?_eq_some_iff.1 HR1.out).1; have h7 := hib.rl.len; simp only at h7; omega
    obtain ⟨bR, oR, A2, m2, c2, r', hAR, _, _, hcr, _, hrr, _⟩ := rule_at hib.rl hkn
    simp only at hAR
    subst hAR
    rw [HR1.out] at hrr
    obtain rfl : r = r' := Option.some.inj hrr
    rw [HR0.out] at hcr
    have hls : Bs < w.heap.size := HLS.out
    have hbt := (hst.on.block w.heap.size (by omega) (by omega)).trans HBT.out
    have hbr := (hst.on.block (w.heap.size + 1) (by omega) (by omega)).trans HBR.out
    obtain ⟨t0, _, _, _, _, _⟩ := tree_cells' hbt
    have hg3 : w3.cell? ⟨Bg, 3, none⟩ = some (.slice (some ⟨bR, oR, none⟩) nR cR) := hib.g3
    have hsc : w3.cell? ⟨Bs, 0, none⟩ = some (.int .i64 (p : Int)) := cell_of_one hst.st
    have hmp : w3.cell? ⟨Bm, 0, none⟩ = some (.map (some Bq)) := hib.mp
    have hkm := hib.km
    simp only at hkm
    have hnRI : (k : Int) < (nR : Int) := by omega
    have hk0 : (0 : Int) ≤ (k : Int) := by omega
    have hj1 : (0 : Int) < ((j : Int) + 1) := by omega
    have hj1c : (0 : Int) < ((j + 1 : Nat) : Int) := by omega
    have HS0 := Lib.hid (show ∀ u : World, Below w3.heap.size w3 u → u.cell? ⟨b8, o8, none⟩ = some (.int .i64 (q : Int)) ∧ u.cell? ⟨Bg, 3, none⟩ = some (.slice (some ⟨bR, oR, none⟩) nR cR) ∧ u.cell? ⟨w.heap.size, 0, none⟩ = some (.int .i64 (k : Int)) ∧ u.cell? ⟨bR, oR + k * 2, none⟩ = some (.int .i64 (ra : Int)) ∧ u.cell? ⟨Bs, 0, none⟩ = some (.int .i64 (p : Int)) from fun u hu =>
     ⟨(hu.cell (cell_lt hc8x)).trans hc8x, (hu.cell (cell_lt hg3)).trans hg3, (hu.cell (cell_lt t0)).trans t0, (hu.cell (cell_lt hcr)).trans hcr, (hu.cell (cell_lt hsc)).trans hsc⟩)
    have HMK := Lib.hid (And.intro hmp hkm)
    have HGS := Lib.hid hgs
    have HGK9 := Lib.hid hgk
    have HT0 := Lib.hid t0
    have HBR3 := Lib.hid hbr
    clear hkl1 hkl2 hkl3 hil hgs hgk hx8 hc8x hib hrr hcr hbt hbr t0 hg3 hsc hmp hkm hQl hXl
    go_wp2_with fail
    refine wp_region_late (late := [13]) (S1 := fun _ => True) (S := fun u => u.cell? ⟨b8, o8, none⟩ = some (.int .i64 (q : Int)) ∧ u.cell? ⟨Bg, 3, none⟩ = some (.slice (some ⟨bR, oR, none⟩) nR cR) ∧ u.cell? ⟨w.heap.size, 0, none⟩ = some (.int .i64 (k : Int)) ∧ u.cell? ⟨bR, oR + k * 2, none⟩ = some (.int .i64 (ra : Int)) ∧ u.cell? ⟨Bs, 0, none⟩ = some (.int .i64 (p : Int))) (by kernel_rfl) ?_
    refine wpAnyL_pure (i := 0) rfl (by kernel_rfl) (fun _ _ _ h => h) (Or.inl ⟨by rfl, (fun u hu => by go_simp; try rfl)⟩) trivial (fun _ => (HS0.out _ (Below.refl _ _).drew)) ?_
    simp only [Act.put, List.setIfInBounds_toArray, List.set_cons_zero, List.set_cons_succ, List.getElem_toArray, List.getElem_cons_zero, List.getElem_cons_succ]
    refine wpAnyL_pure (i := 1) rfl (by kernel_rfl) (fun _ _ _ h => h) (Or.inl ⟨by rfl, (fun u hu => by go_simp; try rfl)⟩) trivial (fun _ => (HS0.out _ (Below.refl _ _).drew)) ?_
    simp only [Act.put, List.setIfInBounds_toArray, List.set_cons_zero, List.set_cons_succ, List.getElem_toArray, List.getElem_cons_zero, List.getElem_cons_succ]
    refine wpAnyL_take (i := 2) rfl (by kernel_rfl) (fun _ _ _ h => h) (Or.inl ⟨by rfl, (fun u hu => by obtain ⟨_, g0, g1, g2, g3, g4⟩ := hu; go_simp; try rfl)⟩) trivial (fun _ => (HS0.out _ (Below.refl _ _).drew)) ?_
    simp only [Act.put, List.setIfInBounds_toArray, List.set_cons_zero, List.set_cons_succ, List.getElem_toArray, List.getElem_cons_zero, List.getElem_cons_succ]
    refine wpAnyL_pure (i := 3) rfl (by kernel_rfl) (fun _ _ _ h => h) (Or.inl ⟨by rfl, (fun u hu => by go_simp; try rfl)⟩) trivial (fun _ => (HS0.out _ (Below.refl _ _).drew)) ?_
    simp only [Act.put, List.setIfInBounds_toArray, List.set_cons_zero, List.set_cons_succ, List.getElem_toArray, List.getElem_cons_zero, List.getElem_cons_succ]
    refine wpAnyL_take (i := 4) rfl (by kernel_rfl) (fun _ _ _ h => h) (Or.inl ⟨by rfl, (fun u hu => by obtain ⟨_, g0, g1, g2, g3, g4⟩ := hu; go_simp; try rfl)⟩) trivial (fun _ => (HS0.out _ (Below.refl _ _).drew)) ?_
    simp only [Act.put, List.setIfInBounds_toArray, List.set_cons_zero, List.set_cons_succ, List.getElem_toArray, List.getElem_cons_zero, List.getElem_cons_succ]
    refine wpAnyL_pure (i := 5) rfl (by kernel_rfl) (fun _ _ _ h => h) (Or.inl ⟨by rfl, (fun u hu => by go_simp; try rfl)⟩) trivial (fun _ => (HS0.out _ (Below.refl _ _).drew)) ?_
    simp only [Act.put, List.setIfInBounds_toArray, List.set_cons_zero, List.set_cons_succ, List.getElem_toArray, List.getElem_cons_zero, List.getElem_cons_succ]
    refine wpAnyL_take (i := 6) rfl (by kernel_rfl) (fun _ _ _ h => h) (Or.inl ⟨by rfl, (fun u hu => by obtain ⟨_, g0, g1, g2, g3, g4⟩ := hu; go_simp; try rfl)⟩) trivial (fun _ => (HS0.out _ (Below.refl _ _).drew)) ?_
    simp only [Act.put, List.setIfInBounds_toArray, List.set_cons_zero, List.set_cons_succ, List.getElem_toArray, List.getElem_cons_zero, List.getElem_cons_succ]
    refine wpAnyL_pure (i := 7) rfl (by kernel_rfl) (fun _ _ _ h => h) (Or.inl ⟨by rfl, (fun u hu => by go_simp; try rfl)⟩) trivial (fun _ => (HS0.out _ (Below.refl _ _).drew)) ?_
    simp only [Act.put, List.setIfInBounds_toArray, List.set_cons_zero, List.set_cons_succ, List.getElem_toArray, List.getElem_cons_zero, List.getElem_cons_succ]
    refine wpAnyL_pure (i := 8) rfl (by kernel_rfl) (fun _ _ _ h => h) (Or.inl ⟨by rfl, (fun u hu => by go_simp; try rfl)⟩) trivial (fun _ => (HS0.out _ (Below.refl _ _).drew)) ?_
    simp only [Act.put, List.setIfInBounds_toArray, List.set_cons_zero, List.set_cons_succ, List.getElem_toArray, List.getElem_cons_zero, List.getElem_cons_succ]
    refine wpAnyL_take (i := 9) rfl (by kernel_rfl) (fun _ _ _ h => h) (Or.inl ⟨by rfl, (fun u hu => by obtain ⟨_, g0, g1, g2, g3, g4⟩ := hu; go_simp; try rfl)⟩) trivial (fun _ => (HS0.out _ (Below.refl _ _).drew)) ?_
    simp only [Act.put, List.setIfInBounds_toArray, List.set_cons_zero, List.set_cons_succ, List.getElem_toArray, List.getElem_cons_zero, List.getElem_cons_succ]
    refine wpAnyL_take (i := 10) rfl (by kernel_rfl) (fun _ _ _ h => h) (Or.inl ⟨by rfl, (fun u hu => by obtain ⟨_, g0, g1, g2, g3, g4⟩ := hu; go_simp; try rfl)⟩) trivial (fun _ => (HS0.out _ (Below.refl _ _).drew)) ?_
    simp only [Act.put, List.setIfInBounds_toArray, List.set_cons_zero, List.set_cons_succ, List.getElem_toArray, List.getElem_cons_zero, List.getElem_cons_succ]
    refine wpAnyL_pure (i := 11) rfl (by kernel_rfl) (fun _ _ _ h => h) (Or.inl ⟨by rfl, (fun u hu => by go_simp; try rfl)⟩) trivial (fun _ => (HS0.out _ (Below.refl _ _).drew)) ?_
    simp only [Act.put, List.setIfInBounds_toArray, List.set_cons_zero, List.set_cons_succ, List.getElem_toArray, List.getElem_cons_zero, List.getElem_cons_succ]
    refine wpAnyL_ready (rs := [12]) (by kernel_rfl) (by simp) ?_
    refine AllL.cons rfl (fun K hK => ?_) ?_
    ·
     go_simp
     refine hK.out _ _ trivial (fun _ => (HS0.out _ ((Below.refl w3.heap.size w3).drew.alloc (Nat.le_refl _) _))) ?_
     clear hK K
     refine wpAnyL_ready (rs := [13]) (by kernel_rfl) (by simp) ?_
     refine AllL.cons rfl (fun K hK => ?_) ?_
     ·
      go_simp
      refine hK.out _ _ trivial (fun h => absurd (h 13 (by simp)) (by decide)) ?_
      clear hK K
      refine wpAnyL_done (by kernel_rfl) ?_ _
      go_wp2_with fail
      obtain ⟨w4, hw4⟩ : ∃ w4 : World, w4 = (w3.alloc (.cells #[.int .i64 (q : Int), .int .i64 (ra : Int), .int .i64 (p : Int)] 92)).drew := ⟨_, rfl⟩
      have hb34 : Below w3.heap.size w3 w4 := by rw [hw4]; exact ((Below.refl _ _).alloc (Nat.le_refl _) _).drew
      have hbt4 : w4.heap[w3.heap.size]? = some (.cells #[.int .i64 (q : Int), .int .i64 (ra : Int), .int .i64 (p : Int)] 92 (0, 0)) := by rw [hw4]; exact heap_alloc_new w3 _
      have HKF := Lib.hid (show ∀ u : World, Below w4.heap.size w4 u → (u.cell? ⟨Bm, 0, none⟩ = some (.map (some Bq)) ∧ AMap KS u Bq (kmOf (allPR M W L))) ∧ (u.cell? ⟨w3.heap.size, 0, none⟩ = some (.int .i64 (q : Int)) ∧ u.cell? ⟨w3.heap.size, 1, none⟩ = some (.int .i64 (ra : Int)) ∧ u.cell? ⟨w3.heap.size, 2, none⟩ = some (.int .i64 (p : Int))) ∧ u.cell? ⟨w.heap.size, 0, none⟩ = some (.int .i64 (k : Int)) from fun u hu => by
       have h3 := hb34.trans (hu.mono hb34.size)
       have e := (hu.block _ (heap_lt hbt4)).trans hbt4
       exact ⟨⟨(h3.cell (cell_lt HMK.out.1)).trans HMK.out.1, HMK.out.2.below h3⟩, by simp [World.cell?, e], (h3.cell (cell_lt HT0.out)).trans HT0.out⟩)
      have HB34 := Lib.hid hb34
      have HGS4 := Lib.hid (HGS.out.below hb34)
      have HW4 := Lib.hid hw4
      have hkey : KS.ok (strOf (keyD (q, ra, p) k (q :: qs))) := by
       show (strOf (keyD (q, ra, p) k (q :: qs))).size ≤ maxLen
       rw [strOf_size]
       have h1 := HKL.out.1
       have h2 : (keyD (q, ra, p) k (q :: qs)).length = 5 + qs.length := by unfold keyD; simp; omega
       rw [h2]
       unfold maxLen
       omega
      have HKY := Lib.hid hkey
      have hts : q < 12 ∧ ra < 256 ∧ p < 256 := by
       have h1 := HTR.out
       unfold Mkr.Tri at h1
       simp only at h1
       have h2 := HPR.out.hM.n12
       have h3 := HPR.out.hM.g.n2
       simp only at h3
       omega
      have HTB := Lib.hid hts
      have hqs6 : qs.length + 1 ≤ 1000 := by have := HKL.out.1; omega
      clear hb34 hbt4 hw4 hkey hts
      refine wp_region_late (late := [9]) (S1 := fun _ => True) (S := fun u => (u.cell? ⟨Bm, 0, none⟩ = some (.map (some Bq)) ∧ AMap KS u Bq (kmOf (allPR M W L))) ∧ (u.cell? ⟨w3.heap.size, 0, none⟩ = some (.int .i64 (q : Int)) ∧ u.cell? ⟨w3.heap.size, 1, none⟩ = some (.int .i64 (ra : Int)) ∧ u.cell? ⟨w3.heap.size, 2, none⟩ = some (.int .i64 (p : Int))) ∧ u.cell? ⟨w.heap.size, 0, none⟩ = some (.int .i64 (k : Int))) (by kernel_rfl) ?_
      first | rw [← HW4.out] | rw [show (w3.alloc (.cells #[.int .i64 (q : Int), .int .i64 (ra : Int), .int .i64 (p : Int)] 92)).drew = w4 from HW4.out.symm]
      refine wpAnyL_take (i := 0) rfl (by kernel_rfl) (fun _ _ _ h => h) (Or.inl ⟨by rfl, (fun u hu => by obtain ⟨_, ⟨g0, g1⟩, ⟨g2, g3, g4⟩, g5⟩ := hu; go_simp; try rfl)⟩) trivial (fun _ => (HKF.out _ (Below.refl _ _).drew)) ?_
      simp only [Act.put, List.setIfInBounds_toArray, List.set_cons_zero, List.set_cons_succ, List.getElem_toArray, List.getElem_cons_zero, List.getElem_cons_succ]
      refine wpAnyL_take (i := 1) rfl (by kernel_rfl) (fun _ _ _ h => h) (Or.inl ⟨by rfl, (fun u hu => by obtain ⟨_, ⟨g0, g1⟩, ⟨g2, g3, g4⟩, g5⟩ := hu; go_simp; try rfl)⟩) trivial (fun _ => (HKF.out _ (Below.refl _ _).drew)) ?_
      simp only [Act.put, List.setIfInBounds_toArray, List.set_cons_zero, List.set_cons_succ, List.getElem_toArray, List.getElem_cons_zero, List.getElem_cons_succ]
      refine wpAnyL_pure (i := 2) rfl (by kernel_rfl) (fun _ _ _ h => h) (Or.inl ⟨by rfl, (fun u hu => by go_simp; try rfl)⟩) trivial (fun _ => (HKF.out _ (Below.refl _ _).drew)) ?_
      simp only [Act.put, List.setIfInBounds_toArray, List.set_cons_zero, List.set_cons_succ, List.getElem_toArray, List.getElem_cons_zero, List.getElem_cons_succ]
      refine wpAnyL_take (i := 3) rfl (by kernel_rfl) (fun _ _ _ h => h) (Or.inl ⟨by rfl, (fun u hu => by obtain ⟨_, ⟨g0, g1⟩, ⟨g2, g3, g4⟩, g5⟩ := hu; go_simp; try rfl)⟩) trivial (fun _ => (HKF.out _ (Below.refl _ _).drew)) ?_
      simp only [Act.put, List.setIfInBounds_toArray, List.set_cons_zero, List.set_cons_succ, List.getElem_toArray, List.getElem_cons_zero, List.getElem_cons_succ]
      refine wpAnyL_pure (i := 4) rfl (by kernel_rfl) (fun _ _ _ h => h) (Or.inl ⟨by rfl, (fun u hu => by go_simp; try rfl)⟩) trivial (fun _ => (HKF.out _ (Below.refl _ _).drew)) ?_
      simp only [Act.put, List.setIfInBounds_toArray, List.set_cons_zero, List.set_cons_succ, List.getElem_toArray, List.getElem_cons_zero, List.getElem_cons_succ]
      refine wpAnyL_pure (i := 7) rfl (by kernel_rfl) (fun _ _ _ h => h) (Or.inl ⟨by rfl, (fun u hu => by go_simp; try rfl)⟩) trivial (fun _ => (HKF.out _ (Below.refl _ _).drew)) ?_
      simp only [Act.put, List.setIfInBounds_toArray, List.set_cons_zero, List.set_cons_succ, List.getElem_toArray, List.getElem_cons_zero, List.getElem_cons_succ]
      refine wpAnyL_ready (rs := [5]) (by kernel_rfl) (by simp) ?_
      refine AllL.cons rfl (fun K hK => ?_) ?_
      ·
       go_simp
       refine (mkKey w4.drew (q, ra, p) (by have := HTB.out; simp only; omega) (by have := HTB.out; simp only; omega) (by have := HTB.out; simp only; omega) k (by omega) _ _ _ _ (q :: qs) HGS4.out.drew HQS.out (by omega)).mono ?_
       rintro e w5 ⟨rfl, hb5⟩
       have HB45 := Lib.hid ((Below.refl w4.heap.size w4).drew.trans hb5)
       clear hb5
       refine hK.out _ _ trivial (fun _ => (HKF.out _ HB45.out)) ?_
       clear hK K
       refine wpAnyL_take (i := 6) rfl (by kernel_rfl) (fun _ _ _ h => h) (Or.inl ⟨by rfl, (fun u hu => by obtain ⟨_, ⟨g0, g1⟩, ⟨g2, g3, g4⟩, g5⟩ := hu; have hrun : (Instr.lookup 69 (.map (some Bq)) (.string (strOf (keyD (q, ra, p) k (q :: qs)))) false).run Try.prog u = .ok (.int .i64 (jx : Int)) u := (AMap.look (K := KS) g1 mapStrI zeroIM HKY.out).trans (by rw [HLK.out]; rfl); clear g1; go_simp; try rfl)⟩) trivial (fun _ => (HKF.out _ HB45.out)) ?_
       simp only [Act.put, List.setIfInBounds_toArray, List.set_cons_zero, List.set_cons_succ, List.getElem_toArray, List.getElem_cons_zero, List.getElem_cons_succ]
       refine wpAnyL_pure (i := 8) rfl (by kernel_rfl) (fun _ _ _ h => h) (Or.inl ⟨by rfl, (fun u hu => by go_simp; try rfl)⟩) trivial (fun _ => (HKF.out _ HB45.out)) ?_
       simp only [Act.put, List.setIfInBounds_toArray, List.set_cons_zero, List.set_cons_succ, List.getElem_toArray, List.getElem_cons_zero, List.getElem_cons_succ]
       refine wpAnyL_ready (rs := [9]) (by kernel_rfl) (by simp) ?_
       refine AllL.cons rfl (fun K hK => ?_) ?_
       ·
        obtain ⟨d0, d1, d2, f0, f1, f2⟩ := tree_cells' ((HB45.out.block _ (by have := HB34.out.size; omega)).trans ((HB34.out.block _ (by omega)).trans HBR3.out))
        have ld := cell_lt d0
        go_simp
        refine hK.out _ _ trivial (fun h => absurd (h 9 (by simp)) (by decide)) ?_
        clear hK K
        refine wpAnyL_done (by kernel_rfl) ?_ _
        go_wp2_with fail
        refine bodyPost_ret (v := .agg #[.int .i64 (jx : Int), .int .i64 0, .slice A9 j c9]) (by simp [results, Try.results40, go_sem, d0, d1, d2, ld]) rfl ?_
        have hs1 : ∀ (u : World) (i : Nat) (v : Value), Only u (u.setCell ⟨w.heap.size + 1, i, none⟩ v) (fun b => b = w.heap.size + 1) := fun u i v => Only.set _ _ _ _ rfl
        have ho5 := ((hs1 w5 0 (.int .i64 (jx : Int))).trans (hs1 _ 1 (.int .i64 0))).trans (hs1 _ 2 (.slice A9 j c9))
        have ho35 : Only w3 w5 (fun _ => False) := (Only.of_below HB34.out (Nat.le_refl _) _).trans (.of_below HB45.out (Nat.le_refl _) _)
        have hst5 : w5.heap[Bs]? = some (.cells #[.int .i64 (p : Int)] 3 (0, 0)) := (ho35.block Bs (heap_lt HST.out.st) id).trans HST.out.st
        have ho2 : Only w w2 (fun b => b = Bs ∨ w.heap.size ≤ b) := .of_below HB2.out (Nat.le_refl _) _
        have hw5 : Only w w5 (fun b => b = Bs ∨ w.heap.size ≤ b) := ho2.trans ((HST.out.on.more fun b _ h => h.elim .inl fun h => .inr (by omega)).trans (ho35.more fun _ _ h => h.elim))
        refine ⟨⟨A9, j, c9, rfl, ?_⟩, (ho5.block Bs (heap_lt hst5) (by omega)).trans hst5, (hw5.trans (ho5.more fun b _ e => .inr (by omega))).more fun b hb e => e.elim id fun e => by omega⟩
        have hg := HGK9.out.keep (ho35.kept fun _ _ h => h)
        have hg2 := hg.keep (ho5.kept fun b hb e => by have := (HST.out.f2 b hb).1; omega)
        exact hg2.more fun b hb => by have := (HST.out.f2 b hb).1; omega
       exact AllL.nil
      exact AllL.nil
     exact AllL.nil
    exact AllL.nil
theorem mkInto1 {M : Mkr} {W L : List TriD} (hpr : PrIn M W L) : ∀ sz, IntoAt M W L sz
 | 0 => fun t _ _ _ _ _ _ _ _ _ _ hsz _ _ _ _ _ _ _ => by rw [sizeT_eq] at hsz; omega
 | sz + 1 => mkIntoS hpr sz (mkInto1 hpr sz)
end Go.Proofs.Ytbmcoamdfpegnaa
