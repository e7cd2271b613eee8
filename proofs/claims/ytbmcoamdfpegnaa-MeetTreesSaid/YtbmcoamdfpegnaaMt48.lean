/- MkPairP -/
import Derived.Test.YtbmcoamdfpegnaaMt46
import Derived.Test.YtbmcoamdfpegnaaMt47
namespace Go.Proofs.Ytbmcoamdfpegnaa
open Go.RowKit
def pcyc (C : Nat) (row : List Int) (k : Nat) : List Int := (List.range k).map fun j => (row[j % C]?).getD 0
theorem pcyc_len (C : Nat) (row : List Int) (k : Nat) : (pcyc C row k).length = k := by simp [pcyc]
theorem pcyc_self {C : Nat} {row : List Int} (h : row.length = C) : pcyc C row C = row := by
 refine List.ext_getElem? fun i => ?_
 unfold pcyc
 rcases Nat.lt_or_ge i C with hi | hi
 ·
  rw [List.getElem?_map, List.getElem?_range hi, Nat.mod_eq_of_lt hi |> fun e => (by rfl : Option.map (fun j => (row[j % C]?).getD 0) (some i) = some ((row[i % C]?).getD 0)), Nat.mod_eq_of_lt hi, List.getElem?_eq_getElem (by omega)]
  rfl
 ·
  rw [List.getElem?_eq_none (by simp; omega), List.getElem?_eq_none (by omega)]
theorem pcyc_succ (C : Nat) (row : List Int) (k : Nat) : pcyc C row (k + 1) = pcyc C row k ++ [(row[k % C]?).getD 0] := by
 unfold pcyc
 rw [List.range_succ, List.map_append]
 rfl
theorem pcyc_take {C : Nat} {row : List Int} {T k : Nat} (h : T ≤ k) : (pcyc C row k).take T = pcyc C row T := by
 unfold pcyc
 rw [← List.map_take, List.take_range, Nat.min_eq_left h]
theorem pcyc_mem {C : Nat} {row : List Int} {k : Nat} {x : Int} (hC : 0 < C) (h : row.length = C) (hx : x ∈ pcyc C row k) : x ∈ row := by
 obtain ⟨j, _, rfl⟩ := List.mem_map.1 hx
 have hj := Nat.mod_lt j hC
 rw [List.getElem?_eq_getElem (by omega)]
 exact List.getElem_mem _
theorem pcyc_at {C : Nat} {row : List Int} {k : Nat} (hC : 0 < C) (h : row.length = C) (hk : C ≤ k) : ((pcyc C row k).map (Value.int .i64))[k % C]? = some (.int .i64 ((row[k % C]?).getD 0)) := by
 have hj := Nat.mod_lt k hC
 unfold pcyc
 rw [List.getElem?_map, List.getElem?_map, List.getElem?_range (by omega)]
 show some (Value.int .i64 ((row[k % C % C]?).getD 0)) = _
 rw [Nat.mod_mod]
section
variable {w : World} {base n c x gB : Nat} {E : TypeId} {xs : List Value}
theorem Own.atP (h : Own w base E 1 (.slice (some ⟨gB, 0, none⟩) n c) n xs) (hx : x < n) : w.cell? ⟨gB, x, none⟩ = xs[x]? ∧ w.frozen? ⟨gB, x, none⟩ = false ∧ base ≤ gB ∧ gB < w.heap.size := by
 obtain ⟨g, e, hb, ho⟩ := h.addr (by omega)
 injection e with e
 injection e with e _
 subst e
 have h1 := ho.cellAt x (by omega)
 refine ⟨h1, ho.frozenAt x, hb, ?_⟩
 have hl := h.len
 rw [List.getElem?_eq_getElem (show x < xs.length by omega)] at h1
 exact cell_lt h1
theorem Own.putP (h : Own w base E 1 (.slice (some ⟨gB, 0, none⟩) n c) n xs) (hx : x < n) (v : Value) : Own (w.setCell ⟨gB, x, none⟩ v) base E 1 (.slice (some ⟨gB, 0, none⟩) n c) n (xs.set x v) := by
 obtain ⟨g, e, hb, ho⟩ := h.addr (by omega)
 injection e with e
 injection e with e _
 subst e
 exact .inl (ho.stored x v).1
end
theorem Rd.front {w : World} {S : Nat → Prop} {A : Option Addr} {n T : Nat} {xs : List Value} (h : Rd w S 1 A n xs) (hT : T ≤ n) : Rd w S 1 A T (xs.take T) := by
 refine ⟨by have := h.1; rw [List.length_take]; omega, fun h0 => ?_⟩
 obtain ⟨b, off, e, hS, hc⟩ := h.2 (by omega)
 refine ⟨b, off, e, hS, fun j u hj => hc j u ?_⟩
 rw [List.getElem?_take] at hj
 split at hj
 ·
  exact hj
 ·
  cases hj
structure Pa (w3 wr : World) (base T C B : Nat) (acc : List Int) (rows : List (List Int)) (vA : Value) (gN n cN : Nat) (xs ys : List Value) (lo s K : Nat) : Prop where
 ownA : Own wr base 3 1 vA acc.length (acc.map (Value.int .i64))
 ownN : Own wr base 22 1 (.slice (some ⟨gN, 0, none⟩) n cN) n ys
 old : ∀ (j : Nat) (v : Value), lo ≤ j → xs[j]? = some v → ys[j]? = some v ∧ ∃ r, rows[j]? = some r ∧ Own wr base 3 1 v r.length (r.map (Value.int .i64))
 new : ∀ (i : Nat) (r : List Int), i < s → rows[i]? = some r → ∃ A' c', ys[i]? = some (.slice A' T c') ∧ Sl Rep.int wr (fun b => base ≤ b ∧ b < K ∧ b ≠ gN ∧ ∀ (j : Nat) (v : Value), s ≤ j → xs[j]? = some v → rowOf v ≠ some b) A' T c' (pcyc C r T)
 lowA : ∀ g, rowOf vA = some g → g < B ∧ g ≠ gN
 lowX : ∀ (j : Nat) (v : Value) (g : Nat), xs[j]? = some v → rowOf v = some g → base ≤ g ∧ g < B ∧ g ≠ gN ∧ rowOf vA ≠ some g
 dist : Dist xs
 gb : base ≤ gN ∧ gN < B
 bk : B ≤ K
 le : K ≤ wr.heap.size
 bw : B ≤ w3.heap.size
 only : Only w3 wr (fun b => base ≤ b ∧ b < B)
section
variable {w3 wr w' : World} {base T C B : Nat} {acc : List Int} {rows : List (List Int)} {vA : Value} {gN n cN : Nat} {xs ys : List Value} {lo s K : Nat}
theorem Pa.grown (h : Pa w3 wr base T C B acc rows vA gN n cN xs ys (s + 1) s K) (hk : w3.heap.size ≤ K) {row : Option Nat} (hg : wr.grownBy w' row) (hr : ∀ g, row = some g → (∃ v, xs[s]? = some v ∧ rowOf v = some g) ∨ K ≤ g) : Pa w3 w' base T C B acc rows vA gN n cN xs ys (s + 1) s K := by
 have hbk := h.bk
 refine ⟨h.ownA.kept hg fun g e e2 => ?_, h.ownN.kept hg fun g e e2 => ?_, fun j v hj hv => ?_, fun i r hi hri => ?_, h.lowA, h.lowX, h.dist, h.gb, h.bk, Nat.le_trans h.le hg.size, h.bw, ?_⟩
 ·
  rcases hr g e with ⟨v, h1, h2⟩ | h1
  ·
   exact (h.lowX s v g h1 h2).2.2.2 e2
  ·
   have := (h.lowA g e2).1; omega
 ·
  have e3 : gN = g := by
   cases cN with
   | zero => cases e2
   | succ c => injection e2
  subst e3
  rcases hr gN e with ⟨v, h1, h2⟩ | h1
  ·
   exact (h.lowX s v gN h1 h2).2.2.1 rfl
  ·
   have := h.gb.2; omega
 ·
  obtain ⟨h1, r, h2, h3⟩ := h.old j v hj hv
  refine ⟨h1, r, h2, h3.kept hg fun g e e2 => ?_⟩
  rcases hr g e with ⟨u, h4, h5⟩ | h4
  ·
   exact h.dist s j u v g (by omega) h4 hv h5 e2
  ·
   have := (h.lowX j v g hv e2).2.1; omega
 ·
  obtain ⟨A', c', h1, h2⟩ := h.new i r hi hri
  refine ⟨A', c', h1, h2.keep (.grown hg fun b hb e => ?_)⟩
  rcases hr b e with ⟨u, h4, h5⟩ | h4
  ·
   exact hb.2.2.2 s u (Nat.le_refl _) h4 h5
  ·
   have := hb.2.1; omega
 ·
  refine ⟨hg.os.trans h.only.os, hg.tape.trans h.only.tape, hg.output.trans h.only.output, Nat.le_trans h.only.size hg.size, fun b hb hx => (hg.block b (Nat.lt_of_lt_of_le hb h.only.size) fun e => ?_).trans (h.only.block b hb hx)⟩
  rcases hr b e.symm with ⟨u, h4, h5⟩ | h4
  ·
   have := h.lowX s u b h4 h5
   exact hx ⟨this.1, this.2.1⟩
  ·
   omega
theorem Pa.alloc (h : Pa w3 wr base T C B acc rows vA gN n cN xs ys (s + 1) s K) (hk : w3.heap.size ≤ K) (o : Obj) : Pa w3 (wr.alloc o) base T C B acc rows vA gN n cN xs ys (s + 1) s K :=
 h.grown hk (row := none) ⟨rfl, rfl, rfl, by simp, fun k hk _ => Below.heap_alloc wr o k hk⟩ fun g e => by cases e
theorem Pa.drew (h : Pa w3 wr base T C B acc rows vA gN n cN xs ys lo s K) : Pa w3 wr.drew base T C B acc rows vA gN n cN xs ys lo s K :=
 ⟨h.ownA.drew, h.ownN.drew, h.old, fun i r hi hr => by
  obtain ⟨A', c', h1, h2⟩ := h.new i r hi hr
  exact ⟨A', c', h1, h2.drew⟩, h.lowA, h.lowX, h.dist, h.gb, h.bk, h.le, h.bw, h.only.trans (.drew _ _)⟩
theorem Pa.take (h : Pa w3 wr base T C B acc rows vA gN n cN xs ys s s K) : Pa w3 wr base T C B acc rows vA gN n cN xs ys (s + 1) s K :=
 ⟨h.ownA, h.ownN, fun j v hj hv => h.old j v (by omega) hv, h.new, h.lowA, h.lowX, h.dist, h.gb, h.bk, h.le, h.bw, h.only⟩
theorem Pa.room (h : Pa w3 wr base T C B acc rows vA gN n cN xs ys lo s K) : Pa w3 wr base T C B acc rows vA gN n cN xs ys lo s wr.heap.size :=
 ⟨h.ownA, h.ownN, h.old, fun i r hi hr => by
  obtain ⟨A', c', h1, h2⟩ := h.new i r hi hr
  exact ⟨A', c', h1, h2.more fun b hb => ⟨hb.1, Nat.lt_of_lt_of_le hb.2.1 h.le, hb.2.2⟩⟩, h.lowA, h.lowX, h.dist, h.gb, Nat.le_trans h.bk h.le, Nat.le_refl _, h.bw, h.only⟩
theorem Pa.put (h : Pa w3 wr base T C B acc rows vA gN n cN xs ys (s + 1) s K) (hn : n = rows.length) (hs : s < n) {v : Value} (hv : xs[s]? = some v) {r : List Int} (hr : rows[s]? = some r) {A' : Option Addr} {k c' : Nat} (ho : Own wr base 3 1 (.slice A' k c') k ((pcyc C r k).map (Value.int .i64))) (hT : T ≤ k) (hrow : ∀ g, rowOf (.slice A' k c') = some g → rowOf v = some g ∨ K ≤ g) (hkc : k ≤ c') : Pa w3 (wr.setCell ⟨gN, s, none⟩ (.slice A' T c')) base T C B acc rows vA gN n cN xs (ys.set s (.slice A' T c')) (s + 1) (s + 1) wr.heap.size := by
 have hg : wr.grownBy (wr.setCell ⟨gN, s, none⟩ (.slice A' T c')) (some gN) := set_grown (Bd := gN) wr s (.slice A' T c')
 have hbk := h.bk
 have hgb := h.gb
 have hyl : ys.length = n := by have := h.ownN.len; omega
 refine ⟨h.ownA.kept hg fun g e e2 => ?_, h.ownN.putP hs _, fun j u hj hu => ?_, fun i r' hi hri => ?_, h.lowA, h.lowX, h.dist, h.gb, Nat.le_trans h.bk h.le, by simp, h.bw, ?_⟩
 ·
  injection e with e
  exact (h.lowA g e2).2 e.symm
 ·
  obtain ⟨h1, r2, h2, h3⟩ := h.old j u hj hu
  refine ⟨by rw [List.getElem?_set_ne (by omega)]; exact h1, r2, h2, h3.kept hg fun g e e2 => ?_⟩
  injection e with e
  exact (h.lowX j u g hu e2).2.2.1 e.symm
 ·
  by_cases e : i = s
  ·
   subst e
   rw [hr] at hri
   injection hri with hri
   subst hri
   refine ⟨A', c', by rw [List.getElem?_set_self (by omega)], ?_⟩
   have h1 : Rd wr (fun b => rowOf (.slice A' k c') = some b) 1 A' k ((pcyc C r k).map (Value.int .i64)) := ho.rowRd (fun g e => e) hkc
   have h4 : Rd wr (fun b => rowOf (.slice A' k c') = some b) 1 A' T ((pcyc C r T).map (Value.int .i64)) := by
    have := h1.front hT
    rw [← List.map_take, pcyc_take hT] at this
    exact this
   have h2 : Sl Rep.int wr (fun b => base ≤ b ∧ b < wr.heap.size ∧ b ≠ gN ∧ ∀ (j : Nat) (v : Value), i + 1 ≤ j → xs[j]? = some v → rowOf v ≠ some b) A' T c' (pcyc C r T) := by
    refine (h4.slInts (Nat.le_trans hT hkc)).fit.more fun b hb => ?_
    have hb1 := (ho.row hb.1).1
    rcases hrow b hb.1 with e | e
    ·
     have h3 := h.lowX i v b hv e
     exact ⟨hb1, hb.2, h3.2.2.1, fun j u hj hu e2 => h.dist i j v u b (by omega) hv hu e e2⟩
    ·
     exact ⟨hb1, hb.2, by omega, fun j u hj hu e2 => by have := (h.lowX j u b hu e2).2.1; omega⟩
   exact h2.keep (w' := wr.setCell ⟨gN, i, none⟩ (.slice A' T c')) (.grown hg fun b hb e => by injection e with e; exact hb.2.2.1 e.symm)
  ·
   obtain ⟨A2, c2, h1, h2⟩ := h.new i r' (by omega) hri
   refine ⟨A2, c2, by rw [List.getElem?_set_ne (by omega)]; exact h1, (h2.more fun b hb => ⟨hb.1, Nat.lt_of_lt_of_le hb.2.1 h.le, hb.2.2.1, fun j u hj hu => hb.2.2.2 j u (by omega) hu⟩).keep (.grown hg fun b hb e => ?_)⟩
   injection e with e
   exact hb.2.2.1 e.symm
 ·
  refine ⟨h.only.os, h.only.tape, h.only.output, by simpa using h.only.size, fun b hb hx => (hg.block b (Nat.lt_of_lt_of_le hb h.only.size) fun e => ?_).trans (h.only.block b hb hx)⟩
  injection e with e
  exact hx (by subst e; exact hgb)
end
section
variable {w3 wr w' : World} {base T C B : Nat} {acc : List Int} {rows : List (List Int)} {vA : Value} {gN n cN : Nat} {xs ys : List Value} {lo s K : Nat}
theorem cells_of_slices {w : World} {S : Nat → Prop} : ∀ {ys : List Value} {rows : List (List Int)}, ys.length = rows.length → (∀ (i : Nat) (v : Value) (r : List Int), ys[i]? = some v → rows[i]? = some r → ∃ A n c, v = .slice A n c ∧ Sl Rep.int w S A n c r) → Cells RI w S ys rows
 | [], [], _, _ => rfl
 | [], _ :: _, h, _ => by simp at h
 | _ :: _, [], h, _ => by simp at h
 | v :: ys, r :: rows, h, hr => by
  obtain ⟨A, n, c, rfl, hs⟩ := hr 0 v r rfl rfl
  exact ⟨[.slice A n c], ys, rfl, ⟨A, n, c, rfl, hs⟩, cells_of_slices (by simpa using h) fun i v' r' hv hr' => hr (i + 1) v' r' (by simpa using hv) (by simpa using hr')⟩
def padD (T : Nat) (d : DfaD) : DfaD := (d.1, d.2.1, d.2.2.map fun r => pcyc (cols d) r T)
theorem padD_valid {T : Nat} {d : DfaD} (hv : Valid d) (h1 : 1 ≤ T) (h2 : T ≤ 16) : Valid (padD T d) ∧ cols (padD T d) = T := by
 have hl : (padD T d).2.2.length = d.2.2.length := by simp [padD]
 have hc : cols (padD T d) = T := by
  have h0 := hv.n1
  unfold cols padD
  rw [List.getElem?_map, List.getElem?_eq_getElem (by omega)]
  exact pcyc_len _ _ _
 refine ⟨⟨by have := hv.n1; omega, by have := hv.n2; omega, by rw [hl]; exact hv.na, by omega, by omega, fun r hr => ?_, by rw [hl]; exact hv.st, hv.acc⟩, hc⟩
 obtain ⟨r0, hr0, rfl⟩ := List.mem_map.1 (show r ∈ d.2.2.map fun r => pcyc (cols d) r T from hr)
 obtain ⟨e1, e2⟩ := hv.rows r0 hr0
 exact ⟨by rw [hc]; exact pcyc_len _ _ _, fun x hx => by rw [hl]; exact e2 x (pcyc_mem hv.c1 e1 hx)⟩
theorem Pa.all (h : Pa w3 wr base T C B acc rows vA gN n cN xs ys n n K) (hn : n = rows.length) : Sl RI wr (fun b => base ≤ b) (some ⟨gN, 0, none⟩) n cN (rows.map fun r => pcyc C r T) := by
 have hyl : ys.length = n := by have := h.ownN.len; omega
 obtain ⟨_, c', e, hc, _⟩ := h.ownN.form
 injection e with _ _ e
 refine ⟨ys, by rw [List.length_map]; exact hn, by omega, h.ownN.rd, cells_of_slices (by rw [List.length_map]; omega) fun i v r hv hr => ?_⟩
 rw [List.getElem?_map] at hr
 obtain ⟨r0, hr0, rfl⟩ := Option.map_eq_some_iff.1 hr
 have hi : i < n := by have := (List.getElem?_eq_some_iff.1 hv).1; omega
 obtain ⟨A', c2, h1, h2⟩ := h.new i r0 hi hr0
 rw [hv] at h1
 injection h1 with h1
 exact ⟨A', T, c2, h1, h2.more fun b hb => hb.1⟩
end
theorem results_cell_cell {fn : Func} {p u : Tmp} {ty tz : TypeId} (h : fn.results = #[.cell p ty, .cell u tz]) (tmps : Array Value) (P : Program) (w : World) :
    (results fn tmps).run P w =
     ((asAddr (tmps.getD p undef)).run P w).andThen fun a w₁ => ((loadVar ty a).run P w₁).andThen fun x w₂ => ((asAddr (tmps.getD u undef)).run P w₂).andThen fun b w₃ => ((loadVar tz b).run P w₃).andThen fun y w₄ => .ok (.tuple #[x, y]) w₄ := by
 simp only [results, h]
 simp [Sem.run_bind, Result.andThen]
end Go.Proofs.Ytbmcoamdfpegnaa
