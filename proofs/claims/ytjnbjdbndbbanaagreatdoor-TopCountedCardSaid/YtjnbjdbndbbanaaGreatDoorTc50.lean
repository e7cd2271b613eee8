/- TreeW TreeWd -/
import Derived.Test.YtjnbjdbndbbanaaGreatDoorTc18
namespace Go.Proofs.YtjnbjdbndbbanaaGreatDoor
open Go.RowKit
structure Fr (D : World → Nat → Prop) (w w' : World) : Prop where
 os : w'.os = w.os
 tape : w'.tape = w.tape
 output : w'.output = w.output
 size : w.heap.size ≤ w'.heap.size
 block : ∀ b, b < w.heap.size → ¬ D w b → w'.heap[b]? = w.heap[b]?
 own : ∀ b, b < w.heap.size → D w' b → D w b
section
variable {D : World → Nat → Prop} {w w' w'' : World}
theorem Fr.refl (D : World → Nat → Prop) (w : World) : Fr D w w := ⟨rfl, rfl, rfl, Nat.le_refl _, fun _ _ _ => rfl, fun _ _ h => h⟩
theorem Fr.trans (h : Fr D w w') (k : Fr D w' w'') : Fr D w w'' :=
 ⟨k.os.trans h.os, k.tape.trans h.tape, k.output.trans h.output, Nat.le_trans h.size k.size,
  fun b hb hd => (k.block b (Nat.lt_of_lt_of_le hb h.size) (fun hd' => hd (h.own b hb hd'))).trans (h.block b hb hd),
  fun b hb hd => h.own b hb (k.own b (Nat.lt_of_lt_of_le hb h.size) hd)⟩
theorem Fr.of (h : Below w.heap.size w w') (hD : ∀ b, D w' b → D w b) : Fr D w w' := ⟨h.os, h.tape, h.output, h.size, fun b hb _ => h.block b hb, fun b _ hd => hD b hd⟩
theorem Fr.below {B : Nat} (h : Fr D w w') (hB : B ≤ w.heap.size) (hD : ∀ b, D w b → B ≤ b) : Below B w w' :=
 ⟨h.os, h.tape, h.output, h.size, fun b hb => h.block b (by omega) (fun hd => by have := hD b hd; omega)⟩
end
structure Visits (P : Program) (B : Nat) (D : World → Nat → Prop) (I : World → List TreeD → Prop) (G : TreeD → Prop) (F : FuncId) (caps : Array Value) : Prop where
 keepI : ∀ {w w' : World} {pre : List TreeD}, I w pre → Below w.heap.size w w' → I w' pre
 keepD : ∀ {w w' : World} {pre : List TreeD}, I w pre → Below w.heap.size w w' → ∀ b, D w' b → D w b
 own : ∀ {w : World} {pre : List TreeD} {b : Nat}, I w pre → D w b → B ≤ b ∧ b < w.heap.size
 leaf : ∀ x : TreeD, G x → x.rule = -1 → x.kids = []
 call : ∀ (w : World) (pre : List TreeD) (x : TreeD) (A : Option Addr) (m c : Nat), pre.length < 1000000 → B ≤ w.heap.size → I w pre → Sl RTree w (fun b => b < B) A m c x.kids → G x →
  Calls P F (#[.agg #[.int .i64 x.rule, .int .i64 x.term, .slice A m c]] ++ caps) w fun e w' => e = .returned (.bool true) ∧ I w' (pre ++ [x]) ∧ Fr D w w'
theorem len_size : ∀ l : List TreeD, l.length ≤ sizeTs l
 | [] => Nat.zero_le _
 | t :: l => by
  have := len_size l
  rw [sizeTs_cons, sizeT_eq, List.length_cons]
  omega
theorem sizeTs_take (l : List TreeD) (k : Nat) : sizeTs (l.take k) ≤ sizeTs l := by
 have h : sizeTs (l.take k ++ l.drop k) = sizeTs (l.take k) + sizeTs (l.drop k) := by unfold sizeTs; rw [nodesTs_append, List.length_append]
 rw [List.take_append_drop] at h
 omega
theorem nodesTs_mem : ∀ {l : List TreeD} {x y : TreeD}, x ∈ l → y ∈ nodesT x → y ∈ nodesTs l
 | z :: l, x, y, h, hy => by
  rw [nodesTs_cons, List.mem_append]
  rcases List.mem_cons.1 h with rfl | h
  · exact Or.inl hy
  exact Or.inr (nodesTs_mem h hy)
set_option maxHeartbeats 1000000 in
theorem treeKids (w : World) (S : Nat → Prop) (t : TreeD) (A : Option Addr) (m c : Nat) (hs : Sl RTree w S A m c t.kids) (hl : t.rule = -1 → t.kids = []) :
    Calls Tryz.prog 54 #[.agg #[.int .i64 t.rule, .int .i64 t.term, .slice A m c]] w fun e w' => ∃ (A' : Option Addr) (c' : Nat), e = .returned (.slice A' m c') ∧ Sl RTree w' S A' m c' t.kids ∧ Below w.heap.size w w' := by
 have HL := Lib.hid hl
 have HS := Lib.hid hs
 have hm := hs.len
 obtain ⟨r, x, ks⟩ := t
 simp only [TreeD.rule, TreeD.term, TreeD.kids] at *
 have HM := Lib.hid hm
 clear hl hs hm
 by_cases h : r = -1
 ·
  subst h
  have hk := HL.out rfl
  subst hk
  obtain rfl : m = 0 := by have := HM.out; simpa using this
  clear HL HS HM
  go_enter Tryz.func54, Tryz.ntmps54
  go_wp2_with fail
  go_ret
  exact ⟨none, 0, rfl, Sl.nil _ _ _ _, (Below.refl _ _).alloc (Nat.le_refl _) _⟩
 have hb : (r == -1) = false := by simpa using h
 clear h
 go_enter Tryz.func54, Tryz.ntmps54
 go_wp2_with fail
 go_ret
 exact ⟨A, c, rfl, HS.out.alloc _, (Below.refl _ _).alloc (Nat.le_refl _) _⟩
set_option maxHeartbeats 2000000 in
theorem treeWalk {B : Nat} {D : World → Nat → Prop} {I : World → List TreeD → Prop} {G : TreeD → Prop} {F : FuncId} {caps : Array Value} (he : ∀ (args : Array Value) (u : World), (callFunc F args).run Tryz.prog u = .ok (.enter F args) u) (hV : Visits Tryz.prog B D I G F caps) :
    ∀ (sz : Nat) (t : TreeD) (w : World) (pre : List TreeD) (A : Option Addr) (m c : Nat), sizeT t ≤ sz → pre.length + sizeT t ≤ 1000000 → B ≤ w.heap.size → I w pre → Sl RTree w (fun b => b < B) A m c t.kids → (∀ x ∈ nodesT t, G x) →
    Calls Tryz.prog 31 #[.agg #[.int .i64 t.rule, .int .i64 t.term, .slice A m c], .func (.func F) #[] caps] w fun e w' => e = .returned (.bool true) ∧ I w' (pre ++ nodesT t) ∧ Fr D w w'
 | 0, t, w, pre, A, m, c, hsz, _, _, _, _, _ => by rw [sizeT_eq] at hsz; omega
 | sz + 1, t, w, pre, A, m, c, hsz, hsm, hB, hi, hs, hg => by
  have IH := Lib.hid (treeWalk he hV sz)
  have HV := Lib.hid hV
  have HI := Lib.hid hi
  have HS := Lib.hid hs
  have HG := Lib.hid hg
  have HLEN := Lib.hid hs.len
  have hm6 : m ≤ 1000000 := by
   have h1 := hs.len
   have h2 := len_size t.kids
   rw [sizeT_eq] at hsm
   omega
  have HSZ := Lib.hid (show ∀ (j : Nat) (x : TreeD), t.kids[j]? = some x → sizeT x ≤ sz ∧ (pre ++ t :: nodesTs (t.kids.take j)).length + sizeT x ≤ 1000000 from fun j x hx => by
   have h1 := sizeT_kid (List.mem_of_getElem? hx)
   have h2 := sizeTs_take t.kids (j + 1)
   unfold sizeTs at h2
   rw [nodesTs_step hx, List.length_append] at h2
   rw [sizeT_eq] at hsm
   unfold sizeTs at hsm
   rw [List.length_append, List.length_cons]
   refine ⟨by omega, ?_⟩
   unfold sizeT
   omega)
  have hpl : pre.length < 1000000 := by rw [sizeT_eq] at hsm; omega
  have hall : Below w.heap.size w (w.alloc (.cells #[.int .i64 t.rule, .int .i64 t.term, .slice A m c] 44)) := (Below.refl _ _).alloc (Nat.le_refl _) _
  have HAL := Lib.hid hall
  have HI1 := Lib.hid (hV.keepI hi hall)
  have HF0 := Lib.hid (show Fr D w (w.alloc (.cells #[.int .i64 t.rule, .int .i64 t.term, .slice A m c] 44)) from Fr.of hall (hV.keepD hi hall))
  clear hV hi hs hg hsz hsm hall
  go_enter Tryz.func31, Tryz.ntmps31
  go_wp2_with fail
  refine (HV.out.call _ pre t A m c hpl (by simp; omega) HI1.out (HS.out.alloc _) (HG.out t (by rw [nodesT_eq]; simp))).mono ?_
  rintro e w1 ⟨rfl, hi1, hf1⟩
  have hnd : ¬ D (w.alloc (.cells #[.int .i64 t.rule, .int .i64 t.term, .slice A m c] 44)) w.heap.size := fun hd => by
   have h1 := HV.out.keepD HI.out HAL.out _ hd
   have h2 := (HV.out.own HI.out h1).2
   omega
  have hblk : w1.heap[w.heap.size]? = some (.cells #[.int .i64 t.rule, .int .i64 t.term, .slice A m c] 44 (0, 0)) := (hf1.block _ (by simp) hnd).trans (heap_alloc_new w _)
  have hc0 : w1.cell? ⟨w.heap.size, 0, none⟩ = some (.int .i64 t.rule) := by simp [World.cell?, hblk]
  have hc1 : w1.cell? ⟨w.heap.size, 1, none⟩ = some (.int .i64 t.term) := by simp [World.cell?, hblk]
  have hc2 : w1.cell? ⟨w.heap.size, 2, none⟩ = some (.slice A m c) := by simp [World.cell?, hblk]
  have HI2 := Lib.hid hi1
  have hf := HF0.out.trans hf1
  have HF1 := Lib.hid hf
  have hs1 := hf.size
  have HS1 := Lib.hid (HS.out.keep (.belowB (hf.below hB (fun b hd => (HV.out.own HI.out hd).1)) (fun b hb => hb)))
  clear hi1 hf1 hnd hblk hf HF0 HAL HI1
  go_wp2_with fail
  refine (treeKids w1 _ t A m c HS1.out (HV.out.leaf t (HG.out t (by rw [nodesT_eq]; simp)))).mono ?_
  rintro e w2 ⟨A2, c2, rfl, hs2, hb2⟩
  have hi3 := HV.out.keepI HI2.out hb2
  have HI3 := Lib.hid hi3
  have HB2D := Lib.hid (show ∀ b, D w2 b → B ≤ b from fun b hd => (HV.out.own hi3 hd).1)
  have HF2 := Lib.hid (HF1.out.trans (Fr.of hb2 (HV.out.keepD HI2.out hb2)))
  have HS2 := Lib.hid hs2
  have hsz2 := hb2.size
  have hB2 : B ≤ w2.heap.size := by omega
  clear hs2 hb2 hi3 HF1 HI2 HS1 hc0 hc1 hc2
  go_wp2_with fail
  go_loopg [14] m (fun gk i wr => ∃ j : Nat, j ≤ m ∧ gk = m - j ∧ i = .int .i64 j ∧ I wr (pre ++ t :: nodesTs (t.kids.take j)) ∧ Fr D w2 wr)
  case atStart => exact ⟨0, Nat.zero_le _, rfl, rfl, by rw [List.take_zero, nodesTs_nil]; exact HI3.out, Fr.refl _ _⟩
  case round =>
   obtain ⟨j, hj, hgk, rfl, hij, hfj⟩ := hrel
   have HGK := Lib.hid hgk
   have HIJ := Lib.hid hij
   have HFJ := Lib.hid hfj
   have hszj := hfj.size
   have hBj : B ≤ wr.heap.size := by omega
   by_cases hlt : j < m
   ·
    have hsj := HS2.out.keep (.belowB (hfj.below hB2 HB2D.out) (fun b hb => hb))
    have HSJ := Lib.hid hsj
    obtain ⟨b, off, A3, m3, c3, x, rfl, hSb, hbl, hx0, hx1, hx2, hx, hxs⟩ := tree_at hsj hlt
    have hmem := List.mem_of_getElem? hx
    have hsize := HSZ.out j x hx
    have HXS := Lib.hid hxs
    have hall : Below wr.heap.size wr (wr.alloc (.cells #[.int .i64 x.rule, .int .i64 x.term, .slice A3 m3 c3] 44)) := (Below.refl _ _).alloc (Nat.le_refl _) _
    have HAL := Lib.hid hall
    have HI4 := Lib.hid (HV.out.keepI hij hall)
    have HF4 := Lib.hid (hfj.trans (Fr.of hall (HV.out.keepD hij hall)))
    have HST := Lib.hid (nodesTs_step hx)
    have HGX := Lib.hid (show ∀ y ∈ nodesT x, G y from fun y hy => HG.out y (by rw [nodesT_eq]; exact List.mem_cons_of_mem _ (nodesTs_mem hmem hy)))
    have HSIZE := Lib.hid hsize
    clear hgk hij hfj hsj hall hx hxs hmem hsize
    go_wp2_with fail
    refine (IH.out x _ _ A3 m3 c3 HSIZE.out.1 HSIZE.out.2 (by simp; omega) HI4.out (HXS.out.alloc _) HGX.out).mono ?_
    rintro e w4 ⟨rfl, hi5, hf5⟩
    have HI5 := Lib.hid hi5
    have HF5 := Lib.hid (HF4.out.trans hf5)
    clear hi5 hf5 hx0 hx1 hx2
    go_wp2_with fail
    go_roundg (m - (j + 1))
    case measure => rw [HGK.out]; omega
    case rel => exact ⟨j + 1, by omega, rfl, by go_num, by rw [HST.out, ← List.cons_append, ← List.append_assoc]; exact HI5.out, HF5.out⟩
   obtain rfl : j = m := by omega
   have hk : t.kids.take j = t.kids := List.take_of_length_le (by have := HLEN.out; omega)
   have HK := Lib.hid hk
   clear hgk hij hfj hk
   go_wp2_with fail
   go_ret
   refine ⟨rfl, ?_, HF2.out.trans HFJ.out⟩
   have h := HIJ.out
   rw [HK.out, ← nodesT_eq] at h
   exact h
def Leafy (x : TreeD) : Prop := x.rule = -1 → x.kids = []
theorem run_append_litR {α : Type} {R : Rep α} {P : Program} {T E s bytes : Nat} {z : Value} (hT : SlType P T E s bytes z) (hs : R.size = s) (w : World) (ty base : Nat) (S : Nat → Prop) (v : Value) (l : List α)
    (hown : OwnL R w S base E v l) (m : Nat) (l' : List α) (ys : List Value) (hcells : Cells R w (Off S base v) ys l') (hm : m = l'.length)
    (h63 : l.length + m ≤ maxLen) (hbytes : (l.length + m) * bytes ≤ 140737488355328) (hbase : base ≤ w.heap.size) :
    ∃ v' w', (Builtin.append_ #[T, T] ty #[v, .slice (some ⟨w.heap.size, 0, none⟩) m m]).run P (w.alloc (.cells ys.toArray E)) = .ok v' w' ∧ OwnL R w' S base E v' (l ++ l') ∧ (w.alloc (.cells ys.toArray E)).grownBy w' (rowOf v) ∧ Below base w w' ∧ (rowOf v' = rowOf v ∨ ∀ b, rowOf v' = some b → w.heap.size ≤ b) := by
 subst hs
 subst hm
 have hr : Rd (w.alloc (.cells ys.toArray E)) (fun _ => True) R.size (some ⟨w.heap.size, 0, none⟩) l'.length ys := by
  refine ⟨by rw [hcells.len], fun _ => ⟨w.heap.size, 0, rfl, trivial, fun j v hv => ?_⟩⟩
  rw [World.cell?_alloc_at _ _ _ _ rfl]
  simpa using hv
 obtain ⟨xs, ho, hc⟩ := hown.alloc (.cells ys.toArray E)
 have hcells' := Cells.keep (.alloc (Off S base v) w (.cells ys.toArray E)) hcells
 have hbase' : base ≤ (w.alloc (.cells ys.toArray E)).heap.size := by simp; omega
 obtain ⟨v', w', hrun, ho', hg, hrow⟩ := run_append_Own hT _ ty base v l.length xs ho _ _ l'.length _ ys hr hcells'.one h63 hbytes hbase'
 have hb : Below base (w.alloc (.cells ys.toArray E)) w' := Below.own (Below.refl _ _) ho hg (Nat.le_refl _) hbase'
 refine ⟨v', w', hrun, ⟨xs ++ ys, by simpa using ho', ?_⟩, hg, ((Below.refl _ _).alloc hbase _).trans hb, ?_⟩
 ·
  have h1 := (hc.append hcells').fit
  have h2 := h1.keep (w' := w') (Kept.grown hg fun b hb => hb.1.2)
  refine h2.more fun b hb => ⟨hb.1.1, ?_⟩
  rcases hrow with h | h
  · rw [h]; exact hb.1.2
  rw [h]
  intro e
  injection e with e
  have := hb.2
  omega
 rcases hrow with h | h
 · exact Or.inl h
 refine Or.inr fun b hb => ?_
 rw [h] at hb
 injection hb with hb
 subst hb
 simp
def WordI (Bo : Nat) (f : List TreeD → List Int) (w : World) (pre : List TreeD) : Prop := ∃ v, w.heap[Bo]? = some (.cells #[v] 22 (0, 0)) ∧ OwnL Rep.int w (fun _ => False) (Bo + 1) 3 v (f pre)
def WordD (Bo : Nat) (w : World) (b : Nat) : Prop := b = Bo ∨ ∃ v, w.cell? ⟨Bo, 0, none⟩ = some v ∧ rowOf v = some b
section
variable {w w' : World} {Bo : Nat} {f : List TreeD → List Int} {pre : List TreeD}
theorem WordI.below (h : WordI Bo f w pre) (hb : Below w.heap.size w w') : WordI Bo f w' pre := by
 obtain ⟨v, h1, h2⟩ := h
 exact ⟨v, (hb.block _ (lt_of_block h1)).trans h1, h2.below hb⟩
theorem WordI.keepD (h : WordI Bo f w pre) (hb : Below w.heap.size w w') (b : Nat) (hd : WordD Bo w' b) : WordD Bo w b := by
 obtain ⟨v, h1, h2⟩ := h
 rcases hd with h | ⟨u, h3, h4⟩
 · exact Or.inl h
 exact Or.inr ⟨u, (hb.cell (p := ⟨Bo, 0, none⟩) (lt_of_block h1)).symm.trans h3, h4⟩
theorem WordI.own {B b : Nat} (h : WordI Bo f w pre) (hB : B ≤ Bo) (hd : WordD Bo w b) : B ≤ b ∧ b < w.heap.size := by
 obtain ⟨v, h1, h2⟩ := h
 rcases hd with rfl | ⟨u, h3, h4⟩
 · exact ⟨hB, lt_of_block h1⟩
 rw [cell_of_one h1] at h3
 injection h3 with h3
 subst h3
 have := h2.row h4
 omega
theorem WordI.push (h : WordI Bo f w pre) (hl : (f pre).length ≤ 1000000) (x : Int) (T : TypeId) (u1 u2 u3 : Value) :
    ∃ v A2 n2 c2 w2, w.cell? ⟨Bo, 0, none⟩ = some v ∧ (Builtin.append_ #[22, 22] 22 #[v, .slice (some ⟨w.heap.size + 1, 0, none⟩) 1 1]).run Tryz.prog ((w.alloc (.cells #[u1, u2, u3] T)).alloc (.cells #[.int .i64 x] 3)) = .ok (.slice A2 n2 c2) w2 ∧
     w2.cell? ⟨Bo, 0, none⟩ = some v ∧ w2.frozen? ⟨Bo, 0, none⟩ = false ∧ (∀ pre', f pre' = f pre ++ [x] → WordI Bo f (w2.setCell ⟨Bo, 0, none⟩ (.slice A2 n2 c2)) pre') ∧ Fr (WordD Bo) w (w2.setCell ⟨Bo, 0, none⟩ (.slice A2 n2 c2)) := by
 obtain ⟨v, h1, h2⟩ := h
 have hlt := lt_of_block h1
 obtain ⟨v2, w2, hrun, ho, hg, hb, hrow⟩ := run_append_litR (R := Rep.int) tInts rfl (w.alloc (.cells #[u1, u2, u3] T)) 22 (Bo + 1) (fun _ => False) v (f pre) (h2.alloc _) 1 [x] [.int .i64 x] (Cells.single rfl) rfl (by unfold maxLen; omega) (by omega) (by simp; omega)
 obtain ⟨A2, c2, rfl, _, _⟩ := ho.form
 obtain ⟨n2, hn2⟩ : ∃ n2, n2 = (f pre ++ [x]).length := ⟨_, rfl⟩
 rw [← hn2] at hrun ho hrow
 have hr2 : w2.heap[Bo]? = some (.cells #[v] 22 (0, 0)) := (hb.block _ (by omega)).trans ((Below.heap_alloc _ _ _ hlt).trans h1)
 have hset := set_grown (Bd := Bo) w2 0 (.slice A2 n2 c2)
 have hz := hg.size
 simp only [World.size_alloc] at hz hrun
 refine ⟨v, A2, n2, c2, w2, cell_of_one h1, hrun, cell_of_one hr2, free_of_one hr2, ?_, ?_⟩
 ·
  intro pre' hp
  refine ⟨_, one_setCell hr2, ?_⟩
  rw [hp]
  exact ho.keepG hset (fun g e => by injection e with e; omega)
 refine ⟨?_, ?_, ?_, by simp [World.setCell]; omega, ?_, ?_⟩
 · exact hb.os
 · exact hb.tape
 · exact hb.output
 ·
  intro b hbl hd
  refine (Below.heap_setCell _ _ _ _ (fun e => hd (Or.inl e))).trans ?_
  refine (hg.block b (by simp; omega) (fun e => hd (Or.inr ⟨v, cell_of_one h1, e.symm⟩))).trans ?_
  exact (Below.heap_alloc _ _ _ (by simp; omega)).trans (Below.heap_alloc _ _ _ hbl)
 intro b hbl hd
 rcases hd with h | ⟨u, h3, h4⟩
 · exact Or.inl h
 rw [cell_of_one (one_setCell hr2)] at h3
 injection h3 with h3
 subst h3
 rcases hrow with h | h
 · exact Or.inr ⟨v, cell_of_one h1, h.symm.trans h4⟩
 have := h b h4
 simp at this
 omega
end
theorem wordOf_snoc (pre : List TreeD) (x : TreeD) : wordOf (pre ++ [x]) = if x.rule = -1 then wordOf pre ++ [x.term] else wordOf pre := by
 rw [wordOf_append]
 unfold wordOf
 by_cases h : x.rule = -1
 ·
  rw [if_pos h, List.filter_cons_of_pos (by simpa using h)]
  rfl
 rw [if_neg h, List.filter_cons_of_neg (by simpa using h)]
 simp
theorem wordOf_len (l : List TreeD) : (wordOf l).length ≤ l.length := by
 unfold wordOf
 rw [List.length_map]
 exact List.length_filter_le _ _
set_option maxRecDepth 100000 in
set_option maxHeartbeats 1000000 in
theorem wordFn (w : World) (Bo : Nat) (pre : List TreeD) (hI : WordI Bo wordOf w pre) (hp : pre.length < 1000000) (x : TreeD) (A : Option Addr) (m c : Nat) :
    Calls Tryz.prog 32 #[.agg #[.int .i64 x.rule, .int .i64 x.term, .slice A m c], .pointer (some ⟨Bo, 0, none⟩)] w fun e w' => e = .returned (.bool true) ∧ WordI Bo wordOf w' (pre ++ [x]) ∧ Fr (WordD Bo) w w' := by
 have hs := wordOf_snoc pre x
 have HI := zh hI
 obtain ⟨v0, hb0, _⟩ := hI
 have hl0 := lt_of_block hb0
 by_cases h : x.rule = -1
 ·
  rw [if_pos h] at hs
  obtain ⟨v, A2, n2, c2, w2, h1, h2, h3, h4, h5, h6⟩ := HI.out.push (by have := wordOf_len pre; omega) x.term 44 (.int .i64 x.rule) (.int .i64 x.term) (.slice A m c)
  have HRUN := zh h2
  have H5 := zh h5
  have H6 := zh h6
  have HS := zh hs
  have hc := (World.cell?_alloc_lt w (.cells #[.int .i64 x.rule, .int .i64 x.term, .slice A m c] 44) ⟨Bo, 0, none⟩ hl0).trans h1
  have hr : (x.rule == -1) = true := by simpa using h
  have hl2 := cell_lt h3
  clear h2 h5 h6 hs hb0 h h1
  go_enter Tryz.func32, Tryz.ntmps32
  go_wp2_with (at_builtin; refine Lib.wpList_append_run _ rfl _ _ _ _ rfl _ _ rfl rfl _ _ HRUN.out ?_)
  go_ret
  exact ⟨rfl, H5.out _ HS.out, H6.out⟩
 rw [if_neg h] at hs
 have hr : (x.rule == -1) = false := by simpa using h
 have HS := zh hs
 clear hs hb0 h
 go_enter Tryz.func32, Tryz.ntmps32
 go_wp2_with fail
 go_ret
 refine ⟨rfl, ?_, Fr.of ((Below.refl _ _).alloc (Nat.le_refl _) _) (HI.out.keepD ((Below.refl _ _).alloc (Nat.le_refl _) _))⟩
 obtain ⟨v, h1, h2⟩ := HI.out.below ((Below.refl _ _).alloc (Nat.le_refl _) (.cells #[.int .i64 x.rule, .int .i64 x.term, .slice A m c] 44))
 exact ⟨v, h1, by rw [HS.out]; exact h2⟩
theorem entersWordT : ∀ (args : Array Value) (u : World), (callFunc 32 args).run Tryz.prog u = .ok (.enter 32 args) u := enters_of Tryz.func32 (by kernel_rfl) rfl
theorem visitsWord (B Bo : Nat) (hB : B ≤ Bo) : Visits Tryz.prog B (WordD Bo) (WordI Bo wordOf) Leafy 32 #[.pointer (some ⟨Bo, 0, none⟩)] where
 keepI := fun h hb => h.below hb
 keepD := fun h hb b hd => h.keepD hb b hd
 own := fun h hd => h.own hB hd
 leaf := fun _ h => h
 call := fun w pre x A m c hlt _ hi _ _ => wordFn w Bo pre hi hlt x A m c
theorem WordI.start (w : World) (f : List TreeD → List Int) (hf : f [] = []) (Bo : Nat) (h : w.heap[Bo]? = some (.cells #[.slice none 0 0] 22 (0, 0))) : WordI Bo f w [] := ⟨_, h, by rw [hf]; exact OwnL.nil _ _ _ _ _⟩
set_option maxHeartbeats 1000000 in
theorem treeWord (w : World) (S : Nat → Prop) (t : TreeD) (A : Option Addr) (m c : Nat) (hs : Sl RTree w S A m c t.kids) (hl : ∀ x ∈ nodesT t, Leafy x) (hsz : sizeT t ≤ 1000000) :
    Calls Tryz.prog 13 #[.agg #[.int .i64 t.rule, .int .i64 t.term, .slice A m c]] w fun e w' => ∃ A' c', e = .returned (.slice A' (wordT t).length c') ∧ Rd w' (fun b => w.heap.size ≤ b) 1 A' (wordT t).length ((wordT t).map (Value.int .i64)) ∧ (wordT t).length ≤ c' ∧ Below w.heap.size w w' := by
 have HS := zh (hs.fit.more (S' := fun b => b < w.heap.size) (fun b hb => hb.2))
 have HL := zh hl
 have HSZ := zh hsz
 have HV := zh (visitsWord w.heap.size (w.heap.size + 1) (by omega))
 have HE := zh entersWordT
 clear hs hl hsz
 go_enter Tryz.func13, Tryz.ntmps13
 go_wp2_with fail
 have hst : WordI (w.heap.size + 1) wordOf ((w.alloc (.cells #[.int .i64 t.rule, .int .i64 t.term, .slice A m c] 44)).alloc (.cells #[.slice none 0 0] 22)) [] := WordI.start _ _ rfl _ (heap_new _ _ _ (by simp))
 refine (treeWalk HE.out HV.out (sizeT t) t _ [] A m c (Nat.le_refl _) (by have := HSZ.out; simpa using this) (by simp; omega) hst ((HS.out.alloc _).alloc _) HL.out).mono ?_
 rintro e w1 ⟨rfl, hi, hf⟩
 have hb : Below w.heap.size w w1 := (((Below.refl _ _).alloc (Nat.le_refl _) _).alloc (by simp) _).trans (hf.below (by simp; omega) (fun b h => (hst.own (B := w.heap.size) (by omega) h).1))
 have HB := zh hb
 obtain ⟨v, h1, h2⟩ := hi
 rw [List.nil_append] at h2
 have h0 := cell_of_one h1
 have hl := lt_of_block h1
 obtain ⟨A', c', rfl, hc, _⟩ := h2.form
 have HO := zh h2
 clear hf hb h1 h2 hst
 go_wp2_with fail
 go_ret
 exact ⟨A', c', rfl, HO.out.sl.ints.more (fun b hb => by rcases hb with h | h; exact h.elim; omega), hc, HB.out⟩
section
variable {R : List RuleD}
theorem TV.nodes {G : SymD → Prop} (hG : ∀ r ∈ R, ∀ s ∈ r.2, G s) : ∀ (m : Nat) {s : SymD} {t : TreeD}, sizeT t ≤ m → TV R s t → G s → ∀ x ∈ nodesT t, ∃ s, TV R s x ∧ G s
 | 0, s, t, hm, _, _ => by rw [sizeT_eq] at hm; omega
 | m + 1, s, t, hm, h, hs => by
  intro x hx
  rw [nodesT_eq, List.mem_cons] at hx
  rcases hx with rfl | hx
  · exact ⟨s, h, hs⟩
  have hmem : ∀ {l : List TreeD}, x ∈ nodesTs l → ∃ y ∈ l, x ∈ nodesT y := by
   intro l
   induction l with
   | nil => intro h; rw [nodesTs_nil] at h; cases h
   | cons y l ih =>
    intro h
    rw [nodesTs_cons, List.mem_append] at h
    rcases h with h | h
    · exact ⟨y, by simp, h⟩
    obtain ⟨z, hz, h⟩ := ih h
    exact ⟨z, by simp [hz], h⟩
  obtain ⟨y, hy, hxy⟩ := hmem hx
  have hlt := sizeT_kid hy
  rcases h.inv with ⟨c, rfl, rfl⟩ | ⟨k, r, ts, rfl, rfl, h1, h2⟩
  · cases hy
  obtain ⟨s', hs', h3⟩ := h2.mem hy
  exact TV.nodes hG m (by omega) h3 (hG r (List.mem_of_getElem? h1) s' hs') x hxy
theorem TV.leaves {s : SymD} {t : TreeD} (h : TV R s t) : ∀ x ∈ nodesT t, Leafy x := by
 intro x hx
 obtain ⟨s', h', _⟩ := TV.nodes (G := fun _ => True) (fun _ _ _ _ => trivial) _ (Nat.le_refl _) h trivial x hx
 exact fun e => h'.leafy e
end
end Go.Proofs.YtjnbjdbndbbanaaGreatDoor
