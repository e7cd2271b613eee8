/- TreeWd TreeS -/
import Derived.OneCell
import Derived.Shelf.Abstract
import Derived.Test.YtbmcoamdfpegnaaMt13
import Derived.Test.YtbmcoamdfpegnaaMt35
namespace Go.Proofs.Ytbmcoamdfpegnaa
open Go.RowKit
def Leafy (x : TreeD) : Prop := x.rule = -1 → x.kids = []
theorem Fr.set {D : World → Nat → Prop} {w w' : World} {b : Nat} (h : Fr D w w') (hD : ∀ u, D u b) (v : Value) (ho : ∀ q, q < w.heap.size → D (w'.setCell ⟨b, 0, none⟩ v) q → D w q) : Fr D w (w'.setCell ⟨b, 0, none⟩ v) :=
 ⟨h.os, h.tape, h.output, by simp [World.setCell]; exact h.size, fun q hq hd => (Below.heap_setCell _ _ _ _ (fun e => hd (by subst e; exact hD _))).trans (h.block q hq hd), ho⟩
theorem run_append_litR {α : Type} {R : Rep α} {P : Program} {T E s bytes : Nat} {z : Value} (hT : SlType P T E s bytes z) (hs : R.size = s) (w : World) (ty base : Nat) (S : Nat → Prop) (v : Value) (l : List α)
    (hown : OwnL R w S base E v l) (m : Nat) (l' : List α) (ys : List Value) (hcells : Cells R w (Off S base v) ys l') (hm : m = l'.length)
    (h63 : l.length + m ≤ maxLen) (hbytes : (l.length + m) * bytes ≤ 140737488355328) (hbase : base ≤ w.heap.size) :
    ∃ v' w', (Builtin.append_ #[T, T] ty #[v, .slice (some ⟨w.heap.size, 0, none⟩) m m]).run P (w.alloc (.cells ys.toArray E)) = .ok v' w' ∧ OwnL R w' S base E v' (l ++ l') ∧ (w.alloc (.cells ys.toArray E)).grownBy w' (rowOf v) ∧ Below base w w' ∧ (rowOf v' = rowOf v ∨ ∀ b, rowOf v' = some b → w.heap.size ≤ b) := by
 subst hs
 subst hm
 have hr : Rd (w.alloc (.cells ys.toArray E)) (fun _ => True) R.size (some ⟨w.heap.size, 0, none⟩) l'.length ys := by
  refine ⟨by rw [hcells.len], fun _ => ⟨w.heap.size, 0, rfl, trivial, fun j v hv => ?_⟩⟩
  rw [World.cell?_alloc_at _ _ _ _ rfl]
  simpa using hv
 obtain ⟨xs, ho, hc⟩ := hown.alloc (.cells ys.toArray E)
 have hcells' := Cells.keep (.alloc (Off S base v) w (.cells ys.toArray E)) hcells
 have hbase' : base ≤ (w.alloc (.cells ys.toArray E)).heap.size := by simp; omega
 obtain ⟨v', w', hrun, ho', hg, hrow⟩ := run_append_Own hT _ ty base v l.length xs ho _ _ l'.length _ ys hr hcells'.one h63 hbytes hbase'
 have hb : Below base (w.alloc (.cells ys.toArray E)) w' := Below.own (Below.refl _ _) ho hg (Nat.le_refl _) hbase'
 refine ⟨v', w', hrun, ⟨xs ++ ys, by simpa using ho', ?_⟩, hg, ((Below.refl _ _).alloc hbase _).trans hb, ?_⟩
 ·
  have h1 := (hc.append hcells').fit
  have h2 := h1.keep (w' := w') (Kept.grown hg fun b hb => hb.1.2)
  refine h2.more fun b hb => ⟨hb.1.1, ?_⟩
  rcases hrow with h | h
  ·
   rw [h]; exact hb.1.2
  ·
   rw [h]
   intro e
   injection e with e
   have := hb.2
   omega
 ·
  rcases hrow with h | h
  ·
   exact Or.inl h
  ·
   refine Or.inr fun b hb => ?_
   rw [h] at hb
   injection hb with hb
   subst hb
   simp
def WordI (Bo : Nat) (f : List TreeD → List Int) (w : World) (pre : List TreeD) : Prop := ∃ v, w.heap[Bo]? = some (.cells #[v] 22 (0, 0)) ∧ OwnL Rep.int w (fun _ => False) (Bo + 1) 3 v (f pre)
def WordD (Bo : Nat) (w : World) (b : Nat) : Prop := b = Bo ∨ ∃ v, w.cell? ⟨Bo, 0, none⟩ = some v ∧ rowOf v = some b
section
variable {w w' : World} {Bo : Nat} {f : List TreeD → List Int} {pre : List TreeD}
theorem WordI.below (h : WordI Bo f w pre) (hb : Below w.heap.size w w') : WordI Bo f w' pre := by
 obtain ⟨v, h1, h2⟩ := h
 exact ⟨v, (hb.block _ (lt_of_block h1)).trans h1, h2.below hb⟩
theorem WordI.keepD (h : WordI Bo f w pre) (hb : Below w.heap.size w w') (b : Nat) (hd : WordD Bo w' b) : WordD Bo w b := by
 obtain ⟨v, h1, h2⟩ := h
 rcases hd with h | ⟨u, h3, h4⟩
 ·
  exact Or.inl h
 ·
  exact Or.inr ⟨u, (hb.cell (p := ⟨Bo, 0, none⟩) (lt_of_block h1)).symm.trans h3, h4⟩
theorem WordI.own {B b : Nat} (h : WordI Bo f w pre) (hB : B ≤ Bo) (hd : WordD Bo w b) : B ≤ b ∧ b < w.heap.size := by
 obtain ⟨v, h1, h2⟩ := h
 rcases hd with rfl | ⟨u, h3, h4⟩
 ·
  exact ⟨hB, lt_of_block h1⟩
 ·
  rw [cell_of_one h1] at h3
  injection h3 with h3
  subst h3
  have := h2.row h4
  omega
theorem WordI.push (h : WordI Bo f w pre) (hl : (f pre).length ≤ 1000000) (x : Int) (T : TypeId) (u1 u2 u3 : Value) :
    ∃ v A2 n2 c2 w2, w.cell? ⟨Bo, 0, none⟩ = some v ∧ (Builtin.append_ #[22, 22] 22 #[v, .slice (some ⟨w.heap.size + 1, 0, none⟩) 1 1]).run Try.prog ((w.alloc (.cells #[u1, u2, u3] T)).alloc (.cells #[.int .i64 x] 3)) = .ok (.slice A2 n2 c2) w2 ∧
     w2.cell? ⟨Bo, 0, none⟩ = some v ∧ w2.frozen? ⟨Bo, 0, none⟩ = false ∧ (∀ pre', f pre' = f pre ++ [x] → WordI Bo f (w2.setCell ⟨Bo, 0, none⟩ (.slice A2 n2 c2)) pre') ∧ Fr (WordD Bo) w (w2.setCell ⟨Bo, 0, none⟩ (.slice A2 n2 c2)) := by
 obtain ⟨v, h1, h2⟩ := h
 have hlt := lt_of_block h1
 obtain ⟨v2, w2, hrun, ho, hg, hb, hrow⟩ := run_append_litR (R := Rep.int) tInts rfl (w.alloc (.cells #[u1, u2, u3] T)) 22 (Bo + 1) (fun _ => False) v (f pre) (h2.alloc _) 1 [x] [.int .i64 x] (Cells.single rfl) rfl (by unfold maxLen; omega) (by omega) (by simp; omega)
 obtain ⟨A2, c2, rfl, _, _⟩ := ho.form
 obtain ⟨n2, hn2⟩ : ∃ n2, n2 = (f pre ++ [x]).length := ⟨_, rfl⟩
 rw [← hn2] at hrun ho hrow
 have hr2 : w2.heap[Bo]? = some (.cells #[v] 22 (0, 0)) := (hb.block _ (by omega)).trans ((Below.heap_alloc _ _ _ hlt).trans h1)
 have hset := set_grown (Bd := Bo) w2 0 (.slice A2 n2 c2)
 have hz := hg.size
 simp only [World.size_alloc] at hz hrun
 refine ⟨v, A2, n2, c2, w2, cell_of_one h1, hrun, cell_of_one hr2, free_of_one hr2, ?_, ?_⟩
 ·
  intro pre' hp
  refine ⟨_, one_setCell hr2, ?_⟩
  rw [hp]
  exact ho.keepG hset (fun g e => by injection e with e; omega)
 ·
  refine ⟨?_, ?_, ?_, by simp [World.setCell]; omega, ?_, ?_⟩
  ·
   exact hb.os
  ·
   exact hb.tape
  ·
   exact hb.output
  ·
   intro b hbl hd
   refine (Below.heap_setCell _ _ _ _ (fun e => hd (Or.inl e))).trans ?_
   refine (hg.block b (by simp; omega) (fun e => hd (Or.inr ⟨v, cell_of_one h1, e.symm⟩))).trans ?_
   exact (Below.heap_alloc _ _ _ (by simp; omega)).trans (Below.heap_alloc _ _ _ hbl)
  ·
   intro b hbl hd
   rcases hd with h | ⟨u, h3, h4⟩
   ·
    exact Or.inl h
   ·
    rw [cell_of_one (one_setCell hr2)] at h3
    injection h3 with h3
    subst h3
    rcases hrow with h | h
    ·
     exact Or.inr ⟨v, cell_of_one h1, h.symm.trans h4⟩
    ·
     have := h b h4
     simp at this
     omega
end
theorem wordOf_snoc (pre : List TreeD) (x : TreeD) : wordOf (pre ++ [x]) = if x.rule = -1 then wordOf pre ++ [x.term] else wordOf pre := by
 rw [wordOf_append]
 unfold wordOf
 by_cases h : x.rule = -1
 ·
  rw [if_pos h, List.filter_cons_of_pos (by simpa using h)]
  rfl
 ·
  rw [if_neg h, List.filter_cons_of_neg (by simpa using h)]
  simp
theorem wordOf_len (l : List TreeD) : (wordOf l).length ≤ l.length := by
 unfold wordOf
 rw [List.length_map]
 exact List.length_filter_le _ _
set_option maxRecDepth 100000 in
set_option maxHeartbeats 1000000 in
theorem wordFn (w : World) (Bo : Nat) (pre : List TreeD) (hI : WordI Bo wordOf w pre) (hp : pre.length < 1000000) (x : TreeD) (A : Option Addr) (m c : Nat) :
    Calls Try.prog 45 #[.agg #[.int .i64 x.rule, .int .i64 x.term, .slice A m c], .pointer (some ⟨Bo, 0, none⟩)] w fun e w' => e = .returned (.bool true) ∧ WordI Bo wordOf w' (pre ++ [x]) ∧ Fr (WordD Bo) w w' := by
 have hs := wordOf_snoc pre x
 have HI := Lib.hid hI
 obtain ⟨v0, hb0, _⟩ := hI
 have hl0 := lt_of_block hb0
 by_cases h : x.rule = -1
 ·
  rw [if_pos h] at hs
  obtain ⟨v, A2, n2, c2, w2, h1, h2, h3, h4, h5, h6⟩ := HI.out.push (by have := wordOf_len pre; omega) x.term 55 (.int .i64 x.rule) (.int .i64 x.term) (.slice A m c)
  have HRUN := Lib.hid h2
  have H5 := Lib.hid h5
  have H6 := Lib.hid h6
  have HS := Lib.hid hs
  have hc := (World.cell?_alloc_lt w (.cells #[.int .i64 x.rule, .int .i64 x.term, .slice A m c] 55) ⟨Bo, 0, none⟩ hl0).trans h1
  have hr : (x.rule == -1) = true := by simpa using h
  have hl2 := cell_lt h3
  clear h2 h5 h6 hs hb0 h h1
  go_enter Try.func45, Try.ntmps45
  go_wp2_with (at_builtin; refine Lib.wpList_append_run _ rfl _ _ _ _ rfl _ _ rfl rfl _ _ HRUN.out ?_)
  go_ret
  exact ⟨rfl, H5.out _ HS.out, H6.out⟩
 ·
  rw [if_neg h] at hs
  have hr : (x.rule == -1) = false := by simpa using h
  have HS := Lib.hid hs
  clear hs hb0 h
  go_enter Try.func45, Try.ntmps45
  go_wp2_with fail
  go_ret
  refine ⟨rfl, ?_, Fr.of ((Below.refl _ _).alloc (Nat.le_refl _) _) (HI.out.keepD ((Below.refl _ _).alloc (Nat.le_refl _) _))⟩
  obtain ⟨v, h1, h2⟩ := HI.out.below ((Below.refl _ _).alloc (Nat.le_refl _) (.cells #[.int .i64 x.rule, .int .i64 x.term, .slice A m c] 55))
  exact ⟨v, h1, by rw [HS.out]; exact h2⟩
theorem entersWord : ∀ (args : Array Value) (u : World), (callFunc 45 args).run Try.prog u = .ok (.enter 45 args) u := enters_of Try.func45 (by kernel_rfl) rfl
theorem visitsWord (B Bo : Nat) (hB : B ≤ Bo) : Visits Try.prog B (WordD Bo) (WordI Bo wordOf) Leafy 45 #[.pointer (some ⟨Bo, 0, none⟩)] where
 keepI := fun h hb => h.below hb
 keepD := fun h hb b hd => h.keepD hb b hd
 own := fun h hd => h.own hB hd
 leaf := fun _ h => h
 call := fun w pre x A m c hlt _ hi _ _ => wordFn w Bo pre hi hlt x A m c
theorem WordI.start (w : World) (f : List TreeD → List Int) (hf : f [] = []) (Bo : Nat) (h : w.heap[Bo]? = some (.cells #[.slice none 0 0] 22 (0, 0))) : WordI Bo f w [] := ⟨_, h, by rw [hf]; exact OwnL.nil _ _ _ _ _⟩
set_option maxHeartbeats 1000000 in
theorem treeWord (w : World) (S : Nat → Prop) (t : TreeD) (A : Option Addr) (m c : Nat) (hs : Sl RTree w S A m c t.kids) (hl : ∀ x ∈ nodesT t, Leafy x) (hsz : sizeT t ≤ 1000000) :
    Calls Try.prog 17 #[.agg #[.int .i64 t.rule, .int .i64 t.term, .slice A m c]] w fun e w' => ∃ A' c', e = .returned (.slice A' (wordT t).length c') ∧ Rd w' (fun b => w.heap.size ≤ b) 1 A' (wordT t).length ((wordT t).map (Value.int .i64)) ∧ (wordT t).length ≤ c' ∧ Below w.heap.size w w' := by
 have HS := Lib.hid (hs.fit.more (S' := fun b => b < w.heap.size) (fun b hb => hb.2))
 have HL := Lib.hid hl
 have HSZ := Lib.hid hsz
 have HV := Lib.hid (visitsWord w.heap.size (w.heap.size + 1) (by omega))
 have HE := Lib.hid entersWord
 clear hs hl hsz
 go_enter Try.func17, Try.ntmps17
 go_wp2_with fail
 have hst : WordI (w.heap.size + 1) wordOf ((w.alloc (.cells #[.int .i64 t.rule, .int .i64 t.term, .slice A m c] 55)).alloc (.cells #[.slice none 0 0] 22)) [] := WordI.start _ _ rfl _ (heap_new _ _ _ (by simp))
 refine (treeWalk HE.out HV.out (sizeT t) t _ [] A m c (Nat.le_refl _) (by have := HSZ.out; simpa using this) (by simp; omega) hst ((HS.out.alloc _).alloc _) HL.out).mono ?_
 rintro e w1 ⟨rfl, hi, hf⟩
 have hb : Below w.heap.size w w1 := (((Below.refl _ _).alloc (Nat.le_refl _) _).alloc (by simp) _).trans (hf.below (by simp; omega) (fun b h => (hst.own (B := w.heap.size) (by omega) h).1))
 have HB := Lib.hid hb
 obtain ⟨v, h1, h2⟩ := hi
 rw [List.nil_append] at h2
 have h0 := cell_of_one h1
 have hl := lt_of_block h1
 obtain ⟨A', c', rfl, hc, _⟩ := h2.form
 have HO := Lib.hid h2
 clear hf hb h1 h2 hst
 go_wp2_with fail
 go_ret
 exact ⟨A', c', rfl, HO.out.sl.ints.more (fun b hb => by rcases hb with h | h; exact h.elim; omega), hc, HB.out⟩
section
variable {R : List RuleD}
theorem TV.nodes {G : SymD → Prop} (hG : ∀ r ∈ R, ∀ s ∈ r.2, G s) : ∀ (m : Nat) {s : SymD} {t : TreeD}, sizeT t ≤ m → TV R s t → G s → ∀ x ∈ nodesT t, ∃ s, TV R s x ∧ G s
 | 0, s, t, hm, _, _ => by rw [sizeT_eq] at hm; omega
 | m + 1, s, t, hm, h, hs => by
  intro x hx
  rw [nodesT_eq, List.mem_cons] at hx
  rcases hx with rfl | hx
  ·
   exact ⟨s, h, hs⟩
  ·
   have hmem : ∀ {l : List TreeD}, x ∈ nodesTs l → ∃ y ∈ l, x ∈ nodesT y := by
    intro l
    induction l with
    | nil => intro h; rw [nodesTs_nil] at h; cases h
    | cons y l ih =>
     intro h
     rw [nodesTs_cons, List.mem_append] at h
     rcases h with h | h
     ·
      exact ⟨y, by simp, h⟩
     ·
      obtain ⟨z, hz, h⟩ := ih h
      exact ⟨z, by simp [hz], h⟩
   obtain ⟨y, hy, hxy⟩ := hmem hx
   have hlt := sizeT_kid hy
   rcases h.inv with ⟨c, rfl, rfl⟩ | ⟨k, r, ts, rfl, rfl, h1, h2⟩
   ·
    cases hy
   ·
    obtain ⟨s', hs', h3⟩ := h2.mem hy
    exact TV.nodes hG m (by omega) h3 (hG r (List.mem_of_getElem? h1) s' hs') x hxy
theorem TV.leaves {s : SymD} {t : TreeD} (h : TV R s t) : ∀ x ∈ nodesT t, Leafy x := by
 intro x hx
 obtain ⟨s', h', _⟩ := TV.nodes (G := fun _ => True) (fun _ _ _ _ => trivial) _ (Nat.le_refl _) h trivial x hx
 exact fun e => h'.leafy e
end
end Go.Proofs.Ytbmcoamdfpegnaa
namespace Go.Proofs.Ytbmcoamdfpegnaa
open Go.RowKit
def SizeI (Bn : Nat) (w : World) (pre : List TreeD) : Prop := w.heap[Bn]? = some (.cells #[.int .i64 (pre.length : Int)] 3 (0, 0))
set_option maxHeartbeats 1000000 in
theorem sizeFn (w : World) (Bn k : Nat) (hB : w.heap[Bn]? = some (.cells #[.int .i64 (k : Int)] 3 (0, 0))) (hk : k < 1000000) (r x : Int) (A : Option Addr) (m c : Nat) :
    Calls Try.prog 86 #[.agg #[.int .i64 r, .int .i64 x, .slice A m c], .pointer (some ⟨Bn, 0, none⟩)] w fun e w' => e = .returned (.bool true) ∧ w'.heap[Bn]? = some (.cells #[.int .i64 ((k + 1 : Nat) : Int)] 3 (0, 0)) ∧ Fr (fun _ b => b = Bn) w w' := by
 have h0 := cell_of_one hB
 have f0 := free_of_one hB
 have hl := lt_of_block hB
 have HB := Lib.hid hB
 clear hB
 go_enter Try.func86, Try.ntmps86
 go_wp2_with fail
 go_ret
 refine ⟨rfl, ?_, ((Fr.refl (fun _ q => q = Bn) w).set (fun _ => rfl) _ (fun q _ h => h)).trans (Fr.of ((Below.refl _ _).alloc (Nat.le_refl _) _) (fun b h => h))⟩
 rw [show ((k + 1 : Nat) : Int) = (k : Int) + 1 by omega]
 exact (Below.heap_alloc _ _ Bn (by simp [World.setCell]; exact hl)).trans (one_setCell HB.out)
theorem entersSize : ∀ (args : Array Value) (u : World), (callFunc 86 args).run Try.prog u = .ok (.enter 86 args) u := enters_of Try.func86 (by kernel_rfl) rfl
theorem visitsSize (B Bn : Nat) (hB : B ≤ Bn) : Visits Try.prog B (fun _ b => b = Bn) (SizeI Bn) Leafy 86 #[.pointer (some ⟨Bn, 0, none⟩)] where
 keepI := fun h hb => (hb.block _ (lt_of_block h)).trans h
 keepD := fun _ _ _ h => h
 own := fun h e => by subst e; exact ⟨hB, lt_of_block h⟩
 leaf := fun _ h => h
 call := fun w pre x A m c hlt _ hi _ _ => (sizeFn w Bn pre.length hi hlt _ _ A m c).mono fun e w' ⟨h1, h2, h3⟩ => ⟨h1, by unfold SizeI; rw [List.length_append]; exact h2, h3⟩
set_option maxHeartbeats 1000000 in
theorem treeSize (w : World) (S : Nat → Prop) (t : TreeD) (A : Option Addr) (m c : Nat) (hs : Sl RTree w S A m c t.kids) (hl : ∀ x ∈ nodesT t, Leafy x) (hsz : sizeT t ≤ 1000000) :
    Calls Try.prog 62 #[.agg #[.int .i64 t.rule, .int .i64 t.term, .slice A m c]] w fun e w' => e = .returned (.int .i64 (sizeT t : Int)) ∧ Below w.heap.size w w' := by
 have HS := Lib.hid (hs.fit.more (S' := fun b => b < w.heap.size) (fun b hb => hb.2))
 have HL := Lib.hid hl
 have HSZ := Lib.hid hsz
 have HV := Lib.hid (visitsSize w.heap.size (w.heap.size + 1) (by omega))
 have HE := Lib.hid entersSize
 clear hs hl hsz
 go_enter Try.func62, Try.ntmps62
 go_wp2_with fail
 refine (treeWalk HE.out HV.out (sizeT t) t _ [] A m c (Nat.le_refl _) (by have := HSZ.out; simpa using this) (by simp; omega) (by unfold SizeI; exact heap_new _ _ _ (by simp)) ((HS.out.alloc _).alloc _) HL.out).mono ?_
 rintro e w1 ⟨rfl, hi, hf⟩
 have hb : Below w.heap.size w w1 := (((Below.refl _ _).alloc (Nat.le_refl _) _).alloc (by simp) _).trans (hf.below (by simp; omega) (fun b h => by subst h; omega))
 have HB := Lib.hid hb
 have h0 := cell_of_one hi
 have hl := lt_of_block hi
 rw [List.nil_append] at h0
 have h0' : w1.cell? ⟨w.heap.size + 1, 0, none⟩ = some (.int .i64 (sizeT t : Int)) := h0
 clear hi hf hb h0
 go_wp2_with fail
 go_ret
 exact ⟨rfl, HB.out⟩
end Go.Proofs.Ytbmcoamdfpegnaa
