/- TreeW -/
import Derived.Test.YtbmcoamdfpegnaaMt05
import Derived.Test.YtbmcoamdfpegnaaMt11
namespace Go.Proofs.Ytbmcoamdfpegnaa
open Go.RowKit
structure Fr (D : World → Nat → Prop) (w w' : World) : Prop where
 os : w'.os = w.os
 tape : w'.tape = w.tape
 output : w'.output = w.output
 size : w.heap.size ≤ w'.heap.size
 block : ∀ b, b < w.heap.size → ¬ D w b → w'.heap[b]? = w.heap[b]?
 own : ∀ b, b < w.heap.size → D w' b → D w b
section
variable {D : World → Nat → Prop} {w w' w'' : World}
theorem Fr.refl (D : World → Nat → Prop) (w : World) : Fr D w w := ⟨rfl, rfl, rfl, Nat.le_refl _, fun _ _ _ => rfl, fun _ _ h => h⟩
theorem Fr.trans (h : Fr D w w') (k : Fr D w' w'') : Fr D w w'' :=
 ⟨k.os.trans h.os, k.tape.trans h.tape, k.output.trans h.output, Nat.le_trans h.size k.size,
  fun b hb hd => (k.block b (Nat.lt_of_lt_of_le hb h.size) (fun hd' => hd (h.own b hb hd'))).trans (h.block b hb hd),
  fun b hb hd => h.own b hb (k.own b (Nat.lt_of_lt_of_le hb h.size) hd)⟩
theorem Fr.of (h : Below w.heap.size w w') (hD : ∀ b, D w' b → D w b) : Fr D w w' := ⟨h.os, h.tape, h.output, h.size, fun b hb _ => h.block b hb, fun b _ hd => hD b hd⟩
theorem Fr.below {B : Nat} (h : Fr D w w') (hB : B ≤ w.heap.size) (hD : ∀ b, D w b → B ≤ b) : Below B w w' :=
 ⟨h.os, h.tape, h.output, h.size, fun b hb => h.block b (by omega) (fun hd => by have := hD b hd; omega)⟩
end
structure Visits (P : Program) (B : Nat) (D : World → Nat → Prop) (I : World → List TreeD → Prop) (G : TreeD → Prop) (F : FuncId) (caps : Array Value) : Prop where
 keepI : ∀ {w w' : World} {pre : List TreeD}, I w pre → Below w.heap.size w w' → I w' pre
 keepD : ∀ {w w' : World} {pre : List TreeD}, I w pre → Below w.heap.size w w' → ∀ b, D w' b → D w b
 own : ∀ {w : World} {pre : List TreeD} {b : Nat}, I w pre → D w b → B ≤ b ∧ b < w.heap.size
 leaf : ∀ x : TreeD, G x → x.rule = -1 → x.kids = []
 call : ∀ (w : World) (pre : List TreeD) (x : TreeD) (A : Option Addr) (m c : Nat), pre.length < 1000000 → B ≤ w.heap.size → I w pre → Sl RTree w (fun b => b < B) A m c x.kids → G x →
  Calls P F (#[.agg #[.int .i64 x.rule, .int .i64 x.term, .slice A m c]] ++ caps) w fun e w' => e = .returned (.bool true) ∧ I w' (pre ++ [x]) ∧ Fr D w w'
theorem len_size : ∀ l : List TreeD, l.length ≤ sizeTs l
 | [] => Nat.zero_le _
 | t :: l => by
  have := len_size l
  rw [sizeTs_cons, sizeT_eq, List.length_cons]
  omega
theorem sizeTs_take (l : List TreeD) (k : Nat) : sizeTs (l.take k) ≤ sizeTs l := by
 have h : sizeTs (l.take k ++ l.drop k) = sizeTs (l.take k) + sizeTs (l.drop k) := by unfold sizeTs; rw [nodesTs_append, List.length_append]
 rw [List.take_append_drop] at h
 omega
theorem nodesTs_mem : ∀ {l : List TreeD} {x y : TreeD}, x ∈ l → y ∈ nodesT x → y ∈ nodesTs l
 | z :: l, x, y, h, hy => by
  rw [nodesTs_cons, List.mem_append]
  rcases List.mem_cons.1 h with rfl | h
  ·
   exact Or.inl hy
  ·
   exact Or.inr (nodesTs_mem h hy)
set_option maxHeartbeats 1000000 in
theorem treeKids (w : World) (S : Nat → Prop) (t : TreeD) (A : Option Addr) (m c : Nat) (hs : Sl RTree w S A m c t.kids) (hl : t.rule = -1 → t.kids = []) :
    Calls Try.prog 68 #[.agg #[.int .i64 t.rule, .int .i64 t.term, .slice A m c]] w fun e w' => ∃ (A' : Option Addr) (c' : Nat), e = .returned (.slice A' m c') ∧ Sl RTree w' S A' m c' t.kids ∧ Below w.heap.size w w' := by
 have HL := Lib.hid hl
 have HS := Lib.hid hs
 have hm := hs.len
 obtain ⟨r, x, ks⟩ := t
 simp only [TreeD.rule, TreeD.term, TreeD.kids] at *
 have HM := Lib.hid hm
 clear hl hs hm
 by_cases h : r = -1
 ·
  subst h
  have hk := HL.out rfl
  subst hk
  obtain rfl : m = 0 := by have := HM.out; simpa using this
  clear HL HS HM
  go_enter Try.func68, Try.ntmps68
  go_wp2_with fail
  go_ret
  exact ⟨none, 0, rfl, Sl.nil _ _ _ _, (Below.refl _ _).alloc (Nat.le_refl _) _⟩
 ·
  have hb : (r == -1) = false := by simpa using h
  clear h
  go_enter Try.func68, Try.ntmps68
  go_wp2_with fail
  go_ret
  exact ⟨A, c, rfl, HS.out.alloc _, (Below.refl _ _).alloc (Nat.le_refl _) _⟩
set_option maxHeartbeats 2000000 in
theorem treeWalk {B : Nat} {D : World → Nat → Prop} {I : World → List TreeD → Prop} {G : TreeD → Prop} {F : FuncId} {caps : Array Value} (he : ∀ (args : Array Value) (u : World), (callFunc F args).run Try.prog u = .ok (.enter F args) u) (hV : Visits Try.prog B D I G F caps) :
    ∀ (sz : Nat) (t : TreeD) (w : World) (pre : List TreeD) (A : Option Addr) (m c : Nat), sizeT t ≤ sz → pre.length + sizeT t ≤ 1000000 → B ≤ w.heap.size → I w pre → Sl RTree w (fun b => b < B) A m c t.kids → (∀ x ∈ nodesT t, G x) →
    Calls Try.prog 44 #[.agg #[.int .i64 t.rule, .int .i64 t.term, .slice A m c], .func (.func F) #[] caps] w fun e w' => e = .returned (.bool true) ∧ I w' (pre ++ nodesT t) ∧ Fr D w w'
 | 0, t, w, pre, A, m, c, hsz, _, _, _, _, _ => by rw [sizeT_eq] at hsz; omega
 | sz + 1, t, w, pre, A, m, c, hsz, hsm, hB, hi, hs, hg => by
  have IH := Lib.hid (treeWalk he hV sz)
  have HV := Lib.hid hV
  have HI := Lib.hid hi
  have HS := Lib.hid hs
  have HG := Lib.hid hg
  have HLEN := Lib.hid hs.len
  have hm6 : m ≤ 1000000 := by
   have h1 := hs.len
   have h2 := len_size t.kids
   rw [sizeT_eq] at hsm
   omega
  have HSZ := Lib.hid (show ∀ (j : Nat) (x : TreeD), t.kids[j]? = some x → sizeT x ≤ sz ∧ (pre ++ t :: nodesTs (t.kids.take j)).length + sizeT x ≤ 1000000 from fun j x hx => by
   have h1 := sizeT_kid (List.mem_of_getElem? hx)
   have h2 := sizeTs_take t.kids (j + 1)
   unfold sizeTs at h2
   rw [nodesTs_step hx, List.length_append] at h2
   rw [sizeT_eq] at hsm
   unfold sizeTs at hsm
   rw [List.length_append, List.length_cons]
   refine ⟨by omega, ?_⟩
   unfold sizeT
   omega)
  have hpl : pre.length < 1000000 := by rw [sizeT_eq] at hsm; omega
  have hall : Below w.heap.size w (w.alloc (.cells #[.int .i64 t.rule, .int .i64 t.term, .slice A m c] 55)) := (Below.refl _ _).alloc (Nat.le_refl _) _
  have HAL := Lib.hid hall
  have HI1 := Lib.hid (hV.keepI hi hall)
  have HF0 := Lib.hid (show Fr D w (w.alloc (.cells #[.int .i64 t.rule, .int .i64 t.term, .slice A m c] 55)) from Fr.of hall (hV.keepD hi hall))
  clear hV hi hs hg hsz hsm hall
  go_enter Try.func44, Try.ntmps44
  go_wp2_with fail
  refine (HV.out.call _ pre t A m c hpl (by simp; omega) HI1.out (HS.out.alloc _) (HG.out t (by rw [nodesT_eq]; simp))).mono ?_
  rintro e w1 ⟨rfl, hi1, hf1⟩
  have hnd : ¬ D (w.alloc (.cells #[.int .i64 t.rule, .int .i64 t.term, .slice A m c] 55)) w.heap.size := fun hd => by
   have h1 := HV.out.keepD HI.out HAL.out _ hd
   have h2 := (HV.out.own HI.out h1).2
   omega
  have hblk : w1.heap[w.heap.size]? = some (.cells #[.int .i64 t.rule, .int .i64 t.term, .slice A m c] 55 (0, 0)) := (hf1.block _ (by simp) hnd).trans (heap_alloc_new w _)
  have hc0 : w1.cell? ⟨w.heap.size, 0, none⟩ = some (.int .i64 t.rule) := by simp [World.cell?, hblk]
  have hc1 : w1.cell? ⟨w.heap.size, 1, none⟩ = some (.int .i64 t.term) := by simp [World.cell?, hblk]
  have hc2 : w1.cell? ⟨w.heap.size, 2, none⟩ = some (.slice A m c) := by simp [World.cell?, hblk]
  have HI2 := Lib.hid hi1
  have hf := HF0.out.trans hf1
  have HF1 := Lib.hid hf
  have hs1 := hf.size
  have HS1 := Lib.hid (HS.out.keep (.belowB (hf.below hB (fun b hd => (HV.out.own HI.out hd).1)) (fun b hb => hb)))
  clear hi1 hf1 hnd hblk hf HF0 HAL HI1
  go_wp2_with fail
  refine (treeKids w1 _ t A m c HS1.out (HV.out.leaf t (HG.out t (by rw [nodesT_eq]; simp)))).mono ?_
  rintro e w2 ⟨A2, c2, rfl, hs2, hb2⟩
  have hi3 := HV.out.keepI HI2.out hb2
  have HI3 := Lib.hid hi3
  have HB2D := Lib.hid (show ∀ b, D w2 b → B ≤ b from fun b hd => (HV.out.own hi3 hd).1)
  have HF2 := Lib.hid (HF1.out.trans (Fr.of hb2 (HV.out.keepD HI2.out hb2)))
  have HS2 := Lib.hid hs2
  have hsz2 := hb2.size
  have hB2 : B ≤ w2.heap.size := by omega
  clear hs2 hb2 hi3 HF1 HI2 HS1 hc0 hc1 hc2
  go_wp2_with fail
  go_loopg [14] m (fun gk i wr => ∃ j : Nat, j ≤ m ∧ gk = m - j ∧ i = .int .i64 j ∧ I wr (pre ++ t :: nodesTs (t.kids.take j)) ∧ Fr D w2 wr)
  case atStart => exact ⟨0, Nat.zero_le _, rfl, rfl, by rw [List.take_zero, nodesTs_nil]; exact HI3.out, Fr.refl _ _⟩
  case round =>
   obtain ⟨j, hj, hgk, rfl, hij, hfj⟩ := hrel
   have HGK := Lib.hid hgk
   have HIJ := Lib.hid hij
   have HFJ := Lib.hid hfj
   have hszj := hfj.size
   have hBj : B ≤ wr.heap.size := by omega
   by_cases hlt : j < m
   ·
    have hsj := HS2.out.keep (.belowB (hfj.below hB2 HB2D.out) (fun b hb => hb))
    have HSJ := Lib.hid hsj
    obtain ⟨b, off, A3, m3, c3, x, rfl, hSb, hbl, hx0, hx1, hx2, hx, hxs⟩ := tree_at hsj hlt
    have hmem := List.mem_of_getElem? hx
    have hsize := HSZ.out j x hx
    have HXS := Lib.hid hxs
    have hall : Below wr.heap.size wr (wr.alloc (.cells #[.int .i64 x.rule, .int .i64 x.term, .slice A3 m3 c3] 55)) := (Below.refl _ _).alloc (Nat.le_refl _) _
    have HAL := Lib.hid hall
    have HI4 := Lib.hid (HV.out.keepI hij hall)
    have HF4 := Lib.hid (hfj.trans (Fr.of hall (HV.out.keepD hij hall)))
    have HST := Lib.hid (nodesTs_step hx)
    have HGX := Lib.hid (show ∀ y ∈ nodesT x, G y from fun y hy => HG.out y (by rw [nodesT_eq]; exact List.mem_cons_of_mem _ (nodesTs_mem hmem hy)))
    have HSIZE := Lib.hid hsize
    clear hgk hij hfj hsj hall hx hxs hmem hsize
    go_wp2_with fail
    refine (IH.out x _ _ A3 m3 c3 HSIZE.out.1 HSIZE.out.2 (by simp; omega) HI4.out (HXS.out.alloc _) HGX.out).mono ?_
    rintro e w4 ⟨rfl, hi5, hf5⟩
    have HI5 := Lib.hid hi5
    have HF5 := Lib.hid (HF4.out.trans hf5)
    clear hi5 hf5 hx0 hx1 hx2
    go_wp2_with fail
    go_roundg (m - (j + 1))
    case measure => rw [HGK.out]; omega
    case rel => exact ⟨j + 1, by omega, rfl, by go_num, by rw [HST.out, ← List.cons_append, ← List.append_assoc]; exact HI5.out, HF5.out⟩
   ·
    obtain rfl : j = m := by omega
    have hk : t.kids.take j = t.kids := List.take_of_length_le (by have := HLEN.out; omega)
    have HK := Lib.hid hk
    clear hgk hij hfj hk
    go_wp2_with fail
    go_ret
    refine ⟨rfl, ?_, HF2.out.trans HFJ.out⟩
    have h := HIJ.out
    rw [HK.out, ← nodesT_eq] at h
    exact h
end Go.Proofs.Ytbmcoamdfpegnaa
