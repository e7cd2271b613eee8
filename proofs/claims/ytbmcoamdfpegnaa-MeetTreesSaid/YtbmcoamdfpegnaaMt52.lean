/- MakeTree3 TreeR -/
import Derived.Test.YtbmcoamdfpegnaaMt05
import Derived.Test.YtbmcoamdfpegnaaMt36
import Derived.Test.YtbmcoamdfpegnaaMt51
namespace Go.Proofs.Ytbmcoamdfpegnaa
open Go.RowKit
theorem makeTreeAny {g : GramD} (hv : GValid g) {AR : Option Addr} {nR cR : Nat} {l : List Int} {S : Nat → Prop} {Bl Bs lo hi : Nat} (hB1 : lo ≤ Bl) (hB2 : Bl < hi) (hB3 : lo ≤ Bs) (hB4 : Bs < hi) (hne : Bl ≠ Bs) (hS : ∀ b, S b → b < lo) :
    ∀ (D : Nat) (dp : Int), dp = (D : Int) - 1 → D ≤ 100 → ∀ (w : World) (left : Int) (y : SymD), TrSt w S Bl Bs l left → hi ≤ w.heap.size → Sl RRule w (fun b => b < lo) AR nR cR g.2.2.2 → 0 ≤ left → left ≤ 60 →
    Calls Try.prog 36 #[.agg #[.int .i64 g.1, .int .i64 g.2.1, .int .i64 g.2.2.1, .slice AR nR cR], .agg #[.bool y.1, .int .i64 y.2], .pointer (some ⟨Bs, 0, none⟩), .pointer (some ⟨Bl, 0, none⟩), .int .i64 dp] w fun e w' =>
     ∃ left', left' < left ∧ TrSt w' S Bl Bs l left' ∧ Aside lo hi w w' ∧ MkOk g.2.2.2 y w.heap.size left left' e w'
 | 0, dp, hdp, _, w, left, y, hst, _, _, h0, h60 => makeTreeEnd hB1 hB2 hne hS dp w left y hst h0 h60 (Or.inr (by omega))
 | D + 1, dp, hdp, hD, w, left, y, hst, hhi, hg, h0, h60 => by
  by_cases hl : left - 1 < 0
  ·
   exact makeTreeEnd hB1 hB2 hne hS dp w left y hst h0 h60 (Or.inl hl)
  ·
   obtain ⟨b, yn⟩ := y
   cases b with
   | true => exact makeTreeLeaf hB1 hB2 hne hS dp w left yn hst (by omega) h60 (by omega)
   | false => exact makeTreeNode hv hB1 hB2 hB3 hB4 hne hS dp w left yn hst hhi hg (by omega) h60 (by omega) (by omega) (makeTreeAny hv hB1 hB2 hB3 hB4 hne hS D (dp - 1) (by omega) (by omega))
def TreeMade (g : GramD) (base : Nat) (e : Ending) (w' : World) : Prop :=
 e = .returned (.tuple #[.agg #[.int .i64 0, .int .i64 0, .slice none 0 0], .bool false]) ∨
  ∃ (t : TreeD) (A : Option Addr) (m c : Nat), e = .returned (.tuple #[.agg #[.int .i64 t.rule, .int .i64 t.term, .slice A m c], .bool true]) ∧ TV g.2.2.2 (false, g.2.2.1) t ∧ Sl RTree w' (fun b => base ≤ b) A m c t.kids ∧ sizeT t ≤ 60
set_option linter.unusedSimpArgs false in
set_option maxRecDepth 100000 in
set_option maxHeartbeats 4000000 in
theorem makeTree (w : World) (S S' : Nat → Prop) (AR : Option Addr) (nR cR : Nat) (g : GramD) (hg : Sl RRule w S AR nR cR g.2.2.2) (hv : GValid g) (A : Option Addr) (n c : Nat) (l : List Int) (hl : Sl Rep.int w S' A n c l) (hn : n ≤ 1000000000000000) :
    Calls Try.prog 14 #[.agg #[.int .i64 g.1, .int .i64 g.2.1, .int .i64 g.2.2.1, .slice AR nR cR], .slice A n c] w fun e w' => TreeMade g w.heap.size e w' ∧ Below w.heap.size w w' := by
 have HG := Lib.hid hg.fit
 have HL := Lib.hid hl.fit
 have HV := Lib.hid hv
 clear hg hl hv
 obtain ⟨w1, hw1⟩ : ∃ w1 : World, w1 = (((w.alloc (.cells #[.int .i64 g.1, .int .i64 g.2.1, .int .i64 g.2.2.1, .slice AR nR cR] 25)).alloc (.cells #[.int .i64 0, .int .i64 0, .slice none 0 0] 55)).alloc (.cells #[.int .i64 60] 3)).alloc (.cells #[.slice A n c] 77) := ⟨_, rfl⟩
 have hz1 : w1.heap.size = w.heap.size + 4 := by rw [hw1]; simp
 have hb1 : Below w.heap.size w w1 := by rw [hw1]; exact (Below.three _ _ _).alloc (by simp; omega) _
 have hblk : w1.heap[w.heap.size + 2]? = some (.cells #[.int .i64 60] 3 (0, 0)) := by rw [hw1]; exact (Below.heap_alloc _ _ _ (by simp)).trans (heap_new _ _ _ (by simp))
 have hres : w1.heap[w.heap.size + 1]? = some (.cells #[.int .i64 0, .int .i64 0, .slice none 0 0] 55 (0, 0)) := by rw [hw1]; exact (Below.heap_alloc _ _ _ (by simp)).trans ((Below.heap_alloc _ _ _ (by simp)).trans (heap_new _ _ _ (by simp)))
 have hstr : StreamAt w1 (fun b => S' b ∧ b < w.heap.size) (w.heap.size + 3) (l.drop 0) := by rw [hw1]; exact streamStart _ _ A n c _ _ l (((HL.out.alloc _).alloc _).alloc _) hn (by simp)
 have HTR := Lib.hid (show TrSt w1 (fun b => S' b ∧ b < w.heap.size) (w.heap.size + 2) (w.heap.size + 3) l 60 from ⟨⟨0, hstr⟩, hblk⟩)
 have HB1 := Lib.hid hb1
 have HRES := Lib.hid hres
 have HG1 := Lib.hid ((HG.out.below hb1).more (S' := fun b => b < w.heap.size + 2) (fun b hb => by omega))
 clear hb1 hblk hres hstr
 go_enter Try.func14, Try.ntmps14
 go_wp2_with fail
 rw [← hw1]
 clear hw1
 refine (makeTreeAny HV.out (lo := w.heap.size + 2) (hi := w.heap.size + 4) (by omega) (by omega) (by omega) (by omega) (by omega) (fun b hb => by omega) 13 12 (by omega) (by omega) w1 60 (false, g.2.2.1) HTR.out (by omega) HG1.out (by omega) (by omega)).mono ?_
 rintro e w2 ⟨left', _, _, hA2, hmk⟩
 have hz2 := hA2.size
 have hres2 := (hA2.block _ (by omega) (Or.inl (by omega))).trans HRES.out
 obtain ⟨d0, d1, d2, f0, f1, f2⟩ := tree_cells' hres2
 have HB2 := Lib.hid (HB1.out.trans (hA2.below (by omega) (by omega)))
 have ld : w.heap.size + 1 < w2.heap.size := by omega
 have hset : ∀ (u : World) (q : Nat) (v : Value), Below w.heap.size u (u.setCell ⟨w.heap.size + 1, q, none⟩ v) := fun u q v => (Below.refl _ _).setCell (by show w.heap.size ≤ w.heap.size + 1; omega) _
 have HSET := Lib.hid hset
 clear hA2 hres2 hset
 rcases hmk with rfl | ⟨t, A2, m2, c2, rfl, htv, hsl, h0, hsz⟩
 ·
  --@2
  go_wp2_with fail
  refine bodyPost_ret (v := .tuple #[.agg #[.int .i64 0, .int .i64 0, .slice none 0 0], .bool false]) (by simp [results, Try.results14, go_sem, d0, d1, d2, ld]) rfl ?_
  exact ⟨Or.inl rfl, HB2.out.trans (((HSET.out _ _ _).trans (HSET.out _ _ _)).trans (HSET.out _ _ _))⟩
 ·
  have HTV := Lib.hid htv
  have HSL := Lib.hid hsl
  clear htv hsl
  go_wp2_with fail
  refine bodyPost_ret (v := .tuple #[.agg #[.int .i64 t.rule, .int .i64 t.term, .slice A2 m2 c2], .bool true]) (by simp [results, Try.results14, go_sem, d0, d1, d2, ld]) rfl ?_
  refine ⟨Or.inr ⟨t, A2, m2, c2, rfl, HTV.out, ?_, by omega⟩, HB2.out.trans (((HSET.out _ _ _).trans (HSET.out _ _ _)).trans (HSET.out _ _ _))⟩
  exact ((HSL.out.more (S' := fun b => w.heap.size + 2 ≤ b) (fun b hb => by omega)).keep (((Kept.setCell _ _ _ _ (by simp)).trans (.setCell _ _ _ _ (by simp))).trans (.setCell _ _ _ _ (by simp)))).more (fun b hb => by omega)
end Go.Proofs.Ytbmcoamdfpegnaa
namespace Go.Proofs.Ytbmcoamdfpegnaa
open Go.RowKit
def rulesOf (l : List TreeD) : List Int := l.map TreeD.rule
set_option maxRecDepth 100000 in
set_option maxHeartbeats 1000000 in
theorem rulesFn (w : World) (Bo : Nat) (pre : List TreeD) (hI : WordI Bo rulesOf w pre) (hp : pre.length < 1000000) (x : TreeD) (A : Option Addr) (m c : Nat) :
    Calls Try.prog 70 #[.agg #[.int .i64 x.rule, .int .i64 x.term, .slice A m c], .pointer (some ⟨Bo, 0, none⟩)] w fun e w' => e = .returned (.bool true) ∧ WordI Bo rulesOf w' (pre ++ [x]) ∧ Fr (WordD Bo) w w' := by
 have HI := Lib.hid hI
 obtain ⟨v0, hb0, _⟩ := hI
 have hl0 := lt_of_block hb0
 obtain ⟨v, A2, n2, c2, w2, h1, h2, h3, h4, h5, h6⟩ := HI.out.push (by unfold rulesOf; rw [List.length_map]; omega) x.rule 55 (.int .i64 x.rule) (.int .i64 x.term) (.slice A m c)
 have HRUN := Lib.hid h2
 have H5 := Lib.hid h5
 have H6 := Lib.hid h6
 have hc := (World.cell?_alloc_lt w (.cells #[.int .i64 x.rule, .int .i64 x.term, .slice A m c] 55) ⟨Bo, 0, none⟩ hl0).trans h1
 have hl2 := cell_lt h3
 clear h2 h5 h6 hb0 h1
 go_enter Try.func70, Try.ntmps70
 go_wp2_with (at_builtin; refine Lib.wpList_append_run _ rfl _ _ _ _ rfl _ _ rfl rfl _ _ HRUN.out ?_)
 go_ret
 exact ⟨rfl, H5.out _ (by unfold rulesOf; rw [List.map_append]; rfl), H6.out⟩
theorem entersRules : ∀ (args : Array Value) (u : World), (callFunc 70 args).run Try.prog u = .ok (.enter 70 args) u := enters_of Try.func70 (by kernel_rfl) rfl
theorem visitsRules (B Bo : Nat) (hB : B ≤ Bo) : Visits Try.prog B (WordD Bo) (WordI Bo rulesOf) Leafy 70 #[.pointer (some ⟨Bo, 0, none⟩)] where
 keepI := fun h hb => h.below hb
 keepD := fun h hb b hd => h.keepD hb b hd
 own := fun h hd => h.own hB hd
 leaf := fun _ h => h
 call := fun w pre x A m c hlt _ hi _ _ => rulesFn w Bo pre hi hlt x A m c
set_option maxHeartbeats 1000000 in
theorem treeRules (w : World) (S : Nat → Prop) (t : TreeD) (A : Option Addr) (m c : Nat) (hs : Sl RTree w S A m c t.kids) (hl : ∀ x ∈ nodesT t, Leafy x) (hsz : sizeT t ≤ 1000000) :
    Calls Try.prog 48 #[.agg #[.int .i64 t.rule, .int .i64 t.term, .slice A m c]] w fun e w' => ∃ A' c', e = .returned (.slice A' (rulesT t).length c') ∧ Rd w' (fun b => w.heap.size ≤ b) 1 A' (rulesT t).length ((rulesT t).map (Value.int .i64)) ∧ (rulesT t).length ≤ c' ∧ Below w.heap.size w w' := by
 have HS := Lib.hid (hs.fit.more (S' := fun b => b < w.heap.size) (fun b hb => hb.2))
 have HL := Lib.hid hl
 have HSZ := Lib.hid hsz
 have HV := Lib.hid (visitsRules w.heap.size (w.heap.size + 1) (by omega))
 have HE := Lib.hid entersRules
 clear hs hl hsz
 go_enter Try.func48, Try.ntmps48
 go_wp2_with fail
 have hst : WordI (w.heap.size + 1) rulesOf ((w.alloc (.cells #[.int .i64 t.rule, .int .i64 t.term, .slice A m c] 55)).alloc (.cells #[.slice none 0 0] 22)) [] := WordI.start _ _ rfl _ (heap_new _ _ _ (by simp))
 refine (treeWalk HE.out HV.out (sizeT t) t _ [] A m c (Nat.le_refl _) (by have := HSZ.out; simpa using this) (by simp; omega) hst ((HS.out.alloc _).alloc _) HL.out).mono ?_
 rintro e w1 ⟨rfl, hi, hf⟩
 have hb : Below w.heap.size w w1 := (((Below.refl _ _).alloc (Nat.le_refl _) _).alloc (by simp) _).trans (hf.below (by simp; omega) (fun b h => (hst.own (B := w.heap.size) (by omega) h).1))
 have HB := Lib.hid hb
 obtain ⟨v, h1, h2⟩ := hi
 rw [List.nil_append] at h2
 have h0 := cell_of_one h1
 have hl := lt_of_block h1
 obtain ⟨A', c', rfl, hc, _⟩ := h2.form
 have HO := Lib.hid h2
 clear hf hb h1 h2 hst
 go_wp2_with fail
 go_ret
 exact ⟨A', c', rfl, HO.out.sl.ints.more (fun b hb => by rcases hb with h | h; exact h.elim; omega), hc, HB.out⟩
end Go.Proofs.Ytbmcoamdfpegnaa
