/- Aside MakeTree -/
import Derived.OneCell
import Derived.Test.YtbmcoamdfpegnaaMt04
import Derived.Test.YtbmcoamdfpegnaaMt05
import Derived.Test.YtbmcoamdfpegnaaMt10
import Derived.Test.YtbmcoamdfpegnaaMt33
namespace Go.Proofs.Ytbmcoamdfpegnaa
open Go.RowKit
structure Aside (lo hi : Nat) (w w' : World) : Prop where
 os : w'.os = w.os
 tape : w'.tape = w.tape
 output : w'.output = w.output
 size : w.heap.size ≤ w'.heap.size
 block : ∀ k, k < w.heap.size → (k < lo ∨ hi ≤ k) → w'.heap[k]? = w.heap[k]?
section
variable {lo hi : Nat} {w w' w'' : World}
theorem Aside.refl (lo hi : Nat) (w : World) : Aside lo hi w w := ⟨rfl, rfl, rfl, Nat.le_refl _, fun _ _ _ => rfl⟩
theorem Aside.trans (h : Aside lo hi w w') (k : Aside lo hi w' w'') : Aside lo hi w w'' :=
 ⟨k.os.trans h.os, k.tape.trans h.tape, k.output.trans h.output, Nat.le_trans h.size k.size, fun i hi hr => (k.block i (Nat.lt_of_lt_of_le hi h.size) hr).trans (h.block i hi hr)⟩
theorem Aside.of (h : Below w.heap.size w w') : Aside lo hi w w' := ⟨h.os, h.tape, h.output, h.size, fun k hk _ => h.block k hk⟩
theorem Aside.below (h : Aside lo hi w w') {B : Nat} (h1 : B ≤ w.heap.size) (h2 : B ≤ lo) : Below B w w' := ⟨h.os, h.tape, h.output, h.size, fun k hk => h.block k (by omega) (Or.inl (by omega))⟩
theorem Aside.setCell (h : Aside lo hi w w') {p : Addr} (h1 : lo ≤ p.block) (h2 : p.block < hi) (u : Value) : Aside lo hi w (w'.setCell p u) :=
 h.trans ⟨rfl, rfl, rfl, by simp [World.setCell], fun k _ hk => Below.heap_setCell _ _ _ _ (by omega)⟩
theorem Aside.cell (h : Aside lo hi w w') {p : Addr} (h1 : p.block < w.heap.size) (h2 : p.block < lo ∨ hi ≤ p.block) : w'.cell? p = w.cell? p := World.cell?_of_block (h.block _ h1 h2)
theorem Kept.aside {S : Nat → Prop} (h : Aside lo hi w w') (hS : ∀ b, S b → b < lo ∨ hi ≤ b) : Kept S w w' := fun p u hp hu => by rw [h.cell (cell_lt hu) (hS _ hp)]; exact hu
end
theorem OwnL.aside {α : Type} {R : Rep α} {w w' : World} {base lo hi : Nat} {E : TypeId} {v : Value} {l : List α} (h : OwnL R w (fun _ => False) base E v l) (hb : Aside lo hi w w') (hh : hi ≤ base) : OwnL R w' (fun _ => False) base E v l := by
 obtain ⟨xs, h1, h2⟩ := h
 refine ⟨xs, ?_, h2.keep (.aside hb fun b h => ?_)⟩
 ·
  rcases h1 with h | h
  ·
   left
   refine ⟨h.1, ?_⟩
   rcases h.2 with h2 | ⟨g, cap, cur, rfl, hbg, hh', hr⟩
   ·
    exact .inl h2
   ·
    exact .inr ⟨g, cap, cur, rfl, hbg, (hb.block g (heap_lt hh') (Or.inr (by omega))).trans hh', hr⟩
  ·
   exact .inr h
 ·
  rcases h.1 with h | h
  ·
   exact absurd h id
  ·
   right; omega
theorem OwnL.formN {α : Type} {R : Rep α} {w : World} {S : Nat → Prop} {base : Nat} {E : TypeId} {v : Value} {l : List α} (h : OwnL R w S base E v l) {a : Nat} (ha : l.length = a) : ∃ A c, v = .slice A a c ∧ a ≤ c := by
 obtain ⟨A, c, h1, h2, _⟩ := h.form
 subst ha
 exact ⟨A, c, h1, h2⟩
theorem Aside.grow {lo hi B : Nat} {w w' w'' : World} (h : Aside lo hi w w') (hb : Below B w' w'') (hB : w.heap.size ≤ B) : Aside lo hi w w'' :=
 ⟨hb.os.trans h.os, hb.tape.trans h.tape, hb.output.trans h.output, Nat.le_trans h.size hb.size, fun k hk hr => (hb.block k (by omega)).trans (h.block k hk hr)⟩
end Go.Proofs.Ytbmcoamdfpegnaa
namespace Go.Proofs.Ytbmcoamdfpegnaa
open Go.RowKit
structure TrSt (w : World) (S : Nat → Prop) (Bl Bs : Nat) (l : List Int) (left : Int) : Prop where
 str : ∃ k, StreamAt w S Bs (l.drop k)
 blk : w.heap[Bl]? = some (.cells #[.int .i64 left] 3 (0, 0))
section
variable {w w' : World} {S : Nat → Prop} {Bl Bs : Nat} {l : List Int} {left : Int}
theorem TrSt.below (h : TrSt w S Bl Bs l left) (hb : Below w.heap.size w w') : TrSt w' S Bl Bs l left := by
 obtain ⟨⟨k, hk⟩, h2⟩ := h
 exact ⟨⟨k, hk.below hb⟩, (hb.block _ (heap_lt h2)).trans h2⟩
theorem TrSt.kept {base : Nat} (h : TrSt w S Bl Bs l left) (hb : Below base w w') (h1 : Bl < base) (h2 : Bs < base) (hS : ∀ b, S b → b < base) : TrSt w' S Bl Bs l left := by
 obtain ⟨⟨k, hk⟩, h3⟩ := h
 exact ⟨⟨k, hk.keep (.belowB hb hS) (hb.block _ h2)⟩, (hb.block _ h1).trans h3⟩
theorem TrSt.set (h : TrSt w S Bl Bs l left) (hS : ¬ S Bl) (hne : Bl ≠ Bs) (v : Int) : TrSt (w.setCell ⟨Bl, 0, none⟩ (.int .i64 v)) S Bl Bs l v := by
 obtain ⟨⟨k, hk⟩, h3⟩ := h
 exact ⟨⟨k, hk.keep (.setCell _ _ _ _ hS) (Below.heap_setCell _ _ _ _ (fun e => hne e.symm))⟩, one_setCell h3⟩
theorem TrSt.next {k : Nat} (h : TrSt w S Bl Bs l left) (hs : StreamAt w' S Bs (l.drop k)) (hg : w.grownBy w' (some Bs)) (hne : Bl ≠ Bs) : TrSt w' S Bl Bs l left :=
 ⟨⟨k, hs⟩, (hg.block _ (heap_lt h.blk) (fun e => hne (by injection e))).trans h.blk⟩
end
def MkOk (R : List RuleD) (y : SymD) (base : Nat) (left left' : Int) (e : Ending) (w' : World) : Prop :=
 e = .returned (.tuple #[.agg #[.int .i64 0, .int .i64 0, .slice none 0 0], .bool false]) ∨
  ∃ (t : TreeD) (A : Option Addr) (m c : Nat), e = .returned (.tuple #[.agg #[.int .i64 t.rule, .int .i64 t.term, .slice A m c], .bool true]) ∧ TV R y t ∧ Sl RTree w' (fun b => base ≤ b) A m c t.kids ∧ 0 ≤ left' ∧ (sizeT t : Int) ≤ left - left'
theorem TVL.snoc {R : List RuleD} : ∀ {l : List SymD} {ts : List TreeD} {s : SymD} {t : TreeD}, TVL R l ts → TV R s t → TVL R (l ++ [s]) (ts ++ [t])
 | [], ts, s, t, h, h' => by rw [h.inv_nil]; exact .cons h' .nil
 | x :: l, ts, s, t, h, h' => by
  obtain ⟨t', ts', rfl, h1, h2⟩ := h.inv
  exact .cons h1 (TVL.snoc h2 h')
theorem sizeTs_append (l m : List TreeD) : sizeTs (l ++ m) = sizeTs l + sizeTs m := by unfold sizeTs; rw [nodesTs_append, List.length_append]
theorem Aside.set {lo hi : Nat} (w : World) {p : Addr} (h1 : lo ≤ p.block) (h2 : p.block < hi) (u : Value) : Aside lo hi w (w.setCell p u) := (Aside.refl _ _ _).setCell h1 h2 u
theorem Below.three {w : World} (o1 o2 o3 : Obj) : Below w.heap.size w (((w.alloc o1).alloc o2).alloc o3) := (((Below.refl _ _).alloc (Nat.le_refl _) _).alloc (by simp) _).alloc (by simp; omega) _
set_option linter.unusedSimpArgs false in
set_option maxRecDepth 1000000 in
set_option maxHeartbeats 8000000 in
theorem makeTreeEnd {g : GramD} {AR : Option Addr} {nR cR : Nat} {l : List Int} {S : Nat → Prop} {Bl Bs lo hi : Nat} (hB1 : lo ≤ Bl) (hB2 : Bl < hi) (hne : Bl ≠ Bs) (hS : ∀ b, S b → b < lo)
    (dp : Int) (w : World) (left : Int) (y : SymD) (hst : TrSt w S Bl Bs l left) (h0 : 0 ≤ left) (h60 : left ≤ 60) (hend : left - 1 < 0 ∨ dp < 0) :
    Calls Try.prog 36 #[.agg #[.int .i64 g.1, .int .i64 g.2.1, .int .i64 g.2.2.1, .slice AR nR cR], .agg #[.bool y.1, .int .i64 y.2], .pointer (some ⟨Bs, 0, none⟩), .pointer (some ⟨Bl, 0, none⟩), .int .i64 dp] w fun e w' =>
     ∃ left', left' < left ∧ TrSt w' S Bl Bs l left' ∧ Aside lo hi w w' ∧ MkOk g.2.2.2 y w.heap.size left left' e w' := by
 have hSl : ¬ S Bl := fun h => by have := hS Bl h; omega
 have hst1 := hst.set hSl hne (left - 1)
 have c0 := cell_of_one hst.blk
 have f0 := free_of_one hst.blk
 have l0 := lt_of_block hst.blk
 have l1 : Bl < w.heap.size + 1 := by omega
 have l2 : Bl < w.heap.size + 1 + 1 := by omega
 have HST := Lib.hid hst1
 have HA := Lib.hid (Aside.set (lo := lo) (hi := hi) w (p := ⟨Bl, 0, none⟩) hB1 hB2 (.int .i64 (left - 1)))
 clear hst hst1
 by_cases hl : left - 1 < 0
 ·
  clear hend
  go_enter Try.func36, Try.ntmps36
  go_wp2_with fail
  refine bodyPost_ret (v := .tuple #[.agg #[.int .i64 0, .int .i64 0, .slice none 0 0], .bool false]) (by simp [results, Try.results36, go_sem]) rfl ?_
  exact ⟨left - 1, by omega, HST.out.below (Below.three _ _ _), HA.out.trans (.of (Below.three _ _ _)), Or.inl rfl⟩
 ·
  have hdn : decide (dp < 0) = true := by simp; omega
  clear hend
  go_enter Try.func36, Try.ntmps36
  go_wp2_with fail
  refine bodyPost_ret (v := .tuple #[.agg #[.int .i64 0, .int .i64 0, .slice none 0 0], .bool false]) (by simp [results, Try.results36, go_sem]) rfl ?_
  exact ⟨left - 1, by omega, HST.out.below (Below.three _ _ _), HA.out.trans (.of (Below.three _ _ _)), Or.inl rfl⟩
set_option linter.unusedSimpArgs false in
set_option maxRecDepth 1000000 in
set_option maxHeartbeats 8000000 in
theorem makeTreeLeaf {g : GramD} {AR : Option Addr} {nR cR : Nat} {l : List Int} {S : Nat → Prop} {Bl Bs lo hi : Nat} (hB1 : lo ≤ Bl) (hB2 : Bl < hi) (hne : Bl ≠ Bs) (hS : ∀ b, S b → b < lo)
    (dp : Int) (w : World) (left : Int) (yn : Int) (hst : TrSt w S Bl Bs l left) (h0 : 1 ≤ left) (h60 : left ≤ 60) (hdp : 0 ≤ dp) :
    Calls Try.prog 36 #[.agg #[.int .i64 g.1, .int .i64 g.2.1, .int .i64 g.2.2.1, .slice AR nR cR], .agg #[.bool true, .int .i64 yn], .pointer (some ⟨Bs, 0, none⟩), .pointer (some ⟨Bl, 0, none⟩), .int .i64 dp] w fun e w' =>
     ∃ left', left' < left ∧ TrSt w' S Bl Bs l left' ∧ Aside lo hi w w' ∧ MkOk g.2.2.2 (true, yn) w.heap.size left left' e w' := by
 have hSl : ¬ S Bl := fun h => by have := hS Bl h; omega
 have hst1 := hst.set hSl hne (left - 1)
 have c0 := cell_of_one hst.blk
 have f0 := free_of_one hst.blk
 have l0 := lt_of_block hst.blk
 have l1 : Bl < w.heap.size + 1 := by omega
 have l2 : Bl < w.heap.size + 1 + 1 := by omega
 have HST := Lib.hid hst1
 have HA := Lib.hid (Aside.set (lo := lo) (hi := hi) w (p := ⟨Bl, 0, none⟩) hB1 hB2 (.int .i64 (left - 1)))
 have hl : decide (left - 1 < 0) = false := by simp; omega
 have hdn : decide (dp < 0) = false := by simp; omega
 clear hst hst1
 go_enter Try.func36, Try.ntmps36
 go_wp2_with fail
 refine bodyPost_ret (v := .tuple #[.agg #[.int .i64 (-1), .int .i64 yn, .slice none 0 0], .bool true]) (by simp [results, Try.results36, go_sem]) rfl ?_
 refine ⟨left - 1, by omega, HST.out.below (Below.three _ _ _), HA.out.trans (.of (Below.three _ _ _)), Or.inr ⟨.node (-1) yn [], none, 0, 0, rfl, .leaf, Sl.nil _ _ _ _, by omega, ?_⟩⟩
 rw [sizeT_eq, show (TreeD.node (-1) yn []).kids = [] from rfl, sizeTs_nil]
 omega
end Go.Proofs.Ytbmcoamdfpegnaa
