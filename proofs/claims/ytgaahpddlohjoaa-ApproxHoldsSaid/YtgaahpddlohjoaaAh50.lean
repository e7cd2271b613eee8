/- ApxHoldP KPlain Aside MakeTree TreeB -/
import Derived.OneCell
import Derived.Test.YtgaahpddlohjoaaAh04
import Derived.Test.YtgaahpddlohjoaaAh11
import Derived.Test.YtgaahpddlohjoaaAh17
import Derived.Test.YtgaahpddlohjoaaAh18
import Derived.Test.YtgaahpddlohjoaaAh48
import Derived.Test.YtgaahpddlohjoaaAh49
namespace Go.Proofs.Ytgaahpddlohjoaa
open Go.RowKit
def numB : List Bool → Nat
 | [] => 0
 | b :: s => (if b = true then 1 else 0) + 2 * numB s
theorem numB_lt : ∀ s : List Bool, numB s < 2 ^ s.length
 | [] => by decide
 | b :: s => by
  have := numB_lt s
  rw [List.length_cons, Nat.pow_succ]
  unfold numB
  split <;> omega
theorem numB_inj : ∀ {s t : List Bool}, s.length = t.length → numB s = numB t → s = t
 | [], [], _, _ => rfl
 | [], _ :: _, h, _ => by simp at h
 | _ :: _, [], h, _ => by simp at h
 | b :: s, c :: t, h, e => by
  unfold numB at e
  have hl : s.length = t.length := by simpa using h
  have hb : b = c ∧ numB s = numB t := by
   cases b <;> cases c <;> simp at e ⊢ <;> omega
  rw [hb.1, numB_inj hl hb.2]
theorem nodup_map_of {α β : Type} {f : α → β} {l : List α} (hd : l.Nodup) (h : ∀ a ∈ l, ∀ b ∈ l, f a = f b → a = b) : (l.map f).Nodup := by
 unfold List.Nodup
 rw [List.pairwise_map]
 exact hd.imp_of_mem fun ha hb hne e => hne (h _ ha _ hb e)
theorem keys_few {E : NfD} {ks : List ByteArray} (hd : ks.Nodup) (hg : ∀ k ∈ ks, GoodL E k) : ks.length ≤ 2 ^ E.nodes := by
 have h1 : (ks.map fun k => numB (bitsOf k)).Nodup := nodup_map_of hd fun a ha b hb e => by
  obtain ⟨h2, h3⟩ := (hg a ha).bits
  obtain ⟨h4, h5⟩ := (hg b hb).bits
  rw [h3, h5, numB_inj (h2.trans h4.symm) e]
 have h2 := pigeonD (n := 2 ^ E.nodes) h1 fun x hx => by
  obtain ⟨k, hk, rfl⟩ := List.mem_map.1 hx
  have := numB_lt (bitsOf k)
  rw [(hg k hk).bits.1] at this
  exact this
 rw [List.length_map] at h2
 exact h2
section
variable {cf : Int → CompD}
theorem plain_last (c : List Int) : OnlyP plainR c plLast := fun r hr _ i s hi hs hin => by
 simp only [plainR, List.mem_cons, List.not_mem_nil, or_false] at hr
 rcases hr with rfl | rfl
 ·
  match i, hs with
  | 0, hs => rfl
  | i + 1, hs => simp at hs
 ·
  match i, hs with
  | 0, hs =>
   simp at hs
   subst hs
   exact absurd hin (by simp [inC])
  | 1, hs => rfl
  | i + 2, hs => simp at hs
theorem plain_cf (H : CfOk plainR 1 cf) : cf 0 = (0, [0]) := by
 have h1 : (cf 0).1 = 0 := by
  rcases H.kind 0 (by decide) with ⟨h, _⟩ | ⟨_, h, _⟩ | ⟨_, h, _⟩
  ·
   exact h
  ·
   exact absurd (plain_last _) h
  ·
   exact absurd (plain_last _) h
 have h2 : (cf 0).2 = [0] := (H.set 0 (by decide)).trans (by decide)
 exact Prod.ext h1 h2
theorem plain_size (H : CfOk plainR 1 cf) : sizeN plainR cf 1 0 = 1 := by
 unfold sizeN sizeF netSz
 rw [plain_cf H]
 rfl
theorem plain_nodes (H : CfOk plainR 1 cf) : (wholeN plainR cf 1 0).nodes = 3 := by
 have hT : TermsOk plainR 2 := fun r hr s hs ht => by
  simp only [plainR, List.mem_cons, List.not_mem_nil, or_false] at hr
  rcases hr with rfl | rfl <;> simp at hs
  ·
   subst hs; decide
  ·
   rcases hs with rfl | rfl
   ·
    decide
   ·
    cases ht
 have h1 := (buildN_adds H.net hT (fun r hr => by
  simp only [plainR, List.mem_cons, List.not_mem_nil, or_false] at hr
  rcases hr with rfl | rfl <;> decide) (by decide) (n := 0) (by decide) (frm := 0) (dst := 1) (st := ⟨2, [], []⟩) (by decide) (by decide)).size (by rw [plain_size H]; decide)
 rw [plain_size H] at h1
 exact h1
end
theorem apx_plain {base : Nat} {e : Ending} {w' : World} (h : ApxR 2 1 0 plainR base e w') : ∃ (A : Option Addr) (n c : Nat) (NN : Option Addr) (c' : Nat), e = .returned (.tuple #[.agg #[.int .i64 0, .slice A n c, .slice NN 2 c'], .bool true, .int .i64 0]) := by
 obtain ⟨cf, H, h⟩ := h
 rcases h with ⟨_, h | ⟨ks, h1, h2, h3⟩⟩ | ⟨accs, rows, ex, A, n, c, NN, m, c', rfl, hx, hex, _, hsN⟩
 ·
  rw [show ((0 : Nat) : Int) = 0 from rfl, plain_size H] at h
  omega
 ·
  have h4 := keys_few h1 h2
  rw [show ((0 : Nat) : Int) = 0 from rfl, plain_nodes H] at h4
  omega
 ·
  have e1 : ex = true := hex.2 (plain_exact H)
  have e2 : m = 2 := by
   rw [hsN.len]
   refine plain_two hx fun w hw => ?_
   rw [show ((0 : Nat) : Int) = 0 from rfl]
   exact ⟨fun h => whole_exact H (by decide) (plain_exact H) h, fun h => whole_leads H (by decide) h⟩
  exact ⟨A, n, c, NN, c', by rw [e1, e2]⟩
theorem run_rng {E : NfD} {T : Nat} (h : NfOk T E) {x z : Nat} {w : List Int} (hr : Run E x w z) : ∀ c ∈ w, 0 ≤ c ∧ c < (T : Int) := by
 induction hr with
 | nil => intro c hc; cases hc
 | eps _ _ ih => exact ih
 | edge _ h2 ih =>
  intro c hc
  rcases List.mem_append.1 hc with hc | hc
  ·
   exact ih c hc
  ·
   rw [List.mem_singleton.1 hc]
   exact (h.edges _ h2).2.2
section
variable {R : List RuleD} {N T s0 : Nat} {cf : Int → CompD} {accs : List Int} {rows : List (List Int)} {w : List Int}
theorem apx_word (H : CfOk R N cf) (hs : s0 < N) (h : ApxA (wholeN R cf N (s0 : Int)) T T accs rows) (hw : LgS R (false, (s0 : Int)) w) : (∀ c ∈ w, 0 ≤ c ∧ c < cols (canonD (ExD accs rows))) ∧ daccept (canonD (ExD accs rows)) w = true := by
 have h1 := whole_leads H (n := (s0 : Int)) (by omega) hw
 have h2 := run_rng h.ok h1
 exact ⟨fun c hc => by rw [canon_cols h.valid.1, h.valid.2]; exact h2 c hc, (h.canon h2).2 h1⟩
end
end Go.Proofs.Ytgaahpddlohjoaa
namespace Go.Proofs.Ytgaahpddlohjoaa
open Go.RowKit
theorem Rd.newS (w : World) (S : Nat → Prop) (t : TypeId) (cs : List Value) (H n size : Nat) (hH : w.heap.size = H) (hS : S H) (hl : cs.length = n * size) : Rd (w.alloc (.cells cs.toArray t)) S size (some ⟨H, 0, none⟩) n cs := by
 subst hH
 refine ⟨hl, fun _ => ⟨w.heap.size, 0, rfl, hS, fun j v hv => ?_⟩⟩
 rw [World.cell?_alloc_at _ _ _ _ rfl]
 simpa using hv
set_option maxRecDepth 100000 in
set_option maxHeartbeats 1000000 in
theorem keepPlain (w : World) : Calls Try.prog 30 #[] w fun e w' => ∃ AR, e = .returned (.agg #[.int .i64 2, .int .i64 1, .int .i64 0, .slice AR 2 2]) ∧ Sl RRule w' (fun b => w.heap.size ≤ b) AR 2 2 plainR ∧ Below w.heap.size w w' := by
 go_enter Try.func30, Try.ntmps30
 go_wp2_with fail
 refine bodyPost_ret (v := .agg #[.int .i64 2, .int .i64 1, .int .i64 0, .slice (some ⟨w.heap.size + 3, 0, none⟩) 2 2]) (by simp [results, Try.results30, go_sem]) rfl ?_
 have hb := ((((Below.refl w.heap.size w).alloc (Nat.le_refl _) (.cells #[.int .i64 2, .int .i64 1, .int .i64 0, .slice (some ⟨w.heap.size + 1 + 1 + 1, 0, none⟩) 2 2] 52)).alloc (by simp) (.cells #[.bool true, .int .i64 0] 99)).alloc (by simp; omega) (.cells #[.bool true, .int .i64 1, .bool false, .int .i64 0] 99)).alloc (by simp; omega) (.cells #[.int .i64 0, .slice (some ⟨w.heap.size + 1, 0, none⟩) 1 1, .int .i64 0, .slice (some ⟨w.heap.size + 1 + 1, 0, none⟩) 2 2] 97)
 refine ⟨_, rfl, ⟨[.int .i64 0, .slice (some ⟨w.heap.size + 1, 0, none⟩) 1 1, .int .i64 0, .slice (some ⟨w.heap.size + 1 + 1, 0, none⟩) 2 2], rfl, Nat.le_refl _, Rd.newS _ _ _ _ _ 2 2 (by simp) (by simp) rfl, ?_⟩, hb⟩
 refine ⟨[_, _], [_, _], rfl, RRule.cells.2 ⟨_, _, _, rfl, ?_⟩, Cells.single (RRule.cells.2 ⟨_, _, _, rfl, ?_⟩)⟩
 ·
  exact Sl.alloc (Sl.alloc (R := RSym) (l := [(true, 0)]) ⟨[.bool true, .int .i64 0], rfl, Nat.le_refl _, Rd.newS _ _ _ _ (w.heap.size + 1) 1 2 (by simp) (by simp) rfl, Cells.single (RSym.cells.2 rfl)⟩ _) _
 ·
  exact Sl.alloc (R := RSym) (l := [(true, 1), (false, 0)]) ⟨[.bool true, .int .i64 1, .bool false, .int .i64 0], rfl, Nat.le_refl _, Rd.newS _ (fun b => w.heap.size ≤ b) _ _ (w.heap.size + 1 + 1) 2 2 (by simp) (by show w.heap.size ≤ _; omega) rfl, ⟨[_, _], [_, _], rfl, RSym.cells.2 rfl, Cells.single (RSym.cells.2 rfl)⟩⟩ _
end Go.Proofs.Ytgaahpddlohjoaa
namespace Go.Proofs.Ytgaahpddlohjoaa
open Go.RowKit
structure Aside (lo hi : Nat) (w w' : World) : Prop where
 os : w'.os = w.os
 tape : w'.tape = w.tape
 output : w'.output = w.output
 size : w.heap.size ≤ w'.heap.size
 block : ∀ k, k < w.heap.size → (k < lo ∨ hi ≤ k) → w'.heap[k]? = w.heap[k]?
section
variable {lo hi : Nat} {w w' w'' : World}
theorem Aside.refl (lo hi : Nat) (w : World) : Aside lo hi w w := ⟨rfl, rfl, rfl, Nat.le_refl _, fun _ _ _ => rfl⟩
theorem Aside.trans (h : Aside lo hi w w') (k : Aside lo hi w' w'') : Aside lo hi w w'' :=
 ⟨k.os.trans h.os, k.tape.trans h.tape, k.output.trans h.output, Nat.le_trans h.size k.size, fun i hi hr => (k.block i (Nat.lt_of_lt_of_le hi h.size) hr).trans (h.block i hi hr)⟩
theorem Aside.of (h : Below w.heap.size w w') : Aside lo hi w w' := ⟨h.os, h.tape, h.output, h.size, fun k hk _ => h.block k hk⟩
theorem Aside.below (h : Aside lo hi w w') {B : Nat} (h1 : B ≤ w.heap.size) (h2 : B ≤ lo) : Below B w w' := ⟨h.os, h.tape, h.output, h.size, fun k hk => h.block k (by omega) (Or.inl (by omega))⟩
theorem Aside.drew (h : Aside lo hi w w') : Aside lo hi w w'.drew := ⟨h.os, h.tape, h.output, h.size, h.block⟩
theorem Aside.drewN (h : Aside lo hi w w') (n : Nat) : Aside lo hi w (w'.drewN n) := ⟨h.os, h.tape, h.output, h.size, h.block⟩
theorem Aside.alloc (h : Aside lo hi w w') (o : Obj) : Aside lo hi w (w'.alloc o) := h.trans (.of ((Below.refl _ _).alloc (Nat.le_refl _) _))
theorem Aside.setCell (h : Aside lo hi w w') {p : Addr} (h1 : lo ≤ p.block) (h2 : p.block < hi) (u : Value) : Aside lo hi w (w'.setCell p u) :=
 h.trans ⟨rfl, rfl, rfl, by simp [World.setCell], fun k _ hk => Below.heap_setCell _ _ _ _ (by omega)⟩
theorem Aside.cell (h : Aside lo hi w w') {p : Addr} (h1 : p.block < w.heap.size) (h2 : p.block < lo ∨ hi ≤ p.block) : w'.cell? p = w.cell? p := World.cell?_of_block (h.block _ h1 h2)
theorem Kept.aside {S : Nat → Prop} (h : Aside lo hi w w') (hS : ∀ b, S b → b < lo ∨ hi ≤ b) : Kept S w w' := fun p u hp hu => by rw [h.cell (cell_lt hu) (hS _ hp)]; exact hu
end
theorem OwnL.aside {α : Type} {R : Rep α} {w w' : World} {base lo hi : Nat} {E : TypeId} {v : Value} {l : List α} (h : OwnL R w (fun _ => False) base E v l) (hb : Aside lo hi w w') (hh : hi ≤ base) : OwnL R w' (fun _ => False) base E v l := by
 obtain ⟨xs, h1, h2⟩ := h
 refine ⟨xs, ?_, h2.keep (.aside hb fun b h => ?_)⟩
 ·
  rcases h1 with h | h
  ·
   left
   refine ⟨h.1, ?_⟩
   rcases h.2 with h2 | ⟨g, cap, cur, rfl, hbg, hh', hr⟩
   ·
    exact .inl h2
   ·
    exact .inr ⟨g, cap, cur, rfl, hbg, (hb.block g (heap_lt hh') (Or.inr (by omega))).trans hh', hr⟩
  ·
   exact .inr h
 ·
  rcases h.1 with h | h
  ·
   exact absurd h id
  ·
   right; omega
theorem OwnL.formN {α : Type} {R : Rep α} {w : World} {S : Nat → Prop} {base : Nat} {E : TypeId} {v : Value} {l : List α} (h : OwnL R w S base E v l) {a : Nat} (ha : l.length = a) : ∃ A c, v = .slice A a c ∧ a ≤ c := by
 obtain ⟨A, c, h1, h2, _⟩ := h.form
 subst ha
 exact ⟨A, c, h1, h2⟩
theorem Aside.grow {lo hi B : Nat} {w w' w'' : World} (h : Aside lo hi w w') (hb : Below B w' w'') (hB : w.heap.size ≤ B) : Aside lo hi w w'' :=
 ⟨hb.os.trans h.os, hb.tape.trans h.tape, hb.output.trans h.output, Nat.le_trans h.size hb.size, fun k hk hr => (hb.block k (by omega)).trans (h.block k hk hr)⟩
end Go.Proofs.Ytgaahpddlohjoaa
namespace Go.Proofs.Ytgaahpddlohjoaa
open Go.RowKit
structure TrSt (w : World) (S : Nat → Prop) (Bl Bs : Nat) (l : List Int) (left : Int) : Prop where
 str : ∃ k, StreamAt w S Bs (l.drop k)
 blk : w.heap[Bl]? = some (.cells #[.int .i64 left] 3 (0, 0))
section
variable {w w' : World} {S : Nat → Prop} {Bl Bs : Nat} {l : List Int} {left : Int}
theorem TrSt.below (h : TrSt w S Bl Bs l left) (hb : Below w.heap.size w w') : TrSt w' S Bl Bs l left := by
 obtain ⟨⟨k, hk⟩, h2⟩ := h
 exact ⟨⟨k, hk.below hb⟩, (hb.block _ (heap_lt h2)).trans h2⟩
theorem TrSt.kept {base : Nat} (h : TrSt w S Bl Bs l left) (hb : Below base w w') (h1 : Bl < base) (h2 : Bs < base) (hS : ∀ b, S b → b < base) : TrSt w' S Bl Bs l left := by
 obtain ⟨⟨k, hk⟩, h3⟩ := h
 exact ⟨⟨k, hk.keep (.belowB hb hS) (hb.block _ h2)⟩, (hb.block _ h1).trans h3⟩
theorem TrSt.set (h : TrSt w S Bl Bs l left) (hS : ¬ S Bl) (hne : Bl ≠ Bs) (v : Int) : TrSt (w.setCell ⟨Bl, 0, none⟩ (.int .i64 v)) S Bl Bs l v := by
 obtain ⟨⟨k, hk⟩, h3⟩ := h
 exact ⟨⟨k, hk.keep (.setCell _ _ _ _ hS) (Below.heap_setCell _ _ _ _ (fun e => hne e.symm))⟩, one_setCell h3⟩
theorem TrSt.next {k : Nat} (h : TrSt w S Bl Bs l left) (hs : StreamAt w' S Bs (l.drop k)) (hg : w.grownBy w' (some Bs)) (hne : Bl ≠ Bs) : TrSt w' S Bl Bs l left :=
 ⟨⟨k, hs⟩, (hg.block _ (heap_lt h.blk) (fun e => hne (by injection e))).trans h.blk⟩
end
def MkOk (R : List RuleD) (y : SymD) (base : Nat) (left left' : Int) (e : Ending) (w' : World) : Prop :=
 e = .returned (.tuple #[.agg #[.int .i64 0, .int .i64 0, .slice none 0 0], .bool false]) ∨
  ∃ (t : TreeD) (A : Option Addr) (m c : Nat), e = .returned (.tuple #[.agg #[.int .i64 t.rule, .int .i64 t.term, .slice A m c], .bool true]) ∧ TV R y t ∧ Sl RTree w' (fun b => base ≤ b) A m c t.kids ∧ 0 ≤ left' ∧ (sizeT t : Int) ≤ left - left'
theorem TVL.snoc {R : List RuleD} : ∀ {l : List SymD} {ts : List TreeD} {s : SymD} {t : TreeD}, TVL R l ts → TV R s t → TVL R (l ++ [s]) (ts ++ [t])
 | [], ts, s, t, h, h' => by rw [h.inv_nil]; exact .cons h' .nil
 | x :: l, ts, s, t, h, h' => by
  obtain ⟨t', ts', rfl, h1, h2⟩ := h.inv
  exact .cons h1 (TVL.snoc h2 h')
theorem sizeTs_append (l m : List TreeD) : sizeTs (l ++ m) = sizeTs l + sizeTs m := by unfold sizeTs; rw [nodesTs_append, List.length_append]
theorem Aside.set {lo hi : Nat} (w : World) {p : Addr} (h1 : lo ≤ p.block) (h2 : p.block < hi) (u : Value) : Aside lo hi w (w.setCell p u) := (Aside.refl _ _ _).setCell h1 h2 u
theorem Below.three {w : World} (o1 o2 o3 : Obj) : Below w.heap.size w (((w.alloc o1).alloc o2).alloc o3) := (((Below.refl _ _).alloc (Nat.le_refl _) _).alloc (by simp) _).alloc (by simp; omega) _
set_option linter.unusedSimpArgs false in
set_option maxRecDepth 1000000 in
set_option maxHeartbeats 8000000 in
theorem makeTreeEnd {g : GramD} {AR : Option Addr} {nR cR : Nat} {l : List Int} {S : Nat → Prop} {Bl Bs lo hi : Nat} (hB1 : lo ≤ Bl) (hB2 : Bl < hi) (hne : Bl ≠ Bs) (hS : ∀ b, S b → b < lo)
    (dp : Int) (w : World) (left : Int) (y : SymD) (hst : TrSt w S Bl Bs l left) (h0 : 0 ≤ left) (h60 : left ≤ 60) (hend : left - 1 < 0 ∨ dp < 0) :
    Calls Try.prog 63 #[.agg #[.int .i64 g.1, .int .i64 g.2.1, .int .i64 g.2.2.1, .slice AR nR cR], .agg #[.bool y.1, .int .i64 y.2], .pointer (some ⟨Bs, 0, none⟩), .pointer (some ⟨Bl, 0, none⟩), .int .i64 dp] w fun e w' =>
     ∃ left', left' < left ∧ TrSt w' S Bl Bs l left' ∧ Aside lo hi w w' ∧ MkOk g.2.2.2 y w.heap.size left left' e w' := by
 have hSl : ¬ S Bl := fun h => by have := hS Bl h; omega
 have hst1 := hst.set hSl hne (left - 1)
 have c0 := cell_of_one hst.blk
 have f0 := free_of_one hst.blk
 have l0 := lt_of_block hst.blk
 have l1 : Bl < w.heap.size + 1 := by omega
 have l2 : Bl < w.heap.size + 1 + 1 := by omega
 have HST := Lib.hid hst1
 have HA := Lib.hid (Aside.set (lo := lo) (hi := hi) w (p := ⟨Bl, 0, none⟩) hB1 hB2 (.int .i64 (left - 1)))
 clear hst hst1
 by_cases hl : left - 1 < 0
 ·
  clear hend
  go_enter Try.func63, Try.ntmps63
  go_wp2_with fail
  refine bodyPost_ret (v := .tuple #[.agg #[.int .i64 0, .int .i64 0, .slice none 0 0], .bool false]) (by simp [results, Try.results63, go_sem]) rfl ?_
  exact ⟨left - 1, by omega, HST.out.below (Below.three _ _ _), HA.out.trans (.of (Below.three _ _ _)), Or.inl rfl⟩
 ·
  have hdn : decide (dp < 0) = true := by simp; omega
  clear hend
  go_enter Try.func63, Try.ntmps63
  go_wp2_with fail
  refine bodyPost_ret (v := .tuple #[.agg #[.int .i64 0, .int .i64 0, .slice none 0 0], .bool false]) (by simp [results, Try.results63, go_sem]) rfl ?_
  exact ⟨left - 1, by omega, HST.out.below (Below.three _ _ _), HA.out.trans (.of (Below.three _ _ _)), Or.inl rfl⟩
set_option linter.unusedSimpArgs false in
set_option maxRecDepth 1000000 in
set_option maxHeartbeats 8000000 in
theorem makeTreeLeaf {g : GramD} {AR : Option Addr} {nR cR : Nat} {l : List Int} {S : Nat → Prop} {Bl Bs lo hi : Nat} (hB1 : lo ≤ Bl) (hB2 : Bl < hi) (hne : Bl ≠ Bs) (hS : ∀ b, S b → b < lo)
    (dp : Int) (w : World) (left : Int) (yn : Int) (hst : TrSt w S Bl Bs l left) (h0 : 1 ≤ left) (h60 : left ≤ 60) (hdp : 0 ≤ dp) :
    Calls Try.prog 63 #[.agg #[.int .i64 g.1, .int .i64 g.2.1, .int .i64 g.2.2.1, .slice AR nR cR], .agg #[.bool true, .int .i64 yn], .pointer (some ⟨Bs, 0, none⟩), .pointer (some ⟨Bl, 0, none⟩), .int .i64 dp] w fun e w' =>
     ∃ left', left' < left ∧ TrSt w' S Bl Bs l left' ∧ Aside lo hi w w' ∧ MkOk g.2.2.2 (true, yn) w.heap.size left left' e w' := by
 have hSl : ¬ S Bl := fun h => by have := hS Bl h; omega
 have hst1 := hst.set hSl hne (left - 1)
 have c0 := cell_of_one hst.blk
 have f0 := free_of_one hst.blk
 have l0 := lt_of_block hst.blk
 have l1 : Bl < w.heap.size + 1 := by omega
 have l2 : Bl < w.heap.size + 1 + 1 := by omega
 have HST := Lib.hid hst1
 have HA := Lib.hid (Aside.set (lo := lo) (hi := hi) w (p := ⟨Bl, 0, none⟩) hB1 hB2 (.int .i64 (left - 1)))
 have hl : decide (left - 1 < 0) = false := by simp; omega
 have hdn : decide (dp < 0) = false := by simp; omega
 clear hst hst1
 go_enter Try.func63, Try.ntmps63
 go_wp2_with fail
 refine bodyPost_ret (v := .tuple #[.agg #[.int .i64 (-1), .int .i64 yn, .slice none 0 0], .bool true]) (by simp [results, Try.results63, go_sem]) rfl ?_
 refine ⟨left - 1, by omega, HST.out.below (Below.three _ _ _), HA.out.trans (.of (Below.three _ _ _)), Or.inr ⟨.node (-1) yn [], none, 0, 0, rfl, .leaf, Sl.nil _ _ _ _, by omega, ?_⟩⟩
 rw [sizeT_eq, show (TreeD.node (-1) yn []).kids = [] from rfl, sizeTs_nil]
 omega
end Go.Proofs.Ytgaahpddlohjoaa
namespace Go.Proofs.Ytgaahpddlohjoaa
open Go.RowKit
theorem tTreesB : SlType Try.prog 57 59 3 40 (.agg #[.int .i64 0, .int .i64 0, .slice none 0 0]) := ⟨by kernel_rfl, by kernel_rfl, by kernel_rfl, rfl, by decide⟩
theorem tree_cells' {w : World} {B : Nat} {a b c : Value} {T : TypeId} (h : w.heap[B]? = some (.cells #[a, b, c] T (0, 0))) :
    w.cell? ⟨B, 0, none⟩ = some a ∧ w.cell? ⟨B, 1, none⟩ = some b ∧ w.cell? ⟨B, 2, none⟩ = some c ∧ w.frozen? ⟨B, 0, none⟩ = false ∧ w.frozen? ⟨B, 1, none⟩ = false ∧ w.frozen? ⟨B, 2, none⟩ = false := by
 simp [World.cell?, World.frozen?, h]
end Go.Proofs.Ytgaahpddlohjoaa
