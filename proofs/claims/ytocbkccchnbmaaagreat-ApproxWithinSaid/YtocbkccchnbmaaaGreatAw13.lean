/- Only ApxPath -/
import Derived.Test.YtocbkccchnbmaaaGreatAw03
import Derived.Test.YtocbkccchnbmaaaGreatAw11
import Derived.Test.YtocbkccchnbmaaaGreatAw12
namespace Go.Proofs.YtocbkccchnbmaaaGreat
open Go.RowKit Go.Maps
structure Only (w w' : World) (X : Nat → Prop) : Prop where
 os : w'.os = w.os
 tape : w'.tape = w.tape
 output : w'.output = w.output
 size : w.heap.size ≤ w'.heap.size
 block : ∀ b, b < w.heap.size → ¬ X b → w'.heap[b]? = w.heap[b]?
section
variable {w w' w'' : World} {X Y : Nat → Prop}
theorem Only.refl (w : World) (X : Nat → Prop) : Only w w X := ⟨rfl, rfl, rfl, Nat.le_refl _, fun _ _ _ => rfl⟩
theorem Only.trans (h : Only w w' X) (h' : Only w' w'' X) : Only w w'' X :=
 ⟨h'.os.trans h.os, h'.tape.trans h.tape, h'.output.trans h.output, Nat.le_trans h.size h'.size, fun b hb hx => (h'.block b (Nat.lt_of_lt_of_le hb h.size) hx).trans (h.block b hb hx)⟩
theorem Only.more (h : Only w w' X) (hX : ∀ b, b < w.heap.size → X b → Y b) : Only w w' Y := ⟨h.os, h.tape, h.output, h.size, fun b hb hy => h.block b hb (fun hx => hy (hX b hb hx))⟩
theorem Only.of_below {B : Nat} (h : Below B w w') (hB : w.heap.size ≤ B) (X : Nat → Prop) : Only w w' X := ⟨h.os, h.tape, h.output, h.size, fun b hb _ => h.block b (by omega)⟩
theorem Only.of_grown {r : Option Nat} (h : w.grownBy w' r) (hX : ∀ b, r = some b → X b) : Only w w' X := ⟨h.os, h.tape, h.output, h.size, fun b hb hx => h.block b hb (fun e => hx (hX b e.symm))⟩
theorem Only.below {B : Nat} (h : Only w w' X) (hX : ∀ b, X b → B ≤ b) (hB : B ≤ w.heap.size) : Below B w w' := ⟨h.os, h.tape, h.output, h.size, fun b hb => h.block b (by omega) (fun hx => by have := hX b hx; omega)⟩
theorem Only.alloc (w : World) (o : Obj) (X : Nat → Prop) : Only w (w.alloc o) X := .of_below ((Below.refl _ _).alloc (Nat.le_refl _) o) (Nat.le_refl _) X
theorem Only.drew (w : World) (X : Nat → Prop) : Only w w.drew X := ⟨rfl, rfl, rfl, Nat.le_refl _, fun _ _ _ => rfl⟩
theorem Only.kept {S : Nat → Prop} (h : Only w w' X) (hS : ∀ b, S b → ¬ X b) : Kept S w w' := fun p u hp hu => by
 rw [World.cell?_of_block (h.block p.block (cell_lt hu) (hS _ hp))]; exact hu
theorem Only.set (w : World) (g i : Nat) (u : Value) {X : Nat → Prop} (hX : X g) : Only w (w.setCell ⟨g, i, none⟩ u) X := ⟨rfl, rfl, rfl, by simp [World.setCell], fun q _ hq => Below.heap_setCell w ⟨g, i, none⟩ _ q (fun e => hq (by rw [e]; exact hX))⟩
theorem Own.sameB {base sz : Nat} {E : TypeId} {v : Value} {n : Nat} {xs : List Value} (h : Own w base E sz v n xs) (hk : ∀ g, rowOf v = some g → w'.heap[g]? = w.heap[g]?) : Own w' base E sz v n xs := by
 rcases h with h | h
 ·
  rcases h.2 with ⟨h1, h2⟩ | ⟨g, cap, cur, rfl, hb, hh, hnc, hr⟩
  ·
   exact .inl ⟨h.1, .inl ⟨h1, h2⟩⟩
  ·
   cases cap with
   | zero =>
    obtain rfl : n = 0 := by omega
    exact .inr ⟨_, rfl, rfl, List.eq_nil_of_length_eq_zero (by rw [h.1, Nat.zero_mul])⟩
   | succ k => exact .inl ⟨h.1, .inr ⟨g, k + 1, cur, rfl, hb, (hk g rfl).trans hh, hnc, hr⟩⟩
 ·
  exact .inr h
theorem AMap.only {P : Program} {k : TypeId} {κ : Type} {K : KeyRep P k κ} {b : Nat} {l : List (κ × Value)} (h : AMap K w b l) (ho : Only w w' X) (hX : ¬ X b) : AMap K w' b l := h.block (ho.block b h.lt hX)
end
structure GL {α : Type} (R : Rep α) (E : TypeId) (w : World) (F : Nat → Prop) (v : Value) (l : List α) : Prop where
 own : ∃ xs, Own w 0 E R.size v l.length xs ∧ Cells R w (fun b => F b ∧ rowOf v ≠ some b) xs l
 row : ∀ g, rowOf v = some g → F g
section
variable {α : Type} {R : Rep α} {E : TypeId} {w w' : World} {F G X : Nat → Prop} {v : Value} {l : List α}
theorem GL.form (h : GL R E w F v l) : ∃ A c, v = .slice A l.length c ∧ l.length ≤ c := by
 obtain ⟨xs, h1, _⟩ := h.own
 obtain ⟨A, c, e, hc, _⟩ := h1.form
 exact ⟨A, c, e, hc⟩
theorem GL.lt (h : GL R E w F v l) {g : Nat} (hg : rowOf v = some g) : g < w.heap.size := by
 obtain ⟨xs, h1, _⟩ := h.own
 exact (h1.row hg).2
theorem GL.fit (h : GL R E w F v l) : GL R E w (fun b => F b ∧ b < w.heap.size) v l := by
 obtain ⟨xs, h1, h2⟩ := h.own
 exact ⟨⟨xs, h1, h2.fit.more fun b hb => ⟨⟨hb.1.1, hb.2⟩, hb.1.2⟩⟩, fun g e => ⟨h.row g e, (h1.row e).2⟩⟩
theorem GL.more (h : GL R E w F v l) (hF : ∀ b, F b → G b) : GL R E w G v l := by
 obtain ⟨xs, h1, h2⟩ := h.own
 exact ⟨⟨xs, h1, h2.more fun b hb => ⟨hF b hb.1, hb.2⟩⟩, fun g e => hF g (h.row g e)⟩
theorem GL.only (h : GL R E w F v l) (ho : Only w w' X) (hX : ∀ b, F b → b < w.heap.size → ¬ X b) : GL R E w' F v l := by
 obtain ⟨xs, h1, h2⟩ := h.own
 exact ⟨⟨xs, h1.sameB fun g e => ho.block g (h1.row e).2 (hX g (h.row g e) (h1.row e).2), (h2.fit.keep (ho.kept fun b hb => hX b hb.1.1 hb.2)).more fun b hb => hb.1⟩, h.row⟩
theorem GL.below (h : GL R E w F v l) (hb : Below w.heap.size w w') : GL R E w' F v l := h.only (X := fun _ => False) (.of_below hb (Nat.le_refl _) _) fun _ _ _ => id
theorem GL.nil (w : World) (F : Nat → Prop) : GL R E w F (.slice none 0 0) [] := ⟨⟨[], Own.nil _ _ _ _ _, Cells.nil⟩, fun g e => by cases e⟩
theorem Own.rowRd {base n c sz : Nat} {A : Option Addr} {xs : List Value} (h : Own w base E sz (.slice A n c) n xs) (hF : ∀ g, rowOf (.slice A n c) = some g → F g) (hc : n ≤ c) : Rd w F sz A n xs := by
 refine ⟨h.rd.1, fun hn => ?_⟩
 obtain ⟨b, off, rfl, _, hc'⟩ := h.rd.2 hn
 refine ⟨b, off, rfl, hF b ?_, hc'⟩
 obtain ⟨c0, rfl⟩ : ∃ c0, c = c0 + 1 := ⟨c - 1, by omega⟩
 rfl
theorem GL.sl {A : Option Addr} {n c : Nat} (h : GL R E w F (.slice A n c) l) : Sl R w F A n c l := by
 obtain ⟨xs, h1, h2⟩ := h.own
 obtain ⟨A', c', e, hc, _⟩ := h1.form
 injection e with e1 e2 e3
 subst e1
 subst e2
 subst e3
 exact ⟨xs, rfl, hc, h1.rowRd h.row hc, h2.more fun b hb => hb.1⟩
theorem GL.push {P : Program} {T s bytes : Nat} {z : Value} (hT : SlType P T E s bytes z) (hs : R.size = s) (h : GL R E w F v l) {x : α} {ys : List Value} (hx : R.ok w G ys x) (hG : ∀ b, G b → rowOf v ≠ some b) (hl : l.length ≤ 1000000) (hby : bytes ≤ 100) (ty : TypeId) :
    ∃ A' c' w', (Builtin.append_ #[T, T] ty #[v, .slice (some ⟨w.heap.size, 0, none⟩) 1 1]).run P (w.alloc (.cells ys.toArray E)) = .ok (.slice A' (l.length + 1) c') w' ∧
     GL R E w' (fun b => F b ∨ G b ∨ b = w.heap.size + 1) (.slice A' (l.length + 1) c') (l ++ [x]) ∧ (w.alloc (.cells ys.toArray E)).grownBy w' (rowOf v) ∧ (rowOf (.slice A' (l.length + 1) c') = rowOf v ∨ rowOf (.slice A' (l.length + 1) c') = some (w.heap.size + 1)) := by
 subst hs
 obtain ⟨xs, h1, h2⟩ := h.own
 have hc1 : Cells R w G ys [x] := Cells.single hx
 have hr : Rd (w.alloc (.cells ys.toArray E)) (fun _ => True) R.size (some ⟨w.heap.size, 0, none⟩) 1 ys := by
  refine ⟨by rw [R.len hx, Nat.one_mul], fun _ => ⟨w.heap.size, 0, rfl, trivial, fun j u hu => ?_⟩⟩
  rw [World.cell?_alloc_at _ _ _ _ rfl]
  simpa using hu
 obtain ⟨v', w', hrun, ho, hg, hrow⟩ := run_append_Own hT (w.alloc (.cells ys.toArray E)) ty 0 v l.length xs (h1.alloc _) _ _ 1 1 ys hr (R.one hx) (by unfold maxLen; omega) (by
  have : (l.length + 1) * bytes ≤ 1000001 * 100 := Nat.mul_le_mul (by omega) hby
  omega) (Nat.zero_le _)
 obtain ⟨A', c', rfl, _, _⟩ := ho.form
 have hrow' : rowOf (.slice A' (l.length + 1) c') = rowOf v ∨ rowOf (.slice A' (l.length + 1) c') = some (w.heap.size + 1) := by
  rcases hrow with e | e
  ·
   exact .inl e
  ·
   exact .inr (by rw [e]; simp)
 have hcx : Cells R w (fun b => (F b ∨ G b) ∧ rowOf v ≠ some b) (xs ++ ys) (l ++ [x]) :=
  (h2.more fun b hb => ⟨.inl hb.1, hb.2⟩).append (hc1.more fun b hb => ⟨.inr hb, hG b hb⟩)
 have hcx' := ((hcx.fit).keep (.alloc _ _ (.cells ys.toArray E))).keep (w' := w') (Kept.grown hg fun b hb => hb.1.2)
 have hout : Cells R w' (fun b => (F b ∨ G b ∨ b = w.heap.size + 1) ∧ rowOf (.slice A' (l.length + 1) c') ≠ some b) (xs ++ ys) (l ++ [x]) := by
  refine hcx'.more fun b hb => ⟨?_, ?_⟩
  ·
   rcases hb.1.1 with h | h
   ·
    exact .inl h
   ·
    exact .inr (.inl h)
  ·
   rcases hrow' with e | e
   ·
    rw [e]; exact hb.1.2
   ·
    rw [e]
    intro e2
    injection e2 with e2
    have := hb.2
    omega
 refine ⟨A', c', w', hrun, ⟨⟨_, by simpa using ho, hout⟩, fun g e => ?_⟩, hg, hrow'⟩
 rcases hrow' with e2 | e2
 ·
  rw [e2] at e
  exact .inl (h.row g e)
 ·
  rw [e2] at e
  injection e with e
  exact .inr (.inr e.symm)
end
end Go.Proofs.YtocbkccchnbmaaaGreat
namespace Go.Proofs.YtocbkccchnbmaaaGreat
open Go.RowKit
abbrev PathD := Int × Int × List SymD
abbrev RPath : Rep PathD := Rep.prod Rep.int (Rep.prod Rep.int (Rep.slice RSym))
theorem RPath.cells {w : World} {S : Nat → Prop} {cs : List Value} {r : PathD} : RPath.ok w S cs r ↔ ∃ A n c, cs = [.int .i64 r.1, .int .i64 r.2.1, .slice A n c] ∧ Sl RSym w S A n c r.2.2 := by
 constructor
 ·
  rintro ⟨c1, c2, rfl, h1, c3, c4, rfl, h2, A, n, c, rfl, h⟩
  rw [show c1 = _ from h1, show c3 = _ from h2]
  exact ⟨A, n, c, rfl, h⟩
 ·
  rintro ⟨A, n, c, rfl, h⟩
  exact ⟨[_], _, rfl, rfl, [_], [_], rfl, rfl, A, n, c, rfl, h⟩
theorem tPaths : SlType Tryz.prog 95 99 3 40 (.agg #[.int .i64 0, .int .i64 0, .slice none 0 0]) := ⟨by kernel_rfl, by kernel_rfl, by kernel_rfl, rfl, by decide⟩
theorem netPlace (w : World) (Bc : Nat) (x : Int) (A : Option Addr) (n c : Nat) (S : Nat → Prop) (l : List Int) (hc : w.cell? ⟨Bc, 1, none⟩ = some (.slice A n c)) (hr : Sl Rep.int w S A n c l) (hn : n ≤ 1000000) :
    Calls Tryz.prog 61 #[.int .i64 x, .pointer (some ⟨Bc, 0, none⟩)] w fun e w' => e = .returned (.int .i64 (idxInt l x)) ∧ w = w' := by
 have HR := Lib.hid hr
 clear hr
 go_enter Tryz.func61, Tryz.ntmps61
 go_wp2_with fail
 refine (indexInt _ _ _ _ l x _ HR.out.ints (by omega)).mono ?_
 rintro e w1 ⟨rfl, rfl⟩
 go_wp2_with fail
 go_ret
 exact ⟨rfl, rfl⟩
theorem entersPlace : ∀ (args : Array Value) (u : World), (callFunc 61 args).run Tryz.prog u = .ok (.enter 61 args) u := enters_of Tryz.func61 (by kernel_rfl) rfl
theorem entersExit : ∀ (args : Array Value) (u : World), (callFunc 62 args).run Tryz.prog u = .ok (.enter 62 args) u := enters_of Tryz.func62 (by kernel_rfl) rfl
theorem entersAdd : ∀ (args : Array Value) (u : World), (callFunc 63 args).run Tryz.prog u = .ok (.enter 63 args) u := enters_of Tryz.func63 (by kernel_rfl) rfl
theorem idxInt_bd (l : List Int) (x : Int) : -1 ≤ idxInt l x ∧ idxInt l x < l.length := by
 unfold idxInt
 split
 ·
  rename_i h
  have := List.idxOf_lt_length_of_mem (List.contains_iff_mem.1 h)
  omega
 ·
  omega
set_option maxHeartbeats 1000000 in
theorem netExit (w : World) (Bp Bc : Nat) (x : Int) (A : Option Addr) (n c : Nat) (S : Nat → Prop) (l : List Int) (hp : w.cell? ⟨Bp, 0, none⟩ = some (.func (.func 61) #[] #[.pointer (some ⟨Bc, 0, none⟩)])) (hc : w.cell? ⟨Bc, 1, none⟩ = some (.slice A n c)) (hr : Sl Rep.int w S A n c l) (hn : n ≤ 1000000) :
    Calls Tryz.prog 62 #[.int .i64 x, .pointer (some ⟨Bp, 0, none⟩), .pointer (some ⟨Bc, 0, none⟩)] w fun e w' => e = .returned (.int .i64 (idxInt l x + n)) ∧ ∃ k, w' = w.drewN k := by
 have HPL := Lib.hid (show ∀ k, Calls Tryz.prog 61 #[.int .i64 x, .pointer (some ⟨Bc, 0, none⟩)] (w.drewN k) fun e w' => e = .returned (.int .i64 (idxInt l x)) ∧ w' = w.drewN k from fun k => (netPlace (w.drewN k) Bc x A n c S l hc (hr.drewN k) hn).mono fun _ _ h => ⟨h.1, h.2.symm⟩)
 have he := entersPlace
 obtain ⟨h1, h2⟩ := idxInt_bd l x
 rw [← hr.len] at h2
 generalize idxInt l x = v at h1 h2 HPL ⊢
 have hwp : IntKind.i64.wrap (v + (n : Int)) = v + (n : Int) := by rw [IntKind.wrap_i64]; omega
 clear hr
 go_enter Tryz.func62, Tryz.ntmps62
 go_wp2_with fail
 go_quiet ((go_at_fn 61; refine Calls.quiet_of_same (HPL.out _)))
 go_wp2_with fail
 go_ret
 exact ⟨rfl, nq, rfl⟩
set_option maxHeartbeats 1000000 in
theorem netAdd (w : World) (Bo : Nat) (F G : Nat → Prop) (A0 : Option Addr) (c0 : Nat) (out : List PathD) (hB : w.heap[Bo]? = some (.cells #[.slice A0 out.length c0] 95 (0, 0))) (ho : GL RPath 99 w F (.slice A0 out.length c0) out) (hF : ∀ b, F b → b ≠ Bo)
    (x y : Int) (A : Option Addr) (n c : Nat) (l : List SymD) (hl : Sl RSym w G A n c l) (hG : ∀ b, G b → rowOf (.slice A0 out.length c0) ≠ some b ∧ b ≠ Bo) (hlen : out.length ≤ 100000) :
    Calls Tryz.prog 63 #[.int .i64 x, .int .i64 y, .slice A n c, .pointer (some ⟨Bo, 0, none⟩)] w fun e w' => e = .returned (.tuple #[]) ∧ ∃ A' c', w'.heap[Bo]? = some (.cells #[.slice A' (out.length + 1) c'] 95 (0, 0)) ∧
     GL RPath 99 w' (fun b => F b ∨ G b ∨ b = w.heap.size + 1) (.slice A' (out.length + 1) c') (out ++ [(x, y, l)]) ∧ Only w w' (fun b => b = Bo ∨ rowOf (.slice A0 out.length c0) = some b) ∧
     (rowOf (.slice A' (out.length + 1) c') = rowOf (.slice A0 out.length c0) ∨ rowOf (.slice A' (out.length + 1) c') = some (w.heap.size + 1)) := by
 have hlt := heap_lt hB
 obtain ⟨A', c', u', hrun, hgl, hg, hrow⟩ := ho.push (P := Tryz.prog) tPaths rfl (G := G) (x := (x, y, l)) (ys := [.int .i64 x, .int .i64 y, .slice A n c]) (RPath.cells.2 ⟨A, n, c, rfl, hl⟩) (fun b hb => (hG b hb).1) (by omega) (by omega) 95
 have hne : rowOf (.slice A0 out.length c0) ≠ some Bo := fun e => hF _ (ho.row _ e) rfl
 have hb : u'.heap[Bo]? = some (.cells #[.slice A0 out.length c0] 95 (0, 0)) := by
  rw [hg.block Bo (by simp; omega) (fun e => hne e.symm)]
  exact (Below.heap_alloc _ _ _ hlt).trans hB
 have k0 : w.cell? ⟨Bo, 0, none⟩ = some (.slice A0 out.length c0) := by simp [World.cell?, hB]
 have d0 : u'.cell? ⟨Bo, 0, none⟩ = some (.slice A0 out.length c0) := by simp [World.cell?, hb]
 have f0 : u'.frozen? ⟨Bo, 0, none⟩ = false := by simp [World.frozen?, hb]
 have HFIN := Lib.hid (show (u'.setCell ⟨Bo, 0, none⟩ (.slice A' (out.length + 1) c')).heap[Bo]? = some (.cells #[.slice A' (out.length + 1) c'] 95 (0, 0)) ∧
     GL RPath 99 (u'.setCell ⟨Bo, 0, none⟩ (.slice A' (out.length + 1) c')) (fun b => F b ∨ G b ∨ b = w.heap.size + 1) (.slice A' (out.length + 1) c') (out ++ [(x, y, l)]) ∧ Only w (u'.setCell ⟨Bo, 0, none⟩ (.slice A' (out.length + 1) c')) (fun b => b = Bo ∨ rowOf (.slice A0 out.length c0) = some b) ∧
     (rowOf (.slice A' (out.length + 1) c') = rowOf (.slice A0 out.length c0) ∨ rowOf (.slice A' (out.length + 1) c') = some (w.heap.size + 1)) from by
  refine ⟨?_, ?_, ?_, hrow⟩
  ·
   have := blk_set hb 0 (.slice A' (out.length + 1) c')
   simpa using this
  ·
   refine GL.only (X := fun b => b = Bo) hgl (.set _ _ _ _ rfl) fun b hb _ e => ?_
   rcases hb with h | h | h
   ·
    exact hF b h e
   ·
    exact (hG b h).2 e
   ·
    omega
  ·
   exact ((Only.alloc w _ _).trans (.of_grown hg fun b e => .inr e)).trans (.set _ _ _ _ (.inl rfl)))
 have HRUN := Lib.hid hrun
 clear hB ho hF hl hG hrun hgl hg hrow hne hb
 go_enter Tryz.func63, Tryz.ntmps63
 go_wp2_with (at_builtin; refine Lib.wpList_append_run (o := ⟨some 13, _, _, _, _, _⟩) _ rfl _ _ _ _ rfl _ _ rfl rfl _ _ HRUN.out ?_)
 go_end0
 exact ⟨rfl, A', c', HFIN.out⟩
abbrev plC (c : List Int) (x : Int) : Int := idxInt c x
abbrev exC (c : List Int) (x : Int) : Int := idxInt c x + (c.length : Nat)
def selfP (c : List Int) (own : Int) (l : List SymD) : Nat → List PathD × Int × Nat
 | 0 => ([], own, 0)
 | i + 1 => match l[i]? with
  | none => selfP c own l i
  | some s => if inC c s then ((selfP c own l i).1 ++ [((selfP c own l i).2.1, plC c s.2, (l.take i).drop (selfP c own l i).2.2)], exC c s.2, i + 1) else selfP c own l i
def netRule (c : CompD) (r : RuleD) : List PathD :=
 if c.1 = 0 then
  match r.2.getLast? with
  | none => [(plC c.2 r.1, -2, r.2)]
  | some s => if inC c.2 s then [(plC c.2 r.1, plC c.2 s.2, r.2.take (r.2.length - 1))] else [(plC c.2 r.1, -2, r.2)]
 else if c.1 = 1 then
  match r.2.head? with
  | none => [(-1, plC c.2 r.1, r.2)]
  | some s => if inC c.2 s then [(plC c.2 s.2, plC c.2 r.1, r.2.drop 1)] else [(-1, plC c.2 r.1, r.2)]
 else (selfP c.2 (plC c.2 r.1) r.2 r.2.length).1 ++ [((selfP c.2 (plC c.2 r.1) r.2 r.2.length).2.1, exC c.2 r.1, r.2.drop (selfP c.2 (plC c.2 r.1) r.2 r.2.length).2.2)]
def netStart (c : CompD) (x : Int) : List PathD :=
 if c.1 = 0 then [(-1, plC c.2 x, [])] else if c.1 = 1 then [(plC c.2 x, -2, [])] else [(-1, plC c.2 x, []), (exC c.2 x, -2, [])]
def netU (R : List RuleD) (c : CompD) (x : Int) (k : Nat) : List PathD := netStart c x ++ (R.take k).flatMap fun r => if c.2.contains r.1 then netRule c r else []
def netP (R : List RuleD) (c : CompD) (x : Int) : List PathD := netU R c x R.length
def netN (c : CompD) : Nat := if c.1 = 0 ∨ c.1 = 1 then c.2.length else c.2.length * 2
theorem selfP_len (c : List Int) (own : Int) (l : List SymD) : ∀ i, (selfP c own l i).1.length ≤ i ∧ (selfP c own l i).2.2 ≤ i
 | 0 => ⟨Nat.le_refl _, Nat.le_refl _⟩
 | i + 1 => by
  obtain ⟨h1, h2⟩ := selfP_len c own l i
  unfold selfP
  split
  ·
   exact ⟨by omega, by omega⟩
  ·
   split
   ·
    simp; omega
   ·
    exact ⟨by omega, by omega⟩
theorem netRule_len (c : CompD) (r : RuleD) : (netRule c r).length ≤ r.2.length + 1 := by
 unfold netRule
 split
 ·
  split
  ·
   simp
  ·
   split <;> simp
 ·
  split
  ·
   split
   ·
    simp
   ·
    split <;> simp
  ·
   have := (selfP_len c.2 (plC c.2 r.1) r.2 r.2.length).1
   simp; omega
theorem netU_succ {R : List RuleD} {c : CompD} {x : Int} {k : Nat} {r : RuleD} (h : R[k]? = some r) : netU R c x (k + 1) = netU R c x k ++ if c.2.contains r.1 then netRule c r else [] := by
 unfold netU
 rw [List.take_add_one, h, List.flatMap_append, List.append_assoc]
 simp
theorem netU_len {R : List RuleD} {c : CompD} {x : Int} (hlen : ∀ r ∈ R, r.2.length ≤ 4) : ∀ k, (netU R c x k).length ≤ 2 + 5 * k
 | 0 => by
  unfold netU netStart
  split
  ·
   simp
  ·
   split <;> simp
 | k + 1 => by
  have ih := netU_len (c := c) (x := x) hlen k
  cases hr : R[k]? with
  | none =>
   have : netU R c x (k + 1) = netU R c x k := by unfold netU; rw [List.take_add_one, hr]; simp
   rw [this]; omega
  | some r =>
   rw [netU_succ hr, List.length_append]
   have := netRule_len c r
   have := hlen r (List.mem_of_getElem? hr)
   split
   ·
    omega
   ·
    simp; omega
end Go.Proofs.YtocbkccchnbmaaaGreat
