/- EndsD PlainG KPlain MkPlain MkMeets MakeDfa DfaV -/
import Derived.Deep.CutRange
import Derived.Deep.LoopGhost
import Derived.Deep.RegionHeld3
import Derived.Test.YtbmcoamdfpegnaaMt04
import Derived.Test.YtbmcoamdfpegnaaMt06
import Derived.Test.YtbmcoamdfpegnaaMt07
import Derived.Test.YtbmcoamdfpegnaaMt10
import Derived.Test.YtbmcoamdfpegnaaMt13
import Derived.Test.YtbmcoamdfpegnaaMt34
namespace Go.Proofs.Ytbmcoamdfpegnaa
open Go.RowKit
def endsD : DfaD := (0, [-1, 0], [[1, 0], [1, 0]])
theorem ends_valid : Valid endsD := by
 refine ⟨by decide, by decide, by decide, by decide, by decide, ?_, by decide, ?_⟩
 ·
  intro r hr
  have : r = [1, 0] := by simpa [endsD] using hr
  subst this
  exact ⟨by decide, by intro x hx; have : x = 1 ∨ x = 0 := by simpa using hx
                       show -1 ≤ x ∧ x < (2 : Int); omega⟩
 ·
  intro x hx
  have : x = -1 ∨ x = 0 := by simpa [endsD] using hx
  omega
set_option maxHeartbeats 1000000 in
theorem keepEnds (w : World) : Calls Try.prog 23 #[] w fun e w' => ∃ A n c N m k, e = .returned (.agg #[.int .i64 0, .slice A n c, .slice N m k]) ∧ Sl Rep.int w' (fun b => w.heap.size ≤ b) A n c endsD.2.1 ∧ Sl RI w' (fun b => w.heap.size ≤ b) N m k endsD.2.2 ∧ Below w.heap.size w w' := by
 go_enter Try.func23, Try.ntmps23
 go_wp2_with fail
 have hs : ∀ (u : World) (a b : Int) (H : Nat), u.heap.size = H → w.heap.size ≤ H → Sl Rep.int (u.alloc (.cells #[.int .i64 a, .int .i64 b] 3)) (fun q => w.heap.size ≤ q) (some ⟨H, 0, none⟩) 2 2 [a, b] := fun u a b H e1 e2 =>
  Rd.slInts (Rd.new u (fun q => w.heap.size ≤ q) 3 [.int .i64 a, .int .i64 b] H e1 e2) (Nat.le_refl _)
 refine bodyPost_ret (v := .agg #[.int .i64 0, .slice (some ⟨w.heap.size + 1, 0, none⟩) 2 2, .slice (some ⟨w.heap.size + 1 + 1 + 1 + 1, 0, none⟩) 2 2]) (by simp [results, Try.results23, go_sem]) rfl ⟨_, _, _, _, _, _, rfl, ?_, ?_, ?_⟩
 ·
  exact (((hs _ (-1) 0 (w.heap.size + 1) (by simp) (by omega)).alloc _).alloc _).alloc _
 ·
  exact ⟨_, rfl, Nat.le_refl _, Rd.new _ _ _ [_, _] _ (by simp) (by omega),
   ⟨[_], [_], rfl, ⟨_, _, _, rfl, ((hs _ 1 0 (w.heap.size + 1 + 1) (by simp) (by omega)).alloc _).alloc _⟩, [_], [], rfl, ⟨_, _, _, rfl, (hs _ 1 0 (w.heap.size + 1 + 1 + 1) (by simp) (by omega)).alloc _⟩, rfl⟩⟩
 ·
  exact (((((Below.refl _ _).alloc (Nat.le_refl _) _).alloc (by simp) _).alloc (by simp; omega) _).alloc (by simp; omega) _).alloc (by simp; omega) _
end Go.Proofs.Ytbmcoamdfpegnaa
namespace Go.Proofs.Ytbmcoamdfpegnaa
def plainR : List RuleD := [(0, [(true, 0)]), (0, [(true, 1), (false, 0)])]
end Go.Proofs.Ytbmcoamdfpegnaa
namespace Go.Proofs.Ytbmcoamdfpegnaa
open Go.RowKit
theorem Rd.newS (w : World) (S : Nat → Prop) (t : TypeId) (cs : List Value) (H n size : Nat) (hH : w.heap.size = H) (hS : S H) (hl : cs.length = n * size) : Rd (w.alloc (.cells cs.toArray t)) S size (some ⟨H, 0, none⟩) n cs := by
 subst hH
 refine ⟨hl, fun _ => ⟨w.heap.size, 0, rfl, hS, fun j v hv => ?_⟩⟩
 rw [World.cell?_alloc_at _ _ _ _ rfl]
 simpa using hv
set_option maxRecDepth 100000 in
set_option maxHeartbeats 1000000 in
theorem keepPlain (w : World) : Calls Try.prog 22 #[] w fun e w' => ∃ AR, e = .returned (.agg #[.int .i64 2, .int .i64 1, .int .i64 0, .slice AR 2 2]) ∧ Sl RRule w' (fun b => w.heap.size ≤ b) AR 2 2 plainR ∧ Below w.heap.size w w' := by
 go_enter Try.func22, Try.ntmps22
 go_wp2_with fail
 refine bodyPost_ret (v := .agg #[.int .i64 2, .int .i64 1, .int .i64 0, .slice (some ⟨w.heap.size + 3, 0, none⟩) 2 2]) (by simp [results, Try.results22, go_sem]) rfl ?_
 have hb := ((((Below.refl w.heap.size w).alloc (Nat.le_refl _) (.cells #[.int .i64 2, .int .i64 1, .int .i64 0, .slice (some ⟨w.heap.size + 1 + 1 + 1, 0, none⟩) 2 2] 25)).alloc (by simp) (.cells #[.bool true, .int .i64 0] 42)).alloc (by simp; omega) (.cells #[.bool true, .int .i64 1, .bool false, .int .i64 0] 42)).alloc (by simp; omega) (.cells #[.int .i64 0, .slice (some ⟨w.heap.size + 1, 0, none⟩) 1 1, .int .i64 0, .slice (some ⟨w.heap.size + 1 + 1, 0, none⟩) 2 2] 40)
 refine ⟨_, rfl, ⟨[.int .i64 0, .slice (some ⟨w.heap.size + 1, 0, none⟩) 1 1, .int .i64 0, .slice (some ⟨w.heap.size + 1 + 1, 0, none⟩) 2 2], rfl, Nat.le_refl _, Rd.newS _ _ _ _ _ 2 2 (by simp) (by simp) rfl, ?_⟩, hb⟩
 refine ⟨[_, _], [_, _], rfl, RRule.cells.2 ⟨_, _, _, rfl, ?_⟩, Cells.single (RRule.cells.2 ⟨_, _, _, rfl, ?_⟩)⟩
 ·
  exact Sl.alloc (Sl.alloc (R := RSym) (l := [(true, 0)]) ⟨[.bool true, .int .i64 0], rfl, Nat.le_refl _, Rd.newS _ _ _ _ (w.heap.size + 1) 1 2 (by simp) (by simp) rfl, Cells.single (RSym.cells.2 rfl)⟩ _) _
 ·
  exact Sl.alloc (R := RSym) (l := [(true, 1), (false, 0)]) ⟨[.bool true, .int .i64 1, .bool false, .int .i64 0], rfl, Nat.le_refl _, Rd.newS _ (fun b => w.heap.size ≤ b) _ _ (w.heap.size + 1 + 1) 2 2 (by simp) (by show w.heap.size ≤ _; omega) rfl, ⟨[_, _], [_, _], rfl, RSym.cells.2 rfl, Cells.single (RSym.cells.2 rfl)⟩⟩ _
end Go.Proofs.Ytbmcoamdfpegnaa
namespace Go.Proofs.Ytbmcoamdfpegnaa
open Go.RowKit Go.Maps
theorem plain_langM {w : List Int} : LgS plainR (false, 0) w ↔ w = [0] ∨ ∃ v, w = 1 :: v ∧ LgS plainR (false, 0) v := by
 rw [LgS.non]
 constructor
 ·
  rintro ⟨r, hr, _, h⟩
  simp only [plainR, List.mem_cons, List.not_mem_nil, or_false] at hr
  rcases hr with rfl | rfl
  ·
   rw [LgL.one, LgS.term] at h
   exact .inl h
  ·
   rw [LgL.cons] at h
   obtain ⟨u, v, rfl, h1, h2⟩ := h
   rw [LgS.term] at h1
   rw [LgL.one] at h2
   subst h1
   exact .inr ⟨v, rfl, h2⟩
 ·
  rintro (rfl | ⟨v, rfl, h⟩)
  ·
   exact ⟨(0, [(true, 0)]), by simp [plainR], rfl, LgL.one.2 (LgS.term.2 rfl)⟩
  ·
   exact ⟨(0, [(true, 1), (false, 0)]), by simp [plainR], rfl, LgL.cons.2 ⟨[1], v, rfl, LgS.term.2 rfl, LgL.one.2 h⟩⟩
theorem ends_word : ∀ (w : List Int) (q : Int), (q = 0 ∨ q = 1) → LgS plainR (false, 0) w → w.foldl (dto endsD) q = 1
 | [], q, _, h => by
  rcases plain_langM.1 h with e | ⟨v, e, _⟩ <;> cases e
 | c :: w, q, hq, h => by
  rcases plain_langM.1 h with e | ⟨v, e, h2⟩
  ·
   injection e with e1 e2
   subst e1
   subst e2
   rcases hq with rfl | rfl <;> rfl
  ·
   injection e with e1 e2
   subst e1
   subst e2
   rw [List.foldl_cons]
   refine ends_word _ _ ?_ h2
   rcases hq with rfl | rfl
   ·
    exact .inl rfl
   ·
    exact .inl rfl
def W0 : List TriD := [(0, 0, 1), (1, 0, 1)]
theorem plain_W {W : List TriD} (ht : ∀ t ∈ W, t.1 < 2 ∧ t.2.1 < 1 ∧ t.2.2 < 2) (hw : ∀ t ∈ W, Wd endsD plainR t) (hc : ClosedT endsD plainR (inW W)) : inW W = inW W0 := by
 funext t
 unfold inW
 rw [decide_eq_decide]
 constructor
 ·
  intro h
  obtain ⟨q, a, p⟩ := t
  obtain ⟨h1, h2, h3⟩ := ht _ h
  obtain ⟨w, hl, hf⟩ := hw _ h
  simp only at h1 h2 h3 hl hf
  obtain rfl : a = 0 := by omega
  have := ends_word w (q : Int) (by omega) hl
  obtain rfl : p = 1 := by omega
  have : q = 0 ∨ q = 1 := by omega
  rcases this with rfl | rfl <;> decide
 ·
  intro h
  have hs : ∀ q, q < 2 → (q, 0, 1) ∈ W := fun q hq => by
   have h1 := hc (0, [(true, 0)]) (by simp [plainR]) q 1 (by show q < 2; exact hq) (.cons (x := 1) (by
    unfold stpL
    rw [if_pos rfl]
    have : q = 0 ∨ q = 1 := by omega
    rcases this with rfl | rfl <;> decide) .nil)
   exact of_decide_eq_true h1
  simp only [W0, List.mem_cons, List.not_mem_nil, or_false] at h
  rcases h with rfl | rfl
  ·
   exact hs 0 (by omega)
  ·
   exact hs 1 (by omega)
theorem plain_nd {t : TriD} : NdP endsD plainR (inW W0) 0 t ↔ t = (0, 0, 1) := by
 constructor
 ·
  intro h
  induction h with
  | @start p hp ha hw =>
   have hp : p < 2 := hp
   have : p = 0 ∨ p = 1 := by omega
   rcases this with rfl | rfl
   ·
    exact absurd ha (by decide)
   ·
    rfl
  | @next t x _ hx ih =>
   subst ih
   obtain ⟨r, hr, _, l, c, m, e, h1, h2, h3, _⟩ := hx
   simp only [plainR, List.mem_cons, List.not_mem_nil, or_false] at hr
   rcases hr with rfl | rfl
   ·
    cases l with
    | nil => simp at e
    | cons s l => simp at e
   ·
    match l, e with
    | [], e => simp at e
    | [s], e =>
     simp only [List.cons_append, List.nil_append, List.cons.injEq, Prod.mk.injEq, true_and] at e
     obtain ⟨rfl, rfl, rfl⟩ := e
     obtain ⟨xq, xa, xp⟩ := x
     simp only at h1 h2 h3
     subst h2
     cases h1 with
     | @cons _ _ _ y _ hy hn =>
      cases hn
      have hy : xq = 0 := by
       have : stpL endsD (inW W0) (true, 1) (0, 0, 1).1 = [0] := by decide
       rw [this] at hy
       simpa using hy
      subst hy
      have : stpL endsD (inW W0) (false, 0) 0 = [1] := by decide
      rw [this] at h3
      have : xp = 1 := by simpa using h3
      subst this
      rfl
    | s :: s2 :: l, e => simp at e
 ·
  rintro rfl
  exact .start (p := 1) (by decide) (by decide) (by decide)
theorem plain_L {L : List TriD} (hp : L.Pairwise TLt) (h : ∀ t, t ∈ L ↔ t = (0, 0, 1)) : L = [(0, 0, 1)] := by
 match L with
 | [] => exact absurd ((h (0, 0, 1)).2 rfl) (by simp)
 | [a] => rw [(h a).1 (by simp)]
 | a :: b :: l =>
  have h1 := (h a).1 (by simp)
  have h2 := (h b).1 (by simp)
  have h3 := (List.pairwise_cons.1 hp).1 b (by simp)
  rw [h1, h2] at h3
  unfold TLt at h3
  omega
theorem plain_of {base : Nat} {e : Ending} {w' : World} (h : OfR (2, 1, 0, plainR) endsD base e w') : ∃ (A0 : Option Addr) (c0 : Nat) (A1 : Option Addr) (c1 : Nat) (A2 : Option Addr) (c2 : Nat), e = .returned (.tuple #[.agg #[.int .i64 2, .int .i64 2, .int .i64 0, .slice A0 3 c0, .slice A1 2 c1, .slice A2 3 c2], .int .i64 0]) := by
 obtain ⟨M, W, hM, e1, e2, e3, e4, e5, hw, hc, ht, L, h1, h2, h3, h⟩ := h
 have e2 : M.R = plainR := e2
 have e3 : M.T = 2 := e3
 have e4 : M.N = 1 := e4
 have e5 : M.st = 0 := e5
 have en : M.n = 2 := by rw [hM.n, e1]; rfl
 rw [e1, e2] at hw hc h2
 rw [e5] at h2
 have eW := plain_W (fun t h => by have := ht t h; unfold Mkr.Tri at this; omega) hw hc
 rw [eW] at h2
 have eL := plain_L h1 fun t => (h2 t).trans plain_nd
 subst eL
 have hal : (allPR M W [(0, 0, 1)]).length = 3 := by
  unfold allPR startPR restPR tripPR instPR
  rw [eW, e1, e2, e5, en]
  decide
 rcases h with h | h
 ·
  obtain ⟨_, FR, FF, FN, vR, vN, vF, rfl, g1, g2, g3, _⟩ := h
  obtain ⟨A0, c0, rfl, _⟩ := g1.form
  obtain ⟨A1, c1, rfl, _⟩ := g2.form
  obtain ⟨A2, c2, rfl, _⟩ := g3.form
  rw [List.length_map, List.length_map, hal, e3]
  exact ⟨A0, c0, A1, c1, A2, c2, rfl⟩
 ·
  omega
end Go.Proofs.Ytbmcoamdfpegnaa
namespace Go.Proofs.Ytbmcoamdfpegnaa
open Go.RowKit Go.Maps
theorem plain_meetIn : MeetIn (2, 1, 0, plainR) endsD := by
 refine ⟨⟨by decide, by decide, by decide, by decide, by decide, by decide, ?_, ?_⟩, ends_valid, by decide, by decide⟩
 intro r hr
 simp only [plainR, List.mem_cons, List.not_mem_nil, or_false] at hr
 rcases hr with rfl | rfl
 ·
  refine ⟨by decide, by decide, fun s hs => ?_⟩
  simp only [List.mem_cons, List.not_mem_nil, or_false] at hs
  subst hs
  unfold SymOk
  decide
 ·
  refine ⟨by decide, by decide, fun s hs => ?_⟩
  simp only [List.mem_cons, List.not_mem_nil, or_false] at hs
  unfold SymOk
  rcases hs with rfl | rfl <;> decide
 ·
  decide
set_option linter.unusedSimpArgs false in
set_option maxRecDepth 100000 in
set_option maxHeartbeats 4000000 in
theorem keepMeets (w : World) : Calls Try.prog 7 #[] w fun e w' => e = .returned (.bool true) ∧ Below w.heap.size w w' := by
 go_enter Try.func7, Try.ntmps7
 go_wp2_with (first
  | (go_at_call 22; refine (keepPlain _).mono ?_; rintro e w1 ⟨AR, rfl, hg, hb1⟩; have HG := Lib.hid hg; have HB1 := Lib.hid hb1; clear hg hb1)
  | (go_at_call 23; refine (keepEnds _).mono ?_; rintro e w2 ⟨A, n, c, N, m, k, rfl, hA, hN, hb2⟩; have HA := Lib.hid hA; have HN := Lib.hid hN; have HB2 := Lib.hid (HB1.out.trans (hb2.mono HB1.out.size)); have HG2 := Lib.hid (HG.out.fit.below hb2); clear hA hN hb2)
  | (go_at_call 8; have hz := HB1.out.size; refine (mkOf w2 (fun b => w.heap.size ≤ b) (2, 1, 0, plainR) endsD plain_meetIn AR 2 2 (HG2.out.more fun b hb => hb.1) A n c (HA.out.more fun b hb => Nat.le_trans hz hb) N m k (HN.out.more fun b hb => Nat.le_trans hz hb)).mono ?_; rintro e w3 ⟨hof, hb3⟩; obtain ⟨A0, c0, A1, c1, A2, c2, rfl⟩ := plain_of hof; have HB3 := Lib.hid (HB2.out.trans (hb3.mono HB2.out.size)); clear hof hb3 hz))
 go_ret
 exact ⟨rfl, HB3.out.alloc HB3.out.size _⟩
end Go.Proofs.Ytbmcoamdfpegnaa
namespace Go.Proofs.Ytbmcoamdfpegnaa
open Go.RowKit
def dfaN (l : List Int) : Nat := (1 + nv l 0 6).toNat
def dfaC (l : List Int) : Nat := (1 + nv l 1 3).toNat
def dfaAcc (l : List Int) (s : Nat) : Int := nv l (3 + s * (dfaC l + 1)) 3 - 1
def dfaCell (l : List Int) (s j : Nat) : Int := nv l (3 + s * (dfaC l + 1) + 1 + j) ((dfaN l : Int) + 1) - 1
def dfaRow (l : List Int) (s : Nat) : List Int := (List.range (dfaC l)).map (dfaCell l s)
def dfaOf (l : List Int) : DfaD := (nv l 2 (dfaN l), (List.range (dfaN l)).map (dfaAcc l), (List.range (dfaN l)).map (dfaRow l))
theorem dfaN_range (l : List Int) : 1 ≤ dfaN l ∧ dfaN l ≤ 6 ∧ (dfaN l : Int) = 1 + nv l 0 6 := by
 have := nv_range l 0 6 (by omega); unfold dfaN; omega
theorem dfaC_range (l : List Int) : 1 ≤ dfaC l ∧ dfaC l ≤ 3 ∧ (dfaC l : Int) = 1 + nv l 1 3 := by
 have := nv_range l 1 3 (by omega); unfold dfaC; omega
theorem range_snoc {α : Type} (f : Nat → α) (s : Nat) : (List.range (s + 1)).map f = (List.range s).map f ++ [f s] := by simp [List.range_succ]
section
variable {w wr w4 : World} {S : Nat → Prop} {l : List Int} {Bd K s j : Nat} {v7 : Value}
end
end Go.Proofs.Ytbmcoamdfpegnaa
namespace Go.Proofs.Ytbmcoamdfpegnaa
open Go.RowKit
theorem dfaOf_valid (l : List Int) : Valid (dfaOf l) := by
 obtain ⟨n1, n2, _⟩ := dfaN_range l
 obtain ⟨c1, c2, _⟩ := dfaC_range l
 have hc : cols (dfaOf l) = dfaC l := by
  have : (dfaOf l).2.2[0]? = some (dfaRow l 0) := by
   show ((List.range (dfaN l)).map (dfaRow l))[0]? = _
   rw [List.getElem?_map, List.getElem?_range (by omega)]; rfl
  unfold cols
  rw [this]
  simp [dfaRow]
 have hl : (dfaOf l).2.2.length = dfaN l := by simp [dfaOf]
 refine ⟨by omega, by omega, by simp [dfaOf], by omega, by omega, ?_, ?_, ?_⟩
 ·
  intro r hr
  obtain ⟨s, _, rfl⟩ := List.mem_map.1 (show r ∈ (List.range (dfaN l)).map (dfaRow l) from hr)
  refine ⟨by rw [hc]; simp [dfaRow], fun x hx => ?_⟩
  obtain ⟨j, _, rfl⟩ := List.mem_map.1 (show x ∈ (List.range (dfaC l)).map (dfaCell l s) from hx)
  have := nv_range l (3 + s * (dfaC l + 1) + 1 + j) ((dfaN l : Int) + 1) (by omega)
  rw [hl]
  unfold dfaCell
  omega
 ·
  have := nv_range l 2 (dfaN l) (by omega)
  rw [hl]
  exact this
 ·
  intro x hx
  obtain ⟨j, _, rfl⟩ := List.mem_map.1 (show x ∈ (List.range (dfaN l)).map (dfaAcc l) from hx)
  have := nv_range l (3 + j * (dfaC l + 1)) 3 (by omega)
  unfold dfaAcc
  omega
end Go.Proofs.Ytbmcoamdfpegnaa
