/- ApxMaps -/
import Derived.Test.YtocbkccchnbmaaaGreatAw18
import Derived.Test.YtocbkccchnbmaaaGreatAw22
namespace Go.Proofs.YtocbkccchnbmaaaGreat
open Go.RowKit Go.Maps
abbrev KNat : KeyRep Tryz.prog 3 Int := intKeys' Tryz.underlying3
def mval (l : List (Int × Value)) (x : Nat) : Value := (lk l (x : Int)).getD (.slice none 0 0)
theorem mval_put (l : List (Int × Value)) (x y : Nat) (v : Value) : mval (putL l (x : Int) v) y = if x = y then v else mval l y := by
 unfold mval
 rw [lk_putL]
 by_cases h : x = y
 ·
  rw [if_pos h, if_pos (by omega)]; rfl
 ·
  rw [if_neg h, if_neg (by omega)]
structure LM {α : Type} (E : TypeId) (sz : Nat) (enc : α → List Value) (w : World) (b : Nat) (FB : Nat → Prop) (get : Nat → List α) (n : Nat) (l : List (Int × Value)) : Prop where
 map : AMap KNat w b l
 few : l.length ≤ n
 own : ∀ x : Nat, Own w 0 E sz (mval l x) (get x).length ((get x).flatMap enc)
 row : ∀ (x : Nat) g, rowOf (mval l x) = some g → FB g
 apart : ∀ (x y : Nat) g, rowOf (mval l x) = some g → rowOf (mval l y) = some g → x = y
section
variable {α : Type} {E : TypeId} {sz : Nat} {enc : α → List Value} {w w' : World} {b : Nat} {FB X : Nat → Prop} {get : Nat → List α} {n : Nat} {l : List (Int × Value)}
theorem LM.only (h : LM E sz enc w b FB get n l) (ho : Only w w' X) (hX : ∀ c, X c → ¬ FB c ∧ c ≠ b) : LM E sz enc w' b FB get n l :=
 ⟨h.map.only ho fun hx => (hX b hx).2 rfl, h.few, fun x => (h.own x).sameB fun g e => ho.block g ((h.own x).row e).2 fun hx => (hX g hx).1 (h.row x g e), h.row, h.apart⟩
theorem LM.push {T bytes : Nat} {z : Value} (hT : SlType Tryz.prog T E sz bytes z) (h : LM E sz enc w b FB get n l) (hb : ¬ FB b) (x : Nat) (y : α) (hy : (enc y).length = sz) (h1 : ∀ u ∈ enc y, u.oneCell' = true) (hg : (get x).length ≤ 1000000) (hby : bytes ≤ 100) (ty : TypeId) :
    ∃ A' c' u', (Builtin.append_ #[T, T] ty #[mval l x, .slice (some ⟨w.heap.size, 0, none⟩) 1 1]).run Tryz.prog (w.alloc (.cells (enc y).toArray E)) = .ok (.slice A' ((get x).length + 1) c') u' ∧ AMap KNat u' b l ∧ Only w u' (fun c => rowOf (mval l x) = some c) ∧
     ∀ w2, AMap KNat w2 b (putL l (x : Int) (.slice A' ((get x).length + 1) c')) → u'.grownBy w2 (some b) → LM E sz enc w2 b (fun c => FB c ∨ c = w.heap.size + 1) (fun q => if x = q then get x ++ [y] else get q) (n + 1) (putL l (x : Int) (.slice A' ((get x).length + 1) c')) ∧ Only w w2 (fun c => c = b ∨ rowOf (mval l x) = some c) := by
 have hr : Rd (w.alloc (.cells (enc y).toArray E)) (fun _ => True) sz (some ⟨w.heap.size, 0, none⟩) 1 (enc y) := by
  refine ⟨by rw [hy, Nat.one_mul], fun _ => ⟨w.heap.size, 0, rfl, trivial, fun j v hv => ?_⟩⟩
  rw [World.cell?_alloc_at _ _ _ _ rfl]
  simpa using hv
 obtain ⟨v', u', hrun, ho, hgr, hrow⟩ := run_append_Own hT (w.alloc (.cells (enc y).toArray E)) ty 0 (mval l x) (get x).length _ ((h.own x).alloc _) _ _ 1 1 (enc y) hr h1 (by unfold maxLen; omega) (by
  have h5 : (get x).length + 1 ≤ 1000001 := by omega
  have h6 : ((get x).length + 1) * bytes ≤ 1000001 * 100 := Nat.mul_le_mul h5 hby
  omega) (Nat.zero_le _)
 obtain ⟨A', c', rfl, _, _⟩ := ho.form
 have hz := h.map.lt
 have hoU : Only w u' (fun c => rowOf (mval l x) = some c) := (Only.alloc w _ _).trans (.of_grown hgr fun b e => e)
 have hbx : ¬ rowOf (mval l x) = some b := fun e => hb (h.row x b e)
 refine ⟨A', c', u', hrun, h.map.only hoU hbx, hoU, fun w2 hm hg2 => ?_⟩
 have ho2 : Only u' w2 (fun c => c = b) := Only.of_grown (X := fun c => c = b) hg2 (fun c e => (Option.some.inj e).symm)
 have hoW : Only w w2 (fun c => c = b ∨ rowOf (mval l x) = some c) := (hoU.more fun c _ e => .inr e).trans (ho2.more fun c _ e => .inl e)
 have hsz : (w.alloc (.cells (enc y).toArray E)).heap.size = w.heap.size + 1 := by simp
 rw [hsz] at hrow
 have hrow2 : ∀ g, rowOf (.slice A' ((get x).length + 1) c') = some g → rowOf (mval l x) = some g ∨ g = w.heap.size + 1 := fun g e => by
  rcases hrow with e2 | e2
  ·
   exact .inl (e2 ▸ e)
  ·
   rw [e2] at e
   injection e with e
   exact .inr e.symm
 have hrz : ∀ (q : Nat) g, rowOf (mval l q) = some g → g < w.heap.size := fun q g e => ((h.own q).row e).2
 refine ⟨⟨hm, ?_, fun q => ?_, fun q g e => ?_, fun p q g e1 e2 => ?_⟩, hoW⟩
 ·
  rw [putL_length]
  have := h.few
  split <;> omega
 ·
  rw [mval_put]
  by_cases e : x = q
  ·
   rw [if_pos e]
   simp only [if_pos e]
   rw [List.length_append, List.length_singleton, List.flatMap_append, List.flatMap_singleton]
   refine ho.sameB fun g eg => ho2.block g (ho.row eg).2 fun e3 => ?_
   subst e3
   rcases hrow2 g eg with e4 | e4
   ·
    exact hbx e4
   ·
    omega
  ·
   rw [if_neg e]
   simp only [if_neg e]
   refine (h.own q).sameB fun g eg => hoW.block g (hrz q g eg) fun e3 => ?_
   rcases e3 with e3 | e3
   ·
    subst e3; exact hb (h.row q g eg)
   ·
    exact e (h.apart x q g e3 eg)
 ·
  rw [mval_put] at e
  by_cases e5 : x = q
  ·
   rw [if_pos e5] at e
   rcases hrow2 g e with e4 | e4
   ·
    exact .inl (h.row x g e4)
   ·
    exact .inr e4
  ·
   rw [if_neg e5] at e
   exact .inl (h.row q g e)
 ·
  rw [mval_put] at e1 e2
  by_cases d1 : x = p
  ·
   by_cases d2 : x = q
   ·
    omega
   ·
    rw [if_pos d1] at e1
    rw [if_neg d2] at e2
    rcases hrow2 g e1 with e4 | e4
    ·
     have := h.apart x q g e4 e2
     omega
    ·
     have := hrz q g e2
     omega
  ·
   by_cases d2 : x = q
   ·
    rw [if_neg d1] at e1
    rw [if_pos d2] at e2
    rcases hrow2 g e2 with e4 | e4
    ·
     have := h.apart x p g e4 e1
     omega
    ·
     have := hrz p g e1
     omega
   ·
    rw [if_neg d1] at e1
    rw [if_neg d2] at e2
    exact h.apart p q g e1 e2
theorem LM.congr {get' : Nat → List α} {n' : Nat} (h : LM E sz enc w b FB get n l) (hg : ∀ x, get' x = get x) (hn : n ≤ n') : LM E sz enc w b FB get' n' l :=
 ⟨h.map, Nat.le_trans h.few hn, fun x => by rw [hg x]; exact h.own x, h.row, h.apart⟩
end
def encI (x : Int) : List Value := [.int .i64 x]
def encP (p : Int × Int) : List Value := [.int .i64 p.1, .int .i64 p.2]
def epsAt (st : NfD) (x : Nat) : List Int := (st.eps.filter fun p => decide (p.1 = x)).map fun p => (p.2 : Int)
def edgAt (st : NfD) (x : Nat) : List (Int × Int) := (st.edges.filter fun p => decide (p.1 = x)).map fun p => (p.2.1, (p.2.2 : Int))
theorem epsAt_le (st : NfD) (x : Nat) : (epsAt st x).length ≤ st.eps.length := by
 unfold epsAt
 rw [List.length_map]
 exact List.length_filter_le _ _
theorem edgAt_le (st : NfD) (x : Nat) : (edgAt st x).length ≤ st.edges.length := by
 unfold edgAt
 rw [List.length_map]
 exact List.length_filter_le _ _
theorem epsAt_push (st : NfD) (x y q : Nat) : epsAt { st with eps := st.eps ++ [(x, y)] } q = if x = q then epsAt st x ++ [(y : Int)] else epsAt st q := by
 unfold epsAt
 simp only [List.filter_append, List.map_append]
 by_cases h : x = q
 ·
  subst h; simp
 ·
  rw [if_neg h]; simp [h]
theorem edgAt_push (st : NfD) (x y q : Nat) (c : Int) : edgAt { st with edges := st.edges ++ [(x, c, y)] } q = if x = q then edgAt st x ++ [(c, (y : Int))] else edgAt st q := by
 unfold edgAt
 simp only [List.filter_append, List.map_append]
 by_cases h : x = q
 ·
  subst h; simp
 ·
  rw [if_neg h]; simp [h]
structure Bst (L : Bdr) (w : World) (FB : Nat → Prop) (st : NfD) : Prop where
 inn : L.In w (st.nodes : Int)
 maps : ∃ FE FD l1 l2, LM 3 1 encI w L.BE FE (epsAt st) st.eps.length l1 ∧ LM 65 2 encP w L.BD FD (edgAt st) st.edges.length l2 ∧ (∀ c, FE c → FB c ∧ ¬ FD c) ∧ ∀ c, FD c → FB c
 fb : ∀ c, FB c → c < w.heap.size ∧ c ≠ L.Bb ∧ c ≠ L.BE ∧ c ≠ L.BD ∧ ¬ L.S c
def BX (L : Bdr) (FB : Nat → Prop) (c : Nat) : Prop := c = L.Bb ∨ c = L.BE ∨ c = L.BD ∨ FB c
structure Stp (L : Bdr) (FB : Nat → Prop) (w : World) (FB' : Nat → Prop) (w' : World) : Prop where
 only : Only w w' (BX L FB)
 new : ∀ c, FB' c → FB c ∨ w.heap.size ≤ c
section
variable {L : Bdr} {w w' w'' : World} {FB FB' FB'' X : Nat → Prop} {st : NfD}
theorem Stp.refl (L : Bdr) (FB : Nat → Prop) (w : World) : Stp L FB w FB w := ⟨.refl _ _, fun _ h => .inl h⟩
theorem Stp.of_only (ho : Only w w' X) (hX : ∀ c, X c → BX L FB c) : Stp L FB w FB w' := ⟨ho.more fun c _ h => hX c h, fun _ h => .inl h⟩
theorem Stp.below (hb : Below w.heap.size w w') : Stp L FB w FB w' := ⟨.of_below hb (Nat.le_refl _) _, fun _ h => .inl h⟩
theorem Stp.trans (h : Stp L FB w FB' w') (h' : Stp L FB' w' FB'' w'') : Stp L FB w FB'' w'' := by
 refine ⟨⟨h'.only.os.trans h.only.os, h'.only.tape.trans h.only.tape, h'.only.output.trans h.only.output, Nat.le_trans h.only.size h'.only.size, fun c hc hx => ?_⟩, fun c hc => ?_⟩
 ·
  refine (h'.only.block c (Nat.lt_of_lt_of_le hc h.only.size) fun hx2 => ?_).trans (h.only.block c hc hx)
  rcases hx2 with e | e | e | e
  ·
   exact hx (.inl e)
  ·
   exact hx (.inr (.inl e))
  ·
   exact hx (.inr (.inr (.inl e)))
  ·
   rcases h.new c e with e | e
   ·
    exact hx (.inr (.inr (.inr e)))
   ·
    omega
 ·
  rcases h'.new c hc with e | e
  ·
   exact h.new c e
  ·
   exact .inr (Nat.le_trans h.only.size e)
theorem Bst.only (h : Bst L w FB st) (ho : Only w w' X) (hX : ∀ c, X c → ¬ BX L FB c ∧ ¬ L.S c) : Bst L w' FB st := by
 obtain ⟨FE, FD, l1, l2, h1, h2, h3, h4⟩ := h.maps
 refine ⟨h.inn.only ho fun c hx => ⟨fun e => (hX c hx).1 (.inl e), (hX c hx).2⟩, ⟨FE, FD, l1, l2, h1.only ho fun c hx => ⟨fun e => (hX c hx).1 (.inr (.inr (.inr (h3 c e).1))), fun e => (hX c hx).1 (.inr (.inl e))⟩, h2.only ho fun c hx => ⟨fun e => (hX c hx).1 (.inr (.inr (.inr (h4 c e)))), fun e => (hX c hx).1 (.inr (.inr (.inl e)))⟩, h3, h4⟩, fun c hc => ⟨Nat.lt_of_lt_of_le (h.fb c hc).1 ho.size, (h.fb c hc).2⟩⟩
theorem Bst.below (h : Bst L w FB st) (hb : Below w.heap.size w w') : Bst L w' FB st := h.only (X := fun _ => False) (.of_below hb (Nat.le_refl _) _) fun _ hx => hx.elim
theorem Bst.off (h : Bst L w FB st) (b : Nat) (hb : w.heap.size ≤ b) : ¬ BX L FB b := fun hx => by
 obtain ⟨FE, FD, l1, l2, h1, h2, _⟩ := h.maps
 have e1 := heap_lt h.inn.box
 have e2 := h1.map.lt
 have e3 := h2.map.lt
 rcases hx with e | e | e | e
 ·
  omega
 ·
  omega
 ·
  omega
 ·
  have := (h.fb b e).1; omega
theorem Bst.setN (h : Bst L w FB st) (hL : L.Ok) (k : Nat) : w.frozen? ⟨L.Bb, 6, none⟩ = false ∧ Bst L (w.setCell ⟨L.Bb, 6, none⟩ (.int .i64 (k : Int))) FB { st with nodes := k } ∧ Stp L FB w FB (w.setCell ⟨L.Bb, 6, none⟩ (.int .i64 (k : Int))) := by
 obtain ⟨FE, FD, l1, l2, h1, h2, h3, h4⟩ := h.maps
 have hB := h.inn.box
 have ho : Only w (w.setCell ⟨L.Bb, 6, none⟩ (.int .i64 (k : Int))) (fun c => c = L.Bb) := .set _ _ _ _ rfl
 obtain ⟨s1, s2, s3, s4, s5, s6⟩ := hL.sep
 have hS : ∀ c, L.S c → ¬ c = L.Bb := fun c hc e => (hL.apart c hc).1 e
 refine ⟨by simp [World.frozen?, hB], ⟨⟨?_, h.inn.rules.keep (ho.kept hS), h.inn.of.keep (ho.kept hS), fun b hb => Nat.lt_of_lt_of_le (h.inn.fit b hb) ho.size⟩, ⟨FE, FD, l1, l2, h1.only ho fun c hc => ⟨fun e => (h.fb c (h3 c e).1).2.1 hc, fun e => s2 (hc.symm.trans e)⟩, h2.only ho fun c hc => ⟨fun e => (h.fb c (h4 c e)).2.1 hc, fun e => s3 (hc.symm.trans e)⟩, h3, h4⟩, fun c hc => ⟨Nat.lt_of_lt_of_le (h.fb c hc).1 ho.size, (h.fb c hc).2⟩⟩, .of_only ho fun c hc => .inl hc⟩
 have := blk_set hB 6 (.int .i64 (k : Int))
 simpa using this
end
theorem step_map_put {P : Program} {k : TypeId} {κ : Type} [DecidableEq κ] {K0 : KeyRep P k κ} (w : World) {ops : Array Oper} {o : Oper} {a : Act} {K : Act → World → Prop} {Q : Exit → Act → World → Prop} {E : Prop} (hgd : o.guard = none) (m x v : Operand) (t : TypeId) (hop : o.op = Op.mapUpdate t m x v)
    (e : TypeId) (ht : P.underlying t = some (.map k e)) (b : Nat) (l : List (κ × Value)) (hm : a.eval m = .map (some b)) (hown : AMap K0 w b l) (q : κ) (hx : a.eval x = K0.val q) (hq : K0.ok q) (u : Value) (hv : a.eval v = u) (hl : l.length < maxLen)
    (hK : ∀ w', AMap K0 w' b (putL l q u) → w.grownBy w' (some b) → K (a.put o.dst undef) w') :
    if Region.wanted o (yielded ops a.tmps) = true then Oper.wp P o a w K Q else E := by
 have hw : Region.wanted o (yielded ops a.tmps) = true := by simp [Region.wanted, hgd]
 rw [if_pos hw]
 obtain ⟨w', hrun, r1, r2⟩ := hown.put ht hq u hl
 unfold Oper.wp
 simp [execOp, hop, hm, hx, hv, hrun, Result.andThen]
 exact hK w' r1 r2
theorem tPairs : SlType Tryz.prog 64 65 2 16 (.agg #[.int .i64 0, .int .i64 0]) := ⟨by kernel_rfl, by kernel_rfl, by kernel_rfl, rfl, by decide⟩
theorem mapEps : Tryz.prog.underlying 51 = some (.map 3 22) := by kernel_rfl
theorem mapEdges : Tryz.prog.underlying 52 = some (.map 3 64) := by kernel_rfl
theorem zeroInts (u : World) : (zeroValue 22).run Tryz.prog u = .ok (.slice none 0 0) u := by
 have := tIntss.info
 obtain ⟨i, hi, hz0, _, _⟩ := info_parts this
 simp [zeroValue, typeInfo, hi, hz0]
theorem zeroPairs (u : World) : (zeroValue 64).run Tryz.prog u = .ok (.slice none 0 0) u := by
 have : (Tryz.prog.info? 64).map (fun i => (i.zero, i.size, i.bytes)) = some (some (.slice none 0 0), 1, 24) := by kernel_rfl
 obtain ⟨i, hi, hz0, _, _⟩ := info_parts this
 simp [zeroValue, typeInfo, hi, hz0]
theorem ki_ok {x : Nat} (h : x ≤ 1000000) : KNat.ok (x : Int) := ⟨by omega, by omega⟩
section
variable {L : Bdr} {w : World} {FB : Nat → Prop} {st : NfD}
theorem Bst.pushE (h : Bst L w FB st) (hL : L.Ok) (hm : st.eps.length ≤ 1000000) (x y : Nat) :
    ∃ (l1 : List (Int × Value)) (n0 : Nat) (A0 : Option Addr) (c0 : Nat), AMap KNat w L.BE l1 ∧ l1.length < maxLen ∧ mval l1 x = .slice A0 n0 c0 ∧ ∃ A' c' u', (Builtin.append_ #[22, 22] 22 #[.slice A0 n0 c0, .slice (some ⟨w.heap.size, 0, none⟩) 1 1]).run Tryz.prog (w.alloc (.cells #[.int .i64 (y : Int)] 3)) = .ok (.slice A' (n0 + 1) c') u' ∧ AMap KNat u' L.BE l1 ∧ u'.cell? ⟨L.Bb, 7, none⟩ = some (.map (some L.BE)) ∧
     ∀ w2, AMap KNat w2 L.BE (putL l1 (x : Int) (.slice A' (n0 + 1) c')) → u'.grownBy w2 (some L.BE) → ∃ FB', Bst L w2 FB' { st with eps := st.eps ++ [(x, y)] } ∧ Stp L FB w FB' w2 := by
 obtain ⟨FE, FD, l1, l2, h1, h2, h3, h4⟩ := h.maps
 obtain ⟨s1, s2, s3, s4, s5, s6⟩ := hL.sep
 have hbe : ¬ FE L.BE := fun e => (h.fb _ (h3 _ e).1).2.2.1 rfl
 obtain ⟨A', c', u', hrun, hmp, hou, hfin⟩ := h1.push tInts hbe x (y : Int) rfl (by simp [encI]; rfl) (by have := epsAt_le st x; omega) (by omega) 22
 have hlen := h1.few
 have hlt := h1.map.lt
 have hbx := (hou.block L.Bb (heap_lt h.inn.box) fun e => (h.fb _ (h3 _ (h1.row x _ e)).1).2.1 rfl).trans h.inn.box
 obtain ⟨A0, c0, hform, _, _⟩ := (h1.own x).form
 rw [hform] at hrun
 refine ⟨l1, (epsAt st x).length, A0, c0, h1.map, by unfold maxLen; omega, hform, A', c', u', hrun, hmp, by simp [World.cell?, hbx], fun w2 hm2 hg2 => ?_⟩
 obtain ⟨h5, h6⟩ := hfin w2 hm2 hg2
 have hXb : ∀ c, (c = L.BE ∨ rowOf (mval l1 x) = some c) → BX L FB c := fun c hc => by
  rcases hc with e | e
  ·
   exact .inr (.inl e)
  ·
   exact .inr (.inr (.inr (h3 c (h1.row x c e)).1))
 have hsz := h6.size
 refine ⟨fun c => FB c ∨ (c = w.heap.size + 1 ∧ c < w2.heap.size), ⟨h.inn.only h6 fun c hc => ⟨?_, ?_⟩, ⟨fun c => (FE c ∨ c = w.heap.size + 1) ∧ c < w2.heap.size, FD, putL l1 (x : Int) (.slice A' ((epsAt st x).length + 1) c'), l2, ?_, ?_, fun c hc => ?_, fun c hc => .inl (h4 c hc)⟩, fun c hc => ?_⟩, ⟨h6.more fun c _ hc => hXb c hc, fun c hc => ?_⟩⟩
 ·
  rcases hc with e | e
  ·
   rw [e]; exact fun e => s2 e.symm
  ·
   exact (h.fb c (h3 c (h1.row x c e)).1).2.1
 ·
  rcases hc with e | e
  ·
   rw [e]; exact fun hs => (hL.apart _ hs).2.2.1 rfl
  ·
   exact (h.fb c (h3 c (h1.row x c e)).1).2.2.2.2
 ·
  have h7 := h5.congr (get' := epsAt { st with eps := st.eps ++ [(x, y)] }) (n' := (st.eps ++ [(x, y)]).length) (fun q => epsAt_push st x y q) (by simp)
  exact ⟨h7.map, h7.few, h7.own, fun q g e => ⟨h7.row q g e, ((h7.own q).row e).2⟩, h7.apart⟩
 ·
  refine h2.only h6 fun c hc => ⟨fun hd => ?_, ?_⟩
  ·
   rcases hc with e | e
   ·
    subst e; exact (h.fb _ (h4 _ hd)).2.2.1 rfl
   ·
    exact (h3 c (h1.row x c e)).2 hd
  ·
   rcases hc with e | e
   ·
    rw [e]; exact s6
   ·
    exact (h.fb c (h3 c (h1.row x c e)).1).2.2.2.1
 ·
  rcases hc with ⟨hc | hc, hlt2⟩
  ·
   exact ⟨.inl (h3 c hc).1, (h3 c hc).2⟩
  ·
   exact ⟨.inr ⟨hc, hlt2⟩, fun hd => by have := (h.fb c (h4 c hd)).1; omega⟩
 ·
  rcases hc with hc | ⟨hc, hlt2⟩
  ·
   exact ⟨Nat.lt_of_lt_of_le (h.fb c hc).1 hsz, (h.fb c hc).2⟩
  ·
   have e1 := heap_lt h.inn.box
   have e2 := h1.map.lt
   have e3 := h2.map.lt
   exact ⟨hlt2, by omega, by omega, by omega, fun hs => by have := h.inn.fit c hs; omega⟩
 ·
  rcases hc with hc | hc
  ·
   exact .inl hc
  ·
   exact .inr (by omega)
theorem Bst.pushD (h : Bst L w FB st) (hL : L.Ok) (hm : st.edges.length ≤ 1000000) (x : Nat) (cI : Int) (y : Nat) :
    ∃ (l2 : List (Int × Value)) (n0 : Nat) (A0 : Option Addr) (c0 : Nat), AMap KNat w L.BD l2 ∧ l2.length < maxLen ∧ mval l2 x = .slice A0 n0 c0 ∧ ∃ A' c' u', (Builtin.append_ #[64, 64] 64 #[.slice A0 n0 c0, .slice (some ⟨w.heap.size, 0, none⟩) 1 1]).run Tryz.prog (w.alloc (.cells #[.int .i64 cI, .int .i64 (y : Int)] 65)) = .ok (.slice A' (n0 + 1) c') u' ∧ AMap KNat u' L.BD l2 ∧ u'.cell? ⟨L.Bb, 8, none⟩ = some (.map (some L.BD)) ∧ Only w u' FB ∧
     ∀ w2, AMap KNat w2 L.BD (putL l2 (x : Int) (.slice A' (n0 + 1) c')) → u'.grownBy w2 (some L.BD) → ∃ FB', Bst L w2 FB' { st with edges := st.edges ++ [(x, cI, y)] } ∧ Stp L FB w FB' w2 := by
 obtain ⟨FE, FD, l1, l2, h1, h2, h3, h4⟩ := h.maps
 obtain ⟨s1, s2, s3, s4, s5, s6⟩ := hL.sep
 have hbd : ¬ FD L.BD := fun e => (h.fb _ (h4 _ e)).2.2.2.1 rfl
 obtain ⟨A', c', u', hrun, hmp, hou, hfin⟩ := h2.push tPairs hbd x (cI, (y : Int)) rfl (by simp [encP]; exact ⟨rfl, rfl⟩) (by have := edgAt_le st x; omega) (by omega) 64
 have hlen := h2.few
 have hbx := (hou.block L.Bb (heap_lt h.inn.box) fun e => (h.fb _ (h4 _ (h2.row x _ e))).2.1 rfl).trans h.inn.box
 obtain ⟨A0, c0, hform, _, _⟩ := (h2.own x).form
 rw [hform] at hrun
 refine ⟨l2, (edgAt st x).length, A0, c0, h2.map, by unfold maxLen; omega, hform, A', c', u', hrun, hmp, by simp [World.cell?, hbx], hou.more fun c _ e => h4 c (h2.row x c e), fun w2 hm2 hg2 => ?_⟩
 obtain ⟨h5, h6⟩ := hfin w2 hm2 hg2
 have hXb : ∀ c, (c = L.BD ∨ rowOf (mval l2 x) = some c) → BX L FB c := fun c hc => by
  rcases hc with e | e
  ·
   exact .inr (.inr (.inl e))
  ·
   exact .inr (.inr (.inr (h4 c (h2.row x c e))))
 have hsz := h6.size
 refine ⟨fun c => FB c ∨ (c = w.heap.size + 1 ∧ c < w2.heap.size), ⟨h.inn.only h6 fun c hc => ⟨?_, ?_⟩, ⟨FE, fun c => (FD c ∨ c = w.heap.size + 1) ∧ c < w2.heap.size, l1, putL l2 (x : Int) (.slice A' ((edgAt st x).length + 1) c'), ?_, ?_, fun c hc => ⟨.inl (h3 c hc).1, fun hd => ?_⟩, fun c hc => ?_⟩, fun c hc => ?_⟩, ⟨h6.more fun c _ hc => hXb c hc, fun c hc => ?_⟩⟩
 ·
  rcases hc with e | e
  ·
   rw [e]; exact fun e => s3 e.symm
  ·
   exact (h.fb c (h4 c (h2.row x c e))).2.1
 ·
  rcases hc with e | e
  ·
   rw [e]; exact fun hs => (hL.apart _ hs).2.2.2 rfl
  ·
   exact (h.fb c (h4 c (h2.row x c e))).2.2.2.2
 ·
  refine h1.only h6 fun c hc => ⟨fun he => ?_, ?_⟩
  ·
   rcases hc with e | e
   ·
    subst e; exact (h.fb _ (h3 _ he).1).2.2.2.1 rfl
   ·
    exact (h3 c he).2 (h2.row x c e)
  ·
   rcases hc with e | e
   ·
    rw [e]; exact fun e => s6 e.symm
   ·
    exact (h.fb c (h4 c (h2.row x c e))).2.2.1
 ·
  have h7 := h5.congr (get' := edgAt { st with edges := st.edges ++ [(x, cI, y)] }) (n' := (st.edges ++ [(x, cI, y)]).length) (fun q => edgAt_push st x y q cI) (by simp)
  exact ⟨h7.map, h7.few, h7.own, fun q g e => ⟨h7.row q g e, ((h7.own q).row e).2⟩, h7.apart⟩
 ·
  rcases hd with ⟨hd | hd, _⟩
  ·
   exact (h3 c hc).2 hd
  ·
   have := (h.fb c (h3 c hc).1).1; omega
 ·
  rcases hc with ⟨hc | hc, hlt2⟩
  ·
   exact .inl (h4 c hc)
  ·
   exact .inr ⟨hc, hlt2⟩
 ·
  rcases hc with hc | ⟨hc, hlt2⟩
  ·
   exact ⟨Nat.lt_of_lt_of_le (h.fb c hc).1 hsz, (h.fb c hc).2⟩
  ·
   have e1 := heap_lt h.inn.box
   have e2 := h1.map.lt
   have e3 := h2.map.lt
   exact ⟨hlt2, by omega, by omega, by omega, fun hs => by have := h.inn.fit c hs; omega⟩
 ·
  rcases hc with hc | hc
  ·
   exact .inl hc
  ·
   exact .inr (by omega)
end
theorem apxAt (w : World) (Bf Bt Bc : Nat) (frm dst first : Nat) (x : Int) (hx : x = -1 ∨ x = -2 ∨ 0 ≤ x) (h1 : w.cell? ⟨Bf, 0, none⟩ = some (.int .i64 (frm : Int))) (h2 : w.cell? ⟨Bt, 0, none⟩ = some (.int .i64 (dst : Int))) (h3 : w.cell? ⟨Bc, 0, none⟩ = some (.int .i64 (first : Int))) (hb : x ≤ 1000000 ∧ first ≤ 1000000) :
    Calls Tryz.prog 41 #[.int .i64 x, .pointer (some ⟨Bf, 0, none⟩), .pointer (some ⟨Bt, 0, none⟩), .pointer (some ⟨Bc, 0, none⟩)] w fun e w' => e = .returned (.int .i64 (ndAt first frm dst x : Int)) ∧ w' = w := by
 obtain ⟨hb1, hb2⟩ := hb
 rcases hx with rfl | rfl | hx
 ·
  go_enter Tryz.func41, Tryz.ntmps41
  go_wp2_with fail
  go_ret
  exact ⟨rfl, rfl⟩
 ·
  go_enter Tryz.func41, Tryz.ntmps41
  go_wp2_with fail
  go_ret
  exact ⟨rfl, rfl⟩
 ·
  obtain ⟨m, rfl⟩ : ∃ m : Nat, x = (m : Int) := ⟨x.toNat, by omega⟩
  have e1 : decide ((m : Int) = -1) = false := by simp; try omega
  have e2 : decide ((m : Int) = -2) = false := by simp; try omega
  have e3 : ((m : Int) == -1) = false := by simp; try omega
  have e4 : ((m : Int) == -2) = false := by simp; try omega
  go_enter Tryz.func41, Tryz.ntmps41
  go_wp2_with fail
  go_ret
  refine ⟨ret_int ?_, rfl⟩
  unfold ndAt
  rw [if_neg (by omega), if_neg (by omega)]
  omega
theorem entersAt : ∀ (args : Array Value) (u : World), (callFunc 41 args).run Tryz.prog u = .ok (.enter 41 args) u := enters_of Tryz.func41 (by kernel_rfl) rfl
theorem apxNode (L : Bdr) (hL : L.Ok) (w : World) (FB : Nat → Prop) (st : NfD) (h : Bst L w FB st) (hn : st.nodes ≤ 1000000) :
    Calls Tryz.prog 14 #[.pointer (some ⟨L.Bb, 0, none⟩)] w fun e w' => e = .returned (.int .i64 (st.nodes : Int)) ∧ Bst L w' FB { st with nodes := st.nodes + 1 } ∧ Stp L FB w FB w' := by
 obtain ⟨hfz, hb2, hs⟩ := h.setN hL (st.nodes + 1)
 have hc : w.cell? ⟨L.Bb, 6, none⟩ = some (.int .i64 (st.nodes : Int)) := by simp [World.cell?, h.inn.box]
 have hc2 : (w.setCell ⟨L.Bb, 6, none⟩ (.int .i64 ((st.nodes + 1 : Nat) : Int))).cell? ⟨L.Bb, 6, none⟩ = some (.int .i64 ((st.nodes + 1 : Nat) : Int)) := by
  have := hb2.inn.box
  simp only [World.cell?, this]
  rfl
 rw [show ((st.nodes + 1 : Nat) : Int) = (st.nodes : Int) + 1 by omega] at hb2 hs hc2
 have HF := Lib.hid (⟨hb2, hs⟩ : _ ∧ _)
 clear hb2 hs h
 go_enter Tryz.func14, Tryz.ntmps14
 go_wp2_with fail
 go_ret
 exact ⟨ret_int (by omega), HF.out⟩
end Go.Proofs.YtocbkccchnbmaaaGreat
