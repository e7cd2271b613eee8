/- LisM ForSame -/
import Derived.Test.YtjnbjdbndbbanaaGreatDoorTc34
namespace Go.Proofs.YtjnbjdbndbbanaaGreatDoor
open Go.RowKit Go.Maps
abbrev RW : Rep CKey where
 size := 7
 ok := fun _ _ cs k => cs = ckV k ++ [Value.pointer none]
 pos := by decide
 len := by rintro _ _ _ _ rfl; rfl
 keep := by intro _ _ _ _ _ h _; exact h
 more := by intro _ _ _ _ _ h _; exact h
 fit := by intro _ _ _ _ h; exact h
 one := by
  rintro _ _ _ k rfl u hu
  simp only [ckV, List.cons_append, List.nil_append, List.mem_cons, List.not_mem_nil, or_false] at hu
  rcases hu with rfl | rfl | rfl | rfl | rfl | rfl | rfl <;> rfl
structure Fam {α : Type} (R : Rep α) (E : TypeId) (T : Nat → Prop) (w : World) (vs : List Value) (ls : List (List α)) : Prop where
 len : vs.length = ls.length
 own : ∀ (i : Nat) (v : Value) (l : List α), vs[i]? = some v → ls[i]? = some l → ∃ xs, Own w 0 E R.size v l.length xs ∧ Cells R w T xs l
 apart : ∀ (i j : Nat) (v v' : Value) (g : Nat), i ≠ j → vs[i]? = some v → vs[j]? = some v' → rowOf v = some g → rowOf v' ≠ some g
section
variable {α : Type} {R : Rep α} {E : TypeId} {T T' X : Nat → Prop} {w w' : World} {vs : List Value} {ls : List (List α)}
theorem Fam.lt (h : Fam R E T w vs ls) {i g : Nat} {v : Value} (hv : vs[i]? = some v) (hg : rowOf v = some g) : g < w.heap.size := by
 obtain ⟨l, hl⟩ : ∃ l, ls[i]? = some l := ⟨_, List.getElem?_eq_getElem (by rw [← h.len]; exact (List.getElem?_eq_some_iff.1 hv).1)⟩
 obtain ⟨xs, h1, _⟩ := h.own i v l hv hl
 exact (h1.row hg).2
theorem Fam.only (h : Fam R E T w vs ls) (ho : Only w w' X) (hT : ∀ b, T b → ¬ X b) (hr : ∀ (i g : Nat) (v : Value), vs[i]? = some v → rowOf v = some g → ¬ X g) : Fam R E T w' vs ls :=
 ⟨h.len, fun i v l hv hl => by
  obtain ⟨xs, h1, h2⟩ := h.own i v l hv hl
  exact ⟨xs, h1.sameB fun g e => ho.block g (h1.row e).2 (hr i g v hv e), h2.keep (ho.kept hT)⟩, h.apart⟩
theorem Fam.more (h : Fam R E T w vs ls) (hT : ∀ b, T b → T' b) : Fam R E T' w vs ls :=
 ⟨h.len, fun i v l hv hl => by
  obtain ⟨xs, h1, h2⟩ := h.own i v l hv hl
  exact ⟨xs, h1, h2.more hT⟩, h.apart⟩
theorem Fam.put (h : Fam R E T w vs ls) (ho : Only w w' X) (hT : ∀ b, T b → ¬ X b) {i : Nat} {v0 v : Value} {l : List α} (hv0 : vs[i]? = some v0) (hr : ∀ (j g : Nat) (u : Value), j ≠ i → vs[j]? = some u → rowOf u = some g → ¬ X g)
    (hv : ∃ xs, Own w' 0 E R.size v l.length xs ∧ Cells R w' T xs l) (hrow : ∀ g, rowOf v = some g → rowOf v0 = some g ∨ w.heap.size ≤ g) : Fam R E T w' (vs.set i v) (ls.set i l) := by
 have hi := (List.getElem?_eq_some_iff.1 hv0).1
 refine ⟨by rw [List.length_set, List.length_set]; exact h.len, fun j u m hu hm => ?_, fun a b u u' g hab hu hu' e e' => ?_⟩
 ·
  rw [List.getElem?_set] at hu hm
  by_cases e : i = j
  ·
   subst e
   rw [if_pos rfl, if_pos hi] at hu
   rw [if_pos rfl, if_pos (by rw [← h.len]; exact hi)] at hm
   injection hu with hu
   injection hm with hm
   subst hu
   subst hm
   exact hv
  rw [if_neg e] at hu hm
  obtain ⟨xs, h1, h2⟩ := h.own j u m hu hm
  exact ⟨xs, h1.sameB fun g e2 => ho.block g (h1.row e2).2 (hr j g u (Ne.symm e) hu e2), h2.keep (ho.kept hT)⟩
 rw [List.getElem?_set] at hu hu'
 by_cases e1 : i = a
 ·
  subst e1
  rw [if_pos rfl, if_pos hi] at hu
  rw [if_neg hab] at hu'
  injection hu with hu
  subst hu
  rcases hrow g e with h1 | h1
  · exact h.apart i b v0 u' g hab hv0 hu' h1 e'
  have := h.lt hu' e'
  omega
 rw [if_neg e1] at hu
 by_cases e2 : i = b
 ·
  subst e2
  rw [if_pos rfl, if_pos hi] at hu'
  injection hu' with hu'
  subst hu'
  rcases hrow g e' with h1 | h1
  · exact h.apart i a v0 u g (Ne.symm hab) hv0 hu h1 e
  have := h.lt hu e
  omega
 rw [if_neg e2] at hu'
 exact h.apart a b u u' g hab hu hu' e e'
theorem Fam.add (h : Fam R E T w vs ls) (ho : Only w w' X) (hT : ∀ b, T b → ¬ X b) {v : Value} {l : List α} (hr : ∀ (j g : Nat) (u : Value), vs[j]? = some u → rowOf u = some g → ¬ X g)
    (hv : ∃ xs, Own w' 0 E R.size v l.length xs ∧ Cells R w' T xs l) (hrow : ∀ g, rowOf v = some g → w.heap.size ≤ g) : Fam R E T w' (vs ++ [v]) (ls ++ [l]) := by
 refine ⟨by rw [List.length_append, List.length_append, h.len]; rfl, fun j u m hu hm => ?_, fun a b u u' g hab hu hu' e e' => ?_⟩
 ·
  by_cases hj : j < vs.length
  ·
   rw [List.getElem?_append_left hj] at hu
   rw [List.getElem?_append_left (by rw [← h.len]; exact hj)] at hm
   obtain ⟨xs, h1, h2⟩ := h.own j u m hu hm
   exact ⟨xs, h1.sameB fun g e2 => ho.block g (h1.row e2).2 (hr j g u hu e2), h2.keep (ho.kept hT)⟩
  rw [List.getElem?_append_right (by omega)] at hu
  rw [List.getElem?_append_right (by rw [← h.len]; omega), ← h.len] at hm
  obtain ⟨k, hk⟩ := zE (j - vs.length)
  rw [← hk] at hu hm
  cases k with
  | zero =>
   injection hu with hu
   injection hm with hm
   subst hu
   subst hm
   exact hv
  | succ k => cases hu
 have hat : ∀ (j : Nat) (u : Value), (vs ++ [v])[j]? = some u → (vs[j]? = some u ∧ j < vs.length) ∨ (j = vs.length ∧ u = v) := fun j u hu => by
  by_cases hj : j < vs.length
  · exact .inl ⟨by rw [List.getElem?_append_left hj] at hu; exact hu, hj⟩
  rw [List.getElem?_append_right (by omega)] at hu
  obtain ⟨k, hk⟩ := zE (j - vs.length)
  rw [← hk] at hu
  cases k with
  | zero => injection hu with hu; exact .inr ⟨by omega, hu.symm⟩
  | succ k => cases hu
 rcases hat a u hu with ⟨h1, _⟩ | ⟨h1, rfl⟩ <;> rcases hat b u' hu' with ⟨h2, _⟩ | ⟨h2, rfl⟩
 · exact h.apart a b u u' g hab h1 h2 e e'
 · have := hrow g e'; have := h.lt h1 e; omega
 · have := hrow g e; have := h.lt h2 e'; omega
 exact hab (h1.trans h2.symm)
theorem Fam.sub (h : Fam R E T w vs ls) {ix : List Nat} (hix : ix.Nodup) {vs' : List Value} {ls' : List (List α)} (h1 : vs'.length = ix.length) (h2 : ls'.length = ix.length) (hv : ∀ (i k : Nat), ix[i]? = some k → vs'[i]? = vs[k]? ∧ ls'[i]? = ls[k]?) : Fam R E T w vs' ls' := by
 have hat : ∀ (i : Nat) (u : Value), vs'[i]? = some u → ∃ k, ix[i]? = some k ∧ vs[k]? = some u := fun i u hu => by
  have hi := (List.getElem?_eq_some_iff.1 hu).1
  refine ⟨ix[i], List.getElem?_eq_getElem (by omega), ?_⟩
  rw [← (hv i _ (List.getElem?_eq_getElem (by omega))).1]
  exact hu
 refine ⟨by omega, fun i v l hv' hl' => ?_, fun i j v v' g hij h3 h4 e => ?_⟩
 ·
  obtain ⟨k, hk, hvk⟩ := hat i v hv'
  rw [(hv i k hk).2] at hl'
  exact h.own k v l hvk hl'
 obtain ⟨k, hk, hvk⟩ := hat i v h3
 obtain ⟨k', hk', hvk'⟩ := hat j v' h4
 exact h.apart k k' v v' g (fun e2 => hij (nodup_at hix hk (e2 ▸ hk'))) hvk hvk' e
end
structure LC where
 BL : Nat
 BV : Nat
 BS : Nat
 BW : Nat
 A : Option Addr
 m : Nat
 c : Nat
 root : Int
 most : Nat
 ns : List NodeD
def LC.la (C : LC) : List Value := [.slice C.A C.m C.c, .int .i64 C.root, .int .i64 (C.most : Int), .slice (some ⟨C.BV, 0, none⟩) C.m C.m, .map (some C.BS), .map (some C.BW)]
structure LD where
 ls : List (List TreeD)
 q : List QEl
 wl : List ((Nat × Nat) × List CKey)
 sn : List CKey
structure LM (C : LC) (tag : Nat → Nat) (w : World) (vq : Value) (vs : List Value) (es : List ((Nat × Nat) × Value)) (D : LD) : Prop where
 blk : w.heap[C.BL]? = some (.cells (C.la ++ [vq]).toArray 122 (0, 0))
 nd : Sl RNode w (fun b => tag b = 9) C.A C.m C.c C.ns
 bv : w.heap[C.BV]? = some (.cells vs.toArray 124 (0, 0))
 vl : vs.length = C.m
 fl : Fam RPt 123 (fun b => tag b = 8) w vs D.ls
 sn : SMap w C.BS D.sn
 wm : EMap KWait w C.BW es
 wk : es.map Prod.fst = D.wl.map Prod.fst
 fw : Fam RW 130 (fun b => tag b = 8) w (es.map Prod.snd) (D.wl.map Prod.snd)
 qu : Qu (fun b => tag b = 8) w vq D.q
 un : UnfT w (fun b => tag b = 8)
 tL : tag C.BL = 4
 tV : tag C.BV = 5
 tS : tag C.BS = 6
 tW : tag C.BW = 7
 rq : ∀ g, rowOf vq = some g → tag g = 1
 rl : ∀ (i g : Nat) (v : Value), vs[i]? = some v → rowOf v = some g → tag g = 2
 rw : ∀ (i g : Nat) (v : Value), (es.map Prod.snd)[i]? = some v → rowOf v = some g → tag g = 3
 lt : ∀ b, tag b ≠ 0 → b < w.heap.size
section
variable {C : LC} {tag : Nat → Nat} {w w' : World} {vq : Value} {vs : List Value} {es : List ((Nat × Nat) × Value)} {D : LD}
theorem LM.qc (h : LM C tag w vq vs es D) : QC (fun b => tag b = 8) C.BL C.la w vq D.q :=
 ⟨h.qu, h.blk, rfl, fun e => by have := h.tL; omega, fun g e e2 => by have := h.rq g e; have := h.tL; subst e2; omega, h.un⟩
theorem LM.only {X : Nat → Prop} (h : LM C tag w vq vs es D) (ho : Only w w' X) (hX : ∀ b, tag b ≠ 0 → ¬ X b) : LM C tag w' vq vs es D := by
 have hb : ∀ b, tag b ≠ 0 → w'.heap[b]? = w.heap[b]? := fun b hb => ho.block b (h.lt b hb) (hX b hb)
 have hT : ∀ b, tag b = 8 → ¬ X b := fun b e => hX b (by omega)
 exact ⟨(hb _ (by rw [h.tL]; decide)).trans h.blk, h.nd.keep (ho.kept fun b e => hX b (by omega)), (hb _ (by rw [h.tV]; decide)).trans h.bv, h.vl, h.fl.only ho hT fun i g v hv e => hX g (by rw [h.rl i g v hv e]; decide), h.sn.only ho (hX _ (by rw [h.tS]; decide)), h.wm.only ho (hX _ (by rw [h.tW]; decide)), h.wk, h.fw.only ho hT fun i g v hv e => hX g (by rw [h.rw i g v hv e]; decide), h.qu.only ho hT fun g e => hX g (by rw [h.rq g e]; decide), fun b e => (by obtain ⟨cs, ty, e2⟩ := h.un b e; exact ⟨cs, ty, (hb b (by omega)).trans e2⟩), h.tL, h.tV, h.tS, h.tW, h.rq, h.rl, h.rw, fun b e => Nat.lt_of_lt_of_le (h.lt b e) ho.size⟩
theorem LM.below (h : LM C tag w vq vs es D) (hb : Below w.heap.size w w') : LM C tag w' vq vs es D := h.only (X := fun _ => False) (.of_below hb (Nat.le_refl _) _) fun _ _ => id
theorem LM.ofQ {vq' : Value} {q' : List QEl} (h : LM C tag w vq vs es D) (hq : QC (fun b => tag b = 8) C.BL C.la w' vq' q') (ho : Only w w' (fun x => x = C.BL ∨ rowOf vq = some x)) (hr : ∀ g, rowOf vq' = some g → rowOf vq = some g ∨ w.heap.size ≤ g) (hlt : ∀ g, rowOf vq' = some g → g < w'.heap.size) :
    ∃ tag' : Nat → Nat, (∀ b, tag b ≠ 0 → tag' b = tag b) ∧ (∀ b, tag' b ≠ 0 → tag b ≠ 0 ∨ w.heap.size ≤ b) ∧ LM C tag' w' vq' vs es { D with q := q' } := by
 obtain ⟨tag', htag⟩ : ∃ tag' : Nat → Nat, tag' = fun b => if tag b = 0 ∧ rowOf vq' = some b then 1 else tag b := ⟨_, rfl⟩
 have hle : ∀ b, tag b ≠ 0 → tag' b = tag b := fun b hb => by rw [htag]; exact if_neg fun e => hb e.1
 have h8 : ∀ b, tag' b = 8 ↔ tag b = 8 := fun b => by
  rw [htag]
  simp only
  split
  · next e => rw [e.1]; decide
  exact Iff.rfl
 have h9 : ∀ b, tag b = 9 → tag' b = 9 := fun b e => by rw [hle b (by omega)]; exact e
 have h8e : (fun b => tag' b = 8) = fun b => tag b = 8 := by funext b; exact propext (h8 b)
 have hT : ∀ b, tag b = 8 → ¬ (b = C.BL ∨ rowOf vq = some b) := fun b e h2 => by
  rcases h2 with h2 | h2
  · have := h.tL; subst h2; omega
  have := h.rq b h2; omega
 have hX : ∀ b, tag b ≠ 0 → tag b ≠ 4 → tag b ≠ 1 → ¬ (b = C.BL ∨ rowOf vq = some b) := fun b _ e4 e1 h2 => by
  rcases h2 with h2 | h2
  · have := h.tL; subst h2; omega
  have := h.rq b h2; omega
 have hb : ∀ b, tag b ≠ 0 → tag b ≠ 4 → tag b ≠ 1 → w'.heap[b]? = w.heap[b]? := fun b h0 h4 h1 => ho.block b (h.lt b h0) (hX b h0 h4 h1)
 refine ⟨tag', hle, fun b hb' => ?_, ?_⟩
 ·
  rw [htag] at hb'
  simp only at hb'
  split at hb'
  ·
   next e =>
   rcases hr b e.2 with h1 | h1
   · have := h.rq b h1; omega
   exact .inr h1
  exact .inl hb'
 have hnd := (h.nd.keep (ho.kept fun b e => hX b (by omega) (by omega) (by omega))).more (S' := fun b => tag' b = 9) h9
 have hfl := h.fl.only ho hT fun i g v hv e => hX g (by rw [h.rl i g v hv e]; decide) (by rw [h.rl i g v hv e]; decide) (by rw [h.rl i g v hv e]; decide)
 have hfw := h.fw.only ho hT fun i g v hv e => hX g (by rw [h.rw i g v hv e]; decide) (by rw [h.rw i g v hv e]; decide) (by rw [h.rw i g v hv e]; decide)
 rw [← h8e] at hq hfl hfw
 exact ⟨hq.blk, hnd, (hb _ (by rw [h.tV]; decide) (by rw [h.tV]; decide) (by rw [h.tV]; decide)).trans h.bv, h.vl, hfl, h.sn.only ho (hX _ (by rw [h.tS]; decide) (by rw [h.tS]; decide) (by rw [h.tS]; decide)), h.wm.only ho (hX _ (by rw [h.tW]; decide) (by rw [h.tW]; decide) (by rw [h.tW]; decide)), h.wk, hfw, hq.q, hq.un, (hle _ (by rw [h.tL]; decide)).trans h.tL, (hle _ (by rw [h.tV]; decide)).trans h.tV, (hle _ (by rw [h.tS]; decide)).trans h.tS, (hle _ (by rw [h.tW]; decide)).trans h.tW, fun g e => (by
  rw [htag]
  simp only
  by_cases e0 : tag g = 0
  · rw [if_pos ⟨e0, e⟩]
  ·
   rw [if_neg (fun e2 => e0 e2.1)]
   rcases hr g e with h1 | h1
   · exact h.rq g h1
   have := h.lt g e0; omega), fun i g v hv e => (hle g (by rw [h.rl i g v hv e]; decide)).trans (h.rl i g v hv e), fun i g v hv e => (hle g (by rw [h.rw i g v hv e]; decide)).trans (h.rw i g v hv e), fun b hb' => (by
  rw [htag] at hb'
  simp only at hb'
  split at hb'
  · next e => exact hlt b e.2
  exact Nat.lt_of_lt_of_le (h.lt b hb') ho.size)⟩
end
end Go.Proofs.YtjnbjdbndbbanaaGreatDoor
namespace Go.Proofs.YtjnbjdbndbbanaaGreatDoor
open Go.RowKit
theorem enters_sp : ∀ (args : Array Value) (u : World), (callFunc 95 args).run Tryz.prog u = .ok (.enter 95 args) u := enters_of Tryz.func95 (by kernel_rfl) rfl
theorem enters_sn : ∀ (args : Array Value) (u : World), (callFunc 93 args).run Tryz.prog u = .ok (.enter 93 args) u := enters_of Tryz.func93 (by kernel_rfl) rfl
theorem pack_at {w : World} {S : Nat → Prop} {A : Option Addr} {n c : Nat} {ps : List PackD} (h : Sl RPack w S A n c ps) {k : Nat} (hk : k < n) :
    ∃ (b off : Nat) (p : PackD) (A' : Option Addr) (m c' : Nat), A = some ⟨b, off, none⟩ ∧ ps[k]? = some p ∧ w.cell? ⟨b, off + k * 2, none⟩ = some (.int .i64 p.1) ∧ w.cell? ⟨b, off + k * 2 + 1, none⟩ = some (.slice A' m c') ∧ Sl Rep.int w S A' m c' p.2 := by
 obtain ⟨b, off, u, v, p, e, _, hp, hok, h1, h2⟩ := h.at2 rfl hk
 obtain ⟨A', m, c', he, hsl⟩ := RPack.cells.1 hok
 injection he with e1 he
 injection he with e2 _
 subst e1
 subst e2
 exact ⟨b, off, p, A', m, c', e, hp, h1, h2, hsl⟩
set_option linter.unusedSimpArgs false in
set_option maxRecDepth 100000 in
set_option maxHeartbeats 4000000 in
theorem samePk (w : World) (x : Int) (S1 S2 : Nat → Prop) (A1 A2 : Option Addr) (n1 c1 n2 c2 : Nat) (l : List Int) (h1 : Sl Rep.int w S1 A1 n1 c1 l) (h2 : Sl Rep.int w S2 A2 n2 c2 l) (hl : l.length ≤ 1000000) :
    Calls Tryz.prog 95 #[.agg #[.int .i64 x, .slice A1 n1 c1], .agg #[.int .i64 x, .slice A2 n2 c2]] w fun e w' => e = .returned (.bool true) ∧ Below w.heap.size w w' := by
 have E1 := Lib.hid (show n1 ≤ 1000000 by rw [h1.len]; exact hl)
 have E2 := Lib.hid (show n2 ≤ 1000000 by rw [h2.len]; exact hl)
 have H1 := Lib.hid h1
 have H2 := Lib.hid h2
 clear h1 h2
 go_enter Tryz.func95, Tryz.ntmps95
 go_wp2_with fail
 refine (equalInt A1 A2 n1 c1 n2 c2 S1 S2 l l _ ((H1.out.alloc _).alloc _).ints ((H2.out.alloc _).alloc _).ints (by have := E1.out; omega) (by have := E2.out; omega)).mono ?_
 rintro e w9 ⟨rfl, d, rfl⟩
 rw [show (l == l) = true by simp]
 go_wp2_with fail
 go_ret
 exact ⟨rfl, Below.drewN' (((Below.refl _ _).alloc (Nat.le_refl _) _).alloc (by simp) _) d⟩
set_option linter.unusedSimpArgs false in
set_option maxRecDepth 100000 in
set_option maxHeartbeats 4000000 in
theorem eqPks (w : World) (S1 S2 : Nat → Prop) (A1 A2 : Option Addr) (n1 c1 n2 c2 : Nat) (l : List PackD) (h1 : Sl RPack w S1 A1 n1 c1 l) (h2 : Sl RPack w S2 A2 n2 c2 l) (hl : l.length ≤ 1000000) (hk : ∀ p ∈ l, p.2.length ≤ 1000000) :
    Calls Tryz.prog 94 #[.slice A1 n1 c1, .slice A2 n2 c2, .func (.func 95) #[] #[]] w fun e w' => e = .returned (.bool true) ∧ Below w.heap.size w w' := by
 obtain rfl : n1 = n2 := by rw [h1.len, h2.len]
 have hn1 : n1 ≤ 1000000 := by rw [h1.len]; exact hl
 have H1 := Lib.hid h1
 have H2 := Lib.hid h2
 have HK := Lib.hid hk
 have hent := enters_sp
 clear h1 h2 hk
 go_enter Tryz.func94, Tryz.ntmps94
 go_wp2_with fail
 go_loopg [17] n1 (fun gk i wr => ∃ k : Nat, k ≤ n1 ∧ gk = n1 - k ∧ i = .int .i64 (k : Int) ∧ Below w.heap.size w wr)
 case atStart => exact ⟨0, Nat.zero_le _, rfl, rfl, Below.refl _ _⟩
 case round =>
  obtain ⟨k, hk, hg, rfl, hb⟩ := hrel
  have HG := Lib.hid hg
  have HB := Lib.hid hb
  have hz := hb.size
  clear hg hb
  by_cases hlt : k < n1
  ·
   obtain ⟨b1, o1, p, A3, n3, c3, rfl, hp, q0, q1, hs1⟩ := pack_at (H1.out.below HB.out) hlt
   obtain ⟨b2, o2, p', A4, n4, c4, rfl, hp', r0, r1, hs2⟩ := pack_at (H2.out.below HB.out) hlt
   have hpp := hp.symm.trans hp'
   injection hpp with hpp
   subst hpp
   have HS1 := Lib.hid hs1
   have HS2 := Lib.hid hs2
   have HPL := Lib.hid (HK.out p (List.mem_of_getElem? hp))
   have hkI : (k : Int) < (n1 : Int) := by omega
   have l1 := cell_lt q0
   have l2 := cell_lt r0
   clear hs1 hs2 hp hp'
   go_wp2_with fail
   refine (samePk _ p.1 _ _ A3 A4 n3 c3 n4 c4 p.2 ((HS1.out.alloc _).alloc _) ((HS2.out.alloc _).alloc _) HPL.out).mono ?_
   rintro e w9 ⟨rfl, hb9⟩
   have HB9 := Lib.hid (HB.out.trans (((((Below.refl _ _).alloc (Nat.le_refl _) _).alloc (by simp) _).trans (hb9.mono (by simp; omega))).mono hz))
   clear hb9
   go_wp2_with fail
   go_roundg (n1 - (k + 1))
   case measure => rw [HG.out]; omega
   case rel => exact ⟨k + 1, by omega, rfl, by go_num, HB9.out⟩
  obtain rfl : k = n1 := by omega
  go_wp2_with fail
  go_ret
  exact ⟨rfl, HB.out⟩
set_option linter.unusedSimpArgs false in
set_option maxRecDepth 100000 in
set_option maxHeartbeats 4000000 in
theorem sameNd (w : World) (b : Bool) (x y z : Int) (S1 S2 : Nat → Prop) (A1 A2 : Option Addr) (n1 c1 n2 c2 : Nat) (l : List PackD) (h1 : Sl RPack w S1 A1 n1 c1 l) (h2 : Sl RPack w S2 A2 n2 c2 l) (hl : l.length ≤ 1000000) (hk : ∀ p ∈ l, p.2.length ≤ 1000000) :
    Calls Tryz.prog 93 #[.agg #[.bool b, .int .i64 x, .int .i64 y, .int .i64 z, .slice A1 n1 c1], .agg #[.bool b, .int .i64 x, .int .i64 y, .int .i64 z, .slice A2 n2 c2]] w fun e w' => e = .returned (.bool true) ∧ Below w.heap.size w w' := by
 have H1 := Lib.hid h1
 have H2 := Lib.hid h2
 have HL := Lib.hid hl
 have HK := Lib.hid hk
 clear h1 h2 hl hk
 go_enter Tryz.func93, Tryz.ntmps93
 go_wp2_with fail
 refine (eqPks _ S1 S2 A1 A2 n1 c1 n2 c2 l ((H1.out.alloc _).alloc _) ((H2.out.alloc _).alloc _) HL.out HK.out).mono ?_
 rintro e w9 ⟨rfl, hb9⟩
 have HB9 := Lib.hid (((Below.refl _ _).alloc (Nat.le_refl _) _).alloc (by simp) _ |>.trans (hb9.mono (by simp; omega)))
 clear hb9
 go_wp2_with fail
 go_ret
 exact ⟨rfl, HB9.out⟩
set_option linter.unusedSimpArgs false in
set_option maxRecDepth 100000 in
set_option maxHeartbeats 4000000 in
theorem eqNds (w : World) (S1 S2 : Nat → Prop) (A1 A2 : Option Addr) (n1 c1 n2 c2 : Nat) (l : List NodeD) (h1 : Sl RNode w S1 A1 n1 c1 l) (h2 : Sl RNode w S2 A2 n2 c2 l) (hl : l.length ≤ 1000000) (hk : ∀ d ∈ l, d.2.2.2.length ≤ 1000000 ∧ ∀ p ∈ d.2.2.2, p.2.length ≤ 1000000) :
    Calls Tryz.prog 92 #[.slice A1 n1 c1, .slice A2 n2 c2, .func (.func 93) #[] #[]] w fun e w' => e = .returned (.bool true) ∧ Below w.heap.size w w' := by
 obtain rfl : n1 = n2 := by rw [h1.len, h2.len]
 have hn1 : n1 ≤ 1000000 := by rw [h1.len]; exact hl
 have H1 := Lib.hid h1
 have H2 := Lib.hid h2
 have HK := Lib.hid hk
 have hent := enters_sn
 clear h1 h2 hk
 go_enter Tryz.func92, Tryz.ntmps92
 go_wp2_with fail
 go_loopg [17] n1 (fun gk i wr => ∃ k : Nat, k ≤ n1 ∧ gk = n1 - k ∧ i = .int .i64 (k : Int) ∧ Below w.heap.size w wr)
 case atStart => exact ⟨0, Nat.zero_le _, rfl, rfl, Below.refl _ _⟩
 case round =>
  obtain ⟨k, hk, hg, rfl, hb⟩ := hrel
  have HG := Lib.hid hg
  have HB := Lib.hid hb
  have hz := hb.size
  clear hg hb
  by_cases hlt : k < n1
  ·
   obtain ⟨b1, o1, p, A3, n3, c3, rfl, _, hp, q0, q1, q2, q3, q4, hs1⟩ := node_at (H1.out.below HB.out) hlt
   obtain ⟨b2, o2, p', A4, n4, c4, rfl, _, hp', r0, r1, r2, r3, r4, hs2⟩ := node_at (H2.out.below HB.out) hlt
   have hpp := hp.symm.trans hp'
   injection hpp with hpp
   subst hpp
   have HS1 := Lib.hid hs1
   have HS2 := Lib.hid hs2
   have HPL := Lib.hid (HK.out p (List.mem_of_getElem? hp))
   have hkI : (k : Int) < (n1 : Int) := by omega
   have l1 := cell_lt q0
   have l2 := cell_lt r0
   clear hs1 hs2 hp hp'
   go_wp2_with fail
   refine (sameNd _ p.1.1 p.1.2 p.2.1 p.2.2.1 _ _ A3 A4 n3 c3 n4 c4 p.2.2.2 ((HS1.out.alloc _).alloc _) ((HS2.out.alloc _).alloc _) HPL.out.1 HPL.out.2).mono ?_
   rintro e w9 ⟨rfl, hb9⟩
   have HB9 := Lib.hid (HB.out.trans (((((Below.refl _ _).alloc (Nat.le_refl _) _).alloc (by simp) _).trans (hb9.mono (by simp; omega))).mono hz))
   clear hb9
   go_wp2_with fail
   go_roundg (n1 - (k + 1))
   case measure => rw [HG.out]; omega
   case rel => exact ⟨k + 1, by omega, rfl, by go_num, HB9.out⟩
  obtain rfl : k = n1 := by omega
  go_wp2_with fail
  go_ret
  exact ⟨rfl, HB.out⟩
set_option linter.unusedSimpArgs false in
set_option maxRecDepth 100000 in
set_option maxHeartbeats 4000000 in
theorem forSame (w : World) (x : Int) (S1 S2 : Nat → Prop) (A1 A2 : Option Addr) (n1 c1 n2 c2 : Nat) (l : List NodeD) (h1 : Sl RNode w S1 A1 n1 c1 l) (h2 : Sl RNode w S2 A2 n2 c2 l) (hl : l.length ≤ 1000000) (hk : ∀ d ∈ l, d.2.2.2.length ≤ 1000000 ∧ ∀ p ∈ d.2.2.2, p.2.length ≤ 1000000) :
    Calls Tryz.prog 76 #[.agg #[.slice A1 n1 c1, .int .i64 x], .agg #[.slice A2 n2 c2, .int .i64 x]] w fun e w' => e = .returned (.bool true) ∧ Below w.heap.size w w' := by
 have H1 := Lib.hid h1
 have H2 := Lib.hid h2
 have HL := Lib.hid hl
 have HK := Lib.hid hk
 clear h1 h2 hl hk
 go_enter Tryz.func76, Tryz.ntmps76
 go_wp2_with fail
 refine (eqNds _ S1 S2 A1 A2 n1 c1 n2 c2 l ((H1.out.alloc _).alloc _) ((H2.out.alloc _).alloc _) HL.out HK.out).mono ?_
 rintro e w9 ⟨rfl, hb9⟩
 have HB9 := Lib.hid (((Below.refl _ _).alloc (Nat.le_refl _) _).alloc (by simp) _ |>.trans (hb9.mono (by simp; omega)))
 clear hb9
 go_wp2_with fail
 go_ret
 exact ⟨rfl, HB9.out⟩
end Go.Proofs.YtjnbjdbndbbanaaGreatDoor
