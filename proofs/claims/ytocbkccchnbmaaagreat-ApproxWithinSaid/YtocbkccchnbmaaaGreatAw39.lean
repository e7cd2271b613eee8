/- ApxOfB ApxOfP ApxOfD -/
import Derived.Test.YtocbkccchnbmaaaGreatAw18
import Derived.Test.YtocbkccchnbmaaaGreatAw21
import Derived.Test.YtocbkccchnbmaaaGreatAw23
import Derived.Test.YtocbkccchnbmaaaGreatAw38
namespace Go.Proofs.YtocbkccchnbmaaaGreat
open Go.RowKit
theorem cells_of2 {α : Type} {R : Rep α} {w : World} {S : Nat → Prop} (h2 : R.size = 2) : ∀ {l : List α} {xs : List Value}, xs.length = l.length * 2 → (∀ (k : Nat) (a : α), l[k]? = some a → ∃ u v, xs[k * 2]? = some u ∧ xs[k * 2 + 1]? = some v ∧ R.ok w S [u, v] a) → Cells R w S xs l
 | [], xs, h, _ => by
  have e : xs = [] := List.eq_nil_of_length_eq_zero (by simpa using h)
  subst e
  exact Cells.nil
 | a :: l, [], h, _ => by simp at h
 | a :: l, [x], h, _ => by simp at h; omega
 | a :: l, x :: y :: xs, h, hk => by
  obtain ⟨u, v, e1, e2, ho⟩ := hk 0 a rfl
  simp only [Nat.zero_mul, List.getElem?_cons_zero, Nat.zero_add, List.getElem?_cons_succ, Option.some.injEq] at e1 e2
  subst e1
  subst e2
  refine ⟨[x, y], xs, rfl, ho, cells_of2 h2 (by simp at h; omega) fun k b hb => ?_⟩
  obtain ⟨u, v, e1, e2, ho2⟩ := hk (k + 1) b (by simpa using hb)
  rw [show (k + 1) * 2 = k * 2 + 1 + 1 by omega] at e1 e2
  exact ⟨u, v, by simpa using e1, by simpa using e2, ho2⟩
theorem cells_to2 {α : Type} {R : Rep α} {w : World} {S : Nat → Prop} (h2 : R.size = 2) {l : List α} {xs : List Value} (h : Cells R w S xs l) {k : Nat} {a : α} (hk : l[k]? = some a) : ∃ u v, xs[k * 2]? = some u ∧ xs[k * 2 + 1]? = some v ∧ R.ok w S [u, v] a := by
 obtain ⟨hlt, rfl⟩ := List.getElem?_eq_some_iff.1 hk
 have hg := h.get hlt
 have hl := h.len
 rw [h2] at hg hl
 have i1 : k * 2 < xs.length := by omega
 have i2 : k * 2 + 1 < xs.length := by omega
 rw [List.drop_eq_getElem_cons i1, List.drop_eq_getElem_cons i2] at hg
 exact ⟨_, _, List.getElem?_eq_getElem i1, List.getElem?_eq_getElem i2, hg⟩
def OfB (w : World) (B : Nat) (Sc : Nat → Prop) (l : List CompD) : Prop := ∃ xs : List Value, w.heap[B]? = some (.cells xs.toArray 57 (0, 0)) ∧ Cells RComp w Sc xs l
theorem OfB.start {w : World} {B N : Nat} (h : w.heap[B]? = some (.cells (madeCells #[.int .i64 0, .slice none 0 0] (N * 2)) 57 (0, 0))) (Sc : Nat → Prop) : OfB w B Sc (List.replicate N (0, [])) := by
 refine ⟨(madeCells #[.int .i64 0, .slice none 0 0] (N * 2)).toList, by rw [Array.toArray_toList]; exact h, cells_of2 rfl (by simp [size_madeCells]) fun k a hk => ?_⟩
 rw [List.getElem?_replicate] at hk
 split at hk
 ·
  rename_i hlt
  injection hk with hk
  subst hk
  refine ⟨.int .i64 0, .slice none 0 0, ?_, ?_, RComp.cells.2 ⟨none, 0, 0, rfl, Sl.nil _ _ _ _⟩⟩
  ·
   unfold madeCells
   have e : k * 2 % 2 = 0 := by omega
   have e2 : k * 2 < N * 2 := by omega
   simp [e, e2]
  ·
   unfold madeCells
   have e : (k * 2 + 1) % 2 = 1 := by omega
   have e2 : k * 2 + 1 < N * 2 := by omega
   simp [e, e2]
 ·
  cases hk
theorem OfB.only {w w' : World} {B : Nat} {Sc X : Nat → Prop} {l : List CompD} (h : OfB w B Sc l) (ho : Only w w' X) (hX : ∀ b, X b → b ≠ B ∧ ¬ Sc b) : OfB w' B Sc l := by
 obtain ⟨xs, h1, h2⟩ := h
 exact ⟨xs, (ho.block _ (heap_lt h1) fun hx => (hX _ hx).1 rfl).trans h1, h2.keep (ho.kept fun b hb hx => (hX b hx).2 hb)⟩
theorem OfB.set {w : World} {B : Nat} {Sc : Nat → Prop} {l : List CompD} (h : OfB w B Sc l) (hB : ¬ Sc B) {n : Nat} (hn : n < l.length) {kd : Int} {A : Option Addr} {m c : Nat} {q : List Int} (hq : Sl Rep.int w Sc A m c q) :
    (∃ k0 A0 n0 c0, w.cell? ⟨B, n * 2, none⟩ = some (.int .i64 k0) ∧ w.cell? ⟨B, n * 2 + 1, none⟩ = some (.slice A0 n0 c0)) ∧ w.frozen? ⟨B, n * 2, none⟩ = false ∧ w.frozen? ⟨B, n * 2 + 1, none⟩ = false ∧
     OfB ((w.setCell ⟨B, n * 2, none⟩ (.int .i64 kd)).setCell ⟨B, n * 2 + 1, none⟩ (.slice A m c)) B Sc (l.set n (kd, q)) := by
 obtain ⟨xs, h1, h2⟩ := h
 have hl := h2.len
 rw [show RComp.size = 2 from rfl] at hl
 obtain ⟨u, v, e1, e2, ho⟩ := cells_to2 rfl h2 (List.getElem?_eq_getElem hn)
 obtain ⟨A0, n0, c0, e3, _⟩ := RComp.cells.1 ho
 simp only [List.cons.injEq, and_true] at e3
 obtain ⟨rfl, rfl⟩ := e3
 refine ⟨⟨l[n].1, A0, n0, c0, by simp [World.cell?, h1, e1], by simp [World.cell?, h1, e2]⟩, by simp [World.frozen?, h1], by simp [World.frozen?, h1], (xs.set (n * 2) (.int .i64 kd)).set (n * 2 + 1) (.slice A m c), ?_, ?_⟩
 ·
  have k1 := blk_set h1 (n * 2) (.int .i64 kd)
  have k2 := blk_set k1 (n * 2 + 1) (.slice A m c)
  simpa using k2
 ·
  have hk : Kept Sc w ((w.setCell ⟨B, n * 2, none⟩ (.int .i64 kd)).setCell ⟨B, n * 2 + 1, none⟩ (.slice A m c)) := ((Only.set w B (n * 2) (.int .i64 kd) (X := fun b => b = B) rfl).trans (.set _ B (n * 2 + 1) _ rfl)).kept fun b hb e => hB (e ▸ hb)
  refine cells_of2 rfl (by simp [hl]) fun j a hj => ?_
  rw [List.getElem?_set] at hj
  by_cases e : n = j
  ·
   subst e
   rw [if_pos rfl, if_pos hn] at hj
   injection hj with hj
   subst hj
   refine ⟨.int .i64 kd, .slice A m c, ?_, ?_, RComp.cells.2 ⟨A, m, c, rfl, hq.keep hk⟩⟩
   ·
    rw [List.getElem?_set_ne (by omega), List.getElem?_set_self (by omega)]
   ·
    rw [List.getElem?_set_self (by rw [List.length_set]; omega)]
  ·
   rw [if_neg e] at hj
   obtain ⟨u', v', f1, f2, f3⟩ := cells_to2 rfl h2 hj
   exact ⟨u', v', by rw [List.getElem?_set_ne (by omega), List.getElem?_set_ne (by omega)]; exact f1, by rw [List.getElem?_set_ne (by omega), List.getElem?_set_ne (by omega)]; exact f2, RComp.keep f3 hk⟩
theorem OfB.sl {w : World} {B N : Nat} {Sc : Nat → Prop} {l : List CompD} (h : OfB w B Sc l) (hl : l.length = N) : Sl RComp w (fun b => b = B ∨ Sc b) (some ⟨B, 0, none⟩) N N l := by
 obtain ⟨xs, h1, h2⟩ := h
 refine ⟨xs, hl.symm, Nat.le_refl _, ⟨by rw [h2.len, hl], fun _ => ⟨B, 0, rfl, .inl rfl, fun j u hu => ?_⟩⟩, h2.more fun b hb => .inr hb⟩
 simp [World.cell?, h1, hu]
end Go.Proofs.YtocbkccchnbmaaaGreat
namespace Go.Proofs.YtocbkccchnbmaaaGreat
theorem compK_same {D : Nat → Nat → Bool} (ht : ∀ a b c, a < c + 1 + b + a → D a b = true → D b c = true → D a c = true) {n n' N : Nat} (h : n = n' ∨ (D n' n = true ∧ D n n' = true)) : compK D n N = compK D n' N := by
 unfold compK
 congr 1
 refine List.filter_congr fun m _ => ?_
 rcases h with rfl | ⟨h1, h2⟩
 ·
  rfl
 ·
  have tr : ∀ a b c, D a b = true → D b c = true → D a c = true := fun a b c => ht a b c (by omega)
  rw [Bool.eq_iff_iff]
  simp only [Bool.or_eq_true, beq_iff_eq, Bool.and_eq_true]
  constructor
  ·
   rintro (rfl | ⟨h3, h4⟩)
   ·
    exact .inr ⟨h1, h2⟩
   ·
    by_cases e : m = n'
    ·
     exact .inl e
    ·
     exact .inr ⟨tr _ _ _ h1 h3, tr _ _ _ h4 h2⟩
  ·
   rintro (rfl | ⟨h3, h4⟩)
   ·
    exact .inr ⟨h2, h1⟩
   ·
    by_cases e : m = n
    ·
     exact .inl e
    ·
     exact .inr ⟨tr _ _ _ h2 h3, tr _ _ _ h4 h1⟩
structure OfI (cs : List CompD) (N : Nat) (l : List CompD) (P : Nat → Prop) : Prop where
 len : l.length = N
 any : ∀ (n : Nat) (c : CompD), l[n]? = some c → c = (0, []) ∨ (c ∈ cs ∧ (n : Int) ∈ c.2)
 done : ∀ n, n < N → P n → ∃ c, c ∈ cs ∧ l[n]? = some c ∧ (n : Int) ∈ c.2
theorem OfI.start (cs : List CompD) (N : Nat) : OfI cs N (List.replicate N (0, [])) (fun _ => False) :=
 ⟨by simp, fun n c h => (by
  rw [List.getElem?_replicate] at h
  split at h
  ·
   injection h with h; exact .inl h.symm
  ·
   cases h), fun _ _ h => h.elim⟩
theorem OfI.set {cs : List CompD} {N : Nat} {l : List CompD} {P P' : Nat → Prop} (h : OfI cs N l P) {c : CompD} (hc : c ∈ cs) {n : Nat} (hn : (n : Int) ∈ c.2) (hnN : n < N) (hP : ∀ m, P' m → P m ∨ m = n) : OfI cs N (l.set n c) P' where
 len := by rw [List.length_set]; exact h.len
 any := fun m d hd => by
  rw [List.getElem?_set] at hd
  by_cases e : n = m
  ·
   subst e
   rw [if_pos rfl, if_pos (by rw [h.len]; exact hnN)] at hd
   injection hd with hd
   subst hd
   exact .inr ⟨hc, hn⟩
  ·
   rw [if_neg e] at hd
   exact h.any m d hd
 done := fun m hm hp => by
  by_cases e : n = m
  ·
   subst e
   exact ⟨c, hc, by rw [List.getElem?_set_self (by rw [h.len]; exact hnN)], hn⟩
  ·
   rcases hP m hp with h1 | h1
   ·
    obtain ⟨d, h2, h3, h4⟩ := h.done m hm h1
    exact ⟨d, h2, by rw [List.getElem?_set_ne e]; exact h3, h4⟩
   ·
    exact absurd h1.symm e
theorem OfI.mono {cs : List CompD} {N : Nat} {l : List CompD} {P P' : Nat → Prop} (h : OfI cs N l P) (hP : ∀ m, P' m → P m) : OfI cs N l P' := ⟨h.len, h.any, fun n hn hp => h.done n hn (hP n hp)⟩
theorem OfI.mono' {cs : List CompD} {N : Nat} {l : List CompD} {P P' : Nat → Prop} (h : OfI cs N l P) (hP : ∀ m, m < N → P' m → P m) : OfI cs N l P' := ⟨h.len, h.any, fun n hn hp => h.done n hn (hP n hn hp)⟩
theorem OfI.ok {R : List RuleD} {N : Nat} {cs l : List CompD} (hR : RulesN N R) (hu : CompsU R (war (edgN R) N) N N cs) (h : OfI cs N l (fun _ => True)) : CfOk R N (fun n => (l[n.toNat]?).getD (0, [])) := by
 have he : ∀ i j, edgN R i j = true → j < N := fun i j => edg_lt hR
 have tr : ∀ a b c, war (edgN R) N a b = true → war (edgN R) N b c = true → war (edgN R) N a c = true := fun a b c h1 h2 => (war_iff he).2 ((war_sound h1).trans (war_sound h2))
 have key : ∀ n : Nat, n < N → ∃ c, l[n]? = some c ∧ KindP R c.2 c.1 ∧ c.2 = compK (war (edgN R) N) n N := fun n hn => by
  obtain ⟨c, h1, h2, h3⟩ := h.done n hn trivial
  obtain ⟨h4, n', _, h5⟩ := hu.each c h1
  refine ⟨c, h2, h4, ?_⟩
  rw [h5] at h3 ⊢
  obtain ⟨m, _, e, h6⟩ := compK_mem.1 h3
  have e2 : m = n := by omega
  subst e2
  exact (compK_same (fun a b c _ => tr a b c) (h6.imp id fun h7 => ⟨h7.1, h7.2⟩)).symm
 refine ⟨hR, fun n hn => ?_, fun n hn => ?_⟩
 ·
  obtain ⟨c, h1, h2, h3⟩ := key n hn
  simp only [Int.toNat_natCast]
  rw [h1]
  exact h3
 ·
  obtain ⟨c, h1, h2, h3⟩ := key n hn
  simp only [Int.toNat_natCast]
  rw [h1]
  exact h2
end Go.Proofs.YtocbkccchnbmaaaGreat
namespace Go.Proofs.YtocbkccchnbmaaaGreat
open Go.RowKit Go.Maps
theorem AMap.none {P : Program} {k : TypeId} {κ : Type} (K : KeyRep P k κ) {w : World} {b : Nat} (hb : w.heap[b]? = some (.map #[] 0)) : AMap K w b [] := by
 have hlt := heap_lt hb
 have hsz : ({ w with heap := w.heap.extract 0 b } : World).heap.size = b := by
  show (w.heap.extract 0 b).size = b
  simp only [Array.size_extract]
  omega
 have h1 := AMap.made K ({ w with heap := w.heap.extract 0 b } : World)
 have h2 := heap_alloc_new ({ w with heap := w.heap.extract 0 b } : World) (.map #[] 0)
 rw [hsz] at h1 h2
 exact h1.block (hb.trans h2.symm)
theorem LM.none {α : Type} (E : TypeId) (sz : Nat) (enc : α → List Value) {w : World} {b : Nat} (hb : w.heap[b]? = some (.map #[] 0)) : LM E sz enc w b (fun _ => False) (fun _ => ([] : List α)) 0 [] :=
 ⟨AMap.none KNat hb, Nat.le_refl _, fun _ => Own.nil _ _ _ _ _, fun x g e => (by cases e), fun x y g e => (by cases e)⟩
theorem compK_le (D : Nat → Nat → Bool) (n k : Nat) : (compK D n k).length ≤ k := by
 unfold compK
 rw [List.length_map]
 exact Nat.le_trans (List.length_filter_le _ _) (by simp)
def ofBdr (Bb B3 B7 c7 B8 B9 : Nat) (AR : Option Addr) (nR cR : Nat) (Tm : Int) (N s0 : Nat) (R : List RuleD) (l : List CompD) (S : Nat → Prop) : Bdr where
 Bb := Bb
 BS := B7
 BE := B8
 BD := B9
 AR := AR
 nR := nR
 cR := cR
 Tm := Tm
 N := N
 st := (s0 : Int)
 R := R
 AC := some ⟨B3, 0, none⟩
 cC := N
 cs := l
 cS := c7
 S := S
 rk := fun x => cntN R N x.toNat
section
variable {Bb B3 B7 c7 B8 B9 : Nat} {AR : Option Addr} {nR cR : Nat} {Tm : Int} {N s0 : Nat} {R : List RuleD} {l cs : List CompD} {S : Nat → Prop}
theorem ofBdr_ok (hR : RulesN N R) (hlen : ∀ r ∈ R, r.2.length ≤ 4) (hnR : nR ≤ 64) (hrl : R.length = nR) (hN : N ≤ 10) (hu : CompsU R (war (edgN R) N) N N cs) (h : OfI cs N l (fun _ => True)) (hcap : N ≤ c7)
    (ha : ∀ b, S b → b ≠ Bb ∧ b ≠ B7 ∧ b ≠ B8 ∧ b ≠ B9) (hsep : Bb ≠ B7 ∧ Bb ≠ B8 ∧ Bb ≠ B9 ∧ B7 ≠ B8 ∧ B7 ≠ B9 ∧ B8 ≠ B9) : (ofBdr Bb B3 B7 c7 B8 B9 AR nR cR Tm N s0 R l S).Ok where
 net := (OfI.ok hR hu h).net
 len := hlen
 nR := hnR
 rl := hrl
 n := hN
 cs := h.len
 kind := fun c hc => by
  obtain ⟨n, hn⟩ := List.getElem?_of_mem (show c ∈ l from hc)
  rcases h.any n c hn with rfl | ⟨h1, _⟩
  ·
   exact .inl rfl
  ·
   rcases (hu.each c h1).1 with ⟨h2, _⟩ | ⟨h2, _⟩ | ⟨h2, _⟩
   ·
    exact .inl h2
   ·
    exact .inr (.inl h2)
   ·
    exact .inr (.inr h2)
 few := fun c hc => by
  obtain ⟨n, hn⟩ := List.getElem?_of_mem (show c ∈ l from hc)
  rcases h.any n c hn with rfl | ⟨h1, _⟩
  ·
   exact Nat.zero_le _
  ·
   obtain ⟨m, _, h2⟩ := (hu.each c h1).2
   rw [h2]
   exact Nat.le_trans (compK_le _ _ _) hN
 cap := hcap
 apart := ha
 sep := hsep
theorem ofBdr_in {w : World} {nd : Int} (hb : w.heap[Bb]? = some (.cells #[.int .i64 Tm, .int .i64 (N : Int), .int .i64 (s0 : Int), .slice AR nR cR, .slice (some ⟨B3, 0, none⟩) N N, .slice (some ⟨B7, 0, none⟩) N c7, .int .i64 nd, .map (some B8), .map (some B9)] 54 (0, 0)))
    (hr : Sl RRule w S AR nR cR R) (hof : Sl RComp w S (some ⟨B3, 0, none⟩) N N l) (hf : ∀ b, S b → b < w.heap.size) : (ofBdr Bb B3 B7 c7 B8 B9 AR nR cR Tm N s0 R l S).In w nd :=
 ⟨hb, hr, hof, hf⟩
theorem ofBdr_bst {w : World} (h : (ofBdr Bb B3 B7 c7 B8 B9 AR nR cR Tm N s0 R l S).In w 0) (h8 : w.heap[B8]? = some (.map #[] 0)) (h9 : w.heap[B9]? = some (.map #[] 0)) : Bst (ofBdr Bb B3 B7 c7 B8 B9 AR nR cR Tm N s0 R l S) w (fun _ => False) ⟨0, [], []⟩ :=
 ⟨h, ⟨fun _ => False, fun _ => False, [], [], LM.none _ 1 encI h8, LM.none _ 2 encP h9, fun _ h => h.elim, fun _ h => h.elim⟩, fun _ h => h.elim⟩
theorem memo_start {w : World} {base : Nat} (hN : 1 ≤ N) (h : Own w base 3 1 (.slice (some ⟨B7, 0, none⟩) N c7) N ((List.replicate N (-1)).map (Value.int .i64))) (f : Int → Nat) : Memo w B7 N f ∧ N ≤ c7 := by
 rcases h with ⟨_, ⟨_, h2⟩ | ⟨g', cap, cur, e, hb, hh, h3⟩⟩ | ⟨_, _, h2, _⟩
 ·
  omega
 ·
  injection e with e1 e2 e3
  injection e1 with e1
  injection e1 with e1
  subst e1 e3
  obtain ⟨h4, _, h5, h6⟩ := h3
  refine ⟨⟨cur, _, hh, by omega, fun i hi => .inl ?_⟩, h4⟩
  have h7 : (cur.toList.take (N * 1))[i]? = some (.int .i64 (-1)) := by
   rw [h6]
   simp [hi]
  rw [List.getElem?_take_of_lt (by omega)] at h7
  rw [← h7, Array.getElem?_toList]
 ·
  omega
end
end Go.Proofs.YtocbkccchnbmaaaGreat
