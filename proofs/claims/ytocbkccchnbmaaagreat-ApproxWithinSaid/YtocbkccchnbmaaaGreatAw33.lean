/- CanonLaws Repeat -/
import Derived.Deep.LoopGhost
import Derived.Laws.CopyOwn
import Derived.Laws.CopyRow
import Derived.Test.YtocbkccchnbmaaaGreatAw24
import Derived.Test.YtocbkccchnbmaaaGreatAw30
import Derived.Test.YtocbkccchnbmaaaGreatAw31
namespace Go.Proofs.YtocbkccchnbmaaaGreat
structure CanonOk (d : DfaD) (sts : List Int) (e : DfaD) : Prop where
 st : e.1 = 0
 good : GoodS d sts
 lr : e.2.2.length = sts.length
 la : e.2.1.length = sts.length
 row : ∀ (j : Nat) (r : List Int) (s : Int), e.2.2[j]? = some r → sts[j]? = some s → r.length = cols d ∧ ∀ (c : Nat) (y : Int), r[c]? = some y → CellOk d sts (dto d s c) y
 acc : ∀ (j : Nat) (a s : Int), e.2.1[j]? = some a → sts[j]? = some s → a = dat d s
section
variable {d e : DfaD}
theorem canon_live (hv : Valid d) (hl : LiveP d d.1) : CanonOk d (cIter d d.2.2.length).sts (canonD d) := by
 have h := cIter_inv hv hl d.2.2.length
 have hlen := h.good.len
 unfold canonD
 rw [if_pos hl]
 refine ⟨rfl, h.good, ?_, ?_, h.row, h.acc⟩
 ·
  show (cIter d d.2.2.length).rows.length = _
  rw [h.lr]; omega
 ·
  show (cIter d d.2.2.length).acc.length = _
  rw [h.la]; omega
section
variable {sts : List Int} (h : CanonOk d sts e)
include h
theorem CanonOk.pos : 0 < sts.length := by
 rcases Nat.eq_zero_or_pos sts.length with h0 | h0
 ·
  have := h.good.hd; rw [List.getElem?_eq_none (by omega)] at this; cases this
 ·
  exact h0
theorem CanonOk.at_ {j : Nat} {s : Int} (hj : sts[j]? = some s) : ∃ r a, e.2.2[j]? = some r ∧ e.2.1[j]? = some a ∧ r.length = cols d ∧ a = dat d s ∧ ∀ c : Nat, c < cols d → ∃ y, r[c]? = some y ∧ CellOk d sts (dto d s c) y := by
 have hlt := (List.getElem?_eq_some_iff.1 hj).1
 have h1 : e.2.2[j]? = some (e.2.2[j]'(by have := h.lr; omega)) := List.getElem?_eq_getElem _
 have h2 : e.2.1[j]? = some (e.2.1[j]'(by have := h.la; omega)) := List.getElem?_eq_getElem _
 obtain ⟨k1, k2⟩ := h.row j _ s h1 hj
 exact ⟨_, _, h1, h2, k1, h.acc j _ s h2 hj, fun c hc => ⟨_, List.getElem?_eq_getElem (by omega), k2 c _ (List.getElem?_eq_getElem (by omega))⟩⟩
theorem CanonOk.cols : cols e = cols d := by
 obtain ⟨r, a, h1, _, h3, _⟩ := h.at_ h.good.hd
 show ((e.2.2[0]?).getD []).length = _
 rw [h1]
 exact h3
theorem CanonOk.cell {j c : Nat} {s : Int} (hj : sts[j]? = some s) (hc : c < Go.Proofs.YtocbkccchnbmaaaGreat.cols d) : CellOk d sts (dto d s c) (dto e j c) := by
 obtain ⟨r, a, h1, _, _, _, h3⟩ := h.at_ hj
 obtain ⟨y, h4, h5⟩ := h3 c hc
 have : dto e j c = y := by
  unfold dto
  rw [if_neg (by omega), Int.toNat_natCast, h1, Option.getD_some, Int.toNat_natCast, h4]
  rfl
 rw [this]
 exact h5
theorem CanonOk.val (hv : Valid d) : ∀ {l : List Int}, WOk d l → ∀ {j : Nat} {s : Int}, sts[j]? = some s → dval e j l = dval d s l
 | [], _, j, s, hj => by
  obtain ⟨r, a, _, h2, _, h4, _⟩ := h.at_ hj
  show dat e j = dat d s
  unfold dat at *
  rw [if_neg (by omega), Int.toNat_natCast, h2, Option.getD_some]
  exact h4
 | c :: l, hl, j, s, hj => by
  have hc := hl.head
  obtain ⟨k, rfl⟩ : ∃ k : Nat, c = (k : Int) := ⟨c.toNat, by omega⟩
  rw [dval_cons, dval_cons]
  rcases h.cell hj (c := k) (by omega) with ⟨h1, h2⟩ | ⟨h1, m, u, h2, h3, h4⟩
  ·
   rw [h2, dval_neg (by omega), dead_val hv h1 hl.tail]
  ·
   rw [h2, CanonOk.val hv hl.tail h3]
   exact (h4 l hl.tail).symm
theorem CanonOk.valid (hv : Valid d) : Valid e := by
 have hp := h.pos
 have hlen := h.good.len
 have hn2 := hv.n2
 have hlr := h.lr
 have hla := h.la
 refine ⟨by omega, by omega, by omega, by rw [h.cols]; exact hv.c1, by rw [h.cols]; exact hv.c2, ?_, by rw [h.st]; omega, ?_⟩
 ·
  intro r hr
  obtain ⟨j, hj, rfl⟩ := List.mem_iff_getElem.1 hr
  obtain ⟨k1, k2⟩ := h.row j _ _ (List.getElem?_eq_getElem hj) (List.getElem?_eq_getElem (show j < sts.length by omega))
  rw [h.cols]
  refine ⟨k1, fun x hx => ?_⟩
  obtain ⟨c, hc, rfl⟩ := List.mem_iff_getElem.1 hx
  rcases k2 c _ (List.getElem?_eq_getElem hc) with ⟨_, h2⟩ | ⟨_, m, u, h2, h3, _⟩
  ·
   rw [h2]; omega
  ·
   have := (List.getElem?_eq_some_iff.1 h3).1
   rw [h2]; omega
 ·
  intro x hx
  obtain ⟨j, hj, rfl⟩ := List.mem_iff_getElem.1 hx
  rw [h.acc j _ _ (List.getElem?_eq_getElem hj) (List.getElem?_eq_getElem (show j < sts.length by omega))]
  exact dat_ge hv _
end
theorem canon_dead (hl : ¬ LiveP d d.1) : canonD d = (0, [-1], [List.replicate (cols d) (-1)]) := by
 unfold canonD
 rw [if_neg hl]
theorem canon_cols (hv : Valid d) : cols (canonD d) = cols d := by
 by_cases hl : LiveP d d.1
 ·
  exact (canon_live hv hl).cols
 ·
  rw [canon_dead hl]
  simp [cols]
theorem canon_valid (hv : Valid d) : Valid (canonD d) := by
 by_cases hl : LiveP d d.1
 ·
  exact (canon_live hv hl).valid hv
 ·
  have hc := canon_cols hv
  have h1 := hv.c1
  have h2 := hv.c2
  rw [← hc] at h1 h2
  rw [canon_dead hl] at hc h1 h2 ⊢
  refine ⟨by simp, by simp, by simp, h1, h2, ?_, by simp, by simp⟩
  intro r hr
  obtain rfl := List.mem_singleton.1 hr
  rw [hc]
  refine ⟨by simp, fun x hx => ?_⟩
  obtain ⟨_, rfl⟩ := List.mem_replicate.1 hx
  simp
theorem canon_le (hv : Valid d) : (canonD d).2.2.length ≤ d.2.2.length := by
 by_cases hl : LiveP d d.1
 ·
  have h := canon_live hv hl
  rw [h.lr]
  exact h.good.len
 ·
  rw [canon_dead hl]
  exact hv.n1
theorem canon_start (hv : Valid d) : (canonD d).1 = 0 := by
 by_cases hl : LiveP d d.1
 ·
  exact (canon_live hv hl).st
 ·
  rw [canon_dead hl]
theorem canon_val (hv : Valid d) {l : List Int} (hw : WOk d l) : dval (canonD d) (canonD d).1 l = dval d d.1 l := by
 by_cases hl : LiveP d d.1
 ·
  have h := canon_live hv hl
  rw [h.st]
  exact h.val hv hw (j := 0) h.good.hd
 ·
  rw [dead_val hv hl hw, canon_dead hl]
  cases l with
  | nil => rfl
  | cons c l =>
   rw [dval_cons]
   refine (congrArg (fun s => dval _ s l) (show dto _ 0 c = -1 from ?_)).trans (dval_neg (by omega) l)
   have hc := hw.head
   unfold dto
   rw [if_neg (by omega)]
   show ((List.replicate (cols d) (-1 : Int))[c.toNat]?).getD 0 = -1
   rw [List.getElem?_replicate, if_pos (by omega)]
   rfl
theorem canon_accept (hv : Valid d) {l : List Int} (hw : WOk d l) : daccept (canonD d) l = daccept d l := by
 show decide (0 ≤ dval (canonD d) (canonD d).1 l) = decide (0 ≤ dval d d.1 l)
 rw [canon_val hv hw]
inductive F2 (X : Int → Int → Prop) : List Int → List Int → Prop
 | nil : F2 X [] []
 | cons {a b : Int} {l m : List Int} : X a b → F2 X l m → F2 X (a :: l) (b :: m)
theorem F2.len {X : Int → Int → Prop} : ∀ {l m : List Int}, F2 X l m → l.length = m.length
 | _, _, .nil => rfl
 | _, _, .cons _ h => by simp [F2.len h]
theorem F2.snoc {X : Int → Int → Prop} {a b : Int} (hab : X a b) : ∀ {l m : List Int}, F2 X l m → F2 X (l ++ [a]) (m ++ [b])
 | _, _, .nil => .cons hab .nil
 | _, _, .cons h1 h => .cons h1 (F2.snoc hab h)
theorem F2.get {X : Int → Int → Prop} : ∀ {l m : List Int}, F2 X l m → ∀ (i : Nat), (l[i]? = none ∧ m[i]? = none) ∨ ∃ a b, l[i]? = some a ∧ m[i]? = some b ∧ X a b
 | _, _, .nil, i => .inl ⟨by simp, by simp⟩
 | _, _, .cons h _, 0 => .inr ⟨_, _, rfl, rfl, h⟩
 | _, _, .cons _ h, i + 1 => by
  simp only [List.getElem?_cons_succ]
  exact F2.get h i
theorem F2.of {X : Int → Int → Prop} : ∀ {l m : List Int}, l.length = m.length → (∀ (i : Nat) (a b : Int), l[i]? = some a → m[i]? = some b → X a b) → F2 X l m
 | [], [], _, _ => .nil
 | [], _ :: _, h, _ => by simp at h
 | _ :: _, [], h, _ => by simp at h
 | a :: l, b :: m, h, hX => .cons (hX 0 a b rfl rfl) (F2.of (by simpa using h) fun i x y h1 h2 => hX (i + 1) x y (by simpa using h1) (by simpa using h2))
def Alike2 (d e : DfaD) (s u : Int) : Prop := ∀ l, WOk d l → dval d s l = dval e u l
section
variable (hc : cols d = cols e)
include hc
theorem Alike2.wok {l : List Int} : WOk d l ↔ WOk e l := by unfold WOk; rw [hc]
theorem Alike2.live {s u : Int} (h : Alike2 d e s u) : LiveP d s ↔ LiveP e u := by
 constructor
 ·
  rintro ⟨l, h1, h2⟩; exact ⟨l, (Alike2.wok hc).1 h1, by rw [← h l h1]; exact h2⟩
 ·
  rintro ⟨l, h1, h2⟩; exact ⟨l, (Alike2.wok hc).2 h1, by rw [h l ((Alike2.wok hc).2 h1)]; exact h2⟩
theorem Alike2.eqv {s u s' u' : Int} (h : Alike2 d e s u) (h' : Alike2 d e s' u') : EqvP d s s' ↔ EqvP e u u' := by
 constructor
 ·
  intro k l hl
  have hl := (Alike2.wok hc).2 hl
  rw [← h l hl, ← h' l hl]; exact k l hl
 ·
  intro k l hl
  rw [h l hl, h' l hl]; exact k l ((Alike2.wok hc).1 hl)
theorem uniq_idx {t t' : Int} (ht : Alike2 d e t t') : ∀ {sts sts' : List Int}, F2 (Alike2 d e) sts sts' → clsIdx d sts t = clsIdx e sts' t'
 | _, _, .nil => rfl
 | _, _, .cons (a := a) (b := b) (l := l) (m := m) h h2 => by
  have ih := uniq_idx ht h2
  unfold clsIdx at ih ⊢
  rw [List.findIdx_cons, List.findIdx_cons, ih]
  have := ht.eqv hc h
  by_cases he : EqvP d t a
  ·
   simp [he, this.1 he]
  ·
   have he' : ¬ EqvP e t' b := fun h => he (this.2 h)
   simp [he, he']
theorem uniq_row : ∀ {row row' : List Int}, F2 (Alike2 d e) row row' → ∀ {sts sts' r : List Int}, F2 (Alike2 d e) sts sts' →
    (row.foldl (fun a t => (a.1 ++ [numC d a.2 t], addC d a.2 t)) (r, sts)).1 = (row'.foldl (fun a t => (a.1 ++ [numC e a.2 t], addC e a.2 t)) (r, sts')).1 ∧
     F2 (Alike2 d e) (row.foldl (fun a t => (a.1 ++ [numC d a.2 t], addC d a.2 t)) (r, sts)).2 (row'.foldl (fun a t => (a.1 ++ [numC e a.2 t], addC e a.2 t)) (r, sts')).2
 | _, _, .nil, _, _, _, h => ⟨rfl, h⟩
 | _, _, .cons (a := t) (b := t') ht h2, sts, sts', r, h => by
  rw [List.foldl_cons, List.foldl_cons]
  have hi := uniq_idx hc ht h
  have hl := ht.live hc
  have hn : numC d sts t = numC e sts' t' := by
   unfold numC
   by_cases k : LiveP d t
   ·
    rw [if_pos k, if_pos (hl.1 k), hi]
   ·
    rw [if_neg k, if_neg (fun h => k (hl.2 h))]
  have ha : F2 (Alike2 d e) (addC d sts t) (addC e sts' t') := by
   unfold addC
   rw [← hi, ← h.len]
   by_cases k : LiveP d t ∧ clsIdx d sts t = sts.length
   ·
    rw [if_pos k, if_pos ⟨hl.1 k.1, k.2⟩]
    exact h.snoc ht
   ·
    rw [if_neg k, if_neg (fun h => k ⟨hl.2 h.1, h.2⟩)]
    exact h
  dsimp only
  rw [hn]
  exact uniq_row h2 ha
theorem uniq_iter (hv : Valid d) (he : Valid e) (hl : LiveP d d.1) (hs : Alike2 d e d.1 e.1) : ∀ i, F2 (Alike2 d e) (cIter d i).sts (cIter e i).sts ∧ (cIter d i).rows = (cIter e i).rows ∧ (cIter d i).acc = (cIter e i).acc
 | 0 => ⟨.cons hs .nil, rfl, rfl⟩
 | i + 1 => by
  obtain ⟨h1, h2, h3⟩ := uniq_iter hv he hl hs i
  show F2 _ (cStep d i (cIter d i)).sts (cStep e i (cIter e i)).sts ∧ (cStep d i (cIter d i)).rows = (cStep e i (cIter e i)).rows ∧ (cStep d i (cIter d i)).acc = (cStep e i (cIter e i)).acc
  unfold cStep
  rcases h1.get i with ⟨k1, k2⟩ | ⟨s, u, k1, k2, k3⟩
  ·
   rw [k1, k2]
   exact ⟨h1, h2, h3⟩
  ·
   rw [k1, k2]
   have g1 := (cIter_inv hv hl i).good.ok s (List.mem_of_getElem? k1)
   have g2 := (cIter_inv he ((hs.live hc).1 hl) i).good.ok u (List.mem_of_getElem? k2)
   obtain ⟨r1, _, r3⟩ := row_to hv ⟨g1.2.nonneg, g1.1⟩
   obtain ⟨q1, _, q3⟩ := row_to he ⟨g2.2.nonneg, g2.1⟩
   have hrow : F2 (Alike2 d e) ((d.2.2[s.toNat]?).getD []) ((e.2.2[u.toNat]?).getD []) := by
    refine F2.of (by rw [r1, q1, hc]) fun c a b ha hb => ?_
    have hlt : c < cols d := by have := (List.getElem?_eq_some_iff.1 ha).1; omega
    rw [r3 c hlt] at ha
    rw [q3 c (by omega)] at hb
    injection ha with ha
    injection hb with hb
    subst ha
    subst hb
    exact fun l hw => k3 (c :: l) (hw.cons ⟨by omega, by omega⟩)
   obtain ⟨p1, p2⟩ := uniq_row hc hrow (r := []) h1
   refine ⟨p2, ?_, ?_⟩
   ·
    dsimp only
    rw [h2]
    exact congrArg (fun r => _ ++ [r]) p1
   ·
    dsimp only
    rw [h3, show dat d s = dat e u from k3 [] .nil]
end
theorem canon_uniq (hc : cols d = cols e) (hv : Valid d) (he : Valid e) (hs : ∀ l, WOk d l → dval d d.1 l = dval e e.1 l) : canonD d = canonD e := by
 have hs' : Alike2 d e d.1 e.1 := hs
 by_cases hl : LiveP d d.1
 ·
  have hl' := (hs'.live hc).1 hl
  have e1 : cIter d d.2.2.length = cIter d (d.2.2.length + e.2.2.length) := (cIter_stable (cIter_inv hv hl _).good.len _).symm
  have e2 : cIter e e.2.2.length = cIter e (d.2.2.length + e.2.2.length) := by rw [Nat.add_comm]; exact (cIter_stable (cIter_inv he hl' _).good.len _).symm
  obtain ⟨_, h2, h3⟩ := uniq_iter hc hv he hl hs' (d.2.2.length + e.2.2.length)
  unfold canonD
  rw [if_pos hl, if_pos hl', e1, e2, h2, h3]
 ·
  rw [canon_dead hl, canon_dead (fun h => hl ((hs'.live hc).2 h)), hc]
end
end Go.Proofs.YtocbkccchnbmaaaGreat
namespace Go.Proofs.YtocbkccchnbmaaaGreat
open Go.RowKit
set_option maxHeartbeats 1000000 in
theorem mul1 (w : World) (y : Int) (hy : 0 ≤ y ∧ y ≤ 16) : Calls Tryz.prog 33 #[.int .u64 1, .int .u64 y] w fun e w' => e = .returned (.tuple #[.int .u64 0, .int .u64 y]) ∧ w = w' := by
 have : y = 0 ∨ y = 1 ∨ y = 2 ∨ y = 3 ∨ y = 4 ∨ y = 5 ∨ y = 6 ∨ y = 7 ∨ y = 8 ∨ y = 9 ∨ y = 10 ∨ y = 11 ∨ y = 12 ∨ y = 13 ∨ y = 14 ∨ y = 15 ∨ y = 16 := by omega
 clear hy
 rcases this with rfl | rfl | rfl | rfl | rfl | rfl | rfl | rfl | rfl | rfl | rfl | rfl | rfl | rfl | rfl | rfl | rfl
 all_goals
  go_enter Tryz.func33, Tryz.ntmps33
  go_wp2_with go_in
  go_ret2
  exact ⟨rfl, rfl⟩
def repRow (v : Value) (k c : Nat) : List Value := List.replicate k v ++ List.replicate (c - k) (.int .i64 0)
theorem repRow_step (v : Value) (k c m : Nat) (hk : k + m ≤ c) : (repRow v k c).take k ++ List.replicate m v ++ (repRow v k c).drop (k + m) = repRow v (k + m) c := by
 unfold repRow
 rw [List.take_left' (by simp), List.drop_append, List.drop_of_length_le (by simp), List.length_replicate, List.nil_append, ← List.replicate_append_replicate (n := k)]
 congr 1
 rw [List.drop_replicate]
 congr 1
 omega
set_option maxRecDepth 100000 in
set_option maxHeartbeats 2000000 in
theorem repeatInt (w : World) (b : Nat) (v : Int) (c : Nat) (hc : 1 ≤ c) (hc2 : c ≤ 16) (hcell : w.cell? ⟨b, 0, none⟩ = some (.int .i64 v)) :
    Calls Tryz.prog 11 #[.slice (some ⟨b, 0, none⟩) 1 1, .int .i64 c] w fun e w' => ∃ u, e = .returned u ∧ Own w' w.heap.size 3 1 u c ((List.replicate c v).map (Value.int .i64)) ∧ Below w.heap.size w w' := by
 have hmk := tInts.make rfl c (by omega) (by omega) w
 have hmade : madeCells #[Value.int .i64 0] c = (repRow (.int .i64 v) 0 c).toArray := by
  apply Array.ext'
  rw [toList_madeCells_one]
  simp [repRow]
 rw [hmade] at hmk
 have hcp : ∀ ty, (Builtin.copy_ #[22, 22] ty #[.slice (some ⟨w.heap.size, 0, none⟩) c c, .slice (some ⟨b, 0, none⟩) 1 1]).run Tryz.prog (w.alloc (.cells (repRow (.int .i64 v) 0 c).toArray 3)) = .ok (goInt 1) ((w.alloc (.cells (repRow (.int .i64 v) 0 c).toArray 3)).setRow w.heap.size (repRow (.int .i64 v) 1 c).toArray) := by
  intro ty
  have h := run_copy_row Tryz.prog (w.alloc (.cells (repRow (.int .i64 v) 0 c).toArray 3)) 22 22 ty 3 w.heap.size 0 c c ⟨b, 0, none⟩ 1 1 (repRow (.int .i64 v) 0 c).toArray 3 [.int .i64 v] Tryz.underlying22 (by kernel_rfl) (heap_alloc_new w _) (by show 1 = min 1 c; omega)
   (fun j u hu => by
    cases j with
    | zero => obtain rfl : Value.int .i64 v = u := by simpa using hu
              rw [show (⟨b, 0, none⟩ : Addr).add 0 = ⟨b, 0, none⟩ from rfl, World.cell?_alloc_lt _ _ _ (cell_lt hcell)]
              exact hcell
    | succ j => simp at hu) (by simp [repRow]; omega) (by intro u hu; obtain rfl := List.mem_singleton.1 hu; rfl)
  rw [h]
  have := repRow_step (.int .i64 v) 0 c 1 (by omega)
  simp only [List.replicate_one] at this
  simp only [List.length_cons, List.length_nil, Nat.zero_add] at this ⊢
  rw [this]
  rfl
 have HCELL := Lib.hid hcell
 clear hcell hmade
 go_enter Tryz.func11, Tryz.ntmps11
 go_wp2_with (go_at_call 33; refine (mul1 _ _ ⟨by omega, by omega⟩).mono ?_; rintro e w' ⟨rfl, rfl⟩)
 have hst0 : ((w.alloc (.cells (repRow (.int .i64 v) 0 c).toArray 3)).setRow w.heap.size (repRow (.int .i64 v) 1 c).toArray).heap[w.heap.size]? = some (.cells (repRow (.int .i64 v) 1 c).toArray 3 (0, 0)) := setRow_heap _ _ _ _ _ _ (heap_alloc_new w _)
 have hb0 : Below w.heap.size w ((w.alloc (.cells (repRow (.int .i64 v) 0 c).toArray 3)).setRow w.heap.size (repRow (.int .i64 v) 1 c).toArray) := below_setRow ((Below.refl _ _).alloc (Nat.le_refl _) _) (Nat.le_refl _) _
 have HST0 := Lib.hid hst0
 have HB0 := Lib.hid hb0
 clear hst0 hb0 hcp hmk
 go_loopg [8] (c - 1) (fun gk i wr => ∃ k : Nat, 1 ≤ k ∧ k ≤ c ∧ gk = c - k ∧ i = .int .i64 k ∧ wr.heap[w.heap.size]? = some (.cells (repRow (.int .i64 v) k c).toArray 3 (0, 0)) ∧ Below w.heap.size w wr)
 case atStart => exact ⟨1, by omega, by omega, rfl, rfl, HST0.out, HB0.out⟩
 case round =>
  obtain ⟨k, hk1, hk, hgk, rfl, hh, hb⟩ := hrel
  have HGK := Lib.hid hgk
  clear hgk
  have HH := Lib.hid hh
  have HB := Lib.hid hb
  clear HST0 HB0 hb
  by_cases hlt : k < c
  ·
   obtain ⟨m, hm, hm1, hm2⟩ : ∃ m, m = min k (c - k) ∧ 1 ≤ m ∧ k + m ≤ c := ⟨_, rfl, by omega, by omega⟩
   have hcp : ∀ ty, (Builtin.copy_ #[22, 22] ty #[.slice (some ⟨w.heap.size, k, none⟩) (c - k) (c - k), .slice (some ⟨w.heap.size, 0, none⟩) k c]).run Tryz.prog wr.drew = .ok (.int .i64 m) (wr.drew.setRow w.heap.size (repRow (.int .i64 v) (k + m) c).toArray) := by
    intro ty
    have h := run_copy_row Tryz.prog wr.drew 22 22 ty 3 w.heap.size k (c - k) (c - k) ⟨w.heap.size, 0, none⟩ k c (repRow (.int .i64 v) k c).toArray 3 (List.replicate m (.int .i64 v)) Tryz.underlying22 (by kernel_rfl) hh (by simp; exact hm)
     (fun j u hu => by
      obtain ⟨hj, rfl⟩ := List.getElem?_eq_some_iff.1 hu
      rw [List.length_replicate] at hj
      have : wr.drew.cell? ((⟨w.heap.size, 0, none⟩ : Addr).add j) = (repRow (.int .i64 v) k c).toArray[j]? := by
       by_cases h0 : j = 0
       ·
        subst h0; exact cell_of_row wr.drew _ 0 _ _ _ hh
       ·
        have := cell_of_row wr.drew w.heap.size j _ _ _ hh
        simpa [Addr.add, h0] using this
      rw [this]
      simp [repRow, List.getElem?_append, show j < k by omega]) (by simp [repRow]; omega) (by intro u hu; rw [List.eq_of_mem_replicate hu]; rfl)
    rw [h]
    have := repRow_step (.int .i64 v) k c m hm2
    simp only [List.length_replicate] at this ⊢
    rw [this]
    rfl
   have hcut : ∀ u, (Instr.slice 22 (.slice (some ⟨w.heap.size, 0, none⟩) c c) (some (.int .i64 (k : Int))) none none).run Tryz.prog u = .ok (.slice (some ⟨w.heap.size, k, none⟩) (c - k) (c - k)) u := fun u => by
    rw [tInts.ll _ c c (k : Int) (by omega) (by omega) u]
    simp [show ¬ c = k by omega, Addr.add, show ¬ k = 0 by omega]
   have hcut2 := fun u => tInts.hN (some ⟨w.heap.size, 0, none⟩) c c k hk u
   have hwr : IntKind.i64.wrap ((k : Int) + (m : Int)) = (k : Int) + (m : Int) := IntWalk.i64_in _ (by omega)
   clear hh hm
   go_wp2_with fail
   go_region
   go_wp2_with fail
   go_roundg (c - (k + m))
   case rel => exact ⟨k + m, by omega, hm2, rfl, by go_num, setRow_heap _ _ _ _ _ _ HH.out, below_setRow HB.out.drew (Nat.le_refl _) _⟩
   case measure => rw [HGK.out]; omega
  ·
   obtain rfl : k = c := by omega
   clear hh
   go_wp2_with fail
   go_ret
   refine ⟨_, rfl, .inl ⟨by simp, .inr ⟨w.heap.size, k, _, rfl, Nat.le_refl _, HH.out, Nat.le_refl _, by unfold maxLen; omega, by simp [repRow], ?_⟩⟩, HB.out⟩
   simp [repRow]
end Go.Proofs.YtocbkccchnbmaaaGreat
