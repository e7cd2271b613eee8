/- DfaCheck DfaTo CanonPlain -/
import Derived.Test.YtocbkccchnbmaaaGreatAw04
import Derived.Test.YtocbkccchnbmaaaGreatAw06
namespace Go.Proofs.YtocbkccchnbmaaaGreat
open Go.RowKit
def cols (d : DfaD) : Nat := (d.2.2[0]?.getD []).length
structure Valid (d : DfaD) : Prop where
 n1 : 1 ≤ d.2.2.length
 n2 : d.2.2.length ≤ 200
 na : d.2.1.length = d.2.2.length
 c1 : 1 ≤ cols d
 c2 : cols d ≤ 16
 rows : ∀ r ∈ d.2.2, r.length = cols d ∧ ∀ x ∈ r, -1 ≤ x ∧ x < d.2.2.length
 st : 0 ≤ d.1 ∧ d.1 < d.2.2.length
 acc : ∀ x ∈ d.2.1, -1 ≤ x
theorem lmin_ge {l : List Int} (h1 : 1 ≤ l.length) {b : Int} (h : ∀ x ∈ l, b ≤ x) : b ≤ lmin l := by
 cases l with
 | nil => simp at h1
 | cons a r =>
  have ha := h a (by simp)
  have hr : ∀ x ∈ r, b ≤ x := fun x hx => h x (by simp [hx])
  clear h h1
  show b ≤ r.foldl min a
  induction r generalizing a with
  | nil => exact ha
  | cons y r ih => exact ih (min a y) (by have := hr y (by simp); omega) (fun x hx => hr x (by simp [hx]))
theorem lmax_lt {l : List Int} (h1 : 1 ≤ l.length) {b : Int} (h : ∀ x ∈ l, x < b) : lmax l < b := by
 cases l with
 | nil => simp at h1
 | cons a r =>
  have ha := h a (by simp)
  have hr : ∀ x ∈ r, x < b := fun x hx => h x (by simp [hx])
  clear h h1
  show r.foldl max a < b
  induction r generalizing a with
  | nil => exact ha
  | cons y r ih => exact ih (max a y) (by have := hr y (by simp); omega) (fun x hx => hr x (by simp [hx]))
theorem row_at {w : World} {S : Nat → Prop} {N : Option Addr} {n c k : Nat} {rows : List (List Int)} (h : Sl RI w S N n c rows) (hk : k < n) :
    ∃ b off A' m c' r, N = some ⟨b, off, none⟩ ∧ S b ∧ b < w.heap.size ∧ w.cell? ⟨b, off + k, none⟩ = some (.slice A' m c') ∧ rows[k]? = some r ∧ Sl Rep.int w S A' m c' r := by
 obtain ⟨b, off, u, a, e, hS, hx, hok, hc⟩ := h.at_ rfl hk
 obtain ⟨A', m, c', e2, hs⟩ := hok
 injection e2 with e2 _
 subst e2
 exact ⟨b, off, A', m, c', a, e, hS, cell_lt hc, hc, hx, hs⟩
set_option maxRecDepth 100000 in
set_option maxHeartbeats 2000000 in
theorem dfaCheck (w : World) (S : Nat → Prop) (A : Option Addr) (nA cA : Nat) (N : Option Addr) (n cN : Nat) (d : DfaD) (hA : Sl Rep.int w S A nA cA d.2.1) (hN : Sl RI w S N n cN d.2.2) (hv : Valid d) :
    Calls Tryz.prog 43 #[.agg #[.int .i64 d.1, .slice A nA cA, .slice N n cN]] w fun e w' => e = .returned (.int .i64 0) ∧ Below w.heap.size w w' := by
 have e1 := hA.len
 have e2 := hN.len
 rw [hv.na, ← e2] at e1
 subst e1
 have hn1 : 1 ≤ nA := by have := hv.n1; omega
 have hn2 : nA ≤ 200 := by have := hv.n2; omega
 obtain ⟨hs1, hs2⟩ := hv.st
 rw [← e2] at hs2
 have hc1 := hv.c1
 have hc2 := hv.c2
 have hrow : ∀ k : Nat, k < nA → ∃ b off A' c' r, N = some ⟨b, off, none⟩ ∧ b < w.heap.size ∧ w.cell? ⟨b, off + k, none⟩ = some (.slice A' (cols d) c') ∧ Sl Rep.int w S A' (cols d) c' r ∧ 1 ≤ r.length ∧ ∀ x ∈ r, -1 ≤ x ∧ x < nA := by
  intro k hk
  obtain ⟨b, off, A', m, c', r, e, _, hb, hc, hr, hs⟩ := row_at hN hk
  obtain ⟨h1, h2⟩ := hv.rows r (List.mem_of_getElem? hr)
  have := hs.len
  obtain rfl : m = cols d := by omega
  exact ⟨b, off, A', c', r, e, hb, hc, hs, by omega, by rw [e2]; exact h2⟩
 obtain ⟨bN, offN, A0, c0, _, rfl, hbN, hcell0, _⟩ := hrow 0 hn1
 rw [Nat.add_zero] at hcell0
 have hmin := lmin_ge (l := d.2.1) (b := -1) (by rw [hv.na, ← e2]; exact hn1) hv.acc
 have HROW := Lib.hid hrow
 have HA := Lib.hid hA
 clear e2 hv hrow hA hN
 obtain ⟨start, acc, rows⟩ := d
 dsimp only at *
 generalize cols (start, acc, rows) = C at *
 have hne : ((nA : Int) == 0) = false := by simp; omega
 have hce : ((C : Int) == 0) = false := by simp; omega
 go_enter Tryz.func43, Tryz.ntmps43
 go_wp2_with fail
 go_loop [35] (fun i => ∃ k : Nat, k ≤ nA ∧ i = .int .i64 k) (fun i => nA - (intOf i).toNat)
 case atStart => exact ⟨0, Nat.zero_le _, rfl⟩
 case round =>
  obtain ⟨k, hk, rfl⟩ := hrel
  by_cases hlt : k < nA
  ·
   obtain ⟨b', off', A', c', r, e, _, hcell, hsr, _⟩ := HROW.out k hlt
   injection e with e
   injection e with e1 e2
   subst e1
   subst e2
   clear hsr
   go_wp2_with fail
   go_round
   case rel => exact ⟨k + 1, by omega, by go_num⟩
   case measure => simp [intOf]; omega
  ·
   obtain rfl : k = nA := by omega
   have hsb : decide (start < 0) = false := by simp; omega
   have hsb2 : decide ((k : Int) ≤ start) = false := by simp; omega
   have hmb : decide (lmin acc < -1) = false := by simp; omega
   go_wp2_with (go_at_call 69; refine (minInt _ _ _ _ _ _ (HA.out.alloc _).ints (by omega) (by omega)).mono ?_; rintro e w' ⟨rfl, rfl⟩)
   go_loop [6, 71] (fun b i => b = .bool false ∧ ∃ j : Nat, j ≤ k ∧ i = .int .i64 j) (fun _ i => k - (intOf i).toNat)
   case atStart => exact ⟨rfl, 0, Nat.zero_le _, rfl⟩
   case round =>
    obtain ⟨rfl, j, hj, rfl⟩ := hrel
    by_cases hjl : j < k
    ·
     obtain ⟨b', off', A', c', r, e, _, hcell, hsr, hr1, hrx⟩ := HROW.out j hjl
     injection e with e
     injection e with e1 e2
     subst e1
     subst e2
     have hm1 := lmin_ge hr1 (fun x hx => (hrx x hx).1)
     have hm2 := lmax_lt hr1 (fun x hx => (hrx x hx).2)
     have HSR := Lib.hid hsr
     have hb1 : decide (lmin r < -1) = false := by simp; omega
     have hb2 : decide ((k : Int) ≤ lmax r) = false := by simp; omega
     clear hsr hrx
     go_wp2_with (first
      | (go_at_call 69; refine (minInt _ _ _ _ _ _ (HSR.out.alloc _).ints (by omega) (by omega)).mono ?_; rintro e w' ⟨rfl, rfl⟩)
      | (go_at_call 70; refine (maxInt _ _ _ _ _ _ (HSR.out.alloc _).ints (by omega) (by omega)).mono ?_; rintro e w' ⟨rfl, rfl⟩))
     go_round
     case rel => exact ⟨rfl, j + 1, by omega, by go_num⟩
     case measure => simp [intOf]; omega
    ·
     obtain rfl : j = k := by omega
     go_wp2_with fail
     go_ret
     exact ⟨rfl, (Below.refl _ _).alloc (Nat.le_refl _) _⟩
end Go.Proofs.YtocbkccchnbmaaaGreat
namespace Go.Proofs.YtocbkccchnbmaaaGreat
open Go.RowKit
def dto (d : DfaD) (s c : Int) : Int := if s < 0 then -1 else ((d.2.2[s.toNat]?.getD [])[c.toNat]?).getD 0
def dat (d : DfaD) (s : Int) : Int := if s < 0 then -1 else (d.2.1[s.toNat]?).getD 0
def drun (d : DfaD) (l : List Int) : Int := l.foldl (dto d) d.1
def daccept (d : DfaD) (l : List Int) : Bool := decide (0 ≤ dat d (drun d l))
theorem drun_snoc (d : DfaD) (l : List Int) (c : Int) : drun d (l ++ [c]) = dto d (drun d l) c := by simp [drun]
theorem dto_range {d : DfaD} (hv : Valid d) {s c : Int} (hs : -1 ≤ s ∧ s < d.2.2.length) (hc : 0 ≤ c ∧ c < cols d) : -1 ≤ dto d s c ∧ dto d s c < d.2.2.length := by
 unfold dto
 split
 ·
  have := hv.n1; omega
 ·
  have h1 : s.toNat < d.2.2.length := by omega
  rw [List.getElem?_eq_getElem h1]
  obtain ⟨hl, hx⟩ := hv.rows _ (List.getElem_mem h1)
  have h2 : c.toNat < (d.2.2[s.toNat]).length := by omega
  simp only [Option.getD_some, List.getElem?_eq_getElem h2]
  exact hx _ (List.getElem_mem h2)
theorem drun_range {d : DfaD} (hv : Valid d) : ∀ {l : List Int}, (∀ x ∈ l, 0 ≤ x ∧ x < cols d) → ∀ {s : Int}, -1 ≤ s ∧ s < d.2.2.length → -1 ≤ l.foldl (dto d) s ∧ l.foldl (dto d) s < d.2.2.length
 | [], _, _, hs => hs
 | c :: l, h, s, hs => drun_range hv (l := l) (fun x hx => h x (by simp [hx])) (dto_range hv hs (h c (by simp)))
theorem cell_at {w : World} {S : Nat → Prop} {N : Option Addr} {n cN : Nat} {d : DfaD} (hN : Sl RI w S N n cN d.2.2) (hv : Valid d) {s c : Int} (hs : 0 ≤ s ∧ s < d.2.2.length) (hc : 0 ≤ c ∧ c < cols d) :
    ∃ b off b' off' m c', N = some ⟨b, off, none⟩ ∧ w.cell? ⟨b, off + s.toNat, none⟩ = some (.slice (some ⟨b', off', none⟩) m c') ∧ w.cell? ⟨b', off' + c.toNat, none⟩ = some (.int .i64 (dto d s c)) ∧ m = cols d ∧ n = d.2.2.length := by
 have hn := hN.len
 obtain ⟨b, off, A', m, c', r, e, _, _, hc1, hr, hs'⟩ := row_at hN (k := s.toNat) (by omega)
 obtain ⟨hl, _⟩ := hv.rows r (List.mem_of_getElem? hr)
 have hm := hs'.len
 obtain ⟨b', off', x, rfl, _, hx, hc2⟩ := hs'.ints.int_at (k := c.toNat) (by omega)
 refine ⟨b, off, b', off', m, c', e, hc1, ?_, by omega, hn⟩
 have : dto d s c = x := by
  unfold dto
  rw [if_neg (by omega), hr]
  simp [hx]
 rw [this]
 exact hc2
theorem acc_at {w : World} {S : Nat → Prop} {A : Option Addr} {n cA : Nat} {d : DfaD} (hA : Sl Rep.int w S A n cA d.2.1) (hv : Valid d) {s : Int} (hs : 0 ≤ s ∧ s < d.2.2.length) :
    ∃ b off, A = some ⟨b, off, none⟩ ∧ w.cell? ⟨b, off + s.toNat, none⟩ = some (.int .i64 (dat d s)) ∧ n = d.2.2.length := by
 have hn := hA.len
 have hna := hv.na
 obtain ⟨b, off, x, e, _, hx, hc⟩ := hA.ints.int_at (k := s.toNat) (by omega)
 refine ⟨b, off, e, ?_, by omega⟩
 have : dat d s = x := by
  unfold dat
  rw [if_neg (by omega), hx]
  rfl
 rw [this]
 exact hc
end Go.Proofs.YtocbkccchnbmaaaGreat
namespace Go.Proofs.YtocbkccchnbmaaaGreat
theorem pigeonD : ∀ {n : Nat} {l : List Nat}, l.Nodup → (∀ x ∈ l, x < n) → l.length ≤ n
 | 0, [], _, _ => Nat.le_refl _
 | 0, a :: _, _, h => absurd (h a List.mem_cons_self) (by omega)
 | n + 1, l, hd, h => by
  have h1 : (l.erase n).length ≤ n := pigeonD (hd.erase n) fun x hx => by
   have h2 := (hd.mem_erase_iff).1 hx
   have := h x h2.2
   have := h2.1
   omega
  rw [List.length_erase] at h1
  split at h1 <;> omega
def WOk (d : DfaD) (l : List Int) : Prop := ∀ x ∈ l, 0 ≤ x ∧ x < cols d
def dval (d : DfaD) (s : Int) (l : List Int) : Int := dat d (l.foldl (dto d) s)
def LiveP (d : DfaD) (s : Int) : Prop := ∃ l, WOk d l ∧ 0 ≤ dval d s l
def EqvP (d : DfaD) (s t : Int) : Prop := ∀ l, WOk d l → dval d s l = dval d t l
section
variable {d : DfaD}
theorem WOk.nil : WOk d [] := fun x hx => by cases hx
theorem WOk.cons {c : Int} {l : List Int} (hc : 0 ≤ c ∧ c < cols d) (h : WOk d l) : WOk d (c :: l) := fun x hx => by
 rcases List.mem_cons.1 hx with rfl | hx
 ·
  exact hc
 ·
  exact h x hx
theorem WOk.tail {c : Int} {l : List Int} (h : WOk d (c :: l)) : WOk d l := fun x hx => h x (List.mem_cons_of_mem _ hx)
theorem WOk.head {c : Int} {l : List Int} (h : WOk d (c :: l)) : 0 ≤ c ∧ c < cols d := h c List.mem_cons_self
theorem dval_cons (s c : Int) (l : List Int) : dval d s (c :: l) = dval d (dto d s c) l := rfl
theorem dval_neg {s : Int} (hs : s < 0) : ∀ l : List Int, dval d s l = -1
 | [] => by simp [dval, dat, hs]
 | c :: l => by
  rw [dval_cons, show dto d s c = -1 from if_pos hs]
  exact dval_neg (by omega) l
theorem dat_ge (hv : Valid d) (s : Int) : -1 ≤ dat d s := by
 unfold dat
 split
 ·
  omega
 ·
  rcases Nat.lt_or_ge s.toNat d.2.1.length with h | h
  ·
   rw [List.getElem?_eq_getElem h]; exact hv.acc _ (List.getElem_mem h)
  ·
   rw [List.getElem?_eq_none h]; simp
theorem dval_ge (hv : Valid d) (s : Int) (l : List Int) : -1 ≤ dval d s l := dat_ge hv _
theorem dead_val (hv : Valid d) {s : Int} (h : ¬ LiveP d s) {l : List Int} (hl : WOk d l) : dval d s l = -1 := by
 have h1 := dval_ge hv s l
 have h2 : ¬ 0 ≤ dval d s l := fun h' => h ⟨l, hl, h'⟩
 omega
theorem not_live_neg {s : Int} (hs : s < 0) : ¬ LiveP d s := fun ⟨l, _, h⟩ => by rw [dval_neg hs] at h; omega
theorem LiveP.nonneg {s : Int} (h : LiveP d s) : 0 ≤ s := by
 rcases Int.lt_or_le s 0 with h' | h'
 ·
  exact absurd h (not_live_neg h')
 ·
  exact h'
theorem LiveP.of_to {s c : Int} (hc : 0 ≤ c ∧ c < cols d) (h : LiveP d (dto d s c)) : LiveP d s := by
 obtain ⟨l, h1, h2⟩ := h
 exact ⟨c :: l, h1.cons hc, h2⟩
theorem EqvP.refl (s : Int) : EqvP d s s := fun _ _ => rfl
theorem EqvP.symm {s t : Int} (h : EqvP d s t) : EqvP d t s := fun l hl => (h l hl).symm
theorem EqvP.to {s t c : Int} (h : EqvP d s t) (hc : 0 ≤ c ∧ c < cols d) : EqvP d (dto d s c) (dto d t c) := fun l hl => h (c :: l) (hl.cons hc)
theorem EqvP.live {s t : Int} (h : EqvP d s t) : LiveP d s ↔ LiveP d t := by
 constructor
 ·
  rintro ⟨l, h1, h2⟩; exact ⟨l, h1, by rw [← h l h1]; exact h2⟩
 ·
  rintro ⟨l, h1, h2⟩; exact ⟨l, h1, by rw [h l h1]; exact h2⟩
end
section
open Classical
noncomputable def clsIdx (d : DfaD) (sts : List Int) (t : Int) : Nat := sts.findIdx fun u => decide (EqvP d t u)
noncomputable def numC (d : DfaD) (sts : List Int) (t : Int) : Int := if LiveP d t then (clsIdx d sts t : Int) else -1
noncomputable def addC (d : DfaD) (sts : List Int) (t : Int) : List Int := if LiveP d t ∧ clsIdx d sts t = sts.length then sts ++ [t] else sts
noncomputable def rowC (d : DfaD) (sts row : List Int) : List Int × List Int := row.foldl (fun a t => (a.1 ++ [numC d a.2 t], addC d a.2 t)) ([], sts)
structure CSt where
 sts : List Int
 rows : List (List Int)
 acc : List Int
noncomputable def cStep (d : DfaD) (i : Nat) (x : CSt) : CSt :=
 match x.sts[i]? with
 | none => x
 | some s => ⟨(rowC d x.sts (d.2.2[s.toNat]?.getD [])).2, x.rows ++ [(rowC d x.sts (d.2.2[s.toNat]?.getD [])).1], x.acc ++ [dat d s]⟩
noncomputable def cIter (d : DfaD) : Nat → CSt
 | 0 => ⟨[d.1], [], []⟩
 | i + 1 => cStep d i (cIter d i)
noncomputable def canonD (d : DfaD) : DfaD :=
 if LiveP d d.1 then (0, (cIter d d.2.2.length).acc, (cIter d d.2.2.length).rows) else (0, [-1], [List.replicate (cols d) (-1)])
section
variable {d : DfaD}
theorem clsIdx_le (sts : List Int) (t : Int) : clsIdx d sts t ≤ sts.length := List.findIdx_le_length
theorem clsIdx_spec {sts : List Int} {t : Int} (h : clsIdx d sts t < sts.length) : EqvP d t (sts[clsIdx d sts t]'h) := by
 have := List.findIdx_getElem (w := h)
 exact of_decide_eq_true this
theorem clsIdx_none {sts : List Int} {t : Int} (h : clsIdx d sts t = sts.length) : ∀ u ∈ sts, ¬ EqvP d t u := by
 intro u hu he
 have h1 : sts.findIdx (fun u => decide (EqvP d t u)) < sts.length := List.findIdx_lt_length_of_exists ⟨u, hu, by simpa using he⟩
 exact absurd h (Nat.ne_of_lt h1)
structure GoodS (d : DfaD) (sts : List Int) : Prop where
 hd : sts[0]? = some d.1
 ok : ∀ s ∈ sts, s < d.2.2.length ∧ LiveP d s
 nd : ∀ (j k : Nat) (s t : Int), j < k → sts[j]? = some s → sts[k]? = some t → ¬ EqvP d s t
theorem GoodS.len {sts : List Int} (h : GoodS d sts) : sts.length ≤ d.2.2.length := by
 have h1 : (sts.map Int.toNat).Nodup := by
  rw [List.nodup_iff_pairwise_ne, List.pairwise_iff_getElem]
  intro i j hi hj hij e
  simp only [List.length_map] at hi hj
  simp only [List.getElem_map] at e
  have e1 := (h.ok _ (List.getElem_mem hi)).2.nonneg
  have e2 := (h.ok _ (List.getElem_mem hj)).2.nonneg
  have e3 : sts[i] = sts[j] := by omega
  exact h.nd i j _ _ hij (List.getElem?_eq_getElem hi) (List.getElem?_eq_getElem hj) (by rw [e3]; exact .refl _)
 have h2 := pigeonD h1 (n := d.2.2.length) fun x hx => by
  obtain ⟨s, hs, rfl⟩ := List.mem_map.1 hx
  have := h.ok s hs
  have := this.2.nonneg
  omega
 simpa using h2
theorem GoodS.add {sts : List Int} (h : GoodS d sts) {t : Int} (ht : t < d.2.2.length) : GoodS d (addC d sts t) := by
 unfold addC
 split
 ·
  rename_i hc
  obtain ⟨hl, hi⟩ := hc
  have hne : 0 < sts.length := by
   rcases Nat.eq_zero_or_pos sts.length with h0 | h0
   ·
    have := h.hd; rw [List.getElem?_eq_none (by omega)] at this; cases this
   ·
    exact h0
  refine ⟨by rw [List.getElem?_append_left hne]; exact h.hd, ?_, ?_⟩
  ·
   intro s hs
   rcases List.mem_append.1 hs with hs | hs
   ·
    exact h.ok s hs
   ·
    obtain rfl := List.mem_singleton.1 hs
    exact ⟨ht, hl⟩
  ·
   intro j k s u hjk hj hk he
   rcases Nat.lt_or_ge k sts.length with h1 | h1
   ·
    rw [List.getElem?_append_left (by omega)] at hj
    rw [List.getElem?_append_left h1] at hk
    exact h.nd j k s u hjk hj hk he
   ·
    rcases Nat.lt_or_ge k (sts.length + 1) with h2 | h2
    ·
     obtain rfl : k = sts.length := by omega
     rw [List.getElem?_append_left hjk] at hj
     simp at hk
     subst hk
     exact clsIdx_none hi s (List.mem_of_getElem? hj) he.symm
    ·
     rw [List.getElem?_eq_none (by simp; omega)] at hk
     cases hk
 ·
  exact h
theorem addC_pre (sts : List Int) (t : Int) : sts <+: addC d sts t := by
 unfold addC
 split
 ·
  exact List.prefix_append _ _
 ·
  exact List.prefix_rfl
def CellOk (d : DfaD) (sts : List Int) (t x : Int) : Prop := (¬ LiveP d t ∧ x = -1) ∨ (LiveP d t ∧ ∃ (k : Nat) (u : Int), x = (k : Int) ∧ sts[k]? = some u ∧ EqvP d t u)
theorem CellOk.pre {sts sts' : List Int} {t x : Int} (h : CellOk d sts t x) (hp : sts <+: sts') : CellOk d sts' t x := by
 rcases h with h | ⟨h, k, u, h1, h2, h3⟩
 ·
  exact .inl h
 ·
  obtain ⟨r, rfl⟩ := hp
  exact .inr ⟨h, k, u, h1, by rw [List.getElem?_append_left (List.getElem?_eq_some_iff.1 h2).1]; exact h2, h3⟩
theorem numC_ok (sts : List Int) (t : Int) : CellOk d (addC d sts t) t (numC d sts t) := by
 unfold numC addC
 by_cases hl : LiveP d t
 ·
  rw [if_pos hl]
  by_cases hi : clsIdx d sts t = sts.length
  ·
   rw [if_pos ⟨hl, hi⟩]
   exact .inr ⟨hl, _, t, rfl, by rw [hi]; simp, .refl t⟩
  ·
   rw [if_neg (fun h => hi h.2)]
   have hlt : clsIdx d sts t < sts.length := by have := clsIdx_le (d := d) sts t; omega
   exact .inr ⟨hl, _, _, rfl, List.getElem?_eq_getElem hlt, clsIdx_spec hlt⟩
 ·
  rw [if_neg hl, if_neg (fun h => hl h.1)]
  exact .inl ⟨hl, rfl⟩
theorem rowC_snoc (sts row : List Int) (t : Int) : rowC d sts (row ++ [t]) = ((rowC d sts row).1 ++ [numC d (rowC d sts row).2 t], addC d (rowC d sts row).2 t) := by
 simp [rowC, List.foldl_append]
theorem list_snoc_ind {α : Type} {P : List α → Prop} (h0 : P []) (h1 : ∀ l x, P l → P (l ++ [x])) (l : List α) : P l := by
 have h : ∀ k, P (l.take k) := by
  intro k
  induction k with
  | zero => simpa using h0
  | succ k ih =>
   rw [List.take_add_one]
   cases hk : l[k]? with
   | none => simpa using ih
   | some x => exact h1 _ _ ih
 have := h l.length
 rwa [List.take_length] at this
theorem rowC_len (sts row : List Int) : (rowC d sts row).1.length = row.length := by
 refine list_snoc_ind (P := fun row => (rowC d sts row).1.length = row.length) rfl (fun l x ih => ?_) row
 rw [rowC_snoc]; simp [ih]
theorem rowC_pre (sts row : List Int) : sts <+: (rowC d sts row).2 := by
 refine list_snoc_ind (P := fun row => sts <+: (rowC d sts row).2) List.prefix_rfl (fun l x ih => ?_) row
 rw [rowC_snoc]; exact ih.trans (addC_pre _ _)
theorem rowC_good {sts row : List Int} (h : GoodS d sts) : (∀ t ∈ row, t < d.2.2.length) → GoodS d (rowC d sts row).2 := by
 refine list_snoc_ind (P := fun row => (∀ t ∈ row, t < (d.2.2.length : Int)) → GoodS d (rowC d sts row).2) (fun _ => h) (fun l x ih => fun hx => ?_) row
 rw [rowC_snoc]
 exact (ih fun t ht => hx t (by simp [ht])).add (hx x (by simp))
theorem rowC_cell {sts row : List Int} : ∀ (c : Nat) (t : Int), row[c]? = some t → ∃ x, (rowC d sts row).1[c]? = some x ∧ CellOk d (rowC d sts row).2 t x := by
 refine list_snoc_ind (P := fun row => ∀ (c : Nat) (t : Int), row[c]? = some t → ∃ x, (rowC d sts row).1[c]? = some x ∧ CellOk d (rowC d sts row).2 t x) (fun c t h => by simp at h) (fun l x ih => fun c t h => ?_) row
 rw [rowC_snoc]
 rcases Nat.lt_or_ge c l.length with h1 | h1
 ·
  rw [List.getElem?_append_left h1] at h
  obtain ⟨y, h2, h3⟩ := ih c t h
  refine ⟨y, ?_, h3.pre (addC_pre _ _)⟩
  show ((rowC d sts l).1 ++ [_])[c]? = some y
  rw [List.getElem?_append_left (by rw [rowC_len]; exact h1)]
  exact h2
 ·
  rcases Nat.lt_or_ge c (l.length + 1) with h2 | h2
  ·
   obtain rfl : c = l.length := by omega
   simp at h
   subst h
   refine ⟨_, ?_, numC_ok _ _⟩
   show ((rowC d sts l).1 ++ [_])[l.length]? = _
   rw [List.getElem?_append_right (by rw [rowC_len]; exact Nat.le_refl _), rowC_len, Nat.sub_self]
   rfl
  ·
   rw [List.getElem?_eq_none (by simp; omega)] at h
   cases h
structure CInv (d : DfaD) (i : Nat) (x : CSt) : Prop where
 good : GoodS d x.sts
 lr : x.rows.length = min i x.sts.length
 la : x.acc.length = min i x.sts.length
 row : ∀ (j : Nat) (r : List Int) (s : Int), x.rows[j]? = some r → x.sts[j]? = some s → r.length = cols d ∧ ∀ (c : Nat) (y : Int), r[c]? = some y → CellOk d x.sts (dto d s c) y
 acc : ∀ (j : Nat) (a s : Int), x.acc[j]? = some a → x.sts[j]? = some s → a = dat d s
theorem GoodS.start (hv : Valid d) (hl : LiveP d d.1) : GoodS d [d.1] := by
 refine ⟨rfl, ?_, ?_⟩
 ·
  intro s hs
  obtain rfl := List.mem_singleton.1 hs
  exact ⟨hv.st.2, hl⟩
 ·
  intro j k s t hjk hj hk
  rw [List.getElem?_eq_none (by simp; omega)] at hk
  cases hk
theorem row_to (hv : Valid d) {s : Int} (hs : 0 ≤ s ∧ s < d.2.2.length) : ((d.2.2[s.toNat]?).getD []).length = cols d ∧ (∀ t ∈ (d.2.2[s.toNat]?).getD [], -1 ≤ t ∧ t < d.2.2.length) ∧ ∀ (c : Nat), c < cols d → ((d.2.2[s.toNat]?).getD [])[c]? = some (dto d s c) := by
 have h1 : s.toNat < d.2.2.length := by omega
 rw [List.getElem?_eq_getElem h1, Option.getD_some]
 obtain ⟨hl, hx⟩ := hv.rows _ (List.getElem_mem h1)
 refine ⟨hl, hx, fun c hc => ?_⟩
 unfold dto
 rw [if_neg (by omega), List.getElem?_eq_getElem h1, Option.getD_some, Int.toNat_natCast, List.getElem?_eq_getElem (by omega)]
 rfl
theorem CInv.step (hv : Valid d) {i : Nat} {x : CSt} (h : CInv d i x) : CInv d (i + 1) (cStep d i x) := by
 unfold cStep
 cases hs : x.sts[i]? with
 | none =>
  have hi : x.sts.length ≤ i := List.getElem?_eq_none_iff.1 hs
  exact ⟨h.good, by have := h.lr; dsimp only; omega, by have := h.la; dsimp only; omega, h.row, h.acc⟩
 | some s =>
  have hi : i < x.sts.length := (List.getElem?_eq_some_iff.1 hs).1
  have hok := h.good.ok s (List.mem_of_getElem? hs)
  obtain ⟨r1, r2, r3⟩ := row_to hv ⟨hok.2.nonneg, hok.1⟩
  have hp := rowC_pre (d := d) x.sts ((d.2.2[s.toNat]?).getD [])
  have hlr := h.lr
  have hla := h.la
  have hle := hp.length_le
  have hat : ∀ {j : Nat} {u : Int}, j ≤ i → (rowC d x.sts ((d.2.2[s.toNat]?).getD [])).2[j]? = some u → x.sts[j]? = some u := by
   intro j u hj hu
   obtain ⟨q, hq⟩ := hp
   rw [← hq, List.getElem?_append_left (by omega)] at hu
   exact hu
  refine ⟨rowC_good h.good (fun t ht => (r2 t ht).2), by simp; omega, by simp; omega, ?_, ?_⟩
  ·
   intro j r u hr hu
   dsimp only at hr hu ⊢
   rcases Nat.lt_or_ge j x.rows.length with h1 | h1
   ·
    rw [List.getElem?_append_left h1] at hr
    obtain ⟨k1, k2⟩ := h.row j r u hr (hat (by omega) hu)
    exact ⟨k1, fun c y hy => (k2 c y hy).pre hp⟩
   ·
    rcases Nat.lt_or_ge j (x.rows.length + 1) with h2 | h2
    ·
     obtain rfl : j = x.rows.length := by omega
     simp at hr
     subst hr
     have e : x.rows.length = i := by omega
     rw [e] at hu
     have hu := hat (Nat.le_refl _) hu
     rw [hs] at hu
     injection hu with hu
     subst hu
     refine ⟨by rw [rowC_len]; exact r1, fun c y hy => ?_⟩
     have hc : c < cols d := by have := (List.getElem?_eq_some_iff.1 hy).1; rw [rowC_len, r1] at this; exact this
     obtain ⟨y', e1, e2⟩ := rowC_cell (sts := x.sts) c _ (r3 c hc)
     rw [hy] at e1
     injection e1 with e1
     subst e1
     exact e2
    ·
     rw [List.getElem?_eq_none (by simp; omega)] at hr
     cases hr
  ·
   intro j a u ha hu
   dsimp only at ha hu
   rcases Nat.lt_or_ge j x.acc.length with h1 | h1
   ·
    rw [List.getElem?_append_left h1] at ha
    exact h.acc j a u ha (hat (by omega) hu)
   ·
    rcases Nat.lt_or_ge j (x.acc.length + 1) with h2 | h2
    ·
     obtain rfl : j = x.acc.length := by omega
     simp at ha
     subst ha
     have e : x.acc.length = i := by omega
     rw [e] at hu
     have hu := hat (Nat.le_refl _) hu
     rw [hs] at hu
     injection hu with hu
     rw [hu]
    ·
     rw [List.getElem?_eq_none (by simp; omega)] at ha
     cases ha
theorem cIter_inv (hv : Valid d) (hl : LiveP d d.1) : ∀ i, CInv d i (cIter d i)
 | 0 => ⟨GoodS.start hv hl, by simp [cIter], by simp [cIter], fun j r s h => by simp [cIter] at h, fun j a s h => by simp [cIter] at h⟩
 | i + 1 => (cIter_inv hv hl i).step hv
theorem cStep_none {i : Nat} {x : CSt} (h : x.sts.length ≤ i) : cStep d i x = x := by
 unfold cStep
 rw [List.getElem?_eq_none h]
theorem cIter_stable {i : Nat} (h : (cIter d i).sts.length ≤ i) : ∀ j, cIter d (i + j) = cIter d i
 | 0 => rfl
 | j + 1 => by
  show cStep d (i + j) (cIter d (i + j)) = _
  rw [cIter_stable h j]
  exact cStep_none (by omega)
theorem cIter_end (hv : Valid d) (hl : LiveP d d.1) {i : Nat} (h : (cIter d i).sts.length = i) : cIter d d.2.2.length = cIter d i := by
 have h1 := (cIter_inv hv hl i).good.len
 obtain ⟨j, hj⟩ : ∃ j, d.2.2.length = i + j := ⟨d.2.2.length - i, by omega⟩
 rw [hj]
 exact cIter_stable (Nat.le_of_eq h) j
end
end
end Go.Proofs.YtocbkccchnbmaaaGreat
