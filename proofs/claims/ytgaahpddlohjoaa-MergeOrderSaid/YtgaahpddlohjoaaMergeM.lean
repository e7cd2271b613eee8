/- machine.merge: two states become one, and those that follow. -/
import Derived.Test.YtgaahpddlohjoaaMach
import Derived.Test.YtgaahpddlohjoaaLate
import Derived.Laws.BitsAll
import Derived.Lib.MinMax
import Derived.Deep.LoopGhost
import Derived.Deep.CutBlock
import Derived.BigQuiet
import Derived.Deep.QuietTactic
namespace Go.Proofs.Ytgaahpddlohjoaa
open Go.RowKit

theorem quiet_leftM {P : Program} {f : FuncId} {args : Array Value} {w : World} {n : Nat} {v : Value}
    (h : Calls P f args (w.drewN n) fun e w' => e = .returned v ∧ w.drewN n = w') : Calls P f args (w.drewN n) fun e w'' => e = .returned v ∧ ∃ m, w'' = w.drewN m :=
  h.mono fun _ _ ⟨he, hm⟩ => ⟨he, n, hm.symm⟩
theorem or_nat {x y : Nat} (hx : x < 4) (hy : y < 4) : bits .or .i64 (x : Int) (y : Int) = ((x ||| y : Nat) : Int) := by
  have h1 : x = 0 ∨ x = 1 ∨ x = 2 ∨ x = 3 := by omega
  have h2 : y = 0 ∨ y = 1 ∨ y = 2 ∨ y = 3 := by omega
  rcases h1 with rfl | rfl | rfl | rfl <;> rcases h2 with rfl | rfl | rfl | rfl <;> decide +kernel
/-- states that are their own -/
def rootsP (l : List Nat) : Nat := ((List.range l.length).filter fun s => up l s = s).length
theorem rootsP_le (l : List Nat) : rootsP l ≤ l.length := by
  unfold rootsP
  have := List.length_filter_le (fun s => decide (up l s = s)) (List.range l.length)
  rwa [List.length_range] at this
theorem filter_len_lt {α : Type} {p q : α → Bool} (hpq : ∀ x, q x = true → p x = true) {b : α} (hb : p b = true) (hq : q b = false) : ∀ {l : List α}, b ∈ l → (l.filter q).length + 1 ≤ (l.filter p).length
  | [], h => by cases h
  | x :: l, h => by
    have hle : ∀ m : List α, (m.filter q).length ≤ (m.filter p).length := fun m => by
      induction m with
      | nil => exact Nat.le_refl _
      | cons y m ih =>
        rw [List.filter_cons, List.filter_cons]
        by_cases h1 : q y = true
        · rw [if_pos h1, if_pos (hpq y h1)]; simp only [List.length_cons]; omega
        · rw [if_neg h1]
          split
          · simp only [List.length_cons]; omega
          · exact ih
    rcases List.mem_cons.1 h with e | e
    · subst e
      rw [List.filter_cons, List.filter_cons, if_neg (by rw [hq]; decide), if_pos hb]
      have := hle l
      simp only [List.length_cons]; omega
    · have ih := filter_len_lt hpq hb hq e
      rw [List.filter_cons, List.filter_cons]
      by_cases h1 : q x = true
      · rw [if_pos h1, if_pos (hpq x h1)]; simp only [List.length_cons]; omega
      · rw [if_neg h1]
        split
        · simp only [List.length_cons]; omega
        · exact ih
theorem rootsP_set {l : List Nat} {a b : Nat} (hb : b < l.length) (hab : a < b) (hr : up l b = b) : rootsP (l.set b a) + 1 ≤ rootsP l := by
  unfold rootsP
  rw [List.length_set]
  refine filter_len_lt (b := b) (fun x hx => ?_) (by simp [hr]) (by rw [up_set hb, if_pos rfl]; simp; omega) (List.mem_range.2 hb)
  have h := of_decide_eq_true hx
  rw [up_set hb] at h
  split at h
  · omega
  · simp [h]
/-- the row of the earlier state after c columns -/
def joinAt (ra rb : List Int) (c : Nat) : List Int := (joinRow ra rb).take c ++ ra.drop c
theorem joinAt_zero (ra rb : List Int) : joinAt ra rb 0 = ra := by simp [joinAt]
theorem joinAt_full {ra rb : List Int} (h : ra.length = rb.length) : joinAt ra rb ra.length = joinRow ra rb := by
  unfold joinAt
  rw [List.drop_length, List.append_nil, List.take_of_length_le (by unfold joinRow; rw [List.length_zipWith]; omega)]
theorem joinRow_len {ra rb : List Int} (h : ra.length = rb.length) : (joinRow ra rb).length = ra.length := by unfold joinRow; rw [List.length_zipWith]; omega
theorem joinAt_get {ra rb : List Int} (h : ra.length = rb.length) {c : Nat} {x : Int} (hx : ra[c]? = some x) : (joinAt ra rb c)[c]? = some x := by
  have hc := (List.getElem?_eq_some_iff.1 hx).1
  unfold joinAt
  rw [List.getElem?_append_right (by rw [List.length_take]; omega), List.length_take, joinRow_len h, Nat.min_eq_left (by omega), Nat.sub_self, List.getElem?_drop, Nat.add_zero]
  exact hx
theorem joinAt_step {ra rb : List Int} (h : ra.length = rb.length) {c : Nat} {x y : Int} (hx : ra[c]? = some x) (hy : rb[c]? = some y) : (joinAt ra rb c).set c (joinC x y) = joinAt ra rb (c + 1) := by
  obtain ⟨hc, hx'⟩ := List.getElem?_eq_some_iff.1 hx
  have hj := joinRow_get hx hy
  have hl := joinRow_len h
  have h1 : (joinRow ra rb).take (c + 1) = (joinRow ra rb).take c ++ [joinC x y] := by
    obtain ⟨hk, e⟩ := List.getElem?_eq_some_iff.1 hj
    rw [← e]
    exact List.take_succ_eq_append_getElem hk
  unfold joinAt
  rw [h1, List.drop_eq_getElem_cons hc, List.set_append_right _ _ (by rw [List.length_take]; omega), List.length_take, hl, Nat.min_eq_left (by omega), Nat.sub_self, List.set_cons_zero, List.append_assoc]
  rfl
theorem joinAt_same {ra rb : List Int} (h : ra.length = rb.length) {c : Nat} {x y : Int} (hx : ra[c]? = some x) (hy : rb[c]? = some y) (he : joinC x y = x) : joinAt ra rb (c + 1) = joinAt ra rb c := by
  rw [← joinAt_step h hx hy, he]
  have hg := joinAt_get h hx
  obtain ⟨hc, e⟩ := List.getElem?_eq_some_iff.1 hg
  rw [← e]
  exact List.set_getElem_self hc
theorem MM.setRow_self {T : Nat} {m : MM} (h : m.Ok T) {a : Nat} (ha : a < m.into.length) : m.setRow a (m.row a) = m := by
  have h1 := (h.rowAt ha).1
  obtain ⟨hl, e⟩ := List.getElem?_eq_some_iff.1 h1
  unfold MM.setRow
  rw [← e, List.set_getElem_self]
theorem MM.setRow_setRow (m : MM) (a : Nat) (r r' : List Int) : (m.setRow a r).setRow a r' = m.setRow a r' := by
  unfold MM.setRow
  dsimp only
  rw [List.set_set]
/-- how far the merge has come -/
structure MgSt (w : World) (lo base Bm : Nat) (ad : Adr) (T n : Nat) (m0 : MM) (W0 : List (Nat × Nat)) (m : MM) (W : List (Nat × Nat)) (v : Value) (wr : World) : Prop where
  mach : Mach wr Bm ad T m
  len : m.into.length = n
  q : QP wr base v W
  wlt : WLt n W
  back : ∀ r, MRun W m r → MRun W0 m0 r
  bel : Below lo w wr
  size : base ≤ wr.heap.size
structure MgLow (lo base Bm : Nat) (ad : Adr) (n : Nat) : Prop where
  lb : lo ≤ base
  fr : ad.From Bm n lo
  b : Bm < base
  i : ad.I < base
  n_ : ad.N < base
  m : ad.M < base
  g : ∀ i, i < n → ad.g i < base
theorem MgLow.mach {lo base Bm T : Nat} {ad : Adr} {m : MM} {w w' : World} {q : Value} (h : MgLow lo base Bm ad m.into.length) (hm : Mach w Bm ad T m) (hq : ∃ g, qpBlk q = some g ∧ base ≤ g) (hg : w.grownBy w' (qpBlk q)) (hs : base ≤ w.heap.size) : Mach w' Bm ad T m := by
  obtain ⟨g, e, hb⟩ := hq
  rw [e] at hg
  have hk : ∀ k, k < base → w'.heap[k]? = w.heap[k]? := fun k hk => hg.block k (by omega) (fun e => by injection e with e; omega)
  exact hm.same (hk _ h.b) (hk _ h.i) (hk _ h.n_) (hk _ h.m) fun i hi => hk _ (h.g i hi)
set_option linter.unusedSimpArgs false in
set_option maxRecDepth 1000000 in
set_option maxHeartbeats 8000000 in
theorem machMerge (w : World) (lo Bm : Nat) (ad : Adr) (T : Nat) (m0 : MM) (h : Mach w Bm ad T m0) (hfr : ad.From Bm m0.into.length lo) (hlow : lo ≤ w.heap.size) (x y : Nat) (hx : x < m0.into.length) (hy : y < m0.into.length) :
    Calls Try.prog 71 #[.pointer (some ⟨Bm, 0, none⟩), .int .i64 (x : Int), .int .i64 (y : Int)] w fun e w' => (∃ r, MRun [(x, y)] m0 r ∧ e = .returned (.bool r.isSome) ∧ ∀ m', r = some m' → Mach w' Bm ad T m') ∧ Below lo w w' := by
  obtain ⟨n, hn⟩ : ∃ n, n = m0.into.length := ⟨_, rfl⟩
  rw [← hn] at hx hy hfr
  obtain ⟨-, l1, l2, l3, l4, l5⟩ := h.lt
  rw [← hn] at l5
  have hLow : MgLow lo w.heap.size Bm ad n := ⟨hlow, hfr, l1, l2, l3, l4, l5⟩
  have HLOW := Lib.hid hLow
  have hst0 : MgSt w lo w.heap.size Bm ad T n m0 [(x, y)] m0 [(x, y)] (.slice (some ⟨w.heap.size, 0, none⟩) 1 1) (w.alloc (.cells #[.int .i64 (x : Int), .int .i64 (y : Int)] 117)) :=
    ⟨h.below ((Below.refl _ _).alloc (Nat.le_refl _) _), hn.symm, QP.start w _ x y (Nat.le_refl _), fun p hp => by
      obtain rfl := List.mem_singleton.1 hp
      exact ⟨hx, hy⟩, fun r hr => hr, (Below.refl _ _).alloc hlow _, by simp⟩
  have HST0 := Lib.hid hst0
  have HN := Lib.hid hn
  have hT1 := h.T1
  have hT2 := h.T2
  have hn3 : n ≤ 1000 := by rw [hn]; exact h.ok.len
  clear h hfr hlow l1 l2 l3 l4 l5 hLow hst0 hx hy
  go_enter Try.func71, Try.ntmps71
  go_wp2_with fail
  go_loopg [7, 8, 9, 10, 11] (n * (T + 1) + 1) (fun gk v7 _ _ _ _ wr => ∃ (m : MM) (W : List (Nat × Nat)), rootsP m.into * (T + 1) + W.length ≤ gk ∧ gk ≤ n * (T + 1) + 1 ∧ MgSt w lo w.heap.size Bm ad T n m0 [(x, y)] m W v7 wr)
  case atStart =>
    refine ⟨m0, _, ?_, Nat.le_refl _, HST0.out⟩
    have h1 := rootsP_le m0.into
    have h2 : rootsP m0.into * (T + 1) ≤ n * (T + 1) := Nat.mul_le_mul_right _ (by rw [HN.out]; exact h1)
    simp only [List.length_cons, List.length_nil]
    omega
  case round =>
    obtain ⟨m, W, hgk, hgk2, hst⟩ := hrel
    obtain ⟨w2, rfl⟩ : ∃ w2 : World, w2 = wr := ⟨_, rfl⟩
    obtain ⟨gO, rfl⟩ : ∃ gO : Nat, gO = gk := ⟨_, rfl⟩
    have HGK := Lib.hid hgk
    have HGK2 := Lib.hid hgk2
    have HST := Lib.hid hst
    clear hgk hgk2
    cases W with
    | nil =>
      obtain ⟨g, off, cap, rfl, _⟩ := hst.q.form
      clear hst
      simp only [List.length_nil]
      go_wp2_with fail
      go_ret
      refine ⟨⟨some m, HST.out.back _ (.nil m), rfl, fun m' e => ?_⟩, HST.out.bel⟩
      injection e with e
      subst e
      exact HST.out.mach
    | cons p W =>
      obtain ⟨p1, p2⟩ := p
      obtain ⟨g, off, off', cap, rfl, hcap, kp0, kp1, hcut, hq⟩ := hst.q.pop
      dsimp only at kp0 kp1
      have HQ := Lib.hid hq
      obtain ⟨nW, hnW⟩ : ∃ k, k = W.length + 1 := ⟨_, rfl⟩
      obtain ⟨nV, hnV⟩ : ∃ k, k = W.length := ⟨_, rfl⟩
      have HNW := Lib.hid (And.intro hnW hnV)
      rw [← hnW, ← hnV] at hcut
      rw [← hnW] at hcap ⊢
      have hlt : decide ((0 : Int) < (nW : Int)) = true := by simp; omega
      have hltN : decide (0 < nW) = true := by simp; omega
      have hm := hst.mach
      obtain ⟨hp1, hp2⟩ : p1 < n ∧ p2 < n := hst.wlt (p1, p2) (by simp)
      have f1 : ∀ k (z : Nat), z < n → Calls Try.prog 72 #[.pointer (some ⟨Bm, 0, none⟩), .int .i64 (z : Int)] (w2.drewN k) fun e w' => e = .returned (.int .i64 (findP m.into z : Int)) ∧ w2.drewN k = w' := fun k z hz =>
        machFind (w2.drewN k) Bm ad T m (hm.below ⟨rfl, rfl, rfl, Nat.le_refl _, fun _ _ => rfl⟩) z (by rw [hst.len]; exact hz)
      have F1 := Lib.hid f1
      clear hst hq hm f1 hnW hnV
      go_upto_block 3 with fail
      have hlt0 : (0 : Int) < (nW : Int) := by have := HNW.out.1; omega
      go_quiet ((go_at_call 72; refine quiet_leftM (F1.out _ _ ?_); assumption))
      obtain ⟨w3, hw3⟩ : ∃ w3, w3 = w2.drewN nq := ⟨_, rfl⟩
      have hb3 : Below w2.heap.size w2 w3 := by rw [hw3]; exact ⟨rfl, rfl, rfl, Nat.le_refl _, fun _ _ => rfl⟩
      have hst3 : MgSt w lo w.heap.size Bm ad T n m0 [(x, y)] m ((p1, p2) :: W) (.slice (some ⟨g, off, none⟩) nW cap) w3 := by
        have := HST.out
        refine ⟨this.mach.below hb3, this.len, ?_, this.wlt, this.back, this.bel.trans (hb3.mono (Nat.le_trans HLOW.out.lb this.size)), Nat.le_trans this.size hb3.size⟩
        have h1 := this.q.below hb3
        rwa [HNW.out.1]
      obtain ⟨fa, hfa⟩ : ∃ fa, fa = findP m.into p1 := ⟨_, rfl⟩
      obtain ⟨fb, hfb⟩ : ∃ fb, fb = findP m.into p2 := ⟨_, rfl⟩
      have HQ3 := Lib.hid (HQ.out.below hb3)
      have HST3 := Lib.hid hst3
      rw [← hw3, ← hfa, ← hfb]
      clear hw3 hb3 hst3 kp0 kp1
      by_cases hab : fa = fb
      · have i1 : ((fa : Int) == (fb : Int)) = true := by simp [hab]
        have HA := Lib.hid (show findP m.into p1 = findP m.into p2 by rw [← hfa, ← hfb]; exact hab)
        clear hfa hfb hab
        go_wp2_with fail
        go_roundg (gO - 1)
        case measure =>
          have := HGK.out
          simp only [List.length_cons] at this
          omega
        case rel =>
          have h3 := HST3.out
          refine ⟨m, W, ?_, by have := HGK2.out; omega, h3.mach, h3.len, ?_, fun q hq => h3.wlt q (by simp [hq]), fun r hr => h3.back r (.same HA.out hr), h3.bel, h3.size⟩
          · have := HGK.out
            simp only [List.length_cons] at this
            omega
          · have := HQ3.out
            rwa [← HNW.out.2] at this
      · have i1 : ((fa : Int) == (fb : Int)) = false := by simp; omega
        have hne : findP m.into p1 ≠ findP m.into p2 := by rw [← hfa, ← hfb]; exact hab
        have hlh := loHi HST3.out.mach.ok (p := (p1, p2)) (by rw [HST3.out.len]; exact ⟨hp1, hp2⟩) hne
        obtain ⟨la, hla⟩ : ∃ la, la = loP m (p1, p2) := ⟨_, rfl⟩
        obtain ⟨lb, hlb⟩ : ∃ lb, lb = hiP m (p1, p2) := ⟨_, rfl⟩
        have imin : min (fa : Int) (fb : Int) = (la : Int) := by rw [hla]; unfold loP; dsimp only; rw [← hfa, ← hfb]; omega
        have imax : max (fa : Int) (fb : Int) = (lb : Int) := by rw [hlb]; unfold hiP; dsimp only; rw [← hfa, ← hfb]; omega
        obtain ⟨hlt2, hhi, hrl, hrh⟩ := hlh
        rw [← hla, ← hlb] at hlt2
        rw [← hlb] at hhi hrh
        rw [← hla] at hrl
        have hlbn : lb < n := by rw [← HST3.out.len]; exact hhi
        have hlan : la < n := by omega
        have c0 := HST3.out.mach.cells.1
        rw [HST3.out.len] at c0
        have hfrI := HST3.out.mach.I.fr lb
        have d0 := HST3.out.mach.into_ hhi
        have HNE := Lib.hid hne
        have HLA := Lib.hid hla
        have HLB := Lib.hid hlb
        have HR := Lib.hid (And.intro hrl hrh)
        clear hne hla hlb hfa hfb hrl hrh hhi hab
        go_upto_block 7 with fail
        go_wp2_with fail
        obtain ⟨w4, hw4⟩ : ∃ w4 : World, w4 = w3.setCell ⟨ad.I, lb, none⟩ (.int .i64 (la : Int)) := ⟨_, rfl⟩
        have hm4 : Mach w4 Bm ad T (m.setInto lb la) := by rw [hw4]; exact HST3.out.mach.setInto (by rw [HST3.out.len]; exact hlbn) hlt2
        have hn4 : (m.setInto lb la).into.length = n := by simp [MM.setInto, HST3.out.len]
        rw [← hw4]
        have c2 := hm4.cells.2.2
        rw [hn4] at c2
        have dA := hm4.mark_ (s := la) (by rw [hn4]; exact hlan)
        have dB := hm4.mark_ (s := lb) (by rw [hn4]; exact hlbn)
        obtain ⟨ka, hka⟩ : ∃ ka, ka = (m.setInto lb la).mk1 la := ⟨_, rfl⟩
        obtain ⟨kb, hkb⟩ : ∃ kb, kb = (m.setInto lb la).mk1 lb := ⟨_, rfl⟩
        rw [← hka] at dA
        rw [← hkb] at dB
        have ha4 : ka < 4 := by rw [hka]; exact (hm4.ok.markAt (by rw [hn4]; exact hlan)).2
        have hb4 : kb < 4 := by rw [hkb]; exact (hm4.ok.markAt (by rw [hn4]; exact hlbn)).2
        have hor := or_nat ha4 hb4
        obtain ⟨kz, hkz⟩ : ∃ kz, kz = ka ||| kb := ⟨_, rfl⟩
        rw [← hkz] at hor
        have hfrM := hm4.M.fr la
        have HM4 := Lib.hid hm4
        have HW4 := Lib.hid hw4
        have HK := Lib.hid (And.intro hka (And.intro hkb hkz))
        clear hw4 hm4 hn4 hka hkb ha4 hb4 hkz c0 d0 hfrI
        go_region
        obtain ⟨w5, hw5⟩ : ∃ w5 : World, w5 = (w4.setCell ⟨ad.M, la, none⟩ (.int .i64 (kz : Int))).drew := ⟨_, rfl⟩
        rw [← hw5]
        have hkz4 : kz < 4 := by
          have h4 := HM4.out.ok
          have hl4 : (m.setInto lb la).into.length = n := by simp [MM.setInto, HST3.out.len]
          rw [HK.out.2.2, HK.out.1, HK.out.2.1]
          exact or4 (h4.markAt (by rw [hl4]; exact hlan)).2 (h4.markAt (by rw [hl4]; exact hlbn)).2
        have hm5 : Mach w5 Bm ad T ((m.setInto lb la).setMark la kz) := by
          rw [hw5]
          refine Mach.below (HM4.out.setMark (by simp only [MM.setInto, List.length_set]; rw [HST3.out.len]; exact hlan) hkz4) (Below.refl _ _).drew
        have hn5 : ((m.setInto lb la).setMark la kz).into.length = n := by simp [MM.setMark, MM.setInto, HST3.out.len]
        have hg5 : ∀ q, q ≠ ad.I → q ≠ ad.M → w5.heap[q]? = w3.heap[q]? := fun q h1 h2 => by
          rw [hw5]
          show (w4.setCell _ _).heap[q]? = _
          rw [setCell_blk _ _ h2, HW4.out, setCell_blk _ _ h1]
        have hbel5 : Below lo w w5 := by
          rw [hw5, HW4.out]
          have h1 := HLOW.out.fr
          exact (((HST3.out.bel).setCell h1.i _).setCell h1.m _).drew
        have hz5 : w5.heap.size = w3.heap.size := by rw [hw5, HW4.out]; simp [World.setCell]
        have hq5 : QP w5 w.heap.size (.slice (some ⟨g, off', none⟩) nV (cap - 1)) W := by
          have h1 := HQ3.out
          rw [← HNW.out.2] at h1
          refine h1.same fun g' e => hg5 g' ?_ ?_
          · obtain ⟨g2, e2, hb2, _⟩ := h1.blk
            rw [e] at e2
            injection e2 with e2
            have := HLOW.out.i
            omega
          · obtain ⟨g2, e2, hb2, _⟩ := h1.blk
            rw [e] at e2
            injection e2 with e2
            have := HLOW.out.m
            omega
        have c2' := hm5.cells.2.2
        rw [hn5] at c2'
        have dZ := hm5.mark_ (s := la) (by rw [hn5]; exact hlan)
        have hmk : ((m.setInto lb la).setMark la kz).mk1 la = kz := by
          unfold MM.mk1 MM.setMark
          dsimp only
          rw [List.getElem?_set_self (by show la < m.mark.length; rw [HST3.out.mach.ok.mks, HST3.out.len]; exact hlan)]
          rfl
        rw [hmk] at dZ
        have HM5 := Lib.hid hm5
        have HG5 := Lib.hid hg5
        have HBEL5 := Lib.hid hbel5
        have HZ5 := Lib.hid hz5
        have HQ5 := Lib.hid hq5
        clear hm5 hg5 hbel5 hz5 hq5 hw5 c2 dA dB hfrM hor hmk hn5
        by_cases h3 : kz = 3
        · have i3 : ((kz : Int) == 3) = true := by simp [h3]
          go_wp2_with fail
          go_ret
          refine ⟨⟨none, HST3.out.back _ (.bad HNE.out ?_), rfl, fun m' e => by cases e⟩, HBEL5.out⟩
          rw [← HLA.out, ← HLB.out]
          have h1 := HK.out
          rw [h1.2.2, h1.1, h1.2.1] at h3
          exact h3
        · have i3 : ((kz : Int) == 3) = false := by simp; omega
          have c1 := HM5.out.cells.2.1
          have e1 := HM5.out.row_ (s := lb) (by simp only [MM.setMark, MM.setInto, List.length_set]; rw [HST3.out.len]; exact hlbn)
          rw [show ((m.setInto lb la).setMark la kz).into.length = n by simp only [MM.setMark, MM.setInto, List.length_set]; exact HST3.out.len] at c1
          go_wp2_with fail
          clear c1 e1 dZ c2' i3
          obtain ⟨m2, hm2⟩ : ∃ m2, m2 = (m.setInto lb la).setMark la kz := ⟨_, rfl⟩
          have hn2 : m2.into.length = n := by rw [hm2]; simp only [MM.setMark, MM.setInto, List.length_set]; exact HST3.out.len
          have hok2 : m2.Ok T := by rw [hm2]; exact HM5.out.ok
          obtain ⟨ra, hra⟩ : ∃ ra, ra = m2.row la := ⟨_, rfl⟩
          obtain ⟨rb, hrb⟩ : ∃ rb, rb = m2.row lb := ⟨_, rfl⟩
          have hraT := (hok2.rowAt (a := la) (by rw [hn2]; exact hlan)).2
          have hrbT := (hok2.rowAt (a := lb) (by rw [hn2]; exact hlbn)).2
          rw [← hra, hn2] at hraT
          rw [← hrb, hn2] at hrbT
          have hab2 : ra.length = rb.length := by rw [hraT.1, hrbT.1]
          have HM2 := Lib.hid hm2
          have HN2 := Lib.hid hn2
          have HOK2 := Lib.hid hok2
          have HRA := Lib.hid (And.intro hra hraT)
          have HRB := Lib.hid (And.intro hrb hrbT)
          have HAB2 := Lib.hid hab2
          have HM52 := Lib.hid (show Mach w5 Bm ad T (m2.setRow la (joinAt ra rb 0)) by
            rw [joinAt_zero, hra, MM.setRow_self hok2 (by rw [hn2]; exact hlan), hm2]
            exact HM5.out)
          have hnel : lb ≠ la := by omega
          clear hm2 hn2 hok2 hra hrb hraT hrbT hab2
          go_loopg [7, 10, 11, 81] T (fun gk7 v7 _ _ v81 wr => ∃ c : Nat, c ≤ T ∧ gk7 = T - c ∧ v81 = .int .i64 (c : Int) ∧ Mach wr Bm ad T (m2.setRow la (joinAt ra rb c)) ∧ QP wr w.heap.size v7 (W ++ joinWork (ra.take c) (rb.take c)) ∧ Below lo w wr ∧ w.heap.size ≤ wr.heap.size)
          case atStart => exact ⟨0, Nat.zero_le _, rfl, rfl, HM52.out, by rw [List.take_zero, List.take_zero]; show QP _ _ _ (W ++ []); rw [List.append_nil]; exact HQ5.out, HBEL5.out, by have := HST3.out.size; have := HZ5.out; omega⟩
          case round =>
            obtain ⟨c, hc, hgk7, rfl, hm6, hq6, hb6, hz6⟩ := hrel
            obtain ⟨w6, rfl⟩ : ∃ w6 : World, w6 = wr := ⟨_, rfl⟩
            have HGK7 := Lib.hid hgk7
            have HM6 := Lib.hid hm6
            have HQ6 := Lib.hid hq6
            have HB6 := Lib.hid hb6
            clear hgk7 hm6 hq6 hb6
            by_cases hcT : c < T
            · obtain ⟨xc, hxc⟩ : ∃ z, ra[c]? = some z := ⟨_, List.getElem?_eq_getElem (by rw [HRA.out.2.1]; exact hcT)⟩
              obtain ⟨yc, hyc⟩ : ∃ z, rb[c]? = some z := ⟨_, List.getElem?_eq_getElem (by rw [HRB.out.2.1]; exact hcT)⟩
              have hl6 : (m2.setRow la (joinAt ra rb c)).into.length = n := HN2.out
              have ky := HM6.out.at_ (s := lb) (c := c) (x := yc) (by rw [hl6]; exact hlbn) (by rw [MM.row_setRow HOK2.out (by rw [HN2.out]; exact hlan), if_neg hnel, ← HRB.out.1]; exact hyc)
              have kx := HM6.out.at_ (s := la) (c := c) (x := xc) (by rw [hl6]; exact hlan) (by rw [MM.row_setRow HOK2.out (by rw [HN2.out]; exact hlan), if_pos rfl]; exact joinAt_get HAB2.out hxc)
              have c1 := HM6.out.cells.2.1
              rw [hl6] at c1
              have e1 := HM6.out.row_ (s := la) (by rw [hl6]; exact hlan)
              have hyr := HRB.out.2.2 yc (List.mem_of_getElem? hyc)
              have hxr := HRA.out.2.2 xc (List.mem_of_getElem? hxc)
              have HX := Lib.hid (And.intro hxc hyc)
              have hcI : (c : Int) < (T : Int) := by omega
              have HWK := Lib.hid (joinWork_snoc hxc hyc)
              have hfrA := (HM6.out.rows la (by rw [hl6]; exact hlan)).fr c
              clear hl6 hxc hyc
              by_cases hy0 : yc < 0
              · have i5 : decide (yc < 0) = true := by simp [hy0]
                clear hyr hxr
                go_wp2_with fail
                go_roundg (T - (c + 1))
                case measure => rw [HGK7.out]; omega
                case rel =>
                  refine ⟨c + 1, by omega, rfl, by go_num, ?_, ?_, HB6.out, hz6⟩
                  · rw [joinAt_same HAB2.out HX.out.1 HX.out.2 (by unfold joinC; rw [if_pos hy0])]
                    exact HM6.out
                  · rw [HWK.out, if_pos (.inl hy0), List.append_nil]
                    exact HQ6.out
              · have i5 : decide (yc < 0) = false := by simp; omega
                by_cases hx0 : xc < 0
                · have i6 : decide (xc < 0) = true := by simp [hx0]
                  have HYR := Lib.hid hyr
                  clear hyr hxr
                  go_wp2_with fail
                  go_roundg (T - (c + 1))
                  case measure => rw [HGK7.out]; omega
                  case rel =>
                    refine ⟨c + 1, by omega, rfl, by go_num, ?_, ?_, HB6.out.setCell (HLOW.out.fr.g_ la hlan) _, by simpa [World.setCell] using hz6⟩
                    · have h1 := HM6.out.setAt (s := la) (c := c) (x := yc) (by show la < m2.into.length; rw [HN2.out]; exact hlan) hcT (by show -1 ≤ yc ∧ yc < (m2.into.length : Int); rw [HN2.out]; exact HYR.out)
                      rw [MM.row_setRow HOK2.out (by rw [HN2.out]; exact hlan), if_pos rfl, MM.setRow_setRow] at h1
                      have h2 := joinAt_step HAB2.out HX.out.1 HX.out.2
                      rw [show joinC xc yc = yc by unfold joinC; rw [if_neg (by omega), if_pos hx0]] at h2
                      rw [h2] at h1
                      exact h1
                    · rw [HWK.out, if_pos (.inr hx0), List.append_nil]
                      refine HQ6.out.same fun g' e => setCell_blk _ _ ?_
                      obtain ⟨g2, e2, hb2, _⟩ := HQ6.out.blk
                      rw [e] at e2
                      injection e2 with e2
                      have := HLOW.out.g la hlan
                      omega
                · have i6 : decide (xc < 0) = false := by simp; omega
                  obtain ⟨xn, rfl⟩ : ∃ xn : Nat, xc = (xn : Int) := ⟨xc.toNat, by omega⟩
                  obtain ⟨yn, rfl⟩ : ∃ yn : Nat, yc = (yn : Int) := ⟨yc.toNat, by omega⟩
                  obtain ⟨v7', w7, hrun, hq7, hg7, hb7, -⟩ := HQ6.out.push (ty := 116) xn yn (by
                    have h1 := HGK.out
                    have h2 := HGK2.out
                    simp only [List.length_cons] at h1
                    have h3 := joinWork_len (ra.take c) (rb.take c)
                    rw [List.length_take] at h3
                    have h4 : n * (T + 1) ≤ 1000 * 17 := Nat.mul_le_mul hn3 (by omega)
                    rw [List.length_append]
                    have h5 : W.length ≤ gO := by omega
                    omega)
                  have hz7 : w6.heap.size ≤ w7.heap.size := by have := hg7.size; simp at this; omega
                  have HM7 := Lib.hid (show Mach w7 Bm ad T (m2.setRow la (joinAt ra rb c)) by
                    have h1 := HM6.out.below ((Below.refl _ w6).alloc (Nat.le_refl _) (.cells #[.int .i64 (xn : Int), .int .i64 (yn : Int)] 117))
                    obtain ⟨g2, e2, hb2, _⟩ := HQ6.out.blk
                    have hl6 : (m2.setRow la (joinAt ra rb c)).into.length = n := HN2.out
                    exact MgLow.mach (by rw [hl6]; exact HLOW.out) h1 ⟨g2, e2, hb2⟩ hg7 (by simp; omega))
                  have HRUN := Lib.hid hrun
                  have HQ7 := Lib.hid hq7
                  have HB7 := Lib.hid (HB6.out.trans (hb7.mono HLOW.out.lb))
                  clear hrun hq7 hg7 hb7 hyr hxr
                  go_wp2_with (at_builtin; refine Lib.wpList_append_run (o := ⟨some 100, _, _, _, _, _⟩) _ rfl _ _ _ _ rfl _ _ rfl rfl _ _ HRUN.out ?_)
                  go_roundg (T - (c + 1))
                  case measure => rw [HGK7.out]; omega
                  case rel =>
                    refine ⟨c + 1, by omega, rfl, by go_num, ?_, ?_, HB7.out, by omega⟩
                    · rw [joinAt_same HAB2.out HX.out.1 HX.out.2 (by unfold joinC; rw [if_neg (by omega), if_neg (by omega)])]
                      exact HM7.out
                    · rw [HWK.out, if_neg (by omega), ← List.append_assoc]
                      exact HQ7.out
            · obtain rfl : c = T := by omega
              have h1 : joinAt ra rb c = joinRow (m.row la) (m.row lb) := by
                rw [show joinAt ra rb c = joinAt ra rb ra.length by rw [HRA.out.2.1], joinAt_full HAB2.out, HRA.out.1, HRB.out.1, HM2.out]
                rfl
              have h2 : m2.setRow la (joinAt ra rb c) = m.join (loP m (p1, p2)) (hiP m (p1, p2)) := by
                rw [h1, HM2.out, ← HLA.out, ← HLB.out, HK.out.2.2, HK.out.1, HK.out.2.1]
                rfl
              have h3' : joinWork (ra.take c) (rb.take c) = joinWork (m.row (loP m (p1, p2))) (m.row (hiP m (p1, p2))) := by
                rw [List.take_of_length_le (by rw [HRA.out.2.1]; exact Nat.le_refl _), List.take_of_length_le (by rw [HRB.out.2.1]; exact Nat.le_refl _), HRA.out.1, HRB.out.1, HM2.out, ← HLA.out, ← HLB.out]
                rfl
              have hm8 := HM6.out
              have hq8 := HQ6.out
              rw [h2] at hm8
              rw [h3'] at hq8
              have HM8 := Lib.hid hm8
              have HQ8 := Lib.hid hq8
              have hcI : ¬ (c : Int) < (c : Int) := by omega
              have hjl : (joinWork (m.row (loP m (p1, p2))) (m.row (hiP m (p1, p2)))).length ≤ c := by
                rw [← h3']
                have := joinWork_len (ra.take c) (rb.take c)
                rw [List.length_take] at this
                omega
              clear hm8 hq8 h1 h2 h3'
              go_wp2_with fail
              have hroots : rootsP (m.join (loP m (p1, p2)) (hiP m (p1, p2))).into + 1 ≤ rootsP m.into := by
                rw [← HLA.out, ← HLB.out]
                exact rootsP_set (by rw [HST3.out.len]; exact hlbn) hlt2 HR.out.2
              have hsum : rootsP (m.join (loP m (p1, p2)) (hiP m (p1, p2))).into * (c + 1) + (W ++ joinWork (m.row (loP m (p1, p2))) (m.row (hiP m (p1, p2)))).length ≤ gO - 1 := by
                have h5 := HGK.out
                simp only [List.length_cons] at h5
                have h6 : (rootsP (m.join (loP m (p1, p2)) (hiP m (p1, p2))).into + 1) * (c + 1) ≤ rootsP m.into * (c + 1) := Nat.mul_le_mul_right _ hroots
                rw [Nat.add_mul, Nat.one_mul] at h6
                rw [List.length_append]
                omega
              go_roundg (gO - 1)
              case measure =>
                have h5 := HGK.out
                simp only [List.length_cons] at h5
                omega
              case rel =>
                have hlh : LoHi m (p1, p2) := ⟨by rw [← HLA.out, ← HLB.out]; exact hlt2, by rw [← HLB.out, HST3.out.len]; exact hlbn, by rw [← HLA.out]; exact HR.out.1, by rw [← HLB.out]; exact HR.out.2⟩
                have hwl := WLt.next HST3.out.mach.ok (by rw [HST3.out.len]; exact HST3.out.wlt) hlh
                have hnj : (m.join (loP m (p1, p2)) (hiP m (p1, p2))).into.length = n := by simp only [MM.join, List.length_set]; exact HST3.out.len
                rw [hnj] at hwl
                refine ⟨_, _, hsum, by have := HGK2.out; omega, HM8.out, hnj, HQ8.out, hwl, fun r hr => HST3.out.back r (.step HNE.out ?_ hr), HB6.out, hz6⟩
                rw [← HLA.out, ← HLB.out]
                intro e
                have h1 := HK.out
                rw [h1.2.2, h1.1, h1.2.1] at h3
                exact h3 e
end Go.Proofs.Ytgaahpddlohjoaa
