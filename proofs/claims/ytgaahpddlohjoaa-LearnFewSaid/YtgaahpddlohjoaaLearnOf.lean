/- learn.Of, from whoever answers rightly. -/
import Derived.Test.YtgaahpddlohjoaaLearnClose
import Derived.Test.YtgaahpddlohjoaaLearnWrong
import Derived.Test.YtgaahpddlohjoaaLearnSplit
import Derived.Test.YtgaahpddlohjoaaCanon
namespace Go.Proofs.Ytgaahpddlohjoaa
open Go.RowKit Go.Maps

theorem canon_small {d : DfaD} (hv : Valid d) (hx : ∀ x ∈ d.2.1, x < 2147483648) : ∀ x ∈ (canonD d).2.1, x < 2147483648 := fun x hm => by
  by_cases hl : LiveP d d.1
  · have h := canon_live hv hl
    obtain ⟨j, hj⟩ := List.getElem?_of_mem hm
    have hjl := (List.getElem?_eq_some_iff.1 hj).1
    have hla := h.la
    have := h.acc j x _ hj (List.getElem?_eq_getElem (by omega))
    rw [this]
    unfold dat
    split
    · omega
    · cases e : d.2.1[(((cIter d d.2.2.length).sts)[j]'(by omega)).toNat]? with
      | none => simp
      | some y => exact hx y (List.mem_of_getElem? e)
  · rw [canon_dead hl] at hm
    simp at hm
    omega
theorem Closed.small {acc : List Int → Bool} {T : Nat} {tests access : List (List Int)} {d : DfaD} (h : Closed acc T tests access d) : ∀ x ∈ d.2.1, x < 2147483648 := fun x hx => by
  obtain ⟨j, hj⟩ := List.getElem?_of_mem hx
  have hal := h.made.al
  have := h.made.acc j x _ hj (List.getElem?_eq_getElem (show j < access.length by have := (List.getElem?_eq_some_iff.1 hj).1; omega))
  rw [this]
  split <;> omega
/-- an answer on an automaton -/
def EqPost (L : LCtx) (d : DfaD) (base : Nat) (ws : List (List Int)) (q : Nat) (e : Ending) (w' : World) : Prop := ∃ (yes : Bool) (A : Option Addr) (n c : Nat) (l : List Int), e = .returned (.tuple #[.bool yes, .slice A n c]) ∧ Sl Rep.int w' (fun b => base ≤ b) A n c l ∧ L.Inv ws (q + 1) w' ∧
  ((yes = true ∧ ∀ l, WOkT L.T l → daccept d l = L.acc l) ∨ (yes = false ∧ WOkT L.T l ∧ l.length ≤ 500 ∧ daccept d l ≠ L.acc l))
/-- whom a learner shows its automata -/
structure EqOk (L : LCtx) (eqF : FuncId) (eqC : Array Value) : Prop where
  enters : ∀ (args : Array Value) (u : World), (callFunc eqF args).run Try.prog u = .ok (.enter eqF args) u
  eq : ∀ (ws : List (List Int)) (q : Nat) (w : World) (S : Nat → Prop) (A : Option Addr) (nA cA : Nat) (N : Option Addr) (n cN : Nat) (d : DfaD), L.Inv ws q w → L.B0 ≤ w.heap.size → q ≤ 100 → Sl Rep.int w S A nA cA d.2.1 → Sl RI w S N n cN d.2.2 → (∀ b, S b → L.B0 ≤ b) → Valid d → cols d = L.T → d.2.2.length ≤ 21 → (∀ x ∈ d.2.1, x < 2147483648) →
    Calls Try.prog eqF (#[.agg #[.int .i64 d.1, .slice A nA cA, .slice N n cN]] ++ eqC) w fun e w' => EqPost L d w.heap.size ws q e w' ∧ Only w w' (fun b => b < L.B0)
/-- what is learnt -/
def OfR (L : LCtx) (e : Ending) (w' : World) : Prop := ∃ (A : Option Addr) (nA cA : Nat) (N : Option Addr) (n cN : Nat) (dd : DfaD) (ws : List (List Int)) (q : Nat), e = .returned (.tuple #[.agg #[.int .i64 0, .slice A nA cA, .slice N n cN], .int .i64 0]) ∧ Sl Rep.int w' (fun b => L.B0 ≤ b) A nA cA (canonD dd).2.1 ∧ Sl RI w' (fun b => L.B0 ≤ b) N n cN (canonD dd).2.2 ∧
  Valid dd ∧ cols dd = L.T ∧ (∀ l, WOkT L.T l → daccept dd l = L.acc l) ∧ (∀ x ∈ dd.2.1, x < 2147483648) ∧ L.Inv ws q w' ∧ q ≤ (canonD dd).2.2.length + 1 ∧ L.B0 ≤ w'.heap.size
/-- between the rounds -/
def RoundP (L : LCtx) (q : Nat) (access tests : List (List Int)) : Prop := (q = 0 ∧ access = [[]]) ∨ (q ≤ access.length ∧ NeedNew L.acc L.T tests access)
theorem RoundP.next {L : LCtx} {q : Nat} {access access' tests : List (List Int)} {d : DfaD} (h : RoundP L q access tests) (hc : Closed L.acc L.T tests access' d) (hp : access <+: access') : q + 1 ≤ access'.length := by
  rcases h with ⟨rfl, rfl⟩ | ⟨h1, h2⟩
  · have := hp.length_le
    simpa using this
  · have := hc.grow hp h2
    omega
theorem accW0 (L : LCtx) : AccW L.acc L.T [[]] [[]] := by
  refine ⟨fun j k u v hjk hj hk => ?_, rfl, fun w hw => ?_, fun k w hk => ?_⟩
  · have := (List.getElem?_eq_some_iff.1 hk).1
    simp at this
    omega
  · obtain rfl := List.mem_singleton.1 hw
    exact .nil
  · cases k with
    | zero => simp at hk; subst hk; simp
    | succ k => simp at hk
/-- an answer on an automaton turns nothing of the learner's -/
theorem LSt.shown {L : LCtx} {w w' : World} {FL : Nat → Prop} {ws : List (List Int)} {q q' : Nat} {vA vT vR : Value} {access tests : List (List Int)} (h : LSt L w FL ws q vA vT vR access tests) (hi : L.Inv ws q' w') (ho : Only w w' (fun b => b < L.B0)) : LSt L w' FL ws q' vA vT vR access tests := by
  obtain ⟨FA, FT, h1, h2, h3, h4⟩ := h.sets
  have hn : ∀ b, FL b → ¬ b < L.B0 := fun b hb hx => by have := h.fl b hb; omega
  exact ⟨(ho.block _ h.lt (hn _ h.flL)).trans h.box, h.known.only ho (hn _ h.flK), hi, h.ok, ⟨FA, FT, h1.only ho fun b hb => hn _ (h3 b hb).1, h2.only ho fun b hb => hn _ (h4 b hb).1, h3, h4⟩, h.fl, h.flL, h.flK, fun b hb => Nat.lt_of_lt_of_le (h.flz b hb) ho.size⟩
/-- a list of one empty word -/
theorem WL.one (w w' : World) (s H : Nat) (hH : w.heap.size = H) (hk : Below (H + 1) (w.alloc (.cells #[.slice (some ⟨s, 0, none⟩) 0 0] 22)) w') (F : Nat → Prop) (hF : F H) : WL w' F (.slice (some ⟨H, 0, none⟩) 1 1) [[]] := by
  have h1 : Own (w.alloc (.cells #[.slice (some ⟨s, 0, none⟩) 0 0] 22)) 0 22 1 (.slice (some ⟨w.heap.size, 0, none⟩) 1 1) 1 [.slice (some ⟨s, 0, none⟩) 0 0] := .inl (World.ownsRow_lit (e := 22) (size := 1) (base := 0) w #[.slice (some ⟨s, 0, none⟩) 0 0] 1 (by omega) (by simp [maxLen]) (by simp))
  rw [hH] at h1
  refine ⟨⟨_, h1.sameB fun g e => hk.block g ?_, ⟨[.slice (some ⟨s, 0, none⟩) 0 0], [], rfl, ⟨_, 0, 0, rfl, Sl.nil _ _ _ _⟩, rfl⟩⟩, fun g e => ?_⟩
  · rw [show rowOf (.slice (some ⟨H, 0, none⟩) 1 1) = some H from rfl] at e
    injection e with e
    omega
  · rw [show rowOf (.slice (some ⟨H, 0, none⟩) 1 1) = some H from rfl] at e
    injection e with e
    exact e ▸ hF
set_option maxRecDepth 100000 in
/-- the learner at the beginning -/
theorem lst0 (L : LCtx) (hL : L.Ok) (w w1 : World) (h0 : L.B0 = w.heap.size) (hi : L.Inv [] 0 w) (hBK : L.BK = w.heap.size + 1) (hBL : L.BL = w.heap.size + 6)
    (hw1 : w1 = ((((((w.alloc (.cells #[.int .i64 0, .slice none 0 0, .slice none 0 0] 25)).alloc (.map #[] 0)).alloc (.cells #[] 3)).alloc (.cells #[.slice (some ⟨w.heap.size + 1 + 1, 0, none⟩) 0 0] 22)).alloc (.cells #[] 3)).alloc (.cells #[.slice (some ⟨w.heap.size + 1 + 1 + 1 + 1, 0, none⟩) 0 0] 22)).alloc
      (.cells #[.int .i64 (L.T : Int), .func (.func L.askF) #[] L.askC, .map (some (w.heap.size + 1)), .slice (some ⟨w.heap.size + 1 + 1 + 1, 0, none⟩) 1 1, .slice (some ⟨w.heap.size + 1 + 1 + 1 + 1 + 1, 0, none⟩) 1 1, .map none] 88)) :
    ∃ FL, LSt L w1 FL [] 0 (.slice (some ⟨w.heap.size + 1 + 1 + 1, 0, none⟩) 1 1) (.slice (some ⟨w.heap.size + 1 + 1 + 1 + 1 + 1, 0, none⟩) 1 1) (.map none) [[]] [[]] ∧ ¬ FL w.heap.size ∧ w1.heap[w.heap.size]? = some (.cells #[.int .i64 0, .slice none 0 0, .slice none 0 0] 25 (0, 0)) ∧ w1.heap.size = w.heap.size + 7 := by
  have hz : w1.heap.size = w.heap.size + 7 := by rw [hw1]; simp
  have hb : Below w.heap.size w w1 := by
    rw [hw1]
    exact (((((((Below.refl _ _).alloc (Nat.le_refl _) _).alloc (by simp) _).alloc (by simp; omega) _).alloc (by simp; omega) _).alloc (by simp; omega) _).alloc (by simp; omega) _).alloc (by simp; omega) _
  refine ⟨fun b => b = L.BL ∨ b = L.BK ∨ b = w.heap.size + 3 ∨ b = w.heap.size + 5, ⟨?_, ?_, hL.keep _ _ _ _ hi (.of_below (B := w.heap.size) hb (Nat.le_refl _) _), (fun x hx => by cases hx), ⟨fun b => b = w.heap.size + 3, fun b => b = w.heap.size + 5, ?_, ?_, fun b hb => ⟨.inr (.inr (.inl hb)), by omega, by omega, by omega⟩, fun b hb => ⟨.inr (.inr (.inr hb)), by omega, by omega⟩⟩, fun b hb => by omega, .inl rfl, .inr (.inl rfl), fun b hb => by omega⟩, by omega, ?_, hz⟩
  · rw [hw1, hBL, hBK]
    exact heap_new _ _ _ (by simp)
  · have h1 := AMap.made KS (w.alloc (.cells #[.int .i64 0, .slice none 0 0, .slice none 0 0] 25))
    rw [hw1, hBK]
    have h2 := ((((h1.alloc (.cells #[] 3)).alloc (.cells #[.slice (some ⟨w.heap.size + 1 + 1, 0, none⟩) 0 0] 22)).alloc (.cells #[] 3)).alloc (.cells #[.slice (some ⟨w.heap.size + 1 + 1 + 1 + 1, 0, none⟩) 0 0] 22)).alloc (.cells #[.int .i64 (L.T : Int), .func (.func L.askF) #[] L.askC, .map (some (w.heap.size + 1)), .slice (some ⟨w.heap.size + 1 + 1 + 1, 0, none⟩) 1 1, .slice (some ⟨w.heap.size + 1 + 1 + 1 + 1 + 1, 0, none⟩) 1 1, .map none] 88)
    rw [World.size_alloc] at h2
    exact h2
  · obtain ⟨wa, hwa⟩ : ∃ wa : World, wa = ((w.alloc (.cells #[.int .i64 0, .slice none 0 0, .slice none 0 0] 25)).alloc (.map #[] 0)).alloc (.cells #[] 3) := ⟨_, rfl⟩
    have hza : wa.heap.size = w.heap.size + 3 := by rw [hwa]; simp
    rw [← hwa] at hw1
    refine WL.one wa w1 (w.heap.size + 1 + 1) (w.heap.size + 3) hza ?_ _ rfl
    rw [hw1]
    exact (((Below.refl _ _).alloc (by simp [hza]) _).alloc (by simp [hza]) _).alloc (by simp [hza]) _
  · obtain ⟨wa, hwa⟩ : ∃ wa : World, wa = ((((w.alloc (.cells #[.int .i64 0, .slice none 0 0, .slice none 0 0] 25)).alloc (.map #[] 0)).alloc (.cells #[] 3)).alloc (.cells #[.slice (some ⟨w.heap.size + 1 + 1, 0, none⟩) 0 0] 22)).alloc (.cells #[] 3) := ⟨_, rfl⟩
    have hza : wa.heap.size = w.heap.size + 5 := by rw [hwa]; simp
    rw [← hwa] at hw1
    refine WL.one wa w1 (w.heap.size + 1 + 1 + 1 + 1) (w.heap.size + 5) hza ?_ _ rfl
    rw [hw1]
    exact (Below.refl _ _).alloc (by simp [hza]) _
  · rw [hw1, Below.heap_alloc _ _ _ (by simp; omega), Below.heap_alloc _ _ _ (by simp; omega), Below.heap_alloc _ _ _ (by simp; omega), Below.heap_alloc _ _ _ (by simp; omega), Below.heap_alloc _ _ _ (by simp; omega), Below.heap_alloc _ _ _ (by simp)]
    exact heap_alloc_new w _
set_option linter.unusedSimpArgs false in
set_option maxRecDepth 1000000 in
set_option maxHeartbeats 8000000 in
theorem learnOf (L : LCtx) (hL : L.Ok) (eqF : FuncId) (eqC : Array Value) (hE : EqOk L eqF eqC) (w : World) (h0 : L.B0 = w.heap.size) (hi : L.Inv [] 0 w) (hBK : L.BK = w.heap.size + 1) (hBL : L.BL = w.heap.size + 6) :
    Calls Try.prog 20 #[.int .i64 (L.T : Int), .func (.func L.askF) #[] L.askC, .func (.func eqF) #[] eqC] w fun e w' => OfR L e w' := by
  have hT1 := hL.t1
  have hT2 := hL.t2
  have hd1 : decide ((L.T : Int) < 1) = false := by simp; omega
  have hd2 : decide (16 < (L.T : Int)) = false := by simp; omega
  have hmm := @run_makeMap Try.prog
  obtain ⟨w1, hw1⟩ : ∃ w1 : World, w1 = ((((((w.alloc (.cells #[.int .i64 0, .slice none 0 0, .slice none 0 0] 25)).alloc (.map #[] 0)).alloc (.cells #[] 3)).alloc (.cells #[.slice (some ⟨w.heap.size + 1 + 1, 0, none⟩) 0 0] 22)).alloc (.cells #[] 3)).alloc (.cells #[.slice (some ⟨w.heap.size + 1 + 1 + 1 + 1, 0, none⟩) 0 0] 22)).alloc
      (.cells #[.int .i64 (L.T : Int), .func (.func L.askF) #[] L.askC, .map (some (w.heap.size + 1)), .slice (some ⟨w.heap.size + 1 + 1 + 1, 0, none⟩) 1 1, .slice (some ⟨w.heap.size + 1 + 1 + 1 + 1 + 1, 0, none⟩) 1 1, .map none] 88) := ⟨_, rfl⟩
  have hl0 := lst0 L hL w w1 h0 hi hBK hBL hw1
  have HL0 := Lib.hid hl0
  have HW1 := Lib.hid hw1
  have HL := Lib.hid hL
  have HE := Lib.hid hE
  have HB0 := Lib.hid h0
  have HBL := Lib.hid (show L.BL = w.heap.size + 1 + 1 + 1 + 1 + 1 + 1 by omega)
  clear hL hE h0 hi hBK hBL hl0 hw1
  go_enter Try.func20, Try.ntmps20
  go_wp2_with fail
  rw [← HW1.out, ← HBL.out, ← HB0.out]
  clear hmm hd1 hd2
  obtain ⟨FL0, hst0, hnr0, hrc0, hz0⟩ := HL0.out
  rw [← HB0.out] at hnr0 hrc0 hz0
  have HST0 := Lib.hid (And.intro hst0 (And.intro hnr0 hrc0))
  have hB0z : L.B0 + 7 ≤ w1.heap.size := by omega
  clear hst0 hnr0 hrc0 hz0
  go_loopg [9, 10, 11, 12, 13] 30 (fun gk va vb vc vd ve wr => ∃ (q : Nat) (FL : Nat → Prop) (ws : List (List Int)) (vA vT vR : Value) (access tests : List (List Int)), q ≤ 21 ∧ gk = 30 - q ∧ LSt L wr FL ws q vA vT vR access tests ∧ AccW L.acc L.T tests access ∧ (∀ t ∈ tests, WOkT L.T t ∧ t.length ≤ 1000) ∧ tests.length ≤ q + 1 ∧ RoundP L q access tests ∧ ws.length ≤ q * 110000 ∧
    wr.heap[L.B0]? = some (.cells #[.int .i64 0, .slice none 0 0, .slice none 0 0] 25 (0, 0)) ∧ ¬ FL L.B0 ∧ L.B0 < wr.heap.size)
  case atStart => exact ⟨0, FL0, [], _, _, _, [[]], [[]], by omega, rfl, HST0.out.1, accW0 L, (fun t ht => by obtain rfl := List.mem_singleton.1 ht; exact ⟨.nil, by simp⟩), by simp, .inl ⟨rfl, rfl⟩, by simp, HST0.out.2.2, HST0.out.2.1, by omega⟩
  case round =>
    obtain ⟨q, FL, ws, vA, vT, vR, access, tests, hq, hgk, hst, hacw, htw, htl, hrp, hwl, hrc, hnr, hsz⟩ := hrel
    obtain ⟨w2, rfl⟩ : ∃ w2 : World, w2 = wr := ⟨_, rfl⟩
    have HGK := Lib.hid hgk
    have HTW := Lib.hid htw
    have HRP := Lib.hid hrp
    have HRC := Lib.hid hrc
    have HNR := Lib.hid hnr
    have hcl := learnClose L HL.out w2 FL ws q vA vT vR access tests hst hacw htw (by omega) (by omega)
    have HCL := Lib.hid hcl
    clear hgk hst hacw htw hrp hrc hnr hcl
    go_wp2_with fail
    refine HCL.out.mono ?_
    rintro e w3 hcr
    obtain ⟨d, acc3, ws3, vA3, vR3, FL3, A, nA, cA, N, n, cN, rfl, hA, hN, hclo, hpre, hst3, hl3, ho3, hsub, hnew⟩ := hcr
    have hab : acc3.length ≤ 21 := by
      have h1 := hclo.w.dist.few HL.out.val HL.out.cols HL.out.lang (fun t hm => (HTW.out t hm).1) hclo.w.ok
      have h2 := HL.out.few
      omega
    have hv : Valid d := hclo.valid ⟨hT1, hT2⟩ (by omega)
    have hd0 : d.1 = 0 := hclo.st
    have hrl : d.2.2.length = acc3.length := hclo.made.rl
    have hq1 : q + 1 ≤ acc3.length := HRP.out.next hclo hpre
    have hnr3 : ¬ FL3 L.B0 := fun hf => by
      rcases hnew _ hf with h | h
      · exact HNR.out h
      · omega
    have hrc3 : w3.heap[L.B0]? = some (.cells #[.int .i64 0, .slice none 0 0, .slice none 0 0] 25 (0, 0)) := (ho3.block L.B0 hsz (by
      rintro (h | h)
      · omega
      · exact HNR.out h)).trans HRC.out
    obtain ⟨BX, hBX⟩ : ∃ BX, BX = w3.heap.size := ⟨_, rfl⟩
    obtain ⟨w4, hw4⟩ : ∃ w4 : World, w4 = w3.alloc (.cells #[.int .i64 0, .slice A nA cA, .slice N n cN] 25) := ⟨_, rfl⟩
    have hb4 : Below w3.heap.size w3 w4 := by rw [hw4]; exact (Below.refl _ _).alloc (Nat.le_refl _) _
    have hbx4 : w4.heap[BX]? = some (.cells #[.int .i64 0, .slice A nA cA, .slice N n cN] 25 (0, 0)) := by rw [hw4, hBX]; exact heap_alloc_new w3 _
    have hz4 : w4.heap.size = BX + 1 := by rw [hw4, hBX]; simp
    have HA4 := Lib.hid (hA.below hb4)
    have HN4 := Lib.hid (hN.below hb4)
    have HST4 := Lib.hid (hst3.below HL.out hb4)
    have HRC4 := Lib.hid ((hb4.block L.B0 (heap_lt hrc3)).trans hrc3)
    have HBX4 := Lib.hid hbx4
    have hnx : ¬ FL3 BX := fun hf => by have := hst3.flz _ hf; omega
    have hBX0 : L.B0 < BX := by have := heap_lt hrc3; omega
    have hcan := dfaCanon w4 _ A nA cA N n cN d HA4.out HN4.out hv hclo.small
    rw [hd0] at hcan
    have HCAN := Lib.hid hcan
    have HCLO := Lib.hid hclo
    have HV := Lib.hid hv
    have HD0 := Lib.hid hd0
    have HRL := Lib.hid hrl
    have HNR3 := Lib.hid hnr3
    have HNX := Lib.hid hnx
    have HL3 := Lib.hid hl3
    have HW4 := Lib.hid hw4
    have HBX := Lib.hid hBX
    have HBKX := Lib.hid (show L.BK < BX by rw [hBX]; exact hst3.flz _ hst3.flK)
    have HSET := Lib.hid (show ∀ b, (w2.heap.size ≤ b ∧ ¬ FL3 b) → L.B0 ≤ b ∧ b ≠ L.BK from fun b hb => ⟨by omega, fun e => hb.2 (e ▸ hst3.flK)⟩)
    obtain ⟨hx0, hx1, hx2⟩ : w4.cell? ⟨BX, 0, none⟩ = some (.int .i64 0) ∧ w4.cell? ⟨BX, 1, none⟩ = some (.slice A nA cA) ∧ w4.cell? ⟨BX, 2, none⟩ = some (.slice N n cN) := by simp [World.cell?, hbx4]
    clear hA hN hclo hpre hst3 hl3 ho3 hsub hnew hv hd0 hrl hnr3 hrc3 hBX hw4 hb4 hbx4 hnx hcan
    go_wp2_with fail
    rw [← HW4.out, ← HBX.out]
    clear hx0 hx1 hx2
    refine HCAN.out.mono ?_
    rintro e w5 ⟨⟨A2, nA2, cA2, N2, n2, cN2, rfl, hA2, hN2⟩, hb5⟩
    have hst5 := HST4.out.below HL.out hb5
    have hcv := canon_valid HV.out
    have hcc : cols (canonD d) = L.T := by rw [canon_cols HV.out]; exact HCLO.out.cols
    have heq := HE.out.eq ws3 q w5 (fun b => w4.heap.size ≤ b) A2 nA2 cA2 N2 n2 cN2 (canonD d) hst5.inv hst5.le (by omega) hA2 hN2 (fun b hb => by omega) hcv hcc (by have h1 := canon_le HV.out; have h2 := HRL.out; omega) (canon_small HV.out HCLO.out.small)
    rw [canon_start HV.out] at heq
    have HEQ := Lib.hid heq
    have HST5 := Lib.hid hst5
    have hbx5 := (hb5.block BX (by omega)).trans HBX4.out
    have hrc5 := (hb5.block L.B0 (heap_lt HRC4.out)).trans HRC4.out
    have HBX5 := Lib.hid hbx5
    have HRC5 := Lib.hid hrc5
    have HA5 := Lib.hid (HA4.out.below hb5)
    have HN5 := Lib.hid (HN4.out.below hb5)
    have HCV := Lib.hid (And.intro hcv hcc)
    have hz5 : BX + 1 ≤ w5.heap.size := by have := hb5.size; omega
    have he := HE.out.enters
    clear hA2 hN2 hb5 hst5 hcv hcc heq hbx5 hrc5
    go_wp2_with fail
    refine HEQ.out.mono ?_
    rintro e w6 ⟨⟨yes, A6, n6, c6, l, rfl, hsl6, hinv6, hor⟩, ho6⟩
    have HST6 := Lib.hid (HST5.out.shown hinv6 ho6)
    have hbx6 := (ho6.block BX (by omega) (by omega)).trans HBX5.out
    have hrc6 := (ho6.block L.B0 (by omega) (by omega)).trans HRC5.out
    have HA6 := Lib.hid (HA5.out.keep (ho6.kept fun b hb => by have := HSET.out b hb; omega))
    have HN6 := Lib.hid (HN5.out.keep (ho6.kept fun b hb => by have := HSET.out b hb; omega))
    have HBX6 := Lib.hid hbx6
    have HRC6 := Lib.hid hrc6
    have HINV6 := Lib.hid hinv6
    have HSL6 := Lib.hid hsl6
    have hz6 : BX + 1 ≤ w6.heap.size := by have := ho6.size; omega
    obtain ⟨hx0, hx1, hx2⟩ : w6.cell? ⟨BX, 0, none⟩ = some (.int .i64 0) ∧ w6.cell? ⟨BX, 1, none⟩ = some (.slice A nA cA) ∧ w6.cell? ⟨BX, 2, none⟩ = some (.slice N n cN) := by simp [World.cell?, hbx6]
    clear hsl6 hinv6 ho6 hbx6 hrc6 he
    rcases hor with ⟨rfl, hall⟩ | ⟨rfl, hwo, hll, hne⟩
    · have hcan := dfaCanon w6 _ A nA cA N n cN d HA6.out HN6.out HV.out HCLO.out.small
      rw [HD0.out] at hcan
      have HCAN6 := Lib.hid hcan
      have HALL := Lib.hid hall
      clear hcan hall
      go_wp2_with fail
      refine HCAN6.out.mono ?_
      rintro e w7 ⟨⟨A7, nA7, cA7, N7, n7, cN7, rfl, hA7, hN7⟩, hb7⟩
      have hres := (hb7.block L.B0 (heap_lt HRC6.out)).trans HRC6.out
      obtain ⟨hr0, hr1, hr2⟩ : w7.cell? ⟨L.B0, 0, none⟩ = some (.int .i64 0) ∧ w7.cell? ⟨L.B0, 1, none⟩ = some (.slice none 0 0) ∧ w7.cell? ⟨L.B0, 2, none⟩ = some (.slice none 0 0) := by simp [World.cell?, hres]
      have hf0 : w7.frozen? ⟨L.B0, 0, none⟩ = false := by simp [World.frozen?, hres]
      have hf1 : w7.frozen? ⟨L.B0, 1, none⟩ = false := by simp [World.frozen?, hres]
      have hf2 : w7.frozen? ⟨L.B0, 2, none⟩ = false := by simp [World.frozen?, hres]
      have HA7 := Lib.hid hA7
      have HN7 := Lib.hid hN7
      have HB7 := Lib.hid hb7
      clear hA7 hN7 hb7 hres hx0 hx1 hx2
      go_wp2_with fail
      refine bodyPost_ret (v := .tuple #[.agg #[.int .i64 0, .slice A7 nA7 cA7, .slice N7 n7 cN7], .int .i64 0]) (by simp [results, Try.results20, go_sem, hr0, hr1, hr2]) rfl ?_
      obtain ⟨w9, hw9⟩ : ∃ w9 : World, w9 = ((w7.setCell ⟨L.B0, 0, none⟩ (.int .i64 0)).setCell ⟨L.B0, 1, none⟩ (.slice A7 nA7 cA7)).setCell ⟨L.B0, 2, none⟩ (.slice N7 n7 cN7) := ⟨_, rfl⟩
      have hset : ∀ (u : World) (i : Nat) (v : Value), Only u (u.setCell ⟨L.B0, i, none⟩ v) (fun b => b = L.B0) := fun u i v => .set _ _ _ _ rfl
      have hon : Only w7 w9 (fun b => b = L.B0) := by rw [hw9]; exact ((hset _ 0 _).trans (hset _ 1 _)).trans (hset _ 2 _)
      rw [← hw9]
      have hz7 := HB7.out.size
      have hz9 := hon.size
      have hfew := HCLO.out.w.dist.few HCV.out.1 HCV.out.2 (fun l hl => by rw [canon_accept HV.out (by unfold WOk; rw [HCLO.out.cols]; exact hl)]; exact (by
        have := HALL.out l hl
        rw [canon_accept HV.out (by unfold WOk; rw [HCLO.out.cols]; exact hl)] at this
        exact this)) (fun t hm => (HTW.out t hm).1) HCLO.out.w.ok
      refine ⟨A7, nA7, cA7, N7, n7, cN7, d, ws3, q + 1, rfl, (HA7.out.keep (hon.kept fun b hb => by omega)).more fun b hb => by omega, (HN7.out.keep (hon.kept fun b hb => by omega)).more fun b hb => by omega, HV.out, HCLO.out.cols, fun l hl => ?_, HCLO.out.small, ?_, by omega, by omega⟩
      · have := HALL.out l hl
        rwa [canon_accept HV.out (by unfold WOk; rw [HCLO.out.cols]; exact hl)] at this
      · exact HL.out.keep _ _ _ _ HINV6.out ((Only.of_below HB7.out (Nat.le_refl _) _).trans (hon.more fun b _ h => by omega))
    · have hn6 : n6 ≤ 500 := by have := HSL6.out.len; omega
      have hne' : daccept d l ≠ L.acc l := by
        rw [canon_accept HV.out (by unfold WOk; rw [HCLO.out.cols]; exact hwo)] at hne
        exact hne
      have HWO := Lib.hid hwo
      have HNE := Lib.hid hne'
      have HLL := Lib.hid hll
      clear hwo hne hne' hll hx0 hx1 hx2
      go_wp2_with fail
      refine (cloneInt A6 n6 c6 _ (l.map (Value.int .i64)) w6 HSL6.out.ints (by omega)).mono ?_
      rintro e w7 ⟨v7, rfl, ho7, hb7⟩
      obtain ⟨A7, c7, rfl, hc7, _⟩ := ho7.form
      have HX7 := Lib.hid (ho7.rd.slInts hc7)
      have HST7 := Lib.hid (HST6.out.below HL.out hb7)
      have HA7 := Lib.hid (HA6.out.below hb7)
      have HN7 := Lib.hid (HN6.out.below hb7)
      have hbx7 := (hb7.block BX (by omega)).trans HBX6.out
      have HBX7 := Lib.hid hbx7
      have HRC7 := Lib.hid ((hb7.block L.B0 (by omega)).trans HRC6.out)
      have hz7 : w6.heap.size ≤ w7.heap.size := hb7.size
      have hwr := learnWrong L HL.out w7 FL3 ws3 (q + 1) vA3 vT vR3 acc3 tests HST7.out _ A nA cA N n cN d HA7.out HN7.out HSET.out HV.out HCLO.out.cols _ A7 n6 c7 l HX7.out HWO.out (by have := HLL.out; omega) (fun k => by
        obtain ⟨j, u, e, _⟩ := HCLO.out.run _ (HWO.out.take k)
        rw [e]; omega) HNE.out (by have := HL3.out; omega)
      rw [HD0.out] at hwr
      have HWR := Lib.hid hwr
      obtain ⟨hx0, hx1, hx2⟩ : w7.cell? ⟨BX, 0, none⟩ = some (.int .i64 0) ∧ w7.cell? ⟨BX, 1, none⟩ = some (.slice A nA cA) ∧ w7.cell? ⟨BX, 2, none⟩ = some (.slice N n cN) := by simp [World.cell?, hbx7]
      clear ho7 hb7 hbx7 hwr
      go_wp2_with fail
      clear hx0 hx1 hx2
      refine HWR.out.mono ?_
      rintro e w8 ⟨rfl, hmp8⟩
      obtain ⟨ws8, hst8, hl8, ho8⟩ := hmp8
      have hBK := HBKX.out
      have hB0K : L.B0 ≠ L.BK := fun e => HNR3.out (e ▸ HST4.out.flK)
      have hbx8 := (ho8.block BX (by omega) (by omega)).trans HBX7.out
      have hrc8 := (ho8.block L.B0 (by omega) (by omega)).trans HRC7.out
      have hz8 : w7.heap.size ≤ w8.heap.size := ho8.size
      have hN8 := HN7.out.keep (ho8.keptS (L := L) HSET.out)
      have hx8 := HX7.out.keep (ho8.keptS (L := L) (fun b hb => by omega))
      have HSPL := Lib.hid (learnSplit L HL.out w8.drew FL3 ws8 (q + 1) vA3 vT vR3 acc3 tests (hst8.drew HL.out) _ A nA cA N n cN d hN8.drew HSET.out HV.out HCLO.out _ A7 n6 c7 l hx8.drew (fun b hb => by omega) HWO.out (by have := HLL.out; omega) HNE.out (by have := HL3.out; omega))
      rw [HD0.out] at HSPL
      have HST8 := Lib.hid hst8
      have HL8 := Lib.hid hl8
      have HBX8 := Lib.hid hbx8
      have HRC8 := Lib.hid hrc8
      have HS8 := Lib.hid (show w8.drew.cell? ⟨L.BL, 4, none⟩ = some vT ∧ w8.drew.cell? ⟨BX, 0, none⟩ = some (.int .i64 0) ∧ w8.drew.cell? ⟨BX, 1, none⟩ = some (.slice A nA cA) ∧ w8.drew.cell? ⟨BX, 2, none⟩ = some (.slice N n cN) from ⟨hst8.cells.2.2.2.2.1, by show w8.cell? _ = _; simp [World.cell?, hbx8], by show w8.cell? _ = _; simp [World.cell?, hbx8], by show w8.cell? _ = _; simp [World.cell?, hbx8]⟩)
      clear hst8 hl8 ho8 hbx8 hrc8 hN8 hx8
      go_wp2_with fail
      refine wp_region_late (late := [13]) (S1 := fun _ => True) (S := fun z => z.cell? ⟨L.BL, 4, none⟩ = some vT ∧ z.cell? ⟨BX, 0, none⟩ = some (.int .i64 0) ∧ z.cell? ⟨BX, 1, none⟩ = some (.slice A nA cA) ∧ z.cell? ⟨BX, 2, none⟩ = some (.slice N n cN)) (by kernel_rfl) ?_
      refine wpAnyL_pure (i := 0) rfl (by kernel_rfl) (fun _ _ _ h => h) (Or.inl ⟨by rfl, (fun u hu => by go_simp; try rfl)⟩) trivial (fun _ => HS8.out) ?_
      simp only [Act.put, List.setIfInBounds_toArray, List.set_cons_zero, List.set_cons_succ, List.getElem_toArray, List.getElem_cons_zero, List.getElem_cons_succ]
      refine wpAnyL_pure (i := 1) rfl (by kernel_rfl) (fun _ _ _ h => h) (Or.inl ⟨by rfl, (fun u hu => by go_simp; try rfl)⟩) trivial (fun _ => HS8.out) ?_
      simp only [Act.put, List.setIfInBounds_toArray, List.set_cons_zero, List.set_cons_succ, List.getElem_toArray, List.getElem_cons_zero, List.getElem_cons_succ]
      refine wpAnyL_pure (i := 2) rfl (by kernel_rfl) (fun _ _ _ h => h) (Or.inl ⟨by rfl, (fun u hu => by go_simp; try rfl)⟩) trivial (fun _ => HS8.out) ?_
      simp only [Act.put, List.setIfInBounds_toArray, List.set_cons_zero, List.set_cons_succ, List.getElem_toArray, List.getElem_cons_zero, List.getElem_cons_succ]
      refine wpAnyL_pure (i := 3) rfl (by kernel_rfl) (fun _ _ _ h => h) (Or.inl ⟨by rfl, (fun u hu => by go_simp; try rfl)⟩) trivial (fun _ => HS8.out) ?_
      simp only [Act.put, List.setIfInBounds_toArray, List.set_cons_zero, List.set_cons_succ, List.getElem_toArray, List.getElem_cons_zero, List.getElem_cons_succ]
      refine wpAnyL_take (i := 4) rfl (by kernel_rfl) (fun _ _ _ h => h) (Or.inl ⟨by rfl, (fun u hu => by obtain ⟨_, k0, k1, k2, k3⟩ := hu; go_simp; try rfl)⟩) trivial (fun _ => HS8.out) ?_
      simp only [Act.put, List.setIfInBounds_toArray, List.set_cons_zero, List.set_cons_succ, List.getElem_toArray, List.getElem_cons_zero, List.getElem_cons_succ]
      refine wpAnyL_pure (i := 5) rfl (by kernel_rfl) (fun _ _ _ h => h) (Or.inl ⟨by rfl, (fun u hu => by go_simp; try rfl)⟩) trivial (fun _ => HS8.out) ?_
      simp only [Act.put, List.setIfInBounds_toArray, List.set_cons_zero, List.set_cons_succ, List.getElem_toArray, List.getElem_cons_zero, List.getElem_cons_succ]
      refine wpAnyL_take (i := 6) rfl (by kernel_rfl) (fun _ _ _ h => h) (Or.inl ⟨by rfl, (fun u hu => by obtain ⟨_, k0, k1, k2, k3⟩ := hu; go_simp; try rfl)⟩) trivial (fun _ => HS8.out) ?_
      simp only [Act.put, List.setIfInBounds_toArray, List.set_cons_zero, List.set_cons_succ, List.getElem_toArray, List.getElem_cons_zero, List.getElem_cons_succ]
      refine wpAnyL_pure (i := 7) rfl (by kernel_rfl) (fun _ _ _ h => h) (Or.inl ⟨by rfl, (fun u hu => by go_simp; try rfl)⟩) trivial (fun _ => HS8.out) ?_
      simp only [Act.put, List.setIfInBounds_toArray, List.set_cons_zero, List.set_cons_succ, List.getElem_toArray, List.getElem_cons_zero, List.getElem_cons_succ]
      refine wpAnyL_ready (rs := [8]) (by kernel_rfl) (by simp) ?_
      refine AllL.cons rfl (fun K hK => ?_) ?_
      · go_simp
        refine HSPL.out.mono ?_
        rintro e w9 ⟨i, A9, c9, rfl, hil, hs1, hs2, hsl9, ws9, hst9, hl9, ho9⟩
        have HST9 := Lib.hid hst9
        have HSL9 := Lib.hid hsl9
        have HL9 := Lib.hid hl9
        have HIL := Lib.hid (And.intro hil (And.intro hs1 hs2))
        have hz9 : w8.heap.size ≤ w9.heap.size := ho9.size
        have hbx9 : w9.heap[BX]? = some (.cells #[.int .i64 0, .slice A nA cA, .slice N n cN] 25 (0, 0)) := (ho9.block BX (by show BX < w8.heap.size; omega) (by omega)).trans HBX8.out
        have hrc9 : w9.heap[L.B0]? = some (.cells #[.int .i64 0, .slice none 0 0, .slice none 0 0] 25 (0, 0)) := (ho9.block L.B0 (by show L.B0 < w8.heap.size; omega) (by omega)).trans HRC8.out
        have HBX9 := Lib.hid hbx9
        have HRC9 := Lib.hid hrc9
        have HS9 := Lib.hid (show w9.cell? ⟨L.BL, 4, none⟩ = some vT ∧ w9.cell? ⟨BX, 0, none⟩ = some (.int .i64 0) ∧ w9.cell? ⟨BX, 1, none⟩ = some (.slice A nA cA) ∧ w9.cell? ⟨BX, 2, none⟩ = some (.slice N n cN) from ⟨HST9.out.cells.2.2.2.2.1, by simp [World.cell?, hbx9], by simp [World.cell?, hbx9], by simp [World.cell?, hbx9]⟩)
        clear hil hs1 hs2 hsl9 hst9 hl9 ho9 hbx9 hrc9
        refine hK.out _ _ trivial (fun _ => HS9.out) ?_
        clear hK K
        refine wpAnyL_ready (rs := [9]) (by kernel_rfl) (by simp) ?_
        refine AllL.cons rfl (fun K hK => ?_) ?_
        · go_simp
          refine hK.out _ _ trivial (fun _ => ⟨(World.cell?_alloc_lt _ _ _ (cell_lt HS9.out.1)).trans HS9.out.1, (World.cell?_alloc_lt _ _ _ (cell_lt HS9.out.2.1)).trans HS9.out.2.1, (World.cell?_alloc_lt _ _ _ (cell_lt HS9.out.2.2.1)).trans HS9.out.2.2.1, (World.cell?_alloc_lt _ _ _ (cell_lt HS9.out.2.2.2)).trans HS9.out.2.2.2⟩) ?_
          clear hK K
          refine wpAnyL_ready (rs := [10]) (by kernel_rfl) (by simp) ?_
          refine AllL.cons rfl (fun K hK => ?_) ?_
          · obtain ⟨A11, c11, w11, FL11, hrun, hst11, ho11, hrow11, hsub11, hnew11, hbl11⟩ := HST9.out.pushT HL.out (x := l.drop (i + 1)) HSL9.out (fun b hb => ⟨fun hf => by have h1 := HST8.out.flz b hf; have h2 : w8.heap.size ≤ b := hb; omega, by have h2 : w8.heap.size ≤ b := hb; omega⟩) (by omega)
            have HRUN := Lib.hid hrun
            have HST11 := Lib.hid hst11
            have hnT : ∀ b, ¬ FL3 b → rowOf vT ≠ some b := fun b hb e => hb (HST9.out.rowT e).1
            have hbx11 : w11.heap[BX]? = some (.cells #[.int .i64 0, .slice A nA cA, .slice N n cN] 25 (0, 0)) := (ho11.block BX (by omega) (hnT BX HNX.out)).trans HBX9.out
            have hrc11 : w11.heap[L.B0]? = some (.cells #[.int .i64 0, .slice none 0 0, .slice none 0 0] 25 (0, 0)) := (ho11.block L.B0 (by omega) (hnT L.B0 HNR3.out)).trans HRC9.out
            have hbl := hbl11.trans HST9.out.box
            have HBL11 := Lib.hid hbl
            have HRC11 := Lib.hid hrc11
            have HZ11 := Lib.hid (show w9.heap.size ≤ w11.heap.size from ho11.size)
            have HNR11 := Lib.hid (show ¬ FL11 L.B0 from fun hf => by
              rcases hnew11 _ hf with h | h | h
              · exact HNR3.out h
              · have h2 : w8.heap.size ≤ L.B0 := h
                omega
              · omega)
            have HS11 := Lib.hid (show w11.cell? ⟨L.BL, 4, none⟩ = some vT ∧ w11.cell? ⟨BX, 0, none⟩ = some (.int .i64 0) ∧ w11.cell? ⟨BX, 1, none⟩ = some (.slice A nA cA) ∧ w11.cell? ⟨BX, 2, none⟩ = some (.slice N n cN) from ⟨by simp [World.cell?, hbl], by simp [World.cell?, hbx11], by simp [World.cell?, hbx11], by simp [World.cell?, hbx11]⟩)
            clear hrun hst11 ho11 hrow11 hsub11 hnew11 hbl11 hnT hbx11 hrc11 hbl
            refine step_append_run _ (by rfl) _ _ _ _ (by rfl) _ _ (by rfl) (by rfl) _ _ HRUN.out ?_
            simp only [Act.put, List.setIfInBounds_toArray, List.set_cons_zero, List.set_cons_succ, List.getElem_toArray, List.getElem_cons_zero, List.getElem_cons_succ]
            refine hK.out _ _ trivial (fun _ => HS11.out) ?_
            clear hK K
            refine wpAnyL_pure (i := 11) rfl (by kernel_rfl) (fun _ _ _ h => h) (Or.inl ⟨by rfl, (fun u hu => by go_simp; try rfl)⟩) trivial (fun _ => HS11.out) ?_
            simp only [Act.put, List.setIfInBounds_toArray, List.set_cons_zero, List.set_cons_succ, List.getElem_toArray, List.getElem_cons_zero, List.getElem_cons_succ]
            refine wpAnyL_pure (i := 12) rfl (by kernel_rfl) (fun _ _ _ h => h) (Or.inl ⟨by rfl, (fun u hu => by go_simp; try rfl)⟩) trivial (fun _ => HS11.out) ?_
            simp only [Act.put, List.setIfInBounds_toArray, List.set_cons_zero, List.set_cons_succ, List.getElem_toArray, List.getElem_cons_zero, List.getElem_cons_succ]
            refine wpAnyL_ready (rs := [13]) (by kernel_rfl) (by simp) ?_
            refine AllL.cons rfl (fun K hK => ?_) ?_
            · have hc := HS11.out.1
              have hf : w11.frozen? ⟨L.BL, 4, none⟩ = false := by simp [World.frozen?, HBL11.out]
              go_simp
              clear hc hf
              refine hK.out _ _ trivial (fun h => absurd (h 13 (by simp)) (by decide)) ?_
              clear hK K
              refine wpAnyL_done (by kernel_rfl) ?_ _
              go_wp2_with fail
              go_roundg (30 - (q + 1))
              case measure => rw [HGK.out]; omega
              case rel =>
                have hbl := HST9.out.lt
                have hB0L : L.B0 ≠ L.BL := fun e => HNR3.out (e ▸ HST9.out.flL)
                refine ⟨q + 1, FL11, ws9, vA3, _, vR3, acc3, tests ++ [l.drop (i + 1)], by omega, rfl, HST11.out, ⟨HCLO.out.w.dist.more _, HCLO.out.w.hd, HCLO.out.w.ok, HCLO.out.w.short⟩, fun t ht => ?_, by rw [List.length_append, List.length_singleton]; omega, .inr ⟨hq1, HCLO.out.split HWO.out HIL.out.1 HIL.out.2.1 HIL.out.2.2⟩, by have h1 := HL3.out; have h2 := HL8.out; have h3 := HL9.out; omega, ?_, HNR11.out, by have := HZ11.out; simp; omega⟩
                · rcases List.mem_append.1 ht with ht | ht
                  · exact HTW.out t ht
                  · obtain rfl := List.mem_singleton.1 ht
                    exact ⟨HWO.out.drop _, by have := HLL.out; rw [List.length_drop]; omega⟩
                · rw [Below.heap_setCell _ _ _ _ hB0L]
                  exact HRC11.out
            exact AllL.nil
          exact AllL.nil
        exact AllL.nil
      exact AllL.nil
end Go.Proofs.Ytgaahpddlohjoaa
