/- LearnFew: its walk. -/
import Derived.Test.YtgaahpddlohjoaaLearnOf
import Derived.Test.YtgaahpddlohjoaaTEqual
import Derived.Test.YtgaahpddlohjoaaDfaOf
import Derived.Deep.CutBlock
import Derived.BigQuiet
import Derived.Deep.QuietTactic
namespace Go.Proofs.Ytgaahpddlohjoaa
open Go.RowKit Go.Maps

/-- what the closures of LearnFew hold -/
structure FewInv (w0 : World) (d : DfaD) (S S2 : Nat → Prop) (Bt Bc Bd B0 : Nat) (ws : List (List Int)) (q : Nat) (w : World) : Prop where
  bel : Below w0.heap.size w0 w
  bc : w.heap[Bc]? = some (.cells #[.pointer (some ⟨Bt, 0, none⟩)] 27 (0, 0))
  te : TeachB w S Bt (plainD d) (ws.length : Int) (q : Int)
  bd : ∃ A nA cA N n cN, w.heap[Bd]? = some (.cells #[.int .i64 d.1, .slice A nA cA, .slice N n cN] 25 (0, 0)) ∧ Sl Rep.int w S2 A nA cA d.2.1 ∧ Sl RI w S2 N n cN d.2.2
  ne : Bt ≠ Bc ∧ Bt ≠ Bd ∧ ¬ S Bt ∧ ¬ S2 Bt
  lt : w0.heap.size ≤ Bt ∧ Bt < B0 ∧ Bc < B0 ∧ Bd < B0 ∧ (∀ b, S b → b < B0) ∧ ∀ b, S2 b → b < B0
  le : B0 ≤ w.heap.size
section
variable {w0 w w' : World} {d : DfaD} {S S2 X : Nat → Prop} {Bt Bc Bd B0 q : Nat} {ws : List (List Int)}
theorem FewInv.only (h : FewInv w0 d S S2 Bt Bc Bd B0 ws q w) (ho : Only w w' X) (hX : ∀ b, b < B0 → ¬ X b) : FewInv w0 d S S2 Bt Bc Bd B0 ws q w' := by
  obtain ⟨l1, l2, l3, l4, l5, l6⟩ := h.lt
  have hle := h.le
  have hb : Below w0.heap.size w w' := ⟨ho.os, ho.tape, ho.output, ho.size, fun b hb => ho.block b (by omega) (hX b (by omega))⟩
  obtain ⟨A, nA, cA, N, n, cN, k1, k2, k3⟩ := h.bd
  exact ⟨h.bel.trans hb, (ho.block _ (by omega) (hX _ l3)).trans h.bc, h.te.keep (ho.kept fun b hb => hX b (l5 b hb)) (ho.block _ (by omega) (hX _ l2)), ⟨A, nA, cA, N, n, cN, (ho.block _ (by omega) (hX _ l4)).trans k1, k2.keep (ho.kept fun b hb => hX b (l6 b hb)), k3.keep (ho.kept fun b hb => hX b (l6 b hb))⟩, h.ne, h.lt, Nat.le_trans hle ho.size⟩
theorem FewInv.below (h : FewInv w0 d S S2 Bt Bc Bd B0 ws q w) (hb : Below w.heap.size w w') : FewInv w0 d S S2 Bt Bc Bd B0 ws q w' := h.only (X := fun _ => False) (.of_below hb (Nat.le_refl _) _) fun _ _ h => h
theorem FewInv.told {ws' : List (List Int)} {q' : Nat} (h : FewInv w0 d S S2 Bt Bc Bd B0 ws q w) (ht : TeachB w' S Bt (plainD d) (ws'.length : Int) (q' : Int)) (hg : w.grownBy w' (some Bt)) : FewInv w0 d S S2 Bt Bc Bd B0 ws' q' w' ∧ Only w w' (fun b => b < B0) := by
  have ho : Only w w' (fun b => b = Bt) := .of_grown hg fun b e => by injection e with e; exact e.symm
  obtain ⟨l1, l2, l3, l4, l5, l6⟩ := h.lt
  obtain ⟨n1, n2, n3, n4⟩ := h.ne
  have hle := h.le
  have hb : Below w0.heap.size w w' := ⟨ho.os, ho.tape, ho.output, ho.size, fun b hb => ho.block b (by omega) (by omega)⟩
  obtain ⟨A, nA, cA, N, n, cN, k1, k2, k3⟩ := h.bd
  have hS : Kept S2 w w' := ho.kept fun b hb e => n4 (e ▸ hb)
  exact ⟨⟨h.bel.trans hb, (ho.block _ (by omega) (Ne.symm n1)).trans h.bc, ht, ⟨A, nA, cA, N, n, cN, (ho.block _ (by omega) (Ne.symm n2)).trans k1, k2.keep hS, k3.keep hS⟩, h.ne, h.lt, Nat.le_trans hle ho.size⟩, ho.more fun b _ e => by omega⟩
set_option linter.unusedSimpArgs false in
set_option maxRecDepth 1000000 in
set_option maxHeartbeats 4000000 in
theorem fewAsk (h : FewInv w0 d S S2 Bt Bc Bd B0 ws q w) (hv : Valid d) (Sx : Nat → Prop) (A : Option Addr) (n c : Nat) (x : List Int) (hx : Sl Rep.int w Sx A n c x) (hw : WOkT (cols d) x) (hl : x.length ≤ 2000) (hws : ws.length ≤ 100000000) :
    Calls Try.prog 24 #[.slice A n c, .pointer (some ⟨Bc, 0, none⟩)] w fun e w' => e = .returned (.bool (daccept d x)) ∧ FewInv w0 d S S2 Bt Bc Bd B0 (ws ++ [x]) q w' ∧ Only w w' (fun b => b < B0) := by
  have hnx : n ≤ 2000 := by have := hx.len; omega
  have hk : w.cell? ⟨Bc, 0, none⟩ = some (.pointer (some ⟨Bt, 0, none⟩)) := by simp [World.cell?, h.bc]
  have HM := Lib.hid (teachMember w S Bt (plainD d) (ws.length : Int) (q : Int) h.te (plain_valid hv) (by omega) h.ne.2.2.1 Sx A n c x hx hnx hw)
  have HI := Lib.hid h
  have HP := Lib.hid (plain_accept d x)
  clear h hv hx hw hl
  go_enter Try.func24, Try.ntmps24
  go_wp2_with fail
  refine HM.out.mono ?_
  rintro e w1 ⟨rfl, ht, hg⟩
  have HT := Lib.hid (HI.out.told (ws' := ws ++ [x]) (q' := q) (by rw [List.length_append, List.length_singleton]; exact ht) hg)
  clear ht hg hk
  go_wp2_with fail
  go_ret
  exact ⟨by first | rfl | (rw [HP.out]; rfl), HT.out.1, HT.out.2⟩
/-- whom LearnFew asks -/
def fewL (w0 : World) (d : DfaD) (S S2 : Nat → Prop) (Bt Bc Bd B0 : Nat) : LCtx := ⟨B0, B0 + 6, B0 + 1, cols d, daccept d, d, 24, #[.pointer (some ⟨Bc, 0, none⟩)], fun ws q w => FewInv w0 d S S2 Bt Bc Bd B0 ws q w⟩
theorem fewOk (hv : Valid d) (hn : d.2.2.length ≤ 20) : (fewL w0 d S S2 Bt Bc Bd B0).Ok where
  bl := by show B0 ≤ B0 + 6; omega
  bk := by show B0 ≤ B0 + 1; omega
  ne := by show B0 + 6 ≠ B0 + 1; omega
  t1 := hv.c1
  t2 := hv.c2
  val := hv
  few := hn
  cols := rfl
  lang := fun _ _ => rfl
  keep := fun ws q w w' h ho => FewInv.only h ho fun b hb hx => by
    have hx' : B0 ≤ b := hx
    omega
  enters := enters_of Try.func24 (by kernel_rfl) rfl
  ask := fun ws q w Sx A n c x hi _ hws hx hw hl _ => fewAsk hi hv Sx A n c x hx hw hl hws
set_option linter.unusedSimpArgs false in
set_option maxRecDepth 1000000 in
set_option maxHeartbeats 4000000 in
theorem fewShow (h : FewInv w0 d S S2 Bt Bc Bd B0 ws q w) (hv : Valid d) (hq : q ≤ 100) (S' : Nat → Prop) (A' : Option Addr) (nA' cA' : Nat) (N' : Option Addr) (n' cN' : Nat) (b : DfaD) (hA' : Sl Rep.int w S' A' nA' cA' b.2.1) (hN' : Sl RI w S' N' n' cN' b.2.2) (hS' : ∀ b, S' b → B0 ≤ b) (hv' : Valid b) (hcc : cols b = cols d) :
    Calls Try.prog 26 #[.agg #[.int .i64 b.1, .slice A' nA' cA', .slice N' n' cN'], .pointer (some ⟨Bc, 0, none⟩)] w fun e w' => (∃ (Ao : Option Addr) (co : Nat) (l : List Int) (dif : Bool), e = .returned (.tuple #[.bool (!dif), .slice Ao l.length co]) ∧ DiffR (plainD d) b w.heap.size l dif Ao co w') ∧ FewInv w0 d S S2 Bt Bc Bd B0 ws (q + 1) w' ∧ Only w w' (fun b => b < B0) := by
  obtain ⟨w1, hw1⟩ : ∃ w1 : World, w1 = w.alloc (.cells #[.int .i64 b.1, .slice A' nA' cA', .slice N' n' cN'] 25) := ⟨_, rfl⟩
  have hb1 : Below w.heap.size w w1 := by rw [hw1]; exact (Below.refl _ _).alloc (Nat.le_refl _) _
  have h1 := h.below hb1
  have hlt := h.lt
  have hk : w.cell? ⟨Bc, 0, none⟩ = some (.pointer (some ⟨Bt, 0, none⟩)) := by simp [World.cell?, h.bc]
  have HM := Lib.hid (teachEqualYes w1 S Bt (plainD d) (ws.length : Int) (q : Int) h1.te (plain_valid hv) (by omega) h.ne.2.2.1 S' A' nA' cA' N' n' cN' b (hA'.below hb1) (hN'.below hb1) hv' hcc (fun hs => by have := hS' _ hs; omega))
  have HI := Lib.hid h1
  have HB1 := Lib.hid hb1
  have HW1 := Lib.hid hw1
  have hz1 : w.heap.size ≤ w1.heap.size := hb1.size
  have hBc : Bc < w.heap.size := heap_lt h.bc
  clear h hv hA' hN' hS' hv' hcc hw1 hb1 h1 hlt
  go_enter Try.func26, Try.ntmps26
  go_wp2_with fail
  rw [← HW1.out]
  refine HM.out.mono ?_
  rintro e w2 ⟨⟨Ao, co, l, dif, rfl, hdr⟩, ht, hg⟩
  have HT := Lib.hid (HI.out.told (ws' := ws) (q' := q + 1) (by simpa using ht) hg)
  have HDR := Lib.hid hdr
  clear ht hg hk hdr
  go_wp2_with fail
  go_ret2
  refine ⟨⟨Ao, co, l, dif, rfl, ?_⟩, HT.out.1, (Only.of_below HB1.out (Nat.le_refl _) _).trans HT.out.2⟩
  rcases HDR.out with h | ⟨h1, h2, h3⟩
  · exact .inl h
  · exact .inr ⟨h1, h2.more fun g hg => by omega, h3⟩
theorem fewEq (hv : Valid d) (hn : d.2.2.length ≤ 20) : EqOk (fewL w0 d S S2 Bt Bc Bd B0) 26 #[.pointer (some ⟨Bc, 0, none⟩)] where
  enters := enters_of Try.func26 (by kernel_rfl) rfl
  eq := fun ws q w S' A' nA' cA' N' n' cN' b hi _ hq hA hN hS hvb hcc hlen _ => by
    have hi' : FewInv w0 d S S2 Bt Bc Bd B0 ws q w := hi
    refine (fewShow hi' hv hq S' A' nA' cA' N' n' cN' b hA hN hS hvb hcc).mono ?_
    rintro e w' ⟨⟨Ao, co, l, dif, rfl, hdr⟩, hin, ho⟩
    refine ⟨?_, ho⟩
    rcases hdr with ⟨rfl, rfl, hall⟩ | ⟨rfl, hsl, hw, hlen', hne, _⟩
    · exact ⟨true, Ao, 0, co, [], rfl, Sl.nil _ _ _ _, hin, .inl ⟨rfl, fun l hl => by
        have := hall l hl
        rw [plain_accept] at this
        exact this.symm⟩⟩
    · refine ⟨false, Ao, l.length, co, l, rfl, hsl, hin, .inr ⟨rfl, hw, ?_, fun e => hne (by rw [plain_accept]; exact e.symm)⟩⟩
      have h1 : ((plainD d).2.2.length + 1) * (b.2.2.length + 1) ≤ 21 * 22 := Nat.mul_le_mul (by show d.2.2.length + 1 ≤ 21; omega) (by omega)
      omega
end
set_option linter.unusedSimpArgs false in
set_option maxRecDepth 1000000 in
set_option maxHeartbeats 8000000 in
theorem learnFew_walk (W : World) (A0 : Option Addr) (n0 c0 : Nat) (z0 : List Int) (le0 : n0 ≤ c0) (cap0 : c0 ≤ 17592186043904) (rd0 : Rd W (fun _ => True) 1 A0 n0 (z0.map (Value.int .i64))) (_rg0 : ∀ z ∈ z0, -9223372036854775808 ≤ z ∧ z ≤ 9223372036854775807) :
    Calls Try.prog 5 #[.slice A0 n0 c0] W fun e W' => e = .returned (.bool true) ∧ Below W.heap.size W W' := by
  have HR0 := Lib.hid (rd0.slInts le0)
  have HV := Lib.hid (dfaOf_valid z0)
  have HN6 := Lib.hid (dfaOf_len z0)
  clear rd0 _rg0
  go_enter Try.func5, Try.ntmps5
  go_wp2_with fail
  refine (makeDfa _ _ _ _ _ z0 HR0.out (by omega)).mono ?_
  rintro e w1 ⟨By, vA, vN, xs, hBy, rfl, hD, hb1⟩
  obtain ⟨d, hd⟩ : ∃ d, d = dfaOf z0 := ⟨_, rfl⟩
  rw [← hd] at hD HV HN6 ⊢
  clear hd
  obtain ⟨A, cA, rfl, hcA, _⟩ := hD.ownA.form
  obtain ⟨N, cN, rfl, hcN, _⟩ := hD.ownN.form
  obtain ⟨hsA, hsN⟩ := hD.sl
  obtain ⟨nA, hnA⟩ : ∃ k, k = d.2.1.length := ⟨_, rfl⟩
  obtain ⟨n, hn⟩ : ∃ k, k = d.2.2.length := ⟨_, rfl⟩
  rw [← hnA] at hsA hcA ⊢
  rw [← hn] at hsN hcN ⊢
  have HSA := Lib.hid hsA.fit
  have HSN := Lib.hid hsN.fit
  have HB1 := Lib.hid hb1
  obtain ⟨bN, oN, AR, cR, hNe, hcR, hn0, hn0'⟩ := teach_row HSN.out HV.out
  subst hNe
  have hbN : bN < w1.heap.size := cell_lt hcR
  obtain ⟨B, hB⟩ : ∃ B, B = w1.heap.size := ⟨_, rfl⟩
  have hBW : W.heap.size ≤ B := by rw [hB]; exact hb1.size
  obtain ⟨w2, hw2⟩ : ∃ w2 : World, w2 = w1.alloc (.cells #[.int .i64 d.1, .slice A nA cA, .slice (some ⟨bN, oN, none⟩) n cN] 25) := ⟨_, rfl⟩
  have hb2 : Below w1.heap.size w1 w2 := by rw [hw2]; exact (Below.refl _ _).alloc (Nat.le_refl _) _
  have hz2 : w2.heap.size = B + 1 := by rw [hw2, hB]; simp
  have hg2 : w2.heap[B]? = some (.cells #[.int .i64 d.1, .slice A nA cA, .slice (some ⟨bN, oN, none⟩) n cN] 25 (0, 0)) := by rw [hw2, hB]; exact heap_alloc_new w1 _
  have HSA2 := Lib.hid (HSA.out.below hb2)
  have HSN2 := Lib.hid (HSN.out.below hb2)
  have hcR2 := (hb2.cell (p := ⟨bN, oN, none⟩) hbN).trans hcR
  have HNEW := Lib.hid (teachNew w2 _ A nA cA (some ⟨bN, oN, none⟩) n cN d HSA2.out HSN2.out HV.out)
  have HG2 := Lib.hid hg2
  have HCR2 := Lib.hid hcR2
  have HB2 := Lib.hid (HB1.out.trans (hb2.mono HB1.out.size))
  have HW2 := Lib.hid hw2
  have HBE := Lib.hid hB
  have HZ2 := Lib.hid hz2
  clear hb1 hD hsA hsN hnA hn hw2 hb2 hz2 hg2 hcR hcR2 hB HSA HSN
  go_wp2_with fail
  rw [← HW2.out, ← HBE.out]
  refine HNEW.out.mono ?_
  rintro e w3 ⟨Bt, rfl, hBt, hT, hb3⟩
  have hz3 : B + 1 ≤ w3.heap.size := by have := hb3.size; have := HZ2.out; omega
  have hBt3 : Bt < w3.heap.size := hT.lt
  have hBt2 : B + 1 ≤ Bt := by have := HZ2.out; omega
  have hg3 := (hb3.block B (by have := HZ2.out; omega)).trans HG2.out
  have HT3 := Lib.hid hT
  have HB3 := Lib.hid (HB2.out.trans (hb3.mono HB2.out.size))
  have hbNB : bN < B := by have := HBE.out; omega
  have HSA3 := Lib.hid (HSA2.out.below hb3)
  have HSN3 := Lib.hid (HSN2.out.below hb3)
  have hcR3 := (hb3.cell (p := ⟨bN, oN, none⟩) (by have := HZ2.out; show bN < w2.heap.size; omega)).trans HCR2.out
  obtain ⟨Bc, hBc⟩ : ∃ Bc, Bc = w3.heap.size := ⟨_, rfl⟩
  obtain ⟨w4, hw4⟩ : ∃ w4 : World, w4 = w3.alloc (.cells #[.pointer (some ⟨Bt, 0, none⟩)] 27) := ⟨_, rfl⟩
  have hz4 : w4.heap.size = Bc + 1 := by rw [hw4, hBc]; simp
  have hb4 : Below w3.heap.size w3 w4 := by rw [hw4]; exact (Below.refl _ _).alloc (Nat.le_refl _) _
  have hinv4 : FewInv W d (fun b => w2.heap.size ≤ b ∧ b < Bt) (fun b => By + 1 ≤ b ∧ b < w1.heap.size) Bt Bc B (Bc + 1) [] 0 w4 := by
    have h1 := HBE.out
    refine ⟨HB3.out.trans (hb4.mono HB3.out.size), ?_, hT.below hb4, ⟨A, nA, cA, _, n, cN, (hb4.block B (by omega)).trans hg3, HSA3.out.below hb4, HSN3.out.below hb4⟩, ⟨by omega, by omega, fun h => by omega, fun h => by omega⟩, ⟨by omega, by omega, by omega, by omega, fun b hb => by omega, fun b hb => by omega⟩, by omega⟩
    rw [hw4, hBc]
    exact heap_alloc_new w3 _
  have k2 : w4.cell? ⟨B, 2, none⟩ = some (.slice (some ⟨bN, oN, none⟩) n cN) := by
    have e := (hb4.block B (by omega)).trans hg3
    simp [World.cell?, e]
  have k0 : w4.cell? ⟨Bc, 0, none⟩ = some (.pointer (some ⟨Bt, 0, none⟩)) := by simp [World.cell?, hinv4.bc]
  have kr : w4.cell? ⟨bN, oN, none⟩ = some (.slice AR (cols d) cR) := (hb4.cell (cell_lt hcR3)).trans hcR3
  have HI4 := Lib.hid hinv4
  have HW4 := Lib.hid hw4
  have HBC := Lib.hid hBc
  have hcd : ((cols (plainD d) : Int) != (cols d : Int)) = false := by rw [show cols (plainD d) = cols d from rfl]; simp
  have hC1 := HV.out.c1
  have hC2 := HV.out.c2
  clear hT hb3 hg3 hcR3 hw4 hb4 hinv4 hBc hBt
  go_upto_block 3 with fail
  rw [← HW4.out, ← HBC.out]
  go_quiet ((go_at_call 14; exact quiet_leftE (teachSymbols _ _ Bt (plainD d) _ _ (HI4.out.te.below (belowN (Below.refl _ _) _)) (plain_valid HV.out))))
  clear hcd
  go_wp2_with fail
  obtain ⟨w5, hw5⟩ : ∃ w5, w5 = w4.drewN nq := ⟨_, rfl⟩
  have hb5 : Below w4.heap.size w4 w5 := by rw [hw5]; exact belowN (Below.refl _ _) _
  have hz5 : w5.heap.size = Bc + 1 := by rw [hw5]; exact hz4
  have hinv5 := HI4.out.below hb5
  rw [← hw5]
  clear hw5
  refine (teachSymbols w5 _ Bt (plainD d) _ _ hinv5.te (plain_valid HV.out)).mono ?_
  rintro e _ ⟨rfl, rfl⟩
  rw [show cols (plainD d) = cols d from rfl]
  have hof := learnOf (fewL W d (fun b => w2.heap.size ≤ b ∧ b < Bt) (fun b => By + 1 ≤ b ∧ b < w1.heap.size) Bt Bc B (Bc + 1)) (fewOk HV.out (by have := HN6.out; omega)) 26 #[.pointer (some ⟨Bc, 0, none⟩)] (fewEq HV.out (by have := HN6.out; omega)) w5 hz5.symm hinv5 (by show Bc + 1 + 1 = _; omega) (by show Bc + 1 + 6 = _; omega)
  have HOF := Lib.hid hof
  clear hof hb5 hinv5 k2 k0 kr
  go_wp2_with fail
  refine HOF.out.mono ?_
  rintro e w6 ⟨A6, nA6, cA6, N6, n6, cN6, dd, ws, q, rfl, hA6, hN6, hvd, hcd, hall, hsm, hinv6', hq, hz6'⟩
  have hinv6 : FewInv W d (fun b => w2.heap.size ≤ b ∧ b < Bt) (fun b => By + 1 ≤ b ∧ b < w1.heap.size) Bt Bc B (Bc + 1) ws q w6 := hinv6'
  have hz6 : Bc + 1 ≤ w6.heap.size := hz6'
  have hall' : ∀ l, WOkT (cols d) l → daccept dd l = daccept d l := hall
  have hcd' : cols dd = cols d := hcd
  have hn6 : n6 = (canonD dd).2.2.length := hN6.len
  have hn61 : 1 ≤ n6 := by rw [hn6]; exact (canon_valid hvd).n1
  have hne0 : ((n6 : Int) == 0) = false := by simp; omega
  have hqn : (q : Int) ≤ (n6 : Int) + 1 := by rw [hn6]; omega
  have hn6b : n6 ≤ 200 := by rw [hn6]; exact (canon_valid hvd).n2
  obtain ⟨w7, hw7⟩ : ∃ w7 : World, w7 = w6.alloc (.cells #[.int .i64 0, .slice A6 nA6 cA6, .slice N6 n6 cN6] 25) := ⟨_, rfl⟩
  have hb7 : Below w6.heap.size w6 w7 := by rw [hw7]; exact (Below.refl _ _).alloc (Nat.le_refl _) _
  have hz7 : w7.heap.size = w6.heap.size + 1 := by rw [hw7]; simp
  have hg7 : w7.heap[w6.heap.size]? = some (.cells #[.int .i64 0, .slice A6 nA6 cA6, .slice N6 n6 cN6] 25 (0, 0)) := by rw [hw7]; exact heap_alloc_new w6 _
  obtain ⟨A7, nA7, cA7, N7, n7, cN7, hbd, hA7, hN7⟩ := hinv6.bd
  obtain ⟨k0, k1, k2⟩ : w6.cell? ⟨B, 0, none⟩ = some (.int .i64 d.1) ∧ w6.cell? ⟨B, 1, none⟩ = some (.slice A7 nA7 cA7) ∧ w6.cell? ⟨B, 2, none⟩ = some (.slice N7 n7 cN7) := by simp [World.cell?, hbd]
  have hB6 : B < w6.heap.size := heap_lt hbd
  have hdif := teachDiffer w7 _ _ A6 nA6 cA6 N6 n6 cN6 (canonD dd) (hA6.below hb7) (hN6.below hb7) (canon_valid hvd) A7 nA7 cA7 N7 n7 cN7 d (hA7.below hb7) (hN7.below hb7) HV.out (by rw [canon_cols hvd]; exact hcd')
  rw [canon_start hvd] at hdif
  have HDIF := Lib.hid hdif
  have HINV7 := Lib.hid (hinv6.below hb7)
  have HA7 := Lib.hid (hA6.below hb7)
  have HN7 := Lib.hid (hN6.below hb7)
  have HG7 := Lib.hid hg7
  have HVD := Lib.hid hvd
  have HALL := Lib.hid (show ∀ l, WOk (canonD dd) l → daccept (canonD dd) l = daccept d l from fun l hl => by
    have h1 : WOk dd l := by unfold WOk at hl ⊢; rw [canon_cols hvd] at hl; exact hl
    rw [canon_accept hvd h1]
    exact hall' l (by unfold WOk at h1; rw [hcd'] at h1; exact h1))
  have HSM := Lib.hid (canon_small hvd hsm)
  have HN6E := Lib.hid hn6
  have HW7 := Lib.hid hw7
  have HZ7 := Lib.hid hz7
  have hz67 : w6.heap.size < w7.heap.size := by omega
  clear hA6 hN6 hvd hcd hall hsm hinv6' hinv6 hq hz6' hall' hcd' hn6 hbd hA7 hN7 hw7 hb7 hz7 hg7 hdif
  go_wp2_with fail
  rw [← HW7.out]
  clear k0 k1 k2
  refine HDIF.out.mono ?_
  rintro e w8 ⟨⟨Ao, co, l, dif, rfl, hdr⟩, hb8⟩
  have hdf : dif = false := by
    rcases hdr with ⟨h, _⟩ | ⟨_, _, hw, _, hne, _⟩
    · exact h
    · exact absurd (HALL.out l hw) hne
  subst hdf
  have hg8 := (hb8.block w6.heap.size hz67).trans HG7.out
  have hmin := miniMin w8 _ A6 nA6 cA6 N6 n6 cN6 (canonD dd) (HA7.out.below hb8) (HN7.out.below hb8) (canon_valid HVD.out) HSM.out
  rw [canon_start HVD.out] at hmin
  have HMIN := Lib.hid hmin
  have HINV8 := Lib.hid (HINV7.out.below hb8)
  have HG8 := Lib.hid hg8
  have hz8 : w6.heap.size < w8.heap.size := by have := hb8.size; omega
  obtain ⟨k0, k1, k2⟩ : w8.cell? ⟨w6.heap.size, 0, none⟩ = some (.int .i64 0) ∧ w8.cell? ⟨w6.heap.size, 1, none⟩ = some (.slice A6 nA6 cA6) ∧ w8.cell? ⟨w6.heap.size, 2, none⟩ = some (.slice N6 n6 cN6) := by simp [World.cell?, hg8]
  clear hdr hb8 hg8 hmin
  go_wp2_with fail
  clear k0 k1 k2
  refine HMIN.out.mono ?_
  rintro e w9 ⟨⟨A9, nA9, cA9, N9, n9, cN9, rfl, hA9, hN9⟩, hb9⟩
  have hn9 : n9 = n6 := by rw [hN9.len, canon_idem HVD.out, HN6E.out]
  subst hn9
  have hg9 := (hb9.block w6.heap.size hz8).trans HG8.out
  have hinv9 := HINV8.out.below hb9
  have hz9 : w6.heap.size < w9.heap.size := by have := hb9.size; omega
  have kc : w9.cell? ⟨Bc, 0, none⟩ = some (.pointer (some ⟨Bt, 0, none⟩)) := by simp [World.cell?, hinv9.bc]
  have hBc9 : Bc < w9.heap.size := heap_lt hinv9.bc
  obtain ⟨w10, hw10⟩ : ∃ w10 : World, w10 = w9.alloc (.cells #[.int .i64 0, .slice A9 nA9 cA9, .slice N9 n9 cN9] 25) := ⟨_, rfl⟩
  have hb10 : Below w9.heap.size w9 w10 := by rw [hw10]; exact (Below.refl _ _).alloc (Nat.le_refl _) _
  have hinv10 := hinv9.below hb10
  have HASK := Lib.hid (teachAsked w10 _ Bt (plainD d) _ _ hinv10.te)
  have HINV10 := Lib.hid hinv10
  have HG10 := Lib.hid ((hb10.block w6.heap.size hz9).trans hg9)
  have HC10 := Lib.hid (show w10.heap[w9.heap.size]? = some (.cells #[.int .i64 0, .slice A9 nA9 cA9, .slice N9 n9 cN9] 25 (0, 0)) by rw [hw10]; exact heap_alloc_new w9 _)
  have HW10 := Lib.hid hw10
  clear hA9 hN9 hb9 hg9 hinv9 hw10 hb10 hinv10
  go_wp2_with fail
  rw [← HW10.out]
  refine HASK.out.mono ?_
  rintro e _ ⟨rfl, nn, rfl⟩
  obtain ⟨w11, hw11⟩ : ∃ w11, w11 = w10.drewN nn := ⟨_, rfl⟩
  rw [← hw11]
  have hg11 : w11.heap[w6.heap.size]? = some (.cells #[.int .i64 0, .slice A6 nA6 cA6, .slice N6 n9 cN6] 25 (0, 0)) := by rw [hw11]; exact HG10.out
  have hc11 : w11.heap[w9.heap.size]? = some (.cells #[.int .i64 0, .slice A9 nA9 cA9, .slice N9 n9 cN9] 25 (0, 0)) := by rw [hw11]; exact HC10.out
  have HBEL := Lib.hid (show Below W.heap.size W w11 by rw [hw11]; exact belowN HINV10.out.bel nn)
  have k2 : w11.cell? ⟨w6.heap.size, 2, none⟩ = some (.slice N6 n9 cN6) := by simp [World.cell?, hg11]
  have j2 : w11.cell? ⟨w9.heap.size, 2, none⟩ = some (.slice N9 n9 cN9) := by simp [World.cell?, hc11]
  clear kc hw11 hg11 hc11
  go_wp2_with fail
  go_ret
  exact ⟨rfl, HBEL.out⟩
end Go.Proofs.Ytgaahpddlohjoaa
