/- LearnOnce: its walk. -/
import Derived.Test.YtgaahpddlohjoaaOnceAsk
import Derived.Test.YtgaahpddlohjoaaDfaOf
import Derived.Maps.RangeWalk
import Derived.Deep.CutRange
import Derived.Deep.CutBlock
namespace Go.Proofs.Ytgaahpddlohjoaa
open Go.RowKit Go.Maps

/-- what the closure that is shown an automaton returns -/
def OnceEqR (x y : DfaD) (base : Nat) (e : Ending) (w' : World) : Prop := ∃ (Ao : Option Addr) (co : Nat) (l : List Int) (dif : Bool), e = .returned (.tuple #[.bool (!dif), .slice Ao l.length co]) ∧ DiffR x y base l dif Ao co w'
theorem DiffR.base {x y : DfaD} {b b' : Nat} {l : List Int} {dif : Bool} {A : Option Addr} {c : Nat} {w : World} (h : DiffR x y b l dif A c w) (hb : b' ≤ b) : DiffR x y b' l dif A c w := by
  rcases h with h | ⟨h1, h2, h3⟩
  · exact .inl h
  · exact .inr ⟨h1, h2.more fun g hg => by omega, h3⟩
/-- whom LearnOnce asks -/
def onceL' (w0 : World) (d : DfaD) (S : Nat → Prop) (Bs BM Bd B0 : Nat) : LCtx := ⟨B0, B0 + 6, B0 + 1, cols d, daccept d, d, 21, #[.pointer (some ⟨Bs, 0, none⟩), .pointer (some ⟨Bd, 0, none⟩)], fun ws _ w => OnceInv w0 d S Bs BM Bd B0 ws w⟩
section
variable {w0 : World} {d : DfaD} {S : Nat → Prop} {Bs BM Bd B0 : Nat}
theorem onceOk (hv : Valid d) (hn : d.2.2.length ≤ 20) : (onceL' w0 d S Bs BM Bd B0).Ok where
  bl := by show B0 ≤ B0 + 6; omega
  bk := by show B0 ≤ B0 + 1; omega
  ne := by show B0 + 6 ≠ B0 + 1; omega
  t1 := hv.c1
  t2 := hv.c2
  val := hv
  few := hn
  cols := rfl
  lang := fun _ _ => rfl
  keep := fun ws q w w' h ho => OnceInv.only h ho fun b hb hx => by
    have hx' : B0 ≤ b := hx
    omega
  enters := enters_of Try.func21 (by kernel_rfl) rfl
  ask := fun ws q w Sx A n c x hi _ hws hx hw hl hn' => onceAsk w0 w d S Bs BM Bd B0 ws hi hv Sx A n c x hx hw hl hn' hws
set_option linter.unusedSimpArgs false in
set_option maxRecDepth 1000000 in
set_option maxHeartbeats 4000000 in
theorem onceShow (w : World) (ws : List (List Int)) (hi : OnceInv w0 d S Bs BM Bd B0 ws w) (hv : Valid d) (S' : Nat → Prop) (A' : Option Addr) (nA' cA' : Nat) (N' : Option Addr) (n' cN' : Nat) (b : DfaD) (hA' : Sl Rep.int w S' A' nA' cA' b.2.1) (hN' : Sl RI w S' N' n' cN' b.2.2) (hv' : Valid b) (hcc : cols d = cols b) :
    Calls Try.prog 22 #[.agg #[.int .i64 b.1, .slice A' nA' cA', .slice N' n' cN'], .pointer (some ⟨Bd, 0, none⟩)] w fun e w' => OnceEqR d b w.heap.size e w' ∧ Below w.heap.size w w' := by
  obtain ⟨A, nA, cA, N, n, cN, hbd, hA, hN⟩ := hi.bd
  obtain ⟨w1, hw1⟩ : ∃ w1 : World, w1 = w.alloc (.cells #[.int .i64 b.1, .slice A' nA' cA', .slice N' n' cN'] 25) := ⟨_, rfl⟩
  have hb1 : Below w.heap.size w w1 := by rw [hw1]; exact (Below.refl _ _).alloc (Nat.le_refl _) _
  have hBd := heap_lt hbd
  have hbd1 := (hb1.block Bd hBd).trans hbd
  have hg1 : w1.heap[w.heap.size]? = some (.cells #[.int .i64 b.1, .slice A' nA' cA', .slice N' n' cN'] 25 (0, 0)) := by rw [hw1]; exact heap_alloc_new w _
  have HD := Lib.hid (teachDiffer w1 S S' A nA cA N n cN d (hA.below hb1) (hN.below hb1) hv A' nA' cA' N' n' cN' b (hA'.below hb1) (hN'.below hb1) hv' hcc)
  obtain ⟨k0, k1, k2⟩ : w.cell? ⟨Bd, 0, none⟩ = some (.int .i64 d.1) ∧ w.cell? ⟨Bd, 1, none⟩ = some (.slice A nA cA) ∧ w.cell? ⟨Bd, 2, none⟩ = some (.slice N n cN) := by simp [World.cell?, hbd]
  have HB1 := Lib.hid hb1
  have HW1 := Lib.hid hw1
  have hz1 : w.heap.size ≤ w1.heap.size := hb1.size
  clear hi hv hA' hN' hv' hcc hbd hA hN hw1 hb1 hbd1 hg1
  go_enter Try.func22, Try.ntmps22
  go_wp2_with fail
  rw [← HW1.out]
  refine HD.out.mono ?_
  rintro e w2 ⟨⟨Ao, co, l, dif, rfl, hdr⟩, hb2⟩
  have HDR := Lib.hid hdr
  have HB2 := Lib.hid (HB1.out.trans (hb2.mono hz1))
  clear hdr hb2 k0 k1 k2
  go_wp2_with fail
  go_ret2
  exact ⟨⟨Ao, co, l, dif, rfl, HDR.out.base hz1⟩, HB2.out⟩
theorem onceEq (hv : Valid d) (hn : d.2.2.length ≤ 20) : EqOk (onceL' w0 d S Bs BM Bd B0) 22 #[.pointer (some ⟨Bd, 0, none⟩)] where
  enters := enters_of Try.func22 (by kernel_rfl) rfl
  eq := fun ws q w S' A' nA' cA' N' n' cN' b hi _ _ hA hN _ hvb hcc hlen _ => by
    have hi' : OnceInv w0 d S Bs BM Bd B0 ws w := hi
    refine (onceShow w ws hi' hv S' A' nA' cA' N' n' cN' b hA hN hvb hcc.symm).mono ?_
    rintro e w' ⟨⟨Ao, co, l, dif, rfl, hdr⟩, hb⟩
    have hwo : ∀ {v : List Int}, WOkT (cols d) v ↔ WOk d v := Iff.rfl
    refine ⟨?_, .of_below hb (Nat.le_refl _) _⟩
    rcases hdr with ⟨rfl, rfl, hall⟩ | ⟨rfl, hsl, hw, hlen', hne, _⟩
    · exact ⟨true, Ao, 0, co, [], rfl, Sl.nil _ _ _ _, hi'.below hb, .inl ⟨rfl, fun l hl => (hall l hl).symm⟩⟩
    · refine ⟨false, Ao, l.length, co, l, rfl, hsl, hi'.below hb, .inr ⟨rfl, hw, ?_, fun e => hne e.symm⟩⟩
      have h1 : (d.2.2.length + 1) * (b.2.2.length + 1) ≤ 21 * 22 := Nat.mul_le_mul (by omega) (by omega)
      omega
end
theorem keyOf_string_inv {P : Program} {k : TypeId} (hk : P.underlying k = some .string) {key : Value} {kl : Lit} (h : keyOf P k key = some kl) : ∃ x, key = .string x := by
  cases key <;> simp [keyOf, hk, mapKey] at h
  exact ⟨_, rfl⟩
/-- what a map's range meets -/
theorem AMap.data {P : Program} {k : TypeId} {κ : Type} {K : KeyRep P k κ} {w : World} {b : Nat} {l : List (κ × Value)} (h : AMap K w b l) : ∃ D, w.ownsMap P k hvR b l.length D ∧ ∀ kl, Maps.has D kl = true → ∃ p ∈ l, ∀ z, D.atKey kl z = .held p.2 := by
  obtain ⟨D, h1, _, _, _, h4, h5⟩ := h
  refine ⟨D, h1, fun kl hk => ?_⟩
  obtain ⟨p, hp, e⟩ := h5 kl hk
  obtain ⟨kl', e', _, h3⟩ := h4 p hp
  rw [e] at e'
  injection e' with e'
  subst e'
  exact ⟨p, hp, h3⟩
set_option linter.unusedSimpArgs false in
set_option maxRecDepth 1000000 in
set_option maxHeartbeats 8000000 in
theorem learnOnce_walk (W : World) (A0 : Option Addr) (n0 c0 : Nat) (z0 : List Int) (le0 : n0 ≤ c0) (cap0 : c0 ≤ 17592186043904) (rd0 : Rd W (fun _ => True) 1 A0 n0 (z0.map (Value.int .i64))) (_rg0 : ∀ z ∈ z0, -9223372036854775808 ≤ z ∧ z ≤ 9223372036854775807) :
    Calls Try.prog 4 #[.slice A0 n0 c0] W fun e W' => e = .returned (.bool true) ∧ Below W.heap.size W W' := by
  have HR0 := Lib.hid (rd0.slInts le0)
  have HV := Lib.hid (dfaOf_valid z0)
  have HN6 := Lib.hid (dfaOf_len z0)
  clear rd0 _rg0
  have hmm := @run_makeMap Try.prog
  go_enter Try.func4, Try.ntmps4
  go_wp2_with fail
  refine (makeDfa _ _ _ _ _ z0 HR0.out (by omega)).mono ?_
  rintro e w1 ⟨Bx, vA, vN, xs, hBx, rfl, hD, hb1⟩
  obtain ⟨d, hd⟩ : ∃ d, d = dfaOf z0 := ⟨_, rfl⟩
  rw [← hd] at hD HV HN6 ⊢
  clear hd
  obtain ⟨A, cA, rfl, hcA, _⟩ := hD.ownA.form
  obtain ⟨N, cN, rfl, hcN, _⟩ := hD.ownN.form
  obtain ⟨hsA, hsN⟩ := hD.sl
  obtain ⟨nA, hnA⟩ : ∃ k, k = d.2.1.length := ⟨_, rfl⟩
  obtain ⟨n, hn⟩ : ∃ k, k = d.2.2.length := ⟨_, rfl⟩
  rw [← hnA] at hsA hcA ⊢
  rw [← hn] at hsN hcN ⊢
  have HSA := Lib.hid hsA.fit
  have HSN := Lib.hid hsN.fit
  have HB1 := Lib.hid hb1
  have hn1 : 1 ≤ n := by have := HV.out.n1; omega
  obtain ⟨bN, oN, AR, m, cR, row, rfl, _, hbN, hcR, hr, hsr⟩ := row_at HSN.out (k := 0) (by omega)
  rw [Nat.add_zero] at hcR
  have hm : m = cols d := by rw [hsr.len]; exact (HV.out.rows row (List.mem_of_getElem? hr)).1
  subst hm
  obtain ⟨B, hB⟩ : ∃ B, B = w1.heap.size := ⟨_, rfl⟩
  have hBW : W.heap.size ≤ B := by rw [hB]; exact hb1.size
  obtain ⟨w3, hw3⟩ : ∃ w3 : World, w3 = ((w1.alloc (.cells #[.int .i64 d.1, .slice A nA cA, .slice (some ⟨bN, oN, none⟩) n cN] 25)).alloc (.map #[] 0)).alloc (.cells #[.map (some (w1.heap.size + 1))] 40) := ⟨_, rfl⟩
  have hz3 : w3.heap.size = B + 3 := by rw [hw3, hB]; simp
  have hb3 : Below w1.heap.size w1 w3 := by rw [hw3]; exact (((Below.refl _ _).alloc (Nat.le_refl _) _).alloc (by simp) _).alloc (by simp; omega) _
  have hinv : OnceInv W d (fun b => (Bx + 1 ≤ b) ∧ b < w1.heap.size) (B + 2) (B + 1) B (B + 3) [] w3 := by
    refine ⟨HB1.out.trans (hb3.mono HB1.out.size), ?_, ?_, ⟨A, nA, cA, _, n, cN, ?_, HSA.out.below hb3, HSN.out.below hb3⟩, ⟨by omega, by omega, fun h => by omega⟩, ⟨by omega, by omega, by omega, by omega, fun b hb => by omega⟩, by omega, fun x hx => by cases hx⟩
    · rw [hw3, hB]
      exact heap_new _ _ _ (by simp)
    · have := AMap.made KS (w1.alloc (.cells #[.int .i64 d.1, .slice A nA cA, .slice (some ⟨bN, oN, none⟩) n cN] 25))
      rw [World.size_alloc] at this
      rw [hw3, hB]
      exact this.alloc _
    · rw [hw3, hB, Below.heap_alloc _ _ _ (by simp; omega), Below.heap_alloc _ _ _ (by simp)]
      exact heap_alloc_new w1 _
  have hof := learnOf (onceL' W d (fun b => (Bx + 1 ≤ b) ∧ b < w1.heap.size) (B + 2) (B + 1) B (B + 3)) (onceOk HV.out (by have := HN6.out; omega)) 22 #[.pointer (some ⟨B, 0, none⟩)] (onceEq HV.out (by have := HN6.out; omega)) w3 hz3.symm hinv (by show B + 3 + 1 = _; omega) (by show B + 3 + 6 = _; omega)
  have HOF := Lib.hid hof
  have HB := Lib.hid hB
  have HW3 := Lib.hid hw3
  have hcols : cols d ≤ 16 := HV.out.c2
  have hcR3 : (((w1.alloc (.cells #[.int .i64 d.1, .slice A nA cA, .slice (some ⟨bN, oN, none⟩) n cN] 25)).alloc (.map #[] 0)).alloc (.cells #[.map (some (w1.heap.size + 1))] 40)).cell? ⟨bN, oN, none⟩ = some (.slice AR (cols d) cR) := by
    rw [← hw3]
    exact (hb3.cell hbN).trans hcR
  clear hcR
  clear hb1 hD hsA hsN hnA hn hr hsr hB hw3 hz3 hb3 hinv hof
  go_wp2_with fail
  rw [← HW3.out, ← HB.out]
  clear hcR3
  refine HOF.out.mono ?_
  rintro e w4 ⟨A4, nA4, cA4, N4, n4, cN4, dd, ws, q, rfl, hA4, hN4, hvd, hcd, hall, hsm, hinv4, hq, hz4⟩
  have hinv : OnceInv W d (fun b => (Bx + 1 ≤ b) ∧ b < w1.heap.size) (B + 2) (B + 1) B (B + 3) ws w4 := hinv4
  have hn4 : 1 ≤ n4 := by rw [hN4.len]; have := (canon_valid hvd).n1; omega
  have hne0 : ((n4 : Int) == 0) = false := by simp; omega
  obtain ⟨w5, hw5⟩ : ∃ w5 : World, w5 = w4.alloc (.cells #[.int .i64 0, .slice A4 nA4 cA4, .slice N4 n4 cN4] 25) := ⟨_, rfl⟩
  have hinv5 : OnceInv W d (fun b => (Bx + 1 ≤ b) ∧ b < w1.heap.size) (B + 2) (B + 1) B (B + 3) ws w5 := by rw [hw5]; exact hinv.below ((Below.refl _ _).alloc (Nat.le_refl _) _)
  have hz5 : w5.heap.size = w4.heap.size + 1 := by rw [hw5]; simp
  obtain ⟨D, hown, hdat⟩ := hinv5.mp.data
  have hk4 : w4.cell? ⟨B + 1 + 1, 0, none⟩ = some (.map (some (B + 1))) := by
    have := hinv.bs
    simp [World.cell?, this]
  have hBz : B + 1 + 1 < w4.heap.size := cell_lt hk4
  have HW5 := Lib.hid hw5
  rw [hw5] at hown
  have HOWN := Lib.hid hown
  have HDAT := Lib.hid hdat
  have HI5 := Lib.hid hinv5
  have HU := Lib.hid (show Try.prog.underlying 9 = some .string from Try.underlying9)
  clear hA4 hN4 hvd hcd hall hsm hinv4 hq hz4 hinv hn4 hw5 hinv5 hz5 hown hdat
  go_wp2_with (at_range; refine wpList_range_own _ rfl _ 40 rfl 9 3 KS.keyed mapStr hvR (B + 1) _ D rfl HOWN.out ?_; intro w9 hrg9 hg9 hz9)
  go_frame
  rw [← HW5.out] at hrg9 hg9 hz9 ⊢
  have HZ9 := Lib.hid hz9
  have HRG9 := Lib.hid hrg9
  have HI9 := Lib.hid (HI5.out.only (X := fun _ => False) (.of_grown hg9 fun b e => by cases e) fun _ _ h => h)
  clear hrg9 hg9 hz9
  go_loopg [8] (Maps.size D) (fun gc va wr => ∃ left : Lit → Bool, wr.ranges Try.prog 9 hvR (B + 1) w5.heap.size (onceL ws).length D left gc ∧ (∀ kl, left kl = true → Maps.has D kl = true) ∧ OnceInv W d (fun b => (Bx + 1 ≤ b) ∧ b < w1.heap.size) (B + 2) (B + 1) B (B + 3) ws wr ∧ w5.heap.size < wr.heap.size)
  case atStart => exact ⟨_, HRG9.out, fun _ h => h, HI9.out, by rw [HZ9.out]; omega⟩
  case round =>
    obtain ⟨left, hrg, hll, hin, hzr⟩ := hrel
    obtain ⟨w10, rfl⟩ : ∃ w10 : World, w10 = wr := ⟨_, rfl⟩
    have HRG := Lib.hid hrg
    have HLL := Lib.hid hll
    have HIN := Lib.hid hin
    have HBEL := Lib.hid hin.bel
    clear hrg hll hin
    go_wp2_with (at_next; go_loud (refine wpList_next_ranges _ rfl _ rfl 9 KS.keyed hvR Value.string (fun v : Value => v) (fun key kl h => keyOf_string_inv HU.out h) (fun v y _ => ⟨v, rfl⟩) (B + 1) w5.heap.size _ D left _ rfl HRG.out ?_ ?_))
    · intro _ _
      go_wp2_with fail
      go_ret
      exact ⟨rfl, HBEL.out⟩
    · intro key c kl y ps w11 cnt1 hkey hlk hvv _ hat hrg1 hlt1 hg11 hz11 hen
      obtain ⟨p, hp, he⟩ := HDAT.out kl (HLL.out kl hlk)
      have hc : c = .int .i64 1 := by
        have h2 := hat (.held c)
        rw [he, ← hvv] at h2
        injection h2 with h2
        obtain ⟨x, _, rfl⟩ := List.mem_map.1 hp
        exact h2.symm
      subst hc
      have HRG1 := Lib.hid hrg1
      have HI11 := Lib.hid (HIN.out.only (X := fun b => b = w5.heap.size) (.of_grown hg11 fun b e => by injection e with e; exact e.symm) fun b hb e => by have := HI5.out.le; omega)
      clear hkey hlk hvv hat hrg1 hg11 hp he
      go_wp2_with fail
      go_roundg cnt1
      case measure => exact hlt1
      case rel => exact ⟨_, HRG1.out, fun kl' h => HLL.out kl' (by simp at h; exact h.1), HI11.out, by omega⟩
end Go.Proofs.Ytgaahpddlohjoaa
