/- guess.Of: the first grammar that agrees. -/
import Derived.Test.YtidigjfnifmiiaaDoorGuWalk
namespace Go.Proofs.YtidigjfnifmiiaaDoor
open Go.RowKit

def ndB : List RuleD → Bool
  | [] => true
  | r :: l => !l.contains r && ndB l
theorem ndB_nd : ∀ {l : List RuleD}, ndB l = true → l.Nodup
  | [], _ => List.nodup_nil
  | r :: l, h => by
    rw [ndB, Bool.and_eq_true] at h
    refine List.nodup_cons.2 ⟨fun hm => ?_, ndB_nd h.2⟩
    have := h.1
    rw [List.contains_iff_mem.2 hm] at this
    cases this
theorem rulesP_nd : ∀ t n : Nat, t ≤ 2 → n ≤ 2 → (rulesP t n).Nodup := by
  have h : ∀ t < 3, ∀ n < 3, ndB (rulesP t n) = true := by decide +kernel
  exact fun t n h1 h2 => ndB_nd (h t (by omega) n (by omega))
theorem rulesP_ok : ∀ t n : Nat, t ≤ 2 → n ≤ 2 → ∀ r ∈ rulesP t n, (0 ≤ r.1 ∧ r.1 < (n : Int)) ∧ r.2.length ≤ 4 ∧ ∀ s ∈ r.2, SymOk t n s := by
  have h : ∀ t < 3, ∀ n < 3, ∀ r ∈ rulesP t n, (0 ≤ r.1 ∧ r.1 < (n : Int)) ∧ r.2.length ≤ 4 ∧ ∀ s ∈ r.2, (0 ≤ s.2 ∧ s.2 < (if s.1 then (t : Int) else (n : Int))) := by decide +kernel
  exact fun t n h1 h2 => h t (by omega) n (by omega)
theorem rulesP_len : ∀ t n : Nat, t ≤ 2 → n ≤ 2 → (rulesP t n).length ≤ 42 := by
  have h : ∀ t < 3, ∀ n < 3, (rulesP t n).length ≤ 42 := by decide +kernel
  exact fun t n h1 h2 => h t (by omega) n (by omega)
theorem rulesP_valid {t n : Nat} (ht1 : 1 ≤ t) (ht2 : t ≤ 2) (hn1 : 1 ≤ n) (hn2 : n ≤ 2) {rs : List RuleD} (hs : rs.Sublist (rulesP t n)) (hl : rs.length ≤ 3) : GValid ((t : Int), (n : Int), 0, rs) :=
  ⟨by show (1 : Int) ≤ (t : Int); omega, by show (t : Int) ≤ 8; omega, by show (1 : Int) ≤ (n : Int); omega, by show (n : Int) ≤ 10; omega, ⟨Int.le_refl _, by show (0 : Int) < (n : Int); omega⟩, by show rs.length ≤ 32; omega, fun r hr => rulesP_ok t n ht2 hn2 r (hs.subset hr), hs.nodup (rulesP_nd t n ht2 hn2)⟩
theorem walkAll (Bt Bn By Bo Bl Bw : Nat) (T N : Int) (A1 : Option Addr) (n1 c1 : Nat) (yes : List (List Int)) (A2 : Option Addr) (n2 c2 : Nat) (no : List (List Int)) (AL : Option Addr) (nL cL : Nat) (l : List RuleD) (hnL : nL ≤ 1000)
    (hy : ∀ x ∈ yes, WrdOk T x) (ho : ∀ x ∈ no, WrdOk T x) (hn1 : n1 ≤ 1000) (hn2 : n2 ≤ 1000) : ∀ left : Nat, WalkSpec Bt Bn By Bo Bl Bw T N A1 n1 c1 yes A2 n2 c2 no AL nL cL l left
  | 0 => fun w hc fr fi li hfi hli _ ch A m c S _ hs _ hv => by
    subst hfi
    subst hli
    exact walk0 w Bt Bn By Bo Bl Bw T N A1 n1 c1 yes A2 n2 c2 no AL nL cL l hc hy ho hn1 hn2 fr ch A m c S hs (by simpa using hv [] (List.nil_sublist _) rfl)
  | left + 1 => walkS Bt Bn By Bo Bl Bw T N A1 n1 c1 yes A2 n2 c2 no AL nL cL l hnL left (walkAll Bt Bn By Bo Bl Bw T N A1 n1 c1 yes A2 n2 c2 no AL nL cL l hnL hy ho hn1 hn2 left)
/-- what guess.Of returns -/
def OfR (T N : Int) (base : Nat) (o : Option (List RuleD)) (e : Ending) (w' : World) : Prop := ∃ (a b s : Int) (A : Option Addr) (n c : Nat) (q : Int), e = .returned (.tuple #[.agg #[.int .i64 a, .int .i64 b, .int .i64 s, .slice A n c], .int .i64 q]) ∧
  ((q = 0 ∧ a = T ∧ b = N ∧ s = 0 ∧ ∃ rs, o = some rs ∧ Sl RRule w' (fun b => base ≤ b) A n c rs) ∨ (q = 5 ∧ o = none))
set_option linter.unusedSimpArgs false in
set_option maxRecDepth 100000 in
set_option maxHeartbeats 8000000 in
theorem guessOf (w : World) (hTb : Tab w) (t n : Nat) (ht1 : 1 ≤ t) (ht2 : t ≤ 2) (hn1 : 1 ≤ n) (hn2 : n ≤ 2) (S1 : Nat → Prop) (A1 : Option Addr) (n1 c1 : Nat) (yes : List (List Int)) (hy : Sl RIV w S1 A1 n1 c1 yes) (S2 : Nat → Prop) (A2 : Option Addr) (n2 c2 : Nat) (no : List (List Int)) (hno : Sl RIV w S2 A2 n2 c2 no)
    (h1 : n1 ≤ 6) (h2 : n2 ≤ 6) (hyo : ∀ x ∈ yes, x.length ≤ 5 ∧ ∀ y ∈ x, 0 ≤ y ∧ y < (t : Int)) (hnoo : ∀ x ∈ no, x.length ≤ 5 ∧ ∀ y ∈ x, 0 ≤ y ∧ y < (t : Int)) (hd : ∀ x ∈ yes, x ∉ no) :
    Calls Tryd.prog 17 #[.int .i64 (t : Int), .int .i64 (n : Int), .slice A1 n1 c1, .slice A2 n2 c2] w fun e w' => OfR t n w.heap.size (guessP (agF t n yes no) (rulesP t n)) e w' ∧ Below w.heap.size w w' := by
  have HT := Lib.hid hTb
  have HY := Lib.hid hy
  have HN := Lib.hid hno
  have HYO := Lib.hid hyo
  have HNO := Lib.hid hnoo
  have HD := Lib.hid hd
  clear hTb hy hno hyo hnoo hd
  go_enter Tryd.func17, Tryd.ntmps17
  --@1
  go_wp2_with fail
  obtain ⟨w1, hw1⟩ : ∃ w1 : World, w1 = ((((w.alloc (.cells #[.int .i64 (t : Int)] 3)).alloc (.cells #[.int .i64 (n : Int)] 3)).alloc (.cells #[.slice A1 n1 c1] 44)).alloc (.cells #[.slice A2 n2 c2] 44)).alloc (.cells #[.int .i64 0, .int .i64 0, .int .i64 0, .slice none 0 0] 25) := ⟨_, rfl⟩
  rw [← hw1]
  have hz1 : w1.heap.size = w.heap.size + 5 := by rw [hw1]; simp
  have hz1' : w.heap.size + 5 ≤ w1.heap.size := by omega
  have hb1 : Below w.heap.size w w1 := by rw [hw1]; exact (((((Below.refl _ _).alloc (Nat.le_refl _) _).alloc (by simp) _).alloc (by simp only [World.size_alloc]; omega) _).alloc (by simp only [World.size_alloc]; omega) _).alloc (by simp only [World.size_alloc]; omega) _
  have p0 : w1.heap[w.heap.size]? = some (.cells #[.int .i64 (t : Int)] 3 (0, 0)) := by
    rw [hw1]
    exact (Below.heap_alloc _ _ _ (by simp only [World.size_alloc]; omega)).trans ((Below.heap_alloc _ _ _ (by simp only [World.size_alloc]; omega)).trans ((Below.heap_alloc _ _ _ (by simp only [World.size_alloc]; omega)).trans ((Below.heap_alloc _ _ _ (by simp only [World.size_alloc]; omega)).trans (heap_alloc_new _ _))))
  have p1 : w1.heap[w.heap.size + 1]? = some (.cells #[.int .i64 (n : Int)] 3 (0, 0)) := by
    rw [hw1]
    exact (Below.heap_alloc _ _ _ (by simp only [World.size_alloc]; omega)).trans ((Below.heap_alloc _ _ _ (by simp only [World.size_alloc]; omega)).trans ((Below.heap_alloc _ _ _ (by simp only [World.size_alloc]; omega)).trans (heap_new _ _ _ (by simp only [World.size_alloc]))))
  have p2 : w1.heap[w.heap.size + 1 + 1]? = some (.cells #[.slice A1 n1 c1] 44 (0, 0)) := by
    rw [hw1]
    exact (Below.heap_alloc _ _ _ (by simp only [World.size_alloc]; omega)).trans ((Below.heap_alloc _ _ _ (by simp only [World.size_alloc]; omega)).trans (heap_new _ _ _ (by simp only [World.size_alloc])))
  have p3 : w1.heap[w.heap.size + 1 + 1 + 1]? = some (.cells #[.slice A2 n2 c2] 44 (0, 0)) := by
    rw [hw1]
    exact (Below.heap_alloc _ _ _ (by simp only [World.size_alloc]; omega)).trans (heap_new _ _ _ (by simp only [World.size_alloc]))
  have p4 : w1.heap[w.heap.size + 1 + 1 + 1 + 1]? = some (.cells #[.int .i64 0, .int .i64 0, .int .i64 0, .slice none 0 0] 25 (0, 0)) := by
    rw [hw1]
    exact heap_new _ _ _ (by simp)
  have HB1 := Lib.hid hb1
  have HP := Lib.hid (show ∀ u : World, Below w1.heap.size w1 u → u.cell? ⟨w.heap.size, 0, none⟩ = some (.int .i64 (t : Int)) ∧ u.cell? ⟨w.heap.size + 1, 0, none⟩ = some (.int .i64 (n : Int)) ∧ u.cell? ⟨w.heap.size + 1 + 1, 0, none⟩ = some (.slice A1 n1 c1) ∧ u.cell? ⟨w.heap.size + 1 + 1 + 1, 0, none⟩ = some (.slice A2 n2 c2) from fun u hu => by
    have e0 := (hu.block _ (by omega)).trans p0
    have e1 := (hu.block _ (by omega)).trans p1
    have e2 := (hu.block _ (by omega)).trans p2
    have e3 := (hu.block _ (by omega)).trans p3
    exact ⟨by simp [World.cell?, e0], by simp [World.cell?, e1], by simp [World.cell?, e2], by simp [World.cell?, e3]⟩)
  have HOUT := Lib.hid p4
  clear p0 p1 p2 p3 p4 hw1 hb1 hz1
  refine (guessRules w1 t n ht1 ht2 hn1 hn2).mono ?_
  rintro e w2 ⟨AL, cL, rfl, hsl, hb2⟩
  obtain ⟨nL, hnL⟩ : ∃ nL, nL = (rulesP t n).length := ⟨_, rfl⟩
  rw [← hnL] at hsl ⊢
  have hz2 := hb2.size
  have HSL := Lib.hid hsl
  have HB2 := Lib.hid hb2
  have HNL := Lib.hid hnL
  obtain ⟨q0, q1, q2, q3⟩ := HP.out w2 hb2
  have l0 : w.heap.size < w2.heap.size := by omega
  have l2 : w.heap.size + 1 + 1 < w2.heap.size := by omega
  have l3 : w.heap.size + 1 + 1 + 1 < w2.heap.size := by omega
  clear hsl hb2 hnL q1
  --@2
  go_wp2_with fail
  obtain ⟨w3, hw3⟩ : ∃ w3 : World, w3 = w2.alloc (.cells #[.slice AL nL cL] 23) := ⟨_, rfl⟩
  rw [← hw3]
  have hz3 : w3.heap.size = w2.heap.size + 1 := by rw [hw3]; simp
  have hb3 : Below w2.heap.size w2 w3 := by rw [hw3]; exact (Below.refl _ _).alloc (Nat.le_refl _) _
  have HBL := Lib.hid (show w3.heap[w2.heap.size]? = some (.cells #[.slice AL nL cL] 23 (0, 0)) by rw [hw3]; exact heap_alloc_new _ _)
  have HB13 := Lib.hid (HB2.out.trans (hb3.mono hz2))
  have hb23 := hb3
  have HB3 := Lib.hid (HB1.out.trans (HB13.out.mono (by omega)))
  clear hw3 l0 l2 l3 q0 q2 q3
  refine (guessCheck w3 (t : Int) _ A1 n1 c1 yes (HY.out.below HB3.out) _ A2 n2 c2 no (HN.out.below HB3.out) h1 h2 HYO.out HNO.out HD.out).mono ?_
  rintro e w4 ⟨rfl, hb4⟩
  have hz4 := hb4.size
  have HB4 := Lib.hid hb4
  clear hb4 hb3
  --@3
  go_wp2_with fail
  obtain ⟨w5, hw5⟩ : ∃ w5 : World, w5 = w4.alloc (.cells #[.func (.func 31) #[] (walkCaps w.heap.size (w.heap.size + 1) (w.heap.size + 1 + 1) (w.heap.size + 1 + 1 + 1) w2.heap.size w4.heap.size)] 70) := ⟨_, rfl⟩
  rw [← hw5]
  have hz5 : w5.heap.size = w4.heap.size + 1 := by rw [hw5]; simp
  have hb5 : Below w4.heap.size w4 w5 := by rw [hw5]; exact (Below.refl _ _).alloc (Nat.le_refl _) _
  have HBW := Lib.hid (show w5.heap[w4.heap.size]? = some (.cells #[.func (.func 31) #[] (walkCaps w.heap.size (w.heap.size + 1) (w.heap.size + 1 + 1) (w.heap.size + 1 + 1 + 1) w2.heap.size w4.heap.size)] 70 (0, 0)) by rw [hw5]; exact heap_alloc_new _ _)
  have HB35 := Lib.hid (HB4.out.trans (hb5.mono hz4))
  have HB15 := Lib.hid (HB13.out.trans (HB35.out.mono HB13.out.size))
  have HB25 := Lib.hid (show Below w2.heap.size w2 w5 by have h23 : Below w2.heap.size w2 w3 := hb23; exact h23.trans (HB35.out.mono h23.size))
  have HB5 := Lib.hid (HB1.out.trans (HB15.out.mono HB1.out.size))
  have HCTX := Lib.hid (show WCtx w5 w.heap.size (w.heap.size + 1) (w.heap.size + 1 + 1) (w.heap.size + 1 + 1 + 1) w2.heap.size w4.heap.size (t : Int) (n : Int) A1 n1 c1 yes A2 n2 c2 no AL nL cL (rulesP t n) by
    obtain ⟨e0, e1, e2, e3⟩ := HP.out w5 HB15.out
    have e4 := (HB35.out.block _ (by omega)).trans HBL.out
    have e5 := HBW.out
    exact ⟨⟨e0, e1, e2, e3, by simp [World.cell?, e4], by simp [World.cell?, e5]⟩, HT.out.below HB5.out HT.out.1, (HY.out.below HB5.out).more fun _ _ => trivial, (HN.out.below HB5.out).more fun _ _ => trivial, (HSL.out.below HB25.out).more fun _ _ => trivial⟩)
  have HSL5 := Lib.hid ((HSL.out.below HB25.out).fit)
  have HOUT5 := Lib.hid ((HB15.out.block _ (by omega)).trans HOUT.out)
  clear hw5 hb5 hb23
  go_loopg [36] 4 (fun gk i wr => ∃ k : Nat, k ≤ 4 ∧ gk = 4 - k ∧ i = .int .i64 k ∧ guessP (agF t n yes no) (rulesP t n) = tryP (fun n' => walkP (agF t n yes no) (rulesP t n) n' 0 []) (4 - k) k ∧ Below w5.heap.size w5 wr)
  case atStart => exact ⟨0, Nat.zero_le _, rfl, rfl, rfl, Below.refl _ _⟩
  case round =>
    obtain ⟨k, hk, hgk, rfl, htry, hb⟩ := hrel
    have HGK := Lib.hid hgk
    have HTRY := Lib.hid htry
    have HB := Lib.hid hb
    have hzr := hb.size
    have HC := Lib.hid (HCTX.out.below hb)
    obtain ⟨w6, rfl⟩ : ∃ w6 : World, w6 = wr := ⟨_, rfl⟩
    clear hgk htry hb
    by_cases hlt : k < 4
    · have hkI : (k : Int) < 4 := by omega
      have he := entersWalk
      have hw := HC.out.cells.w
      --@4
      go_wp2_with fail
      refine (walkAll w.heap.size (w.heap.size + 1) (w.heap.size + 1 + 1) (w.heap.size + 1 + 1 + 1) w2.heap.size w4.heap.size (t : Int) (n : Int) A1 n1 c1 yes A2 n2 c2 no AL nL cL (rulesP t n) (by have := rulesP_len t n ht2 hn2; have := HNL.out; omega) (fun x hx => ⟨by have := (HYO.out x hx).1; omega, (HYO.out x hx).2⟩) (fun x hx => ⟨by have := (HNO.out x hx).1; omega, (HNO.out x hx).2⟩) (by omega) (by omega) k w6 HC.out 0 0 k rfl rfl (Nat.zero_le _) [] none 0 0 (fun b => w1.heap.size ≤ b ∧ b < w5.heap.size) (HSL5.out.below HB.out) (Sl.nil _ _ _ _) (by simp; omega) (fun t' h1 h2 => rulesP_valid ht1 ht2 hn1 hn2 (by simpa using h1) (by simpa using (by omega : t'.length ≤ 3)))).mono ?_
      rintro e w7 ⟨⟨ga, gb, gs, AG, nG, cG, q, rfl, hq1, hq2⟩, hb7⟩
      have HQ1 := Lib.hid hq1
      have HQ2 := Lib.hid hq2
      have HB7 := Lib.hid hb7
      have hz7 := hb7.size
      clear hq1 hq2 hb7 hw he
      cases q with
      | false =>
        have HQF := Lib.hid (HQ2.out rfl)
        clear HQ1 HQ2
        go_wp2_with fail
        go_roundg (4 - (k + 1))
        case measure => rw [HGK.out]; omega
        case rel => exact ⟨k + 1, by omega, rfl, by go_num, by rw [HTRY.out, show 4 - k = (4 - (k + 1)) + 1 by omega, tryP, HQF.out], HB.out.trans ((HB7.out.alloc hz7 _).mono hzr)⟩
      | true =>
        obtain ⟨rfl, rfl, rfl, rs, hw, hsl⟩ := HQ1.out rfl
        obtain ⟨_, t', ht', hl3, hsub⟩ := walkP_ok hw
        rw [List.nil_append] at ht'
        subst ht'
        rw [List.drop_zero] at hsub
        obtain rfl : nG = rs.length := hsl.len
        have hv := rulesP_valid ht1 ht2 hn1 hn2 hsub (by omega)
        have HVR := Lib.hid (fun r hr => (hv.rules r hr).2.1)
        have HWK := Lib.hid hw
        have HS7 := Lib.hid (hsl.alloc (.cells #[.int .i64 (t : Int), .int .i64 (n : Int), .int .i64 0, .slice AG rs.length cG] 25))
        have hl3' : rs.length ≤ 3 := by omega
        clear hw hsl hl3 hsub hv HQ1 HQ2
        --@5
        go_wp2_with fail
        obtain ⟨w8, hw8⟩ : ∃ w8 : World, w8 = w7.alloc (.cells #[.int .i64 (t : Int), .int .i64 (n : Int), .int .i64 0, .slice AG rs.length cG] 25) := ⟨_, rfl⟩
        rw [← hw8] at HS7 ⊢
        have hz8 : w8.heap.size = w7.heap.size + 1 := by rw [hw8]; simp
        have hb8 : Below w7.heap.size w7 w8 := by rw [hw8]; exact (Below.refl _ _).alloc (Nat.le_refl _) _
        have HB68 := Lib.hid (HB7.out.trans (hb8.mono hz7))
        have HB58 := Lib.hid (HB.out.trans (HB68.out.mono hzr))
        clear hw8 hb8
        refine (gramCopy w8 _ ((t : Int), (n : Int), 0, rs) AG rs.length cG HS7.out (by omega) (fun r hr => by have := HVR.out r hr; omega)).mono ?_
        rintro e w9 ⟨A9, c9, rfl, hs9, hb9⟩
        have HB59 := Lib.hid (HB58.out.trans (hb9.mono HB58.out.size))
        have HB9 := Lib.hid hb9
        have HS9 := Lib.hid hs9
        have hz9 := hb9.size
        have hrr := (HB59.out.block _ (by omega)).trans HOUT5.out
        obtain ⟨r0, r1, r2, r3⟩ : w9.cell? ⟨w.heap.size + 1 + 1 + 1 + 1, 0, none⟩ = some (.int .i64 0) ∧ w9.cell? ⟨w.heap.size + 1 + 1 + 1 + 1, 1, none⟩ = some (.int .i64 0) ∧ w9.cell? ⟨w.heap.size + 1 + 1 + 1 + 1, 2, none⟩ = some (.int .i64 0) ∧ w9.cell? ⟨w.heap.size + 1 + 1 + 1 + 1, 3, none⟩ = some (.slice none 0 0) := by simp [World.cell?, hrr]
        have hf : ∀ i, w9.frozen? ⟨w.heap.size + 1 + 1 + 1 + 1, i, none⟩ = false := fun i => by simp [World.frozen?, hrr]
        have hf0 := hf 0
        have hf1 := hf 1
        have hf2 := hf 2
        have hf3 := hf 3
        clear hf hrr hs9 hb9
        --@6
        go_wp2_with fail
        refine bodyPost_ret (v := .tuple #[.agg #[.int .i64 (t : Int), .int .i64 (n : Int), .int .i64 0, .slice A9 rs.length c9], .int .i64 0]) (by simp [results, Tryd.results17, go_sem, r0, r1, r2, r3]) rfl ?_
        have hle : w.heap.size ≤ w.heap.size + 1 + 1 + 1 + 1 := by omega
        have hns : ∀ b, w8.heap.size ≤ b → b ≠ w.heap.size + 1 + 1 + 1 + 1 := fun b hb => by omega
        refine ⟨⟨t, n, 0, A9, rs.length, c9, 0, rfl, .inl ⟨rfl, rfl, rfl, rfl, rs, ?_, ?_⟩⟩, ((((HB5.out.trans (HB59.out.mono HB5.out.size)).setCell hle _).setCell hle _).setCell hle _).setCell hle _⟩
        · rw [HTRY.out, show 4 - k = (4 - (k + 1)) + 1 by omega, tryP, HWK.out]
        · exact ((((HS9.out.keep (Kept.setCell _ _ _ _ fun h => hns _ h rfl)).keep (Kept.setCell _ _ _ _ fun h => hns _ h rfl)).keep (Kept.setCell _ _ _ _ fun h => hns _ h rfl)).keep (Kept.setCell _ _ _ _ fun h => hns _ h rfl)).more fun b hb => by omega
    · obtain rfl : k = 4 := by omega
      have HNO := Lib.hid (show guessP (agF t n yes no) (rulesP t n) = none by rw [HTRY.out]; rfl)
      have hrr := (HB.out.block _ (by omega)).trans HOUT5.out
      obtain ⟨r0, r1, r2, r3⟩ : w6.cell? ⟨w.heap.size + 1 + 1 + 1 + 1, 0, none⟩ = some (.int .i64 0) ∧ w6.cell? ⟨w.heap.size + 1 + 1 + 1 + 1, 1, none⟩ = some (.int .i64 0) ∧ w6.cell? ⟨w.heap.size + 1 + 1 + 1 + 1, 2, none⟩ = some (.int .i64 0) ∧ w6.cell? ⟨w.heap.size + 1 + 1 + 1 + 1, 3, none⟩ = some (.slice none 0 0) := by simp [World.cell?, hrr]
      have hf : ∀ i, w6.frozen? ⟨w.heap.size + 1 + 1 + 1 + 1, i, none⟩ = false := fun i => by simp [World.frozen?, hrr]
      have hf0 := hf 0
      have hf1 := hf 1
      have hf2 := hf 2
      have hf3 := hf 3
      clear hf hrr
      --@7
      go_wp2_with fail
      refine bodyPost_ret (v := .tuple #[.agg #[.int .i64 0, .int .i64 0, .int .i64 0, .slice none 0 0], .int .i64 5]) (by simp [results, Tryd.results17, go_sem, r0, r1, r2, r3]) rfl ?_
      have hle : w.heap.size ≤ w.heap.size + 1 + 1 + 1 + 1 := by omega
      exact ⟨⟨0, 0, 0, none, 0, 0, 5, rfl, .inr ⟨rfl, HNO.out⟩⟩, ((((HB5.out.trans (HB.out.mono HB5.out.size)).setCell hle _).setCell hle _).setCell hle _).setCell hle _⟩

theorem one_nil : agF 1 1 [[0]] [[]] [] = false := by
  have : accD [] 0 [0] = false := by
    cases hh : accD [] 0 [0] with
    | false => rfl
    | true =>
      obtain h1 := accD_iff.1 hh
      cases h1 with
      | non h1 _ _ => cases h1
  simp [agF, agP, this]
theorem one_one : agF 1 1 [[0]] [[]] [(0, [(true, 0)])] = true := by
  have h1 : accD [(0, [(true, 0)])] 0 [0] = true := accD_iff.2 (.non (List.mem_singleton.2 rfl) (.term rfl .nil) .nil)
  have h2 : accD [(0, [(true, 0)])] 0 [] = false := by
    cases hh : accD [(0, [(true, 0)])] 0 [] with
    | false => rfl
    | true =>
      have h3 := accD_iff.1 hh
      cases h3 with
      | non h4 h5 _ =>
        obtain h6 := List.mem_singleton.1 h4
        injection h6 with _ h6
        subst h6
        cases h5 with
        | term h7 _ => simp at h7
  simp [agF, agP, h1, h2]
theorem one_walk : walkP (agF 1 1 [[0]] [[]]) (rulesP 1 1) 1 0 [] ≠ none := by
  intro h7
  rw [walkP] at h7
  have hl : (rulesP 1 1).length = 7 := by decide +kernel
  have h8 := tryP_none h7 1 (by omega) (by omega)
  rw [walkP, show (rulesP 1 1).getD 1 (0, []) = (0, [(true, 0)]) by decide +kernel, List.nil_append, one_one] at h8
  cases h8
theorem one_guess {rs : List RuleD} (h : guessP (agF 1 1 [[0]] [[]]) (rulesP 1 1) = some rs) : rs.length = 1 := by
  obtain ⟨m, _, h2, h3, h4⟩ := tryP_some h
  obtain ⟨_, t, e, h5, _⟩ := walkP_ok h3
  rw [List.nil_append] at e
  subst e
  have h0 : m ≠ 0 := by
    rintro rfl
    rw [walkP, one_nil] at h3
    cases h3
  have h1 : m ≤ 1 := by
    rcases Nat.lt_or_ge 1 m with h6 | h6
    · exact absurd (h4 1 (by omega) h6) one_walk
    · exact h6
  omega
theorem one_found : ∃ rs, guessP (agF 1 1 [[0]] [[]]) (rulesP 1 1) = some rs := by
  cases h : guessP (agF 1 1 [[0]] [[]]) (rulesP 1 1) with
  | some rs => exact ⟨rs, rfl⟩
  | none => exact absurd (tryP_none h 1 (by omega) (by omega)) one_walk
/-- what a grammar that is guessed tells of the examples -/
theorem guess_tells {t n : Nat} {yes no : List (List Int)} {rs : List RuleD} (h : guessP (agF t n yes no) (rulesP t n) = some rs) : (∀ x ∈ yes, accD rs 0 x = true) ∧ (∀ x ∈ no, accD rs 0 x = false) ∧ rs.length ≤ 3 ∧ rs.Sublist (rulesP t n) := by
  obtain ⟨h1, h2, h3⟩ := guessP_ok h
  rw [agF, agP, Bool.and_eq_true, Bool.not_eq_true', Bool.not_eq_true'] at h1
  refine ⟨fun x hx => ?_, fun x hx => ?_, h2, h3⟩
  · have := List.any_eq_false.1 h1.2 x hx
    simpa using this
  · have := List.any_eq_false.1 h1.1 x hx
    simpa using this
/-- fewer examples are no harder -/
theorem agF_tail {t n : Nat} {y : List Int} {yes no : List (List Int)} : ∀ x, agF t n (y :: yes) no x = true → agF t n yes no x = true := fun x h => by
  rw [agF, agP, Bool.and_eq_true] at h ⊢
  refine ⟨h.1, ?_⟩
  have h2 := h.2
  rw [List.any_cons, Bool.not_or, Bool.and_eq_true] at h2
  exact h2.2
end Go.Proofs.YtidigjfnifmiiaaDoor
