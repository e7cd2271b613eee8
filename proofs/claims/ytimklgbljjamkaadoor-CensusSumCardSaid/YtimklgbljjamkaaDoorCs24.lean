/- PlainG KPlain Total -/
import Derived.Test.YtimklgbljjamkaaDoorCs09
import Derived.Test.YtimklgbljjamkaaDoorCs13
import Derived.Test.YtimklgbljjamkaaDoorCs23
namespace Go.Proofs.YtimklgbljjamkaaDoor
def plainR : List RuleD := [(0, [(true, 0)]), (0, [(true, 1), (false, 0)])]
abbrev plainG : GramD := (2, 1, 0, plainR)
theorem plain_valid : GValid plainG := by
 refine ⟨by decide, by decide, by decide, by decide, ⟨by decide, by decide⟩, by decide, ?_, by decide⟩
 intro r hr
 simp only [plainR, List.mem_cons, List.not_mem_nil, or_false] at hr
 rcases hr with rfl | rfl <;> simp [SymOk]
theorem plain_rules : RulesN 1 plainR := by
 intro r hr
 simp only [plainR, List.mem_cons, List.not_mem_nil, or_false] at hr
 rcases hr with rfl | rfl <;> simp [NonOk]
theorem plain_der1 {k : Nat} (h : Der plainR [(false, 0)] k) : 1 ≤ k := by
 obtain ⟨r, hr, h1⟩ := Der.non_iff.1 h
 simp only [plainR, List.mem_cons, List.not_mem_nil, or_false, Prod.mk.injEq] at hr
 rcases hr with ⟨_, rfl⟩ | ⟨_, rfl⟩
 ·
  have := Der.term_iff.1 h1; omega
 ·
  obtain ⟨i, hi, h2, _⟩ := Der.cons_iff.1 h1
  have := Der.term_iff.1 h2
  omega
theorem plain_der2 : ∀ k : Nat, Der plainR [(false, 0)] (k + 1)
 | 0 => Der.non_iff.2 ⟨[(true, 0)], by simp [plainR], Der.term_iff.2 rfl⟩
 | k + 1 => Der.non_iff.2 ⟨[(true, 1), (false, 0)], by simp [plainR], Der.cons_iff.2 ⟨1, by omega, Der.term_iff.2 rfl, plain_der2 k⟩⟩
theorem plain_len (k : Nat) : lenD plainR 0 k = decide (1 ≤ k) := by
 rw [Bool.eq_iff_iff, lenD_iff, decide_eq_true_eq]
 constructor
 ·
  exact plain_der1
 ·
  intro h
  obtain ⟨j, rfl⟩ : ∃ j, k = j + 1 := ⟨k - 1, by omega⟩
  exact plain_der2 j
theorem plain_edge {x y : Nat × Nat} (h : Edge plainR x y) : y.2 < x.2 := by
 obtain ⟨r, hr, _, a, b, h2, p, q, h3, h4, _⟩ := h
 simp only [plainR, List.mem_cons, List.not_mem_nil, or_false] at hr
 rcases hr with rfl | rfl
 ·
  cases a with
  | nil => simp at h2
  | cons s a => simp at h2
 ·
  cases a with
  | nil => simp at h2
  | cons s a =>
   cases a with
   | nil =>
    simp only [List.cons_append, List.nil_append, List.cons.injEq] at h2
    rw [← h2.1] at h4
    have := Der.term_iff.1 h4
    omega
   | cons s' a => simp at h2
theorem plain_reach {x y : Nat × Nat} (h : Reach (Edge plainR) x y) : y.2 < x.2 := by
 induction h with
 | one h => exact plain_edge h
 | step h _ ih => have := plain_edge h; omega
theorem plain_few (x : Nat × Nat) : ¬ Many plainR x := by
 rintro ⟨y, _, h⟩
 have := plain_reach h
 omega
theorem plain_ruleC1 (S : Nat → Nat → Bool) (c : Nat → Nat → Nat) (hS : ∀ k, S 0 k = decide (1 ≤ k)) : ruleC S c plainR 0 1 = 1 := by
 simp [ruleC, plainR, listC, List.range_succ, hasT, canT, ofC, hS]
 decide
theorem plain_ruleC2 (S : Nat → Nat → Bool) (c : Nat → Nat → Nat) (hS : ∀ k, S 0 k = decide (1 ≤ k)) (hc : c 0 1 = 1) : ruleC S c plainR 0 2 = 1 := by
 simp [ruleC, plainR, listC, List.range_succ, hasT, canT, ofC, hS, hc]
 decide
theorem plain_c1 : cN plainR 0 1 = 1 := by
 rw [cN_eq plain_rules (acc_few plain_rules (x := (0, 1)) (by decide) (plain_few _)), plain_ruleC1 _ _ plain_len]
theorem plain_c2 : cN plainR 0 2 = 1 := by
 rw [cN_eq plain_rules (acc_few plain_rules (x := (0, 2)) (by decide) (plain_few _)), plain_ruleC2 _ _ plain_len plain_c1]
theorem plain_t0 : treesN plainR 0 0 = 0 := by simp [treesN, plain_len]
theorem plain_t1 : treesN plainR 0 1 = 1 := by simp [treesN, plain_len, plain_few, plain_c1]
theorem plain_t2 : treesN plainR 0 2 = 1 := by simp [treesN, plain_len, plain_few, plain_c2]
theorem treesN_range {R : List RuleD} {N : Nat} (hR : RulesN N R) {a k : Nat} (ha : a < N) : treesN R a k = -1 ∨ 0 ≤ treesN R a k ∧ treesN R a k ≤ 1000000000 := by
 unfold treesN
 split
 ·
  split
  ·
   exact Or.inl rfl
  ·
   rename_i h
   have : cN R a k ≤ 1000000000 := cN_le hR (acc_few hR (x := (a, k)) ha h)
   omega
 ·
  omega
def totalD : List Int → Int → Int
 | [], s => s
 | x :: l, s => if x = -1 then -1 else totalD l (min (s + x) 1000000000)
end Go.Proofs.YtimklgbljjamkaaDoor
namespace Go.Proofs.YtimklgbljjamkaaDoor
open Go.RowKit
theorem Rd.newS (w : World) (S : Nat → Prop) (t : TypeId) (cs : List Value) (H n size : Nat) (hH : w.heap.size = H) (hS : S H) (hl : cs.length = n * size) : Rd (w.alloc (.cells cs.toArray t)) S size (some ⟨H, 0, none⟩) n cs := by
 subst hH
 refine ⟨hl, fun _ => ⟨w.heap.size, 0, rfl, hS, fun j v hv => ?_⟩⟩
 rw [World.cell?_alloc_at _ _ _ _ rfl]
 simpa using hv
set_option maxRecDepth 100000 in
set_option maxHeartbeats 1000000 in
theorem keepPlain (w : World) : Calls Tryd.prog 13 #[] w fun e w' => ∃ AR, e = .returned (.agg #[.int .i64 2, .int .i64 1, .int .i64 0, .slice AR 2 2]) ∧ Sl RRule w' (fun b => w.heap.size ≤ b) AR 2 2 plainR ∧ Below w.heap.size w w' := by
 go_enter Tryd.func13, Tryd.ntmps13
 go_wp2_with fail
 refine bodyPost_ret (v := .agg #[.int .i64 2, .int .i64 1, .int .i64 0, .slice (some ⟨w.heap.size + 3, 0, none⟩) 2 2]) (by simp [results, Tryd.results13, go_sem]) rfl ?_
 have hb := ((((Below.refl w.heap.size w).alloc (Nat.le_refl _) (.cells #[.int .i64 2, .int .i64 1, .int .i64 0, .slice (some ⟨w.heap.size + 1 + 1 + 1, 0, none⟩) 2 2] 25)).alloc (by simp) (.cells #[.bool true, .int .i64 0] 63)).alloc (by simp; omega) (.cells #[.bool true, .int .i64 1, .bool false, .int .i64 0] 63)).alloc (by simp; omega) (.cells #[.int .i64 0, .slice (some ⟨w.heap.size + 1, 0, none⟩) 1 1, .int .i64 0, .slice (some ⟨w.heap.size + 1 + 1, 0, none⟩) 2 2] 61)
 refine ⟨_, rfl, ⟨[.int .i64 0, .slice (some ⟨w.heap.size + 1, 0, none⟩) 1 1, .int .i64 0, .slice (some ⟨w.heap.size + 1 + 1, 0, none⟩) 2 2], rfl, Nat.le_refl _, Rd.newS _ _ _ _ _ 2 2 (by simp) (by simp) rfl, ?_⟩, hb⟩
 refine ⟨[_, _], [_, _], rfl, RRule.cells.2 ⟨_, _, _, rfl, ?_⟩, Cells.single (RRule.cells.2 ⟨_, _, _, rfl, ?_⟩)⟩
 ·
  exact Sl.alloc (Sl.alloc (R := RSym) (l := [(true, 0)]) ⟨[.bool true, .int .i64 0], rfl, Nat.le_refl _, Rd.newS _ _ _ _ (w.heap.size + 1) 1 2 (by simp) (by simp) rfl, Cells.single (RSym.cells.2 rfl)⟩ _) _
 ·
  exact Sl.alloc (R := RSym) (l := [(true, 1), (false, 0)]) ⟨[.bool true, .int .i64 1, .bool false, .int .i64 0], rfl, Nat.le_refl _, Rd.newS _ (fun b => w.heap.size ≤ b) _ _ (w.heap.size + 1 + 1) 2 2 (by simp) (by show w.heap.size ≤ _; omega) rfl, ⟨[_, _], [_, _], rfl, RSym.cells.2 rfl, Cells.single (RSym.cells.2 rfl)⟩⟩ _
end Go.Proofs.YtimklgbljjamkaaDoor
namespace Go.Proofs.YtimklgbljjamkaaDoor
open Go.RowKit
set_option maxRecDepth 100000 in
set_option maxHeartbeats 1000000 in
theorem censusTotal (w : World) (S : Nat → Prop) (AR : Option Addr) (nR cR : Nat) (g : GramD) (hg : Sl RRule w S AR nR cR g.2.2.2) (hv : GValid g) (n : Nat) (hn : n ≤ 24) :
    Calls Tryd.prog 26 #[.agg #[.int .i64 g.1, .int .i64 g.2.1, .int .i64 g.2.2.1, .slice AR nR cR], .int .i64 n] w fun e w' => e = .returned (.tuple #[.int .i64 (totalD (treesRow g.2.2.2 n g.2.2.1.toNat) 0), .int .i64 0]) ∧ Below w.heap.size w w' := by
 have HG := Lib.hid hg
 have HV := Lib.hid hv
 have hst : g.2.2.1 = ((g.2.2.1.toNat : Nat) : Int) ∧ g.2.2.1.toNat < nonsOf g := by have := hv.st; unfold nonsOf; omega
 have HST := Lib.hid hst
 have HRG := Lib.hid (fun k => treesN_range (k := k) (rulesN_of hv) hst.2)
 clear hg hv hst
 go_enter Tryd.func26, Tryd.ntmps26
 go_wp2_with fail
 refine (censusTrees _ S AR nR cR g (HG.out.alloc _) HV.out n hn).mono ?_
 rintro e w1 ⟨A, c, rfl, hsl, hb1⟩
 simp only [World.size_alloc] at hb1 hsl
 have hbx : w1.cell? ⟨w.heap.size, 2, none⟩ = some (.int .i64 g.2.2.1) := (hb1.cell (by simp)).trans (by simp)
 rw [HST.out.1] at hbx
 have l1 := cell_lt hbx
 have HB1 := Lib.hid (((Below.refl w.heap.size w).alloc (Nat.le_refl _) (.cells #[.int .i64 g.1, .int .i64 g.2.1, .int .i64 g.2.2.1, .slice AR nR cR] 25)).trans (hb1.mono (by omega)))
 obtain ⟨b, off, u, row, rfl, hSb, hrow, ⟨A1, n1, c1, hu, hsl1⟩, hcell⟩ := hsl.at_ rfl HST.out.2
 obtain rfl : u = .slice A1 n1 c1 := by simpa using hu
 have hrow' : row = treesRow g.2.2.2 n g.2.2.1.toNat := by
  rw [treesTab, List.getElem?_map, List.getElem?_range HST.out.2] at hrow
  simpa using hrow.symm
 have hn1 : n1 = n + 1 := by rw [hsl1.len, hrow']; simp [treesRow]
 subst hn1
 have HROW := Lib.hid hrow'
 have HSL1 := Lib.hid hsl1.ints
 have l2 := cell_lt hcell
 have hstlt : ((g.2.2.1.toNat : Nat) : Int) < (nonsOf g : Int) := by have := HST.out.2; omega
 obtain ⟨st, hste⟩ : ∃ st, st = g.2.2.1.toNat := ⟨_, rfl⟩
 rw [← hste] at hbx hcell hstlt
 clear hb1 hsl hrow hu hsl1 hrow'
 have hr1 : ∀ x ∈ row, x = -1 ∨ 0 ≤ x ∧ x ≤ 1000000000 := by
  intro x hx
  rw [HROW.out] at hx
  obtain ⟨k, _, rfl⟩ := List.mem_map.1 hx
  exact HRG.out k
 have HR1 := Lib.hid hr1
 clear hr1 HRG HST HV HG hste
 go_wp2_with fail
 go_loopg [8, 26] (n + 1) (fun gk t i wr => ∃ (k : Nat) (s : Int), k ≤ n + 1 ∧ gk = n + 1 - k ∧ i = .int .i64 k ∧ t = .int .i64 s ∧ 0 ≤ s ∧ s ≤ 1000000000 ∧ totalD (row.drop k) s = totalD row 0 ∧ wr = w1)
 case atStart => exact ⟨0, 0, Nat.zero_le _, rfl, rfl, rfl, by decide, by decide, rfl, rfl⟩
 case round =>
  obtain ⟨k, s, hk, hgk, rfl, rfl, hs1, hs2, htot, rfl⟩ := hrel
  have HGK := Lib.hid hgk
  have HT := Lib.hid htot
  clear hgk htot
  by_cases hlt : k < n + 1
  ·
   obtain ⟨b1, off1, u1, rfl, _, hu1, hc1⟩ := HSL1.out.at_ hlt
   have hl1 := cell_lt hc1
   rw [List.getElem?_map] at hu1
   obtain ⟨x, hx, rfl⟩ : ∃ x, row[k]? = some x ∧ .int .i64 x = u1 := by simpa using hu1
   have hd : row.drop k = x :: row.drop (k + 1) := by
    obtain ⟨h1, h2⟩ := List.getElem?_eq_some_iff.1 hx
    rw [List.drop_eq_getElem_cons h1, h2]
   have htd : totalD row 0 = if x = -1 then -1 else totalD (row.drop (k + 1)) (min (s + x) 1000000000) := by rw [← HT.out, hd]; rfl
   have hxr := HR1.out x (List.mem_of_getElem? hx)
   have HTD := Lib.hid htd
   clear hu1 hx hd htd HT HR1
   by_cases hx1 : x = -1
   ·
    have hxe : (x == -1) = true := by simp [hx1]
    have HX1 := Lib.hid hx1
    clear hx1 hxr
    go_wp2_with fail
    go_ret2
    exact ⟨by rw [← HROW.out, HTD.out, if_pos HX1.out]; rfl, HB1.out⟩
   ·
    have hxe : (x == -1) = false := by simp [hx1]
    have HX1 := Lib.hid hx1
    have hx0 : 0 ≤ x := by omega
    have hx9 : x ≤ 1000000000 := by omega
    clear hxr hx1
    go_wp2_with fail
    all_goals
     go_roundg (n + 1 - (k + 1))
     case measure => rw [HGK.out]; omega
     case rel =>
      rename_i hmin
      refine ⟨k + 1, min (s + x) 1000000000, by omega, rfl, by go_num, ?_, by omega, by omega, by rw [HTD.out, if_neg HX1.out], rfl⟩
      congr 1
      omega
  ·
   obtain rfl : k = n + 1 := by omega
   have hln : row.drop (n + 1) = [] := by
    have := HSL1.out.1
    simp only [List.length_map] at this
    exact List.drop_eq_nil_of_le (by omega)
   have htt := HT.out
   rw [hln] at htt
   have HTT := Lib.hid (show s = totalD row 0 from htt)
   clear htt hln
   go_wp2_with fail
   go_ret2
   exact ⟨by rw [← HROW.out, ← HTT.out]; rfl, HB1.out⟩
theorem keepCounts (w : World) : Calls Tryd.prog 8 #[] w fun e w' => e = .returned (.bool true) ∧ Below w.heap.size w w' := by
 go_enter Tryd.func8, Tryd.ntmps8
 go_wp2_with fail
 refine (keepPlain _).mono ?_
 rintro e w1 ⟨AR, rfl, hsl, hb1⟩
 have HS := Lib.hid hsl
 have HB := Lib.hid hb1
 clear hsl hb1
 go_wp2_with fail
 refine (censusTotal _ _ _ _ _ plainG HS.out plain_valid 2 (by omega)).mono ?_
 rintro e w2 ⟨rfl, hb2⟩
 have HB2 := Lib.hid (HB.out.trans (hb2.mono HB.out.size))
 clear hb2
 have ht : totalD (treesRow plainG.2.2.2 2 (plainG.2.2.1.toNat)) 0 = 2 := by
  show totalD [treesN plainR 0 0, treesN plainR 0 1, treesN plainR 0 2] 0 = 2
  rw [plain_t0, plain_t1, plain_t2]
  decide
 rw [ht]
 clear ht
 go_wp2_with fail
 go_ret
 exact ⟨rfl, HB2.out⟩
end Go.Proofs.YtimklgbljjamkaaDoor
