/- ApxHoldP LinP -/
import Derived.Test.YtgaahpddlohjoaaAl47
namespace Go.Proofs.Ytgaahpddlohjoaa
open Go.RowKit
def numB : List Bool → Nat
 | [] => 0
 | b :: s => (if b = true then 1 else 0) + 2 * numB s
theorem numB_lt : ∀ s : List Bool, numB s < 2 ^ s.length
 | [] => by decide
 | b :: s => by
  have := numB_lt s
  rw [List.length_cons, Nat.pow_succ]
  unfold numB
  split <;> omega
theorem numB_inj : ∀ {s t : List Bool}, s.length = t.length → numB s = numB t → s = t
 | [], [], _, _ => rfl
 | [], _ :: _, h, _ => by simp at h
 | _ :: _, [], h, _ => by simp at h
 | b :: s, c :: t, h, e => by
  unfold numB at e
  have hl : s.length = t.length := by simpa using h
  have hb : b = c ∧ numB s = numB t := by
   cases b <;> cases c <;> simp at e ⊢ <;> omega
  rw [hb.1, numB_inj hl hb.2]
theorem nodup_map_of {α β : Type} {f : α → β} {l : List α} (hd : l.Nodup) (h : ∀ a ∈ l, ∀ b ∈ l, f a = f b → a = b) : (l.map f).Nodup := by
 unfold List.Nodup
 rw [List.pairwise_map]
 exact hd.imp_of_mem fun ha hb hne e => hne (h _ ha _ hb e)
theorem keys_few {E : NfD} {ks : List ByteArray} (hd : ks.Nodup) (hg : ∀ k ∈ ks, GoodL E k) : ks.length ≤ 2 ^ E.nodes := by
 have h1 : (ks.map fun k => numB (bitsOf k)).Nodup := nodup_map_of hd fun a ha b hb e => by
  obtain ⟨h2, h3⟩ := (hg a ha).bits
  obtain ⟨h4, h5⟩ := (hg b hb).bits
  rw [h3, h5, numB_inj (h2.trans h4.symm) e]
 have h2 := pigeonD (n := 2 ^ E.nodes) h1 fun x hx => by
  obtain ⟨k, hk, rfl⟩ := List.mem_map.1 hx
  have := numB_lt (bitsOf k)
  rw [(hg k hk).bits.1] at this
  exact this
 rw [List.length_map] at h2
 exact h2
section
variable {cf : Int → CompD}
theorem plain_last (c : List Int) : OnlyP plainR c plLast := fun r hr _ i s hi hs hin => by
 simp only [plainR, List.mem_cons, List.not_mem_nil, or_false] at hr
 rcases hr with rfl | rfl
 ·
  match i, hs with
  | 0, hs => rfl
  | i + 1, hs => simp at hs
 ·
  match i, hs with
  | 0, hs =>
   simp at hs
   subst hs
   exact absurd hin (by simp [inC])
  | 1, hs => rfl
  | i + 2, hs => simp at hs
theorem plain_cf (H : CfOk plainR 1 cf) : cf 0 = (0, [0]) := by
 have h1 : (cf 0).1 = 0 := by
  rcases H.kind 0 (by decide) with ⟨h, _⟩ | ⟨_, h, _⟩ | ⟨_, h, _⟩
  ·
   exact h
  ·
   exact absurd (plain_last _) h
  ·
   exact absurd (plain_last _) h
 have h2 : (cf 0).2 = [0] := (H.set 0 (by decide)).trans (by decide)
 exact Prod.ext h1 h2
theorem plain_size (H : CfOk plainR 1 cf) : sizeN plainR cf 1 0 = 1 := by
 unfold sizeN sizeF netSz
 rw [plain_cf H]
 rfl
theorem plain_nodes (H : CfOk plainR 1 cf) : (wholeN plainR cf 1 0).nodes = 3 := by
 have hT : TermsOk plainR 2 := fun r hr s hs ht => by
  simp only [plainR, List.mem_cons, List.not_mem_nil, or_false] at hr
  rcases hr with rfl | rfl <;> simp at hs
  ·
   subst hs; decide
  ·
   rcases hs with rfl | rfl
   ·
    decide
   ·
    cases ht
 have h1 := (buildN_adds H.net hT (fun r hr => by
  simp only [plainR, List.mem_cons, List.not_mem_nil, or_false] at hr
  rcases hr with rfl | rfl <;> decide) (by decide) (n := 0) (by decide) (frm := 0) (dst := 1) (st := ⟨2, [], []⟩) (by decide) (by decide)).size (by rw [plain_size H]; decide)
 rw [plain_size H] at h1
 exact h1
end
theorem apx_plain {base : Nat} {e : Ending} {w' : World} (h : ApxR 2 1 0 plainR base e w') : ∃ (A : Option Addr) (n c : Nat) (NN : Option Addr) (c' : Nat), e = .returned (.tuple #[.agg #[.int .i64 0, .slice A n c, .slice NN 2 c'], .bool true, .int .i64 0]) := by
 obtain ⟨cf, H, h⟩ := h
 rcases h with ⟨_, h | ⟨ks, h1, h2, h3⟩⟩ | ⟨accs, rows, ex, A, n, c, NN, m, c', rfl, hx, hex, _, hsN⟩
 ·
  rw [show ((0 : Nat) : Int) = 0 from rfl, plain_size H] at h
  omega
 ·
  have h4 := keys_few h1 h2
  rw [show ((0 : Nat) : Int) = 0 from rfl, plain_nodes H] at h4
  omega
 ·
  have e1 : ex = true := hex.2 (plain_exact H)
  have e2 : m = 2 := by
   rw [hsN.len]
   refine plain_two hx fun w hw => ?_
   rw [show ((0 : Nat) : Int) = 0 from rfl]
   exact ⟨fun h => whole_exact H (by decide) (plain_exact H) h, fun h => whole_leads H (by decide) h⟩
  exact ⟨A, n, c, NN, c', by rw [e1, e2]⟩
theorem run_rng {E : NfD} {T : Nat} (h : NfOk T E) {x z : Nat} {w : List Int} (hr : Run E x w z) : ∀ c ∈ w, 0 ≤ c ∧ c < (T : Int) := by
 induction hr with
 | nil => intro c hc; cases hc
 | eps _ _ ih => exact ih
 | edge _ h2 ih =>
  intro c hc
  rcases List.mem_append.1 hc with hc | hc
  ·
   exact ih c hc
  ·
   rw [List.mem_singleton.1 hc]
   exact (h.edges _ h2).2.2
section
variable {R : List RuleD} {N T s0 : Nat} {cf : Int → CompD} {accs : List Int} {rows : List (List Int)} {w : List Int}
theorem apx_word (H : CfOk R N cf) (hs : s0 < N) (h : ApxA (wholeN R cf N (s0 : Int)) T T accs rows) (hw : LgS R (false, (s0 : Int)) w) : (∀ c ∈ w, 0 ≤ c ∧ c < cols (canonD (ExD accs rows))) ∧ daccept (canonD (ExD accs rows)) w = true := by
 have h1 := whole_leads H (n := (s0 : Int)) (by omega) hw
 have h2 := run_rng h.ok h1
 exact ⟨fun c hc => by rw [canon_cols h.valid.1, h.valid.2]; exact h2 c hc, (h.canon h2).2 h1⟩
theorem apx_only (H : CfOk R N cf) (hs : s0 < N) (h : ApxA (wholeN R cf N (s0 : Int)) T T accs rows) (hx : ExactP R cf (s0 : Int)) (hw : ∀ c ∈ w, 0 ≤ c ∧ c < (T : Int)) (ha : daccept (canonD (ExD accs rows)) w = true) : LgS R (false, (s0 : Int)) w :=
 whole_exact H (by omega) hx ((h.canon hw).1 ha)
end
end Go.Proofs.Ytgaahpddlohjoaa
namespace Go.Proofs.Ytgaahpddlohjoaa
def linCell (d : DfaD) (s c : Nat) : Int := ((d.2.2[s]?.getD [])[c]?).getD 0
def linAcc (d : DfaD) (s : Nat) : Int := (d.2.1[s]?).getD 0
def linOne (d : DfaD) (s c : Nat) : Option RuleD := if 0 ≤ linCell d s c then some ((s : Int), [(true, (c : Int)), (false, linCell d s c)]) else none
def linPart (d : DfaD) (s j : Nat) : List RuleD := (List.range j).filterMap (linOne d s)
def linEnd (d : DfaD) (s : Nat) : List RuleD := if 0 ≤ linAcc d s then [((s : Int), [])] else []
def linRow (d : DfaD) (s : Nat) : List RuleD := linPart d s (cols d) ++ linEnd d s
def linU (d : DfaD) (n : Nat) : List RuleD := (List.range n).flatMap (linRow d)
def linR (d : DfaD) : List RuleD := linU d d.2.2.length
section
variable {d : DfaD}
theorem linPart_succ (d : DfaD) (s j : Nat) : linPart d s (j + 1) = linPart d s j ++ (linOne d s j).toList := by
 unfold linPart
 rw [List.range_succ, List.filterMap_append]
 cases h : linOne d s j <;> simp [h]
theorem linPart_yes {s j : Nat} (h : 0 ≤ linCell d s j) : linPart d s (j + 1) = linPart d s j ++ [((s : Int), [(true, (j : Int)), (false, linCell d s j)])] := by
 rw [linPart_succ, linOne, if_pos h]
 rfl
theorem linPart_no {s j : Nat} (h : ¬ 0 ≤ linCell d s j) : linPart d s (j + 1) = linPart d s j := by
 rw [linPart_succ, linOne, if_neg h]
 simp
theorem linU_succ (d : DfaD) (n : Nat) : linU d (n + 1) = linU d n ++ linRow d n := by
 unfold linU
 rw [List.range_succ, List.flatMap_append, List.flatMap_singleton]
theorem linPart_mem {s j : Nat} {r : RuleD} : r ∈ linPart d s j ↔ ∃ c : Nat, c < j ∧ 0 ≤ linCell d s c ∧ r = ((s : Int), [(true, (c : Int)), (false, linCell d s c)]) := by
 unfold linPart
 rw [List.mem_filterMap]
 constructor
 ·
  rintro ⟨c, hc, h⟩
  unfold linOne at h
  by_cases h0 : 0 ≤ linCell d s c
  ·
   rw [if_pos h0] at h
   injection h with h
   exact ⟨c, List.mem_range.1 hc, h0, h.symm⟩
  ·
   rw [if_neg h0] at h
   cases h
 ·
  rintro ⟨c, hc, h0, rfl⟩
  exact ⟨c, List.mem_range.2 hc, by unfold linOne; rw [if_pos h0]⟩
theorem linEnd_mem {s : Nat} {r : RuleD} : r ∈ linEnd d s ↔ 0 ≤ linAcc d s ∧ r = ((s : Int), []) := by
 unfold linEnd
 by_cases h : 0 ≤ linAcc d s
 ·
  rw [if_pos h, List.mem_singleton]
  exact ⟨fun e => ⟨h, e⟩, fun e => e.2⟩
 ·
  rw [if_neg h]
  exact ⟨fun e => (by cases e), fun e => absurd e.1 h⟩
theorem linU_mem {n : Nat} {r : RuleD} : r ∈ linU d n ↔ ∃ s : Nat, s < n ∧ ((∃ c : Nat, c < cols d ∧ 0 ≤ linCell d s c ∧ r = ((s : Int), [(true, (c : Int)), (false, linCell d s c)])) ∨ (0 ≤ linAcc d s ∧ r = ((s : Int), []))) := by
 unfold linU
 rw [List.mem_flatMap]
 constructor
 ·
  rintro ⟨s, hs, h⟩
  refine ⟨s, List.mem_range.1 hs, ?_⟩
  rcases List.mem_append.1 h with h | h
  ·
   exact .inl (linPart_mem.1 h)
  ·
   exact .inr (linEnd_mem.1 h)
 ·
  rintro ⟨s, hs, h⟩
  refine ⟨s, List.mem_range.2 hs, List.mem_append.2 ?_⟩
  rcases h with h | h
  ·
   exact .inl (linPart_mem.2 h)
  ·
   exact .inr (linEnd_mem.2 h)
theorem linPart_len (s j : Nat) : (linPart d s j).length ≤ j := by
 unfold linPart
 refine Nat.le_trans (List.length_filterMap_le _ _) ?_
 simp
theorem linRow_len (s : Nat) : (linRow d s).length ≤ cols d + 1 := by
 unfold linRow
 rw [List.length_append]
 have := linPart_len (d := d) s (cols d)
 have h2 : (linEnd d s).length ≤ 1 := by unfold linEnd; split <;> simp
 omega
theorem linU_len : ∀ n : Nat, (linU d n).length ≤ n * (cols d + 1)
 | 0 => by simp [linU]
 | n + 1 => by
  rw [linU_succ, List.length_append, Nat.succ_mul]
  have := linU_len n
  have := linRow_len (d := d) n
  omega
theorem linPart_nodup (s : Nat) : ∀ j : Nat, (linPart d s j).Nodup
 | 0 => by simp [linPart]
 | j + 1 => by
  by_cases h : 0 ≤ linCell d s j
  ·
   rw [linPart_yes h, List.nodup_append]
   refine ⟨linPart_nodup s j, by simp, fun a ha b hb e => ?_⟩
   rw [List.mem_singleton.1 hb] at e
   obtain ⟨c, hc, _, e2⟩ := linPart_mem.1 ha
   rw [e2] at e
   injection e with _ e
   injection e with e _
   injection e with _ e
   omega
  ·
   rw [linPart_no h]
   exact linPart_nodup s j
theorem linU_nodup : ∀ n : Nat, (linU d n).Nodup
 | 0 => by simp [linU]
 | n + 1 => by
  rw [linU_succ, List.nodup_append]
  refine ⟨linU_nodup n, ?_, fun a ha b hb e => ?_⟩
  ·
   unfold linRow
   rw [List.nodup_append]
   refine ⟨linPart_nodup n _, by unfold linEnd; split <;> simp, fun a ha b hb e => ?_⟩
   obtain ⟨c, _, _, e1⟩ := linPart_mem.1 ha
   obtain ⟨_, e2⟩ := linEnd_mem.1 hb
   rw [e1, e2] at e
   injection e with _ e
   cases e
  ·
   obtain ⟨s, hs, h⟩ := linU_mem.1 ha
   have h1 : a.1 = (s : Int) := by rcases h with ⟨_, _, _, e⟩ | ⟨_, e⟩ <;> rw [e]
   have h2 : b.1 = (n : Int) := by
    rcases List.mem_append.1 hb with h | h
    ·
     obtain ⟨_, _, _, e⟩ := linPart_mem.1 h; rw [e]
    ·
     obtain ⟨_, e⟩ := linEnd_mem.1 h; rw [e]
   rw [e, h2] at h1
   omega
theorem linCell_rng (hv : Valid d) {s c : Nat} (hs : s < d.2.2.length) (hc : c < cols d) : -1 ≤ linCell d s c ∧ linCell d s c < d.2.2.length := by
 have h := dto_range hv (s := (s : Int)) (c := (c : Int)) ⟨by omega, by omega⟩ ⟨by omega, by omega⟩
 unfold dto at h
 rw [if_neg (by omega), Int.toNat_natCast, Int.toNat_natCast] at h
 exact h
theorem linCell_dto {s c : Nat} : linCell d s c = dto d (s : Int) (c : Int) := by
 unfold dto linCell
 rw [if_neg (by omega), Int.toNat_natCast, Int.toNat_natCast]
theorem linAcc_dat {s : Nat} : linAcc d s = dat d (s : Int) := by
 unfold dat linAcc
 rw [if_neg (by omega), Int.toNat_natCast]
theorem lin_valid (hv : Valid d) (hn : d.2.2.length ≤ 10) (hc : cols d ≤ 8) (hr : d.2.2.length * (cols d + 1) ≤ 32) : GValid (((cols d : Nat) : Int), ((d.2.2.length : Nat) : Int), d.1, linR d) := by
 refine ⟨by have := hv.c1; simp only; omega, by simp only; omega, by have := hv.n1; simp only; omega, by simp only; omega, hv.st, Nat.le_trans (linU_len _) hr, fun r h => ?_, linU_nodup _⟩
 simp only at h ⊢
 obtain ⟨s, hs, h⟩ := linU_mem.1 h
 rcases h with ⟨c, hc, h0, rfl⟩ | ⟨_, rfl⟩
 ·
  refine ⟨⟨by simp only; omega, by simp only; omega⟩, by simp, fun x hx => ?_⟩
  have h2 := linCell_rng hv hs hc
  simp only [List.mem_cons, List.not_mem_nil, or_false] at hx
  rcases hx with rfl | rfl
  ·
   exact ⟨by simp only; omega, by simp only [if_true]; omega⟩
  ·
   exact ⟨h0, by simp only; rw [if_neg (by decide)]; omega⟩
 ·
  exact ⟨⟨by simp only; omega, by simp only; omega⟩, by simp, fun x hx => (by cases hx)⟩
theorem lin_lang (hv : Valid d) : ∀ (w : List Int) (s : Nat), s < d.2.2.length → (LgS (linR d) (false, (s : Int)) w ↔ (∀ c ∈ w, 0 ≤ c ∧ c < (cols d : Int)) ∧ 0 ≤ dat d (w.foldl (dto d) (s : Int)))
 | [], s, hs => by
  rw [LgS.non]
  constructor
  ·
   rintro ⟨r, hr, he, h⟩
   refine ⟨fun c hc => (by cases hc), ?_⟩
   obtain ⟨s', _, h2⟩ := linU_mem.1 hr
   rcases h2 with ⟨c, _, _, rfl⟩ | ⟨h0, rfl⟩
   ·
    obtain ⟨u, v, e, h3, _⟩ := LgL.cons.1 h
    rw [LgS.term] at h3
    rw [h3] at e
    cases e
   ·
    simp only at he
    obtain rfl : s' = s := by omega
    rw [List.foldl_nil, ← linAcc_dat]
    exact h0
  ·
   rintro ⟨_, h⟩
   rw [List.foldl_nil, ← linAcc_dat] at h
   exact ⟨_, linU_mem.2 ⟨s, hs, .inr ⟨h, rfl⟩⟩, rfl, LgL.nil.2 rfl⟩
 | a :: w, s, hs => by
  rw [LgS.non]
  constructor
  ·
   rintro ⟨r, hr, he, h⟩
   obtain ⟨s', _, h2⟩ := linU_mem.1 hr
   rcases h2 with ⟨c, hc, h0, rfl⟩ | ⟨_, rfl⟩
   ·
    obtain ⟨u, v, e, h3, h4⟩ := LgL.cons.1 h
    rw [LgS.term] at h3
    rw [LgL.one] at h4
    subst h3
    simp only at he
    obtain rfl : s' = s := by omega
    injection e with e1 e2
    subst e2
    obtain ⟨t, ht⟩ : ∃ t : Nat, linCell d s' c = (t : Int) := ⟨(linCell d s' c).toNat, by omega⟩
    have htl := (linCell_rng hv hs hc).2
    rw [ht] at htl h4
    obtain ⟨h5, h6⟩ := (lin_lang hv w t (by omega)).1 h4
    refine ⟨fun x hx => ?_, ?_⟩
    ·
     rcases List.mem_cons.1 hx with rfl | hx
     ·
      omega
     ·
      exact h5 x hx
    ·
     rw [List.foldl_cons, e1, ← linCell_dto, ht]
     exact h6
   ·
    have := LgL.nil.1 h
    cases this
  ·
   rintro ⟨h1, h2⟩
   have ha := h1 a List.mem_cons_self
   obtain ⟨c, rfl⟩ : ∃ c : Nat, a = (c : Int) := ⟨a.toNat, by omega⟩
   rw [List.foldl_cons, ← linCell_dto] at h2
   have hrg := linCell_rng hv hs (show c < cols d by omega)
   have h0 : 0 ≤ linCell d s c := by
    rcases Int.lt_or_le (linCell d s c) 0 with h | h
    ·
     exfalso
     have e : linCell d s c = -1 := by omega
     rw [e] at h2
     have gen : ∀ w : List Int, w.foldl (dto d) (-1) = -1 := by
      intro w
      induction w with
      | nil => rfl
      | cons x w ih => rw [List.foldl_cons, show dto d (-1) x = -1 from rfl]; exact ih
     rw [gen] at h2
     exact absurd h2 (by rw [show dat d (-1) = -1 from rfl]; decide)
    ·
     exact h
   obtain ⟨t, ht⟩ : ∃ t : Nat, linCell d s c = (t : Int) := ⟨(linCell d s c).toNat, by omega⟩
   rw [ht] at h2 hrg
   have h3 := (lin_lang hv w t (by omega)).2 ⟨fun x hx => h1 x (List.mem_cons_of_mem _ hx), h2⟩
   refine ⟨_, linU_mem.2 ⟨s, hs, .inl ⟨c, by omega, h0, rfl⟩⟩, rfl, ?_⟩
   rw [LgL.cons]
   refine ⟨[(c : Int)], w, rfl, LgS.term.2 rfl, LgL.one.2 ?_⟩
   rw [ht]
   exact h3
theorem lin_last (c : List Int) : OnlyP (linR d) c plLast := fun r hr _ i s hi hs hin => by
 obtain ⟨s', _, h⟩ := linU_mem.1 hr
 rcases h with ⟨c', _, _, rfl⟩ | ⟨_, rfl⟩
 ·
  match i, hs with
  | 0, hs =>
   simp at hs
   subst hs
   exact absurd hin (by simp [inC])
  | 1, hs => rfl
  | i + 2, hs => simp at hs
 ·
  simp at hs
theorem lin_exact {N : Nat} {cf : Int → CompD} (H : CfOk (linR d) N cf) {s : Nat} (hs : s < N) : ExactP (linR d) cf (s : Int) := by
 have hk : ∀ n : Nat, n < N → (cf (n : Int)).1 ≠ 2 := fun n hn => by
  rcases H.kind n hn with ⟨h, _⟩ | ⟨h, _⟩ | ⟨_, h, _⟩
  ·
   rw [h]; decide
  ·
   rw [h]; decide
  ·
   exact absurd (lin_last _) h
 refine ⟨hk s hs, fun b hb => hk b ?_⟩
 have gen : ∀ {i j : Nat}, Reach (fun i j => edgN (linR d) i j = true) i j → j < N := by
  intro i j h
  induction h with
  | one h => exact edg_lt H.rules h
  | step _ _ ih => exact ih
 exact gen hb
theorem lin_back {N : Nat} {cf : Int → CompD} {s0 : Nat} {accs : List Int} {rows : List (List Int)} (hv : Valid d) (hN : d.2.2.length = N) (hs : d.1 = (s0 : Int)) (H : CfOk (linR d) N cf) (h : ApxA (wholeN (linR d) cf N (s0 : Int)) (cols d) (cols d) accs rows) {w : List Int} (hw : ∀ c ∈ w, 0 ≤ c ∧ c < (cols d : Int)) :
    daccept (canonD (ExD accs rows)) w = daccept d w := by
 have hs0 : s0 < N := by have := hv.st; omega
 have h1 : daccept d w = true ↔ LgS (linR d) (false, (s0 : Int)) w := by
  rw [lin_lang hv w s0 (by omega)]
  unfold daccept drun
  rw [decide_eq_true_eq, hs]
  exact ⟨fun h => ⟨hw, h⟩, fun h => h.2⟩
 rw [Bool.eq_iff_iff, h1]
 exact ⟨fun h2 => apx_only H hs0 h (lin_exact H hs0) hw h2, fun h2 => (apx_word H hs0 h h2).2⟩
end
end Go.Proofs.Ytgaahpddlohjoaa
