/- ApxHoldP KPlain MeetP -/
import Derived.Test.YtocbkccchnbmaaaGreatAw20
import Derived.Test.YtocbkccchnbmaaaGreatAw24
import Derived.Test.YtocbkccchnbmaaaGreatAw42
import Derived.Test.YtocbkccchnbmaaaGreatAw43
namespace Go.Proofs.YtocbkccchnbmaaaGreat
open Go.RowKit
def numB : List Bool → Nat
 | [] => 0
 | b :: s => (if b = true then 1 else 0) + 2 * numB s
theorem numB_lt : ∀ s : List Bool, numB s < 2 ^ s.length
 | [] => by decide
 | b :: s => by
  have := numB_lt s
  rw [List.length_cons, Nat.pow_succ]
  unfold numB
  split <;> omega
theorem numB_inj : ∀ {s t : List Bool}, s.length = t.length → numB s = numB t → s = t
 | [], [], _, _ => rfl
 | [], _ :: _, h, _ => by simp at h
 | _ :: _, [], h, _ => by simp at h
 | b :: s, c :: t, h, e => by
  unfold numB at e
  have hl : s.length = t.length := by simpa using h
  have hb : b = c ∧ numB s = numB t := by
   cases b <;> cases c <;> simp at e ⊢ <;> omega
  rw [hb.1, numB_inj hl hb.2]
theorem nodup_map_of {α β : Type} {f : α → β} {l : List α} (hd : l.Nodup) (h : ∀ a ∈ l, ∀ b ∈ l, f a = f b → a = b) : (l.map f).Nodup := by
 unfold List.Nodup
 rw [List.pairwise_map]
 exact hd.imp_of_mem fun ha hb hne e => hne (h _ ha _ hb e)
theorem keys_few {E : NfD} {ks : List ByteArray} (hd : ks.Nodup) (hg : ∀ k ∈ ks, GoodL E k) : ks.length ≤ 2 ^ E.nodes := by
 have h1 : (ks.map fun k => numB (bitsOf k)).Nodup := nodup_map_of hd fun a ha b hb e => by
  obtain ⟨h2, h3⟩ := (hg a ha).bits
  obtain ⟨h4, h5⟩ := (hg b hb).bits
  rw [h3, h5, numB_inj (h2.trans h4.symm) e]
 have h2 := pigeonD (n := 2 ^ E.nodes) h1 fun x hx => by
  obtain ⟨k, hk, rfl⟩ := List.mem_map.1 hx
  have := numB_lt (bitsOf k)
  rw [(hg k hk).bits.1] at this
  exact this
 rw [List.length_map] at h2
 exact h2
section
variable {cf : Int → CompD}
theorem plain_last (c : List Int) : OnlyP plainR c plLast := fun r hr _ i s hi hs hin => by
 simp only [plainR, List.mem_cons, List.not_mem_nil, or_false] at hr
 rcases hr with rfl | rfl
 ·
  match i, hs with
  | 0, hs => rfl
  | i + 1, hs => simp at hs
 ·
  match i, hs with
  | 0, hs =>
   simp at hs
   subst hs
   exact absurd hin (by simp [inC])
  | 1, hs => rfl
  | i + 2, hs => simp at hs
theorem plain_cf (H : CfOk plainR 1 cf) : cf 0 = (0, [0]) := by
 have h1 : (cf 0).1 = 0 := by
  rcases H.kind 0 (by decide) with ⟨h, _⟩ | ⟨_, h, _⟩ | ⟨_, h, _⟩
  ·
   exact h
  ·
   exact absurd (plain_last _) h
  ·
   exact absurd (plain_last _) h
 have h2 : (cf 0).2 = [0] := (H.set 0 (by decide)).trans (by decide)
 exact Prod.ext h1 h2
theorem plain_size (H : CfOk plainR 1 cf) : sizeN plainR cf 1 0 = 1 := by
 unfold sizeN sizeF netSz
 rw [plain_cf H]
 rfl
theorem plain_nodes (H : CfOk plainR 1 cf) : (wholeN plainR cf 1 0).nodes = 3 := by
 have hT : TermsOk plainR 2 := fun r hr s hs ht => by
  simp only [plainR, List.mem_cons, List.not_mem_nil, or_false] at hr
  rcases hr with rfl | rfl <;> simp at hs
  ·
   subst hs; decide
  ·
   rcases hs with rfl | rfl
   ·
    decide
   ·
    cases ht
 have h1 := (buildN_adds H.net hT (fun r hr => by
  simp only [plainR, List.mem_cons, List.not_mem_nil, or_false] at hr
  rcases hr with rfl | rfl <;> decide) (by decide) (n := 0) (by decide) (frm := 0) (dst := 1) (st := ⟨2, [], []⟩) (by decide) (by decide)).size (by rw [plain_size H]; decide)
 rw [plain_size H] at h1
 exact h1
end
theorem apx_plain {base : Nat} {e : Ending} {w' : World} (h : ApxR 2 1 0 plainR base e w') : ∃ (A : Option Addr) (n c : Nat) (NN : Option Addr) (c' : Nat), e = .returned (.tuple #[.agg #[.int .i64 0, .slice A n c, .slice NN 2 c'], .bool true, .int .i64 0]) := by
 obtain ⟨cf, H, h⟩ := h
 rcases h with ⟨_, h | ⟨ks, h1, h2, h3⟩⟩ | ⟨accs, rows, ex, A, n, c, NN, m, c', rfl, hx, hex, _, hsN⟩
 ·
  rw [show ((0 : Nat) : Int) = 0 from rfl, plain_size H] at h
  omega
 ·
  have h4 := keys_few h1 h2
  rw [show ((0 : Nat) : Int) = 0 from rfl, plain_nodes H] at h4
  omega
 ·
  have e1 : ex = true := hex.2 (plain_exact H)
  have e2 : m = 2 := by
   rw [hsN.len]
   refine plain_two hx fun w hw => ?_
   rw [show ((0 : Nat) : Int) = 0 from rfl]
   exact ⟨fun h => whole_exact H (by decide) (plain_exact H) h, fun h => whole_leads H (by decide) h⟩
  exact ⟨A, n, c, NN, c', by rw [e1, e2]⟩
theorem run_rng {E : NfD} {T : Nat} (h : NfOk T E) {x z : Nat} {w : List Int} (hr : Run E x w z) : ∀ c ∈ w, 0 ≤ c ∧ c < (T : Int) := by
 induction hr with
 | nil => intro c hc; cases hc
 | eps _ _ ih => exact ih
 | edge _ h2 ih =>
  intro c hc
  rcases List.mem_append.1 hc with hc | hc
  ·
   exact ih c hc
  ·
   rw [List.mem_singleton.1 hc]
   exact (h.edges _ h2).2.2
section
variable {R : List RuleD} {N T s0 : Nat} {cf : Int → CompD} {accs : List Int} {rows : List (List Int)} {w : List Int}
theorem apx_word (H : CfOk R N cf) (hs : s0 < N) (h : ApxA (wholeN R cf N (s0 : Int)) T T accs rows) (hw : LgS R (false, (s0 : Int)) w) : (∀ c ∈ w, 0 ≤ c ∧ c < cols (canonD (ExD accs rows))) ∧ daccept (canonD (ExD accs rows)) w = true := by
 have h1 := whole_leads H (n := (s0 : Int)) (by omega) hw
 have h2 := run_rng h.ok h1
 exact ⟨fun c hc => by rw [canon_cols h.valid.1, h.valid.2]; exact h2 c hc, (h.canon h2).2 h1⟩
end
end Go.Proofs.YtocbkccchnbmaaaGreat
namespace Go.Proofs.YtocbkccchnbmaaaGreat
open Go.RowKit
theorem Rd.newS (w : World) (S : Nat → Prop) (t : TypeId) (cs : List Value) (H n size : Nat) (hH : w.heap.size = H) (hS : S H) (hl : cs.length = n * size) : Rd (w.alloc (.cells cs.toArray t)) S size (some ⟨H, 0, none⟩) n cs := by
 subst hH
 refine ⟨hl, fun _ => ⟨w.heap.size, 0, rfl, hS, fun j v hv => ?_⟩⟩
 rw [World.cell?_alloc_at _ _ _ _ rfl]
 simpa using hv
set_option maxRecDepth 100000 in
set_option maxHeartbeats 1000000 in
theorem keepPlain (w : World) : Calls Tryz.prog 6 #[] w fun e w' => ∃ AR, e = .returned (.agg #[.int .i64 2, .int .i64 1, .int .i64 0, .slice AR 2 2]) ∧ Sl RRule w' (fun b => w.heap.size ≤ b) AR 2 2 plainR ∧ Below w.heap.size w w' := by
 go_enter Tryz.func6, Tryz.ntmps6
 go_wp2_with fail
 refine bodyPost_ret (v := .agg #[.int .i64 2, .int .i64 1, .int .i64 0, .slice (some ⟨w.heap.size + 3, 0, none⟩) 2 2]) (by simp [results, Tryz.results6, go_sem]) rfl ?_
 have hb := ((((Below.refl w.heap.size w).alloc (Nat.le_refl _) (.cells #[.int .i64 2, .int .i64 1, .int .i64 0, .slice (some ⟨w.heap.size + 1 + 1 + 1, 0, none⟩) 2 2] 25)).alloc (by simp) (.cells #[.bool true, .int .i64 0] 45)).alloc (by simp; omega) (.cells #[.bool true, .int .i64 1, .bool false, .int .i64 0] 45)).alloc (by simp; omega) (.cells #[.int .i64 0, .slice (some ⟨w.heap.size + 1, 0, none⟩) 1 1, .int .i64 0, .slice (some ⟨w.heap.size + 1 + 1, 0, none⟩) 2 2] 43)
 refine ⟨_, rfl, ⟨[.int .i64 0, .slice (some ⟨w.heap.size + 1, 0, none⟩) 1 1, .int .i64 0, .slice (some ⟨w.heap.size + 1 + 1, 0, none⟩) 2 2], rfl, Nat.le_refl _, Rd.newS _ _ _ _ _ 2 2 (by simp) (by simp) rfl, ?_⟩, hb⟩
 refine ⟨[_, _], [_, _], rfl, RRule.cells.2 ⟨_, _, _, rfl, ?_⟩, Cells.single (RRule.cells.2 ⟨_, _, _, rfl, ?_⟩)⟩
 ·
  exact Sl.alloc (Sl.alloc (R := RSym) (l := [(true, 0)]) ⟨[.bool true, .int .i64 0], rfl, Nat.le_refl _, Rd.newS _ _ _ _ (w.heap.size + 1) 1 2 (by simp) (by simp) rfl, Cells.single (RSym.cells.2 rfl)⟩ _) _
 ·
  exact Sl.alloc (R := RSym) (l := [(true, 1), (false, 0)]) ⟨[.bool true, .int .i64 1, .bool false, .int .i64 0], rfl, Nat.le_refl _, Rd.newS _ (fun b => w.heap.size ≤ b) _ _ (w.heap.size + 1 + 1) 2 2 (by simp) (by show w.heap.size ≤ _; omega) rfl, ⟨[_, _], [_, _], rfl, RSym.cells.2 rfl, Cells.single (RSym.cells.2 rfl)⟩⟩ _
end Go.Proofs.YtocbkccchnbmaaaGreat
namespace Go.Proofs.YtocbkccchnbmaaaGreat
abbrev TriD := Nat × Nat × Nat
section
variable (d : DfaD) (W : TriD → Bool)
def stpL (s : SymD) (q : Nat) : List Nat :=
 if s.1 = true then (if 0 ≤ dto d (q : Int) s.2 then [(dto d (q : Int) s.2).toNat] else [])
 else (List.range d.2.2.length).filter fun p => W (q, s.2.toNat, p)
inductive RchW : List SymD → Nat → Nat → Prop
 | nil {q : Nat} : RchW [] q q
 | cons {s : SymD} {l : List SymD} {q x p : Nat} : x ∈ stpL d W s q → RchW l x p → RchW (s :: l) q p
def nxtU (s : SymD) (l : List Bool) (i : Nat) : List Nat := (List.range i).flatMap fun p => if l[p]? = some true then stpL d W s p else []
def markL (n : Nat) (xs : List Nat) : List Bool := (List.range n).map fun x => xs.contains x
def rchL (l : List SymD) (q : Nat) : List Bool := l.foldl (fun at_ s => markL d.2.2.length (nxtU d W s at_ d.2.2.length)) (markL d.2.2.length [q])
end
section
variable {d : DfaD} {W W' : TriD → Bool} {R : List RuleD}
theorem markL_len (n : Nat) (xs : List Nat) : (markL n xs).length = n := by simp [markL]
theorem markL_at {n : Nat} {xs : List Nat} {x : Nat} (hx : x < n) : (markL n xs)[x]? = some (xs.contains x) := by
 unfold markL
 rw [List.getElem?_map, List.getElem?_range hx]
 rfl
theorem markL_yes {n : Nat} {xs : List Nat} {x : Nat} : (markL n xs)[x]? = some true ↔ x < n ∧ x ∈ xs := by
 constructor
 ·
  intro h
  have hx : x < n := by
   have := (List.getElem?_eq_some_iff.1 h).1
   rwa [markL_len] at this
  rw [markL_at hx] at h
  exact ⟨hx, by simpa using h⟩
 ·
  rintro ⟨hx, h⟩
  rw [markL_at hx]
  simpa using h
theorem rchL_snoc (l : List SymD) (s : SymD) (q : Nat) : rchL d W (l ++ [s]) q = markL d.2.2.length (nxtU d W s (rchL d W l q) d.2.2.length) := by
 unfold rchL
 rw [List.foldl_append]
 rfl
theorem rchL_len (l : List SymD) (q : Nat) : (rchL d W l q).length = d.2.2.length := by
 rcases List.eq_nil_or_concat l with rfl | ⟨l', s, rfl⟩
 ·
  exact markL_len _ _
 ·
  rw [List.concat_eq_append, rchL_snoc]
  exact markL_len _ _
theorem stpL_lt (hv : Valid d) {s : SymD} {q x : Nat} (hq : q < d.2.2.length) (hs : s.1 = true → 0 ≤ s.2 ∧ s.2 < (cols d : Int)) (h : x ∈ stpL d W s q) : x < d.2.2.length := by
 unfold stpL at h
 by_cases h1 : s.1 = true
 ·
  rw [if_pos h1] at h
  by_cases h2 : 0 ≤ dto d (q : Int) s.2
  ·
   rw [if_pos h2] at h
   rw [List.mem_singleton.1 h]
   have := dto_range hv (s := (q : Int)) (c := s.2) ⟨by omega, by omega⟩ (hs h1)
   omega
  ·
   rw [if_neg h2] at h
   cases h
 ·
  rw [if_neg h1] at h
  exact List.mem_range.1 (List.mem_filter.1 h).1
theorem RchW.snoc {l : List SymD} {s : SymD} {q x p : Nat} (h : RchW d W l q x) (hp : p ∈ stpL d W s x) : RchW d W (l ++ [s]) q p := by
 induction h with
 | nil => exact .cons hp .nil
 | cons h1 _ ih => exact .cons h1 (ih hp)
theorem RchW.split {m : List SymD} : ∀ {l : List SymD} {q p : Nat}, RchW d W (l ++ m) q p → ∃ x, RchW d W l q x ∧ RchW d W m x p
 | [], q, p, h => ⟨q, .nil, h⟩
 | s :: l, q, p, h => by
  cases h with
  | cons h1 h2 =>
   obtain ⟨x, h3, h4⟩ := RchW.split h2
   exact ⟨x, .cons h1 h3, h4⟩
def TermsL (d : DfaD) (l : List SymD) : Prop := ∀ s ∈ l, s.1 = true → 0 ≤ s.2 ∧ s.2 < (cols d : Int)
theorem RchW.lt (hv : Valid d) {l : List SymD} {q p : Nat} (h : RchW d W l q p) : TermsL d l → q < d.2.2.length → p < d.2.2.length := by
 induction h with
 | nil => exact fun _ h => h
 | @cons s l q x p h1 _ ih => exact fun ht hq => ih (fun s' hs' => ht s' (List.mem_cons_of_mem _ hs')) (stpL_lt hv hq (ht s List.mem_cons_self) h1)
theorem snoc_ind {α : Type} {P : List α → Prop} (h0 : P []) (h1 : ∀ l x, P l → P (l ++ [x])) (l : List α) : P l := by
 have gen : ∀ (n : Nat) (l : List α), l.length = n → P l := by
  intro n
  induction n with
  | zero => intro l hl; rw [List.eq_nil_of_length_eq_zero hl]; exact h0
  | succ n ih =>
   intro l hl
   rcases List.eq_nil_or_concat l with rfl | ⟨l', x, rfl⟩
   ·
    exact h0
   ·
    rw [List.concat_eq_append] at hl ⊢
    exact h1 l' x (ih l' (by simpa using hl))
 exact gen _ l rfl
theorem rchL_iff (hv : Valid d) {q : Nat} (hq : q < d.2.2.length) : ∀ {l : List SymD} {p : Nat}, TermsL d l → ((rchL d W l q)[p]? = some true ↔ RchW d W l q p) := by
 intro l
 refine snoc_ind (P := fun l => ∀ {p : Nat}, TermsL d l → ((rchL d W l q)[p]? = some true ↔ RchW d W l q p)) ?_ ?_ l
 ·
  intro p _
  show (markL d.2.2.length [q])[p]? = some true ↔ _
  rw [markL_yes, List.mem_singleton]
  constructor
  ·
   rintro ⟨_, rfl⟩
   exact .nil
  ·
   intro h
   cases h
   exact ⟨hq, rfl⟩
 ·
  intro l s ih p ht
  have ht1 : TermsL d l := fun s' hs' => ht s' (List.mem_append_left _ hs')
  rw [rchL_snoc, markL_yes]
  constructor
  ·
   rintro ⟨_, h⟩
   unfold nxtU at h
   obtain ⟨x, hx, hp⟩ := List.mem_flatMap.1 h
   by_cases hx1 : (rchL d W l q)[x]? = some true
   ·
    rw [if_pos hx1] at hp
    exact ((ih ht1).1 hx1).snoc hp
   ·
    rw [if_neg hx1] at hp
    cases hp
  ·
   intro h
   have hlt := h.lt hv ht hq
   obtain ⟨x, h1, h2⟩ := h.split
   cases h2 with
   | cons h2 h3 =>
    cases h3
    refine ⟨hlt, ?_⟩
    unfold nxtU
    exact List.mem_flatMap.2 ⟨x, List.mem_range.2 (h1.lt hv ht1 hq), by rw [if_pos ((ih ht1).2 h1)]; exact h2⟩
def Wd (d : DfaD) (R : List RuleD) (t : TriD) : Prop := ∃ w, LgS R (false, (t.2.1 : Int)) w ∧ w.foldl (dto d) (t.1 : Int) = (t.2.2 : Int)
theorem rch_word (hW : ∀ t, W t = true → Wd d R t) {l : List SymD} {q p : Nat} (h : RchW d W l q p) : (∀ s ∈ l, 0 ≤ s.2) → ∃ w, LgL R l w ∧ w.foldl (dto d) (q : Int) = (p : Int) := by
 induction h with
 | nil => exact fun _ => ⟨[], LgL.nil.2 rfl, rfl⟩
 | @cons s l q x p h1 _ ih =>
  intro hs
  obtain ⟨v, h3, h4⟩ := ih fun s' hs' => hs s' (List.mem_cons_of_mem _ hs')
  have h0 := hs s List.mem_cons_self
  obtain ⟨b, c⟩ := s
  unfold stpL at h1
  cases b with
  | true =>
   rw [if_pos rfl] at h1
   simp only at h1 h0
   by_cases h5 : 0 ≤ dto d (q : Int) c
   ·
    rw [if_pos h5] at h1
    have h6 := List.mem_singleton.1 h1
    refine ⟨c :: v, LgL.cons.2 ⟨[c], v, rfl, LgS.term.2 rfl, h3⟩, ?_⟩
    rw [List.foldl_cons, show dto d (q : Int) c = (x : Int) by omega]
    exact h4
   ·
    rw [if_neg h5] at h1
    cases h1
  | false =>
   rw [if_neg (by simp)] at h1
   simp only at h1 h0
   obtain ⟨w, h6, h7⟩ := hW _ (List.mem_filter.1 h1).2
   simp only at h6 h7
   rw [Int.toNat_of_nonneg h0] at h6
   refine ⟨w ++ v, LgL.cons.2 ⟨w, v, rfl, h6, h3⟩, ?_⟩
   rw [List.foldl_append, h7]
   exact h4
def ClosedT (d : DfaD) (R : List RuleD) (W : TriD → Bool) : Prop := ∀ r ∈ R, ∀ q p : Nat, q < d.2.2.length → RchW d W r.2 q p → W (q, r.1.toNat, p) = true
end
end Go.Proofs.YtocbkccchnbmaaaGreat
