/- ApxHoldP WordPlain ApxExactP KPlain MakeWord GBase -/
import Derived.Test.YtabnlbalekmmmaaDoorAe04
import Derived.Test.YtabnlbalekmmmaaDoorAe05
import Derived.Test.YtabnlbalekmmmaaDoorAe07
import Derived.Test.YtabnlbalekmmmaaDoorAe08
import Derived.Test.YtabnlbalekmmmaaDoorAe10
import Derived.Test.YtabnlbalekmmmaaDoorAe16
import Derived.Test.YtabnlbalekmmmaaDoorAe22
import Derived.Test.YtabnlbalekmmmaaDoorAe47
import Derived.Test.YtabnlbalekmmmaaDoorAe48
namespace Go.Proofs.YtabnlbalekmmmaaDoor
open Go.RowKit
def numB : List Bool → Nat
 | [] => 0
 | b :: s => (if b = true then 1 else 0) + 2 * numB s
theorem numB_lt : ∀ s : List Bool, numB s < 2 ^ s.length
 | [] => by decide
 | b :: s => by
  have := numB_lt s
  rw [List.length_cons, Nat.pow_succ]
  unfold numB
  split <;> omega
theorem numB_inj : ∀ {s t : List Bool}, s.length = t.length → numB s = numB t → s = t
 | [], [], _, _ => rfl
 | [], _ :: _, h, _ => by simp at h
 | _ :: _, [], h, _ => by simp at h
 | b :: s, c :: t, h, e => by
  unfold numB at e
  have hl : s.length = t.length := by simpa using h
  have hb : b = c ∧ numB s = numB t := by
   cases b <;> cases c <;> simp at e ⊢ <;> omega
  rw [hb.1, numB_inj hl hb.2]
theorem nodup_map_of {α β : Type} {f : α → β} {l : List α} (hd : l.Nodup) (h : ∀ a ∈ l, ∀ b ∈ l, f a = f b → a = b) : (l.map f).Nodup := by
 unfold List.Nodup
 rw [List.pairwise_map]
 exact hd.imp_of_mem fun ha hb hne e => hne (h _ ha _ hb e)
theorem keys_few {E : NfD} {ks : List ByteArray} (hd : ks.Nodup) (hg : ∀ k ∈ ks, GoodL E k) : ks.length ≤ 2 ^ E.nodes := by
 have h1 : (ks.map fun k => numB (bitsOf k)).Nodup := nodup_map_of hd fun a ha b hb e => by
  obtain ⟨h2, h3⟩ := (hg a ha).bits
  obtain ⟨h4, h5⟩ := (hg b hb).bits
  rw [h3, h5, numB_inj (h2.trans h4.symm) e]
 have h2 := pigeonD (n := 2 ^ E.nodes) h1 fun x hx => by
  obtain ⟨k, hk, rfl⟩ := List.mem_map.1 hx
  have := numB_lt (bitsOf k)
  rw [(hg k hk).bits.1] at this
  exact this
 rw [List.length_map] at h2
 exact h2
section
variable {cf : Int → CompD}
theorem plain_last (c : List Int) : OnlyP plainR c plLast := fun r hr _ i s hi hs hin => by
 simp only [plainR, List.mem_cons, List.not_mem_nil, or_false] at hr
 rcases hr with rfl | rfl
 ·
  match i, hs with
  | 0, hs => rfl
  | i + 1, hs => simp at hs
 ·
  match i, hs with
  | 0, hs =>
   simp at hs
   subst hs
   exact absurd hin (by simp [inC])
  | 1, hs => rfl
  | i + 2, hs => simp at hs
theorem plain_cf (H : CfOk plainR 1 cf) : cf 0 = (0, [0]) := by
 have h1 : (cf 0).1 = 0 := by
  rcases H.kind 0 (by decide) with ⟨h, _⟩ | ⟨_, h, _⟩ | ⟨_, h, _⟩
  ·
   exact h
  ·
   exact absurd (plain_last _) h
  ·
   exact absurd (plain_last _) h
 have h2 : (cf 0).2 = [0] := (H.set 0 (by decide)).trans (by decide)
 exact Prod.ext h1 h2
theorem plain_size (H : CfOk plainR 1 cf) : sizeN plainR cf 1 0 = 1 := by
 unfold sizeN sizeF netSz
 rw [plain_cf H]
 rfl
theorem plain_nodes (H : CfOk plainR 1 cf) : (wholeN plainR cf 1 0).nodes = 3 := by
 have hT : TermsOk plainR 2 := fun r hr s hs ht => by
  simp only [plainR, List.mem_cons, List.not_mem_nil, or_false] at hr
  rcases hr with rfl | rfl <;> simp at hs
  ·
   subst hs; decide
  ·
   rcases hs with rfl | rfl
   ·
    decide
   ·
    cases ht
 have h1 := (buildN_adds H.net hT (fun r hr => by
  simp only [plainR, List.mem_cons, List.not_mem_nil, or_false] at hr
  rcases hr with rfl | rfl <;> decide) (by decide) (n := 0) (by decide) (frm := 0) (dst := 1) (st := ⟨2, [], []⟩) (by decide) (by decide)).size (by rw [plain_size H]; decide)
 rw [plain_size H] at h1
 exact h1
end
theorem apx_plain {base : Nat} {e : Ending} {w' : World} (h : ApxR 2 1 0 plainR base e w') : ∃ (A : Option Addr) (n c : Nat) (NN : Option Addr) (c' : Nat), e = .returned (.tuple #[.agg #[.int .i64 0, .slice A n c, .slice NN 2 c'], .bool true, .int .i64 0]) := by
 obtain ⟨cf, H, h⟩ := h
 rcases h with ⟨_, h | ⟨ks, h1, h2, h3⟩⟩ | ⟨accs, rows, ex, A, n, c, NN, m, c', rfl, hx, hex, _, hsN⟩
 ·
  rw [show ((0 : Nat) : Int) = 0 from rfl, plain_size H] at h
  omega
 ·
  have h4 := keys_few h1 h2
  rw [show ((0 : Nat) : Int) = 0 from rfl, plain_nodes H] at h4
  omega
 ·
  have e1 : ex = true := hex.2 (plain_exact H)
  have e2 : m = 2 := by
   rw [hsN.len]
   refine plain_two hx fun w hw => ?_
   rw [show ((0 : Nat) : Int) = 0 from rfl]
   exact ⟨fun h => whole_exact H (by decide) (plain_exact H) h, fun h => whole_leads H (by decide) h⟩
  exact ⟨A, n, c, NN, c', by rw [e1, e2]⟩
theorem run_rng {E : NfD} {T : Nat} (h : NfOk T E) {x z : Nat} {w : List Int} (hr : Run E x w z) : ∀ c ∈ w, 0 ≤ c ∧ c < (T : Int) := by
 induction hr with
 | nil => intro c hc; cases hc
 | eps _ _ ih => exact ih
 | edge _ h2 ih =>
  intro c hc
  rcases List.mem_append.1 hc with hc | hc
  ·
   exact ih c hc
  ·
   rw [List.mem_singleton.1 hc]
   exact (h.edges _ h2).2.2
section
variable {R : List RuleD} {N T s0 : Nat} {cf : Int → CompD} {accs : List Int} {rows : List (List Int)} {w : List Int}
theorem apx_word (H : CfOk R N cf) (hs : s0 < N) (h : ApxA (wholeN R cf N (s0 : Int)) T T accs rows) (hw : LgS R (false, (s0 : Int)) w) : (∀ c ∈ w, 0 ≤ c ∧ c < cols (canonD (ExD accs rows))) ∧ daccept (canonD (ExD accs rows)) w = true := by
 have h1 := whole_leads H (n := (s0 : Int)) (by omega) hw
 have h2 := run_rng h.ok h1
 exact ⟨fun c hc => by rw [canon_cols h.valid.1, h.valid.2]; exact h2 c hc, (h.canon h2).2 h1⟩
theorem apx_only (H : CfOk R N cf) (hs : s0 < N) (h : ApxA (wholeN R cf N (s0 : Int)) T T accs rows) (hx : ExactP R cf (s0 : Int)) (hw : ∀ c ∈ w, 0 ≤ c ∧ c < (T : Int)) (ha : daccept (canonD (ExD accs rows)) w = true) : LgS R (false, (s0 : Int)) w :=
 whole_exact H (by omega) hx ((h.canon hw).1 ha)
end
end Go.Proofs.YtabnlbalekmmmaaDoor
namespace Go.Proofs.YtabnlbalekmmmaaDoor
inductive DerW (R : List RuleD) (w : List Int) : List SymD → Nat → Nat → Prop
 | nil {i : Nat} : DerW R w [] i i
 | term {c : Int} {l : List SymD} {i j : Nat} : w[i]? = some c → DerW R w l (i + 1) j → DerW R w ((true, c) :: l) i j
 | non {A : Int} {r l : List SymD} {i k j : Nat} : (A, r) ∈ R → DerW R w r i k → DerW R w l k j → DerW R w ((false, A) :: l) i j
theorem DerW.mono {R R' : List RuleD} {w : List Int} (hR : ∀ r ∈ R, r ∈ R') {l : List SymD} {i j : Nat} (h : DerW R w l i j) : DerW R' w l i j := by
 induction h with
 | nil => exact .nil
 | term h1 _ ih => exact .term h1 ih
 | non h1 _ _ ih1 ih2 => exact .non (hR _ h1) ih1 ih2
theorem DerW.cons {R : List RuleD} {w : List Int} {s : SymD} {l : List SymD} {i k j : Nat} (h : DerW R w [s] i k) (h' : DerW R w l k j) : DerW R w (s :: l) i j := by
 cases h with
 | term h1 h2 => cases h2; exact .term h1 h'
 | non h1 h2 h3 => cases h3; exact .non h1 h2 h'
theorem DerW.le {R : List RuleD} {w : List Int} {l : List SymD} {i j : Nat} (h : DerW R w l i j) : i ≤ j ∧ (i ≤ w.length → j ≤ w.length) := by
 induction h with
 | nil => exact ⟨Nat.le_refl _, id⟩
 | term h1 _ ih =>
  have := (List.getElem?_eq_some_iff.1 h1).1
  exact ⟨by omega, fun _ => ih.2 (by omega)⟩
 | non _ _ _ ih1 ih2 => exact ⟨by omega, fun h => ih2.2 (ih1.2 h)⟩
theorem DerW.der {R : List RuleD} {w : List Int} {l : List SymD} {i j : Nat} (h : DerW R w l i j) : Der R l (j - i) := by
 induction h with
 | nil => rw [Nat.sub_self]; exact .nil
 | @term c l i j h1 h2 ih =>
  have := h2.le.1
  have h3 := Der.append (Der.term_iff (R := R) (x := c).2 rfl) ih
  rw [show j - i = 1 + (j - (i + 1)) by omega]
  exact h3
 | @non A r l i k j h1 h2 h3 ih1 ih2 =>
  have := h2.le.1
  have := h3.le.1
  have h4 := Der.append (Der.non_iff.2 ⟨r, h1, ih1⟩) ih2
  rw [show j - i = (k - i) + (j - k) by omega]
  exact h4
def StpD (E : Nat → Nat → Nat) (w : List Int) (s : SymD) (i k : Nat) : Prop := if s.1 = true then w[i]? = some s.2 ∧ k = i + 1 else (E s.2.toNat i).testBit k = true
def Rch (E : Nat → Nat → Nat) (w : List Int) : List SymD → Nat → Nat → Prop
 | [], i, j => i = j
 | s :: l, i, j => ∃ k, StpD E w s i k ∧ Rch E w l k j
theorem Rch.snoc {E : Nat → Nat → Nat} {w : List Int} {s : SymD} : ∀ {l : List SymD} {i j : Nat}, Rch E w (l ++ [s]) i j ↔ ∃ k, Rch E w l i k ∧ StpD E w s k j
 | [], i, j => by
  constructor
  ·
   rintro ⟨k, h1, rfl⟩; exact ⟨i, rfl, h1⟩
  ·
   rintro ⟨k, rfl, h1⟩; exact ⟨j, h1, rfl⟩
 | x :: l, i, j => by
  rw [List.cons_append]
  constructor
  ·
   rintro ⟨k, h1, h2⟩
   obtain ⟨m, h3, h4⟩ := Rch.snoc.1 h2
   exact ⟨m, ⟨k, h1, h3⟩, h4⟩
  ·
   rintro ⟨m, ⟨k, h1, h3⟩, h4⟩
   exact ⟨k, h1, Rch.snoc.2 ⟨m, h3, h4⟩⟩
section
variable {R : List RuleD} {w : List Int} {N n : Nat} {E : Nat → Nat → Nat}
def SoundW (R : List RuleD) (w : List Int) (N : Nat) (E : Nat → Nat → Nat) : Prop := ∀ a i j, a < N → (E a i).testBit j = true → DerW R w [(false, (a : Int))] i j
theorem rch_sound (hS : SoundW R w N E) : ∀ {l : List SymD} {i j : Nat}, NonOk N l → Rch E w l i j → DerW R w l i j
 | [], i, j, _, h => by obtain rfl : i = j := h; exact .nil
 | s :: l, i, j, hl, ⟨k, h1, h2⟩ => by
  have ih := rch_sound hS hl.tail h2
  obtain ⟨b, c⟩ := s
  unfold StpD at h1
  cases b with
  | true =>
   rw [if_pos rfl] at h1
   obtain ⟨h3, rfl⟩ := h1
   exact .term h3 ih
  | false =>
   rw [if_neg (by simp)] at h1
   obtain ⟨h0, h4⟩ := hl (false, c) (by simp) rfl
   have h5 := hS _ _ _ h4 h1
   rw [Int.toNat_of_nonneg h0] at h5
   exact h5.cons ih
def ClosedW (R : List RuleD) (w : List Int) (E : Nat → Nat → Nat) : Prop := ∀ r ∈ R, ∀ i, i ≤ w.length → ∀ j, Rch E w r.2 i j → (E r.1.toNat i).testBit j = true
theorem rch_complete (hC : ClosedW R w E) {l : List SymD} {i j : Nat} (h : DerW R w l i j) : i ≤ w.length → Rch E w l i j := by
 induction h with
 | nil => intro _; rfl
 | @term c l i j h1 h2 ih =>
  intro hi
  have := (List.getElem?_eq_some_iff.1 h1).1
  exact ⟨i + 1, by unfold StpD; rw [if_pos rfl]; exact ⟨h1, rfl⟩, ih (by omega)⟩
 | @non A r l i k j h1 h2 h3 ih1 ih2 =>
  intro hi
  have hk := h2.le.2 hi
  exact ⟨k, by unfold StpD; rw [if_neg (by simp)]; exact hC _ h1 i hi k (ih1 hi), ih2 hk⟩
theorem ends_eq (hS : SoundW R w N E) (hC : ClosedW R w E) {a i j : Nat} (ha : a < N) (hi : i ≤ w.length) : (E a i).testBit j = true ↔ DerW R w [(false, (a : Int))] i j := by
 constructor
 ·
  exact hS a i j ha
 ·
  intro h
  obtain ⟨k, h1, rfl⟩ := rch_complete hC h hi
  unfold StpD at h1
  rw [if_neg (by simp)] at h1
  simpa using h1
theorem soundW_or (hS : SoundW R w N E) {r : RuleD} (hr : r ∈ R) (hr0 : 0 ≤ r.1) (hrN : NonOk N r.2) {i X : Nat} (hX : ∀ j, X.testBit j = true ↔ Rch E w r.2 i j) :
    SoundW R w N (fun b k => if b = r.1.toNat ∧ k = i then E b k ||| X else E b k) := by
 intro a k j ha h
 by_cases hc : a = r.1.toNat ∧ k = i
 ·
  obtain ⟨rfl, rfl⟩ := hc
  simp only [and_self, if_true, Nat.testBit_or, Bool.or_eq_true] at h
  rcases h with h | h
  ·
   exact hS _ _ _ ha h
  ·
   have h1 := rch_sound hS hrN ((hX j).1 h)
   rw [Int.toNat_of_nonneg hr0]
   exact .non (r := r.2) hr h1 .nil
 ·
  simp only [hc, if_false] at h
  exact hS _ _ _ ha h
def sumN (f : Nat → Nat) : Nat → Nat
 | 0 => 0
 | n + 1 => sumN f n + f n
theorem sumN_le {f g : Nat → Nat} : ∀ {n : Nat}, (∀ i, i < n → g i ≤ f i) → sumN g n ≤ sumN f n
 | 0, _ => Nat.le_refl _
 | n + 1, h => by
  have h1 := sumN_le (n := n) fun i hi => h i (by omega)
  have h2 := h n (by omega)
  unfold sumN
  omega
theorem sumN_lt {f g : Nat → Nat} {k : Nat} : ∀ {n : Nat}, (∀ i, i < n → g i ≤ f i) → k < n → g k < f k → sumN g n < sumN f n
 | 0, _, hk, _ => by omega
 | n + 1, h, hk, hlt => by
  have h2 := h n (by omega)
  by_cases e : k = n
  ·
   subst e
   have h1 := sumN_le (n := k) fun i hi => h i (by omega)
   unfold sumN
   omega
  ·
   have h1 := sumN_lt (n := n) (fun i hi => h i (by omega)) (by omega) hlt
   unfold sumN
   omega
def meaW (N n : Nat) (E : Nat → Nat → Nat) : Nat := sumN (fun a => sumN (fun i => 8192 - E a i) (n + 1)) N
theorem meaW_lt {E' : Nat → Nat → Nat} {a i : Nat} (ha : a < N) (hi : i ≤ n) (h : ∀ b k, E b k ≤ E' b k) (hlt : E a i < E' a i) (h8 : E' a i < 8192) : meaW N n E' < meaW N n E :=
 sumN_lt (k := a) (fun b _ => sumN_le fun k _ => by have := h b k; omega) ha (sumN_lt (k := i) (fun k _ => by have := h a k; omega) (by omega) (by omega))
open Classical in
noncomputable def accD (R : List RuleD) (st : Int) (w : List Int) : Bool := decide (DerW R w [(false, st)] 0 w.length)
theorem accD_iff {st : Int} : accD R st w = true ↔ DerW R w [(false, st)] 0 w.length := by simp [accD]
end
end Go.Proofs.YtabnlbalekmmmaaDoor
namespace Go.Proofs.YtabnlbalekmmmaaDoor
section
variable {R : List RuleD}
mutual
theorem TV.derW {s : SymD} {t : TreeD} : TV R s t → ∀ u x : List Int, DerW R (u ++ wordT t ++ x) [s] u.length (u.length + (wordT t).length)
 | .leaf => fun u x => by
  rw [wordT_leaf]
  exact .term (by simp) .nil
 | .node h1 h2 => fun u x => by
  rw [wordT_node]
  exact .non (List.mem_of_getElem? h1) (TVL.derW h2 u x) .nil
theorem TVL.derW {l : List SymD} {ts : List TreeD} : TVL R l ts → ∀ u x : List Int, DerW R (u ++ wordTs ts ++ x) l u.length (u.length + (wordTs ts).length)
 | .nil => fun u x => by rw [wordTs_nil]; exact .nil
 | @TVL.cons _ s l t ts h1 h2 => fun u x => by
  rw [wordTs_cons, List.length_append]
  have h3 := TV.derW h1 u (wordTs ts ++ x)
  have h4 := TVL.derW h2 (u ++ wordT t) x
  rw [show u ++ (wordT t ++ wordTs ts) ++ x = u ++ wordT t ++ (wordTs ts ++ x) by simp only [List.append_assoc]]
  rw [List.length_append, show u ++ wordT t ++ wordTs ts ++ x = u ++ wordT t ++ (wordTs ts ++ x) by simp only [List.append_assoc], Nat.add_assoc] at h4
  exact h3.cons h4
end
theorem DerW.lg {w : List Int} {l : List SymD} {i j : Nat} (h : DerW R w l i j) : i ≤ w.length → LgL R l ((w.drop i).take (j - i)) := by
 induction h with
 | nil => intro _; rw [Nat.sub_self]; exact LgL.nil.2 rfl
 | @term c l i j h1 h2 ih =>
  intro _
  obtain ⟨hi, e⟩ := List.getElem?_eq_some_iff.1 h1
  have hle := h2.le.1
  have h3 := ih (by omega)
  rw [List.drop_eq_getElem_cons hi, e, show j - i = (j - (i + 1)) + 1 by omega, List.take_succ_cons]
  exact LgL.cons.2 ⟨[c], _, rfl, LgS.term.2 rfl, h3⟩
 | @non a r l i k j h1 h2 h3 ih1 ih2 =>
  intro hi
  have hle := h2.le
  have hle2 := h3.le.1
  have h4 := ih1 hi
  have h5 := ih2 (hle.2 hi)
  have e : (w.drop i).take (j - i) = (w.drop i).take (k - i) ++ (w.drop k).take (j - k) := by
   rw [show j - i = (k - i) + (j - k) by have := hle.1; omega, List.take_add, List.drop_drop, show i + (k - i) = k by have := hle.1; omega]
  rw [e]
  exact LgL.cons.2 ⟨_, _, rfl, LgS.non.2 ⟨(a, r), h1, rfl, h4⟩, h5⟩
theorem accD_lg {st : Int} {w : List Int} : accD R st w = true ↔ LgS R (false, st) w := by
 rw [accD_iff]
 constructor
 ·
  intro h
  have h1 := h.lg (Nat.zero_le _)
  rw [List.drop_zero, Nat.sub_zero, List.take_length] at h1
  exact LgL.one.1 h1
 ·
  rintro ⟨t, ht, rfl⟩
  have h := ht.derW [] []
  simpa using h
end
end Go.Proofs.YtabnlbalekmmmaaDoor
namespace Go.Proofs.YtabnlbalekmmmaaDoor
open Go.RowKit
theorem Rd.newS (w : World) (S : Nat → Prop) (t : TypeId) (cs : List Value) (H n size : Nat) (hH : w.heap.size = H) (hS : S H) (hl : cs.length = n * size) : Rd (w.alloc (.cells cs.toArray t)) S size (some ⟨H, 0, none⟩) n cs := by
 subst hH
 refine ⟨hl, fun _ => ⟨w.heap.size, 0, rfl, hS, fun j v hv => ?_⟩⟩
 rw [World.cell?_alloc_at _ _ _ _ rfl]
 simpa using hv
set_option maxRecDepth 100000 in
set_option maxHeartbeats 1000000 in
theorem keepPlain (w : World) : Calls Tryd.prog 8 #[] w fun e w' => ∃ AR, e = .returned (.agg #[.int .i64 2, .int .i64 1, .int .i64 0, .slice AR 2 2]) ∧ Sl RRule w' (fun b => w.heap.size ≤ b) AR 2 2 plainR ∧ Below w.heap.size w w' := by
 go_enter Tryd.func8, Tryd.ntmps8
 go_wp2_with fail
 refine bodyPost_ret (v := .agg #[.int .i64 2, .int .i64 1, .int .i64 0, .slice (some ⟨w.heap.size + 3, 0, none⟩) 2 2]) (by simp [results, Tryd.results8, go_sem]) rfl ?_
 have hb := ((((Below.refl w.heap.size w).alloc (Nat.le_refl _) (.cells #[.int .i64 2, .int .i64 1, .int .i64 0, .slice (some ⟨w.heap.size + 1 + 1 + 1, 0, none⟩) 2 2] 25)).alloc (by simp) (.cells #[.bool true, .int .i64 0] 67)).alloc (by simp; omega) (.cells #[.bool true, .int .i64 1, .bool false, .int .i64 0] 67)).alloc (by simp; omega) (.cells #[.int .i64 0, .slice (some ⟨w.heap.size + 1, 0, none⟩) 1 1, .int .i64 0, .slice (some ⟨w.heap.size + 1 + 1, 0, none⟩) 2 2] 65)
 refine ⟨_, rfl, ⟨[.int .i64 0, .slice (some ⟨w.heap.size + 1, 0, none⟩) 1 1, .int .i64 0, .slice (some ⟨w.heap.size + 1 + 1, 0, none⟩) 2 2], rfl, Nat.le_refl _, Rd.newS _ _ _ _ _ 2 2 (by simp) (by simp) rfl, ?_⟩, hb⟩
 refine ⟨[_, _], [_, _], rfl, RRule.cells.2 ⟨_, _, _, rfl, ?_⟩, Cells.single (RRule.cells.2 ⟨_, _, _, rfl, ?_⟩)⟩
 ·
  exact Sl.alloc (Sl.alloc (R := RSym) (l := [(true, 0)]) ⟨[.bool true, .int .i64 0], rfl, Nat.le_refl _, Rd.newS _ _ _ _ (w.heap.size + 1) 1 2 (by simp) (by simp) rfl, Cells.single (RSym.cells.2 rfl)⟩ _) _
 ·
  exact Sl.alloc (R := RSym) (l := [(true, 1), (false, 0)]) ⟨[.bool true, .int .i64 1, .bool false, .int .i64 0], rfl, Nat.le_refl _, Rd.newS _ (fun b => w.heap.size ≤ b) _ _ (w.heap.size + 1 + 1) 2 2 (by simp) (by show w.heap.size ≤ _; omega) rfl, ⟨[_, _], [_, _], rfl, RSym.cells.2 rfl, Cells.single (RSym.cells.2 rfl)⟩⟩ _
end Go.Proofs.YtabnlbalekmmmaaDoor
namespace Go.Proofs.YtabnlbalekmmmaaDoor
open Go.RowKit
def mkWordOf (t : Int) (most : Nat) (l : List Int) : List Int := (l.take most).map fun x => x % t
theorem mkWordOf_snoc_lt {t : Int} {most : Nat} (l : List Int) (x : Int) (h : l.length < most) : mkWordOf t most (l ++ [x]) = mkWordOf t most l ++ [x % t] := by
 unfold mkWordOf
 rw [List.take_of_length_le (by simp; omega), List.take_of_length_le (by omega)]
 simp
theorem mkWordOf_len (t : Int) (most : Nat) (l : List Int) : (mkWordOf t most l).length = min most l.length := by simp [mkWordOf]
set_option maxHeartbeats 1000000 in
theorem makeWord (t most : Nat) (A : Option Addr) (n c : Nat) (S : Nat → Prop) (l : List Int) (w : World) (hr : Rd w S 1 A n (l.map (Value.int .i64))) (hn : n ≤ 1000000000000000) (ht : 1 ≤ t) (ht2 : t ≤ 1000000) (hm : most ≤ 1000000) :
    Calls Tryd.prog 9 #[.int .i64 t, .int .i64 most, .slice A n c] w fun e w' => ∃ A' n' c', e = .returned (.slice A' n' c') ∧ Sl Rep.int w' (fun b => w.heap.size ≤ b) A' n' c' (mkWordOf t most l) ∧ Below w.heap.size w w' := by
 have hl : l.length = n := by simpa using hr.1
 have HL := Lib.hid hl
 have HR := Lib.hid hr
 clear hl hr
 go_enter Tryd.func9, Tryd.ntmps9
 go_wp2_with fail
 go_loopw [7, 12] (fun v i wr => ∃ j : Nat, j ≤ n ∧ j ≤ most ∧ i = .int .i64 j ∧ OwnL Rep.int wr (fun _ => False) w.heap.size 3 v (mkWordOf t most (l.take j)) ∧ Below w.heap.size w wr) (fun _ i _ => n - (intOf i).toNat)
 case atStart => exact ⟨0, Nat.zero_le _, Nat.zero_le _, rfl, by simpa [mkWordOf] using OwnL.nil _ _ _ _ _, Below.refl _ _⟩
 case round =>
  obtain ⟨j, hj, hjm, rfl, ho, hb⟩ := hrel
  obtain ⟨Aw, cw, rfl, hcw, _⟩ := ho.form
  have hlen : (mkWordOf t most (l.take j)).length = j := by rw [mkWordOf_len, List.length_take, HL.out]; omega
  rw [hlen] at hcw ho ⊢
  have HO := Lib.hid ho
  have HB := Lib.hid hb
  have HLEN := Lib.hid hlen
  clear ho hb hlen
  by_cases hlt : j < n
  ·
   obtain ⟨b, off, x, rfl, _, hx, hcell0⟩ := HR.out.int_at hlt
   have hcell : wr.cell? ⟨b, off + j, none⟩ = some (.int .i64 x) := Kept.below (S := fun _ => True) HB.out _ _ trivial hcell0
   have HX := Lib.hid hx
   clear hx hcell0
   by_cases hjt : j < most
   ·
    obtain ⟨v2, w2, hrun, ho2, _, hb2⟩ := run_append_lit (R := Rep.int) tInts rfl wr 22 w.heap.size (fun _ => False) _ (mkWordOf t most (l.take j)) HO.out 1 [x % t] [.int .i64 (x % t)] (Cells.single rfl) rfl (by rw [HLEN.out]; unfold maxLen; omega) (by rw [HLEN.out]; omega) HB.out.size
    rw [← mkWordOf_snoc_lt _ _ (by rw [List.length_take, HL.out]; omega), ← int_step HX.out] at ho2
    have HRUN := Lib.hid hrun
    have HO2 := Lib.hid ho2
    have HB2 := Lib.hid hb2
    have hje : ((j : Int) == (most : Int)) = false := by simp; omega
    clear hrun ho2 hb2
    go_wp2_with (first
     | (go_at_call 34; refine (makeBelow _ _ _ (by omega) (by omega)).mono ?_; rintro e w' ⟨rfl, rfl⟩)
     | (at_builtin; refine Lib.wpList_append_run (o := ⟨some 25, _, _, _, _, _⟩) _ rfl _ _ _ _ rfl _ _ rfl rfl _ _ HRUN.out ?_))
    go_roundw
    case rel => exact ⟨j + 1, by omega, by omega, by go_num, HO2.out, HB.out.trans HB2.out⟩
    case measure => simp [intOf]; omega
   ·
    obtain rfl : j = most := by omega
    have he : mkWordOf t j (l.take j) = mkWordOf t j l := by unfold mkWordOf; rw [List.take_take, Nat.min_self]
    have hO := HO.out
    rw [he] at hO
    have HO3 := Lib.hid hO
    clear hO he
    go_wp2_with fail
    go_ret
    exact ⟨Aw, j, cw, rfl, HO3.out.sl.more (by simp), HB.out⟩
  ·
   obtain rfl : j = n := by omega
   have hO := HO.out
   rw [List.take_of_length_le (by rw [HL.out]; omega)] at hO
   have HO3 := Lib.hid hO
   clear hO
   go_wp2_with fail
   go_ret
   exact ⟨Aw, j, cw, rfl, HO3.out.sl.more (by simp), HB.out⟩
end Go.Proofs.YtabnlbalekmmmaaDoor
namespace Go.Proofs.YtabnlbalekmmmaaDoor
def nonsOf (g : GramD) : Nat := g.2.1.toNat
theorem rulesN_of {g : GramD} (hv : GValid g) : RulesN (nonsOf g) g.2.2.2 := fun r hr => by
 obtain ⟨⟨h1, h2⟩, h3, h4⟩ := hv.rules r hr
 refine ⟨⟨h1, by unfold nonsOf; omega⟩, fun s hs hf => ?_⟩
 obtain ⟨k1, k2⟩ := h4 s hs
 rw [hf] at k2
 simp only [Bool.false_eq_true, if_false] at k2
 exact ⟨k1, by unfold nonsOf; omega⟩
end Go.Proofs.YtabnlbalekmmmaaDoor
