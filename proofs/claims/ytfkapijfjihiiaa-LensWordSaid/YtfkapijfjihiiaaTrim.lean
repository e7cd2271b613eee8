/- useful.Trim: what occurs in a tree of the start symbol. -/
import Derived.Test.YtfkapijfjihiiaaReached
import Derived.Test.YtfkapijfjihiiaaLeast
import Derived.Test.YtfkapijfjihiiaaLate
namespace Go.Proofs.Ytfkapijfjihiiaa
open Go.RowKit

/-- the least lengths, in the box that the closures hold -/
structure UseSt (w : World) (Bl : Nat) (A : Option Addr) (N c : Nat) (ls : List Int) : Prop where
  bx : w.cell? ⟨Bl, 0, none⟩ = some (.slice A N c)
  rd : Rd w (fun _ => True) 1 A N (ls.map (Value.int .i64))
theorem UseSt.below {w w' : World} {Bl : Nat} {A : Option Addr} {N c : Nat} {ls : List Int} (h : UseSt w Bl A N c ls) (hb : Below w.heap.size w w') : UseSt w' Bl A N c ls := ⟨(hb.cell (cell_lt h.bx)).trans h.bx, h.rd.below hb⟩
theorem UseSt.len {w : World} {Bl : Nat} {A : Option Addr} {N c : Nat} {ls : List Int} (h : UseSt w Bl A N c ls) : ls.length = N := by have := h.rd.1; simpa using this
def useS (ls : List Int) (s : SymD) : Bool := !s.1 && decide (ls.getD s.2.toNat (-1) < 0)
set_option maxHeartbeats 1000000 in
theorem trimSym (w : World) (Bl : Nat) (A : Option Addr) (N c : Nat) (ls : List Int) (hu : UseSt w Bl A N c ls) (s : SymD) (hs : NonOk N [s]) :
    Calls Try.prog 66 #[.agg #[.bool s.1, .int .i64 s.2], .pointer (some ⟨Bl, 0, none⟩)] w fun e w' => e = .returned (.bool (useS ls s)) ∧ Below w.heap.size w w' := by
  obtain ⟨t, x⟩ := s
  cases t with
  | true =>
    clear hu hs
    go_enter Try.func66, Try.ntmps66
    go_wp2_with fail
    go_ret
    exact ⟨rfl, (Below.refl _ _).alloc (Nat.le_refl _) _⟩
  | false =>
    obtain ⟨h0, h1⟩ := hs (false, x) (by simp) rfl
    simp only at h0 h1
    obtain ⟨a, rfl⟩ : ∃ a : Nat, x = (a : Int) := ⟨x.toNat, by omega⟩
    rw [Int.toNat_natCast] at h1
    obtain ⟨b, off, y, rfl, _, hy, hc⟩ := hu.rd.int_at h1
    have hbx := hu.bx
    have hl1 := cell_lt hbx
    have hl2 := cell_lt hc
    have haI : (a : Int) < (N : Int) := by omega
    have ha0 : (0 : Int) ≤ (a : Int) := by omega
    have HU := Lib.hid (show useS ls (false, (a : Int)) = decide (y < 0) by
      unfold useS
      simp [List.getD_eq_getElem?_getD, hy])
    clear hu hs h1 hy h0
    go_enter Try.func66, Try.ntmps66
    go_wp2_with fail
    go_ret
    exact ⟨ret_bool HU.out.symm, (Below.refl _ _).alloc (Nat.le_refl _) _⟩
theorem tellsTrimS (w : World) (Bl : Nat) (A : Option Addr) (N c : Nat) (ls : List Int) (hu : UseSt w Bl A N c ls) : TellsS Try.prog w (fun s => NonOk N [s]) (useS ls) 66 #[.pointer (some ⟨Bl, 0, none⟩)] := fun u hb s hs => trimSym u Bl A N c ls (hu.below hb) s hs
theorem entersTrimS : ∀ (args : Array Value) (u : World), (callFunc 66 args).run Try.prog u = .ok (.enter 66 args) u := enters_of Try.func66 (by kernel_rfl) rfl
theorem entersTrimR : ∀ (args : Array Value) (u : World), (callFunc 65 args).run Try.prog u = .ok (.enter 65 args) u := enters_of Try.func65 (by kernel_rfl) rfl
set_option maxHeartbeats 1000000 in
theorem trimRule (w : World) (Bl : Nat) (A : Option Addr) (N c : Nat) (ls : List Int) (hu : UseSt w Bl A N c ls) (r : RuleD) (A2 : Option Addr) (m2 c2 : Nat) (S : Nat → Prop) (hs : Sl RSym w S A2 m2 c2 r.2) (hok : NonOk N r.2) (hm : r.2.length ≤ 4) :
    Calls Try.prog 65 #[.agg #[.int .i64 r.1, .slice A2 m2 c2], .pointer (some ⟨Bl, 0, none⟩)] w fun e w' => e = .returned (.bool (useT ls r)) ∧ Below w.heap.size w w' := by
  have HU := Lib.hid hu
  have HS := Lib.hid hs
  have HOK := Lib.hid hok
  have hm2 : m2 ≤ 4 := by have := hs.len; omega
  have he := entersTrimS
  clear hu hs hok
  go_enter Try.func65, Try.ntmps65
  go_wp2_with fail
  have hb1 : Below w.heap.size w (w.alloc (.cells #[.int .i64 r.1, .slice A2 m2 c2] 36)) := (Below.refl _ _).alloc (Nat.le_refl _) _
  refine (containsFnS _ _ _ _ _ A2 m2 c2 _ r.2 entersTrimS (tellsTrimS _ Bl A N c ls (HU.out.below hb1)) (HS.out.below hb1) (fun s hs => fun x hx hf => HOK.out x (by obtain rfl := List.mem_singleton.1 hx; exact hs) hf) (by omega)).mono ?_
  rintro e w2 ⟨rfl, hb2⟩
  have HB2 := Lib.hid (hb1.trans (hb2.mono hb1.size))
  clear hb1 hb2 he
  go_wp2_with fail
  go_ret
  exact ⟨ret_bool rfl, HB2.out⟩
theorem tellsTrimR (w : World) (Bl : Nat) (A : Option Addr) (N c : Nat) (ls : List Int) (hu : UseSt w Bl A N c ls) (R : List RuleD) (hok : ∀ r ∈ R, NonOk N r.2 ∧ r.2.length ≤ 4) : TellsR Try.prog w (fun r => r ∈ R) (useT ls) 65 #[.pointer (some ⟨Bl, 0, none⟩)] := fun u hb r A2 m2 c2 S hs hr => trimRule u Bl A N c ls (hu.below hb) r A2 m2 c2 S hs (hok r hr).1 (hok r hr).2
def intV (x : Nat) : Value := .int .i64 (x : Int)
theorem made_rowI (Z : Nat) : madeCells #[Value.int .i64 0] Z = rowCells intV Z (fun _ => 0) := by
  apply Array.ext'
  rw [toList_madeCells_one]
  apply List.ext_getElem?
  intro i
  by_cases hi : i < Z <;> simp [rowCells, hi, intV]
/-- the new numbers of the first so many nonterminals -/
def toF (inn : Nat → Bool) (i a : Nat) : Nat := if a < i then toT inn a else 0
theorem toF_skip {inn : Nat → Bool} {i : Nat} (h : inn i = false) : toF inn (i + 1) = toF inn i := by
  funext a
  unfold toF
  by_cases h1 : a < i
  · rw [if_pos (by omega), if_pos h1]
  · rw [if_neg h1]
    split
    · obtain rfl : a = i := by omega
      unfold toT
      rw [h]
      rfl
    · rfl
theorem toF_set {inn : Nat → Bool} {i : Nat} (h : inn i = true) : upd (toF inn i) i (rnk inn i) = toF inn (i + 1) := by
  funext a
  unfold upd toF
  by_cases h1 : a = i
  · subst h1
    rw [if_pos rfl, if_pos (by omega), toT, if_pos h]
  · rw [if_neg h1]
    by_cases h2 : a < i
    · rw [if_pos h2, if_pos (by omega)]
    · rw [if_neg h2, if_neg (by omega)]
def nonsP (inn : Nat → Bool) (i : Nat) : List Int := ((List.range i).filter inn).map fun a : Nat => (a : Int)
theorem nonsP_len (inn : Nat → Bool) (i : Nat) : (nonsP inn i).length = rnk inn i := by
  unfold nonsP rnk
  rw [List.length_map, List.countP_eq_length_filter]
theorem nonsP_succ (inn : Nat → Bool) (i : Nat) : nonsP inn (i + 1) = nonsP inn i ++ (if inn i = true then [(i : Int)] else []) := by
  unfold nonsP
  rw [List.range_succ, List.filter_append, List.map_append]
  cases h : inn i <;> simp [h]
theorem Own.blk {w : World} {base size n : Nat} {E : TypeId} {v : Value} {xs : List Value} (h1 : Own w base E size v n xs) {b : Nat} (hb : rowOf v = some b) : ∃ cs f, w.heap[b]? = some (.cells cs E f) := by
  rcases h1 with h1 | ⟨A, rfl, _⟩
  · rcases h1.2 with ⟨rfl, _⟩ | ⟨g, cap, cur, rfl, _, hh, _⟩
    · cases hb
    · cases cap with
      | zero => cases hb
      | succ q =>
        injection hb with hb
        have e' : g = b := hb
        subst e'
        exact ⟨_, _, hh⟩
  · cases A <;> cases hb
theorem Own.apart {w : World} {base base' size size' n n' : Nat} {E E' : TypeId} {v v' : Value} {xs xs' : List Value} (h : Own w base E size v n xs) (h' : Own w base' E' size' v' n' xs') (hE : E ≠ E') {g : Nat} (hg : rowOf v = some g) : rowOf v' ≠ some g := fun e => by
  obtain ⟨c1, f1, e1⟩ := h.blk hg
  obtain ⟨c2, f2, e2⟩ := h'.blk e
  rw [e1] at e2
  injection e2 with e2
  injection e2 with _ e2 _
  exact hE e2
/-- the rules and their numbers, as they are made -/
structure TwoR (w : World) (base : Nat) (vR vq : Value) (rules : List RuleD) (m : Nat) : Prop where
  oy : ∃ xs, Own w base 36 2 vR rules.length xs ∧ Cells RRule w (fun b => base ≤ b ∧ rowOf vR ≠ some b ∧ rowOf vq ≠ some b) xs rules
  on : ∃ zs : List Int, Own w base 3 1 vq m (zs.map (Value.int .i64))
section
variable {w w' : World} {base m : Nat} {vR vq : Value} {rules : List RuleD}
theorem TwoR.below (h : TwoR w base vR vq rules m) (hb : Below w.heap.size w w') : TwoR w' base vR vq rules m := by
  obtain ⟨⟨x1, a1, b1⟩, ⟨x2, a2⟩⟩ := h
  exact ⟨⟨x1, a1.below hb (Nat.le_refl _), b1.keep (.below hb)⟩, ⟨x2, a2.below hb (Nat.le_refl _)⟩⟩
theorem TwoR.nil (w : World) (base : Nat) : TwoR w base (.slice none 0 0) (.slice none 0 0) [] 0 := ⟨⟨[], Own.nil _ _ _ _ _, Cells.nil⟩, ⟨[], Own.nil _ _ _ _ _⟩⟩
theorem TwoR.form (h : TwoR w base vR vq rules m) : (∃ A c, vR = .slice A rules.length c ∧ rules.length ≤ c) ∧ ∃ A c, vq = .slice A m c := by
  obtain ⟨⟨x1, a1, b1⟩, ⟨x2, a2⟩⟩ := h
  obtain ⟨A, c, e, h1, _⟩ := a1.form
  obtain ⟨A', c', e', _, _⟩ := a2.form
  exact ⟨⟨A, c, e, h1⟩, A', c', e'⟩
theorem TwoR.rows (h : TwoR w base vR vq rules m) : (∀ g, rowOf vR = some g → base ≤ g ∧ g < w.heap.size) ∧ ∀ g, rowOf vq = some g → base ≤ g ∧ g < w.heap.size := by
  obtain ⟨⟨x1, a1, b1⟩, ⟨x2, a2⟩⟩ := h
  exact ⟨fun g hg => a1.row hg, fun g hg => a2.row hg⟩
theorem TwoR.sl {A : Option Addr} {n c : Nat} (h : TwoR w base (.slice A n c) vq rules m) : Sl RRule w (fun b => base ≤ b) A n c rules := by
  obtain ⟨⟨x1, a1, b1⟩, _⟩ := h
  obtain ⟨A', c', e, hc, _⟩ := a1.form
  injection e with e1 e2 e3
  subst e1
  subst e2
  subst e3
  exact ⟨x1, rfl, hc, a1.rd, b1.more fun b hb => hb.1⟩
set_option maxRecDepth 100000 in
theorem TwoR.push (h : TwoR w base vR vq rules m) (hl : rules.length ≤ 1000) (hm : m ≤ 1000) (hbase : base ≤ w.heap.size) {r : RuleD} {A : Option Addr} {n c : Nat} (hs : Sl RSym w (fun b => base ≤ b ∧ rowOf vR ≠ some b ∧ rowOf vq ≠ some b) A n c r.2) (ix : Int) :
    ∃ A2 c2 w2, (Builtin.append_ #[23, 23] 23 #[vR, .slice (some ⟨w.heap.size, 0, none⟩) 1 1]).run Try.prog (w.alloc (.cells #[.int .i64 r.1, .slice A n c] 36)) = .ok (.slice A2 (rules.length + 1) c2) w2 ∧
      ∃ A3 c3 w3, (Builtin.append_ #[22, 22] 22 #[vq, .slice (some ⟨w2.heap.size, 0, none⟩) 1 1]).run Try.prog (w2.alloc (.cells #[.int .i64 ix] 3)) = .ok (.slice A3 (m + 1) c3) w3 ∧
      TwoR w3 base (.slice A2 (rules.length + 1) c2) (.slice A3 (m + 1) c3) (rules ++ [r]) (m + 1) ∧ Below base w w2 ∧ Below base w w3 := by
  obtain ⟨⟨x1, a1, b1⟩, ⟨x2, a2⟩⟩ := h
  have hrd : Rd (w.alloc (.cells #[.int .i64 r.1, .slice A n c] 36)) (fun _ => True) 2 (some ⟨w.heap.size, 0, none⟩) 1 [.int .i64 r.1, .slice A n c] :=
    ⟨rfl, fun _ => ⟨w.heap.size, 0, rfl, trivial, fun j u hj => by
      have e := heap_alloc_new w (.cells #[.int .i64 r.1, .slice A n c] 36)
      match j, hj with
      | 0, hj => injection hj with hj; subst hj; simp only [World.cell?, e]; rfl
      | 1, hj => injection hj with hj; subst hj; simp only [World.cell?, e]; rfl⟩⟩
  obtain ⟨v2, w2, hrun, ho, hg, hrow⟩ := run_append_Own tRules (w.alloc (.cells #[.int .i64 r.1, .slice A n c] 36)) 23 base vR rules.length x1 (a1.alloc _) (fun _ => True) (some ⟨w.heap.size, 0, none⟩) 1 1 [.int .i64 r.1, .slice A n c] hrd (by
    intro u hu
    rcases List.mem_cons.1 hu with rfl | hu
    · rfl
    · obtain rfl := List.mem_singleton.1 hu; rfl) (by unfold maxLen; omega) (by omega) (by simp; omega)
  obtain ⟨A2, c2, rfl, _, _⟩ := ho.form
  have hz : (w.alloc (.cells #[.int .i64 r.1, .slice A n c] 36)).heap.size = w.heap.size + 1 := by simp
  have hb2 : Below base w w2 := ((Below.refl _ _).alloc hbase _).trans (Below.own (Below.refl _ _) (a1.alloc _) hg (Nat.le_refl _) (by omega))
  have hz2 := hb2.size
  have a2' : Own w2 base 3 1 vq m (x2.map (Value.int .i64)) := (a2.alloc _).kept hg fun g e => a1.apart a2 (by decide) e
  have hrow' : ∀ b, b < w.heap.size → rowOf vR ≠ some b → rowOf (.slice A2 (rules.length + 1) c2) ≠ some b := fun b hb hne e => by
    rcases hrow with h | h
    · exact hne (h ▸ e)
    · rw [h] at e
      have e := Option.some.inj e
      rw [hz] at e
      omega
  have hcl : Cells RRule w2 (fun b => b < w.heap.size ∧ base ≤ b ∧ rowOf (.slice A2 (rules.length + 1) c2) ≠ some b ∧ rowOf vq ≠ some b) (x1 ++ [.int .i64 r.1, .slice A n c]) (rules ++ [r]) :=
    ((((b1.append (Cells.single (RRule.cells.2 ⟨A, n, c, rfl, hs⟩))).fit.keep (.alloc _ _ _)).keep (Kept.grown hg fun b hb e => hb.1.2.1 e)).more fun b hb => ⟨hb.2, hb.1.1, hrow' b hb.2 hb.1.2.1, hb.1.2.2⟩)
  obtain ⟨v3, w3, hrun3, ho3, hg3, hrow3⟩ := run_append_Own tInts (w2.alloc (.cells #[.int .i64 ix] 3)) 22 base vq m _ (a2'.alloc _) (fun _ => True) (some ⟨w2.heap.size, 0, none⟩) 1 1 [.int .i64 ix] ⟨rfl, fun _ => ⟨w2.heap.size, 0, rfl, trivial, fun j u hj => by
      have e := heap_alloc_new w2 (.cells #[.int .i64 ix] 3)
      match j, hj with
      | 0, hj => injection hj with hj; subst hj; simp only [World.cell?, e]; rfl⟩⟩ (by
    intro u hu
    obtain rfl := List.mem_singleton.1 hu; rfl) (by unfold maxLen; omega) (by omega) (by simp; omega)
  obtain ⟨A3, c3, rfl, _, _⟩ := ho3.form
  have hgz := hg.size
  refine ⟨A2, c2, w2, hrun, A3, c3, w3, hrun3, ⟨⟨x1 ++ [.int .i64 r.1, .slice A n c], ?_, ?_⟩, ⟨x2 ++ [ix], by simpa using ho3⟩⟩, hb2, hb2.trans (((Below.refl _ _).alloc (by omega) _).trans (Below.own (Below.refl _ _) (a2'.alloc _) hg3 (Nat.le_refl _) (by simp; omega)))⟩
  · rw [List.length_append]
    exact (ho.alloc _).kept hg3 fun g e => a2'.apart ho (by decide) e
  · refine ((hcl.keep (.alloc _ _ _)).keep (Kept.grown hg3 fun b hb e => hb.2.2.2 e)).more fun b hb => ⟨hb.2.1, hb.2.2.1, fun e => ?_⟩
    rcases hrow3 with h | h
    · exact hb.2.2.2 (h ▸ e)
    · rw [h] at e
      have e := Option.some.inj e
      have h3 : (w2.alloc (.cells #[.int .i64 ix] 3)).heap.size = w2.heap.size + 1 := by simp
      rw [h3] at e
      have := hb.1
      omega
end
theorem TwoR.set {w : World} {base m : Nat} {vR vq : Value} {rules : List RuleD} (h : TwoR w base vR vq rules m) {X : Nat} (hX : X < base) (k : Nat) (v : Value) : TwoR (w.setCell ⟨X, k, none⟩ v) base vR vq rules m := by
  obtain ⟨⟨x1, a1, b1⟩, ⟨x2, a2⟩⟩ := h
  have hg := set_grown (Bd := X) w k v
  exact ⟨⟨x1, a1.kept hg fun g e e2 => by injection e with e; have := (a1.row e2).1; omega, b1.keep (Kept.setCell _ _ _ _ fun h => by have := h.1; simp only at this; omega)⟩, ⟨x2, a2.kept hg fun g e e2 => by injection e with e; have := (a2.row e2).1; omega⟩⟩
theorem trimR_snoc {inn : Nat → Bool} {ls : List Int} {R : List RuleD} {i : Nat} {r : RuleD} (h : R[i]? = some r) : trimR inn ls (R.take (i + 1)) = trimR inn ls (R.take i) ++ (if inn r.1.toNat && useT ls r then [((toT inn r.1.toNat : Int), r.2.map (renT inn))] else []) := by
  rw [List.take_add_one, h, trimR, List.filter_append, List.map_append]
  cases hc : inn r.1.toNat && useT ls r <;> simp [hc, trimR]
theorem trimR_len {inn : Nat → Bool} {ls : List Int} {R : List RuleD} : (trimR inn ls R).length ≤ R.length := by
  unfold trimR
  rw [List.length_map]
  exact List.length_filter_le _ _
/-- what useful.Trim returns -/
def TrimMade (g : GramD) (N st base : Nat) (e : Ending) (w' : World) : Prop :=
  (∃ (ls : List Int) (inn : Nat → Bool) (A : Option Addr) (n c : Nat) (vN vQ : Value), e = .returned (.tuple #[.agg #[.int .i64 g.1, .int .i64 (rnk inn N : Nat), .int .i64 (rnk inn st : Nat), .slice A n c], vN, vQ, .int .i64 0]) ∧ InnOk g.2.2.2 N ls st inn ∧ LeastOk g.2.2.2 ls ∧ ls.length = N ∧ Prod1 g.2.2.2 st ∧ Sl RRule w' (fun b => base ≤ b) A n c (trimR inn ls g.2.2.2)) ∨
  (e = .returned (.tuple #[.agg #[.int .i64 0, .int .i64 0, .int .i64 0, .slice none 0 0], .slice none 0 0, .slice none 0 0, .int .i64 5]) ∧ ∀ k, ¬ Der g.2.2.2 [(false, (st : Int))] k)
set_option linter.unusedSimpArgs false in
set_option maxRecDepth 1000000 in
set_option maxHeartbeats 20000000 in
theorem usefulTrim (w : World) (Sg : Nat → Prop) (AR : Option Addr) (nR cR : Nat) (g : GramD) (hg : Sl RRule w Sg AR nR cR g.2.2.2) (hv : GValid g) (N st : Nat) (hN : N = nonsOf g) (hst : g.2.2.1 = (st : Int)) :
    Calls Try.prog 38 #[.agg #[.int .i64 g.1, .int .i64 g.2.1, .int .i64 g.2.2.1, .slice AR nR cR]] w fun e w' => TrimMade g N st w.heap.size e w' ∧ Below w.heap.size w w' := by
  have hRN := rulesN_of hv
  rw [← hN] at hRN
  have hN0 : g.2.1 = (N : Int) := by have := hv.n1; rw [hN]; unfold nonsOf; omega
  have hN1 : 1 ≤ N := by have := hv.n1; omega
  have hN2 : N ≤ 10 := by have := hv.n2; omega
  have hnR : nR ≤ 32 := by have := hv.rl; have := hg.len; omega
  have hstN : st < N := by have := hv.st; omega
  have hstI : (st : Int) < (N : Int) := by omega
  have hst0 : (0 : Int) ≤ (st : Int) := by omega
  have HRL := Lib.hid hg.len
  have HG := Lib.hid hg.fit
  have HV := Lib.hid hv
  have HRN := Lib.hid hRN
  have HN := Lib.hid hN
  have HN0 := Lib.hid hN0
  have HST := Lib.hid hst
  obtain ⟨w1, hw1⟩ : ∃ w1 : World, w1 = (w.alloc (.cells #[.int .i64 g.1, .int .i64 (N : Int), .int .i64 (st : Int), .slice AR nR cR] 25)).alloc (.cells #[.int .i64 0, .int .i64 0, .int .i64 0, .slice none 0 0] 25) := ⟨_, rfl⟩
  have hz1 : w1.heap.size = w.heap.size + 2 := by rw [hw1]; simp
  have hb1 : Below w.heap.size w w1 := by rw [hw1]; exact ((Below.refl _ _).alloc (Nat.le_refl _) _).alloc (by simp) _
  have b1 : w1.heap[w.heap.size]? = some (.cells #[.int .i64 g.1, .int .i64 (N : Int), .int .i64 (st : Int), .slice AR nR cR] 25 (0, 0)) := by rw [hw1]; exact (Below.heap_alloc _ _ _ (by simp)).trans (heap_alloc_new w _)
  have b2 : w1.heap[w.heap.size + 1]? = some (.cells #[.int .i64 0, .int .i64 0, .int .i64 0, .slice none 0 0] 25 (0, 0)) := by rw [hw1]; exact heap_new _ _ _ (by simp)
  have HB1 := Lib.hid hb1
  have HALL := Lib.hid (show ∀ u : World, Below w1.heap.size w1 u → (u.cell? ⟨w.heap.size, 0, none⟩ = some (.int .i64 g.1) ∧ u.cell? ⟨w.heap.size, 1, none⟩ = some (.int .i64 (N : Int)) ∧ u.cell? ⟨w.heap.size, 2, none⟩ = some (.int .i64 (st : Int)) ∧ u.cell? ⟨w.heap.size, 3, none⟩ = some (.slice AR nR cR)) ∧ w.heap.size < u.heap.size from fun u hu => by
    have e1 := (hu.block _ (by omega)).trans b1
    have := hu.size
    exact ⟨⟨by simp [World.cell?, e1], by simp [World.cell?, e1], by simp [World.cell?, e1], by simp [World.cell?, e1]⟩, by omega⟩)
  have HOUT := Lib.hid (show ∀ u : World, Below w1.heap.size w1 u → (u.cell? ⟨w.heap.size + 1, 0, none⟩ = some (.int .i64 0) ∧ u.cell? ⟨w.heap.size + 1, 1, none⟩ = some (.int .i64 0) ∧ u.cell? ⟨w.heap.size + 1, 2, none⟩ = some (.int .i64 0) ∧ u.cell? ⟨w.heap.size + 1, 3, none⟩ = some (.slice none 0 0)) ∧ ∀ i, u.frozen? ⟨w.heap.size + 1, i, none⟩ = false from fun u hu => by
    have e1 := (hu.block _ (by omega)).trans b2
    exact ⟨⟨by simp [World.cell?, e1], by simp [World.cell?, e1], by simp [World.cell?, e1], by simp [World.cell?, e1]⟩, fun i => by simp [World.frozen?, e1]⟩)
  rw [hN0, hst]
  have HOUTB := Lib.hid (show ∀ u : World, Below w1.heap.size w1 u → u.heap[w.heap.size + 1]? = some (.cells #[.int .i64 0, .int .i64 0, .int .i64 0, .slice none 0 0] 25 (0, 0)) from fun u hu => (hu.block _ (by omega)).trans b2)
  clear hg hv hRN hN b1 b2 hb1 hN0 hst
  go_enter Try.func38, Try.ntmps38
  --@1
  go_wp2_with fail
  rw [← hw1]
  have hck := gramCheck w1 _ AR nR cR g (HG.out.below HB1.out) HV.out
  rw [HN0.out, HST.out] at hck
  refine hck.mono ?_
  clear hck
  rintro e w2 ⟨rfl, hb2⟩
  have hz2 := hb2.size
  have HB2 := Lib.hid hb2
  obtain ⟨⟨k0, k1, k2, k3⟩, hl2⟩ := HALL.out w2 hb2
  clear hw1 hb2
  --@2
  go_wp2_with fail
  have hln := usefulLengths w2 _ AR nR cR g ((HG.out.below HB1.out).below HB2.out) HV.out
  rw [HN0.out, HST.out, ← HN.out] at hln
  refine hln.mono ?_
  clear hln
  rintro e w3 ⟨⟨A, c, ls, rfl, hrd, hc, hlen, hlo⟩, hb3⟩
  have hz3 := hb3.size
  have hz3' : w1.heap.size ≤ w3.heap.size := by omega
  have HB3 := Lib.hid (HB2.out.trans (hb3.mono hz2))
  have HRD := Lib.hid hrd
  have HLEN := Lib.hid hlen
  have HLO := Lib.hid hlo
  obtain ⟨bl, ol, y, rfl, _, hy, hcy⟩ := hrd.int_at hstN
  obtain ⟨⟨q0, q1, q2, q3⟩, hl3⟩ := HALL.out w3 HB3.out
  have hlbl := cell_lt hcy
  have HY := Lib.hid hy
  clear k0 k1 k2 k3 hl2 hrd hlen hlo hb3 hy
  by_cases hyn : y < 0
  · have hno : ∀ k, ¬ Der g.2.2.2 [(false, (st : Int))] k := by
      rcases HLO.out st y HY.out with ⟨_, h⟩ | ⟨h, _⟩
      · exact h
      · omega
    have HNO := Lib.hid hno
    obtain ⟨⟨r0, r1, r2, r3⟩, hf⟩ := HOUT.out w3 HB3.out
    have hf0 := hf 0
    have hf1 := hf 1
    have hf2 := hf 2
    have hf3 := hf 3
    have hlo3 : w.heap.size + 1 < w3.heap.size := by omega
    clear hf hno
    have hle : w.heap.size ≤ w.heap.size + 1 := Nat.le_succ _
    have HBF := Lib.hid ((((((HB1.out.trans (HB3.out.mono HB1.out.size)).setCell (p := ⟨w.heap.size + 1, 0, none⟩) hle (.int .i64 0)).setCell (p := ⟨w.heap.size + 1, 1, none⟩) hle (.int .i64 0)).setCell (p := ⟨w.heap.size + 1, 2, none⟩) hle (.int .i64 0)).setCell (p := ⟨w.heap.size + 1, 3, none⟩) hle (.slice none 0 0)))
    --@3
    go_wp2_with fail
    obtain ⟨w9, hw9⟩ : ∃ w9 : World, w9 = ((((w3.setCell ⟨w.heap.size + 1, 0, none⟩ (.int .i64 0)).setCell ⟨w.heap.size + 1, 1, none⟩ (.int .i64 0)).setCell ⟨w.heap.size + 1, 2, none⟩ (.int .i64 0)).setCell ⟨w.heap.size + 1, 3, none⟩ (.slice none 0 0)).alloc (.cells #[.slice (some ⟨bl, ol, none⟩) N c] 22) := ⟨_, rfl⟩
    rw [← hw9]
    have e9 : w9.heap[w.heap.size + 1]? = some (.cells #[.int .i64 0, .int .i64 0, .int .i64 0, .slice none 0 0] 25 (0, 0)) := by
      rw [hw9]
      have h := blk_set (blk_set (blk_set (blk_set (HOUTB.out w3 HB3.out) 0 (.int .i64 0)) 1 (.int .i64 0)) 2 (.int .i64 0)) 3 (.slice none 0 0)
      exact (Below.heap_alloc _ _ _ (by simp [World.setCell]; omega)).trans (by simpa using h)
    obtain ⟨s0, s1, s2, s3⟩ : w9.cell? ⟨w.heap.size + 1, 0, none⟩ = some (.int .i64 0) ∧ w9.cell? ⟨w.heap.size + 1, 1, none⟩ = some (.int .i64 0) ∧ w9.cell? ⟨w.heap.size + 1, 2, none⟩ = some (.int .i64 0) ∧ w9.cell? ⟨w.heap.size + 1, 3, none⟩ = some (.slice none 0 0) := by simp [World.cell?, e9]
    have hb9 : Below w.heap.size w w9 := by rw [hw9]; exact HBF.out.alloc HBF.out.size _
    clear hw9
    refine bodyPost_ret (v := .tuple #[.agg #[.int .i64 0, .int .i64 0, .int .i64 0, .slice none 0 0], .slice none 0 0, .slice none 0 0, .int .i64 5]) (by simp [results, Try.results38, go_sem, s0, s1, s2, s3]) rfl ?_
    exact ⟨.inr ⟨rfl, HNO.out⟩, hb9⟩
  · have hy0 : 0 ≤ y := by omega
    --@4
    go_wp2_with fail
    obtain ⟨w4, hw4⟩ : ∃ w4 : World, w4 = w3.alloc (.cells #[.slice (some ⟨bl, ol, none⟩) N c] 22) := ⟨_, rfl⟩
    rw [← hw4]
    have hz4 : w4.heap.size = w3.heap.size + 1 := by rw [hw4]; simp
    have hb4 : Below w3.heap.size w3 w4 := by rw [hw4]; exact (Below.refl _ _).alloc (Nat.le_refl _) _
    have HU4 := Lib.hid (show UseSt w4 w3.heap.size (some ⟨bl, ol, none⟩) N c ls from ⟨by
      have h := heap_alloc_new w3 (.cells #[.slice (some ⟨bl, ol, none⟩) N c] 22)
      rw [← hw4] at h
      simp [World.cell?, h], (HRD.out.more fun _ _ => trivial).below hb4⟩)
    have HB14 := Lib.hid (HB3.out.trans (hb4.mono hz3'))
    have HB4 := Lib.hid (HB1.out.trans (HB14.out.mono HB1.out.size))
    clear hw4 hb4 hcy hlbl q0 q1 q2 q3 hl3
    have hre := usefulReached w4 _ AR nR cR g (HG.out.below HB4.out) HV.out (useT ls) _ _ entersTrimR (tellsTrimR w4 w3.heap.size (some ⟨bl, ol, none⟩) N c ls HU4.out g.2.2.2 (fun r hr => ⟨(HRN.out r hr).2, (HV.out.rules r hr).2.1⟩)) N st HN.out HST.out
    rw [HN0.out, HST.out] at hre
    refine hre.mono ?_
    clear hre
    rintro e w5 ⟨⟨B5, I, hB5, rfl, hrow, hrch⟩, hb5⟩
    have hz5 := hb5.size
    obtain ⟨inn, hinn⟩ : ∃ inn : Nat → Bool, inn = fun a => decide (a < N) && I a := ⟨_, rfl⟩
    have HI := Lib.hid (show InnOk g.2.2.2 N ls st inn from ⟨by rw [hinn]; simp [hstN, hrch.start], fun a h => by rw [hinn] at h; simp only [Bool.and_eq_true, decide_eq_true_eq] at h; exact h.1, fun r hr h1 h2 s hs hf => by
      rw [hinn] at h1 ⊢
      simp only [Bool.and_eq_true, decide_eq_true_eq] at h1 ⊢
      exact ⟨((HRN.out r hr).2 s hs hf).2, hrch.closed r hr h1.2 h2 s hs hf⟩, fun a h => by
      rw [hinn] at h
      simp only [Bool.and_eq_true, decide_eq_true_eq] at h
      exact hrch.sound a h.1 h.2⟩)
    have hrow' : w5.heap[B5]? = some (.cells (rowCells Value.bool N inn) 4 (0, 0)) := by
      rw [hrow, rowCells_congr Value.bool N (f := I) (g := inn) (fun a ha => by rw [hinn]; simp [ha])]
    have HROW := Lib.hid hrow'
    have hlB5 : B5 < w5.heap.size := heap_lt hrow
    have HB15 := Lib.hid (HB14.out.trans (hb5.mono HB14.out.size))
    have HB5 := Lib.hid (HB1.out.trans (HB15.out.mono HB1.out.size))
    have HU5 := Lib.hid (HU4.out.below hb5)
    obtain ⟨⟨q0, q1, q2, q3⟩, hl5⟩ := HALL.out w5 HB15.out
    have hmk := fun W => tInts.make rfl N (by omega) (by omega) W
    clear hrow hrow' hrch hinn hb5 HU4
    --@5
    go_wp2_with fail
    rw [made_rowI]
    clear hmk
    obtain ⟨w6, hw6⟩ : ∃ w6 : World, w6 = w5.alloc (.cells (rowCells intV N (fun _ => 0)) 3) := ⟨_, rfl⟩
    rw [← hw6]
    have hz6 : w6.heap.size = w5.heap.size + 1 := by rw [hw6]; simp
    have HT6 := Lib.hid (show w6.heap[w5.heap.size]? = some (.cells (rowCells intV N (toF inn 0)) 3 (0, 0)) by
      rw [hw6, show toF inn 0 = fun _ => 0 from by funext a; unfold toF; rw [if_neg (Nat.not_lt_zero a)]]
      exact heap_alloc_new w5 _)
    have HB56 := Lib.hid (show Below w5.heap.size w5 w6 by rw [hw6]; exact (Below.refl _ _).alloc (Nat.le_refl _) _)
    clear hw6 q0 q1 q2 q3
    go_loopg [10, 45] N (fun gk va vi wr => ∃ i : Nat, i ≤ N ∧ gk = N - i ∧ vi = .int .i64 i ∧ OwnL Rep.int wr (fun _ => False) w6.heap.size 3 va (nonsP inn i) ∧ wr.heap[w5.heap.size]? = some (.cells (rowCells intV N (toF inn i)) 3 (0, 0)) ∧ Below w5.heap.size w5 wr ∧ w6.heap.size ≤ wr.heap.size)
    case atStart => exact ⟨0, Nat.zero_le _, rfl, rfl, OwnL.nil _ _ _ _ _, HT6.out, HB56.out, Nat.le_refl _⟩
    case round =>
      obtain ⟨i, hi, hgk, rfl, hown, hrow, hb, hz⟩ := hrel
      have HGK := Lib.hid hgk
      have HOW := Lib.hid hown
      have HRW := Lib.hid hrow
      have HB := Lib.hid hb
      obtain ⟨w7, rfl⟩ : ∃ w7 : World, w7 = wr := ⟨_, rfl⟩
      obtain ⟨kn, hkn⟩ : ∃ kn, kn = rnk inn i := ⟨_, rfl⟩
      obtain ⟨An, cn, rfl, _, _⟩ := hown.form
      rw [nonsP_len, ← hkn]
      have hk10 : kn ≤ i := by rw [hkn]; exact rnk_le _ _
      have HKN := Lib.hid hkn
      clear hgk hown hrow hb hkn
      by_cases hlt : i < N
      · have hci : w7.cell? ⟨B5, i, none⟩ = some (.bool (inn i)) := by
          rw [HB.out.cell (p := ⟨B5, i, none⟩) hlB5, cell_of_row w5 _ i _ _ _ HROW.out]
          exact rowCells_at _ _ _ i hlt
        have hiI : (i : Int) < (N : Int) := by omega
        have hi0 : (0 : Int) ≤ (i : Int) := by omega
        obtain ⟨fi, hfi⟩ : ∃ fi, inn i = fi := ⟨_, rfl⟩
        rw [hfi] at hci
        have HFI := Lib.hid hfi
        clear hfi
        cases fi with
        | false =>
          --@6
          go_wp2_with fail
          go_roundg (N - (i + 1))
          case measure => rw [HGK.out]; omega
          case rel =>
            refine ⟨i + 1, by omega, rfl, by go_num, ?_, by rw [toF_skip HFI.out]; exact HRW.out, HB.out, hz⟩
            have h := HOW.out
            rw [nonsP_len, ← HKN.out] at h
            rw [nonsP_succ, HFI.out, if_neg (by simp), List.append_nil]
            exact h
        | true =>
          have hct : w7.cell? ⟨w5.heap.size, i, none⟩ = some (intV (toF inn i i)) := by
            rw [cell_of_row w7 _ i _ _ _ HRW.out]
            exact rowCells_at _ _ _ i hlt
          have hft : w7.frozen? ⟨w5.heap.size, i, none⟩ = false := by simp [World.frozen?, HRW.out]
          rw [intV] at hct
          have hset := blk_set HRW.out i (intV (rnk inn i))
          rw [rowCells_set, toF_set HFI.out, intV, ← HKN.out] at hset
          have hgw : w7.grownBy (w7.setCell ⟨w5.heap.size, i, none⟩ (.int .i64 (kn : Int))) (some w5.heap.size) := set_grown w7 i _
          have hown2 := HOW.out.keepG hgw (fun g e => by injection e with e; omega)
          have hlen := nonsP_len inn i
          have hlen2 : (nonsP inn i).length ≤ 10 := by rw [hlen]; have := rnk_le inn i; omega
          rw [hlen, ← HKN.out] at hown2
          obtain ⟨v8, w8, hrun, ho8, hg8, hb8⟩ := run_append_lit (R := Rep.int) tInts rfl (w7.setCell ⟨w5.heap.size, i, none⟩ (.int .i64 (kn : Int))) 22 w6.heap.size (fun _ => False) _ (nonsP inn i) hown2 1 [(i : Int)] [.int .i64 (i : Int)] (Cells.single rfl) rfl (by unfold maxLen; omega) (by omega) (by simp [World.setCell]; omega)
          obtain ⟨A8, c8, rfl, _, _⟩ := ho8.form
          have hl8 : (nonsP inn i ++ [(i : Int)]).length = kn + 1 := by rw [List.length_append, hlen, ← HKN.out]; rfl
          rw [hl8] at hrun
          have hsz : (w7.setCell ⟨w5.heap.size, i, none⟩ (.int .i64 (kn : Int))).heap.size = w7.heap.size := by simp [World.setCell]
          rw [hsz] at hrun
          have hz8 := hg8.size
          simp only [World.size_alloc] at hz8
          rw [hsz] at hz8
          have HRUN := Lib.hid hrun
          have HO8 := Lib.hid (show OwnL Rep.int w8 (fun _ => False) w6.heap.size 3 (.slice A8 (kn + 1) c8) (nonsP inn (i + 1)) by
            rw [hl8] at ho8
            rw [nonsP_succ, HFI.out, if_pos rfl]
            exact ho8)
          have HRW8 := Lib.hid ((hb8.block _ (by omega)).trans hset)
          have HB8 := Lib.hid ((HB.out.setCell (p := ⟨w5.heap.size, i, none⟩) (Nat.le_refl _) (.int .i64 (kn : Int))).trans (hb8.mono (by omega)))
          clear hset hgw hown2 hrun ho8 hg8 hb8 hl8 hlen hsz
          --@7
          go_wp2_with (at_builtin; refine Lib.wpList_append_run (o := ⟨some 59, _, _, _, _, _⟩) _ rfl _ _ _ _ rfl _ _ rfl rfl _ _ HRUN.out ?_)
          go_roundg (N - (i + 1))
          case measure => rw [HGK.out]; omega
          case rel => exact ⟨i + 1, by omega, rfl, by go_num, HO8.out, HRW8.out, HB8.out, by omega⟩
      · obtain rfl : N = i := by omega
        have HRW7 := Lib.hid (show w7.heap[w5.heap.size]? = some (.cells (rowCells intV N (toT inn)) 3 (0, 0)) by
          rw [HRW.out, rowCells_congr intV N (f := toF inn N) (g := toT inn) (fun a ha => by unfold toF; rw [if_pos ha])])
        have hpre : ∀ u : World, Below w7.heap.size w7 u → (u.cell? ⟨w.heap.size, 0, none⟩ = some (.int .i64 g.1) ∧ u.cell? ⟨w.heap.size, 1, none⟩ = some (.int .i64 (N : Int)) ∧ u.cell? ⟨w.heap.size, 2, none⟩ = some (.int .i64 (st : Int)) ∧ u.cell? ⟨w.heap.size, 3, none⟩ = some (.slice AR nR cR)) ∧ u.heap[w5.heap.size]? = some (.cells (rowCells intV N (toT inn)) 3 (0, 0)) ∧ u.heap[B5]? = some (.cells (rowCells Value.bool N inn) 4 (0, 0)) := by
          intro u hu
          have h17 : Below w1.heap.size w1 u := (HB15.out.trans (HB.out.mono (by omega))).trans (hu.mono (by omega))
          exact ⟨(HALL.out u h17).1, (hu.block _ (by omega)).trans HRW7.out, (hu.block _ (by omega)).trans ((HB.out.block _ hlB5).trans HROW.out)⟩
        have HPRE := Lib.hid hpre
        have hint : inn st = true := HI.out.start
        have hreg : ∀ u : World, Below w7.heap.size w7 u → u.cell? ⟨w.heap.size, 0, none⟩ = some (.int .i64 g.1) ∧ u.cell? ⟨w.heap.size, 2, none⟩ = some (.int .i64 (st : Int)) ∧ u.cell? ⟨w5.heap.size, st, none⟩ = some (.int .i64 (rnk inn st : Nat)) := by
          intro u hu
          obtain ⟨⟨h0, _, h2, _⟩, h3, _⟩ := hpre u hu
          refine ⟨h0, h2, ?_⟩
          rw [cell_of_row u _ st _ _ _ h3, rowCells_at _ _ _ st hstN, intV, toT, if_pos hint]
        have HREG := Lib.hid hreg
        clear hpre hreg hint
        --@8
        go_wp2_with fail
        refine wp_region_late (late := []) (S1 := fun u => u.cell? ⟨w.heap.size, 0, none⟩ = some (.int .i64 g.1) ∧ u.cell? ⟨w.heap.size, 2, none⟩ = some (.int .i64 (st : Int)) ∧ u.cell? ⟨w5.heap.size, st, none⟩ = some (.int .i64 (rnk inn st : Nat))) (S := fun _ => True) (by kernel_rfl) ?_
        have HB78 := Lib.hid (show Below w7.heap.size w7 w7.drew from (Below.refl _ _).drew)
        obtain ⟨w8, hw8⟩ : ∃ w8 : World, w8 = w7.drew := ⟨_, rfl⟩
        rw [← hw8] at HB78 ⊢
        clear hw8
        refine wpAnyL_pure (i := 0) rfl (by kernel_rfl) (fun _ _ _ h => h) (Or.inl ⟨by rfl, (fun u hu => by obtain ⟨k0, k1, k2⟩ := hu; go_simp; try rfl)⟩) (HREG.out _ HB78.out) (fun _ => trivial) ?_
        simp only [Act.put, List.setIfInBounds_toArray, List.set_cons_zero, List.set_cons_succ, List.getElem_toArray, List.getElem_cons_zero, List.getElem_cons_succ]
        refine wpAnyL_pure (i := 1) rfl (by kernel_rfl) (fun _ _ _ h => h) (Or.inl ⟨by rfl, (fun u hu => by obtain ⟨k0, k1, k2⟩ := hu; go_simp; try rfl)⟩) (HREG.out _ HB78.out) (fun _ => trivial) ?_
        simp only [Act.put, List.setIfInBounds_toArray, List.set_cons_zero, List.set_cons_succ, List.getElem_toArray, List.getElem_cons_zero, List.getElem_cons_succ]
        refine wpAnyL_pure (i := 2) rfl (by kernel_rfl) (fun _ _ _ h => h) (Or.inl ⟨by rfl, (fun u hu => by obtain ⟨k0, k1, k2⟩ := hu; go_simp; try rfl)⟩) (HREG.out _ HB78.out) (fun _ => trivial) ?_
        simp only [Act.put, List.setIfInBounds_toArray, List.set_cons_zero, List.set_cons_succ, List.getElem_toArray, List.getElem_cons_zero, List.getElem_cons_succ]
        refine wpAnyL_pure (i := 3) rfl (by kernel_rfl) (fun _ _ _ h => h) (Or.inl ⟨by rfl, (fun u hu => by obtain ⟨k0, k1, k2⟩ := hu; go_simp; try rfl)⟩) (HREG.out _ HB78.out) (fun _ => trivial) ?_
        simp only [Act.put, List.setIfInBounds_toArray, List.set_cons_zero, List.set_cons_succ, List.getElem_toArray, List.getElem_cons_zero, List.getElem_cons_succ]
        refine wpAnyL_pure (i := 4) rfl (by kernel_rfl) (fun _ _ _ h => h) (Or.inl ⟨by rfl, (fun u hu => by obtain ⟨k0, k1, k2⟩ := hu; go_simp; try rfl)⟩) (HREG.out _ HB78.out) (fun _ => trivial) ?_
        simp only [Act.put, List.setIfInBounds_toArray, List.set_cons_zero, List.set_cons_succ, List.getElem_toArray, List.getElem_cons_zero, List.getElem_cons_succ]
        refine wpAnyL_pure (i := 5) rfl (by kernel_rfl) (fun _ _ _ h => h) (Or.inl ⟨by rfl, (fun u hu => by obtain ⟨k0, k1, k2⟩ := hu; go_simp; try rfl)⟩) (HREG.out _ HB78.out) (fun _ => trivial) ?_
        simp only [Act.put, List.setIfInBounds_toArray, List.set_cons_zero, List.set_cons_succ, List.getElem_toArray, List.getElem_cons_zero, List.getElem_cons_succ]
        refine wpAnyL_pure (i := 6) rfl (by kernel_rfl) (fun _ _ _ h => h) (Or.inl ⟨by rfl, (fun u hu => by obtain ⟨k0, k1, k2⟩ := hu; go_simp; try rfl)⟩) (HREG.out _ HB78.out) (fun _ => trivial) ?_
        simp only [Act.put, List.setIfInBounds_toArray, List.set_cons_zero, List.set_cons_succ, List.getElem_toArray, List.getElem_cons_zero, List.getElem_cons_succ]
        refine wpAnyL_pure (i := 7) rfl (by kernel_rfl) (fun _ _ _ h => h) (Or.inl ⟨by rfl, (fun u hu => by obtain ⟨k0, k1, k2⟩ := hu; go_simp; try rfl)⟩) (HREG.out _ HB78.out) (fun _ => trivial) ?_
        simp only [Act.put, List.setIfInBounds_toArray, List.set_cons_zero, List.set_cons_succ, List.getElem_toArray, List.getElem_cons_zero, List.getElem_cons_succ]
        refine wpAnyL_pure (i := 8) rfl (by kernel_rfl) (fun _ _ _ h => h) (Or.inl ⟨by rfl, (fun u hu => by obtain ⟨k0, k1, k2⟩ := hu; go_simp; try rfl)⟩) (HREG.out _ HB78.out) (fun _ => trivial) ?_
        simp only [Act.put, List.setIfInBounds_toArray, List.set_cons_zero, List.set_cons_succ, List.getElem_toArray, List.getElem_cons_zero, List.getElem_cons_succ]
        refine wpAnyL_pure (i := 9) rfl (by kernel_rfl) (fun _ _ _ h => h) (Or.inl ⟨by rfl, (fun u hu => by obtain ⟨k0, k1, k2⟩ := hu; go_simp; try rfl)⟩) (HREG.out _ HB78.out) (fun _ => trivial) ?_
        simp only [Act.put, List.setIfInBounds_toArray, List.set_cons_zero, List.set_cons_succ, List.getElem_toArray, List.getElem_cons_zero, List.getElem_cons_succ]
        refine wpAnyL_ready (rs := [10]) (by kernel_rfl) (by simp) ?_
        refine AllL.cons rfl (fun K hK => ?_) ?_
        · go_simp
          obtain ⟨w9, hw9⟩ : ∃ w9 : World, w9 = w8.alloc (.cells #[.int .i64 0, .int .i64 0, .int .i64 0, .slice none 0 0] 25) := ⟨_, rfl⟩
          rw [← hw9]
          have HB89 := Lib.hid (show Below w8.heap.size w8 w9 by rw [hw9]; exact (Below.refl _ _).alloc (Nat.le_refl _) _)
          have hz9 : w9.heap.size = w8.heap.size + 1 := by rw [hw9]; simp
          have hz78 := HB78.out.size
          have HB79 := Lib.hid (HB78.out.trans (HB89.out.mono hz78))
          have HX9 := Lib.hid (show w9.heap[w8.heap.size]? = some (.cells #[.int .i64 0, .int .i64 0, .int .i64 0, .slice none 0 0] 25 (0, 0)) by rw [hw9]; exact heap_alloc_new _ _)
          clear hw9
          refine hK.out _ _ (HREG.out _ HB79.out) (fun _ => trivial) ?_
          clear hK K
          refine wpAnyL_ready (rs := [11]) (by kernel_rfl) (by simp) ?_
          refine AllL.cons rfl (fun K hK => ?_) ?_
          · have hx9 := HX9.out
            obtain ⟨b0, b1, b2, b3⟩ : w9.cell? ⟨w8.heap.size, 0, none⟩ = some (.int .i64 0) ∧ w9.cell? ⟨w8.heap.size, 1, none⟩ = some (.int .i64 0) ∧ w9.cell? ⟨w8.heap.size, 2, none⟩ = some (.int .i64 0) ∧ w9.cell? ⟨w8.heap.size, 3, none⟩ = some (.slice none 0 0) := by simp [World.cell?, hx9]
            have hf : ∀ i, w9.frozen? ⟨w8.heap.size, i, none⟩ = false := fun i => by simp [World.frozen?, hx9]
            have hf0 := hf 0
            have hf1 := hf 1
            have hf2 := hf 2
            have hf3 := hf 3
            go_simp
            clear hf hf0 hf1 hf2 hf3 b0 b1 b2 b3 hx9
            obtain ⟨wX, hwX⟩ : ∃ wX : World, wX = (((w9.setCell ⟨w8.heap.size, 0, none⟩ (.int .i64 g.1)).setCell ⟨w8.heap.size, 1, none⟩ (.int .i64 (kn : Int))).setCell ⟨w8.heap.size, 2, none⟩ (.int .i64 (rnk inn st : Nat))).setCell ⟨w8.heap.size, 3, none⟩ (.slice none 0 0) := ⟨_, rfl⟩
            rw [← hwX]
            have HXX := Lib.hid (show wX.heap[w8.heap.size]? = some (.cells #[.int .i64 g.1, .int .i64 (kn : Int), .int .i64 (rnk inn st : Nat), .slice none 0 0] 25 (0, 0)) by rw [hwX]; have h := blk_set (blk_set (blk_set (blk_set HX9.out 0 (.int .i64 g.1)) 1 (.int .i64 (kn : Int))) 2 (.int .i64 (rnk inn st : Nat))) 3 (.slice none 0 0); simpa using h)
            have HB7X := Lib.hid (show Below w7.heap.size w7 wX by rw [hwX]; exact (((HB79.out.setCell (p := ⟨w8.heap.size, 0, none⟩) hz78 _).setCell (p := ⟨w8.heap.size, 1, none⟩) hz78 _).setCell (p := ⟨w8.heap.size, 2, none⟩) hz78 _).setCell (p := ⟨w8.heap.size, 3, none⟩) hz78 _)
            have hzX : wX.heap.size = w9.heap.size := by rw [hwX]; simp [World.setCell]
            clear hwX
            refine hK.out _ _ (HREG.out _ HB7X.out) (fun _ => trivial) ?_
            clear hK K
            refine wpAnyL_done (by kernel_rfl) ?_ _
            have hzX7 : w7.heap.size ≤ wX.heap.size := HB7X.out.size
            have hzX8 : w8.heap.size < wX.heap.size := by omega
            have hz87 : w7.heap.size ≤ w8.heap.size := HB78.out.size
            have hzX8' := hzX8
            obtain ⟨sT, hsT⟩ : ∃ sT, sT = rnk inn st := ⟨_, rfl⟩
            rw [← hsT] at HXX ⊢
            have HSTT := Lib.hid hsT
            have HBW := Lib.hid (show ∀ u : World, Below w7.heap.size w7 u → Below w5.heap.size w5 u from fun u hu => HB.out.trans (hu.mono HB.out.size))
            obtain ⟨⟨p0, p1, p2, p3⟩, _, _⟩ := HPRE.out wX HB7X.out
            obtain ⟨X, hX⟩ : ∃ X, X = w8.heap.size := ⟨_, rfl⟩
            rw [← hX] at HXX hzX8 hzX8' hz87 ⊢
            clear hX hsT p0 p1 p2 hz9 hz78
            --@9
            go_wp2_with fail
            clear p3
            go_loopg [11, 74] nR (fun gk vq vi wr => ∃ (i : Nat) (vR : Value), i ≤ nR ∧ gk = nR - i ∧ vi = .int .i64 i ∧ wr.heap[X]? = some (.cells #[.int .i64 g.1, .int .i64 (kn : Int), .int .i64 (sT : Int), vR] 25 (0, 0)) ∧ TwoR wr wX.heap.size vR vq (trimR inn ls (g.2.2.2.take i)) (trimR inn ls (g.2.2.2.take i)).length ∧ Below w7.heap.size w7 wr ∧ wX.heap.size ≤ wr.heap.size)
            case atStart => exact ⟨0, _, Nat.zero_le _, rfl, rfl, HXX.out, TwoR.nil _ _, HB7X.out, Nat.le_refl _⟩
            case round =>
              obtain ⟨i, vR, hi, hgk, rfl, hbx, htw, hb, hzr⟩ := hrel
              have HGK2 := Lib.hid hgk
              have HBX := Lib.hid hbx
              have HTW := Lib.hid htw
              have HBR := Lib.hid hb
              obtain ⟨⟨A1, cR1, rfl, _⟩, Aq, cq, rfl⟩ := htw.form
              obtain ⟨km, hkm⟩ : ∃ km, km = (trimR inn ls (g.2.2.2.take i)).length := ⟨_, rfl⟩
              rw [← hkm] at HBX HTW ⊢
              have hk32 : km ≤ 32 := by
                have h1 := trimR_len (inn := inn) (ls := ls) (R := g.2.2.2.take i)
                rw [List.length_take] at h1
                omega
              have HKM := Lib.hid hkm
              obtain ⟨w10, rfl⟩ : ∃ w10 : World, w10 = wr := ⟨_, rfl⟩
              clear hgk hbx htw hb hkm
              have HB10 := Lib.hid (HB5.out.trans ((HBW.out w10 HBR.out).mono HB5.out.size))
              obtain ⟨⟨p0, p1, p2, p3⟩, htr, hir⟩ := HPRE.out w10 HBR.out
              have HTR := Lib.hid htr
              have HIR := Lib.hid hir
              clear htr hir p0 p1 p2
              by_cases hlt2 : i < nR
              · obtain ⟨b0, off, A3, m3, c3, r, rfl, _, hb0, hc1, hc2, hr, hrs⟩ := rule_at (HG.out.keep (Kept.belowB HB10.out fun b hb => hb.2)) hlt2
                obtain ⟨⟨hr1, hr2⟩, hr4, hrok⟩ := HV.out.rules r (List.mem_of_getElem? hr)
                obtain ⟨a, ha⟩ : ∃ a : Nat, r.1 = (a : Int) := ⟨r.1.toNat, by omega⟩
                have hrN := (HRN.out r (List.mem_of_getElem? hr)).1.2
                have haN : a < N := by rw [ha] at hrN; simpa using hrN
                have hm4 : m3 ≤ 4 := by have := hrs.len; omega
                have HOK := Lib.hid (HRN.out r (List.mem_of_getElem? hr)).2
                have HR4 := Lib.hid hr4
                rw [ha] at hc1
                have hiI : (i : Int) < (nR : Int) := by omega
                have hi0 : (0 : Int) ≤ (i : Int) := by omega
                have haI : (a : Int) < (N : Int) := by omega
                have ha0 : (0 : Int) ≤ (a : Int) := by omega
                have hca : w10.cell? ⟨B5, a, none⟩ = some (.bool (inn a)) := by
                  rw [cell_of_row w10 _ a _ _ _ HIR.out]
                  exact rowCells_at _ _ _ a haN
                have hlB : B5 < w10.heap.size := heap_lt HIR.out
                have HR := Lib.hid hr
                have HA := Lib.hid ha
                have HRS := Lib.hid hrs
                obtain ⟨fa, hfa⟩ : ∃ fa, inn a = fa := ⟨_, rfl⟩
                rw [hfa] at hca
                have HFA := Lib.hid hfa
                have hb11 : Below w10.heap.size w10 (w10.alloc (.cells #[.int .i64 (a : Int), .slice A3 m3 c3] 36)) := (Below.refl _ _).alloc (Nat.le_refl _) _
                have HB11 := Lib.hid hb11
                have HBR11 := Lib.hid (heap_alloc_new w10 (.cells #[.int .i64 (a : Int), .slice A3 m3 c3] 36))
                have hX10 : X < w10.heap.size := by omega
                clear hr hrs ha hr1 hr2 hr4 hrok hrN hfa hb11
                cases fa with
                | false =>
                  have HBX11 := Lib.hid ((HB11.out.block _ hX10).trans HBX.out)
                  have HTW11 := Lib.hid (HTW.out.below HB11.out)
                  have HBR11' := Lib.hid (HBR.out.trans (HB11.out.mono HBR.out.size))
                  have hz11 := HB11.out.size
                  --@10
                  go_wp2_with fail
                  go_roundg (nR - (i + 1))
                  case measure => rw [HGK2.out]; omega
                  case rel =>
                    refine ⟨i + 1, _, by omega, rfl, by go_num, HBX11.out, ?_, HBR11'.out, by omega⟩
                    rw [trimR_snoc HR.out, HA.out, Int.toNat_natCast, HFA.out, Bool.false_and, if_neg (by simp), List.append_nil, ← HKM.out]
                    exact HTW11.out
                | true =>
                  have he := entersTrimR
                  --@11
                  go_wp2_with fail
                  obtain ⟨w11, hw11⟩ : ∃ w11 : World, w11 = w10.alloc (.cells #[.int .i64 (a : Int), .slice A3 m3 c3] 36) := ⟨_, rfl⟩
                  rw [← hw11] at HB11 HBR11 ⊢
                  have hz11 : w10.heap.size < w11.heap.size := by rw [hw11]; simp
                  clear hw11
                  have HRS11 := Lib.hid (HRS.out.below HB11.out)
                  have h5 := trimRule w11 w3.heap.size (some ⟨bl, ol, none⟩) N c ls (HU5.out.below ((HBW.out w10 HBR.out).trans (HB11.out.mono (by have := HB.out.size; omega)))) r A3 m3 c3 _ HRS11.out HOK.out HR4.out
                  rw [HA.out] at h5
                  refine h5.mono ?_
                  clear h5 he
                  rintro e w12 ⟨rfl, hb12⟩
                  have hz12 := hb12.size
                  have HB12 := Lib.hid (HB11.out.trans (hb12.mono (by omega)))
                  have HBR12 := Lib.hid ((hb12.block _ (by omega)).trans HBR11.out)
                  have HRS12 := Lib.hid (HRS11.out.below hb12)
                  have HBX12 := Lib.hid ((HB12.out.block _ hX10).trans HBX.out)
                  have HTW12 := Lib.hid (HTW.out.below HB12.out)
                  have HBR12' := Lib.hid (HBR.out.trans (HB12.out.mono HBR.out.size))
                  obtain ⟨qv, hqv⟩ : ∃ qv, useT ls r = qv := ⟨_, rfl⟩
                  rw [hqv]
                  have HQ := Lib.hid hqv
                  clear hqv hb12
                  cases qv with
                  | false =>
                    --@12
                    go_wp2_with fail
                    go_roundg (nR - (i + 1))
                    case measure => rw [HGK2.out]; omega
                    case rel =>
                      refine ⟨i + 1, _, by omega, rfl, by go_num, HBX12.out, ?_, HBR12'.out, by omega⟩
                      rw [trimR_snoc HR.out, HQ.out, Bool.and_false, if_neg (by simp), List.append_nil, ← HKM.out]
                      exact HTW12.out
                  | true =>
                    obtain ⟨ra, hra⟩ : ∃ ra, ra = rnk inn a := ⟨_, rfl⟩
                    have HRA := Lib.hid hra
                    have htr12 := (HPRE.out w12 HBR12'.out).2.1
                    have hct : w12.cell? ⟨w5.heap.size, a, none⟩ = some (.int .i64 (ra : Int)) := by
                      rw [cell_of_row w12 _ a _ _ _ htr12, rowCells_at _ _ _ a haN, intV, toT, if_pos HFA.out, hra]
                    obtain ⟨h0, h1⟩ : w12.cell? ⟨w10.heap.size, 0, none⟩ = some (.int .i64 (a : Int)) ∧ w12.cell? ⟨w10.heap.size, 1, none⟩ = some (.slice A3 m3 c3) := by simp [World.cell?, HBR12.out]
                    have hl12 : w10.heap.size < w12.heap.size := by omega
                    clear hra htr12 hca hc1 hc2
                    --@13
                    go_wp2_with fail
                    obtain ⟨w13, hw13⟩ : ∃ w13 : World, w13 = w12.alloc (.cells #[.int .i64 (ra : Int), .slice none 0 0] 36) := ⟨_, rfl⟩
                    rw [← hw13]
                    have hz13 : w13.heap.size = w12.heap.size + 1 := by rw [hw13]; simp
                    have HX13 := Lib.hid (show w13.heap[w12.heap.size]? = some (.cells #[.int .i64 (ra : Int), .slice none 0 0] 36 (0, 0)) by rw [hw13]; exact heap_alloc_new _ _)
                    have HB13 := Lib.hid (show Below w12.heap.size w12 w13 by rw [hw13]; exact (Below.refl _ _).alloc (Nat.le_refl _) _)
                    have hz13' : w12.heap.size < w13.heap.size := by omega
                    clear hw13 hct h0 h1
                    go_loopg [100] m3 (fun gl vj wy => ∃ (j : Nat) (vX : Value), j ≤ m3 ∧ gl = m3 - j ∧ vj = .int .i64 j ∧ wy.heap[w12.heap.size]? = some (.cells #[.int .i64 (ra : Int), vX] 36 (0, 0)) ∧ OwnL RSym wy (fun _ => False) w13.heap.size 38 vX ((r.2.take j).map (renT inn)) ∧ Below w12.heap.size w12 wy ∧ w13.heap.size ≤ wy.heap.size)
                    case atStart => exact ⟨0, _, Nat.zero_le _, rfl, rfl, HX13.out, OwnL.nil _ _ _ _ _, HB13.out, Nat.le_refl _⟩
                    case round =>
                      obtain ⟨j, vX, hj, hgl, rfl, hbx14, hox, hb14, hz14⟩ := hrel
                      have HGL := Lib.hid hgl
                      have HX14 := Lib.hid hbx14
                      have HB14 := Lib.hid hb14
                      have hlj : ((r.2.take j).map (renT inn)).length = j := by
                        rw [List.length_map, List.length_take]
                        have := HRS12.out.len
                        omega
                      obtain ⟨AX, cX, rfl, _, _⟩ := hox.form
                      rw [hlj] at hbx14 hox HX14
                      have HOX := Lib.hid hox
                      have kx : wr.cell? ⟨w12.heap.size, 1, none⟩ = some (.slice AX j cX) := by simp [World.cell?, hbx14]
                      have lx : w12.heap.size < wr.heap.size := by omega
                      obtain ⟨w14, rfl⟩ : ∃ w14 : World, w14 = wr := ⟨_, rfl⟩
                      clear hgl hbx14 hox hb14
                      by_cases hjm : j < m3
                      · obtain ⟨bs, os, s, rfl, _, hbs, hs1, hs2, hs⟩ := sym_at (HRS12.out.below HB14.out) hjm
                        obtain ⟨tm, xI⟩ := s
                        have hjI : (j : Int) < (m3 : Int) := by omega
                        have hj0 : (0 : Int) ≤ (j : Int) := by omega
                        have HS := Lib.hid hs
                        clear hs
                        cases tm with
                        | true =>
                          obtain ⟨v16, w16, hrun, ho16, hg16, hb16⟩ := run_append_lit (R := RSym) tSyms rfl (w14.alloc (.cells #[.bool true, .int .i64 xI] 38)) 34 w13.heap.size (fun _ => False) _ ((r.2.take j).map (renT inn)) (HOX.out.alloc _) 1 [(true, xI)] [.bool true, .int .i64 xI] (Cells.single (RSym.cells.2 rfl)) rfl (by unfold maxLen; omega) (by omega) (by simp; omega)
                          obtain ⟨A16, c16', rfl, _, _⟩ := ho16.form
                          have hl16 : ((r.2.take j).map (renT inn) ++ [(true, xI)]).length = j + 1 := by rw [List.length_append, hlj]; rfl
                          rw [hl16] at hrun
                          rw [hl16] at ho16
                          have hz16 := hg16.size
                          simp only [World.size_alloc] at hrun hz16
                          have hlist : (r.2.take j).map (renT inn) ++ [(true, xI)] = (r.2.take (j + 1)).map (renT inn) := by
                            rw [List.take_add_one, HS.out, List.map_append]
                            congr 1
                            all_goals simp [renT]
                          rw [hlist] at ho16
                          have hbx16 : w16.heap[w12.heap.size]? = some (.cells #[.int .i64 (ra : Int), .slice AX j cX] 36 (0, 0)) := (hb16.block _ hz13').trans ((Below.heap_alloc _ _ _ (by omega)).trans HX14.out)
                          have c16 : w16.cell? ⟨w12.heap.size, 1, none⟩ = some (.slice AX j cX) := by simp [World.cell?, hbx16]
                          have f16 : w16.frozen? ⟨w12.heap.size, 1, none⟩ = false := by simp [World.frozen?, hbx16]
                          have hset := blk_set hbx16 1 (.slice A16 (j + 1) c16')
                          have hb1416 : Below w13.heap.size w14 w16 := ((Below.refl _ _).alloc (by omega) _).trans hb16
                          have HX17 := Lib.hid (show (w16.setCell ⟨w12.heap.size, 1, none⟩ (.slice A16 (j + 1) c16')).heap[w12.heap.size]? = some (.cells #[.int .i64 (ra : Int), .slice A16 (j + 1) c16'] 36 (0, 0)) by simpa using hset)
                          have HO17 := Lib.hid (ho16.keepG (set_grown (Bd := w12.heap.size) w16 1 (.slice A16 (j + 1) c16')) (fun g e => by injection e with e; omega))
                          have HB17 := Lib.hid ((HB14.out.trans (hb1416.mono (by omega))).setCell (p := ⟨w12.heap.size, 1, none⟩) (Nat.le_refl _) (.slice A16 (j + 1) c16'))
                          have HRUN := Lib.hid hrun
                          have hzf : w13.heap.size ≤ (w16.setCell ⟨w12.heap.size, 1, none⟩ (.slice A16 (j + 1) c16')).heap.size := by simp [World.setCell]; omega
                          clear hrun ho16 hg16 hb16 hl16 hlist hbx16 hset hb1416
                          --@14true
                          go_wp2_with (at_builtin; refine Lib.wpList_append_run (o := ⟨some 117, _, _, _, _, _⟩) _ rfl _ _ _ _ rfl _ _ rfl rfl _ _ HRUN.out ?_)
                          go_roundg (m3 - (j + 1))
                          case measure => rw [HGL.out]; omega
                          case rel => exact ⟨j + 1, _, by omega, rfl, by go_num, HX17.out, HO17.out, HB17.out, hzf⟩
                        | false =>
                          obtain ⟨hx0, hxN⟩ := HOK.out _ (List.mem_of_getElem? HS.out) rfl
                          obtain ⟨x, hx⟩ : ∃ x : Nat, xI = (x : Int) := ⟨xI.toNat, by simp only at hx0; omega⟩
                          subst hx
                          simp only [Int.toNat_natCast] at hxN
                          have hinx : inn x = true := by
                            have h := HI.out.closed r (List.mem_of_getElem? HR.out) (by rw [HA.out, Int.toNat_natCast]; exact HFA.out) HQ.out _ (List.mem_of_getElem? HS.out) rfl
                            simpa using h
                          obtain ⟨rx, hrx⟩ : ∃ rx, rx = rnk inn x := ⟨_, rfl⟩
                          have HRX := Lib.hid hrx
                          have htr14 := (HPRE.out w14 (HBR12'.out.trans (HB14.out.mono HBR12'.out.size))).2.1
                          have hct : w14.cell? ⟨w5.heap.size, x, none⟩ = some (.int .i64 (rx : Int)) := by
                            rw [cell_of_row w14 _ x _ _ _ htr14, rowCells_at _ _ _ x hxN, intV, toT, if_pos hinx, hrx]
                          have hxI : (x : Int) < (N : Int) := by omega
                          have hx00 : (0 : Int) ≤ (x : Int) := by omega
                          have hlt14 : w5.heap.size < w14.heap.size := heap_lt htr14
                          clear hrx htr14 hx0
                          obtain ⟨v16, w16, hrun, ho16, hg16, hb16⟩ := run_append_lit (R := RSym) tSyms rfl (w14.alloc (.cells #[.bool false, .int .i64 (rx : Int)] 38)) 34 w13.heap.size (fun _ => False) _ ((r.2.take j).map (renT inn)) (HOX.out.alloc _) 1 [(false, (rx : Int))] [.bool false, .int .i64 (rx : Int)] (Cells.single (RSym.cells.2 rfl)) rfl (by unfold maxLen; omega) (by omega) (by simp; omega)
                          obtain ⟨A16, c16', rfl, _, _⟩ := ho16.form
                          have hl16 : ((r.2.take j).map (renT inn) ++ [(false, (rx : Int))]).length = j + 1 := by rw [List.length_append, hlj]; rfl
                          rw [hl16] at hrun
                          rw [hl16] at ho16
                          have hz16 := hg16.size
                          simp only [World.size_alloc] at hrun hz16
                          have hlist : (r.2.take j).map (renT inn) ++ [(false, (rx : Int))] = (r.2.take (j + 1)).map (renT inn) := by
                            rw [List.take_add_one, HS.out, List.map_append]
                            congr 1
                            all_goals simp [renT, toT, hinx, HRX.out]
                          rw [hlist] at ho16
                          have hbx16 : w16.heap[w12.heap.size]? = some (.cells #[.int .i64 (ra : Int), .slice AX j cX] 36 (0, 0)) := (hb16.block _ hz13').trans ((Below.heap_alloc _ _ _ (by omega)).trans HX14.out)
                          have c16 : w16.cell? ⟨w12.heap.size, 1, none⟩ = some (.slice AX j cX) := by simp [World.cell?, hbx16]
                          have f16 : w16.frozen? ⟨w12.heap.size, 1, none⟩ = false := by simp [World.frozen?, hbx16]
                          have hset := blk_set hbx16 1 (.slice A16 (j + 1) c16')
                          have hb1416 : Below w13.heap.size w14 w16 := ((Below.refl _ _).alloc (by omega) _).trans hb16
                          have HX17 := Lib.hid (show (w16.setCell ⟨w12.heap.size, 1, none⟩ (.slice A16 (j + 1) c16')).heap[w12.heap.size]? = some (.cells #[.int .i64 (ra : Int), .slice A16 (j + 1) c16'] 36 (0, 0)) by simpa using hset)
                          have HO17 := Lib.hid (ho16.keepG (set_grown (Bd := w12.heap.size) w16 1 (.slice A16 (j + 1) c16')) (fun g e => by injection e with e; omega))
                          have HB17 := Lib.hid ((HB14.out.trans (hb1416.mono (by omega))).setCell (p := ⟨w12.heap.size, 1, none⟩) (Nat.le_refl _) (.slice A16 (j + 1) c16'))
                          have HRUN := Lib.hid hrun
                          have hzf : w13.heap.size ≤ (w16.setCell ⟨w12.heap.size, 1, none⟩ (.slice A16 (j + 1) c16')).heap.size := by simp [World.setCell]; omega
                          clear hrun ho16 hg16 hb16 hl16 hlist hbx16 hset hb1416
                          --@14false
                          go_wp2_with (at_builtin; refine Lib.wpList_append_run (o := ⟨some 117, _, _, _, _, _⟩) _ rfl _ _ _ _ rfl _ _ rfl rfl _ _ HRUN.out ?_)
                          go_roundg (m3 - (j + 1))
                          case measure => rw [HGL.out]; omega
                          case rel => exact ⟨j + 1, _, by omega, rfl, by go_num, HX17.out, HO17.out, HB17.out, hzf⟩
                      · obtain rfl : m3 = j := by omega
                        have htk : r.2.take m3 = r.2 := List.take_of_length_le (by have := HRS12.out.len; omega)
                        have hox := HOX.out
                        rw [htk] at hox hlj
                        have hsx : Sl RSym w14 (fun b => wX.heap.size ≤ b ∧ rowOf (.slice A1 km cR1) ≠ some b ∧ rowOf (.slice Aq km cq) ≠ some b) AX m3 cX (r.2.map (renT inn)) := by
                          rw [← hlj] at hox ⊢
                          exact hox.sl.more fun b hb => by
                            have hb' : w13.heap.size ≤ b := hb.elim False.elim id
                            have h1 := (HTW12.out.rows).1
                            have h2 := (HTW12.out.rows).2
                            exact ⟨by omega, fun e => by have := (h1 b e).2; omega, fun e => by have := (h2 b e).2; omega⟩
                        have hrl := HKM.out
                        obtain ⟨A15, c15, w15, hrun1, A16, c16, w16, hrun2, htw16, hb15, hb16⟩ := TwoR.push (HTW12.out.below HB14.out) (by omega) (by omega) (by omega) (r := ((ra : Int), r.2.map (renT inn))) hsx (i : Int)
                        rw [← hrl] at hrun1 htw16
                        have hz15 := hb15.size
                        have HRUN1 := Lib.hid hrun1
                        have HRUN2 := Lib.hid hrun2
                        have hbx16 : w16.heap[X]? = some (.cells #[.int .i64 g.1, .int .i64 (kn : Int), .int .i64 (sT : Int), .slice A1 km cR1] 25 (0, 0)) := (hb16.block _ hzX8').trans ((HB14.out.block _ (by omega)).trans HBX12.out)
                        have cX14 : w14.cell? ⟨X, 3, none⟩ = some (.slice A1 km cR1) := by
                          have h := (HB14.out.block _ (by omega)).trans HBX12.out
                          simp [World.cell?, h]
                        have cX16 : w16.cell? ⟨X, 3, none⟩ = some (.slice A1 km cR1) := by simp [World.cell?, hbx16]
                        have fX16 : w16.frozen? ⟨X, 3, none⟩ = false := by simp [World.frozen?, hbx16]
                        have kx0 : w14.cell? ⟨w12.heap.size, 0, none⟩ = some (.int .i64 (ra : Int)) := by simp [World.cell?, HX14.out]
                        have hset := blk_set hbx16 3 (.slice A15 (km + 1) c15)
                        have HX17 := Lib.hid (show (w16.setCell ⟨X, 3, none⟩ (.slice A15 (km + 1) c15)).heap[X]? = some (.cells #[.int .i64 g.1, .int .i64 (kn : Int), .int .i64 (sT : Int), .slice A15 (km + 1) c15] 25 (0, 0)) by simpa using hset)
                        have HTW17 := Lib.hid (htw16.set hzX8' 3 (.slice A15 (km + 1) c15))
                        have HB17 := Lib.hid ((HBR12'.out.trans ((HB14.out.mono (by omega)).trans (hb16.mono hzX7))).setCell (p := ⟨X, 3, none⟩) hz87 (.slice A15 (km + 1) c15))
                        have hzf : wX.heap.size ≤ (w16.setCell ⟨X, 3, none⟩ (.slice A15 (km + 1) c15)).heap.size := by simp [World.setCell]; have := hb16.size; omega
                        have hX14 : X < w14.heap.size := by omega
                        clear hrun1 hrun2 hbx16 hset htw16 hb15 hb16 hox hsx htk hrl hlj
                        --@15
                        go_wp2_with (first
                          | (at_builtin; refine Lib.wpList_append_run (o := ⟨some 124, _, _, _, _, _⟩) _ rfl _ _ _ _ rfl _ _ rfl rfl _ _ HRUN1.out ?_)
                          | (at_builtin; refine Lib.wpList_append_run (o := ⟨some 128, _, _, _, _, _⟩) _ rfl _ _ _ _ rfl _ _ rfl rfl _ _ HRUN2.out ?_))
                        go_roundg (nR - (i + 1))
                        case measure => rw [HGK2.out]; omega
                        case rel =>
                          refine ⟨i + 1, _, by omega, rfl, by go_num, HX17.out, ?_, HB17.out, hzf⟩
                          have e : trimR inn ls (g.2.2.2.take (i + 1)) = trimR inn ls (g.2.2.2.take i) ++ [((ra : Int), r.2.map (renT inn))] := by
                            rw [trimR_snoc HR.out, HA.out, Int.toNat_natCast, HFA.out, HQ.out, Bool.true_and, if_pos rfl, toT, if_pos HFA.out, HRA.out]
                          rw [e, List.length_append, ← HKM.out]
                          exact HTW17.out
              · obtain rfl : nR = i := by omega
                have htk : g.2.2.2.take nR = g.2.2.2 := List.take_of_length_le (by rw [← HRL.out]; exact Nat.le_refl _)
                have hsl := HTW.out.sl
                rw [htk] at hsl
                have HSLF := Lib.hid (hsl.more (S' := fun b => w.heap.size ≤ b ∧ b ≠ w.heap.size + 1) fun b hb => by omega)
                obtain ⟨c0, c1, c2, c3⟩ : w10.cell? ⟨X, 0, none⟩ = some (.int .i64 g.1) ∧ w10.cell? ⟨X, 1, none⟩ = some (.int .i64 (kn : Int)) ∧ w10.cell? ⟨X, 2, none⟩ = some (.int .i64 (sT : Int)) ∧ w10.cell? ⟨X, 3, none⟩ = some (.slice A1 km cR1) := by simp [World.cell?, HBX.out]
                have h110 : Below w1.heap.size w1 w10 := HB15.out.trans ((HBW.out w10 HBR.out).mono HB15.out.size)
                obtain ⟨⟨r0, r1, r2, r3⟩, hf⟩ := HOUT.out w10 h110
                have hf0 := hf 0
                have hf1 := hf 1
                have hf2 := hf 2
                have hf3 := hf 3
                have hle : w.heap.size ≤ w.heap.size + 1 := Nat.le_succ _
                have HBF := Lib.hid ((((HB10.out.setCell (p := ⟨w.heap.size + 1, 0, none⟩) hle (.int .i64 g.1)).setCell (p := ⟨w.heap.size + 1, 1, none⟩) hle (.int .i64 (kn : Int))).setCell (p := ⟨w.heap.size + 1, 2, none⟩) hle (.int .i64 (sT : Int))).setCell (p := ⟨w.heap.size + 1, 3, none⟩) hle (.slice A1 km cR1))
                have hsf : Sl RRule ((((w10.setCell ⟨w.heap.size + 1, 0, none⟩ (.int .i64 g.1)).setCell ⟨w.heap.size + 1, 1, none⟩ (.int .i64 (kn : Int))).setCell ⟨w.heap.size + 1, 2, none⟩ (.int .i64 (sT : Int))).setCell ⟨w.heap.size + 1, 3, none⟩ (.slice A1 km cR1)) (fun b => w.heap.size ≤ b ∧ b ≠ w.heap.size + 1) A1 km cR1 (trimR inn ls g.2.2.2) :=
                  (((HSLF.out.keep (Kept.setCell _ _ _ _ fun h => h.2 rfl)).keep (Kept.setCell _ _ _ _ fun h => h.2 rfl)).keep (Kept.setCell _ _ _ _ fun h => h.2 rfl)).keep (Kept.setCell _ _ _ _ fun h => h.2 rfl)
                have HSF := Lib.hid hsf
                have HY0 := Lib.hid hy0
                clear hf hsl htk h110 hsf hy0
                --@16
                go_wp2_with fail
                refine bodyPost_ret (v := .tuple #[.agg #[.int .i64 g.1, .int .i64 (kn : Int), .int .i64 (sT : Int), .slice A1 km cR1], .slice An kn cn, .slice Aq km cq, .int .i64 0]) (by simp [results, Try.results38, go_sem, r0, r1, r2, r3]) rfl ?_
                refine ⟨.inl ⟨ls, inn, A1, km, cR1, .slice An kn cn, .slice Aq km cq, ?_, HI.out, HLO.out, HLEN.out, ?_, HSF.out.more fun b hb => hb.1⟩, HBF.out⟩
                · rw [← HKN.out, ← HSTT.out]
                · refine (least_prod HLO.out HLEN.out hstN).1 ?_
                  rw [List.getD_eq_getElem?_getD, HY.out]
                  exact HY0.out
          exact AllL.nil
        exact AllL.nil
end Go.Proofs.Ytfkapijfjihiiaa
