/- PkP SlCmpInt -/
import Derived.Laws.EntriesVeiled
import Derived.LoopTactic
import Derived.Outline
import Derived.Shelf.Abstract
import Derived.Test.YtimklgbljjamkaaDoorCs02
import Derived.Test.YtimklgbljjamkaaDoorCs05
import Derived.Test.YtimklgbljjamkaaDoorCs08
import Derived.Test.YtimklgbljjamkaaDoorCs25
import Derived.Test.YtimklgbljjamkaaDoorCs30
import Derived.Test.YtimklgbljjamkaaDoorCs32
import Derived.WalkSpells
namespace Go.Proofs.YtimklgbljjamkaaDoor
open Go.RowKit
abbrev RNat : Rep Nat where
 size := 1
 ok := fun _ _ cs a => cs = [.int .i64 (a : Int)]
 pos := by decide
 len := by rintro _ _ _ _ rfl; rfl
 keep := by intro _ _ _ _ _ h _; exact h
 more := by intro _ _ _ _ _ h _; exact h
 fit := by intro _ _ _ _ h; exact h
 one := by
  rintro _ _ _ _ rfl u hu
  obtain rfl := List.mem_singleton.1 hu
  rfl
abbrev RKey : Rep KeyD := Rep.prod RSym (Rep.prod RNat RNat)
abbrev CPk := Nat × List KeyD
abbrev RCPk : Rep CPk := Rep.prod RNat (Rep.slice RKey)
section
variable {w : World} {S : Nat → Prop} {cs : List Value}
theorem RKey.cells {k : KeyD} : RKey.ok w S cs k ↔ cs = [.bool k.1.1, .int .i64 k.1.2, .int .i64 (k.2.1 : Int), .int .i64 (k.2.2 : Int)] := by
 constructor
 ·
  rintro ⟨c1, c2, rfl, h1, c3, c4, rfl, h3, h4⟩
  rw [RSym.cells.1 h1, show c3 = _ from h3, show c4 = _ from h4]
  rfl
 ·
  rintro rfl
  exact ⟨[_, _], _, rfl, RSym.cells.2 rfl, [_], [_], rfl, rfl, rfl⟩
theorem RCPk.cells {p : CPk} : RCPk.ok w S cs p ↔ ∃ A n c, cs = [.int .i64 (p.1 : Int), .slice A n c] ∧ Sl RKey w S A n c p.2 := by
 constructor
 ·
  rintro ⟨c1, c2, rfl, h1, A, n, c, rfl, h2⟩
  rw [show c1 = _ from h1]
  exact ⟨A, n, c, rfl, h2⟩
 ·
  rintro ⟨A, n, c, rfl, h⟩
  exact ⟨[_], [_], rfl, rfl, A, n, c, rfl, h⟩
end
theorem tKeys : SlType Tryd.prog 140 138 4 32 (.agg #[.bool false, .int .i64 0, .int .i64 0, .int .i64 0]) := ⟨by kernel_rfl, by kernel_rfl, by kernel_rfl, rfl, by decide⟩
theorem tCPks : SlType Tryd.prog 142 145 2 32 (.agg #[.int .i64 0, .slice none 0 0]) := ⟨by kernel_rfl, by kernel_rfl, by kernel_rfl, rfl, by decide⟩
set_option maxRecDepth 100000 in
set_option maxHeartbeats 1000000 in
theorem cloneKey (A : Option Addr) (n c : Nat) (S : Nat → Prop) (xs : List Value) (w : World) (hr : Rd w S 4 A n xs) (hb : n * 32 ≤ 281474976710656) :
    Calls Tryd.prog 96 #[.slice A n c] w fun e w' => ∃ v, e = .returned v ∧ Own w' w.heap.size 138 4 v n xs ∧ Below w.heap.size w w' := by
 have HRD := Lib.hid hr
 clear hr
 cases A with
 | none =>
  have hq := fun W => Lib.run_eql_slice_nil (P := Tryd.prog) W 140
  go_enter Tryd.func96, Tryd.ntmps96
  go_wp2_with fail
  go_ret
  have hn : n = 0 := by
   rcases Nat.eq_zero_or_pos n with h0 | h0
   ·
    exact h0
   ·
    obtain ⟨b, off, h, _⟩ := HRD.out.2 h0
    cases h
  subst hn
  have hx : xs = [] := List.eq_nil_of_length_eq_zero (by simpa using HRD.out.1)
  subst hx
  exact ⟨_, rfl, Own.nil _ _ _ _ _, Below.refl _ _⟩
 | some a =>
  have hq := fun W => Lib.run_eql_slice_nil (P := Tryd.prog) W 140 138 (some a) n c 0 0 (by kernel_rfl)
  obtain ⟨v2, w2, hrun, ho, hg, _⟩ := run_append_fresh tKeys (w.alloc (.cells #[] 138)) 140 w.heap.size (some ⟨w.heap.size, 0, none⟩) _ (some a) n c xs (HRD.out.alloc _) (by unfold maxLen; omega) (by omega) (by simp)
  have HRUN := Lib.hid hrun
  have HO := Lib.hid ho
  have HG := Lib.hid hg
  clear hrun ho hg
  go_enter Tryd.func96, Tryd.ntmps96
  go_wp2_with (at_builtin; refine Lib.wpList_append_run _ rfl _ _ _ _ rfl _ _ rfl rfl _ _ HRUN.out ?_)
  go_ret
  exact ⟨_, rfl, HO.out, ((Below.refl _ _).alloc (Nat.le_refl _) _).grown HG.out (by simp) (by simp)⟩
structure PkC where
 Bk : Nat
 Bo : Nat
 Bi : Nat
 Bw : Nat
 Be : Nat
 Bv : Nat
 key : KeyD
 i : Nat
 Aw : Option Addr
 nw : Nat
 cw : Nat
 ws : List Int
 Sw : Nat → Prop
 lo : Nat
 hi : Nat
 gN : Nat
 gs : Nat → Nat
 N : Nat
 E : Nat → Nat → Nat
 R : List RuleD
structure PkC.Ok (C : PkC) : Prop where
 ne : C.Bo ≠ C.Bk ∧ C.Bo ≠ C.Bi ∧ C.Bo ≠ C.Bw ∧ C.Bo ≠ C.Be ∧ C.Bo ≠ C.Bv
 o0 : C.Bo ≠ 0
 os : ¬ C.Sw C.Bo
 og : C.Bo < C.lo ∨ C.hi ≤ C.Bo
 wl : C.ws.length = C.nw
 nw : C.nw ≤ 12
 kt : C.key.2.2 ≤ C.nw
 N10 : C.N ≤ 10
 rn : RulesN C.N C.R
 hE : ∀ a i, C.E a i < 2 ^ (C.nw + 1)
 sn : SoundW C.R C.ws C.N C.E
 cl : ClosedW C.R C.ws C.E
def PkC.Off (C : PkC) (b : Nat) : Prop := b ≠ C.Bk ∧ b ≠ C.Bi ∧ b ≠ C.Bw ∧ b ≠ C.Be ∧ b ≠ C.Bv ∧ b ≠ 0 ∧ ¬ C.Sw b ∧ (b < C.lo ∨ C.hi ≤ b)
theorem PkC.Ok.off {C : PkC} (h : C.Ok) : C.Off C.Bo := ⟨h.ne.1, h.ne.2.1, h.ne.2.2.1, h.ne.2.2.2.1, h.ne.2.2.2.2, h.o0, h.os, h.og⟩
structure PkB (C : PkC) (u : World) : Prop where
 tb : Tab u
 bk : u.heap[C.Bk]? = some (.cells #[.bool C.key.1.1, .int .i64 C.key.1.2, .int .i64 (C.key.2.1 : Int), .int .i64 (C.key.2.2 : Int)] 138 (0, 0))
 bi : u.heap[C.Bi]? = some (.cells #[.int .i64 (C.i : Int)] 3 (0, 0))
 bw : u.heap[C.Bw]? = some (.cells #[.slice C.Aw C.nw C.cw] 22 (0, 0))
 be : u.heap[C.Be]? = some (.cells #[.slice (some ⟨C.gN, 0, none⟩) C.N C.N] 95 (0, 0))
 bv : u.heap[C.Bv]? = some (.cells #[.func (.func 95) #[] #[.pointer (some ⟨C.Bk, 0, none⟩), .pointer (some ⟨C.Bo, 0, none⟩), .pointer (some ⟨C.Bi, 0, none⟩), .pointer (some ⟨C.Bw, 0, none⟩), .pointer (some ⟨C.Be, 0, none⟩), .pointer (some ⟨C.Bv, 0, none⟩)]] 178 (0, 0))
 rd : Rd u C.Sw 1 C.Aw C.nw (C.ws.map (Value.int .i64))
 gr : Grid mV 93 u C.lo C.hi C.gN C.gs C.N (C.nw + 1) C.E
 hi : C.hi ≤ u.heap.size
 fit : ∀ b, C.Sw b → b < u.heap.size
structure PkIn (C : PkC) (u : World) (F : Nat → Prop) (v : Value) (ps : List CPk) : Prop where
 b : PkB C u
 bo : u.heap[C.Bo]? = some (.cells #[v] 142 (0, 0))
 out : GL RCPk 145 u F v ps
 off : ∀ b, F b → C.Off b ∧ b ≠ C.Bo
section
variable {C : PkC} {u u' : World} {F X : Nat → Prop} {v : Value} {ps : List CPk}
theorem Tab.only {w w' : World} (h : Tab w) (ho : Only w w' X) (h0 : ¬ X 0) : Tab w' :=
 ⟨Nat.lt_of_lt_of_le h.1 ho.size, fun j hj => by rw [World.cell?_of_block (ho.block 0 h.1 h0)]; exact h.2 j hj⟩
theorem PkB.only (h : PkB C u) (ho : Only u u' X) (hX : ∀ b, X b → b < u.heap.size → C.Off b) : PkB C u' := by
 have hk : ∀ b, b < u.heap.size → ¬ C.Off b → u'.heap[b]? = u.heap[b]? := fun b hb hn => ho.block b hb fun hx => hn (hX b hx hb)
 refine ⟨h.tb.only (X := fun b => X b ∧ b < u.heap.size) ⟨ho.os, ho.tape, ho.output, ho.size, fun b hb hx => ho.block b hb fun h => hx ⟨h, hb⟩⟩ fun hx => (hX 0 hx.1 hx.2).2.2.2.2.2.1 rfl,
  (hk _ (heap_lt h.bk) fun e => e.1 rfl).trans h.bk, (hk _ (heap_lt h.bi) fun e => e.2.1 rfl).trans h.bi, (hk _ (heap_lt h.bw) fun e => e.2.2.1 rfl).trans h.bw, (hk _ (heap_lt h.be) fun e => e.2.2.2.1 rfl).trans h.be, (hk _ (heap_lt h.bv) fun e => e.2.2.2.2.1 rfl).trans h.bv,
  (h.rd.fit (by decide)).keep (ho.kept fun b hb hx => (hX b hx hb.2).2.2.2.2.2.2.1 hb.1) |>.more (fun b hb => hb.1), h.gr.keep fun q h1 h2 => hk q (Nat.lt_of_lt_of_le h2 h.hi) fun e => by have := e.2.2.2.2.2.2.2; omega, Nat.le_trans h.hi ho.size, fun b hb => Nat.lt_of_lt_of_le (h.fit b hb) ho.size⟩
theorem PkB.below (h : PkB C u) (hb : Below u.heap.size u u') : PkB C u' := h.only (X := fun _ => False) (.of_below hb (Nat.le_refl _) _) fun _ hx _ => hx.elim
theorem PkIn.below (h : PkIn C u F v ps) (hb : Below u.heap.size u u') : PkIn C u' F v ps :=
 ⟨h.b.below hb, (hb.block _ (heap_lt h.bo)).trans h.bo, h.out.below hb, h.off⟩
theorem PkIn.fit (h : PkIn C u F v ps) : PkIn C u (fun b => F b ∧ b < u.heap.size) v ps := ⟨h.b, h.bo, h.out.fit, fun b hb => h.off b hb.1⟩
theorem PkB.cells (h : PkB C u) : (u.cell? ⟨C.Bk, 0, none⟩ = some (.bool C.key.1.1) ∧ u.cell? ⟨C.Bk, 1, none⟩ = some (.int .i64 C.key.1.2) ∧ u.cell? ⟨C.Bk, 2, none⟩ = some (.int .i64 (C.key.2.1 : Int)) ∧ u.cell? ⟨C.Bk, 3, none⟩ = some (.int .i64 (C.key.2.2 : Int))) ∧ u.cell? ⟨C.Bi, 0, none⟩ = some (.int .i64 (C.i : Int)) ∧ u.cell? ⟨C.Bw, 0, none⟩ = some (.slice C.Aw C.nw C.cw) ∧ u.cell? ⟨C.Be, 0, none⟩ = some (.slice (some ⟨C.gN, 0, none⟩) C.N C.N) ∧
    u.cell? ⟨C.Bv, 0, none⟩ = some (.func (.func 95) #[] #[.pointer (some ⟨C.Bk, 0, none⟩), .pointer (some ⟨C.Bo, 0, none⟩), .pointer (some ⟨C.Bi, 0, none⟩), .pointer (some ⟨C.Bw, 0, none⟩), .pointer (some ⟨C.Be, 0, none⟩), .pointer (some ⟨C.Bv, 0, none⟩)]) := by
 have h1 := h.bk
 have h2 := h.bi
 have h3 := h.bw
 have h4 := h.be
 have h5 := h.bv
 exact ⟨⟨by simp [World.cell?, h1], by simp [World.cell?, h1], by simp [World.cell?, h1], by simp [World.cell?, h1]⟩, by simp [World.cell?, h2], by simp [World.cell?, h3], by simp [World.cell?, h4], by simp [World.cell?, h5]⟩
end
theorem enters_pk : ∀ (args : Array Value) (u : World), (callFunc 95 args).run Tryd.prog u = .ok (.enter 95 args) u := enters_of Tryd.func95 (by kernel_rfl) rfl
noncomputable def addK (C : PkC) (l : List SymD) (fr : Nat) (ini : List KeyD) : List CPk := (splP C.R C.ws l fr C.key.2.2).map fun ks => (C.i, ini ++ ks)
def PkR (C : PkC) (u : World) (F : Nat → Prop) (ps : List CPk) (e : Ending) (w' : World) : Prop :=
 ∃ (F' : Nat → Prop) (v' : Value), e = .returned (.tuple #[]) ∧ PkIn C w' F' v' ps ∧ Only u w' (fun b => b = C.Bo ∨ F b) ∧ ∀ b, F' b → F b ∨ u.heap.size ≤ b
def PkAt (C : PkC) (l : List SymD) : Prop :=
 ∀ (u : World) (F : Nat → Prop) (v : Value) (ps : List CPk) (S1 : Nat → Prop) (A1 : Option Addr) (n1 c1 : Nat) (fr : Nat) (S2 : Nat → Prop) (A2 : Option Addr) (n2 c2 : Nat) (ini : List KeyD),
  PkIn C u F v ps → Sl RSym u S1 A1 n1 c1 l → (∀ b, S1 b → b < u.heap.size ∧ b ≠ C.Bo ∧ ¬ F b) → NonOk C.N l → l.length ≤ 4 → fr ≤ C.nw → Sl RKey u S2 A2 n2 c2 ini → (∀ b, S2 b → b < u.heap.size ∧ b ≠ C.Bo ∧ ¬ F b) → ini.length + l.length ≤ 100 → ps.length + (addK C l fr ini).length ≤ 100000 →
  Calls Tryd.prog 95 #[.slice A1 n1 c1, .int .i64 (fr : Int), .slice A2 n2 c2, .pointer (some ⟨C.Bk, 0, none⟩), .pointer (some ⟨C.Bo, 0, none⟩), .pointer (some ⟨C.Bi, 0, none⟩), .pointer (some ⟨C.Bw, 0, none⟩), .pointer (some ⟨C.Be, 0, none⟩), .pointer (some ⟨C.Bv, 0, none⟩)] u
   (PkR C u F (ps ++ addK C l fr ini))
end Go.Proofs.YtimklgbljjamkaaDoor
namespace Go.Proofs.YtimklgbljjamkaaDoor
open Go.RowKit
def cmpI (x y : Int) : Int := if x < y then -1 else if y < x then 1 else 0
set_option maxHeartbeats 1000000 in
theorem cmpIntC (x y : Int) (w : World) : Calls Tryd.prog 78 #[.int .i64 x, .int .i64 y] w fun e w' => e = .returned (.int .i64 (cmpI x y)) ∧ w = w' := by
 by_cases h1 : x < y
 ·
  go_enter Tryd.func78, Tryd.ntmps78
  go_wp2
  go_ret
  exact ⟨ret_int (by simp [cmpI, h1]), rfl⟩
 ·
  by_cases h2 : y < x
  ·
   go_enter Tryd.func78, Tryd.ntmps78
   go_wp2
   go_ret
   exact ⟨ret_int (by simp [cmpI, h1, h2]), rfl⟩
  ·
   go_enter Tryd.func78, Tryd.ntmps78
   go_wp2
   go_ret
   exact ⟨ret_int (by unfold cmpI; rw [if_neg (by omega), if_neg (by omega)]), rfl⟩
def cmpL : List Int → List Int → Int
 | [], [] => 0
 | [], _ :: _ => -1
 | _ :: _, [] => 1
 | x :: l, y :: m => if cmpI x y = 0 then cmpL l m else cmpI x y
theorem cmpL_drop {l m : List Int} {k : Nat} {x y : Int} (h1 : l[k]? = some x) (h2 : m[k]? = some y) (hc : cmpI x y = 0) : cmpL (l.drop k) (m.drop k) = cmpL (l.drop (k + 1)) (m.drop (k + 1)) := by
 obtain ⟨a1, rfl⟩ := List.getElem?_eq_some_iff.1 h1
 obtain ⟨a2, rfl⟩ := List.getElem?_eq_some_iff.1 h2
 rw [List.drop_eq_getElem_cons a1, List.drop_eq_getElem_cons a2, cmpL, if_pos hc]
theorem cmpL_stop {l m : List Int} {k : Nat} {x y : Int} (h1 : l[k]? = some x) (h2 : m[k]? = some y) (hc : cmpI x y ≠ 0) : cmpL (l.drop k) (m.drop k) = cmpI x y := by
 obtain ⟨a1, rfl⟩ := List.getElem?_eq_some_iff.1 h1
 obtain ⟨a2, rfl⟩ := List.getElem?_eq_some_iff.1 h2
 rw [List.drop_eq_getElem_cons a1, List.drop_eq_getElem_cons a2, cmpL, if_neg hc]
set_option maxHeartbeats 1000000 in
theorem compareInt (A1 A2 : Option Addr) (n1 c1 n2 c2 : Nat) (S1 S2 : Nat → Prop) (l1 l2 : List Int) (w : World) (hr1 : Rd w S1 1 A1 n1 (l1.map (Value.int .i64))) (hr2 : Rd w S2 1 A2 n2 (l2.map (Value.int .i64))) (hn : n1 ≤ 1000000000000) :
    Calls Tryd.prog 79 #[.slice A1 n1 c1, .slice A2 n2 c2] w fun e w' => e = .returned (.int .i64 (cmpL l1 l2)) ∧ w = w' := by
 have hl1 : l1.length = n1 := by simpa using hr1.1
 have hl2 : l2.length = n2 := by simpa using hr2.1
 have HL1 := Lib.hid hl1
 have HL2 := Lib.hid hl2
 have HR1 := Lib.hid hr1
 have HR2 := Lib.hid hr2
 clear hl1 hl2 hr1 hr2
 go_enter Tryd.func79, Tryd.ntmps79
 go_wp2_with fail
 go_loop [11] (fun i => ∃ k : Nat, k ≤ n1 ∧ k ≤ n2 ∧ i = .int .i64 k ∧ cmpL l1 l2 = cmpL (l1.drop k) (l2.drop k)) (fun i => n1 - (intOf i).toNat)
 case atStart => exact ⟨0, Nat.zero_le _, Nat.zero_le _, rfl, rfl⟩
 case round =>
  obtain ⟨k, hk1, hk2, rfl, heq⟩ := hrel
  have HE := Lib.hid heq
  clear heq
  by_cases hlt : k < n1
  ·
   obtain ⟨b1, o1, x, rfl, _, hx, hcell1⟩ := HR1.out.int_at hlt
   have HX := Lib.hid hx
   clear hx
   by_cases hlt2 : k < n2
   ·
    obtain ⟨b2, o2, y, rfl, _, hy, hcell2⟩ := HR2.out.int_at hlt2
    have HY := Lib.hid hy
    clear hy
    by_cases hc : cmpI x y = 0
    ·
     have HC := Lib.hid hc
     clear hc
     go_wp2_with (go_at_call 78; refine (cmpIntC _ _ _).mono ?_; rintro e w' ⟨rfl, rfl⟩; rw [HC.out])
     go_round
     case rel => exact ⟨k + 1, by omega, by omega, by go_num, by rw [HE.out, cmpL_drop HX.out HY.out HC.out]⟩
     case measure => simp [intOf]; omega
    ·
     have hcb : (cmpI x y != 0) = true := by simpa using hc
     have HF := Lib.hid (cmpL_stop HX.out HY.out hc)
     go_wp2_with (go_at_call 78; refine (cmpIntC _ _ _).mono ?_; rintro e w' ⟨rfl, rfl⟩)
     go_ret
     exact ⟨ret_int (by rw [HE.out, HF.out]), rfl⟩
   ·
    have hf : cmpL (l1.drop k) (l2.drop k) = 1 := by
     obtain ⟨a1, rfl⟩ := List.getElem?_eq_some_iff.1 HX.out
     rw [List.drop_eq_getElem_cons a1, List.drop_of_length_le (l := l2) (by rw [HL2.out]; omega), cmpL]
    have HF := Lib.hid hf
    clear hf
    go_wp2_with fail
    go_ret
    exact ⟨ret_int (by rw [HE.out, HF.out]), rfl⟩
  ·
   obtain rfl : k = n1 := by omega
   have hd : l1.drop k = [] := List.drop_of_length_le (by rw [HL1.out]; omega)
   by_cases hlt2 : k < n2
   ·
    have hf : cmpL (l1.drop k) (l2.drop k) = -1 := by rw [hd, List.drop_eq_getElem_cons (by rw [HL2.out]; omega), cmpL]
    have HF := Lib.hid hf
    clear hf hd
    go_wp2_with fail
    go_ret
    exact ⟨ret_int (by rw [HE.out, HF.out]), rfl⟩
   ·
    have hf : cmpL (l1.drop k) (l2.drop k) = 0 := by rw [hd, List.drop_of_length_le (l := l2) (by rw [HL2.out]; omega), cmpL]
    have HF := Lib.hid hf
    clear hf hd
    go_wp2_with fail
    go_ret
    exact ⟨ret_int (by rw [HE.out, HF.out]), rfl⟩
end Go.Proofs.YtimklgbljjamkaaDoor
