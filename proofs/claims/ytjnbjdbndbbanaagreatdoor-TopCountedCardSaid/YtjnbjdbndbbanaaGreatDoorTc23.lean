/- PkP KeyCmp -/
import Derived.Laws.EntriesVeiled
import Derived.Sort.Grow
import Derived.Test.YtjnbjdbndbbanaaGreatDoorTc19
import Derived.Test.YtjnbjdbndbbanaaGreatDoorTc22
namespace Go.Proofs.YtjnbjdbndbbanaaGreatDoor
open Go.RowKit
abbrev RNat : Rep Nat where
 size := 1
 ok := fun _ _ cs a => cs = [.int .i64 (a : Int)]
 pos := by decide
 len := by rintro _ _ _ _ rfl; rfl
 keep := by intro _ _ _ _ _ h _; exact h
 more := by intro _ _ _ _ _ h _; exact h
 fit := by intro _ _ _ _ h; exact h
 one := by
  rintro _ _ _ _ rfl u hu
  obtain rfl := List.mem_singleton.1 hu
  rfl
abbrev RKey : Rep KeyD := Rep.prod RSym (Rep.prod RNat RNat)
abbrev CPk := Nat × List KeyD
abbrev RCPk : Rep CPk := Rep.prod RNat (Rep.slice RKey)
section
variable {w : World} {S : Nat → Prop} {cs : List Value}
theorem RKey.cells {k : KeyD} : RKey.ok w S cs k ↔ cs = [.bool k.1.1, .int .i64 k.1.2, .int .i64 (k.2.1 : Int), .int .i64 (k.2.2 : Int)] := by
 constructor
 ·
  rintro ⟨c1, c2, rfl, h1, c3, c4, rfl, h3, h4⟩
  rw [RSym.cells.1 h1, show c3 = _ from h3, show c4 = _ from h4]
  rfl
 rintro rfl
 exact ⟨[_, _], _, rfl, RSym.cells.2 rfl, [_], [_], rfl, rfl, rfl⟩
theorem RCPk.cells {p : CPk} : RCPk.ok w S cs p ↔ ∃ A n c, cs = [.int .i64 (p.1 : Int), .slice A n c] ∧ Sl RKey w S A n c p.2 := by
 constructor
 ·
  rintro ⟨c1, c2, rfl, h1, A, n, c, rfl, h2⟩
  rw [show c1 = _ from h1]
  exact ⟨A, n, c, rfl, h2⟩
 rintro ⟨A, n, c, rfl, h⟩
 exact ⟨[_], [_], rfl, rfl, A, n, c, rfl, h⟩
end
theorem tKeys : SlType Tryz.prog 146 144 4 32 (.agg #[.bool false, .int .i64 0, .int .i64 0, .int .i64 0]) := ⟨by kernel_rfl, by kernel_rfl, by kernel_rfl, rfl, by decide⟩
theorem tCPks : SlType Tryz.prog 148 151 2 32 (.agg #[.int .i64 0, .slice none 0 0]) := ⟨by kernel_rfl, by kernel_rfl, by kernel_rfl, rfl, by decide⟩
set_option maxRecDepth 100000 in
set_option maxHeartbeats 1000000 in
theorem cloneKey (A : Option Addr) (n c : Nat) (S : Nat → Prop) (xs : List Value) (w : World) (hr : Rd w S 4 A n xs) (hb : n * 32 ≤ 281474976710656) :
    Calls Tryz.prog 86 #[.slice A n c] w fun e w' => ∃ v, e = .returned v ∧ Own w' w.heap.size 144 4 v n xs ∧ Below w.heap.size w w' := by
 have HRD := zh hr
 clear hr
 cases A with
 | none =>
  have hq := fun W => Lib.run_eql_slice_nil (P := Tryz.prog) W 146
  go_enter Tryz.func86, Tryz.ntmps86
  go_wp2_with fail
  go_ret
  have hn : n = 0 := by
   rcases Nat.eq_zero_or_pos n with h0 | h0
   · exact h0
   obtain ⟨b, off, h, _⟩ := HRD.out.2 h0
   cases h
  subst hn
  have hx : xs = [] := List.eq_nil_of_length_eq_zero (by simpa using HRD.out.1)
  subst hx
  exact ⟨_, rfl, Own.nil _ _ _ _ _, Below.refl _ _⟩
 | some a =>
  have hq := fun W => Lib.run_eql_slice_nil (P := Tryz.prog) W 146 144 (some a) n c 0 0 (by kernel_rfl)
  obtain ⟨v2, w2, hrun, ho, hg, _⟩ := run_append_fresh tKeys (w.alloc (.cells #[] 144)) 146 w.heap.size (some ⟨w.heap.size, 0, none⟩) _ (some a) n c xs (HRD.out.alloc _) (by unfold maxLen; omega) (by omega) (by simp)
  have HRUN := zh hrun
  have HO := zh ho
  have HG := zh hg
  clear hrun ho hg
  go_enter Tryz.func86, Tryz.ntmps86
  go_wp2_with (at_builtin; refine Lib.wpList_append_run _ rfl _ _ _ _ rfl _ _ rfl rfl _ _ HRUN.out ?_)
  go_ret
  exact ⟨_, rfl, HO.out, ((Below.refl _ _).alloc (Nat.le_refl _) _).grown HG.out (by simp) (by simp)⟩
structure PkC where
 Bk : Nat
 Bo : Nat
 Bi : Nat
 Bw : Nat
 Be : Nat
 Bv : Nat
 key : KeyD
 i : Nat
 Aw : Option Addr
 nw : Nat
 cw : Nat
 ws : List Int
 Sw : Nat → Prop
 lo : Nat
 hi : Nat
 gN : Nat
 gs : Nat → Nat
 N : Nat
 E : Nat → Nat → Nat
 R : List RuleD
structure PkC.Ok (C : PkC) : Prop where
 ne : C.Bo ≠ C.Bk ∧ C.Bo ≠ C.Bi ∧ C.Bo ≠ C.Bw ∧ C.Bo ≠ C.Be ∧ C.Bo ≠ C.Bv
 o0 : C.Bo ≠ 0
 os : ¬ C.Sw C.Bo
 og : C.Bo < C.lo ∨ C.hi ≤ C.Bo
 wl : C.ws.length = C.nw
 nw : C.nw ≤ 12
 kt : C.key.2.2 ≤ C.nw
 N10 : C.N ≤ 10
 rn : RulesN C.N C.R
 hE : ∀ a i, C.E a i < 2 ^ (C.nw + 1)
 sn : SoundW C.R C.ws C.N C.E
 cl : ClosedW C.R C.ws C.E
def PkC.Off (C : PkC) (b : Nat) : Prop := b ≠ C.Bk ∧ b ≠ C.Bi ∧ b ≠ C.Bw ∧ b ≠ C.Be ∧ b ≠ C.Bv ∧ b ≠ 0 ∧ ¬ C.Sw b ∧ (b < C.lo ∨ C.hi ≤ b)
theorem PkC.Ok.off {C : PkC} (h : C.Ok) : C.Off C.Bo := ⟨h.ne.1, h.ne.2.1, h.ne.2.2.1, h.ne.2.2.2.1, h.ne.2.2.2.2, h.o0, h.os, h.og⟩
structure PkB (C : PkC) (u : World) : Prop where
 tb : Tab u
 bk : u.heap[C.Bk]? = some (.cells #[.bool C.key.1.1, .int .i64 C.key.1.2, .int .i64 (C.key.2.1 : Int), .int .i64 (C.key.2.2 : Int)] 144 (0, 0))
 bi : u.heap[C.Bi]? = some (.cells #[.int .i64 (C.i : Int)] 3 (0, 0))
 bw : u.heap[C.Bw]? = some (.cells #[.slice C.Aw C.nw C.cw] 22 (0, 0))
 be : u.heap[C.Be]? = some (.cells #[.slice (some ⟨C.gN, 0, none⟩) C.N C.N] 72 (0, 0))
 bv : u.heap[C.Bv]? = some (.cells #[.func (.func 85) #[] #[.pointer (some ⟨C.Bk, 0, none⟩), .pointer (some ⟨C.Bo, 0, none⟩), .pointer (some ⟨C.Bi, 0, none⟩), .pointer (some ⟨C.Bw, 0, none⟩), .pointer (some ⟨C.Be, 0, none⟩), .pointer (some ⟨C.Bv, 0, none⟩)]] 175 (0, 0))
 rd : Rd u C.Sw 1 C.Aw C.nw (C.ws.map (Value.int .i64))
 gr : Grid mV 99 u C.lo C.hi C.gN C.gs C.N (C.nw + 1) C.E
 hi : C.hi ≤ u.heap.size
 fit : ∀ b, C.Sw b → b < u.heap.size
structure PkIn (C : PkC) (u : World) (F : Nat → Prop) (v : Value) (ps : List CPk) : Prop where
 b : PkB C u
 bo : u.heap[C.Bo]? = some (.cells #[v] 148 (0, 0))
 out : GL RCPk 151 u F v ps
 off : ∀ b, F b → C.Off b ∧ b ≠ C.Bo
section
variable {C : PkC} {u u' : World} {F X : Nat → Prop} {v : Value} {ps : List CPk}
theorem Tab.only {w w' : World} (h : Tab w) (ho : Only w w' X) (h0 : ¬ X 0) : Tab w' :=
 ⟨Nat.lt_of_lt_of_le h.1 ho.size, fun j hj => by rw [World.cell?_of_block (ho.block 0 h.1 h0)]; exact h.2 j hj⟩
theorem PkB.only (h : PkB C u) (ho : Only u u' X) (hX : ∀ b, X b → b < u.heap.size → C.Off b) : PkB C u' := by
 have hk : ∀ b, b < u.heap.size → ¬ C.Off b → u'.heap[b]? = u.heap[b]? := fun b hb hn => ho.block b hb fun hx => hn (hX b hx hb)
 refine ⟨h.tb.only (X := fun b => X b ∧ b < u.heap.size) ⟨ho.os, ho.tape, ho.output, ho.size, fun b hb hx => ho.block b hb fun h => hx ⟨h, hb⟩⟩ fun hx => (hX 0 hx.1 hx.2).2.2.2.2.2.1 rfl,
  (hk _ (heap_lt h.bk) fun e => e.1 rfl).trans h.bk, (hk _ (heap_lt h.bi) fun e => e.2.1 rfl).trans h.bi, (hk _ (heap_lt h.bw) fun e => e.2.2.1 rfl).trans h.bw, (hk _ (heap_lt h.be) fun e => e.2.2.2.1 rfl).trans h.be, (hk _ (heap_lt h.bv) fun e => e.2.2.2.2.1 rfl).trans h.bv,
  (h.rd.fit (by decide)).keep (ho.kept fun b hb hx => (hX b hx hb.2).2.2.2.2.2.2.1 hb.1) |>.more (fun b hb => hb.1), h.gr.keep fun q h1 h2 => hk q (Nat.lt_of_lt_of_le h2 h.hi) fun e => by have := e.2.2.2.2.2.2.2; omega, Nat.le_trans h.hi ho.size, fun b hb => Nat.lt_of_lt_of_le (h.fit b hb) ho.size⟩
theorem PkB.below (h : PkB C u) (hb : Below u.heap.size u u') : PkB C u' := h.only (X := fun _ => False) (.of_below hb (Nat.le_refl _) _) fun _ hx _ => hx.elim
theorem PkIn.below (h : PkIn C u F v ps) (hb : Below u.heap.size u u') : PkIn C u' F v ps :=
 ⟨h.b.below hb, (hb.block _ (heap_lt h.bo)).trans h.bo, h.out.below hb, h.off⟩
theorem PkIn.fit (h : PkIn C u F v ps) : PkIn C u (fun b => F b ∧ b < u.heap.size) v ps := ⟨h.b, h.bo, h.out.fit, fun b hb => h.off b hb.1⟩
theorem PkB.cells (h : PkB C u) : (u.cell? ⟨C.Bk, 0, none⟩ = some (.bool C.key.1.1) ∧ u.cell? ⟨C.Bk, 1, none⟩ = some (.int .i64 C.key.1.2) ∧ u.cell? ⟨C.Bk, 2, none⟩ = some (.int .i64 (C.key.2.1 : Int)) ∧ u.cell? ⟨C.Bk, 3, none⟩ = some (.int .i64 (C.key.2.2 : Int))) ∧ u.cell? ⟨C.Bi, 0, none⟩ = some (.int .i64 (C.i : Int)) ∧ u.cell? ⟨C.Bw, 0, none⟩ = some (.slice C.Aw C.nw C.cw) ∧ u.cell? ⟨C.Be, 0, none⟩ = some (.slice (some ⟨C.gN, 0, none⟩) C.N C.N) ∧
    u.cell? ⟨C.Bv, 0, none⟩ = some (.func (.func 85) #[] #[.pointer (some ⟨C.Bk, 0, none⟩), .pointer (some ⟨C.Bo, 0, none⟩), .pointer (some ⟨C.Bi, 0, none⟩), .pointer (some ⟨C.Bw, 0, none⟩), .pointer (some ⟨C.Be, 0, none⟩), .pointer (some ⟨C.Bv, 0, none⟩)]) := by
 have h1 := h.bk
 have h2 := h.bi
 have h3 := h.bw
 have h4 := h.be
 have h5 := h.bv
 exact ⟨⟨by simp [World.cell?, h1], by simp [World.cell?, h1], by simp [World.cell?, h1], by simp [World.cell?, h1]⟩, by simp [World.cell?, h2], by simp [World.cell?, h3], by simp [World.cell?, h4], by simp [World.cell?, h5]⟩
end
theorem enters_pk : ∀ (args : Array Value) (u : World), (callFunc 85 args).run Tryz.prog u = .ok (.enter 85 args) u := enters_of Tryz.func85 (by kernel_rfl) rfl
noncomputable def addK (C : PkC) (l : List SymD) (fr : Nat) (ini : List KeyD) : List CPk := (splP C.R C.ws l fr C.key.2.2).map fun ks => (C.i, ini ++ ks)
def PkR (C : PkC) (u : World) (F : Nat → Prop) (ps : List CPk) (e : Ending) (w' : World) : Prop :=
 ∃ (F' : Nat → Prop) (v' : Value), e = .returned (.tuple #[]) ∧ PkIn C w' F' v' ps ∧ Only u w' (fun b => b = C.Bo ∨ F b) ∧ ∀ b, F' b → F b ∨ u.heap.size ≤ b
def PkAt (C : PkC) (l : List SymD) : Prop :=
 ∀ (u : World) (F : Nat → Prop) (v : Value) (ps : List CPk) (S1 : Nat → Prop) (A1 : Option Addr) (n1 c1 : Nat) (fr : Nat) (S2 : Nat → Prop) (A2 : Option Addr) (n2 c2 : Nat) (ini : List KeyD),
  PkIn C u F v ps → Sl RSym u S1 A1 n1 c1 l → (∀ b, S1 b → b < u.heap.size ∧ b ≠ C.Bo ∧ ¬ F b) → NonOk C.N l → l.length ≤ 4 → fr ≤ C.nw → Sl RKey u S2 A2 n2 c2 ini → (∀ b, S2 b → b < u.heap.size ∧ b ≠ C.Bo ∧ ¬ F b) → ini.length + l.length ≤ 100 → ps.length + (addK C l fr ini).length ≤ 1000000 →
  Calls Tryz.prog 85 #[.slice A1 n1 c1, .int .i64 (fr : Int), .slice A2 n2 c2, .pointer (some ⟨C.Bk, 0, none⟩), .pointer (some ⟨C.Bo, 0, none⟩), .pointer (some ⟨C.Bi, 0, none⟩), .pointer (some ⟨C.Bw, 0, none⟩), .pointer (some ⟨C.Be, 0, none⟩), .pointer (some ⟨C.Bv, 0, none⟩)] u
   (PkR C u F (ps ++ addK C l fr ini))
def cmpK (u v : KeyD) : Int := if cmpI (u.2.1 : Int) (v.2.1 : Int) = 0 then (if cmpI (u.2.2 : Int) (v.2.2 : Int) = 0 then orderSym u.1 v.1 else cmpI (u.2.2 : Int) (v.2.2 : Int)) else cmpI (u.2.1 : Int) (v.2.1 : Int)
def bI (b : Bool) : Nat := if b = true then 0 else 1
def KLt (u v : KeyD) : Prop := u.2.1 < v.2.1 ∨ (u.2.1 = v.2.1 ∧ (u.2.2 < v.2.2 ∨ (u.2.2 = v.2.2 ∧ (bI u.1.1 < bI v.1.1 ∨ (bI u.1.1 = bI v.1.1 ∧ u.1.2 < v.1.2)))))
theorem cmpI_negT {x y : Nat} : cmpI (x : Int) (y : Int) < 0 ↔ x < y := by
 unfold cmpI
 by_cases h1 : (x : Int) < (y : Int)
 ·
  rw [if_pos h1]
  exact ⟨fun _ => by omega, fun _ => by decide⟩
 rw [if_neg h1]
 by_cases h2 : (y : Int) < (x : Int)
 ·
  rw [if_pos h2]
  exact ⟨fun h => by omega, fun h => by omega⟩
 rw [if_neg h2]
 exact ⟨fun h => by omega, fun h => by omega⟩
theorem cmpI_zeroT {x y : Nat} : cmpI (x : Int) (y : Int) = 0 ↔ x = y := by
 unfold cmpI
 by_cases h1 : (x : Int) < (y : Int)
 ·
  rw [if_pos h1]
  exact ⟨fun h => by omega, fun h => by omega⟩
 rw [if_neg h1]
 by_cases h2 : (y : Int) < (x : Int)
 ·
  rw [if_pos h2]
  exact ⟨fun h => by omega, fun h => by omega⟩
 rw [if_neg h2]
 exact ⟨fun _ => by omega, fun _ => rfl⟩
theorem orderSym_neg {a b : SymD} : orderSym a b < 0 ↔ bI a.1 < bI b.1 ∨ (bI a.1 = bI b.1 ∧ a.2 < b.2) := by
 obtain ⟨a1, a2⟩ := a
 obtain ⟨b1, b2⟩ := b
 unfold orderSym bI cmpInt
 cases a1 <;> cases b1 <;> simp
 all_goals
  split
  · simp_all
  split <;> simp_all
theorem cmpK_neg {u v : KeyD} : cmpK u v < 0 ↔ KLt u v := by
 unfold cmpK KLt
 by_cases h1 : u.2.1 = v.2.1
 ·
  rw [if_pos (cmpI_zeroT.2 h1)]
  by_cases h2 : u.2.2 = v.2.2
  ·
   rw [if_pos (cmpI_zeroT.2 h2), orderSym_neg]
   omega
  rw [if_neg (fun h => h2 (cmpI_zeroT.1 h)), cmpI_negT]
  omega
 rw [if_neg (fun h => h1 (cmpI_zeroT.1 h)), cmpI_negT]
 omega
theorem bI_inj {a b : Bool} (h : bI a = bI b) : a = b := by
 cases a <;> cases b <;> simp [bI] at h ⊢
theorem KLt.total (u v : KeyD) : KLt u v ∨ u = v ∨ KLt v u := by
 obtain ⟨⟨a, b⟩, c, d⟩ := u
 obtain ⟨⟨a', b'⟩, c', d'⟩ := v
 by_cases e : bI a = bI a'
 ·
  have e2 := bI_inj e
  subst e2
  unfold KLt
  simp only [Prod.mk.injEq]
  simp only [true_and]
  omega
 unfold KLt
 simp only
 omega
set_option maxHeartbeats 1000000 in
theorem or3Int (w : World) (b : Nat) (x y z : Int) (h0 : w.cell? ⟨b, 0, none⟩ = some (.int .i64 x)) (h1 : w.cell? ⟨b, 1, none⟩ = some (.int .i64 y)) (h2 : w.cell? ⟨b, 2, none⟩ = some (.int .i64 z)) :
    Calls Tryz.prog 36 #[.slice (some ⟨b, 0, none⟩) 3 3] w fun e w' => e = .returned (.int .i64 (if x = 0 then (if y = 0 then z else y) else x)) ∧ w = w' := by
 have H0 := zh h0
 have H1 := zh h1
 have H2 := zh h2
 clear h0 h1 h2
 go_enter Tryz.func36, Tryz.ntmps36
 go_wp2_with fail
 go_loopg [5, 8] 3 (fun gk _ v8 wr => ∃ k : Nat, k ≤ 3 ∧ gk = 3 - k ∧ v8 = .int .i64 (k : Int) ∧ (1 ≤ k → x = 0) ∧ (2 ≤ k → y = 0) ∧ (3 ≤ k → z = 0) ∧ wr = w)
 case atStart => exact ⟨0, by omega, rfl, rfl, fun h => by omega, fun h => by omega, fun h => by omega, rfl⟩
 case round =>
  obtain ⟨k, hk, hgk, rfl, hx, hy, hz, rfl⟩ := hrel
  have HGK := zh hgk
  have HX := zh hx
  have HY := zh hy
  have HZ := zh hz
  clear hgk hx hy hz
  rcases (show k = 0 ∨ k = 1 ∨ k = 2 ∨ k = 3 by omega) with rfl | rfl | rfl | rfl
  ·
   have k0 := H0.out
   by_cases hx0 : x = 0
   ·
    subst hx0
    go_wp2_with fail
    go_roundg 2
    case measure => rw [HGK.out]; omega
    case rel => exact ⟨1, by omega, rfl, rfl, by simp, fun h => by omega, fun h => by omega, rfl⟩
   have i1 : (x != 0) = true := by simp [hx0]
   go_wp2_with fail
   go_ret
   exact ⟨rfl, rfl⟩
  ·
   have k1 := H1.out
   have hx0 := HX.out (by omega)
   by_cases hy0 : y = 0
   ·
    subst hy0
    go_wp2_with fail
    go_roundg 1
    case measure => rw [HGK.out]; omega
    case rel => exact ⟨2, by omega, rfl, rfl, fun _ => hx0, by simp, fun h => by omega, rfl⟩
   have i1 : (y != 0) = true := by simp [hy0]
   go_wp2_with fail
   go_ret
   exact ⟨rfl, rfl⟩
  ·
   have k2 := H2.out
   have hx0 := HX.out (by omega)
   have hy0 := HY.out (by omega)
   by_cases hz0 : z = 0
   ·
    subst hz0
    go_wp2_with fail
    go_roundg 0
    case measure => rw [HGK.out]; omega
    case rel => exact ⟨3, by omega, rfl, rfl, fun _ => hx0, fun _ => hy0, by simp, rfl⟩
   have i1 : (z != 0) = true := by simp [hz0]
   go_wp2_with fail
   go_ret
   exact ⟨rfl, rfl⟩
  have hx0 := HX.out (by omega)
  have hy0 := HY.out (by omega)
  have hz0 := HZ.out (by omega)
  go_wp2_with fail
  go_ret
  exact ⟨rfl, rfl⟩
set_option maxHeartbeats 1000000 in
theorem gramOrderX (a b : SymD) (w : World) : Calls Tryz.prog 82 #[.agg #[.bool a.1, .int .i64 a.2], .agg #[.bool b.1, .int .i64 b.2]] w fun e w' => e = .returned (.int .i64 (orderSym a b)) ∧ w' = (w.alloc (.cells #[.bool a.1, .int .i64 a.2] 62)).alloc (.cells #[.bool b.1, .int .i64 b.2] 62) := by
 obtain ⟨a1, a2⟩ := a
 obtain ⟨b1, b2⟩ := b
 dsimp only at *
 cases a1 <;> cases b1
 all_goals
  go_enter Tryz.func82, Tryz.ntmps82
  go_wp2_with (go_at_call 37; refine (cmpCompare _ _ _).mono ?_; rintro e w' ⟨rfl, rfl⟩)
  go_ret
  exact ⟨ret_int (by simp [orderSym]), rfl⟩
theorem grow5 (w : World) (a b c d e : Obj) : ∃ os, ((((((w.alloc a).alloc b).drew).alloc c).alloc d).alloc e) = Go.Sort.grow (w.drewN 1) os := by
 refine ⟨(((#[a] ++ #[b]) ++ #[c]) ++ #[d]) ++ #[e], ?_⟩
 show ((((((w.drewN 1).alloc a).alloc b).alloc c).alloc d).alloc e) = _
 rw [Go.Sort.alloc_eq_grow, Go.Sort.alloc_eq_grow, Go.Sort.alloc_eq_grow, Go.Sort.alloc_eq_grow, Go.Sort.alloc_eq_grow, Go.Sort.grow_grow, Go.Sort.grow_grow, Go.Sort.grow_grow, Go.Sort.grow_grow]
 simp
set_option linter.unusedSimpArgs false in
set_option maxRecDepth 100000 in
set_option maxHeartbeats 4000000 in
theorem cmpKey (w : World) (u v : KeyD) : Calls Tryz.prog 71 #[.agg #[.bool u.1.1, .int .i64 u.1.2, .int .i64 (u.2.1 : Int), .int .i64 (u.2.2 : Int)], .agg #[.bool v.1.1, .int .i64 v.1.2, .int .i64 (v.2.1 : Int), .int .i64 (v.2.2 : Int)]] w fun e w' => e = .returned (.int .i64 (cmpK u v)) ∧ ∃ q os, w' = Go.Sort.grow (w.drewN q) os := by
 obtain ⟨w2, hw2⟩ : ∃ w2 : World, w2 = (w.alloc (.cells #[.bool u.1.1, .int .i64 u.1.2, .int .i64 (u.2.1 : Int), .int .i64 (u.2.2 : Int)] 144)).alloc (.cells #[.bool v.1.1, .int .i64 v.1.2, .int .i64 (v.2.1 : Int), .int .i64 (v.2.2 : Int)] 144) := ⟨_, rfl⟩
 have HW2 := zh hw2
 have h1 : w2.heap[w.heap.size]? = some (.cells #[.bool u.1.1, .int .i64 u.1.2, .int .i64 (u.2.1 : Int), .int .i64 (u.2.2 : Int)] 144 (0, 0)) := by
  rw [hw2, Below.heap_alloc _ _ _ (by simp)]
  exact heap_alloc_new _ _
 have h2 : w2.heap[w.heap.size + 1]? = some (.cells #[.bool v.1.1, .int .i64 v.1.2, .int .i64 (v.2.1 : Int), .int .i64 (v.2.2 : Int)] 144 (0, 0)) := by
  rw [hw2]
  exact heap_new _ _ _ (by simp)
 have HC := zh (show ∀ x : World, Below w2.heap.size w2 x → x.cell? ⟨w.heap.size, 0, none⟩ = some (.bool u.1.1) ∧ x.cell? ⟨w.heap.size, 1, none⟩ = some (.int .i64 u.1.2) ∧ x.cell? ⟨w.heap.size, 2, none⟩ = some (.int .i64 (u.2.1 : Int)) ∧ x.cell? ⟨w.heap.size, 3, none⟩ = some (.int .i64 (u.2.2 : Int)) ∧ x.cell? ⟨w.heap.size + 1, 0, none⟩ = some (.bool v.1.1) ∧ x.cell? ⟨w.heap.size + 1, 1, none⟩ = some (.int .i64 v.1.2) ∧ x.cell? ⟨w.heap.size + 1, 2, none⟩ = some (.int .i64 (v.2.1 : Int)) ∧ x.cell? ⟨w.heap.size + 1, 3, none⟩ = some (.int .i64 (v.2.2 : Int)) from fun x hx => by
  have k1 := (hx.block _ (heap_lt h1)).trans h1
  have k2 := (hx.block _ (heap_lt h2)).trans h2
  exact ⟨by simp [World.cell?, k1], by simp [World.cell?, k1], by simp [World.cell?, k1], by simp [World.cell?, k1], by simp [World.cell?, k2], by simp [World.cell?, k2], by simp [World.cell?, k2], by simp [World.cell?, k2]⟩)
 clear hw2 h1 h2
 go_enter Tryz.func71, Tryz.ntmps71
 go_wp2_with fail
 rw [← HW2.out]
 refine wp_region_late (late := []) (S1 := fun x => x.cell? ⟨w.heap.size, 0, none⟩ = some (.bool u.1.1) ∧ x.cell? ⟨w.heap.size, 1, none⟩ = some (.int .i64 u.1.2) ∧ x.cell? ⟨w.heap.size, 2, none⟩ = some (.int .i64 (u.2.1 : Int)) ∧ x.cell? ⟨w.heap.size, 3, none⟩ = some (.int .i64 (u.2.2 : Int)) ∧ x.cell? ⟨w.heap.size + 1, 0, none⟩ = some (.bool v.1.1) ∧ x.cell? ⟨w.heap.size + 1, 1, none⟩ = some (.int .i64 v.1.2) ∧ x.cell? ⟨w.heap.size + 1, 2, none⟩ = some (.int .i64 (v.2.1 : Int)) ∧ x.cell? ⟨w.heap.size + 1, 3, none⟩ = some (.int .i64 (v.2.2 : Int))) (S := fun _ => True) (by kernel_rfl) ?_
 refine zP (i := 0) rfl (fun u hu => by obtain ⟨k0, k1, k2, k3, k4, k5, k6, k7⟩ := hu; go_simp; try rfl) (HC.out _ (Below.refl _ _).drew) zt ?_
 simp only [Act.put, zA, zB, zC, zD, zF, zG]
 refine zP (i := 1) rfl (fun u hu => by obtain ⟨k0, k1, k2, k3, k4, k5, k6, k7⟩ := hu; go_simp; try rfl) (HC.out _ (Below.refl _ _).drew) zt ?_
 simp only [Act.put, zA, zB, zC, zD, zF, zG]
 refine zP (i := 2) rfl (fun u hu => by obtain ⟨k0, k1, k2, k3, k4, k5, k6, k7⟩ := hu; go_simp; try rfl) (HC.out _ (Below.refl _ _).drew) zt ?_
 simp only [Act.put, zA, zB, zC, zD, zF, zG]
 refine zP (i := 3) rfl (fun u hu => by obtain ⟨k0, k1, k2, k3, k4, k5, k6, k7⟩ := hu; go_simp; try rfl) (HC.out _ (Below.refl _ _).drew) zt ?_
 simp only [Act.put, zA, zB, zC, zD, zF, zG]
 refine zP (i := 5) rfl (fun u hu => by obtain ⟨k0, k1, k2, k3, k4, k5, k6, k7⟩ := hu; go_simp; try rfl) (HC.out _ (Below.refl _ _).drew) zt ?_
 simp only [Act.put, zA, zB, zC, zD, zF, zG]
 refine zP (i := 6) rfl (fun u hu => by obtain ⟨k0, k1, k2, k3, k4, k5, k6, k7⟩ := hu; go_simp; try rfl) (HC.out _ (Below.refl _ _).drew) zt ?_
 simp only [Act.put, zA, zB, zC, zD, zF, zG]
 refine zP (i := 7) rfl (fun u hu => by obtain ⟨k0, k1, k2, k3, k4, k5, k6, k7⟩ := hu; go_simp; try rfl) (HC.out _ (Below.refl _ _).drew) zt ?_
 simp only [Act.put, zA, zB, zC, zD, zF, zG]
 refine zP (i := 8) rfl (fun u hu => by obtain ⟨k0, k1, k2, k3, k4, k5, k6, k7⟩ := hu; go_simp; try rfl) (HC.out _ (Below.refl _ _).drew) zt ?_
 simp only [Act.put, zA, zB, zC, zD, zF, zG]
 refine zP (i := 10) rfl (fun u hu => by obtain ⟨k0, k1, k2, k3, k4, k5, k6, k7⟩ := hu; go_simp; try rfl) (HC.out _ (Below.refl _ _).drew) zt ?_
 simp only [Act.put, zA, zB, zC, zD, zF, zG]
 refine zP (i := 11) rfl (fun u hu => by obtain ⟨k0, k1, k2, k3, k4, k5, k6, k7⟩ := hu; go_simp; try rfl) (HC.out _ (Below.refl _ _).drew) zt ?_
 simp only [Act.put, zA, zB, zC, zD, zF, zG]
 refine zP (i := 12) rfl (fun u hu => by obtain ⟨k0, k1, k2, k3, k4, k5, k6, k7⟩ := hu; go_simp; try rfl) (HC.out _ (Below.refl _ _).drew) zt ?_
 simp only [Act.put, zA, zB, zC, zD, zF, zG]
 refine zP (i := 13) rfl (fun u hu => by obtain ⟨k0, k1, k2, k3, k4, k5, k6, k7⟩ := hu; go_simp; try rfl) (HC.out _ (Below.refl _ _).drew) zt ?_
 simp only [Act.put, zA, zB, zC, zD, zF, zG]
 refine zR 4 rfl (fun K hK => ?_)
 go_simp
 refine (cmpIntC _ _ _).mono ?_
 rintro e _ ⟨rfl, rfl⟩
 refine hK.out _ _ (HC.out _ (Below.refl _ _).drew) zt ?_
 clear hK K
 refine zR 9 rfl (fun K hK => ?_)
 go_simp
 refine (cmpIntC _ _ _).mono ?_
 rintro e _ ⟨rfl, rfl⟩
 refine hK.out _ _ (HC.out _ (Below.refl _ _).drew) zt ?_
 clear hK K
 refine zR 14 rfl (fun K hK => ?_)
 go_simp
 refine (gramOrderX u.1 v.1 _).mono ?_
 rintro e _ ⟨rfl, rfl⟩
 refine hK.out _ _ (HC.out _ (((Below.refl _ _).drew.alloc (Nat.le_refl _) _).alloc (by show w2.heap.size ≤ (World.alloc _ _).heap.size; rw [World.size_alloc]; exact Nat.le_succ _) _)) zt ?_
 clear hK K
 refine zR 15 rfl (fun K hK => ?_)
 go_simp
 refine hK.out _ _ (HC.out _ ((((Below.refl _ _).drew.alloc (Nat.le_refl _) _).alloc (by show w2.heap.size ≤ (World.alloc _ _).heap.size; rw [World.size_alloc]; exact Nat.le_succ _) _).alloc (by show w2.heap.size ≤ (World.alloc (World.alloc _ _) _).heap.size; rw [World.size_alloc, World.size_alloc]; exact Nat.le_succ_of_le (Nat.le_succ _)) _)) zt ?_
 clear hK K
 refine zR 16 rfl (fun K hK => ?_)
 go_simp
 obtain ⟨x, hx⟩ := zE (cmpI (u.2.1 : Int) (v.2.1 : Int))
 obtain ⟨y, hy⟩ := zE (cmpI (u.2.2 : Int) (v.2.2 : Int))
 obtain ⟨z, hz⟩ := zE (orderSym u.1 v.1)
 have HE := zh (show (if x = 0 then (if y = 0 then z else y) else x) = cmpK u v by unfold cmpK; rw [hx, hy, hz])
 rw [← hx, ← hy, ← hz]
 refine (or3Int _ _ x y z (by show (World.alloc _ _).cell? _ = _; rw [World.cell?_alloc_at _ _ _ _ (by simp)]; rfl) (by show (World.alloc _ _).cell? _ = _; rw [World.cell?_alloc_at _ _ _ _ (by simp)]; rfl) (by show (World.alloc _ _).cell? _ = _; rw [World.cell?_alloc_at _ _ _ _ (by simp)]; rfl)).mono ?_
 rintro e _ ⟨rfl, rfl⟩
 rw [HE.out]
 refine hK.out _ _ (HC.out _ ((((Below.refl _ _).drew.alloc (Nat.le_refl _) _).alloc (by show w2.heap.size ≤ (World.alloc _ _).heap.size; rw [World.size_alloc]; exact Nat.le_succ _) _).alloc (by show w2.heap.size ≤ (World.alloc (World.alloc _ _) _).heap.size; rw [World.size_alloc, World.size_alloc]; exact Nat.le_succ_of_le (Nat.le_succ _)) _)) zt ?_
 clear hK K
 refine zP (i := 17) rfl (fun u hu => by obtain ⟨k0, k1, k2, k3, k4, k5, k6, k7⟩ := hu; go_simp; try rfl) (HC.out _ ((((Below.refl _ _).drew.alloc (Nat.le_refl _) _).alloc (by show w2.heap.size ≤ (World.alloc _ _).heap.size; rw [World.size_alloc]; exact Nat.le_succ _) _).alloc (by show w2.heap.size ≤ (World.alloc (World.alloc _ _) _).heap.size; rw [World.size_alloc, World.size_alloc]; exact Nat.le_succ_of_le (Nat.le_succ _)) _)) zt ?_
 simp only [Act.put, zA, zB, zC, zD, zF, zG]
 refine wpAnyL_done (by kernel_rfl) ?_ _
 go_wp2_with fail
 go_ret
 refine ⟨rfl, 1, ?_⟩
 rw [HW2.out]
 exact grow5 w _ _ _ _ _
end Go.Proofs.YtjnbjdbndbbanaaGreatDoor
