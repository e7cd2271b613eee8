/- GramHas -/
import Derived.BigQuiet
import Derived.Deep.CutBlock
import Derived.Deep.CutRange
import Derived.Deep.LoopGhost
import Derived.Deep.QuietTactic
import Derived.Laws.StructEq
import Derived.Test.YtimklgbljjamkaaDoorCs04
import Derived.Test.YtimklgbljjamkaaDoorCs05
import Derived.Test.YtimklgbljjamkaaDoorCs06
namespace Go.Proofs.YtimklgbljjamkaaDoor
open Go.RowKit
theorem tSyms : SlType Tryd.prog 59 63 2 16 (.agg #[.bool false, .int .i64 0]) := ⟨by kernel_rfl, by kernel_rfl, by kernel_rfl, rfl, by decide⟩
theorem tRules : SlType Tryd.prog 23 61 2 32 (.agg #[.int .i64 0, .slice none 0 0]) := ⟨by kernel_rfl, by kernel_rfl, by kernel_rfl, rfl, by decide⟩
theorem eqFields2 {P : Program} {fs : List Field} {t0 t1 : TypeId} (hf : fs.map (fun f => (f.name, f.type, f.offset)) = [("Term", t0, 0), ("N", t1, 1)]) (h0 : P.underlying t0 = some .bool) (h1 : P.underlying t1 = some (.int .i64)) (g0 : ∀ w, (isAgg t0).run P w = .ok false w) (g1 : ∀ w, (isAgg t1).run P w = .ok false w)
    (d : Nat) (a c : Bool) (b e : Int) (w : World) : (Op.eqFields (d + 1) #[.bool a, .int .i64 b] #[.bool c, .int .i64 e] fs).run P w = .ok (a == c && b == e) w := by
 have hl : fs.length = 2 := by simpa using congrArg List.length hf
 match fs, hl, hf with
 | [f0, f1], _, hf =>
  simp only [List.map_cons, List.map_nil, List.cons.injEq, Prod.mk.injEq, and_true] at hf
  obtain ⟨⟨n0, rfl, o0⟩, n1, rfl, o1⟩ := hf
  have q0 := fun w x y => run_equalIn_bool' (P := P) w d f0.type x y h0
  have q1 := fun w x y => run_equalIn_int (P := P) w d f1.type .i64 .i64 x y h1
  cases hac : (a == c) <;> cases hbe : (b == e) <;> simp [Op.eqFields, n0, n1, o0, o1, part, g0, g1, q0, q1, hac, hbe]
theorem eqSym (a c : Bool) (b d : Int) (w : World) : (binOp .eql 63 (.agg #[.bool a, .int .i64 b]) (.agg #[.bool c, .int .i64 d])).run Tryd.prog w = .ok (.bool (a == c && b == d)) w := by
 have h1 : Tryd.prog.underlying 63 = some (.struct (Tryd.prog.fieldsOf 63)) := by kernel_rfl
 have h2 : Tryd.prog.stoodInHeld 63 = false := by kernel_rfl
 rw [run_eql_struct, run_equalIn_agg w 9999 _ _ _ h1 h2, eqFields2 (t0 := 4) (t1 := 3) (by kernel_rfl) (by kernel_rfl) (by kernel_rfl) (fun _ => by kernel_rfl) (fun _ => by kernel_rfl) 9998 a c b d w]
 rfl
theorem rule_at {w : World} {S : Nat → Prop} {A : Option Addr} {n c k : Nat} {rules : List RuleD} (h : Sl RRule w S A n c rules) (hk : k < n) :
    ∃ b off A' m c' r, A = some ⟨b, off, none⟩ ∧ S b ∧ b < w.heap.size ∧ w.cell? ⟨b, off + k * 2, none⟩ = some (.int .i64 r.1) ∧ w.cell? ⟨b, off + k * 2 + 1, none⟩ = some (.slice A' m c') ∧ rules[k]? = some r ∧ Sl RSym w S A' m c' r.2 := by
 obtain ⟨b, off, u, v, r, e, hS, hx, hok, h1, h2⟩ := h.at2 rfl hk
 obtain ⟨A', m, c', e2, hs⟩ := RRule.cells.1 hok
 simp only [List.cons.injEq, and_true] at e2
 obtain ⟨rfl, rfl⟩ := e2
 exact ⟨b, off, A', m, c', r, e, hS, cell_lt h1, h1, by rw [Nat.add_assoc]; exact h2, hx, hs⟩
theorem sym_at {w : World} {S : Nat → Prop} {A : Option Addr} {n c k : Nat} {l : List SymD} (h : Sl RSym w S A n c l) (hk : k < n) :
    ∃ b off s, A = some ⟨b, off, none⟩ ∧ S b ∧ b < w.heap.size ∧ w.cell? ⟨b, off + k * 2, none⟩ = some (.bool s.1) ∧ w.cell? ⟨b, off + k * 2 + 1, none⟩ = some (.int .i64 s.2) ∧ l[k]? = some s := by
 obtain ⟨b, off, u, v, s, e, hS, hx, hok, h1, h2⟩ := h.at2 rfl hk
 have e2 := RSym.cells.1 hok
 simp only [List.cons.injEq, and_true] at e2
 obtain ⟨rfl, rfl⟩ := e2
 exact ⟨b, off, s, e, hS, cell_lt h1, h1, by rw [Nat.add_assoc]; exact h2, hx⟩
theorem belowN {B : Nat} {a w : World} (h : Below B a w) (n : Nat) : Below B a (w.drewN n) := ⟨h.os, h.tape, h.output, h.size, h.block⟩
theorem take_eq_step {α : Type} {l m : List α} {j : Nat} {x y : α} (hx : l[j]? = some x) (hy : m[j]? = some y) : l.take (j + 1) = m.take (j + 1) ↔ l.take j = m.take j ∧ x = y := by
 obtain ⟨h1, rfl⟩ := List.getElem?_eq_some_iff.1 hx
 obtain ⟨h2, rfl⟩ := List.getElem?_eq_some_iff.1 hy
 rw [List.take_succ_eq_append_getElem h1, List.take_succ_eq_append_getElem h2]
 constructor
 ·
  intro h
  have := List.append_inj h (by simp; omega)
  simpa using this
 ·
  rintro ⟨h1, h2⟩
  rw [h1, h2]
set_option maxRecDepth 100000 in
set_option maxHeartbeats 2000000 in
theorem makeHas (w : World) (S S' : Nat → Prop) (A : Option Addr) (n c : Nat) (rules : List RuleD) (hr : Sl RRule w S A n c rules) (hn : n ≤ 1000) (A' : Option Addr) (m c' : Nat) (r : RuleD) (hs : Sl RSym w S' A' m c' r.2) (hm : m ≤ 1000) :
    Calls Tryd.prog 20 #[.slice A n c, .agg #[.int .i64 r.1, .slice A' m c']] w fun e w' => e = .returned (.bool (decide (r ∈ rules))) ∧ Below w.heap.size w w' := by
 have HL := Lib.hid hr.len
 have HM := Lib.hid hs.len
 have HR := Lib.hid hr
 have HS := Lib.hid hs
 clear hr hs
 go_enter Tryd.func20, Tryd.ntmps20
 go_wp2_with fail
 go_loopg [11] n (fun gk i wr => ∃ k : Nat, k ≤ n ∧ gk = n - k ∧ i = .int .i64 k ∧ (∀ j x, j < k → rules[j]? = some x → x ≠ r) ∧ wr.heap[w.heap.size]? = some (.cells #[.int .i64 r.1, .slice A' m c'] 61 (0, 0)) ∧ Below w.heap.size w wr)
 case atStart => exact ⟨0, Nat.zero_le _, rfl, rfl, (fun j x hj _ => absurd hj (by omega)), heap_alloc_new w _, (Below.refl _ _).alloc (Nat.le_refl _) _⟩
 case round =>
  obtain ⟨k, hk, hgk, rfl, hno, hbx, hb⟩ := hrel
  have HGK := Lib.hid hgk
  have HNO := Lib.hid hno
  have HBX := Lib.hid hbx
  have HB := Lib.hid hb
  have hc0 : wr.cell? ⟨w.heap.size, 0, none⟩ = some (.int .i64 r.1) := by simp [World.cell?, hbx]
  have hc1 : wr.cell? ⟨w.heap.size, 1, none⟩ = some (.slice A' m c') := by simp [World.cell?, hbx]
  have hl : w.heap.size < wr.heap.size := cell_lt hc0
  clear hgk hno hb hbx
  by_cases hlt : k < n
  ·
   obtain ⟨b, off, A2, m2, c2, x, rfl, _, hbw, hx1, hx2, hx, hxs⟩ := rule_at HR.out hlt
   have hx1' : wr.cell? ⟨b, off + k * 2, none⟩ = some (.int .i64 x.1) := Kept.below (S := fun _ => True) HB.out _ _ trivial hx1
   have hx2' : wr.cell? ⟨b, off + k * 2 + 1, none⟩ = some (.slice A2 m2 c2) := Kept.below (S := fun _ => True) HB.out _ _ trivial hx2
   have HX := Lib.hid hx
   have HXS := Lib.hid hxs
   have HM2 := Lib.hid hxs.len
   clear hx hxs hx1 hx2
   by_cases e1 : x.1 = r.1
   ·
    by_cases e2 : m2 = m
    ·
     subst e2
     have he1 : (x.1 != r.1) = false := by simp [e1]
     have he2 : ((m2 : Int) != (m2 : Int)) = false := by simp
     have E1 := Lib.hid e1
     obtain ⟨wo, rfl⟩ : ∃ wo : World, wo = wr := ⟨_, rfl⟩
     clear e1
     go_wp2_with fail
     clear hx1' hx2' hc0 hc1 he1
     have hst : (wo.alloc (.cells #[.int .i64 x.1, .slice A2 m2 c2] 61)).heap[w.heap.size]? = some (.cells #[.int .i64 r.1, .slice A' m2 c'] 61 (0, 0)) := (Below.heap_alloc _ _ _ hl).trans HBX.out
     have HST := Lib.hid hst
     clear hst
     go_loopg [7, 32] m2 (fun gk t i wr => ∃ j : Nat, j ≤ m2 ∧ gk = m2 - j ∧ i = .int .i64 j ∧ t = .bool (decide (x.2.take j = r.2.take j)) ∧ wr.heap[w.heap.size]? = some (.cells #[.int .i64 r.1, .slice A' m2 c'] 61 (0, 0)) ∧ wr.heap[wo.heap.size]? = some (.cells #[.int .i64 x.1, .slice A2 m2 c2] 61 (0, 0)) ∧ Below w.heap.size w wr)
     case atStart => exact ⟨0, Nat.zero_le _, rfl, rfl, by simp, HST.out, heap_alloc_new wo _, HB.out.alloc HB.out.size _⟩
     case round =>
      obtain ⟨j, hj, hgj, rfl, rfl, hby, hbz, hbi⟩ := hrel
      have HGJ := Lib.hid hgj
      have HBY := Lib.hid hby
      have HBZ := Lib.hid hbz
      have HBI := Lib.hid hbi
      have hd1 : wr.cell? ⟨w.heap.size, 1, none⟩ = some (.slice A' m2 c') := by simp [World.cell?, hby]
      have hd2 : wr.cell? ⟨wo.heap.size, 1, none⟩ = some (.slice A2 m2 c2) := by simp [World.cell?, hbz]
      clear hgj hby hbz hbi
      by_cases hjl : j < m2
      ·
       obtain ⟨b1, o1, s1, rfl, _, _, hs1, hs2, hs⟩ := sym_at HXS.out hjl
       obtain ⟨b2, o2, s2, rfl, _, _, ht1, ht2, ht⟩ := sym_at HS.out hjl
       replace hs1 := Kept.below (S := fun _ => True) HBI.out _ _ trivial hs1
       replace hs2 := Kept.below (S := fun _ => True) HBI.out _ _ trivial hs2
       replace ht1 := Kept.below (S := fun _ => True) HBI.out _ _ trivial ht1
       replace ht2 := Kept.below (S := fun _ => True) HBI.out _ _ trivial ht2
       have hstep := take_eq_step hs ht
       have HSTEP := Lib.hid hstep
       have hj1 : (0 : Int) ≤ (j : Int) := by omega
       have hj2 : (j : Int) < (m2 : Int) := by omega
       clear hs ht hstep
       by_cases hsame : x.2.take j = r.2.take j
       ·
        have hdec : decide (x.2.take j = r.2.take j) = true := by simp [hsame]
        have HSAME := Lib.hid hsame
        clear hsame
        rw [hdec]
        clear hdec
        obtain ⟨s11, s12⟩ := s1
        obtain ⟨s21, s22⟩ := s2
        dsimp only at *
        have heq := eqSym s11 s21 s12 s22
        go_wp2_with fail
        go_quiet (fail)
        go_wp2_with fail
        go_roundg (m2 - (j + 1))
        case measure => rw [HGJ.out]; omega
        case rel =>
         refine ⟨j + 1, by omega, rfl, by go_num, ?_, HBY.out, HBZ.out, belowN HBI.out _⟩
         congr 1
         rw [Bool.eq_iff_iff]
         simp only [decide_eq_true_eq, HSTEP.out, HSAME.out, true_and, Prod.mk.injEq, Bool.and_eq_true, beq_iff_eq]
       ·
        have hdec : decide (x.2.take j = r.2.take j) = false := by simp [hsame]
        have HSAME := Lib.hid hsame
        clear hsame
        rw [hdec]
        clear hdec
        go_wp2_with fail
        go_quiet (fail)
        go_wp2_with fail
        go_roundg (m2 - (j + 1))
        case measure => rw [HGJ.out]; omega
        case rel =>
         refine ⟨j + 1, by omega, rfl, by go_num, ?_, HBY.out, HBZ.out, belowN HBI.out _⟩
         congr 1
         symm
         rw [decide_eq_false_iff_not, HSTEP.out]
         exact fun h => HSAME.out h.1
      ·
       obtain rfl : j = m2 := by omega
       rw [List.take_of_length_le (by rw [← HM2.out]; omega), List.take_of_length_le (by rw [← HM.out]; omega)]
       by_cases hsame : x.2 = r.2
       ·
        have hxr : r ∈ rules := by
         have : x = r := Prod.ext E1.out hsame
         rw [← this]
         exact List.mem_of_getElem? HX.out
        have HXR := Lib.hid hxr
        have hdec : decide (x.2 = r.2) = true := by simp [hsame]
        clear hsame hxr
        rw [hdec]
        clear hdec
        go_wp2_with fail
        go_ret
        exact ⟨ret_bool (by simp [HXR.out]), HBI.out⟩
       ·
        have hdec : decide (x.2 = r.2) = false := by simp [hsame]
        have HSAME := Lib.hid hsame
        clear hsame
        rw [hdec]
        clear hdec
        go_wp2_with fail
        go_roundg (n - (k + 1))
        case measure => rw [HGK.out]; omega
        case rel =>
         refine ⟨k + 1, by omega, rfl, by go_num, fun i y hi hy => ?_, HBY.out, HBI.out⟩
         rcases Nat.lt_succ_iff_lt_or_eq.1 hi with h | rfl
         ·
          exact HNO.out i y h hy
         ·
          rw [HX.out] at hy
          injection hy with hy
          subst hy
          exact fun e => HSAME.out (by rw [e])
    ·
     have he1 : (x.1 != r.1) = false := by simp [e1]
     have he2 : ((m2 : Int) != (m : Int)) = true := by simp; omega
     have E2 := Lib.hid e2
     clear e1 e2
     go_wp2_with fail
     go_roundg (n - (k + 1))
     case measure => rw [HGK.out]; omega
     case rel =>
      refine ⟨k + 1, by omega, rfl, by go_num, fun i y hi hy => ?_, (Below.heap_alloc _ _ _ hl).trans HBX.out, HB.out.alloc HB.out.size _⟩
      rcases Nat.lt_succ_iff_lt_or_eq.1 hi with h | rfl
      ·
       exact HNO.out i y h hy
      ·
       rw [HX.out] at hy
       injection hy with hy
       subst hy
       exact fun e => E2.out (by rw [HM2.out, HM.out, e])
   ·
    have he1 : (x.1 != r.1) = true := by simp [e1]
    have E1 := Lib.hid e1
    clear e1
    go_wp2_with fail
    go_roundg (n - (k + 1))
    case measure => rw [HGK.out]; omega
    case rel =>
     refine ⟨k + 1, by omega, rfl, by go_num, fun i y hi hy => ?_, (Below.heap_alloc _ _ _ hl).trans HBX.out, HB.out.alloc HB.out.size _⟩
     rcases Nat.lt_succ_iff_lt_or_eq.1 hi with h | rfl
     ·
      exact HNO.out i y h hy
     ·
      rw [HX.out] at hy
      injection hy with hy
      subst hy
      exact fun e => E1.out (by rw [e])
  ·
   obtain rfl : k = n := by omega
   go_wp2_with fail
   go_ret
   refine ⟨ret_bool ?_, HB.out⟩
   symm
   rw [decide_eq_false_iff_not]
   intro hm
   obtain ⟨j, hj⟩ := List.getElem?_of_mem hm
   exact HNO.out j r (by have := (List.getElem?_eq_some_iff.1 hj).1; have := HL.out; omega) hj rfl
end Go.Proofs.YtimklgbljjamkaaDoor
