/- GramHas Late -/
import Derived.BigQuiet
import Derived.Deep.CutBlock
import Derived.Deep.RegionHeld
import Derived.Test.YtjnbjdbndbbanaaGreatDoorTc03
namespace Go.Proofs.YtjnbjdbndbbanaaGreatDoor
open Go.RowKit
theorem tSyms : SlType Tryz.prog 58 62 2 16 (.agg #[.bool false, .int .i64 0]) := ⟨by kernel_rfl, by kernel_rfl, by kernel_rfl, rfl, by decide⟩
theorem tRules : SlType Tryz.prog 23 60 2 32 (.agg #[.int .i64 0, .slice none 0 0]) := ⟨by kernel_rfl, by kernel_rfl, by kernel_rfl, rfl, by decide⟩
theorem eqFields2 {P : Program} {fs : List Field} {t0 t1 : TypeId} (hf : fs.map (fun f => (f.name, f.type, f.offset)) = [("Term", t0, 0), ("N", t1, 1)]) (h0 : P.underlying t0 = some .bool) (h1 : P.underlying t1 = some (.int .i64)) (g0 : ∀ w, (isAgg t0).run P w = .ok false w) (g1 : ∀ w, (isAgg t1).run P w = .ok false w)
    (d : Nat) (a c : Bool) (b e : Int) (w : World) : (Op.eqFields (d + 1) #[.bool a, .int .i64 b] #[.bool c, .int .i64 e] fs).run P w = .ok (a == c && b == e) w := by
 have hl : fs.length = 2 := by simpa using congrArg List.length hf
 match fs, hl, hf with
 | [f0, f1], _, hf =>
  simp only [List.map_cons, List.map_nil, List.cons.injEq, Prod.mk.injEq, and_true] at hf
  obtain ⟨⟨n0, rfl, o0⟩, n1, rfl, o1⟩ := hf
  have q0 := fun w x y => run_equalIn_bool' (P := P) w d f0.type x y h0
  have q1 := fun w x y => run_equalIn_int (P := P) w d f1.type .i64 .i64 x y h1
  cases hac : (a == c) <;> cases hbe : (b == e) <;> simp [Op.eqFields, n0, n1, o0, o1, part, g0, g1, q0, q1, hac, hbe]
theorem eqSym (a c : Bool) (b d : Int) (w : World) : (binOp .eql 62 (.agg #[.bool a, .int .i64 b]) (.agg #[.bool c, .int .i64 d])).run Tryz.prog w = .ok (.bool (a == c && b == d)) w := by
 have h1 : Tryz.prog.underlying 62 = some (.struct (Tryz.prog.fieldsOf 62)) := by kernel_rfl
 have h2 : Tryz.prog.stoodInHeld 62 = false := by kernel_rfl
 rw [run_eql_struct, run_equalIn_agg w 9999 _ _ _ h1 h2, eqFields2 (t0 := 4) (t1 := 3) (by kernel_rfl) (by kernel_rfl) (by kernel_rfl) (fun _ => by kernel_rfl) (fun _ => by kernel_rfl) 9998 a c b d w]
 rfl
theorem rule_at {w : World} {S : Nat → Prop} {A : Option Addr} {n c k : Nat} {rules : List RuleD} (h : Sl RRule w S A n c rules) (hk : k < n) :
    ∃ b off A' m c' r, A = some ⟨b, off, none⟩ ∧ S b ∧ b < w.heap.size ∧ w.cell? ⟨b, off + k * 2, none⟩ = some (.int .i64 r.1) ∧ w.cell? ⟨b, off + k * 2 + 1, none⟩ = some (.slice A' m c') ∧ rules[k]? = some r ∧ Sl RSym w S A' m c' r.2 := by
 obtain ⟨b, off, u, v, r, e, hS, hx, hok, h1, h2⟩ := h.at2 rfl hk
 obtain ⟨A', m, c', e2, hs⟩ := RRule.cells.1 hok
 simp only [List.cons.injEq, and_true] at e2
 obtain ⟨rfl, rfl⟩ := e2
 exact ⟨b, off, A', m, c', r, e, hS, cell_lt h1, h1, by rw [Nat.add_assoc]; exact h2, hx, hs⟩
theorem sym_at {w : World} {S : Nat → Prop} {A : Option Addr} {n c k : Nat} {l : List SymD} (h : Sl RSym w S A n c l) (hk : k < n) :
    ∃ b off s, A = some ⟨b, off, none⟩ ∧ S b ∧ b < w.heap.size ∧ w.cell? ⟨b, off + k * 2, none⟩ = some (.bool s.1) ∧ w.cell? ⟨b, off + k * 2 + 1, none⟩ = some (.int .i64 s.2) ∧ l[k]? = some s := by
 obtain ⟨b, off, u, v, s, e, hS, hx, hok, h1, h2⟩ := h.at2 rfl hk
 have e2 := RSym.cells.1 hok
 simp only [List.cons.injEq, and_true] at e2
 obtain ⟨rfl, rfl⟩ := e2
 exact ⟨b, off, s, e, hS, cell_lt h1, h1, by rw [Nat.add_assoc]; exact h2, hx⟩
theorem belowN {B : Nat} {a w : World} (h : Below B a w) (n : Nat) : Below B a (w.drewN n) := ⟨h.os, h.tape, h.output, h.size, h.block⟩
theorem take_eq_step {α : Type} {l m : List α} {j : Nat} {x y : α} (hx : l[j]? = some x) (hy : m[j]? = some y) : l.take (j + 1) = m.take (j + 1) ↔ l.take j = m.take j ∧ x = y := by
 obtain ⟨h1, rfl⟩ := List.getElem?_eq_some_iff.1 hx
 obtain ⟨h2, rfl⟩ := List.getElem?_eq_some_iff.1 hy
 rw [List.take_succ_eq_append_getElem h1, List.take_succ_eq_append_getElem h2]
 constructor
 ·
  intro h
  have := List.append_inj h (by simp; omega)
  simpa using this
 rintro ⟨h1, h2⟩
 rw [h1, h2]
set_option maxRecDepth 100000 in
set_option maxHeartbeats 2000000 in
theorem makeHas (w : World) (S S' : Nat → Prop) (A : Option Addr) (n c : Nat) (rules : List RuleD) (hr : Sl RRule w S A n c rules) (hn : n ≤ 1000) (A' : Option Addr) (m c' : Nat) (r : RuleD) (hs : Sl RSym w S' A' m c' r.2) (hm : m ≤ 1000) :
    Calls Tryz.prog 19 #[.slice A n c, .agg #[.int .i64 r.1, .slice A' m c']] w fun e w' => e = .returned (.bool (decide (r ∈ rules))) ∧ Below w.heap.size w w' := by
 have HL := Lib.hid hr.len
 have HM := Lib.hid hs.len
 have HR := Lib.hid hr
 have HS := Lib.hid hs
 clear hr hs
 go_enter Tryz.func19, Tryz.ntmps19
 go_wp2_with fail
 go_loopg [11] n (fun gk i wr => ∃ k : Nat, k ≤ n ∧ gk = n - k ∧ i = .int .i64 k ∧ (∀ j x, j < k → rules[j]? = some x → x ≠ r) ∧ wr.heap[w.heap.size]? = some (.cells #[.int .i64 r.1, .slice A' m c'] 60 (0, 0)) ∧ Below w.heap.size w wr)
 case atStart => exact ⟨0, Nat.zero_le _, rfl, rfl, (fun j x hj _ => absurd hj (by omega)), heap_alloc_new w _, (Below.refl _ _).alloc (Nat.le_refl _) _⟩
 case round =>
  obtain ⟨k, hk, hgk, rfl, hno, hbx, hb⟩ := hrel
  have HGK := Lib.hid hgk
  have HNO := Lib.hid hno
  have HBX := Lib.hid hbx
  have HB := Lib.hid hb
  have hc0 : wr.cell? ⟨w.heap.size, 0, none⟩ = some (.int .i64 r.1) := by simp [World.cell?, hbx]
  have hc1 : wr.cell? ⟨w.heap.size, 1, none⟩ = some (.slice A' m c') := by simp [World.cell?, hbx]
  have hl : w.heap.size < wr.heap.size := cell_lt hc0
  clear hgk hno hb hbx
  by_cases hlt : k < n
  ·
   obtain ⟨b, off, A2, m2, c2, x, rfl, _, hbw, hx1, hx2, hx, hxs⟩ := rule_at HR.out hlt
   have hx1' : wr.cell? ⟨b, off + k * 2, none⟩ = some (.int .i64 x.1) := Kept.below (S := fun _ => True) HB.out _ _ trivial hx1
   have hx2' : wr.cell? ⟨b, off + k * 2 + 1, none⟩ = some (.slice A2 m2 c2) := Kept.below (S := fun _ => True) HB.out _ _ trivial hx2
   have HX := Lib.hid hx
   have HXS := Lib.hid hxs
   have HM2 := Lib.hid hxs.len
   clear hx hxs hx1 hx2
   by_cases e1 : x.1 = r.1
   ·
    by_cases e2 : m2 = m
    ·
     subst e2
     have he1 : (x.1 != r.1) = false := by simp [e1]
     have he2 : ((m2 : Int) != (m2 : Int)) = false := by simp
     have E1 := Lib.hid e1
     obtain ⟨wo, rfl⟩ : ∃ wo : World, wo = wr := ⟨_, rfl⟩
     clear e1
     go_wp2_with fail
     clear hx1' hx2' hc0 hc1 he1
     have hst : (wo.alloc (.cells #[.int .i64 x.1, .slice A2 m2 c2] 60)).heap[w.heap.size]? = some (.cells #[.int .i64 r.1, .slice A' m2 c'] 60 (0, 0)) := (Below.heap_alloc _ _ _ hl).trans HBX.out
     have HST := Lib.hid hst
     clear hst
     go_loopg [7, 32] m2 (fun gk t i wr => ∃ j : Nat, j ≤ m2 ∧ gk = m2 - j ∧ i = .int .i64 j ∧ t = .bool (decide (x.2.take j = r.2.take j)) ∧ wr.heap[w.heap.size]? = some (.cells #[.int .i64 r.1, .slice A' m2 c'] 60 (0, 0)) ∧ wr.heap[wo.heap.size]? = some (.cells #[.int .i64 x.1, .slice A2 m2 c2] 60 (0, 0)) ∧ Below w.heap.size w wr)
     case atStart => exact ⟨0, Nat.zero_le _, rfl, rfl, by simp, HST.out, heap_alloc_new wo _, HB.out.alloc HB.out.size _⟩
     case round =>
      obtain ⟨j, hj, hgj, rfl, rfl, hby, hbz, hbi⟩ := hrel
      have HGJ := Lib.hid hgj
      have HBY := Lib.hid hby
      have HBZ := Lib.hid hbz
      have HBI := Lib.hid hbi
      have hd1 : wr.cell? ⟨w.heap.size, 1, none⟩ = some (.slice A' m2 c') := by simp [World.cell?, hby]
      have hd2 : wr.cell? ⟨wo.heap.size, 1, none⟩ = some (.slice A2 m2 c2) := by simp [World.cell?, hbz]
      clear hgj hby hbz hbi
      by_cases hjl : j < m2
      ·
       obtain ⟨b1, o1, s1, rfl, _, _, hs1, hs2, hs⟩ := sym_at HXS.out hjl
       obtain ⟨b2, o2, s2, rfl, _, _, ht1, ht2, ht⟩ := sym_at HS.out hjl
       replace hs1 := Kept.below (S := fun _ => True) HBI.out _ _ trivial hs1
       replace hs2 := Kept.below (S := fun _ => True) HBI.out _ _ trivial hs2
       replace ht1 := Kept.below (S := fun _ => True) HBI.out _ _ trivial ht1
       replace ht2 := Kept.below (S := fun _ => True) HBI.out _ _ trivial ht2
       have hstep := take_eq_step hs ht
       have HSTEP := Lib.hid hstep
       have hj1 : (0 : Int) ≤ (j : Int) := by omega
       have hj2 : (j : Int) < (m2 : Int) := by omega
       clear hs ht hstep
       by_cases hsame : x.2.take j = r.2.take j
       ·
        have hdec : decide (x.2.take j = r.2.take j) = true := by simp [hsame]
        have HSAME := Lib.hid hsame
        clear hsame
        rw [hdec]
        clear hdec
        obtain ⟨s11, s12⟩ := s1
        obtain ⟨s21, s22⟩ := s2
        dsimp only at *
        have heq := eqSym s11 s21 s12 s22
        go_wp2_with fail
        go_quiet (fail)
        go_wp2_with fail
        go_roundg (m2 - (j + 1))
        case measure => rw [HGJ.out]; omega
        case rel =>
         refine ⟨j + 1, by omega, rfl, by go_num, ?_, HBY.out, HBZ.out, belowN HBI.out _⟩
         congr 1
         rw [Bool.eq_iff_iff]
         simp only [decide_eq_true_eq, HSTEP.out, HSAME.out, true_and, Prod.mk.injEq, Bool.and_eq_true, beq_iff_eq]
       have hdec : decide (x.2.take j = r.2.take j) = false := by simp [hsame]
       have HSAME := Lib.hid hsame
       clear hsame
       rw [hdec]
       clear hdec
       go_wp2_with fail
       go_quiet (fail)
       go_wp2_with fail
       go_roundg (m2 - (j + 1))
       case measure => rw [HGJ.out]; omega
       case rel =>
        refine ⟨j + 1, by omega, rfl, by go_num, ?_, HBY.out, HBZ.out, belowN HBI.out _⟩
        congr 1
        symm
        rw [decide_eq_false_iff_not, HSTEP.out]
        exact fun h => HSAME.out h.1
      obtain rfl : j = m2 := by omega
      rw [List.take_of_length_le (by rw [← HM2.out]; omega), List.take_of_length_le (by rw [← HM.out]; omega)]
      by_cases hsame : x.2 = r.2
      ·
       have hxr : r ∈ rules := by
        have : x = r := Prod.ext E1.out hsame
        rw [← this]
        exact List.mem_of_getElem? HX.out
       have HXR := Lib.hid hxr
       have hdec : decide (x.2 = r.2) = true := by simp [hsame]
       clear hsame hxr
       rw [hdec]
       clear hdec
       go_wp2_with fail
       go_ret
       exact ⟨ret_bool (by simp [HXR.out]), HBI.out⟩
      have hdec : decide (x.2 = r.2) = false := by simp [hsame]
      have HSAME := Lib.hid hsame
      clear hsame
      rw [hdec]
      clear hdec
      go_wp2_with fail
      go_roundg (n - (k + 1))
      case measure => rw [HGK.out]; omega
      case rel =>
       refine ⟨k + 1, by omega, rfl, by go_num, fun i y hi hy => ?_, HBY.out, HBI.out⟩
       rcases Nat.lt_succ_iff_lt_or_eq.1 hi with h | rfl
       · exact HNO.out i y h hy
       rw [HX.out] at hy
       injection hy with hy
       subst hy
       exact fun e => HSAME.out (by rw [e])
    have he1 : (x.1 != r.1) = false := by simp [e1]
    have he2 : ((m2 : Int) != (m : Int)) = true := by simp; omega
    have E2 := Lib.hid e2
    clear e1 e2
    go_wp2_with fail
    go_roundg (n - (k + 1))
    case measure => rw [HGK.out]; omega
    case rel =>
     refine ⟨k + 1, by omega, rfl, by go_num, fun i y hi hy => ?_, (Below.heap_alloc _ _ _ hl).trans HBX.out, HB.out.alloc HB.out.size _⟩
     rcases Nat.lt_succ_iff_lt_or_eq.1 hi with h | rfl
     · exact HNO.out i y h hy
     rw [HX.out] at hy
     injection hy with hy
     subst hy
     exact fun e => E2.out (by rw [HM2.out, HM.out, e])
   have he1 : (x.1 != r.1) = true := by simp [e1]
   have E1 := Lib.hid e1
   clear e1
   go_wp2_with fail
   go_roundg (n - (k + 1))
   case measure => rw [HGK.out]; omega
   case rel =>
    refine ⟨k + 1, by omega, rfl, by go_num, fun i y hi hy => ?_, (Below.heap_alloc _ _ _ hl).trans HBX.out, HB.out.alloc HB.out.size _⟩
    rcases Nat.lt_succ_iff_lt_or_eq.1 hi with h | rfl
    · exact HNO.out i y h hy
    rw [HX.out] at hy
    injection hy with hy
    subst hy
    exact fun e => E1.out (by rw [e])
  obtain rfl : k = n := by omega
  go_wp2_with fail
  go_ret
  refine ⟨ret_bool ?_, HB.out⟩
  symm
  rw [decide_eq_false_iff_not]
  intro hm
  obtain ⟨j, hj⟩ := List.getElem?_of_mem hm
  exact HNO.out j r (by have := (List.getElem?_eq_some_iff.1 hj).1; have := HL.out; omega) hj rfl
end Go.Proofs.YtjnbjdbndbbanaaGreatDoor
namespace Go.Proofs.YtjnbjdbndbbanaaGreatDoor
def Pend (late : List Nat) (listed : Array Bool) : Prop := ∀ k ∈ late, listed.getD k true = false
def wpAnyL (P : Program) (md : Region.Mode) (ops : Array Oper) (Q : Exit → Act → World → Prop) (late : List Nat) (S1 S : World → Prop) : Nat → Array Bool → Act → World → Prop
 | 0, listed, a, w => Region.ready md ops listed = [] ∧ Q .normal a w
 | fuel + 1, listed, a, w =>
  (Region.ready md ops listed = [] → Q .normal a w) ∧
  ∀ i ∈ Region.ready md ops listed, wpOp P ops Q i (fun a' w' => S1 w' ∧ (Pend late (listed.setIfInBounds i true) → S w') ∧ wpAnyL P md ops Q late S1 S fuel (listed.setIfInBounds i true) a' w') a w
section
variable {P : Program} {ops : Array Oper} {Q : Exit → Act → World → Prop} {md : Region.Mode} {S1 S : World → Prop} {late : List Nat}
theorem wpAny_of_late : ∀ (fuel : Nat) (listed : Array Bool) (a : Act) (w : World), wpAnyL P md ops Q late S1 S fuel listed a w → wpAny P md ops Q fuel listed a w
 | 0, _, _, _, h => h
 | fuel + 1, _, _, _, h => ⟨h.1, fun i hi => wpOp_mono (fun a' w' h' => wpAny_of_late fuel _ a' w' h'.2.2) (h.2 i hi)⟩
theorem pend_set {listed : Array Bool} {j : Nat} (h : Pend late listed) (hj : j ∉ late) : Pend late (listed.setIfInBounds j true) := fun k hk => by
 have hne : j ≠ k := fun e => hj (e ▸ hk)
 rw [getD_set_ne true hne]
 exact h k hk
theorem wpAnyL_first {i : Nat} {oi : Oper} {v : Value} (hi : ops[i]? = some oi) (hsel : ∀ (j : Nat) (o : Oper) cs b, ops[j]? = some o → o.op ≠ .select cs b)
    (hQ : ∀ c a w, Q (.panic c) (a.put oi.dst v) w → Q (.panic c) a w) (hil : i ∉ late) (hwait : ∀ k ∈ late, ∀ ok, ops[k]? = some ok → ∃ e ∈ ok.after, Region.binds md e = true ∧ e.on = i) :
    ∀ (fuel : Nat) (listed : Array Bool) (a : Act) (w : World),
     (∀ j oj, ops[j]? = some oj → j ≠ i → listed.getD j true = false → (∀ e ∈ oj.after, Region.binds md e = true → e.on ≠ i) → oi.apart ops oj = true) →
     i ∈ Region.ready md ops listed → YieldsIf P ops (fun w => S1 w ∧ S w) oi v a → Pend late listed → S1 w → S w →
     wpAnyL P md ops Q late S1 S fuel (listed.setIfInBounds i true) (a.put oi.dst v) w → wpAnyL P md ops Q late S1 S (fuel + 1) listed a w := by
 intro fuel
 induction fuel with
 | zero =>
  intro listed a w _ hr hy hp hS1 hS H
  refine ⟨fun h => (by rw [h] at hr; cases hr), fun j hj => ?_⟩
  by_cases hji : j = i
  · subst hji; exact hy.wpOp hi ⟨hS1, hS⟩ ⟨hS1, fun _ => hS, H⟩
  have := ready_mono hj hji
  rw [H.1] at this
  cases this
 | succ fuel ih =>
  intro listed a w hfree hr hy hp hS1 hS H
  refine ⟨fun h => (by rw [h] at hr; cases hr), fun j hj => ?_⟩
  by_cases hji : j = i
  · subst hji; exact hy.wpOp hi ⟨hS1, hS⟩ ⟨hS1, fun _ => hS, H⟩
  have h1 := H.2 j (ready_mono hj hji)
  obtain ⟨hjun, oj, hoj, hall⟩ := mem_ready.1 hj
  have hnot : ∀ e ∈ oj.after, Region.binds md e = true → e.on ≠ i := fun e he hb heq => by
   have h1 := hall e he hb
   have h0 := (mem_ready.1 hr).1
   rw [heq] at h1
   rcases Nat.lt_or_ge i listed.size with h' | h'
   · simp [h'] at h0 h1; rw [h0] at h1; cases h1
   simp [Array.getElem?_eq_none h'] at h1
  have hjl : j ∉ late := fun hm => by
   obtain ⟨e, he, hb, ho⟩ := hwait j hm oj hoj
   exact hnot e he hb ho
  have hp' := pend_set hp hjl
  have h2 := wpOp_putIf hoj (hfree j oj hoj hji hjun hnot) (fun cs b => hsel i oi cs b hi) (fun cs b => hsel j oj cs b hoj) hQ hy h1
  have hfree' : ∀ k ok, ops[k]? = some ok → k ≠ i → (listed.setIfInBounds j true).getD k true = false →
      (∀ e ∈ ok.after, Region.binds md e = true → e.on ≠ i) → oi.apart ops ok = true := fun k ok hk hki hun hno => by
   refine hfree k ok hk hki ?_ hno
   by_cases hjk : j = k
   · subst hjk; exact hjun
   rw [getD_set_ne true hjk] at hun; exact hun
  have hp2 : Pend late ((listed.setIfInBounds i true).setIfInBounds j true) := pend_set (pend_set hp hil) hjl
  refine wpOp_mono (fun a' w' h3 => ⟨h3.2.1, fun _ => h3.2.2.1 hp2, ih (listed.setIfInBounds j true) a' w' hfree' (ready_mono hr (Ne.symm hji)) h3.1 hp' h3.2.1 (h3.2.2.1 hp2) ?_⟩) h2
  rw [Array.setIfInBounds_comm _ _ hji]
  exact h3.2.2.2
def pendB (late : List Nat) (listed : Array Bool) : Bool := late.all fun k => !listed.getD k true
theorem pendB_spec {listed : Array Bool} (h : pendB late listed = true) : Pend late listed := fun k hk => by
 have := List.all_eq_true.1 h k hk
 simpa using this
def lateB (md : Region.Mode) (ops : Array Oper) (late : List Nat) (i : Nat) : Bool := late.all fun k => k != i && match ops[k]? with
 | some o => o.after.any fun e => Region.binds md e && e.on == i
 | none => true
theorem lateB_spec {i : Nat} (h : lateB md ops late i = true) : i ∉ late ∧ ∀ k ∈ late, ∀ ok, ops[k]? = some ok → ∃ e ∈ ok.after, Region.binds md e = true ∧ e.on = i := by
 refine ⟨fun hm => ?_, fun k hk ok ho => ?_⟩
 ·
  have := List.all_eq_true.1 h i hm
  simp at this
 have := List.all_eq_true.1 h k hk
 rw [ho] at this
 simp only [Bool.and_eq_true, Array.any_eq_true, beq_iff_eq] at this
 obtain ⟨_, n, hn, h1, h2⟩ := this
 exact ⟨ok.after[n], Array.getElem_mem hn, h1, h2⟩
theorem wpAnyL_take {i : Nat} {oi : Oper} {v : Value} {fuel : Nat} {listed : Array Bool} {a : Act} {w : World} (hi : ops[i]? = some oi)
    (hs : (Region.noSelect ops && Region.free md ops listed i && (Region.ready md ops listed).contains i && pendB late listed && lateB md ops late i) = true)
    (hQ : ∀ c a w, Q (.panic c) (a.put oi.dst v) w → Q (.panic c) a w) (hy : YieldsIf P ops (fun w => S1 w ∧ S w) oi v a) (hS1 : S1 w) (hS : Pend late listed → S w)
    (h : wpAnyL P md ops Q late S1 S fuel (listed.setIfInBounds i true) (a.put oi.dst v) w) : wpAnyL P md ops Q late S1 S (fuel + 1) listed a w := by
 simp only [Bool.and_eq_true] at hs
 obtain ⟨⟨⟨⟨h1, h2⟩, h3⟩, h4⟩, h5⟩ := hs
 obtain ⟨h6, h7⟩ := lateB_spec h5
 exact wpAnyL_first hi (Region.noSelect_spec h1) hQ h6 h7 fuel listed a w (Region.free_spec hi h2) (by simpa using h3) hy (pendB_spec h4) hS1 (hS (pendB_spec h4)) h
theorem wpAnyL_pure_first {i : Nat} {oi : Oper} {v : Value} (hi : ops[i]? = some oi) (hsel : ∀ (j : Nat) (o : Oper) cs b, ops[j]? = some o → o.op ≠ .select cs b)
    (hQ : ∀ c a w, Q (.panic c) (a.put oi.dst v) w → Q (.panic c) a w) (hil : i ∉ late) :
    ∀ (fuel : Nat) (listed : Array Bool) (a : Act) (w : World),
     (∀ j oj, ops[j]? = some oj → j ≠ i → listed.getD j true = false → (∀ e ∈ oj.after, Region.binds md e = true → e.on ≠ i) → oi.apart ops oj = true) →
     i ∈ Region.ready md ops listed → YieldsIf P ops S1 oi v a → S1 w → (Pend late listed → S w) →
     wpAnyL P md ops Q late S1 S fuel (listed.setIfInBounds i true) (a.put oi.dst v) w → wpAnyL P md ops Q late S1 S (fuel + 1) listed a w := by
 have hpi : ∀ {listed : Array Bool}, Pend late listed → Pend late (listed.setIfInBounds i true) := fun h => pend_set h hil
 intro fuel
 induction fuel with
 | zero =>
  intro listed a w _ hr hy hS1 hS H
  refine ⟨fun h => (by rw [h] at hr; cases hr), fun j hj => ?_⟩
  by_cases hji : j = i
  ·
   subst hji
   refine hy.wpOp hi hS1 ⟨hS1, fun hp => hS fun k hk => ?_, H⟩
   have := hp k hk
   rwa [getD_set_ne true (fun e => hil (by rw [e]; exact hk))] at this
  have := ready_mono hj hji
  rw [H.1] at this
  cases this
 | succ fuel ih =>
  intro listed a w hfree hr hy hS1 hS H
  refine ⟨fun h => (by rw [h] at hr; cases hr), fun j hj => ?_⟩
  by_cases hji : j = i
  ·
   subst hji
   refine hy.wpOp hi hS1 ⟨hS1, fun hp => hS fun k hk => ?_, H⟩
   have := hp k hk
   rwa [getD_set_ne true (fun e => hil (by rw [e]; exact hk))] at this
  have h1 := H.2 j (ready_mono hj hji)
  obtain ⟨hjun, oj, hoj, hall⟩ := mem_ready.1 hj
  have hnot : ∀ e ∈ oj.after, Region.binds md e = true → e.on ≠ i := fun e he hb heq => by
   have h1 := hall e he hb
   have h0 := (mem_ready.1 hr).1
   rw [heq] at h1
   rcases Nat.lt_or_ge i listed.size with h' | h'
   · simp [h'] at h0 h1; rw [h0] at h1; cases h1
   simp [Array.getElem?_eq_none h'] at h1
  have h2 := wpOp_putIf hoj (hfree j oj hoj hji hjun hnot) (fun cs b => hsel i oi cs b hi) (fun cs b => hsel j oj cs b hoj) hQ hy h1
  have hfree' : ∀ k ok, ops[k]? = some ok → k ≠ i → (listed.setIfInBounds j true).getD k true = false →
      (∀ e ∈ ok.after, Region.binds md e = true → e.on ≠ i) → oi.apart ops ok = true := fun k ok hk hki hun hno => by
   refine hfree k ok hk hki ?_ hno
   by_cases hjk : j = k
   · subst hjk; exact hjun
   rw [getD_set_ne true hjk] at hun; exact hun
  have hcomm : (listed.setIfInBounds i true).setIfInBounds j true = (listed.setIfInBounds j true).setIfInBounds i true := by rw [Array.setIfInBounds_comm _ _ hji]
  refine wpOp_mono (fun a' w' h3 => ⟨h3.2.1, fun hp => h3.2.2.1 (by rw [hcomm]; exact hpi hp), ih (listed.setIfInBounds j true) a' w' hfree' (ready_mono hr (Ne.symm hji)) h3.1 h3.2.1 (fun hp => h3.2.2.1 (by rw [hcomm]; exact hpi hp)) ?_⟩) h2
  rw [← hcomm]
  exact h3.2.2.2
theorem wpAnyL_pure {i : Nat} {oi : Oper} {v : Value} {fuel : Nat} {listed : Array Bool} {a : Act} {w : World} (hi : ops[i]? = some oi)
    (hs : (Region.noSelect ops && Region.free md ops listed i && (Region.ready md ops listed).contains i && !late.contains i) = true)
    (hQ : ∀ c a w, Q (.panic c) (a.put oi.dst v) w → Q (.panic c) a w) (hy : YieldsIf P ops S1 oi v a) (hS1 : S1 w) (hS : Pend late listed → S w)
    (h : wpAnyL P md ops Q late S1 S fuel (listed.setIfInBounds i true) (a.put oi.dst v) w) : wpAnyL P md ops Q late S1 S (fuel + 1) listed a w := by
 simp only [Bool.and_eq_true] at hs
 obtain ⟨⟨⟨h1, h2⟩, h3⟩, h4⟩ := hs
 exact wpAnyL_pure_first hi (Region.noSelect_spec h1) hQ (by simpa using h4) fuel listed a w (Region.free_spec hi h2) (by simpa using h3) hy hS1 hS h
def AllL (P : Program) (md : Region.Mode) (ops : Array Oper) (Q : Exit → Act → World → Prop) (late : List Nat) (S1 S : World → Prop) (fuel : Nat) (listed : Array Bool) (a : Act) (w : World) (rs : List Nat) : Prop :=
 ∀ i ∈ rs, wpOp P ops Q i (fun a' w' => S1 w' ∧ (Pend late (listed.setIfInBounds i true) → S w') ∧ wpAnyL P md ops Q late S1 S fuel (listed.setIfInBounds i true) a' w') a w
theorem AllL.nil {fuel : Nat} {listed : Array Bool} {a : Act} {w : World} : AllL P md ops Q late S1 S fuel listed a w [] := fun _ h => by cases h
theorem AllL.cons {fuel : Nat} {listed : Array Bool} {a : Act} {w : World} {i : Nat} {o : Oper} {rs : List Nat} (ho : ops[i]? = some o)
    (h : ∀ K' : Act → World → Prop, Shut (∀ a w, S1 w → (Pend late (listed.setIfInBounds i true) → S w) → wpAnyL P md ops Q late S1 S fuel (listed.setIfInBounds i true) a w → K' a w) → if Region.wanted o (yielded ops a.tmps) = true then Oper.wp P o a w K' Q else K' (a.put o.dst undef) w)
    (hs : AllL P md ops Q late S1 S fuel listed a w rs) : AllL P md ops Q late S1 S fuel listed a w (i :: rs) := fun j hj => by
 rcases List.mem_cons.1 hj with rfl | hj
 · exact wpOp_step ho (fun K' hK => h K' (fun a w h1 h2 h3 => hK a w ⟨h1, h2, h3⟩))
 exact hs j hj
theorem wpAnyL_ready {rs : List Nat} {fuel : Nat} {listed : Array Bool} {a : Act} {w : World} (hr : Region.ready md ops listed = rs) (hne : rs ≠ [])
    (h : AllL P md ops Q late S1 S fuel listed a w rs) : wpAnyL P md ops Q late S1 S (fuel + 1) listed a w := ⟨fun h0 => absurd (hr ▸ h0) hne, hr ▸ h⟩
theorem wpAnyL_done {listed : Array Bool} {a : Act} {w : World} (hr : Region.ready md ops listed = []) (h : Q .normal a w) :
    ∀ fuel, wpAnyL P md ops Q late S1 S fuel listed a w
 | 0 => ⟨hr, h⟩
 | _ + 1 => ⟨fun _ => h, by rw [hr]; simp⟩
theorem wp_region_late {id : Nat} {a : Act} {w : World} (hm : P.follows .mixedOrders = true) (h : wpAnyL P .any ops Q late S1 S ops.size (Array.replicate ops.size false) a w.drew) : (Code.region id ops true).wp P Q a w :=
 wp_region_any hm (wpAny_of_late _ _ _ _ h)
end
open Go.RowKit
theorem setOther {w : World} {q : Addr} {v : Value} (u : Value) {p : Addr} (h : w.cell? q = some v) (hq : q.block ≠ p.block) : (w.setCell p u).cell? q = some v := by
 rw [World.cell?_setCell_other w p q u (fun e => hq (by rw [e]))]; exact h
theorem zA {α : Type} {l : List α} {i : Nat} {a : α} : l.toArray.setIfInBounds i a = (l.set i a).toArray := by simp
theorem zB {α : Type} {x : α} {xs : List α} {a : α} : (x :: xs).set 0 a = a :: xs := rfl
theorem zC {α : Type} {x : α} {xs : List α} {n : Nat} {a : α} : (x :: xs).set (n + 1) a = x :: xs.set n a := rfl
theorem zD {α : Type} {xs : List α} {i : Nat} {h : i < xs.toArray.size} : xs.toArray[i]'h = xs[i]'(by simpa using h) := by simp
theorem zF {α : Type} {a : α} {l : List α} {h : 0 < (a :: l).length} : (a :: l)[0]'h = a := rfl
theorem zG {α : Type} {a : α} {l : List α} {i : Nat} {h : i + 1 < (a :: l).length} : (a :: l)[i + 1]'h = l[i]'(Nat.lt_of_succ_lt_succ h) := rfl
theorem zh {p : Prop} (h : p) : RowKit.Hid p := h
theorem zt {p : Prop} (_ : p) : True := trivial
theorem zE {α : Type} (a : α) : ∃ x, x = a := ⟨a, rfl⟩
theorem zP {P : Program} {md : Region.Mode} {ops : Array Oper} {Q : Exit → Act → World → Prop} {late : List Nat} {S1 S : World → Prop} {i : Nat} {oi : Oper} {v : Value} {fuel : Nat} {listed : Array Bool} {a : Act} {w : World} (hi : ops[i]? = some oi) (hf : ∀ w, S1 w → (execOp a.eval oi).run P w = .ok (.value v) w) (hS1 : S1 w) (hS : Pend late listed → S w) (h : wpAnyL P md ops Q late S1 S fuel (listed.setIfInBounds i true) (a.put oi.dst v) w)
 (hs : (Region.noSelect ops && Region.free md ops listed i && (Region.ready md ops listed).contains i && !late.contains i) = true := by kernel_rfl) (hQ : ∀ c a w, Q (.panic c) (a.put oi.dst v) w → Q (.panic c) a w := by exact fun _ _ _ h => h) (hw : Region.wanted oi (yielded ops a.tmps) = true := by rfl) : wpAnyL P md ops Q late S1 S (fuel + 1) listed a w :=
 wpAnyL_pure hi hs hQ (Or.inl ⟨hw, hf⟩) hS1 hS h
theorem zR {P : Program} {md : Region.Mode} {ops : Array Oper} {Q : Exit → Act → World → Prop} {late : List Nat} {S1 S : World → Prop} {fuel : Nat} {listed : Array Bool} {a : Act} {w : World} (i : Nat) {o : Oper} (ho : ops[i]? = some o)
 (h : ∀ K' : Act → World → Prop, Shut (∀ a w, S1 w → (Pend late (listed.setIfInBounds i true) → S w) → wpAnyL P md ops Q late S1 S fuel (listed.setIfInBounds i true) a w → K' a w) → if Region.wanted o (yielded ops a.tmps) = true then Oper.wp P o a w K' Q else K' (a.put o.dst undef) w)
 (hr : Region.ready md ops listed = [i] := by kernel_rfl) : wpAnyL P md ops Q late S1 S (fuel + 1) listed a w := wpAnyL_ready hr (by simp) (AllL.cons ho h AllL.nil)
end Go.Proofs.YtjnbjdbndbbanaaGreatDoor
