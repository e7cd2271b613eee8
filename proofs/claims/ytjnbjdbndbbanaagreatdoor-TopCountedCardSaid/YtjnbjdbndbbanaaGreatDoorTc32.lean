/- HeapQ HeapOp -/
import Derived.Laws.CopyOwn
import Derived.Test.YtjnbjdbndbbanaaGreatDoorTc20
import Derived.Test.YtjnbjdbndbbanaaGreatDoorTc31
namespace Go.Proofs.YtjnbjdbndbbanaaGreatDoor
open Go.RowKit Go.Maps
abbrev CKey := Nat × Nat × Nat × Nat × Nat × Nat
abbrev QEl := CKey × TreeD
abbrev RCK : Rep CKey := Rep.prod RNat (Rep.prod RNat (Rep.prod RNat (Rep.prod RNat (Rep.prod RNat RNat))))
abbrev RQ : Rep QEl := Rep.prod RCK RPt
def ckV (k : CKey) : List Value := [.int .i64 (k.1 : Int), .int .i64 (k.2.1 : Int), .int .i64 (k.2.2.1 : Int), .int .i64 (k.2.2.2.1 : Int), .int .i64 (k.2.2.2.2.1 : Int), .int .i64 (k.2.2.2.2.2 : Int)]
section
variable {w : World} {S : Nat → Prop} {cs : List Value}
theorem RCK.cells {k : CKey} : RCK.ok w S cs k ↔ cs = ckV k := by
 constructor
 ·
  rintro ⟨c1, c2, rfl, h1, c3, c4, rfl, h2, c5, c6, rfl, h3, c7, c8, rfl, h4, c9, c10, rfl, h5, h6⟩
  rw [show c1 = _ from h1, show c3 = _ from h2, show c5 = _ from h3, show c7 = _ from h4, show c9 = _ from h5, show c10 = _ from h6]
  rfl
 rintro rfl
 exact ⟨[_], _, rfl, rfl, [_], _, rfl, rfl, [_], _, rfl, rfl, [_], _, rfl, rfl, [_], [_], rfl, rfl, rfl⟩
theorem RQ.cells {e : QEl} : RQ.ok w S cs e ↔ ∃ B : Nat, cs = ckV e.1 ++ [.pointer (some ⟨B, 0, none⟩)] ∧ RPt.ok w S [.pointer (some ⟨B, 0, none⟩)] e.2 := by
 constructor
 ·
  rintro ⟨c1, c2, rfl, h1, h2⟩
  rw [RCK.cells.1 h1]
  obtain ⟨B, _, _, _, rfl, _⟩ := RPt.cells.1 h2
  exact ⟨B, rfl, h2⟩
 rintro ⟨B, rfl, h⟩
 exact ⟨_, _, rfl, RCK.cells.2 rfl, h⟩
end
structure Qu (T : Nat → Prop) (w : World) (v : Value) (l : List QEl) : Prop where
 own : ∃ xs, Own w 0 130 7 v l.length xs ∧ Cells RQ w T xs l
 row : ∀ g, rowOf v = some g → ¬ T g
section
variable {T : Nat → Prop} {w w' : World} {v : Value} {l : List QEl}
theorem Qu.form (h : Qu T w v l) : ∃ A c, v = .slice A l.length c ∧ l.length ≤ c := by
 obtain ⟨xs, h1, _⟩ := h.own
 obtain ⟨A, c, e, hc, _⟩ := h1.form
 exact ⟨A, c, e, hc⟩
theorem Qu.only {X : Nat → Prop} (h : Qu T w v l) (ho : Only w w' X) (hT : ∀ b, T b → ¬ X b) (hv : ∀ g, rowOf v = some g → ¬ X g) : Qu T w' v l := by
 obtain ⟨xs, h1, h2⟩ := h.own
 exact ⟨⟨xs, h1.sameB fun g e => ho.block g (h1.row e).2 (hv g e), h2.keep (ho.kept hT)⟩, h.row⟩
theorem Qu.at_ {A : Option Addr} {n c k : Nat} (h : Qu T w (.slice A n c) l) (hn : n = l.length) (hk : k < n) : ∃ (b : Nat) (e : QEl) (B : Nat), A = some ⟨b, 0, none⟩ ∧ rowOf (.slice A n c) = some b ∧ l[k]? = some e ∧ w.cell? ⟨b, k * 7, none⟩ = some (.int .i64 (e.1.1 : Int)) ∧ w.cell? ⟨b, k * 7 + 1, none⟩ = some (.int .i64 (e.1.2.1 : Int)) ∧ w.cell? ⟨b, k * 7 + 2, none⟩ = some (.int .i64 (e.1.2.2.1 : Int)) ∧ w.cell? ⟨b, k * 7 + 3, none⟩ = some (.int .i64 (e.1.2.2.2.1 : Int)) ∧ w.cell? ⟨b, k * 7 + 4, none⟩ = some (.int .i64 (e.1.2.2.2.2.1 : Int)) ∧ w.cell? ⟨b, k * 7 + 5, none⟩ = some (.int .i64 (e.1.2.2.2.2.2 : Int)) ∧ w.cell? ⟨b, k * 7 + 6, none⟩ = some (.pointer (some ⟨B, 0, none⟩)) ∧ RPt.ok w T [.pointer (some ⟨B, 0, none⟩)] e.2 := by
 obtain ⟨xs, h1, h2⟩ := h.own
 subst hn
 have hl := h2.len
 have hg := h2.get hk
 rw [show RQ.size = 7 from rfl] at hg hl
 obtain ⟨B, hcs, hok⟩ := RQ.cells.1 hg
 rcases h1 with h1 | ⟨A', h1, h3, _⟩
 ·
  rcases h1.2 with ⟨h3, h4⟩ | ⟨g, cap, cur, e1, _, hh, hnc, _, hcs2, htk⟩
  · omega
  injection e1 with e1 _ e2
  subst e1
  subst e2
  have hx : ∀ (j : Nat) (u : Value), j < 7 → ((xs.drop (k * 7)).take 7)[j]? = some u → w.cell? ⟨g, k * 7 + j, none⟩ = some u := by
   intro j u hj hu
   rw [List.getElem?_take, if_pos hj, List.getElem?_drop, ← htk, List.getElem?_take] at hu
   split at hu
   ·
    rw [cell_of_row _ _ _ _ _ _ hh]
    simpa using hu
   cases hu
  rw [hcs] at hx
  refine ⟨g, l[k], B, rfl, ?_, List.getElem?_eq_getElem hk, hx 0 _ (by omega) rfl, hx 1 _ (by omega) rfl, hx 2 _ (by omega) rfl, hx 3 _ (by omega) rfl, hx 4 _ (by omega) rfl, hx 5 _ (by omega) rfl, hx 6 _ (by omega) rfl, hok⟩
  obtain ⟨c', rfl⟩ : ∃ c', c = c' + 1 := ⟨c - 1, by omega⟩
  rfl
 omega
end
theorem step_store_run {P : Program} (w : World) {ops : Array Oper} {o : Oper} {a : Act} {K : Act → World → Prop} {Q : Exit → Act → World → Prop} {E : Prop} (hgd : o.guard = none) (t : TypeId) (p x : Operand)
    (ho : o.op = .store t p x) (vp vx : Value) (hp : a.eval p = vp) (hx : a.eval x = vx) (w' : World) (hr : (Instr.storeAt t vp vx).run P w = .ok () w') (h : K (a.put o.dst undef) w') :
    if Region.wanted o (yielded ops a.tmps) = true then Oper.wp P o a w K Q else E := by
 have hw : Region.wanted o (yielded ops a.tmps) = true := by simp [Region.wanted, hgd]
 rw [if_pos hw]
 unfold Oper.wp execOp
 simp only [ho, Sem.run_bind, Sem.run_pure, Result.andThen_ok, hp, hx, hr]
 exact h
theorem Cells.put {α : Type} {R : Rep α} {w : World} {S : Nat → Prop} {cs : List Value} {a : α} (ha : R.ok w S cs a) : ∀ {l : List α} {xs : List Value} {i : Nat}, Cells R w S xs l → i < l.length → Cells R w S (xs.take (i * R.size) ++ cs ++ xs.drop (i * R.size + R.size)) (l.set i a)
 | [], _, _, _, hi => by simp at hi
 | x :: l, _, 0, h, _ => by
  obtain ⟨c1, rest, rfl, h1, h2⟩ := h
  refine ⟨cs, rest, ?_, ha, h2⟩
  rw [Nat.zero_mul, List.take_zero, List.nil_append, Nat.zero_add, List.drop_append, ← R.len h1]
  simp
 | x :: l, _, i + 1, h, hi => by
  obtain ⟨c1, rest, rfl, h1, h2⟩ := h
  refine ⟨c1, _, ?_, h1, Cells.put ha h2 (by simpa using hi)⟩
  have hl := R.len h1
  rw [Nat.succ_mul, List.take_append, List.drop_append, hl, List.take_of_length_le (by omega), List.drop_of_length_le (l := c1) (by omega), show i * R.size + R.size - R.size = i * R.size by omega, show i * R.size + R.size + R.size - R.size = i * R.size + R.size by omega]
  simp
theorem seg_take {α : Type} (row vs : List α) (o m k : Nat) (hv : vs.length = k) (h1 : o + k ≤ m) (h2 : m ≤ row.length) : (row.take o ++ vs ++ row.drop (o + k)).take m = (row.take m).take o ++ vs ++ (row.take m).drop (o + k) := by
 rw [List.take_take, Nat.min_eq_left (by omega), List.drop_take, List.take_append, List.take_of_length_le (l := row.take o ++ vs) (by simp; omega)]
 congr 2
 simp
 omega
theorem storeC (w : World) (b o : Nat) (cur : Array Value) (vs : List Value) (hv : vs.length = 7) (h1 : ∀ v ∈ vs, v.oneCell' = true) (hh : w.heap[b]? = some (.cells cur 130 (0, 0))) (ho : o + 7 ≤ cur.size) :
    (Instr.storeAt 130 (.pointer (some ⟨b, o, none⟩)) (.agg vs.toArray)).run Tryz.prog w = .ok () (w.setRow b (cur.toList.take o ++ vs ++ cur.toList.drop (o + 7)).toArray) := by
 have hs : (Tryz.prog.info? 130).map (·.size) = some 7 := by kernel_rfl
 have hr := run_storeCells_at (P := Tryz.prog) b o 130 vs 0 cur w hh (by omega) h1
 cases hj : Tryz.prog.info? 130 with
 | none => rw [hj] at hs; cases hs
 | some j =>
  rw [hj] at hs
  have hj7 : j.size = 7 := by injection hs
  rw [Nat.add_zero, hv] at hr
  simp [Instr.storeAt, Instr.sureAddr, storeVar, sizeOf, typeInfo, hj, hj7, Value.cells, hv, hr]
section
variable {T : Nat → Prop} {w w' : World} {v : Value} {l : List QEl}
theorem Qu.put {b n c i : Nat} {vs : List Value} {a : QEl} (h : Qu T w (.slice (some ⟨b, 0, none⟩) n c) l) (hn : n = l.length) (hi : i < n) (ha : RQ.ok w T vs a) :
    ∃ w', (Instr.storeAt 130 (.pointer (some ⟨b, i * 7, none⟩)) (.agg vs.toArray)).run Tryz.prog w = .ok () w' ∧ Qu T w' (.slice (some ⟨b, 0, none⟩) n c) (l.set i a) ∧ Only w w' (fun x => x = b) ∧ w'.heap.size = w.heap.size := by
 obtain ⟨xs, h1, h2⟩ := h.own
 subst hn
 have hv := RQ.len ha
 rw [show RQ.size = 7 from rfl] at hv
 have hrow : rowOf (.slice (some ⟨b, 0, none⟩) l.length c) = some b := by
  obtain ⟨A, c', e, hc, _⟩ := h1.form
  injection e with _ _ e
  subst e
  obtain ⟨c', rfl⟩ : ∃ c', c = c' + 1 := ⟨c - 1, by omega⟩
  rfl
 rcases h1 with h1 | ⟨A', h1, h3, _⟩
 rotate_left
 · omega
 rcases h1.2 with ⟨h3, h4⟩ | ⟨g, cap, cur, e1, hb0, hh, hnc, hcm, hcs2, htk⟩
 · omega
 injection e1 with e1 _ e2
 injection e1 with e1
 injection e1 with e1 _ _
 subst e1
 subst e2
 have hsz : i * 7 + 7 ≤ cur.size := by rw [hcs2]; have : (i + 1) * 7 ≤ c * 7 := Nat.mul_le_mul_right _ (by omega); omega
 have hon : Only w (w.setRow b (cur.toList.take (i * 7) ++ vs ++ cur.toList.drop (i * 7 + 7)).toArray) (fun x => x = b) := ⟨rfl, rfl, rfl, by simp, fun k _ hk => setRow_other w b k _ hk⟩
 have hput := Cells.put ha h2 hi
 rw [show RQ.size = 7 from rfl] at hput
 have hT : ∀ x, T x → x ≠ b := fun x hx e => h.row b hrow (e ▸ hx)
 refine ⟨_, storeC w b (i * 7) cur vs hv (RQ.one ha) hh hsz, ⟨⟨xs.take (i * 7) ++ vs ++ xs.drop (i * 7 + 7), .inl ⟨?_, .inr ⟨b, c, _, by rw [List.length_set], hb0, setRow_heap w b cur _ _ _ hh, by rw [List.length_set]; exact hnc, hcm, ?_, ?_⟩⟩, hput.keep (hon.kept hT)⟩, h.row⟩, hon, by simp⟩
 ·
  have hx := h1.1
  have : (i + 1) * 7 ≤ l.length * 7 := Nat.mul_le_mul_right _ (by omega)
  simp only [List.length_append, List.length_take, List.length_drop, List.length_set]
  omega
 ·
  simp only [List.size_toArray, List.length_append, List.length_take, List.length_drop, Array.length_toList]
  omega
 have : (i + 1) * 7 ≤ l.length * 7 := Nat.mul_le_mul_right _ (by omega)
 have hc7 : l.length * 7 ≤ c * 7 := Nat.mul_le_mul_right _ hnc
 rw [List.length_set, ← htk]
 exact seg_take _ _ _ _ _ hv (by omega) (by have := Array.length_toList (xs := cur); omega)
end
theorem methLoad (w : World) (a : Addr) (k : Nat) : (method (k + 1) 133 (.pointer (some a)) "Len").run Tryz.prog w = (((load a) >>= fun v => pure (137, v)) : Sem (FuncId × Value)).run Tryz.prog w := by kernel_rfl
theorem methLoadL (w : World) (a : Addr) (k : Nat) : (method (k + 1) 133 (.pointer (some a)) "Less").run Tryz.prog w = (((load a) >>= fun v => pure (138, v)) : Sem (FuncId × Value)).run Tryz.prog w := by kernel_rfl
theorem methLoadS (w : World) (a : Addr) (k : Nat) : (method (k + 1) 133 (.pointer (some a)) "Swap").run Tryz.prog w = (((load a) >>= fun v => pure (139, v)) : Sem (FuncId × Value)).run Tryz.prog w := by kernel_rfl
theorem methPush (w : World) (v : Value) (k : Nat) : (method (k + 1) 133 v "Push").run Tryz.prog w = .ok (142, v) w := by kernel_rfl
theorem methPop (w : World) (v : Value) (k : Nat) : (method (k + 1) 133 v "Pop").run Tryz.prog w = .ok (141, v) w := by kernel_rfl
theorem methLen (w : World) (BL : Nat) (A : Option Addr) (n c : Nat) (h : w.cell? ⟨BL, 6, none⟩ = some (.slice A n c)) (k : Nat) : (method (k + 1) 133 (.pointer (some ⟨BL, 6, none⟩)) "Len").run Tryz.prog w = .ok (137, .slice A n c) w := by
 rw [methLoad]
 simp [h]
theorem methLess (w : World) (BL : Nat) (A : Option Addr) (n c : Nat) (h : w.cell? ⟨BL, 6, none⟩ = some (.slice A n c)) (k : Nat) : (method (k + 1) 133 (.pointer (some ⟨BL, 6, none⟩)) "Less").run Tryz.prog w = .ok (138, .slice A n c) w := by
 rw [methLoadL]
 simp [h]
theorem methSwap (w : World) (BL : Nat) (A : Option Addr) (n c : Nat) (h : w.cell? ⟨BL, 6, none⟩ = some (.slice A n c)) (k : Nat) : (method (k + 1) 133 (.pointer (some ⟨BL, 6, none⟩)) "Swap").run Tryz.prog w = .ok (139, .slice A n c) w := by
 rw [methLoadS]
 simp [h]
theorem entLen : ∀ (args : Array Value) (u : World), (callFunc 137 args).run Tryz.prog u = .ok (.enter 137 args) u := enters_of Tryz.func137 (by kernel_rfl) rfl
theorem entLess : ∀ (args : Array Value) (u : World), (callFunc 138 args).run Tryz.prog u = .ok (.enter 138 args) u := enters_of Tryz.func138 (by kernel_rfl) rfl
theorem entSwap : ∀ (args : Array Value) (u : World), (callFunc 139 args).run Tryz.prog u = .ok (.enter 139 args) u := enters_of Tryz.func139 (by kernel_rfl) rfl
theorem entPush : ∀ (args : Array Value) (u : World), (callFunc 142 args).run Tryz.prog u = .ok (.enter 142 args) u := enters_of Tryz.func142 (by kernel_rfl) rfl
theorem entPop : ∀ (args : Array Value) (u : World), (callFunc 141 args).run Tryz.prog u = .ok (.enter 141 args) u := enters_of Tryz.func141 (by kernel_rfl) rfl
theorem qLen (w : World) (A : Option Addr) (n c : Nat) : Calls Tryz.prog 137 #[.slice A n c] w fun e w' => e = .returned (.int .i64 (n : Int)) ∧ w = w' := by
 go_enter Tryz.func137, Tryz.ntmps137
 go_wp2_with fail
 go_ret
 exact ⟨rfl, rfl⟩
set_option linter.unusedSimpArgs false in
set_option maxRecDepth 100000 in
set_option maxHeartbeats 4000000 in
theorem qLess (w : World) (T : Nat → Prop) (hu : UnfT w T) (A : Option Addr) (n c : Nat) (l : List QEl) (hq : Qu T w (.slice A n c) l) (hn : n = l.length) (hs : ∀ e ∈ l, sizeT e.2 ≤ 100000) (i j : Nat) (hi : i < n) (hj : j < n) :
    Calls Tryz.prog 138 #[.slice A n c, .int .i64 (i : Int), .int .i64 (j : Int)] w fun e w' => (∃ z : Bool, e = .returned (.bool z)) ∧ Below w.heap.size w w' := by
 obtain ⟨b, e1, B1, rfl, _, he1, _, _, _, _, _, _, p6, o1⟩ := hq.at_ hn hi
 obtain ⟨b', e2, B2, hb, _, he2, _, _, _, _, _, _, r6, o2⟩ := hq.at_ hn hj
 injection hb with hb
 injection hb with hb _ _
 subst hb
 have HC := zh (coreCmp (T := T) (B1 := B1) (B2 := B2) (t1 := e1.2) (t2 := e2.2))
 have HO1 := zh o1
 have HO2 := zh o2
 have HS1 := zh (hs e1 (List.mem_of_getElem? he1))
 have HS2 := zh (hs e2 (List.mem_of_getElem? he2))
 have HU := zh hu
 have hiI : (i : Int) < (n : Int) := by omega
 have hjI : (j : Int) < (n : Int) := by omega
 have hi0 : (0 : Int) ≤ (i : Int) := by omega
 have hj0 : (0 : Int) ≤ (j : Int) := by omega
 have lp := cell_lt p6
 have HKE := zh (show ∀ u : World, Below w.heap.size w u → u.cell? ⟨b, i * 7 + 6, none⟩ = some (.pointer (some ⟨B1, 0, none⟩)) ∧ u.cell? ⟨b, j * 7 + 6, none⟩ = some (.pointer (some ⟨B2, 0, none⟩)) from fun u hu => ⟨(hu.cell (p := ⟨b, i * 7 + 6, none⟩) lp).trans p6, (hu.cell (p := ⟨b, j * 7 + 6, none⟩) lp).trans r6⟩)
 clear hq hn hs o1 o2 he1 he2 hu hi hj HC p6 r6 lp
 go_enter Tryz.func138, Tryz.ntmps138
 go_wp2_with fail
 refine wp_region_late (late := []) (S1 := fun u => u.cell? ⟨b, i * 7 + 6, none⟩ = some (.pointer (some ⟨B1, 0, none⟩)) ∧ u.cell? ⟨b, j * 7 + 6, none⟩ = some (.pointer (some ⟨B2, 0, none⟩))) (S := fun _ => True) (by kernel_rfl) ?_
 refine zP (i := 0) rfl (fun u hu => by obtain ⟨p6, r6⟩ := hu; go_simp; try rfl) (HKE.out _ (Below.refl _ _).drew) zt ?_
 simp only [Act.put, zA, zB, zC, zD, zF, zG]
 refine zP (i := 1) rfl (fun u hu => by obtain ⟨p6, r6⟩ := hu; go_simp; try rfl) (HKE.out _ (Below.refl _ _).drew) zt ?_
 simp only [Act.put, zA, zB, zC, zD, zF, zG]
 refine zP (i := 2) rfl (fun u hu => by obtain ⟨p6, r6⟩ := hu; go_simp; try rfl) (HKE.out _ (Below.refl _ _).drew) zt ?_
 simp only [Act.put, zA, zB, zC, zD, zF, zG]
 refine zP (i := 3) rfl (fun u hu => by obtain ⟨p6, r6⟩ := hu; go_simp; try rfl) (HKE.out _ (Below.refl _ _).drew) zt ?_
 simp only [Act.put, zA, zB, zC, zD, zF, zG]
 refine zP (i := 4) rfl (fun u hu => by obtain ⟨p6, r6⟩ := hu; go_simp; try rfl) (HKE.out _ (Below.refl _ _).drew) zt ?_
 simp only [Act.put, zA, zB, zC, zD, zF, zG]
 refine zP (i := 5) rfl (fun u hu => by obtain ⟨p6, r6⟩ := hu; go_simp; try rfl) (HKE.out _ (Below.refl _ _).drew) zt ?_
 simp only [Act.put, zA, zB, zC, zD, zF, zG]
 refine zP (i := 6) rfl (fun u hu => by obtain ⟨p6, r6⟩ := hu; go_simp; try rfl) (HKE.out _ (Below.refl _ _).drew) zt ?_
 simp only [Act.put, zA, zB, zC, zD, zF, zG]
 refine zP (i := 7) rfl (fun u hu => by obtain ⟨p6, r6⟩ := hu; go_simp; try rfl) (HKE.out _ (Below.refl _ _).drew) zt ?_
 simp only [Act.put, zA, zB, zC, zD, zF, zG]
 refine zP (i := 8) rfl (fun u hu => by obtain ⟨p6, r6⟩ := hu; go_simp; try rfl) (HKE.out _ (Below.refl _ _).drew) zt ?_
 simp only [Act.put, zA, zB, zC, zD, zF, zG]
 refine zP (i := 9) rfl (fun u hu => by obtain ⟨p6, r6⟩ := hu; go_simp; try rfl) (HKE.out _ (Below.refl _ _).drew) zt ?_
 simp only [Act.put, zA, zB, zC, zD, zF, zG]
 refine zR 10 rfl (fun K hK => ?_)
 have HBD := zh (show Below w.heap.size w w.drew from (Below.refl _ _).drew)
 go_simp
 refine (coreCmp w.drew T (fun b hb => by obtain ⟨cs, ty, h⟩ := HU.out b hb; exact ⟨cs, ty, h⟩) B1 B2 e1.2 e2.2 (RPt.keep HO1.out (Kept.drew _ _)) (RPt.keep HO2.out (Kept.drew _ _)) HS1.out HS2.out).mono ?_
 rintro e w9 ⟨⟨z, rfl⟩, hb9⟩
 have HB9 := zh hb9
 clear hb9
 refine hK.out _ _ (HKE.out _ (HBD.out.trans (HB9.out.mono HBD.out.size))) zt ?_
 clear hK K
 refine zP (i := 11) rfl (fun u hu => by obtain ⟨p6, r6⟩ := hu; go_simp; try rfl) (HKE.out _ (HBD.out.trans (HB9.out.mono HBD.out.size))) zt ?_
 simp only [Act.put, zA, zB, zC, zD, zF, zG]
 refine zP (i := 12) rfl (fun u hu => by obtain ⟨p6, r6⟩ := hu; go_simp; try rfl) (HKE.out _ (HBD.out.trans (HB9.out.mono HBD.out.size))) zt ?_
 simp only [Act.put, zA, zB, zC, zD, zF, zG]
 refine wpAnyL_done (by kernel_rfl) ?_ _
 go_wp2_with fail
 go_ret
 exact ⟨⟨_, rfl⟩, HBD.out.trans (HB9.out.mono HBD.out.size)⟩
def Sw7 (u : World) (b k : Nat) (e : QEl) (B : Nat) : Prop := u.cell? ⟨b, k * 7, none⟩ = some (.int .i64 (e.1.1 : Int)) ∧ u.cell? ⟨b, k * 7 + 1, none⟩ = some (.int .i64 (e.1.2.1 : Int)) ∧ u.cell? ⟨b, k * 7 + 2, none⟩ = some (.int .i64 (e.1.2.2.1 : Int)) ∧ u.cell? ⟨b, k * 7 + 3, none⟩ = some (.int .i64 (e.1.2.2.2.1 : Int)) ∧ u.cell? ⟨b, k * 7 + 4, none⟩ = some (.int .i64 (e.1.2.2.2.2.1 : Int)) ∧ u.cell? ⟨b, k * 7 + 5, none⟩ = some (.int .i64 (e.1.2.2.2.2.2 : Int)) ∧ u.cell? ⟨b, k * 7 + 6, none⟩ = some (.pointer (some ⟨B, 0, none⟩))
set_option linter.unusedSimpArgs false in
set_option maxRecDepth 100000 in
set_option maxHeartbeats 4000000 in
theorem qSwap (w : World) (T : Nat → Prop) (A : Option Addr) (n c : Nat) (l : List QEl) (hq : Qu T w (.slice A n c) l) (hn : n = l.length) (i j : Nat) (hi : i < n) (hj : j < n) :
    Calls Tryz.prog 139 #[.slice A n c, .int .i64 (i : Int), .int .i64 (j : Int)] w fun e w' => e = .returned (.tuple #[]) ∧ (∃ e1 e2, l[i]? = some e1 ∧ l[j]? = some e2 ∧ Qu T w' (.slice A n c) ((l.set i e2).set j e1)) ∧ Only w w' (fun x => rowOf (.slice A n c) = some x) := by
 obtain ⟨b, e1, B1, rfl, hrw, he1, p0, p1, p2, p3, p4, p5, p6, o1⟩ := hq.at_ hn hi
 obtain ⟨b', e2, B2, hb, _, he2, r0, r1, r2, r3, r4, r5, r6, o2⟩ := hq.at_ hn hj
 injection hb with hb
 injection hb with hb _ _
 subst hb
 have hiI : (i : Int) < (n : Int) := by omega
 have hjI : (j : Int) < (n : Int) := by omega
 have hi0 : (0 : Int) ≤ (i : Int) := by omega
 have hj0 : (0 : Int) ≤ (j : Int) := by omega
 have lp := cell_lt p6
 have hk1 : Sw7 w b i e1 B1 := ⟨p0, p1, p2, p3, p4, p5, p6⟩
 have hk2 : Sw7 w b j e2 B2 := ⟨r0, r1, r2, r3, r4, r5, r6⟩
 have HK2 := zh (And.intro hk1 hk2)
 have hqd : Qu T w.drew (.slice (some ⟨b, 0, none⟩) n c) l := hq.only (X := fun _ => False) (Only.drew _ _) (fun _ _ => id) (fun _ _ => id)
 have hx2 : RQ.ok w.drew T (ckV e2.1 ++ [.pointer (some ⟨B2, 0, none⟩)]) e2 := RQ.cells.2 ⟨B2, rfl, RPt.keep o2 (Kept.drew _ _)⟩
 obtain ⟨wA, hrA, hqA, honA, hzA⟩ := hqd.put hn hi hx2
 have hTb : ∀ x, T x → ¬ x = b := fun x hx e => hq.row b hrw (e ▸ hx)
 have hx1 : RQ.ok wA T (ckV e1.1 ++ [.pointer (some ⟨B1, 0, none⟩)]) e1 := RQ.cells.2 ⟨B1, rfl, RPt.keep (RPt.keep o1 (Kept.drew _ _)) (honA.kept hTb)⟩
 obtain ⟨wB, hrB, hqB, honB, hzB⟩ := hqA.put (by rw [List.length_set]; exact hn) hj hx1
 have HRA := zh hrA
 have HRB := zh hrB
 have HQB := zh hqB
 have HOB := zh (show Only w wB (fun x => rowOf (.slice (some ⟨b, 0, none⟩) n c) = some x) from (((Only.drew w _).trans honA).trans honB).more fun x _ e => by rw [hrw, e])
 have HE := zh (And.intro he1 he2)
 clear hq hn o1 o2 he1 he2 hi hj p0 p1 p2 p3 p4 p5 p6 r0 r1 r2 r3 r4 r5 r6 hk1 hk2 hqd hx2 hrA hqA honA hzA hTb hx1 hrB hqB honB hzB hrw
 go_enter Tryz.func139, Tryz.ntmps139
 go_wp2_with fail
 refine wp_region_late (late := [13, 15]) (S1 := fun _ => True) (S := fun u => Sw7 u b i e1 B1 ∧ Sw7 u b j e2 B2) (by kernel_rfl) ?_
 refine zP (i := 0) rfl (fun u hu => by go_simp; try rfl) trivial (fun _ => HK2.out) ?_
 simp only [Act.put, zA, zB, zC, zD, zF, zG]
 refine zP (i := 1) rfl (fun u hu => by go_simp; try rfl) trivial (fun _ => HK2.out) ?_
 simp only [Act.put, zA, zB, zC, zD, zF, zG]
 refine zP (i := 2) rfl (fun u hu => by go_simp; try rfl) trivial (fun _ => HK2.out) ?_
 simp only [Act.put, zA, zB, zC, zD, zF, zG]
 refine zP (i := 3) rfl (fun u hu => by go_simp; try rfl) trivial (fun _ => HK2.out) ?_
 simp only [Act.put, zA, zB, zC, zD, zF, zG]
 refine zP (i := 4) rfl (fun u hu => by go_simp; try rfl) trivial (fun _ => HK2.out) ?_
 simp only [Act.put, zA, zB, zC, zD, zF, zG]
 refine zP (i := 5) rfl (fun u hu => by go_simp; try rfl) trivial (fun _ => HK2.out) ?_
 simp only [Act.put, zA, zB, zC, zD, zF, zG]
 refine zP (i := 6) rfl (fun u hu => by go_simp; try rfl) trivial (fun _ => HK2.out) ?_
 simp only [Act.put, zA, zB, zC, zD, zF, zG]
 refine wpAnyL_take (i := 7) rfl (by kernel_rfl) (fun _ _ _ h => h) (Or.inl ⟨by rfl, (fun u hu => by obtain ⟨_, ⟨p0, p1, p2, p3, p4, p5, p6⟩, r0, r1, r2, r3, r4, r5, r6⟩ := hu; go_simp; try rfl)⟩) trivial (fun _ => HK2.out) ?_
 simp only [Act.put, zA, zB, zC, zD, zF, zG]
 refine zP (i := 8) rfl (fun u hu => by go_simp; try rfl) trivial (fun _ => HK2.out) ?_
 simp only [Act.put, zA, zB, zC, zD, zF, zG]
 refine zP (i := 9) rfl (fun u hu => by go_simp; try rfl) trivial (fun _ => HK2.out) ?_
 simp only [Act.put, zA, zB, zC, zD, zF, zG]
 refine zP (i := 10) rfl (fun u hu => by go_simp; try rfl) trivial (fun _ => HK2.out) ?_
 simp only [Act.put, zA, zB, zC, zD, zF, zG]
 refine wpAnyL_take (i := 11) rfl (by kernel_rfl) (fun _ _ _ h => h) (Or.inl ⟨by rfl, (fun u hu => by obtain ⟨_, ⟨p0, p1, p2, p3, p4, p5, p6⟩, r0, r1, r2, r3, r4, r5, r6⟩ := hu; go_simp; try rfl)⟩) trivial (fun _ => HK2.out) ?_
 simp only [Act.put, zA, zB, zC, zD, zF, zG]
 refine zP (i := 12) rfl (fun u hu => by go_simp; try rfl) trivial (fun _ => HK2.out) ?_
 simp only [Act.put, zA, zB, zC, zD, zF, zG]
 refine zR 13 rfl (fun K hK => ?_)
 refine step_store_run _ (by rfl) _ _ _ (by rfl) _ _ (by rfl) (by rfl) _ HRA.out ?_
 simp only [Act.put, zA, zB, zC, zD, zF, zG]
 refine hK.out _ _ trivial (fun h => absurd (h 13 (by simp)) (by decide)) ?_
 clear hK K
 refine zP (i := 14) rfl (fun u hu => by go_simp; try rfl) trivial (fun h => absurd (h 13 (by simp)) (by decide)) ?_
 simp only [Act.put, zA, zB, zC, zD, zF, zG]
 refine zR 15 rfl (fun K hK => ?_)
 refine step_store_run _ (by rfl) _ _ _ (by rfl) _ _ (by rfl) (by rfl) _ HRB.out ?_
 simp only [Act.put, zA, zB, zC, zD, zF, zG]
 refine hK.out _ _ trivial (fun h => absurd (h 13 (by simp)) (by decide)) ?_
 clear hK K
 refine wpAnyL_done (by kernel_rfl) ?_ _
 go_wp2_with fail
 exact Go.bodyPost_end (v := .tuple #[]) (by simp [results, Tryz.results139, go_sem]) rfl ⟨rfl, ⟨e1, e2, HE.out.1, HE.out.2, HQB.out⟩, HOB.out⟩
structure QC (T : Nat → Prop) (BL : Nat) (la : List Value) (w : World) (v : Value) (l : List QEl) : Prop where
 q : Qu T w v l
 blk : w.heap[BL]? = some (.cells (la ++ [v]).toArray 122 (0, 0))
 al : la.length = 6
 tb : ¬ T BL
 rb : ∀ g, rowOf v = some g → g ≠ BL
 un : UnfT w T
section
variable {T : Nat → Prop} {BL : Nat} {la : List Value} {w w' : World} {v : Value} {l : List QEl}
theorem QC.cell (h : QC T BL la w v l) : w.cell? ⟨BL, 6, none⟩ = some v := by
 rw [cell_of_row _ _ _ _ _ _ h.blk]
 simp [h.al]
theorem QC.froz (h : QC T BL la w v l) : w.frozen? ⟨BL, 6, none⟩ = false := by simp [World.frozen?, h.blk]
theorem QC.below (h : QC T BL la w v l) (hb : Below w.heap.size w w') : QC T BL la w' v l := by
 have hlt := heap_lt h.blk
 refine ⟨h.q.only (X := fun _ => False) (.of_below hb (Nat.le_refl _) _) (fun _ _ => id) (fun _ _ => id), (hb.block _ hlt).trans h.blk, h.al, h.tb, h.rb, fun b hb' => ?_⟩
 obtain ⟨cs, ty, e⟩ := h.un b hb'
 exact ⟨cs, ty, (hb.block b (heap_lt e)).trans e⟩
theorem QC.turned {l' : List QEl} (h : QC T BL la w v l) (hq : Qu T w' v l') (ho : Only w w' (fun x => rowOf v = some x)) : QC T BL la w' v l' := by
 refine ⟨hq, (ho.block _ (heap_lt h.blk) fun e => h.rb _ e rfl).trans h.blk, h.al, h.tb, h.rb, fun b hb => ?_⟩
 obtain ⟨cs, ty, e⟩ := h.un b hb
 exact ⟨cs, ty, (ho.block b (heap_lt e) fun e2 => h.q.row b e2 hb).trans e⟩
end
theorem swap_perm {α : Type} {l : List α} {i j : Nat} {a b : α} (hi : l[i]? = some a) (hj : l[j]? = some b) : ((l.set i b).set j a).Perm l := by
 obtain ⟨h1, rfl⟩ := List.getElem?_eq_some_iff.1 hi
 obtain ⟨h2, rfl⟩ := List.getElem?_eq_some_iff.1 hj
 exact List.set_set_perm h1 h2
set_option linter.unusedSimpArgs false in
set_option maxRecDepth 100000 in
set_option maxHeartbeats 4000000 in
theorem heapUp (T : Nat → Prop) (BL : Nat) (la : List Value) (w : World) (A : Option Addr) (n c : Nat) (l : List QEl) (h : QC T BL la w (.slice A n c) l) (hn : n = l.length) (hs : ∀ e ∈ l, sizeT e.2 ≤ 100000) (hn2 : n ≤ 100000000) (j0 : Nat) (hj0 : j0 < n) :
    Calls Tryz.prog 111 #[.iface 133 (.pointer (some ⟨BL, 6, none⟩)), .int .i64 (j0 : Int)] w fun e w' => e = .returned (.tuple #[]) ∧ (∃ l', QC T BL la w' (.slice A n c) l' ∧ l'.Perm l) ∧ Only w w' (fun x => rowOf (.slice A n c) = some x) := by
 have H := zh h
 have HS := zh hs
 have HN := zh hn
 have hent := entLess
 have hent2 := entSwap
 clear h hs hn
 go_enter Tryz.func111, Tryz.ntmps111
 go_wp2_with fail
 go_loopg [1] j0 (fun gk vj wr => ∃ (j : Nat) (l1 : List QEl), j < n ∧ gk = j ∧ vj = .int .i64 (j : Int) ∧ QC T BL la wr (.slice A n c) l1 ∧ l1.Perm l ∧ Only w wr (fun x => rowOf (.slice A n c) = some x))
 case atStart => exact ⟨j0, l, hj0, rfl, rfl, H.out, .refl _, Only.refl _ _⟩
 case round =>
  obtain ⟨j, l1, hj, hg, rfl, hq, hp, ho⟩ := hrel
  obtain ⟨w1, rfl⟩ := zE wr
  have HG := zh hg
  have HQ := zh hq
  have HP := zh hp
  have HO := zh ho
  have hm := methLess w1 BL A n c hq.cell
  clear hg hq hp ho
  cases j with
  | zero =>
   go_wp2_with fail
   exact Go.bodyPost_end (v := .tuple #[]) (by simp [results, Tryz.results111, go_sem]) rfl ⟨rfl, ⟨l1, HQ.out, HP.out⟩, HO.out⟩
  | succ k =>
   obtain ⟨q, hq2, hqk⟩ : ∃ q : Nat, (k : Int) / 2 = (q : Int) ∧ q ≤ k := ⟨k / 2, by omega, by omega⟩
   have hqe : ((q : Int) == (k : Int) + 1) = false := by
    rw [beq_eq_false_iff_ne]
    omega
   go_wp2_with fail
   have HLL := zh (show n = l1.length by rw [HN.out, HP.out.length_eq])
   have hc := qLess w1 T HQ.out.un A n c l1 HQ.out.q HLL.out (fun e he => HS.out e (HP.out.mem_iff.1 he)) (k + 1) q hj (by omega)
   rw [show ((k + 1 : Nat) : Int) = (k : Int) + 1 by omega] at hc
   refine hc.mono ?_
   clear hc
   rintro e w2 ⟨⟨z, rfl⟩, hb2⟩
   have HQ2 := zh (HQ.out.below hb2)
   have HO2 := zh (HO.out.trans (.of_below hb2 (Nat.le_refl _) _))
   have hm2 := methSwap w2 BL A n c HQ2.out.cell
   clear hb2 hm
   cases z
   ·
    --@4
    go_wp2_with fail
    exact Go.bodyPost_end (v := .tuple #[]) (by simp [results, Tryz.results111, go_sem]) rfl ⟨rfl, ⟨l1, HQ2.out, HP.out⟩, HO2.out⟩
   --@5
   go_wp2_with fail
   have hc := qSwap w2 T A n c l1 HQ2.out.q HLL.out q (k + 1) (by omega) hj
   rw [show ((k + 1 : Nat) : Int) = (k : Int) + 1 by omega] at hc
   refine hc.mono ?_
   clear hc
   rintro e w3 ⟨rfl, ⟨x1, x2, hx1, hx2, hq3⟩, ho3⟩
   have HQ3 := zh (HQ2.out.turned hq3 ho3)
   have HP3 := zh ((swap_perm hx1 hx2).trans HP.out)
   have HO3 := zh (HO2.out.trans ho3)
   clear hx1 hx2 hq3 ho3 hm2
   go_wp2_with fail
   go_roundg q
   case measure => rw [HG.out]; omega
   case rel => exact ⟨q, _, by omega, rfl, rfl, HQ3.out, HP3.out, HO3.out⟩
set_option linter.unusedSimpArgs false in
set_option maxRecDepth 100000 in
set_option maxHeartbeats 4000000 in
theorem heapDown (T : Nat → Prop) (BL : Nat) (la : List Value) (w : World) (A : Option Addr) (n c : Nat) (l : List QEl) (h : QC T BL la w (.slice A n c) l) (hn : n = l.length) (hs : ∀ e ∈ l, sizeT e.2 ≤ 100000) (hn2 : n ≤ 100000000) (m : Nat) (hm0 : m ≤ n) (i0 : Nat) (hi0 : i0 < n) :
    Calls Tryz.prog 78 #[.iface 133 (.pointer (some ⟨BL, 6, none⟩)), .int .i64 (i0 : Int), .int .i64 (m : Int)] w fun e w' => (∃ z, e = .returned (.bool z)) ∧ (∃ l', QC T BL la w' (.slice A n c) l' ∧ l'.Perm l) ∧ Only w w' (fun x => rowOf (.slice A n c) = some x) := by
 have H := zh h
 have HS := zh hs
 have HN := zh hn
 have hent := entLess
 have hent2 := entSwap
 clear h hs hn
 go_enter Tryz.func78, Tryz.ntmps78
 go_wp2_with fail
 go_loopg [7] (n - i0) (fun gk vi wr => ∃ (i : Nat) (l1 : List QEl), i < n ∧ gk = n - i ∧ vi = .int .i64 (i : Int) ∧ QC T BL la wr (.slice A n c) l1 ∧ l1.Perm l ∧ Only w wr (fun x => rowOf (.slice A n c) = some x))
 case atStart => exact ⟨i0, l, hi0, rfl, rfl, H.out, .refl _, Only.refl _ _⟩
 case round =>
  obtain ⟨i, l1, hi, hg, rfl, hq, hp, ho⟩ := hrel
  obtain ⟨w1, rfl⟩ := zE wr
  have HG := zh hg
  have HQ := zh hq
  have HP := zh hp
  have HO := zh ho
  have hm := methLess w1 BL A n c hq.cell
  have HLL := zh (show n = l1.length by rw [HN.out, hp.length_eq])
  clear hg hq hp ho
  by_cases hj1 : 2 * i + 1 < m
  ·
   obtain ⟨j1, hj1e⟩ : ∃ j1, j1 = 2 * i + 1 := ⟨_, rfl⟩
   have hj1I : 2 * (i : Int) + 1 = (j1 : Int) := by omega
   have hj1m : (j1 : Int) < (m : Int) := by omega
   have hj1n : j1 < n := by omega
   have hji : i < j1 := by omega
   have h0 : (0 : Int) ≤ (j1 : Int) := by omega
   have HJ1 := zh hj1e
   clear hj1 hj1e
   by_cases hj2 : j1 + 1 < m
   ·
    obtain ⟨j2, hj2e⟩ := zE (j1 + 1)
    have hj2I : (j1 : Int) + 1 = (j2 : Int) := by omega
    have hj2m : (j2 : Int) < (m : Int) := by omega
    have hj2n : j2 < n := by omega
    have hji2 : i < j2 := by omega
    clear hj2 hj2e
    go_wp2_with fail
    refine (qLess w1 T HQ.out.un A n c l1 HQ.out.q HLL.out (fun e he => HS.out e (HP.out.mem_iff.1 he)) j2 j1 hj2n hj1n).mono ?_
    rintro e w2 ⟨⟨z2, rfl⟩, hb2⟩
    have HQ2 := zh (HQ.out.below hb2)
    have HO2 := zh (HO.out.trans (.of_below hb2 (Nat.le_refl _) _))
    have hmL := methLess w2 BL A n c HQ2.out.cell
    clear hb2 hm
    cases z2
    ·
     go_wp2_with fail
     refine (qLess w2 T HQ2.out.un A n c l1 HQ2.out.q HLL.out (fun e he => HS.out e (HP.out.mem_iff.1 he)) j1 i (by omega) hi).mono ?_
     rintro e w5 ⟨⟨z5, rfl⟩, hb5⟩
     have HQ5 := zh (HQ2.out.below hb5)
     have HO5 := zh (HO2.out.trans (.of_below hb5 (Nat.le_refl _) _))
     have hm5 := methSwap w5 BL A n c HQ5.out.cell
     clear hb5 hmL
     cases z5
     ·
      go_wp2_with fail
      go_ret
      exact ⟨⟨_, rfl⟩, ⟨l1, HQ5.out, HP.out⟩, HO5.out⟩
     go_wp2_with fail
     refine (qSwap w5 T A n c l1 HQ5.out.q HLL.out i j1 hi (by omega)).mono ?_
     rintro e w6 ⟨rfl, ⟨x1, x2, hx1, hx2, hq6⟩, ho6⟩
     have HQ6 := zh (HQ5.out.turned hq6 ho6)
     have HP6 := zh ((swap_perm hx1 hx2).trans HP.out)
     have HO6 := zh (HO5.out.trans ho6)
     clear hx1 hx2 hq6 ho6 hm5
     go_wp2_with fail
     go_roundg (n - j1)
     case measure => rw [HG.out]; omega
     case rel => exact ⟨j1, _, by omega, rfl, rfl, HQ6.out, HP6.out, HO6.out⟩
    go_wp2_with fail
    refine (qLess w2 T HQ2.out.un A n c l1 HQ2.out.q HLL.out (fun e he => HS.out e (HP.out.mem_iff.1 he)) j2 i (by omega) hi).mono ?_
    rintro e w5 ⟨⟨z5, rfl⟩, hb5⟩
    have HQ5 := zh (HQ2.out.below hb5)
    have HO5 := zh (HO2.out.trans (.of_below hb5 (Nat.le_refl _) _))
    have hm5 := methSwap w5 BL A n c HQ5.out.cell
    clear hb5 hmL
    cases z5
    ·
     go_wp2_with fail
     go_ret
     exact ⟨⟨_, rfl⟩, ⟨l1, HQ5.out, HP.out⟩, HO5.out⟩
    go_wp2_with fail
    refine (qSwap w5 T A n c l1 HQ5.out.q HLL.out i j2 hi (by omega)).mono ?_
    rintro e w6 ⟨rfl, ⟨x1, x2, hx1, hx2, hq6⟩, ho6⟩
    have HQ6 := zh (HQ5.out.turned hq6 ho6)
    have HP6 := zh ((swap_perm hx1 hx2).trans HP.out)
    have HO6 := zh (HO5.out.trans ho6)
    clear hx1 hx2 hq6 ho6 hm5
    go_wp2_with fail
    go_roundg (n - j2)
    case measure => rw [HG.out]; omega
    case rel => exact ⟨j2, _, by omega, rfl, rfl, HQ6.out, HP6.out, HO6.out⟩
   have hj2I : ¬ (j1 : Int) + 1 < (m : Int) := by omega
   go_wp2_with fail
   refine (qLess w1 T HQ.out.un A n c l1 HQ.out.q HLL.out (fun e he => HS.out e (HP.out.mem_iff.1 he)) j1 i (by omega) hi).mono ?_
   rintro e w5 ⟨⟨z5, rfl⟩, hb5⟩
   have HQ5 := zh (HQ.out.below hb5)
   have HO5 := zh (HO.out.trans (.of_below hb5 (Nat.le_refl _) _))
   have hm5 := methSwap w5 BL A n c HQ5.out.cell
   clear hb5 hm
   cases z5
   ·
    go_wp2_with fail
    go_ret
    exact ⟨⟨_, rfl⟩, ⟨l1, HQ5.out, HP.out⟩, HO5.out⟩
   go_wp2_with fail
   refine (qSwap w5 T A n c l1 HQ5.out.q HLL.out i j1 hi (by omega)).mono ?_
   rintro e w6 ⟨rfl, ⟨x1, x2, hx1, hx2, hq6⟩, ho6⟩
   have HQ6 := zh (HQ5.out.turned hq6 ho6)
   have HP6 := zh ((swap_perm hx1 hx2).trans HP.out)
   have HO6 := zh (HO5.out.trans ho6)
   clear hx1 hx2 hq6 ho6 hm5
   go_wp2_with fail
   go_roundg (n - j1)
   case measure => rw [HG.out]; omega
   case rel => exact ⟨j1, _, by omega, rfl, rfl, HQ6.out, HP6.out, HO6.out⟩
  have hj1I : (m : Int) ≤ 2 * (i : Int) + 1 := by omega
  go_wp2_with fail
  go_ret
  exact ⟨⟨_, rfl⟩, ⟨l1, HQ.out, HP.out⟩, HO.out⟩
end Go.Proofs.YtjnbjdbndbbanaaGreatDoor
