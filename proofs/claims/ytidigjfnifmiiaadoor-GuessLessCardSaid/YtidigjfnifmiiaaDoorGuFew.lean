/- slices.DeleteFunc of words; parlkeep5.fewer: at most three examples and three counterexamples over so many terminals. -/
import Derived.Test.YtidigjfnifmiiaaDoorSlIdxFn
import Derived.Test.YtidigjfnifmiiaaDoorLate
import Derived.Test.YtidigjfnifmiiaaDoorGuEx
import Derived.StillTailTactics
import Derived.Lib.SliceRun
import Derived.Laws.IdiomCopy
import Derived.Laws.EntriesVeiled
namespace Go.Proofs.YtidigjfnifmiiaaDoor
open Go.RowKit

section
variable {w : World} {base n c x gB : Nat} {E : TypeId} {xs : List Value}
theorem Own.atD (h : Own w base E 1 (.slice (some ⟨gB, 0, none⟩) n c) n xs) (hx : x < n) : w.cell? ⟨gB, x, none⟩ = xs[x]? ∧ w.frozen? ⟨gB, x, none⟩ = false ∧ base ≤ gB ∧ gB < w.heap.size := by
  obtain ⟨g, e, hb, ho⟩ := h.addr (by omega)
  injection e with e
  injection e with e _
  subst e
  have h1 := ho.cellAt x (by omega)
  refine ⟨h1, ho.frozenAt x, hb, ?_⟩
  have hl := h.len
  rw [List.getElem?_eq_getElem (show x < xs.length by omega)] at h1
  exact cell_lt h1
theorem Own.putD (h : Own w base E 1 (.slice (some ⟨gB, 0, none⟩) n c) n xs) (hx : x < n) (v : Value) : Own (w.setCell ⟨gB, x, none⟩ v) base E 1 (.slice (some ⟨gB, 0, none⟩) n c) n (xs.set x v) := by
  obtain ⟨g, e, hb, ho⟩ := h.addr (by omega)
  injection e with e
  injection e with e _
  subst e
  exact .inl (ho.stored x v).1
end
theorem setCells_other {b : Nat} : ∀ (vs : List Value) (o : Nat) (w : World) (k : Nat), k ≠ b → (w.setCells b o vs).heap[k]? = w.heap[k]?
  | [], _, _, _, _ => rfl
  | v :: vs, o, w, k, hk => by
    rw [World.setCells, setCells_other vs (o + 1) _ k hk]
    exact Below.heap_setCell w ⟨b, o, none⟩ v k (fun e => hk e)
theorem setCells_low {b : Nat} : ∀ (vs : List Value) (o : Nat) (w : World) (k : Nat), k < o → (w.setCells b o vs).cell? ⟨b, k, none⟩ = w.cell? ⟨b, k, none⟩
  | [], _, _, _, _ => rfl
  | v :: vs, o, w, k, hk => by
    rw [World.setCells, setCells_low vs (o + 1) _ k (by omega)]
    exact World.cell?_setCell_other w _ _ v (fun e => by injection e; omega)
theorem setCells_below {b base : Nat} (hb : base ≤ b) : ∀ (vs : List Value) (o : Nat) (a w : World), Below base a w → Below base a (w.setCells b o vs)
  | [], _, _, _, h => h
  | v :: vs, o, a, w, h => by
    rw [World.setCells]
    exact setCells_below hb vs (o + 1) a _ (h.setCell hb v)
/-- the rows that are left over -/
def keepW (q : List Int → Bool) (l : List (List Int)) : List (List Int) := l.filter fun x => !q x
theorem keepW_none {q : List Int → Bool} {l : List (List Int)} (h : ∀ (j : Nat) (y : List Int), l[j]? = some y → q y = false) : keepW q l = l := by
  refine List.filter_eq_self.2 fun y hy => ?_
  obtain ⟨j, hj⟩ := List.getElem?_of_mem hy
  rw [h j y hj]; rfl
theorem keepW_snoc {q : List Int → Bool} {l : List (List Int)} {j : Nat} {y : List Int} (h : l[j]? = some y) : keepW q (l.take (j + 1)) = keepW q (l.take j) ++ (if q y then [] else [y]) := by
  rw [List.take_add_one, h, keepW, List.filter_append]
  cases hq : q y <;> simp [keepW, hq]
theorem first_hit (q : List Int → Bool) : ∀ l : List (List Int), (∀ (j : Nat) (y : List Int), l[j]? = some y → q y = false) ∨ ∃ k x, l[k]? = some x ∧ q x = true ∧ ∀ (j : Nat) (y : List Int), j < k → l[j]? = some y → q y = false
  | [] => .inl fun j y h => by simp at h
  | a :: l => by
    cases hq : q a with
    | true => exact .inr ⟨0, a, rfl, hq, fun j y h => absurd h (by omega)⟩
    | false =>
      rcases first_hit q l with h | ⟨k, x, h1, h2, h3⟩
      · refine .inl fun j y hj => ?_
        cases j with
        | zero => injection hj with hj; rw [← hj]; exact hq
        | succ j => exact h j y hj
      · refine .inr ⟨k + 1, x, h1, h2, fun j y hj hy => ?_⟩
        cases j with
        | zero => injection hy with hy; rw [← hy]; exact hq
        | succ j => exact h3 j y (by omega) hy
/-- the cells of a row of words -/
def AllSl (xs : List Value) : Prop := ∀ u ∈ xs, ∃ A m c, u = Value.slice A m c
theorem Cells.allSl {w : World} {S : Nat → Prop} : ∀ {l : List (List Int)} {xs : List Value}, Cells RIV w S xs l → AllSl xs
  | [], _, h => by
    rw [show _ = [] from h]
    intro u hu
    cases hu
  | a :: l, _, h => by
    obtain ⟨cs, rest, rfl, ⟨A, m, c, rfl, _⟩, h2⟩ := h
    intro u hu
    rcases List.mem_cons.1 hu with rfl | hu
    · exact ⟨A, m, c, rfl⟩
    · exact Cells.allSl h2 u hu
/-- what is changed: the row, and new memory -/
structure RowFr (base : Nat) (v : Value) (w w' : World) : Prop where
  bel : Below base w w'
  blk : ∀ b, b < w.heap.size → rowOf v ≠ some b → w'.heap[b]? = w.heap[b]?
theorem RowFr.kept {base : Nat} {v : Value} {w w' : World} (h : RowFr base v w w') {S : Nat → Prop} (hS : ∀ b, S b → rowOf v ≠ some b) : Kept S w w' := fun p u hp hu => by
  rw [World.cell?_of_block (h.blk p.block (cell_lt hu) (hS _ hp))]; exact hu
/-- what the function tells, as long as its box is as it was -/
def TellsB (P : Program) (Bt : Nat) (vT : Value) (G : List Int → Prop) (q : List Int → Bool) (F : FuncId) (caps : Array Value) : Prop :=
  ∀ (u : World), u.cell? ⟨Bt, 0, none⟩ = some vT → ∀ (x : List Int) (A : Option Addr) (m c : Nat) (S : Nat → Prop), Sl Rep.int u S A m c x → G x → Calls P F (#[.slice A m c] ++ caps) u fun e w' => e = .returned (.bool (q x)) ∧ Below u.heap.size u w'
set_option linter.unusedSimpArgs false in
set_option maxRecDepth 100000 in
set_option maxHeartbeats 8000000 in
theorem deleteFnW (w : World) (base : Nat) (F : FuncId) (caps : Array Value) (q : List Int → Bool) (G : List Int → Prop) (Bt : Nat) (vT : Value) (he : ∀ (args : Array Value) (u : World), (callFunc F args).run Tryd.prog u = .ok (.enter F args) u) (hF : TellsB Tryd.prog Bt vT G q F caps)
    (hBt : w.cell? ⟨Bt, 0, none⟩ = some vT) (Z : Nat → Prop) (A : Option Addr) (n c : Nat) (l : List (List Int)) (xs : List Value) (ho : Own w base 22 1 (.slice A n c) n xs) (hcs : Cells RIV w Z xs l) (hZ : ∀ b, Z b → rowOf (.slice A n c) ≠ some b) (hBr : rowOf (.slice A n c) ≠ some Bt) (hbase : base ≤ w.heap.size)
    (hG : ∀ x ∈ l, G x) (hn : n ≤ 1000) :
    Calls Tryd.prog 38 #[.slice A n c, .func (.func F) #[] caps] w fun e w' => (∃ A' n' c', e = .returned (.slice A' n' c') ∧ Sl RIV w' (fun b => Z b ∨ rowOf (.slice A n c) = some b) A' n' c' (keepW q l)) ∧ RowFr base (.slice A n c) w w' := by
  have hlen : n = l.length := by have h1 := hcs.len; have h2 := ho.len; rw [show RIV.size = 1 from rfl] at h1; omega
  have hcap : n ≤ c ∧ c ≤ maxLen := by
    obtain ⟨A', c', e, h1, h2⟩ := ho.form
    injection e with _ _ e3
    exact ⟨by omega, by omega⟩
  have hrow : ∀ g, A = some ⟨g, 0, none⟩ → 0 < n → rowOf (.slice A n c) = some g := fun g e h0 => by
    obtain ⟨c', rfl⟩ : ∃ c', c = c' + 1 := ⟨c - 1, by omega⟩
    rw [e]; rfl
  have hsl : Sl RIV w (fun b => Z b ∨ rowOf (.slice A n c) = some b) A n c l := by
    refine ⟨xs, hlen, hcap.1, ⟨ho.len, fun h0 => ?_⟩, hcs.more fun b hb => .inl hb⟩
    obtain ⟨g, e, hb, hor⟩ := ho.addr h0
    refine ⟨g, 0, e, .inr (hrow g e h0), fun j u hu => ?_⟩
    rw [e] at ho
    have hj : j < n := by
      have := ho.len
      rcases Nat.lt_or_ge j xs.length with h | h
      · omega
      · rw [List.getElem?_eq_none h] at hu; cases hu
    rw [Nat.zero_add]
    exact ((ho.atD hj).1).trans hu
  have HF := Lib.hid hF
  have HBT := Lib.hid hBt
  have HO := Lib.hid ho
  have HCS := Lib.hid hcs
  have HZ := Lib.hid hZ
  have HBR := Lib.hid hBr
  have HG := Lib.hid hG
  have HSL := Lib.hid hsl
  have HROW := Lib.hid hrow
  have HLEN := Lib.hid hlen
  have hcap1 := hcap.1
  have hcap2 := hcap.2
  have HE := Lib.hid he
  clear hF hBt ho hcs hZ hBr hG hsl hrow hlen he hcap
  go_enter Tryd.func38, Tryd.ntmps38
  --@1
  go_wp2_with fail
  refine (indexFnW w F caps G q A n c _ l HE.out (fun u hu x A m c S hs hx => HF.out u ((hu.cell (cell_lt HBT.out)).trans HBT.out) x A m c S hs hx) HSL.out HG.out (by omega)).mono ?_
  rintro e w1 ⟨rfl, hb1⟩
  have HB1 := Lib.hid hb1
  have hz1 := hb1.size
  clear hb1
  rcases first_hit q l with hno | ⟨k0, x0, hx0, hq0, hno⟩
  · rw [idxA_none hno]
    have HK := Lib.hid (keepW_none hno)
    --@2
    go_wp2_with fail
    go_ret
    refine ⟨⟨A, n, c, rfl, ?_⟩, HB1.out.mono hbase, fun b hb _ => HB1.out.block b hb⟩
    rw [HK.out]
    exact HSL.out.below HB1.out
  · rw [idxA_hit hx0 hq0 hno]
    have hk0 : k0 < n := by
      rcases Nat.lt_or_ge k0 l.length with h | h
      · have := HLEN.out; omega
      · rw [List.getElem?_eq_none h] at hx0; cases hx0
    have HK0 := Lib.hid (show keepW q (l.take (k0 + 1)) = l.take k0 by
      rw [keepW_snoc hx0, hq0, if_pos rfl, List.append_nil]
      exact keepW_none fun j y hj => hno j y (by
        rcases Nat.lt_or_ge j k0 with h | h
        · exact h
        · rw [List.getElem?_take, if_neg (by omega)] at hj; cases hj) (by
        rcases Nat.lt_or_ge j k0 with h | h
        · rw [List.getElem?_take, if_pos h] at hj; exact hj
        · rw [List.getElem?_take, if_neg (by omega)] at hj; cases hj))
    obtain ⟨g, rfl, hgb, _⟩ := HO.out.addr (by omega)
    have HRG := Lib.hid (HROW.out g rfl (by omega))
    have hge : ((k0 : Int) == -1) = false := by simp
    clear hno hx0 hq0
    --@3
    go_wp2_with fail
    go_loopg [5, 6] (n - (k0 + 1)) (fun gk vi vj wr => ∃ (i j : Nat) (xs' : List Value), i < j ∧ j ≤ n ∧ gk = n - j ∧ vi = .int .i64 i ∧ vj = .int .i64 j ∧ Own wr base 22 1 (.slice (some ⟨g, 0, none⟩) n c) n xs' ∧ Cells RIV wr Z (xs'.take i) (keepW q (l.take j)) ∧ Cells RIV wr Z (xs'.drop j) (l.drop j) ∧ AllSl xs' ∧ RowFr base (.slice (some ⟨g, 0, none⟩) n c) w wr)
    case atStart =>
      refine ⟨k0, k0 + 1, xs, Nat.lt_succ_self _, hk0, rfl, rfl, by go_num, HO.out.below HB1.out (Nat.le_refl _), ?_, ?_, HCS.out.allSl, HB1.out.mono hbase, fun b hb _ => HB1.out.block b hb⟩
      · rw [HK0.out]
        have := (HCS.out.keep (Kept.below HB1.out)).take (k := k0)
        rwa [show RIV.size = 1 from rfl, Nat.mul_one] at this
      · have := (HCS.out.keep (Kept.below HB1.out)).drop (k := k0 + 1)
        rwa [show RIV.size = 1 from rfl, Nat.mul_one] at this
    case round =>
      obtain ⟨i, j, xs', hij, hjn, hgk, rfl, rfl, ho, hc1, hc2, hall, hfr⟩ := hrel
      have HALL := Lib.hid hall
      have HGK := Lib.hid hgk
      have HO3 := Lib.hid ho
      have HC1 := Lib.hid hc1
      have HC2 := Lib.hid hc2
      have HFR := Lib.hid hfr
      have hzr := hfr.bel.size
      obtain ⟨w3, rfl⟩ : ∃ w3 : World, w3 = wr := ⟨_, rfl⟩
      clear hgk ho hc1 hc2 hfr hall
      by_cases hlt : j < n
      · have hxl : xs'.length = n := by have := HO3.out.len; omega
        have hcons : xs'.drop j = xs'[j] :: xs'.drop (j + 1) := List.drop_eq_getElem_cons (by omega)
        have hlj : j < l.length := by have := HLEN.out; omega
        have hcons2 : l.drop j = l[j] :: l.drop (j + 1) := List.drop_eq_getElem_cons hlj
        have hc := HC2.out
        rw [hcons, hcons2] at hc
        obtain ⟨cs, rest, e, ⟨A2, m2, c2, hcs2, hsx⟩, hrest⟩ := hc
        subst hcs2
        injection e with e1 e2
        subst e2
        obtain ⟨y, hy⟩ : ∃ y, y = l[j] := ⟨_, rfl⟩
        have hyl : l[j]? = some y := by rw [hy]; exact List.getElem?_eq_getElem hlj
        rw [← hy] at hsx
        have HYL := Lib.hid hyl
        have HXJ := Lib.hid (show xs'[j]? = some (.slice A2 m2 c2) by rw [← e1]; exact List.getElem?_eq_getElem (by omega))
        have HSX := Lib.hid hsx
        have HRE := Lib.hid hrest
        obtain ⟨hcj, _, _, hgl⟩ := HO3.out.atD hlt
        rw [HXJ.out] at hcj
        have hjI : (j : Int) < (n : Int) := by omega
        have hj0 : (0 : Int) ≤ (j : Int) := by omega
        have he := HE.out
        clear hcons hcons2 e1 hsx hrest hyl hy hxl
        --@4
        go_wp2_with fail
        refine (HF.out w3 ((HFR.out.kept (S := fun b => b = Bt) (fun b hb => hb ▸ HBR.out)) _ _ rfl HBT.out) y A2 m2 c2 _ HSX.out (HG.out y (List.mem_of_getElem? HYL.out))).mono ?_
        rintro e w4 ⟨rfl, hb4⟩
        have hz4 := hb4.size
        have HO4 := Lib.hid (HO3.out.below hb4 (Nat.le_refl _))
        have HC4 := Lib.hid (HC1.out.keep (Kept.below hb4))
        have HR4 := Lib.hid (HRE.out.keep (Kept.below hb4))
        have HSX4 := Lib.hid (HSX.out.below hb4)
        have HFR4 := Lib.hid (show RowFr base (.slice (some ⟨g, 0, none⟩) n c) w w4 from ⟨HFR.out.bel.trans (hb4.mono (by omega)), fun b hb hne => (hb4.block b (by omega)).trans (HFR.out.blk b hb hne)⟩)
        obtain ⟨qv, hqv⟩ : ∃ qv, q y = qv := ⟨_, rfl⟩
        rw [hqv]
        have HQ := Lib.hid hqv
        clear hb4 hqv hcj
        cases qv with
        | true =>
          have HK := Lib.hid (show keepW q (l.take (j + 1)) = keepW q (l.take j) by rw [keepW_snoc HYL.out, HQ.out, if_pos rfl, List.append_nil])
          --@5
          go_wp2_with fail
          go_roundg (n - (j + 1))
          case measure => rw [HGK.out]; omega
          case rel => exact ⟨i, j + 1, xs', by omega, by omega, rfl, rfl, by go_num, HO4.out, by rw [HK.out]; exact HC4.out, HR4.out, HALL.out, HFR4.out⟩
        | false =>
          have HK := Lib.hid (show keepW q (l.take (j + 1)) = keepW q (l.take j) ++ [y] by rw [keepW_snoc HYL.out, HQ.out]; rfl)
          have hil : i < xs'.length := by have := HO4.out.len; omega
          obtain ⟨hci, hfi, _, _⟩ := HO4.out.atD (x := i) (by omega)
          rw [List.getElem?_eq_getElem hil] at hci
          obtain ⟨A9, m9, c9, h9⟩ := HALL.out xs'[i] (List.getElem_mem hil)
          rw [h9] at hci
          have hiI : (i : Int) < (n : Int) := by omega
          have hi0 : (0 : Int) ≤ (i : Int) := by omega
          have HO5 := Lib.hid (HO4.out.putD (x := i) (by omega) (.slice A2 m2 c2))
          have hks : ∀ b, Z b → ¬ b = g := fun b hb e => HZ.out b hb (by rw [HRG.out, e])
          have HT5 := Lib.hid (show Cells RIV (w4.setCell ⟨g, i, none⟩ (.slice A2 m2 c2)) Z ((xs'.set i (.slice A2 m2 c2)).take (i + 1)) (keepW q (l.take (j + 1))) by
            have e : (xs'.set i (.slice A2 m2 c2)).take (i + 1) = xs'.take i ++ [.slice A2 m2 c2] := by
              rw [List.take_add_one, List.take_set_of_le (Nat.le_refl i), List.getElem?_set_self hil]; rfl
            rw [e, HK.out]
            exact (HC4.out.append (Cells.single ⟨A2, m2, c2, rfl, HSX4.out⟩)).keep (Kept.setCell _ _ _ _ fun h => hks _ h rfl))
          have HD5 := Lib.hid (show Cells RIV (w4.setCell ⟨g, i, none⟩ (.slice A2 m2 c2)) Z ((xs'.set i (.slice A2 m2 c2)).drop (j + 1)) (l.drop (j + 1)) by
            rw [List.drop_set_of_lt (by omega)]
            exact HR4.out.keep (Kept.setCell _ _ _ _ fun h => hks _ h rfl))
          have HA5 := Lib.hid (show AllSl (xs'.set i (.slice A2 m2 c2)) from fun u hu => by
            rcases List.mem_or_eq_of_mem_set hu with h | h
            · exact HALL.out u h
            · exact ⟨_, _, _, h⟩)
          have HFR5 := Lib.hid (show RowFr base (.slice (some ⟨g, 0, none⟩) n c) w (w4.setCell ⟨g, i, none⟩ (.slice A2 m2 c2)) from ⟨HFR4.out.bel.setCell hgb _, fun b hb hne => (Below.heap_setCell _ _ _ _ (fun e => hne (by rw [HRG.out]; exact congrArg some e.symm))).trans (HFR4.out.blk b hb hne)⟩)
          clear h9 hil hks
          --@6
          go_wp2_with fail
          go_roundg (n - (j + 1))
          case measure => rw [HGK.out]; omega
          case rel => exact ⟨i + 1, j + 1, _, by omega, by omega, rfl, by go_num, by go_num, HO5.out, HT5.out, HD5.out, HA5.out, HFR5.out⟩
      · obtain rfl : j = n := by omega
        have hxl : xs'.length = j := by have := HO3.out.len; omega
        have hcut := fun u => tIntssE.ll (some ⟨g, 0, none⟩) j c (i : Int) (by omega) (by omega) u
        have e4 : (if c = (i : Int).toNat then (some ⟨g, 0, none⟩ : Option Addr) else (some ⟨g, 0, none⟩ : Option Addr).map (·.add ((i : Int).toNat * 1))) = some ⟨g, i, none⟩ := by
          rw [Int.toNat_natCast, if_neg (by omega), Nat.mul_one]
          by_cases h0 : i = 0 <;> simp [Addr.add, h0]
        rw [e4, Int.toNat_natCast] at hcut
        have hclr := Lib.run_clear_slice (P := Tryd.prog) w3 44 22 0 (.slice none 0 0) (by kernel_rfl) (fun _ => by kernel_rfl) rfl rfl g i (j - i) (c - i) (by omega) (fun p hp => by
          rw [(HO3.out.atD (x := i + p) (by omega)).1, List.getElem?_eq_getElem (by omega)]; rfl) (fun p hp => (HO3.out.atD (x := i + p) (by omega)).2.1)
        have hlast := fun u => tIntssE.hN (some ⟨g, 0, none⟩) j c i (by omega) u
        have HC9 := Lib.hid (show Cells RIV (w3.setCells g i (List.replicate (j - i) (.slice none 0 0))) Z (xs'.take i) (keepW q l) by
          have h := HC1.out
          have e9 : l.take j = l := List.take_of_length_le (by have := HLEN.out; omega)
          rw [e9] at h
          exact h.keep fun p u hp hu => (World.cell?_of_block (w := w3) (setCells_other _ i w3 _ fun e => HZ.out _ hp (by rw [HRG.out, e]))).trans hu)
        have HRD := Lib.hid (show Rd (w3.setCells g i (List.replicate (j - i) (.slice none 0 0))) (fun b => Z b ∨ rowOf (.slice (some ⟨g, 0, none⟩) j c) = some b) 1 (some ⟨g, 0, none⟩) i (xs'.take i) from ⟨by rw [List.length_take]; omega, fun _ => ⟨g, 0, rfl, .inr HRG.out, fun p u hu => by
          have hpi : p < i := by
            rcases Nat.lt_or_ge p i with h | h
            · exact h
            · rw [List.getElem?_take, if_neg (by omega)] at hu; cases hu
          rw [Nat.zero_add, setCells_low _ _ _ _ hpi, (HO3.out.atD (x := p) (by omega)).1]
          rw [List.getElem?_take, if_pos hpi] at hu
          exact hu⟩⟩)
        have HF9 := Lib.hid (show RowFr base (.slice (some ⟨g, 0, none⟩) j c) w (w3.setCells g i (List.replicate (j - i) (.slice none 0 0))) from ⟨setCells_below hgb _ _ _ _ HFR.out.bel, fun b hb hne => (setCells_other _ _ _ _ fun e => hne (by rw [HRG.out, e])).trans (HFR.out.blk b hb hne)⟩)
        have HKL := Lib.hid (show i = (keepW q l).length by
          have h := HC9.out.len
          have h2 : (xs'.take i).length = i := by rw [List.length_take]; omega
          rw [h2, show RIV.size = 1 from rfl, Nat.mul_one] at h
          exact h)
        clear e4 hxl
        --@7
        go_wp2_with fail
        go_ret
        exact ⟨⟨some ⟨g, 0, none⟩, i, c, rfl, _, HKL.out, by omega, HRD.out, HC9.out.more fun b hb => .inl hb⟩, HF9.out⟩

theorem idxFn_any (q : Int → Bool) (l : List Int) : decide (0 ≤ idxFn q l) = l.any q := by
  unfold idxFn
  cases h : l.findIdx? q with
  | none =>
    rw [List.findIdx?_eq_none_iff] at h
    have : l.any q = false := by rw [List.any_eq_false]; intro x hx; simp [h x hx]
    rw [this]; rfl
  | some i =>
    rw [List.findIdx?_eq_some_iff_getElem] at h
    obtain ⟨hi, hq, _⟩ := h
    rw [List.any_eq_true.2 ⟨l[i], List.getElem_mem hi, hq⟩]
    simp
def tooBig (T : Int) (x : List Int) : Bool := x.any fun y => decide (T ≤ y)
set_option maxHeartbeats 1000000 in
theorem fewGe (w : World) (Bt : Nat) (T : Int) (hB : w.cell? ⟨Bt, 0, none⟩ = some (.int .i64 T)) (x : Int) :
    Calls Tryd.prog 37 #[.int .i64 x, .pointer (some ⟨Bt, 0, none⟩)] w fun e w' => e = .returned (.bool (decide (T ≤ x))) ∧ Below w.heap.size w w' := by
  go_enter Tryd.func37, Tryd.ntmps37
  go_wp2_with fail
  go_ret
  exact ⟨rfl, Below.refl _ _⟩
theorem tellsGe (w : World) (Bt : Nat) (T : Int) (hB : w.cell? ⟨Bt, 0, none⟩ = some (.int .i64 T)) :
    TellsI Tryd.prog w (fun _ => True) (fun y => decide (T ≤ y)) 37 #[.pointer (some ⟨Bt, 0, none⟩)] := fun u hu x _ => fewGe u Bt T ((hu.cell (cell_lt hB)).trans hB) x
theorem entersGe : ∀ (args : Array Value) (u : World), (callFunc 37 args).run Tryd.prog u = .ok (.enter 37 args) u := enters_of Tryd.func37 (by kernel_rfl) rfl
theorem entersBig : ∀ (args : Array Value) (u : World), (callFunc 35 args).run Tryd.prog u = .ok (.enter 35 args) u := enters_of Tryd.func35 (by kernel_rfl) rfl
set_option maxHeartbeats 1000000 in
theorem fewBig (w : World) (Bt : Nat) (T : Int) (hB : w.cell? ⟨Bt, 0, none⟩ = some (.int .i64 T)) (x : List Int) (A : Option Addr) (m c : Nat) (S : Nat → Prop) (hs : Sl Rep.int w S A m c x) (hx : x.length ≤ 100) :
    Calls Tryd.prog 35 #[.slice A m c, .pointer (some ⟨Bt, 0, none⟩)] w fun e w' => e = .returned (.bool (tooBig T x)) ∧ Below w.heap.size w w' := by
  have HB := Lib.hid hB
  have HS := Lib.hid hs
  have hm : m ≤ 100 := by have := hs.len; omega
  clear hB hs
  have he := entersGe
  go_enter Tryd.func35, Tryd.ntmps35
  go_wp2_with fail
  refine (containsFnInt w _ _ _ _ A m c _ x entersGe (tellsGe w Bt T HB.out) HS.out.ints (fun _ _ => trivial) (by omega)).mono ?_
  rintro e w1 ⟨rfl, hb1⟩
  have HB1 := Lib.hid hb1
  clear hb1 he
  go_wp2_with fail
  go_ret
  exact ⟨ret_bool (idxFn_any _ _), HB1.out⟩
theorem tellsBig (Bt : Nat) (T : Int) : TellsB Tryd.prog Bt (.int .i64 T) (fun x => x.length ≤ 100) (tooBig T) 35 #[.pointer (some ⟨Bt, 0, none⟩)] := fun u hu x A m c S hs hx => fewBig u Bt T hu x A m c S hs hx
theorem Own.rowFr {w w' : World} {base base' size n : Nat} {E : TypeId} {v v' : Value} {xs : List Value} (h : Own w base E size v n xs) (hf : RowFr base' v' w w') (hne : ∀ g, rowOf v' = some g → rowOf v ≠ some g) : Own w' base E size v n xs :=
  h.kept (row := rowOf v') ⟨hf.bel.os, hf.bel.tape, hf.bel.output, hf.bel.size, fun k hk he => hf.blk k hk he.symm⟩ hne
/-- few examples -/
structure FewOk (d : DfaD) (T : Int) (ys ns : List (List Int)) : Prop where
  ly : ys.length ≤ 3
  ln : ns.length ≤ 3
  yes : ∀ x ∈ ys, daccept d x = true ∧ x.length ≤ 4 ∧ ∀ y ∈ x, 0 ≤ y ∧ y < T
  no : ∀ x ∈ ns, daccept d x = false ∧ x.length ≤ 4 ∧ ∀ y ∈ x, 0 ≤ y ∧ y < T
theorem few_of {d : DfaD} {T : Int} {ys ns : List (List Int)} (h : ExOk d ys ns) (i j : Nat) (hi : i ≤ 3) (hj : j ≤ 3) : FewOk d T ((keepW (tooBig T) ys).take i) ((keepW (tooBig T) ns).take j) := by
  have hb : ∀ {x : List Int}, tooBig T x = false → ∀ y ∈ x, y < T := fun hx y hy => by
    have := List.any_eq_false.1 hx y hy
    simp at this
    exact this
  refine ⟨by rw [List.length_take]; omega, by rw [List.length_take]; omega, fun x hx => ?_, fun x hx => ?_⟩
  · have h1 := List.mem_filter.1 (List.mem_of_mem_take hx)
    obtain ⟨a, b, c⟩ := h.yes x h1.1
    exact ⟨a, b, fun y hy => ⟨(c y hy).1, hb (by simpa using h1.2) y hy⟩⟩
  · have h1 := List.mem_filter.1 (List.mem_of_mem_take hx)
    obtain ⟨a, b, c⟩ := h.no x h1.1
    exact ⟨a, b, fun y hy => ⟨(c y hy).1, hb (by simpa using h1.2) y hy⟩⟩
def FewR (d : DfaD) (T : Int) (base : Nat) (e : Ending) (w' : World) : Prop := ∃ (Ay : Option Addr) (ny cy : Nat) (An : Option Addr) (nn cn : Nat) (ys ns : List (List Int)), e = .returned (.tuple #[.slice Ay ny cy, .slice An nn cn]) ∧ Sl RIV w' (fun b => base ≤ b) Ay ny cy ys ∧ Sl RIV w' (fun b => base ≤ b) An nn cn ns ∧ FewOk d T ys ns
set_option linter.unusedSimpArgs false in
set_option maxRecDepth 100000 in
set_option maxHeartbeats 8000000 in
theorem keepFewer (w : World) (S : Nat → Prop) (A : Option Addr) (nA cA : Nat) (N : Option Addr) (nN cN : Nat) (d : DfaD) (hA : Sl Rep.int w S A nA cA d.2.1) (hN : Sl RI w S N nN cN d.2.2) (hv : Valid d) (T : Int)
    (Sl_ : Nat → Prop) (Al : Option Addr) (nl cl : Nat) (l : List Int) (hl : Sl Rep.int w Sl_ Al nl cl l) (hnl : nl ≤ 1000000000000000) :
    Calls Tryd.prog 18 #[.agg #[.int .i64 d.1, .slice A nA cA, .slice N nN cN], .int .i64 T, .slice Al nl cl] w fun e w' => FewR d T w.heap.size e w' ∧ Below w.heap.size w w' := by
  have HA := Lib.hid hA
  have HN := Lib.hid hN
  have HV := Lib.hid hv
  have HL := Lib.hid hl
  clear hA hN hv hl
  go_enter Tryd.func18, Tryd.ntmps18
  --@1
  go_wp2_with fail
  obtain ⟨w1, hw1⟩ : ∃ w1 : World, w1 = (w.alloc (.cells #[.int .i64 d.1, .slice A nA cA, .slice N nN cN] 46)).alloc (.cells #[.int .i64 T] 3) := ⟨_, rfl⟩
  rw [← hw1]
  have hz1 : w.heap.size + 2 ≤ w1.heap.size := by rw [hw1]; simp
  have hb1 : Below w.heap.size w w1 := by rw [hw1]; exact ((Below.refl _ _).alloc (Nat.le_refl _) _).alloc (by simp) _
  have hT1 : w1.heap[w.heap.size + 1]? = some (.cells #[.int .i64 T] 3 (0, 0)) := by rw [hw1]; exact heap_new _ _ _ (by simp)
  have HT1 := Lib.hid (show w1.cell? ⟨w.heap.size + 1, 0, none⟩ = some (.int .i64 T) by simp [World.cell?, hT1])
  have HB1 := Lib.hid hb1
  clear hw1 hb1 hT1
  refine (keepExamples w1 S A nA cA N nN cN d (HA.out.below HB1.out) (HN.out.below HB1.out) HV.out _ Al nl cl l (HL.out.below HB1.out) hnl).mono ?_
  rintro e w2 ⟨⟨Ay, cy, An, cn, ys, ns, rfl, htw, hok⟩, hb2⟩
  have hz2 := hb2.size
  obtain ⟨ky, hky⟩ : ∃ k, k = ys.length := ⟨_, rfl⟩
  obtain ⟨kn, hkn⟩ : ∃ k, k = ns.length := ⟨_, rfl⟩
  have hol := hok.len
  obtain ⟨⟨xy, oy, cly⟩, ⟨xn, on, cln⟩, hne⟩ := htw
  rw [← hky] at oy cly cln hne ⊢
  rw [← hkn] at on cly cln hne ⊢
  have hk12 : ky + kn ≤ 12 := by omega
  have HOY := Lib.hid oy
  have HON := Lib.hid on
  have HCY := Lib.hid cly
  have HCN := Lib.hid cln
  have HNE := Lib.hid hne
  have HOK := Lib.hid hok
  have HB2 := Lib.hid hb2
  have HT2 := Lib.hid ((hb2.cell (cell_lt HT1.out)).trans HT1.out)
  clear hb2 hok hol oy on cly cln hne hky hkn
  --@2
  go_wp2_with fail
  refine (deleteFnW w2 w1.heap.size _ _ (tooBig T) (fun x => x.length ≤ 100) (w.heap.size + 1) (.int .i64 T) entersBig (tellsBig _ T) HT2.out (fun b => w1.heap.size ≤ b ∧ rowOf (.slice Ay ky cy) ≠ some b ∧ rowOf (.slice An kn cn) ≠ some b) Ay ky cy ys xy HOY.out HCY.out (fun b hb => hb.2.1) (fun e => by have := (HOY.out.row e).1; omega) (by omega) (fun x hx => by have := (HOK.out.yes x hx).2.1; omega) (by omega)).mono ?_
  rintro e w3 ⟨⟨A3, n3, c3, rfl, hs3⟩, hf3⟩
  have hz3 := hf3.bel.size
  have HS3 := Lib.hid hs3
  have HF3 := Lib.hid hf3
  have HT3 := Lib.hid ((hf3.bel.cell (p := ⟨w.heap.size + 1, 0, none⟩) (by show w.heap.size + 1 < w1.heap.size; omega)).trans HT2.out)
  clear hs3 hf3
  --@3
  go_wp2_with fail
  refine (deleteFnW w3 w1.heap.size _ _ (tooBig T) (fun x => x.length ≤ 100) (w.heap.size + 1) (.int .i64 T) entersBig (tellsBig _ T) HT3.out (fun b => w1.heap.size ≤ b ∧ rowOf (.slice Ay ky cy) ≠ some b ∧ rowOf (.slice An kn cn) ≠ some b) An kn cn ns xn (HON.out.rowFr HF3.out HNE.out) (HCN.out.keep (HF3.out.kept fun b hb => hb.2.1)) (fun b hb => hb.2.2) (fun e => by have := (HON.out.row e).1; omega) (by omega) (fun x hx => by have := (HOK.out.no x hx).2.1; omega) (by omega)).mono ?_
  rintro e w4 ⟨⟨A4, n4, c4, rfl, hs4⟩, hf4⟩
  have hz4 := hf4.bel.size
  have HB4 := Lib.hid (HB1.out.trans ((HB2.out.trans ((HF3.out.bel).trans hf4.bel)).mono (by omega)))
  have HSY := Lib.hid ((HS3.out.keep (hf4.kept fun b hb e => by
    rcases hb with h | h
    · exact h.2.2 e
    · exact HNE.out b h e)).more (S' := fun b => w.heap.size ≤ b) fun b hb => by
    rcases hb with h | h
    · have := h.1; omega
    · have := (HOY.out.row h).1; omega)
  have HSN := Lib.hid (hs4.more (S' := fun b => w.heap.size ≤ b) fun b hb => by
    rcases hb with h | h
    · have := h.1; omega
    · have := (HON.out.row h).1; omega)
  obtain ⟨j3, hj3⟩ : ∃ j : Nat, j = min 3 n3 := ⟨_, rfl⟩
  obtain ⟨j4, hj4⟩ : ∃ j : Nat, j = min 3 n4 := ⟨_, rfl⟩
  have hm3 : min 3 (n3 : Int) = (j3 : Int) := by omega
  have hm4 : min 3 (n4 : Int) = (j4 : Int) := by omega
  have h33 : j3 ≤ 3 := by omega
  have h34 : j4 ≤ 3 := by omega
  have h3n : j3 ≤ n3 := by omega
  have h4n : j4 ≤ n4 := by omega
  have hcap3 := HSY.out.cap
  have hcap4 := HSN.out.cap
  have hcut3 := fun u => tIntssE.hN A3 n3 c3 j3 (by omega) u
  have hcut4 := fun u => tIntssE.hN A4 n4 c4 j4 (by omega) u
  clear hs4 hf4 hj3 hj4
  --@4
  go_wp2_with fail
  refine wp_region_late (late := []) (S1 := fun _ => True) (S := fun _ => True) (by kernel_rfl) ?_
  refine wpAnyL_pure (i := 0) rfl (by kernel_rfl) (fun _ _ _ h => h) (Or.inl ⟨by rfl, (fun u hu => by go_simp; try rfl)⟩) trivial (fun _ => trivial) ?_
  simp only [Act.put, List.setIfInBounds_toArray, List.set_cons_zero, List.set_cons_succ, List.getElem_toArray, List.getElem_cons_zero, List.getElem_cons_succ]
  refine wpAnyL_pure (i := 1) rfl (by kernel_rfl) (fun _ _ _ h => h) (Or.inl ⟨by rfl, (fun u hu => by go_simp; try rfl)⟩) trivial (fun _ => trivial) ?_
  simp only [Act.put, List.setIfInBounds_toArray, List.set_cons_zero, List.set_cons_succ, List.getElem_toArray, List.getElem_cons_zero, List.getElem_cons_succ]
  refine wpAnyL_pure (i := 2) rfl (by kernel_rfl) (fun _ _ _ h => h) (Or.inl ⟨by rfl, (fun u hu => by go_simp; try rfl)⟩) trivial (fun _ => trivial) ?_
  simp only [Act.put, List.setIfInBounds_toArray, List.set_cons_zero, List.set_cons_succ, List.getElem_toArray, List.getElem_cons_zero, List.getElem_cons_succ]
  refine wpAnyL_pure (i := 3) rfl (by kernel_rfl) (fun _ _ _ h => h) (Or.inl ⟨by rfl, (fun u hu => by go_simp; try rfl)⟩) trivial (fun _ => trivial) ?_
  simp only [Act.put, List.setIfInBounds_toArray, List.set_cons_zero, List.set_cons_succ, List.getElem_toArray, List.getElem_cons_zero, List.getElem_cons_succ]
  refine wpAnyL_pure (i := 4) rfl (by kernel_rfl) (fun _ _ _ h => h) (Or.inl ⟨by rfl, (fun u hu => by go_simp; try rfl)⟩) trivial (fun _ => trivial) ?_
  simp only [Act.put, List.setIfInBounds_toArray, List.set_cons_zero, List.set_cons_succ, List.getElem_toArray, List.getElem_cons_zero, List.getElem_cons_succ]
  refine wpAnyL_pure (i := 5) rfl (by kernel_rfl) (fun _ _ _ h => h) (Or.inl ⟨by rfl, (fun u hu => by go_simp; try rfl)⟩) trivial (fun _ => trivial) ?_
  simp only [Act.put, List.setIfInBounds_toArray, List.set_cons_zero, List.set_cons_succ, List.getElem_toArray, List.getElem_cons_zero, List.getElem_cons_succ]
  refine wpAnyL_pure (i := 6) rfl (by kernel_rfl) (fun _ _ _ h => h) (Or.inl ⟨by rfl, (fun u hu => by go_simp; try rfl)⟩) trivial (fun _ => trivial) ?_
  simp only [Act.put, List.setIfInBounds_toArray, List.set_cons_zero, List.set_cons_succ, List.getElem_toArray, List.getElem_cons_zero, List.getElem_cons_succ]
  refine wpAnyL_pure (i := 7) rfl (by kernel_rfl) (fun _ _ _ h => h) (Or.inl ⟨by rfl, (fun u hu => by go_simp; try rfl)⟩) trivial (fun _ => trivial) ?_
  simp only [Act.put, List.setIfInBounds_toArray, List.set_cons_zero, List.set_cons_succ, List.getElem_toArray, List.getElem_cons_zero, List.getElem_cons_succ]
  refine wpAnyL_pure (i := 8) rfl (by kernel_rfl) (fun _ _ _ h => h) (Or.inl ⟨by rfl, (fun u hu => by go_simp; try rfl)⟩) trivial (fun _ => trivial) ?_
  simp only [Act.put, List.setIfInBounds_toArray, List.set_cons_zero, List.set_cons_succ, List.getElem_toArray, List.getElem_cons_zero, List.getElem_cons_succ]
  refine wpAnyL_pure (i := 9) rfl (by kernel_rfl) (fun _ _ _ h => h) (Or.inl ⟨by rfl, (fun u hu => by go_simp; try rfl)⟩) trivial (fun _ => trivial) ?_
  simp only [Act.put, List.setIfInBounds_toArray, List.set_cons_zero, List.set_cons_succ, List.getElem_toArray, List.getElem_cons_zero, List.getElem_cons_succ]
  refine wpAnyL_pure (i := 10) rfl (by kernel_rfl) (fun _ _ _ h => h) (Or.inl ⟨by rfl, (fun u hu => by go_simp; try rfl)⟩) trivial (fun _ => trivial) ?_
  simp only [Act.put, List.setIfInBounds_toArray, List.set_cons_zero, List.set_cons_succ, List.getElem_toArray, List.getElem_cons_zero, List.getElem_cons_succ]
  refine wpAnyL_pure (i := 11) rfl (by kernel_rfl) (fun _ _ _ h => h) (Or.inl ⟨by rfl, (fun u hu => by go_simp; try rfl)⟩) trivial (fun _ => trivial) ?_
  simp only [Act.put, List.setIfInBounds_toArray, List.set_cons_zero, List.set_cons_succ, List.getElem_toArray, List.getElem_cons_zero, List.getElem_cons_succ]
  refine wpAnyL_done (by kernel_rfl) ?_ _
  go_wp2_with fail
  refine bodyPost_ret (v := .tuple #[.slice A3 j3 c3, .slice A4 j4 c4]) (by simp [results, Tryd.results18, go_sem]) rfl ?_
  exact ⟨⟨A3, j3, c3, A4, j4, c4, _, _, rfl, (HSY.out.drew).take j3 h3n, (HSN.out.drew).take j4 h4n, few_of HOK.out j3 j4 h33 h34⟩, HB4.out.drew⟩
end Go.Proofs.YtidigjfnifmiiaaDoor
