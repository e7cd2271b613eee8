/- What shrink.lower and shrink.Lower compute. -/
import Derived.Test.YtjeklijkncbaaaaShrinkW
import Derived.Test.YtjeklijkncbaaaaSlIdxFn
import Derived.Deep.LoopGhost
namespace Go.Proofs.Ytjeklijkncbaaaa
open Go.RowKit

/-- no smaller terminal at one place makes the word fail -/
def Lowest (p : List Int → Bool) (r : List Int) : Prop := ∀ (i : Nat) (x s : Int), r[i]? = some x → 0 ≤ s → s < x → p (r.set i s) = false
/-- a word with a smaller terminal at one place -/
def LowerOf (r x : List Int) : Prop := ∃ (i : Nat) (y s : Int), r[i]? = some y ∧ 0 ≤ s ∧ s < y ∧ x = r.set i s
def Low (l : List Int) : Prop := l.length ≤ 60 ∧ ∀ x ∈ l, 0 ≤ x ∧ x ≤ 7
theorem Low.set {r x : List Int} (h : Low r) (hx : LowerOf r x) : Low x := by
  obtain ⟨i, y, s, h1, h2, h3, rfl⟩ := hx
  have hy := h.2 y (List.mem_of_getElem? h1)
  refine ⟨by rw [List.length_set]; exact h.1, fun z hz => ?_⟩
  rcases List.mem_or_eq_of_mem_set hz with h' | rfl
  · exact h.2 z h'
  · omega
def total (l : List Int) : Nat := (l.map Int.toNat).sum
theorem total_set : ∀ (l : List Int) (i : Nat) (y s : Int), l[i]? = some y → 0 ≤ s → s < y → total (l.set i s) < total l
  | [], i, y, s, h, _, _ => by simp at h
  | x :: l, 0, y, s, h, h1, h2 => by
    simp at h
    subst h
    simp [total]; omega
  | x :: l, i + 1, y, s, h, h1, h2 => by
    simp only [List.getElem?_cons_succ] at h
    have := total_set l i y s h h1 h2
    simp [total] at this ⊢; omega
/-- pointwise at most -/
def LeL (a b : List Int) : Prop := a.length = b.length ∧ ∀ (i : Nat) (x y : Int), a[i]? = some x → b[i]? = some y → x ≤ y
theorem LeL.refl (a : List Int) : LeL a a := ⟨rfl, fun i x y h1 h2 => by rw [h1] at h2; injection h2 with h2; omega⟩
theorem LeL.lower {r x l : List Int} (h : LeL r l) (hx : LowerOf r x) : LeL x l := by
  obtain ⟨i, y, s, h1, h2, h3, rfl⟩ := hx
  refine ⟨by rw [List.length_set]; exact h.1, fun j a b ha hb => ?_⟩
  rw [List.getElem?_set] at ha
  split at ha
  · rename_i e
    subst e
    split at ha
    · injection ha with ha
      have := h.2 i y b h1 hb
      omega
    · cases ha
  · exact h.2 j a b ha hb

theorem own_set {w : World} {base n g cap i : Nat} {l : List Int} {s : Int} (h : w.ownsRow base 3 1 (.slice (some ⟨g, 0, none⟩) n cap) n (l.map (Value.int .i64))) :
    (w.setCell ⟨g, i, none⟩ (.int .i64 s)).ownsRow base 3 1 (.slice (some ⟨g, 0, none⟩) n cap) n ((l.set i s).map (Value.int .i64)) := by
  have := (h.stored i (.int .i64 s)).1
  rwa [← List.map_set] at this
/-- a row with elements has its address -/
theorem Own.addr {w : World} {base n c : Nat} {E : TypeId} {A : Option Addr} {xs : List Value} (h : Own w base E 1 (.slice A n c) n xs) (h0 : 0 < n) : ∃ g, A = some ⟨g, 0, none⟩ ∧ base ≤ g ∧ w.ownsRow base E 1 (.slice (some ⟨g, 0, none⟩) n c) n xs := by
  rcases h with h | ⟨A', _, rfl, _⟩
  · obtain ⟨g, cap, e, hb, _⟩ := h.form h0
    injection e with e1 e2 e3
    subst e1
    exact ⟨g, rfl, hb, h⟩
  · omega

set_option maxHeartbeats 2000000 in
theorem lowerAny (w : World) (F : FuncId) (caps : Array Value) (p : List Int → Bool) (A : Option Addr) (n c : Nat) (S : Nat → Prop) (l : List Int)
    (he : ∀ (args : Array Value) (u : World), (callFunc F args).run Try.prog u = .ok (.enter F args) u) (hF : Tells Try.prog w Low p F caps) (hr : Rd w S 1 A n (l.map (Value.int .i64))) (hG : Low l) :
    Calls Try.prog 37 #[.slice A n c, .func (.func F) #[] caps] w fun e w' => ((∃ A' n' c' x, e = .returned (.tuple #[.slice A' n' c', .bool true]) ∧ Sl Rep.int w' (fun b => w.heap.size ≤ b) A' n' c' x ∧ LowerOf l x ∧ p x = true) ∨
      (e = .returned (.tuple #[.slice none 0 0, .bool false]) ∧ Lowest p l)) ∧ Below w.heap.size w w' := by
  have hl : l.length = n := by simpa using hr.1
  have hn : n ≤ 60 := by have := hG.1; omega
  have HL := Lib.hid hl
  have HR := Lib.hid hr
  have HF := Lib.hid hF
  have HG := Lib.hid hG
  clear hl hr hF hG
  go_enter Try.func37, Try.ntmps37
  go_wp2_with fail
  go_loopw [12] (fun i wr => ∃ k : Nat, k ≤ n ∧ i = .int .i64 k ∧ (∀ (j : Nat) (x s : Int), j < k → l[j]? = some x → 0 ≤ s → s < x → p (l.set j s) = false) ∧ Below w.heap.size w wr) (fun i _ => n - (intOf i).toNat)
  case atStart => exact ⟨0, Nat.zero_le _, rfl, (fun j x s hj _ _ _ => absurd hj (by omega)), Below.refl _ _⟩
  case round =>
    obtain ⟨k, hk, rfl, hno, hb⟩ := hrel
    have HNO := Lib.hid hno
    have HB := Lib.hid hb
    clear hno hb
    obtain ⟨wo, rfl⟩ : ∃ wo : World, wo = wr := ⟨_, rfl⟩
    by_cases hlt : k < n
    · obtain ⟨b, off, x, rfl, _, hx, hcell0⟩ := HR.out.int_at hlt
      have hcell : wo.cell? ⟨b, off + k, none⟩ = some (.int .i64 x) := Kept.below (S := fun _ => True) HB.out _ _ trivial hcell0
      have hx7 := HG.out.2 x (List.mem_of_getElem? hx)
      obtain ⟨hx0, hx7⟩ := hx7
      have HX := Lib.hid hx
      clear hx hcell0
      go_wp2_with fail
      clear hcell
      go_loopw [18] (fun i wr => ∃ s : Nat, (s : Int) ≤ x ∧ i = .int .i64 s ∧ (∀ t : Int, 0 ≤ t → t < s → p (l.set k t) = false) ∧ Below w.heap.size w wr) (fun i _ => x.toNat - (intOf i).toNat)
      case atStart => exact ⟨0, by omega, rfl, (fun t h1 h2 => absurd h2 (by omega)), HB.out⟩
      case round =>
        obtain ⟨s, hs, rfl, hns, hb⟩ := hrel
        have HNS := Lib.hid hns
        have HBS := Lib.hid hb
        clear hns hb
        by_cases hsx : (s : Int) < x
        · have hlo : LowerOf l (l.set k s) := ⟨k, x, s, HX.out, by omega, hsx, rfl⟩
          have hlow := HG.out.set hlo
          have HLO := Lib.hid hlo
          have HLOW := Lib.hid hlow
          clear hlo hlow
          go_wp2_with fail
          refine (cloneInt _ _ _ _ _ _ (HR.out.below HBS.out) (by omega)).mono ?_
          rintro e w1 ⟨v1, rfl, ho1, hb1⟩
          obtain ⟨A1, c1, rfl, hc1, _⟩ := ho1.form
          obtain ⟨g, rfl, hbg, hown⟩ := ho1.addr (by omega)
          have hfz := hown.frozenAt k
          have hc0 := hown.cellAt k (by omega)
          rw [List.getElem?_map, HX.out, Option.map_some] at hc0
          have HOWN := Lib.hid (own_set (i := k) (s := (s : Int)) hown)
          have HB1 := Lib.hid (hb1.setCell (p := ⟨g, k, none⟩) hbg (.int .i64 (s : Int)))
          clear ho1 hb1 hown
          go_wp2_with fail
          have hbb := HBS.out.trans (HB1.out.mono HBS.out.size)
          have HBB := Lib.hid hbb
          have HRS := Lib.hid (Rd.of_own HOWN.out)
          clear hbb hc0 hfz
          obtain ⟨w2, hw2⟩ : ∃ w2, w2 = w1.setCell ⟨g, k, none⟩ (.int .i64 (s : Int)) := ⟨_, rfl⟩
          rw [← hw2] at HBB HRS ⊢
          clear HB1 HOWN hw2
          refine (cloneInt _ _ _ _ _ _ HRS.out (by omega)).mono ?_
          rintro e w3 ⟨v3, rfl, ho3, hb3⟩
          obtain ⟨A3, c3, rfl, hc3, _⟩ := ho3.form
          have HO3 := Lib.hid ho3
          have HB3 := Lib.hid (HBB.out.trans (hb3.mono HBB.out.size))
          have HRS3 := Lib.hid (HRS.out.below hb3)
          clear ho3 hb3
          go_wp2_with fail
          refine (HF.out w3 HB3.out A3 n c3 _ (l.set k s) HO3.out.rd HLOW.out).mono ?_
          rintro e w4 ⟨rfl, hb4⟩
          have HB4 := Lib.hid (HB3.out.trans (hb4.mono HB3.out.size))
          have HRS4 := Lib.hid (HRS3.out.below hb4)
          clear hb4
          cases hp : p (l.set k s) with
          | true =>
            have HP := Lib.hid hp
            clear hp
            go_wp2_with fail
            go_ret2
            exact ⟨.inl ⟨_, n, c1, l.set k s, rfl, (HRS4.out.more fun b hb => by have := HBS.out.size; omega).slInts hc1, HLO.out, HP.out⟩, HB4.out⟩
          | false =>
            have HP := Lib.hid hp
            clear hp
            go_wp2_with fail
            go_roundw
            case rel =>
              refine ⟨s + 1, by omega, by go_num, ?_, HB4.out⟩
              intro t h1 h2
              by_cases ht : t < s
              · exact HNS.out t h1 ht
              · obtain rfl : t = s := by omega
                exact HP.out
            case measure => simp [intOf]; omega
        · have hsx2 : (s : Int) = x := by omega
          have HSX := Lib.hid hsx2
          clear hsx2
          go_wp2_with fail
          go_roundw
          case rel =>
            refine ⟨k + 1, by omega, by go_num, ?_, HBS.out⟩
            intro j y t hj hy h1 h2
            rcases Nat.lt_succ_iff_lt_or_eq.1 hj with h | rfl
            · exact HNO.out j y t h hy h1 h2
            · rw [HX.out] at hy
              injection hy with hy
              exact HNS.out t h1 (by rw [HSX.out, hy]; exact h2)
          case measure => simp [intOf]; omega
    · go_wp2_with fail
      go_ret2
      refine ⟨.inr ⟨rfl, ?_⟩, HB.out⟩
      intro i x s hx h1 h2
      have hj := (List.getElem?_eq_some_iff.1 hx).1
      exact HNO.out i x s (by rw [HL.out] at hj; omega) hx h1 h2

theorem entersLow : ∀ (args : Array Value) (u : World), (callFunc 36 args).run Try.prog u = .ok (.enter 36 args) u := enters_of Try.func36 (by kernel_rfl) rfl
set_option maxHeartbeats 1000000 in
theorem tellsLow (w0 : World) : TellsI Try.prog w0 (fun x => 0 ≤ x ∧ x ≤ 7) (fun _ => false) 36 #[] := by
  intro w _ x hx
  show Calls Try.prog 36 #[.int .i64 x] w _
  obtain ⟨h1, h2⟩ := hx
  have e1 : decide (x < 0) = false := by simp; omega
  have e2 : decide (8 ≤ x) = false := by simp; omega
  go_enter Try.func36, Try.ntmps36
  go_wp2_with fail
  go_ret
  exact ⟨rfl, Below.refl _ _⟩
/-- what 'lower' has told: a smaller word, or that there is none -/
def LowTold (p : List Int → Bool) (B : Nat) (r : List Int) (v : Value) (ok : Bool) (w' : World) : Prop :=
  (ok = true ∧ ∃ A' n' c' x, v = .slice A' n' c' ∧ Sl Rep.int w' (fun b => B ≤ b) A' n' c' x ∧ LowerOf r x ∧ p x = true) ∨ (ok = false ∧ Lowest p r)
theorem lowerTold (w : World) (B : Nat) (hB : B ≤ w.heap.size) (F : FuncId) (caps : Array Value) (p : List Int → Bool) (A : Option Addr) (n c : Nat) (S : Nat → Prop) (l : List Int)
    (he : ∀ (args : Array Value) (u : World), (callFunc F args).run Try.prog u = .ok (.enter F args) u) (hF : Tells Try.prog w Low p F caps) (hr : Rd w S 1 A n (l.map (Value.int .i64))) (hG : Low l) :
    Calls Try.prog 37 #[.slice A n c, .func (.func F) #[] caps] w fun e w' => ∃ v ok, e = .returned (.tuple #[v, .bool ok]) ∧ LowTold p B l v ok w' ∧ Below w.heap.size w w' :=
  (lowerAny w F caps p A n c S l he hF hr hG).mono fun e w' ⟨h, hb⟩ => by
    rcases h with ⟨A', n', c', x, rfl, h1, h2, h3⟩ | ⟨rfl, h1⟩
    · exact ⟨_, true, rfl, .inl ⟨rfl, A', n', c', x, rfl, h1.more fun b hb => by omega, h2, h3⟩, hb⟩
    · exact ⟨_, false, rfl, .inr ⟨rfl, h1⟩, hb⟩
/-- what the loop of 'Lower' knows -/
def LowSt (p : List Int → Bool) (l : List Int) (w : World) (k : Nat) (v0 v6 v7 : Value) (wr : World) : Prop :=
  ∃ A' n' c' r ok, v0 = .slice A' n' c' ∧ v7 = .bool ok ∧ Sl Rep.int wr (fun b => w.heap.size ≤ b) A' n' c' r ∧ LeL r l ∧ Low r ∧ p r = true ∧ (Lowest p l → r = l) ∧ k = total r ∧ LowTold p w.heap.size r v6 ok wr ∧ Below w.heap.size w wr
set_option maxHeartbeats 2000000 in
theorem lowerFull (w : World) (F : FuncId) (caps : Array Value) (p : List Int → Bool) (A : Option Addr) (n c : Nat) (S : Nat → Prop) (l : List Int)
    (he : ∀ (args : Array Value) (u : World), (callFunc F args).run Try.prog u = .ok (.enter F args) u) (hF : Tells Try.prog w Low p F caps) (hr : Rd w S 1 A n (l.map (Value.int .i64))) (hG : Low l) (hp : p l = true) :
    Calls Try.prog 24 #[.slice A n c, .func (.func F) #[] caps] w fun e w' => ∃ A' n' c' r, e = .returned (.tuple #[.slice A' n' c', .int .i64 0]) ∧ Sl Rep.int w' (fun b => w.heap.size ≤ b) A' n' c' r ∧
      LeL r l ∧ Low r ∧ p r = true ∧ Lowest p r ∧ (Lowest p l → r = l) ∧ Below w.heap.size w w' := by
  have hl : l.length = n := by simpa using hr.1
  have hn : n ≤ 60 := by have := hG.1; omega
  have hn60 : decide (60 < (n : Int)) = false := by simp; omega
  have HL := Lib.hid hl
  have HR := Lib.hid hr
  have HF := Lib.hid hF
  have HG := Lib.hid hG
  have HP := Lib.hid hp
  clear hl hr hF hG hp
  go_enter Try.func24, Try.ntmps24
  go_wp2_with fail
  refine (containsFnInt w 36 #[] (fun x => 0 ≤ x ∧ x ≤ 7) (fun _ => false) A n c _ l entersLow (tellsLow w) HR.out HG.out.2 (by omega)).mono ?_
  rintro e w1 ⟨rfl, hb1⟩
  have hix : decide (0 ≤ idxFn (fun _ => false) l) = false := by rw [idxFn_none (fun _ _ _ => rfl)]; rfl
  rw [hix]
  clear hix
  have HB1 := Lib.hid hb1
  clear hb1
  go_wp2_with fail
  refine (cloneInt _ _ _ _ _ _ (HR.out.below HB1.out) (by omega)).mono ?_
  rintro e w2 ⟨v2, rfl, ho2, hb2⟩
  obtain ⟨A2, c2, rfl, hc2, _⟩ := ho2.form
  have HO2 := Lib.hid ho2
  have HB2 := Lib.hid (HB1.out.trans (hb2.mono HB1.out.size))
  clear ho2 hb2
  go_wp2_with fail
  refine (HF.out w2 HB2.out A2 n c2 _ l HO2.out.rd HG.out).mono ?_
  rintro e w3 ⟨rfl, hb3⟩
  rw [HP.out]
  have HB3 := Lib.hid (HB2.out.trans (hb3.mono HB2.out.size))
  clear hb3
  go_wp2_with fail
  refine (cloneInt _ _ _ _ _ _ (HR.out.below HB3.out) (by omega)).mono ?_
  rintro e w4 ⟨v4, rfl, ho4, hb4⟩
  obtain ⟨A4, c4, rfl, hc4, _⟩ := ho4.form
  have HS4 := Lib.hid (show Sl Rep.int w4 (fun b => w.heap.size ≤ b) A4 n c4 l from (ho4.rd.more fun b hb => by have := HB3.out.size; omega).slInts hc4)
  have HB4 := Lib.hid (HB3.out.trans (hb4.mono HB3.out.size))
  clear ho4 hb4
  have hF4 : ∀ u, Below w.heap.size w u → Tells Try.prog u Low p F caps := fun u hu v hv => HF.out v (hu.trans (hv.mono hu.size))
  have HF4 := Lib.hid hF4
  clear hF4
  go_wp2_with fail
  refine (lowerTold w4 w.heap.size HB4.out.size F caps p A4 n c4 _ l he (HF4.out w4 HB4.out) HS4.out.ints HG.out).mono ?_
  rintro e w5 ⟨v6, ok, rfl, htold, hb5⟩
  have hst : LowSt p l w (total l) (.slice A4 n c4) v6 (.bool ok) w5 := ⟨A4, n, c4, l, ok, rfl, rfl, HS4.out.below hb5, LeL.refl _, HG.out, HP.out, fun _ => rfl, rfl, htold, HB4.out.trans (hb5.mono HB4.out.size)⟩
  have HST := Lib.hid hst
  clear htold hb5 hst
  go_wp2_with fail
  go_loopg [0, 6, 7] (total l) (fun k v0 v6 v7 wr => LowSt p l w k v0 v6 v7 wr)
  case atStart => exact HST.out
  case round =>
    obtain ⟨A', n', c', r, ok', rfl, rfl, hsl, hle, hlow, hpr, hll, hk, htold, hb⟩ := hrel
    have HSL := Lib.hid hsl
    have HLE := Lib.hid hle
    have HLOW := Lib.hid hlow
    have HPR := Lib.hid hpr
    have HLL := Lib.hid hll
    have HK := Lib.hid hk
    have HB := Lib.hid hb
    clear hsl hle hlow hpr hll hk hb
    rcases htold with ⟨rfl, A6, n6, c6, x, rfl, hsx, hlo, hpx⟩ | ⟨rfl, hlowest⟩
    · have hlowx := HLOW.out.set hlo
      have HSX := Lib.hid hsx
      have HLO := Lib.hid hlo
      have HPX := Lib.hid hpx
      have HLX := Lib.hid hlowx
      clear hsx hlo hpx hlowx
      go_wp2_with fail
      refine (lowerTold wr w.heap.size HB.out.size F caps p A6 n6 c6 _ x he (HF4.out wr HB.out) HSX.out.ints HLX.out).mono ?_
      rintro e w7 ⟨v7, ok7, rfl, htold7, hb7⟩
      have hst : LowSt p l w (total x) (.slice A6 n6 c6) v7 (.bool ok7) w7 := by
        refine ⟨A6, n6, c6, x, ok7, rfl, rfl, HSX.out.below hb7, HLE.out.lower HLO.out, HLX.out, HPX.out, ?_, rfl, htold7, HB.out.trans (hb7.mono HB.out.size)⟩
        intro hl
        exfalso
        have e := HLL.out hl
        subst e
        obtain ⟨i, y, s, h1, h2, h3, e⟩ := HLO.out
        have h4 := hl i y s h1 h2 h3
        rw [← e, HPX.out] at h4
        cases h4
      have hlt : total x < gk := by
        rw [HK.out]
        obtain ⟨i, y, s, h1, h2, h3, e⟩ := HLO.out
        rw [e]
        exact total_set r i y s h1 h2 h3
      have HST2 := Lib.hid hst
      clear htold7 hb7 hst
      go_wp2_with fail
      go_roundg (total x)
      case measure => exact hlt
      case rel => exact HST2.out
    · have HLW := Lib.hid hlowest
      clear hlowest
      go_wp2_with fail
      go_ret2
      exact ⟨A', n', c', r, rfl, HSL.out, HLE.out, HLOW.out, HPR.out, HLW.out, HLL.out, HB.out⟩
end Go.Proofs.Ytjeklijkncbaaaa
