/- slices.SortFunc at words: short ones first, then by their numbers; laid out of the shelf. slices.CompactFunc at words that lie in order: each is left once. merge.prefixes: all beginnings of words, in order, each once. -/
import Derived.Test.YtgaahpddlohjoaaSlCmpInt
import Derived.Test.YtgaahpddlohjoaaSlIdxW
import Derived.Test.YtgaahpddlohjoaaMiniPlain
import Derived.Test.YtgaahpddlohjoaaMach
import Derived.Shelf.SlSortCmp.Whole1
import Derived.Shelf.SlGeneric
import Derived.Lib.OwnBridge
import Derived.Deep.LoopGhost
import Derived.Test.YtgaahpddlohjoaaSlEqInt
import Derived.Shelf.Abstract
import Derived.Lib.SliceRun
import Derived.Deep.CutBlock
import Derived.Deep.QuietTactic
import Derived.BigQuiet
import Derived.Test.YtgaahpddlohjoaaMergeP
namespace Go.Proofs.Ytgaahpddlohjoaa
open Go.RowKit

def sortW_ren : Go.Shelf.Ren := ⟨fun | 6 => 136 | 15 => 143 | 14 => 142 | 28 => 152 | 29 => 153 | 20 => 144 | 21 => 145 | 22 => 146 | 23 => 147 | 24 => 148 | 25 => 149 | 26 => 150 | 27 => 151 | 46 => 154 | 47 => 155 | 48 => 156 | 49 => 157 | 50 => 158 | 57 => 159 | n => n, fun | 22 => 23 | 24 => 22 | 25 => 198 | 3 => 3 | 39 => 159 | 0 => 0 | 53 => 188 | 55 => 191 | 4 => 4 | 46 => 204 | 45 => 203 | 50 => 141 | 5 => 5 | 9 => 9 | 66 => 211 | 70 => 124 | 76 => 216 | 77 => 48 | n => n, fun | n => n⟩
theorem sortW : Go.Proofs.SlLaysF.n6 Try.prog sortW_ren := {
  mixed := by kernel_rfl
  f6 := ⟨Try.f136.name, by decide, Try.func136.trans (congrArg some (by kernel_rfl))⟩
  f14 := ⟨Try.f142.name, by decide, Try.func142.trans (congrArg some (by kernel_rfl))⟩
  f15 := Try.func143.trans (congrArg some (by kernel_rfl))
  f20 := ⟨Try.f144.name, by decide, Try.func144.trans (congrArg some (by kernel_rfl))⟩
  f21 := ⟨Try.f145.name, by decide, Try.func145.trans (congrArg some (by kernel_rfl))⟩
  f22 := ⟨Try.f146.name, by decide, Try.func146.trans (congrArg some (by kernel_rfl))⟩
  f23 := ⟨Try.f147.name, by decide, Try.func147.trans (congrArg some (by kernel_rfl))⟩
  f24 := ⟨Try.f148.name, by decide, Try.func148.trans (congrArg some (by kernel_rfl))⟩
  f25 := ⟨Try.f149.name, by decide, Try.func149.trans (congrArg some (by kernel_rfl))⟩
  f26 := ⟨Try.f150.name, by decide, Try.func150.trans (congrArg some (by kernel_rfl))⟩
  f27 := ⟨Try.f151.name, by decide, Try.func151.trans (congrArg some (by kernel_rfl))⟩
  f28 := Try.func152.trans (congrArg some (by kernel_rfl))
  f29 := Try.func153.trans (congrArg some (by kernel_rfl))
  f46 := ⟨Try.f154.name, by decide, Try.func154.trans (congrArg some (by kernel_rfl))⟩
  f47 := Try.func155.trans (congrArg some (by kernel_rfl))
  f48 := Try.func156.trans (congrArg some (by kernel_rfl))
  f49 := ⟨Try.f157.name, by decide, Try.func157.trans (congrArg some (by kernel_rfl))⟩
  f50 := ⟨Try.f158.name, by decide, Try.func158.trans (congrArg some (by kernel_rfl))⟩
  f57 := ⟨Try.f159.name, by decide, Try.func159.trans (congrArg some (by kernel_rfl))⟩
  t0 := Try.underlying0
  a0 := Try.isAgg0
  z0 := Try.sizeOf0
  v0 := Try.zeroValue0
  t3 := Try.underlying3
  a3 := Try.isAgg3
  z3 := Try.sizeOf3
  v3 := Try.zeroValue3
  t4 := Try.underlying4
  a4 := Try.isAgg4
  z4 := Try.sizeOf4
  v4 := Try.zeroValue4
  t5 := Try.underlying5
  a5 := Try.isAgg5
  z5 := Try.sizeOf5
  v5 := Try.zeroValue5
  t9 := Try.underlying9
  a9 := Try.isAgg9
  z9 := Try.sizeOf9
  v9 := Try.zeroValue9
  t22 := Try.underlying23
  a22 := Try.isAgg23
  z22 := Try.sizeOf23
  v22 := Try.zeroValue23
  a24 := Try.isAgg22
  z24 := Try.sizeOf22
  t25 := Try.underlying198
  a25 := Try.isAgg198
  z25 := Try.sizeOf198
  v25 := Try.zeroValue198
  t39 := Try.underlying159
  a39 := Try.isAgg159
  z39 := Try.sizeOf159
  v39 := Try.zeroValue159
  t45 := Try.underlying203
  a45 := Try.isAgg203
  z45 := Try.sizeOf203
  v45 := Try.zeroValue203
  t46 := Try.underlying204
  a46 := Try.isAgg204
  z46 := Try.sizeOf204
  v46 := Try.zeroValue204
  t50 := Try.underlying141
  a50 := Try.isAgg141
  z50 := Try.sizeOf141
  v50 := Try.zeroValue141
  t53 := Try.underlying188
  a53 := Try.isAgg188
  z53 := Try.sizeOf188
  v53 := Try.zeroValue188
  t55 := Try.underlying191
  a55 := Try.isAgg191
  z55 := Try.sizeOf191
  v55 := Try.zeroValue191
  t66 := Try.underlying211
  a66 := Try.isAgg211
  z66 := Try.sizeOf211
  v66 := Try.zeroValue211
  t70 := Try.underlying124
  a70 := Try.isAgg124
  z70 := Try.sizeOf124
  v70 := Try.zeroValue124
  t76 := Try.underlying216
  a76 := Try.isAgg216
  z76 := Try.sizeOf216
  v76 := Try.zeroValue216
  t77 := Try.underlying48
  a77 := Try.isAgg48
  z77 := Try.sizeOf48
  v77 := Try.zeroValue48
}

/-- which of two words comes first -/
def cmpS (u v : List Int) : Int := if cmpI (u.length : Int) (v.length : Int) = 0 then cmpL u v else cmpI (u.length : Int) (v.length : Int)
theorem cmpI_neg {x y : Int} : cmpI x y < 0 ↔ x < y := by
  unfold cmpI
  split
  · simp; assumption
  · split
    · simp; omega
    · simp; omega
theorem cmpL_neg : ∀ {u v : List Int}, u.length = v.length → (cmpL u v < 0 ↔ lexLt u v)
  | [], [], _ => by simp [cmpL, lexLt]
  | [], _ :: _, h => by simp at h
  | _ :: _, [], h => by simp at h
  | a :: u, b :: v, h => by
    unfold cmpL lexLt
    by_cases h0 : cmpI a b = 0
    · rw [if_pos h0, cmpL_neg (by simpa using h)]
      obtain rfl := cmpI_zero h0
      constructor
      · exact fun h => .inr ⟨rfl, h⟩
      · rintro (h | ⟨_, h⟩)
        · omega
        · exact h
    · rw [if_neg h0, cmpI_neg]
      constructor
      · exact .inl
      · rintro (h | ⟨e, _⟩)
        · exact h
        · subst e
          exact absurd (by unfold cmpI; simp) h0
theorem cmpS_neg {u v : List Int} : cmpS u v < 0 ↔ SLt u v := by
  unfold cmpS SLt
  by_cases h0 : cmpI (u.length : Int) (v.length : Int) = 0
  · rw [if_pos h0]
    have h1 := cmpI_zero h0
    have h2 : u.length = v.length := by omega
    rw [cmpL_neg h2]
    constructor
    · exact fun h => .inr ⟨h2, h⟩
    · rintro (h | ⟨_, h⟩)
      · omega
      · exact h
  · rw [if_neg h0, cmpI_neg]
    constructor
    · exact fun h => .inl (by omega)
    · rintro (h | ⟨h, _⟩)
      · omega
      · rw [h] at h0
        exact absurd (by unfold cmpI; simp) h0
set_option maxHeartbeats 1000000 in
theorem orInt (w : World) (b : Nat) (x y : Int) (h0 : w.cell? ⟨b, 0, none⟩ = some (.int .i64 x)) (h1 : w.cell? ⟨b, 1, none⟩ = some (.int .i64 y)) :
    Calls Try.prog 124 #[.slice (some ⟨b, 0, none⟩) 2 2] w fun e w' => e = .returned (.int .i64 (if x = 0 then y else x)) ∧ w = w' := by
  have H0 := Lib.hid h0
  have H1 := Lib.hid h1
  clear h0 h1
  go_enter Try.func124, Try.ntmps124
  go_wp2_with fail
  go_loopg [5, 8] 2 (fun gk _ v8 wr => ∃ k : Nat, k ≤ 2 ∧ gk = 2 - k ∧ v8 = .int .i64 (k : Int) ∧ (1 ≤ k → x = 0) ∧ (2 ≤ k → y = 0) ∧ wr = w)
  case atStart => exact ⟨0, by omega, rfl, rfl, fun h => by omega, fun h => by omega, rfl⟩
  case round =>
    obtain ⟨k, hk, hgk, rfl, hx, hy, rfl⟩ := hrel
    have HGK := Lib.hid hgk
    have HX := Lib.hid hx
    have HY := Lib.hid hy
    clear hgk hx hy
    rcases (show k = 0 ∨ k = 1 ∨ k = 2 by omega) with rfl | rfl | rfl
    · have k0 := H0.out
      by_cases hx0 : x = 0
      · subst hx0
        go_wp2_with fail
        go_roundg 1
        case measure => rw [HGK.out]; omega
        case rel => exact ⟨1, by omega, rfl, rfl, by simp, fun h => by omega, rfl⟩
      · have i1 : (x != 0) = true := by simp [hx0]
        go_wp2_with fail
        go_ret
        exact ⟨rfl, rfl⟩
    · have k1 := H1.out
      have hx0 := HX.out (by omega)
      by_cases hy0 : y = 0
      · subst hy0
        go_wp2_with fail
        go_roundg 0
        case measure => rw [HGK.out]; omega
        case rel => exact ⟨2, by omega, rfl, rfl, fun _ => hx0, by simp, rfl⟩
      · have i1 : (y != 0) = true := by simp [hy0]
        go_wp2_with fail
        go_ret
        exact ⟨rfl, rfl⟩
    · have hx0 := HX.out (by omega)
      have hy0 := HY.out (by omega)
      go_wp2_with fail
      go_ret
      exact ⟨rfl, rfl⟩
set_option maxHeartbeats 1000000 in
theorem cmpWords (w : World) (S1 S2 : Nat → Prop) (A1 A2 : Option Addr) (n1 c1 n2 c2 : Nat) (u v : List Int) (hu : Sl Rep.int w S1 A1 n1 c1 u) (hv : Sl Rep.int w S2 A2 n2 c2 v) (h1 : n1 ≤ 1000) (_ : n2 ≤ 1000) :
    Calls Try.prog 137 #[.slice A1 n1 c1, .slice A2 n2 c2] w fun e w' => e = .returned (.int .i64 (cmpS u v)) ∧ ∃ os, w' = Go.Sort.grow w os := by
  have HU := Lib.hid hu
  have HV := Lib.hid hv
  have hn1 := hu.len
  have hn2 := hv.len
  have HE := Lib.hid (show (if cmpI (n1 : Int) (n2 : Int) = 0 then cmpL u v else cmpI (n1 : Int) (n2 : Int)) = cmpS u v by rw [hn1, hn2]; rfl)
  clear hu hv hn1 hn2
  go_enter Try.func137, Try.ntmps137
  go_wp2_with fail
  refine (cmpIntC _ _ _).mono ?_
  rintro e _ ⟨rfl, rfl⟩
  go_wp2_with fail
  refine (compareInt A1 A2 n1 c1 n2 c2 _ _ u v w HU.out.ints HV.out.ints (by omega)).mono ?_
  rintro e _ ⟨rfl, rfl⟩
  go_wp2_with fail
  obtain ⟨z, hz⟩ : ∃ z, z = cmpI (n1 : Int) (n2 : Int) := ⟨_, rfl⟩
  have HE2 := HE.out
  rw [← hz] at HE2 ⊢
  refine (orInt _ w.heap.size z (cmpL u v) (by rw [World.cell?_alloc_at _ _ _ _ rfl]; rfl) (by rw [World.cell?_alloc_at _ _ _ _ rfl]; rfl)).mono ?_
  rintro e _ ⟨rfl, rfl⟩
  rw [HE2]
  go_wp2_with fail
  go_ret
  exact ⟨rfl, _, Go.Sort.alloc_eq_grow _ _⟩
theorem entersCmpW : ∀ (args : Array Value) (u : World), (callFunc 137 args).run Try.prog u = .ok (.enter 137 args) u := enters_of Try.func137 (by kernel_rfl) rfl

/-- a word as an element that is sorted: its slice, and what it reads as -/
structure WV (w : World) (S : Nat → Prop) where
  A : Option Addr
  n : Nat
  c : Nat
  l : List Int
  ok : Sl Rep.int w S A n c l
  small : n ≤ 1000
instance (w : World) (S : Nat → Prop) : Inhabited (WV w S) := ⟨⟨none, 0, 0, [], Sl.nil _ _ _ _, by omega⟩⟩
def WV.enc {w : World} {S : Nat → Prop} (x : WV w S) : Value := .slice x.A x.n x.c
def WV.cf {w : World} {S : Nat → Prop} (x y : WV w S) : Int := cmpS x.l y.l
theorem WV.lt {w : World} {S : Nat → Prop} {x y : WV w S} : ltOf WV.cf x y = true ↔ SLt x.l y.l := by
  unfold ltOf WV.cf
  rw [decide_eq_true_iff]
  exact cmpS_neg
theorem WV.swo (w : World) (S : Nat → Prop) : Go.Sort.SWO (ltOf (WV.cf (w := w) (S := S))) where
  irrefl x := by
    rw [Bool.eq_false_iff]
    exact fun h => SLt.irrefl _ (WV.lt.1 h)
  trans x y z h1 h2 := WV.lt.2 ((WV.lt.1 h1).trans (WV.lt.1 h2))
  ntrans x y z h1 h2 := by
    rw [Bool.eq_false_iff] at *
    intro h3
    have h3 := WV.lt.1 h3
    have h1 : ¬ SLt x.l y.l := fun h => h1 (WV.lt.2 h)
    have h2 : ¬ SLt y.l z.l := fun h => h2 (WV.lt.2 h)
    rcases SLt.total x.l y.l with h | h | h
    · exact h1 h
    · rw [← h] at h2; exact h2 h3
    · exact h2 (h.trans h3)
theorem wv_of_cells {w : World} {S : Nat → Prop} : ∀ {L : List (List Int)} {xs : List Value}, Cells RIV w S xs L → (∀ l ∈ L, l.length ≤ 1000) → ∃ ds : List (WV w S), xs = ds.map WV.enc ∧ L = ds.map WV.l
  | [], xs, h, _ => ⟨[], h, rfl⟩
  | a :: L, _, h, hl => by
    obtain ⟨cs, rest, rfl, ⟨A, n, c, rfl, h1⟩, h2⟩ := h
    obtain ⟨ds, rfl, rfl⟩ := wv_of_cells h2 fun l hl' => hl l (by simp [hl'])
    exact ⟨⟨A, n, c, a, h1, by have := h1.len; have := hl a (by simp); omega⟩ :: ds, rfl, rfl⟩
theorem cells_of_wv {w w' : World} {S : Nat → Prop} (hk : Kept S w w') : ∀ ds : List (WV w S), Cells RIV w' S (ds.map WV.enc) (ds.map WV.l)
  | [] => rfl
  | d :: ds => ⟨[.slice d.A d.n d.c], ds.map WV.enc, rfl, ⟨d.A, d.n, d.c, rfl, d.ok.keep hk⟩, cells_of_wv hk ds⟩
theorem cell_sorted {α : Type} [Inhabited α] (enc : α → Value) (w : World) (blk m : Nat) (d : Array α) (os : Array Obj) {p : Addr} {u : Value} (hp : p.block ≠ blk) (h : w.cell? p = some u) : (sortWorld enc w blk 0 m d os).cell? p = some u := by
  have h1 : (Go.Sort.putRow enc (Go.Sort.ahead w m) blk 0 d).cell? p = some u := by
    rw [Go.Sort.cell?_putRow_other enc _ blk 0 d p (.inl hp)]
    exact h
  have hlt := cell_lt h1
  unfold sortWorld Go.Sort.grow
  unfold World.cell? at h1 ⊢
  dsimp only
  rwa [Array.getElem?_append_left hlt]
theorem grownBy_sorted {α : Type} [Inhabited α] (enc : α → Value) (w : World) (g m : Nat) (d : Array α) (os : Array Obj) : w.grownBy (sortWorld enc w g 0 m d os) (some g) := by
  have hsz : (Go.Sort.putRow enc (Go.Sort.ahead w m) g 0 d).heap.size = w.heap.size := by simp [Go.Sort.putRow, Go.Sort.mapBlock, Go.Sort.ahead]
  refine ⟨rfl, rfl, rfl, ?_, fun k hk hne => ?_⟩
  · unfold sortWorld Go.Sort.grow
    dsimp only
    rw [Array.size_append, hsz]
    omega
  · unfold sortWorld Go.Sort.grow
    dsimp only
    rw [Array.getElem?_append_left (by rw [hsz]; exact hk)]
    have : g ≠ k := fun e => hne (by rw [e])
    simp [Go.Sort.putRow, Go.Sort.mapBlock, Go.Sort.ahead, Array.getElem?_modify, this]
/-- words sorted in place -/
theorem sortWords (w : World) (S : Nat → Prop) (base g n c : Nat) (L : List (List Int)) (hnl : L.length = n) (h : OwnL RIV w S base 22 (.slice (some ⟨g, 0, none⟩) n c) L) (h1 : 1 ≤ n) (hL : ∀ l ∈ L, l.length ≤ 1000) (hn : n ≤ 1000000) :
    Calls Try.prog 136 #[.slice (some ⟨g, 0, none⟩) n c, .func (.func 137) #[] #[]] w fun e w' =>
      e = .returned (.tuple #[]) ∧ (∃ L', OwnL RIV w' S base 22 (.slice (some ⟨g, 0, none⟩) n c) L' ∧ L'.length = n ∧ (∀ v, v ∈ L' ↔ v ∈ L) ∧ ∀ (i j : Nat) (u v : List Int), i < j → L'[i]? = some u → L'[j]? = some v → ¬ SLt v u) ∧ w.grownBy w' (some g) := by
  obtain ⟨xs, ho, hcells⟩ := h
  rw [hnl] at ho
  obtain ⟨g', e, hb, how⟩ := ho.addr (by omega)
  injection e with e
  injection e with e
  subst e
  have hrow : rowOf (.slice (some ⟨g, 0, none⟩) n c) = some g := by
    obtain ⟨A', c', e, hc', _⟩ := ho.form
    injection e with _ _ e
    subst e
    obtain ⟨k, rfl⟩ : ∃ k, c = k + 1 := ⟨c - 1, by omega⟩
    rfl
  obtain ⟨ds, rfl, hLd⟩ := wv_of_cells hcells hL
  have hlen : ds.length = n := by
    have := congrArg List.length hLd
    rw [List.length_map] at this
    omega
  have hglt : g < w.heap.size := (ho.row hrow).2
  have hH : Go.Sort.Holds WV.enc w g 0 ds.toArray := fun j hj => by
    rcases how.2 with ⟨e, _⟩ | ⟨g', cap, cur, e, _, hh, hn', hm, hs, ht⟩
    · cases e
    · injection e with e1 e2 e3
      injection e1 with e1
      injection e1 with e1
      subst e1 e3
      have hj' : j < ds.length := by simpa using hj
      refine ⟨?_, by simp [World.frozen?, hh]⟩
      rw [cell_of_row _ _ _ _ _ _ hh, Nat.zero_add, ← Array.getElem?_toList]
      have h2 : (ds.map WV.enc)[j]? = some (WV.enc ds[j]) := by rw [List.getElem?_map, List.getElem?_eq_getElem hj']; rfl
      rw [← ht, List.getElem?_take] at h2
      split at h2
      · rw [h2]
        congr 2
        rw [getElem!_pos ds.toArray j hj]
        rfl
      · cases h2
  have hcmp : CmpLays1 Try.prog 137 #[] WV.enc WV.cf g 0 ds.toArray.size w := fun m os dk _ x y => by
    have hk : ∀ z : WV w (Off S base (.slice (some ⟨g, 0, none⟩) n c)), Sl Rep.int (sortWorld WV.enc w g 0 m dk os) (Off S base (.slice (some ⟨g, 0, none⟩) n c)) z.A z.n z.c z.l := fun z => z.ok.keep fun p u hp hu => by
      refine cell_sorted _ _ _ _ _ _ (fun e => hp.2 ?_) hu
      rw [hrow, e]
    refine (cmpWords _ _ _ x.A y.A x.n x.c y.n y.c x.l y.l (hk x) (hk y) x.small y.small).mono ?_
    rintro e w' ⟨rfl, os', rfl⟩
    exact ⟨rfl, 0, os', rfl⟩
  have hcon := Any.slices_SortFunc sortW WV.enc (fun _ => rfl) WV.cf (WV.swo _ _) 137 #[] g 0 c ds.toArray w entersCmpW hcmp hH hglt (by simp; omega)
  change Calls Try.prog 136 _ _ _ at hcon
  rw [show ds.toArray.size = n by simp [hlen]] at hcon
  refine hcon.mono ?_
  rintro e w' ⟨rfl, d', q, os, ⟨hp1, _, hp3⟩, hsrt, rfl⟩
  have hd'l : d'.size = n := by rw [hp1]; simp [hlen]
  have hperm : d'.toList.Perm ds := by
    have h2 := hp3
    have hex : ∀ (z : Array (WV w (Off S base (.slice (some ⟨g, 0, none⟩) n c)))) (k : Nat), k = z.size → z.extract 0 k = z := by
      rintro z _ rfl
      simp
    rw [hex d' n hd'l.symm, hex ds.toArray n (by simp [hlen])] at h2
    simpa using h2
  have hgr := grownBy_sorted WV.enc w g q d' os
  have hk : Kept (Off S base (.slice (some ⟨g, 0, none⟩) n c)) w (sortWorld WV.enc w g 0 q d' os) := Kept.grown hgr fun b hb e => hb.2 (by rw [hrow, e])
  refine ⟨rfl, ⟨d'.toList.map WV.l, ⟨d'.toList.map WV.enc, ?_, cells_of_wv hk d'.toList⟩, by rw [List.length_map, Array.length_toList, hd'l], fun v => ?_, fun i j u v hij hu hv => ?_⟩, hgr⟩
  · rw [List.length_map, Array.length_toList, hd'l]
    have h2 := Go.Lib.ownsRow_putRow (q := q) (k := n) (ys := d'.toList) how (by rw [Array.length_toList, hd'l]) (Nat.le_refl _)
    rw [List.take_of_length_le (by rw [Array.length_toList, hd'l]; exact Nat.le_refl _)] at h2
    refine .inl ?_
    show (Go.Sort.grow _ os).ownsRow _ _ _ _ _ _
    refine h2.kept (row := none) ⟨rfl, rfl, rfl, by simp [Go.Sort.grow], fun k hk _ => ?_⟩ (by simp [Value.ownBlock])
    unfold Go.Sort.grow
    dsimp only
    rw [Array.getElem?_append_left (by simpa using hk)]
  · rw [hLd]
    simp only [List.mem_map]
    constructor
    · rintro ⟨a, ha, rfl⟩; exact ⟨a, hperm.mem_iff.1 ha, rfl⟩
    · rintro ⟨a, ha, rfl⟩; exact ⟨a, hperm.mem_iff.2 ha, rfl⟩
  · rw [List.getElem?_map, Array.getElem?_toList] at hu hv
    have hi : i < d'.size := by
      rcases Nat.lt_or_ge i d'.size with h | h
      · exact h
      · rw [Array.getElem?_eq_none h] at hu; cases hu
    have hj : j < d'.size := by
      rcases Nat.lt_or_ge j d'.size with h | h
      · exact h
      · rw [Array.getElem?_eq_none h] at hv; cases hv
    rw [Array.getElem?_eq_getElem hi] at hu
    rw [Array.getElem?_eq_getElem hj] at hv
    injection hu with hu
    injection hv with hv
    have h2 := hsrt i j (Nat.zero_le _) hij (by omega)
    rw [getElem!_pos d' j hj, getElem!_pos d' i hi] at h2
    rw [← hu, ← hv]
    intro h3
    rw [WV.lt.2 h3] at h2
    cases h2
set_option maxHeartbeats 1000000 in
theorem eqWords (w : World) (S1 S2 : Nat → Prop) (A1 A2 : Option Addr) (n1 c1 n2 c2 : Nat) (u v : List Int) (hu : Sl Rep.int w S1 A1 n1 c1 u) (hv : Sl Rep.int w S2 A2 n2 c2 v) (h1 : n1 ≤ 1000) (h2 : n2 ≤ 1000) :
    Calls Try.prog 140 #[.slice A1 n1 c1, .slice A2 n2 c2] w fun e w' => e = .returned (.bool (u == v)) ∧ ∃ m, w' = w.drewN m := by
  have HU := Lib.hid hu
  have HV := Lib.hid hv
  clear hu hv
  go_enter Try.func140, Try.ntmps140
  go_wp2_with fail
  refine (equalInt A1 A2 n1 c1 n2 c2 _ _ u v w HU.out.ints HV.out.ints (by omega) (by omega)).mono ?_
  rintro e _ ⟨rfl, d, rfl⟩
  go_wp2_with fail
  go_ret
  exact ⟨rfl, d, rfl⟩
theorem entersEqW : ∀ (args : Array Value) (u : World), (callFunc 140 args).run Try.prog u = .ok (.enter 140 args) u := enters_of Try.func140 (by kernel_rfl) rfl
/-- a block that begins with these values -/
def RowV (w : World) (g : Nat) (l : List Value) : Prop := ∃ cur : Array Value, w.heap[g]? = some (.cells cur 22 (0, 0)) ∧ l.length ≤ cur.size ∧ ∀ (k : Nat) (v : Value), l[k]? = some v → cur[k]? = some v
section
variable {w w' : World} {g : Nat} {l : List Value}
theorem RowV.at_ (h : RowV w g l) {k : Nat} {v : Value} (hk : l[k]? = some v) : w.cell? ⟨g, k, none⟩ = some v := by
  obtain ⟨cur, h1, _, h2⟩ := h
  rw [cell_of_row _ _ _ _ _ _ h1]
  exact h2 k v hk
theorem RowV.fr (h : RowV w g l) (k : Nat) : w.frozen? ⟨g, k, none⟩ = false := by
  obtain ⟨cur, h1, _⟩ := h
  simp [World.frozen?, h1]
theorem RowV.lt (h : RowV w g l) : g < w.heap.size := by
  obtain ⟨cur, h1, _⟩ := h
  exact (Array.getElem?_eq_some_iff.1 h1).1
theorem RowV.same (h : RowV w g l) (e : w'.heap[g]? = w.heap[g]?) : RowV w' g l := by
  obtain ⟨cur, h1, h2⟩ := h
  exact ⟨cur, e.trans h1, h2⟩
theorem RowV.set (h : RowV w g l) {k : Nat} (hk : k < l.length) (x : Value) : RowV (w.setCell ⟨g, k, none⟩ x) g (l.set k x) := by
  obtain ⟨cur, h1, h2, h3⟩ := h
  refine ⟨cur.setIfInBounds k x, heap_setCell_same w g _ cur 22 _ h1, by simpa using h2, fun i v hi => ?_⟩
  rw [Array.getElem?_setIfInBounds]
  by_cases e : k = i
  · subst e
    rw [List.getElem?_set_self hk] at hi
    injection hi with hi
    subst hi
    rw [if_pos rfl, if_pos (by omega)]
  · rw [List.getElem?_set_ne e] at hi
    rw [if_neg e]
    exact h3 i v hi
theorem RowV.sets {x : Value} : ∀ {n k : Nat} {w : World} {l : List Value}, RowV w g l → k + n ≤ l.length → ∃ l', RowV (w.setCells g k (List.replicate n x)) g l' ∧ l'.length = l.length ∧ ∀ j, j < k → l'[j]? = l[j]?
  | 0, k, w, l, h, _ => ⟨l, h, rfl, fun _ _ => rfl⟩
  | n + 1, k, w, l, h, hn => by
    obtain ⟨l', h1, h2, h3⟩ := RowV.sets (n := n) (k := k + 1) (h.set (k := k) (by omega) x) (by rw [List.length_set]; omega)
    refine ⟨l', h1, by rw [h2, List.length_set], fun j hj => ?_⟩
    rw [h3 j (by omega), List.getElem?_set_ne (by omega)]
end
theorem setCells_grown {g : Nat} : ∀ (vs : List Value) (k : Nat) (w : World), w.grownBy (w.setCells g k vs) (some g)
  | [], _, w => World.grownBy.refl w _
  | v :: vs, k, w => (set_grown w k v).trans (setCells_grown vs (k + 1) _)
section
variable {w0 : World} {S : Nat → Prop}
/-- what is left of the first i words: k of them, at the row's head -/
structure CStW (ds : List (WV w0 S)) (cur : List Value) (k i : Nat) : Prop where
  len : cur.length = ds.length
  head : ∃ (R : List (WV w0 S)) (x y : WV w0 S), cur.take k = R.map WV.enc ++ [x.enc] ∧ R.length + 1 = k ∧ ((R ++ [x]).map WV.l).Pairwise SLt ∧ (∀ v, v ∈ (R ++ [x]).map WV.l ↔ v ∈ (ds.take i).map WV.l) ∧ ds[i - 1]? = some y ∧ x.l = y.l
  rest : ∀ j, i - 1 ≤ j → j < ds.length → cur[j]? = (ds.map WV.enc)[j]?
  ki : k + 1 ≤ i
  il : i ≤ ds.length
theorem take_succ_some {α : Type} {l : List α} {k : Nat} {x : α} (h : l[k]? = some x) : l.take (k + 1) = l.take k ++ [x] := by
  obtain ⟨hk, rfl⟩ := List.getElem?_eq_some_iff.1 h
  exact List.take_succ_eq_append_getElem hk
theorem CStW.same {ds : List (WV w0 S)} {cur : List Value} {k i : Nat} (h : CStW ds cur k i) {y z : WV w0 S} (hy : ds[i - 1]? = some y) (hz : ds[i]? = some z) (he : z.l = y.l) : CStW ds cur k (i + 1) := by
  obtain ⟨R, x, y', h1, h2, h3, h4, h5, h6⟩ := h.head
  rw [hy] at h5
  injection h5 with h5
  subst h5
  have hil := (List.getElem?_eq_some_iff.1 hz).1
  refine ⟨h.len, ⟨R, x, z, h1, h2, h3, fun v => ?_, by simpa using hz, by rw [h6, he]⟩, fun j a b => h.rest j (by omega) b, by have := h.ki; omega, by omega⟩
  rw [h4, take_succ_some hz, List.map_append, List.mem_append]
  constructor
  · exact .inl
  · rintro (h7 | h7)
    · exact h7
    · have h8 : v = z.l := by simpa using h7
      rw [h8, he]
      have hi1 : i - 1 < i := by have := h.ki; omega
      exact List.mem_map.2 ⟨y, List.mem_of_getElem? (by rw [List.getElem?_take, if_pos hi1]; exact hy), rfl⟩
theorem CStW.add {ds : List (WV w0 S)} {cur : List Value} {k i : Nat} (h : CStW ds cur k i) {y z : WV w0 S} (hy : ds[i - 1]? = some y) (hz : ds[i]? = some z) (he : SLt y.l z.l) : CStW ds (cur.set k z.enc) (k + 1) (i + 1) := by
  obtain ⟨R, x, y', h1, h2, h3, h4, h5, h6⟩ := h.head
  rw [hy] at h5
  injection h5 with h5
  subst h5
  have hil := (List.getElem?_eq_some_iff.1 hz).1
  have hki := h.ki
  have hkl : k < cur.length := by rw [h.len]; omega
  have hall : ∀ v ∈ (R ++ [x]).map WV.l, SLt v z.l := fun v hv => by
    rw [List.map_append] at hv h3
    rcases List.mem_append.1 hv with h7 | h7
    · have h8 := (List.pairwise_append.1 h3).2.2 v h7 x.l (by simp)
      rw [h6] at h8
      exact h8.trans he
    · have h8 : v = x.l := by simpa using h7
      rw [h8, h6]
      exact he
  refine ⟨by rw [List.length_set]; exact h.len, ⟨R ++ [x], z, z, ?_, by simp; omega, ?_, fun v => ?_, by simpa using hz, rfl⟩, fun j a b => ?_, by omega, by omega⟩
  · rw [List.take_succ_eq_append_getElem (by rw [List.length_set]; exact hkl), List.getElem_set_self, List.take_set_of_le (Nat.le_refl _), h1, List.map_append]
    rfl
  · rw [List.map_append]
    refine List.pairwise_append.2 ⟨h3, by simp, fun a ha b hb => ?_⟩
    have h8 : b = z.l := by simpa using hb
    rw [h8]
    exact hall a ha
  · rw [List.map_append, List.mem_append, h4, take_succ_some hz, List.map_append, List.mem_append]
  · rw [List.getElem?_set_ne (by omega)]
    exact h.rest j (by omega) b
/-- the first k words lie in order, each once -/
def Asc (ds : List (WV w0 S)) (k : Nat) : Prop := ((ds.take k).map WV.l).Pairwise SLt
theorem Asc.one (ds : List (WV w0 S)) : Asc ds 1 := by
  unfold Asc
  cases ds <;> simp
theorem Asc.step {ds : List (WV w0 S)} {k : Nat} (h : Asc ds (k + 1)) {y z : WV w0 S} (hy : ds[k]? = some y) (hz : ds[k + 1]? = some z) (he : SLt y.l z.l) : Asc ds (k + 2) := by
  unfold Asc at *
  rw [take_succ_some hz, List.map_append]
  refine List.pairwise_append.2 ⟨h, by simp, fun a ha b hb => ?_⟩
  have h8 : b = z.l := by simpa using hb
  rw [h8]
  rw [take_succ_some hy, List.map_append] at h ha
  rcases List.mem_append.1 ha with h7 | h7
  · exact ((List.pairwise_append.1 h).2.2 a h7 y.l (by simp)).trans he
  · have h9 : a = y.l := by simpa using h7
    rw [h9]
    exact he
theorem CStW.start {ds : List (WV w0 S)} {k : Nat} (h : Asc ds (k + 1)) {y z : WV w0 S} (hy : ds[k]? = some y) (hz : ds[k + 1]? = some z) (he : z.l = y.l) : CStW ds (ds.map WV.enc) (k + 1) (k + 2) := by
  have hil := (List.getElem?_eq_some_iff.1 hz).1
  refine ⟨by simp, ⟨ds.take k, y, z, ?_, by rw [List.length_take]; omega, ?_, fun v => ?_, by simpa using hz, he.symm⟩, fun _ _ _ => rfl, by omega, by omega⟩
  · rw [← List.map_take, take_succ_some hy, List.map_append]
    rfl
  · rw [← take_succ_some hy]; exact h
  · rw [← take_succ_some hy, take_succ_some hz, List.map_append, List.mem_append]
    constructor
    · exact .inl
    · rintro (h7 | h7)
      · exact h7
      · have h8 : v = z.l := by simpa using h7
        rw [h8, he]
        exact List.mem_map.2 ⟨y, List.mem_of_getElem? (i := k) (by rw [List.getElem?_take, if_pos (by omega)]; exact hy), rfl⟩
end
/-- what is returned: the words, in order, each once -/
def CompR (w : World) (S : Nat → Prop) (g c : Nat) (L : List (List Int)) (e : Ending) (w' : World) : Prop :=
  ∃ (k : Nat) (R : List (List Int)), e = .returned (.slice (some ⟨g, 0, none⟩) k c) ∧ Sl RIV w' (fun b => S b ∨ b = g) (some ⟨g, 0, none⟩) k c R ∧ R.Pairwise SLt ∧ (∀ v, v ∈ R ↔ v ∈ L) ∧ w.grownBy w' (some g)
theorem CompR.of {w w' : World} {S : Nat → Prop} {g c k n : Nat} {L : List (List Int)} (hS : ¬ S g) {ds R : List (WV w S)} {cur : List Value} (hr : RowV w' g cur) (hk : cur.take k = R.map WV.enc) (hkR : R.length = k) (hkn : k ≤ n) (hnc : n ≤ c) (hsrt : (R.map WV.l).Pairwise SLt) (hmem : ∀ v, v ∈ R.map WV.l ↔ v ∈ ds.map WV.l) (hL : L = ds.map WV.l) (hg : w.grownBy w' (some g)) :
    CompR w S g c L (.returned (.slice (some ⟨g, 0, none⟩) k c)) w' := by
  have hkeep : Kept S w w' := Kept.grown hg fun b hb e => hS (by injection e with e; rw [e]; exact hb)
  refine ⟨k, R.map WV.l, rfl, ⟨R.map WV.enc, by rw [List.length_map, hkR], by omega, ⟨by rw [List.length_map, hkR]; exact (Nat.mul_one k).symm, fun _ => ⟨g, 0, rfl, .inr rfl, fun j u hu => ?_⟩⟩, (cells_of_wv hkeep R).more fun b hb => .inl hb⟩, hsrt, fun v => by rw [hmem, hL], hg⟩
  rw [Nat.zero_add]
  refine hr.at_ ?_
  rw [← hk, List.getElem?_take] at hu
  split at hu
  · exact hu
  · cases hu
set_option linter.unusedSimpArgs false in
set_option maxRecDepth 1000000 in
set_option maxHeartbeats 8000000 in
theorem compactWords (w : World) (S : Nat → Prop) (base g n c : Nat) (L : List (List Int)) (hnl : L.length = n) (h : OwnL RIV w S base 22 (.slice (some ⟨g, 0, none⟩) n c) L) (h1 : 1 ≤ n) (hL : ∀ l ∈ L, l.length ≤ 1000) (hn : n ≤ 1000000)
    (hsrt : ∀ (i j : Nat) (u v : List Int), i < j → L[i]? = some u → L[j]? = some v → ¬ SLt v u) :
    Calls Try.prog 139 #[.slice (some ⟨g, 0, none⟩) n c, .func (.func 140) #[] #[]] w fun e w' => CompR w (Off S base (.slice (some ⟨g, 0, none⟩) n c)) g c L e w' := by
  obtain ⟨xs, ho, hcells⟩ := h
  rw [hnl] at ho
  obtain ⟨g', cur, e, _, hh, hnc, hrow, hcur⟩ := ho.blkS h1
  injection e with e
  injection e with e
  subst e
  have hSg : ¬ Off S base (.slice (some ⟨g, 0, none⟩) n c) g := fun h => h.2 hrow
  obtain ⟨S', hS'⟩ : ∃ S', S' = Off S base (.slice (some ⟨g, 0, none⟩) n c) := ⟨_, rfl⟩
  rw [← hS'] at hcells hSg ⊢
  clear hS'
  obtain ⟨ds, rfl, hLd⟩ := wv_of_cells hcells hL
  have hlen : ds.length = n := by
    have := congrArg List.length hLd
    rw [List.length_map] at this
    omega
  have hcs : n ≤ cur.size := by
    have h2 : (ds.map WV.enc)[n - 1]? = some (ds[n - 1]'(by omega)).enc := by rw [List.getElem?_map, List.getElem?_eq_getElem (by omega)]; rfl
    have := (Array.getElem?_eq_some_iff.1 (hcur _ _ h2)).1
    omega
  have hrv : RowV w g (ds.map WV.enc) := ⟨cur, hh, by rw [List.length_map]; omega, hcur⟩
  have HSRT := Lib.hid (show ∀ (i j : Nat) (x y : WV w S'), i < j → ds[i]? = some x → ds[j]? = some y → ¬ SLt y.l x.l from fun i j x y hij hx hy => hsrt i j x.l y.l hij (by rw [hLd, List.getElem?_map, hx]; rfl) (by rw [hLd, List.getElem?_map, hy]; rfl))
  have HRV := Lib.hid hrv
  have HLD := Lib.hid hLd
  have HLEN := Lib.hid hlen
  have HSG := Lib.hid hSg
  have HEQ := Lib.hid (show ∀ (u : World) (x y : WV w S'), w.grownBy u (some g) → ∀ q, Calls Try.prog 140 #[.slice x.A x.n x.c, .slice y.A y.n y.c] (u.drewN q) fun e w' => e = .returned (.bool (x.l == y.l)) ∧ ∃ m, w' = (u.drewN q).drewN m from fun u x y hu q => by
    have hk : Kept S' w (u.drewN q) := (Kept.grown hu fun b hb e => hSg (by injection e with e; rw [e]; exact hb)).trans (.drewN _ _ _)
    exact eqWords _ _ _ x.A y.A x.n x.c y.n y.c x.l y.l (x.ok.keep hk) (y.ok.keep hk) x.small y.small)
  have eg := entersEqW
  clear hcells ho hh hcur hrow hrv hSg hnl hL hsrt hlen hcs hLd h1
  go_enter Try.func139, Try.ntmps139
  by_cases h2 : n < 2
  · have i1 : decide ((n : Int) < 2) = true := by simp; omega
    go_wp2_with fail
    go_ret
    refine CompR.of HSG.out (ds := ds) HRV.out (R := ds) (by rw [List.take_of_length_le (by rw [List.length_map]; have := HLEN.out; omega)]) HLEN.out (Nat.le_refl n) hnc ?_ (fun _ => Iff.rfl) HLD.out (World.grownBy.refl _ _)
    have h3 := Asc.one ds
    unfold Asc at h3
    rwa [List.take_of_length_le (by have := HLEN.out; omega)] at h3
  · have i1 : decide ((n : Int) < 2) = false := by simp; omega
    go_wp2_with fail
    go_loopg [5] n (fun gk v5 wr => ∃ kp : Nat, kp + 1 ≤ n ∧ gk = n - kp ∧ v5 = .int .i64 ((kp : Int) + 1) ∧ RowV wr g (ds.map WV.enc) ∧ Asc ds (kp + 1) ∧ w.grownBy wr (some g))
    case atStart => exact ⟨0, by omega, rfl, rfl, HRV.out, Asc.one ds, World.grownBy.refl _ _⟩
    case round =>
      obtain ⟨kp, hkp, hgk, rfl, hrv, hasc, hgr⟩ := hrel
      obtain ⟨w2, rfl⟩ : ∃ w2 : World, w2 = wr := ⟨_, rfl⟩
      have HGK := Lib.hid hgk
      have HRV2 := Lib.hid hrv
      have HASC := Lib.hid hasc
      have HGR := Lib.hid hgr
      clear hgk hrv hasc hgr
      by_cases hlt : kp + 1 < n
      · have hltI : (kp : Int) + 1 < (n : Int) := by omega
        obtain ⟨y, hy⟩ : ∃ y, ds[kp]? = some y := ⟨_, List.getElem?_eq_getElem (by rw [HLEN.out]; omega)⟩
        obtain ⟨z, hz⟩ : ∃ z, ds[kp + 1]? = some z := ⟨_, List.getElem?_eq_getElem (by rw [HLEN.out]; omega)⟩
        have cy := HRV2.out.at_ (k := kp) (v := y.enc) (by rw [List.getElem?_map, hy]; rfl)
        have cz := HRV2.out.at_ (k := kp + 1) (v := z.enc) (by rw [List.getElem?_map, hz]; rfl)
        have cy' : w2.cell? ⟨g, kp, none⟩ = some (.slice y.A y.n y.c) := cy
        have cz' : w2.cell? ⟨g, kp + 1, none⟩ = some (.slice z.A z.n z.c) := cz
        have HY := Lib.hid hy
        have HZ := Lib.hid hz
        have HQ := Lib.hid (HEQ.out w2 z y HGR.out)
        have hkI : (kp : Int) < (n : Int) := by omega
        have p0 : (0 : Int) ≤ (kp : Int) + 1 := by omega
        have e0 : ((kp : Int) + 1).toNat = kp + 1 := by omega
        have hwp : IntKind.i64.wrap (kp : Int) = (kp : Int) := by rw [IntKind.wrap_i64]; omega
        clear hy hz cy cz
        go_upto_block 6 with fail
        go_quiet ((go_at_fn 140; refine Calls.quiet_of (HQ.out _)))
        obtain ⟨w3, hw3⟩ : ∃ w3, w3 = w2.drewN nq := ⟨_, rfl⟩
        have hg23 : w2.grownBy w3 (some g) := by rw [hw3]; exact ⟨rfl, rfl, rfl, Nat.le_refl _, fun _ _ _ => rfl⟩
        have HRV3 := Lib.hid (show RowV w3 g (ds.map WV.enc) by rw [hw3]; exact HRV2.out.same rfl)
        have HGR3 := Lib.hid (HGR.out.trans hg23)
        rw [← hw3]
        clear hw3 hg23 cy' cz'
        generalize hb : (z.l == y.l) = bq
        cases bq with
        | true =>
          have he : z.l = y.l := by simpa using hb
          clear hb
          obtain ⟨k0, hk0⟩ : ∃ k0, k0 = kp + 1 := ⟨_, rfl⟩
          obtain ⟨m2, hm2⟩ : ∃ m2, m2 = n - k0 := ⟨_, rfl⟩
          obtain ⟨c2, hc2⟩ : ∃ c2, c2 = c - k0 := ⟨_, rfl⟩
          have hcut : ∀ u : World, (Instr.slice 23 (.slice (some ⟨g, 0, none⟩) n c) (some (.int .i64 (k0 : Int))) none none).run Try.prog u = .ok (.slice (some ⟨g, k0, none⟩) m2 c2) u := fun u => by
            have := tIntss.ll (some ⟨g, 0, none⟩) n c (k0 : Int) (by omega) (by omega) u
            rw [this, Int.toNat_natCast, if_neg (by omega), hm2, hc2]
            simp [Addr.add]
            omega
          have hki : (kp : Int) + 1 = (k0 : Int) := by omega
          have hst := CStW.start HASC.out HY.out HZ.out he
          have HST := Lib.hid hst
          have HE := Lib.hid (And.intro hk0 (And.intro hm2 hc2))
          rw [hki]
          clear hst hk0 hm2 hc2 he hki e0 p0 hwp hltI hkI
          go_wp2_with fail
          go_loopg [5, 7] m2 (fun gk2 v5 v7 wr => ∃ (k k2 : Nat) (cur : List Value), k2 + 1 ≤ m2 ∧ gk2 = m2 - k2 ∧ v5 = .int .i64 (k : Int) ∧ v7 = .int .i64 ((k2 : Int) + 1) ∧ CStW ds cur k (k0 + k2 + 1) ∧ RowV wr g cur ∧ w.grownBy wr (some g))
          case atStart =>
            refine ⟨k0, 0, _, ?_, rfl, rfl, rfl, ?_, HRV3.out, HGR3.out⟩
            · have := HE.out; omega
            · have := HST.out
              rw [show kp + 1 = k0 from HE.out.1.symm, show kp + 2 = k0 + 0 + 1 by have := HE.out.1; omega] at this
              exact this
          case round =>
            obtain ⟨k, k2, cur2, hk2, hgk2, rfl, rfl, hst4, hrv4, hgr4⟩ := hrel
            obtain ⟨w4, rfl⟩ : ∃ w4 : World, w4 = wr := ⟨_, rfl⟩
            have HGK2 := Lib.hid hgk2
            have HST4 := Lib.hid hst4
            have HRV4 := Lib.hid hrv4
            have HGR4 := Lib.hid hgr4
            have hki4 := hst4.ki
            have hil4 := hst4.il
            rw [HLEN.out] at hil4
            have hcl4 : cur2.length = n := hst4.len.trans HLEN.out
            have HIL4 := Lib.hid (And.intro hki4 (And.intro hil4 hcl4))
            clear hgk2 hst4 hrv4 hgr4 hki4 hil4 hcl4
            by_cases hlt2 : k2 + 1 < m2
            · have hiN : k0 + k2 + 1 < n := by have := HE.out; omega
              obtain ⟨y2, hy2⟩ : ∃ y2, ds[k0 + k2]? = some y2 := ⟨_, List.getElem?_eq_getElem (by rw [HLEN.out]; omega)⟩
              obtain ⟨z2, hz2⟩ : ∃ z2, ds[k0 + k2 + 1]? = some z2 := ⟨_, List.getElem?_eq_getElem (by rw [HLEN.out]; omega)⟩
              have cy : w4.cell? ⟨g, k0 + k2, none⟩ = some (.slice y2.A y2.n y2.c) := HRV4.out.at_ (by rw [HST4.out.rest (k0 + k2) (by omega) (by rw [HLEN.out]; omega), List.getElem?_map, hy2]; rfl)
              have cz : w4.cell? ⟨g, k0 + (k2 + 1), none⟩ = some (.slice z2.A z2.n z2.c) := HRV4.out.at_ (by rw [show k0 + (k2 + 1) = k0 + k2 + 1 by omega, HST4.out.rest (k0 + k2 + 1) (by omega) (by rw [HLEN.out]; omega), List.getElem?_map, hz2]; rfl)
              have HY2 := Lib.hid hy2
              have HZ2 := Lib.hid hz2
              have HQ2 := Lib.hid (HEQ.out w4 z2 y2 HGR4.out)
              have hltI : (k2 : Int) + 1 < (m2 : Int) := by omega
              have hkI : (k2 : Int) < (m2 : Int) := by omega
              have p0 : (0 : Int) ≤ (k2 : Int) + 1 := by omega
              have e0 : ((k2 : Int) + 1).toNat = k2 + 1 := by omega
              have hwp : IntKind.i64.wrap (k2 : Int) = (k2 : Int) := by rw [IntKind.wrap_i64]; have := HE.out; omega
              clear hy2 hz2
              go_upto_block 11 with fail
              go_quiet ((go_at_fn 140; refine Calls.quiet_of (HQ2.out _)))
              obtain ⟨w5, hw5⟩ : ∃ w5, w5 = w4.drewN nq := ⟨_, rfl⟩
              have hg45 : w4.grownBy w5 (some g) := by rw [hw5]; exact ⟨rfl, rfl, rfl, Nat.le_refl _, fun _ _ _ => rfl⟩
              have hrv5 : RowV w5 g cur2 := by rw [hw5]; exact HRV4.out.same rfl
              have cz5 : w5.cell? ⟨g, k0 + (k2 + 1), none⟩ = some (.slice z2.A z2.n z2.c) := by rw [hw5]; exact cz
              have HRV5 := Lib.hid hrv5
              have HGR5 := Lib.hid (HGR4.out.trans hg45)
              rw [← hw5]
              clear hw5 hg45 cy cz
              generalize hb : (z2.l == y2.l) = bq
              cases bq with
              | true =>
                have he : z2.l = y2.l := by simpa using hb
                clear hb hrv5
                have HE2 := Lib.hid he
                clear he
                go_wp2_with fail
                go_roundg (m2 - (k2 + 1))
                case measure => rw [HGK2.out]; omega
                case rel => exact ⟨k, k2 + 1, cur2, by omega, rfl, rfl, by go_num, HST4.out.same (i := k0 + k2 + 1) HY2.out HZ2.out HE2.out, HRV5.out, HGR5.out⟩
              | false =>
                have he : ¬ z2.l = y2.l := by simpa using hb
                clear hb
                have HE2 := Lib.hid he
                have hfr := hrv5.fr k
                have hkn : k < n := by have := HIL4.out; omega
                have hck : (w5.cell? ⟨g, k, none⟩).isSome = true := by
                  have : cur2[k]? = some (cur2[k]'(by have := HIL4.out; omega)) := List.getElem?_eq_getElem _
                  rw [hrv5.at_ this]
                  rfl
                have hkI2 : (k : Int) < (n : Int) := by omega
                obtain ⟨uk, huk⟩ := Option.isSome_iff_exists.1 hck
                clear he hrv5 hck
                go_wp2_with fail
                go_roundg (m2 - (k2 + 1))
                case measure => rw [HGK2.out]; omega
                case rel =>
                  refine ⟨k + 1, k2 + 1, cur2.set k z2.enc, by omega, rfl, by go_num, by go_num, HST4.out.add (i := k0 + k2 + 1) HY2.out HZ2.out ?_, HRV5.out.set (by have := HIL4.out; omega) _, HGR5.out.trans (set_grown w5 k _)⟩
                  rcases SLt.total y2.l z2.l with h | h | h
                  · exact h
                  · exact absurd h.symm HE2.out
                  · exact absurd h (HSRT.out (k0 + k2) (k0 + k2 + 1) y2 z2 (by omega) HY2.out HZ2.out)
            · obtain rfl : m2 = k2 + 1 := by omega
              have hltI : ¬ ((k2 : Int) + 1 < ((k2 + 1 : Nat) : Int)) := by omega
              have hkn : k < n := by have := HIL4.out; omega
              obtain ⟨m3, hm3⟩ : ∃ m3, m3 = n - k := ⟨_, rfl⟩
              obtain ⟨c3, hc3⟩ : ∃ c3, c3 = c - k := ⟨_, rfl⟩
              have hk1 : 1 ≤ k := by
                obtain ⟨R, x, y, _, h2, _⟩ := HST4.out.head
                omega
              have hcut3 : ∀ u : World, (Instr.slice 23 (.slice (some ⟨g, 0, none⟩) n c) (some (.int .i64 (k : Int))) none none).run Try.prog u = .ok (.slice (some ⟨g, k, none⟩) m3 c3) u := fun u => by
                have := tIntss.ll (some ⟨g, 0, none⟩) n c (k : Int) (by omega) (by omega) u
                rw [this, Int.toNat_natCast, if_neg (by omega), hm3, hc3]
                simp [Addr.add]
                omega
              have hcutN : ∀ u : World, (Instr.slice 23 (.slice (some ⟨g, 0, none⟩) n c) none (some (.int .i64 (k : Int))) none).run Try.prog u = .ok (.slice (some ⟨g, 0, none⟩) k c) u := fun u => tIntss.hN _ n c k (by omega) u
              have hcl : ∀ ty, (Builtin.clear_ #[23] ty #[.slice (some ⟨g, k, none⟩) m3 c3]).run Try.prog w4 = .ok (.tuple #[]) (w4.setCells g k (List.replicate m3 (.slice none 0 0))) := fun ty =>
                Lib.run_clear_slice _ 23 22 ty (.slice none 0 0) Try.underlying23 (fun _ => by kernel_rfl) rfl rfl g k m3 c3 (by omega) (fun j hj => by
                  have : cur2[k + j]? = some (cur2[k + j]'(by have := HIL4.out; omega)) := List.getElem?_eq_getElem _
                  rw [HRV4.out.at_ this]
                  rfl) (fun j _ => HRV4.out.fr _)
              obtain ⟨cur5, hr5, hl5, hs5⟩ := HRV4.out.sets (x := .slice none 0 0) (n := m3) (k := k) (by have := HIL4.out; omega)
              have HR5 := Lib.hid hr5
              have HS5 := Lib.hid hs5
              have HG5 := Lib.hid (HGR4.out.trans (setCells_grown (List.replicate m3 (.slice none 0 0)) k w4))
              clear hr5 hs5 hl5 hm3 hc3
              go_wp2_with fail
              go_ret
              obtain ⟨R, x, y, a1, a2, a3, a4, a5, a6⟩ := HST4.out.head
              have hend : (ds.take (k0 + k2 + 1)) = ds := List.take_of_length_le (by have := HE.out; rw [HLEN.out]; omega)
              rw [hend] at a4
              refine CompR.of HSG.out (ds := ds) HR5.out (R := R ++ [x]) ?_ (by simp; omega) (Nat.le_of_lt hkn) hnc a3 a4 HLD.out HG5.out
              rw [List.map_append]
              rw [show R.map WV.enc ++ [x].map WV.enc = cur2.take k from a1.symm]
              apply List.ext_getElem?
              intro j
              rw [List.getElem?_take, List.getElem?_take]
              split
              · rename_i hj; exact HS5.out j hj
              · rfl
        | false =>
          have he : ¬ z.l = y.l := by simpa using hb
          clear hb
          have HE := Lib.hid he
          clear he
          go_wp2_with fail
          go_roundg (n - (kp + 1))
          case measure => rw [HGK.out]; omega
          case rel =>
            refine ⟨kp + 1, by omega, rfl, by go_num, HRV3.out, HASC.out.step HY.out HZ.out ?_, HGR3.out⟩
            rcases SLt.total y.l z.l with h | h | h
            · exact h
            · exact absurd h.symm HE.out
            · exact absurd h (HSRT.out kp (kp + 1) y z (by omega) HY.out HZ.out)
      · obtain rfl : n = kp + 1 := by omega
        have hltI : ¬ ((kp : Int) + 1 < ((kp + 1 : Nat) : Int)) := by omega
        go_wp2_with fail
        go_ret
        refine CompR.of HSG.out (ds := ds) HRV2.out (R := ds) (by rw [List.take_of_length_le (by rw [List.length_map]; have := HLEN.out; omega)]) HLEN.out (Nat.le_refl _) hnc ?_ (fun _ => Iff.rfl) HLD.out HGR.out
        have h3 := HASC.out
        unfold Asc at h3
        rwa [List.take_of_length_le (by have := HLEN.out; omega)] at h3
def prefsW (w : List Int) : List (List Int) := (List.range w.length).map fun n => w.take (n + 1)
theorem prefsW_step {w : List Int} {j : Nat} (h : j < w.length) : (prefsW w).take (j + 1) = (prefsW w).take j ++ [w.take (j + 1)] := by
  unfold prefsW
  rw [List.take_succ_eq_append_getElem (by simpa using h)]
  simp
theorem prefsW_len (w : List Int) : (prefsW w).length = w.length := by simp [prefsW]
def rawAt (ws : List (List Int)) (i : Nat) : List (List Int) := [] :: (ws.take i).flatMap prefsW
theorem rawAt_step {ws : List (List Int)} {i : Nat} {x : List Int} (h : ws[i]? = some x) : rawAt ws (i + 1) = rawAt ws i ++ prefsW x := by
  unfold rawAt
  obtain ⟨hk, rfl⟩ := List.getElem?_eq_some_iff.1 h
  rw [List.take_succ_eq_append_getElem hk, List.flatMap_append]
  simp
theorem rawAt_end (ws : List (List Int)) : rawAt ws ws.length = rawP ws := by unfold rawAt rawP; rw [List.take_length]; rfl
/-- what prefixes returns -/
def PrefR (ws : List (List Int)) (e : Ending) (w' : World) : Prop :=
  ∃ (g k c : Nat) (L : List (List Int)), e = .returned (.slice (some ⟨g, 0, none⟩) k c) ∧ Sl RIV w' (fun _ => True) (some ⟨g, 0, none⟩) k c L ∧ PreL L ws
set_option linter.unusedSimpArgs false in
set_option maxRecDepth 1000000 in
set_option maxHeartbeats 8000000 in
theorem mergePrefixes (w : World) (S : Nat → Prop) (A : Option Addr) (n c : Nat) (ws : List (List Int)) (hs : Sl RIV w S A n c ws) (hn : n ≤ 1000) (hw : ∀ x ∈ ws, x.length ≤ 12) :
    Calls Try.prog 110 #[.slice A n c] w fun e w' => PrefR ws e w' ∧ Below w.heap.size w w' := by
  obtain ⟨w1, hw1⟩ : ∃ w1 : World, w1 = (w.alloc (.cells #[] 3)).alloc (.cells #[.slice (some ⟨w.heap.size, 0, none⟩) 0 0] 22) := ⟨_, rfl⟩
  obtain ⟨S', hS'⟩ : ∃ S' : Nat → Prop, S' = fun b => S b ∧ b < w.heap.size := ⟨_, rfl⟩
  have hb1 : Below w.heap.size w w1 := by rw [hw1]; exact ((Below.refl _ _).alloc (Nat.le_refl _) _).alloc (by simp) _
  have hs1 : Sl RIV w1 S' A n c ws := by rw [hS']; exact hs.fit.below hb1
  have hz1 : w1.heap.size = w.heap.size + 2 := by rw [hw1]; simp
  have ho1 : OwnL RIV w1 S' w.heap.size 22 (.slice (some ⟨w.heap.size + 1, 0, none⟩) 1 1) [[]] := by
    refine ⟨[.slice (some ⟨w.heap.size, 0, none⟩) 0 0], .inl ?_, Cells.single ⟨some ⟨w.heap.size, 0, none⟩, 0, 0, rfl, Sl.nil _ _ _ _⟩⟩
    have := World.ownsRow_lit (e := 22) (size := 1) (base := w.heap.size) (w.alloc (.cells #[] 3)) #[.slice (some ⟨w.heap.size, 0, none⟩) 0 0] 1 (by simp) (by unfold maxLen; omega) (by simp)
    rw [World.size_alloc] at this
    rw [hw1]
    exact this
  have HS1 := Lib.hid hs1
  have HO1 := Lib.hid ho1
  have HB1 := Lib.hid hb1
  have HW := Lib.hid hw
  have HL := Lib.hid hs.len
  have HSB := Lib.hid (show ∀ b, S' b → b < w.heap.size from fun b hb => by rw [hS'] at hb; exact hb.2)
  clear hs hs1 ho1 hb1 hw hS'
  go_enter Try.func110, Try.ntmps110
  go_wp2_with fail
  rw [← hw1]
  have hz1a : w.heap.size + 2 ≤ w1.heap.size := by omega
  clear hw1 hz1
  go_loopg [3, 5, 6, 11] n (fun gk v3 _ _ v11 wr => ∃ i : Nat, i ≤ n ∧ gk = n - i ∧ v11 = .int .i64 (i : Int) ∧ OwnL RIV wr S' w.heap.size 22 v3 (rawAt ws i) ∧ (rawAt ws i).length ≤ 1 + 12 * i ∧ Below w.heap.size w1 wr)
  case atStart => exact ⟨0, Nat.zero_le _, rfl, rfl, HO1.out, by simp [rawAt], Below.refl _ _⟩
  case round =>
    obtain ⟨i, hi, hgk, rfl, hown, hlen, hb⟩ := hrel
    obtain ⟨w2, rfl⟩ : ∃ w2 : World, w2 = wr := ⟨_, rfl⟩
    obtain ⟨A2, c2, rfl, hc2, _⟩ := hown.form
    have HGK := Lib.hid hgk
    have HOW := Lib.hid hown
    have HLE := Lib.hid hlen
    have HB := Lib.hid hb
    obtain ⟨r2, hr2⟩ : ∃ r2, r2 = (rawAt ws i).length := ⟨_, rfl⟩
    have HR2 := Lib.hid hr2
    rw [← hr2] at hc2 ⊢
    clear hgk hown hlen hb hr2
    by_cases hlt : i < n
    · obtain ⟨b, off, A4, m4, c4, x, rfl, hSb, hbl, hcx, hx, hsx⟩ := word_at (HS1.out.keep (.belowB HB.out (fun b hb => HSB.out b hb))) hlt
      have hm4 := hsx.len
      have hm12 : m4 ≤ 12 := by rw [hm4]; exact HW.out x (List.mem_of_getElem? hx)
      have hmc := hsx.cap
      have HX := Lib.hid hx
      have HSX := Lib.hid hsx
      have HM4 := Lib.hid hm4
      clear hsx hm4 hx
      go_wp2_with fail
      have HZ2 := Lib.hid HB.out.size
      go_loopg [3, 6, 17] m4 (fun gj v3 _ v17 wr => ∃ j : Nat, j ≤ m4 ∧ gj = m4 - j ∧ v17 = .int .i64 (j : Int) ∧ OwnL RIV wr S' w.heap.size 22 v3 (rawAt ws i ++ (prefsW x).take j) ∧ Below w.heap.size w1 wr)
      case atStart => exact ⟨0, Nat.zero_le _, rfl, rfl, by rw [List.take_zero, List.append_nil]; rw [HR2.out]; exact HOW.out, HB.out⟩
      case round =>
        obtain ⟨j, hj, hgj, rfl, hown, hb⟩ := hrel
        obtain ⟨w3, rfl⟩ : ∃ w3 : World, w3 = wr := ⟨_, rfl⟩
        obtain ⟨A3, c3, rfl, hc3, _⟩ := hown.form
        have HGJ := Lib.hid hgj
        have HOW3 := Lib.hid hown
        have HB3 := Lib.hid hb
        have hz3 := hb.size
        obtain ⟨r3, hr3⟩ : ∃ r3, r3 = (rawAt ws i ++ (prefsW x).take j).length := ⟨_, rfl⟩
        have hr3b : r3 ≤ 1 + 12 * i + 12 := by
          rw [hr3, List.length_append, List.length_take]
          have := HLE.out
          omega
        have HR3 := Lib.hid hr3
        rw [← hr3] at hc3 ⊢
        clear hgj hown hb hr3
        by_cases hlt2 : j < m4
        · have hcut : ∀ u : World, (Instr.slice 22 (.slice A4 m4 c4) none (some (.int .i64 ((j : Int) + 1))) none).run Try.prog u = .ok (.slice A4 (j + 1) c4) u := fun u => by
            have := tInts.hh A4 m4 c4 ((j : Int) + 1) (by omega) (by omega) u
            rw [this]
            congr 1
          have hsub : Sl Rep.int w3 S' A4 (j + 1) c4 (x.take (j + 1)) := (HSX.out.keep (w' := w3) (fun p u hp hu => by
            have h1 := HSB.out p.block hp
            rw [HB3.out.cell h1, ← HB.out.cell h1]
            exact hu)).take (j + 1) (by omega)
          obtain ⟨v4, w4, hrun, ho4, _, hb4⟩ := run_append_lit tIntss (R := RIV) rfl w3 23 w.heap.size S' (.slice A3 r3 c3) _ (by rw [HR3.out]; exact HOW3.out) 1 [x.take (j + 1)] [.slice A4 (j + 1) c4]
            (Cells.single ⟨A4, j + 1, c4, rfl, hsub.more fun b hb => ⟨.inl hb, fun e => by
              have h1 := (HOW3.out.row (v := .slice A3 _ c3) (g := b) (by rw [← HR3.out]; exact e)).1
              have h2 := HSB.out b hb
              omega⟩⟩) rfl (by rw [← HR3.out]; unfold maxLen; omega) (by rw [← HR3.out]; omega) (by omega)
          have HRUN := Lib.hid hrun
          have HO4 := Lib.hid (show OwnL RIV w4 S' w.heap.size 22 v4 (rawAt ws i ++ (prefsW x).take (j + 1)) by
            rw [prefsW_step (by rw [← HM4.out]; exact hlt2), ← List.append_assoc]
            exact ho4)
          have HB4 := Lib.hid (HB3.out.trans hb4)
          clear hsub hrun ho4 hb4
          go_wp2_with (at_builtin; refine Lib.wpList_append_run (o := ⟨some 26, _, _, _, _, _⟩) _ rfl _ _ _ _ rfl _ _ rfl rfl _ _ HRUN.out ?_)
          go_roundg (m4 - (j + 1))
          case measure => rw [HGJ.out]; omega
          case rel => exact ⟨j + 1, by omega, rfl, by go_num, HO4.out, HB4.out⟩
        · obtain rfl : j = m4 := by omega
          have hltI : ¬ (j : Int) < (j : Int) := by omega
          have HO5 := Lib.hid (show OwnL RIV w3 S' w.heap.size 22 (.slice A3 r3 c3) (rawAt ws (i + 1)) by
            have := HOW3.out
            rw [rawAt_step HX.out]
            rw [List.take_of_length_le (by rw [prefsW_len, HM4.out]; exact Nat.le_refl _)] at this
            rw [HR3.out]
            rw [List.take_of_length_le (by rw [prefsW_len, HM4.out]; exact Nat.le_refl _)]
            exact this)
          have HLE5 := Lib.hid (show (rawAt ws (i + 1)).length ≤ 1 + 12 * (i + 1) by
            rw [rawAt_step HX.out, List.length_append, prefsW_len, ← HM4.out]
            have := HLE.out
            omega)
          go_wp2_with fail
          go_roundg (n - (i + 1))
          case measure => rw [HGK.out]; omega
          case rel => exact ⟨i + 1, by omega, rfl, by go_num, HO5.out, HLE5.out, HB3.out⟩
    · obtain rfl : i = n := by omega
      have hltI : ¬ (i : Int) < (i : Int) := by omega
      have hraw : rawAt ws i = rawP ws := by rw [HL.out]; exact rawAt_end ws
      have hr1 : 1 ≤ r2 := by rw [HR2.out, hraw]; unfold rawP; simp
      have hrm : r2 ≤ 100000 := by have := HLE.out; have := HR2.out; omega
      have hOW := HOW.out
      rw [← HR2.out, hraw] at hOW
      have hlen2 : (rawP ws).length = r2 := by rw [HR2.out, hraw]
      obtain ⟨xs2, ho2, hcl2⟩ := hOW
      rw [hlen2] at ho2
      obtain ⟨g2, cur2, rfl, hg2b, _, _, _, _⟩ := Own.blkS (E := 22) ho2 hr1
      have HOWL := Lib.hid (show OwnL RIV w2 S' w.heap.size 22 (.slice (some ⟨g2, 0, none⟩) r2 c2) (rawP ws) from ⟨xs2, by rw [hlen2]; exact ho2, hcl2⟩)
      have HLN2 := Lib.hid hlen2
      have HBE := Lib.hid (HB1.out.trans (HB.out.mono (by omega)))
      have hsmall : ∀ l ∈ rawP ws, l.length ≤ 1000 := fun l hl => by
        rcases rawP_mem.1 hl with e | ⟨x, hx, hp⟩
        · subst e; simp
        · have h1 := hp.length_le
          have h2 := HW.out x hx
          omega
      have HSM := Lib.hid hsmall
      have hzB := HBE.out.size
      clear ho2 hcl2 hlen2 hraw hsmall
      go_wp2_with fail
      refine (sortWords w2 S' w.heap.size g2 r2 c2 (rawP ws) HLN2.out HOWL.out hr1 HSM.out (by omega)).mono ?_
      rintro e w3 ⟨rfl, ⟨L', hOL', hl', hmem', hsrt'⟩, hg3⟩
      have HOL3 := Lib.hid hOL'
      have HL3 := Lib.hid (And.intro hl' (And.intro hmem' hsrt'))
      have HB3 := Lib.hid (HBE.out.grown hg3 hzB (fun k hk => by injection hk with hk; omega))
      have hz3 := hg3.size
      clear hOL' hl' hmem' hsrt' hg3
      go_wp2_with fail
      refine (compactWords w3 S' w.heap.size g2 r2 c2 L' HL3.out.1 HOL3.out hr1 (fun l hl => HSM.out l ((HL3.out.2.1 l).1 hl)) (by omega) HL3.out.2.2).mono ?_
      rintro e w4 ⟨k, R, rfl, hsl, hp, hm, hg4⟩
      have HRES := Lib.hid (show PrefR ws (.returned (.slice (some ⟨g2, 0, none⟩) k c2)) w4 from ⟨g2, k, c2, R, rfl, hsl.more fun _ _ => trivial, ⟨hp, fun v => by rw [hm, HL3.out.2.1, rawP_mem]⟩⟩)
      have HB4 := Lib.hid (HB3.out.grown hg4 (by omega) (fun k hk => by injection hk with hk; omega))
      clear hsl hp hm hg4
      go_wp2_with fail
      go_ret
      exact ⟨HRES.out, HB4.out⟩
end Go.Proofs.Ytgaahpddlohjoaa
