/- SortK -/
import Derived.Lib.OwnBridge
import Derived.Shelf.Abstract
import Derived.Shelf.SlGeneric
import Derived.Shelf.SlSortCmp.WholeK
import Derived.Test.YtimklgbljjamkaaDoorCs34
namespace Go.Proofs.YtimklgbljjamkaaDoor
open Go.RowKit
def sortKy_ren : Go.Shelf.Ren := ⟨fun | 6 => 73 | 15 => 98 | 14 => 97 | 28 => 118 | 29 => 119 | 20 => 110 | 21 => 111 | 22 => 112 | 23 => 113 | 24 => 114 | 25 => 115 | 26 => 116 | 27 => 117 | 46 => 123 | 47 => 124 | 48 => 125 | 49 => 126 | 50 => 127 | 57 => 137 | n => n, fun | 22 => 140 | 24 => 138 | 25 => 147 | 3 => 3 | 39 => 169 | 0 => 0 | 53 => 93 | 55 => 193 | 4 => 4 | 46 => 199 | 45 => 198 | 50 => 203 | 5 => 5 | 9 => 9 | 66 => 209 | 70 => 89 | 76 => 219 | 77 => 220 | n => n, fun | n => n⟩
theorem sortKy : Go.Proofs.SlLaysF0.n6 Tryd.prog sortKy_ren := {
 mixed := by kernel_rfl
 f6 := ⟨Tryd.f73.name, by decide, Tryd.func73.trans (congrArg some (by kernel_rfl))⟩
 f14 := ⟨Tryd.f97.name, by decide, Tryd.func97.trans (congrArg some (by kernel_rfl))⟩
 f15 := Tryd.func98.trans (congrArg some (by kernel_rfl))
 f20 := ⟨Tryd.f110.name, by decide, Tryd.func110.trans (congrArg some (by kernel_rfl))⟩
 f21 := ⟨Tryd.f111.name, by decide, Tryd.func111.trans (congrArg some (by kernel_rfl))⟩
 f22 := ⟨Tryd.f112.name, by decide, Tryd.func112.trans (congrArg some (by kernel_rfl))⟩
 f23 := ⟨Tryd.f113.name, by decide, Tryd.func113.trans (congrArg some (by kernel_rfl))⟩
 f24 := ⟨Tryd.f114.name, by decide, Tryd.func114.trans (congrArg some (by kernel_rfl))⟩
 f25 := ⟨Tryd.f115.name, by decide, Tryd.func115.trans (congrArg some (by kernel_rfl))⟩
 f26 := ⟨Tryd.f116.name, by decide, Tryd.func116.trans (congrArg some (by kernel_rfl))⟩
 f27 := ⟨Tryd.f117.name, by decide, Tryd.func117.trans (congrArg some (by kernel_rfl))⟩
 f28 := Tryd.func118.trans (congrArg some (by kernel_rfl))
 f29 := Tryd.func119.trans (congrArg some (by kernel_rfl))
 f46 := ⟨Tryd.f123.name, by decide, Tryd.func123.trans (congrArg some (by kernel_rfl))⟩
 f47 := Tryd.func124.trans (congrArg some (by kernel_rfl))
 f48 := Tryd.func125.trans (congrArg some (by kernel_rfl))
 f49 := ⟨Tryd.f126.name, by decide, Tryd.func126.trans (congrArg some (by kernel_rfl))⟩
 f50 := ⟨Tryd.f127.name, by decide, Tryd.func127.trans (congrArg some (by kernel_rfl))⟩
 f57 := ⟨Tryd.f137.name, by decide, Tryd.func137.trans (congrArg some (by kernel_rfl))⟩
 t0 := Tryd.underlying0
 a0 := Tryd.isAgg0
 z0 := Tryd.sizeOf0
 v0 := Tryd.zeroValue0
 t3 := Tryd.underlying3
 a3 := Tryd.isAgg3
 z3 := Tryd.sizeOf3
 v3 := Tryd.zeroValue3
 t4 := Tryd.underlying4
 a4 := Tryd.isAgg4
 z4 := Tryd.sizeOf4
 v4 := Tryd.zeroValue4
 t5 := Tryd.underlying5
 a5 := Tryd.isAgg5
 z5 := Tryd.sizeOf5
 v5 := Tryd.zeroValue5
 t9 := Tryd.underlying9
 a9 := Tryd.isAgg9
 z9 := Tryd.sizeOf9
 v9 := Tryd.zeroValue9
 t22 := Tryd.underlying140
 a22 := Tryd.isAgg140
 z22 := Tryd.sizeOf140
 v22 := Tryd.zeroValue140
 t25 := Tryd.underlying147
 a25 := Tryd.isAgg147
 z25 := Tryd.sizeOf147
 v25 := Tryd.zeroValue147
 t39 := Tryd.underlying169
 a39 := Tryd.isAgg169
 z39 := Tryd.sizeOf169
 v39 := Tryd.zeroValue169
 t45 := Tryd.underlying198
 a45 := Tryd.isAgg198
 z45 := Tryd.sizeOf198
 v45 := Tryd.zeroValue198
 t46 := Tryd.underlying199
 a46 := Tryd.isAgg199
 z46 := Tryd.sizeOf199
 v46 := Tryd.zeroValue199
 t50 := Tryd.underlying203
 a50 := Tryd.isAgg203
 z50 := Tryd.sizeOf203
 v50 := Tryd.zeroValue203
 t53 := Tryd.underlying93
 a53 := Tryd.isAgg93
 z53 := Tryd.sizeOf93
 v53 := Tryd.zeroValue93
 t55 := Tryd.underlying193
 a55 := Tryd.isAgg193
 z55 := Tryd.sizeOf193
 v55 := Tryd.zeroValue193
 t66 := Tryd.underlying209
 a66 := Tryd.isAgg209
 z66 := Tryd.sizeOf209
 v66 := Tryd.zeroValue209
 t70 := Tryd.underlying89
 a70 := Tryd.isAgg89
 z70 := Tryd.sizeOf89
 v70 := Tryd.zeroValue89
 t76 := Tryd.underlying219
 a76 := Tryd.isAgg219
 z76 := Tryd.sizeOf219
 v76 := Tryd.zeroValue219
 t77 := Tryd.underlying220
 a77 := Tryd.isAgg220
 z77 := Tryd.sizeOf220
 v77 := Tryd.zeroValue220
}
theorem enters_cmpK : ∀ (args : Array Value) (u : World), (callFunc 74 args).run Tryd.prog u = .ok (.enter 74 args) u := enters_of Tryd.func74 (by kernel_rfl) rfl
def encK (t : KeyD) : List Value := [.bool t.1.1, .int .i64 t.1.2, .int .i64 (t.2.1 : Int), .int .i64 (t.2.2 : Int)]
theorem cells_key {w : World} {S : Nat → Prop} : ∀ {L : List KeyD} {xs : List Value}, Cells RKey w S xs L ↔ xs = L.flatMap encK
 | [], xs => Iff.rfl
 | a :: L, xs => by
  constructor
  ·
   rintro ⟨cs, rest, rfl, h1, h2⟩
   rw [show cs = encK a from RKey.cells.1 h1, cells_key.1 h2, List.flatMap_cons]
  ·
   rintro rfl
   exact ⟨encK a, L.flatMap encK, List.flatMap_cons, RKey.cells.2 rfl, cells_key.2 rfl⟩
theorem flatKy_len : ∀ L : List KeyD, (L.flatMap encK).length = L.length * 4
 | [] => rfl
 | a :: L => by
  rw [List.flatMap_cons, List.length_append, flatKy_len L, List.length_cons]
  show 4 + _ = _
  omega
theorem flatKy_get : ∀ (L : List KeyD) (j : Nat), (L.flatMap encK)[j]? = (L[j / 4]?).bind fun t => (encK t)[j % 4]?
 | [], j => by simp
 | a :: L, j => by
  rw [List.flatMap_cons]
  by_cases h : j < 4
  ·
   rw [List.getElem?_append_left (by exact h), show j / 4 = 0 by omega, show j % 4 = j by omega]
   rfl
  ·
   rw [List.getElem?_append_right (by show 4 ≤ j; omega), show j / 4 = (j - 4) / 4 + 1 by omega, show j % 4 = (j - 4) % 4 by omega]
   exact flatKy_get L (j - 4)
theorem flatK_Ky (d : Array KeyD) : (Go.Sort.flatK encK 4 d).toList = d.toList.flatMap encK := by
 refine List.ext_getElem? fun j => ?_
 by_cases hj : j < d.size * 4
 ·
  have h1 := Go.Sort.get_flatK encK 4 d j hj
  rw [flatKy_get]
  have h2 : j / 4 < d.size := by omega
  rw [Array.getElem?_toList, Array.getElem?_toList, Array.getElem?_eq_getElem h2, Array.getElem?_eq_getElem (by rw [Go.Sort.size_flatK]; exact hj)]
  rw [getElem!_pos _ j (by rw [Go.Sort.size_flatK]; exact hj), getElem!_pos d _ h2] at h1
  rw [h1]
  have h3 : j % 4 < (encK d[j / 4]).length := by show j % 4 < 4; omega
  rw [getElem!_pos (encK d[j / 4]) (j % 4) h3]
  simp [List.getElem?_eq_getElem h3]
 ·
  rw [List.getElem?_eq_none (by rw [Array.length_toList, Go.Sort.size_flatK]; omega), List.getElem?_eq_none (by rw [flatKy_len, Array.length_toList]; omega)]
theorem ltKy (x y : KeyD) : Go.Proofs.ltOf cmpK x y = true ↔ KLt x y := by
 unfold Go.Proofs.ltOf
 rw [decide_eq_true_iff]
 exact cmpK_neg
theorem swoKy : Go.Sort.SWO (Go.Proofs.ltOf cmpK) where
 irrefl x := by
  rw [Bool.eq_false_iff]
  intro h
  have := (ltKy x x).1 h
  unfold KLt at this
  omega
 trans x y z h1 h2 := by
  have h1 := (ltKy _ _).1 h1
  have h2 := (ltKy _ _).1 h2
  refine (ltKy _ _).2 ?_
  unfold KLt at *
  omega
 ntrans x y z h1 h2 := by
  rw [Bool.eq_false_iff] at *
  intro h3
  have h3 := (ltKy _ _).1 h3
  have h1 : ¬ KLt x y := fun h => h1 ((ltKy _ _).2 h)
  have h2 : ¬ KLt y z := fun h => h2 ((ltKy _ _).2 h)
  unfold KLt at *
  omega
theorem putRow4 {w : World} {base : Nat} {e : TypeId} {g n cap q : Nat} {xs : List Value} (h : w.ownsRow base e 4 (.slice (some ⟨g, 0, none⟩) n cap) n xs) (F : Array Value) (hF : F.size = n * 4) :
    (Go.Sort.putRow id (Go.Sort.ahead w q) g 0 F).ownsRow base e 4 (.slice (some ⟨g, 0, none⟩) n cap) n F.toList := by
 rcases h.2 with ⟨e0, _⟩ | ⟨g', cap', cur, e0, hb, hg, hn, hm, hs, ht⟩
 ·
  cases e0
 ·
  injection e0 with e1 _ e3
  injection e1 with e1
  injection e1 with e1
  subst e1; subst e3
  refine ⟨by simp [hF], .inr ⟨g, cap, Go.Sort.putCells id 0 F cur, rfl, hb, ?_, hn, hm, by simpa [Go.Sort.putCells] using hs, ?_⟩⟩
  ·
   simp [Go.Sort.putRow, Go.Sort.mapBlock, Go.Sort.ahead, Array.getElem?_modify, hg, Go.Sort.onCells]
  ·
   apply List.ext_getElem?
   intro j
   have hcs : n * 4 ≤ cur.size := by rw [hs]; omega
   rw [List.getElem?_take, Array.getElem?_toList, Array.getElem?_toList]
   by_cases hj : j < n * 4
   ·
    have hjc : j < cur.size := by omega
    rw [if_pos hj]
    simp only [Go.Sort.putCells, Array.getElem?_mapIdx, Array.getElem?_eq_getElem hjc, Option.map_some]
    rw [if_pos (by omega), Array.getElem?_eq_getElem (by omega)]
    simp [getElem!_pos, show j < F.size by omega]
   ·
    rw [if_neg hj, Array.getElem?_eq_none (by omega)]
theorem grown_sortK (enc : KeyD → List Value) (k : Nat) (w : World) (g m : Nat) (d : Array KeyD) (os : Array Obj) : w.grownBy (Go.Proofs.sortWorldK enc k w g 0 m d os) (some g) := by
 have hsz : (Go.Sort.putRowK enc k (Go.Sort.ahead w m) g 0 d).heap.size = w.heap.size := by simp [Go.Sort.putRowK, Go.Sort.putRow, Go.Sort.mapBlock, Go.Sort.ahead]
 refine ⟨rfl, rfl, rfl, ?_, fun b hb hne => ?_⟩
 ·
  unfold Go.Proofs.sortWorldK Go.Sort.grow
  dsimp only
  rw [Array.size_append, hsz]
  omega
 ·
  unfold Go.Proofs.sortWorldK Go.Sort.grow
  dsimp only
  rw [Array.getElem?_append_left (by rw [hsz]; exact hb)]
  have : g ≠ b := fun e => hne (by rw [e])
  simp [Go.Sort.putRowK, Go.Sort.putRow, Go.Sort.mapBlock, Go.Sort.ahead, Array.getElem?_modify, this]
set_option maxHeartbeats 1000000 in
theorem insK0 (w : World) (A : Option Addr) (c : Nat) (f : Value) : Calls Tryd.prog 110 #[.slice A 0 c, .int .i64 0, .int .i64 0, f] w fun e w' => e = .returned (.tuple #[]) ∧ w = w' := by
 go_enter Tryd.func110, Tryd.ntmps110
 go_wp2_with fail
 go_loopg [8] 1 (fun _ v8 wr => v8 = .int .i64 1 ∧ wr = w)
 case atStart => exact ⟨rfl, rfl⟩
 case round =>
  obtain ⟨rfl, rfl⟩ := hrel
  go_wp2_with fail
  refine Go.bodyPost_end (v := .tuple #[]) (by simp [results, Tryd.results110, go_sem]) rfl ⟨rfl, rfl⟩
set_option maxRecDepth 100000 in
set_option maxHeartbeats 2000000 in
theorem pdqK0 (w : World) (A : Option Addr) (c : Nat) (k : Int) (f : Value) : Calls Tryd.prog 97 #[.slice A 0 c, .int .i64 0, .int .i64 0, .int .i64 k, f] w fun e w' => e = .returned (.tuple #[]) ∧ w = w' := by
 go_enter Tryd.func97, Tryd.ntmps97
 go_wp2_with fail
 go_loopg [1, 2] 1 (fun _ v1 v2 wr => v1 = .int .i64 0 ∧ v2 = .int .i64 0 ∧ wr = w)
 case atStart => exact ⟨rfl, rfl, rfl⟩
 case round =>
  obtain ⟨rfl, rfl, rfl⟩ := hrel
  go_wp2_with (go_at_call 110; refine (insK0 _ _ _ _).mono ?_; rintro e w' ⟨rfl, rfl⟩)
  exact Go.bodyPost_ret (v := .tuple #[]) (results_none rfl _ _ _) rfl ⟨rfl, rfl⟩
theorem lenK0 (w : World) : Calls Tryd.prog 98 #[.int .u64 0] w fun e w' => e = .returned (.int .i64 0) ∧ w = w' := by
 have h := Go.Proofs.Any.bits_Len (Go.Proofs.SlLaysF0.n15.bits (P := Tryd.prog) (ρ := sortKy_ren) { sortKy with }) 0 w (by omega) (by omega)
 change Calls Tryd.prog 98 _ _ _ at h
 exact h.mono fun e w' ⟨h1, h2⟩ => ⟨h1, h2.symm⟩
set_option maxHeartbeats 1000000 in
theorem sortKy0 (w : World) (A : Option Addr) (c : Nat) (f : Value) : Calls Tryd.prog 73 #[.slice A 0 c, f] w fun e w' => e = .returned (.tuple #[]) ∧ w = w' := by
 go_enter Tryd.func73, Tryd.ntmps73
 go_wp2_with (first
  | (go_at_call 98; refine (lenK0 _).mono ?_; rintro e w' ⟨rfl, rfl⟩)
  | (go_at_call 97; refine (pdqK0 _ _ _ _ _).mono ?_; rintro e w' ⟨rfl, rfl⟩))
 refine Go.bodyPost_end (v := .tuple #[]) (by simp [results, Tryd.results73, go_sem]) rfl ⟨rfl, rfl⟩
set_option maxRecDepth 100000 in
theorem sortKeys (w : World) (F : Nat → Prop) (v : Value) (L : List KeyD) (h : GL RKey 138 w F v L) (hn : L.length ≤ 1000000) :
    Calls Tryd.prog 73 #[v, .func (.func 74) #[] #[]] w fun e w' =>
     e = .returned (.tuple #[]) ∧ (∃ L', GL RKey 138 w' F v L' ∧ L'.Perm L ∧ ∀ (i j : Nat) (x y : KeyD), i < j → L'[i]? = some x → L'[j]? = some y → ¬ KLt y x) ∧ w.grownBy w' (rowOf v) := by
 obtain ⟨A, c, rfl, hc⟩ := h.form
 rcases Nat.eq_zero_or_pos L.length with h0 | h0
 ·
  have hL : L = [] := List.eq_nil_of_length_eq_zero h0
  subst hL
  refine (sortKy0 w A c _).mono ?_
  rintro e w' ⟨rfl, rfl⟩
  exact ⟨rfl, ⟨[], h, .refl _, fun i j x y _ hx => by simp at hx⟩, World.grownBy.refl w _⟩
 ·
  obtain ⟨n, hnl⟩ : ∃ n, n = L.length := ⟨_, rfl⟩
  rw [← hnl] at h0 hn hc h ⊢
  obtain ⟨xs, ho, hcl⟩ := h.own
  have hrow := h.row
  rw [← hnl] at ho
  have hxs := cells_key.1 hcl
  subst hxs
  rcases ho with ho | ⟨A', e, e2, _⟩
  ·
   rcases ho.2 with ⟨_, e⟩ | ⟨g, cap, cur, e, hb, hh, hnc, hm, hs, ht⟩
   ·
    omega
   ·
    injection e with e1 _ e3
    subst e1
    subst e3
    have ht : cur.toList.take (n * 4) = L.flatMap encK := ht
    have hglt : g < w.heap.size := heap_lt hh
    have hrg : rowOf (.slice (some ⟨g, 0, none⟩) n c) = some g := by
     obtain ⟨k, rfl⟩ : ∃ k, c = k + 1 := ⟨c - 1, by omega⟩
     rfl
    have hsz : L.toArray.size = n := by simp [hnl]
    have hfl : (Go.Sort.flatK encK 4 L.toArray).toList = L.flatMap encK := by rw [flatK_Ky]
    have hH : Go.Sort.HoldsK encK 4 w g 0 L.toArray := fun j hj => by
     refine ⟨?_, by simp [World.frozen?, hh]⟩
     have hj' : j < n * 4 := by rw [Go.Sort.size_flatK, hsz] at hj; exact hj
     rw [cell_of_row _ _ _ _ _ _ hh, Nat.zero_add, ← Array.getElem?_toList]
     have h2 : (cur.toList.take (n * 4))[j]? = (Go.Sort.flatK encK 4 L.toArray).toList[j]? := by rw [ht, hfl]
     rw [List.getElem?_take, if_pos hj'] at h2
     rw [h2, Array.getElem?_toList, Array.getElem?_eq_getElem hj, getElem!_pos _ j hj]
     rfl
    have hcmp : Go.Proofs.CmpLays Tryd.prog 74 #[] encK 4 cmpK g 0 L.toArray.size w := fun m os dk _ x y => cmpKey _ x y
    have hcon := Go.Proofs.AnyQ.slices_SortFunc sortKy 4 Tryd.isAgg138 Tryd.sizeOf138 encK (fun _ => rfl) (fun x v hv => by
     simp only [encK, List.mem_cons, List.not_mem_nil, or_false] at hv
     rcases hv with rfl | rfl | rfl | rfl <;> rfl) cmpK swoKy 74 #[] g 0 c L.toArray w enters_cmpK hcmp hH hglt (by rw [hsz]; omega)
    change Calls Tryd.prog 73 _ _ _ at hcon
    rw [hsz] at hcon
    refine hcon.mono ?_
    rintro e w' ⟨rfl, d', q, os, ⟨hp1, _, hp3⟩, hsrt, rfl⟩
    have hd'l : d'.size = n := by rw [hp1]; exact hsz
    have hperm : d'.toList.Perm L := by
     have h2 := hp3
     have hex : ∀ (z : Array KeyD) (k : Nat), k = z.size → z.extract 0 k = z := by
      rintro z _ rfl
      simp
     rw [hex d' n hd'l.symm, hex L.toArray n hsz.symm] at h2
     simpa using h2
    have hgr := grown_sortK encK 4 w g q d' os
    refine ⟨rfl, ⟨d'.toList, ⟨⟨d'.toList.flatMap encK, ?_, cells_key.2 rfl⟩, hrow⟩, hperm, fun i j x y hij hx hy => ?_⟩, by rw [hrg]; exact hgr⟩
    ·
     have hl2 : d'.toList.length = n := by rw [Array.length_toList, hd'l]
     rw [hl2]
     have h2 := putRow4 (q := q) ho (Go.Sort.flatK encK 4 d') (by rw [Go.Sort.size_flatK, hd'l])
     rw [flatK_Ky] at h2
     refine .inl ?_
     show (Go.Sort.grow _ os).ownsRow _ _ _ _ _ _
     refine h2.kept (row := none) ⟨rfl, rfl, rfl, by simp [Go.Sort.grow, Go.Sort.putRowK], fun k hk _ => ?_⟩ (by simp [Value.ownBlock])
     unfold Go.Sort.grow
     dsimp only
     rw [Array.getElem?_append_left (by simpa [Go.Sort.putRowK] using hk)]
     rfl
    ·
     rw [Array.getElem?_toList] at hx hy
     have hi : i < d'.size := by
      rcases Nat.lt_or_ge i d'.size with h | h
      ·
       exact h
      ·
       rw [Array.getElem?_eq_none h] at hx; cases hx
     have hj : j < d'.size := by
      rcases Nat.lt_or_ge j d'.size with h | h
      ·
       exact h
      ·
       rw [Array.getElem?_eq_none h] at hy; cases hy
     rw [Array.getElem?_eq_getElem hi] at hx
     rw [Array.getElem?_eq_getElem hj] at hy
     injection hx with hx
     injection hy with hy
     have h2 := hsrt i j (Nat.zero_le _) hij (by omega)
     rw [getElem!_pos d' j hj, getElem!_pos d' i hi] at h2
     rw [← hx, ← hy]
     intro h3
     rw [(ltKy _ _).2 h3] at h2
     cases h2
  ·
   omega
end Go.Proofs.YtimklgbljjamkaaDoor
