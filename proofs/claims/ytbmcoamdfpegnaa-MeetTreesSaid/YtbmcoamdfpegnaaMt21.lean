/- SortT -/
import Derived.Lib.OwnBridge
import Derived.Shelf.Abstract
import Derived.Shelf.SlGeneric
import Derived.Shelf.SlSortCmp.WholeK
import Derived.Test.YtbmcoamdfpegnaaMt20
namespace Go.Proofs.Ytbmcoamdfpegnaa
open Go.RowKit
def sortT_ren : Go.Shelf.Ren := ⟨fun | 6 => 81 | 15 => 95 | 14 => 94 | 28 => 106 | 29 => 107 | 20 => 98 | 21 => 99 | 22 => 100 | 23 => 101 | 24 => 102 | 25 => 103 | 26 => 104 | 27 => 105 | 46 => 108 | 47 => 109 | 48 => 110 | 49 => 111 | 50 => 112 | 57 => 113 | n => n, fun | 22 => 107 | 24 => 92 | 25 => 132 | 3 => 3 | 39 => 135 | 0 => 0 | 53 => 146 | 55 => 149 | 4 => 4 | 46 => 154 | 45 => 153 | 50 => 158 | 5 => 5 | 9 => 9 | 66 => 162 | 70 => 85 | 76 => 167 | 77 => 168 | n => n, fun | n => n⟩
theorem sortT : Go.Proofs.SlLaysF0.n6 Try.prog sortT_ren := {
 mixed := by kernel_rfl
 f6 := ⟨Try.f81.name, by decide, Try.func81.trans (congrArg some (by kernel_rfl))⟩
 f14 := ⟨Try.f94.name, by decide, Try.func94.trans (congrArg some (by kernel_rfl))⟩
 f15 := Try.func95.trans (congrArg some (by kernel_rfl))
 f20 := ⟨Try.f98.name, by decide, Try.func98.trans (congrArg some (by kernel_rfl))⟩
 f21 := ⟨Try.f99.name, by decide, Try.func99.trans (congrArg some (by kernel_rfl))⟩
 f22 := ⟨Try.f100.name, by decide, Try.func100.trans (congrArg some (by kernel_rfl))⟩
 f23 := ⟨Try.f101.name, by decide, Try.func101.trans (congrArg some (by kernel_rfl))⟩
 f24 := ⟨Try.f102.name, by decide, Try.func102.trans (congrArg some (by kernel_rfl))⟩
 f25 := ⟨Try.f103.name, by decide, Try.func103.trans (congrArg some (by kernel_rfl))⟩
 f26 := ⟨Try.f104.name, by decide, Try.func104.trans (congrArg some (by kernel_rfl))⟩
 f27 := ⟨Try.f105.name, by decide, Try.func105.trans (congrArg some (by kernel_rfl))⟩
 f28 := Try.func106.trans (congrArg some (by kernel_rfl))
 f29 := Try.func107.trans (congrArg some (by kernel_rfl))
 f46 := ⟨Try.f108.name, by decide, Try.func108.trans (congrArg some (by kernel_rfl))⟩
 f47 := Try.func109.trans (congrArg some (by kernel_rfl))
 f48 := Try.func110.trans (congrArg some (by kernel_rfl))
 f49 := ⟨Try.f111.name, by decide, Try.func111.trans (congrArg some (by kernel_rfl))⟩
 f50 := ⟨Try.f112.name, by decide, Try.func112.trans (congrArg some (by kernel_rfl))⟩
 f57 := ⟨Try.f113.name, by decide, Try.func113.trans (congrArg some (by kernel_rfl))⟩
 t0 := Try.underlying0
 a0 := Try.isAgg0
 z0 := Try.sizeOf0
 v0 := Try.zeroValue0
 t3 := Try.underlying3
 a3 := Try.isAgg3
 z3 := Try.sizeOf3
 v3 := Try.zeroValue3
 t4 := Try.underlying4
 a4 := Try.isAgg4
 z4 := Try.sizeOf4
 v4 := Try.zeroValue4
 t5 := Try.underlying5
 a5 := Try.isAgg5
 z5 := Try.sizeOf5
 v5 := Try.zeroValue5
 t9 := Try.underlying9
 a9 := Try.isAgg9
 z9 := Try.sizeOf9
 v9 := Try.zeroValue9
 t22 := Try.underlying107
 a22 := Try.isAgg107
 z22 := Try.sizeOf107
 v22 := Try.zeroValue107
 t25 := Try.underlying132
 a25 := Try.isAgg132
 z25 := Try.sizeOf132
 v25 := Try.zeroValue132
 t39 := Try.underlying135
 a39 := Try.isAgg135
 z39 := Try.sizeOf135
 v39 := Try.zeroValue135
 t45 := Try.underlying153
 a45 := Try.isAgg153
 z45 := Try.sizeOf153
 v45 := Try.zeroValue153
 t46 := Try.underlying154
 a46 := Try.isAgg154
 z46 := Try.sizeOf154
 v46 := Try.zeroValue154
 t50 := Try.underlying158
 a50 := Try.isAgg158
 z50 := Try.sizeOf158
 v50 := Try.zeroValue158
 t53 := Try.underlying146
 a53 := Try.isAgg146
 z53 := Try.sizeOf146
 v53 := Try.zeroValue146
 t55 := Try.underlying149
 a55 := Try.isAgg149
 z55 := Try.sizeOf149
 v55 := Try.zeroValue149
 t66 := Try.underlying162
 a66 := Try.isAgg162
 z66 := Try.sizeOf162
 v66 := Try.zeroValue162
 t70 := Try.underlying85
 a70 := Try.isAgg85
 z70 := Try.sizeOf85
 v70 := Try.zeroValue85
 t76 := Try.underlying167
 a76 := Try.isAgg167
 z76 := Try.sizeOf167
 v76 := Try.zeroValue167
 t77 := Try.underlying168
 a77 := Try.isAgg168
 z77 := Try.sizeOf168
 v77 := Try.zeroValue168
}
theorem enters_cmpT : ∀ (args : Array Value) (u : World), (callFunc 82 args).run Try.prog u = .ok (.enter 82 args) u := enters_of Try.func82 (by kernel_rfl) rfl
def encT (t : TriD) : List Value := [.int .i64 (t.1 : Int), .int .i64 (t.2.1 : Int), .int .i64 (t.2.2 : Int)]
theorem cells_tri {w : World} {S : Nat → Prop} : ∀ {L : List TriD} {xs : List Value}, Cells RTri w S xs L ↔ xs = L.flatMap encT
 | [], xs => Iff.rfl
 | a :: L, xs => by
  constructor
  ·
   rintro ⟨cs, rest, rfl, h1, h2⟩
   rw [show cs = encT a from h1, cells_tri.1 h2, List.flatMap_cons]
  ·
   rintro rfl
   exact ⟨encT a, L.flatMap encT, List.flatMap_cons, rfl, cells_tri.2 rfl⟩
theorem flatT_len : ∀ L : List TriD, (L.flatMap encT).length = L.length * 3
 | [] => rfl
 | a :: L => by
  rw [List.flatMap_cons, List.length_append, flatT_len L, List.length_cons]
  show 3 + _ = _
  omega
theorem flatT_get : ∀ (L : List TriD) (j : Nat), (L.flatMap encT)[j]? = (L[j / 3]?).bind fun t => (encT t)[j % 3]?
 | [], j => by simp
 | a :: L, j => by
  rw [List.flatMap_cons]
  by_cases h : j < 3
  ·
   rw [List.getElem?_append_left (by exact h), show j / 3 = 0 by omega, show j % 3 = j by omega]
   rfl
  ·
   rw [List.getElem?_append_right (by show 3 ≤ j; omega), show j / 3 = (j - 3) / 3 + 1 by omega, show j % 3 = (j - 3) % 3 by omega]
   exact flatT_get L (j - 3)
theorem flatK_T (d : Array TriD) : (Go.Sort.flatK encT 3 d).toList = d.toList.flatMap encT := by
 refine List.ext_getElem? fun j => ?_
 by_cases hj : j < d.size * 3
 ·
  have h1 := Go.Sort.get_flatK encT 3 d j hj
  rw [flatT_get]
  have h2 : j / 3 < d.size := by omega
  rw [Array.getElem?_toList, Array.getElem?_toList, Array.getElem?_eq_getElem h2, Array.getElem?_eq_getElem (by rw [Go.Sort.size_flatK]; exact hj)]
  rw [getElem!_pos _ j (by rw [Go.Sort.size_flatK]; exact hj), getElem!_pos d _ h2] at h1
  rw [h1]
  have h3 : j % 3 < (encT d[j / 3]).length := by show j % 3 < 3; omega
  rw [getElem!_pos (encT d[j / 3]) (j % 3) h3]
  simp [List.getElem?_eq_getElem h3]
 ·
  rw [List.getElem?_eq_none (by rw [Array.length_toList, Go.Sort.size_flatK]; omega), List.getElem?_eq_none (by rw [flatT_len, Array.length_toList]; omega)]
theorem ltT (x y : TriD) : Go.Proofs.ltOf cmpT x y = true ↔ TLt x y := by
 unfold Go.Proofs.ltOf
 rw [decide_eq_true_iff]
 exact cmpT_neg
theorem swoT : Go.Sort.SWO (Go.Proofs.ltOf cmpT) where
 irrefl x := by
  rw [Bool.eq_false_iff]
  intro h
  have := (ltT x x).1 h
  unfold TLt at this
  omega
 trans x y z h1 h2 := by
  have h1 := (ltT _ _).1 h1
  have h2 := (ltT _ _).1 h2
  refine (ltT _ _).2 ?_
  unfold TLt at *
  omega
 ntrans x y z h1 h2 := by
  rw [Bool.eq_false_iff] at *
  intro h3
  have h3 := (ltT _ _).1 h3
  have h1 : ¬ TLt x y := fun h => h1 ((ltT _ _).2 h)
  have h2 : ¬ TLt y z := fun h => h2 ((ltT _ _).2 h)
  unfold TLt at *
  omega
theorem putRow3 {w : World} {base : Nat} {e : TypeId} {g n cap q : Nat} {xs : List Value} (h : w.ownsRow base e 3 (.slice (some ⟨g, 0, none⟩) n cap) n xs) (F : Array Value) (hF : F.size = n * 3) :
    (Go.Sort.putRow id (Go.Sort.ahead w q) g 0 F).ownsRow base e 3 (.slice (some ⟨g, 0, none⟩) n cap) n F.toList := by
 rcases h.2 with ⟨e0, _⟩ | ⟨g', cap', cur, e0, hb, hg, hn, hm, hs, ht⟩
 ·
  cases e0
 ·
  injection e0 with e1 _ e3
  injection e1 with e1
  injection e1 with e1
  subst e1; subst e3
  refine ⟨by simp [hF], .inr ⟨g, cap, Go.Sort.putCells id 0 F cur, rfl, hb, ?_, hn, hm, by simpa [Go.Sort.putCells] using hs, ?_⟩⟩
  ·
   simp [Go.Sort.putRow, Go.Sort.mapBlock, Go.Sort.ahead, Array.getElem?_modify, hg, Go.Sort.onCells]
  ·
   apply List.ext_getElem?
   intro j
   have hcs : n * 3 ≤ cur.size := by rw [hs]; omega
   rw [List.getElem?_take, Array.getElem?_toList, Array.getElem?_toList]
   by_cases hj : j < n * 3
   ·
    have hjc : j < cur.size := by omega
    rw [if_pos hj]
    simp only [Go.Sort.putCells, Array.getElem?_mapIdx, Array.getElem?_eq_getElem hjc, Option.map_some]
    rw [if_pos (by omega), Array.getElem?_eq_getElem (by omega)]
    simp [getElem!_pos, show j < F.size by omega]
   ·
    rw [if_neg hj, Array.getElem?_eq_none (by omega)]
theorem grown_sortK (enc : TriD → List Value) (k : Nat) (w : World) (g m : Nat) (d : Array TriD) (os : Array Obj) : w.grownBy (Go.Proofs.sortWorldK enc k w g 0 m d os) (some g) := by
 have hsz : (Go.Sort.putRowK enc k (Go.Sort.ahead w m) g 0 d).heap.size = w.heap.size := by simp [Go.Sort.putRowK, Go.Sort.putRow, Go.Sort.mapBlock, Go.Sort.ahead]
 refine ⟨rfl, rfl, rfl, ?_, fun b hb hne => ?_⟩
 ·
  unfold Go.Proofs.sortWorldK Go.Sort.grow
  dsimp only
  rw [Array.size_append, hsz]
  omega
 ·
  unfold Go.Proofs.sortWorldK Go.Sort.grow
  dsimp only
  rw [Array.getElem?_append_left (by rw [hsz]; exact hb)]
  have : g ≠ b := fun e => hne (by rw [e])
  simp [Go.Sort.putRowK, Go.Sort.putRow, Go.Sort.mapBlock, Go.Sort.ahead, Array.getElem?_modify, this]
set_option maxHeartbeats 1000000 in
theorem insT0 (w : World) (A : Option Addr) (c : Nat) (f : Value) : Calls Try.prog 98 #[.slice A 0 c, .int .i64 0, .int .i64 0, f] w fun e w' => e = .returned (.tuple #[]) ∧ w = w' := by
 go_enter Try.func98, Try.ntmps98
 go_wp2_with fail
 go_loopg [8] 1 (fun _ v8 wr => v8 = .int .i64 1 ∧ wr = w)
 case atStart => exact ⟨rfl, rfl⟩
 case round =>
  obtain ⟨rfl, rfl⟩ := hrel
  go_wp2_with fail
  refine Go.bodyPost_end (v := .tuple #[]) (by simp [results, Try.results98, go_sem]) rfl ⟨rfl, rfl⟩
set_option maxRecDepth 100000 in
set_option maxHeartbeats 2000000 in
theorem pdqT0 (w : World) (A : Option Addr) (c : Nat) (k : Int) (f : Value) : Calls Try.prog 94 #[.slice A 0 c, .int .i64 0, .int .i64 0, .int .i64 k, f] w fun e w' => e = .returned (.tuple #[]) ∧ w = w' := by
 go_enter Try.func94, Try.ntmps94
 go_wp2_with fail
 go_loopg [1, 2] 1 (fun _ v1 v2 wr => v1 = .int .i64 0 ∧ v2 = .int .i64 0 ∧ wr = w)
 case atStart => exact ⟨rfl, rfl, rfl⟩
 case round =>
  obtain ⟨rfl, rfl, rfl⟩ := hrel
  go_wp2_with (go_at_call 98; refine (insT0 _ _ _ _).mono ?_; rintro e w' ⟨rfl, rfl⟩)
  exact Go.bodyPost_ret (v := .tuple #[]) (results_none rfl _ _ _) rfl ⟨rfl, rfl⟩
theorem lenT0 (w : World) : Calls Try.prog 95 #[.int .u64 0] w fun e w' => e = .returned (.int .i64 0) ∧ w = w' := by
 have h := Go.Proofs.Any.bits_Len (Go.Proofs.SlLaysF0.n15.bits (P := Try.prog) (ρ := sortT_ren) { sortT with }) 0 w (by omega) (by omega)
 change Calls Try.prog 95 _ _ _ at h
 exact h.mono fun e w' ⟨h1, h2⟩ => ⟨h1, h2.symm⟩
set_option maxHeartbeats 1000000 in
theorem sortT0 (w : World) (A : Option Addr) (c : Nat) (f : Value) : Calls Try.prog 81 #[.slice A 0 c, f] w fun e w' => e = .returned (.tuple #[]) ∧ w = w' := by
 go_enter Try.func81, Try.ntmps81
 go_wp2_with (first
  | (go_at_call 95; refine (lenT0 _).mono ?_; rintro e w' ⟨rfl, rfl⟩)
  | (go_at_call 94; refine (pdqT0 _ _ _ _ _).mono ?_; rintro e w' ⟨rfl, rfl⟩))
 refine Go.bodyPost_end (v := .tuple #[]) (by simp [results, Try.results81, go_sem]) rfl ⟨rfl, rfl⟩
theorem sortTri (w : World) (F : Nat → Prop) (v : Value) (L : List TriD) (h : GL RTri 92 w F v L) (hn : L.length ≤ 1000000) :
    Calls Try.prog 81 #[v, .func (.func 82) #[] #[]] w fun e w' =>
     e = .returned (.tuple #[]) ∧ (∃ L', GL RTri 92 w' F v L' ∧ L'.Perm L ∧ ∀ (i j : Nat) (x y : TriD), i < j → L'[i]? = some x → L'[j]? = some y → ¬ TLt y x) ∧ w.grownBy w' (rowOf v) := by
 obtain ⟨A, c, rfl, hc⟩ := h.form
 rcases Nat.eq_zero_or_pos L.length with h0 | h0
 ·
  have hL : L = [] := List.eq_nil_of_length_eq_zero h0
  subst hL
  refine (sortT0 w A c _).mono ?_
  rintro e w' ⟨rfl, rfl⟩
  exact ⟨rfl, ⟨[], h, .refl _, fun i j x y _ hx => by simp at hx⟩, World.grownBy.refl w _⟩
 ·
  obtain ⟨n, hnl⟩ : ∃ n, n = L.length := ⟨_, rfl⟩
  rw [← hnl] at h0 hn hc h ⊢
  obtain ⟨xs, ho, hcl⟩ := h.own
  have hrow := h.row
  rw [← hnl] at ho
  have hxs := cells_tri.1 hcl
  subst hxs
  rcases ho with ho | ⟨A', e, e2, _⟩
  ·
   rcases ho.2 with ⟨_, e⟩ | ⟨g, cap, cur, e, hb, hh, hnc, hm, hs, ht⟩
   ·
    omega
   ·
    injection e with e1 _ e3
    subst e1
    subst e3
    have hglt : g < w.heap.size := heap_lt hh
    have hrg : rowOf (.slice (some ⟨g, 0, none⟩) n c) = some g := by
     obtain ⟨k, rfl⟩ : ∃ k, c = k + 1 := ⟨c - 1, by omega⟩
     rfl
    have hsz : L.toArray.size = n := by simp [hnl]
    have hfl : (Go.Sort.flatK encT 3 L.toArray).toList = L.flatMap encT := by rw [flatK_T]
    have hH : Go.Sort.HoldsK encT 3 w g 0 L.toArray := fun j hj => by
     refine ⟨?_, by simp [World.frozen?, hh]⟩
     have hj' : j < n * 3 := by rw [Go.Sort.size_flatK, hsz] at hj; exact hj
     rw [cell_of_row _ _ _ _ _ _ hh, Nat.zero_add, ← Array.getElem?_toList]
     have h2 : (cur.toList.take (n * 3))[j]? = (Go.Sort.flatK encT 3 L.toArray).toList[j]? := by rw [ht, hfl]
     rw [List.getElem?_take, if_pos hj'] at h2
     rw [h2, Array.getElem?_toList, Array.getElem?_eq_getElem hj, getElem!_pos _ j hj]
     rfl
    have hcmp : Go.Proofs.CmpLays Try.prog 82 #[] encT 3 cmpT g 0 L.toArray.size w := fun m os dk _ x y => cmpTri _ x y
    have hcon := Go.Proofs.AnyQ.slices_SortFunc sortT 3 Try.isAgg92 Try.sizeOf92 encT (fun _ => rfl) (fun x v hv => by
     rcases List.mem_cons.1 hv with rfl | hv
     ·
      rfl
     ·
      rcases List.mem_cons.1 hv with rfl | hv
      ·
       rfl
      ·
       obtain rfl := List.mem_singleton.1 hv; rfl) cmpT swoT 82 #[] g 0 c L.toArray w enters_cmpT hcmp hH hglt (by rw [hsz]; omega)
    change Calls Try.prog 81 _ _ _ at hcon
    rw [hsz] at hcon
    refine hcon.mono ?_
    rintro e w' ⟨rfl, d', q, os, ⟨hp1, _, hp3⟩, hsrt, rfl⟩
    have hd'l : d'.size = n := by rw [hp1]; exact hsz
    have hperm : d'.toList.Perm L := by
     have h2 := hp3
     have hex : ∀ (z : Array TriD) (k : Nat), k = z.size → z.extract 0 k = z := by
      rintro z _ rfl
      simp
     rw [hex d' n hd'l.symm, hex L.toArray n hsz.symm] at h2
     simpa using h2
    have hgr := grown_sortK encT 3 w g q d' os
    refine ⟨rfl, ⟨d'.toList, ⟨⟨d'.toList.flatMap encT, ?_, cells_tri.2 rfl⟩, hrow⟩, hperm, fun i j x y hij hx hy => ?_⟩, by rw [hrg]; exact hgr⟩
    ·
     have hl2 : d'.toList.length = n := by rw [Array.length_toList, hd'l]
     rw [hl2]
     have h2 := putRow3 (q := q) ho (Go.Sort.flatK encT 3 d') (by rw [Go.Sort.size_flatK, hd'l])
     rw [flatK_T] at h2
     refine .inl ?_
     show (Go.Sort.grow _ os).ownsRow _ _ _ _ _ _
     refine h2.kept (row := none) ⟨rfl, rfl, rfl, by simp [Go.Sort.grow, Go.Sort.putRowK], fun k hk _ => ?_⟩ (by simp [Value.ownBlock])
     unfold Go.Sort.grow
     dsimp only
     rw [Array.getElem?_append_left (by simpa [Go.Sort.putRowK] using hk)]
     rfl
    ·
     rw [Array.getElem?_toList] at hx hy
     have hi : i < d'.size := by
      rcases Nat.lt_or_ge i d'.size with h | h
      ·
       exact h
      ·
       rw [Array.getElem?_eq_none h] at hx; cases hx
     have hj : j < d'.size := by
      rcases Nat.lt_or_ge j d'.size with h | h
      ·
       exact h
      ·
       rw [Array.getElem?_eq_none h] at hy; cases hy
     rw [Array.getElem?_eq_getElem hi] at hx
     rw [Array.getElem?_eq_getElem hj] at hy
     injection hx with hx
     injection hy with hy
     have h2 := hsrt i j (Nat.zero_le _) hij (by omega)
     rw [getElem!_pos d' j hj, getElem!_pos d' i hi] at h2
     rw [← hx, ← hy]
     intro h3
     rw [(ltT _ _).2 h3] at h2
     cases h2
  ·
   omega
end Go.Proofs.Ytbmcoamdfpegnaa
