/- learn.key: words as strings. learner.member: a word is asked for once. learner.row: what the tests say after a word. -/
import Derived.Test.YtgaahpddlohjoaaLearnSt
import Derived.Test.YtgaahpddlohjoaaPartsKey
import Derived.Test.YtgaahpddlohjoaaCloInt
import Derived.Test.YtgaahpddlohjoaaRow
namespace Go.Proofs.Ytgaahpddlohjoaa
open Go.RowKit Go.Maps

/-- a block of bytes -/
def ByB (wr : World) (B : Nat) (L : List Int) : Prop := wr.heap[B]? = some (.cells (L.map (Value.int .u8)).toArray 5 (0, 0))
theorem made_bytesA (n : Nat) : madeCells #[Value.int .u8 0] n = Array.replicate n (Value.int .u8 0) := by
  apply Array.ext'
  rw [toList_madeCells_one]
  simp
theorem ByB.at_ {wr : World} {B : Nat} {L : List Int} (h : ByB wr B L) {i : Nat} (hi : i < L.length) : ∃ x, L[i]? = some x ∧ wr.cell? ⟨B, i, none⟩ = some (.int .u8 x) ∧ wr.frozen? ⟨B, i, none⟩ = false := by
  have h1 := List.getElem?_eq_getElem hi
  refine ⟨_, h1, ?_, by have h2 : wr.heap[B]? = _ := h; simp [World.frozen?, h2]⟩
  rw [cell_of_row _ _ i _ _ _ h]
  simp [h1]
theorem ByB.set {wr : World} {B : Nat} {L : List Int} (h : ByB wr B L) (i : Nat) (x : Int) : ByB (wr.setCell ⟨B, i, none⟩ (.int .u8 x)) B (L.set i x) := by
  have := blk_set h i (.int .u8 x)
  rwa [set_map] at this
theorem ByB.below {wr wr' : World} {B : Nat} {L : List Int} (h : ByB wr B L) (hb : Below wr.heap.size wr wr') : ByB wr' B L := (hb.block _ (heap_lt h)).trans h
theorem ByB.rd {wr : World} {B : Nat} {L : List Int} (h : ByB wr B L) : Rd wr (fun b => b = B) 1 (some ⟨B, 0, none⟩) L.length (L.map (Value.int .u8)) := by
  refine ⟨by simp, fun _ => ⟨B, 0, rfl, rfl, fun j u hu => ?_⟩⟩
  rw [Nat.zero_add, cell_of_row _ _ j _ _ _ h]
  simpa using hu
theorem ByB.made (w : World) (n : Nat) : ByB (w.alloc (.cells (Array.replicate n (Value.int .u8 0)) 5)) w.heap.size (List.replicate n 0) := by
  unfold ByB
  rw [show ((List.replicate n (0 : Int)).map (Value.int .u8)).toArray = Array.replicate n (Value.int .u8 0) by simp]
  exact heap_alloc_new w _
/-- the string of a block -/
theorem ByB.str {w : World} {B : Nat} {L : List Int} (h : ByB w B L) (hb : BytesOk L) : (convert 115 9 (.slice (some ⟨B, 0, none⟩) L.length L.length)).run Try.prog w = .ok (.string (strOf L)) w := by
  rcases Nat.eq_zero_or_pos L.length with h0 | h0
  · obtain rfl : L = [] := List.eq_nil_of_length_eq_zero h0
    exact run_convert_bytes_back (P := Try.prog) w 115 9 5 ⟨B, 0, none⟩ 0 [] Try.underlying115 Try.underlying5 Try.underlying9 fun j hj => by simp at hj
  · exact run_bytes_string w _ _ _ _ L h.rd hb h0
theorem keyR_str (l : List Bool) : keyR l = strOf (l.map fun b => if b = true then 1 else 0) := by
  unfold keyR strOf
  rw [List.map_map]
  congr 2
  apply List.map_congr_left
  intro b _
  cases b <;> rfl
theorem bits_ok (l : List Bool) : BytesOk (l.map fun b => if b = true then 1 else 0) := fun z hz => by
  obtain ⟨b, _, rfl⟩ := List.mem_map.1 hz
  cases b <;> simp
/-- the first of a list, zeros behind -/
def headZ (x : List Int) (i n : Nat) : List Int := x.take i ++ List.replicate (n - i) 0
theorem headZ_len {x : List Int} {i n : Nat} (hx : i ≤ x.length) (hi : i ≤ n) : (headZ x i n).length = n := by
  unfold headZ
  rw [List.length_append, List.length_take, List.length_replicate]
  omega
theorem headZ_set {x : List Int} {i n : Nat} {y : Int} (hy : x[i]? = some y) (hi : i < n) : (headZ x i n).set i y = headZ x (i + 1) n := by
  obtain ⟨hl, rfl⟩ := List.getElem?_eq_some_iff.1 hy
  unfold headZ
  rw [List.take_succ_eq_append_getElem hl, List.set_append_right i _ (by simp; omega), show n - i = (n - (i + 1)) + 1 by omega, List.replicate_succ, show i - (x.take i).length = 0 by rw [List.length_take]; omega, List.append_assoc]
  rfl
theorem headZ_end {x : List Int} {n : Nat} (h : x.length = n) : headZ x n n = x := by
  unfold headZ
  rw [List.take_of_length_le (by omega), Nat.sub_self]
  simp
set_option linter.unusedSimpArgs false in
set_option maxRecDepth 1000000 in
set_option maxHeartbeats 4000000 in
theorem learnKey (w : World) (S : Nat → Prop) (A : Option Addr) (n c : Nat) (x : List Int) (hx : Sl Rep.int w S A n c x) (hb : BytesOk x) (hn : n ≤ 1000000) :
    Calls Try.prog 120 #[.slice A n c] w fun e w' => e = .returned (.string (keyB x)) ∧ Below w.heap.size w w' := by
  have hmk := fun W => tBytes.make rfl n (by omega) (by omega) W
  simp only [made_bytesA] at hmk
  have HL := Lib.hid hx.len
  have HX := Lib.hid hx.fit
  have HB := Lib.hid hb
  have HBY := Lib.hid (ByB.made w n)
  clear hx hb
  go_enter Try.func120, Try.ntmps120
  go_wp2_with fail
  obtain ⟨BB, hBB⟩ : ∃ BB, BB = w.heap.size := ⟨_, rfl⟩
  have HB1 := Lib.hid (show Below w.heap.size w (w.alloc (.cells (Array.replicate n (Value.int .u8 0)) 5)) from (Below.refl _ _).alloc (Nat.le_refl _) _)
  have HBB := Lib.hid hBB
  rw [← hBB] at HBY ⊢
  clear hmk hBB
  go_loopg [4, 5, 11] n (fun gk va vb vi wr => ∃ k : Nat, k ≤ n ∧ gk = n - k ∧ vi = .int .i64 k ∧ ByB wr BB (headZ x k n) ∧ Below w.heap.size w wr)
  case atStart => exact ⟨0, Nat.zero_le _, rfl, rfl, by simpa [headZ] using HBY.out, HB1.out⟩
  case round =>
    obtain ⟨k, hk, hgk, rfl, hby, hb⟩ := hrel
    obtain ⟨w3, rfl⟩ : ∃ w3 : World, w3 = wr := ⟨_, rfl⟩
    have HGK := Lib.hid hgk
    have HY := Lib.hid hby
    have HB3 := Lib.hid hb
    clear hgk hby hb
    by_cases hlt : k < n
    · obtain ⟨b, off, y, rfl, _, hy, hcy⟩ := (HX.out.keep (Kept.belowB HB3.out (fun b hb => hb.2))).ints.int_at hlt
      have hyr := HB.out y (List.mem_of_getElem? hy)
      have hym : y % 256 = y := Int.emod_eq_of_lt hyr.1 hyr.2
      have hlen := headZ_len (x := x) (i := k) (n := n) (by have := HL.out; omega) hk
      obtain ⟨x0, _, hcx, hfx⟩ := HY.out.at_ (i := k) (by omega)
      have HY2 := Lib.hid (HY.out.set k y)
      have HSET := Lib.hid (headZ_set hy hlt)
      have hB3 : Below w.heap.size w (w3.setCell ⟨BB, k, none⟩ (.int .u8 y)) := HB3.out.setCell (by have := HBB.out; simp; omega) _
      have HB4 := Lib.hid hB3
      clear hy hlen hB3
      go_wp2_with fail
      try rw [hym]
      clear hym hcx hfx hcy
      go_roundg (n - (k + 1))
      case measure => rw [HGK.out]; omega
      case rel => exact ⟨k + 1, by omega, rfl, by go_num, by rw [← HSET.out]; exact HY2.out, HB4.out⟩
    · obtain rfl : k = n := by omega
      have hy := HY.out
      rw [headZ_end HL.out.symm] at hy
      have hc := hy.str HB.out
      rw [← HL.out] at hc
      clear hy
      go_wp2_with fail
      go_ret
      exact ⟨rfl, HB3.out⟩
/-- what a call leaves that asks for at most k words more -/
def MemPost (L : LCtx) (w0 : World) (FL : Nat → Prop) (ws : List (List Int)) (q : Nat) (vA vT vR : Value) (access tests : List (List Int)) (k : Nat) (w' : World) : Prop :=
  ∃ ws', LSt L w' FL ws' q vA vT vR access tests ∧ ws'.length ≤ ws.length + k ∧ Only w0 w' (fun b => b < L.B0 ∨ b = L.BK)
theorem mapSB : Try.prog.underlying 86 = some (.map 9 4) := by kernel_rfl
theorem zeroB (u : World) : (zeroValue 4).run Try.prog u = .ok (.bool false) u := by kernel_rfl
theorem WOkT.bytes {T : Nat} {x : List Int} (h : WOkT T x) (hT : T ≤ 16) : BytesOk x := fun z hz => by have := h z hz; omega
theorem keyB_ok {x : List Int} (h : x.length ≤ 2000) : KS.ok (keyB x) := by
  show (strOf x).size ≤ maxLen
  rw [strOf_size]
  unfold maxLen
  omega
section
variable {L : LCtx} {w w' : World} {FL : Nat → Prop} {ws : List (List Int)} {q : Nat} {vA vT vR : Value} {access tests : List (List Int)}
theorem MemPost.below (h : LSt L w FL ws q vA vT vR access tests) (hL : L.Ok) (hb : Below w.heap.size w w') (k : Nat) : MemPost L w FL ws q vA vT vR access tests k w' :=
  ⟨ws, h.below hL hb, by omega, .of_below hb (Nat.le_refl _) _⟩
end
set_option linter.unusedSimpArgs false in
set_option maxRecDepth 1000000 in
set_option maxHeartbeats 4000000 in
theorem learnMember (L : LCtx) (hL : L.Ok) (w : World) (FL : Nat → Prop) (ws : List (List Int)) (q : Nat) (vA vT vR : Value) (access tests : List (List Int)) (h : LSt L w FL ws q vA vT vR access tests)
    (S : Nat → Prop) (A : Option Addr) (n c : Nat) (x : List Int) (hx : Sl Rep.int w S A n c x) (hw : WOkT L.T x) (hn : x.length ≤ 2000) (hws : ws.length ≤ 100000000) :
    Calls Try.prog 84 #[.pointer (some ⟨L.BL, 0, none⟩), .slice A n c] w fun e w' => e = .returned (.bool (L.acc x)) ∧ MemPost L w FL ws q vA vT vR access tests 1 w' := by
  have hkey := learnKey w S A n c x hx (hw.bytes hL.t2) (by have := hx.len; omega)
  have HKEY := Lib.hid hkey
  have HL := Lib.hid hL
  have HST := Lib.hid h
  have HX := Lib.hid hx
  have HW := Lib.hid hw
  have HOK := Lib.hid (keyB_ok hn)
  have HLK := Lib.hid (knownL_lk (acc := L.acc) hL.t2 h.ok hw)
  have hnl : n = x.length := hx.len
  have hn2 : n ≤ 2000 := by omega
  have hlen : (knownL L.acc ws).length < maxLen := by unfold knownL maxLen; rw [List.length_map]; omega
  have HLEN := Lib.hid hlen
  have HNL := Lib.hid hnl
  clear hkey hL h hx hw hn hnl hlen
  go_enter Try.func84, Try.ntmps84
  go_wp2_with fail
  refine HKEY.out.mono ?_
  rintro e w1 ⟨rfl, hb1⟩
  have HB1 := Lib.hid hb1
  have HST1 := Lib.hid (HST.out.below HL.out hb1)
  obtain ⟨hc0, hc1, hc2, hc3, hc4, hc5⟩ := HST1.out.cells
  clear hb1 hc0 hc3 hc4 hc5
  by_cases hmem : x ∈ ws
  · have hlk : lk (knownL L.acc ws) (keyB x) = some (.bool (L.acc x)) := by rw [HLK.out, if_pos hmem]
    have HLK2 := Lib.hid hlk
    have HP := Lib.hid (MemPost.below HST.out HL.out HB1.out 1)
    clear hlk hmem hc1
    go_wp2_with (at_lookup; refine wpList_amap_ok _ rfl _ _ 86 rfl 4 mapSB zeroB L.BK _ rfl HST1.out.known (keyB x) rfl HOK.out ?_; rw [HLK2.out])
    go_ret
    exact ⟨rfl, HP.out⟩
  · have hlk : lk (knownL L.acc ws) (keyB x) = none := by rw [HLK.out, if_neg hmem]
    have HLK2 := Lib.hid hlk
    have HMEM := Lib.hid hmem
    clear hlk hmem hc1
    go_wp2_with (at_lookup; refine wpList_amap_ok _ rfl _ _ 86 rfl 4 mapSB zeroB L.BK _ rfl HST1.out.known (keyB x) rfl HOK.out ?_; rw [HLK2.out])
    clear hc2
    have HS1 := Lib.hid (show w1.drew.cell? ⟨L.BL, 1, none⟩ = some (.func (.func L.askF) #[] L.askC) from HST1.out.cells.2.1)
    have he := HL.out.enters
    refine wp_region_late (late := []) (S1 := fun u => u.cell? ⟨L.BL, 1, none⟩ = some (.func (.func L.askF) #[] L.askC)) (S := fun _ => True) (by kernel_rfl) ?_
    refine wpAnyL_pure (i := 0) rfl (by kernel_rfl) (fun _ _ _ h => h) (Or.inl ⟨by rfl, (fun u hu => by go_simp; try rfl)⟩) HS1.out (fun _ => trivial) ?_
    simp only [Act.put, List.setIfInBounds_toArray, List.set_cons_zero, List.set_cons_succ, List.getElem_toArray, List.getElem_cons_zero, List.getElem_cons_succ]
    refine wpAnyL_pure (i := 1) rfl (by kernel_rfl) (fun _ _ _ h => h) (Or.inl ⟨by rfl, (fun u hu => by go_simp; try rfl)⟩) HS1.out (fun _ => trivial) ?_
    simp only [Act.put, List.setIfInBounds_toArray, List.set_cons_zero, List.set_cons_succ, List.getElem_toArray, List.getElem_cons_zero, List.getElem_cons_succ]
    refine wpAnyL_pure (i := 2) rfl (by kernel_rfl) (fun _ _ _ h => h) (Or.inl ⟨by rfl, (fun u hu => by go_simp; try rfl)⟩) HS1.out (fun _ => trivial) ?_
    simp only [Act.put, List.setIfInBounds_toArray, List.set_cons_zero, List.set_cons_succ, List.getElem_toArray, List.getElem_cons_zero, List.getElem_cons_succ]
    refine wpAnyL_pure (i := 3) rfl (by kernel_rfl) (fun _ _ _ h => h) (Or.inl ⟨by rfl, (fun u hu => by go_simp; try rfl)⟩) HS1.out (fun _ => trivial) ?_
    simp only [Act.put, List.setIfInBounds_toArray, List.set_cons_zero, List.set_cons_succ, List.getElem_toArray, List.getElem_cons_zero, List.getElem_cons_succ]
    refine wpAnyL_pure (i := 4) rfl (by kernel_rfl) (fun _ _ _ h => h) (Or.inl ⟨by rfl, (fun u hu => by go_simp; try rfl)⟩) HS1.out (fun _ => trivial) ?_
    simp only [Act.put, List.setIfInBounds_toArray, List.set_cons_zero, List.set_cons_succ, List.getElem_toArray, List.getElem_cons_zero, List.getElem_cons_succ]
    refine wpAnyL_ready (rs := [5]) (by kernel_rfl) (by simp) ?_
    refine AllL.cons rfl (fun K hK => ?_) ?_
    · go_simp
      refine (cloneInt A n c _ (x.map (Value.int .i64)) w1.drew ((HX.out.below HB1.out.drew).ints) (by omega)).mono ?_
      rintro e w2 ⟨v2, rfl, ho2, hb2⟩
      obtain ⟨A2, c2, rfl, hc2, _⟩ := ho2.form
      have HST2 := Lib.hid ((HST1.out.drew HL.out).below HL.out hb2)
      have HB2 := Lib.hid (show Below w.heap.size w w2 from HB1.out.trans ((Below.refl _ _).drew.trans (hb2.mono HB1.out.size)))
      have HSL2 := Lib.hid (ho2.rd.slInts hc2)
      have HS2 := Lib.hid (show w2.cell? ⟨L.BL, 1, none⟩ = some (.func (.func L.askF) #[] L.askC) from HST2.out.cells.2.1)
      clear ho2 hb2
      refine hK.out _ _ HS2.out (fun _ => trivial) ?_
      clear hK K
      refine wpAnyL_ready (rs := [6]) (by kernel_rfl) (by simp) ?_
      refine AllL.cons rfl (fun K hK => ?_) ?_
      · go_simp
        refine (HL.out.ask ws q w2 _ A2 n c2 x HST2.out.inv HST2.out.le hws HSL2.out HW.out (by have := HNL.out; omega) HMEM.out).mono ?_
        rintro e w3 ⟨rfl, hi3, ho3⟩
        have hBL := HST2.out.fl _ HST2.out.flL
        have hBK := HST2.out.fl _ HST2.out.flK
        have hbox3 := (ho3.block L.BL HST2.out.lt (by omega)).trans HST2.out.box
        have HS3 := Lib.hid (show w3.cell? ⟨L.BL, 1, none⟩ = some (.func (.func L.askF) #[] L.askC) by simp [World.cell?, hbox3])
        have hc2 : w3.cell? ⟨L.BL, 2, none⟩ = some (.map (some L.BK)) := by simp [World.cell?, hbox3]
        have HM3 := Lib.hid (HST2.out.known.only ho3 (by omega))
        have HI3 := Lib.hid hi3
        have HO3 := Lib.hid ho3
        clear hi3 ho3 hbox3 hBL hBK
        refine hK.out _ _ HS3.out (fun _ => trivial) ?_
        clear hK K
        refine wpAnyL_pure (i := 7) rfl (by kernel_rfl) (fun _ _ _ h => h) (Or.inl ⟨by rfl, (fun u hu => by go_simp; try rfl)⟩) HS3.out (fun _ => trivial) ?_
        simp only [Act.put, List.setIfInBounds_toArray, List.set_cons_zero, List.set_cons_succ, List.getElem_toArray, List.getElem_cons_zero, List.getElem_cons_succ]
        refine wpAnyL_done (by kernel_rfl) ?_ _
        go_wp2_with (at_mapUpdate; refine wpList_amap_put _ rfl _ _ _ 86 rfl 4 mapSB L.BK _ rfl HM3.out (keyB x) rfl HOK.out (.bool (L.acc x)) rfl HLEN.out ?_; intro w4 hm4 hg4; rw [knownL_put HL.out.t2 HST.out.ok HW.out HMEM.out] at hm4; have HM4 := Lib.hid hm4; have HG4 := Lib.hid hg4; clear hm4 hg4)
        go_ret
        obtain ⟨r1, r2⟩ := HST2.out.asked HL.out HI3.out HO3.out HW.out HM4.out HG4.out
        exact ⟨rfl, ws ++ [x], r1, by simp, (Only.of_below HB2.out (Nat.le_refl _) _).trans r2⟩
      exact AllL.nil
    exact AllL.nil
theorem concat2 (w2 : World) (S S' : Nat → Prop) (A A' : Option Addr) (n c m c' : Nat) (l r : List Int) (h1 : Sl Rep.int w2 S A n c l) (h2 : Sl Rep.int w2 S' A' m c' r) (hn : n ≤ 100000) (hm : m ≤ 100000) :
    Calls Try.prog 87 #[.slice (some ⟨w2.heap.size, 0, none⟩) 2 2] (w2.alloc (.cells #[.slice A n c, .slice A' m c'] 22))
      fun e w' => ∃ A3 c3, e = .returned (.slice A3 (n + m) c3) ∧ Sl Rep.int w' (fun b => w2.heap.size ≤ b) A3 (n + m) c3 (l ++ r) ∧ Below w2.heap.size w2 w' := by
  have hlen : partsLen [⟨A, n, c, l.map (Value.int .i64)⟩, ⟨A', m, c', r.map (Value.int .i64)⟩] = n + m := by simp [partsLen]
  refine (concatInt w2.heap.size 0 2 (fun _ => True) [⟨A, n, c, l.map (Value.int .i64)⟩, ⟨A', m, c', r.map (Value.int .i64)⟩] _
    (Rd.new w2 _ _ [.slice A n c, .slice A' m c'] _ rfl trivial) ?_ (by simp) (by rw [hlen]; omega)).mono ?_
  · intro p hp
    rcases List.mem_cons.1 hp with rfl | hp
    · exact ⟨((h1.alloc _).ints).more fun _ _ => trivial, h1.cap, one_ints _⟩
    · obtain rfl := List.mem_singleton.1 hp
      exact ⟨((h2.alloc _).ints).more fun _ _ => trivial, h2.cap, one_ints _⟩
  · rintro e w' ⟨v, rfl, ho, hb⟩
    rw [hlen] at ho
    obtain ⟨A3, c3, rfl, hc3, _⟩ := ho.form
    have hall : partsAll [⟨A, n, c, l.map (Value.int .i64)⟩, ⟨A', m, c', r.map (Value.int .i64)⟩] = (l ++ r).map (Value.int .i64) := by
      rw [List.map_append]; simp [partsAll]
    rw [hall] at ho
    exact ⟨A3, c3, rfl, (ho.rd.slInts hc3).more fun b hb => by simp at hb; omega, ((Below.refl _ _).alloc (Nat.le_refl _) _).trans (hb.mono (by simp))⟩
theorem headZ_skip {x : List Int} {i n : Nat} (hy : x[i]? = some 0) (hi : i < n) : headZ x (i + 1) n = headZ x i n := by
  obtain ⟨hl, e⟩ := List.getElem?_eq_some_iff.1 hy
  unfold headZ
  rw [List.take_succ_eq_append_getElem hl, e, show n - i = (n - (i + 1)) + 1 by omega, List.replicate_succ, List.append_assoc]
  rfl
/-- what the tests say, in bytes -/
def bitsR (acc : List Int → Bool) (tests : List (List Int)) (x : List Int) : List Int := (lrow acc tests x).map fun b => if b = true then 1 else 0
theorem bitsR_at {acc : List Int → Bool} {tests : List (List Int)} {x t : List Int} {k : Nat} (ht : tests[k]? = some t) : (bitsR acc tests x)[k]? = some (if acc (x ++ t) = true then 1 else 0) := by
  unfold bitsR lrow
  rw [List.getElem?_map, List.getElem?_map, ht]
  rfl
theorem bitsR_len {acc : List Int → Bool} {tests : List (List Int)} {x : List Int} : (bitsR acc tests x).length = tests.length := by simp [bitsR, lrow]
section
variable {L : LCtx} {w w' w'' : World} {FL : Nat → Prop} {ws ws' : List (List Int)} {q : Nat} {vA vT vR : Value} {access tests : List (List Int)}
theorem MemPost.more {k k' : Nat} (h : MemPost L w' FL ws' q vA vT vR access tests k w'') (ho : Only w w' (fun b => b < L.B0 ∨ b = L.BK)) (hl : ws'.length + k ≤ ws.length + k') : MemPost L w FL ws q vA vT vR access tests k' w'' := by
  obtain ⟨ws2, h1, h2, h3⟩ := h
  exact ⟨ws2, h1, by omega, ho.trans h3⟩
end
set_option linter.unusedSimpArgs false in
set_option maxRecDepth 1000000 in
set_option maxHeartbeats 4000000 in
theorem learnRow (L : LCtx) (hL : L.Ok) (w : World) (FL : Nat → Prop) (ws : List (List Int)) (q : Nat) (vA vT vR : Value) (access tests : List (List Int)) (h : LSt L w FL ws q vA vT vR access tests)
    (S : Nat → Prop) (A : Option Addr) (n c : Nat) (x : List Int) (hx : Sl Rep.int w S A n c x) (hS : ∀ b, S b → L.B0 ≤ b ∧ b ≠ L.BK) (hw : WOkT L.T x) (hn : x.length ≤ 1000) (ht : ∀ t ∈ tests, WOkT L.T t ∧ t.length ≤ 1000) (htl : tests.length ≤ 1000) (hws : ws.length ≤ 90000000) :
    Calls Try.prog 83 #[.pointer (some ⟨L.BL, 0, none⟩), .slice A n c] w fun e w' => e = .returned (.string (keyR (lrow L.acc tests x))) ∧ MemPost L w FL ws q vA vT vR access tests tests.length w' := by
  obtain ⟨AT, cT, rfl, hcT⟩ := h.formT
  have HTT := Lib.hid ht
  obtain ⟨nT, hnT⟩ : ∃ nT, nT = tests.length := ⟨_, rfl⟩
  rw [← hnT] at h hcT htl ⊢
  have hmk := fun W => tBytes.make rfl nT (by omega) (by omega) W
  simp only [made_bytesA] at hmk
  have hkn : n ≤ 1000 := by have := hx.len; omega
  have HNT := Lib.hid hnT
  have HL := Lib.hid hL
  have HX := Lib.hid hx
  have HS := Lib.hid hS
  have HW := Lib.hid hw
  have HXL := Lib.hid hx.len
  obtain ⟨hc0, hc1, hc2, hc3, hc4, hc5⟩ := h.cells
  obtain ⟨w1, hw1⟩ : ∃ w1 : World, w1 = w.alloc (.cells (Array.replicate nT (Value.int .u8 0)) 5) := ⟨_, rfl⟩
  have HY1 := Lib.hid (show ByB w1 w.heap.size (List.replicate nT 0) by rw [hw1]; exact ByB.made w nT)
  have hb1 : Below w.heap.size w w1 := by rw [hw1]; exact (Below.refl _ _).alloc (Nat.le_refl _) _
  have HP1 := Lib.hid (MemPost.below h hL hb1 0)
  have hc4' : w1.cell? ⟨L.BL, 4, none⟩ = some (.slice AT nT cT) := (h.below hL hb1).cells.2.2.2.2.1
  have HFZ := Lib.hid (show ∀ b, FL b → b ≠ w.heap.size from fun b hb => by have := h.flz b hb; omega)
  have HLE := Lib.hid h.le
  have HBKN := Lib.hid (show L.BK ≠ w.heap.size by have := h.flz _ h.flK; omega)
  have hz1 : w1.heap.size = w.heap.size + 1 := by rw [hw1]; simp
  have HZ1 := Lib.hid hz1
  have HW1 := Lib.hid hw1
  have hBLn : L.BL < w.heap.size := h.lt
  clear hnT hL hx hS hw hc0 hc1 hc2 hc3 hc5 hb1 hw1 h ht hz1
  go_enter Try.func83, Try.ntmps83
  go_wp2_with fail
  rw [← HW1.out]
  clear hmk hc4
  obtain ⟨BB, hBB⟩ : ∃ BB, BB = w.heap.size := ⟨_, rfl⟩
  have HBB := Lib.hid hBB
  rw [← hBB] at HY1 HFZ HBKN ⊢
  clear hBB
  obtain ⟨bits, hbits⟩ : ∃ bits, bits = bitsR L.acc tests x := ⟨_, rfl⟩
  have HBITS := Lib.hid hbits
  have HBL := Lib.hid (show bits.length = nT by rw [hbits, bitsR_len, HNT.out])
  clear hbits
  go_loopg [6, 7, 19] nT (fun gk va vb vi wr => ∃ k : Nat, k ≤ nT ∧ gk = nT - k ∧ vi = .int .i64 k ∧ ByB wr BB (headZ bits k nT) ∧ MemPost L w FL ws q vA (.slice AT nT cT) vR access tests k wr)
  case atStart => exact ⟨0, Nat.zero_le _, rfl, rfl, by simpa [headZ] using HY1.out, HP1.out⟩
  case round =>
    obtain ⟨k, hk, hgk, rfl, hby, hmp⟩ := hrel
    obtain ⟨w3, rfl⟩ : ∃ w3 : World, w3 = wr := ⟨_, rfl⟩
    obtain ⟨ws3, hst3, hl3, ho3⟩ := hmp
    have HGK := Lib.hid hgk
    have HY3 := Lib.hid hby
    have HST3 := Lib.hid hst3
    have HL3 := Lib.hid hl3
    have HO3 := Lib.hid ho3
    have hz3 : BB < w3.heap.size := heap_lt hby
    by_cases hlt : k < nT
    · obtain ⟨bN, oN, AR, m, cR, t, rfl, _, _, hcR, hr, hsr⟩ := row_at hst3.slT hlt
      obtain ⟨htw, htl1⟩ := HTT.out t (List.mem_of_getElem? hr)
      have hml : m ≤ 1000 := by have := hsr.len; omega
      have HX3 := Lib.hid (HX.out.keep (ho3.kept fun b hb => by have := HS.out b hb; omega))
      have HC3 := Lib.hid (concat2 w3 _ _ A AR n c m cR x t HX3.out hsr (by omega) (by omega))
      have HTW := Lib.hid (HW.out.app htw)
      have HXT := Lib.hid (show (x ++ t).length ≤ 2000 by rw [List.length_append]; omega)
      have HBT := Lib.hid (show bits[k]? = some (if L.acc (x ++ t) = true then 1 else 0) by rw [HBITS.out]; exact bitsR_at hr)
      clear hgk hby hst3 hl3 ho3 hsr hr htw htl1
      go_wp2_with fail
      refine HC3.out.mono ?_
      rintro e w4 ⟨A4, c4, rfl, hsl4, hb4⟩
      have HSL4 := Lib.hid hsl4
      have HB4 := Lib.hid hb4
      have HY4 := Lib.hid (HY3.out.below hb4)
      have HST4 := Lib.hid (HST3.out.below HL.out hb4)
      have hmem := learnMember L HL.out w4 FL ws3 q vA (.slice (some ⟨bN, oN, none⟩) nT cT) vR access tests HST4.out _ A4 (n + m) c4 (x ++ t) HSL4.out HTW.out HXT.out (by have := HL3.out; omega)
      have HMEM := Lib.hid hmem
      clear hsl4 hb4 hmem
      go_wp2_with fail
      refine HMEM.out.mono ?_
      rintro e w5 ⟨rfl, ws5, hst5, hl5, ho5⟩
      have HST5 := Lib.hid hst5
      have hz5 : BB < w5.heap.size := by have := ho5.size; have := HB4.out.size; omega
      have HY5 := Lib.hid (show ByB w5 BB (headZ bits k nT) from (ho5.block BB (heap_lt HY4.out) (by have := HBKN.out; have := HLE.out; have := HBB.out; omega)).trans HY4.out)
      have HO5 := Lib.hid (HO3.out.trans ((Only.of_below HB4.out (Nat.le_refl _) _).trans ho5))
      have HL5 := Lib.hid (show ws5.length ≤ ws.length + (k + 1) by have := HL3.out; omega)
      have hlen := headZ_len (x := bits) (i := k) (n := nT) (by have := HBL.out; omega) hk
      obtain ⟨x0, _, hcx, hfx⟩ := HY5.out.at_ (i := k) (by omega)
      clear hst5 hl5 ho5 hlen
      cases hacc : L.acc (x ++ t) with
      | true =>
        have hbt := HBT.out
        rw [hacc, if_pos rfl] at hbt
        have HSET := Lib.hid (headZ_set hbt hlt)
        have HY6 := Lib.hid (HY5.out.set k 1)
        have HST6 := Lib.hid (HST5.out.only HL.out (Only.set w5 BB k (.int .u8 1) (X := fun b => b = BB) rfl) (fun b hb => ⟨fun hf => HFZ.out b hf hb, fun _ => by have := HLE.out; have := HBB.out; omega⟩))
        have HO6 := Lib.hid (show Only w (w5.setCell ⟨BB, k, none⟩ (.int .u8 1)) (fun b => b < L.B0 ∨ b = L.BK) from by
          have h1 : Only w (w5.setCell ⟨BB, k, none⟩ (.int .u8 1)) (fun b => (b < L.B0 ∨ b = L.BK) ∨ b = BB) := (HO5.out.more fun b _ hb => Or.inl hb).trans (Only.set w5 BB k (.int .u8 1) (Or.inr rfl))
          refine h1.more fun b hb h => ?_
          rcases h with h | h
          · exact h
          · have := HBB.out
            omega)
        clear hbt
        go_wp2_with fail
        go_roundg (nT - (k + 1))
        case measure => rw [HGK.out]; omega
        case rel => exact ⟨k + 1, by omega, rfl, by go_num, by rw [← HSET.out]; exact HY6.out, ws5, HST6.out, HL5.out, HO6.out⟩
      | false =>
        have hbt := HBT.out
        rw [hacc] at hbt
        have HSET := Lib.hid (headZ_skip hbt hlt)
        clear hbt
        go_wp2_with fail
        go_roundg (nT - (k + 1))
        case measure => rw [HGK.out]; omega
        case rel => exact ⟨k + 1, by omega, rfl, by go_num, by rw [HSET.out]; exact HY5.out, ws5, HST5.out, HL5.out, HO5.out⟩
    · obtain rfl : k = nT := by omega
      have hy := HY3.out
      rw [headZ_end HBL.out, HBITS.out] at hy
      have hc := hy.str (bits_ok _)
      rw [bitsR_len, ← HNT.out] at hc
      unfold bitsR at hc
      rw [← keyR_str] at hc
      clear hy hgk hby hst3 hl3 ho3
      go_wp2_with fail
      go_ret
      exact ⟨rfl, ws3, HST3.out, HL3.out, HO3.out⟩
end Go.Proofs.Ytgaahpddlohjoaa
