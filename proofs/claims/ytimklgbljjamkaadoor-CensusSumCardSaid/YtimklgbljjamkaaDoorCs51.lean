/- CnWords -/
import Derived.Deep.LoopGhost
import Derived.Test.YtimklgbljjamkaaDoorCs26
import Derived.Test.YtimklgbljjamkaaDoorCs50
namespace Go.Proofs.YtimklgbljjamkaaDoor
open Go.RowKit
def kidsP (T : Nat) (w : List Int) : List (List Int) := (List.range T).map fun t : Nat => w ++ [(t : Int)]
theorem kidsP_len (T : Nat) (w : List Int) : (kidsP T w).length = T := by simp [kidsP]
theorem wordsP_len (T : Nat) : ∀ n : Nat, (wordsP T n).length = T ^ n
 | 0 => rfl
 | n + 1 => by
  rw [show wordsP T (n + 1) = (wordsP T n).flatMap (kidsP T) from rfl, List.length_flatMap]
  have h1 : ((wordsP T n).map fun w => (kidsP T w).length) = List.replicate (wordsP T n).length T := by
   rw [List.eq_replicate_iff]
   refine ⟨by simp, fun b hb => ?_⟩
   obtain ⟨w, _, rfl⟩ := List.mem_map.1 hb
   exact kidsP_len T w
  rw [h1, List.sum_replicate_nat, wordsP_len T n, Nat.pow_succ]
theorem kidsP_take (T j : Nat) (w : List Int) (h : j < T) : (kidsP T w).take (j + 1) = (kidsP T w).take j ++ [w ++ [(j : Int)]] := by
 have hl : j < (kidsP T w).length := by rw [kidsP_len]; exact h
 rw [List.take_succ_eq_append_getElem hl]
 simp [kidsP]
theorem tIntssW : SlType Tryd.prog 28 22 1 24 (.slice none 0 0) := ⟨by kernel_rfl, by kernel_rfl, by kernel_rfl, rfl, by decide⟩
def nextP (T : Nat) (l : List (List Int)) (i j : Nat) : List (List Int) := (l.take i).flatMap (kidsP T) ++ ((l.drop i).take 1).flatMap fun w => (kidsP T w).take j
theorem nextP_zero (T : Nat) (l : List (List Int)) : nextP T l 0 0 = [] := by cases l <;> simp [nextP]
theorem nextP_step {T : Nat} {l : List (List Int)} {i j : Nat} {w : List Int} (hw : l[i]? = some w) (hj : j < T) : nextP T l i (j + 1) = nextP T l i j ++ [w ++ [(j : Int)]] := by
 obtain ⟨hi, rfl⟩ := List.getElem?_eq_some_iff.1 hw
 have hd : (l.drop i).take 1 = [l[i]] := by rw [List.drop_eq_getElem_cons hi]; rfl
 unfold nextP
 rw [hd, List.flatMap_singleton, List.flatMap_singleton, kidsP_take T j _ hj, List.append_assoc]
theorem nextP_next {T : Nat} {l : List (List Int)} {i : Nat} {w : List Int} (hw : l[i]? = some w) : nextP T l i T = nextP T l (i + 1) 0 := by
 obtain ⟨hi, rfl⟩ := List.getElem?_eq_some_iff.1 hw
 have hd : (l.drop i).take 1 = [l[i]] := by rw [List.drop_eq_getElem_cons hi]; rfl
 have ht : (kidsP T l[i]).take T = kidsP T l[i] := List.take_of_length_le (by rw [kidsP_len]; exact Nat.le_refl _)
 unfold nextP
 rw [hd, List.flatMap_singleton, ht, List.take_succ_eq_append_getElem hi, List.flatMap_append, List.flatMap_singleton]
 simp
theorem nextP_end (T : Nat) (l : List (List Int)) : nextP T l l.length 0 = l.flatMap (kidsP T) := by simp [nextP]
theorem nextP_len {T : Nat} {l : List (List Int)} {i j : Nat} (hj : j ≤ T) : (nextP T l i j).length ≤ (l.length + 1) * T := by
 unfold nextP
 rw [List.length_append, List.length_flatMap, List.length_flatMap]
 have h1 : ((l.take i).map fun w => (kidsP T w).length) = List.replicate (l.take i).length T := by
  rw [List.eq_replicate_iff]
  refine ⟨by simp, fun b hb => ?_⟩
  obtain ⟨w, _, rfl⟩ := List.mem_map.1 hb
  exact kidsP_len T w
 rw [h1, List.sum_replicate_nat]
 have h2 : ((((l.drop i).take 1).map fun w => ((kidsP T w).take j).length)).sum ≤ T := by
  cases l.drop i with
  | nil => simp
  | cons a r => simp [kidsP_len]; omega
 have h3 : (l.take i).length ≤ l.length := by simp; omega
 calc (l.take i).length * T + _ ≤ l.length * T + T := Nat.add_le_add (Nat.mul_le_mul_right _ h3) h2
  _ = (l.length + 1) * T := by rw [Nat.add_mul, Nat.one_mul]
theorem wordsPush (w6 w7 : World) (L : List (List Int)) (T i j : Nat) (An : Option Addr) (cn : Nat) (v7 : Value) (u : List Int) {w4 : World} (ho7 : OwnL Rep.int w7 (fun _ => False) w6.heap.size 3 v7 u) (hz6 : w4.heap.size ≤ w6.heap.size) (hz7 : w6.heap.size ≤ w7.heap.size)
    (hb7 : Below w6.heap.size w6 w7) (hoN : OwnL RI w6 (fun _ => False) w4.heap.size 22 (.slice An (nextP T L i j).length cn) (nextP T L i j)) (hu : u.length ≤ 5) (hl : (nextP T L i j).length ≤ 1025 * 4) :
    ∃ A8 c8 w8, (Builtin.append_ #[22, 22] 22 #[v7, .slice (some ⟨w7.heap.size, 0, none⟩) 1 1]).run Tryd.prog (w7.alloc (.cells #[.int .i64 (j : Int)] 3)) = .ok (.slice A8 (u.length + 1) c8) w8 ∧
     ∃ vN w9, (Builtin.append_ #[28, 28] 28 #[.slice An (nextP T L i j).length cn, .slice (some ⟨w8.heap.size, 0, none⟩) 1 1]).run Tryd.prog (w8.alloc (.cells #[.slice A8 (u.length + 1) c8] 22)) = .ok vN w9 ∧ OwnL RI w9 (fun _ => False) w4.heap.size 22 vN (nextP T L i j ++ [u ++ [(j : Int)]]) ∧ Below w4.heap.size w7 w9 := by
 have hr : ∀ g, rowOf (.slice An (nextP T L i j).length cn) = some g → g < w6.heap.size := fun g e => (hoN.row e).2
 obtain ⟨v8, w8, hrun8, ho8, hg8, hb8⟩ := run_append_lit (R := Rep.int) tInts rfl w7 22 w6.heap.size (fun _ => False) v7 u ho7 1 [(j : Int)] [.int .i64 (j : Int)] (Cells.single rfl) rfl (by unfold maxLen; omega) (by omega) hz7
 obtain ⟨A8, c8, rfl, _, _⟩ := ho8.form
 have hoN8 : OwnL RI w8 (fun _ => False) w4.heap.size 22 (.slice An (nextP T L i j).length cn) (nextP T L i j) := hoN.below (hb7.trans hb8)
 have hsl : Sl Rep.int w8 (fun b => w6.heap.size ≤ b) A8 (u.length + 1) c8 (u ++ [(j : Int)]) := by
  have h := ho8.sl
  rw [List.length_append, List.length_singleton] at h
  exact h.more fun b hb => by
   rcases hb with hb | hb
   ·
    exact hb.elim
   ·
    exact hb
 rw [List.length_append, List.length_singleton] at hrun8
 obtain ⟨vN, w9, hrun9, ho9, hg9, hb9⟩ := run_append_lit (R := RI) tIntssW rfl w8 28 w4.heap.size (fun _ => False) (.slice An (nextP T L i j).length cn) (nextP T L i j) hoN8 1 [u ++ [(j : Int)]] [.slice A8 (u.length + 1) c8]
  (Cells.single ⟨A8, u.length + 1, c8, rfl, hsl.more fun b hb => ⟨.inr (by omega), fun e => by have := hr b e; omega⟩⟩) rfl (by unfold maxLen; omega) (by omega) (by have := hb8.size; omega)
 exact ⟨A8, c8, w8, hrun8, vN, w9, hrun9, ho9, (hb8.mono hz6).trans hb9⟩
set_option linter.unusedSimpArgs false in
set_option maxRecDepth 100000 in
set_option maxHeartbeats 4000000 in
theorem keepWords (w : World) (T n : Nat) (hT : T ≤ 4) (hn : n ≤ 5) :
    Calls Tryd.prog 9 #[.int .i64 T, .int .i64 n] w fun e w' => ∃ A c, e = .returned (.slice A (wordsP T n).length c) ∧ Sl RI w' (fun b => w.heap.size ≤ b) A (wordsP T n).length c (wordsP T n) ∧ Below w.heap.size w w' := by
 have hpow : ∀ k, k ≤ 5 → (wordsP T k).length ≤ 1024 := fun k hk => by
  rw [wordsP_len]
  exact Nat.le_trans (Nat.pow_le_pow_left hT k) (Nat.le_trans (Nat.pow_le_pow_right (by omega) hk) (by decide))
 have HP := Lib.hid hpow
 clear hpow
 go_enter Tryd.func9, Tryd.ntmps9
 go_wp2_with fail
 have hs0 : Sl RI (w.alloc (.cells #[.slice none 0 0] 22)) (fun b => w.heap.size ≤ b) (some ⟨w.heap.size, 0, none⟩) (wordsP T 0).length 1 (wordsP T 0) :=
  ⟨[.slice none 0 0], rfl, Nat.le_refl _, Rd.new w _ 22 [.slice none 0 0] w.heap.size rfl (Nat.le_refl _), [.slice none 0 0], [], rfl, ⟨none, 0, 0, rfl, Sl.nil _ _ _ _⟩, rfl⟩
 have HS0 := Lib.hid hs0
 have HB0 := Lib.hid ((Below.refl w.heap.size w).alloc (Nat.le_refl _) (.cells #[.slice none 0 0] 22))
 clear hs0
 go_loopg [5, 6, 8, 9, 12] n (fun gk vo va vb vc vi wr => ∃ (k : Nat) (A : Option Addr) (c : Nat), k ≤ n ∧ gk = n - k ∧ vi = .int .i64 k ∧ vo = .slice A (wordsP T k).length c ∧ Sl RI wr (fun b => w.heap.size ≤ b) A (wordsP T k).length c (wordsP T k) ∧ Below w.heap.size w wr)
 case atStart => exact ⟨0, _, 1, Nat.zero_le _, rfl, rfl, rfl, HS0.out, HB0.out⟩
 case round =>
  obtain ⟨k, A, c, hk, hgk, rfl, rfl, hsl, hb⟩ := hrel
  obtain ⟨w4, rfl⟩ : ∃ w4 : World, w4 = wr := ⟨_, rfl⟩
  have HGK := Lib.hid hgk
  have HSL := Lib.hid hsl.fit
  have HB := Lib.hid hb
  clear hgk hsl hb
  by_cases hlt : k < n
  ·
   obtain ⟨L, hL⟩ : ∃ L, L = wordsP T k := ⟨_, rfl⟩
   have hLl : L.length ≤ 1024 := by rw [hL]; exact HP.out k (by omega)
   have HL := Lib.hid hL
   rw [← hL] at HSL ⊢
   have hz4 := HB.out.size
   have HWL := Lib.hid (show ∀ v ∈ L, v.length = k from fun v hv => ((mem_wordsP (T := T) (n := k) (u := v)).1 (hL ▸ hv)).1)
   clear hL
   go_wp2_with fail
   go_loopg [6, 8, 9, 16] L.length (fun gj vn va vb vj wr => ∃ (i : Nat), i ≤ L.length ∧ gj = L.length - i ∧ vj = .int .i64 i ∧ OwnL RI wr (fun _ => False) w4.heap.size 22 vn (nextP T L i 0) ∧ Below w4.heap.size w4 wr)
   case atStart => exact ⟨0, Nat.zero_le _, rfl, rfl, by rw [nextP_zero]; exact OwnL.nil _ _ _ _ _, Below.refl _ _⟩
   case round =>
    obtain ⟨i, hi, hgj, rfl, ho, hb5⟩ := hrel
    obtain ⟨w5, rfl⟩ : ∃ w5 : World, w5 = wr := ⟨_, rfl⟩
    have HGJ := Lib.hid hgj
    have HO := Lib.hid ho
    have HB5 := Lib.hid hb5
    clear hgj ho hb5
    by_cases hil : i < L.length
    ·
     obtain ⟨bO, oO, AR, m, cR, u, rfl, _, _, hcR, hu, hsr⟩ := row_at (HSL.out.below HB5.out) hil
     have HU := Lib.hid hu
     have hml : m ≤ 5 := by rw [hsr.len, HWL.out u (List.mem_of_getElem? hu)]; omega
     have HSR := Lib.hid (hsr.fit)
     have HSR4 := Lib.hid (show ∀ w' : World, Below w4.heap.size w4 w' → Sl Rep.int w' (fun _ => True) AR m cR u from fun w' hw' => by
      obtain ⟨bO', oO', AR', m', cR', u', e, _, _, hcR', hu', hsr'⟩ := row_at HSL.out hil
      injection e with e
      injection e with e1 e2
      subst e1
      subst e2
      rw [hu] at hu'
      injection hu' with hu'
      subst hu'
      have h1 := (HB5.out.cell (cell_lt hcR')).trans hcR'
      rw [h1] at hcR
      injection hcR with hcR
      injection hcR with q1 q2 q3
      subst q1
      subst q2
      subst q3
      exact (hsr'.below hw').more fun _ _ => trivial)
     clear hu hsr
     go_wp2_with fail
     go_loopg [6, 9, 21] T (fun gx vn va vx wr => ∃ (j : Nat), j ≤ T ∧ gx = T - j ∧ vx = .int .i64 j ∧ OwnL RI wr (fun _ => False) w4.heap.size 22 vn (nextP T L i j) ∧ Below w4.heap.size w4 wr)
     case atStart => exact ⟨0, Nat.zero_le _, rfl, rfl, HO.out, HB5.out⟩
     case round =>
      obtain ⟨j, hj, hgx, rfl, ho, hb6⟩ := hrel
      obtain ⟨w6, rfl⟩ : ∃ w6 : World, w6 = wr := ⟨_, rfl⟩
      have HGX := Lib.hid hgx
      have HO6 := Lib.hid ho
      have HB6 := Lib.hid hb6
      have hz6 := hb6.size
      clear hgx ho hb6
      by_cases hjl : j < T
      ·
       go_wp2_with fail
       have hcl := cloneInt AR m cR (fun _ => True) (u.map (Value.int .i64)) w6 (HSR4.out w6 HB6.out).ints (by omega)
       refine hcl.mono ?_
       clear hcl
       rintro e w7 ⟨v7, rfl, ho7, hb7⟩
       have hz7 := hb7.size
       have hul := (HSR4.out w6 HB6.out).len
       have hu5 : u.length ≤ 5 := by omega
       have hoL : OwnL Rep.int w7 (fun _ => False) w6.heap.size 3 v7 u := Own.ints ho7 _
       have HUL := Lib.hid hul
       obtain ⟨An, cn, en, hcn, _⟩ := HO6.out.form
       subst en
       have hlenN : (nextP T L i j).length ≤ 1025 * 4 := Nat.le_trans (nextP_len hj) (Nat.mul_le_mul (by omega) hT)
       have hpush := wordsPush w6 w7 L T i j An cn v7 u hoL hz6 hz7 hb7 HO6.out hu5 hlenN
       obtain ⟨A8, c8, w8, hrun8, vN, w9, hrun9, ho9, hb9⟩ := hpush
       have HRUN8 := Lib.hid hrun8
       have HRUN9 := Lib.hid hrun9
       have HO9 := Lib.hid ho9
       have HB9 := Lib.hid (show Below w4.heap.size w4 w9 from (HB6.out.trans (hb7.mono hz6)).trans hb9)
       have HSTEP := Lib.hid (nextP_step (T := T) HU.out hjl)
       clear hrun8 hrun9 ho9 hb9 hoL ho7 hb7 hul hz7 hlenN
       go_wp2_with (first
        | (at_builtin; refine Lib.wpList_append_run (o := ⟨some 29, _, _, _, _, _⟩) _ rfl _ _ _ _ rfl _ _ rfl rfl _ _ HRUN8.out ?_)
        | (at_builtin; refine Lib.wpList_append_run (o := ⟨some 31, _, _, _, _, _⟩) _ rfl _ _ _ _ rfl _ _ rfl rfl _ _ HRUN9.out ?_))
       go_roundg (T - (j + 1))
       case measure => rw [HGX.out]; omega
       case rel => exact ⟨j + 1, by omega, rfl, by go_num, by rw [HSTEP.out]; exact HO9.out, HB9.out⟩
      ·
       obtain rfl : j = T := by omega
       have HNX := Lib.hid (nextP_next (T := j) HU.out)
       go_wp2_with fail
       go_roundg (L.length - (i + 1))
       case measure => rw [HGJ.out]; omega
       case rel => exact ⟨i + 1, by omega, rfl, by go_num, by rw [← HNX.out]; exact HO6.out, HB6.out⟩
    ·
     obtain rfl : i = L.length := by omega
     obtain ⟨An, cn, rfl, hcn, _⟩ := HO.out.form
     have HEND := Lib.hid (show nextP T L L.length 0 = wordsP T (k + 1) by rw [nextP_end, HL.out]; rfl)
     go_wp2_with fail
     go_roundg (n - (k + 1))
     case measure => rw [HGK.out]; omega
     case rel =>
      refine ⟨k + 1, An, cn, by omega, rfl, by go_num, by rw [HEND.out], ?_, HB.out.trans (HB5.out.mono hz4)⟩
      have h := HO.out.sl
      rw [HEND.out] at h
      exact h.more fun b hb => by
       rcases hb with hb | hb
       ·
        exact hb.elim
       ·
        omega
  ·
   obtain rfl : k = n := by omega
   go_wp2_with fail
   go_ret
   exact ⟨A, c, rfl, HSL.out.more fun b hb => hb.1, HB.out⟩
end Go.Proofs.YtimklgbljjamkaaDoor
