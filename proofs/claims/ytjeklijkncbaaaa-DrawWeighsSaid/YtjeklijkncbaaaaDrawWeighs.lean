/- DrawWeighs: of all lists of coins each index is told by as many as its weight says. -/
import Derived.Test.YtjeklijkncbaaaaWeighPlain
namespace Go.Proofs.Ytjeklijkncbaaaa
open Go.RowKit

theorem int_take {l : List Int} {k : Nat} {x : Int} (h : l[k]? = some x) : l.take (k + 1) = l.take k ++ [x] := int_step h
theorem toldP_own {w1 W : World} {base H N : Nat} {ws : List Nat} {k : Nat} (hN : ws.length = N) (ho : W.ownsRow base 3 1 (.slice (some ⟨H, 0, none⟩) N N) N (List.replicate N (.int .i64 0))) (hb : Below W.heap.size W w1) :
    w1.ownsRow base 3 1 (.slice (some ⟨H, 0, none⟩) N N) N ((toldP ws k []).map (Value.int .i64)) := by
  rw [toldP_nil, List.map_replicate, hN]
  exact ho.kept (w' := w1) (row := none) ⟨hb.os, hb.tape, hb.output, hb.size, fun k hk _ => hb.block k hk⟩ (.inr (by simp [Value.ownBlock]))
/-- one weight more -/
theorem weight_push (wr : World) (B : Nat) (v : Value) (ws : List Nat) (y : Nat) (hB : B ≤ wr.heap.size) (hn : ws.length ≤ 4) (ho : OwnL Rep.int wr (fun _ => False) B 3 v (nats ws)) :
    ∃ v2 w2, (Builtin.append_ #[29, 29] 29 #[v, .slice (some ⟨wr.heap.size, 0, none⟩) 1 1]).run Try.prog (wr.alloc (.cells #[.int .i64 (y : Int)] 3)) = .ok v2 w2 ∧
      OwnL Rep.int w2 (fun _ => False) B 3 v2 (nats (ws ++ [y])) ∧ Below B wr w2 := by
  have hl : (nats ws).length = ws.length := by simp [nats]
  obtain ⟨v', w', hrun, ho', _, hb⟩ := run_append_lit (R := Rep.int) tInts rfl wr 29 B (fun _ => False) v (nats ws) ho 1 [(y : Int)] [.int .i64 (y : Int)] (Cells.single rfl) rfl (by unfold maxLen; omega) (by omega) hB
  exact ⟨v', w', hrun, by simpa [nats] using ho', hb⟩

set_option maxHeartbeats 4000000 in
theorem drawWeighs_walk (w : World) (A : Option Addr) (n c : Nat) (l : List Int) (_ : n ≤ c) (hc : c ≤ 17592186043904) (hr : Rd w (fun _ => True) 1 A n (l.map (Value.int .i64))) (_ : ∀ z ∈ l, -9223372036854775808 ≤ z ∧ z ≤ 9223372036854775807)
    (k : Int) (_ : -9223372036854775808 ≤ k) (_ : k ≤ 9223372036854775807) :
    Calls Try.prog 5 #[.slice A n c, .int .i64 k] w fun e w' => e = .returned (.bool true) ∧ Below w.heap.size w w' := by
  have hl : l.length = n := by simpa using hr.1
  have HL := Lib.hid hl
  have HR := Lib.hid hr
  clear hl hr
  go_enter Try.func5, Try.ntmps5
  go_wp2_with fail
  go_loopw [5, 6, 26] (fun v s i wr => ∃ j : Nat, j ≤ n ∧ i = .int .i64 j ∧ s = .int .i64 ((wsOf (l.take j)).sum : Nat) ∧ OwnL Rep.int wr (fun _ => False) w.heap.size 3 v (nats (wsOf (l.take j))) ∧ Below w.heap.size w wr) (fun _ _ i _ => n - (intOf i).toNat)
  case atStart => exact ⟨0, Nat.zero_le _, rfl, rfl, OwnL.nil _ _ _ _ _, Below.refl _ _⟩
  case round =>
    obtain ⟨j, hj, rfl, rfl, ho, hb⟩ := hrel
    obtain ⟨Aw, cw, rfl, hcw, _⟩ := ho.form
    have hlen : (nats (wsOf (l.take j))).length = min 4 j := by rw [nats, List.length_map, wsOf_len, List.length_take, HL.out]; omega
    rw [hlen] at hcw ⊢
    rw [hlen] at ho
    have HO := Lib.hid ho
    have HB := Lib.hid hb
    have hsum := wsOf_sum (l.take j)
    clear ho hb hlen
    by_cases hlt : j < n
    · obtain ⟨b, off, x, rfl, _, hx, hcell0⟩ := HR.out.int_at hlt
      have hcell : wr.cell? ⟨b, off + j, none⟩ = some (.int .i64 x) := Kept.below (S := fun _ => True) HB.out _ _ trivial hcell0
      have hx4 := Int.emod_nonneg x (by omega : (4 : Int) ≠ 0)
      have hx5 := Int.emod_lt_of_pos x (by omega : (0 : Int) < 4)
      have HX := Lib.hid hx
      clear hx hcell0
      by_cases h4 : j < 4
      · have hmin : min 4 j = j := by omega
        rw [hmin] at hcw ⊢
        have hO := HO.out
        rw [hmin] at hO
        obtain ⟨v2, w2, hrun, ho2, hb2⟩ := weight_push wr w.heap.size _ (wsOf (l.take j)) (x % 4).toNat HB.out.size (by rw [wsOf_len]; omega) hO
        have e : ((x % 4).toNat : Int) = x % 4 := by omega
        rw [e] at hrun
        rw [← wsOf_snoc_lt _ _ (by rw [List.length_take, HL.out]; omega), ← int_take HX.out] at ho2
        have hs2 : (wsOf (l.take (j + 1))).sum = (wsOf (l.take j)).sum + (x % 4).toNat := by
          rw [int_take HX.out, wsOf_snoc_lt _ _ (by rw [List.length_take, HL.out]; omega), List.sum_append]; simp
        have HRUN := Lib.hid hrun
        have HO2 := Lib.hid ho2
        have HB2 := Lib.hid hb2
        have HS2 := Lib.hid hs2
        clear hrun ho2 hb2 hO hmin e hs2
        generalize (wsOf (l.take j)).sum = q at *
        go_wp2_with (first
          | (go_at_call 9; refine (keepBelow _ _ _ (by omega) (by omega)).mono ?_; rintro e w' ⟨rfl, rfl⟩)
          | (at_builtin; refine Lib.wpList_append_run (o := ⟨some 37, _, _, _, _, _⟩) _ rfl _ _ _ _ rfl _ _ rfl rfl _ _ HRUN.out ?_))
        go_roundw
        case rel => exact ⟨j + 1, by omega, by go_num, by rw [HS2.out]; congr 1; omega, HO2.out, HB.out.trans HB2.out⟩
        case measure => simp [intOf]; omega
      · have hmin : min 4 j = 4 := by omega
        rw [hmin] at hcw ⊢
        have hO := HO.out
        rw [hmin] at hO
        have hs2 : wsOf (l.take (j + 1)) = wsOf (l.take j) := by
          rw [int_take HX.out, wsOf_snoc_ge _ _ (by rw [List.length_take, HL.out]; omega)]
        have HS2 := Lib.hid hs2
        have HO2 := Lib.hid hO
        clear hO hmin hs2
        go_wp2_with fail
        go_roundw
        case rel => exact ⟨j + 1, by omega, by go_num, by rw [HS2.out], by rw [HS2.out]; exact HO2.out, HB.out⟩
        case measure => simp [intOf]; omega
    · obtain rfl : j = n := by omega
      have hO := HO.out
      have hwlen : (wsOf l).length = min 4 j := by rw [wsOf_len, HL.out]
      rw [List.take_of_length_le (by rw [HL.out]; omega)] at hsum hO ⊢
      have hrd := hO.sl.ints
      have hle := wsOf_le l
      have HW := Lib.hid hwlen
      have HRD := Lib.hid hrd
      have HLE := Lib.hid hle
      clear hO hrd hle hwlen
      have hmin : min 4 j ≤ 4 := by omega
      generalize wsOf l = ws at *
      generalize min 4 j = N at *
      clear HO
      go_wp2_with fail
      refine (pick_any (some ⟨wr.heap.size, 0, none⟩) none 2 2 0 0 0 (fun _ => True) (fun _ => True) [0, 1] [] _ (Rd.new wr _ _ [.int .i64 0, .int .i64 1] _ rfl trivial) (by omega) (by decide) (by decide) Rd.nil (by omega) (by omega) (by decide) (by omega) (by omega)).mono ?_
      rintro e w' ⟨rfl, rfl⟩
      have hpv : pickVal [0, 1] (number [0, 1].sum 0 []) = .tuple #[.int .i64 1, .int .i64 0, .int .i64 0] := rfl
      rw [hpv]
      clear hpv
      by_cases hs0 : ws.sum = 0
      · rw [hs0]
        have hmk : ∀ u : World, (Instr.makeSlice 22 (.int .i64 9) (.int .i64 9)).run Try.prog u = .ok (.slice (some ⟨u.heap.size, 0, none⟩) 9 9) (u.alloc (.cells (madeCells #[.bool false] 9) 4)) := fun u => tBools.make rfl 9 (by omega) (by omega) u
        go_wp2_with fail
        refine (pick_zero Aw _ N cw _ _ _ ws _ ((HRD.out.alloc _).alloc _) (by omega) (fun a ha => by have := HLE.out a ha; omega) hs0).mono ?_
        rintro e w' ⟨rfl, rfl⟩
        go_wp2_with fail
        go_ret
        exact ⟨rfl, (HB.out.alloc HB.out.size _).alloc (by have := HB.out.size; simp; omega) _⟩
      · have hz : ((ws.sum : Int) == 0) = false := by simp; omega
        have hmk := tInts.make rfl N (by omega) (by omega)
        have hK0 := Int.emod_nonneg k (by omega : (9 : Int) ≠ 0)
        have hK1 := Int.emod_lt_of_pos k (by omega : (0 : Int) < 9)
        obtain ⟨K, hK⟩ : ∃ K : Nat, k % 9 = K := ⟨(k % 9).toNat, by omega⟩
        have hK2 : K ≤ 8 := by omega
        have HK := Lib.hid hK
        clear hK
        go_wp2_with (go_at_call 9; refine (keepBelow _ _ _ (by omega) (by omega)).mono ?_; rintro e w' ⟨rfl, rfl⟩)
        rw [HK.out]
        refine (coins_any K _ (by omega)).mono ?_
        rintro e w1 ⟨Ac, m, cm, rfl, hsl, hb1⟩
        have hm : m = (allCoins K).length := hsl.len
        have hm2 : m ≤ 256 := by
          rw [hm, allCoins_len]
          exact Nat.le_trans (Nat.pow_le_pow_right (by omega) hK2) (by decide)
        have hsz := HB.out.size
        obtain ⟨hk1, hk2, hk3⟩ := bitsOf_ok ws.sum (by omega) (by omega)
        have hown1 := toldP_own (k := bitsOf ws.sum) HW.out (made_own (wr.alloc (.cells #[.int .i64 0, .int .i64 1] 3)) w.heap.size 3 (.int .i64 0) N (by simp; omega) (by unfold maxLen; omega)) hb1
        have hsl1 : Sl RB w1 (fun b => b ≠ wr.heap.size + 1) Ac m cm (allCoins K) := hsl.more fun b hb => by simp at hb; omega
        have hrd1 : Rd w1 (fun b => b ≠ wr.heap.size + 1) 1 Aw N ((nats ws).map (Value.int .i64)) := (((HRD.out.fit (by omega)).alloc _).alloc _).below hb1 |>.more fun b hb => by have := hb.2; omega
        have hbl1 : Below w.heap.size w w1 := ((HB.out.alloc HB.out.size _).alloc (by simp; omega) _).trans (hb1.mono (by simp; omega))
        simp only [World.size_alloc] at hown1
        have HM := Lib.hid hm
        have HO1 := Lib.hid hown1
        have HS1 := Lib.hid hsl1
        have HRD1 := Lib.hid hrd1
        have HB1 := Lib.hid hbl1
        have HK1 := Lib.hid hk1
        have HK2 := Lib.hid hk2
        clear hm hsl hb1 hown1 hsl1 hrd1 hbl1 hk1 hk2 HRD HB
        go_wp2_with fail
        obtain ⟨H, hH⟩ : ∃ H, H = wr.heap.size := ⟨_, rfl⟩
        rw [← hH] at hsz HO1 HS1 HRD1 ⊢
        clear hH
        go_loopw [16, 73] (fun s i wi => ∃ j : Nat, j ≤ m ∧ i = .int .i64 j ∧ s = .int .i64 (allP ws (bitsOf ws.sum) ((allCoins K).take j) : Nat) ∧
            wi.ownsRow w.heap.size 3 1 (.slice (some ⟨H + 1, 0, none⟩) N N) N ((toldP ws (bitsOf ws.sum) ((allCoins K).take j)).map (Value.int .i64)) ∧
            Sl RB wi (fun b => b ≠ H + 1) Ac m cm (allCoins K) ∧ Rd wi (fun b => b ≠ H + 1) 1 Aw N ((nats ws).map (Value.int .i64)) ∧ Below w.heap.size w wi) (fun _ i _ => m - (intOf i).toNat)
        case atStart => exact ⟨0, Nat.zero_le _, rfl, rfl, HO1.out, HS1.out, HRD1.out, HB1.out⟩
        case round =>
          obtain ⟨j2, hj2, rfl, rfl, ho, hs, hrd, hb⟩ := hrel
          have HOJ := Lib.hid ho
          have HSJ := Lib.hid hs
          have HRJ := Lib.hid hrd
          have HBJ := Lib.hid hb
          clear ho hs hrd hb HO1 HS1 HRD1 HB1
          have hall : allP ws (bitsOf ws.sum) ((allCoins K).take j2) ≤ 256 := Nat.le_trans List.countP_le_length (by rw [List.length_take]; omega)
          by_cases hlt2 : j2 < m
          · obtain ⟨b, off, u, a, rfl, _, hget, ⟨A1, n1, c1, hu, hsl1⟩, hcell⟩ := HSJ.out.at_ rfl hlt2
            obtain rfl : u = .slice A1 n1 c1 := by simpa using hu
            have ha : a.length = K := allCoins_mem K a (List.mem_of_getElem? hget)
            have hn1 : n1 ≤ 20 := by have := hsl1.len; omega
            have htake : (allCoins K).take (j2 + 1) = (allCoins K).take j2 ++ [a] := by
              obtain ⟨hk, rfl⟩ := List.getElem?_eq_some_iff.1 hget
              exact List.take_succ_eq_append_getElem hk
            have HT := Lib.hid htake
            have HSL := Lib.hid hsl1
            clear hu hget ha hsl1 htake
            cases he : number ws.sum (bitsOf ws.sum) a with
            | none =>
              obtain ⟨hst1, hst2⟩ := toldP_none (L := (allCoins K).take j2) he
              have hpv : pickVal ws (number ws.sum (bitsOf ws.sum) a) = .tuple #[.int .i64 0, .int .i64 0, .int .i64 5] := by rw [he]; rfl
              have HST1 := Lib.hid hst1
              have HST2 := Lib.hid hst2
              have HPV := Lib.hid hpv
              clear he hst1 hst2 hpv
              generalize allP ws (bitsOf ws.sum) ((allCoins K).take j2) = q at *
              go_wp2_with (go_at_call 15; refine (pick_any Aw A1 N cw n1 c1 (bitsOf ws.sum) _ _ ws a _ HRJ.out (by omega) (fun a ha => by have := HLE.out a ha; omega) (by omega) HSL.out.bools HSL.out.cap (by omega) HK1.out HK2.out hk3).mono ?_; rintro e w' ⟨rfl, rfl⟩; rw [HPV.out])
              go_roundw
              case rel => exact ⟨j2 + 1, by omega, by go_num, by rw [HT.out, HST2.out], by rw [HT.out, HST1.out]; exact HOJ.out, HSJ.out, HRJ.out, HBJ.out⟩
              case measure => simp [intOf]; omega
            | some r =>
              obtain ⟨x, u⟩ := r
              obtain ⟨hst1, hst2⟩ := toldP_some (L := (allCoins K).take j2) he
              have hx := (number_hit (by omega) he).2.1
              have hpl := pickOf_lt hx
              rw [HW.out] at hpl
              have hpv : pickVal ws (number ws.sum (bitsOf ws.sum) a) = .tuple #[.int .i64 (pickOf ws x), .int .i64 u, .int .i64 0] := by rw [he]; rfl
              have hat := toldP_at (k := bitsOf ws.sum) (i := pickOf ws x) ((allCoins K).take j2) (by rw [HW.out]; omega)
              generalize pickOf ws x = px at *
              have hcx : wr.cell? ⟨H + 1, px, none⟩ = some (.int .i64 ((((allCoins K).take j2).countP (hitP ws.sum (bitsOf ws.sum) fun y => pickOf ws y == px) : Nat) : Int)) := by
                rw [HOJ.out.cellAt px (by omega), List.getElem?_map, hat]; rfl
              have hfx := HOJ.out.frozenAt px
              have hcnt : ((allCoins K).take j2).countP (hitP ws.sum (bitsOf ws.sum) fun y => pickOf ws y == px) ≤ 256 := Nat.le_trans List.countP_le_length (by rw [List.length_take]; omega)
              have HST1 := Lib.hid hst1
              have HST2 := Lib.hid hst2
              have HPV := Lib.hid hpv
              clear he hst1 hst2 hpv hat
              generalize allP ws (bitsOf ws.sum) ((allCoins K).take j2) = q at *
              generalize ((allCoins K).take j2).countP (hitP ws.sum (bitsOf ws.sum) fun y => pickOf ws y == px) = q2 at *
              go_wp2_with (go_at_call 15; refine (pick_any Aw A1 N cw n1 c1 (bitsOf ws.sum) _ _ ws a _ HRJ.out (by omega) (fun a ha => by have := HLE.out a ha; omega) (by omega) HSL.out.bools HSL.out.cap (by omega) HK1.out HK2.out hk3).mono ?_; rintro e w' ⟨rfl, rfl⟩; rw [HPV.out])
              go_roundw
              case rel =>
                have hst2 := HOJ.out.stored px (.int .i64 (q2 + 1))
                refine ⟨j2 + 1, by omega, by go_num, by rw [HT.out, HST2.out]; go_num, ?_, HSJ.out.keep (.setCell _ _ _ _ (by simp)), HRJ.out.keep (.setCell _ _ _ _ (by simp)), HBJ.out.setCell (by simp; omega) _⟩
                rw [HT.out, HST1.out, List.map_set]
                exact hst2.1
              case measure => simp [intOf]; omega
          · obtain rfl : j2 = m := by omega
            have hfin := HOJ.out
            rw [HM.out, List.take_length] at hfin hall ⊢
            have HF := Lib.hid hfin
            clear hfin HOJ HSJ
            go_wp2_with fail
            go_loop [105] (fun i => ∃ j3 : Nat, j3 ≤ N ∧ i = .int .i64 j3) (fun i => N - (intOf i).toNat)
            case atStart => exact ⟨0, Nat.zero_le _, rfl⟩
            case round =>
              obtain ⟨j3, hj3, rfl⟩ := hrel
              by_cases hlt3 : j3 < N
              · obtain ⟨b, off, x, rfl, _, hx, hcell⟩ := HRJ.out.int_at hlt3
                obtain ⟨a, ha, rfl⟩ := nats_at hx
                have hwe := weighs ws K j3 a (by omega) hsum hK2 ha
                have hat := toldP_at (k := bitsOf ws.sum) (i := j3) (allCoins K) (by rw [HW.out]; omega)
                have hcx : wr.cell? ⟨H + 1, j3, none⟩ = some (.int .i64 (((allCoins K).countP (hitP ws.sum (bitsOf ws.sum) fun y => pickOf ws y == j3) : Nat) : Int)) := by
                  rw [HF.out.cellAt j3 (by omega), List.getElem?_map, hat]; rfl
                have hmul : (((allCoins K).countP (hitP ws.sum (bitsOf ws.sum) fun y => pickOf ws y == j3) : Nat) : Int) * (ws.sum : Int) = (allP ws (bitsOf ws.sum) (allCoins K) : Nat) * (a : Int) := by
                  rw [← Int.natCast_mul, ← Int.natCast_mul]; exact congrArg _ hwe
                clear hx ha hwe hat
                generalize allP ws (bitsOf ws.sum) (allCoins K) = q at *
                generalize (allCoins K).countP (hitP ws.sum (bitsOf ws.sum) fun y => pickOf ws y == j3) = q2 at *
                go_wp2_with fail
                go_round
                case rel => exact ⟨j3 + 1, by omega, by go_num⟩
                case measure => simp [intOf]; omega
              · go_wp2_with fail
                go_ret
                exact ⟨rfl, HBJ.out⟩
end Go.Proofs.Ytjeklijkncbaaaa
