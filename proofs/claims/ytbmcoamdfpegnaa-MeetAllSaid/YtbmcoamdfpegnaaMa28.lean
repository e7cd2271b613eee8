/- MkWords -/
import Derived.BigQuiet
import Derived.Deep.CutBlock
import Derived.Deep.QuietTactic
import Derived.Test.YtbmcoamdfpegnaaMa20
import Derived.Test.YtbmcoamdfpegnaaMa22
import Derived.Test.YtbmcoamdfpegnaaMa27
namespace Go.Proofs.Ytbmcoamdfpegnaa
open Go.RowKit Go.Maps
def HdR (w : World) (F : Nat → Prop) (B : Nat) (ws : List (List Int)) : Prop :=
 ∃ vs : List Value, w.heap[B]? = some (.cells vs.toArray 22 (0, 0)) ∧ vs.length = ws.length ∧ ∀ (i : Nat) (l : List Int), ws[i]? = some l → ∃ A c, vs[i]? = some (.slice A l.length c) ∧ l.length ≤ c ∧ Rd w F 1 A l.length (l.map (Value.int .i64))
section
variable {w w' : World} {F X G : Nat → Prop} {B : Nat} {ws : List (List Int)}
theorem HdR.made (w : World) (n : Nat) (F : Nat → Prop) : HdR (w.alloc (.cells (Array.replicate n (Value.slice none 0 0)) 22)) F w.heap.size (List.replicate n []) := by
 refine ⟨List.replicate n (.slice none 0 0), by rw [List.toArray_replicate]; exact heap_alloc_new w _, by simp, fun i l hl => ?_⟩
 rw [List.getElem?_replicate] at hl
 split at hl
 ·
  rename_i hi
  injection hl with hl
  subst hl
  exact ⟨none, 0, by rw [List.getElem?_replicate, if_pos hi]; rfl, Nat.le_refl _, Rd.nil⟩
 ·
  cases hl
theorem HdR.lt (h : HdR w F B ws) : B < w.heap.size := heap_lt h.choose_spec.1
theorem HdR.only (h : HdR w F B ws) (ho : Only w w' X) (hF : ∀ b, F b → ¬ X b) (hB : ¬ X B) : HdR w' F B ws := by
 obtain ⟨vs, h1, h2, h3⟩ := h
 refine ⟨vs, (ho.block B (heap_lt h1) hB).trans h1, h2, fun i l hl => ?_⟩
 obtain ⟨A, c, g1, g2, g3⟩ := h3 i l hl
 exact ⟨A, c, g1, g2, g3.keep (ho.kept hF)⟩
theorem HdR.more (h : HdR w F B ws) (hG : ∀ b, F b → G b) : HdR w G B ws := by
 obtain ⟨vs, h1, h2, h3⟩ := h
 refine ⟨vs, h1, h2, fun i l hl => ?_⟩
 obtain ⟨A, c, g1, g2, g3⟩ := h3 i l hl
 exact ⟨A, c, g1, g2, g3.more hG⟩
theorem HdR.at_ (h : HdR w F B ws) {i : Nat} (hi : i < ws.length) : ∃ A c l, ws[i]? = some l ∧ w.cell? ⟨B, i, none⟩ = some (.slice A l.length c) ∧ w.frozen? ⟨B, i, none⟩ = false ∧ l.length ≤ c ∧ Rd w F 1 A l.length (l.map (Value.int .i64)) := by
 obtain ⟨vs, h1, h2, h3⟩ := h
 obtain ⟨A, c, g1, g2, g3⟩ := h3 i _ (List.getElem?_eq_getElem hi)
 exact ⟨A, c, _, List.getElem?_eq_getElem hi, by rw [cell_of_row _ _ i _ _ _ h1]; simpa using g1, by simp [World.frozen?, h1], g2, g3⟩
theorem HdR.set (h : HdR w F B ws) (hB : ¬ F B) {i : Nat} (hi : i < ws.length) {A : Option Addr} {c : Nat} {l : List Int} (hc : l.length ≤ c) (hr : Rd w F 1 A l.length (l.map (Value.int .i64))) : HdR (w.setCell ⟨B, i, none⟩ (.slice A l.length c)) F B (ws.set i l) := by
 obtain ⟨vs, h1, h2, h3⟩ := h
 have hk : Kept F w (w.setCell ⟨B, i, none⟩ (.slice A l.length c)) := (Only.set w B i _ (X := fun b => b = B) rfl).kept fun b hb e => hB (by rw [← e]; exact hb)
 refine ⟨vs.set i (.slice A l.length c), ?_, by simp [h2], fun j l' hl => ?_⟩
 ·
  have := blk_set h1 i (.slice A l.length c)
  rwa [List.setIfInBounds_toArray] at this
 ·
  by_cases e : i = j
  ·
   subst e
   rw [List.getElem?_set_self hi] at hl
   injection hl with hl
   subst hl
   exact ⟨A, c, List.getElem?_set_self (by omega), hc, hr.keep hk⟩
  ·
   rw [List.getElem?_set_ne e] at hl
   obtain ⟨A', c', g1, g2, g3⟩ := h3 j l' hl
   exact ⟨A', c', by rw [List.getElem?_set_ne e]; exact g1, g2, g3.keep hk⟩
end
structure WMem (w1 wr : World) (BW BK : Nat) (ws : List (List Int)) (ks : List Bool) : Prop where
 hd : HdR wr (fun b => w1.heap.size ≤ b ∧ b < wr.heap.size) BW ws
 kn : BlB wr BK ks
 on : Only w1 wr (fun b => b = BW ∨ b = BK ∨ w1.heap.size ≤ b)
theorem WMem.below {w1 wr w' : World} {BW BK : Nat} {ws : List (List Int)} {ks : List Bool} (h : WMem w1 wr BW BK ws ks) (hb : Below wr.heap.size wr w') : WMem w1 w' BW BK ws ks :=
 ⟨(h.hd.only (X := fun b => wr.heap.size ≤ b) (.of_below hb (Nat.le_refl _) _) (fun b hb => by omega) (by have := h.hd.lt; omega)).more fun b hb' => by have := hb.size; omega, h.kn.below hb, h.on.trans (.of_below hb (Nat.le_refl _) _)⟩
def WordsR (P : List RuleD) (sz : List Int) (N base : Nat) (e : Ending) (w' : World) : Prop := ∃ (BW : Nat) (ws : List (List Int)) (ks : List Bool), e = .returned (.slice (some ⟨BW, 0, none⟩) N N) ∧ base ≤ BW ∧ HdR w' (fun b => base ≤ b) BW ws ∧ WInv P sz N ws ks ∧ ∀ r ∈ P, ClsW sz ks r
theorem wbelowN {B : Nat} {w w' : World} (h : Below B w w') (k : Nat) : Below B w (w'.drewN k) := ⟨h.os, h.tape, h.output, h.size, h.block⟩
theorem all_succ {ks : List Bool} {l : List SymD} {j : Nat} {s : SymD} (h : l[j]? = some s) : (l.take (j + 1)).all (okW ks) = ((l.take j).all (okW ks) && okW ks s) := by
 rw [List.take_add_one, h, List.all_append]
 simp
theorem wdL_len {ws : List (List Int)} : ∀ (l : List SymD), (∀ s ∈ l, (wdS ws s).length ≤ 2000) → (wdL ws l).length ≤ 2000 * l.length
 | [], _ => by simp [wdL_nil]
 | s :: l, h => by
  have h1 := wdL_len l fun x hx => h x (List.mem_cons_of_mem _ hx)
  have h2 := h s List.mem_cons_self
  rw [wdL_cons, List.length_append, List.length_cons]
  omega
theorem WInv.short {P : List RuleD} {sz : List Int} {N : Nat} {ws : List (List Int)} {ks : List Bool} (h : WInv P sz N ws ks) {l : List SymD} (hl : l.all (okW ks) = true) (j : Nat) : (wdL ws (l.take j)).length ≤ 2000 * j := by
 refine Nat.le_trans (wdL_len _ fun s hs => ?_) (Nat.mul_le_mul_left _ (by rw [List.length_take]; omega))
 have h1 := List.all_eq_true.1 hl s (List.mem_of_mem_take hs)
 obtain ⟨b, x⟩ := s
 cases b with
 | true => exact (by decide : 1 ≤ 2000)
 | false =>
  have hk : ks.getD x.toNat false = true := by simpa [okW] using h1
  obtain ⟨_, g2, g3, _⟩ := h.ok _ (getD_true hk)
  show (ws.getD x.toNat []).length ≤ 2000
  omega
set_option linter.unusedSimpArgs false in
set_option maxRecDepth 1000000 in
set_option maxHeartbeats 8000000 in
theorem mkWords (w : World) (S S2 : Nat → Prop) (AR : Option Addr) (nR cR T N st cS BS : Nat) (P : List RuleD) (sz : List Int) (hg : Sl RRule w S AR nR cR P) (hN1 : 1 ≤ N) (hN16 : N ≤ 16000) (hP4 : P.length ≤ 4000) (hr4 : ∀ r ∈ P, r.2.length ≤ 4) (hF : RulesN N P) (hT : ∀ r ∈ P, ∀ s ∈ r.2, s.1 = true → 0 ≤ s.2 ∧ s.2 < 16) (hsz : Rd w S2 1 (some ⟨BS, 0, none⟩) N (sz.map (Value.int .i64))) (_hcS : N ≤ cS) (hS : FinS P sz) :
    Calls Try.prog 35 #[.agg #[.int .i64 (T : Int), .int .i64 (N : Int), .int .i64 (st : Int), .slice AR nR cR], .slice (some ⟨BS, 0, none⟩) N cS] w fun e w' => WordsR P sz N w.heap.size e w' ∧ Below w.heap.size w w' := by
 have hnR : nR = P.length := hg.len
 have hszl : sz.length = N := by have := hsz.1; simpa using this
 obtain ⟨w0, hw0⟩ : ∃ w0 : World, w0 = w.alloc (.cells #[.int .i64 (T : Int), .int .i64 (N : Int), .int .i64 (st : Int), .slice AR nR cR] 25) := ⟨_, rfl⟩
 have hz0 : w0.heap.size = w.heap.size + 1 := by rw [hw0]; simp
 have hb0 : Below w.heap.size w w0 := by rw [hw0]; exact (Below.refl _ _).alloc (Nat.le_refl _) _
 have b0 : w0.heap[w.heap.size]? = some (.cells #[.int .i64 (T : Int), .int .i64 (N : Int), .int .i64 (st : Int), .slice AR nR cR] 25 (0, 0)) := by rw [hw0]; exact heap_alloc_new _ _
 have HB0 := Lib.hid hb0
 have HG := Lib.hid hg.fit
 have HF := Lib.hid hF
 have HT := Lib.hid hT
 have HR4 := Lib.hid hr4
 have HNR := Lib.hid hnR
 have hnR4 : nR ≤ 4000 := by omega
 have HZ0 := Lib.hid hz0
 have HS := Lib.hid hS
 have HSZL := Lib.hid hszl
 have HSZ := Lib.hid (show ∀ u : World, Below w.heap.size w u → ∀ a : Nat, a < N → ∃ x : Int, sz[a]? = some x ∧ x = sz.getD a farZ ∧ (0 ≤ x ∧ x ≤ 1099511627776) ∧ u.cell? ⟨BS, a, none⟩ = some (.int .i64 x) from fun u hu a ha => by
  obtain ⟨b, off, x, e, _, hx, hc⟩ := hsz.int_at ha
  injection e with e
  injection e with e1 e2
  subst e1
  subst e2
  rw [Nat.zero_add] at hc
  exact ⟨x, hx, by rw [List.getD_eq_getElem?_getD, hx]; rfl, hS.rng x (List.mem_of_getElem? hx), (hu.cell (cell_lt hc)).trans hc⟩)
 have HALL := Lib.hid (show ∀ u : World, Below w0.heap.size w0 u → (u.cell? ⟨w.heap.size, 1, none⟩ = some (.int .i64 (N : Int)) ∧ u.cell? ⟨w.heap.size, 3, none⟩ = some (.slice AR nR cR)) ∧ Below w.heap.size w u from fun u hu => by
  have e1 := (hu.block _ (by omega)).trans b0
  exact ⟨⟨by simp [World.cell?, e1], by simp [World.cell?, e1]⟩, hb0.trans (hu.mono (by omega))⟩)
 have x1 := (HALL.out w0 (Below.refl _ _)).1.1
 have x1' := fun o => (HALL.out (w0.alloc o) ((Below.refl _ _).alloc (Nat.le_refl _) o)).1.1
 rw [hw0] at x1 x1'
 have HW0 := Lib.hid hw0
 have hbt : ∀ u : World, (Instr.makeSlice 45 (.int .i64 (N : Int)) (.int .i64 (N : Int))).run Try.prog u = .ok (.slice (some ⟨u.heap.size, 0, none⟩) N N) (u.alloc (.cells (Array.replicate N (Value.bool false)) 4)) := fun u => by
  have hmk := tBools.make rfl N (by omega) (by omega) u
  simp only [made_boolsA] at hmk
  exact hmk
 have hit : ∀ u : World, (Instr.makeSlice 26 (.int .i64 (N : Int)) (.int .i64 (N : Int))).run Try.prog u = .ok (.slice (some ⟨u.heap.size, 0, none⟩) N N) (u.alloc (.cells (Array.replicate N (Value.slice none 0 0)) 22)) := fun u => by
  have hmk := tIntss.make rfl N (by omega) (by omega) u
  simp only [made_rowsA] at hmk
  exact hmk
 have hN0 : (0 : Int) ≤ (N : Int) := by omega
 have HQ1 := Lib.hid (show HdR ((w0.alloc (.cells (Array.replicate N (Value.slice none 0 0)) 22)).alloc (.cells (Array.replicate N (Value.bool false)) 4)) (fun _ => False) w0.heap.size (List.replicate N []) ∧ BlB ((w0.alloc (.cells (Array.replicate N (Value.slice none 0 0)) 22)).alloc (.cells (Array.replicate N (Value.bool false)) 4)) (w0.heap.size + 1) (List.replicate N false) ∧ Below w0.heap.size w0 ((w0.alloc (.cells (Array.replicate N (Value.slice none 0 0)) 22)).alloc (.cells (Array.replicate N (Value.bool false)) 4)) from by
  have h2 := BlB.made (w0.alloc (.cells (Array.replicate N (Value.slice none 0 0)) 22)) N
  rw [World.size_alloc] at h2
  exact ⟨(HdR.made w0 N _).only (X := fun b => w0.heap.size + 1 ≤ b) (.of_below ((Below.refl _ _).alloc (Nat.le_refl _) _) (Nat.le_refl _) _) (fun _ h => h.elim) (by omega), h2, ((Below.refl _ _).alloc (Nat.le_refl _) _).alloc (by simp) _⟩)
 have HQ2 := Lib.hid (show HdR ((w0.alloc (.cells (Array.replicate N (Value.bool false)) 4)).alloc (.cells (Array.replicate N (Value.slice none 0 0)) 22)) (fun _ => False) (w0.heap.size + 1) (List.replicate N []) ∧ BlB ((w0.alloc (.cells (Array.replicate N (Value.bool false)) 4)).alloc (.cells (Array.replicate N (Value.slice none 0 0)) 22)) w0.heap.size (List.replicate N false) ∧ Below w0.heap.size w0 ((w0.alloc (.cells (Array.replicate N (Value.bool false)) 4)).alloc (.cells (Array.replicate N (Value.slice none 0 0)) 22)) from by
  have h2 := HdR.made (w0.alloc (.cells (Array.replicate N (Value.bool false)) 4)) N (fun _ => False)
  rw [World.size_alloc] at h2
  exact ⟨h2, (BlB.made w0 N).below ((Below.refl _ _).alloc (Nat.le_refl _) _), ((Below.refl _ _).alloc (Nat.le_refl _) _).alloc (by simp) _⟩)
 clear hb0 b0 hg hF hT hr4 hnR hP4 hz0 hsz hszl hS hw0
 go_enter Try.func35, Try.ntmps35
 go_upto_region 1 with fail
 go_cut [5, 6] from 17 to 22 (fun v5 v6 wx => ∃ BW BK : Nat, v5 = .slice (some ⟨BW, 0, none⟩) N N ∧ v6 = .slice (some ⟨BK, 0, none⟩) N N ∧ BW ≠ BK ∧ w0.heap.size ≤ BW ∧ w0.heap.size ≤ BK ∧ HdR wx (fun _ => False) BW (List.replicate N []) ∧ BlB wx BK (List.replicate N false) ∧ Below w0.heap.size w0 wx)
 case first =>
  go_region_law (fail)
  all_goals (go_wp2_with fail; go_meet; rw [← HW0.out])
  all_goals first | exact ⟨w0.heap.size, w0.heap.size + 1, by rw [HZ0.out], by rw [HZ0.out], by omega, Nat.le_refl _, by omega, HQ1.out.1, HQ1.out.2.1, HQ1.out.2.2.drew⟩ | exact ⟨w0.heap.size + 1, w0.heap.size, by rw [HZ0.out], by rw [HZ0.out], by omega, by omega, Nat.le_refl _, HQ2.out.1, HQ2.out.2.1, HQ2.out.2.2.drew⟩
 case rest =>
  obtain ⟨BW, BK, rfl, rfl, hne, hBW, hBK, hw, hk, hb⟩ := hcut
  obtain ⟨w1, rfl⟩ : ∃ w1 : World, w1 = wc := ⟨_, rfl⟩
  clear x1 x1' hbt hit HQ1 HQ2 hN0
  have HB01 := Lib.hid hb
  have hlW := hw.lt
  have hlK := heap_lt hk
  have HKB := Lib.hid (show BW ≠ BK ∧ w0.heap.size ≤ BW ∧ w0.heap.size ≤ BK ∧ BW < w1.heap.size ∧ BK < w1.heap.size from ⟨hne, hBW, hBK, hlW, hlK⟩)
  have HM0 := Lib.hid (show WMem w1 w1 BW BK (List.replicate N []) (List.replicate N false) from ⟨hw.more fun _ h => h.elim, hk, .refl _ _⟩)
  have HK4 := Lib.hid (show ∀ u : World, Only w1 u (fun b => b = BW ∨ b = BK ∨ w1.heap.size ≤ b) → u.cell? ⟨w.heap.size, 3, none⟩ = some (.slice AR nR cR) ∧ Below w.heap.size w u from fun u hu => by
   have h1 := HKB.out
   obtain ⟨⟨_, x2⟩, x3⟩ := HALL.out u (hb.trans (hu.below (B := w0.heap.size) (fun b e => by omega) (by omega)))
   exact ⟨x2, x3⟩)
  clear hw hk hb hne hBW hBK hlW hlK
  go_wp2_with fail
  go_loopg [7] (wMea (List.replicate N []) (List.replicate N false) + 1) (fun gk v7 wr => ∃ (ag : Bool) (ws : List (List Int)) (ks : List Bool), v7 = .bool ag ∧ gk = wMea ws ks + (if ag then 1 else 0) ∧ WInv P sz N ws ks ∧ (ag = false → ∀ r ∈ P, ClsW sz ks r) ∧ WMem w1 wr BW BK ws ks)
  case atStart => exact ⟨true, _, _, rfl, rfl, WInv.start P sz N, fun e => by (first | cases e | exact e.elim), HM0.out⟩
  case round =>
   obtain ⟨ag, ws0, ks0, rfl, hgk, hinv, hcl, hm⟩ := hrel
   obtain ⟨w2, rfl⟩ : ∃ w2 : World, w2 = wr := ⟨_, rfl⟩
   have HGK := Lib.hid hgk
   have HI := Lib.hid hinv
   have HCL := Lib.hid hcl
   have HM := Lib.hid hm
   have hk3 := (HK4.out w2 hm.on).1
   clear hgk hinv hcl hm HM0
   cases ag with
   | false =>
    clear hk3
    go_wp2_with fail
    go_ret
    have h1 := HKB.out
    have h2 := HZ0.out
    exact ⟨⟨BW, ws0, ks0, rfl, by omega, HM.out.hd.more fun b hb => by omega, HI.out, by first | exact HCL.out rfl | exact HCL.out trivial⟩, (HK4.out w2 HM.out.on).2⟩
   | true =>
    go_wp2_with fail
    clear hk3
    go_loopg [7, 27] nR (fun gi v7 v27 wr => ∃ (k : Nat) (ag : Bool) (ws : List (List Int)) (ks : List Bool), k ≤ nR ∧ gi = nR - k ∧ v27 = .int .i64 k ∧ v7 = .bool ag ∧ WRd P sz N ws0 ks0 ag k ws ks ∧ WMem w1 wr BW BK ws ks)
    case atStart => exact ⟨0, false, ws0, ks0, Nat.zero_le _, rfl, rfl, rfl, ⟨HI.out, (fun e => by (first | cases e | exact e.elim)), fun _ => ⟨rfl, rfl, fun i r h => absurd h (by omega)⟩⟩, HM.out⟩
    case round =>
     obtain ⟨k, ag, ws, ks, hk, hgi, rfl, rfl, hrd, hm⟩ := hrel
     obtain ⟨w3, rfl⟩ : ∃ w3 : World, w3 = wr := ⟨_, rfl⟩
     have HGI := Lib.hid hgi
     have HRD := Lib.hid hrd
     have HM3 := Lib.hid hm
     clear hgi
     by_cases hkl : k < nR
     ·
      have hkI : (k : Int) < (nR : Int) := by omega
      have hk0 : (0 : Int) ≤ (k : Int) := by omega
      obtain ⟨bl, ol, u1, u2, r, rfl, _, hrs, hok, hc1, hc2⟩ := HG.out.at2 (k := k) rfl hkl
      obtain ⟨A2, m, c2, h2, hsl⟩ := RRule.cells.1 hok
      injection h2 with e1 h2
      injection h2 with e2 _
      subst e1
      subst e2
      have hc2 : w.cell? ⟨bl, ol + k * 2 + 1, none⟩ = some (.slice A2 m c2) := hc2
      have hbw := (HK4.out w3 hm.on).2
      have hmem := List.mem_of_getElem? hrs
      obtain ⟨hl0, hl1⟩ := (HF.out r hmem).1
      obtain ⟨a, ha⟩ : ∃ a : Nat, r.1 = (a : Int) := ⟨r.1.toNat, by omega⟩
      rw [ha] at hc1
      have hc1 := (hbw.cell (cell_lt hc1)).trans hc1
      have hc2 := (hbw.cell (cell_lt hc2)).trans hc2
      have hm4 : m ≤ 4 := by rw [hsl.len]; exact HR4.out r hmem
      have haN : a < N := by omega
      have HRS := Lib.hid hrs
      have HRA := Lib.hid ha
      have HSL := Lib.hid hsl.fit
      obtain ⟨xa, hxa, hxg, ⟨hx0, hx1⟩, hxc⟩ := HSZ.out w3 hbw a haN
      have HXG := Lib.hid hxg
      have ha0 : (0 : Int) ≤ (a : Int) := by omega
      have haI : (a : Int) < (N : Int) := by omega
      clear hok hsl hrs hmem hl0 hl1 ha hrd hm hbw hxa hxg
      obtain ⟨w4, hw4⟩ : ∃ w4 : World, w4 = w3.alloc (.cells #[.int .i64 (a : Int), .slice A2 m c2] 40) := ⟨_, rfl⟩
      have hb34 : Below w3.heap.size w3 w4 := by rw [hw4]; exact (Below.refl _ _).alloc (Nat.le_refl _) _
      have HBX := Lib.hid (show w4.heap[w3.heap.size]? = some (.cells #[.int .i64 (a : Int), .slice A2 m c2] 40 (0, 0)) by rw [hw4]; exact heap_alloc_new _ _)
      have HM4 := Lib.hid (HM3.out.below hb34)
      have HB34 := Lib.hid hb34
      have HW4 := Lib.hid hw4
      have hls := cell_lt hxc
      clear hb34 hw4
      by_cases hbig : 2000 < xa
      ·
       have HC := Lib.hid (show ClsW sz ks r from fun h => by rw [HRA.out, Int.toNat_natCast, ← HXG.out] at h; omega)
       go_wp2_with fail
       rw [← HW4.out]
       go_roundg (nR - (k + 1))
       case measure => rw [HGI.out]; omega
       case rel => exact ⟨k + 1, ag, ws, ks, by omega, rfl, by go_num, rfl, HRD.out.skip HRS.out HC.out, HM4.out⟩
      ·
       --@6
       go_wp2_with fail
       rw [← HW4.out]
       clear hc1 hc2 hxc
       have HRG := Lib.hid HS.out.rng
       have HX := Lib.hid (And.intro hx0 (And.intro hx1 hbig))
       clear hx0 hx1 hbig hls
       go_loopg [10, 11, 40] m (fun gj v10 v11 v40 wx => ∃ (j : Nat) (x : Int) (ok : Bool), j ≤ m ∧ gj = m - j ∧ v40 = .int .i64 j ∧ v10 = .int .i64 x ∧ v11 = .bool ok ∧ x = (r.2.take j).foldl (addS sz) 0 ∧ ok = (r.2.take j).all (okW ks) ∧ Below w4.heap.size w4 wx)
       case atStart => exact ⟨0, 0, true, Nat.zero_le _, rfl, rfl, rfl, rfl, rfl, rfl, .refl _ _⟩
       case round =>
        obtain ⟨j, nv, ok, hj, hgj, rfl, rfl, rfl, hnv, hov, hb45⟩ := hrel
        obtain ⟨w5, rfl⟩ : ∃ w5 : World, w5 = wr := ⟨_, rfl⟩
        have HGJ := Lib.hid hgj
        have HNV := Lib.hid hnv
        have HOV := Lib.hid hov
        have hnvr : 0 ≤ nv ∧ nv ≤ 1099511627780 := by rw [hnv]; exact foldS_rng HRG.out r.2 (by rw [← HSL.out.len]; exact hm4) j
        obtain ⟨hnv0, hnv1⟩ := hnvr
        have HB45 := Lib.hid hb45
        have HB35 := Lib.hid (HB34.out.trans (hb45.mono HB34.out.size))
        clear hgj hnv hov hb45
        by_cases hjl : j < m
        ·
         have hjI : (j : Int) < (m : Int) := by omega
         have hj0 : (0 : Int) ≤ (j : Int) := by omega
         have hbw : Below w.heap.size w w5 := (HK4.out w3 HM3.out.on).2.trans (HB35.out.mono (HK4.out w3 HM3.out.on).2.size)
         obtain ⟨bs, os, u1, u2, s, rfl, _, hls, hok, hc1, hc2⟩ := (HSL.out.below hbw).at2 (k := j) rfl hjl
         have h2 := RSym.cells.1 hok
         injection h2 with e1 h2
         injection h2 with e2 _
         subst e1
         subst e2
         obtain ⟨tb, sx⟩ := s
         have hc1 : w5.cell? ⟨bs, os + j * 2, none⟩ = some (.bool tb) := hc1
         have hc2 : w5.cell? ⟨bs, os + j * 2 + 1, none⟩ = some (.int .i64 sx) := hc2
         have hsN := (HF.out r (List.mem_of_getElem? HRS.out)).2 (tb, sx) (List.mem_of_getElem? hls)
         have hfs := foldS_succ (o := sz) hls
         have hos := all_succ (ks := ks) hls
         rw [← HNV.out] at hfs
         rw [← HOV.out] at hos
         cases tb with
         | true =>
          rw [addS_term] at hfs
          have HFS := Lib.hid hfs
          have HOS := Lib.hid (show (r.2.take (j + 1)).all (okW ks) = ok by rw [hos]; exact Bool.and_true ok)
          have hwrap : IntKind.i64.wrap (nv + 1) = nv + 1 := IntWalk.i64_in _ (by omega)
          clear hok hls hbw hsN hfs hos
          go_wp2_with fail
          go_roundg (m - (j + 1))
          case measure => rw [HGJ.out]; omega
          case rel => exact ⟨j + 1, _, ok, by omega, rfl, by go_num, rfl, rfl, HFS.out.symm, HOS.out.symm, HB45.out.alloc HB45.out.size _⟩
         | false =>
          obtain ⟨hs0, hs1⟩ := hsN rfl
          obtain ⟨b, rfl⟩ : ∃ b : Nat, sx = (b : Int) := ⟨sx.toNat, by simp only at hs0; omega⟩
          have hbN : b < N := by simp only at hs1; omega
          obtain ⟨ov, hov, hovg, ⟨ho0, ho1⟩, hoc⟩ := HSZ.out w5 hbw b hbN
          rw [addS_non, Int.toNat_natCast, ← hovg] at hfs
          obtain ⟨kb, hkb, hkc, _⟩ := (HM3.out.below HB35.out).kn.at_ (i := b) (by rw [HRD.out.inv.lk]; exact hbN)
          have hkg : ks.getD b false = kb := by rw [List.getD_eq_getElem?_getD, hkb]; rfl
          have HFS := Lib.hid (show (r.2.take (j + 1)).foldl (addS sz) 0 = min (nv + ov) 1099511627776 from hfs)
          have HOS := Lib.hid (show (r.2.take (j + 1)).all (okW ks) = (ok && kb) by rw [hos]; show (ok && (false || ks.getD (b : Int).toNat false)) = _; rw [Int.toNat_natCast, hkg]; rfl)
          have hwrap : IntKind.i64.wrap (nv + ov) = nv + ov := IntWalk.i64_in _ (by omega)
          have hb0 : (0 : Int) ≤ (b : Int) := by omega
          have hbI : (b : Int) < (N : Int) := by omega
          have hlo := cell_lt hoc
          have hlk := cell_lt hkc
          clear hok hls hbw hsN hfs hos hs0 hs1 hov hovg hkb hkg
          cases ok with
          | true =>
           go_wp2_with fail
           go_quiet (fail)
           go_wp2_with fail
           go_roundg (m - (j + 1))
           case measure => rw [HGJ.out]; omega
           case rel => exact ⟨j + 1, _, kb, by omega, rfl, by go_num, rfl, rfl, HFS.out.symm, by rw [HOS.out]; rfl, wbelowN (HB45.out.alloc HB45.out.size _) _⟩
          | false =>
           go_wp2_with fail
           go_quiet (fail)
           go_wp2_with fail
           go_roundg (m - (j + 1))
           case measure => rw [HGJ.out]; omega
           case rel => exact ⟨j + 1, _, false, by omega, rfl, by go_num, rfl, rfl, HFS.out.symm, by rw [HOS.out]; rfl, wbelowN (HB45.out.alloc HB45.out.size _) _⟩
        ·
         obtain rfl : j = m := by omega
         obtain ⟨hx0, hx1, hbig⟩ := HX.out
         have hsum : sumS sz r.2 = nv := by rw [HNV.out, HSL.out.len, List.take_length]; rfl
         have hall : r.2.all (okW ks) = ok := by rw [HOV.out, HSL.out.len, List.take_length]
         have HSUM := Lib.hid hsum
         have HALLW := Lib.hid hall
         have hbw : Below w.heap.size w w5 := (HK4.out w3 HM3.out.on).2.trans (HB35.out.mono (HK4.out w3 HM3.out.on).2.size)
         obtain ⟨xb, hxb, hxbg, _, hxc⟩ := HSZ.out w5 hbw a haN
         obtain rfl : xb = xa := by rw [hxbg, HXG.out]
         have hls := cell_lt hxc
         have hbx := (HB45.out.block _ (heap_lt HBX.out)).trans HBX.out
         obtain ⟨z0, z1⟩ : w5.cell? ⟨w3.heap.size, 0, none⟩ = some (.int .i64 (a : Int)) ∧ w5.cell? ⟨w3.heap.size, 1, none⟩ = some (.slice A2 j c2) := ⟨by simp [World.cell?, hbx], by simp [World.cell?, hbx]⟩
         have HBX5 := Lib.hid hbx
         have HM5 := Lib.hid (HM3.out.below HB35.out)
         clear hsum hall hbw hxb hxbg hbx
         cases ok with
         | false =>
          have HC := Lib.hid (show ClsW sz ks r from fun _ h => by rw [HALLW.out] at h; cases h)
          clear z0 z1 hxc
          go_wp2_with fail
          go_roundg (nR - (k + 1))
          case measure => rw [HGI.out]; omega
          case rel => exact ⟨k + 1, ag, ws, ks, by omega, rfl, by go_num, rfl, HRD.out.skip HRS.out HC.out, HM5.out⟩
         | true =>
          by_cases hne : nv = xb
          ·
           subst hne
           have hn0 : nv = nv := rfl
           go_wp2_with fail
           clear z0 z1 hxc hn0
           have HSH := Lib.hid (HRD.out.inv.short HALLW.out)
           have HO0 := Lib.hid (Own.nil w5 w5.heap.size 3 1 none)
           have HNVX := Lib.hid hbig
           clear hbig hnv0 hnv1 hx0 hx1 hls
           go_loopg [14, 79] j (fun gq v14 v79 wx => ∃ (q : Nat), q ≤ j ∧ gq = j - q ∧ v79 = .int .i64 q ∧ Own wx w5.heap.size 3 1 v14 (wdL ws (r.2.take q)).length ((wdL ws (r.2.take q)).map (Value.int .i64)) ∧ Below w5.heap.size w5 wx)
           case atStart => exact ⟨0, Nat.zero_le _, rfl, rfl, HO0.out, .refl _ _⟩
           case round =>
            obtain ⟨q, hq, hgq, rfl, hown, hb56⟩ := hrel
            obtain ⟨w6, rfl⟩ : ∃ w6 : World, w6 = wr := ⟨_, rfl⟩
            obtain ⟨A4, c4, rfl, hc4, _⟩ := hown.form
            have HGQ := Lib.hid hgq
            have HOW := Lib.hid hown
            have HB56 := Lib.hid hb56
            have HB36 := Lib.hid (HB35.out.trans (hb56.mono HB35.out.size))
            have hlen : (wdL ws (r.2.take q)).length ≤ 2000 * q := HSH.out q
            obtain ⟨n4, hn4⟩ : ∃ n4, n4 = (wdL ws (r.2.take q)).length := ⟨_, rfl⟩
            rw [← hn4] at hlen HOW hc4 ⊢
            have HN4 := Lib.hid hn4
            clear hgq hown hb56 hn4
            by_cases hql : q < j
            ·
             have hqI : (q : Int) < (j : Int) := by omega
             have hq0 : (0 : Int) ≤ (q : Int) := by omega
             have hbw : Below w.heap.size w w6 := (HK4.out w3 HM3.out.on).2.trans (HB36.out.mono (HK4.out w3 HM3.out.on).2.size)
             obtain ⟨bs, os, u1, u2, s, rfl, _, hls, hok, hc1, hc2⟩ := (HSL.out.below hbw).at2 (k := q) rfl hql
             have h2 := RSym.cells.1 hok
             injection h2 with e1 h2
             injection h2 with e2 _
             subst e1
             subst e2
             obtain ⟨tb, sx⟩ := s
             have hc1 : w6.cell? ⟨bs, os + q * 2, none⟩ = some (.bool tb) := hc1
             have hc2 : w6.cell? ⟨bs, os + q * 2 + 1, none⟩ = some (.int .i64 sx) := hc2
             have hsN := (HF.out r (List.mem_of_getElem? HRS.out)).2 (tb, sx) (List.mem_of_getElem? hls)
             have hws := wdL_succ (ws := ws) hls
             have hlen2 : (wdL ws (r.2.take (q + 1))).length ≤ 2000 * (q + 1) := HSH.out (q + 1)
             cases tb with
             | true =>
              have hws : wdL ws (r.2.take (q + 1)) = wdL ws (r.2.take q) ++ [sx] := hws
              obtain ⟨v7, w7, hrun, ho7, hg7, _⟩ := run_append_Own tInts ((w6.alloc (.cells #[.bool true, .int .i64 sx] 42)).alloc (.cells #[.int .i64 sx] 3)) 22 w5.heap.size (.slice A4 n4 c4) n4 _ ((HOW.out.alloc _).alloc _) (fun _ => True) (some ⟨w6.heap.size + 1, 0, none⟩) 1 1 [.int .i64 sx]
               (Rd.new (w6.alloc (.cells #[.bool true, .int .i64 sx] 42)) _ _ [.int .i64 sx] (w6.heap.size + 1) (by simp) trivial) (by intro u hu; obtain rfl := List.mem_singleton.1 hu; rfl) (by unfold maxLen; omega) (by omega) (by have := HB56.out.size; simp; omega)
              obtain ⟨A7, c7, rfl, _, _⟩ := ho7.form
              have hb67 : Below w5.heap.size w6 w7 := Below.own (((Below.refl w5.heap.size w6).alloc HB56.out.size _).alloc (by have := HB56.out.size; simp; omega) _) ((HOW.out.alloc _).alloc _) hg7 (Nat.le_refl _) (by have := HB56.out.size; simp; omega)
              have HRUN := Lib.hid hrun
              have HO7 := Lib.hid (show Own w7 w5.heap.size 3 1 (.slice A7 (n4 + 1) c7) (wdL ws (r.2.take (q + 1))).length ((wdL ws (r.2.take (q + 1))).map (Value.int .i64)) by rw [hws, List.length_append, ← HN4.out, List.map_append]; exact ho7)
              have HB57 := Lib.hid (HB56.out.trans hb67)
              clear hok hls hbw hsN hws hrun ho7 hg7 hb67 hlen2
              go_wp2_with (at_builtin; refine Lib.wpList_append_run _ rfl _ _ _ _ rfl _ _ rfl rfl _ _ HRUN.out ?_)
              go_roundg (j - (q + 1))
              case measure => rw [HGQ.out]; omega
              case rel => exact ⟨q + 1, by omega, rfl, by go_num, HO7.out, HB57.out⟩
             | false =>
              obtain ⟨hs0, hs1⟩ := hsN rfl
              obtain ⟨b, rfl⟩ : ∃ b : Nat, sx = (b : Int) := ⟨sx.toNat, by simp only at hs0; omega⟩
              have hbN : b < N := by simp only at hs1; omega
              have hm7 := (HM3.out.below HB36.out).below (show Below w6.heap.size w6 (w6.alloc (.cells #[.bool false, .int .i64 (b : Int)] 42)) from (Below.refl _ _).alloc (Nat.le_refl _) _)
              obtain ⟨Ab, cb, lb, hlb, hcb, _, _, hrb⟩ := hm7.hd.at_ (i := b) (by rw [HRD.out.inv.lw]; exact hbN)
              have hlo : BW < w6.heap.size := by have h1 := HKB.out; have h2 := HM3.out.on.size; have h3 := HB36.out.size; omega
              have hws : wdL ws (r.2.take (q + 1)) = wdL ws (r.2.take q) ++ lb := by
               rw [hws]
               show _ ++ ws.getD (b : Int).toNat [] = _
               rw [Int.toNat_natCast, List.getD_eq_getElem?_getD, hlb]
               rfl
              have hlb4 : n4 + lb.length ≤ 10000 := by
               rw [hws, List.length_append, ← HN4.out] at hlen2
               omega
              obtain ⟨nb, hnb⟩ : ∃ nb, nb = lb.length := ⟨_, rfl⟩
              rw [← hnb] at hcb hrb hlb4
              obtain ⟨v7, w7, hrun, ho7, hg7, _⟩ := run_append_Own tInts (w6.alloc (.cells #[.bool false, .int .i64 (b : Int)] 42)) 22 w5.heap.size (.slice A4 n4 c4) n4 _ (HOW.out.alloc _) _ Ab nb cb _ hrb (by intro u hu; obtain ⟨_, _, rfl⟩ := List.mem_map.1 hu; rfl) (by unfold maxLen; omega) (by omega) (by have := HB56.out.size; simp; omega)
              obtain ⟨A7, c7, rfl, _, _⟩ := ho7.form
              have hb67 : Below w5.heap.size w6 w7 := Below.own ((Below.refl w5.heap.size w6).alloc HB56.out.size _) (HOW.out.alloc _) hg7 (Nat.le_refl _) (by have := HB56.out.size; simp; omega)
              have HRUN := Lib.hid hrun
              have HO7 := Lib.hid (show Own w7 w5.heap.size 3 1 (.slice A7 (n4 + nb) c7) (wdL ws (r.2.take (q + 1))).length ((wdL ws (r.2.take (q + 1))).map (Value.int .i64)) by rw [hws, List.length_append, ← HN4.out, ← hnb, List.map_append]; exact ho7)
              have HB57 := Lib.hid (HB56.out.trans hb67)
              have hb0 : (0 : Int) ≤ (b : Int) := by omega
              have hbI : (b : Int) < (N : Int) := by omega
              clear hok hls hbw hsN hws hrun ho7 hg7 hb67 hlen2 hs0 hs1 hm7 hlb hrb hnb
              go_wp2_with (at_builtin; refine Lib.wpList_append_run _ rfl _ _ _ _ rfl _ _ rfl rfl _ _ HRUN.out ?_)
              go_roundg (j - (q + 1))
              case measure => rw [HGQ.out]; omega
              case rel => exact ⟨q + 1, by omega, rfl, by go_num, HO7.out, HB57.out⟩
            ·
             obtain rfl : q = j := by omega
             have hwd : wdL ws (r.2.take q) = wdL ws r.2 := by rw [HSL.out.len, List.take_length]
             rw [hwd] at HOW HN4
             have hm6 := HM3.out.below HB36.out
             have hbx := (HB56.out.block _ (heap_lt HBX5.out)).trans HBX5.out
             have z0 : w6.cell? ⟨w3.heap.size, 0, none⟩ = some (.int .i64 (a : Int)) := by simp [World.cell?, hbx]
             obtain ⟨ka, hka, hkc, hkf⟩ := hm6.kn.at_ (i := a) (by rw [HRD.out.inv.lk]; exact haN)
             obtain ⟨Aa, ca, la, hla, hac, haf, hca, hra⟩ := hm6.hd.at_ (i := a) (by rw [HRD.out.inv.lw]; exact haN)
             have hga : ws.getD a [] = la := by rw [List.getD_eq_getElem?_getD, hla]; rfl
             have hlW : BW < w6.heap.size ∧ BK < w6.heap.size := by have h1 := HKB.out; have h2 := HM3.out.on.size; have h3 := HB36.out.size; omega
             obtain ⟨hlW, hlK⟩ := hlW
             have HM6 := Lib.hid hm6
             have HBX6 := Lib.hid hbx
             have hcmp : Calls Try.prog 51 #[.slice A4 n4 c4, .slice Aa la.length ca] w6 fun e w' => e = .returned (.int .i64 (cmpL (wdL ws r.2) la)) ∧ w6 = w' := compareInt A4 Aa n4 c4 la.length ca _ _ _ _ w6 HOW.out.rd hra (by omega)
             obtain ⟨cv, hcv⟩ : ∃ cv, cv = cmpL (wdL ws r.2) la := ⟨_, rfl⟩
             rw [← hcv] at hcmp
             have HCMP := Lib.hid hcmp
             obtain ⟨na, hna⟩ : ∃ na, na = la.length := ⟨_, rfl⟩
             rw [← hna] at hac HCMP
             have HKW := Lib.hid (show ∀ u : World, Only w6 u (fun b => b = BW) → u.cell? ⟨w3.heap.size, 0, none⟩ = some (.int .i64 (a : Int)) ∧ u.cell? ⟨BK, a, none⟩ = some (.bool ka) ∧ u.frozen? ⟨BK, a, none⟩ = false from fun u hu => by
              have h1 := HKB.out
              have h4 := HM3.out.on.size
              have h2 := hu.block w3.heap.size (heap_lt hbx) (by omega)
              have h3 := hu.block BK hlK (by omega)
              have h5 : u.frozen? ⟨BK, a, none⟩ = w6.frozen? ⟨BK, a, none⟩ := by simp [World.frozen?, h3]
              exact ⟨by rw [World.cell?_of_block h2]; exact z0, by rw [World.cell?_of_block h3]; exact hkc, by rw [h5]; exact hkf⟩)
             have HFW := Lib.hid haf
             have HACW := Lib.hid hac
             have HSN := Lib.hid (show (∀ s ∈ r.2, s.1 = false → 0 ≤ s.2) ∧ ∀ s ∈ r.2, s.1 = true → 0 ≤ s.2 ∧ s.2 < 16 from ⟨fun s hs h => ((HF.out r (List.mem_of_getElem? HRS.out)).2 s hs h).1, HT.out r (List.mem_of_getElem? HRS.out)⟩)
             have HGO := Lib.hid (show (ks[a]? = some true → cmpL (wdL ws r.2) (ws.getD a []) < 0) → ∀ u : World, Only w6 u (fun _ => False) → WRd P sz N ws0 ks0 true (k + 1) (ws.set a (wdL ws r.2)) (ks.set a true) ∧ WMem w1 ((u.setCell ⟨BW, a, none⟩ (.slice A4 n4 c4)).setCell ⟨BK, a, none⟩ (.bool true)) BW BK (ws.set a (wdL ws r.2)) (ks.set a true) from fun hb u hu => by
              obtain ⟨i1, i2⟩ := HRD.out.inv.better HS.out.rng (List.mem_of_getElem? HRS.out) HRA.out haN HSN.out.1 HSN.out.2 HALLW.out (by rw [← HXG.out]; have := HNVX.out; omega) (by rw [HSUM.out, HXG.out]) hb
              refine ⟨HRD.out.better i1 i2, ?_⟩
              have h1 := HKB.out
              have h4 := HM3.out.on.size
              have hu6 : Only w6 u (fun b => b = BW ∨ b = BK ∨ w1.heap.size ≤ b) := hu.more fun _ _ h => h.elim
              have hhd : HdR u (fun b => w1.heap.size ≤ b ∧ b < w6.heap.size) BW ws := HM6.out.hd.only hu (fun _ _ h => h) id
              have hro : Rd u (fun b => w1.heap.size ≤ b ∧ b < w6.heap.size) 1 A4 n4 ((wdL ws r.2).map (Value.int .i64)) := by
               have h5 := HOW.out.rd.fit (by decide)
               refine (h5.keep (hu.kept fun _ _ h => h)).more fun b hb => ?_
               have h6 := HB36.out.size
               have h7 := HB35.out.size
               omega
              rw [HN4.out] at hro ⊢
              have hhd2 := hhd.set (fun h => by omega) (i := a) (by rw [HRD.out.inv.lw]; exact haN) (by rw [← HN4.out]; exact hc4) hro
              refine ⟨(hhd2.only (X := fun b => b = BK) (.set _ _ _ _ rfl) (fun b hb e => by omega) (by omega)).more fun b hb => ?_, ?_, ?_⟩
              ·
               have := hu.size
               simp only [World.size_setCell]
               omega
              ·
               have h8 : BlB (u.setCell ⟨BW, a, none⟩ (.slice A4 (wdL ws r.2).length c4)) BK ks := by
                refine Eq.trans ?_ HM6.out.kn
                rw [Below.heap_setCell _ _ _ _ (by show BK ≠ BW; omega)]
                exact hu.block BK hlK (fun h => h)
               exact h8.set a true
              ·
               exact HM6.out.on.trans (hu6.trans ((Only.set _ _ _ _ (.inl rfl)).trans (Only.set _ _ _ _ (.inr (.inl rfl))))))
             have HKA := Lib.hid hka
             have HGA := Lib.hid hga
             have HCV := Lib.hid hcv
             clear hwd hm6 hbx hka hkf hla haf hca hra hga hcmp hcv hna hlen hc4
             cases ka with
             | false =>
              have HBET := Lib.hid (HGO.out fun h => by rw [HKA.out] at h; cases h)
              go_wp2_with fail
              refine wp_region_late (late := []) (S1 := fun u => u.cell? ⟨w3.heap.size, 0, none⟩ = some (.int .i64 (a : Int))) (S := fun _ => True) (by kernel_rfl) ?_
              have HKA0 := Lib.hid (show w6.drew.cell? ⟨w3.heap.size, 0, none⟩ = some (.int .i64 (a : Int)) from (HKW.out w6 (.refl _ _)).1)
              have HKA1 := Lib.hid (HKW.out (w6.drew.setCell ⟨BW, a, none⟩ (.slice A4 n4 c4)) ((Only.drew _ _).trans (.set _ _ _ _ rfl)))
              have HKA2 := Lib.hid (show ((w6.drew.setCell ⟨BW, a, none⟩ (.slice A4 n4 c4)).setCell ⟨BK, a, none⟩ (.bool true)).cell? ⟨w3.heap.size, 0, none⟩ = some (.int .i64 (a : Int)) from setOther _ HKA1.out.1 (by have h1 := HKB.out; have h2 := HM3.out.on.size; show w3.heap.size ≠ BK; omega))
              have HKA3 := Lib.hid (show (w6.setCell ⟨BW, a, none⟩ (.slice A4 n4 c4)).cell? ⟨BK, a, none⟩ = _ ∧ w6.frozen? ⟨BK, a, none⟩ = false from ⟨(HKW.out _ (.set _ _ _ _ rfl)).2.1, (HKW.out w6 (.refl _ _)).2.2⟩)
              clear z0 hkc hac
              refine wpAnyL_pure (i := 0) rfl (by kernel_rfl) (fun _ _ _ h => h) (Or.inl ⟨by rfl, (fun u hu => by go_simp; try rfl)⟩) (HKA0.out) (fun _ => trivial) ?_
              simp only [Act.put, List.setIfInBounds_toArray, List.set_cons_zero, List.set_cons_succ, List.getElem_toArray, List.getElem_cons_zero, List.getElem_cons_succ]
              refine wpAnyL_pure (i := 1) rfl (by kernel_rfl) (fun _ _ _ h => h) (Or.inl ⟨by rfl, (fun u hu => by go_simp; try rfl)⟩) (HKA0.out) (fun _ => trivial) ?_
              simp only [Act.put, List.setIfInBounds_toArray, List.set_cons_zero, List.set_cons_succ, List.getElem_toArray, List.getElem_cons_zero, List.getElem_cons_succ]
              refine wpAnyL_pure (i := 2) rfl (by kernel_rfl) (fun _ _ _ h => h) (Or.inl ⟨by rfl, (fun u hu => by have hu1 := hu; go_simp; try rfl)⟩) (HKA0.out) (fun _ => trivial) ?_
              simp only [Act.put, List.setIfInBounds_toArray, List.set_cons_zero, List.set_cons_succ, List.getElem_toArray, List.getElem_cons_zero, List.getElem_cons_succ]
              refine wpAnyL_pure (i := 3) rfl (by kernel_rfl) (fun _ _ _ h => h) (Or.inl ⟨by rfl, (fun u hu => by go_simp; try rfl)⟩) (HKA0.out) (fun _ => trivial) ?_
              simp only [Act.put, List.setIfInBounds_toArray, List.set_cons_zero, List.set_cons_succ, List.getElem_toArray, List.getElem_cons_zero, List.getElem_cons_succ]
              refine wpAnyL_pure (i := 4) rfl (by kernel_rfl) (fun _ _ _ h => h) (Or.inl ⟨by rfl, (fun u hu => by go_simp; try rfl)⟩) (HKA0.out) (fun _ => trivial) ?_
              simp only [Act.put, List.setIfInBounds_toArray, List.set_cons_zero, List.set_cons_succ, List.getElem_toArray, List.getElem_cons_zero, List.getElem_cons_succ]
              refine wpAnyL_pure (i := 5) rfl (by kernel_rfl) (fun _ _ _ h => h) (Or.inl ⟨by rfl, (fun u hu => by have hu1 := hu; go_simp; try rfl)⟩) (HKA0.out) (fun _ => trivial) ?_
              simp only [Act.put, List.setIfInBounds_toArray, List.set_cons_zero, List.set_cons_succ, List.getElem_toArray, List.getElem_cons_zero, List.getElem_cons_succ]
              refine wpAnyL_pure (i := 6) rfl (by kernel_rfl) (fun _ _ _ h => h) (Or.inl ⟨by rfl, (fun u hu => by go_simp; try rfl)⟩) (HKA0.out) (fun _ => trivial) ?_
              simp only [Act.put, List.setIfInBounds_toArray, List.set_cons_zero, List.set_cons_succ, List.getElem_toArray, List.getElem_cons_zero, List.getElem_cons_succ]
              refine wpAnyL_pure (i := 7) rfl (by kernel_rfl) (fun _ _ _ h => h) (Or.inl ⟨by rfl, (fun u hu => by go_simp; try rfl)⟩) (HKA0.out) (fun _ => trivial) ?_
              simp only [Act.put, List.setIfInBounds_toArray, List.set_cons_zero, List.set_cons_succ, List.getElem_toArray, List.getElem_cons_zero, List.getElem_cons_succ]
              refine wpAnyL_ready (rs := [8]) (by kernel_rfl) (by simp) ?_
              refine AllL.cons rfl (fun K hK => ?_) ?_
              ·
               have hcw := HACW.out
               have hfw := HFW.out
               go_simp
               clear hcw hfw
               refine hK.out _ _ (HKA1.out.1) (fun _ => trivial) ?_
               clear hK K
               refine wpAnyL_pure (i := 9) rfl (by kernel_rfl) (fun _ _ _ h => h) (Or.inl ⟨by rfl, (fun u hu => by go_simp; try rfl)⟩) (HKA1.out.1) (fun _ => trivial) ?_
               simp only [Act.put, List.setIfInBounds_toArray, List.set_cons_zero, List.set_cons_succ, List.getElem_toArray, List.getElem_cons_zero, List.getElem_cons_succ]
               refine wpAnyL_ready (rs := [10]) (by kernel_rfl) (by simp) ?_
               refine AllL.cons rfl (fun K hK => ?_) ?_
               ·
                have hcw := HKA3.out.1
                have hfw := HKA3.out.2
                go_simp
                clear hcw hfw
                refine hK.out _ _ (HKA2.out) (fun _ => trivial) ?_
                clear hK K
                refine wpAnyL_pure (i := 11) rfl (by kernel_rfl) (fun _ _ _ h => h) (Or.inl ⟨by rfl, (fun u hu => by go_simp; try rfl)⟩) (HKA2.out) (fun _ => trivial) ?_
                simp only [Act.put, List.setIfInBounds_toArray, List.set_cons_zero, List.set_cons_succ, List.getElem_toArray, List.getElem_cons_zero, List.getElem_cons_succ]
                refine wpAnyL_done (by kernel_rfl) ?_ _
                obtain ⟨hq1, hq2⟩ := HBET.out w6.drew (Only.drew _ _)
                have HQ1 := Lib.hid hq1
                have HQ2 := Lib.hid hq2
                clear hq1 hq2
                go_wp2_with fail
                go_roundg (nR - (k + 1))
                case measure => rw [HGI.out]; omega
                case rel => exact ⟨k + 1, true, _, _, by omega, rfl, by go_num, rfl, HQ1.out, HQ2.out⟩
               exact AllL.nil
              exact AllL.nil
             | true =>
              by_cases hlt : cv < 0
              ·
               have HBET := Lib.hid (HGO.out fun _ => by rw [HGA.out, ← HCV.out]; exact hlt)
               go_wp2_with (go_at_call 51; refine HCMP.out.mono ?_; rintro e w' ⟨rfl, rfl⟩)
               refine wp_region_late (late := []) (S1 := fun u => u.cell? ⟨w3.heap.size, 0, none⟩ = some (.int .i64 (a : Int))) (S := fun _ => True) (by kernel_rfl) ?_
               have HKA0 := Lib.hid (show w6.drew.cell? ⟨w3.heap.size, 0, none⟩ = some (.int .i64 (a : Int)) from (HKW.out w6 (.refl _ _)).1)
               have HKA1 := Lib.hid (HKW.out (w6.drew.setCell ⟨BW, a, none⟩ (.slice A4 n4 c4)) ((Only.drew _ _).trans (.set _ _ _ _ rfl)))
               have HKA2 := Lib.hid (show ((w6.drew.setCell ⟨BW, a, none⟩ (.slice A4 n4 c4)).setCell ⟨BK, a, none⟩ (.bool true)).cell? ⟨w3.heap.size, 0, none⟩ = some (.int .i64 (a : Int)) from setOther _ HKA1.out.1 (by have h1 := HKB.out; have h2 := HM3.out.on.size; show w3.heap.size ≠ BK; omega))
               have HKA3 := Lib.hid (show (w6.setCell ⟨BW, a, none⟩ (.slice A4 n4 c4)).cell? ⟨BK, a, none⟩ = _ ∧ w6.frozen? ⟨BK, a, none⟩ = false from ⟨(HKW.out _ (.set _ _ _ _ rfl)).2.1, (HKW.out w6 (.refl _ _)).2.2⟩)
               clear z0 hkc hac
               refine wpAnyL_pure (i := 0) rfl (by kernel_rfl) (fun _ _ _ h => h) (Or.inl ⟨by rfl, (fun u hu => by go_simp; try rfl)⟩) (HKA0.out) (fun _ => trivial) ?_
               simp only [Act.put, List.setIfInBounds_toArray, List.set_cons_zero, List.set_cons_succ, List.getElem_toArray, List.getElem_cons_zero, List.getElem_cons_succ]
               refine wpAnyL_pure (i := 1) rfl (by kernel_rfl) (fun _ _ _ h => h) (Or.inl ⟨by rfl, (fun u hu => by go_simp; try rfl)⟩) (HKA0.out) (fun _ => trivial) ?_
               simp only [Act.put, List.setIfInBounds_toArray, List.set_cons_zero, List.set_cons_succ, List.getElem_toArray, List.getElem_cons_zero, List.getElem_cons_succ]
               refine wpAnyL_pure (i := 2) rfl (by kernel_rfl) (fun _ _ _ h => h) (Or.inl ⟨by rfl, (fun u hu => by have hu1 := hu; go_simp; try rfl)⟩) (HKA0.out) (fun _ => trivial) ?_
               simp only [Act.put, List.setIfInBounds_toArray, List.set_cons_zero, List.set_cons_succ, List.getElem_toArray, List.getElem_cons_zero, List.getElem_cons_succ]
               refine wpAnyL_pure (i := 3) rfl (by kernel_rfl) (fun _ _ _ h => h) (Or.inl ⟨by rfl, (fun u hu => by go_simp; try rfl)⟩) (HKA0.out) (fun _ => trivial) ?_
               simp only [Act.put, List.setIfInBounds_toArray, List.set_cons_zero, List.set_cons_succ, List.getElem_toArray, List.getElem_cons_zero, List.getElem_cons_succ]
               refine wpAnyL_pure (i := 4) rfl (by kernel_rfl) (fun _ _ _ h => h) (Or.inl ⟨by rfl, (fun u hu => by go_simp; try rfl)⟩) (HKA0.out) (fun _ => trivial) ?_
               simp only [Act.put, List.setIfInBounds_toArray, List.set_cons_zero, List.set_cons_succ, List.getElem_toArray, List.getElem_cons_zero, List.getElem_cons_succ]
               refine wpAnyL_pure (i := 5) rfl (by kernel_rfl) (fun _ _ _ h => h) (Or.inl ⟨by rfl, (fun u hu => by have hu1 := hu; go_simp; try rfl)⟩) (HKA0.out) (fun _ => trivial) ?_
               simp only [Act.put, List.setIfInBounds_toArray, List.set_cons_zero, List.set_cons_succ, List.getElem_toArray, List.getElem_cons_zero, List.getElem_cons_succ]
               refine wpAnyL_pure (i := 6) rfl (by kernel_rfl) (fun _ _ _ h => h) (Or.inl ⟨by rfl, (fun u hu => by go_simp; try rfl)⟩) (HKA0.out) (fun _ => trivial) ?_
               simp only [Act.put, List.setIfInBounds_toArray, List.set_cons_zero, List.set_cons_succ, List.getElem_toArray, List.getElem_cons_zero, List.getElem_cons_succ]
               refine wpAnyL_pure (i := 7) rfl (by kernel_rfl) (fun _ _ _ h => h) (Or.inl ⟨by rfl, (fun u hu => by go_simp; try rfl)⟩) (HKA0.out) (fun _ => trivial) ?_
               simp only [Act.put, List.setIfInBounds_toArray, List.set_cons_zero, List.set_cons_succ, List.getElem_toArray, List.getElem_cons_zero, List.getElem_cons_succ]
               refine wpAnyL_ready (rs := [8]) (by kernel_rfl) (by simp) ?_
               refine AllL.cons rfl (fun K hK => ?_) ?_
               ·
                have hcw := HACW.out
                have hfw := HFW.out
                go_simp
                clear hcw hfw
                refine hK.out _ _ (HKA1.out.1) (fun _ => trivial) ?_
                clear hK K
                refine wpAnyL_pure (i := 9) rfl (by kernel_rfl) (fun _ _ _ h => h) (Or.inl ⟨by rfl, (fun u hu => by go_simp; try rfl)⟩) (HKA1.out.1) (fun _ => trivial) ?_
                simp only [Act.put, List.setIfInBounds_toArray, List.set_cons_zero, List.set_cons_succ, List.getElem_toArray, List.getElem_cons_zero, List.getElem_cons_succ]
                refine wpAnyL_ready (rs := [10]) (by kernel_rfl) (by simp) ?_
                refine AllL.cons rfl (fun K hK => ?_) ?_
                ·
                 have hcw := HKA3.out.1
                 have hfw := HKA3.out.2
                 go_simp
                 clear hcw hfw
                 refine hK.out _ _ (HKA2.out) (fun _ => trivial) ?_
                 clear hK K
                 refine wpAnyL_pure (i := 11) rfl (by kernel_rfl) (fun _ _ _ h => h) (Or.inl ⟨by rfl, (fun u hu => by go_simp; try rfl)⟩) (HKA2.out) (fun _ => trivial) ?_
                 simp only [Act.put, List.setIfInBounds_toArray, List.set_cons_zero, List.set_cons_succ, List.getElem_toArray, List.getElem_cons_zero, List.getElem_cons_succ]
                 refine wpAnyL_done (by kernel_rfl) ?_ _
                 obtain ⟨hq1, hq2⟩ := HBET.out w6.drew (Only.drew _ _)
                 have HQ1 := Lib.hid hq1
                 have HQ2 := Lib.hid hq2
                 clear hq1 hq2
                 go_wp2_with fail
                 go_roundg (nR - (k + 1))
                 case measure => rw [HGI.out]; omega
                 case rel => exact ⟨k + 1, true, _, _, by omega, rfl, by go_num, rfl, HQ1.out, HQ2.out⟩
                exact AllL.nil
               exact AllL.nil
              ·
               --@24
               have HC := Lib.hid (show ClsW sz ks r from fun _ _ _ => by rw [HRA.out, Int.toNat_natCast]; exact HKA.out)
               go_wp2_with (go_at_call 51; refine HCMP.out.mono ?_; rintro e w' ⟨rfl, rfl⟩)
               go_roundg (nR - (k + 1))
               case measure => rw [HGI.out]; omega
               case rel => exact ⟨k + 1, ag, ws, ks, by omega, rfl, by go_num, rfl, HRD.out.skip HRS.out HC.out, HM6.out⟩
          ·
           have HC := Lib.hid (show ClsW sz ks r from fun _ _ h => by rw [HRA.out, Int.toNat_natCast, ← HXG.out, HSUM.out] at h; exact absurd h hne)
           have hneb : (nv != xb) = true := by simpa using hne
           go_wp2_with fail
           go_roundg (nR - (k + 1))
           case measure => rw [HGI.out]; omega
           case rel => exact ⟨k + 1, ag, ws, ks, by omega, rfl, by go_num, rfl, HRD.out.skip HRS.out HC.out, HM5.out⟩
     ·
      obtain rfl : k = nR := by omega
      clear hrd hm
      go_wp2_with fail
      go_roundg (wMea ws ks + (if ag then 1 else 0))
      case measure =>
       rw [HGK.out]
       cases ag with
       | true => have := HRD.out.yes rfl; simp; omega
       | false => obtain ⟨e1, e2, _⟩ := HRD.out.no rfl; rw [e1, e2]; simp
      case rel =>
       refine ⟨ag, ws, ks, rfl, rfl, HRD.out.inv, fun e r hr => ?_, HM3.out⟩
       obtain ⟨i, hi⟩ := List.getElem?_of_mem hr
       exact (HRD.out.no e).2.2 i r (by rw [HNR.out]; exact (List.getElem?_eq_some_iff.1 hi).1) hi
end Go.Proofs.Ytbmcoamdfpegnaa
