/- KeyMap Pk0 -/
import Derived.Test.YtjnbjdbndbbanaaGreatDoorTc23
namespace Go.Proofs.YtjnbjdbndbbanaaGreatDoor
open Go.RowKit Go.Maps
theorem laidK : laidOutB Tryz.prog = true := by kernel_rfl
theorem keyKeyed : Keyed Tryz.prog 144 := Keyed.of_law (deep_law_laid laidK (m := 4) (by omega) (of_decide_eq_true (by kernel_rfl)) (by kernel_rfl) (by kernel_rfl))
theorem keySize : ∃ m, Tryz.prog.types.size + 1 = m + 3 := by
 have h : 1 < Tryz.prog.types.size := of_decide_eq_true (by kernel_rfl)
 exact ⟨Tryz.prog.types.size - 2, by omega⟩
theorem keyKey (s : Bool) (a b c : Int) (ha : -1000000 ≤ a ∧ a ≤ 1000000) (hb : -1000000 ≤ b ∧ b ≤ 1000000) (hc : -1000000 ≤ c ∧ c ≤ 1000000) : ∃ l, keyOf Tryz.prog 144 (.agg #[.bool s, .int .i64 a, .int .i64 b, .int .i64 c]) = some l := by
 have wa : (Lit.int .i64 a).wf = true := WalkArith.wf_i64 (by omega)
 have wb : (Lit.int .i64 b).wf = true := WalkArith.wf_i64 (by omega)
 have wc : (Lit.int .i64 c).wf = true := WalkArith.wf_i64 (by omega)
 refine ⟨.string (keyBytes [.bool s, .int .i64 a, .int .i64 b, .int .i64 c]), ?_⟩
 have hu := Tryz.underlying144
 have hu2 := Tryz.underlying62
 unfold keyOf
 simp only [hu]
 have h1 : Tryz.prog.keyType 144 = true := by kernel_rfl
 have h2 : Tryz.prog.cellsOf 144 = 4 := by kernel_rfl
 obtain ⟨m, hm⟩ := keySize
 have h3 : Tryz.prog.cellsOf 3 = 1 := by kernel_rfl
 have h4 : Tryz.prog.cellsOf 4 = 1 := by kernel_rfl
 have h5 : Tryz.prog.cellsOf 62 = 2 := by kernel_rfl
 rw [if_pos (by simp [h1, Value.formed, hu, h2]), hm]
 unfold Program.keyLits
 simp only [hu, Value.cells]
 simp [Program.keyLits, hu2, Tryz.underlying3, Tryz.underlying4, h2, h3, h4, h5, wa, wb, wc]
 rw [if_pos (fun i hi => by
  match i, hi with
  | 0, _ => simp
  | 1, _ => simp)]
 simp
abbrev KKey : KeyRep Tryz.prog 144 KeyD where
 keyed := keyKeyed
 val := fun k => .agg #[.bool k.1.1, .int .i64 k.1.2, .int .i64 (k.2.1 : Int), .int .i64 (k.2.2 : Int)]
 ok := fun k => (-1000000 ≤ k.1.2 ∧ k.1.2 ≤ 1000000) ∧ (-1000000 ≤ (k.2.1 : Int) ∧ (k.2.1 : Int) ≤ 1000000) ∧ (-1000000 ≤ (k.2.2 : Int) ∧ (k.2.2 : Int) ≤ 1000000)
 lit := fun k h => keyKey k.1.1 k.1.2 k.2.1 k.2.2 h.1 h.2.1 h.2.2
 inj := fun x y h => by
  obtain ⟨⟨s, a⟩, b, c⟩ := x
  obtain ⟨⟨s', a'⟩, b', c'⟩ := y
  simp only [Value.agg.injEq, Array.mk.injEq, List.cons.injEq, Value.int.injEq, Value.bool.injEq, true_and, and_true] at h
  obtain ⟨rfl, rfl, h1, h2⟩ := h
  rw [show b = b' by omega, show c = c' by omega]
theorem mapKPk : Tryz.prog.underlying 145 = some (.map 144 148) := by kernel_rfl
theorem mapKB : Tryz.prog.underlying 147 = some (.map 144 4) := by kernel_rfl
theorem mapKI : Tryz.prog.underlying 154 = some (.map 144 3) := by kernel_rfl
end Go.Proofs.YtjnbjdbndbbanaaGreatDoor
namespace Go.Proofs.YtjnbjdbndbbanaaGreatDoor
open Go.RowKit
theorem cellsK {w w' : World} {S S' : Nat → Prop} : ∀ {l : List KeyD} {xs : List Value}, Cells RKey w S xs l → Cells RKey w' S' xs l
 | [], _, h => h
 | _ :: _, _, ⟨cs, rest, e, h1, h2⟩ => ⟨cs, rest, e, RKey.cells.2 (RKey.cells.1 h1), cellsK h2⟩
set_option linter.unusedSimpArgs false in
set_option maxRecDepth 100000 in
set_option maxHeartbeats 4000000 in
theorem pk0 (C : PkC) (hC : C.Ok) : PkAt C [] := by
 intro u F v ps S1 A1 n1 c1 fr S2 A2 n2 c2 ini hin hl hS1 hno hll hfr hsl hS2 hil hpl
 obtain rfl : n1 = 0 := by simpa using hl.len
 have hn2 : n2 = ini.length := hsl.len
 simp only [List.length_nil, Nat.add_zero] at hil
 have hn2b : n2 ≤ 100 := by omega
 clear hn2
 have HC := zh hC
 have HI := zh hin
 have HSL := zh hsl
 have HS2 := zh hS2
 have HPL := zh hpl
 obtain ⟨⟨k0, k1, k2, k3⟩, k4, k5, k6, k7⟩ := hin.b.cells
 obtain ⟨kt, hkt⟩ := zE C.key.2.2
 rw [← hkt] at k3
 by_cases hq : fr = kt
 ·
  have hne : ((fr : Int) == (kt : Int)) = true := by simp [hq]
  have HX := zh (show addK C [] fr ini = [(C.i, ini)] by unfold addK; rw [splP_nil, if_pos (by rw [← hkt]; exact hq)]; simp)
  obtain ⟨A, c, hv, hc⟩ := hin.out.form
  subst hv
  have hpn : ps.length ≤ 1000000 := by omega
  obtain ⟨n, hn⟩ := zE ps.length
  rw [← hn] at HI hpn
  have HN := zh hn
  have HS1 := zh (show ∀ x : World, Below u.heap.size u x → x.cell? ⟨C.Bo, 0, none⟩ = some (.slice A n c) ∧ x.cell? ⟨C.Bi, 0, none⟩ = some (.int .i64 (C.i : Int)) from fun x hx => by
   have h1 := (HI.out.below hx)
   have h2 := h1.bo
   exact ⟨by simp [World.cell?, h2], h1.b.cells.2.1⟩)
  clear hC hin hl hS1 hno hll hsl hS2 hpl hkt hq hn
  go_enter Tryz.func85, Tryz.ntmps85
  go_wp2_with fail
  refine wp_region_late (late := [7]) (S1 := fun x => x.cell? ⟨C.Bi, 0, none⟩ = some (.int .i64 (C.i : Int))) (S := fun x => x.cell? ⟨C.Bo, 0, none⟩ = some (.slice A n c)) (by kernel_rfl) ?_
  clear k0 k1 k2 k3 k4 k5 k6 k7
  refine wpAnyL_take (i := 0) rfl (by kernel_rfl) (fun _ _ _ h => h) (Or.inl ⟨by rfl, (fun u hu => by obtain ⟨k1, k0⟩ := hu; go_simp; try rfl)⟩) (HS1.out _ (Below.refl _ _).drew).2 (fun _ => (HS1.out _ (Below.refl _ _).drew).1) ?_
  simp only [Act.put, zA, zB, zC, zD, zF, zG]
  refine zP (i := 1) rfl (fun u hu => by have k1 := hu; go_simp; try rfl) (HS1.out _ (Below.refl _ _).drew).2 (fun _ => (HS1.out _ (Below.refl _ _).drew).1) ?_
  simp only [Act.put, zA, zB, zC, zD, zF, zG]
  refine zP (i := 2) rfl (fun u hu => by have k1 := hu; go_simp; try rfl) (HS1.out _ (Below.refl _ _).drew).2 (fun _ => (HS1.out _ (Below.refl _ _).drew).1) ?_
  simp only [Act.put, zA, zB, zC, zD, zF, zG]
  refine zR 3 rfl (fun K hK => ?_)
  go_simp
  obtain ⟨xs2, e1, e2, hrd, hcs⟩ := HSL.out
  refine (cloneKey A2 n2 c2 _ xs2 u.drew hrd.drew (by omega)).mono ?_
  rintro e w3 ⟨v3, rfl, ho3, hb3⟩
  obtain ⟨A3, c3, rfl, hc3, _⟩ := ho3.form
  have hb3 : Below u.heap.size u w3 := ((Below.refl _ _).drew).trans hb3
  have HI3 := zh (HI.out.below hb3)
  have HSL3 := zh (show Sl RKey w3 (fun b => u.heap.size ≤ b ∧ b < w3.heap.size) A3 n2 c3 ini from (show Sl RKey w3 (fun b => u.heap.size ≤ b) A3 n2 c3 ini from ⟨xs2, e1, hc3, ho3.rd.more (S' := fun b => u.heap.size ≤ b) fun b hb => hb, cellsK hcs⟩).fit)
  have HB3 := zh hb3
  clear ho3 hb3 hrd hcs e1 e2
  refine hK.out _ _ (HS1.out _ HB3.out).2 (fun _ => (HS1.out _ HB3.out).1) ?_
  clear hK K
  refine zP (i := 4) rfl (fun u hu => by have k1 := hu; go_simp; try rfl) (HS1.out _ HB3.out).2 (fun _ => (HS1.out _ HB3.out).1) ?_
  simp only [Act.put, zA, zB, zC, zD, zF, zG]
  refine zR 5 rfl (fun K hK => ?_)
  go_simp
  refine hK.out _ _ (HS1.out _ (HB3.out.alloc HB3.out.size _)).2 (fun _ => (HS1.out _ (HB3.out.alloc HB3.out.size _)).1) ?_
  clear hK K
  refine zR 6 rfl (fun K hK => ?_)
  have hfit : ∀ g, rowOf (.slice A n c) = some g → g < u.heap.size := fun g e => HI.out.out.lt e
  obtain ⟨A6, c6, w6, hrun, hgl, hg6, hrow⟩ := HI3.out.out.push tCPks rfl (x := (C.i, ini)) (ys := [.int .i64 (C.i : Int), .slice A3 n2 c3]) (G := fun b => u.heap.size ≤ b ∧ b < w3.heap.size) (RCPk.cells.2 ⟨A3, n2, c3, rfl, HSL3.out⟩) (fun b hb e => by have := hfit _ e; omega) (by rw [← HN.out]; omega) (by omega) 148
  rw [← HN.out] at hrun hgl
  refine step_append_run _ (by rfl) _ _ _ _ (by rfl) _ _ (by rfl) (by rfl) _ _ hrun ?_
  simp only [Act.put, zA, zB, zC, zD, zF, zG]
  have hz3 := HB3.out.size
  have HO6 := zh (show Only u w6 F from (Only.of_below HB3.out (Nat.le_refl _) _).trans ((Only.alloc w3 _ F).trans (Only.of_grown hg6 fun b e => HI.out.out.row _ e)))
  have HGL := zh hgl
  have HBO6 := zh ((HO6.out.block _ (heap_lt HI.out.bo) (fun e => (HI.out.off _ e).2 rfl)).trans HI.out.bo)
  have HBI6 := zh (HI.out.b.only HO6.out fun b hb _ => (HI.out.off b hb).1)
  have HK6 := zh (show w6.cell? ⟨C.Bo, 0, none⟩ = some (.slice A n c) ∧ w6.cell? ⟨C.Bi, 0, none⟩ = some (.int .i64 (C.i : Int)) from ⟨by have h1 := HBO6.out; simp [World.cell?, h1], HBI6.out.cells.2.1⟩)
  clear hrun hgl hg6 hrow hfit
  refine hK.out _ _ HK6.out.2 (fun _ => HK6.out.1) ?_
  clear hK K
  refine zR 7 rfl (fun K hK => ?_)
  have d0 := HK6.out.1
  have dfz : w6.frozen? ⟨C.Bo, 0, none⟩ = false := (by have h1 := HBO6.out; simp [World.frozen?, h1])
  go_simp
  clear d0 dfz
  obtain ⟨w7, hw7⟩ := zE (w6.setCell ⟨C.Bo, 0, none⟩ (.slice A6 (n + 1) c6))
  have ho7 : Only w6 w7 (fun b => b = C.Bo) := by rw [hw7]; exact Only.set _ _ _ _ rfl
  have HR := zh (show PkR C u F (ps ++ [(C.i, ini)]) (.returned (.tuple #[])) w7 from by
   refine ⟨fun b => F b ∨ u.heap.size ≤ b, .slice A6 (n + 1) c6, rfl, ⟨HBI6.out.only ho7 fun b e _ => by rw [e]; exact HC.out.off, ?_, ?_, fun b hb => ?_⟩, (HO6.out.more fun b _ h => .inr h).trans (ho7.more fun b _ h => .inl h), fun b hb => hb⟩
   ·
    have h1 := blk_set HBO6.out 0 (.slice A6 (n + 1) c6)
    rw [hw7]
    simpa using h1
   ·
    refine (HGL.out.only ho7 fun b hb _ e => ?_).more fun b hb => ?_
    ·
     have hlo := heap_lt HI.out.bo
     rcases hb with h | h | h
     · exact (HI.out.off b h).2 e
     · omega
     omega
    rcases hb with h | h | h
    · exact .inl h
    · exact .inr h.1
    exact .inr (by omega)
   rcases hb with h | h
   · exact HI.out.off b h
   have h1 := heap_lt HI.out.bo
   have h2 := heap_lt HI.out.b.bk
   have h3 := heap_lt HI.out.b.bi
   have h4 := heap_lt HI.out.b.bw
   have h5 := heap_lt HI.out.b.be
   have h6 := heap_lt HI.out.b.bv
   have h7 := HI.out.b.tb.1
   have h8 := HI.out.b.hi
   exact ⟨⟨by omega, by omega, by omega, by omega, by omega, by omega, fun hs => by have := HI.out.b.fit b hs; omega, .inr (by omega)⟩, by omega⟩)
  rw [← hw7]
  have HK7 := zh (show w7.cell? ⟨C.Bi, 0, none⟩ = some (.int .i64 (C.i : Int)) from (HBI6.out.only ho7 fun b e _ => by rw [e]; exact HC.out.off).cells.2.1)
  clear hw7 ho7
  refine hK.out _ _ HK7.out (fun h => absurd (h 7 (by simp)) (by decide)) ?_
  clear hK K
  refine wpAnyL_done (by kernel_rfl) ?_ _
  go_wp2_with fail
  rw [HX.out]
  exact Go.bodyPost_ret (v := .tuple #[]) (by simp [results, Tryz.results85, go_sem]) rfl HR.out
 have hne : ((fr : Int) == (kt : Int)) = false := by simp; omega
 have HX := zh (show addK C [] fr ini = [] by unfold addK; rw [splP_nil, if_neg (by rw [← hkt]; exact hq)]; rfl)
 clear hC hin hl hS1 hno hll hsl hS2 hpl hkt hq
 go_enter Tryz.func85, Tryz.ntmps85
 go_wp2_with fail
 refine Go.bodyPost_ret (v := .tuple #[]) (by simp [results, Tryz.results85, go_sem]) rfl ⟨F, v, rfl, ?_, Only.refl _ _, fun b hb => .inl hb⟩
 rw [HX.out, List.append_nil]
 exact HI.out
end Go.Proofs.YtjnbjdbndbbanaaGreatDoor
