/- HeapPP CandMap -/
import Derived.Test.YtjnbjdbndbbanaaGreatDoorTc32
namespace Go.Proofs.YtjnbjdbndbbanaaGreatDoor
open Go.RowKit Go.Maps
theorem tCands : SlType Tryz.prog 120 130 7 56 (.agg #[.int .i64 0, .int .i64 0, .int .i64 0, .int .i64 0, .int .i64 0, .int .i64 0, .pointer none]) := ⟨by kernel_rfl, by kernel_rfl, by kernel_rfl, rfl, by decide⟩
theorem set6 {w : World} {BL : Nat} {la : List Value} {v u : Value} {ty : TypeId} (h : w.heap[BL]? = some (.cells (la ++ [v]).toArray ty (0, 0))) (hl : la.length = 6) : (w.setCell ⟨BL, 6, none⟩ u).heap[BL]? = some (.cells (la ++ [u]).toArray ty (0, 0)) := by
 rw [heap_setCell_same w BL 6 _ _ u h]
 congr 2
 rw [List.setIfInBounds_toArray, List.set_append_right _ _ (by omega), hl]
 rfl
def qV (k : CKey) (B : Nat) : List Value := ckV k ++ [Value.pointer (some ⟨B, 0, none⟩)]
theorem QC.push {T : Nat → Prop} {BL : Nat} {la : List Value} {w : World} {v : Value} {l : List QEl} (h : QC T BL la w v l) {k : CKey} {B : Nat} {t : TreeD} (hx : RPt.ok w T [.pointer (some ⟨B, 0, none⟩)] t) (hl : l.length ≤ 100000000) (ty : TypeId) :
    ∃ A' c' w', (Builtin.append_ #[120, 120] ty #[v, .slice (some ⟨w.heap.size, 0, none⟩) 1 1]).run Tryz.prog (w.alloc (.cells (qV k B).toArray 130)) = .ok (.slice A' (l.length + 1) c') w' ∧
     QC T BL la (w'.setCell ⟨BL, 6, none⟩ (.slice A' (l.length + 1) c')) (.slice A' (l.length + 1) c') (l ++ [(k, t)]) ∧ Only w (w'.setCell ⟨BL, 6, none⟩ (.slice A' (l.length + 1) c')) (fun x => x = BL ∨ rowOf v = some x) ∧ w'.cell? ⟨BL, 6, none⟩ = some v ∧ w'.frozen? ⟨BL, 6, none⟩ = false ∧ (∀ g, rowOf (.slice A' (l.length + 1) c') = some g → rowOf v = some g ∨ w.heap.size ≤ g) := by
 obtain ⟨xs, h1, h2⟩ := h.q.own
 have hxq : RQ.ok w T (qV k B) (k, t) := RQ.cells.2 ⟨B, rfl, hx⟩
 have hr : Rd (w.alloc (.cells (qV k B).toArray 130)) (fun _ => True) 7 (some ⟨w.heap.size, 0, none⟩) 1 (qV k B) := by
  refine ⟨rfl, fun _ => ⟨w.heap.size, 0, rfl, trivial, fun j x hj => ?_⟩⟩
  rw [World.cell?_alloc_at _ _ _ _ rfl]
  simpa using hj
 obtain ⟨v', w', hrun, ho, hg, hrow⟩ := run_append_Own tCands (w.alloc (.cells (qV k B).toArray 130)) ty 0 v l.length xs (h1.alloc _) _ _ 1 1 _ hr (RQ.one hxq) (by unfold maxLen; omega) (by omega) (Nat.zero_le _)
 obtain ⟨A', c', rfl, _, _⟩ := ho.form
 have hltB := heap_lt h.blk
 have hBL : w'.heap[BL]? = w.heap[BL]? := (hg.block BL (by simp; omega) fun e => h.rb _ e.symm rfl).trans (Below.heap_alloc _ _ _ hltB)
 have hal : Only w w' (fun x => rowOf v = some x) := (Only.alloc w _ _).trans (.of_grown hg fun b e => e)
 have hon : Only w (w'.setCell ⟨BL, 6, none⟩ (.slice A' (l.length + 1) c')) (fun x => x = BL ∨ rowOf v = some x) := (hal.more fun _ _ e => .inr e).trans (Only.set w' BL 6 _ (.inl rfl))
 have hrowN : ∀ g, rowOf (.slice A' (l.length + 1) c') = some g → rowOf v = some g ∨ w.heap.size ≤ g := fun g e => by
  rcases hrow with e1 | e1
  · exact .inl (by rw [← e1]; exact e)
  rw [e1] at e
  injection e with e
  simp at e
  exact .inr (by omega)
 have hTlt : ∀ b, T b → b < w.heap.size := fun b hb => by obtain ⟨cs, y, e⟩ := h.un b hb; exact heap_lt e
 have hXT : ∀ b, T b → ¬ (b = BL ∨ rowOf v = some b) := fun b hb e => by
  rcases e with e | e
  · exact h.tb (e ▸ hb)
  exact h.q.row b e hb
 have hblk := set6 (u := .slice A' (l.length + 1) c') (hBL.trans h.blk) h.al
 refine ⟨A', c', w', hrun, ⟨⟨⟨xs ++ (qV k B), ?_, ((h2.append (Cells.single hxq)).keep (hon.kept hXT))⟩, fun g e => ?_⟩, hblk, h.al, h.tb, fun g e => ?_, fun b hb => ?_⟩, hon, ?_, ?_, hrowN⟩
 ·
  have ho2 := ho.sameB (w' := w'.setCell ⟨BL, 6, none⟩ (.slice A' (l.length + 1) c')) fun g e => Below.heap_setCell w' ⟨BL, 6, none⟩ _ g fun e2 => by
   rcases hrowN g e with e3 | e3
   · exact h.rb g e3 e2
   have e2 : g = BL := e2
   omega
  simpa using ho2
 ·
  rcases hrowN g e with e3 | e3
  · exact h.q.row g e3
  exact fun hb => by have := hTlt g hb; omega
 ·
  rcases hrowN g e with e3 | e3
  · exact h.rb g e3
  omega
 ·
  obtain ⟨cs, y, e⟩ := h.un b hb
  exact ⟨cs, y, (hon.block b (heap_lt e) (hXT b hb)).trans e⟩
 ·
  rw [World.cell?_of_block hBL]
  exact h.cell
 simp [World.frozen?, hBL, h.blk]
set_option linter.unusedSimpArgs false in
set_option maxRecDepth 100000 in
set_option maxHeartbeats 4000000 in
theorem qPush (T : Nat → Prop) (BL : Nat) (la : List Value) (w : World) (v : Value) (l : List QEl) (h : QC T BL la w v l) (hl : l.length ≤ 100000000) (k : CKey) (B : Nat) (t : TreeD) (hx : RPt.ok w T [.pointer (some ⟨B, 0, none⟩)] t) :
    Calls Tryz.prog 142 #[.pointer (some ⟨BL, 6, none⟩), .iface 130 (.agg (qV k B).toArray)] w fun e w' => e = .returned (.tuple #[]) ∧ (∃ A' c', QC T BL la w' (.slice A' (l.length + 1) c') (l ++ [(k, t)]) ∧ (∀ g, rowOf (.slice A' (l.length + 1) c') = some g → rowOf v = some g ∨ w.heap.size ≤ g)) ∧ Only w w' (fun x => x = BL ∨ rowOf v = some x) := by
 have hd := h.below (Below.refl w.heap.size w).drew
 obtain ⟨A', c', w1, hrun, hq, ho, hc, hf, hrw⟩ := hd.push (k := k) (RPt.keep hx (Kept.drew _ _)) hl 120
 have HRUN := zh hrun
 have HQ := zh hq
 have HO := zh ((Only.drew w _).trans ho)
 have HRW := zh hrw
 have HC0 := zh hd.cell
 have HCF := zh (And.intro hc hf)
 clear h hd hrun hq ho hc hf hrw hx
 unfold qV ckV at HRUN ⊢
 simp only [List.cons_append, List.nil_append] at HRUN ⊢
 go_enter Tryz.func142, Tryz.ntmps142
 go_wp2_with fail
 refine wp_region_late (late := [9]) (S1 := fun _ => True) (S := fun u => u.cell? ⟨BL, 6, none⟩ = some v) (by kernel_rfl) ?_
 refine zP (i := 0) rfl (fun u hu => by go_simp; try rfl) trivial (fun _ => HC0.out) ?_
 simp only [Act.put, zA, zB, zC, zD, zF, zG]
 refine zP (i := 1) rfl (fun u hu => by go_simp; try rfl) trivial (fun _ => HC0.out) ?_
 simp only [Act.put, zA, zB, zC, zD, zF, zG]
 refine zP (i := 2) rfl (fun u hu => by go_simp; try rfl) trivial (fun _ => HC0.out) ?_
 simp only [Act.put, zA, zB, zC, zD, zF, zG]
 refine wpAnyL_take (i := 3) rfl (by kernel_rfl) (fun _ _ _ h => h) (Or.inl ⟨by rfl, (fun u hu => by have hc := hu.2; go_simp; try rfl)⟩) trivial (fun _ => HC0.out) ?_
 simp only [Act.put, zA, zB, zC, zD, zF, zG]
 refine zP (i := 4) rfl (fun u hu => by go_simp; try rfl) trivial (fun _ => HC0.out) ?_
 simp only [Act.put, zA, zB, zC, zD, zF, zG]
 refine zP (i := 5) rfl (fun u hu => by go_simp; try rfl) trivial (fun _ => HC0.out) ?_
 simp only [Act.put, zA, zB, zC, zD, zF, zG]
 refine zR 6 rfl (fun K hK => ?_)
 go_simp
 refine hK.out _ _ trivial (fun _ => ((World.cell?_alloc_lt w _ _ (cell_lt (w := w) HC0.out)).trans HC0.out)) ?_
 clear hK K
 refine zR 7 rfl (fun K hK => ?_)
 refine step_append_run _ (by rfl) _ _ _ _ (by rfl) _ _ (by rfl) (by rfl) _ _ HRUN.out ?_
 simp only [Act.put, zA, zB, zC, zD, zF, zG]
 refine hK.out _ _ trivial (fun _ => HCF.out.1) ?_
 clear hK K
 refine zP (i := 8) rfl (fun u hu => by go_simp; try rfl) trivial (fun _ => HCF.out.1) ?_
 simp only [Act.put, zA, zB, zC, zD, zF, zG]
 refine zR 9 rfl (fun K hK => ?_)
 have hc := HCF.out.1
 have hf := HCF.out.2
 go_simp
 clear hc hf
 refine hK.out _ _ trivial (fun h => absurd (h 9 (by simp)) (by decide)) ?_
 clear hK K
 refine wpAnyL_done (by kernel_rfl) ?_ _
 go_wp2_with fail
 exact Go.bodyPost_end (v := .tuple #[]) (by simp [results, Tryz.results142, go_sem]) rfl ⟨rfl, ⟨A', c', HQ.out, HRW.out⟩, HO.out⟩
theorem Only.onto {w w' w'' : World} {X Y : Nat → Prop} (h : Only w w' X) (h' : Only w' w'' Y) (hY : ∀ b, b < w.heap.size → Y b → X b) : Only w w'' X :=
 ⟨h'.os.trans h.os, h'.tape.trans h.tape, h'.output.trans h.output, Nat.le_trans h.size h'.size, fun b hb hx => (h'.block b (Nat.lt_of_lt_of_le hb h.size) fun hy => hx (hY b hb hy)).trans (h.block b hb hx)⟩
set_option linter.unusedSimpArgs false in
set_option maxRecDepth 100000 in
set_option maxHeartbeats 4000000 in
theorem heapPush (T : Nat → Prop) (BL : Nat) (la : List Value) (w : World) (v : Value) (l : List QEl) (h : QC T BL la w v l) (hs : ∀ e ∈ l, sizeT e.2 ≤ 100000) (hl : l.length < 100000000) (k : CKey) (B : Nat) (t : TreeD) (hx : RPt.ok w T [.pointer (some ⟨B, 0, none⟩)] t) (ht : sizeT t ≤ 100000) :
    Calls Tryz.prog 97 #[.iface 133 (.pointer (some ⟨BL, 6, none⟩)), .iface 130 (.agg (qV k B).toArray)] w fun e w' => e = .returned (.tuple #[]) ∧ (∃ v' l', QC T BL la w' v' l' ∧ l'.Perm (l ++ [(k, t)]) ∧ ∀ g, rowOf v' = some g → rowOf v = some g ∨ w.heap.size ≤ g) ∧ Only w w' (fun x => x = BL ∨ rowOf v = some x) := by
 have H := zh h
 have HS := zh hs
 have HX := zh hx
 have hm := methPush
 have he1 := entPush
 have he2 := entLen
 clear h hs hx
 go_enter Tryz.func97, Tryz.ntmps97
 go_wp2_with fail
 refine (qPush T BL la w v l H.out (by omega) k B t HX.out).mono ?_
 rintro e w1 ⟨rfl, ⟨A1, c1, hq1, hr1⟩, ho1⟩
 have HQ1 := zh hq1
 have HR1 := zh hr1
 have HO1 := zh ho1
 have hm2 := methLen w1 BL A1 (l.length + 1) c1 hq1.cell
 clear hq1 hr1 ho1 hm
 obtain ⟨n, hn⟩ := zE l.length
 rw [← hn] at hm2 hl HQ1 HR1
 have HNL := zh hn
 clear hn
 go_wp2_with fail
 refine (qLen w1 A1 (n + 1) c1).mono ?_
 rintro e w2 ⟨rfl, rfl⟩
 go_wp2_with fail
 refine (heapUp T BL la w1 A1 (n + 1) c1 (l ++ [(k, t)]) HQ1.out (by rw [List.length_append, HNL.out]; rfl) (fun e he => ?_) (by omega) n (by omega)).mono ?_
 ·
  rcases List.mem_append.1 he with h | h
  · exact HS.out e h
  rw [List.mem_singleton.1 h]; exact ht
 rintro e w3 ⟨rfl, ⟨l', hq3, hp3⟩, ho3⟩
 have HQ3 := zh hq3
 have HP3 := zh hp3
 have HO3 := zh (HO1.out.onto ho3 fun b hb e => by
  rcases HR1.out b e with e2 | e2
  · exact .inr e2
  omega)
 clear hq3 hp3 ho3 hm2
 go_wp2_with fail
 exact Go.bodyPost_end (v := .tuple #[]) (by simp [results, Tryz.results97, go_sem]) rfl ⟨rfl, ⟨_, l', HQ3.out, HP3.out, HR1.out⟩, HO3.out⟩
theorem QC.cut {T : Nat → Prop} {BL : Nat} {la : List Value} {w : World} {A : Option Addr} {c : Nat} {l : List QEl} {e : QEl} (h : QC T BL la w (.slice A (l.length + 1) c) (l ++ [e])) : QC T BL la (w.setCell ⟨BL, 6, none⟩ (.slice A l.length c)) (.slice A l.length c) l ∧ Only w (w.setCell ⟨BL, 6, none⟩ (.slice A l.length c)) (fun x => x = BL) := by
 obtain ⟨xs, h1, h2⟩ := h.q.own
 rw [List.length_append, List.length_singleton] at h1
 have hr : rowOf (.slice A l.length c) = rowOf (.slice A (l.length + 1) c) := rowOf_len _ _ _ _
 have hon : Only w (w.setCell ⟨BL, 6, none⟩ (.slice A l.length c)) (fun x => x = BL) := Only.set w BL 6 _ rfl
 refine ⟨⟨⟨⟨_, h1.drop.sameB fun g e => hon.block g (h1.row (by rw [← hr]; exact e)).2 (h.rb g (by rw [← hr]; exact e)), (Cells.front h2).keep (hon.kept fun b hb e2 => h.tb (e2 ▸ hb))⟩, fun g e => h.q.row g (by rw [← hr]; exact e)⟩, set6 h.blk h.al, h.al, h.tb, fun g e => h.rb g (by rw [← hr]; exact e), fun b hb => ?_⟩, hon⟩
 obtain ⟨cs, y, e⟩ := h.un b hb
 exact ⟨cs, y, (hon.block b (heap_lt e) fun e2 => h.tb (e2 ▸ hb)).trans e⟩
set_option linter.unusedSimpArgs false in
set_option maxRecDepth 100000 in
set_option maxHeartbeats 4000000 in
theorem qPop (T : Nat → Prop) (BL : Nat) (la : List Value) (w : World) (A : Option Addr) (n c : Nat) (l : List QEl) (e : QEl) (h : QC T BL la w (.slice A (n + 1) c) (l ++ [e])) (hn : n = l.length) (hn2 : n ≤ 100000000) :
    Calls Tryz.prog 141 #[.pointer (some ⟨BL, 6, none⟩)] w fun e' w' => (∃ B : Nat, e' = .returned (.iface 130 (.agg (qV e.1 B).toArray)) ∧ RPt.ok w' T [.pointer (some ⟨B, 0, none⟩)] e.2) ∧ QC T BL la w' (.slice A n c) l ∧ Only w w' (fun x => x = BL) := by
 obtain ⟨b, e2, B, rfl, _, he2, p0, p1, p2, p3, p4, p5, p6, o1⟩ := h.q.at_ (k := n) (by rw [List.length_append, hn]; rfl) (by omega)
 rw [hn, List.getElem?_append_right (Nat.le_refl _)] at he2
 simp only [Nat.sub_self, List.getElem?_cons_zero, Option.some.injEq] at he2
 subst he2
 have hc := h.cell
 have hf := h.froz
 have lp := cell_lt p6
 have lc := cell_lt hc
 have hcc : n + 1 ≤ c := by
  obtain ⟨_, _, e9, hcc⟩ := h.q.form
  injection e9 with _ e9 e10
  rw [← e9, ← e10] at hcc
  exact hcc
 have hcut := fun u => tCands.hN (some ⟨b, 0, none⟩) (n + 1) c n (by omega) u
 have hn0 : (0 : Int) ≤ (n : Int) := by omega
 rw [hn] at h
 obtain ⟨hq2, ho2⟩ := h.cut
 rw [← hn] at hq2 ho2
 have htk : ∀ x, T x → ¬ x = BL := fun x hx e => h.tb (e ▸ hx)
 have hb1 := (Below.refl (w.setCell ⟨BL, 6, none⟩ (.slice (some ⟨b, 0, none⟩) n c)).heap.size (w.setCell ⟨BL, 6, none⟩ (.slice (some ⟨b, 0, none⟩) n c))).alloc (Nat.le_refl _) (.cells (qV e.1 B).toArray 130)
 have HQ2 := zh (hq2.below hb1)
 have HO2 := zh (ho2.trans (.of_below hb1 (Nat.le_refl _) _))
 have HOK := zh (RPt.keep (RPt.keep o1 (ho2.kept htk)) (Kept.below hb1))
 clear h hn o1 hb1 hq2 ho2 htk
 go_enter Tryz.func141, Tryz.ntmps141
 go_wp2_with fail
 go_ret
 exact ⟨⟨B, rfl, HOK.out⟩, HQ2.out, HO2.out⟩
set_option linter.unusedSimpArgs false in
set_option maxRecDepth 100000 in
set_option maxHeartbeats 4000000 in
theorem heapPop (T : Nat → Prop) (BL : Nat) (la : List Value) (w : World) (A : Option Addr) (n c : Nat) (l : List QEl) (h : QC T BL la w (.slice A (n + 1) c) l) (hn : n + 1 = l.length) (hs : ∀ e ∈ l, sizeT e.2 ≤ 100000) (hn2 : n < 100000000) :
    Calls Tryz.prog 56 #[.iface 133 (.pointer (some ⟨BL, 6, none⟩))] w fun e' w' => ∃ (l' : List QEl) (e : QEl), (∃ B : Nat, e' = .returned (.iface 130 (.agg (qV e.1 B).toArray)) ∧ RPt.ok w' T [.pointer (some ⟨B, 0, none⟩)] e.2) ∧ QC T BL la w' (.slice A n c) l' ∧ (l' ++ [e]).Perm l ∧ Only w w' (fun x => x = BL ∨ rowOf (.slice A n c) = some x) := by
 have H := zh h
 have HS := zh hs
 have HN := zh hn
 have hm := methLen w BL A (n + 1) c h.cell
 have he1 := entLen
 have he2 := entSwap
 have he3 := entPop
 clear h hs hn
 go_enter Tryz.func56, Tryz.ntmps56
 go_wp2_with fail
 refine (qLen w A (n + 1) c).mono ?_
 rintro e w1 ⟨rfl, rfl⟩
 have hm2 := methSwap w BL A (n + 1) c H.out.cell
 clear hm
 go_wp2_with fail
 refine (qSwap w T A (n + 1) c l H.out.q HN.out 0 n (by omega) (by omega)).mono ?_
 rintro e w2 ⟨rfl, ⟨x1, x2, hx1, hx2, hq2⟩, ho2⟩
 have HQ2 := zh (H.out.turned hq2 ho2)
 have HP2 := zh (swap_perm hx1 hx2)
 have HO2 := zh ho2
 obtain ⟨l2, hl2⟩ : ∃ l2, l2 = (l.set 0 x2).set n x1 := ⟨_, rfl⟩
 rw [← hl2] at HQ2 HP2
 clear hx1 hx2 hq2 ho2 hm2 hl2
 go_wp2_with fail
 refine (heapDown T BL la w2 A (n + 1) c l2 HQ2.out (by rw [HP2.out.length_eq]; exact HN.out) (fun e he => HS.out e (HP2.out.mem_iff.1 he)) (by omega) n (by omega) 0 (by omega)).mono ?_
 rintro e w3 ⟨⟨z, rfl⟩, ⟨l3, hq3, hp3⟩, ho3⟩
 have HQ3 := zh hq3
 have HP3 := zh (hp3.trans HP2.out)
 have HO3 := zh (HO2.out.trans ho3)
 have hm3 := methPop
 clear hq3 hp3 ho3
 go_wp2_with fail
 rcases nil_or_last l3 with h0 | ⟨l4, e4, h4⟩
 ·
  exfalso
  have h1 := HP3.out.length_eq
  have h2 := HN.out
  rw [h0] at h1
  simp at h1
  omega
 have HL4 := zh (show n = l4.length by
  have h1 := HP3.out.length_eq
  have h2 := HN.out
  rw [h4, List.length_append, List.length_singleton] at h1
  omega)
 rw [h4] at HQ3 HP3
 refine (qPop T BL la w3 A n c l4 e4 HQ3.out HL4.out (by omega)).mono ?_
 rintro e w4 ⟨⟨B, rfl, hok⟩, hq4, ho4⟩
 have HQ4 := zh hq4
 have HOK := zh hok
 have HO4 := zh ((HO3.out.more (Y := fun x => x = BL ∨ rowOf (.slice A n c) = some x) fun x _ e => .inr ((rowOf_len A n (n + 1) c).trans e)).trans (ho4.more fun x _ e => .inl e))
 clear hq4 hok ho4 h4 hm3
 go_wp2_with fail
 go_ret
 exact ⟨l4, e4, ⟨B, rfl, HOK.out⟩, HQ4.out, HP3.out, HO4.out⟩
def candV (k : CKey) : Array Value := #[.int .i64 (k.1 : Int), .int .i64 (k.2.1 : Int), .int .i64 (k.2.2.1 : Int), .int .i64 (k.2.2.2.1 : Int), .int .i64 (k.2.2.2.2.1 : Int), .int .i64 (k.2.2.2.2.2 : Int), .pointer none]
theorem cpart0 (k : CKey) (w : World) : (part 3 (candV k) 0).run Tryz.prog w = .ok (.int .i64 (k.1 : Int)) w := by kernel_rfl
theorem cpart1 (k : CKey) (w : World) : (part 3 (candV k) 1).run Tryz.prog w = .ok (.int .i64 (k.2.1 : Int)) w := by kernel_rfl
theorem cpart2 (k : CKey) (w : World) : (part 128 (candV k) 2).run Tryz.prog w = .ok (.agg #[.int .i64 (k.2.2.1 : Int), .int .i64 (k.2.2.2.1 : Int), .int .i64 (k.2.2.2.2.1 : Int), .int .i64 (k.2.2.2.2.2 : Int)]) w := by kernel_rfl
theorem cpart3 (k : CKey) (w : World) : (part 123 (candV k) 6).run Tryz.prog w = .ok (.pointer none) w := by kernel_rfl
def rkV (a b c d : Nat) : Array Value := #[.int .i64 (a : Int), .int .i64 (b : Int), .int .i64 (c : Int), .int .i64 (d : Int)]
theorem rpart0 (a b c d : Nat) (w : World) : (part 3 (rkV a b c d) 0).run Tryz.prog w = .ok (.int .i64 (a : Int)) w := by kernel_rfl
theorem rpart1 (a b c d : Nat) (w : World) : (part 3 (rkV a b c d) 1).run Tryz.prog w = .ok (.int .i64 (b : Int)) w := by kernel_rfl
theorem rpart2 (a b c d : Nat) (w : World) : (part 3 (rkV a b c d) 2).run Tryz.prog w = .ok (.int .i64 (c : Int)) w := by kernel_rfl
theorem rpart3 (a b c d : Nat) (w : World) : (part 3 (rkV a b c d) 3).run Tryz.prog w = .ok (.int .i64 (d : Int)) w := by kernel_rfl
theorem rkEqIn (w : World) (n : Nat) (a b c d a' b' c' d' : Nat) : (Op.equalIn (n + 2) 128 (.agg (rkV a b c d)) (.agg (rkV a' b' c' d'))).run Tryz.prog w = .ok (decide (a = a' ∧ b = b' ∧ c = c' ∧ d = d')) w := by
 cases hi : Tryz.prog.info? 3 with
 | none =>
  have h : (Tryz.prog.info? 3).isSome = true := by kernel_rfl
  rw [hi] at h
  cases h
 | some i =>
  have hu : Tryz.prog.underlying 128 = some (.array 4 3) := by kernel_rfl
  have h0 := run_equalIn_array (P := Tryz.prog) w (n + 1) (rkV a b c d) (rkV a' b' c' d') hu hi
  refine h0.trans ?_
  have hI := fun (a b : Int) => run_equalIn_int (P := Tryz.prog) w n 3 .i64 .i64 a b Tryz.underlying3
  rw [show List.range 4 = [0, 1, 2, 3] from rfl, show Tryz.prog.cellsOf 3 = 1 by kernel_rfl]
  simp only [Op.eqItems, Sem.run_bind, Nat.mul_one]
  by_cases e1 : a = a'
  ·
   by_cases e2 : b = b'
   ·
    by_cases e3 : c = c'
    ·
     by_cases e4 : d = d'
     · simp [e1, e2, e3, e4, hI, rpart0, rpart1, rpart2, rpart3]
     have e4' : ((d : Int) == (d' : Int)) = false := by simp; omega
     simp [e1, e2, e3, e4, e4', hI, rpart0, rpart1, rpart2, rpart3]
    have e3' : ((c : Int) == (c' : Int)) = false := by simp; omega
    simp [e1, e2, e3, e3', hI, rpart0, rpart1, rpart2, rpart3]
   have e2' : ((b : Int) == (b' : Int)) = false := by simp; omega
   simp [e1, e2, e2', hI, rpart0, rpart1, rpart2, rpart3]
  have e1' : ((a : Int) == (a' : Int)) = false := by simp; omega
  simp [e1, e1', hI, rpart0, rpart1, rpart2, rpart3]
set_option linter.unusedSimpArgs false in
set_option maxRecDepth 100000 in
theorem candEqIn (w : World) (d : Nat) (x y : CKey) : (Op.equalIn (d + 3) 130 (.agg (candV x)) (.agg (candV y))).run Tryz.prog w = .ok (x == y) w := by
 have hu := Tryz.underlying130
 have hs : Tryz.prog.stoodInHeld 130 = false := by kernel_rfl
 have hf : Tryz.prog.underlying 130 = some (.struct (Tryz.prog.fieldsOf 130)) := by kernel_rfl
 have h0 := run_equalIn_struct (P := Tryz.prog) w (d + 2) 130 (candV x) (candV y) hf hs
 refine h0.trans ?_
 have hf2 := hu.symm.trans hf
 simp only [Option.some.injEq, TypeDesc.struct.injEq] at hf2
 rw [← hf2]
 have hI := fun (n : Nat) (a b : Int) => run_equalIn_int (P := Tryz.prog) w n 3 .i64 .i64 a b Tryz.underlying3
 have hP := fun (n : Nat) => run_equalIn_pointer_nil (P := Tryz.prog) w n 123 none (by kernel_rfl)
 have hR := rkEqIn w d x.2.2.1 x.2.2.2.1 x.2.2.2.2.1 x.2.2.2.2.2 y.2.2.1 y.2.2.2.1 y.2.2.2.2.1 y.2.2.2.2.2
 unfold rkV at hR
 obtain ⟨a1, a2, a3, a4, a5, a6⟩ := x
 obtain ⟨b1, b2, b3, b4, b5, b6⟩ := y
 simp only [Op.eqFields, Sem.run_bind, cpart0, cpart1, cpart2, cpart3, Result.andThen_ok]
 simp only at hR
 by_cases e1 : a1 = b1
 ·
  by_cases e2 : a2 = b2
  ·
   by_cases e3 : a3 = b3 ∧ a4 = b4 ∧ a5 = b5 ∧ a6 = b6
   ·
    obtain ⟨e3, e4, e5, e6⟩ := e3
    subst e1 e2 e3 e4 e5 e6
    simp [hI, hP, hR, cpart0, cpart1, cpart2, cpart3]
   have e : ((a1, a2, a3, a4, a5, a6) == (b1, b2, b3, b4, b5, b6)) = false := by
    rw [beq_eq_false_iff_ne]
    intro h
    simp only [Prod.mk.injEq] at h
    exact e3 h.2.2
   rw [e]
   rw [decide_eq_false e3] at hR
   subst e1 e2
   simp [hI, hP, hR, cpart0, cpart1, cpart2, cpart3]
  have e : ((a1, a2, a3, a4, a5, a6) == (b1, b2, b3, b4, b5, b6)) = false := by
   rw [beq_eq_false_iff_ne]
   intro h
   simp only [Prod.mk.injEq] at h
   exact e2 h.2.1
  rw [e]
  have e' : ((a2 : Int) == (b2 : Int)) = false := by simp; omega
  subst e1
  simp [hI, e', cpart0, cpart1, cpart2, cpart3]
 have e : ((a1, a2, a3, a4, a5, a6) == (b1, b2, b3, b4, b5, b6)) = false := by
  rw [beq_eq_false_iff_ne]
  intro h
  simp only [Prod.mk.injEq] at h
  exact e1 h.1
 rw [e]
 have e' : ((a1 : Int) == (b1 : Int)) = false := by simp; omega
 simp [hI, e', cpart0, cpart1, cpart2, cpart3]
theorem candEq (w : World) (x y : CKey) : (Op.equal 130 (.agg (candV x)) (.agg (candV y))).run Tryz.prog w = .ok (x == y) w := candEqIn w 9997 x y
theorem candCheck (w : World) (e : Bool) (k : CKey) : (Instr.checkKey e 10000 130 (.agg (candV k))).run Tryz.prog w = .ok () w := by kernel_rfl
def SMap (w : World) (b : Nat) (L : List CKey) : Prop := ∃ es clock, w.heap[b]? = some (.map es clock) ∧ es.toList.map (fun e => (e.key, e.val)) = L.map fun k => (Value.agg (candV k), Value.bool true)
theorem candAsk (w : World) (k : CKey) : ∀ (es : List MapEntry) (L : List CKey) (i : Nat), es.map (fun e => (e.key, e.val)) = L.map (fun k => (Value.agg (candV k), Value.bool true)) →
    (k ∉ L → (Instr.findAsking 130 (.agg (candV k)) es i).run Tryz.prog w = .ok none w) ∧ (k ∈ L → ∃ j, (Instr.findAsking 130 (.agg (candV k)) es i).run Tryz.prog w = .ok (some (j, .bool true)) w)
 | [], [], i, _ => ⟨fun _ => by simp [Instr.findAsking], fun h => by cases h⟩
 | [], _ :: _, i, h => by simp at h
 | _ :: _, [], i, h => by simp at h
 | e :: es, x :: L, i, h => by
  simp only [List.map_cons, List.cons.injEq, Prod.mk.injEq] at h
  obtain ⟨⟨h1, h2⟩, h3⟩ := h
  obtain ⟨k1, k2⟩ := candAsk w k es L (i + 1) h3
  by_cases hx : k = x
  ·
   subst hx
   refine ⟨fun hn => absurd (by simp) hn, fun _ => ⟨i, ?_⟩⟩
   simp [Instr.findAsking, h1, h2, candEq]
  have hb : (k == x) = false := by simpa using hx
  constructor
  ·
   intro hn
   simp [Instr.findAsking, h1, candEq, hb]
   exact k1 fun h => hn (by simp [h])
  intro hm
  obtain ⟨j, hj⟩ := k2 ((List.mem_cons.1 hm).resolve_left hx)
  exact ⟨j, by simp [Instr.findAsking, h1, candEq, hb]; exact hj⟩
theorem candFind (w : World) (k : CKey) (es : List MapEntry) (L : List CKey) (h : es.map (fun e => (e.key, e.val)) = L.map fun k => (Value.agg (candV k), Value.bool true)) :
    (k ∉ L → (Instr.findKey 130 (.agg (candV k)) es).run Tryz.prog w = .ok none w) ∧ (k ∈ L → ∃ j, (Instr.findKey 130 (.agg (candV k)) es).run Tryz.prog w = .ok (some (j, .bool true)) w) := by
 have hu := Tryz.underlying130
 cases es with
 | nil =>
  cases L with
  | nil => exact ⟨fun _ => by simp [Instr.findKey, run_underlying hu, Instr.findNow], fun h => by cases h⟩
  | cons x L => simp at h
 | cons e es =>
  obtain ⟨k1, k2⟩ := candAsk w k (e :: es) L 0 h
  have hn : ∀ v, Instr.findNow v (.agg (candV k)) (e :: es) 0 = none := fun v => by cases v <;> rfl
  constructor
  ·
   intro h1
   simp [Instr.findKey, run_underlying hu, hn]
   exact k1 h1
  intro h1
  obtain ⟨j, hj⟩ := k2 h1
  exact ⟨j, by simp [Instr.findKey, run_underlying hu, hn]; exact hj⟩
theorem SMap.look {w : World} {b : Nat} {L : List CKey} (h : SMap w b L) (k : CKey) : (Instr.lookup 117 (.map (some b)) (.agg (candV k)) false).run Tryz.prog w = .ok (.bool (decide (k ∈ L))) w := by
 obtain ⟨es, clock, hb, he⟩ := h
 have hu : Tryz.prog.underlying 117 = some (.map 130 4) := by kernel_rfl
 have hz : (zeroValue 4).run Tryz.prog w = .ok (.bool false) w := zeroKB w
 have hg : (getObj b).run Tryz.prog w = .ok (.map es clock) w := by simp [getObj, Sem.run, hb]
 obtain ⟨k1, k2⟩ := candFind w k es.toList L he
 by_cases hm : k ∈ L
 ·
  obtain ⟨j, hj⟩ := k2 hm
  simp [Instr.lookup, run_underlying hu, hg, candCheck, hj, hm]
 simp [Instr.lookup, run_underlying hu, hg, candCheck, k1 hm, hz, hm]
theorem SMap.put {w : World} {b : Nat} {L : List CKey} (h : SMap w b L) {k : CKey} (hk : k ∉ L) : ∃ w', (Instr.mapUpdate 117 (.map (some b)) (.agg (candV k)) (.bool true)).run Tryz.prog w = .ok () w' ∧ SMap w' b (L ++ [k]) ∧ w.grownBy w' (some b) := by
 obtain ⟨es, clock, hb, he⟩ := h
 have hu : Tryz.prog.underlying 117 = some (.map 130 4) := by kernel_rfl
 have hg : (getObj b).run Tryz.prog w = .ok (.map es clock) w := by simp [getObj, Sem.run, hb]
 obtain ⟨k1, _⟩ := candFind w k es.toList L he
 obtain ⟨o, ho⟩ := zE (Obj.map (es.push { key := .agg (candV k), val := .bool true, born := clock }) (clock + 1))
 have hset : (setObj b o).run Tryz.prog w = .ok () (Go.ChangeMaps.setBlock w b o) := by simp [setObj, Sem.run, hb, Go.ChangeMaps.setBlock]
 refine ⟨Go.ChangeMaps.setBlock w b o, ?_, ⟨_, _, by rw [Go.ChangeMaps.heap_setBlock_same hb, ho], ?_⟩, ?_⟩
 · simp [Instr.mapUpdate, run_underlying hu, hg, candCheck, k1 hk, ← ho, hset]
 · simp [he]
 exact ⟨rfl, rfl, rfl, by simp [Go.ChangeMaps.setBlock], fun i _ hi => Go.ChangeMaps.heap_setBlock_other hb _ (fun e => hi (by rw [e]))⟩
theorem SMap.only {w w' : World} {b : Nat} {L : List CKey} {X : Nat → Prop} (h : SMap w b L) (ho : Only w w' X) (hX : ¬ X b) : SMap w' b L := by
 obtain ⟨es, clock, hb, he⟩ := h
 exact ⟨es, clock, (ho.block b (heap_lt hb) hX).trans hb, he⟩
end Go.Proofs.YtjnbjdbndbbanaaGreatDoor
