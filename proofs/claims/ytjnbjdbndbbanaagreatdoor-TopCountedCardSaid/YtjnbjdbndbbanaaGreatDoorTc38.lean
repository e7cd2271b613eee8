/- LisF LisP -/
import Derived.Test.YtjnbjdbndbbanaaGreatDoorTc37
namespace Go.Proofs.YtjnbjdbndbbanaaGreatDoor
open Go.RowKit Go.Maps
theorem step_mapUpdate_run {P : Program} (w : World) {ops : Array Oper} {o : Oper} {a : Act} {K : Act → World → Prop} {Q : Exit → Act → World → Prop} {E : Prop} (hgd : o.guard = none) (t : TypeId) (m k x : Operand)
    (ho : o.op = .mapUpdate t m k x) (vm vk vx : Value) (hm : a.eval m = vm) (hk : a.eval k = vk) (hx : a.eval x = vx) (w' : World) (hr : (Instr.mapUpdate t vm vk vx).run P w = .ok () w') (h : K (a.put o.dst undef) w') :
    if Region.wanted o (yielded ops a.tmps) = true then Oper.wp P o a w K Q else E := by
 have hw : Region.wanted o (yielded ops a.tmps) = true := by simp [Region.wanted, hgd]
 rw [if_pos hw]
 unfold Oper.wp execOp
 simp only [ho, Sem.run_bind, Sem.run_pure, Result.andThen_ok, hm, hk, hx, hr]
 exact h
set_option linter.unusedSimpArgs false in
set_option maxRecDepth 100000 in
set_option maxHeartbeats 8000000 in
theorem lisFirst (C : LC) (hN : NSm C.ns) (tag : Nat → Nat) (w : World) (vq : Value) (vs : List Value) (es : List ((Nat × Nat) × Value)) (D : LD) (h : LM C tag w vq vs es D) (k : CKey) (hk : CIn C.ns k) (hq : D.q.length < 100000000) (hqs : ∀ e ∈ D.q, sizeT e.2 ≤ 100000) (hls : ∀ l ∈ D.ls, l.length ≤ 1000000 ∧ ∀ t ∈ l, sizeT t ≤ 10000) (hwl : ∀ y l, (y, l) ∈ D.wl → l.length ≤ 100000000) (p : Option Addr) :
    Calls Tryz.prog 55 #[.pointer (some ⟨C.BL, 0, none⟩), .agg (ckV k ++ [Value.pointer p]).toArray] w fun e w' => e = .returned (.tuple #[]) ∧ ∃ (tag' : Nat → Nat) (vq' : Value) (es' : List ((Nat × Nat) × Value)) (D' : LD), LM C tag' w' vq' vs es' D' ∧ ((k ∈ D.sn ∧ D' = D) ∨ (k ∉ D.sn ∧ TryR C.ns { D with sn := D.sn ++ [k] } D' k)) ∧ (∀ b, tag b ≠ 0 → tag' b = tag b) ∧ (∀ b, tag' b ≠ 0 → tag b ≠ 0 ∨ w.heap.size ≤ b) ∧ Only w w' (fun b => tag b ≠ 0 ∧ tag b ≠ 8 ∧ tag b ≠ 9) := by
 obtain ⟨a0, a1, r0, r1, r2, r3⟩ := k
 have HN := zh hN
 have HK := zh hk
 have HQ := zh (And.intro hq hqs)
 have HLS := zh hls
 have HWL := zh hwl
 obtain ⟨Bc, hBc⟩ := zE w.heap.size
 obtain ⟨w1, hw1⟩ := zE (w.alloc (.cells #[.int .i64 (a0 : Int), .int .i64 (a1 : Int), .int .i64 (r0 : Int), .int .i64 (r1 : Int), .int .i64 (r2 : Int), .int .i64 (r3 : Int), .pointer none] 130))
 have hb1 : Below w.heap.size w w1 := by rw [hw1]; exact (Below.refl _ _).alloc (Nat.le_refl _) _
 have hz1 : w1.heap.size = Bc + 1 := by rw [hw1, hBc]; simp
 have hg1 : w1.heap[Bc]? = some (.cells #[.int .i64 (a0 : Int), .int .i64 (a1 : Int), .int .i64 (r0 : Int), .int .i64 (r1 : Int), .int .i64 (r2 : Int), .int .i64 (r3 : Int), .pointer none] 130 (0, 0)) := by rw [hw1, hBc]; exact heap_alloc_new _ _
 have hm1 := h.below hb1
 have HM0 := zh h
 have HM1 := zh hm1
 have HB1 := zh hb1
 have HG1 := zh hg1
 have HZ1 := zh hz1
 have HW1 := zh hw1
 have HBC := zh hBc
 have hbl := hm1.blk
 have kb4 : w1.cell? ⟨C.BL, 4, none⟩ = some (.map (some C.BS)) := by simp [World.cell?, hbl, LC.la]
 have d0 : w1.cell? ⟨Bc, 0, none⟩ = some (.int .i64 (a0 : Int)) := by simp [World.cell?, hg1]
 have d1 : w1.cell? ⟨Bc, 1, none⟩ = some (.int .i64 (a1 : Int)) := by simp [World.cell?, hg1]
 have d2 : w1.cell? ⟨Bc, 2, none⟩ = some (.int .i64 (r0 : Int)) := by simp [World.cell?, hg1]
 have d3 : w1.cell? ⟨Bc, 3, none⟩ = some (.int .i64 (r1 : Int)) := by simp [World.cell?, hg1]
 have d4 : w1.cell? ⟨Bc, 4, none⟩ = some (.int .i64 (r2 : Int)) := by simp [World.cell?, hg1]
 have d5 : w1.cell? ⟨Bc, 5, none⟩ = some (.int .i64 (r3 : Int)) := by simp [World.cell?, hg1]
 have d6 : w1.cell? ⟨Bc, 6, none⟩ = some (.pointer none) := by simp [World.cell?, hg1]
 have hlk : ∀ n, (Instr.lookup 117 (.map (some C.BS)) (.agg #[.int .i64 (a0 : Int), .int .i64 (a1 : Int), .int .i64 (r0 : Int), .int .i64 (r1 : Int), .int .i64 (r2 : Int), .int .i64 (r3 : Int), .pointer none]) false).run Tryz.prog (w1.drewN n) = .ok (.bool (decide ((a0, a1, r0, r1, r2, r3) ∈ D.sn))) (w1.drewN n) := fun n => (hm1.sn.only (Only.drewN w1 n (fun _ => False)) id).look (a0, a1, r0, r1, r2, r3)
 clear hb1 hg1 hz1 hbl hm1 h hN hk hq hqs hls hwl hBc
 unfold ckV
 simp only [List.cons_append, List.nil_append]
 by_cases hin : (a0, a1, r0, r1, r2, r3) ∈ D.sn
 ·
  rw [decide_eq_true hin] at hlk
  have HIN := zh hin
  clear hin
  go_enter Tryz.func55, Tryz.ntmps55
  go_wp2_with fail
  rw [← hw1, ← HBC.out]
  clear hw1
  go_quiet (fail)
  obtain ⟨w2, hw2⟩ := zE (w1.drewN nq)
  have HB2 := zh (show Below w1.heap.size w1 w2 by rw [hw2]; exact drewN_below _ _)
  rw [← hw2]
  clear hw2 hlk d0 d1 d2 d3 d4 d5 d6 kb4
  go_wp2_with fail
  exact Go.bodyPost_end (v := .tuple #[]) (by simp [results, Tryz.results55, go_sem]) rfl ⟨rfl, tag, vq, es, D, HM1.out.below HB2.out, .inl ⟨HIN.out, rfl⟩, fun _ _ => rfl, fun _ h => .inl h, (Only.of_below HB1.out (Nat.le_refl _) _).trans (.of_below HB2.out (Nat.le_refl _) _)⟩
 rw [decide_eq_false hin] at hlk
 have HIN := zh hin
 clear hin
 go_enter Tryz.func55, Tryz.ntmps55
 go_wp2_with fail
 rw [← hw1, ← HBC.out]
 clear hw1
 go_quiet (fail)
 obtain ⟨w2, hw2⟩ := zE (w1.drewN nq)
 have HB2 := zh (show Below w1.heap.size w1 w2 by rw [hw2]; exact drewN_below _ _)
 have HZ2 := zh (show w2.heap.size = w1.heap.size by rw [hw2]; rfl)
 have HE2 := zh (show ∀ u : World, (∀ b : Nat, b = Bc ∨ b = C.BL → u.heap[b]? = w1.heap[b]?) → (u.cell? ⟨C.BL, 4, none⟩ = some (.map (some C.BS)) ∧ u.cell? ⟨Bc, 0, none⟩ = some (.int .i64 (a0 : Int)) ∧ u.cell? ⟨Bc, 1, none⟩ = some (.int .i64 (a1 : Int)) ∧ u.cell? ⟨Bc, 2, none⟩ = some (.int .i64 (r0 : Int)) ∧ u.cell? ⟨Bc, 3, none⟩ = some (.int .i64 (r1 : Int)) ∧ u.cell? ⟨Bc, 4, none⟩ = some (.int .i64 (r2 : Int)) ∧ u.cell? ⟨Bc, 5, none⟩ = some (.int .i64 (r3 : Int)) ∧ u.cell? ⟨Bc, 6, none⟩ = some (.pointer none)) from fun u hu => by
  have h1 := hu Bc (.inl rfl)
  have h2 := hu C.BL (.inr rfl)
  refine ⟨?_, ?_, ?_, ?_, ?_, ?_, ?_, ?_⟩
  · rw [World.cell?_of_block h2]; exact kb4
  · rw [World.cell?_of_block h1]; exact d0
  · rw [World.cell?_of_block h1]; exact d1
  · rw [World.cell?_of_block h1]; exact d2
  · rw [World.cell?_of_block h1]; exact d3
  · rw [World.cell?_of_block h1]; exact d4
  · rw [World.cell?_of_block h1]; exact d5
  rw [World.cell?_of_block h1]; exact d6)
 rw [← hw2]
 have HW2 := zh (show ∀ b : Nat, w2.heap[b]? = w1.heap[b]? by rw [hw2]; exact fun _ => rfl)
 clear hw2 hlk d0 d1 d2 d3 d4 d5 d6 kb4
 go_wp2_with fail
 refine wp_region_late (late := []) (S := fun _ => True) (S1 := fun u => u.cell? ⟨C.BL, 4, none⟩ = some (.map (some C.BS)) ∧ u.cell? ⟨Bc, 0, none⟩ = some (.int .i64 (a0 : Int)) ∧ u.cell? ⟨Bc, 1, none⟩ = some (.int .i64 (a1 : Int)) ∧ u.cell? ⟨Bc, 2, none⟩ = some (.int .i64 (r0 : Int)) ∧ u.cell? ⟨Bc, 3, none⟩ = some (.int .i64 (r1 : Int)) ∧ u.cell? ⟨Bc, 4, none⟩ = some (.int .i64 (r2 : Int)) ∧ u.cell? ⟨Bc, 5, none⟩ = some (.int .i64 (r3 : Int)) ∧ u.cell? ⟨Bc, 6, none⟩ = some (.pointer none)) (by kernel_rfl) ?_
 obtain ⟨w3, hw3⟩ := zE w2.drew
 have HB3 := zh (show Below w1.heap.size w1 w3 by rw [hw3]; exact HB2.out.drew)
 have HW3 := zh (show ∀ b : Nat, w3.heap[b]? = w1.heap[b]? by rw [hw3]; exact HW2.out)
 have HZ3 := zh (show w3.heap.size = w1.heap.size by rw [hw3]; exact HZ2.out)
 rw [← hw3]
 clear hw3
 obtain ⟨w4, hrun, hm4, hon4⟩ := (HM1.out.below HB3.out).know HIN.out
 unfold candV at hrun
 simp only at hrun
 have HRUN := zh hrun
 have HM4 := zh hm4
 have HON4 := zh hon4
 have HTL := zh (show ∀ b, tag b ≠ 0 → b < Bc from fun b hb => by have := HM0.out.lt b hb; have := HBC.out; omega)
 have HE4 := zh (show ∀ b : Nat, b = Bc ∨ b = C.BL → w4.heap[b]? = w1.heap[b]? from fun b e => by
  refine (hon4.block b ?_ ?_).trans (HW3.out b)
  ·
   rw [HZ3.out, HZ1.out]
   rcases e with e | e
   · omega
   have := HTL.out C.BL (by rw [HM0.out.tL]; decide); omega
  intro e6
  rcases e with e | e
  · subst e; have := HTL.out b (by omega); omega
  subst e; have := HM0.out.tL; omega)
 clear hrun hm4 hon4
 refine zP (i := 0) rfl (fun u hu => by obtain ⟨b4, d0, d1, d2, d3, d4, d5, d6⟩ := hu; go_simp; try rfl) (HE2.out _ fun b _ => HW3.out b) zt ?_
 simp only [Act.put, zA, zB, zC, zD, zF, zG]
 refine zP (i := 1) rfl (fun u hu => by obtain ⟨b4, d0, d1, d2, d3, d4, d5, d6⟩ := hu; go_simp; try rfl) (HE2.out _ fun b _ => HW3.out b) zt ?_
 simp only [Act.put, zA, zB, zC, zD, zF, zG]
 refine zP (i := 2) rfl (fun u hu => by obtain ⟨b4, d0, d1, d2, d3, d4, d5, d6⟩ := hu; go_simp; try rfl) (HE2.out _ fun b _ => HW3.out b) zt ?_
 simp only [Act.put, zA, zB, zC, zD, zF, zG]
 refine zP (i := 3) rfl (fun u hu => by obtain ⟨b4, d0, d1, d2, d3, d4, d5, d6⟩ := hu; go_simp; try rfl) (HE2.out _ fun b _ => HW3.out b) zt ?_
 simp only [Act.put, zA, zB, zC, zD, zF, zG]
 refine zP (i := 4) rfl (fun u hu => by obtain ⟨b4, d0, d1, d2, d3, d4, d5, d6⟩ := hu; go_simp; try rfl) (HE2.out _ fun b _ => HW3.out b) zt ?_
 simp only [Act.put, zA, zB, zC, zD, zF, zG]
 refine zR 5 rfl (fun K hK => ?_)
 refine step_mapUpdate_run _ (by rfl) _ _ _ _ (by rfl) _ _ _ (by rfl) (by rfl) (by rfl) _ HRUN.out ?_
 simp only [Act.put, zA, zB, zC, zD, zF, zG]
 refine hK.out _ _ (HE2.out _ HE4.out) zt ?_
 clear hK K
 refine wpAnyL_done (by kernel_rfl) ?_ _
 have HD4 := zh (HE2.out _ HE4.out)
 obtain ⟨_, d0, d1, d2, d3, d4, d5, d6⟩ := HD4.out
 go_wp2_with fail
 refine (lisTry C HN.out tag w4 vq vs es { D with sn := D.sn ++ [(a0, a1, r0, r1, r2, r3)] } HM4.out (a0, a1, r0, r1, r2, r3) HK.out HQ.out.1 HQ.out.2 HLS.out HWL.out).mono ?_
 rintro e w5 ⟨rfl, tag', vq', es', D', hm5, ht5, hle5, hor5, hon5⟩
 have HM5 := zh hm5
 have HT5 := zh ht5
 have HLE := zh hle5
 have HOR := zh hor5
 have HON5 := zh hon5
 clear hm5 ht5 hle5 hor5 hon5 d0 d1 d2 d3 d4 d5 d6
 go_wp2_with fail
 refine Go.bodyPost_end (v := .tuple #[]) (by simp [results, Tryz.results55, go_sem]) rfl ⟨rfl, tag', vq', es', D', HM5.out, .inr ⟨HIN.out, HT5.out⟩, HLE.out, fun b hb => ?_, ?_⟩
 ·
  rcases HOR.out b hb with h | h
  · exact .inl h
  refine .inr (Nat.le_trans ?_ h)
  exact Nat.le_trans (Nat.le_trans HB1.out.size HB3.out.size) HON4.out.size
 refine ((Only.of_below HB1.out (Nat.le_refl _) _).trans ((Only.of_below HB3.out (Nat.le_refl _) _).trans (HON4.out.more fun b _ e => ?_))).trans HON5.out
 omega
def cands (D : LD) : List CKey := D.q.map Prod.fst ++ (D.wl.map Prod.snd).flatten
def room (most : Nat) (ls : List (List TreeD)) : Nat := (ls.map fun l => most - l.length).sum
def phi (most : Nat) (D : LD) : Nat := (cands D).length + 5 * room most D.ls
structure NsOk (ns : List NodeD) : Prop where
 sm : NSm ns
 ok : ∀ nd ∈ ns, (nd.1.1 = true → nd.2.2.2 = []) ∧ ∀ p ∈ nd.2.2.2, 0 ≤ p.1 ∧ p.2.length ≤ 4 ∧ ∀ x ∈ p.2, 0 ≤ x ∧ x < (ns.length : Int)
def CB (ns : List NodeD) (most : Nat) (k : CKey) : Prop := ∃ nd p, ns[k.1]? = some nd ∧ nd.2.2.2[k.2.1]? = some p ∧ ∀ (i r : Nat), (rkL k)[i]? = some r → r ≤ most ∧ (p.2.length ≤ i → r = 0)
theorem CB.cin {ns : List NodeD} {most : Nat} {k : CKey} (hn : NsOk ns) (hm : most ≤ 1000000) (h : CB ns most k) : CIn ns k := by
 obtain ⟨nd, p, h1, h2, h3⟩ := h
 obtain ⟨h4, h5, h6⟩ := (hn.ok nd (List.mem_of_getElem? h1)).2 p (List.mem_of_getElem? h2)
 refine ⟨nd, p, h1, h2, h4, h5, h6, fun r hr => ?_⟩
 obtain ⟨i, hi, e⟩ := List.mem_iff_getElem.1 hr
 have := (h3 i r (by rw [List.getElem?_eq_getElem hi, e])).1
 omega
def Grown (ls ls' : List (List TreeD)) : Prop := ∀ (v : Nat) (l : List TreeD), ls[v]? = some l → ∃ l', ls'[v]? = some (l ++ l')
theorem MadeT.mono {ns : List NodeD} {ls ls' : List (List TreeD)} {k : CKey} {t : TreeD} (h : MadeT ns ls k t) (hg : Grown ls ls') : MadeT ns ls' k t := by
 obtain ⟨nd, p, ts, h1, h2, h3, h4, h5⟩ := h
 refine ⟨nd, p, ts, h1, h2, h3, h4, fun i x hx => ?_⟩
 obtain ⟨r, l, t, g1, g2, g3, g4⟩ := h5 i x hx
 obtain ⟨l', g5⟩ := hg _ _ g2
 exact ⟨r, l ++ l', t, g1, g5, by rw [List.getElem?_append_left (List.getElem?_eq_some_iff.1 g3).1]; exact g3, g4⟩
structure LI (ns : List NodeD) (most : Nat) (hist : List (List CKey)) (X : List CKey) (D : LD) : Prop where
 ll : D.ls.length = ns.length
 hl : hist.length = ns.length
 at_ : ∀ (v : Nat) (nd : NodeD) (l : List TreeD) (h : List CKey), ns[v]? = some nd → D.ls[v]? = some l → hist[v]? = some h → (nd.1.1 = true → l = [.node (-1) nd.1.2 []] ∧ h = []) ∧ (nd.1.1 = false → l.length = h.length ∧ ∀ (i : Nat) (k : CKey) (t : TreeD), h[i]? = some k → l[i]? = some t → k.1 = v ∧ MadeT ns D.ls k t)
 lz : ∀ l ∈ D.ls, l.length ≤ most ∧ ∀ t ∈ l, sizeT t ≤ 5000
 qg : ∀ e ∈ D.q, MadeT ns D.ls e.1 e.2 ∧ sizeT e.2 ≤ 40001
 cb : ∀ k ∈ D.sn, CB ns most k
 nd : (X ++ cands D ++ hist.flatten).Nodup
 sub : ∀ k ∈ X ++ cands D ++ hist.flatten, k ∈ D.sn
section
variable {ns : List NodeD} {most : Nat} {hist : List (List CKey)} {X X' : List CKey} {D D' : LD} {k : CKey}
theorem LI.turn (h : LI ns most hist X D) (hls : D'.ls = D.ls) (hsn : D'.sn = D.sn) (hp : (X' ++ cands D').Perm (X ++ cands D)) (hq : ∀ e ∈ D'.q, MadeT ns D.ls e.1 e.2 ∧ sizeT e.2 ≤ 40001) : LI ns most hist X' D' :=
 ⟨hls ▸ h.ll, h.hl, hls ▸ h.at_, hls ▸ h.lz, hls ▸ hq, hsn ▸ h.cb, (hp.append_right _).nodup_iff.2 h.nd, fun k hk => by rw [hsn]; exact h.sub k ((hp.append_right _).mem_iff.1 hk)⟩
theorem addW_perm (x : Nat × Nat) (k : CKey) : ∀ wl : List ((Nat × Nat) × List CKey), ((addW wl x k).map Prod.snd).flatten.Perm (k :: (wl.map Prod.snd).flatten)
 | [] => by simp [addW, putL, lk]
 | p :: wl => by
  unfold addW putL lk
  by_cases e : p.1 = x
  ·
   rw [if_pos e, if_pos e]
   simp only [Option.getD_some, List.map_cons, List.flatten_cons, List.append_assoc]
   exact (List.perm_middle : (p.2 ++ k :: (wl.map Prod.snd).flatten).Perm _)
  rw [if_neg e, if_neg e]
  simp only [List.map_cons, List.flatten_cons]
  exact ((addW_perm x k wl).append_left p.2).trans List.perm_middle
theorem TryR.perm (h : TryR ns D D' k) : (cands D').Perm (k :: cands D) := by
 unfold cands
 rcases h.alt with ⟨t, _, _, h1, h2⟩ | ⟨x, h1, h2⟩
 ·
  rw [h2]
  have h3 := (h1.map Prod.fst).append_right (D.wl.map Prod.snd).flatten
  refine h3.trans ?_
  rw [List.map_append, List.append_assoc]
  exact List.perm_middle
 rw [h1, h2]
 exact ((addW_perm x k D.wl).append_left _).trans List.perm_middle
theorem TryR.keep (h : TryR ns D D' k) (hI : LI ns most hist (k :: X) D) : LI ns most hist X D' ∧ (cands D').length = (cands D).length + 1 := by
 refine ⟨hI.turn h.ls h.sn ((h.perm.append_left X).trans List.perm_middle) fun e he => ?_, by rw [h.perm.length_eq]; rfl⟩
 rcases h.alt with ⟨t, h1, h2, h3, _⟩ | ⟨x, h1, _⟩
 ·
  rcases List.mem_append.1 (h3.mem_iff.1 he) with h4 | h4
  · exact hI.qg e h4
  rw [List.mem_singleton.1 h4]
  exact ⟨h1, h2⟩
 rw [h1] at he
 exact hI.qg e he
theorem LI.know (h : LI ns most hist X D) (hk : k ∉ D.sn) (hc : CB ns most k) : LI ns most hist (k :: X) { D with sn := D.sn ++ [k] } := by
 refine ⟨h.ll, h.hl, h.at_, h.lz, h.qg, fun x hx => ?_, ?_, fun x hx => ?_⟩
 ·
  rcases List.mem_append.1 hx with h1 | h1
  · exact h.cb x h1
  rw [List.mem_singleton.1 h1]; exact hc
 ·
  rw [List.cons_append, List.cons_append, List.nodup_cons]
  exact ⟨fun hm => hk (h.sub k hm), h.nd⟩
 rw [List.cons_append, List.cons_append, List.mem_cons] at hx
 refine List.mem_append.2 ?_
 rcases hx with h1 | h1
 · exact .inr (by rw [h1]; simp)
 exact .inl (h.sub x h1)
theorem LI.pop (h : LI ns most hist X D) {q' : List QEl} {e : QEl} (hp : (q' ++ [e]).Perm D.q) : LI ns most hist (e.1 :: X) { D with q := q' } ∧ phi most { D with q := q' } + 1 = phi most D ∧ MadeT ns D.ls e.1 e.2 ∧ e.1 ∈ D.sn := by
 have hm := hp.map Prod.fst
 rw [List.map_append] at hm
 have hc : (cands D).Perm (e.1 :: cands { D with q := q' }) := by
  unfold cands
  refine (hm.symm.append_right _).trans ?_
  rw [List.append_assoc]
  exact List.perm_middle
 refine ⟨h.turn rfl rfl ?_ fun a ha => h.qg a (hp.mem_iff.1 (List.mem_append_left _ ha)), ?_, (h.qg e (hp.mem_iff.1 (by simp))).1, h.sub _ (by
  refine List.mem_append_left _ (List.mem_append_right _ ?_)
  exact hc.mem_iff.2 (by simp))⟩
 · exact (List.perm_middle.symm).trans (hc.symm.append_left X)
 unfold phi
 rw [hc.length_eq, List.length_cons]
 show _ + 5 * room most D.ls + 1 = _
 omega
theorem LI.skip (h : LI ns most hist (k :: X) D) : LI ns most hist X D := by
 have h1 := h.nd
 rw [List.cons_append, List.cons_append, List.nodup_cons] at h1
 exact ⟨h.ll, h.hl, h.at_, h.lz, h.qg, h.cb, h1.2, fun x hx => h.sub x (by rw [List.cons_append, List.cons_append]; exact List.mem_cons_of_mem _ hx)⟩
theorem flatten_set {α : Type} {k : α} : ∀ {l : List (List α)} {v : Nat} {h : List α}, l[v]? = some h → (l.set v (h ++ [k])).flatten.Perm (k :: l.flatten)
 | [], v, h, e => by simp at e
 | a :: l, 0, h, e => by
  simp only [List.getElem?_cons_zero, Option.some.injEq] at e
  subst e
  simp only [List.set_cons_zero, List.flatten_cons, List.append_assoc]
  exact List.perm_middle
 | a :: l, v + 1, h, e => by
  simp only [List.set_cons_succ, List.flatten_cons]
  exact ((flatten_set (l := l) (v := v) (by simpa using e)).append_left a).trans List.perm_middle
theorem room_set {l : List TreeD} {t : TreeD} : ∀ {ls : List (List TreeD)} {v : Nat}, ls[v]? = some l → l.length < most → room most (ls.set v (l ++ [t])) + 1 = room most ls
 | [], v, e, _ => by simp at e
 | a :: ls, 0, e, hl => by
  simp only [List.getElem?_cons_zero, Option.some.injEq] at e
  subst e
  simp only [room, List.set_cons_zero, List.map_cons, List.sum_cons, List.length_append, List.length_singleton]
  omega
 | a :: ls, v + 1, e, hl => by
  have := room_set (t := t) (ls := ls) (v := v) (by simpa using e) hl
  simp only [room, List.set_cons_succ, List.map_cons, List.sum_cons] at this ⊢
  omega
theorem Grown.set {ls : List (List TreeD)} {v : Nat} {l m : List TreeD} (h : ls[v]? = some l) : Grown ls (ls.set v (l ++ m)) := fun u l' hu => by
 by_cases e : v = u
 ·
  subst e
  obtain rfl : l' = l := Option.some.inj (hu.symm.trans h)
  exact ⟨m, by rw [List.getElem?_set, if_pos rfl, if_pos (List.getElem?_eq_some_iff.1 h).1]⟩
 exact ⟨[], by rw [List.getElem?_set, if_neg e, List.append_nil]; exact hu⟩
theorem LI.add (hn : NsOk ns) (h : LI ns most hist (k :: X) D) {t : TreeD} {l : List TreeD} (ht : MadeT ns D.ls k t) (hl : D.ls[k.1]? = some l) (hlen : l.length < most) (hs : sizeT t ≤ 5000) : ∃ hist', LI ns most hist' X { D with ls := D.ls.set k.1 (l ++ [t]) } ∧ phi most { D with ls := D.ls.set k.1 (l ++ [t]) } + 5 = phi most D := by
 have hg : Grown D.ls (D.ls.set k.1 (l ++ [t])) := Grown.set hl
 have hvl := (List.getElem?_eq_some_iff.1 hl).1
 obtain ⟨hv, hh⟩ : ∃ hv, hist[k.1]? = some hv := ⟨_, List.getElem?_eq_getElem (by rw [h.hl, ← h.ll]; exact hvl)⟩
 have hhl := (List.getElem?_eq_some_iff.1 hh).1
 obtain ⟨nd0, p0, ts0, e1, e2, _, _⟩ := id ht
 have hnt : nd0.1.1 = false := by
  cases e : nd0.1.1 with
  | false => rfl
  | true => rw [(hn.ok nd0 (List.mem_of_getElem? e1)).1 e] at e2; simp at e2
 refine ⟨hist.set k.1 (hv ++ [k]), ⟨by rw [List.length_set]; exact h.ll, by rw [List.length_set]; exact h.hl, fun v nd m g h1 h2 h3 => ?_, fun m hm => ?_, fun e he => ⟨(h.qg e he).1.mono hg, (h.qg e he).2⟩, h.cb, ?_, fun x hx => ?_⟩, ?_⟩
 ·
  by_cases e : k.1 = v
  ·
   subst e
   rw [List.getElem?_set, if_pos rfl, if_pos hvl] at h2
   rw [List.getElem?_set, if_pos rfl, if_pos hhl] at h3
   obtain rfl := Option.some.inj h2
   obtain rfl := Option.some.inj h3
   obtain rfl : nd = nd0 := Option.some.inj (h1.symm.trans e1)
   refine ⟨fun e => (by rw [hnt] at e; cases e), fun _ => ?_⟩
   obtain ⟨g1, g2⟩ := (h.at_ _ _ _ _ h1 hl hh).2 hnt
   refine ⟨by rw [List.length_append, List.length_append, g1]; rfl, fun i k' t' hi hi' => ?_⟩
   by_cases hlt : i < hv.length
   ·
    rw [List.getElem?_append_left hlt] at hi
    rw [List.getElem?_append_left (by omega)] at hi'
    obtain ⟨a, b⟩ := g2 i k' t' hi hi'
    exact ⟨a, b.mono hg⟩
   rw [List.getElem?_append_right (by omega)] at hi
   rw [List.getElem?_append_right (by omega), g1] at hi'
   obtain ⟨d, hd⟩ := zE (i - hv.length)
   rw [← hd] at hi hi'
   cases d with
   | zero =>
    obtain rfl := Option.some.inj hi
    obtain rfl := Option.some.inj hi'
    exact ⟨rfl, ht.mono hg⟩
   | succ d => cases hi
  rw [List.getElem?_set, if_neg e] at h2
  rw [List.getElem?_set, if_neg e] at h3
  obtain ⟨g1, g2⟩ := h.at_ v nd m g h1 h2 h3
  exact ⟨g1, fun hf => ⟨(g2 hf).1, fun i k' t' hi hi' => ⟨((g2 hf).2 i k' t' hi hi').1, ((g2 hf).2 i k' t' hi hi').2.mono hg⟩⟩⟩
 ·
  rcases List.mem_or_eq_of_mem_set hm with h1 | h1
  · exact h.lz m h1
  subst h1
  refine ⟨by rw [List.length_append]; exact hlen, fun x hx => ?_⟩
  rcases List.mem_append.1 hx with h2 | h2
  · exact (h.lz l (List.mem_of_getElem? hl)).2 x h2
  rw [List.mem_singleton.1 h2]; exact hs
 ·
  have hp : (X ++ cands D ++ (hist.set k.1 (hv ++ [k])).flatten).Perm (k :: X ++ cands D ++ hist.flatten) := ((flatten_set hh).append_left _).trans List.perm_middle
  exact hp.nodup_iff.2 h.nd
 ·
  have hp : (X ++ cands D ++ (hist.set k.1 (hv ++ [k])).flatten).Perm (k :: X ++ cands D ++ hist.flatten) := ((flatten_set hh).append_left _).trans List.perm_middle
  exact h.sub x (hp.mem_iff.1 hx)
 have := room_set (most := most) (t := t) hl hlen
 unfold phi
 show (cands D).length + 5 * room most (D.ls.set k.1 (l ++ [t])) + 5 = _
 omega
theorem filter_flat {x : Nat × Nat} : ∀ {wl : List ((Nat × Nat) × List CKey)}, (wl.map Prod.fst).Nodup → ((lk wl x).getD [] ++ ((wl.filter fun p => decide (p.1 ≠ x)).map Prod.snd).flatten).Perm (wl.map Prod.snd).flatten
 | [], _ => by simp [lk]
 | p :: wl, h => by
  rw [List.map_cons, List.nodup_cons] at h
  unfold lk
  by_cases e : p.1 = x
  ·
   rw [if_pos e, List.filter_cons, if_neg (by simp [e])]
   have hf : wl.filter (fun p => decide (p.1 ≠ x)) = wl := by
    rw [List.filter_eq_self]
    intro q hq
    simp only [decide_eq_true_eq]
    intro e2
    exact h.1 (List.mem_map.2 ⟨q, hq, e2.trans e.symm⟩)
   rw [hf]
   exact List.Perm.refl _
  rw [if_neg e, List.filter_cons, if_pos (by simp [e])]
  simp only [List.map_cons, List.flatten_cons]
  have h1 := (filter_flat (x := x) h.2).append_left p.2
  refine List.Perm.trans ?_ h1
  rw [← List.append_assoc, ← List.append_assoc]
  exact List.perm_append_comm.append_right _
theorem LI.wake (h : LI ns most hist X D) (x : Nat × Nat) (hk : (D.wl.map Prod.fst).Nodup) : LI ns most hist ((lk D.wl x).getD [] ++ X) { D with wl := D.wl.filter fun p => decide (p.1 ≠ x) } ∧ phi most { D with wl := D.wl.filter fun p => decide (p.1 ≠ x) } + ((lk D.wl x).getD []).length = phi most D := by
 have hp := filter_flat (x := x) hk
 refine ⟨h.turn rfl rfl ?_ h.qg, ?_⟩
 ·
  unfold cands
  show ((lk D.wl x).getD [] ++ X ++ (D.q.map Prod.fst ++ _)).Perm (X ++ (D.q.map Prod.fst ++ _))
  refine List.Perm.trans ?_ ((hp.append_left (D.q.map Prod.fst)).append_left X)
  have a1 : ∀ (A B : List CKey), (A ++ B).Perm (B ++ A) := fun A B => List.perm_append_comm
  simp only [← List.append_assoc]
  refine List.Perm.append_right _ ?_
  simp only [List.append_assoc]
  rw [← List.append_assoc X]
  exact a1 _ _
 unfold phi cands
 show (D.q.map Prod.fst ++ ((D.wl.filter fun p => decide (p.1 ≠ x)).map Prod.snd).flatten).length + 5 * room most D.ls + _ = _
 have := hp.length_eq
 rw [List.length_append] at this
 rw [List.length_append, List.length_append]
 show _ + _ + _ + _ = _ + (D.wl.map Prod.snd).flatten.length + 5 * room most D.ls
 omega
theorem flatten_le {α : Type} : ∀ {ls : List (List α)} {l : List α}, l ∈ ls → l.length ≤ ls.flatten.length
 | a :: ls, l, h => by
  rw [List.flatten_cons, List.length_append]
  rcases List.mem_cons.1 h with rfl | h
  · omega
  have := flatten_le h; omega
theorem LI.ask (h : LI ns most hist X D) (hm : most ≤ 1000) (hp : phi most D ≤ 20000000) : D.q.length < 100000000 ∧ (∀ e ∈ D.q, sizeT e.2 ≤ 100000) ∧ (∀ l ∈ D.ls, l.length ≤ 1000000 ∧ ∀ t ∈ l, sizeT t ≤ 10000) ∧ ∀ y l, (y, l) ∈ D.wl → l.length ≤ 100000000 := by
 unfold phi cands at hp
 rw [List.length_append, List.length_map] at hp
 refine ⟨by omega, fun e he => by have := (h.qg e he).2; omega, fun l hl => ⟨by have := (h.lz l hl).1; omega, fun t ht => by have := (h.lz l hl).2 t ht; omega⟩, fun y l hl => ?_⟩
 have := flatten_le (ls := D.wl.map Prod.snd) (l := l) (List.mem_map.2 ⟨_, hl, rfl⟩)
 omega
end
def bump (k : CKey) (i : Nat) : CKey := match i with
 | 0 => (k.1, k.2.1, k.2.2.1 + 1, k.2.2.2.1, k.2.2.2.2.1, k.2.2.2.2.2)
 | 1 => (k.1, k.2.1, k.2.2.1, k.2.2.2.1 + 1, k.2.2.2.2.1, k.2.2.2.2.2)
 | 2 => (k.1, k.2.1, k.2.2.1, k.2.2.2.1, k.2.2.2.2.1 + 1, k.2.2.2.2.2)
 | _ => (k.1, k.2.1, k.2.2.1, k.2.2.2.1, k.2.2.2.2.1, k.2.2.2.2.2 + 1)
theorem rkL_bump {k : CKey} {i j r : Nat} (hi : i < 4) (h : (rkL (bump k i))[j]? = some r) : if i = j then ∃ s, (rkL k)[j]? = some s ∧ r = s + 1 else (rkL k)[j]? = some r := by
 have hj : j < 4 := (List.getElem?_eq_some_iff.1 h).1
 rcases i with _ | _ | _ | _ | i
 ·
  rcases j with _ | _ | _ | _ | j
  · exact ⟨_, rfl, (Option.some.inj h).symm⟩
  · exact h
  · exact h
  · exact h
  omega
 ·
  rcases j with _ | _ | _ | _ | j
  · exact h
  · exact ⟨_, rfl, (Option.some.inj h).symm⟩
  · exact h
  · exact h
  omega
 ·
  rcases j with _ | _ | _ | _ | j
  · exact h
  · exact h
  · exact ⟨_, rfl, (Option.some.inj h).symm⟩
  · exact h
  omega
 ·
  rcases j with _ | _ | _ | _ | j
  · exact h
  · exact h
  · exact h
  · exact ⟨_, rfl, (Option.some.inj h).symm⟩
  omega
 omega
theorem bump_fst (k : CKey) (i : Nat) : (bump k i).1 = k.1 ∧ (bump k i).2.1 = k.2.1 := by
 rcases i with _ | _ | _ | i <;> exact ⟨rfl, rfl⟩
theorem CB.bump {ns : List NodeD} {most : Nat} {k : CKey} {ls : List (List TreeD)} {t : TreeD} (h : CB ns most k) (ht : MadeT ns ls k t) (hl : ∀ l ∈ ls, l.length ≤ most) {nd : NodeD} {p : PackD} (hnd : ns[k.1]? = some nd) (hp : nd.2.2.2[k.2.1]? = some p) {i : Nat} (hi : i < p.2.length) (h4 : p.2.length ≤ 4) : CB ns most (bump k i) := by
 obtain ⟨nd', p', h1, h2, h3⟩ := h
 obtain rfl : nd' = nd := Option.some.inj (h1.symm.trans hnd)
 obtain rfl : p' = p := Option.some.inj (h2.symm.trans hp)
 obtain ⟨nd2, p2, ts, e1, e2, _, e3⟩ := ht
 obtain rfl : nd2 = nd' := Option.some.inj (e1.symm.trans hnd)
 obtain rfl : p2 = p' := Option.some.inj (e2.symm.trans hp)
 obtain ⟨b1, b2⟩ := bump_fst k i
 refine ⟨nd2, p2, by rw [b1]; exact hnd, by rw [b2]; exact hp, fun j r hj => ?_⟩
 have hb := rkL_bump (by omega) hj
 split at hb
 ·
  next e =>
  subst e
  obtain ⟨s, hs, rfl⟩ := hb
  obtain ⟨r, l, t, g1, g2, g3, g4⟩ := e3.2 i _ (List.getElem?_eq_getElem hi)
  obtain rfl : r = s := Option.some.inj (g1.symm.trans hs)
  have := (List.getElem?_eq_some_iff.1 g3).1
  have := hl l (List.mem_of_getElem? g2)
  exact ⟨by omega, fun h => by omega⟩
 exact h3 j r hb
end Go.Proofs.YtjnbjdbndbbanaaGreatDoor
