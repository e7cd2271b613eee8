/- LisT -/
import Derived.Test.YtjnbjdbndbbanaaGreatDoorTc36
namespace Go.Proofs.YtjnbjdbndbbanaaGreatDoor
open Go.RowKit Go.Maps
def rkL (k : CKey) : List Nat := [k.2.2.1, k.2.2.2.1, k.2.2.2.2.1, k.2.2.2.2.2]
def KidsR (ls : List (List TreeD)) (ks : List Int) (rs : List Nat) (ts : List TreeD) : Prop := ts.length = ks.length ∧ ∀ (i : Nat) (x : Int), ks[i]? = some x → ∃ r l t, rs[i]? = some r ∧ ls[x.toNat]? = some l ∧ l[r]? = some t ∧ ts[i]? = some t
def MadeT (ns : List NodeD) (ls : List (List TreeD)) (k : CKey) (t : TreeD) : Prop := ∃ nd p ts, ns[k.1]? = some nd ∧ nd.2.2.2[k.2.1]? = some p ∧ t = .node p.1 0 ts ∧ KidsR ls p.2 (rkL k) ts
structure TryR (ns : List NodeD) (D D' : LD) (k : CKey) : Prop where
 ls : D'.ls = D.ls
 sn : D'.sn = D.sn
 alt : (∃ t, MadeT ns D.ls k t ∧ sizeT t ≤ 40001 ∧ D'.q.Perm (D.q ++ [(k, t)]) ∧ D'.wl = D.wl) ∨ ∃ x, D'.q = D.q ∧ D'.wl = addW D.wl x k
def CIn (ns : List NodeD) (k : CKey) : Prop := ∃ nd p, ns[k.1]? = some nd ∧ nd.2.2.2[k.2.1]? = some p ∧ 0 ≤ p.1 ∧ p.2.length ≤ 4 ∧ (∀ x ∈ p.2, 0 ≤ x ∧ x < (ns.length : Int)) ∧ ∀ r ∈ rkL k, r ≤ 1000000
structure NSm (ns : List NodeD) : Prop where
 few : ns.length ≤ 1000000
 pk : ∀ nd ∈ ns, nd.2.2.2.length ≤ 1000000
theorem KidsR.nil (ls : List (List TreeD)) (rs : List Nat) : KidsR ls [] rs [] := ⟨rfl, fun i x h => by simp at h⟩
theorem KidsR.snoc {ls : List (List TreeD)} {ks : List Int} {rs : List Nat} {ts : List TreeD} {i : Nat} {x : Int} {r : Nat} {l : List TreeD} {t : TreeD} (h : KidsR ls (ks.take i) rs ts) (hx : ks[i]? = some x) (hr : rs[i]? = some r) (hl : ls[x.toNat]? = some l) (ht : l[r]? = some t) : KidsR ls (ks.take (i + 1)) rs (ts ++ [t]) := by
 have hi : i < ks.length := (List.getElem?_eq_some_iff.1 hx).1
 have hlt : (ks.take i).length = i := by rw [List.length_take]; omega
 have htl : ts.length = i := h.1.trans hlt
 rw [List.take_add_one, hx, Option.toList_some]
 refine ⟨by rw [List.length_append, List.length_append, h.1]; rfl, fun j y hj => ?_⟩
 by_cases hji : j < i
 ·
  rw [List.getElem?_append_left (by omega)] at hj
  obtain ⟨r', l', t', h1, h2, h3, h4⟩ := h.2 j y hj
  exact ⟨r', l', t', h1, h2, h3, by rw [List.getElem?_append_left (by omega)]; exact h4⟩
 rw [List.getElem?_append_right (by omega), hlt] at hj
 obtain ⟨d, hd⟩ := zE (j - i)
 rw [← hd] at hj
 cases d with
 | zero =>
  obtain rfl : j = i := by omega
  obtain rfl := Option.some.inj hj
  exact ⟨r, l, t, hr, hl, ht, by rw [List.getElem?_append_right (by omega), htl, Nat.sub_self]; rfl⟩
 | succ d => cases hj
structure TK (T : Nat → Prop) (w0 Bt : Nat) (r : Int) (w : World) (v : Value) (ts : List TreeD) : Prop where
 blk : w.heap[Bt]? = some (.cells #[.int .i64 r, .int .i64 0, .int .i64 ((1 + sizeTs ts : Nat) : Int), v] 126 (0, 0))
 own : ∃ xs, Own w 0 123 1 v ts.length xs ∧ Cells RPt w T xs ts
 row : ∀ g, rowOf v = some g → w0 ≤ g ∧ g ≠ Bt
theorem sizeTs_snoc (ts : List TreeD) (t : TreeD) : sizeTs (ts ++ [t]) = sizeTs ts + sizeT t := by
 induction ts with
 | nil => rw [List.nil_append, sizeTs_cons, sizeTs_nil, Nat.add_comm]
 | cons a l ih => rw [List.cons_append, sizeTs_cons, sizeTs_cons, ih]; omega
section
variable {T : Nat → Prop} {w0 Bt : Nat} {r : Int} {w w' : World} {v : Value} {ts : List TreeD}
theorem TK.only {X : Nat → Prop} (h : TK T w0 Bt r w v ts) (ho : Only w w' X) (hT : ∀ b, T b → ¬ X b) (hB : ¬ X Bt) (hv : ∀ g, rowOf v = some g → ¬ X g) : TK T w0 Bt r w' v ts := by
 obtain ⟨xs, h1, h2⟩ := h.own
 exact ⟨(ho.block _ (heap_lt h.blk) hB).trans h.blk, ⟨xs, h1.sameB fun g e => ho.block g (h1.row e).2 (hv g e), h2.keep (ho.kept hT)⟩, h.row⟩
theorem TK.below (h : TK T w0 Bt r w v ts) (hb : Below w.heap.size w w') : TK T w0 Bt r w' v ts := h.only (X := fun _ => False) (.of_below hb (Nat.le_refl _) _) (fun _ _ => id) id fun _ _ => id
theorem TK.push (h : TK T w0 Bt r w v ts) (hT : ∀ b, T b → b < w0) (h0 : w0 ≤ Bt) {B : Nat} {t : TreeD} (hx : RPt.ok w T [.pointer (some ⟨B, 0, none⟩)] t) (hl : ts.length ≤ 100) (ty : TypeId) :
    ∃ A' c' w', (Builtin.append_ #[124, 124] ty #[v, .slice (some ⟨w.heap.size, 0, none⟩) 1 1]).run Tryz.prog (w.alloc (.cells #[.pointer (some ⟨B, 0, none⟩)] 123)) = .ok (.slice A' (ts.length + 1) c') w' ∧
     (w'.cell? ⟨Bt, 3, none⟩ = some v ∧ w'.frozen? ⟨Bt, 3, none⟩ = false) ∧ (w'.setCell ⟨Bt, 3, none⟩ (.slice A' (ts.length + 1) c')).heap[Bt]? = some (.cells #[.int .i64 r, .int .i64 0, .int .i64 ((1 + sizeTs ts : Nat) : Int), .slice A' (ts.length + 1) c'] 126 (0, 0)) ∧
     Only w (w'.setCell ⟨Bt, 3, none⟩ (.slice A' (ts.length + 1) c')) (fun b => w0 ≤ b) ∧ ∀ z : Int, z = ((1 + sizeTs (ts ++ [t]) : Nat) : Int) → TK T w0 Bt r ((w'.setCell ⟨Bt, 3, none⟩ (.slice A' (ts.length + 1) c')).setCell ⟨Bt, 2, none⟩ (.int .i64 z)) (.slice A' (ts.length + 1) c') (ts ++ [t]) := by
 obtain ⟨xs, h1, h2⟩ := h.own
 have hlt := heap_lt h.blk
 have hr : Rd (w.alloc (.cells #[.pointer (some ⟨B, 0, none⟩)] 123)) (fun _ => True) 1 (some ⟨w.heap.size, 0, none⟩) 1 [.pointer (some ⟨B, 0, none⟩)] := by
  refine ⟨rfl, fun _ => ⟨w.heap.size, 0, rfl, trivial, fun j u hu => ?_⟩⟩
  rw [World.cell?_alloc_at _ _ _ _ rfl]
  simpa using hu
 obtain ⟨v', w', hrun, ho, hg, hrow⟩ := run_append_Own tTreeP (w.alloc (.cells #[.pointer (some ⟨B, 0, none⟩)] 123)) ty 0 v ts.length xs (h1.alloc _) _ _ 1 1 _ hr (RPt.one hx) (by unfold maxLen; omega) (by omega) (Nat.zero_le _)
 obtain ⟨A', c', rfl, _, _⟩ := ho.form
 have hal : Only w w' (fun b => rowOf v = some b) := (Only.alloc w _ _).trans (.of_grown hg fun b e => e)
 have hB' := (hal.block Bt hlt fun e => (h.row _ e).2 rfl).trans h.blk
 have hrowN : ∀ g, rowOf (.slice A' (ts.length + 1) c') = some g → w0 ≤ g ∧ g ≠ Bt := fun g e => by
  rcases hrow with e1 | e1
  · exact h.row g (by rw [← e1]; exact e)
  rw [e1] at e
  injection e with e
  simp at e
  omega
 have hT2 : ∀ b, T b → ¬ (rowOf v = some b) := fun b hb e => by have := hT b hb; have := (h.row b e).1; omega
 have hs1 := blk_set hB' 3 (.slice A' (ts.length + 1) c')
 have hs2 := blk_set hs1 2 (.int .i64 ((1 + sizeTs (ts ++ [t]) : Nat) : Int))
 have hX : ∀ (u : World) (o : Nat) (z : Value), Only u (u.setCell ⟨Bt, o, none⟩ z) (fun b => b = Bt) := fun u o z => Only.set _ _ _ _ rfl
 have hon2 := (hX w' 3 (.slice A' (ts.length + 1) c')).trans (hX _ 2 (.int .i64 ((1 + sizeTs (ts ++ [t]) : Nat) : Int)))
 have hTB : ∀ b, T b → ¬ b = Bt := fun b hb e => by have := hT b hb; omega
 refine ⟨A', c', w', hrun, ⟨by simp [World.cell?, hB'], by simp [World.frozen?, hB']⟩, by simpa using hs1, (hal.more fun b _ e => (h.row b e).1).trans ((hX _ _ _).more fun b _ e => by omega), fun z hz => by rw [hz]; exact ⟨by simpa using hs2, ⟨xs ++ [.pointer (some ⟨B, 0, none⟩)], (by
  rw [List.length_append]
  exact ho.sameB fun g e => hon2.block g (ho.row e).2 fun e2 => (hrowN g e).2 e2), ((h2.append (Cells.single hx)).keep (hal.kept hT2)).keep (hon2.kept hTB)⟩, hrowN⟩⟩
theorem TK.ok (h : TK T w0 Bt r w v ts) (S : Nat → Prop) (hT : ∀ b, T b → S b) (hB : S Bt) (hv : ∀ g, rowOf v = some g → S g) : RPt.ok w S [.pointer (some ⟨Bt, 0, none⟩)] (.node r 0 ts) := by
 obtain ⟨xs, h1, h2⟩ := h.own
 obtain ⟨A, c, e, hc, _⟩ := h1.form
 subst e
 have hk := h.blk
 refine RPt.cells.2 ⟨Bt, A, ts.length, c, rfl, hB, by simp [World.cell?, hk]; rfl, by simp [World.cell?, hk]; rfl, ?_, by simp [World.cell?, hk], xs, rfl, hc, h1.rowRd hv hc, h2.more hT⟩
 rw [sizeT_eq]
 simp [World.cell?, hk]
 rfl
end
theorem Own.cellsRow {w : World} {base n sz : Nat} {E : TypeId} {v : Value} {xs : List Value} (h : Own w base E sz v n xs) {g : Nat} (hg : rowOf v = some g) : ∃ cs ty, w.heap[g]? = some (.cells cs ty (0, 0)) := by
 rcases h with ⟨_, h⟩ | ⟨A, rfl, _, _⟩
 ·
  rcases h with ⟨rfl, _⟩ | ⟨g', cap, cur, rfl, _, hh, _⟩
  · cases hg
  cases cap with
  | zero => cases hg
  | succ c =>
   obtain rfl : g' = g := Option.some.inj hg
   exact ⟨_, _, hh⟩
 cases A <;> cases hg
theorem rkL_at {k : CKey} {i : Nat} (hi : i < 4) : ∃ r, (rkL k)[i]? = some r := ⟨_, List.getElem?_eq_getElem (show i < (rkL k).length from hi)⟩
theorem rk_cell {w : World} {B a0 a1 r0 r1 r2 r3 i r : Nat} {ty : TypeId} {v : Value} (h : w.heap[B]? = some (.cells #[.int .i64 (a0 : Int), .int .i64 (a1 : Int), .int .i64 (r0 : Int), .int .i64 (r1 : Int), .int .i64 (r2 : Int), .int .i64 (r3 : Int), v] ty (0, 0))) (hr : (rkL (a0, a1, r0, r1, r2, r3))[i]? = some r) : w.cell? ⟨B, 2 + i, none⟩ = some (.int .i64 (r : Int)) := by
 have hi : i < 4 := (List.getElem?_eq_some_iff.1 hr).1
 rw [cell_of_row _ _ _ _ _ _ h]
 rcases i with _ | _ | _ | _ | i
 · obtain rfl := Option.some.inj hr; rfl
 · obtain rfl := Option.some.inj hr; rfl
 · obtain rfl := Option.some.inj hr; rfl
 · obtain rfl := Option.some.inj hr; rfl
 omega
theorem Fam.ptAt {T : Nat → Prop} {w : World} {vs : List Value} {ls : List (List TreeD)} {E : TypeId} (h : Fam RPt E T w vs ls) {i r c n : Nat} {A : Option Addr} {l : List TreeD} {t : TreeD} (hv : vs[i]? = some (.slice A n c)) (hl : ls[i]? = some l) (ht : l[r]? = some t) :
    ∃ g B : Nat, A = some ⟨g, 0, none⟩ ∧ w.cell? ⟨g, r, none⟩ = some (.pointer (some ⟨B, 0, none⟩)) ∧ RPt.ok w T [.pointer (some ⟨B, 0, none⟩)] t := by
 obtain ⟨xs, h1, h2⟩ := h.own i _ l hv hl
 obtain ⟨hr, rfl⟩ := List.getElem?_eq_some_iff.1 ht
 obtain ⟨A', c', e, hc, _⟩ := h1.form
 injection e with e1 e2 e3
 subst e1 e2 e3
 obtain ⟨g, rfl, _, _⟩ := h1.addr (by omega)
 have hg := h2.get hr
 rw [show RPt.size = 1 from rfl, Nat.mul_one] at hg
 obtain ⟨B, _, _, _, e, _⟩ := RPt.cells.1 hg
 obtain ⟨b, off, u, e2, _, hx, hcl⟩ := (h1.rowRd (F := fun _ => True) (fun _ _ => trivial) hc).at_ hr
 injection e2 with e2
 injection e2 with e2 e3
 subst e2 e3
 have hu : (xs.drop r).take 1 = [u] := by
  obtain ⟨hxr, rfl⟩ := List.getElem?_eq_some_iff.1 hx
  rw [List.drop_eq_getElem_cons hxr]
  rfl
 rw [e] at hu
 injection hu with hu _
 subst hu
 rw [e] at hg
 rw [Nat.zero_add] at hcl
 exact ⟨g, B, rfl, hcl, hg⟩
set_option linter.unusedSimpArgs false in
set_option maxRecDepth 100000 in
set_option maxHeartbeats 8000000 in
theorem lisTry (C : LC) (hN : NSm C.ns) (tag : Nat → Nat) (w : World) (vq : Value) (vs : List Value) (es : List ((Nat × Nat) × Value)) (D : LD) (h : LM C tag w vq vs es D) (k : CKey) (hk : CIn C.ns k) (hq : D.q.length < 100000000) (hqs : ∀ e ∈ D.q, sizeT e.2 ≤ 100000) (hls : ∀ l ∈ D.ls, l.length ≤ 1000000 ∧ ∀ t ∈ l, sizeT t ≤ 10000) (hwl : ∀ y l, (y, l) ∈ D.wl → l.length ≤ 100000000) :
    Calls Tryz.prog 77 #[.pointer (some ⟨C.BL, 0, none⟩), .agg (candV k)] w fun e w' => e = .returned (.tuple #[]) ∧ ∃ (tag' : Nat → Nat) (vq' : Value) (es' : List ((Nat × Nat) × Value)) (D' : LD), LM C tag' w' vq' vs es' D' ∧ TryR C.ns D D' k ∧ (∀ b, tag b ≠ 0 → tag' b = tag b) ∧ (∀ b, tag' b ≠ 0 → tag b ≠ 0 ∨ w.heap.size ≤ b) ∧ Only w w' (fun b => tag b ≠ 0 ∧ tag b ≠ 8 ∧ tag b ≠ 9) := by
 obtain ⟨nd, pk, hnd, hpk, hr0, hk4, hkin, hrk⟩ := hk
 have hml : C.m = C.ns.length := h.nd.len
 have hv : k.1 < C.m := by rw [hml]; exact (List.getElem?_eq_some_iff.1 hnd).1
 obtain ⟨bN, oN, nd', AP, nP, cP, hA, hN9, hnd', hy1, hy2, hy3, hy4, n4, hsp⟩ := node_at h.nd hv
 clear hy1 hy2 hy3 hy4
 obtain rfl : nd' = nd := Option.some.inj (hnd'.symm.trans hnd)
 have hpn : k.2.1 < nP := by rw [hsp.len]; exact (List.getElem?_eq_some_iff.1 hpk).1
 obtain ⟨bP, oP, pk', AK, nK, cK, rfl, hpk', p0, p1, hsk⟩ := pack_at hsp hpn
 obtain rfl : pk' = pk := Option.some.inj (hpk'.symm.trans hpk)
 have hnK : nK = pk'.2.length := hsk.len
 have hfew := hN.few
 have hpkl := hN.pk nd' (List.mem_of_getElem? hnd)
 have hnPl : nP = nd'.2.2.2.length := hsp.len
 obtain ⟨a0, a1, r0, r1, r2, r3⟩ := k
 simp only at hv hpn n4 p0 p1 hnd hpk hnd' hpk'
 have HNK := zh hnK
 have HML := zh hml
 have HND := zh hnd
 have HPK := zh hpk
 have HKI := zh hkin
 have HRK := zh hrk
 have HSK := zh hsk
 have HQ := zh (And.intro hq hqs)
 have HLS := zh hls
 have HWL := zh hwl
 have HM := zh h
 have hm0 : C.m ≤ 1000000 := by omega
 have hnP6 : nP ≤ 1000000 := by omega
 have hK4 : nK ≤ 4 := by omega
 have hcap := hsp.cap
 have hcapn := h.nd.cap
 clear hnK hml hnd hpk hkin hrk hsk hq hqs hls hwl hnd' hpk' hnPl hpkl hsp hfew hk4 hN
 obtain ⟨Bc, hBc⟩ := zE w.heap.size
 obtain ⟨w1, hw1⟩ := zE (w.alloc (.cells #[.int .i64 (a0 : Int), .int .i64 (a1 : Int), .int .i64 (r0 : Int), .int .i64 (r1 : Int), .int .i64 (r2 : Int), .int .i64 (r3 : Int), .pointer none] 130))
 have hb1 : Below w.heap.size w w1 := by rw [hw1]; exact (Below.refl _ _).alloc (Nat.le_refl _) _
 have hz1 : w1.heap.size = Bc + 1 := by rw [hw1, hBc]; simp
 have hg1 : w1.heap[Bc]? = some (.cells #[.int .i64 (a0 : Int), .int .i64 (a1 : Int), .int .i64 (r0 : Int), .int .i64 (r1 : Int), .int .i64 (r2 : Int), .int .i64 (r3 : Int), .pointer none] 130 (0, 0)) := by rw [hw1, hBc]; exact heap_alloc_new _ _
 have hbl := HM.out.blk
 have c0 : w.cell? ⟨C.BL, 0, none⟩ = some (.slice C.A C.m C.c) := by simp [World.cell?, hbl, LC.la]
 have HB1 := zh hb1
 have HG1 := zh hg1
 have HZ1 := zh hz1
 have HW1 := zh hw1
 have HBC := zh hBc
 have HKE := zh (show ∀ u : World, Below w1.heap.size w1 u → (u.cell? ⟨C.BL, 0, none⟩ = some (.slice C.A C.m C.c) ∧ u.cell? ⟨bN, oN + a0 * 5 + 4, none⟩ = some (.slice (some ⟨bP, oP, none⟩) nP cP) ∧ u.cell? ⟨bP, oP + a1 * 2, none⟩ = some (.int .i64 pk'.1) ∧ u.cell? ⟨bP, oP + a1 * 2 + 1, none⟩ = some (.slice AK nK cK) ∧ u.cell? ⟨Bc, 0, none⟩ = some (.int .i64 (a0 : Int)) ∧ u.cell? ⟨Bc, 1, none⟩ = some (.int .i64 (a1 : Int))) from fun u hu => by
  have hB := hb1.trans (hu.mono (Nat.le_of_lt (by rw [hz1, ← hBc]; omega)))
  have hk := (hu.block Bc (heap_lt hg1)).trans hg1
  have hc : ∀ (b o : Nat) (x : Value), w.cell? ⟨b, o, none⟩ = some x → u.cell? ⟨b, o, none⟩ = some x := fun b o x hx => by rw [World.cell?_of_block (hB.block b (cell_lt hx))]; exact hx
  exact ⟨hc _ _ _ c0, hc _ _ _ n4, hc _ _ _ p0, hc _ _ _ p1, by simp [World.cell?, hk], by simp [World.cell?, hk]⟩)
 rw [hA] at HKE
 have HA := zh hA
 clear hA hb1 hg1 hz1 c0 n4 p0 p1 hbl hN9 hBc h
 unfold candV
 simp only
 go_enter Tryz.func77, Tryz.ntmps77
 go_wp2_with fail
 rw [← hw1, ← HBC.out]
 clear hw1
 refine wp_region_late (late := []) (S1 := fun u => u.cell? ⟨C.BL, 0, none⟩ = some (.slice (some ⟨bN, oN, none⟩) C.m C.c) ∧ u.cell? ⟨bN, oN + a0 * 5 + 4, none⟩ = some (.slice (some ⟨bP, oP, none⟩) nP cP) ∧ u.cell? ⟨bP, oP + a1 * 2, none⟩ = some (.int .i64 pk'.1) ∧ u.cell? ⟨bP, oP + a1 * 2 + 1, none⟩ = some (.slice AK nK cK) ∧ u.cell? ⟨Bc, 0, none⟩ = some (.int .i64 (a0 : Int)) ∧ u.cell? ⟨Bc, 1, none⟩ = some (.int .i64 (a1 : Int))) (S := fun _ => True) (by kernel_rfl) ?_
 refine zP (i := 0) rfl (fun u hu => by obtain ⟨k0, k1, k2, k3, k4, k5⟩ := hu; go_simp; try rfl) (HKE.out _ (Below.refl w1.heap.size w1).drew) zt ?_
 simp only [Act.put, zA, zB, zC, zD, zF, zG]
 refine zP (i := 1) rfl (fun u hu => by obtain ⟨k0, k1, k2, k3, k4, k5⟩ := hu; go_simp; try rfl) (HKE.out _ (Below.refl w1.heap.size w1).drew) zt ?_
 simp only [Act.put, zA, zB, zC, zD, zF, zG]
 refine zP (i := 2) rfl (fun u hu => by obtain ⟨k0, k1, k2, k3, k4, k5⟩ := hu; go_simp; try rfl) (HKE.out _ (Below.refl w1.heap.size w1).drew) zt ?_
 simp only [Act.put, zA, zB, zC, zD, zF, zG]
 refine zP (i := 3) rfl (fun u hu => by obtain ⟨k0, k1, k2, k3, k4, k5⟩ := hu; go_simp; try rfl) (HKE.out _ (Below.refl w1.heap.size w1).drew) zt ?_
 simp only [Act.put, zA, zB, zC, zD, zF, zG]
 refine zP (i := 4) rfl (fun u hu => by obtain ⟨k0, k1, k2, k3, k4, k5⟩ := hu; go_simp; try rfl) (HKE.out _ (Below.refl w1.heap.size w1).drew) zt ?_
 simp only [Act.put, zA, zB, zC, zD, zF, zG]
 refine zP (i := 5) rfl (fun u hu => by obtain ⟨k0, k1, k2, k3, k4, k5⟩ := hu; go_simp; try rfl) (HKE.out _ (Below.refl w1.heap.size w1).drew) zt ?_
 simp only [Act.put, zA, zB, zC, zD, zF, zG]
 refine zP (i := 6) rfl (fun u hu => by obtain ⟨k0, k1, k2, k3, k4, k5⟩ := hu; go_simp; try rfl) (HKE.out _ (Below.refl w1.heap.size w1).drew) zt ?_
 simp only [Act.put, zA, zB, zC, zD, zF, zG]
 refine zP (i := 7) rfl (fun u hu => by obtain ⟨k0, k1, k2, k3, k4, k5⟩ := hu; go_simp; try rfl) (HKE.out _ (Below.refl w1.heap.size w1).drew) zt ?_
 simp only [Act.put, zA, zB, zC, zD, zF, zG]
 refine zP (i := 8) rfl (fun u hu => by obtain ⟨k0, k1, k2, k3, k4, k5⟩ := hu; go_simp; try rfl) (HKE.out _ (Below.refl w1.heap.size w1).drew) zt ?_
 simp only [Act.put, zA, zB, zC, zD, zF, zG]
 refine zP (i := 9) rfl (fun u hu => by obtain ⟨k0, k1, k2, k3, k4, k5⟩ := hu; go_simp; try rfl) (HKE.out _ (Below.refl w1.heap.size w1).drew) zt ?_
 simp only [Act.put, zA, zB, zC, zD, zF, zG]
 refine zP (i := 10) rfl (fun u hu => by obtain ⟨k0, k1, k2, k3, k4, k5⟩ := hu; go_simp; try rfl) (HKE.out _ (Below.refl w1.heap.size w1).drew) zt ?_
 simp only [Act.put, zA, zB, zC, zD, zF, zG]
 refine zP (i := 11) rfl (fun u hu => by obtain ⟨k0, k1, k2, k3, k4, k5⟩ := hu; go_simp; try rfl) (HKE.out _ (Below.refl w1.heap.size w1).drew) zt ?_
 simp only [Act.put, zA, zB, zC, zD, zF, zG]
 refine zP (i := 12) rfl (fun u hu => by obtain ⟨k0, k1, k2, k3, k4, k5⟩ := hu; go_simp; try rfl) (HKE.out _ (Below.refl w1.heap.size w1).drew) zt ?_
 simp only [Act.put, zA, zB, zC, zD, zF, zG]
 refine zP (i := 13) rfl (fun u hu => by obtain ⟨k0, k1, k2, k3, k4, k5⟩ := hu; go_simp; try rfl) (HKE.out _ (Below.refl w1.heap.size w1).drew) zt ?_
 simp only [Act.put, zA, zB, zC, zD, zF, zG]
 refine zR 14 rfl (fun K hK => ?_)
 go_simp
 refine hK.out _ _ (HKE.out _ (((Below.refl w1.heap.size w1).drew).alloc (Nat.le_refl _) _)) zt ?_
 clear hK K
 refine zR 15 rfl (fun K hK => ?_)
 go_simp
 obtain ⟨Bp, hBp⟩ := zE w1.heap.size
 obtain ⟨w2, hw2⟩ : ∃ w2 : World, w2 = (w1.alloc (.cells #[.int .i64 pk'.1, .slice AK nK cK] 111)).drew := ⟨_, rfl⟩
 have HB2 := zh (show Below w1.heap.size w1 w2 by rw [hw2]; exact ((Below.refl _ _).alloc (Nat.le_refl _) _).drew)
 have HG2 := zh (show w2.heap[Bp]? = some (.cells #[.int .i64 pk'.1, .slice AK nK cK] 111 (0, 0)) by rw [hw2, hBp]; exact heap_alloc_new _ _)
 have HZ2 := zh (show w2.heap.size = Bp + 1 by rw [hw2, hBp]; simp)
 rw [← hw2, ← hBp]
 have HBP := zh hBp
 clear hw2 hBp
 refine hK.out _ _ (HKE.out _ HB2.out) zt ?_
 clear hK K
 refine wpAnyL_done (by kernel_rfl) ?_ _
 obtain ⟨Bt, hBt⟩ := zE w2.heap.size
 obtain ⟨w3, hw3⟩ := zE (w2.alloc (.cells #[.int .i64 pk'.1, .int .i64 0, .int .i64 1, .slice none 0 0] 126))
 have HB3 := zh (show Below w2.heap.size w2 w3 by rw [hw3]; exact (Below.refl _ _).alloc (Nat.le_refl _) _)
 have HG3 := zh (show w3.heap[Bt]? = some (.cells #[.int .i64 pk'.1, .int .i64 0, .int .i64 1, .slice none 0 0] 126 (0, 0)) by rw [hw3, hBt]; exact heap_alloc_new _ _)
 have HZ3 := zh (show w3.heap.size = Bt + 1 by rw [hw3, hBt]; simp)
 have HBT := zh hBt
 have HW3 := zh hw3
 have HE := zh (show Bp = Bc + 1 ∧ Bt = Bc + 2 ∧ w.heap.size = Bc by have := HBP.out; have := HZ1.out; have := HZ2.out; have := HBC.out; omega)
 have HTL := zh (show ∀ b, tag b ≠ 0 → b < Bc from fun b hb => by have := HM.out.lt b hb; have := HE.out; omega)
 clear hBt hw3
 have m0 : w2.cell? ⟨Bp, 0, none⟩ = some (.int .i64 pk'.1) := by have hk := HG2.out; simp [World.cell?, hk]
 have m1 : w2.cell? ⟨Bp, 1, none⟩ = some (.slice AK nK cK) := by have hk := HG2.out; simp [World.cell?, hk]
 have lp := cell_lt m0
 go_wp2_with fail
 rw [← HW3.out, ← HBT.out]
 clear m0 m1 lp
 go_loopg [31] nK (fun gk v31 wr => ∃ (i : Nat) (v : Value) (ts : List TreeD), i ≤ nK ∧ gk = nK - i ∧ v31 = .int .i64 (i : Int) ∧ TK (fun b => tag b = 8) Bt Bt pk'.1 wr v ts ∧ KidsR D.ls (pk'.2.take i) (rkL (a0, a1, r0, r1, r2, r3)) ts ∧ sizeTs ts ≤ i * 10000 ∧ Only w3 wr (fun b => Bt ≤ b))
 case atStart => exact ⟨0, .slice none 0 0, [], Nat.zero_le _, rfl, rfl, ⟨HG3.out, ⟨[], Own.nil _ _ _ _ _, Cells.nil⟩, fun g e => by cases e⟩, KidsR.nil _ _, by rw [sizeTs_nil]; exact Nat.zero_le _, Only.refl _ _⟩
 case round =>
  obtain ⟨i, v, ts, hi, hg, rfl, htk, hkr, hsz, hon⟩ := hrel
  obtain ⟨w4, rfl⟩ := zE wr
  have HG := zh hg
  have HTK := zh htk
  have HKR := zh hkr
  have HSZ := zh hsz
  have HON := zh hon
  have hts : ts.length = i := by have := hkr.1; rw [List.length_take] at this; have := HNK.out; omega
  have hon0 : Only w w4 (fun b => w.heap.size ≤ b) := (Only.of_below HB1.out (Nat.le_refl _) _).trans ((Only.of_below HB2.out (by have := HZ1.out; have := HE.out; omega) _).trans ((Only.of_below HB3.out (Nat.le_refl _) _).trans (hon.more fun b _ e => by have := HE.out; omega)))
  have HON0 := zh hon0
  have hm4 := HM.out.only (X := fun b => w.heap.size ≤ b) hon0 fun b hb e => by have := HTL.out b hb; have := HE.out; omega
  have HM4 := zh hm4
  have hz4 := hon.size
  have hgc : w4.heap[Bc]? = some (.cells #[.int .i64 (a0 : Int), .int .i64 (a1 : Int), .int .i64 (r0 : Int), .int .i64 (r1 : Int), .int .i64 (r2 : Int), .int .i64 (r3 : Int), .pointer none] 130 (0, 0)) := ((hon.block Bc (by have := HZ3.out; have := HE.out; omega) (by have := HE.out; omega)).trans (HB3.out.block Bc (by have := HZ2.out; have := HE.out; omega))).trans ((HB2.out.block Bc (heap_lt HG1.out)).trans HG1.out)
  have HGC := zh hgc
  have hgp : w4.heap[Bp]? = some (.cells #[.int .i64 pk'.1, .slice AK nK cK] 111 (0, 0)) := ((hon.block Bp (by have := HZ3.out; have := HE.out; omega) (by have := HE.out; omega)).trans (HB3.out.block Bp (heap_lt HG2.out))).trans HG2.out
  have HGP := zh hgp
  have hbl := hm4.blk
  have HZ4 := zh hz4
  clear hg hkr hsz hon hon0 hz4
  by_cases hlt : i < nK
  ·
   have hltI : (i : Int) < (nK : Int) := by omega
   have hi4 : i < 4 := by omega
   obtain ⟨r, hr⟩ := rkL_at (k := (a0, a1, r0, r1, r2, r3)) hi4
   have hr6 := HRK.out r (List.mem_of_getElem? hr)
   have ci := rk_cell hgc hr
   obtain ⟨bK, oK, x, hAK, hbK, hx, kx⟩ := (HSK.out.keep (HON0.out.kept fun b hb e => by have := HTL.out b (by omega); have := HE.out; omega)).ints.int_at hlt
   subst hAK
   obtain ⟨hx0, hxm⟩ := HKI.out x (List.mem_of_getElem? hx)
   obtain ⟨kn, rfl⟩ : ∃ kn : Nat, x = (kn : Int) := ⟨x.toNat, by omega⟩
   have hkn : kn < C.m := by have := HML.out; omega
   have hknI : (kn : Int) < (C.m : Int) := by omega
   obtain ⟨vl, hvl⟩ : ∃ vl, vs[kn]? = some vl := ⟨_, List.getElem?_eq_getElem (by rw [hm4.vl]; exact hkn)⟩
   obtain ⟨l, hl⟩ : ∃ l, D.ls[kn]? = some l := ⟨_, List.getElem?_eq_getElem (by rw [← hm4.fl.len, hm4.vl]; exact hkn)⟩
   obtain ⟨xs, o1, o2⟩ := hm4.fl.own kn vl l hvl hl
   obtain ⟨Al, cl, rfl, hlc, _⟩ := o1.form
   obtain ⟨hll, hlz⟩ := HLS.out l (List.mem_of_getElem? hl)
   have hbv := hm4.bv
   have kv : w4.cell? ⟨C.BV, kn, none⟩ = some (.slice Al l.length cl) := by rw [cell_of_row _ _ _ _ _ _ hbv]; simpa using hvl
   have kb3 : w4.cell? ⟨C.BL, 3, none⟩ = some (.slice (some ⟨C.BV, 0, none⟩) C.m C.m) := by simp [World.cell?, hbl, LC.la]
   have HX := zh hx
   have HR := zh hr
   have HL := zh hl
   have HVL := zh hvl
   have HTS := zh hts
   have hi0 : (0 : Int) ≤ (i : Int) := by omega
   have hkn0 : (0 : Int) ≤ (kn : Int) := by omega
   have hi4I : (i : Int) < 4 := by omega
   obtain ⟨ll, hlln⟩ := zE l.length
   have HLL := zh hlln
   rw [← hlln] at kv hll o1 hlc
   clear hbl hm4 hx0 hxm hx hr hl hvl hbv htk hgc hgp hbK hlln
   by_cases hrl : r < ll
   ·
    have hrI : ¬ ((ll : Int) ≤ (r : Int)) := by omega
    have hrI2 : (r : Int) < (ll : Int) := by omega
    have hrg : ¬ ((r : Int) ≥ (ll : Int)) := by omega
    have hr0 : (0 : Int) ≤ (r : Int) := by omega
    obtain ⟨t, ht⟩ : ∃ t, l[r]? = some t := ⟨_, List.getElem?_eq_getElem (by have := HLL.out; omega)⟩
    obtain ⟨gl, Bk, rfl, kp, hokt⟩ := HM4.out.fl.ptAt HVL.out HL.out ht
    have hst := hlz t (List.mem_of_getElem? ht)
    have HT := zh ht
    have HOK := zh hokt
    clear o1 o2 hlz ht hokt
    go_wp2_with fail
    go_quiet (fail)
    obtain ⟨w5, hw5⟩ := zE (w4.drewN nq)
    have hb5 : Below w4.heap.size w4 w5 := by rw [hw5]; exact drewN_below _ _
    have hz5 : w5.heap.size = w4.heap.size := by rw [hw5]; rfl
    rw [← hw5]
    replace kv := (hb5.cell (cell_lt kv)).trans kv
    replace kb3 := (hb5.cell (cell_lt kb3)).trans kb3
    replace ci := (hb5.cell (cell_lt ci)).trans ci
    replace kp := (hb5.cell (cell_lt kp)).trans kp
    clear hw5 kx
    go_wp2_with fail
    go_quiet (fail)
    obtain ⟨w6, hw6⟩ := zE (w5.drewN nq)
    have hb6 : Below w4.heap.size w4 w6 := hb5.trans (by rw [hw6]; exact drewN_below _ _)
    have hz6 : w6.heap.size = w4.heap.size := by rw [hw6]; exact hz5
    rw [← hw6]
    clear hw6 hb5 hz5 kv kb3 ci kp
    have HB6 := zh hb6
    have HZ6 := zh hz6
    have HTK6 := zh (HTK.out.below hb6)
    have HOK6 := zh (RPt.keep HOK.out (Kept.below hb6))
    obtain ⟨A', c', w7, hrun, hcf, hg7, hon7, htk7⟩ := HTK6.out.push (fun b hb => by have := HTL.out b (by omega); have := HE.out; omega) (Nat.le_refl _) HOK6.out (by omega) 124
    have HRUN := zh hrun
    have n3 : w6.cell? ⟨Bt, 3, none⟩ = some v := by have hk := HTK6.out.blk; simp [World.cell?, hk]
    obtain ⟨n7, f7⟩ := hcf
    have HG7 := zh hg7
    have HON7 := zh hon7
    have HTK7 := zh htk7
    clear hb6 hz6 hrun hg7 hon7 htk7
    rw [HTS.out] at HRUN HG7 HON7 HTK7
    go_wp2_with (at_builtin; refine Lib.wpList_append_run (o := ⟨some 86, _, _, _, _, _⟩) _ rfl _ _ _ _ rfl _ _ rfl rfl _ _ HRUN.out ?_)
    clear n3 n7 f7
    obtain ⟨w8, hw8⟩ := zE (w7.setCell ⟨Bt, 3, none⟩ (.slice A' (i + 1) c'))
    rw [← hw8] at HG7 HON7 HTK7 ⊢
    clear hw8
    obtain ⟨sA, hsA⟩ : ∃ sA, sA = 1 + sizeTs ts := ⟨_, rfl⟩
    obtain ⟨sB, hsB⟩ := zE (sizeT t)
    have HSA := zh hsA
    have HSB := zh hsB
    have HOK8 := zh (RPt.keep HOK6.out (HON7.out.kept fun b hb e => by have := HTL.out b (by omega); have := HE.out; omega))
    obtain ⟨_, _, _, _, e9, hk8, _, _, x2, _⟩ := RPt.cells.1 HOK8.out
    injection e9 with e9 _
    injection e9 with e9
    injection e9 with e9
    injection e9 with e9 _ _
    subst e9
    rw [← hsB] at x2 hst
    have z2 : w8.cell? ⟨Bt, 2, none⟩ = some (.int .i64 (sA : Int)) := by have hk := HG7.out; rw [← hsA] at hk; simp [World.cell?, hk]
    have hsA6 : sA ≤ 50000 := by have := HSZ.out; omega
    have HX2 := zh (And.intro z2 x2)
    clear hsA hsB hk8 z2 x2
    refine wp_region_late (late := [11]) (S1 := fun _ => True) (S := fun u => u.cell? ⟨Bt, 2, none⟩ = some (.int .i64 (sA : Int)) ∧ u.cell? ⟨Bk, 2, none⟩ = some (.int .i64 (sB : Int))) (by kernel_rfl) ?_
    refine zP (i := 0) rfl (fun u hu => by go_simp; try rfl) trivial (fun _ => HX2.out) ?_
    simp only [Act.put, zA, zB, zC, zD, zF, zG]
    refine zP (i := 1) rfl (fun u hu => by go_simp; try rfl) trivial (fun _ => HX2.out) ?_
    simp only [Act.put, zA, zB, zC, zD, zF, zG]
    refine zP (i := 2) rfl (fun u hu => by go_simp; try rfl) trivial (fun _ => HX2.out) ?_
    simp only [Act.put, zA, zB, zC, zD, zF, zG]
    refine wpAnyL_take (i := 3) rfl (by kernel_rfl) (fun _ _ _ h => h) (Or.inl ⟨by rfl, (fun u hu => by obtain ⟨_, h1, h2⟩ := hu; go_simp; try rfl)⟩) trivial (fun _ => HX2.out) ?_
    simp only [Act.put, zA, zB, zC, zD, zF, zG]
    refine zP (i := 4) rfl (fun u hu => by go_simp; try rfl) trivial (fun _ => HX2.out) ?_
    simp only [Act.put, zA, zB, zC, zD, zF, zG]
    refine zP (i := 5) rfl (fun u hu => by go_simp; try rfl) trivial (fun _ => HX2.out) ?_
    simp only [Act.put, zA, zB, zC, zD, zF, zG]
    refine zP (i := 6) rfl (fun u hu => by go_simp; try rfl) trivial (fun _ => HX2.out) ?_
    simp only [Act.put, zA, zB, zC, zD, zF, zG]
    refine wpAnyL_take (i := 7) rfl (by kernel_rfl) (fun _ _ _ h => h) (Or.inl ⟨by rfl, (fun u hu => by obtain ⟨_, h1, h2⟩ := hu; go_simp; try rfl)⟩) trivial (fun _ => HX2.out) ?_
    simp only [Act.put, zA, zB, zC, zD, zF, zG]
    refine zP (i := 8) rfl (fun u hu => by go_simp; try rfl) trivial (fun _ => HX2.out) ?_
    simp only [Act.put, zA, zB, zC, zD, zF, zG]
    refine zP (i := 9) rfl (fun u hu => by go_simp; try rfl) trivial (fun _ => HX2.out) ?_
    simp only [Act.put, zA, zB, zC, zD, zF, zG]
    refine zP (i := 10) rfl (fun u hu => by go_simp; try rfl) trivial (fun _ => HX2.out) ?_
    simp only [Act.put, zA, zB, zC, zD, zF, zG]
    refine zR 11 rfl (fun K hK => ?_)
    have z2 := HX2.out.1
    have f2 : w8.frozen? ⟨Bt, 2, none⟩ = false := by have hk := HG7.out; simp [World.frozen?, hk]
    go_simp
    clear z2 f2
    refine hK.out _ _ trivial (fun h => absurd (h 11 (by simp)) (by decide)) ?_
    clear hK K
    refine wpAnyL_done (by kernel_rfl) ?_ _
    go_wp2_with fail
    go_roundg (nK - (i + 1))
    case measure => rw [HG.out]; omega
    case rel =>
     have htk9 := HTK7.out ((sA : Int) + (sB : Int)) (by rw [HSA.out, HSB.out, sizeTs_snoc]; omega)
     have hon9 := (HON7.out.more (Y := fun b => Bt ≤ b) fun b _ e => e).trans (Only.set w8 Bt 2 (.int .i64 ((sA : Int) + (sB : Int))) (Nat.le_refl _))
     refine ⟨i + 1, .slice A' (i + 1) c', ts ++ [t], by omega, rfl, by go_num, htk9.below (Below.refl _ _).drew, HKR.out.snoc HX.out HR.out (by simpa using HL.out) HT.out, by rw [sizeTs_snoc]; have := HSZ.out; have := HSB.out; omega, (HON.out.trans ((Only.of_below HB6.out (Nat.le_refl _) _).trans hon9)).trans (Only.drew _ _)⟩
   have hrI : ((ll : Int) ≤ (r : Int)) := by omega
   have hrg : ((r : Int) ≥ (ll : Int)) := by omega
   clear o1 o2 hlz
   go_wp2_with fail
   go_quiet (fail)
   obtain ⟨w5, hw5⟩ := zE (w4.drewN nq)
   have hb5 : Below w4.heap.size w4 w5 := by rw [hw5]; exact drewN_below _ _
   have hz5 : w5.heap.size = w4.heap.size := by rw [hw5]; rfl
   rw [← hw5]
   replace ci := (hb5.cell (cell_lt ci)).trans ci
   have hgc5 := (hb5.block Bc (heap_lt HGC.out)).trans HGC.out
   obtain ⟨Bw, hBw⟩ := zE w5.heap.size
   obtain ⟨w6, hw6⟩ := zE (w5.alloc (.cells #[.int .i64 (kn : Int), .int .i64 (r : Int)] 169))
   have hb6 : Below w5.heap.size w5 w6 := by rw [hw6]; exact (Below.refl _ _).alloc (Nat.le_refl _) _
   have HG6 := zh (show w6.heap[Bw]? = some (.cells #[.int .i64 (kn : Int), .int .i64 (r : Int)] 169 (0, 0)) by rw [hw6, hBw]; exact heap_alloc_new _ _)
   have HGC6 := zh ((hb6.block Bc (heap_lt hgc5)).trans hgc5)
   have HB6 := zh (hb5.trans (hb6.mono (by omega)))
   have HW6 := zh hw6
   have HBW := zh hBw
   clear hw5 kx kv kb3 hb5 hgc5 hw6 hb6 hBw hz5
   go_wp2_with fail
   rw [← HW6.out, ← HBW.out]
   clear ci
   refine wp_region_late (late := [7]) (S1 := fun _ => True) (S := fun u => u.cell? ⟨C.BL, 5, none⟩ = some (.map (some C.BW)) ∧ u.cell? ⟨Bw, 0, none⟩ = some (.int .i64 (kn : Int)) ∧ u.cell? ⟨Bw, 1, none⟩ = some (.int .i64 (r : Int)) ∧ u.cell? ⟨Bc, 0, none⟩ = some (.int .i64 (a0 : Int)) ∧ u.cell? ⟨Bc, 1, none⟩ = some (.int .i64 (a1 : Int)) ∧ u.cell? ⟨Bc, 2, none⟩ = some (.int .i64 (r0 : Int)) ∧ u.cell? ⟨Bc, 3, none⟩ = some (.int .i64 (r1 : Int)) ∧ u.cell? ⟨Bc, 4, none⟩ = some (.int .i64 (r2 : Int)) ∧ u.cell? ⟨Bc, 5, none⟩ = some (.int .i64 (r3 : Int)) ∧ u.cell? ⟨Bc, 6, none⟩ = some (.pointer none)) (by kernel_rfl) ?_
   obtain ⟨w7, hw7⟩ := zE w6.drew
   have hb7 : Below w6.heap.size w6 w7 := by rw [hw7]; exact (Below.refl _ _).drew
   have hz7 : w7.heap.size = w6.heap.size := by rw [hw7]; rfl
   rw [← hw7]
   have HB7 := zh (HB6.out.trans (hb7.mono HB6.out.size))
   have HM7 := zh (HM4.out.below HB7.out)
   have HK7 := zh (show ∀ u : World, Below w7.heap.size w7 u → (u.cell? ⟨C.BL, 5, none⟩ = some (.map (some C.BW)) ∧ u.cell? ⟨Bw, 0, none⟩ = some (.int .i64 (kn : Int)) ∧ u.cell? ⟨Bw, 1, none⟩ = some (.int .i64 (r : Int)) ∧ u.cell? ⟨Bc, 0, none⟩ = some (.int .i64 (a0 : Int)) ∧ u.cell? ⟨Bc, 1, none⟩ = some (.int .i64 (a1 : Int)) ∧ u.cell? ⟨Bc, 2, none⟩ = some (.int .i64 (r0 : Int)) ∧ u.cell? ⟨Bc, 3, none⟩ = some (.int .i64 (r1 : Int)) ∧ u.cell? ⟨Bc, 4, none⟩ = some (.int .i64 (r2 : Int)) ∧ u.cell? ⟨Bc, 5, none⟩ = some (.int .i64 (r3 : Int)) ∧ u.cell? ⟨Bc, 6, none⟩ = some (.pointer none)) from fun u hu => by
    have h1 := (hu.block _ (heap_lt HM7.out.blk)).trans HM7.out.blk
    have h2 := (hu.block Bw (by rw [hz7]; exact heap_lt HG6.out)).trans ((hb7.block Bw (heap_lt HG6.out)).trans HG6.out)
    have h3 := (hu.block Bc (by rw [hz7]; exact heap_lt HGC6.out)).trans ((hb7.block Bc (heap_lt HGC6.out)).trans HGC6.out)
    refine ⟨by simp [World.cell?, h1, LC.la], ?_, ?_, ?_, ?_, ?_, ?_, ?_, ?_, ?_⟩
    · simp [World.cell?, h2]
    · simp [World.cell?, h2]
    all_goals simp [World.cell?, h3])
   obtain ⟨v0, st, w8, w9, w10, v', hent, hrun, hsto, ⟨Av, nv, cv, rfl⟩, hon10, tag', es', hle, hor, hm10⟩ := HM7.out.wait (kn, r) (a0, a1, r0, r1, r2, r3) HWL.out 119
   unfold waitV candV at hent
   simp only at hent
   have HENT := zh hent
   have HRUN := zh hrun
   have HSTO := zh hsto
   have HON10 := zh hon10
   have HLE := zh hle
   have HOR := zh hor
   have HM10 := zh hm10
   have HZ7 := zh (show w4.heap.size ≤ w7.heap.size from HB7.out.size)
   clear hw7 hb7 hz7 hent hrun hsto hon10 hle hor hm10
   refine zP (i := 0) rfl (fun u hu => by go_simp; try rfl) trivial (fun _ => (HK7.out _ (Below.refl _ _))) ?_
   simp only [Act.put, zA, zB, zC, zD, zF, zG]
   refine zP (i := 1) rfl (fun u hu => by go_simp; try rfl) trivial (fun _ => (HK7.out _ (Below.refl _ _))) ?_
   simp only [Act.put, zA, zB, zC, zD, zF, zG]
   refine zP (i := 2) rfl (fun u hu => by go_simp; try rfl) trivial (fun _ => (HK7.out _ (Below.refl _ _))) ?_
   simp only [Act.put, zA, zB, zC, zD, zF, zG]
   refine wpAnyL_take (i := 3) rfl (by kernel_rfl) (fun _ _ _ h => h) (Or.inl ⟨by rfl, (fun u hu => by obtain ⟨_, h5, q0, q1, d0, d1, d2, d3, d4, d5, d6⟩ := hu; go_simp; try rfl)⟩) trivial (fun _ => (HK7.out _ (Below.refl _ _))) ?_
   simp only [Act.put, zA, zB, zC, zD, zF, zG]
   refine wpAnyL_take (i := 4) rfl (by kernel_rfl) (fun _ _ _ h => h) (Or.inl ⟨by rfl, (fun u hu => by obtain ⟨_, h5, q0, q1, d0, d1, d2, d3, d4, d5, d6⟩ := hu; go_simp; try rfl)⟩) trivial (fun _ => (HK7.out _ (Below.refl _ _))) ?_
   simp only [Act.put, zA, zB, zC, zD, zF, zG]
   refine wpAnyL_take (i := 5) rfl (by kernel_rfl) (fun _ _ _ h => h) (Or.inl ⟨by rfl, (fun u hu => by obtain ⟨_, h5, q0, q1, d0, d1, d2, d3, d4, d5, d6⟩ := hu; go_simp; try rfl)⟩) trivial (fun _ => (HK7.out _ (Below.refl _ _))) ?_
   simp only [Act.put, zA, zB, zC, zD, zF, zG]
   refine zR 6 rfl (fun K hK => ?_)
   go_simp
   refine hK.out _ _ trivial (fun _ => (HK7.out _ ((Below.refl _ _).alloc (Nat.le_refl _) _))) ?_
   clear hK K
   refine zR 7 rfl (fun K hK => ?_)
   refine step_mapEntry_run _ (by rfl) _ _ _ (by rfl) _ _ (by rfl) (by rfl) _ _ HENT.out ?_
   simp only [Act.put, zA, zB, zC, zD, zF, zG]
   refine hK.out _ _ trivial (fun h => absurd (h 7 (by simp)) (by decide)) ?_
   clear hK K
   refine zP (i := 8) rfl (fun u hu => by go_simp; try rfl) trivial (fun h => absurd (h 7 (by simp)) (by decide)) ?_
   simp only [Act.put, zA, zB, zC, zD, zF, zG]
   refine zP (i := 10) rfl (fun u hu => by go_simp; try rfl) trivial (fun h => absurd (h 7 (by simp)) (by decide)) ?_
   simp only [Act.put, zA, zB, zC, zD, zF, zG]
   refine zR 9 rfl (fun K hK => ?_)
   refine step_append_run _ (by rfl) _ _ _ _ (by rfl) _ _ (by rfl) (by rfl) _ _ HRUN.out ?_
   simp only [Act.put, zA, zB, zC, zD, zF, zG]
   refine hK.out _ _ trivial (fun h => absurd (h 7 (by simp)) (by decide)) ?_
   clear hK K
   refine zR 11 rfl (fun K hK => ?_)
   refine step_entryStore_run _ (by rfl) _ _ _ _ (by rfl) _ _ _ (by rfl) (by rfl) (by rfl) _ HSTO.out ?_
   simp only [Act.put, zA, zB, zC, zD, zF, zG]
   refine hK.out _ _ trivial (fun h => absurd (h 7 (by simp)) (by decide)) ?_
   clear hK K
   refine wpAnyL_done (by kernel_rfl) ?_ _
   go_wp2_with fail
   refine Go.bodyPost_ret (v := .tuple #[]) (by simp [results, Tryz.results77, go_sem]) rfl ⟨rfl, tag', vq, es', { D with wl := addW D.wl (kn, r) (a0, a1, r0, r1, r2, r3) }, HM10.out, ⟨rfl, rfl, .inr ⟨_, rfl, rfl⟩⟩, HLE.out, fun b hb => ?_, ?_⟩
   ·
    rcases HOR.out b hb with h | h
    · exact .inl h
    exact .inr (by have := HON0.out.size; have := HZ7.out; omega)
   refine ((HON0.out.trans (.of_below HB7.out (Nat.le_refl _) _)).more fun b hb e => ?_).onto HON10.out fun b hb e => ?_
   · omega
   rcases e with e | e <;> omega
  obtain rfl : i = nK := by omega
  have c6 : w4.cell? ⟨Bc, 6, none⟩ = some (.pointer none) := by simp [World.cell?, hgc]
  have f6 : w4.frozen? ⟨Bc, 6, none⟩ = false := by simp [World.frozen?, hgc]
  have p0 : w4.cell? ⟨Bp, 0, none⟩ = some (.int .i64 pk'.1) := by simp [World.cell?, hgp]
  have q0 : (w4.setCell ⟨Bc, 6, none⟩ (.pointer (some ⟨Bt, 0, none⟩))).cell? ⟨Bp, 0, none⟩ = some (.int .i64 pk'.1) := setOther _ p0 (by have := HE.out; show Bp ≠ Bc; omega)
  have hne2 : ¬ pk'.1 = -2 := by omega
  have hg5 := blk_set hgc 6 (.pointer (some ⟨Bt, 0, none⟩))
  rw [show (#[.int .i64 (a0 : Int), .int .i64 (a1 : Int), .int .i64 (r0 : Int), .int .i64 (r1 : Int), .int .i64 (r2 : Int), .int .i64 (r3 : Int), .pointer none] : Array Value).setIfInBounds 6 (.pointer (some ⟨Bt, 0, none⟩)) = #[.int .i64 (a0 : Int), .int .i64 (a1 : Int), .int .i64 (r0 : Int), .int .i64 (r1 : Int), .int .i64 (r2 : Int), .int .i64 (r3 : Int), .pointer (some ⟨Bt, 0, none⟩)] by simp] at hg5
  obtain ⟨w5, hw5⟩ := zE (w4.setCell ⟨Bc, 6, none⟩ (.pointer (some ⟨Bt, 0, none⟩)))
  have hon5 : Only w4 w5 (fun b => b = Bc) := by rw [hw5]; exact Only.set _ _ _ _ rfl
  have HW5 := zh hw5
  rw [← hw5] at hg5
  have HG5 := zh hg5
  have HON5 := zh (HON0.out.trans (hon5.more fun b _ e => by have := HE.out; omega))
  have HM5 := zh (HM.out.only (X := fun b => w.heap.size ≤ b) HON5.out fun b hb e => by have := HTL.out b hb; have := HE.out; omega)
  have htk5 := HTK.out.only hon5 (fun b hb e => by have := HTL.out b (by omega); omega) (fun e => by have := HE.out; omega) fun g e e2 => by have := (HTK.out.row g e).1; have := HE.out; omega
  obtain ⟨tag1, hle1, hor1, hF1, hm6⟩ := HM5.out.grow (F := fun b => b = Bt ∨ rowOf v = some b) (fun b e => by
   refine Classical.byContradiction fun e0 => ?_
   have := HTL.out b e0
   have := HE.out
   rcases e with e | e
   · omega
   ·
    have := (HTK.out.row b e).1
    omega) (fun b e => by
   rcases e with e | e
   · subst e; exact ⟨_, _, htk5.blk⟩
   obtain ⟨xs, o1, _⟩ := htk5.own
   exact o1.cellsRow e)
  have HTO := zh (htk5.ok (fun b => tag1 b = 8) (fun b e => by rw [hle1 b (by omega)]; exact e) (hF1 _ (.inl rfl)) fun g e => hF1 g (.inr e))
  have HM6 := zh hm6
  have HLE1 := zh hle1
  have HOR1 := zh hor1
  have HSZT := zh (show sizeT (.node pk'.1 0 ts) ≤ 40001 by rw [sizeT_eq]; show 1 + sizeTs ts ≤ 40001; have := HSZ.out; omega)
  have HROW := zh HTK.out.row
  clear hw5 hon5 hg5 htk5 hgc hgp p0 htk hm4 hbl hle1 hor1 hm6 hF1
  go_wp2_with fail
  rw [← HW5.out]
  clear c6 f6 q0
  have HS5 := zh (show ∀ u : World, u.heap[Bc]? = w5.heap[Bc]? → (u.cell? ⟨Bc, 0, none⟩ = some (.int .i64 (a0 : Int)) ∧ u.cell? ⟨Bc, 1, none⟩ = some (.int .i64 (a1 : Int)) ∧ u.cell? ⟨Bc, 2, none⟩ = some (.int .i64 (r0 : Int)) ∧ u.cell? ⟨Bc, 3, none⟩ = some (.int .i64 (r1 : Int)) ∧ u.cell? ⟨Bc, 4, none⟩ = some (.int .i64 (r2 : Int)) ∧ u.cell? ⟨Bc, 5, none⟩ = some (.int .i64 (r3 : Int)) ∧ u.cell? ⟨Bc, 6, none⟩ = some (.pointer (some ⟨Bt, 0, none⟩))) from fun u hu => by
   have h3 := hu.trans HG5.out
   refine ⟨?_, ?_, ?_, ?_, ?_, ?_, ?_⟩
   all_goals simp [World.cell?, h3])
  refine wp_region_late (late := []) (S := fun _ => True) (S1 := fun u => u.cell? ⟨Bc, 0, none⟩ = some (.int .i64 (a0 : Int)) ∧ u.cell? ⟨Bc, 1, none⟩ = some (.int .i64 (a1 : Int)) ∧ u.cell? ⟨Bc, 2, none⟩ = some (.int .i64 (r0 : Int)) ∧ u.cell? ⟨Bc, 3, none⟩ = some (.int .i64 (r1 : Int)) ∧ u.cell? ⟨Bc, 4, none⟩ = some (.int .i64 (r2 : Int)) ∧ u.cell? ⟨Bc, 5, none⟩ = some (.int .i64 (r3 : Int)) ∧ u.cell? ⟨Bc, 6, none⟩ = some (.pointer (some ⟨Bt, 0, none⟩))) (by kernel_rfl) ?_
  refine zP (i := 0) rfl (fun u hu => by go_simp; try rfl) (HS5.out w5.drew rfl) zt ?_
  simp only [Act.put, zA, zB, zC, zD, zF, zG]
  refine zP (i := 1) rfl (fun u hu => by go_simp; try rfl) (HS5.out w5.drew rfl) zt ?_
  simp only [Act.put, zA, zB, zC, zD, zF, zG]
  refine zP (i := 2) rfl (fun u hu => by go_simp; try rfl) (HS5.out w5.drew rfl) zt ?_
  simp only [Act.put, zA, zB, zC, zD, zF, zG]
  refine zP (i := 3) rfl (fun u hu => by go_simp; try rfl) (HS5.out w5.drew rfl) zt ?_
  simp only [Act.put, zA, zB, zC, zD, zF, zG]
  refine zP (i := 4) rfl (fun u hu => by obtain ⟨d0, d1, d2, d3, d4, d5, d6⟩ := hu; go_simp; try rfl) (HS5.out w5.drew rfl) zt ?_
  simp only [Act.put, zA, zB, zC, zD, zF, zG]
  refine zP (i := 5) rfl (fun u hu => by go_simp; try rfl) (HS5.out w5.drew rfl) zt ?_
  simp only [Act.put, zA, zB, zC, zD, zF, zG]
  refine zR 6 rfl (fun K hK => ?_)
  go_simp
  refine (heapPush (fun b => tag1 b = 8) C.BL C.la w5.drew vq D.q (HM6.out.below (Below.refl _ _).drew).qc HQ.out.2 HQ.out.1 (a0, a1, r0, r1, r2, r3) Bt (.node pk'.1 0 ts) (RPt.keep HTO.out (Kept.drew _ _)) (by have := HSZT.out; omega)).mono ?_
  rintro e w6 ⟨rfl, ⟨vq', q', hq', hp', hr'⟩, ho'⟩
  have HQ' := zh hq'
  have HP' := zh hp'
  have HR' := zh hr'
  have HO' := zh ho'
  clear hq' hp' hr' ho'
  refine hK.out _ _ (HS5.out _ (HO'.out.block Bc (heap_lt HG5.out) (fun e => by have := HE.out; rcases e with e | e; (have h4 := HM.out.tL; have := HTL.out C.BL (by omega); omega); (have := HM.out.rq Bc e; have := HTL.out Bc (by omega); omega)))) zt ?_
  clear hK K
  refine wpAnyL_done (by kernel_rfl) ?_ _
  go_wp2_with fail
  obtain ⟨tag2, hle2, hor2, hm7⟩ := (HM6.out.below (Below.refl _ _).drew).ofQ HQ'.out HO'.out HR'.out (fun g e => by obtain ⟨xs, o1, _⟩ := HQ'.out.q.own; exact (o1.row e).2)
  refine Go.bodyPost_end (v := .tuple #[]) (by simp [results, Tryz.results77, go_sem]) rfl ⟨rfl, tag2, vq', es, { D with q := q' }, hm7, ⟨rfl, rfl, .inl ⟨.node pk'.1 0 ts, ⟨nd', pk', ts, HND.out, HPK.out, rfl, ?_⟩, HSZT.out, HP'.out, rfl⟩⟩, fun b hb => ?_, fun b hb => ?_, ?_⟩
  ·
   have hk := HKR.out
   rw [List.take_of_length_le (by rw [← HNK.out]; exact Nat.le_refl _)] at hk
   exact hk
  · rw [hle2 b (by rw [HLE1.out b hb]; exact hb), HLE1.out b hb]
  ·
   rcases hor2 b hb with h | h
   ·
    rcases HOR1.out b h with h2 | h2
    · exact .inl h2
    refine .inr ?_
    have := HE.out
    rcases h2 with h2 | h2
    · omega
    have := (HROW.out b h2).1; omega
   exact .inr (Nat.le_trans HON5.out.size h)
  refine (HON5.out.more fun b hb e => by omega).onto ((Only.drew w5 _).trans HO'.out) fun b hb e => ?_
  rcases e with e | e
  · have := HM.out.tL; subst e; omega
  have := HM.out.rq b e; omega
end Go.Proofs.YtjnbjdbndbbanaaGreatDoor
