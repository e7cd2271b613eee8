/- CntP PkCmp InsSort -/
import Derived.Test.YtjnbjdbndbbanaaGreatDoorTc19
namespace Go.Proofs.YtjnbjdbndbbanaaGreatDoor
open Go.RowKit
abbrev PackD := Int × List Int
abbrev NodeD := SymD × Int × Int × List PackD
abbrev RPack : Rep PackD := Rep.prod Rep.int (Rep.slice Rep.int)
abbrev RNode : Rep NodeD := Rep.prod RSym (Rep.prod Rep.int (Rep.prod Rep.int (Rep.slice RPack)))
section
variable {w : World} {S : Nat → Prop} {cs : List Value}
theorem RPack.cells {p : PackD} : RPack.ok w S cs p ↔ ∃ A n c, cs = [.int .i64 p.1, .slice A n c] ∧ Sl Rep.int w S A n c p.2 := by
 constructor
 ·
  rintro ⟨c1, c2, rfl, h1, A, n, c, rfl, h2⟩
  rw [show c1 = _ from h1]
  exact ⟨A, n, c, rfl, h2⟩
 rintro ⟨A, n, c, rfl, h⟩
 exact ⟨[_], [_], rfl, rfl, A, n, c, rfl, h⟩
theorem RNode.cells {d : NodeD} : RNode.ok w S cs d ↔ ∃ A n c, cs = [.bool d.1.1, .int .i64 d.1.2, .int .i64 d.2.1, .int .i64 d.2.2.1, .slice A n c] ∧ Sl RPack w S A n c d.2.2.2 := by
 constructor
 ·
  rintro ⟨c0, c1, rfl, h0, c2, c3, rfl, h2, c4, c5, rfl, h4, A, n, c, rfl, h⟩
  rw [show c2 = _ from h2, show c4 = _ from h4, RSym.cells.1 h0]
  exact ⟨A, n, c, rfl, h⟩
 rintro ⟨A, n, c, rfl, h⟩
 exact ⟨[_, _], _, rfl, RSym.cells.2 rfl, [_], _, rfl, rfl, [_], [_], rfl, rfl, A, n, c, rfl, h⟩
end
def BlI (wr : World) (B : Nat) (L : List Int) : Prop := wr.heap[B]? = some (.cells (L.map (Value.int .i64)).toArray 3 (0, 0))
section
variable {wr wr' : World} {B : Nat} {L : List Int}
theorem BlI.at_ (h : BlI wr B L) {i : Nat} {x : Int} (hx : L[i]? = some x) : wr.cell? ⟨B, i, none⟩ = some (.int .i64 x) ∧ wr.frozen? ⟨B, i, none⟩ = false := by
 refine ⟨?_, by have h2 : wr.heap[B]? = _ := h; simp [World.frozen?, h2]⟩
 rw [cell_of_row _ _ i _ _ _ h]
 simp [hx]
theorem BlI.set (h : BlI wr B L) (i : Nat) (x : Int) : BlI (wr.setCell ⟨B, i, none⟩ (.int .i64 x)) B (L.set i x) := by
 have := blk_set h i (.int .i64 x)
 have e : (L.map (Value.int .i64)).toArray.setIfInBounds i (.int .i64 x) = ((L.set i x).map (Value.int .i64)).toArray := by
  rw [List.setIfInBounds_toArray, List.map_set]
 rw [e] at this
 exact this
theorem BlI.only {X : Nat → Prop} (h : BlI wr B L) (ho : Only wr wr' X) (hX : ¬ X B) : BlI wr' B L := (ho.block _ (heap_lt h) hX).trans h
theorem BlI.below (h : BlI wr B L) (hb : Below wr.heap.size wr wr') : BlI wr' B L := (hb.block _ (heap_lt h)).trans h
theorem BlI.made (w : World) (n : Nat) : BlI (w.alloc (.cells (Array.replicate n (Value.int .i64 0)) 3)) w.heap.size (List.replicate n 0) := by
 unfold BlI
 rw [show ((List.replicate n (0 : Int)).map (Value.int .i64)).toArray = Array.replicate n (Value.int .i64 0) by simp]
 exact heap_alloc_new w _
end
def NEdge (ns : List NodeD) (i j : Nat) : Prop := ∃ nd, ns[i]? = some nd ∧ ∃ p ∈ nd.2.2.2, (j : Int) ∈ p.2
def NOk (ns : List NodeD) : Prop := ∀ nd ∈ ns, ∀ p ∈ nd.2.2.2, ∀ k ∈ p.2, 0 ≤ k ∧ k < (ns.length : Int)
def prodV (c : Nat → Nat) (ks : List Int) : Nat := ks.foldl (fun z k => cp (z * c k.toNat)) 1
def packsV (c : Nat → Nat) (b : Nat) (ps : List PackD) : Nat := ps.foldl (fun sum p => cp (sum + prodV c p.2)) b
def baseV (nd : NodeD) : Nat := if nd.1.1 = true then 1 else 0
def nodeV (ns : List NodeD) (c : Nat → Nat) (i : Nat) : Nat := match ns[i]? with
 | some nd => packsV c (baseV nd) nd.2.2.2
 | none => 0
open Classical in
noncomputable def nAcc (ns : List NodeD) (x : Nat) (h : Acc (fun y x => NEdge ns x y) x) : Nat :=
 Acc.rec (motive := fun _ _ => Nat) (fun x _ ih => nodeV ns (fun y => if h : NEdge ns x y then ih y h else 0) x) h
open Classical in
noncomputable def nC (ns : List NodeD) (x : Nat) : Nat := if h : Acc (fun y x => NEdge ns x y) x then nAcc ns x h else 0
section
variable {ns : List NodeD}
theorem prodV_congr {c c' : Nat → Nat} {ks : List Int} (h : ∀ k ∈ ks, c k.toNat = c' k.toNat) : prodV c ks = prodV c' ks := by
 unfold prodV
 generalize 1 = z
 induction ks generalizing z with
 | nil => rfl
 | cons k ks ih => rw [List.foldl_cons, List.foldl_cons, h k (by simp), ih (fun x hx => h x (by simp [hx]))]
theorem packsV_congr {c c' : Nat → Nat} {ps : List PackD} (b : Nat) (h : ∀ p ∈ ps, ∀ k ∈ p.2, c k.toNat = c' k.toNat) : packsV c b ps = packsV c' b ps := by
 unfold packsV
 induction ps generalizing b with
 | nil => rfl
 | cons p ps ih => rw [List.foldl_cons, List.foldl_cons, prodV_congr (h p (by simp)), ih _ (fun x hx => h x (by simp [hx]))]
theorem nodeV_congr (hk : NOk ns) {c c' : Nat → Nat} {x : Nat} (h : ∀ y, NEdge ns x y → c y = c' y) : nodeV ns c x = nodeV ns c' x := by
 unfold nodeV
 cases e : ns[x]? with
 | none => rfl
 | some nd =>
  refine packsV_congr _ fun p hp k hkp => h _ ⟨nd, e, p, hp, ?_⟩
  rw [Int.toNat_of_nonneg (hk nd (List.mem_of_getElem? e) p hp k hkp).1]
  exact hkp
open Classical in
theorem nC_eq (hk : NOk ns) {x : Nat} (h : Acc (fun y x => NEdge ns x y) x) : nC ns x = nodeV ns (nC ns) x := by
 have e : nC ns x = nAcc ns x h := by unfold nC; rw [dif_pos h]
 rw [e]
 have hu : nAcc ns x h = nodeV ns (fun y => if h' : NEdge ns x y then nAcc ns y (h.inv h') else 0) x := by
  cases h
  rfl
 rw [hu]
 refine nodeV_congr hk fun y hy => ?_
 rw [dif_pos hy]
 unfold nC
 rw [dif_pos (h.inv hy)]
theorem prodV_le (c : Nat → Nat) (ks : List Int) : prodV c ks ≤ MC := by
 unfold prodV
 have : ∀ (l : List Int) (z : Nat), z ≤ MC → l.foldl (fun z k => cp (z * c k.toNat)) z ≤ MC := by
  intro l
  induction l with
  | nil => exact fun z h => h
  | cons k l ih => exact fun z _ => ih _ (Nat.min_le_right _ _)
 exact this ks 1 (by decide)
theorem packsV_le (c : Nat → Nat) (ps : List PackD) {b : Nat} (hb : b ≤ MC) : packsV c b ps ≤ MC := by
 unfold packsV
 induction ps generalizing b with
 | nil => exact hb
 | cons p ps ih => exact ih (Nat.min_le_right _ _)
theorem nodeV_le (c : Nat → Nat) (x : Nat) : nodeV ns c x ≤ MC := by
 unfold nodeV
 split
 · exact packsV_le _ _ (by unfold baseV; split <;> decide)
 decide
theorem nC_le (hk : NOk ns) (x : Nat) : nC ns x ≤ MC := by
 by_cases h : Acc (fun y x => NEdge ns x y) x
 · rw [nC_eq hk h]; exact nodeV_le _ _
 unfold nC; rw [dif_neg h]; decide
theorem packsV_take {c : Nat → Nat} {b i : Nat} {ps : List PackD} {p : PackD} (h : ps[i]? = some p) : packsV c b (ps.take (i + 1)) = cp (packsV c b (ps.take i) + prodV c p.2) := by
 unfold packsV
 rw [List.take_add_one, h, Option.toList_some, List.foldl_append]
 rfl
theorem prodV_take {c : Nat → Nat} {i : Nat} {ks : List Int} {k : Int} (h : ks[i]? = some k) : prodV c (ks.take (i + 1)) = cp (prodV c (ks.take i) * c k.toNat) := by
 unfold prodV
 rw [List.take_add_one, h, Option.toList_some, List.foldl_append]
 rfl
end
def zs (st : List Int) : Nat := st.countP fun x => x == 0
theorem zs_set : ∀ {st : List Int} {v : Nat} {y : Int}, st[v]? = some 0 → y ≠ 0 → zs (st.set v y) + 1 = zs st
 | [], v, y, h, _ => by simp at h
 | x :: st, 0, y, h, hy => by
  simp only [List.getElem?_cons_zero, Option.some.injEq] at h
  subst h
  simp [zs, hy]
 | x :: st, v + 1, y, h, hy => by
  have := zs_set (st := st) (v := v) (y := y) (by simpa using h) hy
  simp only [zs, List.set_cons_succ, List.countP_cons] at this ⊢
  omega
theorem zs_mono : ∀ {st st' : List Int}, st'.length = st.length → (∀ i : Nat, st'[i]? = some 0 → st[i]? = some 0) → zs st' ≤ zs st
 | [], [], _, _ => Nat.le_refl _
 | [], _ :: _, h, _ => by simp at h
 | _ :: _, [], h, _ => by simp at h
 | x :: st, y :: st', hl, h => by
  have h1 := zs_mono (st := st) (st' := st') (by simpa using hl) fun i hi => by
   have := h (i + 1) (by simpa using hi)
   simpa using this
  have h2 := h 0
  simp only [List.getElem?_cons_zero, Option.some.injEq] at h2
  simp only [zs, List.countP_cons] at h1 ⊢
  by_cases e : y = 0
  ·
   subst e
   have h3 := h2 rfl
   subst h3
   simpa using h1
  simp only [beq_iff_eq, e, if_false]
  split <;> omega
structure CnS (ns : List NodeD) (st ct : List Int) : Prop where
 sl : st.length = ns.length
 cl : ct.length = ns.length
 rng : ∀ (i : Nat) (x : Int), st[i]? = some x → x = 0 ∨ x = 1 ∨ x = 2
 zero : ∀ i : Nat, st[i]? = some 0 → ct[i]? = some 0
 done : ∀ i : Nat, st[i]? = some 2 → Acc (fun y x => NEdge ns x y) i ∧ ct[i]? = some (nC ns i : Int)
structure CnN (st ct st' ct' : List Int) : Prop where
 one : ∀ i : Nat, st'[i]? = some 1 ↔ st[i]? = some 1
 two : ∀ i : Nat, st[i]? = some 2 → st'[i]? = some 2
 zer : ∀ i : Nat, st'[i]? = some 0 → st[i]? = some 0
 cnt : ∀ i : Nat, st[i]? = some 1 → ct'[i]? = ct[i]?
theorem CnN.refl (st ct : List Int) : CnN st ct st ct := ⟨fun _ => Iff.rfl, fun _ h => h, fun _ h => h, fun _ _ => rfl⟩
def cmpPk (p q : PackD) : Int := if cmpI p.1 q.1 = 0 then cmpL p.2 q.2 else cmpI p.1 q.1
set_option linter.unusedSimpArgs false in
set_option maxRecDepth 100000 in
set_option maxHeartbeats 4000000 in
theorem cmpPack (w : World) (p q : PackD) (S1 S2 : Nat → Prop) (A1 A2 : Option Addr) (n1 c1 n2 c2 : Nat) (h1 : Sl Rep.int w S1 A1 n1 c1 p.2) (h2 : Sl Rep.int w S2 A2 n2 c2 q.2) (hn1 : n1 ≤ 1000000000000) :
    Calls Tryz.prog 73 #[.agg #[.int .i64 p.1, .slice A1 n1 c1], .agg #[.int .i64 q.1, .slice A2 n2 c2]] w fun e w' => e = .returned (.int .i64 (cmpPk p q)) ∧ Below w.heap.size w w' := by
 obtain ⟨w2, hw2⟩ : ∃ w2 : World, w2 = (w.alloc (.cells #[.int .i64 p.1, .slice A1 n1 c1] 111)).alloc (.cells #[.int .i64 q.1, .slice A2 n2 c2] 111) := ⟨_, rfl⟩
 have HW2 := zh hw2
 have HB2 := zh (show Below w.heap.size w w2 by rw [hw2]; exact ((Below.refl _ _).alloc (Nat.le_refl _) _).alloc (by simp) _)
 have b1 : w2.heap[w.heap.size]? = some (.cells #[.int .i64 p.1, .slice A1 n1 c1] 111 (0, 0)) := by
  rw [hw2, Below.heap_alloc _ _ _ (by simp)]
  exact heap_alloc_new _ _
 have b2 : w2.heap[w.heap.size + 1]? = some (.cells #[.int .i64 q.1, .slice A2 n2 c2] 111 (0, 0)) := by
  rw [hw2]
  exact heap_new _ _ _ (by simp)
 have HC := zh (show ∀ x : World, Below w2.heap.size w2 x → x.cell? ⟨w.heap.size, 0, none⟩ = some (.int .i64 p.1) ∧ x.cell? ⟨w.heap.size, 1, none⟩ = some (.slice A1 n1 c1) ∧ x.cell? ⟨w.heap.size + 1, 0, none⟩ = some (.int .i64 q.1) ∧ x.cell? ⟨w.heap.size + 1, 1, none⟩ = some (.slice A2 n2 c2) from fun x hx => by
  have k1 := (hx.block _ (heap_lt b1)).trans b1
  have k2 := (hx.block _ (heap_lt b2)).trans b2
  exact ⟨by simp [World.cell?, k1], by simp [World.cell?, k1], by simp [World.cell?, k2], by simp [World.cell?, k2]⟩)
 have HF := zh (show firstNZ [cmpI p.1 q.1, cmpL p.2 q.2] = cmpPk p q by
  unfold firstNZ cmpPk
  split
  ·
   unfold firstNZ
   split
   · next h => rw [h]; rfl
   rfl
  rfl)
 have h1r := h1.ints
 have h2r := h2.ints
 clear hw2 b1 b2 h1 h2
 go_enter Tryz.func73, Tryz.ntmps73
 go_wp2_with fail
 rw [← HW2.out]
 refine wp_region_late (late := []) (S1 := fun x => x.cell? ⟨w.heap.size, 0, none⟩ = some (.int .i64 p.1) ∧ x.cell? ⟨w.heap.size, 1, none⟩ = some (.slice A1 n1 c1) ∧ x.cell? ⟨w.heap.size + 1, 0, none⟩ = some (.int .i64 q.1) ∧ x.cell? ⟨w.heap.size + 1, 1, none⟩ = some (.slice A2 n2 c2)) (S := fun _ => True) (by kernel_rfl) ?_
 refine zP (i := 0) rfl (fun u hu => by obtain ⟨k0, k1, k2, k3⟩ := hu; go_simp; try rfl) (HC.out _ (Below.refl _ _).drew) zt ?_
 simp only [Act.put, zA, zB, zC, zD, zF, zG]
 refine zP (i := 1) rfl (fun u hu => by obtain ⟨k0, k1, k2, k3⟩ := hu; go_simp; try rfl) (HC.out _ (Below.refl _ _).drew) zt ?_
 simp only [Act.put, zA, zB, zC, zD, zF, zG]
 refine zP (i := 2) rfl (fun u hu => by obtain ⟨k0, k1, k2, k3⟩ := hu; go_simp; try rfl) (HC.out _ (Below.refl _ _).drew) zt ?_
 simp only [Act.put, zA, zB, zC, zD, zF, zG]
 refine zP (i := 3) rfl (fun u hu => by obtain ⟨k0, k1, k2, k3⟩ := hu; go_simp; try rfl) (HC.out _ (Below.refl _ _).drew) zt ?_
 simp only [Act.put, zA, zB, zC, zD, zF, zG]
 refine zP (i := 5) rfl (fun u hu => by obtain ⟨k0, k1, k2, k3⟩ := hu; go_simp; try rfl) (HC.out _ (Below.refl _ _).drew) zt ?_
 simp only [Act.put, zA, zB, zC, zD, zF, zG]
 refine zP (i := 6) rfl (fun u hu => by obtain ⟨k0, k1, k2, k3⟩ := hu; go_simp; try rfl) (HC.out _ (Below.refl _ _).drew) zt ?_
 simp only [Act.put, zA, zB, zC, zD, zF, zG]
 refine zP (i := 7) rfl (fun u hu => by obtain ⟨k0, k1, k2, k3⟩ := hu; go_simp; try rfl) (HC.out _ (Below.refl _ _).drew) zt ?_
 simp only [Act.put, zA, zB, zC, zD, zF, zG]
 refine zP (i := 8) rfl (fun u hu => by obtain ⟨k0, k1, k2, k3⟩ := hu; go_simp; try rfl) (HC.out _ (Below.refl _ _).drew) zt ?_
 simp only [Act.put, zA, zB, zC, zD, zF, zG]
 refine zR 4 rfl (fun K hK => ?_)
 go_simp
 refine (cmpIntC _ _ _).mono ?_
 rintro e _ ⟨rfl, rfl⟩
 refine hK.out _ _ (HC.out _ (Below.refl _ _).drew) zt ?_
 clear hK K
 refine zR 9 rfl (fun K hK => ?_)
 go_simp
 refine (compareInt A1 A2 n1 c1 n2 c2 S1 S2 p.2 q.2 _ (Rd.below h1r HB2.out.drew) (Rd.below h2r HB2.out.drew) hn1).mono ?_
 rintro e _ ⟨rfl, rfl⟩
 refine hK.out _ _ (HC.out _ (Below.refl _ _).drew) zt ?_
 clear hK K
 refine zR 10 rfl (fun K hK => ?_)
 go_simp
 refine hK.out _ _ (HC.out _ ((Below.refl _ _).drew.alloc (Nat.le_refl _) _)) zt ?_
 clear hK K
 refine zR 11 rfl (fun K hK => ?_)
 go_simp
 refine (cmpOr _ (fun _ => True) _ _ _ [cmpI p.1 q.1, cmpL p.2 q.2] (Rd.new w2.drew _ _ [_, _] _ rfl trivial) (by simp)).mono ?_
 rintro e _ ⟨rfl, rfl⟩
 rw [HF.out]
 refine hK.out _ _ (HC.out _ ((Below.refl _ _).drew.alloc (Nat.le_refl _) _)) zt ?_
 clear hK K
 refine zP (i := 12) rfl (fun u hu => by obtain ⟨k0, k1, k2, k3⟩ := hu; go_simp; try rfl) (HC.out _ ((Below.refl _ _).drew.alloc (Nat.le_refl _) _)) zt ?_
 simp only [Act.put, zA, zB, zC, zD, zF, zG]
 refine wpAnyL_done (by kernel_rfl) ?_ _
 go_wp2_with fail
 go_ret
 exact ⟨rfl, (HB2.out.drew.alloc HB2.out.size _)⟩
def InOrd (ps : List PackD) : Prop := ∀ (i j : Nat) (x y : PackD), i < j → ps[i]? = some x → ps[j]? = some y → ¬ cmpPk y x < 0
structure StP (w : World) (S : Nat → Prop) (A : Option Addr) (n c : Nat) (ps : List PackD) : Prop where
 sl : Sl RPack w S A n c ps
 ord : InOrd ps
 len : ∀ p ∈ ps, p.2.length ≤ 1000000
 few : n ≤ 1000000
theorem StP.below {w w' : World} {S : Nat → Prop} {A : Option Addr} {n c : Nat} {ps : List PackD} (h : StP w S A n c ps) (hb : Below w.heap.size w w') : StP w' S A n c ps := ⟨h.sl.below hb, h.ord, h.len, h.few⟩
theorem StP.at_ {w : World} {S : Nat → Prop} {A : Option Addr} {n c : Nat} {ps : List PackD} (h : StP w S A n c ps) {k : Nat} (hk : k < n) : ∃ (b off : Nat) (p : PackD) (A1 : Option Addr) (m c1 : Nat), A = some ⟨b, off, none⟩ ∧ ps[k]? = some p ∧ w.cell? ⟨b, off + k * 2, none⟩ = some (.int .i64 p.1) ∧ w.cell? ⟨b, off + k * 2 + 1, none⟩ = some (.slice A1 m c1) ∧ Sl Rep.int w S A1 m c1 p.2 ∧ m ≤ 1000000 := by
 obtain ⟨b, off, u, v, p, e, _, hp, hok, hc1, hc2⟩ := h.sl.at2 (k := k) rfl hk
 obtain ⟨A1, m, c1, h2, hsl⟩ := RPack.cells.1 hok
 injection h2 with e1 h2
 injection h2 with e2 _
 subst e1
 subst e2
 exact ⟨b, off, p, A1, m, c1, e, hp, hc1, hc2, hsl, by rw [hsl.len]; exact h.len p (List.mem_of_getElem? hp)⟩
theorem enters_cp : ∀ (args : Array Value) (u : World), (callFunc 73 args).run Tryz.prog u = .ok (.enter 73 args) u := enters_of Tryz.func73 (by kernel_rfl) rfl
set_option linter.unusedSimpArgs false in
set_option maxRecDepth 100000 in
set_option maxHeartbeats 4000000 in
theorem insSt (w : World) (S : Nat → Prop) (A : Option Addr) (n c : Nat) (ps : List PackD) (h : StP w S A n c ps) (a b : Nat) (hb : b ≤ n) (ha : a ≤ n) :
    Calls Tryz.prog 109 #[.slice A n c, .int .i64 (a : Int), .int .i64 (b : Int), .func (.func 73) #[] #[]] w fun e w' => e = .returned (.tuple #[]) ∧ Below w.heap.size w w' := by
 have HS := zh h
 have hn := h.few
 have hent := enters_cp
 clear h
 go_enter Tryz.func109, Tryz.ntmps109
 go_wp2_with fail
 go_loopg [8] (n + 1 - (a + 1)) (fun g v8 wr => ∃ i : Nat, a < i ∧ i ≤ n + 1 ∧ g = n + 1 - i ∧ v8 = .int .i64 (i : Int) ∧ Below w.heap.size w wr)
 case atStart => exact ⟨a + 1, by omega, by omega, rfl, by go_num, Below.refl _ _⟩
 case round =>
  obtain ⟨i, hai, hin, hg, rfl, hbw⟩ := hrel
  obtain ⟨w3, rfl⟩ := zE wr
  have HG := zh hg
  have HB := zh hbw
  clear hg hbw
  by_cases hib : i < b
  ·
   have hibI : (i : Int) < (b : Int) := by omega
   go_wp2_with fail
   go_loopg [9] 0 (fun g v9 wr => g = 0 ∧ v9 = .int .i64 (i : Int) ∧ wr = w3)
   case atStart => exact ⟨rfl, rfl, rfl⟩
   case round =>
    obtain ⟨_, rfl, rfl⟩ := hrel
    obtain ⟨k, hk⟩ : ∃ k, i = k + 1 := ⟨i - 1, by omega⟩
    have HS3 := zh (HS.out.below HB.out)
    obtain ⟨bA, oA, q, A2, m2, c2, hA, hq, q0, q1, hsq, hm2⟩ := HS3.out.at_ (k := i) (by omega)
    obtain ⟨bA', oA', p, A1, m1, c1, hA', hp, p0, p1, hsp, hm1⟩ := HS3.out.at_ (k := k) (by omega)
    subst hA
    injection hA' with hA'
    injection hA' with e1 e2
    subst e1
    subst e2
    have hw : IntKind.i64.wrap ((i : Int) - 1) = (k : Int) := by rw [IntKind.wrap_i64]; omega
    have HNL := zh (HS3.out.ord k i p q (by omega) hp hq)
    have haI : (a : Int) < (i : Int) := by omega
    have hi0 : (0 : Int) ≤ (i : Int) := by omega
    have hiI : (i : Int) < (n : Int) := by omega
    have hk0 : (0 : Int) ≤ (k : Int) := by omega
    have hkI : (k : Int) < (n : Int) := by omega
    have HQ := zh hsq
    have HP := zh hsp
    have HSA := zh (show ∀ x : World, Below wr.heap.size wr x → x.cell? ⟨bA, oA + i * 2, none⟩ = some (.int .i64 q.1) ∧ x.cell? ⟨bA, oA + i * 2 + 1, none⟩ = some (.slice A2 m2 c2) ∧ x.cell? ⟨bA, oA + k * 2, none⟩ = some (.int .i64 p.1) ∧ x.cell? ⟨bA, oA + k * 2 + 1, none⟩ = some (.slice A1 m1 c1) from fun x hx =>
     ⟨(hx.cell (cell_lt q0)).trans q0, (hx.cell (cell_lt q1)).trans q1, (hx.cell (cell_lt p0)).trans p0, (hx.cell (cell_lt p1)).trans p1⟩)
    clear hq hp hsq hsp hk q0 q1 p0 p1
    go_wp2_with fail
    refine wp_region_late (late := []) (S1 := fun x => x.cell? ⟨bA, oA + i * 2, none⟩ = some (.int .i64 q.1) ∧ x.cell? ⟨bA, oA + i * 2 + 1, none⟩ = some (.slice A2 m2 c2) ∧ x.cell? ⟨bA, oA + k * 2, none⟩ = some (.int .i64 p.1) ∧ x.cell? ⟨bA, oA + k * 2 + 1, none⟩ = some (.slice A1 m1 c1)) (S := fun _ => True) (by kernel_rfl) ?_
    refine zP (i := 0) rfl (fun u hu => by obtain ⟨j0, j1, j2, j3⟩ := hu; go_simp; try first | rfl | (simp; done)) (HSA.out _ (Below.refl _ _).drew) zt ?_
    simp only [Act.put, zA, zB, zC, zD, zF, zG]
    refine zP (i := 1) rfl (fun u hu => by obtain ⟨j0, j1, j2, j3⟩ := hu; go_simp; try first | rfl | (simp; done)) (HSA.out _ (Below.refl _ _).drew) zt ?_
    simp only [Act.put, zA, zB, zC, zD, zF, zG]
    refine zP (i := 2) (v := .bool true) rfl (fun u hu => by obtain ⟨j0, j1, j2, j3⟩ := hu; go_simp; try first | rfl | (simp; done)) (HSA.out _ (Below.refl _ _).drew) zt ?_
    simp only [Act.put, zA, zB, zC, zD, zF, zG]
    refine zP (i := 3) (v := .bool true) rfl (fun u hu => by obtain ⟨j0, j1, j2, j3⟩ := hu; go_simp; try first | rfl | (simp; done)) (HSA.out _ (Below.refl _ _).drew) zt ?_
    simp only [Act.put, zA, zB, zC, zD, zF, zG]
    refine zP (i := 4) rfl (fun u hu => by obtain ⟨j0, j1, j2, j3⟩ := hu; go_simp; try first | rfl | (simp; done)) (HSA.out _ (Below.refl _ _).drew) zt ?_
    simp only [Act.put, zA, zB, zC, zD, zF, zG]
    refine zP (i := 5) rfl (fun u hu => by obtain ⟨j0, j1, j2, j3⟩ := hu; go_simp; try first | rfl | (simp; done)) (HSA.out _ (Below.refl _ _).drew) zt ?_
    simp only [Act.put, zA, zB, zC, zD, zF, zG]
    refine zP (i := 6) rfl (fun u hu => by obtain ⟨j0, j1, j2, j3⟩ := hu; go_simp; try first | rfl | (simp; done)) (HSA.out _ (Below.refl _ _).drew) zt ?_
    simp only [Act.put, zA, zB, zC, zD, zF, zG]
    refine zP (i := 7) rfl (fun u hu => by obtain ⟨j0, j1, j2, j3⟩ := hu; go_simp; try first | rfl | (simp; done)) (HSA.out _ (Below.refl _ _).drew) zt ?_
    simp only [Act.put, zA, zB, zC, zD, zF, zG]
    refine zP (i := 8) rfl (fun u hu => by obtain ⟨j0, j1, j2, j3⟩ := hu; go_simp; try first | rfl | (simp; done)) (HSA.out _ (Below.refl _ _).drew) zt ?_
    simp only [Act.put, zA, zB, zC, zD, zF, zG]
    refine zP (i := 9) rfl (fun u hu => by obtain ⟨j0, j1, j2, j3⟩ := hu; go_simp; try first | rfl | (simp; done)) (HSA.out _ (Below.refl _ _).drew) zt ?_
    simp only [Act.put, zA, zB, zC, zD, zF, zG]
    refine zP (i := 10) rfl (fun u hu => by obtain ⟨j0, j1, j2, j3⟩ := hu; go_simp; try first | rfl | (simp; done)) (HSA.out _ (Below.refl _ _).drew) zt ?_
    simp only [Act.put, zA, zB, zC, zD, zF, zG]
    refine zP (i := 11) rfl (fun u hu => by obtain ⟨j0, j1, j2, j3⟩ := hu; go_simp; try first | rfl | (simp; done)) (HSA.out _ (Below.refl _ _).drew) zt ?_
    simp only [Act.put, zA, zB, zC, zD, zF, zG]
    refine zP (i := 12) rfl (fun u hu => by obtain ⟨j0, j1, j2, j3⟩ := hu; go_simp; try first | rfl | (simp; done)) (HSA.out _ (Below.refl _ _).drew) zt ?_
    simp only [Act.put, zA, zB, zC, zD, zF, zG]
    refine zP (i := 13) rfl (fun u hu => by obtain ⟨j0, j1, j2, j3⟩ := hu; go_simp; try first | rfl | (simp; done)) (HSA.out _ (Below.refl _ _).drew) zt ?_
    simp only [Act.put, zA, zB, zC, zD, zF, zG]
    refine zR 14 rfl (fun K hK => ?_)
    go_simp
    refine (cmpPack wr.drew q p _ _ A2 A1 m2 c2 m1 c1 HQ.out.drew HP.out.drew (by omega)).mono ?_
    rintro e w5 ⟨rfl, hb5⟩
    have HB5 := zh ((Below.refl wr.heap.size wr).drew.trans hb5)
    have hnl := HNL.out
    clear hb5
    refine hK.out _ _ (HSA.out _ HB5.out) zt ?_
    clear hK K
    refine zP (i := 15) (v := .bool false) rfl (fun u hu => by obtain ⟨j0, j1, j2, j3⟩ := hu; go_simp; try first | rfl | (simp; done)) (HSA.out _ HB5.out) zt ?_
    simp only [Act.put, zA, zB, zC, zD, zF, zG]
    refine zP (i := 16) (v := .bool false) rfl (fun u hu => by obtain ⟨j0, j1, j2, j3⟩ := hu; go_simp; try first | rfl | (simp; done)) (HSA.out _ HB5.out) zt ?_
    simp only [Act.put, zA, zB, zC, zD, zF, zG]
    refine wpAnyL_done (by kernel_rfl) ?_ _
    go_wp2_with fail
    go_roundg (n + 1 - (i + 1))
    case measure => rw [HG.out]; omega
    case rel => exact ⟨i + 1, by omega, by omega, rfl, by go_num, HB.out.trans (HB5.out.mono HB.out.size)⟩
  have hibI : ¬ (i : Int) < (b : Int) := by omega
  go_wp2_with fail
  exact Go.bodyPost_end (v := .tuple #[]) (by simp [results, Tryz.results109, go_sem]) rfl ⟨rfl, HB.out⟩
end Go.Proofs.YtjnbjdbndbbanaaGreatDoor
