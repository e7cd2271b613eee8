/- Stable BdM -/
import Derived.Test.YtjnbjdbndbbanaaGreatDoorTc26
import Derived.Test.YtjnbjdbndbbanaaGreatDoorTc29
import Derived.Test.YtjnbjdbndbbanaaGreatDoorTc30
namespace Go.Proofs.YtjnbjdbndbbanaaGreatDoor
open Go.RowKit
theorem symAll (S : Nat → Prop) (A : Option Addr) (n c : Nat) (ps : List PackD) (d : Nat) : SymAt S A n c ps d := by
 induction d using Nat.strongRecOn with
 | ind d ih => exact symS S A n c ps d ih
set_option linter.unusedSimpArgs false in
set_option maxRecDepth 100000 in
set_option maxHeartbeats 4000000 in
theorem stableSt (w : World) (S : Nat → Prop) (A : Option Addr) (n c : Nat) (ps : List PackD) (h : StP w S A n c ps) :
    Calls Tryz.prog 89 #[.slice A n c, .int .i64 (n : Int), .func (.func 73) #[] #[]] w fun e w' => e = .returned (.tuple #[]) ∧ Below w.heap.size w w' := by
 have HS := zh h
 have hn := h.few
 clear h
 go_enter Tryz.func89, Tryz.ntmps89
 go_wp2_with fail
 go_loopg [7, 8] n (fun g v7 v8 wr => ∃ a : Nat, a ≤ n ∧ g = n - a ∧ v7 = .int .i64 (a : Int) ∧ v8 = .int .i64 ((a + 20 : Nat) : Int) ∧ Below w.heap.size w wr)
 case atStart => exact ⟨0, by omega, rfl, rfl, rfl, Below.refl _ _⟩
 case round =>
  obtain ⟨a, han, hg, rfl, rfl, hb⟩ := hrel
  obtain ⟨w3, rfl⟩ := zE wr
  have HG := zh hg
  have HB := zh hb
  clear hg hb
  obtain ⟨b, hab⟩ := zE (a + 20)
  rw [← hab]
  have HAB := zh hab
  by_cases hbn : b ≤ n
  ·
   have hbI : (b : Int) ≤ (n : Int) := by omega
   clear hab
   go_wp2_with (go_at_call 109; refine (insSt w3 S A n c ps (HS.out.below HB.out) a b hbn han).mono ?_; rintro e w4 ⟨rfl, hb4⟩; have HB4 := zh (HB.out.trans (hb4.mono HB.out.size)); clear hb4)
   go_roundg (n - b)
   case measure => rw [HG.out]; have := HAB.out; omega
   case rel => exact ⟨b, hbn, rfl, rfl, by go_num, HB4.out⟩
  have hbI : ¬ (b : Int) ≤ (n : Int) := by omega
  clear hab
  go_wp2_with (go_at_call 109; refine (insSt w3 S A n c ps (HS.out.below HB.out) a n (Nat.le_refl _) han).mono ?_; rintro e w4 ⟨rfl, hb4⟩; have HB4 := zh (HB.out.trans (hb4.mono HB.out.size)); clear hb4)
  go_loopg [6, 7, 8] (2 * n - 20) (fun g v6 v7 v8 wr => ∃ (s : Nat), 20 ≤ s ∧ s ≤ 2 * n + 20 ∧ g = 2 * n - s ∧ v6 = .int .i64 (s : Int) ∧ Below w.heap.size w wr)
  case atStart => exact ⟨20, by omega, by omega, rfl, rfl, HB4.out⟩
  case round =>
   obtain ⟨s, hs1, hs2, hg, rfl, hb⟩ := hrel
   obtain ⟨w5, rfl⟩ := zE wr
   have HG5 := zh hg
   have HB5 := zh hb
   clear hg hb
   by_cases hsn : s < n
   ·
    have hsI : (s : Int) < (n : Int) := by omega
    go_wp2_with fail
    go_loopg [7, 8] n (fun g v7 v8 wr => ∃ a : Nat, a ≤ n ∧ g = n - a ∧ v7 = .int .i64 (a : Int) ∧ v8 = .int .i64 ((a + 2 * s : Nat) : Int) ∧ Below w.heap.size w wr)
    case atStart => exact ⟨0, by omega, rfl, rfl, by go_num, HB5.out⟩
    case round =>
     obtain ⟨a2, han2, hg, rfl, rfl, hb⟩ := hrel
     obtain ⟨w6, rfl⟩ := zE wr
     have HG6 := zh hg
     have HB6 := zh hb
     clear hg hb
     obtain ⟨b2, hab2⟩ := zE (a2 + 2 * s)
     obtain ⟨m2, hm2⟩ := zE (a2 + s)
     have hmI : (a2 : Int) + (s : Int) = (m2 : Int) := by omega
     rw [← hab2]
     have HAB2 := zh hab2
     have HM2 := zh hm2
     by_cases hbn2 : b2 ≤ n
     ·
      have hbI2 : (b2 : Int) ≤ (n : Int) := by omega
      clear hab2 hm2
      go_wp2_with (go_at_call 110; refine (symAll S A n c ps (b2 - a2) w6 a2 m2 b2 (HS.out.below HB6.out) (by have := HM2.out; omega) (by have := HM2.out; have := HAB2.out; omega) hbn2 (Nat.le_refl _)).mono ?_; rintro e w7 ⟨rfl, hb7⟩; have HB7 := zh (HB6.out.trans (hb7.mono HB6.out.size)); clear hb7)
      go_roundg (n - b2)
      case measure => rw [HG6.out]; have := HAB2.out; omega
      case rel => exact ⟨b2, hbn2, rfl, rfl, by go_num, HB7.out⟩
     have hbI2 : ¬ (b2 : Int) ≤ (n : Int) := by omega
     clear hab2 hm2
     by_cases hmn : m2 < n
     ·
      have hmnI : (m2 : Int) < (n : Int) := by omega
      go_wp2_with (go_at_call 110; refine (symAll S A n c ps (n - a2) w6 a2 m2 n (HS.out.below HB6.out) (by have := HM2.out; omega) hmn (Nat.le_refl _) (Nat.le_refl _)).mono ?_; rintro e w7 ⟨rfl, hb7⟩; have HB7 := zh (HB6.out.trans (hb7.mono HB6.out.size)); clear hb7)
      go_roundg (2 * n - 2 * s)
      case measure => rw [HG5.out]; omega
      case rel => exact ⟨2 * s, by omega, by omega, rfl, by go_num, HB7.out⟩
     have hmnI : ¬ (m2 : Int) < (n : Int) := by omega
     go_wp2_with fail
     go_roundg (2 * n - 2 * s)
     case measure => rw [HG5.out]; omega
     case rel => exact ⟨2 * s, by omega, by omega, rfl, by go_num, HB6.out⟩
   have hsI : ¬ (s : Int) < (n : Int) := by omega
   go_wp2_with fail
   exact Go.bodyPost_end (v := .tuple #[]) (by simp [results, Tryz.results89, go_sem]) rfl ⟨rfl, HB5.out⟩
set_option maxHeartbeats 1000000 in
theorem sortStable (w : World) (S : Nat → Prop) (A : Option Addr) (n c : Nat) (ps : List PackD) (h : StP w S A n c ps) :
    Calls Tryz.prog 72 #[.slice A n c, .func (.func 73) #[] #[]] w fun e w' => e = .returned (.tuple #[]) ∧ Below w.heap.size w w' := by
 have HS := zh h
 clear h
 go_enter Tryz.func72, Tryz.ntmps72
 go_wp2_with (go_at_call 89; refine (stableSt w S A n c ps HS.out).mono ?_; rintro e w4 ⟨rfl, hb4⟩)
 exact Go.bodyPost_end (v := .tuple #[]) (by simp [results, Tryz.results72, go_sem]) rfl ⟨rfl, hb4⟩
end Go.Proofs.YtjnbjdbndbbanaaGreatDoor
namespace Go.Proofs.YtjnbjdbndbbanaaGreatDoor
open Go.RowKit Go.Maps
theorem GL.field {α : Type} {R : Rep α} {E : TypeId} {w : World} {F G : Nat → Prop} {v : Value} {l : List α} {P : Program} {T s bytes : Nat} {z : Value} (hT : SlType P T E s bytes z) (hs : R.size = s) (h : GL R E w F v l) {x : α} {ys : List Value} (hx : R.ok w G ys x) (hG : ∀ b, G b → rowOf v ≠ some b) (hl : l.length ≤ 1000000) (hby : bytes ≤ 100) (ty : TypeId)
    {B i : Nat} {cs : Array Value} {Eb : TypeId} (hB : w.heap[B]? = some (.cells cs Eb (0, 0))) (hi : cs[i]? = some v) (hF : ¬ F B) (hGB : ¬ G B) :
    ∃ A' c' w', (Builtin.append_ #[T, T] ty #[v, .slice (some ⟨w.heap.size, 0, none⟩) 1 1]).run P (w.alloc (.cells ys.toArray E)) = .ok (.slice A' (l.length + 1) c') w' ∧ (w'.cell? ⟨B, i, none⟩ = some v ∧ w'.frozen? ⟨B, i, none⟩ = false) ∧
     GL R E (w'.setCell ⟨B, i, none⟩ (.slice A' (l.length + 1) c')) (fun b => F b ∨ G b ∨ b = w.heap.size + 1) (.slice A' (l.length + 1) c') (l ++ [x]) ∧
     (w'.setCell ⟨B, i, none⟩ (.slice A' (l.length + 1) c')).heap[B]? = some (.cells (cs.setIfInBounds i (.slice A' (l.length + 1) c')) Eb (0, 0)) ∧ Only w (w'.setCell ⟨B, i, none⟩ (.slice A' (l.length + 1) c')) (fun b => F b ∨ b = B) ∧ Only w w' F := by
 obtain ⟨A', c', w', hrun, hgl, hg, _⟩ := h.push hT hs hx hG hl hby ty
 have hBl := heap_lt hB
 have ho1 : Only w w' (fun b => F b) := (Only.alloc w _ _).trans (Only.of_grown hg fun b e => h.row _ e)
 have hB' := (ho1.block B hBl hF).trans hB
 refine ⟨A', c', w', hrun, ⟨by simp [World.cell?, hB', hi], by simp [World.frozen?, hB']⟩, ?_, blk_set hB' i _, (ho1.more fun b _ h => .inl h).trans (Only.set _ _ _ _ (.inr rfl)), ho1⟩
 refine hgl.only (X := fun b => b = B) (Only.set _ _ _ _ rfl) fun b hb _ e => ?_
 subst e
 rcases hb with h | h | h
 · exact hF h
 · exact hGB h
 omega
theorem wpList_kins {P : Program} {k : TypeId} {κ : Type} [DecidableEq κ] {K : KeyRep P k κ} (w : World) {ops : Array Oper} {rest : List Oper} {o : Oper} {a : Act} {Q : Exit → Act → World → Prop} (hg : o.guard = none) (m x v : Operand) (t : TypeId) (hop : o.op = Op.insert t m x v) (e : TypeId) (ht : P.underlying t = some (.map k e))
    (b : Nat) (l : List (κ × Value)) (hm : a.eval m = .map (some b)) (hown : AMap K w b l) (q : κ) (hx : a.eval x = K.val q) (hq : K.ok q) (u : Value) (hv : a.eval v = u) (hl : l.length < maxLen)
    (hK : ∀ w', AMap K w' b (putL l q u) → w.grownBy w' (some b) → wpList P ops Q rest (a.put o.dst undef) w') : wpList P ops Q (o :: rest) a w := by
 refine wpList_plain hg fun K' hK' => ?_
 obtain ⟨w', hrun, r1, r2⟩ := hown.put ht hq u hl
 unfold Oper.wp
 simp [execOp, hop, hm, hx, hv, hrun, Result.andThen]
 exact hK' _ _ (hK w' r1 r2)
theorem Sl.keyAt {w : World} {S : Nat → Prop} {A : Option Addr} {n c : Nat} {L : List KeyD} (h : Sl RKey w S A n c L) {k : Nat} (hk : k < n) : ∃ (b off : Nat) (x : KeyD), A = some ⟨b, off, none⟩ ∧ S b ∧ L[k]? = some x ∧
    (w.cell? ⟨b, off + k * 4, none⟩ = some (.bool x.1.1) ∧ w.cell? ⟨b, off + k * 4 + 1, none⟩ = some (.int .i64 x.1.2) ∧ w.cell? ⟨b, off + k * 4 + 2, none⟩ = some (.int .i64 (x.2.1 : Int)) ∧ w.cell? ⟨b, off + k * 4 + 3, none⟩ = some (.int .i64 (x.2.2 : Int))) := by
 obtain ⟨xs, e1, e2, h3, h4⟩ := h
 subst e1
 have hg := RKey.cells.1 (h4.get hk)
 have hl := h4.len
 obtain ⟨b, off, e, hS, hc⟩ := h3.2 (by omega)
 have h5 : ∀ j u, ([.bool L[k].1.1, .int .i64 L[k].1.2, .int .i64 (L[k].2.1 : Int), .int .i64 (L[k].2.2 : Int)] : List Value)[j]? = some u → j < 4 → w.cell? ⟨b, off + (k * 4 + j), none⟩ = some u := by
  intro j u hu hj
  rw [← hg] at hu
  refine hc _ _ ?_
  have h6 : (xs.drop (k * RKey.size))[j]? = some u := by
   rw [List.getElem?_take_of_lt (by exact hj)] at hu
   exact hu
  rw [List.getElem?_drop] at h6
  exact h6
 exact ⟨b, off, L[k], e, hS, List.getElem?_eq_getElem hk, h5 0 _ rfl (by omega), h5 1 _ rfl (by omega), h5 2 _ rfl (by omega), h5 3 _ rfl (by omega)⟩
theorem keyOne {w : World} {b : Nat} {x : KeyD} (h : w.heap[b]? = some (.cells #[.bool x.1.1, .int .i64 x.1.2, .int .i64 (x.2.1 : Int), .int .i64 (x.2.2 : Int)] 144 (0, 0))) : GL RKey 144 w (fun c => c = b) (.slice (some ⟨b, 0, none⟩) 1 1) [x] := by
 refine ⟨⟨[.bool x.1.1, .int .i64 x.1.2, .int .i64 (x.2.1 : Int), .int .i64 (x.2.2 : Int)], .inl ⟨rfl, .inr ⟨b, 1, _, rfl, Nat.zero_le _, h, Nat.le_refl _, by simp [maxLen], rfl, rfl⟩⟩, Cells.single (RKey.cells.2 rfl)⟩, fun g e => ?_⟩
 injection e with e
 exact e.symm
theorem two_set {w : World} {K : Nat} {t : TypeId} {a0 a1 : Value} (h : w.heap[K]? = some (.cells #[a0, a1] t (0, 0))) (u0 u1 : Value) :
    ((w.setCell ⟨K, 0, none⟩ u0).setCell ⟨K, 1, none⟩ u1).heap[K]? = some (.cells #[u0, u1] t (0, 0)) ∧ Only w ((w.setCell ⟨K, 0, none⟩ u0).setCell ⟨K, 1, none⟩ u1) (fun b => b = K) := by
 have h1 := blk_set (blk_set h 0 u0) 1 u1
 have hX : ∀ (v : World) (o : Nat) (u : Value), Only v (v.setCell ⟨K, o, none⟩ u) (fun b => b = K) := fun v o u => Only.set _ _ _ _ rfl
 exact ⟨by simpa using h1, (hX _ _ _).trans (hX _ _ _)⟩
theorem tPacks : SlType Tryz.prog 104 111 2 32 (.agg #[.int .i64 0, .slice none 0 0]) := ⟨by kernel_rfl, by kernel_rfl, by kernel_rfl, rfl, by decide⟩
theorem tNodes : SlType Tryz.prog 36 106 5 56 (.agg #[.bool false, .int .i64 0, .int .i64 0, .int .i64 0, .slice none 0 0]) := ⟨by kernel_rfl, by kernel_rfl, by kernel_rfl, rfl, by decide⟩
theorem zeroKB (u : World) : (zeroValue 4).run Tryz.prog u = .ok (.bool false) u := by kernel_rfl
theorem zeroKI (u : World) : (zeroValue 3).run Tryz.prog u = .ok (.int .i64 0) u := by kernel_rfl
theorem zeroKP (u : World) : (zeroValue 148).run Tryz.prog u = .ok (.slice none 0 0) u := by kernel_rfl
theorem KB.ok {x : KeyD} (h : KB x) : KKey.ok x := ⟨⟨by have := h.1.1; omega, by have := h.1.2; omega⟩, ⟨by omega, by have := h.2.1; omega⟩, by omega, by have := h.2.2; omega⟩
def setK (L : List KeyD) : List (KeyD × Value) := L.map fun k => (k, .bool true)
theorem setK_keys (L : List KeyD) : (setK L).map Prod.fst = L := by
 unfold setK
 rw [List.map_map, show (Prod.fst ∘ fun k : KeyD => (k, Value.bool true)) = id from rfl, List.map_id]
theorem lk_setK (L : List KeyD) (k : KeyD) : (lk (setK L) k).getD (.bool false) = .bool (decide (k ∈ L)) := by
 unfold setK
 induction L with
 | nil => rfl
 | cons u L ih =>
  rw [List.map_cons]
  unfold lk
  by_cases h : u = k
  ·
   subst h
   rw [if_pos rfl]
   simp
  rw [if_neg h, ih]
  simp [Ne.symm h]
theorem setK_put {L : List KeyD} {k : KeyD} (h : k ∉ L) : putL (setK L) k (.bool true) = setK (L ++ [k]) := by
 rw [putL_new (by rw [setK_keys]; exact h)]
 unfold setK
 rw [List.map_append]
 rfl
def nmK (L : List KeyD) : List (KeyD × Value) := L.zipIdx.map fun p => (p.1, .int .i64 (p.2 : Int))
theorem nmK_keys (L : List KeyD) : (nmK L).map Prod.fst = L := by
 unfold nmK
 rw [List.map_map]
 exact List.zipIdx_map_fst 0 L
theorem nmK_put {L : List KeyD} {k : KeyD} (h : k ∉ L) : putL (nmK L) k (.int .i64 (L.length : Int)) = nmK (L ++ [k]) := by
 rw [putL_new (by rw [nmK_keys]; exact h)]
 unfold nmK
 rw [List.zipIdx_append, List.map_append]
 simp
theorem lk_nmK {L : List KeyD} (hd : L.Nodup) {k : KeyD} (h : k ∈ L) : (lk (nmK L) k).getD (.int .i64 0) = .int .i64 (ixK L k : Int) := by
 rw [lk_of_mem (v := .int .i64 (ixK L k : Int)) (by rw [nmK_keys]; exact hd)]
 · rfl
 unfold nmK
 refine List.mem_map.2 ⟨(k, ixK L k), ?_, rfl⟩
 rw [List.mem_zipIdx_iff_getElem?]
 exact ixK_at h
structure PMap (R : List RuleD) (ws : List Int) (w : World) (PB : Nat → Prop) (b : Nat) (ks : List KeyD) (es : List (KeyD × Value)) : Prop where
 map : AMap KKey w b es
 keys : es.map Prod.fst = ks
 val : ∀ e ∈ es, ∃ A n c, e.2 = .slice A n c ∧ Sl RCPk w PB A n c (packsP R ws e.1)
section
variable {R : List RuleD} {ws : List Int} {w w' w3 : World} {z M V : Nat} {PB PB' FL X : Nat → Prop} {v : Value} {L ks : List KeyD} {es S S' : List (KeyD × Value)}
theorem PMap.only (h : PMap R ws w PB M ks es) (ho : Only w w' X) (hM : ¬ X M) (hP : ∀ b, PB b → ¬ X b) : PMap R ws w' PB M ks es :=
 ⟨h.map.only ho hM, h.keys, fun e he => by obtain ⟨A, n, c, e1, hs⟩ := h.val e he; exact ⟨A, n, c, e1, hs.keep (ho.kept hP)⟩⟩
theorem PMap.get (h : PMap R ws w PB M ks es) {k : KeyD} (hk : k ∈ ks) : ∃ A n c, (lk es k).getD (.slice none 0 0) = .slice A n c ∧ Sl RCPk w PB A n c (packsP R ws k) := by
 rw [← h.keys] at hk
 cases hl : lk es k with
 | none => exact absurd hk (lk_none.1 hl)
 | some u =>
  obtain ⟨A, n, c, e1, hs⟩ := h.val _ (lk_mem hl)
  exact ⟨A, n, c, e1, hs⟩
structure BSt (R : List RuleD) (ws : List Int) (z : Nat) (w3 : World) (M V : Nat) (w : World) (FL PB : Nat → Prop) (v : Value) (L : List KeyD) (S : List (KeyD × Value)) (ks : List KeyD) (es : List (KeyD × Value)) : Prop where
 low : Below z w3 w
 zw : z ≤ w.heap.size
 gl : GL RKey 144 w FL v L
 sn : AMap KKey w V S
 pk : PMap R ws w PB M ks es
 fl : ∀ b, FL b → (z ≤ b ∧ b < w.heap.size) ∧ b ≠ M ∧ b ≠ V ∧ ¬ PB b
 pb : ∀ b, PB b → (z ≤ b ∧ b < w.heap.size) ∧ b ≠ M ∧ b ≠ V
 mv : M ≠ V ∧ z ≤ M ∧ z ≤ V
theorem BSt.below (h : BSt R ws z w3 M V w FL PB v L S ks es) (hb : Below w.heap.size w w') : BSt R ws z w3 M V w' FL PB v L S ks es := by
 have ho : Only w w' (fun _ => False) := .of_below hb (Nat.le_refl _) _
 have hz := ho.size
 exact ⟨h.low.trans (hb.mono h.zw), Nat.le_trans h.zw hz, h.gl.below hb, h.sn.below hb, h.pk.only ho id fun _ _ => id, fun b hb => ⟨⟨(h.fl b hb).1.1, by have := (h.fl b hb).1.2; omega⟩, (h.fl b hb).2⟩, fun b hb => ⟨⟨(h.pb b hb).1.1, by have := (h.pb b hb).1.2; omega⟩, (h.pb b hb).2⟩, h.mv⟩
theorem BSt.seen (h : BSt R ws z w3 M V w FL PB v L S ks es) (hm : AMap KKey w' V S') (hg : w.grownBy w' (some V)) : BSt R ws z w3 M V w' FL PB v L S' ks es := by
 have ho : Only w w' (fun b => b = V) := Only.of_grown hg fun b e => by injection e with e; exact e.symm
 have hz := ho.size
 exact ⟨h.low.trans (ho.below (fun b e => by have := h.mv.2.2; omega) h.zw), Nat.le_trans h.zw hz, h.gl.only ho fun b hb _ e => (h.fl b hb).2.2.1 e, hm, h.pk.only ho h.mv.1 fun b hb e => (h.pb b hb).2.2 e, fun b hb => ⟨⟨(h.fl b hb).1.1, by have := (h.fl b hb).1.2; omega⟩, (h.fl b hb).2⟩, fun b hb => ⟨⟨(h.pb b hb).1.1, by have := (h.pb b hb).1.2; omega⟩, (h.pb b hb).2⟩, h.mv⟩
theorem BSt.row (h : BSt R ws z w3 M V w FL PB v L S ks es) {L' : List KeyD} (hl : GL RKey 144 w' FL v L') (hg : w.grownBy w' (rowOf v)) : BSt R ws z w3 M V w' FL PB v L' S ks es := by
 have ho : Only w w' FL := Only.of_grown hg fun b e => h.gl.row _ e
 have hz := ho.size
 exact ⟨h.low.trans (ho.below (fun b e => (h.fl b e).1.1) h.zw), Nat.le_trans h.zw hz, hl, h.sn.only ho fun e => (h.fl _ e).2.2.1 rfl, h.pk.only ho (fun e => (h.fl _ e).2.1 rfl) fun b hb e => (h.fl b e).2.2.2 hb, fun b hb => ⟨⟨(h.fl b hb).1.1, by have := (h.fl b hb).1.2; omega⟩, (h.fl b hb).2⟩, fun b hb => ⟨⟨(h.pb b hb).1.1, by have := (h.pb b hb).1.2; omega⟩, (h.pb b hb).2⟩, h.mv⟩
theorem BSt.push (h : BSt R ws z w3 M V w FL PB v L S ks es) (y : KeyD) (hl : L.length ≤ 1000000) (ty : TypeId) :
    ∃ A' c' w', (Builtin.append_ #[146, 146] ty #[v, .slice (some ⟨w.heap.size, 0, none⟩) 1 1]).run Tryz.prog (w.alloc (.cells #[.bool y.1.1, .int .i64 y.1.2, .int .i64 (y.2.1 : Int), .int .i64 (y.2.2 : Int)] 144)) = .ok (.slice A' (L.length + 1) c') w' ∧
     BSt R ws z w3 M V w' (fun b => FL b ∨ b = w.heap.size + 1 ∧ b < w'.heap.size) PB (.slice A' (L.length + 1) c') (L ++ [y]) S ks es ∧ Only w w' FL := by
 obtain ⟨A', c', w', hrun, hgl, hg, _⟩ := h.gl.push tKeys rfl (x := y) (ys := [.bool y.1.1, .int .i64 y.1.2, .int .i64 (y.2.1 : Int), .int .i64 (y.2.2 : Int)]) (G := fun _ => False) (RKey.cells.2 rfl) (fun b hb => hb.elim) hl (by omega) ty
 have ho : Only w w' FL := (Only.alloc w _ _).trans (Only.of_grown hg fun b e => h.gl.row _ e)
 have hz := ho.size
 refine ⟨A', c', w', hrun, ⟨h.low.trans (ho.below (fun b e => (h.fl b e).1.1) h.zw), Nat.le_trans h.zw hz, hgl.fit.more fun b hb => ?_, h.sn.only ho fun e => (h.fl _ e).2.2.1 rfl, h.pk.only ho (fun e => (h.fl _ e).2.1 rfl) fun b hb e => (h.fl b e).2.2.2 hb, fun b hb => ?_, fun b hb => ⟨⟨(h.pb b hb).1.1, by have := (h.pb b hb).1.2; omega⟩, (h.pb b hb).2⟩, h.mv⟩, ho⟩
 ·
  rcases hb with ⟨h1 | h1 | h1, h2⟩
  · exact .inl h1
  · exact h1.elim
  exact .inr ⟨h1, h2⟩
 rcases hb with h1 | ⟨h1, h2⟩
 · exact ⟨⟨(h.fl b h1).1.1, by have := (h.fl b h1).1.2; omega⟩, (h.fl b h1).2⟩
 have h3 := h.pk.map.lt
 have h4 := h.sn.lt
 have h5 := h.zw
 exact ⟨⟨by omega, h2⟩, by omega, by omega, fun hb => by have := (h.pb b hb).1.2; omega⟩
theorem BSt.pack (h : BSt R ws z w3 M V w FL PB v L S ks es) {w1 : World} (hb : Below w.heap.size w w1) {F' : Nat → Prop} {A : Option Addr} {n c : Nat} {k : KeyD} (hs : Sl RCPk w1 F' A n c (packsP R ws k)) (hF : ∀ b, F' b → w.heap.size ≤ b ∧ b < w1.heap.size) (hk : k ∉ ks)
    (hm : AMap KKey w' M (putL es k (.slice A n c))) (hg : w1.grownBy w' (some M)) : BSt R ws z w3 M V w' FL (fun b => PB b ∨ F' b) v L S (ks ++ [k]) (es ++ [(k, .slice A n c)]) ∧ Sl RCPk w' (fun b => PB b ∨ F' b) A n c (packsP R ws k) := by
 have h1 := h.below hb
 have ho : Only w1 w' (fun b => b = M) := Only.of_grown hg fun b e => by injection e with e; exact e.symm
 have hz := ho.size
 have hz1 : w.heap.size ≤ w1.heap.size := hb.size
 have hMl := h.pk.map.lt
 have hVl := h.sn.lt
 rw [putL_new (by rw [h.pk.keys]; exact hk)] at hm
 have hs' : Sl RCPk w' F' A n c (packsP R ws k) := hs.keep (ho.kept fun b hb e => by have := (hF b hb).1; omega)
 refine ⟨⟨h1.low.trans (ho.below (fun b e => by have := h.mv.2.1; omega) h1.zw), Nat.le_trans h1.zw hz, h1.gl.only ho fun b hb _ e => (h.fl b hb).2.1 e, h1.sn.only ho (Ne.symm h.mv.1), ⟨hm, by rw [List.map_append, h.pk.keys]; rfl, fun e he => ?_⟩, fun b hb => ?_, fun b hb => ?_, h.mv⟩, hs'.more fun b hb => .inr hb⟩
 ·
  rcases List.mem_append.1 he with he | he
  ·
   obtain ⟨A2, n2, c2, e1, hs2⟩ := h1.pk.val e he
   exact ⟨A2, n2, c2, e1, (hs2.keep (ho.kept fun b hb e => (h.pb b hb).2.1 e)).more fun b hb => .inl hb⟩
  rw [List.mem_singleton.1 he]
  exact ⟨A, n, c, rfl, hs'.more fun b hb => .inr hb⟩
 ·
  have h2 := h.fl b hb
  exact ⟨⟨h2.1.1, by omega⟩, h2.2.1, h2.2.2.1, fun hp => hp.elim h2.2.2.2 fun hp => by have := (hF b hp).1; omega⟩
 rcases hb with hb | hb
 ·
  have h2 := h.pb b hb
  exact ⟨⟨h2.1.1, by omega⟩, h2.2⟩
 have h2 := hF b hb
 have := h.zw
 exact ⟨⟨by omega, by omega⟩, by omega, by omega⟩
theorem BSt.map2 (h : BSt R ws z w3 M V w FL PB v L S ks es) : BSt R ws z w3 M w.heap.size (w.alloc (.map #[] 0)) FL PB v L [] ks es := by
 have h1 := h.below ((Below.refl w.heap.size w).alloc (Nat.le_refl _) (.map #[] 0))
 have hM := h.pk.map.lt
 exact ⟨h1.low, h1.zw, h1.gl, AMap.made KKey w, h1.pk, fun b hb => ⟨(h1.fl b hb).1, (h.fl b hb).2.1, by have := (h.fl b hb).1.2; omega, (h.fl b hb).2.2.2⟩, fun b hb => ⟨(h1.pb b hb).1, (h.pb b hb).2.1, by have := (h.pb b hb).1.2; omega⟩, by omega, h.mv.2.1, h.zw⟩
theorem BSt.start {w4 w5 w6 : World} {B : Nat} {root : KeyD} (hB : B = w4.heap.size) (h5 : w5 = ((w4.alloc (.map #[] 0)).alloc (.cells #[.bool root.1.1, .int .i64 root.1.2, .int .i64 (root.2.1 : Int), .int .i64 (root.2.2 : Int)] 144)).alloc (.map #[] 0)) (hm : AMap KKey w6 (B + 2) (setK [root])) (hg : w5.grownBy w6 (some (B + 2))) :
    BSt R ws B w4 B (B + 2) w6 (fun b => b = B + 1) (fun _ => False) (.slice (some ⟨B + 1, 0, none⟩) 1 1) [root] (setK [root]) [] [] := by
 have ho : Only w5 w6 (fun b => b = B + 2) := Only.of_grown hg fun b e => by injection e with e; exact e.symm
 have z5 : w5.heap.size = B + 3 := by rw [h5]; simp [hB]
 have hz := ho.size
 have b5 : Below w4.heap.size w4 w5 := by rw [h5]; exact (((Below.refl _ _).alloc (Nat.le_refl _) _).alloc (by simp) _).alloc (by simp; omega) _
 have hl : w5.heap[B + 1]? = some (.cells #[.bool root.1.1, .int .i64 root.1.2, .int .i64 (root.2.1 : Int), .int .i64 (root.2.2 : Int)] 144 (0, 0)) := by
  rw [h5, Below.heap_alloc _ _ _ (by simp; omega)]
  exact heap_new _ _ _ (by simp [hB])
 have hM : AMap KKey w5 B [] := by
  rw [h5, hB]
  exact ((AMap.made KKey w4).alloc _).alloc _
 rw [← hB] at b5
 refine ⟨b5.trans (ho.below (fun b e => by omega) (by omega)), by omega, keyOne ((ho.block _ (by omega) (by omega)).trans hl), hm, ⟨hM.only ho (by omega), rfl, fun e he => by cases he⟩, fun b hb => ⟨⟨by omega, by omega⟩, by omega, by omega, id⟩, fun b hb => hb.elim, by omega, Nat.le_refl _, by omega⟩
end
end Go.Proofs.YtjnbjdbndbbanaaGreatDoor
