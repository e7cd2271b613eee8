/- MkProd3P MkProdN -/
import Derived.Test.YtbmcoamdfpegnaaMt29
namespace Go.Proofs.Ytbmcoamdfpegnaa
open Go.RowKit Go.Maps
abbrev PR := RuleD × Int × List Int
section
variable (M : Mkr) (W L : List TriD)
def startPR (k : Nat) : List PR := (List.range k).flatMap fun (p : Nat) => if 0 ≤ dat M.d (p : Int) ∧ 0 < numT L (M.d.1.toNat, M.st, p) then [((0, [(false, (numT L (M.d.1.toNat, M.st, p) : Int))]), -1, keyD (M.d.1.toNat, M.st, p) 255 [])] else []
def mkPR (i : Nat) (t : TriD) (k : Nat) (rhs : List SymD) (qs : List Nat) : PR := ((((i + 1 : Nat) : Int), instS L rhs qs), (k : Int), keyD t k qs)
def instPR (i : Nat) (t : TriD) (k : Nat) (r : RuleD) : List PR := if r.1 = (t.2.1 : Int) then (instL M.d (inW W) t.2.2 r.2 t.1).map (mkPR L i t k r.2) else []
def tripPR (i : Nat) (t : TriD) (k : Nat) : List PR := (M.R.zipIdx.take k).flatMap fun p => instPR M W L i t p.2 p.1
def restPR (i : Nat) : List PR := (L.zipIdx.take i).flatMap fun p => tripPR M W L p.2 p.1 M.R.length
def allPR : List PR := startPR M L M.n ++ restPR M W L L.length
end
section
variable {M : Mkr} {W L : List TriD}
theorem zipTake_succ {α : Type} {l : List α} {k : Nat} {x : α} (h : l[k]? = some x) : l.zipIdx.take (k + 1) = l.zipIdx.take k ++ [(x, k)] := by
 rw [List.take_add_one, List.getElem?_zipIdx, h]
 simp
theorem startPR_succ (k : Nat) : startPR M L (k + 1) = startPR M L k ++ if 0 ≤ dat M.d (k : Int) ∧ 0 < numT L (M.d.1.toNat, M.st, k) then [((0, [(false, (numT L (M.d.1.toNat, M.st, k) : Int))]), -1, keyD (M.d.1.toNat, M.st, k) 255 [])] else [] := by
 unfold startPR
 rw [List.range_succ, List.flatMap_append, List.flatMap_singleton]
theorem startPR_len (k : Nat) : (startPR M L k).length ≤ k := by
 induction k with
 | zero => simp [startPR]
 | succ k ih =>
  rw [startPR_succ, List.length_append]
  split <;> simp <;> omega
theorem tripPR_succ {i : Nat} {t : TriD} {k : Nat} {r : RuleD} (h : M.R[k]? = some r) : tripPR M W L i t (k + 1) = tripPR M W L i t k ++ instPR M W L i t k r := by
 unfold tripPR
 rw [zipTake_succ h, List.flatMap_append, List.flatMap_singleton]
theorem restPR_succ {i : Nat} {t : TriD} (h : L[i]? = some t) : restPR M W L (i + 1) = restPR M W L i ++ tripPR M W L i t M.R.length := by
 unfold restPR
 rw [zipTake_succ h, List.flatMap_append, List.flatMap_singleton]
theorem tripPR_le {i : Nat} {t : TriD} (k : Nat) : (tripPR M W L i t k).length ≤ (tripPR M W L i t M.R.length).length := by
 unfold tripPR
 rw [show M.R.zipIdx.take M.R.length = M.R.zipIdx from List.take_of_length_le (by simp)]
 conv => rhs; rw [← List.take_append_drop k M.R.zipIdx]
 rw [List.flatMap_append, List.length_append]
 omega
theorem restPR_le (i : Nat) : (restPR M W L i).length ≤ (restPR M W L L.length).length := by
 unfold restPR
 rw [show L.zipIdx.take L.length = L.zipIdx from List.take_of_length_le (by simp)]
 conv => rhs; rw [← List.take_append_drop i L.zipIdx]
 rw [List.flatMap_append, List.length_append]
 omega
end
def kmOf (ps : List PR) : List (ByteArray × Value) := ps.zipIdx.foldl (fun l p => putL l (strOf p.1.2.2) (.int .i64 (p.2 : Int))) []
theorem kmOf_snoc (ps : List PR) (x : PR) : kmOf (ps ++ [x]) = putL (kmOf ps) (strOf x.2.2) (.int .i64 (ps.length : Int)) := by
 unfold kmOf
 rw [List.zipIdx_append, List.foldl_append]
 simp
theorem kmOf_len (ps : List PR) : (kmOf ps).length ≤ ps.length := by
 refine snoc_ind (P := fun ps => (kmOf ps).length ≤ ps.length) (by simp [kmOf]) (fun l x ih => ?_) ps
 rw [kmOf_snoc, putL_length, List.length_append, List.length_singleton]
 split <;> omega
abbrev PrS (M : Mkr) (X : PX) (W L : List TriD) (w : World) (FR FF : Nat → Prop) (vR vN vF : Value) (ps : List PR) : Prop := PrSt M X W L w FR FF vR vN vF (ps.map fun x => x.1) (ps.map fun x => x.2.1) (kmOf ps)
def prI (M : Mkr) (X : PX) (W L : List TriD) (vN : Value) (ps0 : List PR) (K : Nat) (t : TriD) (rule i : Nat) (rhs : List SymD) (an : Int) (A1 : Option Addr) (n1 c1 Bt Bri Br Bi : Nat) : ICtx where
 K := K
 XB := fun b => b = X.Bo ∨ b = X.Bq
 f := 58
 caps := #[.pointer (some ⟨X.Bo, 0, none⟩), .pointer (some ⟨X.Bk, 0, none⟩), .pointer (some ⟨Bt, 0, none⟩), .pointer (some ⟨Bri, 0, none⟩), .pointer (some ⟨Br, 0, none⟩), .pointer (some ⟨X.Bm, 0, none⟩), .pointer (some ⟨X.Ba, 0, none⟩), .pointer (some ⟨Bi, 0, none⟩)]
 t := t
 rule := rule
 rhs := rhs
 Inv := fun F done w => ∃ (FR FF : Nat → Prop) (vR vF : Value), (∀ b, F b ↔ FR b ∨ FF b) ∧ PrS M X W L w FR FF vR vN vF (ps0 ++ done.map (mkPR L i t rule rhs)) ∧ IBox w t rule i an A1 n1 c1 Bt Bri Br Bi ∧ Sl RSym w M.S A1 n1 c1 rhs ∧ (∀ b, b = Bt ∨ b = Bri ∨ b = Br ∨ b = Bi → ¬ FR b ∧ ¬ FF b) ∧ ps0.length + done.length ≤ 4001
 lim := 4000 - ps0.length
theorem enters_p2 : ∀ (args : Array Value) (u : World), (callFunc 58 args).run Try.prog u = .ok (.enter 58 args) u := enters_of Try.func58 (by kernel_rfl) rfl
theorem prI_ok (M : Mkr) (hM : M.Ok) (X : PX) (hX : X.Ok M) (W L : List TriD) (hLd : L.Nodup) (vN : Value) (ps0 : List PR) (hps : ps0.length ≤ 4000) (K : Nat) (hK : X.K ≤ K) (t : TriD) (ht : M.Tri t) (rule i : Nat) (hi : i ≤ 9000) (rhs : List SymD) (an : Int) (hr : M.R[rule]? = some (an, rhs)) (A1 : Option Addr) (n1 c1 Bt Bri Br Bi : Nat) (hbx : ∀ b, b = Bt ∨ b = Bri ∨ b = Br ∨ b = Bi → X.K ≤ b ∧ b < K) :
    (prI M X W L vN ps0 K t rule i rhs an A1 n1 c1 Bt Bri Br Bi).Ok M W where
 xb := fun b hb => by rcases hb with rfl | rfl; exact Nat.lt_of_lt_of_le hX.bo hK; exact Nat.lt_of_lt_of_le hX.bq hK
 mb := Nat.lt_of_lt_of_le hX.mb hK
 mw := Nat.lt_of_lt_of_le hX.mw hK
 ms := fun b hb => ⟨Nat.lt_of_lt_of_le (hX.ms b hb) hK, fun h => h.elim (hX.moq b (.inr (.inr hb))).1 (hX.moq b (.inr (.inr hb))).2⟩
 mkr := fun F done w h => by obtain ⟨FR, FF, vR, vF, _, h2, _⟩ := h; exact h2.inn
 fit := fun F done w h b hb => by obtain ⟨FR, FF, vR, vF, h1, h2, _⟩ := h; exact h2.fit b ((h1 b).1 hb)
 msF := fun F done w h b hb hf => by
  obtain ⟨FR, FF, vR, vF, h1, h2, _⟩ := h
  have h3 := h2.off b ((h1 b).1 hf)
  have h4 := hX.ms b hb
  omega
 keep := fun F done w w' Y h ho hY => by
  obtain ⟨FR, FF, vR, vF, h1, h2, h3, h4, h5⟩ := h
  have hKK : (prI M X W L vN ps0 K t rule i rhs an A1 n1 c1 Bt Bri Br Bi).K = K := rfl
  rw [hKK] at hY
  refine ⟨FR, FF, vR, vF, h1, h2.only hX ho fun b hy hl => ?_, ?_, h4.fit.keep (ho.kept fun b hb hy => ?_) |>.more fun b hb => hb.1, h5⟩
  ·
   have h6 := hY b hy hl
   exact ⟨by omega, fun h => h6.2 ((h1 b).2 (.inl h)), fun h => h6.2 ((h1 b).2 (.inr h))⟩
  ·
   have hn : ∀ b, b = Bt ∨ b = Bri ∨ b = Br ∨ b = Bi → b < w.heap.size → ¬ Y b := fun b hb hl hy => by
    have h6 := (hY b hy hl).1
    have h7 := (hbx b hb).2
    omega
   exact ⟨(ho.block _ (heap_lt h3.t) (hn _ (.inl rfl) (heap_lt h3.t))).trans h3.t, (ho.block _ (heap_lt h3.ri) (hn _ (.inr (.inl rfl)) (heap_lt h3.ri))).trans h3.ri, (ho.block _ (heap_lt h3.r) (hn _ (.inr (.inr (.inl rfl))) (heap_lt h3.r))).trans h3.r, (ho.block _ (heap_lt h3.i) (hn _ (.inr (.inr (.inr rfl))) (heap_lt h3.i))).trans h3.i⟩
  ·
   have h6 := (hY b hy hb.2).1
   have h7 := hX.ms b hb.1
   omega
 enters := enters_p2
 call := fun F done w S A n c qs h hd hs hS hq => by
  obtain ⟨FR, FF, vR, vF, h1, h2, h3, h4, h5, h6⟩ := h
  have hd : done.length ≤ 4000 - ps0.length := hd
  have hq : qs ∈ instL M.d (inW W) t.2.2 rhs t.1 := hq
  obtain ⟨hr1, hr4, hsy⟩ := hM.rule (List.mem_of_getElem? hr)
  have hqn : ∀ (l : List SymD) (q : Nat) (qs : List Nat), M.Syms l → q < M.n → qs ∈ instL M.d (inW W) t.2.2 l q → ∀ x ∈ qs, x < M.n := by
   intro l
   induction l with
   | nil =>
    intro q qs _ hq h x hx
    unfold instL at h
    split at h
    ·
     rw [List.mem_singleton.1 h] at hx
     rw [List.mem_singleton.1 hx]; exact hq
    ·
     cases h
   | cons s l ih =>
    intro q qs hsy hq h x hx
    unfold instL at h
    obtain ⟨p, hp, h7⟩ := List.mem_flatMap.1 h
    obtain ⟨q2, h8, rfl⟩ := List.mem_map.1 h7
    rcases List.mem_cons.1 hx with rfl | hx
    ·
     exact hq
    ·
     exact ih p q2 (fun s' hs' => hsy s' (List.mem_cons_of_mem _ hs')) (hM.syms_lt hsy List.mem_cons_self hq hp) h8 x hx
  obtain ⟨qs', hqs', hql⟩ := instL_mem hq
  have hlen : (ps0 ++ done.map (mkPR L i t rule rhs)).length ≤ 4001 := by rw [List.length_append, List.length_map]; exact h6
  refine (mkP2 M hM X hX W L hLd w FR FF vR vN vF _ _ _ h2 t ht rule i an rhs hr A1 n1 c1 Bt Bri Br Bi h3 h4 (fun b hb => ?_) S A n c qs hs (fun b hb => ?_) (by rw [hqs', List.length_cons, hql]) (hqn rhs t.1 qs hsy ht.1 hq) (by rw [List.length_map]; omega) hi (by have := kmOf_len (ps0 ++ done.map (mkPR L i t rule rhs)); omega)).mono ?_
  ·
   have h8 := hbx b hb
   have := hX.bo
   have := hX.bq
   exact ⟨by omega, by omega, h5 b hb⟩
  ·
   have h8 := hS b hb
   exact ⟨h8.1, fun e => h8.2.1 (.inl e), fun e => h8.2.1 (.inr e), fun e => h8.2.2 ((h1 b).2 (.inl e)), fun e => h8.2.2 ((h1 b).2 (.inr e))⟩
  ·
   rintro e w' ⟨FR2, FF2, vR2, vF2, rfl, hp, ho, hn⟩
   have hps2 : PrS M X W L w' FR2 FF2 vR2 vN vF2 (ps0 ++ (done ++ [qs]).map (mkPR L i t rule rhs)) := by
    have e : ps0 ++ (done ++ [qs]).map (mkPR L i t rule rhs) = (ps0 ++ done.map (mkPR L i t rule rhs)) ++ [mkPR L i t rule rhs qs] := by rw [List.map_append, List.map_singleton, List.append_assoc]
    rw [List.length_map] at hp
    rw [e]
    show PrSt M X W L w' FR2 FF2 vR2 vN vF2 (List.map _ _) (List.map _ _) (kmOf _)
    rw [kmOf_snoc, List.map_append (f := fun x : PR => x.1), List.map_append (f := fun x : PR => x.2.1)]
    exact hp
   refine ⟨fun b => FR2 b ∨ FF2 b, ?_, ⟨FR2, FF2, vR2, vF2, fun b => Iff.rfl, hps2, ?_, ?_, ?_, ?_⟩, ho.more fun b _ hb => ?_, fun b hb => ?_⟩
   ·
    congr 2
    rw [decide_eq_decide]
    show _ ↔ done.length + 1 ≤ 4000 - ps0.length
    simp only [List.length_append, List.length_map, List.length_singleton]
    omega
   ·
    refine h3.only ho fun b hb hx => ?_
    have h8 := hbx b hb
    have := hX.bo
    have := hX.bq
    rcases hx with hx | hx | hx | hx
    ·
     omega
    ·
     omega
    ·
     exact (h5 b hb).1 hx
    ·
     exact (h5 b hb).2 hx
   ·
    refine h4.keep (ho.kept fun b hb hx => ?_)
    have h8 := hX.ms b hb
    rcases hx with hx | hx | hx | hx
    ·
     exact (hX.moq b (.inr (.inr hb))).1 hx
    ·
     exact (hX.moq b (.inr (.inr hb))).2 hx
    ·
     have := h2.off b (.inl hx); omega
    ·
     have := h2.off b (.inr hx); omega
   ·
    intro b hb
    have h8 : b < w.heap.size := by
     rcases hb with rfl | rfl | rfl | rfl
     ·
      exact heap_lt h3.t
     ·
      exact heap_lt h3.ri
     ·
      exact heap_lt h3.r
     ·
      exact heap_lt h3.i
    have h9 := h5 b hb
    refine ⟨fun h => ?_, fun h => ?_⟩
    ·
     rcases hn b (.inl h) with e | e | e
     ·
      exact h9.1 e
     ·
      exact h9.2 e
     ·
      omega
    ·
     rcases hn b (.inr h) with e | e | e
     ·
      exact h9.1 e
     ·
      exact h9.2 e
     ·
      omega
   ·
    rw [List.length_append, List.length_singleton]; omega
   ·
    rcases hb with h | h | h | h
    ·
     exact .inl (.inl h)
    ·
     exact .inl (.inr h)
    ·
     exact .inr ((h1 b).2 (.inl h))
    ·
     exact .inr ((h1 b).2 (.inr h))
   ·
    rcases hn b hb with h | h | h
    ·
     exact .inl ((h1 b).2 (.inl h))
    ·
     exact .inl ((h1 b).2 (.inr h))
    ·
     exact .inr h
 tri := ht
 xm := fun h => h.elim (hX.moq _ (.inl rfl)).1 (hX.moq _ (.inl rfl)).2
 fm := fun F done w h hf => by
  obtain ⟨FR, FF, vR, vF, h1, h2, _⟩ := h
  have h3 := h2.off _ ((h1 _).1 hf)
  have h4 := hX.mb
  omega
end Go.Proofs.Ytbmcoamdfpegnaa
namespace Go.Proofs.Ytbmcoamdfpegnaa
open Go.RowKit Go.Maps
theorem numM_put {L : List TriD} {i : Nat} {t : TriD} (hd : L.Nodup) (ht : L[i]? = some t) : putL (numM (L.take i)) (triZ t) (.int .i64 ((i + 1 : Nat) : Int)) = numM (L.take (i + 1)) := by
 obtain ⟨hi, ht'⟩ := List.getElem?_eq_some_iff.1 ht
 have hn : t ∉ L.take i := fun hm => by
  obtain ⟨j, hj⟩ := List.getElem?_of_mem hm
  rw [List.getElem?_take] at hj
  split at hj
  ·
   have h1 := (List.getElem?_inj (List.getElem?_eq_some_iff.1 hj).1 hd).1 (hj.trans ht.symm)
   omega
  ·
   cases hj
 rw [putL_new fun hv => by
  unfold numM at hv
  rw [List.map_map, List.mem_map] at hv
  obtain ⟨p, hp, e⟩ := hv
  have h1 := triZ_inj (show triZ p.1 = triZ t from e)
  rw [List.mem_zipIdx_iff_getElem?] at hp
  exact hn (h1 ▸ List.mem_of_getElem? hp)]
 unfold numM
 rw [List.take_add_one, ht, List.zipIdx_append, List.map_append]
 simp [List.length_take, Nat.min_eq_left (Nat.le_of_lt hi)]
theorem GL.one {α : Type} {R : Rep α} {E : TypeId} (w : World) {x : α} {ys : List Value} (hx : R.ok w (fun _ => False) ys x) : GL R E (w.alloc (.cells ys.toArray E)) (fun b => b = w.heap.size) (.slice (some ⟨w.heap.size, 0, none⟩) 1 1) [x] := by
 have hl := R.len hx
 have h1 : Own (w.alloc (.cells ys.toArray E)) 0 E R.size (.slice (some ⟨w.heap.size, 0, none⟩) 1 1) 1 ys := by
  refine .inl ⟨by rw [hl, Nat.one_mul], .inr ⟨w.heap.size, 1, _, rfl, Nat.zero_le _, heap_alloc_new _ _, Nat.le_refl _, by decide, ?_, ?_⟩⟩
  ·
   simp [hl]
  ·
   rw [Nat.one_mul, List.take_of_length_le (by simp [hl])]
 exact ⟨⟨ys, h1, (Cells.single (R.more hx fun b h => h.elim)).keep (.alloc _ _ _)⟩, fun g e => by injection e with e; exact e.symm⟩
theorem gramNP (a : Int) (w : World) : Calls Try.prog 39 #[.int .i64 a] w fun e w' => e = .returned (.agg #[.bool false, .int .i64 a]) ∧ Below w.heap.size w w' := by
 go_enter Try.func39, Try.ntmps39
 go_wp2_with fail
 exact Go.bodyPost_ret (v := .agg #[.bool false, .int .i64 a]) (by simp [results, Try.results39, go_sem]) rfl ⟨rfl, (Below.refl _ _).alloc (Nat.le_refl _) _⟩
theorem results_cell_tmp2 {fn : Func} {p u v : Tmp} {ty : TypeId} (h : fn.results = #[.cell p ty, .tmp u, .tmp v]) (tmps : Array Value) (P : Program) (w : World) :
    (results fn tmps).run P w =
     ((asAddr (tmps.getD p undef)).run P w).andThen fun a w₁ => ((loadVar ty a).run P w₁).andThen fun x w₂ => .ok (.tuple #[x, tmps.getD u undef, tmps.getD v undef]) w₂ := by
 simp only [results, h]
 simp [Sem.run_bind, Result.andThen]
theorem six_set {w : World} {K : Nat} {t : TypeId} {a0 a1 a2 a3 a4 a5 : Value} (h : w.heap[K]? = some (.cells #[a0, a1, a2, a3, a4, a5] t (0, 0))) (u0 u1 u2 u3 u4 u5 : Value) :
    ((((((w.setCell ⟨K, 0, none⟩ u0).setCell ⟨K, 1, none⟩ u1).setCell ⟨K, 2, none⟩ u2).setCell ⟨K, 3, none⟩ u3).setCell ⟨K, 4, none⟩ u4).setCell ⟨K, 5, none⟩ u5).heap[K]? = some (.cells #[u0, u1, u2, u3, u4, u5] t (0, 0)) ∧
    Only w ((((((w.setCell ⟨K, 0, none⟩ u0).setCell ⟨K, 1, none⟩ u1).setCell ⟨K, 2, none⟩ u2).setCell ⟨K, 3, none⟩ u3).setCell ⟨K, 4, none⟩ u4).setCell ⟨K, 5, none⟩ u5) (fun b => b = K) := by
 have h0 := blk_set h 0 u0
 have h1 := blk_set h0 1 u1
 have h2 := blk_set h1 2 u2
 have h3 := blk_set h2 3 u3
 have h4 := blk_set h3 4 u4
 have h5 := blk_set h4 5 u5
 refine ⟨by simpa using h5, ?_⟩
 have hX : ∀ (v : World) (o : Nat) (u : Value), Only v (v.setCell ⟨K, o, none⟩ u) (fun b => b = K) := fun v o u => Only.set _ _ _ _ rfl
 exact (hX _ _ _).trans ((hX _ _ _).trans ((hX _ _ _).trans ((hX _ _ _).trans ((hX _ _ _).trans (hX _ _ _)))))
end Go.Proofs.Ytbmcoamdfpegnaa
