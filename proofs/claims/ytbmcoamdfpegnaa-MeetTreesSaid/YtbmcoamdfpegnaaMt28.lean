/- MkProd2P -/
import Derived.Test.YtbmcoamdfpegnaaMt27
namespace Go.Proofs.Ytbmcoamdfpegnaa
open Go.RowKit Go.Maps
abbrev RNon : Rep (Int × Int × Int) where
 size := 3
 ok := fun _ _ cs t => cs = [.int .i64 t.1, .int .i64 t.2.1, .int .i64 t.2.2]
 pos := by decide
 len := by rintro _ _ _ _ rfl; rfl
 keep := by intro _ _ _ _ _ h _; exact h
 more := by intro _ _ _ _ _ h _; exact h
 fit := by intro _ _ _ _ h; exact h
 one := by
  rintro _ _ _ _ rfl u hu
  rcases List.mem_cons.1 hu with rfl | hu
  ·
   rfl
  ·
   rcases List.mem_cons.1 hu with rfl | hu
   ·
    rfl
   ·
    obtain rfl := List.mem_singleton.1 hu; rfl
abbrev KS : KeyRep Try.prog 9 ByteArray := strKeys (by kernel_rfl)
def numM (L : List TriD) : List ((Int × Int × Int) × Value) := L.zipIdx.map fun p => (triZ p.1, .int .i64 ((p.2 + 1 : Nat) : Int))
theorem lk_zip {v : Nat → Value} (t : TriD) : ∀ (L : List TriD) (k : Nat), L.Nodup → lk ((L.zipIdx k).map fun p => (triZ p.1, v p.2)) (triZ t) = if t ∈ L then some (v (k + L.idxOf t)) else none
 | [], k, _ => rfl
 | a :: L, k, hd => by
  rw [List.zipIdx_cons, List.map_cons]
  unfold lk
  rw [List.nodup_cons] at hd
  by_cases h : a = t
  ·
   subst h
   rw [if_pos rfl, if_pos List.mem_cons_self, List.idxOf_cons_self, Nat.add_zero]
  ·
   rw [if_neg (fun e => h (triZ_inj e)), lk_zip t L (k + 1) hd.2]
   by_cases h2 : t ∈ L
   ·
    have hi : (a :: L).idxOf t = L.idxOf t + 1 := by
     rw [List.idxOf_cons, show (a == t) = false by simpa using h]
     rfl
    rw [if_pos h2, if_pos (List.mem_cons_of_mem _ h2), hi]
    congr 2
    omega
   ·
    rw [if_neg h2, if_neg (fun h3 => (List.mem_cons.1 h3).elim (fun e => h e.symm) h2)]
theorem lk_num {L : List TriD} (hd : L.Nodup) (t : TriD) : (lk (numM L) (triZ t)).getD (.int .i64 0) = .int .i64 (numT L t : Int) := by
 unfold numM
 rw [lk_zip (v := fun i => .int .i64 ((i + 1 : Nat) : Int)) t L 0 hd]
 unfold numT
 by_cases h : t ∈ L
 ·
  rw [if_pos h, if_pos h, Nat.zero_add]
  rfl
 ·
  rw [if_neg h, if_neg h]
  rfl
structure PX where
 K : Nat
 Bo : Nat
 Bk : Nat
 Bq : Nat
 Bm : Nat
 Bn : Nat
 Ba : Nat
 FN : Nat → Prop
structure PX.Ok (M : Mkr) (X : PX) : Prop where
 bo : X.Bo < X.K
 bk : X.Bk < X.K
 bq : X.Bq < X.K
 bm : X.Bm < X.K
 bn : X.Bn < X.K
 ba : X.Ba < X.K
 fn : ∀ b, X.FN b → b < X.K ∧ b ≠ X.Bo ∧ b ≠ X.Bq
 mb : M.Bm < X.K
 mw : M.Bw < X.K
 ms : ∀ b, M.S b → b < X.K
 moq : ∀ b, b = M.Bm ∨ b = M.Bw ∨ M.S b → b ≠ X.Bo ∧ b ≠ X.Bq
 oq : X.Bo ≠ X.Bq
 ok : X.Bk ≠ X.Bo ∧ X.Bk ≠ X.Bq
 om : X.Bm ≠ X.Bo ∧ X.Bm ≠ X.Bq
 on : X.Bn ≠ X.Bo ∧ X.Bn ≠ X.Bq
 oa : X.Ba ≠ X.Bo ∧ X.Ba ≠ X.Bq
structure PrSt (M : Mkr) (X : PX) (W L : List TriD) (w : World) (FR FF : Nat → Prop) (vR vN vF : Value) (rs : List RuleD) (fr : List Int) (km : List (ByteArray × Value)) : Prop where
 inn : M.In w W
 out : PrOut w X.Bo FR FF vR vN vF rs fr
 kb : w.heap[X.Bk]? = some (.cells #[.map (some X.Bq)] 69 (0, 0))
 km : AMap KS w X.Bq km
 nb : w.heap[X.Bm]? = some (.cells #[.map (some X.Bn)] 109 (0, 0))
 num : AMap KTri w X.Bn (numM L)
 ab : w.heap[X.Ba]? = some (.cells #[.func (.func 56) #[] #[.pointer (some ⟨X.Bo, 0, none⟩)]] 110 (0, 0))
 nons : GL RNon 46 w X.FN vN ((-1, -1, -1) :: L.map triZ)
 off : ∀ b, FR b ∨ FF b → X.K ≤ b
 fit : ∀ b, FR b ∨ FF b → b < w.heap.size
 len : rs.length = fr.length
 low : X.K ≤ w.heap.size
section
variable {M : Mkr} {X : PX} {W L : List TriD} {w w' : World} {FR FF : Nat → Prop} {vR vN vF : Value} {rs : List RuleD} {fr : List Int} {km : List (ByteArray × Value)}
theorem PrSt.only {Y : Nat → Prop} (hX : X.Ok M) (h : PrSt M X W L w FR FF vR vN vF rs fr km) (ho : Only w w' Y) (hY : ∀ b, Y b → b < w.heap.size → X.K ≤ b ∧ ¬ FR b ∧ ¬ FF b) : PrSt M X W L w' FR FF vR vN vF rs fr km := by
 have hz := heap_lt h.out.box
 have hn : ∀ b, b < w.heap.size → b < X.K → ¬ Y b := fun b h1 h2 h3 => by have := (hY b h3 h1).1; omega
 have hb : ∀ b, b < w.heap.size → b < X.K → w'.heap[b]? = w.heap[b]? := fun b h1 h2 => ho.block b h1 (hn b h1 h2)
 obtain ⟨l1, l2, l3⟩ := h.inn.low
 refine ⟨h.inn.only (X := fun b => Y b ∧ b < w.heap.size) ⟨ho.os, ho.tape, ho.output, ho.size, fun b h1 h2 => ho.block b h1 fun hy => h2 ⟨hy, h1⟩⟩ fun b hy => ?_, h.out.only ho fun b hy hl => ?_, (hb _ (heap_lt h.kb) hX.bk).trans h.kb, h.km.block (hb _ h.km.lt hX.bq), (hb _ (heap_lt h.nb) hX.bm).trans h.nb, h.num.block (hb _ h.num.lt hX.bn), (hb _ (heap_lt h.ab) hX.ba).trans h.ab, h.nons.only ho fun b hf hl hy => hn b hl (hX.fn b hf).1 hy, h.off, fun b hb => Nat.lt_of_lt_of_le (h.fit b hb) ho.size, h.len, Nat.le_trans h.low ho.size⟩
 ·
  have h1 := (hY b hy.1 hy.2).1
  have := hX.mb
  have := hX.mw
  exact ⟨by omega, by omega, fun hs => by have := hX.ms b hs; omega⟩
 ·
  have h1 := hY b hy hl
  have := hX.bo
  exact ⟨by omega, h1.2⟩
theorem PrSt.below (hX : X.Ok M) (h : PrSt M X W L w FR FF vR vN vF rs fr km) (hb : Below w.heap.size w w') : PrSt M X W L w' FR FF vR vN vF rs fr km := h.only hX (Y := fun _ => False) (.of_below hb (Nat.le_refl _) _) fun _ hy => hy.elim
theorem PrSt.putK (hX : X.Ok M) (h : PrSt M X W L w FR FF vR vN vF rs fr km) {km' : List (ByteArray × Value)} (ho : Only w w' (fun b => b = X.Bq)) (hm : AMap KS w' X.Bq km') : PrSt M X W L w' FR FF vR vN vF rs fr km' := by
 have hbo : ∀ b, FR b ∨ FF b → b ≠ X.Bq := fun b hb => by have := h.off b hb; have := hX.bq; omega
 refine ⟨h.inn.only ho fun b e => ?_, h.out.only ho fun b e _ => ⟨?_, ?_, ?_⟩, (ho.block _ (heap_lt h.kb) hX.ok.2).trans h.kb, hm, (ho.block _ (heap_lt h.nb) hX.om.2).trans h.nb, h.num.block (ho.block _ h.num.lt hX.on.2), (ho.block _ (heap_lt h.ab) hX.oa.2).trans h.ab, h.nons.only ho fun b hf _ e => (hX.fn b hf).2.2 e, h.off, fun b hb => Nat.lt_of_lt_of_le (h.fit b hb) ho.size, h.len, Nat.le_trans h.low ho.size⟩
 ·
  exact ⟨fun e2 => (hX.moq b (.inl e2)).2 e, fun e2 => (hX.moq b (.inr (.inl e2))).2 e, fun e2 => (hX.moq b (.inr (.inr e2))).2 e⟩
 ·
  exact fun e2 => hX.oq (e2.symm.trans e)
 ·
  exact fun hf => hbo b (.inl hf) e
 ·
  exact fun hf => hbo b (.inr hf) e
theorem PrSt.added (hX : X.Ok M) (h : PrSt M X W L w FR FF vR vN vF rs fr km) {G : Nat → Prop} (hG : ∀ b, G b → X.K ≤ b ∧ b < w.heap.size) {FR' FF' : Nat → Prop} {vR' vF' : Value} {r : RuleD} {x : Int} (ho : Only w w' (fun b => b = X.Bo ∨ FR b ∨ FF b)) (hp : PrOut w' X.Bo FR' FF' vR' vN vF' (rs ++ [r]) (fr ++ [x])) (h1 : ∀ b, FR' b → FR b ∨ G b ∨ w.heap.size ≤ b) (h2 : ∀ b, FF' b → FF b ∨ w.heap.size ≤ b) :
    PrSt M X W L w' (fun b => FR' b ∧ b < w'.heap.size) (fun b => FF' b ∧ b < w'.heap.size) vR' vN vF' (rs ++ [r]) (fr ++ [x]) km := by
 have hlow := h.low
 have hne : ∀ b, b < X.K → b ≠ X.Bo → ¬ (b = X.Bo ∨ FR b ∨ FF b) := fun b h3 h4 h5 => by
  rcases h5 with e | e
  ·
   exact h4 e
  ·
   have := h.off b e; omega
 have ho2 : Only w w' (fun b => b = X.Bo ∨ X.K ≤ b) := ho.more fun b _ hb => hb.imp id fun e => h.off b e
 have hp' := hp.fit
 refine ⟨h.inn.only ho2 fun b e => ?_, hp', (ho.block _ (heap_lt h.kb) (hne _ hX.bk hX.ok.1)).trans h.kb, h.km.block (ho.block _ h.km.lt (hne _ hX.bq (Ne.symm hX.oq))), (ho.block _ (heap_lt h.nb) (hne _ hX.bm hX.om.1)).trans h.nb, h.num.block (ho.block _ h.num.lt (hne _ hX.bn hX.on.1)), (ho.block _ (heap_lt h.ab) (hne _ hX.ba hX.oa.1)).trans h.ab, h.nons.only ho fun b hf _ e => hne b (hX.fn b hf).1 (hX.fn b hf).2.1 e, fun b hb => ?_, fun b hb => hb.elim And.right And.right, by rw [List.length_append, List.length_append, h.len]; rfl, Nat.le_trans hlow ho.size⟩
 ·
  have h3 := hX.mb
  have h4 := hX.mw
  rcases e with e | e
  ·
   exact ⟨fun e2 => (hX.moq b (.inl e2)).1 e, fun e2 => (hX.moq b (.inr (.inl e2))).1 e, fun e2 => (hX.moq b (.inr (.inr e2))).1 e⟩
  ·
   exact ⟨by omega, by omega, fun hs => by have := hX.ms b hs; omega⟩
 ·
  rcases hb with hb | hb
  ·
   rcases h1 b hb.1 with e | e | e
   ·
    exact h.off b (.inl e)
   ·
    exact (hG b e).1
   ·
    omega
  ·
   rcases h2 b hb.1 with e | e
   ·
    exact h.off b (.inr e)
   ·
    omega
end
end Go.Proofs.Ytbmcoamdfpegnaa
