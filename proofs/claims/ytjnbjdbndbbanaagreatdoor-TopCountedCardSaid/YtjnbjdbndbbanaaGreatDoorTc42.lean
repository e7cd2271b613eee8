/- LisS LisQ -/
import Derived.Test.YtjnbjdbndbbanaaGreatDoorTc40
import Derived.Test.YtjnbjdbndbbanaaGreatDoorTc41
namespace Go.Proofs.YtjnbjdbndbbanaaGreatDoor
open Go.RowKit Go.Maps Go.ChangeMaps
structure StOk (C : LC) (w w' : World) : Prop where
 blk : w'.heap[C.BL]? = some (.cells (C.la ++ [Value.slice none 0 0]).toArray 122 (0, 0))
 bv : w'.heap[C.BV]? = some (.cells (List.replicate C.m (Value.slice none 0 0)).toArray 124 (0, 0))
 bs : w'.heap[C.BS]? = some (.map #[] 0)
 bw : w'.heap[C.BW]? = some (.map #[] 0)
 lo : w.heap.size ≤ C.BL ∧ w.heap.size ≤ C.BV ∧ w.heap.size ≤ C.BS ∧ w.heap.size ≤ C.BW
 ne : C.BS ≠ C.BW
 bel : Below w.heap.size w w'
def LD0 (n : Nat) : LD := { ls := List.replicate n [], q := [], wl := [], sn := [] }
theorem fam_nil {α : Type} (R : Rep α) (E : TypeId) (T : Nat → Prop) (w : World) (n : Nat) : Fam R E T w (List.replicate n (.slice none 0 0)) (List.replicate n []) := by
 refine ⟨by simp, fun i v l hv hl => ?_, fun i j v v' g _ hv _ e => ?_⟩
 ·
  obtain ⟨h1, rfl⟩ := List.getElem?_eq_some_iff.1 hv
  obtain ⟨h2, rfl⟩ := List.getElem?_eq_some_iff.1 hl
  rw [List.getElem_replicate, List.getElem_replicate]
  exact ⟨[], Own.nil _ _ _ _ _, Cells.nil⟩
 obtain ⟨h1, rfl⟩ := List.getElem?_eq_some_iff.1 hv
 rw [List.getElem_replicate] at e
 cases e
theorem LM.start {C : LC} {w w' : World} {S : Nat → Prop} (h : StOk C w w') (hs : Sl RNode w S C.A C.m C.c C.ns) :
    ∃ tag : Nat → Nat, LM C tag w' (.slice none 0 0) (List.replicate C.m (.slice none 0 0)) [] (LD0 C.m) ∧ (∀ b, tag b ≠ 0 → tag b = 9 ∨ w.heap.size ≤ b) ∧ (∀ b, tag b = 9 → S b ∧ b < w.heap.size) := by
 classical
 obtain ⟨lL, lV, lS, lW⟩ := h.lo
 have hc : ∀ {b : Nat} {cs ty f}, w'.heap[b]? = some (.cells cs ty f) → ∀ {es cl}, w'.heap[b]? ≠ some (.map es cl) := fun h1 _ _ h2 => by rw [h1] at h2; cases h2
 have n1 : C.BL ≠ C.BV := fun e => by have h1 := h.blk; rw [e, h.bv] at h1; simp at h1
 have n2 : C.BL ≠ C.BS := fun e => hc h.blk (e ▸ h.bs)
 have n3 : C.BL ≠ C.BW := fun e => hc h.blk (e ▸ h.bw)
 have n4 : C.BV ≠ C.BS := fun e => hc h.bv (e ▸ h.bs)
 have n5 : C.BV ≠ C.BW := fun e => hc h.bv (e ▸ h.bw)
 obtain ⟨tag, htag⟩ : ∃ tag : Nat → Nat, tag = fun b => if b = C.BL then 4 else if b = C.BV then 5 else if b = C.BS then 6 else if b = C.BW then 7 else if S b ∧ b < w.heap.size then 9 else 0 := ⟨_, rfl⟩
 have t9 : ∀ b, S b ∧ b < w.heap.size → tag b = 9 := fun b hb => by
  rw [htag]
  show (if b = C.BL then 4 else if b = C.BV then 5 else if b = C.BS then 6 else if b = C.BW then 7 else if S b ∧ b < w.heap.size then 9 else 0) = 9
  rw [if_neg (by omega), if_neg (by omega), if_neg (by omega), if_neg (by omega), if_pos hb]
 have hall : ∀ b, tag b ≠ 0 → (b = C.BL ∧ tag b = 4) ∨ (b = C.BV ∧ tag b = 5) ∨ (b = C.BS ∧ tag b = 6) ∨ (b = C.BW ∧ tag b = 7) ∨ ((S b ∧ b < w.heap.size) ∧ tag b = 9) := fun b hb => by
  have h1 : tag b = if b = C.BL then 4 else if b = C.BV then 5 else if b = C.BS then 6 else if b = C.BW then 7 else if S b ∧ b < w.heap.size then 9 else 0 := by rw [htag]
  by_cases e1 : b = C.BL
  · rw [if_pos e1] at h1; exact .inl ⟨e1, h1⟩
  rw [if_neg e1] at h1
  by_cases e2 : b = C.BV
  · rw [if_pos e2] at h1; exact .inr (.inl ⟨e2, h1⟩)
  rw [if_neg e2] at h1
  by_cases e3 : b = C.BS
  · rw [if_pos e3] at h1; exact .inr (.inr (.inl ⟨e3, h1⟩))
  rw [if_neg e3] at h1
  by_cases e4 : b = C.BW
  · rw [if_pos e4] at h1; exact .inr (.inr (.inr (.inl ⟨e4, h1⟩)))
  rw [if_neg e4] at h1
  by_cases e5 : S b ∧ b < w.heap.size
  · rw [if_pos e5] at h1; exact .inr (.inr (.inr (.inr ⟨e5, h1⟩)))
  rw [if_neg e5] at h1; exact absurd h1 hb
 have h8 : ∀ b, tag b ≠ 8 := fun b e => by rcases hall b (by omega) with h | h | h | h | h <;> omega
 refine ⟨tag, ⟨h.blk, (hs.fit.below h.bel).more t9, h.bv, by simp, fam_nil _ _ _ _ _, ⟨#[], 0, h.bs, rfl⟩, ⟨#[], 0, h.bw, rfl, List.nodup_nil, by simp, by simp⟩, rfl, ⟨rfl, fun i v l hv => (by simp at hv), fun i j v v' g _ hv => (by simp at hv)⟩, ⟨⟨[], Own.nil _ _ _ _ _, Cells.nil⟩, fun g e => (by cases e)⟩, fun b e => absurd e (h8 b), by rw [htag]; exact if_pos rfl, ?_, ?_, ?_, fun g e => (by cases e), fun i g v hv e => ?_, fun i g v hv => (by simp at hv), fun b e => ?_⟩, fun b e => ?_, fun b e => ?_⟩
 ·
  rw [htag]
  show (if C.BV = C.BL then 4 else if C.BV = C.BV then 5 else _) = 5
  rw [if_neg (Ne.symm n1), if_pos rfl]
 ·
  rw [htag]
  show (if C.BS = C.BL then 4 else if C.BS = C.BV then 5 else if C.BS = C.BS then 6 else _) = 6
  rw [if_neg (Ne.symm n2), if_neg (Ne.symm n4), if_pos rfl]
 ·
  rw [htag]
  show (if C.BW = C.BL then 4 else if C.BW = C.BV then 5 else if C.BW = C.BS then 6 else if C.BW = C.BW then 7 else _) = 7
  rw [if_neg (Ne.symm n3), if_neg (Ne.symm n5), if_neg (Ne.symm h.ne), if_pos rfl]
 ·
  obtain ⟨h1, rfl⟩ := List.getElem?_eq_some_iff.1 hv
  rw [List.getElem_replicate] at e
  cases e
 ·
  rcases hall b e with h1 | h1 | h1 | h1 | h1
  · rw [h1.1]; exact heap_lt h.blk
  · rw [h1.1]; exact heap_lt h.bv
  · rw [h1.1]; exact heap_lt h.bs
  · rw [h1.1]; exact heap_lt h.bw
  have := h.bel.size; omega
 ·
  rcases hall b e with h1 | h1 | h1 | h1 | h1
  · exact .inr (by rw [h1.1]; exact lL)
  · exact .inr (by rw [h1.1]; exact lV)
  · exact .inr (by rw [h1.1]; exact lS)
  · exact .inr (by rw [h1.1]; exact lW)
  exact .inl h1.2
 rcases hall b (by omega) with h1 | h1 | h1 | h1 | h1
 · omega
 · omega
 · omega
 · omega
 exact h1.1
theorem LM.leaf {C : LC} {tag : Nat → Nat} {w : World} {vq : Value} {vs : List Value} {es : List ((Nat × Nat) × Value)} {D : LD} (h : LM C tag w vq vs es D) {v : Nat} {vl : Value} (hv : vs[v]? = some vl) (x : Int) {w1 w2 : World} (hw1 : w1 = w.alloc (.cells #[.int .i64 (-1), .int .i64 x, .int .i64 1, .slice none 0 0] 126)) (hw2 : w2 = w1.alloc (.cells #[.pointer (some ⟨w.heap.size, 0, none⟩)] 123)) :
    w2.cell? ⟨C.BV, v, none⟩ = some vl ∧ w2.frozen? ⟨C.BV, v, none⟩ = false ∧ Only w (w2.setCell ⟨C.BV, v, none⟩ (.slice (some ⟨w1.heap.size, 0, none⟩) 1 1)) (fun b => tag b = 5) ∧
     ∃ tag' : Nat → Nat, (∀ b, tag b ≠ 0 → tag' b = tag b) ∧ (∀ b, tag' b ≠ 0 → tag b ≠ 0 ∨ w.heap.size ≤ b) ∧ LM C tag' (w2.setCell ⟨C.BV, v, none⟩ (.slice (some ⟨w1.heap.size, 0, none⟩) 1 1)) vq (vs.set v (.slice (some ⟨w1.heap.size, 0, none⟩) 1 1)) es { D with ls := D.ls.set v [.node (-1) x []] } := by
 have hb1 : Below w.heap.size w w1 := by rw [hw1]; exact (Below.refl _ _).alloc (Nat.le_refl _) _
 have hz1 : w1.heap.size = w.heap.size + 1 := by rw [hw1]; simp
 have hb2 : Below w1.heap.size w1 w2 := by rw [hw2]; exact (Below.refl _ _).alloc (Nat.le_refl _) _
 have hz2 : w2.heap.size = w.heap.size + 2 := by rw [hw2]; simp; omega
 have hbw2 : Below w.heap.size w w2 := hb1.trans (hb2.mono (by omega))
 have hg1 : w2.heap[w.heap.size]? = some (.cells #[.int .i64 (-1), .int .i64 x, .int .i64 1, .slice none 0 0] 126 (0, 0)) := (hb2.block _ (by omega)).trans (by rw [hw1]; exact heap_alloc_new _ _)
 have hg2 : w2.heap[w1.heap.size]? = some (.cells #[.pointer (some ⟨w.heap.size, 0, none⟩)] 123 (0, 0)) := by rw [hw2]; exact heap_alloc_new _ _
 have hm2 := h.below hbw2
 obtain ⟨tag1, hle, hor, hF, hm⟩ := hm2.grow (F := fun b => b = w.heap.size) (fun b e => Classical.byContradiction fun e0 => by have := h.lt b e0; omega) (fun b e => by subst e; exact ⟨_, _, hg1⟩)
 have hon : Only w2 (w2.setCell ⟨C.BV, v, none⟩ (.slice (some ⟨w1.heap.size, 0, none⟩) 1 1)) (fun b => b = C.BV) := Only.set _ _ _ _ rfl
 have hX : ∀ b, tag1 b ≠ 5 → ¬ b = C.BV := fun b hb (e : b = C.BV) => hb (by rw [e]; exact hm.tV)
 have hT : ∀ b, tag1 b = 8 → ¬ b = C.BV := fun b e => hX b (by omega)
 have hb : ∀ b, tag1 b ≠ 0 → tag1 b ≠ 5 → (w2.setCell ⟨C.BV, v, none⟩ (.slice (some ⟨w1.heap.size, 0, none⟩) 1 1)).heap[b]? = w2.heap[b]? := fun b h0 h6 => hon.block b (hm.lt b h0) (hX b h6)
 have h01 : tag1 w1.heap.size = 0 := Classical.byContradiction fun e => by
  rcases hor _ e with h1 | h1
  · have := h.lt _ h1; omega
  omega
 obtain ⟨tag2, htag⟩ : ∃ tag' : Nat → Nat, tag' = fun b => if b = w1.heap.size then 2 else tag1 b := ⟨_, rfl⟩
 have hle2 : ∀ b, tag1 b ≠ 0 → tag2 b = tag1 b := fun b hb => by rw [htag]; exact if_neg fun (e : b = w1.heap.size) => hb (by rw [e]; exact h01)
 have hor2 : ∀ b, tag2 b ≠ 0 → tag1 b ≠ 0 ∨ b = w1.heap.size := fun b hb => by
  rw [htag] at hb
  simp only at hb
  split at hb
  · next e => exact .inr e
  exact .inl hb
 have h8 : ∀ b, tag2 b = 8 ↔ tag1 b = 8 := fun b => by
  rw [htag]
  simp only
  split
  · next e => subst e; rw [h01]; decide
  exact Iff.rfl
 have h8e : (fun b => tag2 b = 8) = fun b => tag1 b = 8 := by funext b; exact propext (h8 b)
 have hrow : ∀ g, rowOf (.slice (some ⟨w1.heap.size, 0, none⟩) 1 1) = some g → g = w1.heap.size := fun g e => (Option.some.inj e).symm
 have hBVz : C.BV < w.heap.size := by have := heap_lt h.bv; omega
 have hg1' := (hon.block w.heap.size (by omega) (by omega)).trans hg1
 have hg2' := (hon.block w1.heap.size (by omega) (by omega)).trans hg2
 have hok : RPt.ok (w2.setCell ⟨C.BV, v, none⟩ (.slice (some ⟨w1.heap.size, 0, none⟩) 1 1)) (fun b => tag1 b = 8) [.pointer (some ⟨w.heap.size, 0, none⟩)] (.node (-1) x []) := by
  refine RPt.cells.2 ⟨w.heap.size, none, 0, 0, rfl, hF _ rfl, by simp [World.cell?, hg1']; rfl, by simp [World.cell?, hg1']; rfl, ?_, by simp [World.cell?, hg1'], Sl.nil _ _ _ _⟩
  rw [sizeT_eq]
  simp [World.cell?, hg1']
  show (1 : Int) = ((1 + sizeTs [] : Nat) : Int)
  rw [sizeTs_nil]
  rfl
 have hfl : Fam RPt 123 (fun b => tag1 b = 8) (w2.setCell ⟨C.BV, v, none⟩ (.slice (some ⟨w1.heap.size, 0, none⟩) 1 1)) (vs.set v (.slice (some ⟨w1.heap.size, 0, none⟩) 1 1)) (D.ls.set v [.node (-1) x []]) := by
  obtain ⟨k1, k2, k3⟩ := hm.fl.only hon hT fun i g u hu e => hX g (by rw [hm.rl i g u hu e]; decide)
  have hvl := (List.getElem?_eq_some_iff.1 hv).1
  refine ⟨by rw [List.length_set, List.length_set]; exact k1, fun j u m hu hm2 => ?_, fun a b u u' g hab hu hu' e e' => ?_⟩
  ·
   rw [List.getElem?_set] at hu hm2
   by_cases e : v = j
   ·
    subst e
    rw [if_pos rfl, if_pos hvl] at hu
    rw [if_pos rfl, if_pos (by rw [← k1]; exact hvl)] at hm2
    obtain rfl := Option.some.inj hu
    obtain rfl := Option.some.inj hm2
    exact ⟨[.pointer (some ⟨w.heap.size, 0, none⟩)], .inl ⟨rfl, .inr ⟨w1.heap.size, 1, _, rfl, Nat.zero_le _, hg2', Nat.le_refl _, by simp [maxLen], rfl, rfl⟩⟩, Cells.single hok⟩
   rw [if_neg e] at hu hm2
   exact k2 j u m hu hm2
  have hlt : ∀ (c : Nat) (z : Value), vs[c]? = some z → rowOf z ≠ some w1.heap.size := fun c z hz e5 => by
   have := hm.rl c _ z hz e5
   omega
  rw [List.getElem?_set] at hu hu'
  by_cases e1 : v = a
  ·
   rw [if_pos e1, if_pos hvl] at hu
   rw [if_neg (by omega)] at hu'
   obtain rfl := Option.some.inj hu
   have := hrow g e
   subst this
   exact hlt b _ hu' e'
  rw [if_neg e1] at hu
  by_cases e2 : v = b
  ·
   rw [if_pos e2, if_pos hvl] at hu'
   obtain rfl := Option.some.inj hu'
   have := hrow g e'
   subst this
   exact hlt a _ hu e
  rw [if_neg e2] at hu'
  exact k3 a b u u' g hab hu hu' e e'
 have hnd9 := (hm.nd.keep (hon.kept fun b e => hX b (by omega))).more (S' := fun b => tag2 b = 9) (fun b e => by rw [hle2 b (by omega)]; exact e)
 have hqu := hm.qu.only hon hT fun g e => hX g (by rw [hm.rq g e]; decide)
 have hfw := hm.fw.only hon hT fun i g u hu e => hX g (by rw [hm.rw i g u hu e]; decide)
 have hun : UnfT (w2.setCell ⟨C.BV, v, none⟩ (.slice (some ⟨w1.heap.size, 0, none⟩) 1 1)) (fun b => tag1 b = 8) := fun b e => by obtain ⟨cs, y, e2⟩ := hm.un b e; exact ⟨cs, y, (hb b (by omega) (by omega)).trans e2⟩
 have hset := blk_set hm.bv v (.slice (some ⟨w1.heap.size, 0, none⟩) 1 1)
 have hbv2 := hm.bv
 rw [← h8e] at hfl hqu hun hfw
 refine ⟨?_, by simp [World.frozen?, hbv2], (Only.of_below hbw2 (Nat.le_refl _) _).trans (hon.more fun b _ e => by subst e; exact h.tV), tag2, fun b e => ?_, fun b e => ?_, (hb _ (by rw [hm.tL]; decide) (by rw [hm.tL]; decide)).trans hm.blk, hnd9, by simpa using hset, by rw [List.length_set]; exact hm.vl, hfl, hm.sn.only hon (hX _ (by rw [hm.tS]; decide)), hm.wm.only hon (hX _ (by rw [hm.tW]; decide)), hm.wk, hfw, hqu, hun, (hle2 _ (by rw [hm.tL]; decide)).trans hm.tL, (hle2 _ (by rw [hm.tV]; decide)).trans hm.tV, (hle2 _ (by rw [hm.tS]; decide)).trans hm.tS, (hle2 _ (by rw [hm.tW]; decide)).trans hm.tW, fun g e => (hle2 g (by rw [hm.rq g e]; decide)).trans (hm.rq g e), fun i g u hu e => ?_, fun i g u hu e => (hle2 g (by rw [hm.rw i g u hu e]; decide)).trans (hm.rw i g u hu e), fun b e => ?_⟩
 ·
  rw [cell_of_row _ _ _ _ _ _ hbv2]
  simpa using hv
 · rw [hle2 b (by rw [hle b e]; exact e), hle b e]
 ·
  rcases hor2 b e with h1 | h1
  ·
   rcases hor b h1 with h2 | h2
   · exact .inl h2
   exact .inr (by omega)
  exact .inr (by omega)
 ·
  rw [List.getElem?_set] at hu
  split at hu
  ·
   split at hu
   ·
    obtain rfl := Option.some.inj hu
    have := hrow g e
    subst this
    rw [htag]
    exact if_pos rfl
   cases hu
  exact (hle2 g (by rw [hm.rl i g u hu e]; decide)).trans (hm.rl i g u hu e)
 rcases hor2 b e with h1 | h1
 · exact Nat.lt_of_lt_of_le (hm.lt b h1) hon.size
 have := hon.size; omega
end Go.Proofs.YtjnbjdbndbbanaaGreatDoor
namespace Go.Proofs.YtjnbjdbndbbanaaGreatDoor
open Go.RowKit Go.Maps
def leafL (nd : NodeD) : List TreeD := if nd.1.1 = true then [.node (-1) nd.1.2 []] else []
def packsN (ns : List NodeD) : Nat := (ns.map fun nd => nd.2.2.2.length).sum
theorem room_le (most : Nat) : ∀ ls : List (List TreeD), room most ls ≤ most * ls.length
 | [] => Nat.le_refl _
 | l :: ls => by
  have := room_le most ls
  simp only [room, List.map_cons, List.sum_cons, List.length_cons, Nat.mul_succ] at this ⊢
  omega
theorem LI.start {ns : List NodeD} {most : Nat} (hm : 1 ≤ most) (D : LD) (hls : D.ls = ns.map leafL) (hq : D.q = []) (hwl : D.wl = []) (hsn : D.sn = []) : LI ns most (List.replicate ns.length []) [] D ∧ phi most D ≤ 5 * (most * ns.length) := by
 have hf : (List.replicate ns.length ([] : List CKey)).flatten = [] := by
  rw [List.flatten_eq_nil_iff]
  intro l hl
  exact List.eq_of_mem_replicate hl
 have hc : cands D = [] := by unfold cands; rw [hq, hwl]; rfl
 refine ⟨⟨by rw [hls, List.length_map], by rw [List.length_replicate], fun v nd l h h1 h2 h3 => ?_, fun l hl => ?_, fun e he => (by rw [hq] at he; cases he), fun k hk => (by rw [hsn] at hk; cases hk), (by rw [hc, hf]; exact List.nodup_nil), fun k hk => (by rw [hc, hf] at hk; cases hk)⟩, ?_⟩
 ·
  obtain rfl := List.eq_of_mem_replicate (List.mem_of_getElem? h3)
  rw [hls, List.getElem?_map, h1] at h2
  obtain rfl := Option.some.inj h2
  unfold leafL
  refine ⟨fun e => ⟨if_pos e, rfl⟩, fun e => ⟨by rw [if_neg (by rw [e]; decide)]; rfl, fun i k t hi => by simp at hi⟩⟩
 ·
  rw [hls] at hl
  obtain ⟨nd, _, rfl⟩ := List.mem_map.1 hl
  unfold leafL
  split
  ·
   refine ⟨hm, fun t ht => ?_⟩
   rw [List.mem_singleton.1 ht, sizeT_eq]
   show 1 + sizeTs [] ≤ 5000
   rw [sizeTs_nil]
   decide
  exact ⟨Nat.zero_le _, fun t ht => by cases ht⟩
 unfold phi
 rw [hc, List.length_nil, Nat.zero_add]
 have := room_le most D.ls
 rw [hls, List.length_map] at this
 rw [hls]
 exact Nat.mul_le_mul_left _ this
def RTag (N Bf : Nat) (tg : Nat → Nat) : Prop := ∀ b, b < N → tg b ≠ 0 → tg b = 9 ∧ b < Bf
theorem RTag.next {N Bf Nw : Nat} {tg tg' : Nat → Nat} (h : RTag N Bf tg) (h9 : ∀ b, tg b = 9 → tg' b = 9) (hor : ∀ b, tg' b ≠ 0 → tg b ≠ 0 ∨ Nw ≤ b) (hN : N ≤ Nw) : RTag N Bf tg' := fun b hb h0 => by
 rcases hor b h0 with h1 | h1
 ·
  obtain ⟨h2, h3⟩ := h b hb h1
  exact ⟨h9 b h2, h3⟩
 omega
theorem RTag.below {N Bf : Nat} {tg : Nat → Nat} {w u u' : World} (h : RTag N Bf tg) (hb : Below N w u) (hN : N ≤ w.heap.size) (ho : Only u u' (fun b => tg b ≠ 0 ∧ tg b ≠ 8 ∧ tg b ≠ 9)) : Below N w u' :=
 hb.trans (ho.below (fun b e => Classical.byContradiction fun e2 => by have := (h b (by omega) e.1).1; exact e.2.2 this) (Nat.le_trans hN hb.size))
theorem mem_nodesTs {x : TreeD} : ∀ {l : List TreeD}, x ∈ nodesTs l → ∃ t ∈ l, x ∈ nodesT t
 | [], h => by rw [nodesTs_nil] at h; cases h
 | a :: l, h => by
  rw [nodesTs_cons, List.mem_append] at h
  rcases h with h | h
  · exact ⟨a, by simp, h⟩
  obtain ⟨t, h1, h2⟩ := mem_nodesTs h
  exact ⟨t, by simp [h1], h2⟩
theorem LI.from {ns : List NodeD} {most : Nat} {hist : List (List CKey)} {X : List CKey} {D : LD} (h : LI ns most hist X D) {v : Nat} {l : List TreeD} {t : TreeD} (hl : D.ls[v]? = some l) (ht : t ∈ l) : ∃ nd, ns[v]? = some nd ∧ ((nd.1.1 = true ∧ t = .node (-1) nd.1.2 []) ∨ (nd.1.1 = false ∧ ∃ k, k.1 = v ∧ MadeT ns D.ls k t)) := by
 have hv := (List.getElem?_eq_some_iff.1 hl).1
 obtain ⟨nd, hnd⟩ : ∃ nd, ns[v]? = some nd := ⟨_, List.getElem?_eq_getElem (by rw [← h.ll]; exact hv)⟩
 obtain ⟨hh, hhh⟩ : ∃ hh, hist[v]? = some hh := ⟨_, List.getElem?_eq_getElem (by rw [h.hl, ← h.ll]; exact hv)⟩
 obtain ⟨g1, g2⟩ := h.at_ v nd l hh hnd hl hhh
 refine ⟨nd, hnd, ?_⟩
 cases e : nd.1.1 with
 | true =>
  obtain ⟨e1, _⟩ := g1 e
  rw [e1] at ht
  exact .inl ⟨rfl, List.mem_singleton.1 ht⟩
 | false =>
  obtain ⟨e1, e2⟩ := g2 e
  obtain ⟨i, hi, e3⟩ := List.mem_iff_getElem.1 ht
  obtain ⟨k, hk⟩ : ∃ k, hh[i]? = some k := ⟨_, List.getElem?_eq_getElem (by omega)⟩
  obtain ⟨e4, e5⟩ := e2 i k t hk (by rw [List.getElem?_eq_getElem hi, e3])
  exact .inr ⟨rfl, k, e4, e5⟩
theorem MadeT.kid {ns : List NodeD} {ls : List (List TreeD)} {k : CKey} {t x : TreeD} (h : MadeT ns ls k t) (hx : x ∈ t.kids) : ∃ (v : Nat) (l : List TreeD), ls[v]? = some l ∧ x ∈ l := by
 obtain ⟨nd, p, ts, _, _, rfl, h4, h5⟩ := h
 obtain ⟨i, hi, e⟩ := List.mem_iff_getElem.1 (show x ∈ ts from hx)
 obtain ⟨r, l, t', _, g2, g3, g4⟩ := h5 i _ (List.getElem?_eq_getElem (by omega))
 rw [List.getElem?_eq_getElem hi, e] at g4
 obtain rfl := Option.some.inj g4
 exact ⟨_, l, g2, List.mem_of_getElem? g3⟩
theorem LI.csh {ns : List NodeD} (hn : NsOk ns) {most : Nat} {hist : List (List CKey)} {X : List CKey} {D : LD} (h : LI ns most hist X D) : ∀ (n v : Nat) (l : List TreeD) (t : TreeD), sizeT t ≤ n → D.ls[v]? = some l → t ∈ l → CSh t
 | 0, _, _, t, hs, _, _ => by rw [sizeT_eq] at hs; omega
 | n + 1, v, l, t, hs, hl, ht => by
  intro x hx
  obtain ⟨nd, hnd, ⟨_, rfl⟩ | ⟨_, k, _, hk⟩⟩ := h.from hl ht
  ·
   rw [nodesT_eq] at hx
   rcases List.mem_cons.1 hx with rfl | hx
   · exact .inl ⟨rfl, rfl⟩
   rw [show (TreeD.node (-1) nd.1.2 []).kids = [] from rfl, nodesTs_nil] at hx
   cases hx
  rw [nodesT_eq] at hx
  rcases List.mem_cons.1 hx with rfl | hx
  ·
   obtain ⟨nd', p, ts, e1, e2, rfl, _⟩ := hk
   exact .inr ⟨((hn.ok nd' (List.mem_of_getElem? e1)).2 p (List.mem_of_getElem? e2)).1, rfl⟩
  obtain ⟨y, hy, hxy⟩ := mem_nodesTs hx
  obtain ⟨v', l', e1, e2⟩ := MadeT.kid hk hy
  have := sizeT_kid hy
  exact h.csh hn n v' l' y (by omega) e1 e2 x hxy
theorem packsN_take {ns : List NodeD} {i : Nat} {nd : NodeD} (h : ns[i]? = some nd) : packsN (ns.take (i + 1)) = packsN (ns.take i) + nd.2.2.2.length := by
 unfold packsN
 rw [List.take_add_one, h]
 simp
theorem packsN_le (ns : List NodeD) (i : Nat) : packsN (ns.take i) ≤ packsN ns := by
 unfold packsN
 have h : ns = ns.take i ++ ns.drop i := (List.take_append_drop i ns).symm
 conv => rhs; rw [h]
 rw [List.map_append, List.sum_append]
 omega
theorem cb0 {ns : List NodeD} {most v p : Nat} {nd : NodeD} (h1 : ns[v]? = some nd) (h2 : p < nd.2.2.2.length) : CB ns most (v, p, 0, 0, 0, 0) := by
 refine ⟨nd, _, h1, List.getElem?_eq_getElem h2, fun i r hr => ?_⟩
 have hi : i < 4 := (List.getElem?_eq_some_iff.1 hr).1
 have : r = 0 := by
  rcases i with _ | _ | _ | _ | i
  · exact (Option.some.inj hr).symm
  · exact (Option.some.inj hr).symm
  · exact (Option.some.inj hr).symm
  · exact (Option.some.inj hr).symm
  omega
 exact ⟨by omega, fun _ => this⟩
theorem LM.rowF {C : LC} {tag : Nat → Nat} {w : World} {vq : Value} {vs : List Value} {es : List ((Nat × Nat) × Value)} {D : LD} (h : LM C tag w vq vs es D) {v : Nat} {vl : Value} {l : List TreeD} (hv : vs[v]? = some vl) (hl : D.ls[v]? = some l) : ∃ A c, vl = .slice A l.length c := by
 obtain ⟨xs, o1, _⟩ := h.fl.own v vl l hv hl
 obtain ⟨A, c, e, _, _⟩ := o1.form
 exact ⟨A, c, e⟩
theorem LM.slF {C : LC} {tag : Nat → Nat} {w : World} {vq : Value} {vs : List Value} {es : List ((Nat × Nat) × Value)} {D : LD} (h : LM C tag w vq vs es D) {v : Nat} {A : Option Addr} {n c : Nat} {l : List TreeD} (hv : vs[v]? = some (.slice A n c)) (hl : D.ls[v]? = some l) : Sl RPt w (fun b => b < w.heap.size) A n c l := by
 obtain ⟨xs, o1, o2⟩ := h.fl.own v _ l hv hl
 obtain ⟨A', c', e, _, _⟩ := o1.form
 injection e with _ e2 _
 subst e2
 have hg : GL RPt 123 w (fun b => tag b = 8 ∨ rowOf (.slice A l.length c) = some b) (.slice A l.length c) l := ⟨⟨xs, o1, o2.more fun b hb => ⟨.inl hb, fun e => by have := h.rl v b _ hv e; omega⟩⟩, fun g e => .inr e⟩
 exact hg.fit.sl.more fun b hb => hb.2
end Go.Proofs.YtjnbjdbndbbanaaGreatDoor
