/- PartsPlain -/
import Derived.Test.YtocbkccchnbmaaaGreatAw24
namespace Go.Proofs.YtocbkccchnbmaaaGreat
theorem pigeonS {c : Nat} {f : Nat → Nat} (hs : ∀ y, y < c → ∃ x, x < c ∧ f x = y) : ∀ i j, i < c → j < c → f i = f j → i = j := by
 intro i j hi hj hij
 rcases Nat.decEq i j with hne | he
 ·
  exfalso
  have hfi : f i < c ∨ c ≤ f i := Nat.lt_or_ge _ _
  have hch : ∃ g : Nat → Nat, ∀ y, y < c → g y < c ∧ f (g y) = y ∧ g y ≠ j := by
   classical
   refine ⟨fun y => if h : y < c then (if f i = y then i else Classical.choose (hs y h)) else 0, fun y hy => ?_⟩
   dsimp only
   rw [dif_pos hy]
   by_cases e : f i = y
   ·
    rw [if_pos e]; exact ⟨hi, e, hne⟩
   ·
    rw [if_neg e]
    have := Classical.choose_spec (hs y hy)
    refine ⟨this.1, this.2, fun e2 => e ?_⟩
    rw [hij, ← e2]; exact this.2
  obtain ⟨g, hg⟩ := hch
  have hnd : (j :: (List.range c).map g).Nodup := by
   rw [List.nodup_cons]
   refine ⟨fun h => ?_, ?_⟩
   ·
    obtain ⟨y, hy, e⟩ := List.mem_map.1 h
    exact (hg y (List.mem_range.1 hy)).2.2 e
   ·
    rw [List.nodup_iff_pairwise_ne, List.pairwise_map]
    refine List.Pairwise.imp_of_mem ?_ (List.nodup_iff_pairwise_ne.1 (List.nodup_range (n := c)))
    intro a b ha hb hab e
    have h1 := (hg a (List.mem_range.1 ha)).2.1
    have h2 := (hg b (List.mem_range.1 hb)).2.1
    rw [e, h2] at h1
    exact hab h1.symm
  have := pigeonD hnd (n := c) fun x hx => by
   rcases List.mem_cons.1 hx with rfl | hx
   ·
    exact hj
   ·
    obtain ⟨y, hy, rfl⟩ := List.mem_map.1 hx
    exact (hg y (List.mem_range.1 hy)).1
  simp at this
  omega
 ·
  exact he
structure NumInv {κ : Type} [DecidableEq κ] (lv : Nat → Prop) (K : Nat → κ) (n k : Nat) (next : List Int) (ks : List κ) : Prop where
 len : next.length = n
 nd : ks.Nodup
 dead : ∀ s, s < k → ¬ lv s → next[s]? = some (-1)
 live : ∀ s, s < k → lv s → K s ∈ ks ∧ next[s]? = some ((ks.idxOf (K s) : Nat) : Int)
 onto : ∀ x ∈ ks, ∃ s, s < k ∧ lv s ∧ K s = x
 le : ks.length ≤ k
section
variable {κ : Type} [DecidableEq κ] {lv : Nat → Prop} {K : Nat → κ} {n k : Nat} {next : List Int} {ks : List κ}
theorem NumInv.start (lv : Nat → Prop) (K : Nat → κ) (n : Nat) (next : List Int) (h : next.length = n) : NumInv lv K n 0 next [] :=
 ⟨h, List.nodup_nil, fun s h => (by omega), fun s h => (by omega), fun x h => (by cases h), Nat.zero_le _⟩
theorem NumInv.skip (h : NumInv lv K n k next ks) (hk : k < n) (hl : ¬ lv k) : NumInv lv K n (k + 1) (next.set k (-1)) ks := by
 have hlt : k < next.length := by rw [h.len]; exact hk
 refine ⟨by rw [List.length_set]; exact h.len, h.nd, fun s hs hd => ?_, fun s hs hv => ?_, fun x hx => ?_, by have := h.le; omega⟩
 ·
  by_cases e : k = s
  ·
   subst e; exact List.getElem?_set_self hlt
  ·
   rw [List.getElem?_set_ne e]; exact h.dead s (by omega) hd
 ·
  have e : k ≠ s := fun e => by subst e; exact hl hv
  rw [List.getElem?_set_ne e]
  exact h.live s (by omega) hv
 ·
  obtain ⟨s, h1, h2⟩ := h.onto x hx
  exact ⟨s, by omega, h2⟩
theorem NumInv.old (h : NumInv lv K n k next ks) (hk : k < n) (hl : lv k) (hm : K k ∈ ks) : NumInv lv K n (k + 1) (next.set k ((ks.idxOf (K k) : Nat) : Int)) ks := by
 have hlt : k < next.length := by rw [h.len]; exact hk
 refine ⟨by rw [List.length_set]; exact h.len, h.nd, fun s hs hd => ?_, fun s hs hv => ?_, fun x hx => ?_, by have := h.le; omega⟩
 ·
  have e : k ≠ s := fun e => by subst e; exact hd hl
  rw [List.getElem?_set_ne e]; exact h.dead s (by omega) hd
 ·
  by_cases e : k = s
  ·
   subst e; exact ⟨hm, List.getElem?_set_self hlt⟩
  ·
   rw [List.getElem?_set_ne e]; exact h.live s (by omega) hv
 ·
  obtain ⟨s, h1, h2⟩ := h.onto x hx
  exact ⟨s, by omega, h2⟩
theorem NumInv.new (h : NumInv lv K n k next ks) (hk : k < n) (hl : lv k) (hm : K k ∉ ks) : NumInv lv K n (k + 1) (next.set k (ks.length : Int)) (ks ++ [K k]) := by
 have hlt : k < next.length := by rw [h.len]; exact hk
 refine ⟨by rw [List.length_set]; exact h.len, ?_, fun s hs hd => ?_, fun s hs hv => ?_, fun x hx => ?_, by have := h.le; simp; omega⟩
 ·
  rw [List.nodup_append]
  exact ⟨h.nd, by simp, fun a ha c hc => by obtain rfl := List.mem_singleton.1 hc; exact fun e => hm (e ▸ ha)⟩
 ·
  have e : k ≠ s := fun e => by subst e; exact hd hl
  rw [List.getElem?_set_ne e]; exact h.dead s (by omega) hd
 ·
  by_cases e : k = s
  ·
   subst e
   refine ⟨by simp, ?_⟩
   rw [List.getElem?_set_self hlt, List.idxOf_append, if_neg hm]
   simp
  ·
   rw [List.getElem?_set_ne e]
   obtain ⟨h1, h2⟩ := h.live s (by omega) hv
   refine ⟨List.mem_append_left _ h1, ?_⟩
   rw [List.idxOf_append, if_pos h1]
   exact h2
 ·
  rcases List.mem_append.1 hx with hx | hx
  ·
   obtain ⟨s, h1, h2⟩ := h.onto x hx
   exact ⟨s, by omega, h2⟩
  ·
   obtain rfl := List.mem_singleton.1 hx
   exact ⟨k, by omega, hl, rfl⟩
end
structure NumOk (lv : Nat → Prop) (E : Nat → Nat → Prop) (n : Nat) (next : List Int) (cnt : Nat) : Prop where
 len : next.length = n
 dead : ∀ s, s < n → ¬ lv s → next[s]? = some (-1)
 live : ∀ s, s < n → lv s → ∃ m : Nat, m < cnt ∧ next[s]? = some (m : Int)
 same : ∀ s t, s < n → t < n → lv s → lv t → (next[s]? = next[t]? ↔ E s t)
 onto : ∀ m, m < cnt → ∃ s, s < n ∧ lv s ∧ next[s]? = some (m : Int)
 le : cnt ≤ n
theorem NumInv.out {κ : Type} [DecidableEq κ] {lv : Nat → Prop} {K : Nat → κ} {n : Nat} {next : List Int} {ks : List κ} (h : NumInv lv K n n next ks) {E : Nat → Nat → Prop} (hE : ∀ s t, s < n → t < n → lv s → lv t → (K s = K t ↔ E s t)) : NumOk lv E n next ks.length := by
 refine ⟨h.len, h.dead, fun s hs hl => ?_, fun s t hs ht hls hlt => ?_, fun m hm => ?_, h.le⟩
 ·
  obtain ⟨h1, h2⟩ := h.live s hs hl
  exact ⟨_, List.idxOf_lt_length_iff.2 h1, h2⟩
 ·
  obtain ⟨h1, h2⟩ := h.live s hs hls
  obtain ⟨h3, h4⟩ := h.live t ht hlt
  rw [← hE s t hs ht hls hlt, h2, h4]
  constructor
  ·
   intro e
   injection e with e
   have e : ks.idxOf (K s) = ks.idxOf (K t) := by omega
   have e1 := List.getElem_idxOf (List.idxOf_lt_length_iff.2 h1)
   have e2 := List.getElem_idxOf (List.idxOf_lt_length_iff.2 h3)
   rw [← e1, ← e2]
   congr 1
  ·
   intro e; rw [e]
 ·
  obtain ⟨s, h1, h2, h3⟩ := h.onto ks[m] (List.getElem_mem hm)
  refine ⟨s, h1, h2, ?_⟩
  obtain ⟨_, h5⟩ := h.live s h1 h2
  rw [h5, h3]
  congr 2
  exact h.nd.idxOf_getElem m hm
def numPt (p : List Int) (s : Int) : Int := if s < 0 then -1 else (p[s.toNat]?).getD (-1)
def LvN (d : DfaD) (s : Nat) : Prop := LiveP d (s : Int)
structure PInv (d : DfaD) (p : List Int) (cnt : Nat) : Prop where
 len : p.length = d.2.2.length
 dead : ∀ s, s < d.2.2.length → ¬ LvN d s → p[s]? = some (-1)
 live : ∀ s, s < d.2.2.length → LvN d s → ∃ m : Nat, m < cnt ∧ p[s]? = some (m : Int)
 onto : ∀ m, m < cnt → ∃ s, s < d.2.2.length ∧ LvN d s ∧ p[s]? = some (m : Int)
 acc : ∀ s t, s < d.2.2.length → t < d.2.2.length → LvN d s → LvN d t → p[s]? = p[t]? → dat d s = dat d t
 eqv : ∀ s t : Nat, s < d.2.2.length → t < d.2.2.length → LvN d s → LvN d t → EqvP d s t → p[s]? = p[t]?
 le : cnt ≤ d.2.2.length
structure PartOk (d : DfaD) (p : List Int) : Prop where
 len : p.length = d.2.2.length
 dead : ∀ s, s < d.2.2.length → ¬ LvN d s → p[s]? = some (-1)
 live : ∀ s, s < d.2.2.length → LvN d s → ∃ m : Nat, m < d.2.2.length ∧ p[s]? = some (m : Int)
 same : ∀ s t : Nat, s < d.2.2.length → t < d.2.2.length → LvN d s → LvN d t → (p[s]? = p[t]? ↔ EqvP d s t)
section
variable {d : DfaD}
theorem PInv.start {p : List Int} {cnt : Nat} (h : NumOk (LvN d) (fun s t => dat d s = dat d t) d.2.2.length p cnt) : PInv d p cnt :=
 ⟨h.len, h.dead, h.live, h.onto, fun s t h1 h2 h3 h4 h5 => (h.same s t h1 h2 h3 h4).1 h5, fun s t h1 h2 h3 h4 h5 => (h.same s t h1 h2 h3 h4).2 (h5 [] .nil), h.le⟩
def StepE (d : DfaD) (p : List Int) (s t : Nat) : Prop := p[s]? = p[t]? ∧ ∀ c : Nat, c < cols d → numPt p (dto d s c) = numPt p (dto d t c)
variable {p q : List Int} {cnt cnt' : Nat}
theorem numOf_eqv (h : PInv d p cnt) {s t : Int} (hs : -1 ≤ s ∧ s < d.2.2.length) (ht : -1 ≤ t ∧ t < d.2.2.length) (he : EqvP d s t) : numPt p s = numPt p t := by
 have hd : ∀ u : Int, -1 ≤ u ∧ u < d.2.2.length → ¬ LiveP d u → numPt p u = -1 := fun u hu hl => by
  unfold numPt
  split
  ·
   rfl
  ·
   rw [h.dead u.toNat (by omega) (by unfold LvN; rwa [show ((u.toNat : Nat) : Int) = u by omega])]; rfl
 by_cases hl : LiveP d s
 ·
  have hl2 := he.live.1 hl
  have h1 := hl.nonneg
  have h2 := hl2.nonneg
  have := h.eqv s.toNat t.toNat (by omega) (by omega) (by unfold LvN; rwa [show ((s.toNat : Nat) : Int) = s by omega]) (by unfold LvN; rwa [show ((t.toNat : Nat) : Int) = t by omega])
   (by rw [show ((s.toNat : Nat) : Int) = s by omega, show ((t.toNat : Nat) : Int) = t by omega]; exact he)
  unfold numPt
  rw [if_neg (by omega), if_neg (by omega), this]
 ·
  rw [hd s hs hl, hd t ht (fun h => hl (he.live.2 h))]
theorem PInv.step (hv : Valid d) (h : PInv d p cnt) (hq : NumOk (LvN d) (StepE d p) d.2.2.length q cnt') : PInv d q cnt' := by
 refine ⟨hq.len, hq.dead, hq.live, hq.onto, fun s t h1 h2 h3 h4 h5 => h.acc s t h1 h2 h3 h4 ((hq.same s t h1 h2 h3 h4).1 h5).1, fun s t h1 h2 h3 h4 h5 => ?_, hq.le⟩
 refine (hq.same s t h1 h2 h3 h4).2 ⟨h.eqv s t h1 h2 h3 h4 h5, fun c hc => ?_⟩
 exact numOf_eqv h (dto_range hv (by omega) (by omega)) (dto_range hv (by omega) (by omega)) (h5.to ⟨by omega, by omega⟩)
theorem PInv.map (h : PInv d p cnt) (hq : NumOk (LvN d) (StepE d p) d.2.2.length q cnt') : ∃ f : Nat → Nat, ∀ s, s < d.2.2.length → LvN d s → ∃ m : Nat, m < cnt' ∧ q[s]? = some (m : Int) ∧ p[s]? = some ((f m : Nat) : Int) := by
 classical
 refine ⟨fun m => if hm : ∃ s, s < d.2.2.length ∧ LvN d s ∧ q[s]? = some (m : Int) then ((p[Classical.choose hm]?).getD 0).toNat else 0, fun s hs hl => ?_⟩
 obtain ⟨m, h1, h2⟩ := hq.live s hs hl
 refine ⟨m, h1, h2, ?_⟩
 have hm : ∃ s, s < d.2.2.length ∧ LvN d s ∧ q[s]? = some (m : Int) := ⟨s, hs, hl, h2⟩
 dsimp only
 rw [dif_pos hm]
 obtain ⟨k1, k2, k3⟩ := Classical.choose_spec hm
 have he := ((hq.same s (Classical.choose hm) hs k1 hl k2).1 (by rw [h2, k3])).1
 obtain ⟨m', _, e⟩ := h.live s hs hl
 rw [← he, e]
 rfl
theorem PInv.grow (h : PInv d p cnt) (hq : NumOk (LvN d) (StepE d p) d.2.2.length q cnt') : cnt ≤ cnt' := by
 classical
 have hch : ∀ m, m < cnt → ∃ k, k < cnt' ∧ ∃ s, s < d.2.2.length ∧ LvN d s ∧ p[s]? = some (m : Int) ∧ q[s]? = some (k : Int) := fun m hm => by
  obtain ⟨s, h1, h2, h3⟩ := h.onto m hm
  obtain ⟨k, h4, h5⟩ := hq.live s h1 h2
  exact ⟨k, h4, s, h1, h2, h3, h5⟩
 let g : Nat → Nat := fun m => if hm : m < cnt then Classical.choose (hch m hm) else 0
 have hg : ∀ m, m < cnt → g m < cnt' ∧ ∃ s, s < d.2.2.length ∧ LvN d s ∧ p[s]? = some (m : Int) ∧ q[s]? = some ((g m : Nat) : Int) := fun m hm => by
  show (if hm : m < cnt then Classical.choose (hch m hm) else 0) < cnt' ∧ ∃ s, s < d.2.2.length ∧ LvN d s ∧ p[s]? = some (m : Int) ∧ q[s]? = some (((if hm : m < cnt then Classical.choose (hch m hm) else 0 : Nat)) : Int)
  rw [dif_pos hm]
  exact Classical.choose_spec (hch m hm)
 have hnd : ((List.range cnt).map g).Nodup := by
  rw [List.nodup_iff_pairwise_ne, List.pairwise_map]
  refine List.Pairwise.imp_of_mem ?_ (List.nodup_iff_pairwise_ne.1 (List.nodup_range (n := cnt)))
  intro a b ha hb hab e
  obtain ⟨_, s, h1, h2, h3, h4⟩ := hg a (List.mem_range.1 ha)
  obtain ⟨_, t, h5, h6, h7, h8⟩ := hg b (List.mem_range.1 hb)
  rw [e, ← h8] at h4
  have := ((hq.same s t h1 h5 h2 h6).1 h4).1
  rw [h3, h7] at this
  injection this with this
  omega
 have := pigeonD hnd (n := cnt') fun x hx => by
  obtain ⟨y, hy, rfl⟩ := List.mem_map.1 hx
  exact (hg y (List.mem_range.1 hy)).1
 simpa using this
theorem PInv.final (hv : Valid d) (h : PInv d p cnt) (hq : NumOk (LvN d) (StepE d p) d.2.2.length q cnt) : PartOk d q := by
 have hq' := PInv.step hv h hq
 obtain ⟨f, hf⟩ := h.map hq
 have hinj := pigeonS (c := cnt) (f := f) fun y hy => by
  obtain ⟨s, h1, h2, h3⟩ := h.onto y hy
  obtain ⟨m, h4, _, h6⟩ := hf s h1 h2
  rw [h3] at h6
  injection h6 with h6
  exact ⟨m, h4, by omega⟩
 have hold : ∀ s t : Nat, s < d.2.2.length → t < d.2.2.length → LvN d s → LvN d t → p[s]? = p[t]? → StepE d p s t := fun s t h1 h2 h3 h4 h5 => by
  obtain ⟨m, k1, k2, k3⟩ := hf s h1 h3
  obtain ⟨m', k4, k5, k6⟩ := hf t h2 h4
  rw [k3, k6] at h5
  injection h5 with h5
  have := hinj m m' k1 k4 (by omega)
  subst this
  exact (hq.same s t h1 h2 h3 h4).1 (by rw [k2, k5])
 have key : ∀ (l : List Int) (s t : Int), WOk d l → (-1 ≤ s ∧ s < d.2.2.length) → (-1 ≤ t ∧ t < d.2.2.length) → numPt p s = numPt p t → dval d s l = dval d t l := by
  intro l
  induction l with
  | nil =>
   intro s t _ hs ht he
   show dat d s = dat d t
   by_cases hl : LiveP d s
   ·
    have hs0 := hl.nonneg
    have hl' : LiveP d t := by
     by_cases hl' : LiveP d t
     ·
      exact hl'
     ·
      exfalso
      obtain ⟨m, _, e⟩ := h.live s.toNat (by omega) (by unfold LvN; rwa [show ((s.toNat : Nat) : Int) = s by omega])
      unfold numPt at he
      rw [if_neg (by omega), e] at he
      by_cases ht0 : t < 0
      ·
       rw [if_pos ht0] at he; simp at he
      ·
       rw [if_neg ht0, h.dead t.toNat (by omega) (by unfold LvN; rwa [show ((t.toNat : Nat) : Int) = t by omega])] at he
       simp at he
    have ht0 := hl'.nonneg
    have hls : LvN d s.toNat := by unfold LvN; rwa [show ((s.toNat : Nat) : Int) = s by omega]
    have hlt : LvN d t.toNat := by unfold LvN; rwa [show ((t.toNat : Nat) : Int) = t by omega]
    obtain ⟨m, _, e⟩ := h.live s.toNat (by omega) hls
    obtain ⟨m', _, e'⟩ := h.live t.toNat (by omega) hlt
    unfold numPt at he
    rw [if_neg (by omega), if_neg (by omega), e, e'] at he
    have := h.acc s.toNat t.toNat (by omega) (by omega) hls hlt (by rw [e, e']; simp at he; rw [he])
    rwa [show ((s.toNat : Nat) : Int) = s by omega, show ((t.toNat : Nat) : Int) = t by omega] at this
   ·
    have hl' : ¬ LiveP d t := fun hl' => by
     have ht0 := hl'.nonneg
     obtain ⟨m, _, e⟩ := h.live t.toNat (by omega) (by unfold LvN; rwa [show ((t.toNat : Nat) : Int) = t by omega])
     unfold numPt at he
     rw [if_neg (show ¬ t < 0 by omega), e] at he
     by_cases hs0 : s < 0
     ·
      rw [if_pos hs0] at he; simp at he
     ·
      rw [if_neg hs0, h.dead s.toNat (by omega) (by unfold LvN; rwa [show ((s.toNat : Nat) : Int) = s by omega])] at he
      simp at he
    have h1 := dead_val hv hl (.nil)
    have h2 := dead_val hv hl' (.nil)
    exact h1.trans h2.symm
  | cons c l ih =>
   intro s t hw hs ht he
   rw [dval_cons, dval_cons]
   have hc := hw.head
   refine ih _ _ hw.tail (dto_range hv hs hc) (dto_range hv ht hc) ?_
   by_cases hl : LiveP d s
   ·
    by_cases hl' : LiveP d t
    ·
     have hs0 := hl.nonneg
     have ht0 := hl'.nonneg
     have hls : LvN d s.toNat := by unfold LvN; rwa [show ((s.toNat : Nat) : Int) = s by omega]
     have hlt : LvN d t.toNat := by unfold LvN; rwa [show ((t.toNat : Nat) : Int) = t by omega]
     obtain ⟨m, _, e⟩ := h.live s.toNat (by omega) hls
     obtain ⟨m', _, e'⟩ := h.live t.toNat (by omega) hlt
     unfold numPt at he
     rw [if_neg (by omega), if_neg (by omega), e, e'] at he
     have := (hold s.toNat t.toNat (by omega) (by omega) hls hlt (by rw [e, e']; simp at he; rw [he])).2 c.toNat (by omega)
     rwa [show ((s.toNat : Nat) : Int) = s by omega, show ((t.toNat : Nat) : Int) = t by omega, show ((c.toNat : Nat) : Int) = c by omega] at this
    ·
     exfalso
     have hs0 := hl.nonneg
     obtain ⟨m, _, e⟩ := h.live s.toNat (by omega) (by unfold LvN; rwa [show ((s.toNat : Nat) : Int) = s by omega])
     unfold numPt at he
     rw [if_neg (by omega), e] at he
     by_cases ht0 : t < 0
     ·
      rw [if_pos ht0] at he; simp at he
     ·
      rw [if_neg ht0, h.dead t.toNat (by omega) (by unfold LvN; rwa [show ((t.toNat : Nat) : Int) = t by omega])] at he
      simp at he
   ·
    have hl' : ¬ LiveP d t := fun hl' => by
     have ht0 := hl'.nonneg
     obtain ⟨m, _, e⟩ := h.live t.toNat (by omega) (by unfold LvN; rwa [show ((t.toNat : Nat) : Int) = t by omega])
     unfold numPt at he
     rw [if_neg (show ¬ t < 0 by omega), e] at he
     by_cases hs0 : s < 0
     ·
      rw [if_pos hs0] at he; simp at he
     ·
      rw [if_neg hs0, h.dead s.toNat (by omega) (by unfold LvN; rwa [show ((s.toNat : Nat) : Int) = s by omega])] at he
      simp at he
    have hdd : ∀ u : Int, (-1 ≤ u ∧ u < d.2.2.length) → ¬ LiveP d u → numPt p (dto d u c) = -1 := fun u hu hlu => by
     have hr := dto_range hv hu hc
     have hn : ¬ LiveP d (dto d u c) := fun h' => hlu (h'.of_to hc)
     unfold numPt
     split
     ·
      rfl
     ·
      rw [h.dead (dto d u c).toNat (by omega) (by unfold LvN; rwa [show (((dto d u c).toNat : Nat) : Int) = dto d u c by omega])]; rfl
    rw [hdd s hs hl, hdd t ht hl']
 refine ⟨hq'.len, hq'.dead, fun s hs hl => ?_, fun s t hs ht hls hlt => ⟨fun he l hl => ?_, hq'.eqv s t hs ht hls hlt⟩⟩
 ·
  obtain ⟨m, h1, h2⟩ := hq'.live s hs hl
  exact ⟨m, Nat.lt_of_lt_of_le h1 hq'.le, h2⟩
 ·
  have h1 := ((hq.same s t hs ht hls hlt).1 he).1
  refine key l s t hl (by omega) (by omega) ?_
  unfold numPt
  rw [if_neg (by omega), if_neg (by omega), Int.toNat_natCast, Int.toNat_natCast, h1]
end
end Go.Proofs.YtocbkccchnbmaaaGreat
