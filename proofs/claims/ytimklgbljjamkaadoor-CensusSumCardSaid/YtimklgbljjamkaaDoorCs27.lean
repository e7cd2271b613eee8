/- FoP3 -/
import Derived.Test.YtimklgbljjamkaaDoorCs26
namespace Go.Proofs.YtimklgbljjamkaaDoor
theorem fin_max {α : Type} {P : Nat → α → Prop} : ∀ {l : List α}, (∀ x ∈ l, ∃ D, ∀ d, D ≤ d → P d x) → ∃ D, ∀ d, D ≤ d → ∀ x ∈ l, P d x
 | [], _ => ⟨0, fun _ _ x hx => by cases hx⟩
 | x :: l, h => by
  obtain ⟨D1, h1⟩ := h x (by simp)
  obtain ⟨D2, h2⟩ := fin_max (l := l) fun y hy => h y (by simp [hy])
  refine ⟨D1 + D2, fun d hd y hy => ?_⟩
  rcases List.mem_cons.1 hy with rfl | hy
  ·
   exact h1 d (by omega)
  ·
   exact h2 d (by omega) y hy
section
variable {R : List RuleD} {N : Nat}
theorem sum_pos_mem {α : Type} {f : α → Nat} {l : List α} (h : (l.map f).sum ≠ 0) : ∃ x ∈ l, f x ≠ 0 := by
 apply Classical.byContradiction
 intro hn
 exact h (sum_zero fun x hx => Classical.byContradiction fun e => hn ⟨x, hx, e⟩)
theorem tlN_der {t : SymD → Nat → Nat} (ht : ∀ s k, t s k ≠ 0 → Der R [s] k) : ∀ {l : List SymD} {k : Nat}, tlN t l k ≠ 0 → Der R l k
 | [], k, h => by
  unfold tlN at h
  by_cases e : k = 0
  ·
   exact Der.nil_iff.2 e
  ·
   rw [if_neg e] at h
   exact absurd rfl h
 | s :: l, k, h => by
  rw [tlN_cons] at h
  obtain ⟨i, hi, hz⟩ := sum_pos_mem h
  have hi := List.mem_range.1 hi
  have h1 : t s i ≠ 0 := fun e => hz (by rw [e, Nat.zero_mul])
  have h2 : tlN t l (k - i) ≠ 0 := fun e => hz (by rw [e, Nat.mul_zero])
  exact Der.cons_iff.2 ⟨i, by omega, ht _ _ h1, tlN_der ht h2⟩
theorem tN_der : ∀ (d : Nat) (s : SymD) (k : Nat), tN R d s k ≠ 0 → Der R [s] k
 | d, (true, c), k, h => by
  rw [tN_term] at h
  by_cases e : k = 1
  ·
   exact Der.term_iff.2 e
  ·
   rw [if_neg e] at h
   exact absurd rfl h
 | 0, (false, c), k, h => absurd rfl h
 | d + 1, (false, c), k, h => by
  have h : ((R.filter fun r => decide (r.1 = c)).map fun r => tlN (tN R d) r.2 k).sum ≠ 0 := h
  obtain ⟨r, hr, hz⟩ := sum_pos_mem h
  rw [List.mem_filter, decide_eq_true_eq] at hr
  refine Der.non_iff.2 ⟨r.2, ?_, tlN_der (tN_der d) hz⟩
  rw [← hr.2]
  exact hr.1
theorem tlN_conv (hR : RulesN N R) {x : Nat × Nat} {t : SymD → Nat → Nat} (ht : ∀ s k, t s k ≠ 0 → Der R [s] k) (htm : ∀ c k, t (true, c) k = if k = 1 then 1 else 0) (hc : ∀ b j, Edge R x (b, j) → cp (t (false, (b : Int)) j) = cN R b j) : ∀ {l : List SymD} {k : Nat}, Suffix R x l k → cp (tlN t l k) = listC (lenD R) (cN R) l k
 | [], k, _ => by
  unfold tlN listC
  split <;> rfl
 | (b, y) :: l, k, hs => by
  rw [listC_cons]
  show cp _ = cp _
  rw [tlN_cons, sum_ifs]
  refine cp_sum fun i hi => ?_
  have hi := List.mem_range.1 hi
  by_cases hp : (hasT (lenD R) (b, y) i && canT (lenD R) l (k - i)) = true
  ·
   rw [if_pos hp]
   rw [Bool.and_eq_true] at hp
   have hd := (hasD_iff (hs.ok hR).head).1 hp.1
   have hl := (canD_iff (hs.ok hR).tail hR).1 hp.2
   have e1 : cp (t (b, y) i) = cp (ofC (lenD R) (cN R) (b, y) i) := by
    unfold ofC
    rw [if_pos hp.1]
    cases b with
    | true =>
     rw [htm, if_pos (Der.term_iff.1 hd)]
     rfl
    | false =>
     have h1 := hc _ _ (hs.edge' hR (by omega) hd hl)
     have hy := (hs.ok hR (false, y) (by simp) rfl).1
     rw [Int.toNat_of_nonneg hy] at h1
     show _ = cp (cN R y.toNat i)
     rw [← h1, cp_cp]
   rw [cp_mul, e1, tlN_conv hR ht htm hc (hs.next (by omega) hd), cp_mul (ofC _ _ _ _), show cp (listC (lenD R) (cN R) l (k - i)) = listC (lenD R) (cN R) l (k - i) from Nat.min_eq_left (listC_le _ _ _ _)]
  ·
   rw [if_neg hp]
   have hz : t (b, y) i * tlN t l (k - i) = 0 := by
    apply Classical.byContradiction
    intro hn
    have h1 : t (b, y) i ≠ 0 := fun e => hn (by rw [e, Nat.zero_mul])
    have h2 : tlN t l (k - i) ≠ 0 := fun e => hn (by rw [e, Nat.mul_zero])
    exact hp (by rw [Bool.and_eq_true]; exact ⟨(hasD_iff (hs.ok hR).head).2 (ht _ _ h1), (canD_iff (hs.ok hR).tail hR).2 (tlN_der ht h2)⟩)
   rw [hz]
theorem tN_conv (hR : RulesN N R) {x : Nat × Nat} (h : Acc (fun y x => Edge R x y) x) : ∃ D, ∀ d, D ≤ d → cp (tN R d (false, (x.1 : Int)) x.2) = cN R x.1 x.2 := by
 induction h with
 | intro x hx ih =>
  have h1 : ∃ D, ∀ d, D ≤ d → ∀ i ∈ List.range (N * (x.2 + 1)), Edge R x (nodeOf x.2 i) → cp (tN R d (false, ((nodeOf x.2 i).1 : Int)) (nodeOf x.2 i).2) = cN R (nodeOf x.2 i).1 (nodeOf x.2 i).2 := by
   refine fin_max fun i _ => ?_
   by_cases he : Edge R x (nodeOf x.2 i)
   ·
    obtain ⟨D, hD⟩ := ih _ he
    exact ⟨D, fun d hd _ => hD d hd⟩
   ·
    exact ⟨0, fun d _ h => absurd h he⟩
  obtain ⟨D, hD⟩ := h1
  refine ⟨D + 1, fun d hd => ?_⟩
  obtain ⟨d, rfl⟩ : ∃ d', d = d' + 1 := ⟨d - 1, by omega⟩
  rw [cN_eq hR (Acc.intro x hx), ruleC_eq]
  show cp ((R.filter fun r => decide (r.1 = (x.1 : Int))).map fun r => tlN (tN R d) r.2 x.2).sum = cp _
  refine cp_sum fun r hr => ?_
  rw [List.mem_filter, decide_eq_true_eq] at hr
  rw [tlN_conv hR (x := x) (tN_der d) (tN_term R d) (fun b j he => ?_) (Suffix.start hr.1 hr.2), show cp (listC (lenD R) (cN R) r.2 x.2) = listC (lenD R) (cN R) r.2 x.2 from Nat.min_eq_left (listC_le _ _ _ _)]
  have e1 := nodeOf_num (n := x.2) (x := (b, j)) he.le
  have h2 := hD d (by omega) (numOf x.2 (b, j)) (List.mem_range.2 (numOf_lt (he.lt hR) he.le))
  rw [e1] at h2
  exact h2 he
end
def slW (ws : List Int) (i j : Nat) : List Int := (ws.drop i).take (j - i)
theorem slW_len {ws : List Int} {i j : Nat} (h : i ≤ j) (hj : j ≤ ws.length) : (slW ws i j).length = j - i := by
 unfold slW
 rw [List.length_take, List.length_drop]
 omega
theorem slW_take {ws : List Int} {i j k : Nat} (hk : k ≤ j - i) : (slW ws i j).take k = slW ws i (i + k) := by
 unfold slW
 rw [List.take_take, Nat.min_eq_left hk, show i + k - i = k by omega]
theorem slW_drop {ws : List Int} {i j k : Nat} : (slW ws i j).drop k = slW ws (i + k) j := by
 unfold slW
 rw [List.drop_take, List.drop_drop, show j - i - k = j - (i + k) by omega]
section
variable {R : List RuleD} {ws : List Int}
theorem tlW_der {t : SymD → List Int → Nat} (ht : ∀ s i j, i ≤ j → j ≤ ws.length → t s (slW ws i j) ≠ 0 → DerW R ws [s] i j) : ∀ {l : List SymD} {i j : Nat}, i ≤ j → j ≤ ws.length → tlW t l (slW ws i j) ≠ 0 → DerW R ws l i j
 | [], i, j, hi, hj, h => by
  unfold tlW at h
  rw [slW_len hi hj] at h
  by_cases e : j - i = 0
  ·
   obtain rfl : i = j := by omega
   exact .nil
  ·
   rw [if_neg e] at h
   exact absurd rfl h
 | s :: l, i, j, hi, hj, h => by
  rw [tlW_cons] at h
  obtain ⟨k, hk, hz⟩ := sum_pos_mem h
  rw [List.mem_range, slW_len hi hj] at hk
  rw [slW_take (by omega), slW_drop] at hz
  have h1 : t s (slW ws i (i + k)) ≠ 0 := fun e => hz (by rw [e, Nat.zero_mul])
  have h2 : tlW t l (slW ws (i + k) j) ≠ 0 := fun e => hz (by rw [e, Nat.mul_zero])
  exact (ht s i (i + k) (by omega) (by omega) h1).cons (tlW_der ht (by omega) hj h2)
theorem slW_one {i j : Nat} {c : Int} (h : slW ws i j = [c]) (hi : i ≤ j) (hj : j ≤ ws.length) : ws[i]? = some c ∧ j = i + 1 := by
 have h1 := slW_len hi hj
 rw [h] at h1
 have h1 : 1 = j - i := h1
 have h2 : (slW ws i j)[0]? = some c := by rw [h]; rfl
 unfold slW at h2
 rw [List.getElem?_take, if_pos (by omega), List.getElem?_drop, Nat.add_zero] at h2
 exact ⟨h2, by omega⟩
theorem slW_one' {i : Nat} {c : Int} (h : ws[i]? = some c) : slW ws i (i + 1) = [c] := by
 unfold slW
 have hl := (List.getElem?_eq_some_iff.1 h)
 obtain ⟨h1, h2⟩ := hl
 rw [show i + 1 - i = 1 by omega, List.drop_eq_getElem_cons h1, List.take_succ_cons, List.take_zero, h2]
theorem tW_der : ∀ (d : Nat) (s : SymD) (i j : Nat), i ≤ j → j ≤ ws.length → tW R d s (slW ws i j) ≠ 0 → DerW R ws [s] i j
 | d, (true, c), i, j, hi, hj, h => by
  rw [tW_term] at h
  by_cases e : slW ws i j = [c]
  ·
   obtain ⟨h1, rfl⟩ := slW_one e hi hj
   exact .term h1 .nil
  ·
   rw [if_neg e] at h
   exact absurd rfl h
 | 0, (false, c), _, _, _, _, h => absurd rfl h
 | d + 1, (false, c), i, j, hi, hj, h => by
  have h : ((R.filter fun r => decide (r.1 = c)).map fun r => tlW (tW R d) r.2 (slW ws i j)).sum ≠ 0 := h
  obtain ⟨r, hr, hz⟩ := sum_pos_mem h
  rw [List.mem_filter, decide_eq_true_eq] at hr
  have h1 := tlW_der (tW_der d) hi hj hz
  have h2 : (c, r.2) ∈ R := by rw [← hr.2]; exact hr.1
  exact .non h2 h1 .nil
open Classical in
theorem tlW_conv {x : KeyD} {t : SymD → List Int → Nat} {c : KeyD → Nat} (hx : x.2.2 ≤ ws.length) (ht : ∀ s i j, i ≤ j → j ≤ ws.length → t s (slW ws i j) ≠ 0 → DerW R ws [s] i j) (hc : ∀ y, FEdge R ws x y → cp (t y.1 (slW ws y.2.1 y.2.2)) = cp (c y)) (h0 : x.1.1 = false) :
    ∀ {l : List SymD} {i : Nat}, i ≤ x.2.2 → (∃ r ∈ R, r.1 = x.1.2 ∧ ∃ a, r.2 = a ++ l ∧ DerW R ws a x.2.1 i) → cp (tlW t l (slW ws i x.2.2)) = cp (((splP R ws l i x.2.2).map (prodN c)).sum)
 | [], i, hi, _ => by
  unfold tlW splP
  rw [slW_len hi hx]
  by_cases e : i = x.2.2
  ·
   rw [if_pos (by omega), if_pos e]
   simp [prodN]
  ·
   rw [if_neg (by omega), if_neg e]
   rfl
 | s :: l, i, hi, ⟨r, hr, hr1, a, hra, hda⟩ => by
  have hsh := sum_shift (F := fun k' => if decide (DerW R ws [s] i k' ∧ DerW R ws l k' x.2.2) = true then (((splP R ws l k' x.2.2).map fun ks => (s, i, k') :: ks).map (prodN c)).sum else 0) (i := i) (fun k hk => by
   rw [if_neg]
   intro h
   have h1 := (of_decide_eq_true h).1.le.1
   omega) (x.2.2 - i + 1)
  rw [tlW_cons, splP_cons, sum_flat, sum_ifs, slW_len hi hx, show x.2.2 + 1 = i + (x.2.2 - i + 1) by omega, hsh]
  ·
   refine cp_sum fun k hk => ?_
   have hk := List.mem_range.1 hk
   rw [slW_take (by omega), slW_drop]
   by_cases hp : DerW R ws [s] i (i + k) ∧ DerW R ws l (i + k) x.2.2
   ·
    rw [if_pos (decide_eq_true hp), List.map_map]
    have he : FEdge R ws x (s, i, i + k) := fEdge_iff.2 ⟨h0, r, hr, hr1, a, l, hra, hda, hp.1, hp.2⟩
    have h1 := hc _ he
    have h2 := tlW_conv hx ht hc h0 (l := l) (i := i + k) (by omega) ⟨r, hr, hr1, a ++ [s], by rw [hra]; simp, DerW.append hp.1 hda⟩
    have h3 : ((splP R ws l (i + k) x.2.2).map (prodN c ∘ fun ks => (s, i, i + k) :: ks)).sum = c (s, i, i + k) * ((splP R ws l (i + k) x.2.2).map (prodN c)).sum := by
     rw [← sum_mulL]
     rfl
    rw [h3, cp_mul, h1, h2, ← cp_mul]
   ·
    rw [if_neg (fun h => hp (of_decide_eq_true h))]
    have hz : t s (slW ws i (i + k)) * tlW t l (slW ws (i + k) x.2.2) = 0 := by
     apply Classical.byContradiction
     intro hn
     have h1 : t s (slW ws i (i + k)) ≠ 0 := fun e => hn (by rw [e, Nat.zero_mul])
     have h2 : tlW t l (slW ws (i + k) x.2.2) ≠ 0 := fun e => hn (by rw [e, Nat.mul_zero])
     exact hp ⟨ht _ _ _ (by omega) (by omega) h1, tlW_der ht (by omega) hx h2⟩
    rw [hz]
theorem tW_conv {x : KeyD} (h : Acc (fun y x => FEdge R ws x y) x) : DerW R ws [x.1] x.2.1 x.2.2 → x.2.2 ≤ ws.length → ∃ D, ∀ d, D ≤ d → cp (tW R d x.1 (slW ws x.2.1 x.2.2)) = fC R ws x := by
 induction h with
 | intro x hx ih =>
  intro hd hl
  have hle := hd.le.1
  obtain ⟨⟨b, a⟩, i, j⟩ := x
  simp only at hd hl hle ⊢
  cases b with
  | true =>
   refine ⟨0, fun d _ => ?_⟩
   rw [fC_eq (Acc.intro _ hx), tW_term]
   cases hd with
   | term h1 h2 =>
    obtain rfl := h2.nil_eq
    rw [slW_one' h1, if_pos rfl]
    rfl
  | false =>
   have h1 : ∃ D, ∀ d, D ≤ d → ∀ y ∈ (packsP R ws ((false, a), i, j)).flatMap (fun p => p.2), cp (tW R d y.1 (slW ws y.2.1 y.2.2)) = fC R ws y := by
    refine fin_max fun y hy => ?_
    obtain ⟨p, hp, hy⟩ := List.mem_flatMap.1 hy
    have he : FEdge R ws ((false, a), i, j) y := ⟨p, hp, hy⟩
    obtain ⟨_, r, _, _, l, m, _, _, h5, h6⟩ := fEdge_iff.1 he
    exact ih y he h5 (by have := h6.le.1; simp only at this; omega)
   obtain ⟨D, hD⟩ := h1
   refine ⟨D + 1, fun d hd => ?_⟩
   obtain ⟨d, rfl⟩ : ∃ d', d = d' + 1 := ⟨d - 1, by omega⟩
   rw [fC_eq (Acc.intro _ hx), nodeC_eq rfl]
   show cp ((R.filter fun r => decide (r.1 = a)).map fun r => tlW (tW R d) r.2 (slW ws i j)).sum = _
   have h2 : ((packsP R ws ((false, a), i, j)).map fun p => prodN (fC R ws) p.2).sum = ((R.filter fun r => decide (r.1 = a)).map fun r => ((splP R ws r.2 i j).map (prodN (fC R ws))).sum).sum := by
    unfold packsP
    rw [if_neg (by simp), sum_flat, sum_ifs]
    rw [← sum_zip (fun r : RuleD => if decide (r.1 = a) = true then ((splP R ws r.2 i j).map (prodN (fC R ws))).sum else 0) R 0]
    refine sum_congr fun p _ => ?_
    by_cases e : p.1.1 = a
    ·
     rw [if_pos (show p.1.1 = ((false, a), i, j).1.2 from e), if_pos (decide_eq_true e), List.map_map]
     rfl
    ·
     rw [if_neg (show ¬ p.1.1 = ((false, a), i, j).1.2 from e), if_neg (fun h => e (of_decide_eq_true h))]
     rfl
   rw [h2]
   refine cp_sum fun r hr => ?_
   rw [List.mem_filter, decide_eq_true_eq] at hr
   exact tlW_conv (x := ((false, a), i, j)) hl (tW_der d) (fun y hy => by
    obtain ⟨p, hp, hy'⟩ := hy
    rw [hD d (by omega) y (List.mem_flatMap.2 ⟨p, hp, hy'⟩)]
    have h4 : fC R ws y ≤ MC := by
     by_cases hA : Acc (fun y x => FEdge R ws x y) y
     ·
      rw [fC_eq hA]; exact nodeC_le _ _
     ·
      unfold fC; rw [dif_neg hA]; exact Nat.zero_le _
    exact (Nat.min_eq_left h4).symm) rfl hle ⟨r, hr.1, hr.2, [], rfl, .nil⟩
end
end Go.Proofs.YtimklgbljjamkaaDoor
