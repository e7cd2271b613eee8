/- CensusPlain3 -/
import Derived.Test.YtbmcoamdfpegnaaMn09
namespace Go.Proofs.Ytbmcoamdfpegnaa
abbrev MC : Nat := 1000000000
def ofC (S : Nat → Nat → Bool) (c : Nat → Nat → Nat) (s : SymD) (i : Nat) : Nat := if hasT S s i then (if s.1 then 1 else c s.2.toNat i) else 0
def listC (S : Nat → Nat → Bool) (c : Nat → Nat → Nat) : List SymD → Nat → Nat
 | [], k => if k = 0 then 1 else 0
 | s :: l, k => (List.range (k + 1)).foldl (fun sum i => if hasT S s i && canT S l (k - i) then min (sum + ofC S c s i * listC S c l (k - i)) MC else sum) 0
def ruleC (S : Nat → Nat → Bool) (c : Nat → Nat → Nat) (R : List RuleD) (a : Nat) (k : Nat) : Nat := R.foldl (fun sum r => if r.1 = (a : Int) then min (sum + listC S c r.2 k) MC else sum) 0
theorem foldl_cap {α : Type} (p : α → Bool) (f : α → Nat) : ∀ (l : List α) (s : Nat), s ≤ MC → l.foldl (fun sum x => if p x then min (sum + f x) MC else sum) s = min (s + ((l.filter p).map f).sum) MC
 | [], s, hs => by simp; omega
 | x :: l, s, hs => by
  rw [List.foldl_cons]
  by_cases hp : p x
  ·
   rw [if_pos hp, foldl_cap p f l _ (Nat.min_le_right _ _), List.filter_cons_of_pos hp, List.map_cons, List.sum_cons]
   omega
  ·
   rw [if_neg hp, foldl_cap p f l s hs, List.filter_cons_of_neg hp]
theorem foldl_cap' {α : Type} (p : α → Prop) [DecidablePred p] (f : α → Nat) (l : List α) : l.foldl (fun sum x => if p x then min (sum + f x) MC else sum) 0 = min (((l.filter (fun x => decide (p x))).map f).sum) MC := by
 have := foldl_cap (fun x => decide (p x)) f l 0 (by omega)
 simpa using this
theorem listC_cons (S : Nat → Nat → Bool) (c : Nat → Nat → Nat) (s : SymD) (l : List SymD) (k : Nat) :
    listC S c (s :: l) k = min ((((List.range (k + 1)).filter (fun i => hasT S s i && canT S l (k - i))).map (fun i => ofC S c s i * listC S c l (k - i))).sum) MC := by
 have := foldl_cap (fun i => hasT S s i && canT S l (k - i)) (fun i => ofC S c s i * listC S c l (k - i)) (List.range (k + 1)) 0 (by omega)
 simpa [listC] using this
theorem ruleC_eq (S : Nat → Nat → Bool) (c : Nat → Nat → Nat) (R : List RuleD) (a k : Nat) : ruleC S c R a k = min (((R.filter (fun r => decide (r.1 = (a : Int)))).map (fun r => listC S c r.2 k)).sum) MC := foldl_cap' (fun r : RuleD => r.1 = (a : Int)) (fun r => listC S c r.2 k) R
theorem sum_congr {α : Type} {f g : α → Nat} : ∀ {l : List α}, (∀ x ∈ l, f x = g x) → (l.map f).sum = (l.map g).sum
 | [], _ => rfl
 | x :: l, h => by rw [List.map_cons, List.map_cons, List.sum_cons, List.sum_cons, h x (by simp), sum_congr fun y hy => h y (by simp [hy])]
theorem sum_mem {α : Type} {f : α → Nat} : ∀ {l : List α} {x : α}, x ∈ l → f x ≤ (l.map f).sum
 | y :: l, x, h => by
  rw [List.map_cons, List.sum_cons]
  rcases List.mem_cons.1 h with rfl | h
  ·
   omega
  ·
   have := sum_mem (f := f) h
   omega
section
variable {R : List RuleD} {N : Nat}
def Suffix (R : List RuleD) (x : Nat × Nat) (l : List SymD) (k : Nat) : Prop := ∃ r ∈ R, r.1 = (x.1 : Int) ∧ ∃ a p, r.2 = a ++ l ∧ Der R a p ∧ p + k = x.2
theorem Suffix.start {x : Nat × Nat} {r : RuleD} (hr : r ∈ R) (h : r.1 = (x.1 : Int)) : Suffix R x r.2 x.2 := ⟨r, hr, h, [], 0, rfl, .nil, by omega⟩
theorem Suffix.ok (hR : RulesN N R) {x : Nat × Nat} {l : List SymD} {k : Nat} (h : Suffix R x l k) : NonOk N l := by
 obtain ⟨r, hr, _, a, p, e, _⟩ := h
 intro s hs
 exact (hR r hr).2 s (by rw [e]; simp [hs])
theorem Suffix.next {x : Nat × Nat} {s : SymD} {l : List SymD} {k i : Nat} (h : Suffix R x (s :: l) k) (hi : i ≤ k) (hd : Der R [s] i) : Suffix R x l (k - i) := by
 obtain ⟨r, hr, h1, a, p, e, h2, h3⟩ := h
 exact ⟨r, hr, h1, a ++ [s], p + i, by rw [e]; simp, h2.append hd, by omega⟩
theorem Suffix.edge {x : Nat × Nat} {b : Nat} {l : List SymD} {k i : Nat} (h : Suffix R x ((false, (b : Int)) :: l) k) (hi : i ≤ k) (hd : Der R [(false, (b : Int))] i) (hl : Der R l (k - i)) : Edge R x (b, i) := by
 obtain ⟨r, hr, h1, a, p, e, h2, h3⟩ := h
 exact ⟨r, hr, h1, a, l, e, p, k - i, by dsimp only; omega, h2, hl, hd⟩
theorem Suffix.edge' (hR : RulesN N R) {x : Nat × Nat} {y : Int} {l : List SymD} {k i : Nat} (h : Suffix R x ((false, y) :: l) k) (hi : i ≤ k) (hd : Der R [(false, y)] i) (hl : Der R l (k - i)) : Edge R x (y.toNat, i) := by
 have hy := (h.ok hR (false, y) (by simp) rfl).1
 have e : y = ((y.toNat : Nat) : Int) := (Int.toNat_of_nonneg hy).symm
 rw [e] at h hd
 exact h.edge hi hd hl
theorem listC_congr (hR : RulesN N R) {x : Nat × Nat} {c c' : Nat → Nat → Nat} (hc : ∀ b j, Edge R x (b, j) → c b j = c' b j) : ∀ {l : List SymD} {k : Nat}, Suffix R x l k → listC (lenD R) c l k = listC (lenD R) c' l k
 | [], _, _ => rfl
 | (t, y) :: l, k, hs => by
  rw [listC_cons, listC_cons]
  congr 1
  refine sum_congr fun i hi => ?_
  rw [List.mem_filter, List.mem_range, Bool.and_eq_true] at hi
  obtain ⟨hi1, hi2, hi3⟩ := hi
  have hd := (hasD_iff (hs.ok hR).head).1 hi2
  have hl := (canD_iff (hs.ok hR).tail hR).1 hi3
  have e1 : ofC (lenD R) c (t, y) i = ofC (lenD R) c' (t, y) i := by
   unfold ofC
   rw [if_pos hi2, if_pos hi2]
   cases t with
   | true => rfl
   | false => exact hc _ _ (hs.edge' hR (by omega) hd hl)
  rw [e1, listC_congr hR hc (hs.next (by omega) hd)]
open Classical in
noncomputable def cAcc (R : List RuleD) (x : Nat × Nat) (h : Acc (fun y x => Edge R x y) x) : Nat :=
 Acc.rec (motive := fun _ _ => Nat) (fun x _ ih => ruleC (lenD R) (fun b j => if h : Edge R x (b, j) then ih (b, j) h else 0) R x.1 x.2) h
open Classical in
noncomputable def cN (R : List RuleD) (a k : Nat) : Nat := if h : Acc (fun y x => Edge R x y) (a, k) then cAcc R (a, k) h else 0
open Classical in
theorem cN_eq (hR : RulesN N R) {a k : Nat} (h : Acc (fun y x => Edge R x y) (a, k)) : cN R a k = ruleC (lenD R) (cN R) R a k := by
 have e : cN R a k = cAcc R (a, k) h := by unfold cN; rw [dif_pos h]
 rw [e]
 have hu : cAcc R (a, k) h = ruleC (lenD R) (fun b j => if h' : Edge R (a, k) (b, j) then cAcc R (b, j) (h.inv h') else 0) R a k := by
  cases h
  rfl
 rw [hu, ruleC_eq, ruleC_eq]
 congr 1
 refine sum_congr fun r hr => ?_
 rw [List.mem_filter, decide_eq_true_eq] at hr
 refine listC_congr hR (x := (a, k)) (fun b j he => ?_) (Suffix.start hr.1 hr.2)
 rw [dif_pos he]
 unfold cN
 rw [dif_pos (h.inv he)]
theorem listC_pos (hR : RulesN N R) {x : Nat × Nat} {c : Nat → Nat → Nat} (hc : ∀ b j, Edge R x (b, j) → 1 ≤ c b j) : ∀ {l : List SymD} {k : Nat}, Suffix R x l k → Der R l k → 1 ≤ listC (lenD R) c l k
 | [], k, _, h => by
  rw [Der.nil_iff] at h
  subst h
  exact Nat.le_refl _
 | (t, y) :: l, k, hs, h => by
  obtain ⟨i, hi, h1, h2⟩ := Der.cons_iff.1 h
  have hh := (hasD_iff (hs.ok hR).head).2 h1
  have hl := (canD_iff (hs.ok hR).tail hR).2 h2
  rw [listC_cons]
  have hm : i ∈ (List.range (k + 1)).filter (fun i => hasT (lenD R) (t, y) i && canT (lenD R) l (k - i)) := by
   rw [List.mem_filter, List.mem_range, Bool.and_eq_true]
   exact ⟨by omega, hh, hl⟩
  have h3 := sum_mem (f := fun i => ofC (lenD R) c (t, y) i * listC (lenD R) c l (k - i)) hm
  have h4 : 1 ≤ ofC (lenD R) c (t, y) i := by
   unfold ofC
   rw [if_pos hh]
   cases t with
   | true => exact Nat.le_refl _
   | false => exact hc _ _ (hs.edge' hR hi h1 h2)
  have h5 := listC_pos hR hc (hs.next hi h1) h2
  have h6 := Nat.mul_le_mul h4 h5
  show 1 ≤ min _ 1000000000
  omega
theorem cN_pos (hR : RulesN N R) {x : Nat × Nat} (h : Acc (fun y x => Edge R x y) x) : Der R [(false, (x.1 : Int))] x.2 → 1 ≤ cN R x.1 x.2 := by
 induction h with
 | intro x hx ih =>
  intro hd
  rw [cN_eq hR (Acc.intro x hx), ruleC_eq]
  obtain ⟨r, hm, h1⟩ := Der.non_iff.1 hd
  have h2 := listC_pos (c := cN R) hR (fun b j he => ih (b, j) he (by obtain ⟨_, _, _, _, _, _, _, _, _, _, _, h⟩ := he; exact h)) (Suffix.start (x := x) hm rfl) h1
  have h3 := sum_mem (f := fun r : RuleD => listC (lenD R) (cN R) r.2 x.2) (l := R.filter (fun r => decide (r.1 = (x.1 : Int)))) (x := ((x.1 : Int), r)) (by rw [List.mem_filter]; exact ⟨hm, by simp⟩)
  dsimp only at h2 h3
  show 1 ≤ min _ 1000000000
  omega
end
end Go.Proofs.Ytbmcoamdfpegnaa
