/- FoP2 -/
import Derived.Test.YtimklgbljjamkaaDoorCs25
namespace Go.Proofs.YtimklgbljjamkaaDoor
theorem sum_flat {α β : Type} (f : β → Nat) (g : α → List β) : ∀ l : List α, ((l.flatMap g).map f).sum = (l.map fun x => ((g x).map f).sum).sum
 | [] => rfl
 | x :: l => by rw [List.flatMap_cons, List.map_append, List.sum_append, List.map_cons, List.sum_cons, sum_flat f g l]
theorem sum_mulL {α : Type} (a : Nat) (f : α → Nat) : ∀ l : List α, (l.map fun x => a * f x).sum = a * (l.map f).sum
 | [] => by simp
 | x :: l => by rw [List.map_cons, List.sum_cons, List.map_cons, List.sum_cons, sum_mulL a f l, Nat.mul_add]
theorem sum_mulR {α : Type} (a : Nat) (f : α → Nat) : ∀ l : List α, (l.map fun x => f x * a).sum = (l.map f).sum * a
 | [] => by simp
 | x :: l => by rw [List.map_cons, List.sum_cons, List.map_cons, List.sum_cons, sum_mulR a f l, Nat.add_mul]
theorem sum_addF {α : Type} (f g : α → Nat) : ∀ l : List α, (l.map fun x => f x + g x).sum = (l.map f).sum + (l.map g).sum
 | [] => rfl
 | x :: l => by
  rw [List.map_cons, List.sum_cons, List.map_cons, List.sum_cons, List.map_cons, List.sum_cons, sum_addF f g l]
  omega
theorem sum_zero {α : Type} {f : α → Nat} : ∀ {l : List α}, (∀ x ∈ l, f x = 0) → (l.map f).sum = 0
 | [], _ => rfl
 | x :: l, h => by rw [List.map_cons, List.sum_cons, h x (by simp), sum_zero fun y hy => h y (by simp [hy])]
theorem sum_comm {α β : Type} (f : α → β → Nat) (m : List β) : ∀ l : List α, (l.map fun x => (m.map fun y => f x y).sum).sum = (m.map fun y => (l.map fun x => f x y).sum).sum
 | [] => (sum_zero fun _ _ => rfl).symm
 | x :: l => by
  rw [List.map_cons, List.sum_cons, sum_comm f m l, ← sum_addF]
  exact sum_congr fun y _ => by rw [List.map_cons, List.sum_cons]
theorem sum_ifs {α : Type} {p : α → Bool} {f : α → Nat} : ∀ {l : List α}, ((l.filter p).map f).sum = (l.map fun x => if p x = true then f x else 0).sum
 | [] => rfl
 | x :: l => by
  by_cases h : p x = true
  ·
   rw [List.filter_cons_of_pos h, List.map_cons, List.sum_cons, List.map_cons, List.sum_cons, if_pos h, sum_ifs]
  ·
   rw [List.filter_cons_of_neg h, List.map_cons, List.sum_cons, if_neg h, sum_ifs, Nat.zero_add]
theorem sum_shift {F : Nat → Nat} {i : Nat} (h : ∀ k, k < i → F k = 0) : ∀ m : Nat, ((List.range (i + m)).map F).sum = ((List.range m).map fun k => F (i + k)).sum
 | 0 => by
  rw [Nat.add_zero]
  exact sum_zero fun k hk => h k (List.mem_range.1 hk)
 | m + 1 => by
  rw [← Nat.add_assoc, List.range_succ, List.range_succ, List.map_append, List.map_append, List.sum_append, List.sum_append, sum_shift h m]
  rfl
theorem sum_zip {α : Type} (f : α → Nat) : ∀ (l : List α) (n : Nat), ((l.zipIdx n).map fun p => f p.1).sum = (l.map f).sum
 | [], _ => rfl
 | x :: l, n => by rw [List.zipIdx_cons, List.map_cons, List.sum_cons, List.map_cons, List.sum_cons, sum_zip f l]
def wordsP (T : Nat) : Nat → List (List Int)
 | 0 => [[]]
 | n + 1 => (wordsP T n).flatMap fun w => (List.range T).map fun x : Nat => w ++ [(x : Int)]
theorem mem_wordsP {T : Nat} : ∀ {n : Nat} {u : List Int}, u ∈ wordsP T n ↔ u.length = n ∧ ∀ x ∈ u, 0 ≤ x ∧ x < (T : Int)
 | 0, u => by
  unfold wordsP
  rw [List.mem_singleton]
  constructor
  ·
   rintro rfl
   exact ⟨rfl, by simp⟩
  ·
   rintro ⟨h, _⟩
   exact List.eq_nil_of_length_eq_zero h
 | n + 1, u => by
  rw [show wordsP T (n + 1) = (wordsP T n).flatMap fun w => (List.range T).map fun x : Nat => w ++ [(x : Int)] from rfl]
  simp only [List.mem_flatMap, List.mem_map, List.mem_range]
  constructor
  ·
   rintro ⟨w, hw, x, hx, rfl⟩
   obtain ⟨h1, h2⟩ := mem_wordsP.1 hw
   refine ⟨by simp [h1], fun y hy => ?_⟩
   rcases List.mem_append.1 hy with h | h
   ·
    exact h2 y h
   ·
    rw [List.mem_singleton.1 h]; omega
  ·
   rintro ⟨h1, h2⟩
   rcases List.eq_nil_or_concat u with rfl | ⟨w, y, rfl⟩
   ·
    simp at h1
   ·
    rw [List.concat_eq_append] at h1 h2 ⊢
    have hy := h2 y (by simp)
    refine ⟨w, mem_wordsP.2 ⟨by simpa using h1, fun x hx => h2 x (by simp [hx])⟩, y.toNat, by omega, ?_⟩
    rw [Int.toNat_of_nonneg hy.1]
theorem words_split {T k : Nat} (f : List Int → Nat) : ∀ (m : Nat) (g : List Int → Nat), ((wordsP T (k + m)).map fun u => f (u.take k) * g (u.drop k)).sum = ((wordsP T k).map f).sum * ((wordsP T m).map g).sum
 | 0, g => by
  rw [Nat.add_zero, show ((wordsP T 0).map g).sum = g [] by simp [wordsP], ← sum_mulR]
  refine sum_congr fun u hu => ?_
  have hl := (mem_wordsP.1 hu).1
  rw [List.take_of_length_le (by omega), List.drop_of_length_le (by omega)]
 | m + 1, g => by
  have h1 : ((wordsP T (k + (m + 1))).map fun u => f (u.take k) * g (u.drop k)).sum = ((wordsP T (k + m)).map fun u => f (u.take k) * ((List.range T).map fun x : Nat => g (u.drop k ++ [(x : Int)])).sum).sum := by
   show (((wordsP T (k + m)).flatMap fun w => (List.range T).map fun x : Nat => w ++ [(x : Int)]).map fun u => f (u.take k) * g (u.drop k)).sum = _
   rw [sum_flat]
   refine sum_congr fun u hu => ?_
   have hl := (mem_wordsP.1 hu).1
   rw [List.map_map, ← sum_mulL]
   refine sum_congr fun x _ => ?_
   show f ((u ++ [(x : Int)]).take k) * g ((u ++ [(x : Int)]).drop k) = _
   rw [List.take_append_of_le_length (by omega), List.drop_append_of_le_length (by omega)]
  rw [h1, words_split f m (fun v => ((List.range T).map fun x : Nat => g (v ++ [(x : Int)])).sum)]
  congr 1
  show _ = (((wordsP T m).flatMap fun w => (List.range T).map fun x : Nat => w ++ [(x : Int)]).map g).sum
  rw [sum_flat]
  exact sum_congr fun u _ => by rw [List.map_map]; rfl
def tlW (t : SymD → List Int → Nat) : List SymD → List Int → Nat
 | [], u => if u.length = 0 then 1 else 0
 | s :: l, u => ((List.range (u.length + 1)).map fun k => t s (u.take k) * tlW t l (u.drop k)).sum
def tW (R : List RuleD) : Nat → SymD → List Int → Nat
 | 0, s, u => if s.1 = true then (if u = [s.2] then 1 else 0) else 0
 | d + 1, s, u => if s.1 = true then (if u = [s.2] then 1 else 0) else ((R.filter fun r => decide (r.1 = s.2)).map fun r => tlW (tW R d) r.2 u).sum
def tlN (t : SymD → Nat → Nat) : List SymD → Nat → Nat
 | [], n => if n = 0 then 1 else 0
 | s :: l, n => ((List.range (n + 1)).map fun k => t s k * tlN t l (n - k)).sum
def tN (R : List RuleD) : Nat → SymD → Nat → Nat
 | 0, s, n => if s.1 = true then (if n = 1 then 1 else 0) else 0
 | d + 1, s, n => if s.1 = true then (if n = 1 then 1 else 0) else ((R.filter fun r => decide (r.1 = s.2)).map fun r => tlN (tN R d) r.2 n).sum
theorem tlW_cons (t : SymD → List Int → Nat) (s : SymD) (l : List SymD) (u : List Int) : tlW t (s :: l) u = ((List.range (u.length + 1)).map fun k => t s (u.take k) * tlW t l (u.drop k)).sum := rfl
theorem tlN_cons (t : SymD → Nat → Nat) (s : SymD) (l : List SymD) (n : Nat) : tlN t (s :: l) n = ((List.range (n + 1)).map fun k => t s k * tlN t l (n - k)).sum := rfl
theorem tW_term (R : List RuleD) (d : Nat) (c : Int) (u : List Int) : tW R d (true, c) u = if u = [c] then 1 else 0 := by cases d <;> rfl
theorem tN_term (R : List RuleD) (d : Nat) (c : Int) (n : Nat) : tN R d (true, c) n = if n = 1 then 1 else 0 := by cases d <;> rfl
theorem words_tl {T : Nat} {t : SymD → List Int → Nat} {t' : SymD → Nat → Nat} : ∀ {l : List SymD}, (∀ s ∈ l, ∀ k, ((wordsP T k).map (t s)).sum = t' s k) → ∀ n, ((wordsP T n).map (tlW t l)).sum = tlN t' l n
 | [], _, n => by
  unfold tlN
  by_cases h : n = 0
  ·
   subst h
   rw [if_pos rfl]
   rfl
  ·
   rw [if_neg h]
   refine sum_zero fun u hu => ?_
   unfold tlW
   rw [if_neg (by rw [(mem_wordsP.1 hu).1]; exact h)]
 | s :: l, h, n => by
  have h1 : ((wordsP T n).map (tlW t (s :: l))).sum = ((wordsP T n).map fun u => ((List.range (n + 1)).map fun k => t s (u.take k) * tlW t l (u.drop k)).sum).sum := by
   refine sum_congr fun u hu => ?_
   show ((List.range (u.length + 1)).map fun k => t s (u.take k) * tlW t l (u.drop k)).sum = _
   rw [(mem_wordsP.1 hu).1]
  rw [h1, sum_comm, tlN_cons]
  refine sum_congr fun k hk => ?_
  have hk := List.mem_range.1 hk
  have h2 := words_split (T := T) (k := k) (t s) (n - k) (tlW t l)
  rw [show k + (n - k) = n by omega] at h2
  rw [h2, h s (by simp) k, words_tl (fun s' hs' => h s' (by simp [hs'])) (n - k)]
theorem sum_one {T c : Nat} (h : c < T) : ((List.range T).map fun x : Nat => if x = c then 1 else 0).sum = 1 := by
 induction T with
 | zero => omega
 | succ T ih =>
  rw [List.range_succ, List.map_append, List.sum_append]
  by_cases e : c = T
  ·
   subst e
   rw [sum_zero fun x hx => if_neg (by have := List.mem_range.1 hx; omega)]
   simp
  ·
   rw [ih (by omega)]
   simp [Ne.symm e]
def TermsR (R : List RuleD) (T : Nat) : Prop := ∀ r ∈ R, ∀ s ∈ r.2, s.1 = true → 0 ≤ s.2 ∧ s.2 < (T : Int)
theorem words_t {R : List RuleD} {T : Nat} (hT : TermsR R T) : ∀ (d : Nat) {s : SymD}, (s.1 = true → 0 ≤ s.2 ∧ s.2 < (T : Int)) → ∀ n, ((wordsP T n).map (tW R d s)).sum = tN R d s n := by
 have term : ∀ (d : Nat) (c : Int), 0 ≤ c ∧ c < (T : Int) → ∀ n, ((wordsP T n).map (tW R d (true, c))).sum = tN R d (true, c) n := by
  intro d c hc n
  rw [tN_term]
  by_cases hn : n = 1
  ·
   subst hn
   rw [if_pos rfl]
   have h1 : ((wordsP T 1).map (tW R d (true, c))).sum = ((List.range T).map fun x : Nat => if x = c.toNat then 1 else 0).sum := by
    show ((([[]] : List (List Int)).flatMap fun w => (List.range T).map fun x : Nat => w ++ [(x : Int)]).map (tW R d (true, c))).sum = _
    rw [List.flatMap_cons, List.flatMap_nil, List.append_nil, List.map_map]
    refine sum_congr fun x _ => ?_
    show tW R d (true, c) ([] ++ [(x : Int)]) = _
    rw [tW_term, List.nil_append]
    by_cases e : x = c.toNat
    ·
     rw [if_pos e, if_pos (by rw [e, Int.toNat_of_nonneg hc.1])]
    ·
     rw [if_neg e, if_neg (by intro h; injection h with h; omega)]
   rw [h1]
   exact sum_one (by omega)
  ·
   rw [if_neg hn]
   refine sum_zero fun u hu => ?_
   rw [tW_term, if_neg]
   rintro rfl
   exact hn (mem_wordsP.1 hu).1.symm
 intro d
 induction d with
 | zero =>
  rintro ⟨b, c⟩ hs n
  cases b with
  | true => exact term 0 c (hs rfl) n
  | false =>
   show ((wordsP T n).map fun _ => 0).sum = 0
   exact sum_zero fun _ _ => rfl
 | succ d ih =>
  rintro ⟨b, c⟩ hs n
  cases b with
  | true => exact term (d + 1) c (hs rfl) n
  | false =>
   show ((wordsP T n).map fun u => ((R.filter fun r => decide (r.1 = c)).map fun r => tlW (tW R d) r.2 u).sum).sum = ((R.filter fun r => decide (r.1 = c)).map fun r => tlN (tN R d) r.2 n).sum
   rw [sum_comm]
   refine sum_congr fun r hr => ?_
   exact words_tl (fun s hs => ih (hT r (List.mem_filter.1 hr).1 s hs)) n
end Go.Proofs.YtimklgbljjamkaaDoor
