/- FoP2 CloInt CnWordsP FoP3 -/
import Derived.Test.YtjnbjdbndbbanaaGreatDoorTc13
import Derived.WalkSpells
namespace Go.Proofs.YtjnbjdbndbbanaaGreatDoor
theorem sum_flat {α β : Type} (f : β → Nat) (g : α → List β) : ∀ l : List α, ((l.flatMap g).map f).sum = (l.map fun x => ((g x).map f).sum).sum
 | [] => rfl
 | x :: l => by rw [List.flatMap_cons, List.map_append, List.sum_append, List.map_cons, List.sum_cons, sum_flat f g l]
theorem sum_mulL {α : Type} (a : Nat) (f : α → Nat) : ∀ l : List α, (l.map fun x => a * f x).sum = a * (l.map f).sum
 | [] => by simp
 | x :: l => by rw [List.map_cons, List.sum_cons, List.map_cons, List.sum_cons, sum_mulL a f l, Nat.mul_add]
theorem sum_mulR {α : Type} (a : Nat) (f : α → Nat) : ∀ l : List α, (l.map fun x => f x * a).sum = (l.map f).sum * a
 | [] => by simp
 | x :: l => by rw [List.map_cons, List.sum_cons, List.map_cons, List.sum_cons, sum_mulR a f l, Nat.add_mul]
theorem sum_addF {α : Type} (f g : α → Nat) : ∀ l : List α, (l.map fun x => f x + g x).sum = (l.map f).sum + (l.map g).sum
 | [] => rfl
 | x :: l => by
  rw [List.map_cons, List.sum_cons, List.map_cons, List.sum_cons, List.map_cons, List.sum_cons, sum_addF f g l]
  omega
theorem sum_zero {α : Type} {f : α → Nat} : ∀ {l : List α}, (∀ x ∈ l, f x = 0) → (l.map f).sum = 0
 | [], _ => rfl
 | x :: l, h => by rw [List.map_cons, List.sum_cons, h x (by simp), sum_zero fun y hy => h y (by simp [hy])]
theorem sum_comm {α β : Type} (f : α → β → Nat) (m : List β) : ∀ l : List α, (l.map fun x => (m.map fun y => f x y).sum).sum = (m.map fun y => (l.map fun x => f x y).sum).sum
 | [] => (sum_zero fun _ _ => rfl).symm
 | x :: l => by
  rw [List.map_cons, List.sum_cons, sum_comm f m l, ← sum_addF]
  exact sum_congr fun y _ => by rw [List.map_cons, List.sum_cons]
theorem sum_ifs {α : Type} {p : α → Bool} {f : α → Nat} : ∀ {l : List α}, ((l.filter p).map f).sum = (l.map fun x => if p x = true then f x else 0).sum
 | [] => rfl
 | x :: l => by
  by_cases h : p x = true
  · rw [List.filter_cons_of_pos h, List.map_cons, List.sum_cons, List.map_cons, List.sum_cons, if_pos h, sum_ifs]
  rw [List.filter_cons_of_neg h, List.map_cons, List.sum_cons, if_neg h, sum_ifs, Nat.zero_add]
theorem sum_shift {F : Nat → Nat} {i : Nat} (h : ∀ k, k < i → F k = 0) : ∀ m : Nat, ((List.range (i + m)).map F).sum = ((List.range m).map fun k => F (i + k)).sum
 | 0 => by
  rw [Nat.add_zero]
  exact sum_zero fun k hk => h k (List.mem_range.1 hk)
 | m + 1 => by
  rw [← Nat.add_assoc, List.range_succ, List.range_succ, List.map_append, List.map_append, List.sum_append, List.sum_append, sum_shift h m]
  rfl
theorem sum_zip {α : Type} (f : α → Nat) : ∀ (l : List α) (n : Nat), ((l.zipIdx n).map fun p => f p.1).sum = (l.map f).sum
 | [], _ => rfl
 | x :: l, n => by rw [List.zipIdx_cons, List.map_cons, List.sum_cons, List.map_cons, List.sum_cons, sum_zip f l]
def wordsP (T : Nat) : Nat → List (List Int)
 | 0 => [[]]
 | n + 1 => (wordsP T n).flatMap fun w => (List.range T).map fun x : Nat => w ++ [(x : Int)]
theorem mem_wordsP {T : Nat} : ∀ {n : Nat} {u : List Int}, u ∈ wordsP T n ↔ u.length = n ∧ ∀ x ∈ u, 0 ≤ x ∧ x < (T : Int)
 | 0, u => by
  unfold wordsP
  rw [List.mem_singleton]
  constructor
  ·
   rintro rfl
   exact ⟨rfl, by simp⟩
  rintro ⟨h, _⟩
  exact List.eq_nil_of_length_eq_zero h
 | n + 1, u => by
  rw [show wordsP T (n + 1) = (wordsP T n).flatMap fun w => (List.range T).map fun x : Nat => w ++ [(x : Int)] from rfl]
  simp only [List.mem_flatMap, List.mem_map, List.mem_range]
  constructor
  ·
   rintro ⟨w, hw, x, hx, rfl⟩
   obtain ⟨h1, h2⟩ := mem_wordsP.1 hw
   refine ⟨by simp [h1], fun y hy => ?_⟩
   rcases List.mem_append.1 hy with h | h
   · exact h2 y h
   rw [List.mem_singleton.1 h]; omega
  rintro ⟨h1, h2⟩
  rcases List.eq_nil_or_concat u with rfl | ⟨w, y, rfl⟩
  · simp at h1
  rw [List.concat_eq_append] at h1 h2 ⊢
  have hy := h2 y (by simp)
  refine ⟨w, mem_wordsP.2 ⟨by simpa using h1, fun x hx => h2 x (by simp [hx])⟩, y.toNat, by omega, ?_⟩
  rw [Int.toNat_of_nonneg hy.1]
theorem words_split {T k : Nat} (f : List Int → Nat) : ∀ (m : Nat) (g : List Int → Nat), ((wordsP T (k + m)).map fun u => f (u.take k) * g (u.drop k)).sum = ((wordsP T k).map f).sum * ((wordsP T m).map g).sum
 | 0, g => by
  rw [Nat.add_zero, show ((wordsP T 0).map g).sum = g [] by simp [wordsP], ← sum_mulR]
  refine sum_congr fun u hu => ?_
  have hl := (mem_wordsP.1 hu).1
  rw [List.take_of_length_le (by omega), List.drop_of_length_le (by omega)]
 | m + 1, g => by
  have h1 : ((wordsP T (k + (m + 1))).map fun u => f (u.take k) * g (u.drop k)).sum = ((wordsP T (k + m)).map fun u => f (u.take k) * ((List.range T).map fun x : Nat => g (u.drop k ++ [(x : Int)])).sum).sum := by
   show (((wordsP T (k + m)).flatMap fun w => (List.range T).map fun x : Nat => w ++ [(x : Int)]).map fun u => f (u.take k) * g (u.drop k)).sum = _
   rw [sum_flat]
   refine sum_congr fun u hu => ?_
   have hl := (mem_wordsP.1 hu).1
   rw [List.map_map, ← sum_mulL]
   refine sum_congr fun x _ => ?_
   show f ((u ++ [(x : Int)]).take k) * g ((u ++ [(x : Int)]).drop k) = _
   rw [List.take_append_of_le_length (by omega), List.drop_append_of_le_length (by omega)]
  rw [h1, words_split f m (fun v => ((List.range T).map fun x : Nat => g (v ++ [(x : Int)])).sum)]
  congr 1
  show _ = (((wordsP T m).flatMap fun w => (List.range T).map fun x : Nat => w ++ [(x : Int)]).map g).sum
  rw [sum_flat]
  exact sum_congr fun u _ => by rw [List.map_map]; rfl
def tlW (t : SymD → List Int → Nat) : List SymD → List Int → Nat
 | [], u => if u.length = 0 then 1 else 0
 | s :: l, u => ((List.range (u.length + 1)).map fun k => t s (u.take k) * tlW t l (u.drop k)).sum
def tW (R : List RuleD) : Nat → SymD → List Int → Nat
 | 0, s, u => if s.1 = true then (if u = [s.2] then 1 else 0) else 0
 | d + 1, s, u => if s.1 = true then (if u = [s.2] then 1 else 0) else ((R.filter fun r => decide (r.1 = s.2)).map fun r => tlW (tW R d) r.2 u).sum
def tlN (t : SymD → Nat → Nat) : List SymD → Nat → Nat
 | [], n => if n = 0 then 1 else 0
 | s :: l, n => ((List.range (n + 1)).map fun k => t s k * tlN t l (n - k)).sum
def tN (R : List RuleD) : Nat → SymD → Nat → Nat
 | 0, s, n => if s.1 = true then (if n = 1 then 1 else 0) else 0
 | d + 1, s, n => if s.1 = true then (if n = 1 then 1 else 0) else ((R.filter fun r => decide (r.1 = s.2)).map fun r => tlN (tN R d) r.2 n).sum
theorem tlW_cons (t : SymD → List Int → Nat) (s : SymD) (l : List SymD) (u : List Int) : tlW t (s :: l) u = ((List.range (u.length + 1)).map fun k => t s (u.take k) * tlW t l (u.drop k)).sum := rfl
theorem tlN_cons (t : SymD → Nat → Nat) (s : SymD) (l : List SymD) (n : Nat) : tlN t (s :: l) n = ((List.range (n + 1)).map fun k => t s k * tlN t l (n - k)).sum := rfl
theorem tW_term (R : List RuleD) (d : Nat) (c : Int) (u : List Int) : tW R d (true, c) u = if u = [c] then 1 else 0 := by cases d <;> rfl
theorem tN_term (R : List RuleD) (d : Nat) (c : Int) (n : Nat) : tN R d (true, c) n = if n = 1 then 1 else 0 := by cases d <;> rfl
theorem words_tl {T : Nat} {t : SymD → List Int → Nat} {t' : SymD → Nat → Nat} : ∀ {l : List SymD}, (∀ s ∈ l, ∀ k, ((wordsP T k).map (t s)).sum = t' s k) → ∀ n, ((wordsP T n).map (tlW t l)).sum = tlN t' l n
 | [], _, n => by
  unfold tlN
  by_cases h : n = 0
  ·
   subst h
   rw [if_pos rfl]
   rfl
  rw [if_neg h]
  refine sum_zero fun u hu => ?_
  unfold tlW
  rw [if_neg (by rw [(mem_wordsP.1 hu).1]; exact h)]
 | s :: l, h, n => by
  have h1 : ((wordsP T n).map (tlW t (s :: l))).sum = ((wordsP T n).map fun u => ((List.range (n + 1)).map fun k => t s (u.take k) * tlW t l (u.drop k)).sum).sum := by
   refine sum_congr fun u hu => ?_
   show ((List.range (u.length + 1)).map fun k => t s (u.take k) * tlW t l (u.drop k)).sum = _
   rw [(mem_wordsP.1 hu).1]
  rw [h1, sum_comm, tlN_cons]
  refine sum_congr fun k hk => ?_
  have hk := List.mem_range.1 hk
  have h2 := words_split (T := T) (k := k) (t s) (n - k) (tlW t l)
  rw [show k + (n - k) = n by omega] at h2
  rw [h2, h s (by simp) k, words_tl (fun s' hs' => h s' (by simp [hs'])) (n - k)]
theorem sum_one {T c : Nat} (h : c < T) : ((List.range T).map fun x : Nat => if x = c then 1 else 0).sum = 1 := by
 induction T with
 | zero => omega
 | succ T ih =>
  rw [List.range_succ, List.map_append, List.sum_append]
  by_cases e : c = T
  ·
   subst e
   rw [sum_zero fun x hx => if_neg (by have := List.mem_range.1 hx; omega)]
   simp
  rw [ih (by omega)]
  simp [Ne.symm e]
def TermsR (R : List RuleD) (T : Nat) : Prop := ∀ r ∈ R, ∀ s ∈ r.2, s.1 = true → 0 ≤ s.2 ∧ s.2 < (T : Int)
theorem words_t {R : List RuleD} {T : Nat} (hT : TermsR R T) : ∀ (d : Nat) {s : SymD}, (s.1 = true → 0 ≤ s.2 ∧ s.2 < (T : Int)) → ∀ n, ((wordsP T n).map (tW R d s)).sum = tN R d s n := by
 have term : ∀ (d : Nat) (c : Int), 0 ≤ c ∧ c < (T : Int) → ∀ n, ((wordsP T n).map (tW R d (true, c))).sum = tN R d (true, c) n := by
  intro d c hc n
  rw [tN_term]
  by_cases hn : n = 1
  ·
   subst hn
   rw [if_pos rfl]
   have h1 : ((wordsP T 1).map (tW R d (true, c))).sum = ((List.range T).map fun x : Nat => if x = c.toNat then 1 else 0).sum := by
    show ((([[]] : List (List Int)).flatMap fun w => (List.range T).map fun x : Nat => w ++ [(x : Int)]).map (tW R d (true, c))).sum = _
    rw [List.flatMap_cons, List.flatMap_nil, List.append_nil, List.map_map]
    refine sum_congr fun x _ => ?_
    show tW R d (true, c) ([] ++ [(x : Int)]) = _
    rw [tW_term, List.nil_append]
    by_cases e : x = c.toNat
    · rw [if_pos e, if_pos (by rw [e, Int.toNat_of_nonneg hc.1])]
    rw [if_neg e, if_neg (by intro h; injection h with h; omega)]
   rw [h1]
   exact sum_one (by omega)
  rw [if_neg hn]
  refine sum_zero fun u hu => ?_
  rw [tW_term, if_neg]
  rintro rfl
  exact hn (mem_wordsP.1 hu).1.symm
 intro d
 induction d with
 | zero =>
  rintro ⟨b, c⟩ hs n
  cases b with
  | true => exact term 0 c (hs rfl) n
  | false =>
   show ((wordsP T n).map fun _ => 0).sum = 0
   exact sum_zero fun _ _ => rfl
 | succ d ih =>
  rintro ⟨b, c⟩ hs n
  cases b with
  | true => exact term (d + 1) c (hs rfl) n
  | false =>
   show ((wordsP T n).map fun u => ((R.filter fun r => decide (r.1 = c)).map fun r => tlW (tW R d) r.2 u).sum).sum = ((R.filter fun r => decide (r.1 = c)).map fun r => tlN (tN R d) r.2 n).sum
   rw [sum_comm]
   refine sum_congr fun r hr => ?_
   exact words_tl (fun s hs => ih (hT r (List.mem_filter.1 hr).1 s hs)) n
end Go.Proofs.YtjnbjdbndbbanaaGreatDoor
namespace Go.Proofs.YtjnbjdbndbbanaaGreatDoor
open Go.RowKit
set_option maxHeartbeats 1000000 in
theorem cloneInt (A : Option Addr) (n c : Nat) (S : Nat → Prop) (xs : List Value) (w : World) (hr : Rd w S 1 A n xs) (hb : n * 8 ≤ 281474976710656) :
    Calls Tryz.prog 9 #[.slice A n c] w fun e w' => ∃ v, e = .returned v ∧ Own w' w.heap.size 3 1 v n xs ∧ Below w.heap.size w w' := by
 have HRD := Lib.hid hr
 clear hr
 cases A with
 | none =>
  have hq := fun W => Lib.run_eql_slice_nil (P := Tryz.prog) W 22
  go_enter Tryz.func9, Tryz.ntmps9
  go_wp2_with fail
  go_ret
  have hn : n = 0 := by
   rcases Nat.eq_zero_or_pos n with h0 | h0
   · exact h0
   obtain ⟨b, off, h, _⟩ := HRD.out.2 h0
   cases h
  subst hn
  have hx : xs = [] := List.eq_nil_of_length_eq_zero (by simpa using HRD.out.1)
  subst hx
  exact ⟨_, rfl, Own.nil _ _ _ _ _, Below.refl _ _⟩
 | some a =>
  have hq := fun W => Lib.run_eql_slice_nil (P := Tryz.prog) W 22 3 (some a) n c 0 0 (by kernel_rfl)
  obtain ⟨v2, w2, hrun, ho, hg, _⟩ := run_append_fresh tInts (w.alloc (.cells #[] 3)) 22 w.heap.size (some ⟨w.heap.size, 0, none⟩) _ (some a) n c xs (HRD.out.alloc _) (by unfold maxLen; omega) (by omega) (by simp)
  have HRUN := Lib.hid hrun
  have HO := Lib.hid ho
  have HG := Lib.hid hg
  clear hrun ho hg
  go_enter Tryz.func9, Tryz.ntmps9
  go_wp2_with (at_builtin; refine Lib.wpList_append_run _ rfl _ _ _ _ rfl _ _ rfl rfl _ _ HRUN.out ?_)
  go_ret
  exact ⟨_, rfl, HO.out, ((Below.refl _ _).alloc (Nat.le_refl _) _).grown HG.out (by simp) (by simp)⟩
def kidsP (T : Nat) (w : List Int) : List (List Int) := (List.range T).map fun t : Nat => w ++ [(t : Int)]
theorem kidsP_len (T : Nat) (w : List Int) : (kidsP T w).length = T := by simp [kidsP]
theorem wordsP_len (T : Nat) : ∀ n : Nat, (wordsP T n).length = T ^ n
 | 0 => rfl
 | n + 1 => by
  rw [show wordsP T (n + 1) = (wordsP T n).flatMap (kidsP T) from rfl, List.length_flatMap]
  have h1 : ((wordsP T n).map fun w => (kidsP T w).length) = List.replicate (wordsP T n).length T := by
   rw [List.eq_replicate_iff]
   refine ⟨by simp, fun b hb => ?_⟩
   obtain ⟨w, _, rfl⟩ := List.mem_map.1 hb
   exact kidsP_len T w
  rw [h1, List.sum_replicate_nat, wordsP_len T n, Nat.pow_succ]
theorem kidsP_take (T j : Nat) (w : List Int) (h : j < T) : (kidsP T w).take (j + 1) = (kidsP T w).take j ++ [w ++ [(j : Int)]] := by
 have hl : j < (kidsP T w).length := by rw [kidsP_len]; exact h
 rw [List.take_succ_eq_append_getElem hl]
 simp [kidsP]
theorem tIntssW : SlType Tryz.prog 32 22 1 24 (.slice none 0 0) := ⟨by kernel_rfl, by kernel_rfl, by kernel_rfl, rfl, by decide⟩
def nextP (T : Nat) (l : List (List Int)) (i j : Nat) : List (List Int) := (l.take i).flatMap (kidsP T) ++ ((l.drop i).take 1).flatMap fun w => (kidsP T w).take j
theorem nextP_zero (T : Nat) (l : List (List Int)) : nextP T l 0 0 = [] := by cases l <;> simp [nextP]
theorem nextP_step {T : Nat} {l : List (List Int)} {i j : Nat} {w : List Int} (hw : l[i]? = some w) (hj : j < T) : nextP T l i (j + 1) = nextP T l i j ++ [w ++ [(j : Int)]] := by
 obtain ⟨hi, rfl⟩ := List.getElem?_eq_some_iff.1 hw
 have hd : (l.drop i).take 1 = [l[i]] := by rw [List.drop_eq_getElem_cons hi]; rfl
 unfold nextP
 rw [hd, List.flatMap_singleton, List.flatMap_singleton, kidsP_take T j _ hj, List.append_assoc]
theorem nextP_next {T : Nat} {l : List (List Int)} {i : Nat} {w : List Int} (hw : l[i]? = some w) : nextP T l i T = nextP T l (i + 1) 0 := by
 obtain ⟨hi, rfl⟩ := List.getElem?_eq_some_iff.1 hw
 have hd : (l.drop i).take 1 = [l[i]] := by rw [List.drop_eq_getElem_cons hi]; rfl
 have ht : (kidsP T l[i]).take T = kidsP T l[i] := List.take_of_length_le (by rw [kidsP_len]; exact Nat.le_refl _)
 unfold nextP
 rw [hd, List.flatMap_singleton, ht, List.take_succ_eq_append_getElem hi, List.flatMap_append, List.flatMap_singleton]
 simp
theorem nextP_end (T : Nat) (l : List (List Int)) : nextP T l l.length 0 = l.flatMap (kidsP T) := by simp [nextP]
theorem nextP_len {T : Nat} {l : List (List Int)} {i j : Nat} (hj : j ≤ T) : (nextP T l i j).length ≤ (l.length + 1) * T := by
 unfold nextP
 rw [List.length_append, List.length_flatMap, List.length_flatMap]
 have h1 : ((l.take i).map fun w => (kidsP T w).length) = List.replicate (l.take i).length T := by
  rw [List.eq_replicate_iff]
  refine ⟨by simp, fun b hb => ?_⟩
  obtain ⟨w, _, rfl⟩ := List.mem_map.1 hb
  exact kidsP_len T w
 rw [h1, List.sum_replicate_nat]
 have h2 : ((((l.drop i).take 1).map fun w => ((kidsP T w).take j).length)).sum ≤ T := by
  cases l.drop i with
  | nil => simp
  | cons a r => simp [kidsP_len]; omega
 have h3 : (l.take i).length ≤ l.length := by simp; omega
 calc (l.take i).length * T + _ ≤ l.length * T + T := Nat.add_le_add (Nat.mul_le_mul_right _ h3) h2
  _ = (l.length + 1) * T := by rw [Nat.add_mul, Nat.one_mul]
theorem wordsPush (w6 w7 : World) (L : List (List Int)) (T i j : Nat) (An : Option Addr) (cn : Nat) (v7 : Value) (u : List Int) {w4 : World} (ho7 : OwnL Rep.int w7 (fun _ => False) w6.heap.size 3 v7 u) (hz6 : w4.heap.size ≤ w6.heap.size) (hz7 : w6.heap.size ≤ w7.heap.size)
    (hb7 : Below w6.heap.size w6 w7) (hoN : OwnL RI w6 (fun _ => False) w4.heap.size 22 (.slice An (nextP T L i j).length cn) (nextP T L i j)) (hu : u.length ≤ 5) (hl : (nextP T L i j).length ≤ 1025 * 4) :
    ∃ A8 c8 w8, (Builtin.append_ #[22, 22] 22 #[v7, .slice (some ⟨w7.heap.size, 0, none⟩) 1 1]).run Tryz.prog (w7.alloc (.cells #[.int .i64 (j : Int)] 3)) = .ok (.slice A8 (u.length + 1) c8) w8 ∧
     ∃ vN w9, (Builtin.append_ #[32, 32] 32 #[.slice An (nextP T L i j).length cn, .slice (some ⟨w8.heap.size, 0, none⟩) 1 1]).run Tryz.prog (w8.alloc (.cells #[.slice A8 (u.length + 1) c8] 22)) = .ok vN w9 ∧ OwnL RI w9 (fun _ => False) w4.heap.size 22 vN (nextP T L i j ++ [u ++ [(j : Int)]]) ∧ Below w4.heap.size w7 w9 := by
 have hr : ∀ g, rowOf (.slice An (nextP T L i j).length cn) = some g → g < w6.heap.size := fun g e => (hoN.row e).2
 obtain ⟨v8, w8, hrun8, ho8, hg8, hb8⟩ := run_append_lit (R := Rep.int) tInts rfl w7 22 w6.heap.size (fun _ => False) v7 u ho7 1 [(j : Int)] [.int .i64 (j : Int)] (Cells.single rfl) rfl (by unfold maxLen; omega) (by omega) hz7
 obtain ⟨A8, c8, rfl, _, _⟩ := ho8.form
 have hoN8 : OwnL RI w8 (fun _ => False) w4.heap.size 22 (.slice An (nextP T L i j).length cn) (nextP T L i j) := hoN.below (hb7.trans hb8)
 have hsl : Sl Rep.int w8 (fun b => w6.heap.size ≤ b) A8 (u.length + 1) c8 (u ++ [(j : Int)]) := by
  have h := ho8.sl
  rw [List.length_append, List.length_singleton] at h
  exact h.more fun b hb => by
   rcases hb with hb | hb
   · exact hb.elim
   exact hb
 rw [List.length_append, List.length_singleton] at hrun8
 obtain ⟨vN, w9, hrun9, ho9, hg9, hb9⟩ := run_append_lit (R := RI) tIntssW rfl w8 32 w4.heap.size (fun _ => False) (.slice An (nextP T L i j).length cn) (nextP T L i j) hoN8 1 [u ++ [(j : Int)]] [.slice A8 (u.length + 1) c8]
  (Cells.single ⟨A8, u.length + 1, c8, rfl, hsl.more fun b hb => ⟨.inr (by omega), fun e => by have := hr b e; omega⟩⟩) rfl (by unfold maxLen; omega) (by omega) (by have := hb8.size; omega)
 exact ⟨A8, c8, w8, hrun8, vN, w9, hrun9, ho9, (hb8.mono hz6).trans hb9⟩
end Go.Proofs.YtjnbjdbndbbanaaGreatDoor
namespace Go.Proofs.YtjnbjdbndbbanaaGreatDoor
theorem fin_max {α : Type} {P : Nat → α → Prop} : ∀ {l : List α}, (∀ x ∈ l, ∃ D, ∀ d, D ≤ d → P d x) → ∃ D, ∀ d, D ≤ d → ∀ x ∈ l, P d x
 | [], _ => ⟨0, fun _ _ x hx => by cases hx⟩
 | x :: l, h => by
  obtain ⟨D1, h1⟩ := h x (by simp)
  obtain ⟨D2, h2⟩ := fin_max (l := l) fun y hy => h y (by simp [hy])
  refine ⟨D1 + D2, fun d hd y hy => ?_⟩
  rcases List.mem_cons.1 hy with rfl | hy
  · exact h1 d (by omega)
  exact h2 d (by omega) y hy
section
variable {R : List RuleD} {N : Nat}
theorem sum_pos_mem {α : Type} {f : α → Nat} {l : List α} (h : (l.map f).sum ≠ 0) : ∃ x ∈ l, f x ≠ 0 := by
 apply Classical.byContradiction
 intro hn
 exact h (sum_zero fun x hx => Classical.byContradiction fun e => hn ⟨x, hx, e⟩)
theorem tlN_der {t : SymD → Nat → Nat} (ht : ∀ s k, t s k ≠ 0 → Der R [s] k) : ∀ {l : List SymD} {k : Nat}, tlN t l k ≠ 0 → Der R l k
 | [], k, h => by
  unfold tlN at h
  by_cases e : k = 0
  · exact Der.nil_iff.2 e
  rw [if_neg e] at h
  exact absurd rfl h
 | s :: l, k, h => by
  rw [tlN_cons] at h
  obtain ⟨i, hi, hz⟩ := sum_pos_mem h
  have hi := List.mem_range.1 hi
  have h1 : t s i ≠ 0 := fun e => hz (by rw [e, Nat.zero_mul])
  have h2 : tlN t l (k - i) ≠ 0 := fun e => hz (by rw [e, Nat.mul_zero])
  exact Der.cons_iff.2 ⟨i, by omega, ht _ _ h1, tlN_der ht h2⟩
theorem tN_der : ∀ (d : Nat) (s : SymD) (k : Nat), tN R d s k ≠ 0 → Der R [s] k
 | d, (true, c), k, h => by
  rw [tN_term] at h
  by_cases e : k = 1
  · exact Der.term_iff.2 e
  rw [if_neg e] at h
  exact absurd rfl h
 | 0, (false, c), k, h => absurd rfl h
 | d + 1, (false, c), k, h => by
  have h : ((R.filter fun r => decide (r.1 = c)).map fun r => tlN (tN R d) r.2 k).sum ≠ 0 := h
  obtain ⟨r, hr, hz⟩ := sum_pos_mem h
  rw [List.mem_filter, decide_eq_true_eq] at hr
  refine Der.non_iff.2 ⟨r.2, ?_, tlN_der (tN_der d) hz⟩
  rw [← hr.2]
  exact hr.1
theorem tlN_conv (hR : RulesN N R) {x : Nat × Nat} {t : SymD → Nat → Nat} (ht : ∀ s k, t s k ≠ 0 → Der R [s] k) (htm : ∀ c k, t (true, c) k = if k = 1 then 1 else 0) (hc : ∀ b j, Edge R x (b, j) → cp (t (false, (b : Int)) j) = cN R b j) : ∀ {l : List SymD} {k : Nat}, Suffix R x l k → cp (tlN t l k) = listC (lenD R) (cN R) l k
 | [], k, _ => by
  unfold tlN listC
  split <;> rfl
 | (b, y) :: l, k, hs => by
  rw [listC_cons]
  show cp _ = cp _
  rw [tlN_cons, sum_ifs]
  refine cp_sum fun i hi => ?_
  have hi := List.mem_range.1 hi
  by_cases hp : (hasT (lenD R) (b, y) i && canT (lenD R) l (k - i)) = true
  ·
   rw [if_pos hp]
   rw [Bool.and_eq_true] at hp
   have hd := (hasD_iff (hs.ok hR).head).1 hp.1
   have hl := (canD_iff (hs.ok hR).tail hR).1 hp.2
   have e1 : cp (t (b, y) i) = cp (ofC (lenD R) (cN R) (b, y) i) := by
    unfold ofC
    rw [if_pos hp.1]
    cases b with
    | true =>
     rw [htm, if_pos (Der.term_iff.1 hd)]
     rfl
    | false =>
     have h1 := hc _ _ (hs.edge' hR (by omega) hd hl)
     have hy := (hs.ok hR (false, y) (by simp) rfl).1
     rw [Int.toNat_of_nonneg hy] at h1
     show _ = cp (cN R y.toNat i)
     rw [← h1, cp_cp]
   rw [cp_mul, e1, tlN_conv hR ht htm hc (hs.next (by omega) hd), cp_mul (ofC _ _ _ _), show cp (listC (lenD R) (cN R) l (k - i)) = listC (lenD R) (cN R) l (k - i) from Nat.min_eq_left (listC_le _ _ _ _)]
  rw [if_neg hp]
  have hz : t (b, y) i * tlN t l (k - i) = 0 := by
   apply Classical.byContradiction
   intro hn
   have h1 : t (b, y) i ≠ 0 := fun e => hn (by rw [e, Nat.zero_mul])
   have h2 : tlN t l (k - i) ≠ 0 := fun e => hn (by rw [e, Nat.mul_zero])
   exact hp (by rw [Bool.and_eq_true]; exact ⟨(hasD_iff (hs.ok hR).head).2 (ht _ _ h1), (canD_iff (hs.ok hR).tail hR).2 (tlN_der ht h2)⟩)
  rw [hz]
theorem tN_conv (hR : RulesN N R) {x : Nat × Nat} (h : Acc (fun y x => Edge R x y) x) : ∃ D, ∀ d, D ≤ d → cp (tN R d (false, (x.1 : Int)) x.2) = cN R x.1 x.2 := by
 induction h with
 | intro x hx ih =>
  have h1 : ∃ D, ∀ d, D ≤ d → ∀ i ∈ List.range (N * (x.2 + 1)), Edge R x (nodeOf x.2 i) → cp (tN R d (false, ((nodeOf x.2 i).1 : Int)) (nodeOf x.2 i).2) = cN R (nodeOf x.2 i).1 (nodeOf x.2 i).2 := by
   refine fin_max fun i _ => ?_
   by_cases he : Edge R x (nodeOf x.2 i)
   ·
    obtain ⟨D, hD⟩ := ih _ he
    exact ⟨D, fun d hd _ => hD d hd⟩
   exact ⟨0, fun d _ h => absurd h he⟩
  obtain ⟨D, hD⟩ := h1
  refine ⟨D + 1, fun d hd => ?_⟩
  obtain ⟨d, rfl⟩ : ∃ d', d = d' + 1 := ⟨d - 1, by omega⟩
  rw [cN_eq hR (Acc.intro x hx), ruleC_eq]
  show cp ((R.filter fun r => decide (r.1 = (x.1 : Int))).map fun r => tlN (tN R d) r.2 x.2).sum = cp _
  refine cp_sum fun r hr => ?_
  rw [List.mem_filter, decide_eq_true_eq] at hr
  rw [tlN_conv hR (x := x) (tN_der d) (tN_term R d) (fun b j he => ?_) (Suffix.start hr.1 hr.2), show cp (listC (lenD R) (cN R) r.2 x.2) = listC (lenD R) (cN R) r.2 x.2 from Nat.min_eq_left (listC_le _ _ _ _)]
  have e1 := nodeOf_num (n := x.2) (x := (b, j)) he.le
  have h2 := hD d (by omega) (numOf x.2 (b, j)) (List.mem_range.2 (numOf_lt (he.lt hR) he.le))
  rw [e1] at h2
  exact h2 he
end
def slW (ws : List Int) (i j : Nat) : List Int := (ws.drop i).take (j - i)
theorem slW_len {ws : List Int} {i j : Nat} (h : i ≤ j) (hj : j ≤ ws.length) : (slW ws i j).length = j - i := by
 unfold slW
 rw [List.length_take, List.length_drop]
 omega
theorem slW_take {ws : List Int} {i j k : Nat} (hk : k ≤ j - i) : (slW ws i j).take k = slW ws i (i + k) := by
 unfold slW
 rw [List.take_take, Nat.min_eq_left hk, show i + k - i = k by omega]
theorem slW_drop {ws : List Int} {i j k : Nat} : (slW ws i j).drop k = slW ws (i + k) j := by
 unfold slW
 rw [List.drop_take, List.drop_drop, show j - i - k = j - (i + k) by omega]
section
variable {R : List RuleD} {ws : List Int}
theorem tlW_der {t : SymD → List Int → Nat} (ht : ∀ s i j, i ≤ j → j ≤ ws.length → t s (slW ws i j) ≠ 0 → DerW R ws [s] i j) : ∀ {l : List SymD} {i j : Nat}, i ≤ j → j ≤ ws.length → tlW t l (slW ws i j) ≠ 0 → DerW R ws l i j
 | [], i, j, hi, hj, h => by
  unfold tlW at h
  rw [slW_len hi hj] at h
  by_cases e : j - i = 0
  ·
   obtain rfl : i = j := by omega
   exact .nil
  rw [if_neg e] at h
  exact absurd rfl h
 | s :: l, i, j, hi, hj, h => by
  rw [tlW_cons] at h
  obtain ⟨k, hk, hz⟩ := sum_pos_mem h
  rw [List.mem_range, slW_len hi hj] at hk
  rw [slW_take (by omega), slW_drop] at hz
  have h1 : t s (slW ws i (i + k)) ≠ 0 := fun e => hz (by rw [e, Nat.zero_mul])
  have h2 : tlW t l (slW ws (i + k) j) ≠ 0 := fun e => hz (by rw [e, Nat.mul_zero])
  exact (ht s i (i + k) (by omega) (by omega) h1).cons (tlW_der ht (by omega) hj h2)
theorem slW_one {i j : Nat} {c : Int} (h : slW ws i j = [c]) (hi : i ≤ j) (hj : j ≤ ws.length) : ws[i]? = some c ∧ j = i + 1 := by
 have h1 := slW_len hi hj
 rw [h] at h1
 have h1 : 1 = j - i := h1
 have h2 : (slW ws i j)[0]? = some c := by rw [h]; rfl
 unfold slW at h2
 rw [List.getElem?_take, if_pos (by omega), List.getElem?_drop, Nat.add_zero] at h2
 exact ⟨h2, by omega⟩
theorem slW_one' {i : Nat} {c : Int} (h : ws[i]? = some c) : slW ws i (i + 1) = [c] := by
 unfold slW
 have hl := (List.getElem?_eq_some_iff.1 h)
 obtain ⟨h1, h2⟩ := hl
 rw [show i + 1 - i = 1 by omega, List.drop_eq_getElem_cons h1, List.take_succ_cons, List.take_zero, h2]
theorem tW_der : ∀ (d : Nat) (s : SymD) (i j : Nat), i ≤ j → j ≤ ws.length → tW R d s (slW ws i j) ≠ 0 → DerW R ws [s] i j
 | d, (true, c), i, j, hi, hj, h => by
  rw [tW_term] at h
  by_cases e : slW ws i j = [c]
  ·
   obtain ⟨h1, rfl⟩ := slW_one e hi hj
   exact .term h1 .nil
  rw [if_neg e] at h
  exact absurd rfl h
 | 0, (false, c), _, _, _, _, h => absurd rfl h
 | d + 1, (false, c), i, j, hi, hj, h => by
  have h : ((R.filter fun r => decide (r.1 = c)).map fun r => tlW (tW R d) r.2 (slW ws i j)).sum ≠ 0 := h
  obtain ⟨r, hr, hz⟩ := sum_pos_mem h
  rw [List.mem_filter, decide_eq_true_eq] at hr
  have h1 := tlW_der (tW_der d) hi hj hz
  have h2 : (c, r.2) ∈ R := by rw [← hr.2]; exact hr.1
  exact .non h2 h1 .nil
open Classical in
theorem tlW_conv {x : KeyD} {t : SymD → List Int → Nat} {c : KeyD → Nat} (hx : x.2.2 ≤ ws.length) (ht : ∀ s i j, i ≤ j → j ≤ ws.length → t s (slW ws i j) ≠ 0 → DerW R ws [s] i j) (hc : ∀ y, FEdge R ws x y → cp (t y.1 (slW ws y.2.1 y.2.2)) = cp (c y)) (h0 : x.1.1 = false) :
    ∀ {l : List SymD} {i : Nat}, i ≤ x.2.2 → (∃ r ∈ R, r.1 = x.1.2 ∧ ∃ a, r.2 = a ++ l ∧ DerW R ws a x.2.1 i) → cp (tlW t l (slW ws i x.2.2)) = cp (((splP R ws l i x.2.2).map (prodN c)).sum)
 | [], i, hi, _ => by
  unfold tlW splP
  rw [slW_len hi hx]
  by_cases e : i = x.2.2
  ·
   rw [if_pos (by omega), if_pos e]
   simp [prodN]
  rw [if_neg (by omega), if_neg e]
  rfl
 | s :: l, i, hi, ⟨r, hr, hr1, a, hra, hda⟩ => by
  have hsh := sum_shift (F := fun k' => if decide (DerW R ws [s] i k' ∧ DerW R ws l k' x.2.2) = true then (((splP R ws l k' x.2.2).map fun ks => (s, i, k') :: ks).map (prodN c)).sum else 0) (i := i) (fun k hk => by
   rw [if_neg]
   intro h
   have h1 := (of_decide_eq_true h).1.le.1
   omega) (x.2.2 - i + 1)
  rw [tlW_cons, splP_cons, sum_flat, sum_ifs, slW_len hi hx, show x.2.2 + 1 = i + (x.2.2 - i + 1) by omega, hsh]
  refine cp_sum fun k hk => ?_
  have hk := List.mem_range.1 hk
  rw [slW_take (by omega), slW_drop]
  by_cases hp : DerW R ws [s] i (i + k) ∧ DerW R ws l (i + k) x.2.2
  ·
   rw [if_pos (decide_eq_true hp), List.map_map]
   have he : FEdge R ws x (s, i, i + k) := fEdge_iff.2 ⟨h0, r, hr, hr1, a, l, hra, hda, hp.1, hp.2⟩
   have h1 := hc _ he
   have h2 := tlW_conv hx ht hc h0 (l := l) (i := i + k) (by omega) ⟨r, hr, hr1, a ++ [s], by rw [hra]; simp, DerW.append hp.1 hda⟩
   have h3 : ((splP R ws l (i + k) x.2.2).map (prodN c ∘ fun ks => (s, i, i + k) :: ks)).sum = c (s, i, i + k) * ((splP R ws l (i + k) x.2.2).map (prodN c)).sum := by
    rw [← sum_mulL]
    rfl
   rw [h3, cp_mul, h1, h2, ← cp_mul]
  rw [if_neg (fun h => hp (of_decide_eq_true h))]
  have hz : t s (slW ws i (i + k)) * tlW t l (slW ws (i + k) x.2.2) = 0 := by
   apply Classical.byContradiction
   intro hn
   have h1 : t s (slW ws i (i + k)) ≠ 0 := fun e => hn (by rw [e, Nat.zero_mul])
   have h2 : tlW t l (slW ws (i + k) x.2.2) ≠ 0 := fun e => hn (by rw [e, Nat.mul_zero])
   exact hp ⟨ht _ _ _ (by omega) (by omega) h1, tlW_der ht (by omega) hx h2⟩
  rw [hz]
theorem tW_conv {x : KeyD} (h : Acc (fun y x => FEdge R ws x y) x) : DerW R ws [x.1] x.2.1 x.2.2 → x.2.2 ≤ ws.length → ∃ D, ∀ d, D ≤ d → cp (tW R d x.1 (slW ws x.2.1 x.2.2)) = fC R ws x := by
 induction h with
 | intro x hx ih =>
  intro hd hl
  have hle := hd.le.1
  obtain ⟨⟨b, a⟩, i, j⟩ := x
  simp only at hd hl hle ⊢
  cases b with
  | true =>
   refine ⟨0, fun d _ => ?_⟩
   rw [fC_eq (Acc.intro _ hx), tW_term]
   cases hd with
   | term h1 h2 =>
    obtain rfl := h2.nil_eq
    rw [slW_one' h1, if_pos rfl]
    rfl
  | false =>
   have h1 : ∃ D, ∀ d, D ≤ d → ∀ y ∈ (packsP R ws ((false, a), i, j)).flatMap (fun p => p.2), cp (tW R d y.1 (slW ws y.2.1 y.2.2)) = fC R ws y := by
    refine fin_max fun y hy => ?_
    obtain ⟨p, hp, hy⟩ := List.mem_flatMap.1 hy
    have he : FEdge R ws ((false, a), i, j) y := ⟨p, hp, hy⟩
    obtain ⟨_, r, _, _, l, m, _, _, h5, h6⟩ := fEdge_iff.1 he
    exact ih y he h5 (by have := h6.le.1; simp only at this; omega)
   obtain ⟨D, hD⟩ := h1
   refine ⟨D + 1, fun d hd => ?_⟩
   obtain ⟨d, rfl⟩ : ∃ d', d = d' + 1 := ⟨d - 1, by omega⟩
   rw [fC_eq (Acc.intro _ hx), nodeC_eq rfl]
   show cp ((R.filter fun r => decide (r.1 = a)).map fun r => tlW (tW R d) r.2 (slW ws i j)).sum = _
   have h2 : ((packsP R ws ((false, a), i, j)).map fun p => prodN (fC R ws) p.2).sum = ((R.filter fun r => decide (r.1 = a)).map fun r => ((splP R ws r.2 i j).map (prodN (fC R ws))).sum).sum := by
    unfold packsP
    rw [if_neg (by simp), sum_flat, sum_ifs]
    rw [← sum_zip (fun r : RuleD => if decide (r.1 = a) = true then ((splP R ws r.2 i j).map (prodN (fC R ws))).sum else 0) R 0]
    refine sum_congr fun p _ => ?_
    by_cases e : p.1.1 = a
    ·
     rw [if_pos (show p.1.1 = ((false, a), i, j).1.2 from e), if_pos (decide_eq_true e), List.map_map]
     rfl
    rw [if_neg (show ¬ p.1.1 = ((false, a), i, j).1.2 from e), if_neg (fun h => e (of_decide_eq_true h))]
    rfl
   rw [h2]
   refine cp_sum fun r hr => ?_
   rw [List.mem_filter, decide_eq_true_eq] at hr
   exact tlW_conv (x := ((false, a), i, j)) hl (tW_der d) (fun y hy => by
    obtain ⟨p, hp, hy'⟩ := hy
    rw [hD d (by omega) y (List.mem_flatMap.2 ⟨p, hp, hy'⟩)]
    have h4 : fC R ws y ≤ MC := by
     by_cases hA : Acc (fun y x => FEdge R ws x y) y
     · rw [fC_eq hA]; exact nodeC_le _ _
     unfold fC; rw [dif_neg hA]; exact Nat.zero_le _
    exact (Nat.min_eq_left h4).symm) rfl hle ⟨r, hr.1, hr.2, [], rfl, .nil⟩
end
end Go.Proofs.YtjnbjdbndbbanaaGreatDoor
