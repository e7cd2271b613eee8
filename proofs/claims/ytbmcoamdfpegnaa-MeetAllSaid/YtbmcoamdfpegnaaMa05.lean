/- SzP -/
import Derived.Test.YtbmcoamdfpegnaaMa04
namespace Go.Proofs.Ytbmcoamdfpegnaa
def farZ : Int := 1099511627776
def addS (o : List Int) (n : Int) (s : SymD) : Int := if s.1 = true then n + 1 else min (n + o.getD s.2.toNat farZ) farZ
def sumS (o : List Int) (l : List SymD) : Int := l.foldl (addS o) 0
theorem addS_term (o : List Int) (n x : Int) : addS o n (true, x) = n + 1 := by unfold addS; rw [if_pos rfl]
theorem addS_non (o : List Int) (n x : Int) : addS o n (false, x) = min (n + o.getD x.toNat farZ) farZ := by unfold addS; rw [if_neg (by simp)]
theorem far_pos : (0 : Int) < farZ := by unfold farZ; omega
def RngS (o : List Int) : Prop := ∀ x ∈ o, 0 ≤ x ∧ x ≤ farZ
section
variable {P : List RuleD} {o : List Int} {N : Nat}
theorem RngS.at_ (h : RngS o) (a : Nat) : 0 ≤ o.getD a farZ ∧ o.getD a farZ ≤ farZ := by
 rw [List.getD_eq_getElem?_getD]
 cases hx : o[a]? with
 | none => have := far_pos; simp; omega
 | some x => exact h x (List.mem_of_getElem? hx)
theorem addS_nonneg (h : RngS o) {n : Int} (hn : 0 ≤ n) (s : SymD) : 0 ≤ addS o n s := by
 obtain ⟨b, x⟩ := s
 have := (h.at_ x.toNat).1
 have := far_pos
 cases b with
 | true => rw [addS_term]; omega
 | false => rw [addS_non]; omega
theorem fold_nonneg (h : RngS o) : ∀ (l : List SymD) {n : Int}, 0 ≤ n → 0 ≤ l.foldl (addS o) n
 | [], _, hn => hn
 | s :: l, n, hn => by rw [List.foldl_cons]; exact fold_nonneg h l (addS_nonneg h hn s)
theorem fold_max (h : RngS o) : ∀ (l : List SymD) {n : Int} {j : Nat}, n ≤ farZ + (j : Int) → l.foldl (addS o) n ≤ farZ + ((j + l.length : Nat) : Int)
 | [], n, j, hn => by simpa using hn
 | s :: l, n, j, hn => by
  rw [List.foldl_cons]
  have h1 : addS o n s ≤ farZ + ((j + 1 : Nat) : Int) := by
   obtain ⟨b, x⟩ := s
   cases b with
   | true => rw [addS_term]; omega
   | false => rw [addS_non]; omega
  have := fold_max h l h1
  rw [List.length_cons]
  rw [show j + (l.length + 1) = j + 1 + l.length by omega]
  exact this
theorem fold_far (h : RngS o) : ∀ (l : List SymD) {n : Int}, farZ ≤ n → farZ ≤ l.foldl (addS o) n
 | [], _, hn => hn
 | s :: l, n, hn => by
  rw [List.foldl_cons]
  refine fold_far h l ?_
  obtain ⟨b, x⟩ := s
  have := (h.at_ x.toNat).1
  cases b with
  | true => rw [addS_term]; omega
  | false => rw [addS_non]; omega
def SndS (P : List RuleD) (o : List Int) : Prop := ∀ (a : Nat) (x : Int), o[a]? = some x → x < farZ → Der P [(false, (a : Int))] x.toNat
def ClsS (o : List Int) (r : RuleD) : Prop := o.getD r.1.toNat farZ ≤ sumS o r.2
def FinS (P : List RuleD) (o : List Int) : Prop := ∀ (a : Nat) (x : Int), o[a]? = some x → (x = farZ ∧ ∀ k : Nat, Der P [(false, (a : Int))] k → farZ ≤ (k : Int)) ∨ (0 ≤ x ∧ x < farZ ∧ Der P [(false, (a : Int))] x.toNat ∧ ∀ k : Nat, Der P [(false, (a : Int))] k → x ≤ (k : Int))
theorem getD_lt {a : Nat} (h : o.getD a farZ < farZ) : o[a]? = some (o.getD a farZ) := by
 rw [List.getD_eq_getElem?_getD] at h ⊢
 cases hx : o[a]? with
 | none => rw [hx] at h; simp at h
 | some x => rfl
theorem foldS_sound (hr : RngS o) (hS : SndS P o) : ∀ (l : List SymD) {n : Int}, NonOk N l → 0 ≤ n → l.foldl (addS o) n < farZ → ∃ k : Nat, Der P l k ∧ l.foldl (addS o) n = n + k
 | [], n, _, _, _ => ⟨0, .nil, by simp⟩
 | (true, x) :: l, n, ho, h0, h => by
  rw [List.foldl_cons, addS_term] at h ⊢
  obtain ⟨k, hk, e⟩ := foldS_sound hr hS l ho.tail (by omega) h
  exact ⟨k + 1, .term hk, by rw [e]; omega⟩
 | (false, x) :: l, n, ho, h0, h => by
  have hx := ho (false, x) (by simp) rfl
  rw [List.foldl_cons, addS_non] at h ⊢
  have h1 := (hr.at_ x.toNat).1
  by_cases h2 : n + o.getD x.toNat farZ < farZ
  ·
   rw [Int.min_eq_left (by omega)] at h ⊢
   obtain ⟨k, hk, e⟩ := foldS_sound hr hS l ho.tail (by omega) h
   have h3 : o.getD x.toNat farZ < farZ := by omega
   have hd := hS _ _ (getD_lt h3) h3
   rw [show ((x.toNat : Nat) : Int) = x from Int.toNat_of_nonneg hx.1] at hd
   exact ⟨_, hd.append hk, by rw [e]; omega⟩
  ·
   rw [Int.min_eq_right (by omega)] at h
   have := fold_far hr l (n := farZ) (by omega)
   omega
theorem foldS_complete (hC : ∀ r ∈ P, ClsS o r) {l : List SymD} {k : Nat} (h : Der P l k) : ∀ {n : Int}, l.foldl (addS o) n ≤ n + k := by
 induction h with
 | nil => intro n; simp
 | term _ ih =>
  intro n
  rw [List.foldl_cons, addS_term]
  have := ih (n := n + 1)
  omega
 | @non A r l i j hm h1 h2 ih1 ih2 =>
  intro n
  rw [List.foldl_cons, addS_non]
  have h3 := ih1 (n := 0)
  have h4 : o.getD A.toNat farZ ≤ r.foldl (addS o) 0 := hC (A, r) hm
  have := ih2 (n := min (n + o.getD A.toNat farZ) farZ)
  omega
theorem fin_of (hr : RngS o) (hS : SndS P o) (hC : ∀ r ∈ P, ClsS o r) : FinS P o := by
 intro a x hx
 have hg : o.getD a farZ = x := by rw [List.getD_eq_getElem?_getD, hx]; rfl
 have hall : ∀ k : Nat, Der P [(false, (a : Int))] k → x ≤ (k : Int) := by
  intro k hd
  obtain ⟨r, hm, h1⟩ := Der.non_iff.1 hd
  have h3 := foldS_complete hC h1 (n := 0)
  have h4 : o.getD (a : Int).toNat farZ ≤ r.foldl (addS o) 0 := hC _ hm
  rw [Int.toNat_natCast, hg] at h4
  omega
 have h2 := hr x (List.mem_of_getElem? hx)
 by_cases h0 : x < farZ
 ·
  exact .inr ⟨h2.1, h0, hS a x hx h0, hall⟩
 ·
  exact .inl ⟨by omega, fun k hk => by have := hall k hk; omega⟩
structure UsesOk (P : List RuleD) (N k j : Nat) (u : List (List Int)) : Prop where
 len : u.length = N
 at_ : ∀ (a : Nat) (l : List Int), u[a]? = some l → (∀ i ∈ l, 0 ≤ i ∧ i < (P.length : Int)) ∧ l.length ≤ 4 * k + j
 has : ∀ (a i : Nat) (l : List Int) (r : RuleD) (p : Nat), u[a]? = some l → P[i]? = some r → r.2[p]? = some (false, (a : Int)) → i < k ∨ (i = k ∧ p < j) → (i : Int) ∈ l
theorem UsesOk.start (P : List RuleD) (N : Nat) : UsesOk P N 0 0 (List.replicate N []) := by
 refine ⟨by simp, fun a l h => ?_, fun a i l r p _ _ _ h => by omega⟩
 rw [List.getElem?_replicate] at h
 split at h
 ·
  injection h with h
  subst h
  exact ⟨fun i hi => by simp at hi, by simp⟩
 ·
  cases h
variable {u : List (List Int)} {k j : Nat}
theorem UsesOk.skip (h : UsesOk P N k j u) {r : RuleD} (hr : P[k]? = some r) {x : Int} (hx : r.2[j]? = some (true, x)) : UsesOk P N k (j + 1) u := by
 refine ⟨h.len, fun a l hl => ⟨(h.at_ a l hl).1, by have := (h.at_ a l hl).2; omega⟩, fun a i l r' p h1 h2 h3 h4 => ?_⟩
 by_cases e : i = k ∧ p = j
 ·
  obtain ⟨rfl, rfl⟩ := e
  rw [hr] at h2
  injection h2 with h2
  subst h2
  rw [hx] at h3
  cases h3
 ·
  exact h.has a i l r' p h1 h2 h3 (by omega)
theorem UsesOk.push (h : UsesOk P N k j u) {r : RuleD} (hr : P[k]? = some r) {b : Nat} {m : List Int} (hx : r.2[j]? = some (false, (b : Int))) (hm : u[b]? = some m) : UsesOk P N k (j + 1) (u.set b (m ++ [(k : Int)])) := by
 have hb := (List.getElem?_eq_some_iff.1 hm).1
 have hk := (List.getElem?_eq_some_iff.1 hr).1
 refine ⟨by simp [h.len], fun a l hl => ?_, fun a i l r' p h1 h2 h3 h4 => ?_⟩
 ·
  by_cases e : b = a
  ·
   subst e
   rw [List.getElem?_set_self hb] at hl
   injection hl with hl
   subst hl
   refine ⟨fun i hi => ?_, ?_⟩
   ·
    rcases List.mem_append.1 hi with h1 | h1
    ·
     exact (h.at_ b m hm).1 i h1
    ·
     obtain rfl := List.mem_singleton.1 h1
     omega
   ·
    have := (h.at_ b m hm).2
    rw [List.length_append, List.length_singleton]
    omega
  ·
   rw [List.getElem?_set_ne e] at hl
   exact ⟨(h.at_ a l hl).1, by have := (h.at_ a l hl).2; omega⟩
 ·
  by_cases e : b = a
  ·
   subst e
   rw [List.getElem?_set_self hb] at h1
   injection h1 with h1
   subst h1
   by_cases e2 : i = k ∧ p = j
   ·
    rw [e2.1]
    exact List.mem_append_right _ (List.mem_singleton.2 rfl)
   ·
    exact List.mem_append_left _ (h.has b i m r' p hm h2 h3 (by omega))
  ·
   rw [List.getElem?_set_ne e] at h1
   refine h.has a i l r' p h1 h2 h3 ?_
   by_cases e2 : i = k ∧ p = j
   ·
    obtain ⟨rfl, rfl⟩ := e2
    rw [hr] at h2
    injection h2 with h2
    subst h2
    rw [hx] at h3
    injection h3 with h3
    injection h3 with _ h3
    omega
   ·
    omega
theorem UsesOk.next (h : UsesOk P N k j u) {r : RuleD} (hr : P[k]? = some r) (hj : r.2.length = j) (h4 : j ≤ 4) : UsesOk P N (k + 1) 0 u := by
 refine ⟨h.len, fun a l hl => ⟨(h.at_ a l hl).1, by have := (h.at_ a l hl).2; omega⟩, fun a i l r' p h1 h2 h3 h4 => ?_⟩
 refine h.has a i l r' p h1 h2 h3 ?_
 by_cases e : i = k
 ·
  subst e
  rw [hr] at h2
  injection h2 with h2
  subst h2
  have := (List.getElem?_eq_some_iff.1 h3).1
  omega
 ·
  omega
def qS (P : List RuleD) (u : List (List Int)) (s : List Int × List Int) : List Int × List Int :=
 match s.2 with
 | [] => s
 | i :: q =>
  let r := P.getD i.toNat (0, [])
  if sumS s.1 r.2 < s.1.getD r.1.toNat farZ then (s.1.set r.1.toNat (sumS s.1 r.2), q ++ u.getD r.1.toNat []) else (s.1, q)
def qN (P : List RuleD) (u : List (List Int)) (s : List Int × List Int) : Nat → List Int × List Int
 | 0 => s
 | n + 1 => qS P u (qN P u s n)
def q0 (P : List RuleD) (N : Nat) : List Int × List Int := (List.replicate N farZ, (List.range P.length).map fun i : Nat => (i : Int))
structure QInv (P : List RuleD) (N : Nat) (s : List Int × List Int) : Prop where
 len : s.1.length = N
 rng : RngS s.1
 snd : SndS P s.1
 qr : ∀ i ∈ s.2, 0 ≤ i ∧ i < (P.length : Int)
 cls : ∀ (i : Nat) (r : RuleD), P[i]? = some r → (i : Int) ∈ s.2 ∨ ClsS s.1 r
theorem QInv.start (P : List RuleD) (N : Nat) : QInv P N (q0 P N) := by
 refine ⟨by simp [q0], fun x hx => ?_, fun a x hx h => ?_, fun i hi => ?_, fun i r hr => .inl ?_⟩
 ·
  obtain rfl := (List.mem_replicate.1 hx).2
  have := far_pos
  omega
 ·
  have hx : (List.replicate N farZ)[a]? = some x := hx
  rw [List.getElem?_replicate] at hx
  split at hx
  ·
   injection hx with hx
   omega
  ·
   cases hx
 ·
  obtain ⟨x, hx, rfl⟩ := List.mem_map.1 hi
  rw [List.mem_range] at hx
  omega
 ·
  exact List.mem_map.2 ⟨i, List.mem_range.2 (List.getElem?_eq_some_iff.1 hr).1, rfl⟩
theorem sumS_set {a : Nat} {v : Int} {l : List SymD} (h : (false, (a : Int)) ∉ l) (hl : ∀ s ∈ l, s.1 = false → 0 ≤ s.2) : sumS (o.set a v) l = sumS o l := by
 unfold sumS
 have : ∀ (l : List SymD) (n : Int), (false, (a : Int)) ∉ l → (∀ s ∈ l, s.1 = false → 0 ≤ s.2) → l.foldl (addS (o.set a v)) n = l.foldl (addS o) n := by
  intro l
  induction l with
  | nil => exact fun _ _ _ => rfl
  | cons s l ih =>
   intro n h hl
   rw [List.foldl_cons, List.foldl_cons]
   have e : addS (o.set a v) n s = addS o n s := by
    obtain ⟨b, x⟩ := s
    cases b with
    | true => rw [addS_term, addS_term]
    | false =>
     have hx := hl (false, x) List.mem_cons_self rfl
     simp only at hx
     rw [addS_non, addS_non, List.getD_eq_getElem?_getD, List.getD_eq_getElem?_getD, List.getElem?_set_ne]
     intro e
     refine h ?_
     rw [show (a : Int) = x by omega]
     exact List.mem_cons_self
   rw [e]
   exact ih _ (fun hm => h (List.mem_cons_of_mem _ hm)) fun s' hs' => hl s' (List.mem_cons_of_mem _ hs')
 exact this l 0 h hl
def qMea (P : List RuleD) (s : List Int × List Int) : Nat := (s.1.map Int.toNat).sum * (4 * P.length + 1) + s.2.length
theorem qS_step (hF : RulesN N P) (hu : UsesOk P N P.length 0 u) {i : Int} {q : List Int} (h : QInv P N (o, i :: q)) :
    ∃ (r : RuleD) (a : Nat), P[i.toNat]? = some r ∧ r.1 = (a : Int) ∧ a < N ∧ QInv P N (qS P u (o, i :: q)) ∧ qMea P (qS P u (o, i :: q)) < qMea P (o, i :: q) ∧
     ((sumS o r.2 < o.getD a farZ ∧ qS P u (o, i :: q) = (o.set a (sumS o r.2), q ++ u.getD a [])) ∨ (¬ sumS o r.2 < o.getD a farZ ∧ qS P u (o, i :: q) = (o, q))) := by
 obtain ⟨hi0, hi1⟩ := h.qr i List.mem_cons_self
 have hlt : i.toNat < P.length := by omega
 have hr := List.getElem?_eq_getElem hlt
 obtain ⟨r, hre⟩ : ∃ r, r = P[i.toNat] := ⟨_, rfl⟩
 rw [← hre] at hr
 have hm := List.mem_of_getElem? hr
 obtain ⟨hr0, hr1⟩ := hF r hm
 obtain ⟨a, ha⟩ : ∃ a : Nat, r.1 = (a : Int) := ⟨r.1.toNat, by omega⟩
 have haN : a < N := by omega
 have hlen : o.length = N := h.len
 have hgd : P.getD i.toNat (0, []) = r := by rw [List.getD_eq_getElem?_getD, hr]; rfl
 have hoa : o[a]? = some (o.getD a farZ) := by rw [List.getD_eq_getElem?_getD, List.getElem?_eq_getElem (by omega)]; rfl
 have hnn : ∀ s ∈ r.2, s.1 = false → 0 ≤ s.2 := fun s hs hb => (hr1 s hs hb).1
 have hq : qS P u (o, i :: q) = if sumS o r.2 < o.getD a farZ then (o.set a (sumS o r.2), q ++ u.getD a []) else (o, q) := by
  show (if sumS o (P.getD i.toNat (0, [])).2 < o.getD (P.getD i.toNat (0, [])).1.toNat farZ then _ else _) = _
  rw [hgd, ha, Int.toNat_natCast]
 refine ⟨r, a, hr, ha, haN, ?_⟩
 by_cases hc : sumS o r.2 < o.getD a farZ
 ·
  rw [hq, if_pos hc]
  have hua : u[a]? = some (u.getD a []) := by rw [List.getD_eq_getElem?_getD, List.getElem?_eq_getElem (by rw [hu.len]; exact haN)]; rfl
  obtain ⟨hu1, hu2⟩ := hu.at_ a _ hua
  have h0 : 0 ≤ sumS o r.2 := fold_nonneg h.rng r.2 (Int.le_refl 0)
  have hle : o.getD a farZ ≤ farZ := (h.rng.at_ a).2
  refine ⟨⟨by simp [hlen], fun x hx => ?_, fun b x hx hlt => ?_, fun i' hi' => ?_, fun i' r' hr' => ?_⟩, ?_, .inl ⟨hc, rfl⟩⟩
  ·
   rcases List.mem_or_eq_of_mem_set hx with h1 | h1
   ·
    exact h.rng x h1
   ·
    rw [h1]; omega
  ·
   by_cases e : a = b
   ·
    subst e
    rw [List.getElem?_set_self (by omega)] at hx
    injection hx with hx
    subst hx
    obtain ⟨k, hk, e⟩ := foldS_sound h.rng h.snd r.2 hr1 (n := 0) (Int.le_refl 0) hlt
    have e : sumS o r.2 = 0 + (k : Int) := e
    rw [show (sumS o r.2).toNat = k by omega]
    exact Der.non_iff.2 ⟨r.2, by rw [← ha]; exact hm, hk⟩
   ·
    rw [List.getElem?_set_ne e] at hx
    exact h.snd b x hx hlt
  ·
   rcases List.mem_append.1 hi' with h1 | h1
   ·
    exact h.qr i' (List.mem_cons_of_mem _ h1)
   ·
    exact hu1 i' h1
  ·
   by_cases hin : (false, (a : Int)) ∈ r'.2
   ·
    obtain ⟨p, hp⟩ := List.getElem?_of_mem hin
    exact .inl (List.mem_append_right _ (hu.has a i' _ r' p hua hr' hp (.inl (List.getElem?_eq_some_iff.1 hr').1)))
   ·
    have hs : sumS (o.set a (sumS o r.2)) r'.2 = sumS o r'.2 := sumS_set hin fun s hs hb => ((hF r' (List.mem_of_getElem? hr')).2 s hs hb).1
    have hset : ∀ b, (o.set a (sumS o r.2)).getD b farZ = if a = b then sumS o r.2 else o.getD b farZ := fun b => by
     by_cases e : a = b
     ·
      subst e
      rw [if_pos rfl, List.getD_eq_getElem?_getD, List.getElem?_set_self (by omega)]
      rfl
     ·
      rw [if_neg e, List.getD_eq_getElem?_getD, List.getElem?_set_ne e, ← List.getD_eq_getElem?_getD]
    by_cases e : i' = i.toNat
    ·
     refine .inr ?_
     unfold ClsS
     rw [hs, hset]
     rw [e, hr] at hr'
     injection hr' with hr'
     subst hr'
     rw [ha, Int.toNat_natCast, if_pos rfl]
     exact Int.le_refl _
    ·
     rcases h.cls i' r' hr' with h1 | h1
     ·
      rcases List.mem_cons.1 h1 with h1 | h1
      ·
       omega
      ·
       exact .inl (List.mem_append_left _ h1)
     ·
      refine .inr ?_
      have h1 : o.getD r'.1.toNat farZ ≤ sumS o r'.2 := h1
      unfold ClsS
      rw [hs, hset]
      split
      ·
       rename_i e2
       rw [← e2] at h1
       omega
      ·
       exact h1
  ·
   have h1 : ((o.set a (sumS o r.2)).map Int.toNat).sum < (o.map Int.toNat).sum := sum_set hoa (by omega)
   have h2 : (((o.set a (sumS o r.2)).map Int.toNat).sum + 1) * (4 * P.length + 1) ≤ (o.map Int.toNat).sum * (4 * P.length + 1) := Nat.mul_le_mul_right _ h1
   rw [Nat.add_mul, Nat.one_mul] at h2
   show ((o.set a (sumS o r.2)).map Int.toNat).sum * (4 * P.length + 1) + (q ++ u.getD a []).length < (o.map Int.toNat).sum * (4 * P.length + 1) + (i :: q).length
   rw [List.length_append, List.length_cons]
   omega
 ·
  rw [hq, if_neg hc]
  refine ⟨⟨hlen, h.rng, h.snd, fun i' hi' => h.qr i' (List.mem_cons_of_mem _ hi'), fun i' r' hr' => ?_⟩, ?_, .inr ⟨hc, rfl⟩⟩
  ·
   rcases h.cls i' r' hr' with h1 | h1
   ·
    rcases List.mem_cons.1 h1 with h1 | h1
    ·
     refine .inr ?_
     rw [show i' = i.toNat by omega, hr] at hr'
     injection hr' with hr'
     subst hr'
     show o.getD r.1.toNat farZ ≤ sumS o r.2
     rw [ha, Int.toNat_natCast]
     omega
    ·
     exact .inl h1
   ·
    exact .inr h1
  ·
   show (o.map Int.toNat).sum * (4 * P.length + 1) + q.length < (o.map Int.toNat).sum * (4 * P.length + 1) + (i :: q).length
   rw [List.length_cons]
   omega
theorem QInv.fin (h : QInv P N (o, [])) : FinS P o := fin_of h.rng h.snd fun r hr => by
 obtain ⟨i, hi⟩ := List.getElem?_of_mem hr
 rcases h.cls i r hi with h1 | h1
 ·
  cases h1
 ·
  exact h1
end
end Go.Proofs.Ytbmcoamdfpegnaa
