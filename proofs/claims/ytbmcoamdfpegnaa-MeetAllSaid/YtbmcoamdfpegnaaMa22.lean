/- WdP -/
import Derived.Test.YtbmcoamdfpegnaaMa05
import Derived.Test.YtbmcoamdfpegnaaMa21
namespace Go.Proofs.Ytbmcoamdfpegnaa
def okW (ks : List Bool) (s : SymD) : Bool := s.1 || ks.getD s.2.toNat false
def wdS (ws : List (List Int)) (s : SymD) : List Int := if s.1 = true then [s.2] else ws.getD s.2.toNat []
def wdL (ws : List (List Int)) (l : List SymD) : List Int := l.flatMap (wdS ws)
structure WInv (P : List RuleD) (sz : List Int) (N : Nat) (ws : List (List Int)) (ks : List Bool) : Prop where
 lw : ws.length = N
 lk : ks.length = N
 ok : ∀ a : Nat, ks[a]? = some true → LgS P (false, (a : Int)) (ws.getD a []) ∧ ((ws.getD a []).length : Int) = sz.getD a farZ ∧ sz.getD a farZ ≤ 2000 ∧ ∀ c ∈ ws.getD a [], 0 ≤ c ∧ c < 16
def ClsW (sz : List Int) (ks : List Bool) (r : RuleD) : Prop := sz.getD r.1.toNat farZ ≤ 2000 → r.2.all (okW ks) = true → sumS sz r.2 = sz.getD r.1.toNat farZ → ks[r.1.toNat]? = some true
def valW (w : List Int) : Nat := w.foldl (fun v c => v * 16 + c.toNat) 0
section
variable {P : List RuleD} {sz : List Int} {N : Nat} {ws : List (List Int)} {ks : List Bool}
theorem wdL_nil : wdL ws [] = [] := rfl
theorem wdL_cons (s : SymD) (l : List SymD) : wdL ws (s :: l) = wdS ws s ++ wdL ws l := by unfold wdL; rw [List.flatMap_cons]
theorem wdL_succ {l : List SymD} {j : Nat} {s : SymD} (h : l[j]? = some s) : wdL ws (l.take (j + 1)) = wdL ws (l.take j) ++ wdS ws s := by
 rw [List.take_add_one, h]
 unfold wdL
 rw [List.flatMap_append]
 simp
theorem WInv.start (P : List RuleD) (sz : List Int) (N : Nat) : WInv P sz N (List.replicate N []) (List.replicate N false) := by
 refine ⟨by simp, by simp, fun a h => ?_⟩
 rw [List.getElem?_replicate] at h
 split at h <;> simp at h
theorem getD_true {a : Nat} (h : ks.getD a false = true) : ks[a]? = some true := by
 rw [List.getD_eq_getElem?_getD] at h
 cases hx : ks[a]? with
 | none => rw [hx] at h; simp at h
 | some b => rw [hx] at h; simpa using h
theorem WInv.word (h : WInv P sz N ws ks) (hr : RngS sz) : ∀ (l : List SymD), (∀ s ∈ l, s.1 = false → 0 ≤ s.2) → (∀ s ∈ l, s.1 = true → 0 ≤ s.2 ∧ s.2 < 16) → l.all (okW ks) = true → LgL P l (wdL ws l) ∧ (∀ c ∈ wdL ws l, 0 ≤ c ∧ c < 16) ∧ ∀ n : Int, 0 ≤ n → l.foldl (addS sz) n ≤ 2000 → l.foldl (addS sz) n = n + ((wdL ws l).length : Int)
 | [], _, _, _ => ⟨LgL.nil.2 rfl, fun c hc => (List.not_mem_nil hc).elim, fun n _ _ => by simp [wdL_nil]⟩
 | s :: l, h1, h2, h3 => by
  rw [List.all_cons, Bool.and_eq_true] at h3
  obtain ⟨i1, i2, i3⟩ := h.word hr l (fun s hs => h1 s (List.mem_cons_of_mem _ hs)) (fun s hs => h2 s (List.mem_cons_of_mem _ hs)) h3.2
  rw [wdL_cons]
  obtain ⟨b, x⟩ := s
  cases b with
  | true =>
   have hx := h2 (true, x) List.mem_cons_self rfl
   have e : wdS ws (true, x) = [x] := rfl
   rw [e]
   refine ⟨LgL.cons.2 ⟨[x], _, rfl, LgS.term.2 rfl, i1⟩, fun c hc => ?_, fun n h0 hn => ?_⟩
   ·
    rcases List.mem_append.1 hc with h4 | h4
    ·
     rw [List.mem_singleton.1 h4]; exact hx
    ·
     exact i2 c h4
   ·
    rw [List.foldl_cons, addS_term] at hn ⊢
    rw [i3 (n + 1) (by omega) hn, List.length_append, List.length_singleton]
    omega
  | false =>
   have hx := h1 (false, x) List.mem_cons_self rfl
   have hk : ks.getD x.toNat false = true := by simpa [okW] using h3.1
   have e : wdS ws (false, x) = ws.getD x.toNat [] := rfl
   obtain ⟨g1, g2, g3, g4⟩ := h.ok _ (getD_true hk)
   rw [show ((x.toNat : Nat) : Int) = x from Int.toNat_of_nonneg hx] at g1
   rw [e]
   refine ⟨LgL.cons.2 ⟨_, _, rfl, g1, i1⟩, fun c hc => ?_, fun n h0 hn => ?_⟩
   ·
    rcases List.mem_append.1 hc with h4 | h4
    ·
     exact g4 c h4
    ·
     exact i2 c h4
   ·
    rw [List.foldl_cons, addS_non] at hn ⊢
    have h5 := (hr.at_ x.toNat).1
    by_cases h6 : n + sz.getD x.toNat farZ < farZ
    ·
     rw [Int.min_eq_left (by omega)] at hn ⊢
     rw [i3 _ (by omega) hn, List.length_append, ← g2]
     omega
    ·
     rw [Int.min_eq_right (by omega)] at hn
     have := fold_far hr l (n := farZ) (by omega)
     unfold farZ at this hn
     omega
theorem WInv.put (h : WInv P sz N ws ks) (hr : RngS sz) {r : RuleD} {a : Nat} (hm : r ∈ P) (ha : r.1 = (a : Int)) (haN : a < N) (h1 : ∀ s ∈ r.2, s.1 = false → 0 ≤ s.2) (h2 : ∀ s ∈ r.2, s.1 = true → 0 ≤ s.2 ∧ s.2 < 16) (h3 : r.2.all (okW ks) = true) (h4 : sz.getD a farZ ≤ 2000) (h5 : sumS sz r.2 = sz.getD a farZ) :
    WInv P sz N (ws.set a (wdL ws r.2)) (ks.set a true) ∧ ((wdL ws r.2).length : Int) = sz.getD a farZ ∧ (∀ c ∈ wdL ws r.2, 0 ≤ c ∧ c < 16) := by
 obtain ⟨i1, i2, i3⟩ := h.word hr r.2 h1 h2 h3
 have i3 : sumS sz r.2 = 0 + ((wdL ws r.2).length : Int) := i3 0 (Int.le_refl 0) (by have e : r.2.foldl (addS sz) 0 = sumS sz r.2 := rfl; rw [e]; omega)
 have hlen : ((wdL ws r.2).length : Int) = sz.getD a farZ := by omega
 refine ⟨⟨by rw [List.length_set]; exact h.lw, by rw [List.length_set]; exact h.lk, fun b hb => ?_⟩, hlen, i2⟩
 by_cases e : a = b
 ·
  subst e
  rw [show (ws.set a (wdL ws r.2)).getD a [] = wdL ws r.2 by rw [List.getD_eq_getElem?_getD, List.getElem?_set_self (by rw [h.lw]; exact haN)]; rfl]
  exact ⟨LgS.non.2 ⟨r, hm, ha, i1⟩, hlen, h4, i2⟩
 ·
  rw [List.getElem?_set_ne e] at hb
  rw [show (ws.set a (wdL ws r.2)).getD b [] = ws.getD b [] by rw [List.getD_eq_getElem?_getD, List.getElem?_set_ne e, ← List.getD_eq_getElem?_getD]]
  exact h.ok b hb
theorem valW_from : ∀ (w : List Int) (v : Nat), w.foldl (fun v c => v * 16 + c.toNat) v = v * 16 ^ w.length + valW w
 | [], v => by simp [valW]
 | c :: w, v => by
  have h1 := valW_from w (v * 16 + c.toNat)
  have h2 := valW_from w (0 * 16 + c.toNat)
  unfold valW at h2 ⊢
  rw [List.foldl_cons, List.foldl_cons, List.length_cons]
  unfold valW at h1
  rw [h1, h2, Nat.pow_succ, Nat.add_mul, Nat.zero_mul, Nat.zero_add, Nat.mul_assoc, Nat.mul_comm 16 (16 ^ w.length)]
  omega
theorem valW_cons (c : Int) (w : List Int) : valW (c :: w) = c.toNat * 16 ^ w.length + valW w := by
 show w.foldl (fun v c => v * 16 + c.toNat) (0 * 16 + c.toNat) = _
 rw [Nat.zero_mul, Nat.zero_add]
 exact valW_from w c.toNat
theorem valW_lt : ∀ (w : List Int), (∀ c ∈ w, 0 ≤ c ∧ c < 16) → valW w < 16 ^ w.length
 | [], _ => by simp [valW]
 | c :: w, h => by
  have h1 := valW_lt w fun c hc => h c (List.mem_cons_of_mem _ hc)
  have h2 := h c List.mem_cons_self
  rw [valW_cons, List.length_cons, Nat.pow_succ]
  have h3 : c.toNat * 16 ^ w.length ≤ 15 * 16 ^ w.length := Nat.mul_le_mul_right _ (by omega)
  omega
theorem cmpL_val : ∀ (l m : List Int), l.length = m.length → (∀ c ∈ l, 0 ≤ c ∧ c < 16) → (∀ c ∈ m, 0 ≤ c ∧ c < 16) → cmpL l m < 0 → valW l < valW m
 | [], [], _, _, _, h => by simp [cmpL] at h
 | [], _ :: _, h, _, _, _ => by simp at h
 | _ :: _, [], h, _, _, _ => by simp at h
 | x :: l, y :: m, hl, h1, h2, h => by
  have hl : l.length = m.length := by simpa using hl
  rw [valW_cons, valW_cons, hl]
  unfold cmpL at h
  have hx := h1 x List.mem_cons_self
  have hy := h2 y List.mem_cons_self
  split at h
  ·
   rename_i e
   have := cmpL_val l m hl (fun c hc => h1 c (List.mem_cons_of_mem _ hc)) (fun c hc => h2 c (List.mem_cons_of_mem _ hc)) h
   rw [cmpI_zero e]
   omega
  ·
   have hxy : x < y := by
    unfold cmpI at h
    split at h
    ·
     assumption
    ·
     split at h <;> omega
   have h3 := valW_lt l fun c hc => h1 c (List.mem_cons_of_mem _ hc)
   rw [hl] at h3
   have h4 : (x.toNat + 1) * 16 ^ m.length ≤ y.toNat * 16 ^ m.length := Nat.mul_le_mul_right _ (by omega)
   rw [Nat.add_mul, Nat.one_mul] at h4
   omega
def bigW (n : Nat) : Nat := 16 ^ n
def wMea : List (List Int) → List Bool → Nat
 | w :: ws, k :: ks => (if k = true then valW w else bigW 2001) + wMea ws ks
 | _, _ => 0
theorem wMea_set : ∀ {ws : List (List Int)} {ks : List Bool} {a : Nat} {w : List Int} {k : Bool} {v : List Int}, ws[a]? = some w → ks[a]? = some k → valW v < (if k = true then valW w else bigW 2001) → wMea (ws.set a v) (ks.set a true) < wMea ws ks
 | [], _, a, _, _, _, h, _, _ => by simp at h
 | _ :: _, [], a, _, _, _, _, h, _ => by simp at h
 | x :: ws, y :: ks, 0, w, k, v, h1, h2, h3 => by
  simp only [List.getElem?_cons_zero, Option.some.injEq] at h1 h2
  subst h1
  subst h2
  rw [List.set_cons_zero, List.set_cons_zero]
  unfold wMea
  rw [if_pos rfl]
  omega
 | x :: ws, y :: ks, a + 1, w, k, v, h1, h2, h3 => by
  simp only [List.getElem?_cons_succ] at h1 h2
  have := wMea_set (v := v) h1 h2 h3
  rw [List.set_cons_succ, List.set_cons_succ]
  unfold wMea
  omega
theorem pow_big {m n : Nat} (h : m < n) : 16 ^ m < bigW n := Nat.pow_lt_pow_right (by omega) h
theorem WInv.better (h : WInv P sz N ws ks) (hr : RngS sz) {r : RuleD} {a : Nat} (hm : r ∈ P) (ha : r.1 = (a : Int)) (haN : a < N) (h1 : ∀ s ∈ r.2, s.1 = false → 0 ≤ s.2) (h2 : ∀ s ∈ r.2, s.1 = true → 0 ≤ s.2 ∧ s.2 < 16) (h3 : r.2.all (okW ks) = true) (h4 : sz.getD a farZ ≤ 2000) (h5 : sumS sz r.2 = sz.getD a farZ) (hb : ks[a]? = some true → cmpL (wdL ws r.2) (ws.getD a []) < 0) :
    WInv P sz N (ws.set a (wdL ws r.2)) (ks.set a true) ∧ wMea (ws.set a (wdL ws r.2)) (ks.set a true) < wMea ws ks := by
 obtain ⟨i1, i2, i3⟩ := h.put hr hm ha haN h1 h2 h3 h4 h5
 refine ⟨i1, ?_⟩
 have hw : ws[a]? = some (ws.getD a []) := by rw [List.getD_eq_getElem?_getD, List.getElem?_eq_getElem (by rw [h.lw]; exact haN)]; rfl
 have hk : ks[a]? = some (ks.getD a false) := by rw [List.getD_eq_getElem?_getD, List.getElem?_eq_getElem (by rw [h.lk]; exact haN)]; rfl
 refine wMea_set hw hk ?_
 split
 ·
  rename_i e
  rw [e] at hk
  obtain ⟨_, g2, _, g4⟩ := h.ok a hk
  exact cmpL_val _ _ (by omega) i3 g4 (hb hk)
 ·
  have := valW_lt _ i3
  exact Nat.lt_trans this (pow_big (by omega))
theorem FinS.rng (h : FinS P sz) : RngS sz := fun x hx => by
 obtain ⟨a, ha⟩ := List.getElem?_of_mem hx
 have := far_pos
 rcases h a x ha with h1 | h1 <;> omega
theorem FinS.cls (h : FinS P sz) (hF : RulesN N P) (hlen : sz.length = N) {r : RuleD} (hr : r ∈ P) : ClsS sz r := by
 have hrng := h.rng
 have hS : SndS P sz := fun a x hx hlt => by
  rcases h a x hx with h1 | h1
  ·
   omega
  ·
   exact h1.2.2.1
 obtain ⟨h0, h1⟩ := hF r hr
 unfold ClsS
 by_cases hlt : sumS sz r.2 < farZ
 ·
  obtain ⟨k, hk, e⟩ := foldS_sound hrng hS r.2 h1 (n := 0) (Int.le_refl 0) hlt
  have e : sumS sz r.2 = 0 + (k : Int) := e
  have hx : sz[r.1.toNat]? = some (sz.getD r.1.toNat farZ) := by rw [List.getD_eq_getElem?_getD, List.getElem?_eq_getElem (by omega)]; rfl
  have hd : Der P [(false, ((r.1.toNat : Nat) : Int))] k := by
   rw [Int.toNat_of_nonneg h0.1]
   exact Der.non_iff.2 ⟨r.2, hr, hk⟩
  rcases h _ _ hx with h2 | h2
  ·
   have := h2.2 k hd
   omega
  ·
   have := h2.2.2.2 k hd
   omega
 ·
  have := (hrng.at_ r.1.toNat).2
  omega
theorem kn_of (hC : ∀ r ∈ P, ClsS sz r) (hr : RngS sz) (hW : ∀ r ∈ P, ClsW sz ks r) {l : List SymD} {k : Nat} (h : Der P l k) : ∀ {n : Int}, 0 ≤ n → l.foldl (addS sz) n = n + k → n + k ≤ 2000 → l.all (okW ks) = true := by
 induction h with
 | nil => intro n _ _ _; rfl
 | term _ ih =>
  intro n h0 h1 h2
  rw [List.foldl_cons, addS_term] at h1
  rw [List.all_cons, ih (n := n + 1) (by omega) (by omega) (by omega)]
  rfl
 | @non A r l i j hm h1 h2 ih1 ih2 =>
  intro n h0 h3 h4
  rw [List.foldl_cons, addS_non] at h3
  have g1 := foldS_complete hC h1 (n := 0)
  have g2 : sz.getD A.toNat farZ ≤ r.foldl (addS sz) 0 := hC (A, r) hm
  have g3 := foldS_complete hC h2 (n := min (n + sz.getD A.toNat farZ) farZ)
  have g4 := (hr.at_ A.toNat).1
  have g5 : n + sz.getD A.toNat farZ ≤ farZ := by unfold farZ at *; omega
  rw [Int.min_eq_left g5] at h3 g3
  have e1 : sz.getD A.toNat farZ = (i : Int) := by omega
  have e2 : r.foldl (addS sz) 0 = 0 + (i : Int) := by omega
  have k1 := ih1 (n := 0) (Int.le_refl 0) e2 (by omega)
  have k2 := ih2 (n := n + sz.getD A.toNat farZ) (by omega) (by omega) (by omega)
  have e3 : sumS sz r = sz.getD A.toNat farZ := by
   show r.foldl (addS sz) 0 = _
   omega
  have k3 := hW (A, r) hm (by show sz.getD A.toNat farZ ≤ 2000; omega) k1 e3
  have k4 : okW ks (false, A) = true := by
   show (false || ks.getD A.toNat false) = true
   rw [List.getD_eq_getElem?_getD, k3]
   rfl
  rw [List.all_cons, k2, k4]
  rfl
theorem known_of (hS : FinS P sz) (hF : RulesN N P) (hlen : sz.length = N) (hW : ∀ r ∈ P, ClsW sz ks r) {a : Nat} (ha : a < N) (h2 : sz.getD a farZ ≤ 2000) : ks.getD a false = true := by
 have hx : sz[a]? = some (sz.getD a farZ) := by rw [List.getD_eq_getElem?_getD, List.getElem?_eq_getElem (by omega)]; rfl
 rcases hS a _ hx with h | ⟨h0, h1, h3, _⟩
 ·
  have := h.1
  unfold farZ at *
  omega
 ·
  have hrng := hS.rng
  have := kn_of (fun r hr => hS.cls hF hlen hr) hrng hW h3 (n := 0) (Int.le_refl 0) (by
   rw [List.foldl_cons, addS_non, Int.toNat_natCast, List.foldl_nil, Int.min_eq_left (by omega)]
   omega) (by omega)
  have h5 : ((false || ks.getD (a : Int).toNat false) && true) = true := this
  simpa using h5
structure WRd (P : List RuleD) (sz : List Int) (N : Nat) (ws0 : List (List Int)) (ks0 : List Bool) (ag : Bool) (k : Nat) (ws : List (List Int)) (ks : List Bool) : Prop where
 inv : WInv P sz N ws ks
 yes : ag = true → wMea ws ks < wMea ws0 ks0
 no : ag = false → ws = ws0 ∧ ks = ks0 ∧ ∀ (i : Nat) (r : RuleD), i < k → P[i]? = some r → ClsW sz ks r
variable {ws0 : List (List Int)} {ks0 : List Bool} {ag : Bool} {k : Nat}
theorem WRd.skip (h : WRd P sz N ws0 ks0 ag k ws ks) {r : RuleD} (hr : P[k]? = some r) (hc : ClsW sz ks r) : WRd P sz N ws0 ks0 ag (k + 1) ws ks := by
 refine ⟨h.inv, h.yes, fun e => ⟨(h.no e).1, (h.no e).2.1, fun i r' hi hr' => ?_⟩⟩
 by_cases e2 : i = k
 ·
  rw [e2, hr] at hr'
  injection hr' with hr'
  rw [← hr']
  exact hc
 ·
  exact (h.no e).2.2 i r' (by omega) hr'
theorem WRd.better (h : WRd P sz N ws0 ks0 ag k ws ks) {ws' : List (List Int)} {ks' : List Bool} (hi : WInv P sz N ws' ks') (hm : wMea ws' ks' < wMea ws ks) : WRd P sz N ws0 ks0 true (k + 1) ws' ks' := by
 refine ⟨hi, fun _ => ?_, fun e => by cases e⟩
 cases ag with
 | true => exact Nat.lt_trans hm (h.yes rfl)
 | false =>
  obtain ⟨e1, e2, _⟩ := h.no rfl
  rw [← e1, ← e2]
  exact hm
end
end Go.Proofs.Ytbmcoamdfpegnaa
