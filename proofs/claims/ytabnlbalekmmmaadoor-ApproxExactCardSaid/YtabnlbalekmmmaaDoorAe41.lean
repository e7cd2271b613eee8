/- ApxLang -/
import Derived.Test.YtabnlbalekmmmaaDoorAe23
import Derived.Test.YtabnlbalekmmmaaDoorAe26
import Derived.Test.YtabnlbalekmmmaaDoorAe40
namespace Go.Proofs.YtabnlbalekmmmaaDoor
section
variable {R : List RuleD} {c : List Int} {x : Int}
theorem plC_ne {a : Int} (ha : c.contains a = true) : plC c a ≠ -1 ∧ plC c a ≠ -2 := by
 have h := idxInt_ge ha
 unfold plC
 omega
theorem right_back (hx : c.contains x = true) {w : List Int} {z : Int} (h : PRun R (netP R ((0 : Int), c) x) (-1) w z) :
    (z = -1 ∧ w = []) ∨ (∃ a, c.contains a = true ∧ z = plC c a ∧ ∀ v, LgS R (false, a) v → LgS R (false, x) (w ++ v)) ∨ (z = -2 ∧ LgS R (false, x) w) := by
 induction h with
 | nil => exact .inl ⟨rfl, rfl⟩
 | @snoc u v p h1 h2 h3 ih =>
  rcases netP_mem h2 with hs | ⟨r, hr, hc, hp⟩
  ·
   unfold netStart at hs
   rw [if_pos rfl] at hs
   have e := List.mem_singleton.1 hs
   subst e
   rw [LgL.nil.1 h3]
   rcases ih with ⟨_, rfl⟩ | ⟨a, ha, e, _⟩ | ⟨e, _⟩
   ·
    exact .inr (.inl ⟨x, hx, rfl, fun v hv => hv⟩)
   ·
    exact absurd e.symm (plC_ne ha).1
   ·
    have e2 : (-1 : Int) = -2 := e
    omega
  ·
   have key : p.1 = plC c r.1 → ∀ v', LgS R (false, r.1) v' → LgS R (false, x) (u ++ v') := fun e0 v' hv' => by
    rcases ih with ⟨e, _⟩ | ⟨a, ha, e, h4⟩ | ⟨e, _⟩
    ·
     exact absurd (e0.symm.trans e) (plC_ne hc).1
    ·
     obtain rfl := idxInt_inj hc ha (e0.symm.trans e)
     exact h4 v' hv'
    ·
     exact absurd (e0.symm.trans e) (plC_ne hc).2
   have full : p = (plC c r.1, -2, r.2) → (p.2.1 = -1 ∧ u ++ v = []) ∨ (∃ a, c.contains a = true ∧ p.2.1 = plC c a ∧ ∀ v', LgS R (false, a) v' → LgS R (false, x) (u ++ v ++ v')) ∨ (p.2.1 = -2 ∧ LgS R (false, x) (u ++ v)) := fun e => by
    subst e
    exact .inr (.inr ⟨rfl, key rfl v (LgS.non.2 ⟨r, hr, rfl, h3⟩)⟩)
   unfold netRule at hp
   rw [if_pos rfl] at hp
   cases hl : r.2.getLast? with
   | none =>
    rw [hl] at hp
    exact full (List.mem_singleton.1 hp)
   | some s =>
    rw [hl] at hp
    simp only at hp
    cases hin : inC c s with
    | false =>
     rw [hin] at hp
     exact full (List.mem_singleton.1 hp)
    | true =>
     rw [hin] at hp
     simp only [if_true] at hp
     have e := List.mem_singleton.1 hp
     subst e
     obtain ⟨h4, h5⟩ := inC_has hin
     obtain ⟨st, sn⟩ := s
     simp only at h4 h5
     subst h4
     refine .inr (.inl ⟨sn, h5, rfl, fun v' hv' => ?_⟩)
     rw [List.append_assoc]
     refine key rfl (v ++ v') (LgS.non.2 ⟨r, hr, rfl, ?_⟩)
     rw [last_split hl]
     exact LgL.snoc.2 ⟨v, v', rfl, h3, hv'⟩
theorem left_back (hx : c.contains x = true) {w : List Int} {z : Int} (h : PRun R (netP R ((1 : Int), c) x) (-1) w z) :
    (z = -1 ∧ w = []) ∨ (∃ a, c.contains a = true ∧ z = plC c a ∧ LgS R (false, a) w) ∨ (z = -2 ∧ LgS R (false, x) w) := by
 induction h with
 | nil => exact .inl ⟨rfl, rfl⟩
 | @snoc u v p h1 h2 h3 ih =>
  have at_ : ∀ b, c.contains b = true → p.1 = plC c b → LgS R (false, b) u := fun b hb e0 => by
   rcases ih with ⟨e, _⟩ | ⟨a, ha, e, h4⟩ | ⟨e, _⟩
   ·
    exact absurd (e0.symm.trans e) (plC_ne hb).1
   ·
    obtain rfl := idxInt_inj hb ha (e0.symm.trans e)
    exact h4
   ·
    exact absurd (e0.symm.trans e) (plC_ne hb).2
  have at0 : p.1 = -1 → u = [] := fun e0 => by
   rcases ih with ⟨_, e⟩ | ⟨a, ha, e, h4⟩ | ⟨e, _⟩
   ·
    exact e
   ·
    exact absurd (e.symm.trans e0) (plC_ne ha).1
   ·
    rw [e0] at e
    exact absurd e (by decide)
  rcases netP_mem h2 with hs | ⟨r, hr, hc, hp⟩
  ·
   unfold netStart at hs
   rw [if_neg (show ¬ ((1 : Int) = 0) by decide), if_pos rfl] at hs
   have e := List.mem_singleton.1 hs
   subst e
   rw [LgL.nil.1 h3, List.append_nil]
   exact .inr (.inr ⟨rfl, at_ x hx rfl⟩)
  ·
   have full : p = (-1, plC c r.1, r.2) → (p.2.1 = -1 ∧ u ++ v = []) ∨ (∃ a, c.contains a = true ∧ p.2.1 = plC c a ∧ LgS R (false, a) (u ++ v)) ∨ (p.2.1 = -2 ∧ LgS R (false, x) (u ++ v)) := fun e => by
    subst e
    rw [at0 rfl]
    exact .inr (.inl ⟨r.1, hc, rfl, LgS.non.2 ⟨r, hr, rfl, h3⟩⟩)
   unfold netRule at hp
   rw [if_neg (show ¬ ((1 : Int) = 0) by decide), if_pos rfl] at hp
   cases hl : r.2.head? with
   | none =>
    rw [hl] at hp
    exact full (List.mem_singleton.1 hp)
   | some s =>
    rw [hl] at hp
    simp only at hp
    cases hin : inC c s with
    | false =>
     rw [hin] at hp
     exact full (List.mem_singleton.1 hp)
    | true =>
     rw [hin] at hp
     simp only [if_true] at hp
     have e := List.mem_singleton.1 hp
     subst e
     obtain ⟨h4, h5⟩ := inC_has hin
     obtain ⟨st, sn⟩ := s
     simp only at h4 h5
     subst h4
     refine .inr (.inl ⟨r.1, hc, rfl, LgS.non.2 ⟨r, hr, rfl, ?_⟩⟩)
     rw [head_split hl]
     exact LgL.cons.2 ⟨u, v, rfl, at_ sn h5 rfl, h3⟩
end
def ExactP (R : List RuleD) (cf : Int → CompD) (n : Int) : Prop := (cf n).1 ≠ 2 ∧ ∀ b : Nat, Reach (fun i j => edgN R i j = true) n.toNat b → (cf (b : Int)).1 ≠ 2
section
variable {R : List RuleD} {N : Nat} {cf : Int → CompD}
theorem CfOk.exact (H : CfOk R N cf) : NetExact R cf N (ExactP R cf) where
 back := fun n w hn hg hp => by
  obtain ⟨m, rfl⟩ : ∃ m : Nat, n = (m : Int) := ⟨n.toNat, by omega⟩
  have hs := H.self (n := m) (by omega)
  have hk := (H.kind m (by omega)).three
  have hg1 := hg.1
  generalize cf (m : Int) = cc at hs hk hp hg1
  obtain ⟨k, c⟩ := cc
  simp only at hs hk hg1
  rcases hk with rfl | rfl | rfl
  ·
   rcases right_back hs hp with ⟨e, _⟩ | ⟨a, ha, e, _⟩ | ⟨_, h⟩
   ·
    exact absurd e (by decide)
   ·
    exact absurd e.symm (plC_ne ha).2
   ·
    exact h
  ·
   rcases left_back hs hp with ⟨e, _⟩ | ⟨a, ha, e, _⟩ | ⟨_, h⟩
   ·
    exact absurd e (by decide)
   ·
    exact absurd e.symm (plC_ne ha).2
   ·
    exact h
  ·
   exact absurd rfl hg1
 next := fun n p s hn hg hp hs h1 => by
  obtain ⟨m, rfl⟩ : ∃ m : Nat, n = (m : Int) := ⟨n.toNat, by omega⟩
  obtain ⟨b, _, e, hr, _⟩ := H.low (by omega) hp hs h1
  rw [e]
  refine ⟨hg.2 b (by simpa using hr), fun d hd => hg.2 d ?_⟩
  rw [Int.toNat_natCast] at hd ⊢
  exact hr.trans hd
def wholeN (R : List RuleD) (cf : Int → CompD) (N : Nat) (n : Int) : NfD := buildN R cf N n 0 1 ⟨2, [], []⟩
theorem whole_leads (H : CfOk R N cf) {n : Int} (hn : 0 ≤ n ∧ n < N) {w : List Int} (h : LgS R (false, n) w) : Run (wholeN R cf N n) 0 w 1 := by
 have := build_leads H.net H.sound N n hn (H.net.rk1 n hn).2 0 1 ⟨2, [], []⟩ (E := wholeN R cf N n) (.refl _) 0 [] w .nil h
 simpa using this
theorem whole_exact (H : CfOk R N cf) {n : Int} (hn : 0 ≤ n ∧ n < N) (hg : ExactP R cf n) {w : List Int} (h : Run (wholeN R cf N n) 0 w 1) : LgS R (false, n) w := by
 obtain ⟨V, hV⟩ : ∃ V : Nat → List Int → Prop, V = fun y u => if y = 0 then u = [] else LgS R (false, n) u := ⟨_, rfl⟩
 obtain ⟨V', h1, h2, _, _⟩ := build_goes H.net H.exact N n hn (H.net.rk1 n hn).2 hg 0 1 ⟨2, [], []⟩ V (by simp) (by simp) ⟨fun x hx => (by cases hx), fun x hx => (by cases hx)⟩ ⟨fun x y hm => (by cases hm), fun x c y hm => (by cases hm)⟩ fun u v hu hv => by
  rw [hV] at hu ⊢
  simp only [if_pos] at hu
  rw [if_neg (by decide), hu]
  exact hv
 have h3 := h2.run (x := 0) (by rw [h1 0 (by simp), hV]; simp) h
 rw [h1 1 (by simp), hV] at h3
 simpa using h3
end
theorem run_nil {E : NfD} {x z : Nat} : Run E x [] z ↔ EpsS E (· = x) z := by
 constructor
 ·
  intro h
  have gen : ∀ {w : List Int} {z : Nat}, Run E x w z → w = [] → EpsS E (· = x) z := by
   intro w z h
   induction h with
   | nil => exact fun _ => .base rfl
   | eps _ h2 ih => exact fun e => .step (ih e) h2
   | edge _ _ _ => intro e; simp at e
  exact gen h rfl
 ·
  intro h
  induction h with
  | base h => rw [h]; exact .nil
  | step _ h2 ih => exact .eps ih h2
theorem run_snoc {E : NfD} {x z : Nat} {u : List Int} {c : Int} : Run E x (u ++ [c]) z ↔ EpsS E (fun y => ∃ z', Run E x u z' ∧ (z', c, y) ∈ E.edges) z := by
 constructor
 ·
  intro h
  have gen : ∀ {w : List Int} {z : Nat}, Run E x w z → w = u ++ [c] → EpsS E (fun y => ∃ z', Run E x u z' ∧ (z', c, y) ∈ E.edges) z := by
   intro w z h
   induction h with
   | nil => intro e; simp at e
   | eps _ h2 ih => exact fun e => .step (ih e) h2
   | edge h1 h2 _ =>
    intro e
    have e1 := List.append_inj' e rfl
    obtain ⟨rfl, e2⟩ := e1
    injection e2 with e2
    subst e2
    exact .base ⟨_, h1, h2⟩
  exact gen h rfl
 ·
  intro h
  induction h with
  | base h => obtain ⟨z', h1, h2⟩ := h; exact .edge h1 h2
  | step _ h2 ih => exact .eps ih h2
theorem EpsS.congr {E : NfD} {W W' : Nat → Prop} (h : ∀ x, W x ↔ W' x) {x : Nat} : EpsS E W x ↔ EpsS E W' x := ⟨EpsS.mono fun x => (h x).1, EpsS.mono fun x => (h x).2⟩
def KeyAt (E : NfD) (w : List Int) : Option ByteArray → Prop
 | none => ∀ z, ¬ Run E 0 w z
 | some k => GoodL E k ∧ ∀ z, z < E.nodes → ((bitsOf k)[z]? = some true ↔ Run E 0 w z)
theorem run_lt {E : NfD} {T : Nat} (h : NfOk T E) (h0 : 0 < E.nodes) {w : List Int} {z : Nat} (hr : Run E 0 w z) : z < E.nodes := by
 induction hr with
 | nil => exact h0
 | eps _ h2 _ => exact (h.eps _ h2).2
 | edge _ h2 _ => exact (h.edges _ h2).2.1
theorem key_first (E : NfD) : KeyAt E [] (some (keyS E (· ∈ [0]))) := by
 refine ⟨keyS_good _ _, fun z hz => ?_⟩
 unfold keyS
 rw [bitsOf_str, cloL_at hz, run_nil]
 exact EpsS.congr fun x => by simp
theorem key_step {E : NfD} {T : Nat} (h : NfOk T E) (h0 : 0 < E.nodes) {u : List Int} {k : ByteArray} (hk : KeyAt E u (some k)) (c : Nat) : KeyAt E (u ++ [(c : Int)]) (stepL E k c) := by
 have hn : ∀ y, y ∈ nextU E (bitsOf k) c E.nodes ↔ ∃ z', Run E 0 u z' ∧ (z', (c : Int), y) ∈ E.edges := fun y => by
  rw [nextU_mem]
  constructor
  ·
   rintro ⟨z, h1, h2, h3⟩
   exact ⟨z, (hk.2 z h1).1 h2, h3⟩
  ·
   rintro ⟨z, h1, h3⟩
   have h4 := run_lt h h0 h1
   exact ⟨z, h4, (hk.2 z h4).2 h1, h3⟩
 unfold stepL
 by_cases he : nextU E (bitsOf k) c E.nodes = []
 ·
  rw [if_pos he]
  intro z hz
  rw [run_snoc] at hz
  have : ∀ {z : Nat}, EpsS E (fun y => ∃ z', Run E 0 u z' ∧ (z', (c : Int), y) ∈ E.edges) z → False := by
   intro z hz
   induction hz with
   | base h1 =>
    have := (hn _).2 h1
    rw [he] at this
    cases this
   | step _ _ ih => exact ih
  exact this hz
 ·
  rw [if_neg he]
  refine ⟨keyS_good _ _, fun z hz => ?_⟩
  unfold keyS
  rw [bitsOf_str, cloL_at hz, run_snoc]
  exact EpsS.congr hn
def ExD (accs : List Int) (rows : List (List Int)) : DfaD := (0, accs, rows)
section
variable {E : NfD} {T out cols : Nat} {ks : List ByteArray} {accs : List Int} {rows : List (List Int)}
def AtKey (ks : List ByteArray) (o : Option ByteArray) (s : Int) : Prop := (o = none ∧ s = -1) ∨ ∃ k j, o = some k ∧ s = ((j : Nat) : Int) ∧ ks[j]? = some k
theorem ex_run (hE : NfOk T E) (h0 : 0 < E.nodes) (hx : ExMid (stepL E) (accL out) (GoodL E) (keyS E (· ∈ [0])) cols ks.length ks accs rows) :
    ∀ (w : List Int), (∀ c ∈ w, 0 ≤ c ∧ c < (cols : Int)) → ∃ o, KeyAt E w o ∧ AtKey ks o (drun (ExD accs rows) w) := by
 refine list_snoc_ind ?_ ?_
 ·
  exact fun _ => ⟨_, key_first E, .inr ⟨_, 0, rfl, rfl, hx.hd⟩⟩
 ·
  intro u c ih hw
  obtain ⟨o, h1, h2⟩ := ih fun x hx => hw x (List.mem_append_left _ hx)
  have hc := hw c (by simp)
  obtain ⟨cn, rfl⟩ : ∃ cn : Nat, c = (cn : Int) := ⟨c.toNat, by omega⟩
  rw [drun_snoc]
  rcases h2 with ⟨rfl, e⟩ | ⟨k, j, rfl, e, hj⟩
  ·
   refine ⟨none, fun z hz => ?_, .inl ⟨rfl, by rw [e]; rfl⟩⟩
   have : ∀ {z : Nat}, EpsS E (fun y => ∃ z', Run E 0 u z' ∧ (z', (cn : Int), y) ∈ E.edges) z → False := by
    intro z hz
    induction hz with
    | base h4 => obtain ⟨z', h5, _⟩ := h4; exact h1 _ h5
    | step _ _ ih => exact ih
   exact this (run_snoc.1 hz)
  ·
   refine ⟨_, key_step hE h0 h1 cn, ?_⟩
   have hjl := (List.getElem?_eq_some_iff.1 hj).1
   obtain ⟨r, hr⟩ : ∃ r, rows[j]? = some r := ⟨_, List.getElem?_eq_getElem (by rw [hx.rl]; exact hjl)⟩
   obtain ⟨hrl, k', hk', hcell⟩ := hx.rows j r hr
   rw [hj] at hk'
   injection hk' with hk'
   subst hk'
   have hcl : cn < r.length := by rw [hrl]; omega
   have hy := List.getElem?_eq_getElem hcl
   have hcx := hcell cn _ hy
   have hto : dto (ExD accs rows) (drun (ExD accs rows) u) (cn : Int) = r[cn] := by
    rw [e]
    unfold dto ExD
    rw [if_neg (by omega)]
    simp only [Int.toNat_natCast]
    rw [hr]
    simp only [Option.getD_some]
    rw [hy]
    rfl
   rw [hto]
   exact hcx
theorem ex_accepts (hE : NfOk T E) (h0 : 0 < E.nodes) (ho : out < E.nodes) (hx : ExMid (stepL E) (accL out) (GoodL E) (keyS E (· ∈ [0])) cols ks.length ks accs rows) {w : List Int} (hw : ∀ c ∈ w, 0 ≤ c ∧ c < (cols : Int)) :
    daccept (ExD accs rows) w = true ↔ Run E 0 w out := by
 obtain ⟨o, h1, h2⟩ := ex_run hE h0 hx w hw
 unfold daccept
 rw [decide_eq_true_eq]
 rcases h2 with ⟨rfl, e⟩ | ⟨k, j, rfl, e, hj⟩
 ·
  rw [e]
  constructor
  ·
   intro h
   have e2 : dat (ExD accs rows) (-1) = -1 := rfl
   rw [e2] at h
   omega
  ·
   exact fun h => absurd h (h1 out)
 ·
  rw [e, ← h1.2 out ho]
  have hat : dat (ExD accs rows) (j : Int) = accL out k := by
   unfold dat ExD
   rw [if_neg (by omega)]
   simp only [Int.toNat_natCast]
   rw [hx.accs, List.take_length, List.getElem?_map, hj]
   rfl
  rw [hat]
  unfold accL
  by_cases hb : (bitsOf k)[out]? = some true
  ·
   rw [if_pos hb]
   exact ⟨fun _ => hb, fun _ => Int.le_refl _⟩
  ·
   rw [if_neg hb]
   exact ⟨fun h => absurd h (by decide), fun h => absurd h hb⟩
end
end Go.Proofs.YtabnlbalekmmmaaDoor
