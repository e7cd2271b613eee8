/- ApxLang Inv -/
import Derived.Test.YtocbkccchnbmaaaGreatAw07
import Derived.Test.YtocbkccchnbmaaaGreatAw21
import Derived.Test.YtocbkccchnbmaaaGreatAw24
import Derived.Test.YtocbkccchnbmaaaGreatAw36
namespace Go.Proofs.YtocbkccchnbmaaaGreat
section
variable {R : List RuleD} {c : List Int} {x : Int}
theorem plC_ne {a : Int} (ha : c.contains a = true) : plC c a ≠ -1 ∧ plC c a ≠ -2 := by
 have h := idxInt_ge ha
 unfold plC
 omega
theorem right_back (hx : c.contains x = true) {w : List Int} {z : Int} (h : PRun R (netP R ((0 : Int), c) x) (-1) w z) :
    (z = -1 ∧ w = []) ∨ (∃ a, c.contains a = true ∧ z = plC c a ∧ ∀ v, LgS R (false, a) v → LgS R (false, x) (w ++ v)) ∨ (z = -2 ∧ LgS R (false, x) w) := by
 induction h with
 | nil => exact .inl ⟨rfl, rfl⟩
 | @snoc u v p h1 h2 h3 ih =>
  rcases netP_mem h2 with hs | ⟨r, hr, hc, hp⟩
  ·
   unfold netStart at hs
   rw [if_pos rfl] at hs
   have e := List.mem_singleton.1 hs
   subst e
   rw [LgL.nil.1 h3]
   rcases ih with ⟨_, rfl⟩ | ⟨a, ha, e, _⟩ | ⟨e, _⟩
   ·
    exact .inr (.inl ⟨x, hx, rfl, fun v hv => hv⟩)
   ·
    exact absurd e.symm (plC_ne ha).1
   ·
    have e2 : (-1 : Int) = -2 := e
    omega
  ·
   have key : p.1 = plC c r.1 → ∀ v', LgS R (false, r.1) v' → LgS R (false, x) (u ++ v') := fun e0 v' hv' => by
    rcases ih with ⟨e, _⟩ | ⟨a, ha, e, h4⟩ | ⟨e, _⟩
    ·
     exact absurd (e0.symm.trans e) (plC_ne hc).1
    ·
     obtain rfl := idxInt_inj hc ha (e0.symm.trans e)
     exact h4 v' hv'
    ·
     exact absurd (e0.symm.trans e) (plC_ne hc).2
   have full : p = (plC c r.1, -2, r.2) → (p.2.1 = -1 ∧ u ++ v = []) ∨ (∃ a, c.contains a = true ∧ p.2.1 = plC c a ∧ ∀ v', LgS R (false, a) v' → LgS R (false, x) (u ++ v ++ v')) ∨ (p.2.1 = -2 ∧ LgS R (false, x) (u ++ v)) := fun e => by
    subst e
    exact .inr (.inr ⟨rfl, key rfl v (LgS.non.2 ⟨r, hr, rfl, h3⟩)⟩)
   unfold netRule at hp
   rw [if_pos rfl] at hp
   cases hl : r.2.getLast? with
   | none =>
    rw [hl] at hp
    exact full (List.mem_singleton.1 hp)
   | some s =>
    rw [hl] at hp
    simp only at hp
    cases hin : inC c s with
    | false =>
     rw [hin] at hp
     exact full (List.mem_singleton.1 hp)
    | true =>
     rw [hin] at hp
     simp only [if_true] at hp
     have e := List.mem_singleton.1 hp
     subst e
     obtain ⟨h4, h5⟩ := inC_has hin
     obtain ⟨st, sn⟩ := s
     simp only at h4 h5
     subst h4
     refine .inr (.inl ⟨sn, h5, rfl, fun v' hv' => ?_⟩)
     rw [List.append_assoc]
     refine key rfl (v ++ v') (LgS.non.2 ⟨r, hr, rfl, ?_⟩)
     rw [last_split hl]
     exact LgL.snoc.2 ⟨v, v', rfl, h3, hv'⟩
theorem left_back (hx : c.contains x = true) {w : List Int} {z : Int} (h : PRun R (netP R ((1 : Int), c) x) (-1) w z) :
    (z = -1 ∧ w = []) ∨ (∃ a, c.contains a = true ∧ z = plC c a ∧ LgS R (false, a) w) ∨ (z = -2 ∧ LgS R (false, x) w) := by
 induction h with
 | nil => exact .inl ⟨rfl, rfl⟩
 | @snoc u v p h1 h2 h3 ih =>
  have at_ : ∀ b, c.contains b = true → p.1 = plC c b → LgS R (false, b) u := fun b hb e0 => by
   rcases ih with ⟨e, _⟩ | ⟨a, ha, e, h4⟩ | ⟨e, _⟩
   ·
    exact absurd (e0.symm.trans e) (plC_ne hb).1
   ·
    obtain rfl := idxInt_inj hb ha (e0.symm.trans e)
    exact h4
   ·
    exact absurd (e0.symm.trans e) (plC_ne hb).2
  have at0 : p.1 = -1 → u = [] := fun e0 => by
   rcases ih with ⟨_, e⟩ | ⟨a, ha, e, h4⟩ | ⟨e, _⟩
   ·
    exact e
   ·
    exact absurd (e.symm.trans e0) (plC_ne ha).1
   ·
    rw [e0] at e
    exact absurd e (by decide)
  rcases netP_mem h2 with hs | ⟨r, hr, hc, hp⟩
  ·
   unfold netStart at hs
   rw [if_neg (show ¬ ((1 : Int) = 0) by decide), if_pos rfl] at hs
   have e := List.mem_singleton.1 hs
   subst e
   rw [LgL.nil.1 h3, List.append_nil]
   exact .inr (.inr ⟨rfl, at_ x hx rfl⟩)
  ·
   have full : p = (-1, plC c r.1, r.2) → (p.2.1 = -1 ∧ u ++ v = []) ∨ (∃ a, c.contains a = true ∧ p.2.1 = plC c a ∧ LgS R (false, a) (u ++ v)) ∨ (p.2.1 = -2 ∧ LgS R (false, x) (u ++ v)) := fun e => by
    subst e
    rw [at0 rfl]
    exact .inr (.inl ⟨r.1, hc, rfl, LgS.non.2 ⟨r, hr, rfl, h3⟩⟩)
   unfold netRule at hp
   rw [if_neg (show ¬ ((1 : Int) = 0) by decide), if_pos rfl] at hp
   cases hl : r.2.head? with
   | none =>
    rw [hl] at hp
    exact full (List.mem_singleton.1 hp)
   | some s =>
    rw [hl] at hp
    simp only at hp
    cases hin : inC c s with
    | false =>
     rw [hin] at hp
     exact full (List.mem_singleton.1 hp)
    | true =>
     rw [hin] at hp
     simp only [if_true] at hp
     have e := List.mem_singleton.1 hp
     subst e
     obtain ⟨h4, h5⟩ := inC_has hin
     obtain ⟨st, sn⟩ := s
     simp only at h4 h5
     subst h4
     refine .inr (.inl ⟨r.1, hc, rfl, LgS.non.2 ⟨r, hr, rfl, ?_⟩⟩)
     rw [head_split hl]
     exact LgL.cons.2 ⟨u, v, rfl, at_ sn h5 rfl, h3⟩
end
def ExactP (R : List RuleD) (cf : Int → CompD) (n : Int) : Prop := (cf n).1 ≠ 2 ∧ ∀ b : Nat, Reach (fun i j => edgN R i j = true) n.toNat b → (cf (b : Int)).1 ≠ 2
section
variable {R : List RuleD} {N : Nat} {cf : Int → CompD}
theorem CfOk.exact (H : CfOk R N cf) : NetExact R cf N (ExactP R cf) where
 back := fun n w hn hg hp => by
  obtain ⟨m, rfl⟩ : ∃ m : Nat, n = (m : Int) := ⟨n.toNat, by omega⟩
  have hs := H.self (n := m) (by omega)
  have hk := (H.kind m (by omega)).three
  have hg1 := hg.1
  generalize cf (m : Int) = cc at hs hk hp hg1
  obtain ⟨k, c⟩ := cc
  simp only at hs hk hg1
  rcases hk with rfl | rfl | rfl
  ·
   rcases right_back hs hp with ⟨e, _⟩ | ⟨a, ha, e, _⟩ | ⟨_, h⟩
   ·
    exact absurd e (by decide)
   ·
    exact absurd e.symm (plC_ne ha).2
   ·
    exact h
  ·
   rcases left_back hs hp with ⟨e, _⟩ | ⟨a, ha, e, _⟩ | ⟨_, h⟩
   ·
    exact absurd e (by decide)
   ·
    exact absurd e.symm (plC_ne ha).2
   ·
    exact h
  ·
   exact absurd rfl hg1
 next := fun n p s hn hg hp hs h1 => by
  obtain ⟨m, rfl⟩ : ∃ m : Nat, n = (m : Int) := ⟨n.toNat, by omega⟩
  obtain ⟨b, _, e, hr, _⟩ := H.low (by omega) hp hs h1
  rw [e]
  refine ⟨hg.2 b (by simpa using hr), fun d hd => hg.2 d ?_⟩
  rw [Int.toNat_natCast] at hd ⊢
  exact hr.trans hd
def wholeN (R : List RuleD) (cf : Int → CompD) (N : Nat) (n : Int) : NfD := buildN R cf N n 0 1 ⟨2, [], []⟩
theorem whole_leads (H : CfOk R N cf) {n : Int} (hn : 0 ≤ n ∧ n < N) {w : List Int} (h : LgS R (false, n) w) : Run (wholeN R cf N n) 0 w 1 := by
 have := build_leads H.net H.sound N n hn (H.net.rk1 n hn).2 0 1 ⟨2, [], []⟩ (E := wholeN R cf N n) (.refl _) 0 [] w .nil h
 simpa using this
theorem whole_exact (H : CfOk R N cf) {n : Int} (hn : 0 ≤ n ∧ n < N) (hg : ExactP R cf n) {w : List Int} (h : Run (wholeN R cf N n) 0 w 1) : LgS R (false, n) w := by
 obtain ⟨V, hV⟩ : ∃ V : Nat → List Int → Prop, V = fun y u => if y = 0 then u = [] else LgS R (false, n) u := ⟨_, rfl⟩
 obtain ⟨V', h1, h2, _, _⟩ := build_goes H.net H.exact N n hn (H.net.rk1 n hn).2 hg 0 1 ⟨2, [], []⟩ V (by simp) (by simp) ⟨fun x hx => (by cases hx), fun x hx => (by cases hx)⟩ ⟨fun x y hm => (by cases hm), fun x c y hm => (by cases hm)⟩ fun u v hu hv => by
  rw [hV] at hu ⊢
  simp only [if_pos] at hu
  rw [if_neg (by decide), hu]
  exact hv
 have h3 := h2.run (x := 0) (by rw [h1 0 (by simp), hV]; simp) h
 rw [h1 1 (by simp), hV] at h3
 simpa using h3
end
theorem run_nil {E : NfD} {x z : Nat} : Run E x [] z ↔ EpsS E (· = x) z := by
 constructor
 ·
  intro h
  have gen : ∀ {w : List Int} {z : Nat}, Run E x w z → w = [] → EpsS E (· = x) z := by
   intro w z h
   induction h with
   | nil => exact fun _ => .base rfl
   | eps _ h2 ih => exact fun e => .step (ih e) h2
   | edge _ _ _ => intro e; simp at e
  exact gen h rfl
 ·
  intro h
  induction h with
  | base h => rw [h]; exact .nil
  | step _ h2 ih => exact .eps ih h2
theorem run_snoc {E : NfD} {x z : Nat} {u : List Int} {c : Int} : Run E x (u ++ [c]) z ↔ EpsS E (fun y => ∃ z', Run E x u z' ∧ (z', c, y) ∈ E.edges) z := by
 constructor
 ·
  intro h
  have gen : ∀ {w : List Int} {z : Nat}, Run E x w z → w = u ++ [c] → EpsS E (fun y => ∃ z', Run E x u z' ∧ (z', c, y) ∈ E.edges) z := by
   intro w z h
   induction h with
   | nil => intro e; simp at e
   | eps _ h2 ih => exact fun e => .step (ih e) h2
   | edge h1 h2 _ =>
    intro e
    have e1 := List.append_inj' e rfl
    obtain ⟨rfl, e2⟩ := e1
    injection e2 with e2
    subst e2
    exact .base ⟨_, h1, h2⟩
  exact gen h rfl
 ·
  intro h
  induction h with
  | base h => obtain ⟨z', h1, h2⟩ := h; exact .edge h1 h2
  | step _ h2 ih => exact .eps ih h2
theorem EpsS.congr {E : NfD} {W W' : Nat → Prop} (h : ∀ x, W x ↔ W' x) {x : Nat} : EpsS E W x ↔ EpsS E W' x := ⟨EpsS.mono fun x => (h x).1, EpsS.mono fun x => (h x).2⟩
def KeyAt (E : NfD) (w : List Int) : Option ByteArray → Prop
 | none => ∀ z, ¬ Run E 0 w z
 | some k => GoodL E k ∧ ∀ z, z < E.nodes → ((bitsOf k)[z]? = some true ↔ Run E 0 w z)
theorem run_lt {E : NfD} {T : Nat} (h : NfOk T E) (h0 : 0 < E.nodes) {w : List Int} {z : Nat} (hr : Run E 0 w z) : z < E.nodes := by
 induction hr with
 | nil => exact h0
 | eps _ h2 _ => exact (h.eps _ h2).2
 | edge _ h2 _ => exact (h.edges _ h2).2.1
theorem key_first (E : NfD) : KeyAt E [] (some (keyS E (· ∈ [0]))) := by
 refine ⟨keyS_good _ _, fun z hz => ?_⟩
 unfold keyS
 rw [bitsOf_str, cloL_at hz, run_nil]
 exact EpsS.congr fun x => by simp
theorem key_step {E : NfD} {T : Nat} (h : NfOk T E) (h0 : 0 < E.nodes) {u : List Int} {k : ByteArray} (hk : KeyAt E u (some k)) (c : Nat) : KeyAt E (u ++ [(c : Int)]) (stepL E k c) := by
 have hn : ∀ y, y ∈ nextU E (bitsOf k) c E.nodes ↔ ∃ z', Run E 0 u z' ∧ (z', (c : Int), y) ∈ E.edges := fun y => by
  rw [nextU_mem]
  constructor
  ·
   rintro ⟨z, h1, h2, h3⟩
   exact ⟨z, (hk.2 z h1).1 h2, h3⟩
  ·
   rintro ⟨z, h1, h3⟩
   have h4 := run_lt h h0 h1
   exact ⟨z, h4, (hk.2 z h4).2 h1, h3⟩
 unfold stepL
 by_cases he : nextU E (bitsOf k) c E.nodes = []
 ·
  rw [if_pos he]
  intro z hz
  rw [run_snoc] at hz
  have : ∀ {z : Nat}, EpsS E (fun y => ∃ z', Run E 0 u z' ∧ (z', (c : Int), y) ∈ E.edges) z → False := by
   intro z hz
   induction hz with
   | base h1 =>
    have := (hn _).2 h1
    rw [he] at this
    cases this
   | step _ _ ih => exact ih
  exact this hz
 ·
  rw [if_neg he]
  refine ⟨keyS_good _ _, fun z hz => ?_⟩
  unfold keyS
  rw [bitsOf_str, cloL_at hz, run_snoc]
  exact EpsS.congr hn
def ExD (accs : List Int) (rows : List (List Int)) : DfaD := (0, accs, rows)
section
variable {E : NfD} {T out cols : Nat} {ks : List ByteArray} {accs : List Int} {rows : List (List Int)}
def AtKey (ks : List ByteArray) (o : Option ByteArray) (s : Int) : Prop := (o = none ∧ s = -1) ∨ ∃ k j, o = some k ∧ s = ((j : Nat) : Int) ∧ ks[j]? = some k
theorem ex_run (hE : NfOk T E) (h0 : 0 < E.nodes) (hx : ExMid (stepL E) (accL out) (GoodL E) (keyS E (· ∈ [0])) cols ks.length ks accs rows) :
    ∀ (w : List Int), (∀ c ∈ w, 0 ≤ c ∧ c < (cols : Int)) → ∃ o, KeyAt E w o ∧ AtKey ks o (drun (ExD accs rows) w) := by
 refine list_snoc_ind ?_ ?_
 ·
  exact fun _ => ⟨_, key_first E, .inr ⟨_, 0, rfl, rfl, hx.hd⟩⟩
 ·
  intro u c ih hw
  obtain ⟨o, h1, h2⟩ := ih fun x hx => hw x (List.mem_append_left _ hx)
  have hc := hw c (by simp)
  obtain ⟨cn, rfl⟩ : ∃ cn : Nat, c = (cn : Int) := ⟨c.toNat, by omega⟩
  rw [drun_snoc]
  rcases h2 with ⟨rfl, e⟩ | ⟨k, j, rfl, e, hj⟩
  ·
   refine ⟨none, fun z hz => ?_, .inl ⟨rfl, by rw [e]; rfl⟩⟩
   have : ∀ {z : Nat}, EpsS E (fun y => ∃ z', Run E 0 u z' ∧ (z', (cn : Int), y) ∈ E.edges) z → False := by
    intro z hz
    induction hz with
    | base h4 => obtain ⟨z', h5, _⟩ := h4; exact h1 _ h5
    | step _ _ ih => exact ih
   exact this (run_snoc.1 hz)
  ·
   refine ⟨_, key_step hE h0 h1 cn, ?_⟩
   have hjl := (List.getElem?_eq_some_iff.1 hj).1
   obtain ⟨r, hr⟩ : ∃ r, rows[j]? = some r := ⟨_, List.getElem?_eq_getElem (by rw [hx.rl]; exact hjl)⟩
   obtain ⟨hrl, k', hk', hcell⟩ := hx.rows j r hr
   rw [hj] at hk'
   injection hk' with hk'
   subst hk'
   have hcl : cn < r.length := by rw [hrl]; omega
   have hy := List.getElem?_eq_getElem hcl
   have hcx := hcell cn _ hy
   have hto : dto (ExD accs rows) (drun (ExD accs rows) u) (cn : Int) = r[cn] := by
    rw [e]
    unfold dto ExD
    rw [if_neg (by omega)]
    simp only [Int.toNat_natCast]
    rw [hr]
    simp only [Option.getD_some]
    rw [hy]
    rfl
   rw [hto]
   exact hcx
theorem ex_accepts (hE : NfOk T E) (h0 : 0 < E.nodes) (ho : out < E.nodes) (hx : ExMid (stepL E) (accL out) (GoodL E) (keyS E (· ∈ [0])) cols ks.length ks accs rows) {w : List Int} (hw : ∀ c ∈ w, 0 ≤ c ∧ c < (cols : Int)) :
    daccept (ExD accs rows) w = true ↔ Run E 0 w out := by
 obtain ⟨o, h1, h2⟩ := ex_run hE h0 hx w hw
 unfold daccept
 rw [decide_eq_true_eq]
 rcases h2 with ⟨rfl, e⟩ | ⟨k, j, rfl, e, hj⟩
 ·
  rw [e]
  constructor
  ·
   intro h
   have e2 : dat (ExD accs rows) (-1) = -1 := rfl
   rw [e2] at h
   omega
  ·
   exact fun h => absurd h (h1 out)
 ·
  rw [e, ← h1.2 out ho]
  have hat : dat (ExD accs rows) (j : Int) = accL out k := by
   unfold dat ExD
   rw [if_neg (by omega)]
   simp only [Int.toNat_natCast]
   rw [hx.accs, List.take_length, List.getElem?_map, hj]
   rfl
  rw [hat]
  unfold accL
  by_cases hb : (bitsOf k)[out]? = some true
  ·
   rw [if_pos hb]
   exact ⟨fun _ => hb, fun _ => Int.le_refl _⟩
  ·
   rw [if_neg hb]
   exact ⟨fun h => absurd h (by decide), fun h => absurd h hb⟩
end
end Go.Proofs.YtocbkccchnbmaaaGreat
namespace Go.Proofs.YtocbkccchnbmaaaGreat
def lis (listed : Array Bool) (j : Nat) : Bool := listed.getD j false
def StepI (P : Program) (ops : Array Oper) (Q : Exit → Act → World → Prop) (oi : Oper) (a : Act) (w : World) (K : Act → World → Prop) : Prop :=
 ∀ K' : Act → World → Prop, Shut (∀ a' w', K a' w' → K' a' w') → if Region.wanted oi (yielded ops a.tmps) = true then Oper.wp P oi a w K' Q else K' (a.put oi.dst undef) w
section
variable {P : Program} {ops : Array Oper} {Q : Exit → Act → World → Prop} {md : Region.Mode}
theorem lis_set {listed : Array Bool} {i : Nat} (hi : i < listed.size) : lis (listed.setIfInBounds i true) = fun j => if j = i then true else lis listed j := by
 funext j
 unfold lis
 by_cases h : j = i
 ·
  subst h
  simp [hi]
 ·
  rw [if_neg h]
  simp [Ne.symm h]
theorem count_set : ∀ {l : List Bool} {i : Nat}, l[i]? = some false → (l.set i true).countP (! ·) + 1 = l.countP (! ·)
 | [], i, h => by simp at h
 | b :: l, 0, h => by
  simp only [List.getElem?_cons_zero, Option.some.injEq] at h
  subst h
  simp
 | b :: l, i + 1, h => by
  have := count_set (l := l) (i := i) (by simpa using h)
  simp only [List.set_cons_succ, List.countP_cons]
  omega
theorem ready_mem {listed : Array Bool} {i : Nat} (hs : listed.size = ops.size) : i ∈ Region.ready md ops listed ↔ ∃ oi, ops[i]? = some oi ∧ lis listed i = false ∧ ∀ e ∈ oi.after, Region.binds md e = true → lis listed e.on = true := by
 unfold Region.ready lis
 rw [List.mem_filter, List.mem_range]
 constructor
 ·
  rintro ⟨h1, h2⟩
  obtain ⟨oi, ho⟩ : ∃ oi, ops[i]? = some oi := ⟨_, Array.getElem?_eq_getElem h1⟩
  rw [ho] at h2
  simp only [Bool.and_eq_true, Option.map_some, Option.getD_some, Bool.not_eq_true', Array.all_eq_true_iff_forall_mem, Bool.or_eq_true] at h2
  refine ⟨oi, ho, ?_, fun e he hb => ?_⟩
  ·
   have h3 := h2.1
   rw [Array.getD_eq_getD_getElem?, Array.getElem?_eq_getElem (by omega)] at h3 ⊢
   exact h3
  ·
   rcases h2.2 e he with h4 | h4
   ·
    rw [hb] at h4; cases h4
   ·
    exact h4
 ·
  rintro ⟨oi, ho, h3, h4⟩
  have h1 : i < ops.size := by
   rcases Nat.lt_or_ge i ops.size with h | h
   ·
    exact h
   ·
    rw [Array.getElem?_eq_none h] at ho; cases ho
  refine ⟨h1, ?_⟩
  rw [ho]
  simp only [Bool.and_eq_true, Option.map_some, Option.getD_some, Bool.not_eq_true', Array.all_eq_true_iff_forall_mem, Bool.or_eq_true]
  refine ⟨?_, fun e he => ?_⟩
  ·
   rw [Array.getD_eq_getD_getElem?, Array.getElem?_eq_getElem (by omega)] at h3 ⊢
   exact h3
  ·
   cases hb : Region.binds md e with
   | false => exact .inl rfl
   | true => exact .inr (h4 e he hb)
theorem all_listed {listed : Array Bool} (hs : listed.size = ops.size) (hdeps : ∀ i oi, ops[i]? = some oi → ∀ e ∈ oi.after, Region.binds md e = true → e.on < i) (hr : Region.ready md ops listed = []) : ∀ i, i < ops.size → lis listed i = true := by
 intro i
 induction i using Nat.strongRecOn with
 | _ i ih =>
  intro hi
  cases hl : lis listed i with
  | true => rfl
  | false =>
   exfalso
   have ho := Array.getElem?_eq_getElem hi
   have : i ∈ Region.ready md ops listed := (ready_mem hs).2 ⟨_, ho, hl, fun e he hb => ih e.on (hdeps i _ ho e he hb) (by have := hdeps i _ ho e he hb; omega)⟩
   rw [hr] at this
   cases this
theorem wpAny_inv (I : (Nat → Bool) → Act → World → Prop)
    (hstep : ∀ (f : Nat → Bool) (a : Act) (w : World) (i : Nat) (oi : Oper), I f a w → ops[i]? = some oi → f i = false → (∀ e ∈ oi.after, Region.binds md e = true → f e.on = true) → StepI P ops Q oi a w (I fun j => if j = i then true else f j))
    (hend : ∀ (f : Nat → Bool) (a : Act) (w : World), I f a w → (∀ j, j < ops.size → f j = true) → Q .normal a w)
    (hdeps : ∀ i oi, ops[i]? = some oi → ∀ e ∈ oi.after, Region.binds md e = true → e.on < i) :
    ∀ (fuel : Nat) (listed : Array Bool) (a : Act) (w : World), listed.size = ops.size → I (lis listed) a w → listed.toList.countP (! ·) ≤ fuel → wpAny P md ops Q fuel listed a w
 | 0, listed, a, w, hs, hI, hc => by
  have hall : ∀ i, i < ops.size → lis listed i = true := fun i hi => by
   cases hl : lis listed i with
   | true => rfl
   | false =>
    exfalso
    have h0 : listed.toList.countP (! ·) = 0 := by omega
    rw [List.countP_eq_zero] at h0
    have hm : listed[i]'(by omega) ∈ listed.toList := by simp
    have := h0 _ hm
    unfold lis at hl
    rw [Array.getD_eq_getD_getElem?, Array.getElem?_eq_getElem (by omega)] at hl
    simp only [Option.getD_some] at hl
    rw [hl] at this
    simp at this
  refine ⟨?_, hend _ a w hI hall⟩
  rw [List.eq_nil_iff_forall_not_mem]
  intro i hi
  obtain ⟨oi, ho, hl, _⟩ := (ready_mem hs).1 hi
  have h1 : i < ops.size := by
   rcases Nat.lt_or_ge i ops.size with h | h
   ·
    exact h
   ·
    rw [Array.getElem?_eq_none h] at ho; cases ho
  rw [hall i h1] at hl
  cases hl
 | fuel + 1, listed, a, w, hs, hI, hc => by
  refine ⟨fun hr => hend _ a w hI (all_listed hs hdeps hr), fun i hi => ?_⟩
  obtain ⟨oi, ho, hl, hd⟩ := (ready_mem hs).1 hi
  have h1 : i < ops.size := by
   rcases Nat.lt_or_ge i ops.size with h | h
   ·
    exact h
   ·
    rw [Array.getElem?_eq_none h] at ho; cases ho
  refine wpOp_step ho fun K' hK => hstep _ a w i oi hI ho hl hd K' ?_
  refine fun a' w' h' => hK a' w' (wpAny_inv I hstep hend hdeps fuel _ a' w' (by simp [hs]) (by rw [lis_set (by omega)]; exact h') ?_)
  have h2 : listed.toList[i]? = some false := by
   unfold lis at hl
   rw [Array.getD_eq_getD_getElem?, Array.getElem?_eq_getElem (by omega)] at hl
   simp only [Option.getD_some] at hl
   simp [Array.getElem?_eq_getElem (show i < listed.size by omega), hl]
  have h3 := count_set h2
  rw [Array.toList_setIfInBounds]
  omega
theorem wp_region_inv {id : Nat} {a : Act} {w : World} (hm : P.follows .mixedOrders = true) (I : (Nat → Bool) → Act → World → Prop) (h0 : I (fun _ => false) a w.drew)
    (hstep : ∀ (f : Nat → Bool) (a : Act) (w : World) (i : Nat) (oi : Oper), I f a w → ops[i]? = some oi → f i = false → (∀ e ∈ oi.after, Region.binds .any e = true → f e.on = true) → StepI P ops Q oi a w (I fun j => if j = i then true else f j))
    (hend : ∀ (f : Nat → Bool) (a : Act) (w : World), I f a w → (∀ j, j < ops.size → f j = true) → Q .normal a w)
    (hdeps : ∀ i oi, ops[i]? = some oi → ∀ e ∈ oi.after, Region.binds .any e = true → e.on < i) : (Code.region id ops true).wp P Q a w := by
 refine wp_region_any hm (wpAny_inv I hstep hend hdeps _ _ a _ (by simp) ?_ ?_)
 ·
  have : lis (Array.replicate ops.size false) = fun _ => false := by
   funext j
   unfold lis
   rw [Array.getD_eq_getD_getElem?, Array.getElem?_replicate]
   split <;> rfl
  rw [this]
  exact h0
 ·
  refine Nat.le_trans List.countP_le_length ?_
  simp
theorem deps_of (h : ((List.range ops.size).all fun i => ((ops[i]?).map fun oi => oi.after.all fun e => !Region.binds md e || decide (e.on < i)).getD true) = true) : ∀ i oi, ops[i]? = some oi → ∀ e ∈ oi.after, Region.binds md e = true → e.on < i := by
 intro i oi ho e he hb
 have h1 : i < ops.size := by
  rcases Nat.lt_or_ge i ops.size with h | h
  ·
   exact h
  ·
   rw [Array.getElem?_eq_none h] at ho; cases ho
 have h2 := List.all_eq_true.1 h i (List.mem_range.2 h1)
 rw [ho] at h2
 simp only [Option.map_some, Option.getD_some, Array.all_eq_true_iff_forall_mem] at h2
 have h3 := h2 e he
 rw [hb] at h3
 simpa using h3
theorem StepI.run {oi : Oper} {a : Act} {w w2 : World} {K : Act → World → Prop} {v : Value} (hg : oi.guard = none) (hrun : (execOp a.eval oi).run P w = .ok (.value v) w2) (hK : K (a.put oi.dst v) w2) : StepI P ops Q oi a w K := by
 intro K' hK'
 rw [if_pos (by simp [Region.wanted, hg])]
 unfold Oper.wp
 rw [hrun]
 exact hK'.out _ _ hK
theorem StepI.call {oi : Oper} {a : Act} {w w2 : World} {K : Act → World → Prop} {F : FuncId} {args : Array Value} {R : Ending → World → Prop} (hg : oi.guard = none) (hrun : (execOp a.eval oi).run P w = .ok (.enter F args) w2) (hc : Calls P F args w2 R) (hK : ∀ e w', R e w' → ∃ v, e = .returned v ∧ K (a.put oi.dst v) w') : StepI P ops Q oi a w K := by
 intro K' hK'
 rw [if_pos (by simp [Region.wanted, hg])]
 unfold Oper.wp
 rw [hrun]
 refine Calls.mono hc fun e w' he => ?_
 obtain ⟨v, rfl, h⟩ := hK e w' he
 exact hK'.out _ _ h
end
structure Slots (b : Act) (D : List Nat) (a : Act) : Prop where
 defers : a.defers = b.defers
 size : a.tmps.size = b.tmps.size
 old : ∀ j, j ∉ D → a.tmps.getD j undef = b.tmps.getD j undef
theorem getD_put (a : Act) (d : Nat) (v : Value) (hd : d < a.tmps.size) (j : Nat) : (a.put (some d) v).tmps.getD j undef = if j = d then v else a.tmps.getD j undef := by
 show (a.tmps.setIfInBounds d v).getD j undef = _
 by_cases h : j = d
 ·
  subst h
  simp [hd]
 ·
  rw [if_neg h]
  simp [Ne.symm h]
theorem Slots.refl (b : Act) (D : List Nat) : Slots b D b := ⟨rfl, rfl, fun _ _ => rfl⟩
theorem Slots.put {b : Act} {D : List Nat} {a : Act} (h : Slots b D a) {d : Nat} (hd : d ∈ D) (hs : d < b.tmps.size) (v : Value) : Slots b D (a.put (some d) v) :=
 ⟨h.defers, by show (a.tmps.setIfInBounds d v).size = _; rw [Array.size_setIfInBounds]; exact h.size, fun j hj => by
  rw [getD_put a d v (by rw [h.size]; exact hs), if_neg (show ¬ j = d by rintro rfl; exact hj hd)]
  exact h.old j hj⟩
theorem fold_size (g : Nat → Value) : ∀ (D : List Nat) (b : Act), (D.foldl (fun x d => x.put (some d) (g d)) b).tmps.size = b.tmps.size ∧ (D.foldl (fun x d => x.put (some d) (g d)) b).defers = b.defers
 | [], _ => ⟨rfl, rfl⟩
 | d :: D, b => by
  obtain ⟨h1, h2⟩ := fold_size g D (b.put (some d) (g d))
  refine ⟨h1.trans ?_, h2⟩
  show (b.tmps.setIfInBounds d (g d)).size = _
  rw [Array.size_setIfInBounds]
theorem fold_get (g : Nat → Value) : ∀ (D : List Nat) (b : Act), (∀ d ∈ D, d < b.tmps.size) → ∀ j, (D.foldl (fun x d => x.put (some d) (g d)) b).tmps.getD j undef = if j ∈ D then g j else b.tmps.getD j undef
 | [], _, _, j => by simp
 | d :: D, b, hD, j => by
  have hs : (b.put (some d) (g d)).tmps.size = b.tmps.size := by
   show (b.tmps.setIfInBounds d (g d)).size = _
   rw [Array.size_setIfInBounds]
  rw [List.foldl_cons, fold_get g D _ (fun x hx => by rw [hs]; exact hD x (List.mem_cons_of_mem _ hx)), getD_put b d (g d) (hD d List.mem_cons_self)]
  by_cases h1 : j ∈ D
  ·
   rw [if_pos h1, if_pos (List.mem_cons_of_mem _ h1)]
  ·
   rw [if_neg h1]
   by_cases h2 : j = d
   ·
    subst h2
    rw [if_pos rfl, if_pos List.mem_cons_self]
   ·
    rw [if_neg h2, if_neg (by simp [h1, h2])]
theorem Slots.eq {b : Act} {D : List Nat} {a : Act} (h : Slots b D a) (hD : ∀ d ∈ D, d < b.tmps.size) : a = D.foldl (fun x d => x.put (some d) (a.tmps.getD d undef)) b := by
 obtain ⟨h1, h2⟩ := fold_size (fun d => a.tmps.getD d undef) D b
 have h3 := fold_get (fun d => a.tmps.getD d undef) D b hD
 generalize D.foldl (fun x d => x.put (some d) (a.tmps.getD d undef)) b = c at h1 h2 h3
 have e1 : a.tmps = c.tmps := by
  refine Array.ext (by rw [h1, h.size]) fun j hj hj2 => ?_
  have h4 := h3 j
  rw [Array.getD_eq_getD_getElem?, Array.getElem?_eq_getElem hj2] at h4
  have h5 : a.tmps.getD j undef = a.tmps[j] := by rw [Array.getD_eq_getD_getElem?, Array.getElem?_eq_getElem hj]; rfl
  by_cases hd : j ∈ D
  ·
   rw [if_pos hd, h5] at h4
   exact h4.symm
  ·
   rw [if_neg hd, ← h.old j hd, h5] at h4
   exact h4.symm
 have e2 : a.defers = c.defers := h.defers.trans h2.symm
 cases a
 cases c
 simp only at e1 e2
 rw [e1, e2]
end Go.Proofs.YtocbkccchnbmaaaGreat
