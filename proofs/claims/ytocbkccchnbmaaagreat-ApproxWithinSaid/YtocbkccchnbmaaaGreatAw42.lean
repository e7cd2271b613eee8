/- PlainG ApxLaw -/
import Derived.Test.YtocbkccchnbmaaaGreatAw08
import Derived.Test.YtocbkccchnbmaaaGreatAw15
import Derived.Test.YtocbkccchnbmaaaGreatAw33
import Derived.Test.YtocbkccchnbmaaaGreatAw37
namespace Go.Proofs.YtocbkccchnbmaaaGreat
def plainR : List RuleD := [(0, [(true, 0)]), (0, [(true, 1), (false, 0)])]
abbrev plainG : GramD := (2, 1, 0, plainR)
theorem plain_valid : GValid plainG := by
 refine ⟨by decide, by decide, by decide, by decide, ⟨by decide, by decide⟩, by decide, ?_, by decide⟩
 intro r hr
 simp only [plainR, List.mem_cons, List.not_mem_nil, or_false] at hr
 rcases hr with rfl | rfl <;> simp [SymOk]
end Go.Proofs.YtocbkccchnbmaaaGreat
namespace Go.Proofs.YtocbkccchnbmaaaGreat
section
variable {stp : ByteArray → Nat → Option ByteArray} {acc : ByteArray → Int} {Good : ByteArray → Prop} {first : ByteArray} {C : Nat} {ks : List ByteArray} {accs : List Int} {rows : List (List Int)}
theorem ex_valid (h1 : 1 ≤ C) (h2 : C ≤ 16) (hx : ExMid stp acc Good first C ks.length ks accs rows) (ha : ∀ k, -1 ≤ acc k) : Valid (ExD accs rows) ∧ cols (ExD accs rows) = C := by
 have hk : 1 ≤ ks.length := (List.getElem?_eq_some_iff.1 hx.hd).1
 have hrl : rows.length = ks.length := hx.rl
 have hc : cols (ExD accs rows) = C := by
  obtain ⟨r, hr⟩ : ∃ r, rows[0]? = some r := ⟨_, List.getElem?_eq_getElem (by omega)⟩
  show (rows[0]?.getD []).length = C
  rw [hr]
  exact (hx.rows 0 r hr).1
 have hal : accs.length = ks.length := by rw [hx.accs]; simp
 refine ⟨⟨by show 1 ≤ rows.length; omega, by show rows.length ≤ 200; have := hx.few; omega, by show accs.length = rows.length; omega, by rw [hc]; exact h1, by rw [hc]; exact h2, ?_, ⟨Int.le_refl _, by show (0 : Int) < (rows.length : Int); omega⟩, ?_⟩, hc⟩
 ·
  intro r hr
  obtain ⟨m, hm⟩ := List.getElem?_of_mem (show r ∈ rows from hr)
  obtain ⟨e, k, _, h3⟩ := hx.rows m r hm
  refine ⟨by rw [hc]; exact e, fun x hxr => ?_⟩
  obtain ⟨c, hcx⟩ := List.getElem?_of_mem hxr
  show -1 ≤ x ∧ x < (rows.length : Int)
  rcases h3 c x hcx with ⟨_, rfl⟩ | ⟨k', j, _, rfl, hj⟩
  ·
   omega
  ·
   have := (List.getElem?_eq_some_iff.1 hj).1
   omega
 ·
  intro x hxa
  rw [show (ExD accs rows).2.1 = (ks.take ks.length).map acc from hx.accs] at hxa
  obtain ⟨k, _, rfl⟩ := List.mem_map.1 hxa
  exact ha k
end
theorem accL_ge (out : Nat) (k : ByteArray) : -1 ≤ accL out k := by unfold accL; split <;> omega
theorem accL_lt (out : Nat) (k : ByteArray) : accL out k ≤ 0 := by unfold accL; split <;> omega
structure ApxA (E : NfD) (T C : Nat) (accs : List Int) (rows : List (List Int)) : Prop where
 ok : NfOk T E
 n1 : 1 < E.nodes
 mid : ∃ ks : List ByteArray, ExMid (stepL E) (accL 1) (GoodL E) (keyS E (· ∈ [0])) C ks.length ks accs rows
 c1 : 1 ≤ C
 c2 : C ≤ 16
section
variable {E : NfD} {T C : Nat} {accs : List Int} {rows : List (List Int)}
theorem ApxA.valid (h : ApxA E T C accs rows) : Valid (ExD accs rows) ∧ cols (ExD accs rows) = C := by
 obtain ⟨ks, hk⟩ := h.mid
 exact ex_valid h.c1 h.c2 hk (accL_ge 1)
theorem ApxA.small (h : ApxA E T C accs rows) : ∀ x ∈ (ExD accs rows).2.1, x ≤ 0 := by
 obtain ⟨ks, hk⟩ := h.mid
 intro x hx
 rw [show (ExD accs rows).2.1 = (ks.take ks.length).map (accL 1) from hk.accs] at hx
 obtain ⟨k, _, rfl⟩ := List.mem_map.1 hx
 exact accL_lt 1 k
theorem ApxA.wok (h : ApxA E T C accs rows) {w : List Int} : WOk (ExD accs rows) w ↔ ∀ c ∈ w, 0 ≤ c ∧ c < (C : Int) := by
 unfold WOk
 rw [h.valid.2]
theorem ApxA.acc (h : ApxA E T C accs rows) {w : List Int} (hw : ∀ c ∈ w, 0 ≤ c ∧ c < (C : Int)) : daccept (ExD accs rows) w = true ↔ Run E 0 w 1 := by
 obtain ⟨ks, hk⟩ := h.mid
 exact ex_accepts h.ok (by have := h.n1; omega) h.n1 hk hw
theorem ApxA.canon (h : ApxA E T C accs rows) {w : List Int} (hw : ∀ c ∈ w, 0 ≤ c ∧ c < (C : Int)) : daccept (canonD (ExD accs rows)) w = true ↔ Run E 0 w 1 := by
 rw [canon_accept h.valid.1 (h.wok.2 hw)]
 exact h.acc hw
theorem dat_le {d : DfaD} (hs : ∀ x ∈ d.2.1, x ≤ 0) (s : Int) : dat d s ≤ 0 := by
 unfold dat
 split
 ·
  omega
 ·
  cases h : d.2.1[s.toNat]? with
  | none => simp
  | some x => exact hs x (List.mem_of_getElem? h)
theorem dat_geV {d : DfaD} (hv : Valid d) (s : Int) : -1 ≤ dat d s := by
 unfold dat
 split
 ·
  omega
 ·
  cases h : d.2.1[s.toNat]? with
  | none => simp
  | some x => exact hv.acc x (List.mem_of_getElem? h)
theorem dval_eq {d e : DfaD} (hd : Valid d) (he : Valid e) (sd : ∀ x ∈ d.2.1, x ≤ 0) (se : ∀ x ∈ e.2.1, x ≤ 0) {w : List Int} (h : daccept d w = true ↔ daccept e w = true) : dval d d.1 w = dval e e.1 w := by
 have h1 := dat_le sd (drun d w)
 have h2 := dat_geV hd (drun d w)
 have h3 := dat_le se (drun e w)
 have h4 := dat_geV he (drun e w)
 unfold daccept at h
 rw [decide_eq_true_eq, decide_eq_true_eq] at h
 show dat d (drun d w) = dat e (drun e w)
 omega
theorem canon_lang {d e : DfaD} (hd : Valid d) (he : Valid e) (sd : ∀ x ∈ d.2.1, x ≤ 0) (se : ∀ x ∈ e.2.1, x ≤ 0) (hc : cols d = cols e) (h : ∀ w, WOk d w → (daccept d w = true ↔ daccept e w = true)) : canonD d = canonD e :=
 canon_uniq hc hd he fun l hl => dval_eq hd he sd se (h l hl)
end
theorem plain_lang {w : List Int} : LgS plainR (false, 0) w ↔ w = [0] ∨ ∃ v, w = 1 :: v ∧ LgS plainR (false, 0) v := by
 rw [LgS.non]
 constructor
 ·
  rintro ⟨r, hr, _, h⟩
  simp only [plainR, List.mem_cons, List.not_mem_nil, or_false] at hr
  rcases hr with rfl | rfl
  ·
   rw [LgL.one, LgS.term] at h
   exact .inl h
  ·
   rw [LgL.cons] at h
   obtain ⟨u, v, rfl, h1, h2⟩ := h
   rw [LgS.term] at h1
   rw [LgL.one] at h2
   subst h1
   exact .inr ⟨v, rfl, h2⟩
 ·
  rintro (rfl | ⟨v, rfl, h⟩)
  ·
   exact ⟨(0, [(true, 0)]), by simp [plainR], rfl, LgL.one.2 (LgS.term.2 rfl)⟩
  ·
   exact ⟨(0, [(true, 1), (false, 0)]), by simp [plainR], rfl, LgL.cons.2 ⟨[1], v, rfl, LgS.term.2 rfl, LgL.one.2 h⟩⟩
def twoD : DfaD := (0, [-1, 0], [[1, 0], [-1, -1]])
theorem twoD_valid : Valid twoD := ⟨by decide, by decide, by decide, by decide, by decide, by decide, by decide, by decide⟩
theorem plain_dead : ∀ w : List Int, (∀ c ∈ w, 0 ≤ c ∧ c < 2) → w.foldl (dto twoD) (-1) = -1
 | [], _ => rfl
 | _ :: w, h => plain_dead w fun x hx => h x (List.mem_cons_of_mem _ hx)
theorem two_run : ∀ w : List Int, (∀ c ∈ w, 0 ≤ c ∧ c < 2) → (0 ≤ dat twoD (w.foldl (dto twoD) 0) ↔ LgS plainR (false, 0) w)
 | [], _ => by
  rw [plain_lang]
  constructor
  ·
   intro h
   exact absurd h (by decide)
  ·
   rintro (h | ⟨v, h, _⟩)
   ·
    cases h
   ·
    cases h
 | c :: w, h => by
  have hc := h c List.mem_cons_self
  have hw := fun x hx => h x (List.mem_cons_of_mem c hx)
  rw [plain_lang, List.foldl_cons]
  have hcc : c = 0 ∨ c = 1 := by omega
  rcases hcc with rfl | rfl
  ·
   rw [show dto twoD 0 0 = 1 from rfl]
   cases w with
   | nil => exact ⟨fun _ => .inl rfl, fun _ => by decide⟩
   | cons b w =>
    have hb := hw b List.mem_cons_self
    have e : dto twoD 1 b = -1 := by
     have : b = 0 ∨ b = 1 := by omega
     rcases this with rfl | rfl <;> rfl
    rw [List.foldl_cons, e, plain_dead w fun x hx => hw x (List.mem_cons_of_mem b hx)]
    constructor
    ·
     intro h
     exact absurd h (by decide)
    ·
     rintro (h | ⟨v, h, _⟩)
     ·
      cases h
     ·
      cases h
  ·
   rw [show dto twoD 0 1 = 0 from rfl, two_run w hw]
   constructor
   ·
    exact fun h => .inr ⟨w, rfl, h⟩
   ·
    rintro (h | ⟨v, h, h2⟩)
    ·
     cases h
    ·
     cases h
     exact h2
theorem plain_acc {w : List Int} (hw : ∀ c ∈ w, 0 ≤ c ∧ c < 2) : daccept twoD w = true ↔ LgS plainR (false, 0) w := by
 unfold daccept
 rw [decide_eq_true_eq]
 exact two_run w hw
theorem one_state {d : DfaD} (hv : Valid d) (h1 : d.2.2.length = 1) {w : List Int} (hw : WOk d w) (h : daccept d w = true) : daccept d [] = true := by
 have h2 := drun_range hv (l := w) hw (s := d.1) ⟨by have := hv.st; omega, by have := hv.st; omega⟩
 have h3 := hv.st
 have h4 : daccept d w = decide (0 ≤ dat d (w.foldl (dto d) d.1)) := rfl
 have h5 : daccept d [] = decide (0 ≤ dat d d.1) := rfl
 rw [h4] at h
 rw [h5]
 have h6 : w.foldl (dto d) d.1 = d.1 ∨ w.foldl (dto d) d.1 = -1 := by omega
 rcases h6 with e | e
 ·
  rw [e] at h; exact h
 ·
  rw [e] at h; exact absurd (of_decide_eq_true h) (by rw [show dat d (-1) = -1 from rfl]; decide)
theorem plain_two {E : NfD} {T : Nat} {accs : List Int} {rows : List (List Int)} (h : ApxA E T 2 accs rows) (hl : ∀ w, (∀ c ∈ w, 0 ≤ c ∧ c < (2 : Int)) → (Run E 0 w 1 ↔ LgS plainR (false, 0) w)) : (canonD (ExD accs rows)).2.2.length = 2 := by
 have e : canonD (ExD accs rows) = canonD twoD := canon_lang h.valid.1 twoD_valid h.small (by decide) h.valid.2 fun w hw => by
  have hw' := h.wok.1 hw
  rw [h.acc hw', hl w hw', plain_acc hw']
 rw [e]
 have h1 := canon_le twoD_valid
 have h2 := canon_valid twoD_valid
 have h3 := h2.n1
 have h4 : twoD.2.2.length = 2 := rfl
 rcases Nat.lt_or_ge (canonD twoD).2.2.length 2 with h5 | h5
 ·
  exfalso
  have h6 : WOk twoD [0] := fun x hx => by rw [List.mem_singleton.1 hx]; decide
  have h7 : WOk (canonD twoD) [0] := by unfold WOk; rw [canon_cols twoD_valid]; exact h6
  have h8 : daccept (canonD twoD) [0] = true := (canon_accept twoD_valid h6).trans (by decide)
  have h9 := one_state h2 (by omega) h7 h8
  rw [canon_accept twoD_valid .nil] at h9
  exact absurd h9 (by decide)
 ·
  omega
theorem plain_exact {cf : Int → CompD} (H : CfOk plainR 1 cf) : ExactP plainR cf 0 := by
 have hw : (cf 0).1 ≠ 2 := by
  rcases H.kind 0 (by decide) with ⟨h, _⟩ | ⟨h, _⟩ | ⟨_, h, _⟩
  ·
   rw [show ((0 : Nat) : Int) = 0 from rfl] at h; rw [h]; decide
  ·
   rw [show ((0 : Nat) : Int) = 0 from rfl] at h; rw [h]; decide
  ·
   exact absurd (show OnlyP plainR _ plLast from fun r hr _ i s hi hs hin => by
    simp only [plainR, List.mem_cons, List.not_mem_nil, or_false] at hr
    rcases hr with rfl | rfl
    ·
     match i, hs with
     | 0, hs => rfl
     | i + 1, hs => simp at hs
    ·
     match i, hs with
     | 0, hs =>
      simp at hs
      subst hs
      exact absurd hin (by simp [inC])
     | 1, hs => rfl
     | i + 2, hs => simp at hs) h
 refine ⟨hw, fun b hb => ?_⟩
 have hb0 : b = 0 := by
  have he : ∀ i j, edgN plainR i j = true → j < 1 := fun i j => edg_lt H.rules
  have gen : ∀ {i j : Nat}, Reach (fun i j => edgN plainR i j = true) i j → j < 1 := by
   intro i j h
   induction h with
   | one h => exact he _ _ h
   | step _ _ ih => exact ih
  have := gen hb
  omega
 rw [hb0]
 exact hw
end Go.Proofs.YtocbkccchnbmaaaGreat
