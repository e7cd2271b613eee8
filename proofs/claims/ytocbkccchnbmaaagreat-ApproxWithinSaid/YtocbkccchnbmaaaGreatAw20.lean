/- LgS ApxRun -/
import Derived.Test.YtocbkccchnbmaaaGreatAw15
import Derived.Test.YtocbkccchnbmaaaGreatAw16
namespace Go.Proofs.YtocbkccchnbmaaaGreat
def LgS (R : List RuleD) (s : SymD) (w : List Int) : Prop := ∃ t, TV R s t ∧ wordT t = w
def LgL (R : List RuleD) (l : List SymD) (w : List Int) : Prop := ∃ ts, TVL R l ts ∧ wordTs ts = w
section
variable {R : List RuleD}
theorem LgS.term {c : Int} {w : List Int} : LgS R (true, c) w ↔ w = [c] := by
 constructor
 ·
  rintro ⟨t, h, rfl⟩
  rcases h.inv with ⟨c', e, rfl⟩ | ⟨k, r, ts, e, _⟩
  ·
   injection e with _ e
   rw [e, wordT_leaf]
  ·
   cases e
 ·
  rintro rfl
  exact ⟨_, .leaf, wordT_leaf c⟩
theorem LgS.non {a : Int} {w : List Int} : LgS R (false, a) w ↔ ∃ r ∈ R, r.1 = a ∧ LgL R r.2 w := by
 constructor
 ·
  rintro ⟨t, h, rfl⟩
  rcases h.inv with ⟨c', e, rfl⟩ | ⟨k, r, ts, e, rfl, hk, ht⟩
  ·
   cases e
  ·
   injection e with _ e
   exact ⟨r, List.mem_of_getElem? hk, e.symm, ts, ht, (wordT_node k 0 ts).symm⟩
 ·
  rintro ⟨r, hr, rfl, ts, ht, rfl⟩
  obtain ⟨k, hk⟩ := List.getElem?_of_mem hr
  exact ⟨_, .node hk ht, wordT_node k 0 ts⟩
theorem LgL.nil {w : List Int} : LgL R [] w ↔ w = [] := by
 constructor
 ·
  rintro ⟨ts, h, rfl⟩
  rw [h.inv_nil, wordTs_nil]
 ·
  rintro rfl
  exact ⟨[], .nil, wordTs_nil⟩
theorem LgL.cons {s : SymD} {l : List SymD} {w : List Int} : LgL R (s :: l) w ↔ ∃ u v, w = u ++ v ∧ LgS R s u ∧ LgL R l v := by
 constructor
 ·
  rintro ⟨ts, h, rfl⟩
  obtain ⟨t, ts', rfl, h1, h2⟩ := h.inv
  exact ⟨_, _, wordTs_cons t ts', ⟨t, h1, rfl⟩, ⟨ts', h2, rfl⟩⟩
 ·
  rintro ⟨u, v, rfl, ⟨t, h1, rfl⟩, ⟨ts, h2, rfl⟩⟩
  exact ⟨t :: ts, .cons h1 h2, wordTs_cons t ts⟩
theorem LgL.append : ∀ {l m : List SymD} {w : List Int}, LgL R (l ++ m) w ↔ ∃ u v, w = u ++ v ∧ LgL R l u ∧ LgL R m v
 | [], m, w => by
  constructor
  ·
   exact fun h => ⟨[], w, rfl, LgL.nil.2 rfl, h⟩
  ·
   rintro ⟨u, v, rfl, h1, h2⟩
   rw [LgL.nil.1 h1]
   exact h2
 | s :: l, m, w => by
  rw [List.cons_append, LgL.cons]
  constructor
  ·
   rintro ⟨u, v, rfl, h1, h2⟩
   obtain ⟨u2, v2, rfl, h3, h4⟩ := LgL.append.1 h2
   exact ⟨u ++ u2, v2, (List.append_assoc _ _ _).symm, LgL.cons.2 ⟨u, u2, rfl, h1, h3⟩, h4⟩
  ·
   rintro ⟨u, v, rfl, h1, h2⟩
   obtain ⟨u1, u2, rfl, h3, h4⟩ := LgL.cons.1 h1
   exact ⟨u1, u2 ++ v, List.append_assoc _ _ _, h3, LgL.append.2 ⟨u2, v, rfl, h4, h2⟩⟩
theorem LgL.one {s : SymD} {w : List Int} : LgL R [s] w ↔ LgS R s w := by
 rw [LgL.cons]
 constructor
 ·
  rintro ⟨u, v, rfl, h1, h2⟩
  rw [LgL.nil.1 h2, List.append_nil]
  exact h1
 ·
  exact fun h => ⟨w, [], (List.append_nil w).symm, h, LgL.nil.2 rfl⟩
theorem LgL.snoc {l : List SymD} {s : SymD} {w : List Int} : LgL R (l ++ [s]) w ↔ ∃ u v, w = u ++ v ∧ LgL R l u ∧ LgS R s v := by
 rw [LgL.append]
 simp only [LgL.one]
theorem LgL.succ {l : List SymD} {i : Nat} {s : SymD} (h : l[i]? = some s) {w : List Int} : LgL R (l.take (i + 1)) w ↔ ∃ u v, w = u ++ v ∧ LgL R (l.take i) u ∧ LgS R s v := by
 rw [List.take_add_one, h]
 exact LgL.snoc
end
end Go.Proofs.YtocbkccchnbmaaaGreat
namespace Go.Proofs.YtocbkccchnbmaaaGreat
section
variable {R : List RuleD}
end
inductive Run (E : NfD) (x : Nat) : List Int → Nat → Prop
 | nil : Run E x [] x
 | eps {w : List Int} {y z : Nat} : Run E x w y → (y, z) ∈ E.eps → Run E x w z
 | edge {w : List Int} {y z : Nat} {c : Int} : Run E x w y → (y, c, z) ∈ E.edges → Run E x (w ++ [c]) z
inductive PRun (R : List RuleD) (ps : List PathD) (x : Int) : List Int → Int → Prop
 | nil : PRun R ps x [] x
 | snoc {u v : List Int} {p : PathD} : PRun R ps x u p.1 → p ∈ ps → LgL R p.2.2 v → PRun R ps x (u ++ v) p.2.1
section
variable {R : List RuleD} {ps : List PathD}
theorem PRun.one {p : PathD} (hp : p ∈ ps) {v : List Int} (h : LgL R p.2.2 v) : PRun R ps p.1 v p.2.1 := by
 have := PRun.snoc (u := []) .nil hp h
 simpa using this
theorem PRun.trans {x y z : Int} {u v : List Int} (h : PRun R ps x u y) (h' : PRun R ps y v z) : PRun R ps x (u ++ v) z := by
 induction h' with
 | nil => simpa using h
 | snoc h1 h2 h3 ih =>
  rw [← List.append_assoc]
  exact .snoc ih h2 h3
theorem Ext.put {rec : RecB} (hr : ∀ n x y st, Ext st (rec n x y st)) (x y : Nat) (s : SymD) (st : NfD) : Ext st (putB rec x y s st) := by
 unfold putB
 split
 ·
  exact ⟨Nat.le_refl _, fun _ h => h, fun _ h => List.mem_append_left _ h⟩
 ·
  exact hr _ _ _ _
theorem Ext.nodes1 (st : NfD) (n : Nat) : Ext st { st with nodes := st.nodes + n } := ⟨by simp, fun _ h => h, fun _ h => h⟩
theorem Ext.symB {rec : RecB} (hr : ∀ n x y st, Ext st (rec n x y st)) (m last : Nat) (a : Nat × NfD) (i : Nat) (s : SymD) : Ext a.2 (symB rec m last a i s).2 := by
 unfold Go.Proofs.YtocbkccchnbmaaaGreat.symB
 split
 ·
  exact (Ext.nodes1 a.2 1).trans (Ext.put hr _ _ _ _)
 ·
  exact Ext.put hr _ _ _ _
theorem Ext.step {rec : RecB} (hr : ∀ n x y st, Ext st (rec n x y st)) (last : Nat) (l : List SymD) (a : Nat × NfD) (i : Nat) : Ext (symsB rec last l a i).2 (symsB rec last l a (i + 1)).2 := by
 conv => rhs; unfold symsB
 split
 ·
  exact .refl _
 ·
  exact Ext.symB hr _ _ _ _ _
theorem Ext.syms {rec : RecB} (hr : ∀ n x y st, Ext st (rec n x y st)) (last : Nat) (l : List SymD) (a : Nat × NfD) {i : Nat} : ∀ {j : Nat}, i ≤ j → Ext (symsB rec last l a i).2 (symsB rec last l a j).2
 | 0, h => by obtain rfl : i = 0 := by omega
              exact .refl _
 | j + 1, h => by
  by_cases e : i = j + 1
  ·
   subst e; exact .refl _
  ·
   exact (Ext.syms hr last l a (by omega)).trans (Ext.step hr last l a j)
theorem Ext.path {rec : RecB} (hr : ∀ n x y st, Ext st (rec n x y st)) (first frm dst : Nat) (st : NfD) (p : PathD) : Ext st (pathB rec first frm dst st p) := by
 unfold pathB
 split
 ·
  exact ⟨Nat.le_refl _, fun _ h => List.mem_append_left _ h, fun _ h => h⟩
 ·
  exact Ext.syms hr _ _ (_, st) (i := 0) (Nat.zero_le _)
theorem Ext.paths {rec : RecB} (hr : ∀ n x y st, Ext st (rec n x y st)) (first frm dst : Nat) : ∀ (ps : List PathD) (st : NfD), Ext st (ps.foldl (pathB rec first frm dst) st)
 | [], st => .refl st
 | p :: ps, st => (Ext.path hr first frm dst st p).trans (Ext.paths hr first frm dst ps _)
theorem Ext.paths_mem {rec : RecB} (hr : ∀ n x y st, Ext st (rec n x y st)) (first frm dst : Nat) : ∀ {ps : List PathD} {p : PathD}, p ∈ ps → ∀ st : NfD, ∃ st', Ext (pathB rec first frm dst st' p) (ps.foldl (pathB rec first frm dst) st)
 | [], _, h => fun _ => by cases h
 | q :: ps, p, h => fun st => by
  rcases List.mem_cons.1 h with rfl | h
  ·
   exact ⟨st, Ext.paths hr first frm dst ps _⟩
  ·
   exact Ext.paths_mem hr first frm dst h _
theorem Ext.build (R : List RuleD) (cf : Int → CompD) : ∀ (f : Nat) (n : Int) (x y : Nat) (st : NfD), Ext st (buildF R cf f n x y st)
 | 0, _, _, _, st => .refl st
 | f + 1, n, x, y, st => by
  unfold buildF netB
  exact (Ext.nodes1 st _).trans (Ext.paths (Ext.build R cf f) _ _ _ _ _)
def RecLeads (R : List RuleD) (rec : RecB) (E : NfD) (l : List SymD) : Prop := ∀ s ∈ l, s.1 = false → ∀ a b st, Ext (rec s.2 a b st) E → ∀ x w u, Run E x w a → LgS R s u → Run E x (w ++ u) b
theorem put_leads {rec : RecB} {E : NfD} {l : List SymD} (H : RecLeads R rec E l) {s : SymD} (hs : s ∈ l) {a b : Nat} {st : NfD} (he : Ext (putB rec a b s st) E) {x : Nat} {w u : List Int} (hw : Run E x w a) (hu : LgS R s u) : Run E x (w ++ u) b := by
 unfold putB at he
 obtain ⟨t, c⟩ := s
 cases t with
 | true =>
  rw [LgS.term.1 hu]
  exact .edge hw (he.edges _ (by simp))
 | false => exact H _ hs rfl a b st he x w u hw hu
theorem syms_leads {rec : RecB} (hr : ∀ n x y st, Ext st (rec n x y st)) {E : NfD} {l : List SymD} (H : RecLeads R rec E l) {last a : Nat} {st : NfD} {x : Nat} {w : List Int} (hw : Run E x w a) :
    ∀ i, i ≤ l.length → Ext (symsB rec last l (a, st) i).2 E → ∀ u, LgL R (l.take i) u → Run E x (w ++ u) (symsB rec last l (a, st) i).1
 | 0, _, _, u, hu => by
  rw [List.take_zero] at hu
  rw [LgL.nil.1 hu, List.append_nil]
  exact hw
 | i + 1, hi, he, u, hu => by
  have hs : l[i]? = some l[i] := List.getElem?_eq_getElem (by omega)
  obtain ⟨u1, u2, rfl, h1, h2⟩ := (LgL.succ hs).1 hu
  have ih := syms_leads hr H (last := last) (st := st) hw i (by omega) ((Ext.step hr last l (a, st) i).trans he) u1 h1
  unfold symsB at he ⊢
  rw [hs] at he ⊢
  simp only at he ⊢
  rw [← List.append_assoc]
  unfold symB at he ⊢
  split
  ·
   rename_i h3
   rw [if_pos h3] at he
   exact put_leads H (List.getElem_mem _) he ih h2
  ·
   rename_i h3
   rw [if_neg h3] at he
   exact put_leads H (List.getElem_mem _) he ih h2
theorem syms_last {rec : RecB} {last : Nat} {l : List SymD} (h : l ≠ []) (a : Nat × NfD) : (symsB rec last l a l.length).1 = last := by
 have hp := List.length_pos_iff.2 h
 obtain ⟨m, hm⟩ : ∃ m, l.length = m + 1 := ⟨l.length - 1, by omega⟩
 rw [hm]
 unfold symsB
 rw [List.getElem?_eq_getElem (by omega : m < l.length)]
 simp only [symB]
 rw [if_neg (by omega)]
theorem path_leads {rec : RecB} (hr : ∀ n x y st, Ext st (rec n x y st)) {E : NfD} {p : PathD} (H : RecLeads R rec E p.2.2) {first frm dst : Nat} {st : NfD} (he : Ext (pathB rec first frm dst st p) E) {x : Nat} {w u : List Int} (hw : Run E x w (ndAt first frm dst p.1)) (hu : LgL R p.2.2 u) : Run E x (w ++ u) (ndAt first frm dst p.2.1) := by
 unfold pathB at he
 by_cases h : p.2.2 = []
 ·
  rw [if_pos h] at he
  rw [h] at hu
  rw [LgL.nil.1 hu, List.append_nil]
  exact .eps hw (he.eps _ (by simp))
 ·
  rw [if_neg h] at he
  have := syms_leads hr H hw p.2.2.length (Nat.le_refl _) he u (by rw [List.take_length]; exact hu)
  rwa [syms_last h] at this
end
def NetSound (R : List RuleD) (cf : Int → CompD) (N : Nat) : Prop := ∀ (n : Int) (w : List Int), 0 ≤ n ∧ n < N → LgS R (false, n) w → PRun R (netP R (cf n) n) (-1) w (-2)
theorem build_leads {R : List RuleD} {cf : Int → CompD} {N : Nat} {rk : Int → Nat} (H : NetOk R cf N rk) (hS : NetSound R cf N) {E : NfD} : ∀ (f : Nat) (n : Int), 0 ≤ n ∧ n < N → rk n ≤ f → ∀ frm dst st, Ext (buildF R cf f n frm dst st) E → ∀ x w u, Run E x w frm → LgS R (false, n) u → Run E x (w ++ u) dst
 | 0, n, hn, h => by have := (H.rk1 n hn).1; omega
 | f + 1, n, hn, h => by
  intro frm dst st he x w u hw hu
  unfold buildF netB at he
  have hp : ∀ {y : Int} {v : List Int}, PRun R (netP R (cf n) n) (-1) v y → Run E x (w ++ v) (ndAt st.nodes frm dst y) := by
   intro y v hv
   induction hv with
   | nil =>
    rw [List.append_nil]
    exact hw
   | snoc h1 h2 h3 ih =>
    rw [← List.append_assoc]
    obtain ⟨st', hx⟩ := Ext.paths_mem (Ext.build R cf f) st.nodes frm dst h2 { st with nodes := st.nodes + netN (cf n) }
    refine path_leads (Ext.build R cf f) (fun s hs h1 a b st2 h3 x2 w2 u2 h4 h5 => ?_) (hx.trans he) ih h3
    obtain ⟨hr, hl⟩ := H.low n _ s hn h2 hs h1
    obtain ⟨t, c⟩ := s
    subst h1
    exact build_leads H hS f c hr (by simp only at hl; omega) a b st2 h3 x2 w2 u2 h4 h5
  exact hp (hS n u hn hu)
structure Resp (V : Nat → List Int → Prop) (st : NfD) : Prop where
 eps : ∀ x y, (x, y) ∈ st.eps → ∀ u, V x u → V y u
 edges : ∀ x c y, (x, c, y) ∈ st.edges → ∀ u, V x u → V y (u ++ [c])
structure Ends2 (st : NfD) : Prop where
 eps : ∀ x ∈ st.eps, x.1 < st.nodes ∧ x.2 < st.nodes
 edges : ∀ x ∈ st.edges, x.1 < st.nodes ∧ x.2.2 < st.nodes
theorem Resp.run {V : Nat → List Int → Prop} {E : NfD} (h : Resp V E) {x : Nat} (hx : V x []) {w : List Int} {y : Nat} (hr : Run E x w y) : V y w := by
 induction hr with
 | nil => exact hx
 | eps _ h2 ih => exact h.eps _ _ h2 _ ih
 | edge _ h2 ih => exact h.edges _ _ _ h2 _ ih
theorem Resp.same {V V' : Nat → List Int → Prop} {st : NfD} (h : Resp V st) (he : Ends2 st) (hv : ∀ y, y < st.nodes → V' y = V y) : Resp V' st := by
 refine ⟨fun x y hm u hu => ?_, fun x c y hm u hu => ?_⟩
 ·
  have := he.eps _ hm
  rw [hv x this.1] at hu
  rw [hv y this.2]
  exact h.eps x y hm u hu
 ·
  have := he.edges _ hm
  rw [hv x this.1] at hu
  rw [hv y this.2]
  exact h.edges x c y hm u hu
section
variable {R : List RuleD}
def Goes (V : Nat → List Int → Prop) (st st' : NfD) : Prop := ∃ V', (∀ y, y < st.nodes → V' y = V y) ∧ Resp V' st' ∧ Ends2 st' ∧ st.nodes ≤ st'.nodes
def RecGoes (R : List RuleD) (rec : RecB) (l : List SymD) : Prop := ∀ s ∈ l, s.1 = false → ∀ a b st V, a < st.nodes → b < st.nodes → Ends2 st → Resp V st → (∀ u v, V a u → LgS R s v → V b (u ++ v)) → Goes V st (rec s.2 a b st)
theorem put_goes {rec : RecB} {l : List SymD} (H : RecGoes R rec l) {s : SymD} (hs : s ∈ l) {a b : Nat} {st : NfD} {V : Nat → List Int → Prop} (ha : a < st.nodes) (hb : b < st.nodes) (he : Ends2 st) (hV : Resp V st) (h : ∀ u v, V a u → LgS R s v → V b (u ++ v)) : Goes V st (putB rec a b s st) := by
 unfold putB
 obtain ⟨t, c⟩ := s
 cases t with
 | true =>
  refine ⟨V, fun _ _ => rfl, ⟨hV.eps, fun x d y hm u hu => ?_⟩, ⟨he.eps, fun x hm => ?_⟩, Nat.le_refl _⟩
  ·
   rcases List.mem_append.1 hm with hm | hm
   ·
    exact hV.edges x d y hm u hu
   ·
    have := List.mem_singleton.1 hm
    injection this with e1 e2
    injection e2 with e2 e3
    subst e1; subst e2; subst e3
    exact h u [d] hu (LgS.term.2 rfl)
  ·
   rcases List.mem_append.1 hm with hm | hm
   ·
    exact he.edges x hm
   ·
    rw [List.mem_singleton.1 hm]; exact ⟨ha, hb⟩
 | false => exact H _ hs rfl a b st V ha hb he hV h
theorem Goes.refl {V : Nat → List Int → Prop} {st : NfD} (h : Resp V st) (he : Ends2 st) : Goes V st st := ⟨V, fun _ _ => rfl, h, he, Nat.le_refl _⟩
theorem syms_goes {rec : RecB} {l : List SymD} (H : RecGoes R rec l) {last a : Nat} {st : NfD} {V : Nat → List Int → Prop} (ha : a < st.nodes) (hb : last < st.nodes) (he : Ends2 st) (hV : Resp V st) (h : ∀ u v, V a u → LgL R l v → V last (u ++ v)) :
    ∀ i, i ≤ l.length → ∃ V', (∀ y, y < st.nodes → V' y = V y) ∧ Resp V' (symsB rec last l (a, st) i).2 ∧ Ends2 (symsB rec last l (a, st) i).2 ∧ st.nodes ≤ (symsB rec last l (a, st) i).2.nodes ∧
     (symsB rec last l (a, st) i).1 < (symsB rec last l (a, st) i).2.nodes ∧ (i < l.length → ∀ w, V' (symsB rec last l (a, st) i).1 w → ∃ u v, w = u ++ v ∧ V a u ∧ LgL R (l.take i) v)
 | 0, _ => ⟨V, fun _ _ => rfl, hV, he, Nat.le_refl _, ha, fun _ w hw => ⟨w, [], (List.append_nil w).symm, hw, by rw [List.take_zero]; exact LgL.nil.2 rfl⟩⟩
 | i + 1, hi => by
  obtain ⟨V1, e1, e2, e3, e4, e5, e6⟩ := syms_goes H ha hb he hV h i (by omega)
  have e6 := e6 (by omega)
  have hs : l[i]? = some l[i] := List.getElem?_eq_getElem (by omega)
  have hm : l[i] ∈ l := List.getElem_mem _
  have hsu := fun w => LgL.succ (R := R) hs (w := w)
  unfold symsB
  rw [hs]
  simp only
  generalize symsB rec last l (a, st) i = q at e2 e3 e4 e5 e6 ⊢
  generalize hsd : l[i] = s at hs hm hsu
  unfold symB
  by_cases h1 : i + 1 < l.length
  ·
   rw [if_pos h1]
   obtain ⟨V2, hV2⟩ : ∃ V2 : Nat → List Int → Prop, V2 = fun y => if y < q.2.nodes then V1 y else fun w => ∃ u v, w = u ++ v ∧ V1 q.1 u ∧ LgS R s v := ⟨_, rfl⟩
   have f1 : ∀ y, y < q.2.nodes → V2 y = V1 y := fun y hy => by rw [hV2]; simp only [if_pos hy]
   have f2 : ∀ w, V2 q.2.nodes w ↔ ∃ u v, w = u ++ v ∧ V1 q.1 u ∧ LgS R s v := fun w => by rw [hV2]; simp only [if_neg (Nat.lt_irrefl _)]
   have f3 : Resp V2 { q.2 with nodes := q.2.nodes + 1 } := ⟨(e2.same e3 f1).eps, (e2.same e3 f1).edges⟩
   have f4 : Ends2 { q.2 with nodes := q.2.nodes + 1 } := ⟨fun x hx => by have := e3.eps x hx; simp; omega, fun x hx => by have := e3.edges x hx; simp; omega⟩
   obtain ⟨V3, g1, g2, g3, g4⟩ := put_goes H hm (a := q.1) (b := q.2.nodes) (st := { q.2 with nodes := q.2.nodes + 1 }) (V := V2) (by simp; omega) (by simp) f4 f3 fun u v hu hv => by
    rw [f1 _ e5] at hu
    exact (f2 _).2 ⟨u, v, rfl, hu, hv⟩
   simp only at g1 g4
   refine ⟨V3, fun y hy => by rw [g1 y (by omega), f1 y (by omega), e1 y hy], g2, g3, Nat.le_trans e4 (Nat.le_trans (Nat.le_succ _) g4), by simp only; omega, fun _ w hw => ?_⟩
   simp only at hw
   rw [g1 _ (by omega)] at hw
   obtain ⟨u, v, rfl, hu, hv⟩ := (f2 _).1 hw
   obtain ⟨u1, u2, rfl, h3, h4⟩ := e6 u hu
   exact ⟨u1, u2 ++ v, List.append_assoc _ _ _, h3, (hsu _).2 ⟨u2, v, rfl, h4, hv⟩⟩
  ·
   rw [if_neg h1]
   obtain ⟨V3, g1, g2, g3, g4⟩ := put_goes H hm (a := q.1) (b := last) (st := q.2) (V := V1) e5 (by omega) e3 e2 fun u v hu hv => by
    obtain ⟨u1, u2, rfl, h3, h4⟩ := e6 u hu
    rw [e1 _ hb, List.append_assoc]
    refine h u1 (u2 ++ v) h3 ?_
    have := (hsu (u2 ++ v)).2 ⟨u2, v, rfl, h4, hv⟩
    rwa [show i + 1 = l.length by omega, List.take_length] at this
   exact ⟨V3, fun y hy => by rw [g1 y (by omega), e1 y hy], g2, g3, Nat.le_trans e4 g4, by simp only; omega, fun h2 => by omega⟩
theorem path_goes {rec : RecB} {p : PathD} (H : RecGoes R rec p.2.2) {first frm dst : Nat} {st : NfD} {V : Nat → List Int → Prop} (ha : ndAt first frm dst p.1 < st.nodes) (hb : ndAt first frm dst p.2.1 < st.nodes) (he : Ends2 st) (hV : Resp V st) (h : ∀ u v, V (ndAt first frm dst p.1) u → LgL R p.2.2 v → V (ndAt first frm dst p.2.1) (u ++ v)) : Goes V st (pathB rec first frm dst st p) := by
 unfold pathB
 by_cases hl : p.2.2 = []
 ·
  rw [if_pos hl]
  refine ⟨V, fun _ _ => rfl, ⟨fun x y hm u hu => ?_, hV.edges⟩, ⟨fun x hm => ?_, he.edges⟩, Nat.le_refl _⟩
  ·
   rcases List.mem_append.1 hm with hm | hm
   ·
    exact hV.eps x y hm u hu
   ·
    have := List.mem_singleton.1 hm
    injection this with e1 e2
    subst e1; subst e2
    have := h u [] hu (by rw [hl]; exact LgL.nil.2 rfl)
    rwa [List.append_nil] at this
  ·
   rcases List.mem_append.1 hm with hm | hm
   ·
    exact he.eps x hm
   ·
    rw [List.mem_singleton.1 hm]; exact ⟨ha, hb⟩
 ·
  rw [if_neg hl]
  obtain ⟨V', e1, e2, e3, e4, _⟩ := syms_goes H ha hb he hV h p.2.2.length (Nat.le_refl _)
  exact ⟨V', e1, e2, e3, e4⟩
theorem paths_goes {rec : RecB} {first frm dst m : Nat} : ∀ (ps : List PathD), (∀ p ∈ ps, RecGoes R rec p.2.2 ∧ ((p.1 = -1 ∨ p.1 = -2) ∨ (0 ≤ p.1 ∧ p.1 < m)) ∧ ((p.2.1 = -1 ∨ p.2.1 = -2) ∨ (0 ≤ p.2.1 ∧ p.2.1 < m))) →
    ∀ (st : NfD) (V : Nat → List Int → Prop), frm < first + m → dst < first + m → first + m ≤ st.nodes → Ends2 st → Resp V st → (∀ p ∈ ps, ∀ u v, V (ndAt first frm dst p.1) u → LgL R p.2.2 v → V (ndAt first frm dst p.2.1) (u ++ v)) → Goes V st (ps.foldl (pathB rec first frm dst) st)
 | [], _, st, V, _, _, _, he, hV, _ => .refl hV he
 | p :: ps, hp, st, V, h1, h2, h3, he, hV, h => by
  obtain ⟨d1, d2, d3⟩ := hp p List.mem_cons_self
  have n1 : ∀ {z : Int}, ((z = -1 ∨ z = -2) ∨ (0 ≤ z ∧ z < m)) → ndAt first frm dst z < first + m := fun hz => ndAt_lt h1 h2 (Nat.le_refl _) hz
  obtain ⟨V1, e1, e2, e3, e4⟩ := path_goes d1 (Nat.lt_of_lt_of_le (n1 d2) h3) (Nat.lt_of_lt_of_le (n1 d3) h3) he hV (h p List.mem_cons_self)
  obtain ⟨V2, f1, f2, f3, f4⟩ := paths_goes ps (fun q hq => hp q (List.mem_cons_of_mem _ hq)) _ V1 h1 h2 (Nat.le_trans h3 e4) e3 e2 fun q hq u v hu hv => by
   obtain ⟨_, d4, d5⟩ := hp q (List.mem_cons_of_mem _ hq)
   rw [e1 _ (Nat.lt_of_lt_of_le (n1 d4) h3)] at hu
   rw [e1 _ (Nat.lt_of_lt_of_le (n1 d5) h3)]
   exact h q (List.mem_cons_of_mem _ hq) u v hu hv
  exact ⟨V2, fun y hy => by rw [f1 y (by omega), e1 y hy], f2, f3, Nat.le_trans e4 f4⟩
end
structure NetExact (R : List RuleD) (cf : Int → CompD) (N : Nat) (G : Int → Prop) : Prop where
 back : ∀ (n : Int) (w : List Int), 0 ≤ n ∧ n < N → G n → PRun R (netP R (cf n) n) (-1) w (-2) → LgS R (false, n) w
 next : ∀ (n : Int) (p : PathD) (s : SymD), 0 ≤ n ∧ n < N → G n → p ∈ netP R (cf n) n → s ∈ p.2.2 → s.1 = false → G s.2
theorem build_goes {R : List RuleD} {cf : Int → CompD} {N : Nat} {rk : Int → Nat} {G : Int → Prop} (H : NetOk R cf N rk) (hX : NetExact R cf N G) : ∀ (f : Nat) (n : Int), 0 ≤ n ∧ n < N → rk n ≤ f → G n →
    ∀ frm dst st V, frm < st.nodes → dst < st.nodes → Ends2 st → Resp V st → (∀ u v, V frm u → LgS R (false, n) v → V dst (u ++ v)) → Goes V st (buildF R cf f n frm dst st)
 | 0, n, hn, h, _ => by have := (H.rk1 n hn).1; omega
 | f + 1, n, hn, h, hG => by
  intro frm dst st V h1 h2 he hV hv
  unfold buildF netB
  obtain ⟨V0, hV0⟩ : ∃ V0 : Nat → List Int → Prop, V0 = fun y => if y < st.nodes then V y else fun w => ∃ u v, w = u ++ v ∧ V frm u ∧ PRun R (netP R (cf n) n) (-1) v ((y - st.nodes : Nat) : Int) := ⟨_, rfl⟩
  have f1 : ∀ y, y < st.nodes → V0 y = V y := fun y hy => by rw [hV0]; simp only [if_pos hy]
  have f2 : ∀ z : Int, 0 ≤ z → ∀ w, V0 (ndAt st.nodes frm dst z) w ↔ ∃ u v, w = u ++ v ∧ V frm u ∧ PRun R (netP R (cf n) n) (-1) v z := fun z hz w => by
   rw [hV0]
   unfold ndAt
   rw [if_neg (by omega), if_neg (by omega)]
   simp only [if_neg (show ¬ st.nodes + z.toNat < st.nodes by omega)]
   rw [show ((st.nodes + z.toNat - st.nodes : Nat) : Int) = z by omega]
  have g1 : Ends2 { st with nodes := st.nodes + netN (cf n) } := ⟨fun x hx => by have := he.eps x hx; simp; omega, fun x hx => by have := he.edges x hx; simp; omega⟩
  have g2 : Resp V0 { st with nodes := st.nodes + netN (cf n) } := ⟨(hV.same he f1).eps, (hV.same he f1).edges⟩
  have hpre : ∀ z : Int, z = -1 ∨ 0 ≤ z → ∀ w, V0 (ndAt st.nodes frm dst z) w → ∃ u v, w = u ++ v ∧ V frm u ∧ PRun R (netP R (cf n) n) (-1) v z := fun z hz w hw => by
   rcases hz with rfl | hz
   ·
    have hw' : V0 frm w := hw
    rw [f1 frm h1] at hw'
    exact ⟨w, [], (List.append_nil w).symm, hw', .nil⟩
   ·
    exact (f2 z hz w).1 hw
  obtain ⟨V1, e1, e2, e3, e4⟩ := paths_goes (R := R) (rec := buildF R cf f) (first := st.nodes) (frm := frm) (dst := dst) (m := netN (cf n)) (netP R (cf n) n) (fun p hp => ⟨fun s hs hsn a b st2 V2 k1 k2 k3 k4 k5 => by
   obtain ⟨hr, hl⟩ := H.low n p s hn hp hs hsn
   have hg := hX.next n p s hn hG hp hs hsn
   obtain ⟨t, c⟩ := s
   subst hsn
   exact build_goes H hX f c hr (by simp only at hl; omega) hg a b st2 V2 k1 k2 k3 k4 k5, (H.frm n p hn hp).imp (fun e => .inl e) id, (H.dst n p hn hp).imp (fun e => .inr e) id⟩)
   { st with nodes := st.nodes + netN (cf n) } V0 (by omega) (by omega) (Nat.le_refl _) g1 g2 fun p hp u v hu hw => by
    obtain ⟨u1, v1, rfl, k1, k2⟩ := hpre p.1 ((H.frm n p hn hp).imp id fun e => e.1) u hu
    have k3 := PRun.snoc k2 hp hw
    rw [List.append_assoc]
    rcases H.dst n p hn hp with e | e
    ·
     rw [e] at k3 ⊢
     show V0 dst _
     rw [f1 dst h2]
     exact hv u1 (v1 ++ v) k1 (hX.back n _ hn hG k3)
    ·
     exact (f2 _ e.1 _).2 ⟨u1, v1 ++ v, rfl, k1, k3⟩
  simp only at e1 e4
  exact ⟨V1, fun y hy => by rw [e1 y (by omega), f1 y hy], e2, e3, by omega⟩
end Go.Proofs.YtocbkccchnbmaaaGreat
