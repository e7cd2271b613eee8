/- ApxMid -/
import Derived.Test.YtocbkccchnbmaaaGreatAw20
namespace Go.Proofs.YtocbkccchnbmaaaGreat
theorem sum_take_le (f : PathD → Nat) (l : List PathD) (i : Nat) : ((l.take i).map f).sum ≤ (l.map f).sum := by
 conv => rhs; rw [← List.take_append_drop i l, List.map_append, List.sum_append]
 omega
theorem sum_take_lt (f : PathD → Nat) {l : List PathD} {i : Nat} {p : PathD} (h : l[i]? = some p) : ((l.take i).map f).sum + f p ≤ (l.map f).sum := by
 have := sum_take_le f l (i + 1)
 rw [List.take_add_one, h, List.map_append, List.sum_append] at this
 simpa using this
theorem symsB_ext_path {rec : RecB} (hr : ∀ n x y st, Ext st (rec n x y st)) {first frm dst : Nat} {st : NfD} {p : PathD} {j : Nat} (hj : j ≤ p.2.2.length) : Ext (symsB rec (ndAt first frm dst p.2.1) p.2.2 (ndAt first frm dst p.1, st) j).2 (pathB rec first frm dst st p) := by
 unfold pathB
 by_cases h : p.2.2 = []
 ·
  rw [if_pos h]
  rw [h] at hj ⊢
  obtain rfl : j = 0 := by simpa using hj
  exact ⟨Nat.le_refl _, fun _ h => List.mem_append_left _ h, fun _ h => h⟩
 ·
  rw [if_neg h]
  exact Ext.syms hr _ _ _ hj
section
variable {R : List RuleD} {cf : Int → CompD} {N T : Nat} {rk : Int → Nat}
def midB (R : List RuleD) (cf : Int → CompD) (rec : RecB) (n : Int) (frm dst : Nat) (st : NfD) (i : Nat) : NfD := ((netP R (cf n) n).take i).foldl (pathB rec st.nodes frm dst) { st with nodes := st.nodes + netN (cf n) }
theorem midB_succ {rec : RecB} {n : Int} {frm dst : Nat} {st : NfD} {i : Nat} {p : PathD} (h : (netP R (cf n) n)[i]? = some p) : midB R cf rec n frm dst st (i + 1) = pathB rec st.nodes frm dst (midB R cf rec n frm dst st i) p := by
 unfold midB
 rw [List.take_add_one, h, List.foldl_append]
 rfl
theorem midB_all {rec : RecB} {n : Int} {frm dst : Nat} {st : NfD} : midB R cf rec n frm dst st (netP R (cf n) n).length = netB R cf rec n frm dst st := by
 unfold midB netB
 rw [List.take_length]
theorem midB_ext {rec : RecB} (hr : ∀ n x y st, Ext st (rec n x y st)) {n : Int} {frm dst : Nat} {st : NfD} (i : Nat) : Ext (midB R cf rec n frm dst st i) (netB R cf rec n frm dst st) := by
 unfold midB netB
 conv => rhs; rw [← List.take_append_drop i (netP R (cf n) n), List.foldl_append]
 exact Ext.paths hr _ _ _ _ _
structure MidOk (a : NfD) : Prop where
 few : a.eps.length + a.edges.length ≤ 600 * a.nodes
theorem mid_net (H : NetOk R cf N rk) (hT : TermsOk R T) (hlen : ∀ r ∈ R, r.2.length ≤ 4) (hR : R.length ≤ 64) {n : Int} (hn : 0 ≤ n ∧ n < N) {frm dst : Nat} {st : NfD} (h1 : frm < st.nodes) (h2 : dst < st.nodes) (h0 : MidOk st) (i : Nat) :
    (∀ p ∈ netP R (cf n) n, RecOk T (sizeN R cf N) (buildN R cf N) p.2.2 ∧ ((p.1 = -1 ∨ p.1 = -2) ∨ (0 ≤ p.1 ∧ p.1 < netN (cf n))) ∧ ((p.2.1 = -1 ∨ p.2.1 = -2) ∨ (0 ≤ p.2.1 ∧ p.2.1 < netN (cf n)))) ∧
    st.nodes + netN (cf n) ≤ (midB R cf (buildN R cf N) n frm dst st i).nodes ∧
    (midB R cf (buildN R cf N) n frm dst st i).eps.length + (midB R cf (buildN R cf N) n frm dst st i).edges.length + 600 ≤ 600 * (midB R cf (buildN R cf N) n frm dst st i).nodes + (((netP R (cf n) n).take i).map pathE).sum := by
 have hall : ∀ p ∈ netP R (cf n) n, RecOk T (sizeN R cf N) (buildN R cf N) p.2.2 ∧ ((p.1 = -1 ∨ p.1 = -2) ∨ (0 ≤ p.1 ∧ p.1 < netN (cf n))) ∧ ((p.2.1 = -1 ∨ p.2.1 = -2) ∨ (0 ≤ p.2.1 ∧ p.2.1 < netN (cf n))) := fun p hp =>
  ⟨fun s hs => ⟨fun h1 => by
   obtain ⟨r, hr, _, hm⟩ := netP_syms hp hs
   exact hT r hr s hm h1, fun h1 x y st hx hy => by
   obtain ⟨hr, _⟩ := H.low n p s hn hp hs h1
   exact buildN_adds H hT hlen hR hr hx hy⟩, (H.frm n p hn hp).imp (fun e => .inl e) id, (H.dst n p hn hp).imp (fun e => .inr e) id⟩
 have h := pathsB_adds (T := T) (sz := sizeN R cf N) (rec := buildN R cf N) (first := st.nodes) (frm := frm) (dst := dst) (m := netN (cf n)) ((netP R (cf n) n).take i) (fun p hp => hall p (List.mem_of_mem_take hp)) { st with nodes := st.nodes + netN (cf n) } (by simp; omega) (by simp; omega) (by simp)
 have hp := H.pos n hn
 have h3 := h.few
 have h4 := h.ext.nodes
 have h5 := h0.few
 refine ⟨hall, h4, ?_⟩
 unfold midB
 simp only at h3
 omega
theorem mid_ok (H : NetOk R cf N rk) (hT : TermsOk R T) (hlen : ∀ r ∈ R, r.2.length ≤ 4) (hR : R.length ≤ 64) {n : Int} (hn : 0 ≤ n ∧ n < N) {frm dst : Nat} {st : NfD} (h1 : frm < st.nodes) (h2 : dst < st.nodes) (h0 : MidOk st) (i : Nat) :
    MidOk (midB R cf (buildN R cf N) n frm dst st i) ∧ Ext (midB R cf (buildN R cf N) n frm dst st i) (buildN R cf N n frm dst st) ∧ st.nodes + netN (cf n) ≤ (midB R cf (buildN R cf N) n frm dst st i).nodes := by
 obtain ⟨h3, h4, h5⟩ := mid_net H hT hlen hR hn h1 h2 h0 i
 have h6 := sum_take_le pathE (netP R (cf n) n) i
 have h7 := netU_tot (c := cf n) (x := n) hlen R.length
 refine ⟨⟨?_⟩, ?_, h4⟩
 ·
  unfold netP at h6
  unfold netP at h5
  omega
 ·
  rw [buildN_eq H hn]
  exact midB_ext (Ext.build R cf N) i
theorem mid_syms (H : NetOk R cf N rk) (hT : TermsOk R T) (hlen : ∀ r ∈ R, r.2.length ≤ 4) (hR : R.length ≤ 64) {n : Int} (hn : 0 ≤ n ∧ n < N) {frm dst : Nat} {st : NfD} (h1 : frm < st.nodes) (h2 : dst < st.nodes) (h0 : MidOk st) {i : Nat} {p : PathD} (hp : (netP R (cf n) n)[i]? = some p) {j : Nat} (hj : j ≤ p.2.2.length) :
    ndAt st.nodes frm dst p.1 < (midB R cf (buildN R cf N) n frm dst st i).nodes ∧ ndAt st.nodes frm dst p.2.1 < (midB R cf (buildN R cf N) n frm dst st i).nodes ∧
    (symsB (buildN R cf N) (ndAt st.nodes frm dst p.2.1) p.2.2 (ndAt st.nodes frm dst p.1, midB R cf (buildN R cf N) n frm dst st i) j).1 < (symsB (buildN R cf N) (ndAt st.nodes frm dst p.2.1) p.2.2 (ndAt st.nodes frm dst p.1, midB R cf (buildN R cf N) n frm dst st i) j).2.nodes ∧
    ndAt st.nodes frm dst p.2.1 < (symsB (buildN R cf N) (ndAt st.nodes frm dst p.2.1) p.2.2 (ndAt st.nodes frm dst p.1, midB R cf (buildN R cf N) n frm dst st i) j).2.nodes ∧
    MidOk (symsB (buildN R cf N) (ndAt st.nodes frm dst p.2.1) p.2.2 (ndAt st.nodes frm dst p.1, midB R cf (buildN R cf N) n frm dst st i) j).2 ∧
    Ext (symsB (buildN R cf N) (ndAt st.nodes frm dst p.2.1) p.2.2 (ndAt st.nodes frm dst p.1, midB R cf (buildN R cf N) n frm dst st i) j).2 (buildN R cf N n frm dst st) := by
 obtain ⟨h3, h4, h5⟩ := mid_net H hT hlen hR hn h1 h2 h0 i
 obtain ⟨e1, e2, e3⟩ := h3 p (List.mem_of_getElem? hp)
 have n1 : ∀ {z : Int}, ((z = -1 ∨ z = -2) ∨ (0 ≤ z ∧ z < netN (cf n))) → ndAt st.nodes frm dst z < (midB R cf (buildN R cf N) n frm dst st i).nodes := fun hz => ndAt_lt (by omega) (by omega) h4 hz
 have h6 := sum_take_lt pathE hp
 have h7 := netU_tot (c := cf n) (x := n) hlen R.length
 have hx := symsB_ext_path (rec := buildN R cf N) (Ext.build R cf N) (first := st.nodes) (frm := frm) (dst := dst) (st := midB R cf (buildN R cf N) n frm dst st i) (p := p) hj
 have h8 := midB_succ (rec := buildN R cf N) (frm := frm) (dst := dst) (st := st) hp
 have h9 := midB_ext (R := R) (cf := cf) (rec := buildN R cf N) (Ext.build R cf N) (n := n) (frm := frm) (dst := dst) (st := st) (i + 1)
 rw [h8] at h9
 generalize midB R cf (buildN R cf N) n frm dst st i = a at *
 obtain ⟨g1, g2⟩ := symsB_adds e1 (n1 e2) (n1 e3) j hj
 refine ⟨n1 e2, n1 e3, g1, Nat.lt_of_lt_of_le (n1 e3) g2.ext.nodes, ⟨?_⟩, ?_⟩
 ·
  have := g2.few
  unfold netP at h6
  unfold netP at h5
  unfold pathE at h6 h7
  unfold pathE at h5
  omega
 ·
  rw [buildN_eq H hn]
  exact hx.trans h9
end
end Go.Proofs.YtocbkccchnbmaaaGreat
