/- SzQ GMapE -/
import Derived.Test.YtbmcoamdfpegnaaMa07
import Derived.Test.YtbmcoamdfpegnaaMa20
import Derived.WideKeyEntry
namespace Go.Proofs.Ytbmcoamdfpegnaa
def cntQ (o : List Int) : Nat := o.countP fun x => decide (x < farZ)
def phiQ (x : Int) : Nat := if x = farZ then 1048577 else x.toNat
section
variable {P : List RuleD} {o : List Int} {N : Nat}
theorem foldQ_le {B : Nat} (hB : 1 ≤ B) (hr : RngS o) (hb : ∀ x ∈ o, x = farZ ∨ x ≤ (B : Int)) : ∀ (l : List SymD) {n : Int} {j : Nat}, 0 ≤ n → n ≤ ((j * B : Nat) : Int) → l.foldl (addS o) n < farZ → l.foldl (addS o) n ≤ (((j + l.length) * B : Nat) : Int)
 | [], n, j, _, h, _ => by simpa using h
 | s :: l, n, j, h0, h, hlt => by
  rw [List.foldl_cons] at hlt ⊢
  have h1 : (j + 1) * B = j * B + B := by rw [Nat.add_mul, Nat.one_mul]
  have h2 : addS o n s ≤ (((j + 1) * B : Nat) : Int) := by
   rw [h1]
   obtain ⟨b, x⟩ := s
   cases b with
   | true => rw [addS_term]; omega
   | false =>
    rw [addS_non] at hlt ⊢
    have h3 := hr.at_ x.toNat
    by_cases h4 : o.getD x.toNat farZ < farZ
    ·
     rcases hb _ (List.mem_of_getElem? (getD_lt h4)) with h5 | h5 <;> omega
    ·
     rw [Int.min_eq_right (by omega)] at hlt
     have := fold_far hr l (n := farZ) (by omega)
     omega
  have := foldQ_le hB hr hb l (j := j + 1) (addS_nonneg hr h0 s) h2 hlt
  rw [List.length_cons, show j + (l.length + 1) = j + 1 + l.length by omega]
  exact this
theorem cntQ_set : ∀ {l : List Int} {i : Nat} {x v : Int}, l[i]? = some x → v < farZ → cntQ (l.set i v) = cntQ l + (if x < farZ then 0 else 1)
 | [], i, x, v, h, _ => by simp at h
 | y :: l, 0, x, v, h, h0 => by
  simp only [List.getElem?_cons_zero, Option.some.injEq] at h
  subst h
  unfold cntQ
  rw [List.set_cons_zero, List.countP_cons, List.countP_cons]
  by_cases hy : y < farZ <;> simp [hy, h0]
 | y :: l, i + 1, x, v, h, h0 => by
  simp only [List.getElem?_cons_succ] at h
  have := cntQ_set (l := l) h h0
  unfold cntQ at this ⊢
  rw [List.set_cons_succ, List.countP_cons, List.countP_cons, this]
  omega
structure BQ (P : List RuleD) (N : Nat) (s : List Int × List Int) : Prop where
 bd : ∀ x ∈ s.1, x = farZ ∨ x ≤ ((4 ^ cntQ s.1 : Nat) : Int)
 few : s.2.length + 4 * P.length * (s.1.map phiQ).sum ≤ P.length + 4 * P.length * (N * 1048577)
theorem BQ.start (P : List RuleD) (N : Nat) : BQ P N (q0 P N) := by
 refine ⟨fun x hx => .inl (List.mem_replicate.1 hx).2, ?_⟩
 have h1 : ((q0 P N).1.map phiQ) = List.replicate N 1048577 := by
  show (List.replicate N farZ).map phiQ = _
  rw [List.map_replicate]
  rfl
 rw [h1]
 have h2 : (List.replicate N 1048577).sum = N * 1048577 := by simp
 rw [h2]
 simp [q0]
theorem BQ.step (hF : RulesN N P) (hN : N ≤ 10) (hr4 : ∀ r ∈ P, r.2.length ≤ 4) {u : List (List Int)} (hu : UsesOk P N P.length 0 u) {i : Int} {q : List Int} (h : QInv P N (o, i :: q)) (hb : BQ P N (o, i :: q)) : BQ P N (qS P u (o, i :: q)) := by
 obtain ⟨r, a, hr, ha, haN, _, _, hst⟩ := qS_step hF hu h
 have hoa : o[a]? = some (o.getD a farZ) := by rw [List.getD_eq_getElem?_getD, List.getElem?_eq_getElem (by have := h.len; simp only at this; omega)]; rfl
 have hf := hb.few
 simp only [List.length_cons] at hf
 rcases hst with ⟨hlt, e⟩ | ⟨_, e⟩
 ·
  rw [e]
  have hle : o.getD a farZ ≤ farZ := (h.rng.at_ a).2
  have h0 : 0 ≤ sumS o r.2 := fold_nonneg h.rng r.2 (Int.le_refl 0)
  have hc : cntQ o ≤ 10 := Nat.le_trans List.countP_le_length (by have := h.len; simp only at this; omega)
  have hp := four_pos (cntQ o)
  have hv : sumS o r.2 ≤ ((4 * 4 ^ cntQ o : Nat) : Int) := by
   have h1 := foldQ_le hp h.rng hb.bd r.2 (n := 0) (j := 0) (Int.le_refl 0) (by simp) (by have e : r.2.foldl (addS o) 0 = sumS o r.2 := rfl; rw [e]; omega)
   have h2 : (0 + r.2.length) * 4 ^ cntQ o ≤ 4 * 4 ^ cntQ o := Nat.mul_le_mul_right _ (by have := hr4 r (List.mem_of_getElem? hr); omega)
   have e : r.2.foldl (addS o) 0 = sumS o r.2 := rfl
   rw [e] at h1
   omega
  have hcs := cntQ_set hoa (v := sumS o r.2) (by omega)
  have hbd : ∀ x ∈ o.set a (sumS o r.2), x = farZ ∨ x ≤ ((4 ^ cntQ (o.set a (sumS o r.2)) : Nat) : Int) := by
   intro x hx
   rw [hcs]
   rcases List.mem_or_eq_of_mem_set hx with h1 | h1
   ·
    rcases hb.bd x h1 with h2 | h2
    ·
     exact .inl h2
    ·
     simp only at h2
     refine .inr ?_
     split
     ·
      exact h2
     ·
      rw [Nat.pow_succ]; omega
   ·
    subst h1
    refine .inr ?_
    split
    ·
     rename_i h2
     rcases hb.bd _ (List.mem_of_getElem? hoa) with h3 | h3
     ·
      omega
     ·
      simp only at h3
      rw [Nat.add_zero]
      omega
    ·
     rw [Nat.pow_succ]; omega
  refine ⟨hbd, ?_⟩
  have h6 : sumS o r.2 ≤ 1048576 := by
   have h3 := hbd (sumS o r.2) (List.mem_of_getElem? (List.getElem?_set_self (by have := h.len; simp only at this; omega)))
   have h4 : cntQ (o.set a (sumS o r.2)) ≤ 10 := Nat.le_trans List.countP_le_length (by rw [List.length_set]; have := h.len; simp only at this; omega)
   have h5 := four_le h4
   rcases h3 with h3 | h3 <;> omega
  have h7 : phiQ (sumS o r.2) < phiQ (o.getD a farZ) := by
   unfold phiQ
   rw [if_neg (by omega)]
   split <;> omega
  have h8 : ((o.set a (sumS o r.2)).map phiQ).sum < (o.map phiQ).sum := sum_set hoa h7
  have h9 : 4 * P.length * (((o.set a (sumS o r.2)).map phiQ).sum + 1) ≤ 4 * P.length * (o.map phiQ).sum := Nat.mul_le_mul_left _ h8
  rw [Nat.mul_add, Nat.mul_one] at h9
  have h10 : (u.getD a []).length ≤ 4 * P.length := by
   have hua : u[a]? = some (u.getD a []) := by rw [List.getD_eq_getElem?_getD, List.getElem?_eq_getElem (by rw [hu.len]; exact haN)]; rfl
   have := (hu.at_ a _ hua).2
   omega
  simp only [List.length_append]
  omega
 ·
  rw [e]
  exact ⟨hb.bd, by simp only; omega⟩
theorem qfew (hF : RulesN N P) (hN : N ≤ 10) (hP : P.length ≤ 4000) (hr4 : ∀ r ∈ P, r.2.length ≤ 4) : QFew P N := by
 intro u hu n
 have key : ∀ n, QInv P N (qN P u (q0 P N) n) ∧ BQ P N (qN P u (q0 P N) n) := by
  intro n
  induction n with
  | zero => exact ⟨QInv.start P N, BQ.start P N⟩
  | succ n ih =>
   show QInv P N (qS P u (qN P u (q0 P N) n)) ∧ BQ P N (qS P u (qN P u (q0 P N) n))
   obtain ⟨⟨o, q⟩, hs⟩ : ∃ s, s = qN P u (q0 P N) n := ⟨_, rfl⟩
   rw [← hs] at ih ⊢
   cases q with
   | nil => exact ih
   | cons i q =>
    obtain ⟨_, _, _, _, _, h1, _⟩ := qS_step hF hu ih.1
    exact ⟨h1, ih.2.step hF hN hr4 hu ih.1⟩
 have h := (key n).2.few
 have h1 : 4 * P.length * (N * 1048577) ≤ 4 * 4000 * (10 * 1048577) := Nat.mul_le_mul (by omega) (by omega)
 unfold maxQ
 omega
end
end Go.Proofs.Ytbmcoamdfpegnaa
namespace Go.Proofs.Ytbmcoamdfpegnaa
open Go.RowKit Go.Maps Go.ChangeMaps
theorem grown_setBlock {w : World} {b : Nat} {es : Array MapEntry} {clock : Nat} {o' : Obj} (h : w.heap[b]? = some (.map es clock)) : w.grownBy (setBlock w b o') (some b) :=
 ⟨rfl, rfl, rfl, by simp [setBlock], fun i _ hi => heap_setBlock_other h _ (fun e => hi (by rw [e]))⟩
section
variable {P : Program} {k : TypeId} {κ : Type} [DecidableEq κ] {K : KeyRep P k κ} {w : World} {b : Nat} {l : List (κ × Value)}
theorem AMap.entry {t e : TypeId} (h : AMap K w b l) (KL : WideMaps.KeyLaw P k) (ht : P.underlying t = some (.map k e)) {z : Value} (hz : ∀ u : World, (zeroValue e).run P u = .ok z u) {x : κ} (hx : K.ok x) (v : Value) (hl : l.length < maxLen) :
    ∃ (v0 : Value) (st : Nat) (w1 : World), (Instr.mapEntry t (.map (some b)) (K.val x)).run P w = .ok (.tuple #[v0, .int .i64 (st : Int)]) w1 ∧ w.grownBy w1 (some b) ∧
     ∀ w2 : World, w2.heap[b]? = w1.heap[b]? → ∃ w3, (Instr.entryStore t (.map (some b)) (.int .i64 (st : Int)) v).run P w2 = .ok () w3 ∧ AMap K w3 b (putL l x v) ∧ w2.grownBy w3 (some b) := by
 obtain ⟨w', hrun, hm, _⟩ := h.put ht hx v hl
 obtain ⟨D, ⟨es, clock, hb, F, hs, hD⟩, _⟩ := h
 obtain ⟨kl, hk⟩ := K.lit x hx
 obtain ⟨v0, st, es1, clock1, h1, _, h2⟩ := WideElems.entry_then_store KL ht hz hb F hk
 refine ⟨v0, st, _, h1, grown_setBlock hb, fun w2 hw2 => ?_⟩
 rw [heap_setBlock_same hb] at hw2
 obtain ⟨es', clock', h3, h4⟩ := h2 w2 v hw2
 rw [hrun] at h4
 injection h4 with _ h4
 subst h4
 exact ⟨_, h3, hm.block (by rw [heap_setBlock_same hw2, heap_setBlock_same hb]), grown_setBlock hw2⟩
end
end Go.Proofs.Ytbmcoamdfpegnaa
