/- SizePlain MakeTree3 -/
import Derived.Test.YtgaahpddlohjoaaAh18
import Derived.Test.YtgaahpddlohjoaaAh51
namespace Go.Proofs.Ytgaahpddlohjoaa
section
variable {R : List RuleD} {N : Nat}
theorem TVL.edges {x : Nat × Nat} : ∀ {l : List SymD} {ts : List TreeD} {k : Nat}, TVL R l ts → (wordTs ts).length = k → Suffix R x l k → ∀ (i : Nat) (t : TreeD), ts[i]? = some t → ∀ b : Nat, l[i]? = some (false, (b : Int)) → Edge R x (b, (wordT t).length)
 | [], ts, k, h, _, _, i, t, hi, b, _ => by rw [h.inv_nil] at hi; simp at hi
 | s :: l, ts, k, h, hk, hsx, i, t, hi, b, hb => by
  obtain ⟨t', ts', rfl, h1, h2⟩ := h.inv
  rw [wordTs_cons, List.length_append] at hk
  have hd1 := h1.der
  have hd2 := h2.der
  have hle : (wordT t').length ≤ k := by omega
  have hq : (wordTs ts').length = k - (wordT t').length := by omega
  rw [hq] at hd2
  cases i with
  | zero =>
   simp only [List.getElem?_cons_zero, Option.some.injEq] at hi hb
   subst hi
   subst hb
   exact hsx.edge hle hd1 hd2
  | succ i =>
   simp only [List.getElem?_cons_succ] at hi hb
   exact TVL.edges h2 hq (hsx.next hle hd1) i t hi b hb
def Bnd (n v s : Nat) : Prop := (n = 0 → (v = 0 → s ≤ 40) ∧ (v = 1 → s ≤ 13) ∧ (v = 2 → s ≤ 4) ∧ (v = 3 → s ≤ 1)) ∧ (1 ≤ n → s + 284 + 81 * v ≤ 609 * n)
def KA (n v s m : Nat) : Prop := (m = 0 → s ≤ 40) ∧ (1 ≤ m → s + 284 ≤ 609 * m) ∧ (m = n → 1 ≤ n → (n = 1 ∧ s = 1) ∨ (v ≤ 2 ∧ s + 365 + 81 * v ≤ 609 * n)) ∧
 (n = 0 → m = 0 → (v = 0 → s ≤ 13) ∧ (v = 1 → s ≤ 4) ∧ (v = 2 → s ≤ 1) ∧ (v = 3 → s ≤ 0))
theorem KA.none {n v : Nat} : KA n v 0 0 := by unfold KA; omega
theorem KA.leaf {n v : Nat} (hv : v ≤ 3) : KA n v 1 1 := by unfold KA; omega
theorem KA.of {n v s m : Nat} (h1 : Bnd m 0 s) (h2 : m = n → v ≤ 2 ∧ Bnd n (v + 1) s) : KA n v s m := by
 by_cases e : m = n
 ·
  obtain ⟨h3, h4⟩ := h2 e
  unfold Bnd at h1 h4
  unfold KA
  subst e
  by_cases e0 : m = 0
  ·
   obtain ⟨a1, a2, a3, a4⟩ := h4.1 e0
   have b1 := (h1.1 e0).1 rfl
   refine ⟨fun _ => b1, fun h => absurd h (by omega), fun _ h => absurd h (by omega), fun _ _ => ⟨fun h => a2 (by omega), fun h => a3 (by omega), fun h => a4 (by omega), fun h => absurd h (by omega)⟩⟩
  ·
   have b1 := h1.2 (by omega)
   have b2 := h4.2 (by omega)
   exact ⟨fun h => absurd h e0, fun _ => by omega, fun _ _ => Or.inr ⟨h3, by omega⟩, fun h => absurd h e0⟩
 ·
  unfold Bnd at h1
  unfold KA
  exact ⟨fun h => (h1.1 h).1 rfl, fun h => by have := h1.2 h; omega, fun h => absurd h e, fun h1 h2 => absurd (h2.trans h1.symm) e⟩
theorem bnd3 {n v s1 s2 s3 m1 m2 m3 : Nat} (hn : m1 + m2 + m3 = n) (hv : v ≤ 3) (h1 : KA n v s1 m1) (h2 : KA n v s2 m2) (h3 : KA n v s3 m3) : Bnd n v (1 + (s1 + s2 + s3)) := by
 obtain ⟨a1, a2, a3, a4⟩ := h1
 obtain ⟨b1, b2, b3, b4⟩ := h2
 obtain ⟨c1, c2, c3, c4⟩ := h3
 unfold Bnd
 by_cases hn0 : n = 0
 ·
  have a4 := a4 hn0 (by omega)
  have b4 := b4 hn0 (by omega)
  have c4 := c4 hn0 (by omega)
  clear a1 a2 a3 b1 b2 b3 c1 c2 c3
  refine ⟨fun _ => ⟨?_, ?_, ?_, ?_⟩, fun h => absurd h (by omega)⟩ <;> intro e <;> subst e <;> omega
 ·
  refine ⟨fun h => absurd h hn0, fun _ => ?_⟩
  clear a4 b4 c4
  by_cases z1 : m1 = n
  ·
   have x1 := a3 z1 (by omega)
   have x2 := b1 (by omega)
   have x3 := c1 (by omega)
   clear a1 a2 a3 b1 b2 b3 c1 c2 c3
   omega
  ·
   by_cases z2 : m2 = n
   ·
    have x1 := b3 z2 (by omega)
    have x2 := a1 (by omega)
    have x3 := c1 (by omega)
    clear a1 a2 a3 b1 b2 b3 c1 c2 c3
    omega
   ·
    by_cases z3 : m3 = n
    ·
     have x1 := c3 z3 (by omega)
     have x2 := b1 (by omega)
     have x3 := a1 (by omega)
     clear a1 a2 a3 b1 b2 b3 c1 c2 c3
     omega
    ·
     clear a3 b3 c3
     by_cases y1 : m1 = 0
     ·
      have := a1 y1
      have := b2 (by omega)
      have := c2 (by omega)
      clear a1 a2 b1 b2 c1 c2
      omega
     ·
      have := a2 (by omega)
      by_cases y2 : m2 = 0
      ·
       have := b1 y2
       have := c2 (by omega)
       clear a1 a2 b1 b2 c1 c2
       omega
      ·
       have := b2 (by omega)
       by_cases y3 : m3 = 0
       ·
        have := c1 y3
        clear a1 a2 b1 b2 c1 c2
        omega
       ·
        have := c2 (by omega)
        clear a1 a2 b1 b2 c1 c2
        omega
theorem TV.bnd (hR : RulesN N R) (hN : N ≤ 4) (hr3 : ∀ r ∈ R, r.2.length ≤ 3) : ∀ (m : Nat) {a n : Nat} {t : TreeD} (vis : List Nat), sizeT t ≤ m → TV R (false, (a : Int)) t → (wordT t).length = n → a < N → ¬ Many R (a, n) →
    vis.Nodup → (∀ v ∈ vis, v < N ∧ Reach (Edge R) (v, n) (a, n)) → vis.length ≤ 3 ∧ Bnd n vis.length (sizeT t)
 | 0, a, n, t, vis, hm, _, _, _, _, _, _ => by rw [sizeT_eq] at hm; omega
 | m + 1, a, n, t, vis, hm, h, hn, ha, hmany, hnd, hvis => by
  have hav : a ∉ vis := fun h => hmany ⟨(a, n), .inl rfl, (hvis a h).2⟩
  have hnd' : (a :: vis).Nodup := List.nodup_cons.2 ⟨hav, hnd⟩
  have hlen : (a :: vis).length ≤ N := pigeon hnd' fun x hx => by
   rcases List.mem_cons.1 hx with rfl | h
   ·
    exact ha
   ·
    exact (hvis x h).1
  have hv3 : vis.length ≤ 3 := by rw [List.length_cons] at hlen; omega
  refine ⟨hv3, ?_⟩
  rcases h.inv with ⟨c, e, _⟩ | ⟨k, r, ts, e, rfl, h1, h2⟩
  ·
   cases e
  ·
   injection e with _ e
   rw [wordT_node] at hn
   rw [sizeT_eq] at hm ⊢
   simp only [TreeD.kids] at hm ⊢
   have hmem := List.mem_of_getElem? h1
   have hedge := TVL.edges h2 hn (Suffix.start (x := (a, n)) hmem e.symm)
   have hkid : ∀ (i : Nat) (t : TreeD), ts[i]? = some t → KA n vis.length (sizeT t) (wordT t).length := by
    intro i t hi
    obtain ⟨s, hs, hts⟩ := h2.get hi
    have hle := sizeT_mem (List.mem_of_getElem? hi)
    obtain ⟨b, y⟩ := s
    cases b with
    | true =>
     rcases hts.inv with ⟨c, e, rfl⟩ | ⟨_, _, _, e, _⟩
     ·
      rw [wordT_leaf, sizeT_eq]
      exact KA.leaf hv3
     ·
      injection e with e _
      cases e
    | false =>
     have hy := (hR r hmem).2 (false, y) (List.mem_of_getElem? hs) rfl
     obtain ⟨b, rfl⟩ : ∃ b : Nat, y = (b : Int) := ⟨y.toNat, by have := hy.1; dsimp only at this; omega⟩
     have he := hedge i t hi b hs
     refine KA.of (TV.bnd hR hN hr3 m [] (by omega) hts rfl (he.lt hR) (fun h => hmany (h.back he)) .nil (by simp)).2 fun e => ?_
     rw [e] at he
     have h3 := TV.bnd hR hN hr3 m (a :: vis) (by omega) hts e (he.lt hR) (fun h => hmany (h.back he)) hnd' (by
      intro v hv
      rcases List.mem_cons.1 hv with rfl | h
      ·
       exact ⟨ha, .one he⟩
      ·
       exact ⟨(hvis v h).1, (hvis v h).2.trans (.one he)⟩)
     rw [List.length_cons] at h3
     exact ⟨by omega, h3.2⟩
   have hl3 : ts.length ≤ 3 := by rw [h2.len]; exact hr3 r hmem
   clear hedge hvis hmany hnd hav hnd'
   match ts, hkid, hl3, hn with
   | [], _, _, hn =>
    rw [wordTs_nil] at hn
    rw [sizeTs_nil]
    exact bnd3 (s1 := 0) (s2 := 0) (s3 := 0) (m1 := 0) (m2 := 0) (m3 := 0) (by simpa using hn) hv3 .none .none .none
   | [t1], hkid, _, hn =>
    rw [wordTs_cons, wordTs_nil, List.append_nil] at hn
    rw [sizeTs_cons, sizeTs_nil]
    exact bnd3 (s2 := 0) (s3 := 0) (m2 := 0) (m3 := 0) (by simpa using hn) hv3 (hkid 0 t1 rfl) .none .none
   | [t1, t2], hkid, _, hn =>
    rw [wordTs_cons, wordTs_cons, wordTs_nil, List.append_nil, List.length_append] at hn
    rw [sizeTs_cons, sizeTs_cons, sizeTs_nil]
    have := bnd3 (s3 := 0) (m3 := 0) (by simpa using hn) hv3 (hkid 0 t1 rfl) (hkid 1 t2 rfl) .none
    simpa using this
   | [t1, t2, t3], hkid, _, hn =>
    rw [wordTs_cons, wordTs_cons, wordTs_cons, wordTs_nil, List.append_nil, List.length_append, List.length_append] at hn
    rw [sizeTs_cons, sizeTs_cons, sizeTs_cons, sizeTs_nil]
    have := bnd3 (by rw [← Nat.add_assoc] at hn; exact hn) hv3 (hkid 0 t1 rfl) (hkid 1 t2 rfl) (hkid 2 t3 rfl)
    rw [Nat.add_zero, ← Nat.add_assoc (sizeT t1)]
    exact this
   | _ :: _ :: _ :: _ :: _, _, h, _ => simp at h
theorem TV.few (hR : RulesN N R) (hN : N ≤ 4) (hr3 : ∀ r ∈ R, r.2.length ≤ 3) {a n : Nat} {t : TreeD} (h : TV R (false, (a : Int)) t) (hn : (wordT t).length = n) (ha : a < N) (hmany : ¬ Many R (a, n)) (h8 : n ≤ 8) : sizeT t ≤ 5000 := by
 have h1 := (TV.bnd hR hN hr3 _ [] (Nat.le_refl _) h hn ha hmany .nil (by simp)).2
 unfold Bnd at h1
 rcases Nat.eq_zero_or_pos n with h0 | h0
 ·
  have := (h1.1 h0).1 rfl; omega
 ·
  have := h1.2 h0; omega
end
end Go.Proofs.Ytgaahpddlohjoaa
namespace Go.Proofs.Ytgaahpddlohjoaa
open Go.RowKit
theorem makeTreeAny {g : GramD} (hv : GValid g) {AR : Option Addr} {nR cR : Nat} {l : List Int} {S : Nat → Prop} {Bl Bs lo hi : Nat} (hB1 : lo ≤ Bl) (hB2 : Bl < hi) (hB3 : lo ≤ Bs) (hB4 : Bs < hi) (hne : Bl ≠ Bs) (hS : ∀ b, S b → b < lo) :
    ∀ (D : Nat) (dp : Int), dp = (D : Int) - 1 → D ≤ 100 → ∀ (w : World) (left : Int) (y : SymD), TrSt w S Bl Bs l left → hi ≤ w.heap.size → Sl RRule w (fun b => b < lo) AR nR cR g.2.2.2 → 0 ≤ left → left ≤ 60 →
    Calls Try.prog 63 #[.agg #[.int .i64 g.1, .int .i64 g.2.1, .int .i64 g.2.2.1, .slice AR nR cR], .agg #[.bool y.1, .int .i64 y.2], .pointer (some ⟨Bs, 0, none⟩), .pointer (some ⟨Bl, 0, none⟩), .int .i64 dp] w fun e w' =>
     ∃ left', left' < left ∧ TrSt w' S Bl Bs l left' ∧ Aside lo hi w w' ∧ MkOk g.2.2.2 y w.heap.size left left' e w'
 | 0, dp, hdp, _, w, left, y, hst, _, _, h0, h60 => makeTreeEnd hB1 hB2 hne hS dp w left y hst h0 h60 (Or.inr (by omega))
 | D + 1, dp, hdp, hD, w, left, y, hst, hhi, hg, h0, h60 => by
  by_cases hl : left - 1 < 0
  ·
   exact makeTreeEnd hB1 hB2 hne hS dp w left y hst h0 h60 (Or.inl hl)
  ·
   obtain ⟨b, yn⟩ := y
   cases b with
   | true => exact makeTreeLeaf hB1 hB2 hne hS dp w left yn hst (by omega) h60 (by omega)
   | false => exact makeTreeNode hv hB1 hB2 hB3 hB4 hne hS dp w left yn hst hhi hg (by omega) h60 (by omega) (by omega) (makeTreeAny hv hB1 hB2 hB3 hB4 hne hS D (dp - 1) (by omega) (by omega))
def TreeMade (g : GramD) (base : Nat) (e : Ending) (w' : World) : Prop :=
 e = .returned (.tuple #[.agg #[.int .i64 0, .int .i64 0, .slice none 0 0], .bool false]) ∨
  ∃ (t : TreeD) (A : Option Addr) (m c : Nat), e = .returned (.tuple #[.agg #[.int .i64 t.rule, .int .i64 t.term, .slice A m c], .bool true]) ∧ TV g.2.2.2 (false, g.2.2.1) t ∧ Sl RTree w' (fun b => base ≤ b) A m c t.kids ∧ sizeT t ≤ 60
set_option linter.unusedSimpArgs false in
set_option maxRecDepth 100000 in
set_option maxHeartbeats 4000000 in
theorem makeTree (w : World) (S S' : Nat → Prop) (AR : Option Addr) (nR cR : Nat) (g : GramD) (hg : Sl RRule w S AR nR cR g.2.2.2) (hv : GValid g) (A : Option Addr) (n c : Nat) (l : List Int) (hl : Sl Rep.int w S' A n c l) (hn : n ≤ 1000000000000000) :
    Calls Try.prog 31 #[.agg #[.int .i64 g.1, .int .i64 g.2.1, .int .i64 g.2.2.1, .slice AR nR cR], .slice A n c] w fun e w' => TreeMade g w.heap.size e w' ∧ Below w.heap.size w w' := by
 have HG := Lib.hid hg.fit
 have HL := Lib.hid hl.fit
 have HV := Lib.hid hv
 clear hg hl hv
 obtain ⟨w1, hw1⟩ : ∃ w1 : World, w1 = (((w.alloc (.cells #[.int .i64 g.1, .int .i64 g.2.1, .int .i64 g.2.2.1, .slice AR nR cR] 52)).alloc (.cells #[.int .i64 0, .int .i64 0, .slice none 0 0] 59)).alloc (.cells #[.int .i64 60] 3)).alloc (.cells #[.slice A n c] 76) := ⟨_, rfl⟩
 have hz1 : w1.heap.size = w.heap.size + 4 := by rw [hw1]; simp
 have hb1 : Below w.heap.size w w1 := by rw [hw1]; exact (Below.three _ _ _).alloc (by simp; omega) _
 have hblk : w1.heap[w.heap.size + 2]? = some (.cells #[.int .i64 60] 3 (0, 0)) := by rw [hw1]; exact (Below.heap_alloc _ _ _ (by simp)).trans (heap_new _ _ _ (by simp))
 have hres : w1.heap[w.heap.size + 1]? = some (.cells #[.int .i64 0, .int .i64 0, .slice none 0 0] 59 (0, 0)) := by rw [hw1]; exact (Below.heap_alloc _ _ _ (by simp)).trans ((Below.heap_alloc _ _ _ (by simp)).trans (heap_new _ _ _ (by simp)))
 have hstr : StreamAt w1 (fun b => S' b ∧ b < w.heap.size) (w.heap.size + 3) (l.drop 0) := by rw [hw1]; exact streamStart _ _ A n c _ _ l (((HL.out.alloc _).alloc _).alloc _) hn (by simp)
 have HTR := Lib.hid (show TrSt w1 (fun b => S' b ∧ b < w.heap.size) (w.heap.size + 2) (w.heap.size + 3) l 60 from ⟨⟨0, hstr⟩, hblk⟩)
 have HB1 := Lib.hid hb1
 have HRES := Lib.hid hres
 have HG1 := Lib.hid ((HG.out.below hb1).more (S' := fun b => b < w.heap.size + 2) (fun b hb => by omega))
 clear hb1 hblk hres hstr
 go_enter Try.func31, Try.ntmps31
 go_wp2_with fail
 rw [← hw1]
 clear hw1
 refine (makeTreeAny HV.out (lo := w.heap.size + 2) (hi := w.heap.size + 4) (by omega) (by omega) (by omega) (by omega) (by omega) (fun b hb => by omega) 13 12 (by omega) (by omega) w1 60 (false, g.2.2.1) HTR.out (by omega) HG1.out (by omega) (by omega)).mono ?_
 rintro e w2 ⟨left', _, _, hA2, hmk⟩
 have hz2 := hA2.size
 have hres2 := (hA2.block _ (by omega) (Or.inl (by omega))).trans HRES.out
 obtain ⟨d0, d1, d2, f0, f1, f2⟩ := tree_cells' hres2
 have HB2 := Lib.hid (HB1.out.trans (hA2.below (by omega) (by omega)))
 have ld : w.heap.size + 1 < w2.heap.size := by omega
 have hset : ∀ (u : World) (q : Nat) (v : Value), Below w.heap.size u (u.setCell ⟨w.heap.size + 1, q, none⟩ v) := fun u q v => (Below.refl _ _).setCell (by show w.heap.size ≤ w.heap.size + 1; omega) _
 have HSET := Lib.hid hset
 clear hA2 hres2 hset
 rcases hmk with rfl | ⟨t, A2, m2, c2, rfl, htv, hsl, h0, hsz⟩
 ·
  --@2
  go_wp2_with fail
  refine bodyPost_ret (v := .tuple #[.agg #[.int .i64 0, .int .i64 0, .slice none 0 0], .bool false]) (by simp [results, Try.results31, go_sem, d0, d1, d2, ld]) rfl ?_
  exact ⟨Or.inl rfl, HB2.out.trans (((HSET.out _ _ _).trans (HSET.out _ _ _)).trans (HSET.out _ _ _))⟩
 ·
  have HTV := Lib.hid htv
  have HSL := Lib.hid hsl
  clear htv hsl
  go_wp2_with fail
  refine bodyPost_ret (v := .tuple #[.agg #[.int .i64 t.rule, .int .i64 t.term, .slice A2 m2 c2], .bool true]) (by simp [results, Try.results31, go_sem, d0, d1, d2, ld]) rfl ?_
  refine ⟨Or.inr ⟨t, A2, m2, c2, rfl, HTV.out, ?_, by omega⟩, HB2.out.trans (((HSET.out _ _ _).trans (HSET.out _ _ _)).trans (HSET.out _ _ _))⟩
  exact ((HSL.out.more (S' := fun b => w.heap.size + 2 ≤ b) (fun b hb => by omega)).keep (((Kept.setCell _ _ _ _ (by simp)).trans (.setCell _ _ _ _ (by simp))).trans (.setCell _ _ _ _ (by simp)))).more (fun b hb => by omega)
end Go.Proofs.Ytgaahpddlohjoaa
