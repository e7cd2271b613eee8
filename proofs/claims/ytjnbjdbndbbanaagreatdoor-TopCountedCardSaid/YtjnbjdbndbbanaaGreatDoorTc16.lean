/- RankW -/
import Derived.Test.YtjnbjdbndbbanaaGreatDoorTc15
namespace Go.Proofs.YtjnbjdbndbbanaaGreatDoor
open Go.RowKit
theorem tTrees : SlType Tryz.prog 42 44 3 40 (.agg #[.int .i64 0, .int .i64 0, .slice none 0 0]) := ⟨by kernel_rfl, by kernel_rfl, by kernel_rfl, rfl, by decide⟩
theorem gramLeaf (x : Int) (w : World) : Calls Tryz.prog 52 #[.int .i64 x] w fun e w' => e = .returned (.agg #[.int .i64 (-1), .int .i64 x, .slice none 0 0]) ∧ Below w.heap.size w w' := by
 go_enter Tryz.func52, Tryz.ntmps52
 go_wp2_with fail
 refine bodyPost_ret (v := .agg #[.int .i64 (-1), .int .i64 x, .slice none 0 0]) (by simp [results, Tryz.results52, go_sem]) rfl ?_
 exact ⟨rfl, (Below.refl _ _).alloc (Nat.le_refl _) _⟩
theorem tree_cells {w : World} {B : Nat} {a b c : Value} {T : TypeId} (h : w.heap[B]? = some (.cells #[a, b, c] T (0, 0))) :
    w.cell? ⟨B, 0, none⟩ = some a ∧ w.cell? ⟨B, 1, none⟩ = some b ∧ w.cell? ⟨B, 2, none⟩ = some c ∧ w.frozen? ⟨B, 0, none⟩ = false ∧ w.frozen? ⟨B, 1, none⟩ = false ∧ w.frozen? ⟨B, 2, none⟩ = false := by
 simp [World.cell?, World.frozen?, h]
structure NumSt (w : World) (L : Lay) (g : GramD) (n Bn : Nat) (AR : Option Addr) (nR cR : Nat) : Prop where
 cok : Cok w L g n
 blk : w.heap[Bn]? = some (.cells #[.int .i64 g.1, .int .i64 g.2.1, .int .i64 g.2.2.1, .slice AR nR cR, .pointer (some ⟨L.Bc, 0, none⟩)] 80 (0, 0))
 rules : Sl RRule w (fun b => b < L.l3) AR nR cR g.2.2.2
 hB : L.Bc < Bn
section
variable {w w' : World} {L : Lay} {g : GramD} {n Bn nR cR : Nat} {AR : Option Addr}
theorem Cok.ord (h : Cok w L g n) : L.l3 ≤ L.hi ∧ L.hi ≤ L.Bc ∧ L.Bc < w.heap.size := by
 obtain ⟨K, hc, _⟩ := h
 exact ⟨hc.o3, hc.o4, hc.lt⟩
theorem NumSt.lt (h : NumSt w L g n Bn AR nR cR) : Bn < w.heap.size := heap_lt h.blk
theorem NumSt.aside (h : NumSt w L g n Bn AR nR cR) (hc : Cok w' L g n) (hA : Aside L.l3 L.hi w w') : NumSt w' L g n Bn AR nR cR := by
 have h1 := h.cok.ord
 have h2 := h.hB
 exact ⟨hc, (hA.block _ h.lt (Or.inr (by omega))).trans h.blk, h.rules.keep (.aside hA fun b hb => Or.inl hb), h2⟩
theorem NumSt.kept {base : Nat} (h : NumSt w L g n Bn AR nR cR) (hb : Below base w w') (hB : Bn < base) : NumSt w' L g n Bn AR nR cR := by
 have h1 := h.cok.ord
 have h2 := h.hB
 exact ⟨h.cok.kept hb (by omega), (hb.block _ hB).trans h.blk, h.rules.keep (.belowB hb fun b hb' => by omega), h2⟩
theorem NumSt.below (h : NumSt w L g n Bn AR nR cR) (hb : Below w.heap.size w w') : NumSt w' L g n Bn AR nR cR := h.kept hb h.lt
theorem NumSt.drew (h : NumSt w L g n Bn AR nR cR) : NumSt w.drew L g n Bn AR nR cR := h.below (Below.refl _ _).drew
theorem NumSt.ptr (h : NumSt w L g n Bn AR nR cR) : w.cell? ⟨Bn, 4, none⟩ = some (.pointer (some ⟨L.Bc, 0, none⟩)) := by simp [World.cell?, h.blk]
theorem NumSt.rul (h : NumSt w L g n Bn AR nR cR) : w.cell? ⟨Bn, 3, none⟩ = some (.slice AR nR cR) := by simp [World.cell?, h.blk]
end
def TreeSpec (L : Lay) (g : GramD) (n Bn : Nat) (AR : Option Addr) (nR cR : Nat) (y : Nat × Nat) : Prop := ∀ (w : World), NumSt w L g n Bn AR nR cR → ∀ i : Nat, i < cN g.2.2.2 y.1 y.2 →
 Calls Tryz.prog 30 #[.pointer (some ⟨Bn, 0, none⟩), .agg #[.bool false, .int .i64 (y.1 : Int)], .int .i64 (y.2 : Int), .int .i64 (i : Int)] w fun e w' => ∃ (t : TreeD) (A : Option Addr) (m c : Nat), e = .returned (.agg #[.int .i64 t.rule, .int .i64 t.term, .slice A m c]) ∧ Sl RTree w' (fun b => w.heap.size ≤ b) A m c t.kids ∧ Unr g.2.2.2 (false, (y.1 : Int)) y.2 i t ∧ NumSt w' L g n Bn AR nR cR ∧ Aside L.l3 L.hi w w'
set_option maxRecDepth 100000 in
set_option maxHeartbeats 1000000 in
theorem numTreeTerm {L : Lay} {g : GramD} {n Bn nR cR : Nat} {AR : Option Addr} (w : World) (_h : NumSt w L g n Bn AR nR cR) (x : Int) (k i : Int) :
    Calls Tryz.prog 30 #[.pointer (some ⟨Bn, 0, none⟩), .agg #[.bool true, .int .i64 x], .int .i64 k, .int .i64 i] w fun e w' => e = .returned (.agg #[.int .i64 (-1), .int .i64 x, .slice none 0 0]) ∧ Below w.heap.size w w' := by
 clear _h
 go_enter Tryz.func30, Tryz.ntmps30
 go_wp2_with fail
 refine (gramLeaf _ _).mono ?_
 rintro e w1 ⟨rfl, hb1⟩
 have hbb : Below w.heap.size w w1 := (((Below.refl _ _).alloc (Nat.le_refl _) _).alloc (by simp) _).trans (hb1.mono (by simp; omega))
 have HB := zh hbb
 have hblk := (hb1.block (w.heap.size + 1) (by simp)).trans (heap_new _ _ _ (by simp))
 obtain ⟨c0, c1, c2, f0, f1, f2⟩ := tree_cells hblk
 have hl : w.heap.size + 1 < w1.heap.size := heap_lt hblk
 clear hb1 hbb
 go_wp2_with fail
 refine bodyPost_ret (v := .agg #[.int .i64 (-1), .int .i64 x, .slice none 0 0]) (by simp [results, Tryz.results30, go_sem, c0, c1, c2]) rfl ?_
 exact ⟨rfl, ((HB.out.setCell (by simp) _).setCell (by simp) _).setCell (by simp) _⟩
section
variable {R : List RuleD} {N : Nat}
theorem lN_nil_pos {n i : Nat} (h : i < lN R [] n) : n = 0 ∧ i = 0 := by
 rw [lN_nil] at h
 split at h <;> omega
theorem drop_step {α : Type} {l : List α} {j : Nat} (h : j < l.length) : ∃ s, l[j]? = some s ∧ l.drop j = s :: l.drop (j + 1) := ⟨l[j], List.getElem?_eq_getElem h, List.drop_eq_getElem_cons h⟩
end
set_option linter.unusedSimpArgs false in
set_option maxRecDepth 1000000 in
set_option maxHeartbeats 8000000 in
theorem numList {L : Lay} {g : GramD} {n Bn nR cR : Nat} {AR : Option Addr} (hn : n ≤ 1000) (hR : RulesN (nonsOf g) g.2.2.2) (hrl : g.2.2.2.length ≤ 1000) (x : Nat × Nat) (hx : x.1 < nonsOf g) (hxn : x.2 ≤ n) (hm : ¬ Many g.2.2.2 x)
    (htree : ∀ y, Edge g.2.2.2 x y → cN g.2.2.2 y.1 y.2 < MC → TreeSpec L g n Bn AR nR cR y) (l : List SymD) (w : World) (hst : NumSt w L g n Bn AR nR cR) (S' : Nat → Prop) (hS' : ∀ b, S' b → b < L.l3) (A : Option Addr) (m c : Nat) (hl : Sl RSym w S' A m c l) (hml : m ≤ 1000)
    (k : Nat) (hsx : Suffix g.2.2.2 x l k) (hk : k ≤ n) (i : Nat) (hi : i < lN g.2.2.2 l k) (hlt : lN g.2.2.2 l k < MC) :
    Calls Tryz.prog 53 #[.pointer (some ⟨Bn, 0, none⟩), .slice A m c, .int .i64 k, .int .i64 i] w fun e w' => ∃ (ts : List TreeD) (A' : Option Addr) (c' : Nat), e = .returned (.slice A' m c') ∧ Sl RTree w' (fun b => w.heap.size ≤ b) A' m c' ts ∧ UnrL g.2.2.2 l k i ts ∧ NumSt w' L g n Bn AR nR cR ∧ Aside L.l3 L.hi w w' := by
 obtain ⟨R, hRe⟩ := zE g.2.2.2
 rw [← hRe] at hR hrl hm htree hsx hi hlt
 rw [← hRe]
 obtain ⟨o1, o2, o3⟩ := hst.cok.ord
 have o4 := hst.hB
 have o5 := hst.lt
 have hmle := hl.len
 have HST := zh hst
 have HL := zh hl
 have HS' := zh hS'
 have HRN := zh hR
 have HM := zh hm
 have HTR := zh htree
 have HSX := zh hsx
 have HI := zh hi
 have HLT := zh hlt
 have HRE := zh hRe
 have HML := zh hmle
 have HOF := zh (show ∀ y : Nat × Nat, y.1 < nonsOf g → y.2 ≤ n → OfSpec L g n y from fun y h1 h2 => ctrOf hn (by rw [← hRe]; exact hR) (by rw [← hRe]; exact hrl) y.1 y.2 h1 h2)
 clear hst hl hS' hR hm htree hsx hi hlt hmle hRe
 go_enter Tryz.func53, Tryz.ntmps53
 go_wp2_with fail
 go_loopg [1, 2, 3, 9] m (fun gk vl vn vi vo wr => ∃ (j n' i' c' : Nat) (A' : Option Addr) (ts : List TreeD), j ≤ m ∧ gk = m - j ∧ vl = .slice A' (m - j) c' ∧ vn = .int .i64 n' ∧ vi = .int .i64 i' ∧ ts.length = j ∧ OwnL RTree wr (fun _ => False) w.heap.size 44 vo ts ∧ Sl RSym w S' A' (m - j) c' (l.drop j) ∧ Suffix R x (l.drop j) n' ∧ n' ≤ n ∧ i' < lN R (l.drop j) n' ∧ lN R (l.drop j) n' < MC ∧ (∀ ts', UnrL R (l.drop j) n' i' ts' → UnrL R l k i (ts ++ ts')) ∧ NumSt wr L g n Bn AR nR cR ∧ Aside L.l3 L.hi w wr)
 case atStart => exact ⟨0, k, i, c, A, [], Nat.zero_le _, rfl, rfl, rfl, rfl, rfl, OwnL.nil _ _ _ _ _, HL.out, HSX.out, hk, HI.out, HLT.out, (fun ts' h => h), HST.out, Aside.refl _ _ _⟩
 case round =>
  obtain ⟨j, n', i', c', A', ts, hj, hgk, rfl, rfl, rfl, htl, hown, hsl, hsx', hn', hi', hlt', hacc, hnum, hA⟩ := hrel
  have HGK := zh hgk
  have HTL := zh htl
  have HOW := zh hown
  have HSL := zh hsl
  have HSX' := zh hsx'
  have HI' := zh hi'
  have HLT' := zh hlt'
  have HACC := zh hacc
  have HNU := zh hnum
  have HA := zh hA
  have hsz1 := hA.size
  obtain ⟨Ao, co, rfl, hco⟩ := HOW.out.formN htl
  clear hgk htl hown hsl hsx' hi' hlt' hacc hnum hA HST HL HSX HI HLT
  obtain ⟨w1, rfl⟩ := zE wr
  by_cases hjm : j < m
  ·
   obtain ⟨s, hs, hdrop⟩ := drop_step (l := l) (j := j) (by have := HML.out; omega)
   obtain ⟨l2, hl2⟩ := zE (l.drop (j + 1))
   have hsl := HSL.out
   have hsx' := HSX'.out
   have hi' := HI'.out
   have hlt' := HLT'.out
   rw [hdrop, ← hl2] at hsl hsx' hi' hlt'
   obtain ⟨b, off, s', rfl, hSb, hbl, hc1, hc2, hs0⟩ := sym_at hsl (k := 0) (by omega)
   obtain rfl : s = s' := by simpa using hs0
   rw [Nat.zero_mul, Nat.add_zero] at hc1 hc2
   obtain ⟨A2, hcut, hl'⟩ := hsl.cutl tSyms rfl 1 (by omega)
   rw [List.drop_succ_cons, List.drop_zero] at hl'
   simp only [Int.cast_ofNat_Int] at hcut
   have ho := hsx'.ok HRN.out
   have hsum := lN_sum HRN.out ho hlt'
   have hcells : ∀ u, Aside L.l3 L.hi w u → u.cell? ⟨b, off, none⟩ = some (.bool s.1) ∧ u.cell? ⟨b, off + 1, none⟩ = some (.int .i64 s.2) := fun u hu =>
    ⟨(hu.cell hbl (Or.inl (HS'.out _ hSb))).trans hc1, (hu.cell hbl (Or.inl (HS'.out _ hSb))).trans hc2⟩
   have HCE := zh hcells
   have HCUT := zh hcut
   have HL2 := zh hl'
   have HSX2 := zh hsx'
   have HI2 := zh hi'
   have HLT2 := zh hlt'
   have HSUM := zh hsum
   have HO1 := zh ho.head
   have HO2 := zh ho.tail
   have HDR := zh hdrop
   have HL2E := zh hl2
   have hm1 : 0 < m - j := by omega
   have htest : decide ((0 : Int) < ((m - j : Nat) : Int)) = true := by simp; omega
   clear hsl hsx' hi' hlt' hc1 hc2 hs0 hcut hl' ho hsum hcells hdrop hl2 hs hSb hbl HSL HSX' HI' HLT'
   obtain ⟨m1, hm1a⟩ : ∃ m1 : Nat, m - j ≤ m1 ∧ m1 ≤ m - j := ⟨m - j, by omega⟩
   have hm1e : m - j = m1 := by omega
   rw [hm1e] at HCUT HL2 hm1 htest
   rw [hm1e]
   clear hm1e
   go_wp2_with fail
   go_loopg [2, 3, 9, 10] (n' + 1) (fun gk vn vi vo vk wx => ∃ (kk ii : Nat), kk ≤ n' + 1 ∧ gk = n' + 1 - kk ∧ vn = .int .i64 n' ∧ vi = .int .i64 ii ∧ vo = .slice Ao j co ∧ vk = .int .i64 kk ∧ sumTo (wOf R s l2 n') kk + ii = i' ∧ OwnL RTree wx (fun _ => False) w.heap.size 44 (.slice Ao j co) ts ∧ NumSt wx L g n Bn AR nR cR ∧ Aside L.l3 L.hi w wx)
   case atStart => exact ⟨0, i', Nat.zero_le _, rfl, rfl, rfl, rfl, rfl, by rw [sumTo_zero]; omega, HOW.out, HNU.out, HA.out⟩
   case round =>
    obtain ⟨kk, ii, hkk, hgk2, rfl, rfl, rfl, rfl, hii, hown, hnum, hA⟩ := hrel
    have hkn : kk ≤ n' := by
     rcases Nat.lt_or_ge n' kk with h | h
     ·
      exfalso
      obtain rfl : kk = n' + 1 := by omega
      have h1 := HI2.out
      rw [HSUM.out] at h1
      omega
     exact h
    have hwle : sumTo (wOf R s l2 n') kk + wOf R s l2 n' kk ≤ lN R (s :: l2) n' := by rw [HSUM.out]; exact sumTo_at (by omega)
    have HGK2 := zh hgk2
    have HII := zh hii
    have HOW2 := zh hown
    have HNU2 := zh hnum
    have HA2 := zh hA
    have HWLE := zh hwle
    have hsz2 := hA.size
    have hiiB : ii < 1000000000 := by have := HI2.out; have := HLT2.out; have : MC = 1000000000 := rfl; omega
    have hwB : wOf R s l2 n' kk < 1000000000 := by have := HLT2.out; have : MC = 1000000000 := rfl; omega
    clear hgk2 hii hown hnum hA hwle HOW HNU HA
    obtain ⟨w2, rfl⟩ := zE wr
    have hlist : ∀ u : World, Cok u L g n → Aside L.l3 L.hi w u → Calls Tryz.prog 45 #[.pointer (some ⟨L.Bc, 0, none⟩), .slice A2 (m1 - 1) (c' - 1), .int .i64 ((n' - kk : Nat) : Int)] u fun e w' => (∃ rv : Int, e = .returned (.int .i64 rv) ∧ (Der R [s] kk → rv = (lN R l2 (n' - kk) : Nat))) ∧ Cok w' L g n ∧ Aside L.l3 L.hi u w' := by
     intro u hc hAu
     have hlu := HL2.out.keep (.aside hAu fun b hb => Or.inl (HS'.out b hb))
     by_cases hd : Der R [s] kk
     ·
      have hnx := HSX2.out.next hkn hd
      have hre := HRE.out
      have hrn := HRN.out
      have hmm := HM.out
      subst hre
      refine (ctrList hn hrn x hx hmm (fun y hy => HOF.out y (hy.lt hrn) (Nat.le_trans hy.le hxn)) l2 u hc _ (fun b hb => Or.inl (HS'.out b hb)) _ _ _ hlu (n' - kk) hnx (by omega)).mono ?_
      rintro e w' ⟨rfl, h1, h2⟩
      exact ⟨⟨_, rfl, fun _ => rfl⟩, h1, h2⟩
     have hre := HRE.out
     have hrn := HRN.out
     subst hre
     refine (ctrListAny hn hrn HOF.out l2 u hc _ (fun b hb => Or.inl (HS'.out b hb)) _ _ _ hlu (n' - kk) HO2.out (by omega)).mono ?_
     rintro e w' ⟨⟨v, rfl⟩, h1, h2⟩
     exact ⟨⟨v, rfl, fun h => absurd h hd⟩, h1, h2⟩
    have hofk : ∀ u : World, Cok u L g n → Calls Tryz.prog 22 #[.pointer (some ⟨L.Bc, 0, none⟩), .agg #[.bool s.1, .int .i64 s.2], .int .i64 kk] u fun e w' => (∃ fv : Int, e = .returned (.int .i64 fv) ∧ (Der R [s] kk → Der R l2 (n' - kk) → fv = (oN R s kk : Nat)) ∧ (¬ Der R [s] kk → fv = 0)) ∧ Cok w' L g n ∧ Aside L.l3 L.hi u w' := by
     intro u hu
     have ho1 := HO1.out
     have hsx := HSX2.out
     obtain ⟨t, y⟩ := s
     cases t with
     | true =>
      refine (ctrOfTerm u hu y kk (by omega)).mono ?_
      rintro e w' ⟨rfl, hb⟩
      refine ⟨⟨_, rfl, fun h _ => ?_, fun h => ?_⟩, hu.below hb, .of hb⟩
      ·
       rw [Der.term_iff] at h
       subst h
       simp [oN, ofC, hasT]
      rw [Der.term_iff] at h
      rw [if_neg h]
     | false =>
      have hy := (ho1 (false, y) (by simp) rfl)
      obtain ⟨a, rfl⟩ : ∃ a : Nat, y = (a : Int) := ⟨y.toNat, by have := hy.1; dsimp only at this; omega⟩
      refine (HOF.out (a, kk) (by simpa using hy.2) (by dsimp only; omega) u hu).mono ?_
      rintro e w' ⟨rfl, h2, h3⟩
      rw [← HRE.out]
      refine ⟨⟨_, rfl, fun h h' => ?_, fun h => ?_⟩, h2, h3⟩
      ·
       have he := hsx.edge hkn h h'
       have hlen : lenD R a kk = true := lenD_iff.2 h
       rw [oN_non hlen]
       unfold treesN
       dsimp only
       rw [if_pos hlen, if_neg fun hx => HM.out (Many.back he hx)]
      unfold treesN
      dsimp only
      rw [if_neg fun hx => h (lenD_iff.1 hx)]
    have HLI := zh hlist
    have HOFK := zh hofk
    have HK0 := zh HNU2.out.drew.ptr
    have HNK := zh (show IntKind.i64.wrap ((n' : Int) - (kk : Int)) = ((n' - kk : Nat) : Int) by rw [IntWalk.i64_in _ (by omega)]; omega)
    clear hlist hofk
    go_wp2_with fail
    refine wp_region_late (late := []) (S1 := fun u => u.cell? ⟨Bn, 4, none⟩ = some (.pointer (some ⟨L.Bc, 0, none⟩))) (S := fun _ => True) (by kernel_rfl) ?_
    refine zP (i := 0) rfl (fun u hu => by have k0 := hu; go_simp; try rfl) HK0.out zt ?_
    simp only [Act.put, zA, zB, zC, zD, zF, zG]
    refine zP (i := 1) rfl (fun u hu => by have k0 := hu; go_simp; try rfl) HK0.out zt ?_
    simp only [Act.put, zA, zB, zC, zD, zF, zG]
    refine zP (i := 2) rfl (fun u hu => by have k0 := hu; go_simp; try rfl) HK0.out zt ?_
    simp only [Act.put, zA, zB, zC, zD, zF, zG]
    refine zP (i := 3) rfl (fun u hu => by have k0 := hu; go_simp; try rfl) HK0.out zt ?_
    simp only [Act.put, zA, zB, zC, zD, zF, zG]
    refine zP (i := 4) rfl (fun u hu => by have k0 := hu; go_simp; try rfl) HK0.out zt ?_
    simp only [Act.put, zA, zB, zC, zD, zF, zG]
    refine zP (i := 5) (v := .slice A2 (m1 - 1) (c' - 1)) rfl (fun u hu => by have hx := HCUT.out u; go_simp) HK0.out zt ?_
    simp only [Act.put, zA, zB, zC, zD, zF, zG]
    refine zP (i := 6) rfl (fun u hu => by have k0 := hu; go_simp; try rfl) HK0.out zt ?_
    simp only [Act.put, zA, zB, zC, zD, zF, zG]
    refine zP (i := 7) rfl (fun u hu => by have k0 := hu; go_simp; try rfl) HK0.out zt ?_
    simp only [Act.put, zA, zB, zC, zD, zF, zG]
    refine zP (i := 8) (v := .int .i64 ((n' - kk : Nat) : Int)) rfl (fun u hu => by have hnk := HNK.out; go_simp; try rfl) HK0.out zt ?_
    simp only [Act.put, zA, zB, zC, zD, zF, zG]
    refine zR 9 rfl (fun K hK => ?_)
    go_simp
    refine (HLI.out _ HNU2.out.drew.cok HA2.out.drew).mono ?_
    rintro e w3 ⟨⟨rv, rfl, hrv⟩, hc3, hA3⟩
    have HNU3 := zh (HNU2.out.drew.aside hc3 hA3)
    have HA3 := zh (HA2.out.drew.trans hA3)
    have HOW3 := zh (HOW2.out.drew.aside hA3 (by omega))
    have HRV := zh hrv
    have hsz3 := HA3.out.size
    clear hc3 hA3 hrv
    refine hK.out _ _ HNU3.out.ptr zt ?_
    clear hK K
    refine zP (i := 10) rfl (fun u hu => by have k0 := hu; go_simp; try rfl) HNU3.out.ptr zt ?_
    simp only [Act.put, zA, zB, zC, zD, zF, zG]
    refine wpAnyL_done (by kernel_rfl) ?_ _
    by_cases hpos : 0 < rv
    ·
     have hposd : decide (0 < rv) = true := by simpa using hpos
     have HK1 := zh (And.intro (HNU3.out.drew.ptr) (HCE.out _ HA3.out.drew))
     go_wp2_with fail
     refine wp_region_late (late := []) (S1 := fun u => u.cell? ⟨Bn, 4, none⟩ = some (.pointer (some ⟨L.Bc, 0, none⟩)) ∧ u.cell? ⟨b, off, none⟩ = some (.bool s.1) ∧ u.cell? ⟨b, off + 1, none⟩ = some (.int .i64 s.2)) (S := fun _ => True) (by kernel_rfl) ?_
     refine zP (i := 0) rfl (fun u hu => by obtain ⟨k0, k1, k2⟩ := hu; go_simp; try rfl) HK1.out zt ?_
     simp only [Act.put, zA, zB, zC, zD, zF, zG]
     refine zP (i := 1) rfl (fun u hu => by obtain ⟨k0, k1, k2⟩ := hu; go_simp; try rfl) HK1.out zt ?_
     simp only [Act.put, zA, zB, zC, zD, zF, zG]
     refine zP (i := 2) rfl (fun u hu => by obtain ⟨k0, k1, k2⟩ := hu; go_simp; try rfl) HK1.out zt ?_
     simp only [Act.put, zA, zB, zC, zD, zF, zG]
     refine zP (i := 3) rfl (fun u hu => by obtain ⟨k0, k1, k2⟩ := hu; go_simp; try rfl) HK1.out zt ?_
     simp only [Act.put, zA, zB, zC, zD, zF, zG]
     refine zP (i := 4) rfl (fun u hu => by obtain ⟨k0, k1, k2⟩ := hu; go_simp; try rfl) HK1.out zt ?_
     simp only [Act.put, zA, zB, zC, zD, zF, zG]
     refine zP (i := 5) rfl (fun u hu => by obtain ⟨k0, k1, k2⟩ := hu; go_simp; try rfl) HK1.out zt ?_
     simp only [Act.put, zA, zB, zC, zD, zF, zG]
     refine zP (i := 6) rfl (fun u hu => by obtain ⟨k0, k1, k2⟩ := hu; go_simp; try rfl) HK1.out zt ?_
     simp only [Act.put, zA, zB, zC, zD, zF, zG]
     refine zP (i := 7) rfl (fun u hu => by obtain ⟨k0, k1, k2⟩ := hu; go_simp; try rfl) HK1.out zt ?_
     simp only [Act.put, zA, zB, zC, zD, zF, zG]
     refine zR 8 rfl (fun K hK => ?_)
     go_simp
     refine (HOFK.out _ HNU3.out.drew.cok).mono ?_
     rintro e w4 ⟨⟨fv, rfl, hfv⟩, hc4, hA4⟩
     have HNU4 := zh (HNU3.out.drew.aside hc4 hA4)
     have HA4 := zh (HA3.out.drew.trans hA4)
     have HOW4 := zh (HOW3.out.drew.aside hA4 (by omega))
     have HFV := zh hfv
     have hsz4 := HA4.out.size
     clear hc4 hA4 hfv
     refine hK.out _ _ (And.intro HNU4.out.ptr (HCE.out _ HA4.out)) zt ?_
     clear hK K
     refine zP (i := 9) rfl (fun u hu => by obtain ⟨k0, k1, k2⟩ := hu; go_simp; try rfl) (And.intro HNU4.out.ptr (HCE.out _ HA4.out)) zt ?_
     simp only [Act.put, zA, zB, zC, zD, zF, zG]
     refine wpAnyL_done (by kernel_rfl) ?_ _
     have hmulv : fv * rv = ((wOf R s l2 n' kk : Nat) : Int) := by
      unfold wOf
      by_cases hd : Der R [s] kk
      ·
       have h1 := HRV.out hd
       have h2 : Der R l2 (n' - kk) := lN_der HRN.out HO2.out (by omega)
       rw [HFV.out.1 hd h2, h1, Int.natCast_mul]
      rw [HFV.out.2 hd, oN_zero HO1.out hd, Nat.zero_mul, Int.zero_mul]; rfl
     have hw1 : IntKind.i64.wrap (fv * rv) = ((wOf R s l2 n' kk : Nat) : Int) := by rw [hmulv]; exact IntWalk.i64_in _ (by omega)
     have hw2 : wrap64 (fv * rv) = ((wOf R s l2 n' kk : Nat) : Int) := by rw [hmulv]; exact IntWalk.wrap64_in _ ⟨by omega, by omega⟩
     obtain ⟨wv, hwv⟩ := zE (wOf R s l2 n' kk)
     rw [← hwv] at hw1 hw2 hwB
     have HWV := zh hwv
     have HMV := zh hmulv
     clear hmulv hwv
     by_cases hge : wv ≤ ii
     ·
      have hged : decide ((wv : Int) ≤ (ii : Int)) = true := by simp; omega
      have hsub : ((ii : Int) - (wv : Int)) = ((ii - wv : Nat) : Int) := by omega
      have HSUB := zh hsub
      clear hsub
      go_wp2_with fail
      go_roundg (n' + 1 - (kk + 1))
      case measure => rw [HGK2.out]; omega
      case rel => exact ⟨kk + 1, ii - wv, by omega, rfl, rfl, by first | rw [HSUB.out] | (congr 1; omega) | go_num, rfl, by go_num, by rw [sumTo_succ, ← HWV.out]; have := HII.out; omega, HOW4.out, HNU4.out, HA4.out⟩
     have hged : ¬ ((wv : Int) ≤ (ii : Int)) := by omega
     have hlt5 : ii < wOf R s l2 n' kk := by have := HWV.out; omega
     have hpos1 : 0 < oN R s kk := by
      apply Nat.pos_of_ne_zero
      intro e
      unfold wOf at hlt5
      rw [e, Nat.zero_mul] at hlt5
      omega
     have hder := oN_der HO1.out hpos1
     have hrvE := HRV.out hder
     obtain ⟨rN, hrN⟩ := zE (lN R l2 (n' - kk))
     rw [← hrN] at hrvE
     subst hrvE
     have hrpos : 0 < rN := by omega
     have hder2 : Der R l2 (n' - kk) := lN_der HRN.out HO2.out (by omega)
     have hfvE := HFV.out.1 hder hder2
     have hwE : wOf R s l2 n' kk = oN R s kk * rN := by unfold wOf; rw [hrN]
     have hqlt : ii / rN < oN R s kk := by
      rw [Nat.div_lt_iff_lt_mul hrpos, ← hwE]
      exact hlt5
     have hmod : ii % rN < rN := Nat.mod_lt _ hrpos
     have hrlt : rN < MC := by
      have h1 : rN ≤ oN R s kk * rN := Nat.le_mul_of_pos_left _ hpos1
      have h2 := HWLE.out
      have h3 := HLT2.out
      omega
     have holt : oN R s kk < MC := by
      have h1 : oN R s kk ≤ oN R s kk * rN := Nat.le_mul_of_pos_right _ hrpos
      have h2 := HWLE.out
      have h3 := HLT2.out
      omega
     obtain ⟨q, hq⟩ := zE (ii / rN)
     obtain ⟨i2, hi2⟩ := zE (ii % rN)
     have hdm : q * rN + i2 = ii := by rw [hq, hi2, Nat.mul_comm]; exact Nat.div_add_mod ii rN
     rw [← hq] at hqlt
     rw [← hi2] at hmod
     have hquo : Int.tdiv (ii : Int) (rN : Int) = (q : Int) := by rw [hq]; exact Int.ofNat_tdiv ii rN
     have hrem : Int.tmod (ii : Int) (rN : Int) = (i2 : Int) := by rw [hi2]; exact Int.ofNat_tmod ii rN
     have hne0 : ¬ (rN : Int) = 0 := by omega
     have htr : ∀ u : World, NumSt u L g n Bn AR nR cR → Calls Tryz.prog 30 #[.pointer (some ⟨Bn, 0, none⟩), .agg #[.bool s.1, .int .i64 s.2], .int .i64 (kk : Int), .int .i64 (q : Int)] u fun e w' => ∃ (t : TreeD) (A : Option Addr) (m c : Nat), e = .returned (.agg #[.int .i64 t.rule, .int .i64 t.term, .slice A m c]) ∧ Sl RTree w' (fun b => u.heap.size ≤ b) A m c t.kids ∧ Unr R s kk q t ∧ NumSt w' L g n Bn AR nR cR ∧ Aside L.l3 L.hi u w' := by
      intro u hu
      have ho1 := HO1.out
      have hsx := HSX2.out
      obtain ⟨t, y⟩ := s
      cases t with
      | true =>
       refine (numTreeTerm u hu y kk q).mono ?_
       rintro e w' ⟨rfl, hb⟩
       rw [Der.term_iff] at hder
       subst hder
       have hq0 : q = 0 := by
        have : oN R (true, y) 1 = 1 := by simp [oN, ofC, hasT]
        omega
       subst hq0
       exact ⟨.node (-1) y [], none, 0, 0, rfl, Sl.nil _ _ _ _, Unr.leaf, hu.below hb, .of hb⟩
      | false =>
       have hy := (ho1 (false, y) (by simp) rfl)
       obtain ⟨a, rfl⟩ : ∃ a : Nat, y = (a : Int) := ⟨y.toNat, by have := hy.1; dsimp only at this; omega⟩
       have he := hsx.edge hkn hder hder2
       have hlen : lenD R a kk = true := lenD_iff.2 hder
       rw [oN_non hlen] at hqlt holt
       have hts := HTR.out (a, kk) he holt u hu q (by rw [← HRE.out]; exact hqlt)
       rw [← HRE.out] at hts
       exact hts
     have HTT := zh htr
     have HK2 := zh (HCE.out _ HA4.out.drew)
     have HDER := zh hder
     have HRNE := zh hrN
     have HMOD := zh hmod
     have HRLT := zh hrlt
     have HDM := zh hdm
     have HQLT := zh hqlt
     have HQUO := zh hquo
     have HN0 := zh (show ¬ rN = 0 by omega)
     have HWQ := zh (show IntKind.i64.wrap (q : Int) = (q : Int) from IntWalk.i64_in _ (by have : q ≤ ii := (by rw [hq]; exact Nat.div_le_self _ _); omega))
     clear hder hder2 hfvE hwE hmod hrlt holt hq hi2 hdm htr hpos1 hlt5 hrN hqlt HRV
     go_wp2_with fail
     refine wp_region_late (late := []) (S1 := fun u => u.cell? ⟨b, off, none⟩ = some (.bool s.1) ∧ u.cell? ⟨b, off + 1, none⟩ = some (.int .i64 s.2)) (S := fun _ => True) (by kernel_rfl) ?_
     refine zP (i := 0) rfl (fun u hu => by obtain ⟨k1, k2⟩ := hu; go_simp; try rfl) HK2.out zt ?_
     simp only [Act.put, zA, zB, zC, zD, zF, zG]
     refine zP (i := 1) rfl (fun u hu => by obtain ⟨k1, k2⟩ := hu; go_simp; try rfl) HK2.out zt ?_
     simp only [Act.put, zA, zB, zC, zD, zF, zG]
     refine zP (i := 2) rfl (fun u hu => by obtain ⟨k1, k2⟩ := hu; go_simp; try rfl) HK2.out zt ?_
     simp only [Act.put, zA, zB, zC, zD, zF, zG]
     refine zP (i := 3) rfl (fun u hu => by obtain ⟨k1, k2⟩ := hu; go_simp; try rfl) HK2.out zt ?_
     simp only [Act.put, zA, zB, zC, zD, zF, zG]
     refine zP (i := 4) rfl (fun u hu => by obtain ⟨k1, k2⟩ := hu; go_simp; try rfl) HK2.out zt ?_
     simp only [Act.put, zA, zB, zC, zD, zF, zG]
     refine zP (i := 5) rfl (fun u hu => by obtain ⟨k1, k2⟩ := hu; go_simp; try rfl) HK2.out zt ?_
     simp only [Act.put, zA, zB, zC, zD, zF, zG]
     refine zP (i := 6) rfl (fun u hu => by obtain ⟨k1, k2⟩ := hu; go_simp; try rfl) HK2.out zt ?_
     simp only [Act.put, zA, zB, zC, zD, zF, zG]
     refine zP (i := 7) rfl (fun u hu => by obtain ⟨k1, k2⟩ := hu; go_simp; try rfl) HK2.out zt ?_
     simp only [Act.put, zA, zB, zC, zD, zF, zG]
     refine zP (i := 8) (v := .int .i64 (q : Int)) rfl (fun u hu => by have hqq := HQUO.out; have hn0 := HN0.out; have hwq := HWQ.out; go_simp; try rfl) HK2.out zt ?_
     simp only [Act.put, zA, zB, zC, zD, zF, zG]
     refine zR 9 rfl (fun K hK => ?_)
     go_simp
     refine (HTT.out _ HNU4.out.drew).mono ?_
     rintro e w5 ⟨t, At, mt, ct, rfl, hsl5, hut, hnu5, hA5⟩
     have hown5 := HOW4.out.drew.aside hA5 (by omega)
     have HNU5 := zh hnu5
     have HA5 := zh (HA4.out.drew.trans hA5)
     have HUT := zh hut
     have hsz5 := hA5.size
     have hsz5' : w4.heap.size ≤ w5.heap.size := hsz5
     obtain ⟨v6, w6, hrun, ho6, hg6, hb6⟩ := run_append_lit (R := RTree) tTrees rfl w5 42 w.heap.size (fun _ => False) _ _ hown5 1 [t] [.int .i64 t.rule, .int .i64 t.term, .slice At mt ct] (Cells.single (RTree.cells.2 ⟨At, mt, ct, rfl, hsl5.more fun b hb => ⟨Or.inr (by have hb' : w4.heap.size ≤ b := hb; omega), fun e => by have h1 := HOW4.out.row e; have hb' : w4.heap.size ≤ b := hb; omega⟩⟩)) rfl (by have := HTL.out; unfold maxLen; omega) (by have := HTL.out; omega) (by omega)
     have HRUN := zh hrun
     have HOW8 := zh ho6
     have HB6 := zh hb6
     have HNU8 := zh (HNU5.out.kept hb6 o5)
     have HA8 := zh (HA5.out.grow hb6 (Nat.le_refl _))
     obtain ⟨A6, c6, rfl, _⟩ := HOW8.out.formN (a := j + 1) (by rw [List.length_append, HTL.out]; rfl)
     clear hrun ho6 hg6 hb6 hown5 hsl5 hut hnu5 hA5
     refine hK.out _ _ (HCE.out _ HA5.out) zt ?_
     clear hK K
     refine zR 10 rfl (fun K hK => ?_)
     go_simp
     refine hK.out _ _ (And.intro (Kept.alloc (fun _ => True) _ _ _ _ trivial (HCE.out _ HA5.out).1) (Kept.alloc (fun _ => True) _ _ _ _ trivial (HCE.out _ HA5.out).2)) zt ?_
     clear hK K
     refine zR 11 rfl (fun K hK => ?_)
     refine step_append_run _ (by rfl) _ _ _ _ (by rfl) _ _ (by rfl) (by rfl) _ _ HRUN.out ?_
     simp only [Act.put, zA, zB, zC, zD, zF, zG]
     refine hK.out _ _ (HCE.out _ HA8.out) zt ?_
     clear hK K
     refine zP (i := 12) rfl (fun u hu => by obtain ⟨k1, k2⟩ := hu; go_simp; try rfl) (HCE.out _ HA8.out) zt ?_
     simp only [Act.put, zA, zB, zC, zD, zF, zG]
     refine wpAnyL_done (by kernel_rfl) ?_ _
     clear hquo
     have hcut := HCUT.out
     go_wp2_with fail
     go_roundg (m - (j + 1))
     case measure => rw [HGK.out]; omega
     case rel =>
      have hm11 : m1 - 1 = m - (j + 1) := by omega
      have hsl2 := HL2.out
      rw [HL2E.out, hm11] at hsl2
      refine ⟨j + 1, n' - kk, i2, c' - 1, A2, ts ++ [t], by omega, rfl, by rw [hm11], by first | rw [HNK2.out] | (congr 1; omega) | go_num, by first | rfl | go_num, by rw [List.length_append, HTL.out]; rfl, HOW8.out, hsl2, ?_, by omega, ?_, ?_, fun ts' hts' => ?_, HNU8.out, HA8.out⟩
      · rw [← HL2E.out]; exact HSX2.out.next hkn HDER.out
      · rw [← HL2E.out, ← HRNE.out]; exact HMOD.out
      · rw [← HL2E.out, ← HRNE.out]; exact HRLT.out
      rw [← HL2E.out] at hts'
      have h := UnrL.cons hkn HQLT.out (by rw [← HRNE.out]; exact HMOD.out) HUT.out hts'
      have e : sumTo (wOf R s l2 n') kk + q * lN R l2 (n' - kk) + i2 = i' := by
       rw [← HRNE.out, Nat.add_assoc, HDM.out]; exact HII.out
      rw [e] at h
      have := HACC.out (t :: ts') (by rw [HDR.out, ← HL2E.out]; exact h)
      rw [List.append_assoc]
      exact this
    have hposd : decide (0 < rv) = false := by simpa using hpos
    have hw0 : wOf R s l2 n' kk = 0 := by
     unfold wOf
     by_cases hd : Der R [s] kk
     ·
      have h0 : lN R l2 (n' - kk) = 0 := by have := HRV.out hd; omega
      rw [h0, Nat.mul_zero]
     rw [oN_zero HO1.out hd, Nat.zero_mul]
    have HW0 := zh hw0
    have hge0 : decide ((0 : Int) ≤ (ii : Int)) = true := by simp
    clear hw0 hpos
    go_wp2_with fail
    go_roundg (n' + 1 - (kk + 1))
    case measure => rw [HGK2.out]; omega
    case rel => exact ⟨kk + 1, ii, by omega, rfl, rfl, rfl, rfl, by go_num, by rw [sumTo_succ, HW0.out]; exact HII.out, HOW3.out, HNU3.out, HA3.out⟩
  obtain rfl : j = m := by omega
  have hd : l.drop j = [] := List.drop_eq_nil_of_le (by have := HML.out; omega)
  have hi' := HI'.out
  have hacc := HACC.out
  rw [hd] at hi' hacc
  obtain ⟨rfl, rfl⟩ := lN_nil_pos hi'
  have hfin := hacc [] UnrL.nil
  rw [List.append_nil] at hfin
  have HFIN := zh hfin
  have htest : decide ((0 : Int) < ((j - j : Nat) : Int)) = false := by simp
  clear hd hi' hacc hfin
  go_wp2_with fail
  go_ret
  exact ⟨ts, Ao, co, rfl, HOW.out.sl.more (fun b hb => by rcases hb with h | h; exact h.elim; exact h), HFIN.out, HNU.out, HA.out⟩
end Go.Proofs.YtjnbjdbndbbanaaGreatDoor
