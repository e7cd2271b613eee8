/- Aside CtrOf OfN -/
import Derived.Test.YtjnbjdbndbbanaaGreatDoorTc10
namespace Go.Proofs.YtjnbjdbndbbanaaGreatDoor
open Go.RowKit
structure Aside (lo hi : Nat) (w w' : World) : Prop where
 os : w'.os = w.os
 tape : w'.tape = w.tape
 output : w'.output = w.output
 size : w.heap.size ≤ w'.heap.size
 block : ∀ k, k < w.heap.size → (k < lo ∨ hi ≤ k) → w'.heap[k]? = w.heap[k]?
section
variable {lo hi : Nat} {w w' w'' : World}
theorem Aside.refl (lo hi : Nat) (w : World) : Aside lo hi w w := ⟨rfl, rfl, rfl, Nat.le_refl _, fun _ _ _ => rfl⟩
theorem Aside.trans (h : Aside lo hi w w') (k : Aside lo hi w' w'') : Aside lo hi w w'' :=
 ⟨k.os.trans h.os, k.tape.trans h.tape, k.output.trans h.output, Nat.le_trans h.size k.size, fun i hi hr => (k.block i (Nat.lt_of_lt_of_le hi h.size) hr).trans (h.block i hi hr)⟩
theorem Aside.of (h : Below w.heap.size w w') : Aside lo hi w w' := ⟨h.os, h.tape, h.output, h.size, fun k hk _ => h.block k hk⟩
theorem Aside.below (h : Aside lo hi w w') {B : Nat} (h1 : B ≤ w.heap.size) (h2 : B ≤ lo) : Below B w w' := ⟨h.os, h.tape, h.output, h.size, fun k hk => h.block k (by omega) (Or.inl (by omega))⟩
theorem Aside.drew (h : Aside lo hi w w') : Aside lo hi w w'.drew := ⟨h.os, h.tape, h.output, h.size, h.block⟩
theorem Aside.alloc (h : Aside lo hi w w') (o : Obj) : Aside lo hi w (w'.alloc o) := h.trans (.of ((Below.refl _ _).alloc (Nat.le_refl _) _))
theorem Aside.setCell (h : Aside lo hi w w') {p : Addr} (h1 : lo ≤ p.block) (h2 : p.block < hi) (u : Value) : Aside lo hi w (w'.setCell p u) :=
 h.trans ⟨rfl, rfl, rfl, by simp [World.setCell], fun k _ hk => Below.heap_setCell _ _ _ _ (by omega)⟩
theorem Aside.cell (h : Aside lo hi w w') {p : Addr} (h1 : p.block < w.heap.size) (h2 : p.block < lo ∨ hi ≤ p.block) : w'.cell? p = w.cell? p := World.cell?_of_block (h.block _ h1 h2)
theorem Kept.aside {S : Nat → Prop} (h : Aside lo hi w w') (hS : ∀ b, S b → b < lo ∨ hi ≤ b) : Kept S w w' := fun p u hp hu => by rw [h.cell (cell_lt hu) (hS _ hp)]; exact hu
end
theorem OwnL.aside {α : Type} {R : Rep α} {w w' : World} {base lo hi : Nat} {E : TypeId} {v : Value} {l : List α} (h : OwnL R w (fun _ => False) base E v l) (hb : Aside lo hi w w') (hh : hi ≤ base) : OwnL R w' (fun _ => False) base E v l := by
 obtain ⟨xs, h1, h2⟩ := h
 refine ⟨xs, ?_, h2.keep (.aside hb fun b h => ?_)⟩
 ·
  rcases h1 with h | h
  ·
   left
   refine ⟨h.1, ?_⟩
   rcases h.2 with h2 | ⟨g, cap, cur, rfl, hbg, hh', hr⟩
   · exact .inl h2
   exact .inr ⟨g, cap, cur, rfl, hbg, (hb.block g (heap_lt hh') (Or.inr (by omega))).trans hh', hr⟩
  exact .inr h
 rcases h.1 with h | h
 · exact absurd h id
 right; omega
theorem OwnL.formN {α : Type} {R : Rep α} {w : World} {S : Nat → Prop} {base : Nat} {E : TypeId} {v : Value} {l : List α} (h : OwnL R w S base E v l) {a : Nat} (ha : l.length = a) : ∃ A c, v = .slice A a c ∧ a ≤ c := by
 obtain ⟨A, c, h1, h2, _⟩ := h.form
 subst ha
 exact ⟨A, c, h1, h2⟩
theorem Aside.grow {lo hi B : Nat} {w w' w'' : World} (h : Aside lo hi w w') (hb : Below B w' w'') (hB : w.heap.size ≤ B) : Aside lo hi w w'' :=
 ⟨hb.os.trans h.os, hb.tape.trans h.tape, hb.output.trans h.output, Nat.le_trans h.size hb.size, fun k hk hr => (hb.block k (by omega)).trans (h.block k hk hr)⟩
def Cok (w : World) (L : Lay) (g : GramD) (n : Nat) : Prop := ∃ K, Ctr w L g n (lenD g.2.2.2) (manyD g.2.2.2) K ∧ ∀ a k, a < nonsOf g → k ≤ n → K a k < 0 ∨ K a k = (cN g.2.2.2 a k : Int)
theorem Cok.below {w w' : World} {L : Lay} {g : GramD} {n : Nat} (h : Cok w L g n) (hb : Below w.heap.size w w') : Cok w' L g n := by
 obtain ⟨K, h1, h2⟩ := h
 exact ⟨K, h1.below hb, h2⟩
theorem Cok.drew {w : World} {L : Lay} {g : GramD} {n : Nat} (h : Cok w L g n) : Cok w.drew L g n := by
 obtain ⟨K, h1, h2⟩ := h
 exact ⟨K, h1.drew, h2⟩
theorem Cok.drewN {w : World} {L : Lay} {g : GramD} {n : Nat} (h : Cok w L g n) (k : Nat) : Cok (w.drewN k) L g n := by
 obtain ⟨K, h1, h2⟩ := h
 exact ⟨K, h1.drewN k, h2⟩
def OfSpec (L : Lay) (g : GramD) (n : Nat) (y : Nat × Nat) : Prop := ∀ w, Cok w L g n →
 Calls Tryz.prog 22 #[.pointer (some ⟨L.Bc, 0, none⟩), .agg #[.bool false, .int .i64 (y.1 : Int)], .int .i64 (y.2 : Int)] w fun e w' => e = .returned (.int .i64 (treesN g.2.2.2 y.1 y.2)) ∧ Cok w' L g n ∧ Aside L.l3 L.hi w w'
set_option maxRecDepth 100000 in
set_option maxHeartbeats 1000000 in
theorem ctrOfTerm {L : Lay} {g : GramD} {n : Nat} (w : World) (h : Cok w L g n) (x : Int) (k : Nat) (hk : k ≤ n) :
    Calls Tryz.prog 22 #[.pointer (some ⟨L.Bc, 0, none⟩), .agg #[.bool true, .int .i64 x], .int .i64 k] w fun e w' => e = .returned (.int .i64 (if k = 1 then 1 else 0)) ∧ Below w.heap.size w w' := by
 obtain ⟨K, hc, _⟩ := h
 have HC := zh hc
 clear hc
 go_enter Tryz.func22, Tryz.ntmps22
 go_wp2_with fail
 refine (ctrHas _ (HC.out.below ((Below.refl _ _).alloc (Nat.le_refl _) _)) (true, x) (fun s hs hf => by simp at hs; rw [hs] at hf; cases hf) k hk).mono ?_
 rintro e w1 ⟨rfl, hb1⟩
 have hbb : Below w.heap.size w w1 := ((Below.refl _ _).alloc (Nat.le_refl _) _).trans (hb1.mono (by simp))
 have HB := zh hbb
 have ht : w1.cell? ⟨w.heap.size, 0, none⟩ = some (.bool true) := by
  rw [hb1.cell (by simp)]; simp
 clear hb1 hbb
 have hd : hasT (lenD g.2.2.2) (true, x) k = decide (k = 1) := by rw [Bool.eq_iff_iff]; simp [hasT]
 rw [hd]
 by_cases hk1 : k = 1
 ·
  have HK := zh hk1
  clear hd
  rw [show decide (k = 1) = true by simp [hk1]]
  clear hk1
  go_wp2_with fail
  go_ret
  exact ⟨ret_int (by first | rfl | rw [if_pos HK.out]), HB.out⟩
 have HK := zh hk1
 clear hd
 rw [show decide (k = 1) = false by simp [hk1]]
 clear hk1
 go_wp2_with fail
 go_ret
 exact ⟨ret_int (by first | rfl | rw [if_neg HK.out]), HB.out⟩
def listP (S : Nat → Nat → Bool) (c : Nat → Nat → Nat) (s : SymD) (l : List SymD) (k j : Nat) : Nat := (List.range j).foldl (fun sum i => if hasT S s i && canT S l (k - i) then min (sum + ofC S c s i * listC S c l (k - i)) MC else sum) 0
theorem listP_all (S : Nat → Nat → Bool) (c : Nat → Nat → Nat) (s : SymD) (l : List SymD) (k : Nat) : listP S c s l k (k + 1) = listC S c (s :: l) k := rfl
theorem listP_succ (S : Nat → Nat → Bool) (c : Nat → Nat → Nat) (s : SymD) (l : List SymD) (k j : Nat) : listP S c s l k (j + 1) = if hasT S s j && canT S l (k - j) then min (listP S c s l k j + ofC S c s j * listC S c l (k - j)) MC else listP S c s l k j := by
 unfold listP
 rw [List.range_succ, List.foldl_append]
 rfl
theorem listP_le (S : Nat → Nat → Bool) (c : Nat → Nat → Nat) (s : SymD) (l : List SymD) (k : Nat) : ∀ j, listP S c s l k j ≤ MC
 | 0 => Nat.zero_le _
 | j + 1 => by
  rw [listP_succ]
  split
  · exact Nat.min_le_right _ _
  exact listP_le S c s l k j
set_option linter.unusedSimpArgs false in
set_option maxRecDepth 1000000 in
set_option maxHeartbeats 4000000 in
theorem ctrList {L : Lay} {g : GramD} {n : Nat} (hn : n ≤ 1000) (hR : RulesN (nonsOf g) g.2.2.2) (x : Nat × Nat) (hx : x.1 < nonsOf g) (hm : ¬ Many g.2.2.2 x) (hof : ∀ y, Edge g.2.2.2 x y → OfSpec L g n y) :
    ∀ (l : List SymD) (w : World) (_ : Cok w L g n) (S' : Nat → Prop) (_ : ∀ b, S' b → b < L.l3 ∨ L.hi ≤ b) (A : Option Addr) (m c : Nat) (_ : Sl RSym w S' A m c l) (k : Nat) (_ : Suffix g.2.2.2 x l k) (_ : k ≤ n),
    Calls Tryz.prog 45 #[.pointer (some ⟨L.Bc, 0, none⟩), .slice A m c, .int .i64 k] w fun e w' => e = .returned (.int .i64 (listC (lenD g.2.2.2) (cN g.2.2.2) l k : Nat)) ∧ Cok w' L g n ∧ Aside L.l3 L.hi w w'
 | [], w, h, S', hS', A, m, c, hl, k, hsx, hk => by
  have hm' := hl.len
  simp only [List.length_nil] at hm'
  subst hm'
  have HC := zh h
  clear hsx h hl hof
  have hd : listC (lenD g.2.2.2) (cN g.2.2.2) [] k = if k = 0 then 1 else 0 := rfl
  have HD := zh hd
  clear hd
  by_cases hk0 : k = 0
  ·
   have hz : ((k : Int) == 0) = true := by simp; omega
   have HK := zh hk0
   clear hk0
   go_enter Tryz.func45, Tryz.ntmps45
   go_wp2_with fail
   go_ret
   exact ⟨ret_int (by rw [HD.out, if_pos HK.out]; rfl), HC.out, Aside.refl _ _ _⟩
  have hz : ((k : Int) == 0) = false := by simp; omega
  have HK := zh hk0
  clear hk0
  go_enter Tryz.func45, Tryz.ntmps45
  go_wp2_with fail
  go_ret
  exact ⟨ret_int (by rw [HD.out, if_neg HK.out]; rfl), HC.out, Aside.refl _ _ _⟩
 | s :: l, w, h, S', hS', A, m, c, hl, k, hsx, hk => by
  have hm' := hl.len
  rw [List.length_cons] at hm'
  have ho := hsx.ok hR
  obtain ⟨b, off, s', rfl, hSb, hbl, hc1, hc2, hs0⟩ := sym_at hl (k := 0) (by omega)
  obtain rfl : s = s' := by simpa using hs0
  rw [Nat.zero_mul, Nat.add_zero] at hc1 hc2
  obtain ⟨A', hcut, hl'⟩ := hl.cutl tSyms rfl 1 (by omega)
  rw [List.drop_succ_cons, List.drop_zero] at hl'
  simp only [Int.cast_ofNat_Int] at hcut
  have hme : ((m : Int) == 0) = false := by simp; omega
  have hm1 : 0 < m := by omega
  have hcells : ∀ u, Aside L.l3 L.hi w u → u.cell? ⟨b, off, none⟩ = some (.bool s.1) ∧ u.cell? ⟨b, off + 1, none⟩ = some (.int .i64 s.2) := fun u hu =>
   ⟨(hu.cell hbl (hS' _ hSb)).trans hc1, (hu.cell hbl (hS' _ hSb)).trans hc2⟩
  have HCE := zh hcells
  have HC := zh h
  have HS' := zh hS'
  have HL := zh hl'
  have HO1 := zh ho.head
  have HO2 := zh ho.tail
  have HSX := zh hsx
  have HOF := zh hof
  have HM := zh hm
  have HX := zh hx
  have HRN := zh hR
  have ih := ctrList (L := L) hn hR x hx hm hof l
  have HIH := zh ih
  clear h hl hl' ho hs0 hc1 hc2 ih hm' hcells hsx hof hm hx hR hS' hSb hbl
  go_enter Tryz.func45, Tryz.ntmps45
  go_wp2_with fail
  go_loopg [7, 16] (k + 1) (fun gk t q wr => ∃ j : Nat, j ≤ k + 1 ∧ gk = k + 1 - j ∧ q = .int .i64 j ∧ t = .int .i64 ((listP (lenD g.2.2.2) (cN g.2.2.2) s l k j : Nat) : Int) ∧ Cok wr L g n ∧ Aside L.l3 L.hi w wr)
  case atStart => exact ⟨0, Nat.zero_le _, rfl, rfl, rfl, HC.out, Aside.refl _ _ _⟩
  case round =>
   obtain ⟨j, hj, hgj, rfl, rfl, hcok, hb⟩ := hrel
   have HGJ := zh hgj
   have HC1 := zh hcok
   have HB1 := zh hb
   obtain ⟨hc1, hc2⟩ := HCE.out _ hb
   have hsl := listP_le (lenD g.2.2.2) (cN g.2.2.2) s l k j
   have hsuc := listP_succ (lenD g.2.2.2) (cN g.2.2.2) s l k j
   have HSUC := zh hsuc
   clear hgj hb hsuc
   obtain ⟨K1, hctr, _⟩ := hcok
   have HT1 := zh hctr
   clear hctr
   by_cases hjl : j < k + 1
   ·
    go_wp2_with fail
    refine (ctrHas _ HT1.out s HO1.out j (by omega)).mono ?_
    rintro e w1 ⟨rfl, hb1⟩
    have HC2 := zh (HC1.out.below hb1)
    have HT2 := zh (HT1.out.below hb1)
    have HB2 := zh (HB1.out.trans (.of hb1))
    clear hb1
    cases hh : hasT (lenD g.2.2.2) s j with
    | false =>
     have HH := zh hh
     clear hh
     go_wp2_with fail
     go_roundg (k + 1 - (j + 1))
     case measure => rw [HGJ.out]; omega
     case rel => exact ⟨j + 1, by omega, rfl, by go_num, by rw [HSUC.out, HH.out]; rfl, HC2.out, HB2.out⟩
    | true =>
     have HH := zh hh
     clear hh
     have hki : ((k : Int) - (j : Int)) = ((k - j : Nat) : Int) := by omega
     have HKI := zh hki
     clear hki
     go_wp2_with fail
     rw [HKI.out]
     refine (ctrCan hn l _ HT2.out _ _ _ _ (HL.out.keep (.aside HB2.out HS'.out)) HO2.out (k - j) (by omega)).mono ?_
     rintro e w2 ⟨rfl, hb2⟩
     have HC3 := zh (HC2.out.below hb2)
     have HB3 := zh (HB2.out.trans (.of hb2))
     clear hb2
     cases hh : canT (lenD g.2.2.2) l (k - j) with
     | false =>
      have HH2 := zh hh
      clear hh
      go_wp2_with fail
      go_roundg (k + 1 - (j + 1))
      case measure => rw [HGJ.out]; omega
      case rel => exact ⟨j + 1, by omega, rfl, by go_num, by rw [HSUC.out, HH.out, HH2.out]; rfl, HC3.out, HB3.out⟩
     | true =>
      have HH2 := zh hh
      clear hh hc1 hc2
      have hd := (hasD_iff HO1.out).1 HH.out
      have hdl := (canD_iff HO2.out HRN.out).1 HH2.out
      have hjk : j ≤ k := by omega
      have hnx := HSX.out.next hjk hd
      have HNX := zh hnx
      have hofs : ∀ u : World, Cok u L g n → Calls Tryz.prog 22 #[.pointer (some ⟨L.Bc, 0, none⟩), .agg #[.bool s.1, .int .i64 s.2], .int .i64 j] u fun e w' => e = .returned (.int .i64 (ofC (lenD g.2.2.2) (cN g.2.2.2) s j : Nat)) ∧ Cok w' L g n ∧ Aside L.l3 L.hi u w' := by
       intro u hu
       have h1 := HH.out
       have hsx := HSX.out
       have ho1 := HO1.out
       obtain ⟨t, y⟩ := s
       cases t with
       | true =>
        refine (ctrOfTerm u hu y j (by omega)).mono ?_
        rintro e w' ⟨rfl, hb⟩
        refine ⟨ret_int ?_, hu.below hb, .of hb⟩
        have : j = 1 := by simpa [hasT] using h1
        unfold ofC
        rw [if_pos h1, if_pos this]
        rfl
       | false =>
        have hy := (ho1 (false, y) (by simp) rfl)
        have he := hsx.edge' HRN.out hjk hd hdl
        obtain ⟨a, rfl⟩ : ∃ a : Nat, y = (a : Int) := ⟨y.toNat, by have := hy.1; dsimp only at this; omega⟩
        rw [Int.toNat_natCast] at he
        refine (HOF.out (a, j) he u hu).mono ?_
        rintro e w' ⟨rfl, h2, h3⟩
        refine ⟨ret_int ?_, h2, h3⟩
        have hnm : ¬ Many g.2.2.2 (a, j) := fun h => HM.out (Many.back he h)
        have hlen : lenD g.2.2.2 a j = true := by simpa [hasT] using h1
        unfold treesN ofC
        rw [if_pos hlen, if_neg hnm, if_pos h1]
        simp
      have HOFS := zh hofs
      have hol : ofC (lenD g.2.2.2) (cN g.2.2.2) s j ≤ MC := by
       unfold ofC
       rw [if_pos HH.out]
       split
       · decide
       rename_i hsf
       have hy := HO1.out s (by simp) (by simpa using hsf)
       have he : Edge g.2.2.2 x (s.2.toNat, j) := by
        have hsx := HSX.out
        obtain ⟨t, y⟩ := s
        obtain rfl : t = false := by simpa using hsf
        exact hsx.edge' HRN.out hjk hd hdl
       exact cN_le HRN.out ((acc_few HRN.out HX.out HM.out).inv he)
      have hll := listC_le (lenD g.2.2.2) (cN g.2.2.2) l (k - j)
      have hpl : ofC (lenD g.2.2.2) (cN g.2.2.2) s j * listC (lenD g.2.2.2) (cN g.2.2.2) l (k - j) ≤ MC * MC := Nat.mul_le_mul hol hll
      have hsucT : listP (lenD g.2.2.2) (cN g.2.2.2) s l k (j + 1) = min (listP (lenD g.2.2.2) (cN g.2.2.2) s l k j + ofC (lenD g.2.2.2) (cN g.2.2.2) s j * listC (lenD g.2.2.2) (cN g.2.2.2) l (k - j)) MC := by
       rw [HSUC.out, HH.out, HH2.out]; rfl
      have HSUT := zh hsucT
      have HK0 := zh (HCE.out _ HB3.out.drew)
      clear hd hdl hnx hofs hsucT HSUC
      generalize hoe : ofC (lenD g.2.2.2) (cN g.2.2.2) s j = ov at *
      generalize hle : listC (lenD g.2.2.2) (cN g.2.2.2) l (k - j) = lv at *
      generalize hse : listP (lenD g.2.2.2) (cN g.2.2.2) s l k j = sv at *
      have HLE := zh hle
      clear hoe hle hse
      have hpv : ((ov : Int) * (lv : Int)) = ((ov * lv : Nat) : Int) := (Int.natCast_mul _ _).symm
      have HPV := zh hpv
      generalize ov * lv = pv at *
      have hpl' : pv ≤ 1000000000000000000 := hpl
      have hsl' : sv ≤ 1000000000 := hsl
      obtain ⟨nv, hnv⟩ := zE (min (sv + pv) MC)
      have HMUL := zh (show IntKind.i64.wrap ((ov : Int) * (lv : Int)) = (pv : Int) by rw [hpv]; exact IntWalk.i64_in _ (by omega))
      have HADD := zh (show IntKind.i64.wrap ((sv : Int) + (pv : Int)) = ((sv + pv : Nat) : Int) by rw [IntWalk.i64_in _ (by omega)]; omega)
      have HKW := zh (show IntKind.i64.wrap ((k : Int) - (j : Int)) = ((k - j : Nat) : Int) by rw [IntWalk.i64_in _ (by omega)]; omega)
      have HNV := zh (show (nv : Int) = if ((sv + pv : Nat) : Int) < 1000000000 then ((sv + pv : Nat) : Int) else 1000000000 by
       rw [hnv]
       have : MC = 1000000000 := rfl
       split <;> omega)
      have hsn : listP (lenD g.2.2.2) (cN g.2.2.2) s l k (j + 1) = nv := by rw [HSUT.out, hnv]
      have HSN := zh hsn
      clear hpv hpl hnv hsn HSUT HPV hol hll
      go_wp2_with fail
      refine wp_region_late (late := []) (S1 := fun u => u.cell? ⟨b, off, none⟩ = some (.bool s.1) ∧ u.cell? ⟨b, off + 1, none⟩ = some (.int .i64 s.2)) (S := fun _ => True) (by kernel_rfl) ?_
      refine zP (i := 0) rfl (fun u hu => by obtain ⟨k0, k1⟩ := hu; go_simp; try rfl) HK0.out zt ?_
      simp only [Act.put, zA, zB, zC, zD, zF, zG]
      refine zP (i := 1) rfl (fun u hu => by obtain ⟨k0, k1⟩ := hu; go_simp; try rfl) HK0.out zt ?_
      simp only [Act.put, zA, zB, zC, zD, zF, zG]
      refine zP (i := 2) rfl (fun u hu => by obtain ⟨k0, k1⟩ := hu; go_simp; try rfl) HK0.out zt ?_
      simp only [Act.put, zA, zB, zC, zD, zF, zG]
      refine zP (i := 3) rfl (fun u hu => by obtain ⟨k0, k1⟩ := hu; go_simp; try rfl) HK0.out zt ?_
      simp only [Act.put, zA, zB, zC, zD, zF, zG]
      refine zP (i := 4) rfl (fun u hu => by obtain ⟨k0, k1⟩ := hu; go_simp; try rfl) HK0.out zt ?_
      simp only [Act.put, zA, zB, zC, zD, zF, zG]
      refine zP (i := 5) rfl (fun u hu => by obtain ⟨k0, k1⟩ := hu; go_simp; try rfl) HK0.out zt ?_
      simp only [Act.put, zA, zB, zC, zD, zF, zG]
      refine zP (i := 7) rfl (fun u hu => by obtain ⟨k0, k1⟩ := hu; go_simp; try rfl) HK0.out zt ?_
      simp only [Act.put, zA, zB, zC, zD, zF, zG]
      refine zP (i := 8) rfl (fun u hu => by obtain ⟨k0, k1⟩ := hu; go_simp; try rfl) HK0.out zt ?_
      simp only [Act.put, zA, zB, zC, zD, zF, zG]
      refine zP (i := 9) rfl (fun u hu => by obtain ⟨k0, k1⟩ := hu; go_simp; try rfl) HK0.out zt ?_
      simp only [Act.put, zA, zB, zC, zD, zF, zG]
      refine zP (i := 10) rfl (fun u hu => by obtain ⟨k0, k1⟩ := hu; go_simp; try rfl) HK0.out zt ?_
      simp only [Act.put, zA, zB, zC, zD, zF, zG]
      refine zP (i := 11) rfl (fun u hu => by obtain ⟨k0, k1⟩ := hu; go_simp; try rfl) HK0.out zt ?_
      simp only [Act.put, zA, zB, zC, zD, zF, zG]
      refine zP (i := 12) (v := .int .i64 ((k - j : Nat) : Int)) rfl (fun u hu => by have := HKW.out; go_simp; try rfl) HK0.out zt ?_
      simp only [Act.put, zA, zB, zC, zD, zF, zG]
      refine zR 6 rfl (fun K hK => ?_)
      go_simp
      refine (HOFS.out _ HC3.out.drew).mono ?_
      rintro e w6 ⟨rfl, hc6, hb6⟩
      have HC6 := zh hc6
      have HB6 := zh (HB3.out.drew.trans hb6)
      have HK1 := zh (HCE.out _ HB6.out)
      clear hc6 hb6
      refine hK.out _ _ HK1.out zt ?_
      clear hK K
      refine zR 13 rfl (fun K hK => ?_)
      go_simp
      refine (HIH.out _ HC6.out _ HS'.out _ _ _ (HL.out.keep (.aside HB6.out HS'.out)) (k - j) HNX.out (by omega)).mono ?_
      rintro e w7 ⟨rfl, hc7, hb7⟩
      rw [HLE.out]
      have HC7 := zh hc7
      have HB7 := zh (HB6.out.trans hb7)
      have HK2 := zh (HCE.out _ HB7.out)
      clear hc7 hb7
      refine hK.out _ _ HK2.out zt ?_
      clear hK K
      refine zP (i := 14) (v := .int .i64 (pv : Int)) rfl (fun u hu => by have := HMUL.out; go_simp; try rfl) HK2.out zt ?_
      simp only [Act.put, zA, zB, zC, zD, zF, zG]
      refine zP (i := 15) (v := .int .i64 ((sv + pv : Nat) : Int)) rfl (fun u hu => by have := HADD.out; go_simp; try rfl) HK2.out zt ?_
      simp only [Act.put, zA, zB, zC, zD, zF, zG]
      refine zP (i := 16) (v := .int .i64 (nv : Int)) rfl (fun u hu => by clear hu; have hN := HNV.out; split at hN <;> rename_i hc <;> rw [hN] <;> clear hN <;> go_simp <;> omega) HK2.out zt ?_
      simp only [Act.put, zA, zB, zC, zD, zF, zG]
      refine zP (i := 17) rfl (fun u hu => by obtain ⟨k0, k1⟩ := hu; go_simp; try rfl) HK2.out zt ?_
      simp only [Act.put, zA, zB, zC, zD, zF, zG]
      refine wpAnyL_done (by kernel_rfl) ?_ _
      go_wp2_with fail
      go_roundg (k + 1 - (j + 1))
      case measure => rw [HGJ.out]; omega
      case rel => exact ⟨j + 1, by omega, rfl, by go_num, by rw [HSN.out], HC7.out, HB7.out⟩
   obtain rfl : j = k + 1 := by omega
   go_wp2_with fail
   go_ret
   exact ⟨ret_int (by rw [listP_all]), HC1.out, HB1.out⟩
def ruleP (S : Nat → Nat → Bool) (c : Nat → Nat → Nat) (R : List RuleD) (a k i : Nat) : Nat := (R.take i).foldl (fun sum r => if r.1 = (a : Int) then min (sum + listC S c r.2 k) MC else sum) 0
theorem ruleP_all (S : Nat → Nat → Bool) (c : Nat → Nat → Nat) (R : List RuleD) (a k : Nat) : ruleP S c R a k R.length = ruleC S c R a k := by
 unfold ruleP ruleC
 rw [List.take_length]
theorem ruleP_succ (S : Nat → Nat → Bool) (c : Nat → Nat → Nat) (R : List RuleD) (a k i : Nat) {r : RuleD} (h : R[i]? = some r) : ruleP S c R a k (i + 1) = if r.1 = (a : Int) then min (ruleP S c R a k i + listC S c r.2 k) MC else ruleP S c R a k i := by
 unfold ruleP
 rw [List.take_add_one, h, List.foldl_append]
 rfl
theorem ruleP_le (S : Nat → Nat → Bool) (c : Nat → Nat → Nat) (R : List RuleD) (a k i : Nat) : ruleP S c R a k i ≤ MC := ruleC_le S c (R.take i) a k
set_option linter.unusedSimpArgs false in
set_option maxRecDepth 1000000 in
set_option maxHeartbeats 4000000 in
theorem ctrOfStep {L : Lay} {g : GramD} {n : Nat} (hn : n ≤ 1000) (hR : RulesN (nonsOf g) g.2.2.2) (hrl : g.2.2.2.length ≤ 1000) (a k : Nat) (ha : a < nonsOf g) (hk : k ≤ n) (hof : ¬ Many g.2.2.2 (a, k) → ∀ y, Edge g.2.2.2 (a, k) y → OfSpec L g n y) : OfSpec L g n (a, k) := by
 intro w h
 dsimp only
 have HC := zh h
 have HOF := zh hof
 have HRN := zh hR
 have htr : treesN g.2.2.2 a k = if lenD g.2.2.2 a k then (if manyD g.2.2.2 a k then -1 else (cN g.2.2.2 a k : Int)) else 0 := by
  unfold treesN manyD
  by_cases hm : Many g.2.2.2 (a, k) <;> simp [hm]
 have HTR := zh htr
 clear htr h hof hR
 have i1 : (a : Int) < (nonsOf g : Int) := by omega
 have i2 : (k : Int) < ((n + 1 : Nat) : Int) := by omega
 have i3 : (0 : Int) ≤ (a : Int) := by omega
 have i4 : (0 : Int) ≤ (k : Int) := by omega
 go_enter Tryz.func22, Tryz.ntmps22
 go_wp2_with fail
 obtain ⟨K, hc, hK⟩ := HC.out.below ((Below.refl _ _).alloc (Nat.le_refl _) (.cells #[.bool false, .int .i64 (a : Int)] 62))
 refine (ctrHas _ hc (false, (a : Int)) (fun s hs _ => by simp at hs; rw [hs]; exact ⟨i3, by simpa using ha⟩) k hk).mono ?_
 rintro e w1 ⟨rfl, hb1⟩
 have hbb : Below w.heap.size w w1 := ((Below.refl _ _).alloc (Nat.le_refl _) _).trans (hb1.mono (by simp))
 have HB := zh hbb
 have hbx : w1.heap[w.heap.size]? = some (.cells #[.bool false, .int .i64 (a : Int)] 62 (0, 0)) := (hb1.block _ (by simp)).trans (heap_alloc_new w _)
 have HBX := zh hbx
 have ht : w1.cell? ⟨w.heap.size, 0, none⟩ = some (.bool false) := by simp [World.cell?, hbx]
 have hta : w1.cell? ⟨w.heap.size, 1, none⟩ = some (.int .i64 (a : Int)) := by simp [World.cell?, hbx]
 have hc1 := hc.below hb1
 have HCT := zh hc1
 have HKK := zh hK
 clear hb1 hbb hbx hc
 have hd : hasT (lenD g.2.2.2) (false, (a : Int)) k = lenD g.2.2.2 a k := by simp [hasT]
 rw [hd]
 clear hd
 cases hlen : lenD g.2.2.2 a k with
 | false =>
  have HLEN := zh hlen
  clear hlen hc1
  go_wp2_with fail
  go_ret
  exact ⟨ret_int (by rw [HTR.out, HLEN.out]; rfl), HC.out.below HB.out, .of HB.out⟩
 | true =>
  have HLEN := zh hlen
  clear hlen
  have c6 : w1.cell? ⟨L.Bc, 6, none⟩ = some (.slice (some ⟨L.g2, 0, none⟩) (nonsOf g) L.c2) := hc1.cell 6
  have c6h := hc1.gM.hdr a ha
  have c6c := hc1.gM.cell ha (show k < n + 1 by omega)
  have c7 : w1.cell? ⟨L.Bc, 7, none⟩ = some (.slice (some ⟨L.g3, 0, none⟩) (nonsOf g) L.c3) := hc1.cell 7
  have c7h := hc1.gK.hdr a ha
  have c7c := hc1.gK.cell ha (show k < n + 1 by omega)
  have l1 := cell_lt c6
  have l2 := cell_lt c6h
  have l3 := cell_lt c6c
  have l4 := cell_lt c7h
  have l5 := cell_lt c7c
  cases hmy : manyD g.2.2.2 a k with
  | true =>
   have HMY := zh hmy
   rw [hmy] at c6c
   clear hmy hc1 hK c7 c7h c7c
   go_wp2_with fail
   go_quiet (fail)
   go_wp2_with fail
   go_ret
   exact ⟨ret_int (by rw [HTR.out, HLEN.out, HMY.out]; rfl), HC.out.below (belowN HB.out _), .of (belowN HB.out _)⟩
  | false =>
   have HMY := zh hmy
   rw [hmy] at c6c
   have htr : treesN g.2.2.2 a k = (cN g.2.2.2 a k : Int) := by rw [HTR.out, HLEN.out, HMY.out]; rfl
   have HTR2 := zh htr
   have hKa := hK a k ha hk
   have hnm : ¬ Many g.2.2.2 (a, k) := by simpa [manyD] using hmy
   have HNM := zh hnm
   clear hmy hK htr HTR
   by_cases hneg : K a k < 0
   ·
    clear hKa
    have hge : decide (0 ≤ K a k) = false := by simp; omega
    have c0 : w1.cell? ⟨L.Bc, 3, none⟩ = some (.slice L.AR L.nR L.cR) := hc1.cell 3
    have hnR : L.nR ≤ 1000 := by have := hc1.rules.len; omega
    have hnl : L.nR = g.2.2.2.length := hc1.rules.len
    have HNL := zh hnl
    have ho1 := hc1.o1
    have ho2 := hc1.o2
    have ho3 := hc1.o3
    have ho4 := hc1.o4
    clear hc1 hnl
    generalize hAR0 : L.AR = AR0 at c0
    have HAR0 := zh hAR0
    clear hAR0
    go_wp2_with fail
    go_quiet (fail)
    go_wp2_with fail
    go_quiet (fail)
    go_wp2_with fail
    generalize hw2 : World.drewN w1 _ = w2
    have HC2 : Hid (Cok w2 L g n) := zh (hw2 ▸ Cok.drewN ⟨K, HCT.out, HKK.out⟩ _)
    have HBX2 : Hid (w2.heap[w.heap.size]? = some (.cells #[.bool false, .int .i64 (a : Int)] 62 (0, 0))) := zh (hw2 ▸ HBX.out)
    have HB2 : Hid (Aside L.l3 L.hi w w2) := zh (hw2 ▸ .of (belowN HB.out _))
    have hwl : L.hi ≤ w.heap.size := by
     obtain ⟨_, hq, _⟩ := HC.out
     have := hq.lt
     have := hq.o4
     omega
    clear hw2 HCT HKK HBX HB ht hta c6 c6h c6c c7 c7h c7c c0 l1 l2 l3 l4 l5 hge hneg hnm
    go_loopg [7, 61] L.nR (fun gk t q wr => ∃ i : Nat, i ≤ L.nR ∧ gk = L.nR - i ∧ q = .int .i64 i ∧ t = .int .i64 ((ruleP (lenD g.2.2.2) (cN g.2.2.2) g.2.2.2 a k i : Nat) : Int) ∧ Cok wr L g n ∧ wr.heap[w.heap.size]? = some (.cells #[.bool false, .int .i64 (a : Int)] 62 (0, 0)) ∧ Aside L.l3 L.hi w wr)
    case atStart => exact ⟨0, Nat.zero_le _, rfl, rfl, rfl, HC2.out, HBX2.out, HB2.out⟩
    case round =>
     obtain ⟨i, hi, hgi, rfl, rfl, hcok, hbx, hb⟩ := hrel
     have HGI := zh hgi
     have HC3 := zh hcok
     have HBX3 := zh hbx
     have HB3 := zh hb
     have hta : wr.cell? ⟨w.heap.size, 1, none⟩ = some (.int .i64 (a : Int)) := by simp [World.cell?, hbx]
     have hlw := heap_lt hbx
     have hsl : ruleP (lenD g.2.2.2) (cN g.2.2.2) g.2.2.2 a k i ≤ 1000000000 := ruleP_le (lenD g.2.2.2) (cN g.2.2.2) g.2.2.2 a k i
     clear hgi hbx hb HC2 HBX2 HB2
     obtain ⟨K3, hctr, hK3⟩ := hcok
     by_cases hin : i < L.nR
     ·
      obtain ⟨b0, off, AQ, m, cQ, r, hAR, hS0, hb0, hr1, hr2, hr, hrs⟩ := rule_at hctr.rules hin
      rw [HAR0.out] at hAR
      subst hAR
      have hsuc := ruleP_succ (lenD g.2.2.2) (cN g.2.2.2) g.2.2.2 a k i hr
      have HSUC := zh hsuc
      have HR := zh hr
      have HRS := zh hrs
      clear hsuc hr hrs hctr hK3 hS0
      obtain ⟨r1, r2⟩ := r
      dsimp only at hr1
      by_cases he : r1 = (a : Int)
      ·
       have hll : listC (lenD g.2.2.2) (cN g.2.2.2) r2 k ≤ 1000000000 := listC_le (lenD g.2.2.2) (cN g.2.2.2) r2 k
       have hsu : ruleP (lenD g.2.2.2) (cN g.2.2.2) g.2.2.2 a k (i + 1) = min (ruleP (lenD g.2.2.2) (cN g.2.2.2) g.2.2.2 a k i + listC (lenD g.2.2.2) (cN g.2.2.2) r2 k) 1000000000 := by rw [HSUC.out, if_pos he]
       have HSU := zh hsu
       clear hsu HSUC
       generalize hse : ruleP (lenD g.2.2.2) (cN g.2.2.2) g.2.2.2 a k i = sv at *
       clear hse
       subst he
       go_wp2_with fail
       refine (ctrList hn HRN.out (a, k) ha HNM.out (HOF.out HNM.out) r2 _ (HC3.out.below ((Below.refl _ _).alloc (Nat.le_refl _) _)) (fun b => b < L.lo) (fun b hb => Or.inl (by omega)) _ _ _ (HRS.out.alloc _) k (Suffix.start (x := (a, k)) (List.mem_of_getElem? HR.out) rfl) hk).mono ?_
       rintro e w5 ⟨rfl, hc5, hb5⟩
       have HC5 := zh hc5
       have HB5 := zh ((HB3.out.alloc _).trans hb5)
       have HBX5 := zh ((hb5.block _ (by simp; omega) (Or.inr (by omega))).trans ((Below.heap_alloc _ _ _ hlw).trans HBX3.out))
       clear hc5 hb5
       generalize hle : listC (lenD g.2.2.2) (cN g.2.2.2) r2 k = lv at *
       clear hle
       go_wp2_with fail
       all_goals
        go_roundg (L.nR - (i + 1))
        case measure => rw [HGI.out]; omega
        case rel => exact ⟨i + 1, by omega, rfl, by go_num, by rw [HSU.out]; congr 1; omega, HC5.out, HBX5.out, HB5.out⟩
      have hne : (r1 == (a : Int)) = false := by simpa using he
      have hsu : ruleP (lenD g.2.2.2) (cN g.2.2.2) g.2.2.2 a k (i + 1) = ruleP (lenD g.2.2.2) (cN g.2.2.2) g.2.2.2 a k i := by rw [HSUC.out, if_neg he]
      have HSU := zh hsu
      clear hsu HSUC he
      go_wp2_with fail
      go_roundg (L.nR - (i + 1))
      case measure => rw [HGI.out]; omega
      case rel => exact ⟨i + 1, by omega, rfl, by go_num, by rw [HSU.out], HC3.out.below ((Below.refl _ _).alloc (Nat.le_refl _) _), (Below.heap_alloc _ _ _ hlw).trans HBX3.out, HB3.out.alloc _⟩
     obtain rfl : i = L.nR := by omega
     have hsum : ruleP (lenD g.2.2.2) (cN g.2.2.2) g.2.2.2 a k L.nR = cN g.2.2.2 a k := by
      rw [HNL.out, ruleP_all, ← cN_eq HRN.out (acc_few HRN.out (x := (a, k)) ha HNM.out)]
     rw [hsum]
     have HC9 := zh hctr.drew
     have HFT9 := zh (hctr.drew.gK.fr ha k)
     have HCT9 := zh (hctr.drew.gK.cell ha (show k < n + 1 by omega))
     obtain ⟨rg1, rg2, rg3⟩ := hctr.gK.rng a ha
     have HK9 := zh (show wr.drew.cell? ⟨L.Bc, 7, none⟩ = some (.slice (some ⟨L.g3, 0, none⟩) (nonsOf g) L.c3) ∧ wr.drew.cell? ⟨L.g3, a, none⟩ = some (.slice (some ⟨L.s3 a, 0, none⟩) (n + 1) (n + 1)) ∧ wr.drew.cell? ⟨w.heap.size, 1, none⟩ = some (.int .i64 (a : Int)) from ⟨hctr.drew.cell 7, hctr.drew.gK.hdr a ha, hta⟩)
     have HS10 := zh (And.intro (setOther (.int .i64 (cN g.2.2.2 a k : Int)) (p := ⟨L.s3 a, k, none⟩) HK9.out.1 (by simp; omega)) (And.intro (setOther (.int .i64 (cN g.2.2.2 a k : Int)) (p := ⟨L.s3 a, k, none⟩) HK9.out.2.1 (Ne.symm rg3)) (setOther (.int .i64 (cN g.2.2.2 a k : Int)) (p := ⟨L.s3 a, k, none⟩) HK9.out.2.2 (by simp; omega))))
     have HC10 := zh (show Cok (wr.drew.setCell ⟨L.s3 a, k, none⟩ (.int .i64 (cN g.2.2.2 a k : Int))) L g n from ⟨_, hctr.drew.setK k ha _, fun b j hb hj => by
      by_cases e : b = a ∧ j = k
      ·
       rw [if_pos e]
       obtain ⟨rfl, rfl⟩ := e
       exact Or.inr rfl
      rw [if_neg e]
      exact hK3 b j hb hj⟩)
     have HB10 := zh (HB3.out.drew.setCell (p := ⟨L.s3 a, k, none⟩) rg1 rg2 (.int .i64 (cN g.2.2.2 a k : Int)))
     have i5 : (k : Int) < (n : Int) + 1 := by omega
     clear hctr hK3 hta hsum
     go_wp2_with fail
     refine wp_region_late (late := []) (S1 := fun u => u.cell? ⟨L.Bc, 7, none⟩ = some (.slice (some ⟨L.g3, 0, none⟩) (nonsOf g) L.c3) ∧ u.cell? ⟨L.g3, a, none⟩ = some (.slice (some ⟨L.s3 a, 0, none⟩) (n + 1) (n + 1)) ∧ u.cell? ⟨w.heap.size, 1, none⟩ = some (.int .i64 (a : Int))) (S := fun _ => True) (by kernel_rfl) ?_
     refine zP (i := 0) rfl (fun u hu => by obtain ⟨k0, k1, k3⟩ := hu; go_simp; try rfl) HK9.out zt ?_
     simp only [Act.put, zA, zB, zC, zD, zF, zG]
     refine zP (i := 1) rfl (fun u hu => by obtain ⟨k0, k1, k3⟩ := hu; go_simp; try rfl) HK9.out zt ?_
     simp only [Act.put, zA, zB, zC, zD, zF, zG]
     refine zP (i := 2) rfl (fun u hu => by obtain ⟨k0, k1, k3⟩ := hu; go_simp; try rfl) HK9.out zt ?_
     simp only [Act.put, zA, zB, zC, zD, zF, zG]
     refine zP (i := 3) rfl (fun u hu => by obtain ⟨k0, k1, k3⟩ := hu; go_simp; try rfl) HK9.out zt ?_
     simp only [Act.put, zA, zB, zC, zD, zF, zG]
     refine zP (i := 4) rfl (fun u hu => by obtain ⟨k0, k1, k3⟩ := hu; go_simp; try rfl) HK9.out zt ?_
     simp only [Act.put, zA, zB, zC, zD, zF, zG]
     refine zP (i := 5) rfl (fun u hu => by obtain ⟨k0, k1, k3⟩ := hu; go_simp; try rfl) HK9.out zt ?_
     simp only [Act.put, zA, zB, zC, zD, zF, zG]
     refine zP (i := 6) rfl (fun u hu => by obtain ⟨k0, k1, k3⟩ := hu; go_simp; try rfl) HK9.out zt ?_
     simp only [Act.put, zA, zB, zC, zD, zF, zG]
     refine zP (i := 7) rfl (fun u hu => by obtain ⟨k0, k1, k3⟩ := hu; go_simp; try rfl) HK9.out zt ?_
     simp only [Act.put, zA, zB, zC, zD, zF, zG]
     refine zP (i := 8) rfl (fun u hu => by obtain ⟨k0, k1, k3⟩ := hu; go_simp; try rfl) HK9.out zt ?_
     simp only [Act.put, zA, zB, zC, zD, zF, zG]
     refine zP (i := 9) rfl (fun u hu => by obtain ⟨k0, k1, k3⟩ := hu; go_simp; try rfl) HK9.out zt ?_
     simp only [Act.put, zA, zB, zC, zD, zF, zG]
     refine zP (i := 10) rfl (fun u hu => by obtain ⟨k0, k1, k3⟩ := hu; go_simp; try rfl) HK9.out zt ?_
     simp only [Act.put, zA, zB, zC, zD, zF, zG]
     refine zR 11 rfl (fun K hK => ?_)
     have hc := HCT9.out
     have hf := HFT9.out
     go_simp
     clear hc hf
     refine hK.out _ _ HS10.out zt ?_
     clear hK K
     refine wpAnyL_done (by kernel_rfl) ?_ _
     go_wp2_with fail
     go_ret
     exact ⟨ret_int (by rw [HTR2.out]), HC10.out, HB10.out⟩
   have hKe : K a k = (cN g.2.2.2 a k : Int) := hKa.resolve_left hneg
   rw [hKe] at c7c
   clear hKa hneg hKe hc1
   go_wp2_with fail
   go_quiet (fail)
   go_wp2_with fail
   go_quiet (fail)
   go_wp2_with fail
   go_quiet (fail)
   go_wp2_with fail
   go_ret
   exact ⟨ret_int (by rw [HTR2.out]), HC.out.below (belowN (belowN (belowN HB.out _) _) _), .of (belowN (belowN (belowN HB.out _) _) _)⟩
theorem ctrOf {L : Lay} {g : GramD} {n : Nat} (hn : n ≤ 1000) (hR : RulesN (nonsOf g) g.2.2.2) (hrl : g.2.2.2.length ≤ 1000) (a k : Nat) (ha : a < nonsOf g) (hk : k ≤ n) : OfSpec L g n (a, k) := by
 have key : ∀ x : Nat × Nat, Acc (fun y x => Edge g.2.2.2 x y) x → x.1 < nonsOf g → x.2 ≤ n → ¬ Many g.2.2.2 x → OfSpec L g n x := by
  intro x hx
  induction hx with
  | intro x _ ih =>
   intro h1 h2 hm
   exact ctrOfStep hn hR hrl x.1 x.2 h1 h2 fun _ y hy => ih y hy (hy.lt hR) (Nat.le_trans hy.le h2) fun h => hm (Many.back hy h)
 exact ctrOfStep hn hR hrl a k ha hk fun hm y hy => key y ((acc_few hR (x := (a, k)) ha hm).inv hy) (hy.lt hR) (Nat.le_trans hy.le hk) fun h => hm (Many.back hy h)
end Go.Proofs.YtjnbjdbndbbanaaGreatDoor
