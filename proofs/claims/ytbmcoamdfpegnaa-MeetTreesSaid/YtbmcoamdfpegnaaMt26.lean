/- MkInst MkProdP -/
import Derived.Test.YtbmcoamdfpegnaaMt25
namespace Go.Proofs.Ytbmcoamdfpegnaa
open Go.RowKit Go.Maps
theorem mkWalk (M : Mkr) (hM : M.Ok) (W : List TriD) (I : ICtx) (hI : I.Ok M W) : ∀ l, WalkAt M W I l
 | [] => mkWalk0 M W I hI
 | s :: l => mkWalkS M hM W I hI s l (mkWalk M hM W I hI l)
def InstR (I : ICtx) (u : World) (F : Nat → Prop) (done X : List (List Nat)) (e : Ending) (w' : World) : Prop :=
 ∃ (F' : Nat → Prop) (b : Bool), e = .returned (.bool b) ∧ (∀ b, F' b → F b ∨ u.heap.size ≤ b) ∧ Only u w' (fun b => I.XB b ∨ F b) ∧ (b = true → I.Inv F' (done ++ X) w' ∧ (X = [] ∨ done.length + X.length ≤ I.lim)) ∧ (b = false → I.lim < done.length + X.length)
theorem enters_walk : ∀ (args : Array Value) (u : World), (callFunc 83 args).run Try.prog u = .ok (.enter 83 args) u := enters_of Try.func83 (by kernel_rfl) rfl
set_option linter.unusedSimpArgs false in
set_option maxRecDepth 100000 in
set_option maxHeartbeats 4000000 in
theorem mkInst (M : Mkr) (hM : M.Ok) (W : List TriD) (I : ICtx) (hI : I.Ok M W) (u : World) (F : Nat → Prop) (done : List (List Nat)) (hinv : I.Inv F done u) (hdl : done.length ≤ I.lim) (hK : I.K = u.heap.size) (a : Int) (hr : M.R[I.rule]? = some (a, I.rhs)) :
    Calls Try.prog 57 #[.pointer (some ⟨M.Bm, 0, none⟩), .agg #[.int .i64 (I.t.1 : Int), .int .i64 (I.t.2.1 : Int), .int .i64 (I.t.2.2 : Int)], .int .i64 (I.rule : Int), .func (.func I.f) #[] I.caps] u (InstR I u F done (instL M.d (inW W) I.t.2.2 I.rhs I.t.1)) := by
 have HM := Lib.hid hM
 have HI := Lib.hid hI
 have HIN := Lib.hid hinv
 have hmk := hI.mkr _ _ _ hinv
 have hrl : I.rule < M.nR := by rw [hM.nR]; exact (List.getElem?_eq_some_iff.1 hr).1
 have hnR : M.nR ≤ 32 := by rw [hM.nR]; exact hM.g.rl
 obtain ⟨h0, hr4, hsy⟩ := hM.rule (List.mem_of_getElem? hr)
 obtain ⟨bR, oR, u1, u2, r, hA, hSb, hrs, hok, hc1, hc2⟩ := hmk.rules.at2 (k := I.rule) rfl hrl
 rw [hr] at hrs
 injection hrs with hrs
 subst hrs
 obtain ⟨A1, n1, c1, h2, hsl⟩ := RRule.cells.1 hok
 injection h2 with e1 h2
 injection h2 with e2 _
 subst e1
 subst e2
 have kR := hmk.cells.2.2.2.1
 rw [hA] at kR
 have hc2 : u.cell? ⟨bR, oR + I.rule * 2 + 1, none⟩ = some (.slice A1 n1 c1) := hc2
 have HSL := Lib.hid hsl
 have HSY := Lib.hid hsy
 have HR4 := Lib.hid hr4
 have HC := Lib.hid (And.intro kR hc2)
 obtain ⟨w5, hw5⟩ : ∃ w5 : World, w5 = ((((u.alloc (.cells #[.pointer (some ⟨M.Bm, 0, none⟩)] 71)).alloc (.cells #[.int .i64 (I.t.1 : Int), .int .i64 (I.t.2.1 : Int), .int .i64 (I.t.2.2 : Int)] 92)).alloc (.cells #[.int .i64 (I.rule : Int)] 3)).alloc (.cells #[.func (.func I.f) #[] I.caps] 114)).alloc (.cells #[.func (.func 83) #[] #[.pointer (some ⟨u.heap.size + 1, 0, none⟩), .pointer (some ⟨u.heap.size + 1 + 1 + 1, 0, none⟩), .pointer (some ⟨u.heap.size + 1 + 1, 0, none⟩), .pointer (some ⟨u.heap.size, 0, none⟩), .pointer (some ⟨u.heap.size + 1 + 1 + 1 + 1, 0, none⟩)]] 133) := ⟨_, rfl⟩
 have HW5 := Lib.hid hw5
 have he := enters_walk
 clear hM hI hinv hmk hr hok hsl hsy hr4 hw5 hc1 kR hc2 hA
 go_enter Try.func57, Try.ntmps57
 go_wp2_with fail
 rw [← HW5.out]
 have hz : w5.heap.size = I.K + 5 := by rw [HW5.out]; simp; omega
 have e4 : u.heap.size + 1 + 1 + 1 + 1 = I.K + 4 := by omega
 have e3 : u.heap.size + 1 + 1 + 1 = I.K + 3 := by omega
 have e2 : u.heap.size + 1 + 1 = I.K + 2 := by omega
 have e1 : u.heap.size + 1 = I.K + 1 := by omega
 have hb05 : Below u.heap.size u w5 := by rw [HW5.out]; exact (((((Below.refl _ _).alloc (Nat.le_refl _) _).alloc (by simp) _).alloc (by simp; omega) _).alloc (by simp; omega) _).alloc (by simp; omega) _
 have HST := Lib.hid (show WSt M I F done w5 from by
  refine ⟨HI.out.keep _ _ _ _ (fun _ => False) HIN.out (.of_below hb05 (Nat.le_refl _) _) fun _ h => h.elim, ?_, ?_, ?_, ?_, ?_, fun b hb => .inl (by rw [hK]; exact HI.out.fit _ _ _ HIN.out b hb)⟩
  ·
   rw [hK, HW5.out, Below.heap_alloc _ _ _ (by simp only [World.size_alloc]; omega), Below.heap_alloc _ _ _ (by simp only [World.size_alloc]; omega), Below.heap_alloc _ _ _ (by simp only [World.size_alloc]; omega), Below.heap_alloc _ _ _ (by simp)]
   exact heap_alloc_new _ _
  ·
   rw [← e1, HW5.out, Below.heap_alloc _ _ _ (by simp only [World.size_alloc]; omega), Below.heap_alloc _ _ _ (by simp only [World.size_alloc]; omega), Below.heap_alloc _ _ _ (by simp)]
   have := heap_alloc_new (u.alloc (.cells #[.pointer (some ⟨M.Bm, 0, none⟩)] 71)) (.cells #[.int .i64 (I.t.1 : Int), .int .i64 (I.t.2.1 : Int), .int .i64 (I.t.2.2 : Int)] 92)
   simpa using this
  ·
   rw [← e2, HW5.out, Below.heap_alloc _ _ _ (by simp only [World.size_alloc]; omega), Below.heap_alloc _ _ _ (by simp)]
   have := heap_alloc_new ((u.alloc (.cells #[.pointer (some ⟨M.Bm, 0, none⟩)] 71)).alloc (.cells #[.int .i64 (I.t.1 : Int), .int .i64 (I.t.2.1 : Int), .int .i64 (I.t.2.2 : Int)] 92)) (.cells #[.int .i64 (I.rule : Int)] 3)
   simpa using this
  ·
   rw [← e3, HW5.out, Below.heap_alloc _ _ _ (by simp)]
   have := heap_alloc_new (((u.alloc (.cells #[.pointer (some ⟨M.Bm, 0, none⟩)] 71)).alloc (.cells #[.int .i64 (I.t.1 : Int), .int .i64 (I.t.2.1 : Int), .int .i64 (I.t.2.2 : Int)] 92)).alloc (.cells #[.int .i64 (I.rule : Int)] 3)) (.cells #[.func (.func I.f) #[] I.caps] 114)
   simpa using this
  ·
   rw [← e4, ← e3, ← e2, ← e1, hK, HW5.out]
   have := heap_alloc_new ((((u.alloc (.cells #[.pointer (some ⟨M.Bm, 0, none⟩)] 71)).alloc (.cells #[.int .i64 (I.t.1 : Int), .int .i64 (I.t.2.1 : Int), .int .i64 (I.t.2.2 : Int)] 92)).alloc (.cells #[.int .i64 (I.rule : Int)] 3)).alloc (.cells #[.func (.func I.f) #[] I.caps] 114)) (.cells #[.func (.func 83) #[] #[.pointer (some ⟨u.heap.size + 1, 0, none⟩), .pointer (some ⟨u.heap.size + 1 + 1 + 1, 0, none⟩), .pointer (some ⟨u.heap.size + 1 + 1, 0, none⟩), .pointer (some ⟨u.heap.size, 0, none⟩), .pointer (some ⟨u.heap.size + 1 + 1 + 1 + 1, 0, none⟩)]] 133)
   simpa using this)
 rw [e4, e3, e2, e1, ← hK]
 have HB05 := Lib.hid hb05
 have HKK := Lib.hid hK
 have HZ := Lib.hid hz
 have HKC := Lib.hid (show ∀ x : World, Below w5.heap.size w5 x → x.cell? ⟨I.K + 4, 0, none⟩ = some (.func (.func 83) #[] #[.pointer (some ⟨I.K + 1, 0, none⟩), .pointer (some ⟨I.K + 3, 0, none⟩), .pointer (some ⟨I.K + 2, 0, none⟩), .pointer (some ⟨I.K, 0, none⟩), .pointer (some ⟨I.K + 4, 0, none⟩)]) ∧ x.cell? ⟨I.K, 0, none⟩ = some (.pointer (some ⟨M.Bm, 0, none⟩)) ∧ x.cell? ⟨M.Bm, 3, none⟩ = some (.slice (some ⟨bR, oR, none⟩) M.nR M.cR) ∧ x.cell? ⟨I.K + 2, 0, none⟩ = some (.int .i64 (I.rule : Int)) ∧ x.cell? ⟨bR, oR + I.rule * 2 + 1, none⟩ = some (.slice A1 n1 c1) ∧ x.cell? ⟨I.K + 1, 0, none⟩ = some (.int .i64 (I.t.1 : Int)) from fun x hx => by
  have h := (HST.out.below HI.out hx).cells
  have hb : Below u.heap.size u x := HB05.out.trans (hx.mono HB05.out.size)
  exact ⟨h.2.2.2.2.2.2, h.1, (hb.cell (cell_lt HC.out.1)).trans HC.out.1, h.2.2.2.2.1, (hb.cell (cell_lt HC.out.2)).trans HC.out.2, h.2.1⟩)
 have HKX := Lib.hid (show ∀ (wC wB : World), Only wB wC (fun b => I.XB b ∨ F b) → Below w5.heap.size w5 wB → wC.cell? ⟨I.K + 4, 0, none⟩ = some (.func (.func 83) #[] #[.pointer (some ⟨I.K + 1, 0, none⟩), .pointer (some ⟨I.K + 3, 0, none⟩), .pointer (some ⟨I.K + 2, 0, none⟩), .pointer (some ⟨I.K, 0, none⟩), .pointer (some ⟨I.K + 4, 0, none⟩)]) ∧ wC.cell? ⟨I.K, 0, none⟩ = some (.pointer (some ⟨M.Bm, 0, none⟩)) ∧ wC.cell? ⟨M.Bm, 3, none⟩ = some (.slice (some ⟨bR, oR, none⟩) M.nR M.cR) ∧ wC.cell? ⟨I.K + 2, 0, none⟩ = some (.int .i64 (I.rule : Int)) ∧ wC.cell? ⟨bR, oR + I.rule * 2 + 1, none⟩ = some (.slice A1 n1 c1) ∧ wC.cell? ⟨I.K + 1, 0, none⟩ = some (.int .i64 (I.t.1 : Int)) from fun wC wB ho hb => by
  have h := HKC.out wB hb
  have hn : ∀ b, I.K ≤ b → b < I.K + 5 → ¬ (I.XB b ∨ F b) := fun b h1 h2 h3 => by
   rcases h3 with h3 | h3
   ·
    have := HI.out.xb b h3; omega
   ·
    have := HST.out.off b h3; omega
  have hm : ¬ (I.XB M.Bm ∨ F M.Bm) := fun h => h.elim HI.out.xm (HI.out.fm _ _ _ HIN.out)
  have hs : ¬ (I.XB bR ∨ F bR) := fun h => h.elim (HI.out.ms _ hSb).2 (HI.out.msF _ _ _ HIN.out _ hSb)
  have key : ∀ {b o : Nat} {v : Value}, ¬ (I.XB b ∨ F b) → wB.cell? ⟨b, o, none⟩ = some v → wC.cell? ⟨b, o, none⟩ = some v := fun {b o v} h1 h2 => by
   rw [World.cell?_of_block (ho.block b (cell_lt h2) h1)]; exact h2
  exact ⟨key (hn _ (by omega) (by omega)) h.1, key (hn _ (by omega) (by omega)) h.2.1, key hm h.2.2.1, key (hn _ (by omega) (by omega)) h.2.2.2.1, key hs h.2.2.2.2.1, key (hn _ (by omega) (by omega)) h.2.2.2.2.2⟩)
 clear e4 e3 e2 e1 hb05 hK hz
 have hrI : (I.rule : Int) < (M.nR : Int) := by omega
 have hr0 : (0 : Int) ≤ (I.rule : Int) := by omega
 refine wp_region_late (late := []) (S1 := fun x => x.cell? ⟨I.K + 4, 0, none⟩ = some (.func (.func 83) #[] #[.pointer (some ⟨I.K + 1, 0, none⟩), .pointer (some ⟨I.K + 3, 0, none⟩), .pointer (some ⟨I.K + 2, 0, none⟩), .pointer (some ⟨I.K, 0, none⟩), .pointer (some ⟨I.K + 4, 0, none⟩)]) ∧ x.cell? ⟨I.K, 0, none⟩ = some (.pointer (some ⟨M.Bm, 0, none⟩)) ∧ x.cell? ⟨M.Bm, 3, none⟩ = some (.slice (some ⟨bR, oR, none⟩) M.nR M.cR) ∧ x.cell? ⟨I.K + 2, 0, none⟩ = some (.int .i64 (I.rule : Int)) ∧ x.cell? ⟨bR, oR + I.rule * 2 + 1, none⟩ = some (.slice A1 n1 c1) ∧ x.cell? ⟨I.K + 1, 0, none⟩ = some (.int .i64 (I.t.1 : Int))) (S := fun _ => True) (by kernel_rfl) ?_
 refine wpAnyL_pure (i := 0) rfl (by kernel_rfl) (fun _ _ _ h => h) (Or.inl ⟨by rfl, (fun u hu => by obtain ⟨k0, k1, k2, k3, k4, k5⟩ := hu; go_simp; try rfl)⟩) (HKC.out _ (Below.refl _ _).drew) (fun _ => trivial) ?_
 simp only [Act.put, List.setIfInBounds_toArray, List.set_cons_zero, List.set_cons_succ, List.getElem_toArray, List.getElem_cons_zero, List.getElem_cons_succ]
 refine wpAnyL_pure (i := 1) rfl (by kernel_rfl) (fun _ _ _ h => h) (Or.inl ⟨by rfl, (fun u hu => by obtain ⟨k0, k1, k2, k3, k4, k5⟩ := hu; go_simp; try rfl)⟩) (HKC.out _ (Below.refl _ _).drew) (fun _ => trivial) ?_
 simp only [Act.put, List.setIfInBounds_toArray, List.set_cons_zero, List.set_cons_succ, List.getElem_toArray, List.getElem_cons_zero, List.getElem_cons_succ]
 refine wpAnyL_pure (i := 2) rfl (by kernel_rfl) (fun _ _ _ h => h) (Or.inl ⟨by rfl, (fun u hu => by obtain ⟨k0, k1, k2, k3, k4, k5⟩ := hu; go_simp; try rfl)⟩) (HKC.out _ (Below.refl _ _).drew) (fun _ => trivial) ?_
 simp only [Act.put, List.setIfInBounds_toArray, List.set_cons_zero, List.set_cons_succ, List.getElem_toArray, List.getElem_cons_zero, List.getElem_cons_succ]
 refine wpAnyL_pure (i := 3) rfl (by kernel_rfl) (fun _ _ _ h => h) (Or.inl ⟨by rfl, (fun u hu => by obtain ⟨k0, k1, k2, k3, k4, k5⟩ := hu; go_simp; try rfl)⟩) (HKC.out _ (Below.refl _ _).drew) (fun _ => trivial) ?_
 simp only [Act.put, List.setIfInBounds_toArray, List.set_cons_zero, List.set_cons_succ, List.getElem_toArray, List.getElem_cons_zero, List.getElem_cons_succ]
 refine wpAnyL_pure (i := 4) rfl (by kernel_rfl) (fun _ _ _ h => h) (Or.inl ⟨by rfl, (fun u hu => by obtain ⟨k0, k1, k2, k3, k4, k5⟩ := hu; go_simp; try rfl)⟩) (HKC.out _ (Below.refl _ _).drew) (fun _ => trivial) ?_
 simp only [Act.put, List.setIfInBounds_toArray, List.set_cons_zero, List.set_cons_succ, List.getElem_toArray, List.getElem_cons_zero, List.getElem_cons_succ]
 refine wpAnyL_pure (i := 5) rfl (by kernel_rfl) (fun _ _ _ h => h) (Or.inl ⟨by rfl, (fun u hu => by obtain ⟨k0, k1, k2, k3, k4, k5⟩ := hu; go_simp; try rfl)⟩) (HKC.out _ (Below.refl _ _).drew) (fun _ => trivial) ?_
 simp only [Act.put, List.setIfInBounds_toArray, List.set_cons_zero, List.set_cons_succ, List.getElem_toArray, List.getElem_cons_zero, List.getElem_cons_succ]
 refine wpAnyL_pure (i := 6) rfl (by kernel_rfl) (fun _ _ _ h => h) (Or.inl ⟨by rfl, (fun u hu => by obtain ⟨k0, k1, k2, k3, k4, k5⟩ := hu; go_simp; try rfl)⟩) (HKC.out _ (Below.refl _ _).drew) (fun _ => trivial) ?_
 simp only [Act.put, List.setIfInBounds_toArray, List.set_cons_zero, List.set_cons_succ, List.getElem_toArray, List.getElem_cons_zero, List.getElem_cons_succ]
 refine wpAnyL_pure (i := 7) rfl (by kernel_rfl) (fun _ _ _ h => h) (Or.inl ⟨by rfl, (fun u hu => by obtain ⟨k0, k1, k2, k3, k4, k5⟩ := hu; go_simp; try rfl)⟩) (HKC.out _ (Below.refl _ _).drew) (fun _ => trivial) ?_
 simp only [Act.put, List.setIfInBounds_toArray, List.set_cons_zero, List.set_cons_succ, List.getElem_toArray, List.getElem_cons_zero, List.getElem_cons_succ]
 refine wpAnyL_pure (i := 8) rfl (by kernel_rfl) (fun _ _ _ h => h) (Or.inl ⟨by rfl, (fun u hu => by obtain ⟨k0, k1, k2, k3, k4, k5⟩ := hu; go_simp; try rfl)⟩) (HKC.out _ (Below.refl _ _).drew) (fun _ => trivial) ?_
 simp only [Act.put, List.setIfInBounds_toArray, List.set_cons_zero, List.set_cons_succ, List.getElem_toArray, List.getElem_cons_zero, List.getElem_cons_succ]
 refine wpAnyL_pure (i := 9) rfl (by kernel_rfl) (fun _ _ _ h => h) (Or.inl ⟨by rfl, (fun u hu => by obtain ⟨k0, k1, k2, k3, k4, k5⟩ := hu; go_simp; try rfl)⟩) (HKC.out _ (Below.refl _ _).drew) (fun _ => trivial) ?_
 simp only [Act.put, List.setIfInBounds_toArray, List.set_cons_zero, List.set_cons_succ, List.getElem_toArray, List.getElem_cons_zero, List.getElem_cons_succ]
 refine wpAnyL_pure (i := 10) rfl (by kernel_rfl) (fun _ _ _ h => h) (Or.inl ⟨by rfl, (fun u hu => by obtain ⟨k0, k1, k2, k3, k4, k5⟩ := hu; go_simp; try rfl)⟩) (HKC.out _ (Below.refl _ _).drew) (fun _ => trivial) ?_
 simp only [Act.put, List.setIfInBounds_toArray, List.set_cons_zero, List.set_cons_succ, List.getElem_toArray, List.getElem_cons_zero, List.getElem_cons_succ]
 refine wpAnyL_pure (i := 11) rfl (by kernel_rfl) (fun _ _ _ h => h) (Or.inl ⟨by rfl, (fun u hu => by obtain ⟨k0, k1, k2, k3, k4, k5⟩ := hu; go_simp; try rfl)⟩) (HKC.out _ (Below.refl _ _).drew) (fun _ => trivial) ?_
 simp only [Act.put, List.setIfInBounds_toArray, List.set_cons_zero, List.set_cons_succ, List.getElem_toArray, List.getElem_cons_zero, List.getElem_cons_succ]
 refine wpAnyL_ready (rs := [12]) (by kernel_rfl) (by simp) ?_
 refine AllL.cons rfl (fun K hK => ?_) ?_
 ·
  go_simp
  refine hK.out _ _ (HKC.out _ ((Below.refl _ _).drew.alloc (Nat.le_refl _) _)) (fun _ => trivial) ?_
  clear hK K
  refine wpAnyL_ready (rs := [13]) (by kernel_rfl) (by simp) ?_
  refine AllL.cons rfl (fun K hK => ?_) ?_
  ·
   go_simp
   obtain ⟨wB, hwB⟩ : ∃ wB : World, wB = (w5.alloc (.cells #[.int .i64 (I.t.1 : Int)] 3)).drew := ⟨_, rfl⟩
   have hbB : Below w5.heap.size w5 wB := by rw [hwB]; exact ((Below.refl _ _).alloc (Nat.le_refl _) _).trans (Below.refl _ _).drew
   have hsB : Sl Rep.int wB (fun b => b = w5.heap.size) (some ⟨w5.heap.size, 0, none⟩) 1 1 (natI ([] ++ [I.t.1])) := by rw [hwB]; exact (Rd.slInts (by exact Rd.new w5 _ _ [.int .i64 (I.t.1 : Int)] _ rfl rfl) (Nat.le_refl _)).drew
   have hzB : wB.heap.size = w5.heap.size + 1 := by rw [hwB]; show (World.alloc _ _).heap.size = _; simp
   rw [← hwB]
   have hfit := HI.out.fit _ _ _ HST.out.inv
   have hxb := HI.out.xb
   have hz5 := HZ.out
   have hms := HI.out.ms
   have hmsF := HI.out.msF _ _ _ HST.out.inv
   have hw := mkWalk M HM.out W I HI.out I.rhs wB F done M.S A1 n1 c1 [] I.t.1 (fun b => b = w5.heap.size) (some ⟨w5.heap.size, 0, none⟩) 1 (HST.out.below HI.out hbB) hdl (((HSL.out.keep (.belowB HB05.out fun b hb => by have := (hms b hb).1; rw [HKK.out] at this; exact this)).keep (.belowB hbB fun b hb => by have := (hms b hb).1; omega))) (fun b hb => ⟨by have := (hms b hb).1; omega, (hms b hb).2, hmsF b hb⟩) HSY.out (by have := HR4.out; omega)
    hsB (fun b hb => ⟨by omega, fun h => by have := hxb b h; omega, fun h => by have := hfit b h; omega⟩) HI.out.tri.1 (by have := HR4.out; simp only [List.length_nil]; omega) (fun x hx => hx)
   refine hw.mono ?_
   clear hw hsB hfit hxb hms hmsF
   rintro e wC hwr
   obtain ⟨F2, bb, rfl, hf2, ho2, htr, hfa⟩ := hwr.bool
   have HF2 := Lib.hid hf2
   have HO2 := Lib.hid ho2
   have HTR := Lib.hid htr
   have HFA := Lib.hid hfa
   have HBB := Lib.hid hbB
   have HCE := Lib.hid (HKX.out wC wB ho2 hbB)
   clear hf2 ho2 htr hfa hwr hbB hwB
   refine hK.out _ _ (HCE.out) (fun _ => trivial) ?_
   clear hK K
   refine wpAnyL_pure (i := 14) rfl (by kernel_rfl) (fun _ _ _ h => h) (Or.inl ⟨by rfl, (fun u hu => by obtain ⟨k0, k1, k2, k3, k4, k5⟩ := hu; go_simp; try rfl)⟩) (HCE.out) (fun _ => trivial) ?_
   simp only [Act.put, List.setIfInBounds_toArray, List.set_cons_zero, List.set_cons_succ, List.getElem_toArray, List.getElem_cons_zero, List.getElem_cons_succ]
   refine wpAnyL_done (by kernel_rfl) ?_ _
   have HR := Lib.hid (show InstR I u F done (instL M.d (inW W) I.t.2.2 I.rhs I.t.1) (.returned (.bool bb)) wC from by
    have hX : (instL M.d (inW W) I.t.2.2 I.rhs I.t.1).map (([] : List Nat) ++ ·) = instL M.d (inW W) I.t.2.2 I.rhs I.t.1 := by simp
    have h1 := HTR.out
    have h2 := HFA.out
    rw [hX] at h1 h2
    refine ⟨F2, bb, rfl, fun b hb => ?_, (Only.of_below HB05.out (Nat.le_refl _) _).trans ((Only.of_below HBB.out (Nat.le_refl _) _).trans HO2.out), fun e => ⟨(h1 e).1.inv, (h1 e).2⟩, h2⟩
    rcases HF2.out b hb with h | h
    ·
     exact .inl h
    ·
     exact .inr (Nat.le_trans HB05.out.size (Nat.le_trans HBB.out.size h)))
   clear HTR HFA
   go_wp2_with fail
   go_ret
   exact HR.out
  exact AllL.nil
 exact AllL.nil
end Go.Proofs.Ytbmcoamdfpegnaa
namespace Go.Proofs.Ytbmcoamdfpegnaa
open Go.RowKit Go.Maps
theorem GL.pushAt {α : Type} {R : Rep α} {E : TypeId} {w : World} {F G : Nat → Prop} {v : Value} {l : List α} {P : Program} {T s bytes : Nat} {z : Value} (hT : SlType P T E s bytes z) (hs : R.size = s) (h : GL R E w F v l) {x : α} {ys : List Value} (hx : R.ok w G ys x) (hG : ∀ b, G b → rowOf v ≠ some b) {S : Nat → Prop} {A : Option Addr} (hr : Rd w S s A 1 ys) (hl : l.length ≤ 1000000) (hby : bytes ≤ 100) (ty : TypeId) :
    ∃ A' c' w', (Builtin.append_ #[T, T] ty #[v, .slice A 1 1]).run P w = .ok (.slice A' (l.length + 1) c') w' ∧
     GL R E w' (fun b => (F b ∨ G b ∨ b = w.heap.size) ∧ b < w'.heap.size) (.slice A' (l.length + 1) c') (l ++ [x]) ∧ w.grownBy w' (rowOf v) ∧ (rowOf (.slice A' (l.length + 1) c') = rowOf v ∨ rowOf (.slice A' (l.length + 1) c') = some w.heap.size) := by
 subst hs
 obtain ⟨xs, h1, h2⟩ := h.own
 have hc1 : Cells R w G ys [x] := Cells.single hx
 obtain ⟨v', w', hrun, ho, hg, hrow⟩ := run_append_Own hT w ty 0 v l.length xs h1 _ _ 1 1 ys hr (R.one hx) (by unfold maxLen; omega) (by
  have : (l.length + 1) * bytes ≤ 1000001 * 100 := Nat.mul_le_mul (by omega) hby
  omega) (Nat.zero_le _)
 obtain ⟨A', c', rfl, _, _⟩ := ho.form
 have hcx : Cells R w (fun b => (F b ∨ G b) ∧ rowOf v ≠ some b) (xs ++ ys) (l ++ [x]) :=
  (h2.more fun b hb => ⟨.inl hb.1, hb.2⟩).append (hc1.more fun b hb => ⟨.inr hb, hG b hb⟩)
 have hcx' := (hcx.fit).keep (w' := w') (Kept.grown hg fun b hb => hb.1.2)
 have hout : Cells R w' (fun b => (F b ∨ G b ∨ b = w.heap.size) ∧ rowOf (.slice A' (l.length + 1) c') ≠ some b) (xs ++ ys) (l ++ [x]) := by
  refine hcx'.more fun b hb => ⟨?_, ?_⟩
  ·
   rcases hb.1.1 with h | h
   ·
    exact .inl h
   ·
    exact .inr (.inl h)
  ·
   rcases hrow with e | e
   ·
    rw [e]; exact hb.1.2
   ·
    rw [e]
    intro e2
    injection e2 with e2
    have := hb.2
    omega
 refine ⟨A', c', w', hrun, GL.fit ⟨⟨_, by simpa using ho, hout⟩, fun g e => ?_⟩, hg, hrow⟩
 rcases hrow with e2 | e2
 ·
  rw [e2] at e
  exact .inl (h.row g e)
 ·
  rw [e2] at e
  injection e with e
  exact .inr (.inr e.symm)
theorem rd_new2 (w : World) (t : TypeId) (s : Nat) (ys : List Value) (h : ys.length = s) : Rd (w.alloc (.cells ys.toArray t)) (fun b => b = w.heap.size) s (some ⟨w.heap.size, 0, none⟩) 1 ys := by
 refine ⟨by rw [h, Nat.one_mul], fun _ => ⟨w.heap.size, 0, rfl, rfl, fun j u hu => ?_⟩⟩
 rw [World.cell?_alloc_at _ _ _ _ rfl]
 simpa using hu
theorem tRulesM : SlType Try.prog 23 40 2 32 (.agg #[.int .i64 0, .slice none 0 0]) := ⟨by kernel_rfl, by kernel_rfl, by kernel_rfl, rfl, by decide⟩
structure PrOut (w : World) (Bo : Nat) (FR FF : Nat → Prop) (vR vN vF : Value) (rs : List RuleD) (fr : List Int) : Prop where
 box : w.heap[Bo]? = some (.cells #[.int .i64 0, .int .i64 0, .int .i64 0, vR, vN, vF] 34 (0, 0))
 R : GL RRule 40 w FR vR rs
 fm : GL Rep.int 3 w FF vF fr
 ap : ∀ b, FR b → ¬ FF b
 nb : ∀ b, FR b ∨ FF b → b ≠ Bo
section
variable {w w' : World} {Bo : Nat} {FR FF : Nat → Prop} {vR vN vF : Value} {rs : List RuleD} {fr : List Int}
theorem PrOut.only {X : Nat → Prop} (h : PrOut w Bo FR FF vR vN vF rs fr) (ho : Only w w' X) (hX : ∀ b, X b → b < w.heap.size → b ≠ Bo ∧ ¬ FR b ∧ ¬ FF b) : PrOut w' Bo FR FF vR vN vF rs fr :=
 ⟨(ho.block _ (heap_lt h.box) fun hx => (hX _ hx (heap_lt h.box)).1 rfl).trans h.box, h.R.only ho fun b hb hl hx => (hX b hx hl).2.1 hb, h.fm.only ho fun b hb hl hx => (hX b hx hl).2.2 hb, h.ap, h.nb⟩
theorem PrOut.below (h : PrOut w Bo FR FF vR vN vF rs fr) (hb : Below w.heap.size w w') : PrOut w' Bo FR FF vR vN vF rs fr := h.only (X := fun _ => False) (.of_below hb (Nat.le_refl _) _) fun _ hx => hx.elim
theorem PrOut.fit (h : PrOut w Bo FR FF vR vN vF rs fr) : PrOut w Bo (fun b => FR b ∧ b < w.heap.size) (fun b => FF b ∧ b < w.heap.size) vR vN vF rs fr :=
 ⟨h.box, h.R.fit, h.fm.fit, fun b hb hf => h.ap b hb.1 hf.1, fun b hb => h.nb b (hb.imp And.left And.left)⟩
end
def PAddR (w : World) (Bo : Nat) (FR FF G : Nat → Prop) (vN : Value) (rs : List RuleD) (fr : List Int) (e : Ending) (w' : World) : Prop :=
 ∃ (FR' FF' : Nat → Prop) (vR' vF' : Value), e = .returned (.bool (decide (fr.length ≤ 4000))) ∧ PrOut w' Bo FR' FF' vR' vN vF' rs fr ∧ Only w w' (fun b => b = Bo ∨ FR b ∨ FF b) ∧ (∀ b, FR' b → FR b ∨ G b ∨ w.heap.size ≤ b) ∧ (∀ b, FF' b → FF b ∨ w.heap.size ≤ b)
end Go.Proofs.Ytbmcoamdfpegnaa
