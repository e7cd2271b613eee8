/- PartsKey -/
import Derived.Laws.EntriesVeiled
import Derived.Laws.IdiomStrings
import Derived.Shelf.Abstract
import Derived.Test.YtocbkccchnbmaaaGreatAw07
import Derived.Test.YtocbkccchnbmaaaGreatAw28
namespace Go.Proofs.YtocbkccchnbmaaaGreat
open Go.RowKit
theorem word4_ok (x : Int) : BytesOk (word4 x) := fun z hz => by
 simp only [word4, List.mem_cons, List.not_mem_nil, or_false] at hz
 rcases hz with rfl | rfl | rfl | rfl <;> omega
def key1 (d : DfaD) (s : Nat) : ByteArray := strOf (word4 (dat d s))
def row2 (p : List Int) (row : List Int) : List Int := row.flatMap fun t => word4 (numPt p t)
def key2 (d : DfaD) (p : List Int) (s : Nat) : ByteArray := strOf (word4 (numPt p s) ++ row2 p ((d.2.2[s]?).getD []))
theorem row2_len (p : List Int) : ∀ row : List Int, (row2 p row).length = 4 * row.length
 | [] => rfl
 | t :: row => by
  have := row2_len p row
  unfold row2 at this ⊢
  rw [List.flatMap_cons, List.length_append, this, List.length_cons]
  simp [word4]
  omega
theorem row2_ok (p : List Int) (row : List Int) : BytesOk (row2 p row) := fun z hz => by
 obtain ⟨t, _, h⟩ := List.mem_flatMap.1 hz
 exact word4_ok _ z h
theorem row2_snoc (p row : List Int) (t : Int) : row2 p (row ++ [t]) = row2 p row ++ word4 (numPt p t) := by simp [row2, List.flatMap_append]
theorem numOf_range {p : List Int} (hp : ∀ x ∈ p, -1 ≤ x ∧ x < 2147483648) (t : Int) : -1 ≤ numPt p t ∧ numPt p t < 2147483648 := by
 unfold numPt
 split
 ·
  omega
 ·
  cases h : p[t.toNat]? with
  | none => simp
  | some x => exact hp x (List.mem_of_getElem? h)
theorem row2_inj {p : List Int} (hp : ∀ x ∈ p, -1 ≤ x ∧ x < 2147483648) : ∀ {r r' : List Int}, r.length = r'.length → row2 p r = row2 p r' → r.map (numPt p) = r'.map (numPt p)
 | [], [], _, _ => rfl
 | [], _ :: _, h, _ => by simp at h
 | _ :: _, [], h, _ => by simp at h
 | t :: r, t' :: r', hl, h => by
  unfold row2 at h
  rw [List.flatMap_cons, List.flatMap_cons] at h
  obtain ⟨h1, h2⟩ := List.append_inj h (by simp [word4])
  rw [List.map_cons, List.map_cons, word4_inj (numOf_range hp t) (numOf_range hp t') h1, row2_inj hp (by simpa using hl) h2]
theorem key1_iff {d : DfaD} (hv : Valid d) (hx : ∀ x ∈ d.2.1, x < 2147483648) (s t : Nat) : key1 d s = key1 d t ↔ dat d s = dat d t := by
 have hr : ∀ s : Nat, -1 ≤ dat d s ∧ dat d s < 2147483648 := fun s => by
  refine ⟨dat_ge hv _, ?_⟩
  unfold dat
  rw [if_neg (by omega), Int.toNat_natCast]
  cases h : d.2.1[s]? with
  | none => simp
  | some x => exact hx x (List.mem_of_getElem? h)
 constructor
 ·
  intro h
  exact word4_inj (hr s) (hr t) (strOf_inj (word4_ok _) (word4_ok _) h)
 ·
  intro h; unfold key1; rw [h]
theorem key2_iff {d : DfaD} (hv : Valid d) {p : List Int} (hl : p.length = d.2.2.length) (hp : ∀ x ∈ p, -1 ≤ x ∧ x < 2147483648) (s t : Nat) (hs : s < d.2.2.length) (ht : t < d.2.2.length) : key2 d p s = key2 d p t ↔ StepE d p s t := by
 have hrow : ∀ s : Nat, s < d.2.2.length → ((d.2.2[s]?).getD []).length = cols d ∧ ∀ c : Nat, c < cols d → ((d.2.2[s]?).getD [])[c]? = some (dto d s c) := fun s hs => by
  obtain ⟨h1, _, h2⟩ := row_to hv (s := s) (by omega)
  rw [Int.toNat_natCast] at h1 h2
  exact ⟨h1, h2⟩
 have hnum : ∀ s : Nat, s < d.2.2.length → p[s]? = some (numPt p s) := fun s hs => by
  unfold numPt
  rw [if_neg (by omega), Int.toNat_natCast, List.getElem?_eq_getElem (by omega)]
  rfl
 obtain ⟨r1, r2⟩ := hrow s hs
 obtain ⟨q1, q2⟩ := hrow t ht
 have hmap : ∀ {r : List Int} {u : Nat}, r.length = cols d → (∀ c : Nat, c < cols d → r[c]? = some (dto d u c)) → r.map (numPt p) = (List.range (cols d)).map fun c : Nat => numPt p (dto d u c) := fun {r u} h1 h2 => by
  apply List.ext_getElem?
  intro i
  rw [List.getElem?_map, List.getElem?_map]
  by_cases hi : i < cols d
  ·
   rw [h2 i hi, List.getElem?_range hi]; rfl
  ·
   rw [List.getElem?_eq_none (by omega), List.getElem?_eq_none (by simp; omega)]; rfl
 constructor
 ·
  intro h
  have h := strOf_inj ((word4_ok _).append (row2_ok _ _)) ((word4_ok _).append (row2_ok _ _)) h
  obtain ⟨h1, h2⟩ := List.append_inj h (by simp [word4])
  have e1 := word4_inj (numOf_range hp _) (numOf_range hp _) h1
  have e2 := row2_inj hp (by rw [r1, q1]) h2
  rw [hmap r1 r2, hmap q1 q2] at e2
  refine ⟨by rw [hnum s hs, hnum t ht, e1], fun c hc => ?_⟩
  have := congrArg (fun l => l[c]?) e2
  simpa [hc] using this
 ·
  rintro ⟨h1, h2⟩
  rw [hnum s hs, hnum t ht] at h1
  injection h1 with h1
  have e : ((d.2.2[s]?).getD []).map (numPt p) = ((d.2.2[t]?).getD []).map (numPt p) := by
   rw [hmap r1 r2, hmap q1 q2]
   apply List.map_congr_left
   intro c hc
   exact h2 c (List.mem_range.1 hc)
  have e3 : ∀ r : List Int, row2 p r = (r.map (numPt p)).flatMap word4 := fun r => by simp [row2, List.flatMap_map]
  unfold key2
  rw [h1, e3, e3, e]
theorem entersWord4 : ∀ (args : Array Value) (u : World), (callFunc 66 args).run Tryz.prog u = .ok (.enter 66 args) u := enters_of Tryz.func66 (by kernel_rfl) rfl
theorem entersKey1 : ∀ (args : Array Value) (u : World), (callFunc 67 args).run Tryz.prog u = .ok (.enter 67 args) u := enters_of Tryz.func67 (by kernel_rfl) rfl
theorem entersKey2 : ∀ (args : Array Value) (u : World), (callFunc 68 args).run Tryz.prog u = .ok (.enter 68 args) u := enters_of Tryz.func68 (by kernel_rfl) rfl
set_option linter.unusedSimpArgs false in
set_option maxRecDepth 1000000 in
set_option maxHeartbeats 4000000 in
theorem tellsKey1 (w0 : World) (S : Nat → Prop) (Bw Bd : Nat) (A : Option Addr) (nA cA : Nat) (N : Option Addr) (n cN : Nat) (d : DfaD) (hA : Sl Rep.int w0 S A nA cA d.2.1) (hv : Valid d)
    (hw : w0.heap[Bw]? = some (.cells #[.func (.func 66) #[] #[]] 131 (0, 0))) (hd : w0.heap[Bd]? = some (.cells #[.int .i64 d.1, .slice A nA cA, .slice N n cN] 29 (0, 0))) :
    TellsK w0 (fun s => s < d.2.2.length) (key1 d) 67 #[.pointer (some ⟨Bw, 0, none⟩), .pointer (some ⟨Bd, 0, none⟩)] := by
 intro w hb s hs
 show Calls Tryz.prog 67 #[.int .i64 (s : Int), .pointer (some ⟨Bw, 0, none⟩), .pointer (some ⟨Bd, 0, none⟩)] w _
 obtain ⟨bA, oA, hAe, hcx, hnA⟩ := acc_at (hA.below hb) hv (s := (s : Int)) (by omega)
 subst hAe
 rw [Int.toNat_natCast] at hcx
 have e1 := (hb.block _ (heap_lt hw)).trans hw
 have e2 := (hb.block _ (heap_lt hd)).trans hd
 have hsN : s < nA := by omega
 have hs1 : w.drew.cell? ⟨Bw, 0, none⟩ = some (.func (.func 66) #[] #[]) ∧ w.drew.cell? ⟨Bd, 1, none⟩ = some (.slice (some ⟨bA, oA, none⟩) nA cA) ∧ w.drew.cell? ⟨bA, oA + s, none⟩ = some (.int .i64 (dat d s)) := by
  exact ⟨show w.cell? ⟨Bw, 0, none⟩ = _ by simp [World.cell?, e1], show w.cell? ⟨Bd, 1, none⟩ = _ by simp [World.cell?, e2], hcx⟩
 have HS1 := Lib.hid hs1
 obtain ⟨x, hx⟩ : ∃ x, x = dat d (s : Int) := ⟨_, rfl⟩
 rw [← hx] at HS1
 have HX := Lib.hid hx
 clear hA hv hw hd hb hcx e1 e2 hs1 hx hnA hs
 go_enter Tryz.func67, Tryz.ntmps67
 go_wp2_with fail
 have he := entersWord4
 refine wp_region_late (late := []) (S1 := fun u => u.cell? ⟨Bw, 0, none⟩ = some (.func (.func 66) #[] #[]) ∧ u.cell? ⟨Bd, 1, none⟩ = some (.slice (some ⟨bA, oA, none⟩) nA cA) ∧ u.cell? ⟨bA, oA + s, none⟩ = some (.int .i64 x)) (S := fun _ => True) (by kernel_rfl) ?_
 refine wpAnyL_pure (i := 0) rfl (by kernel_rfl) (fun _ _ _ h => h) (Or.inl ⟨by rfl, (fun u hu => by obtain ⟨k0, k1, k2⟩ := hu; go_simp; try rfl)⟩) HS1.out (fun _ => trivial) ?_
 simp only [Act.put, List.setIfInBounds_toArray, List.set_cons_zero, List.set_cons_succ, List.getElem_toArray, List.getElem_cons_zero, List.getElem_cons_succ]
 refine wpAnyL_pure (i := 1) rfl (by kernel_rfl) (fun _ _ _ h => h) (Or.inl ⟨by rfl, (fun u hu => by obtain ⟨k0, k1, k2⟩ := hu; go_simp; try rfl)⟩) HS1.out (fun _ => trivial) ?_
 simp only [Act.put, List.setIfInBounds_toArray, List.set_cons_zero, List.set_cons_succ, List.getElem_toArray, List.getElem_cons_zero, List.getElem_cons_succ]
 refine wpAnyL_pure (i := 2) rfl (by kernel_rfl) (fun _ _ _ h => h) (Or.inl ⟨by rfl, (fun u hu => by obtain ⟨k0, k1, k2⟩ := hu; go_simp; try rfl)⟩) HS1.out (fun _ => trivial) ?_
 simp only [Act.put, List.setIfInBounds_toArray, List.set_cons_zero, List.set_cons_succ, List.getElem_toArray, List.getElem_cons_zero, List.getElem_cons_succ]
 refine wpAnyL_pure (i := 3) rfl (by kernel_rfl) (fun _ _ _ h => h) (Or.inl ⟨by rfl, (fun u hu => by obtain ⟨k0, k1, k2⟩ := hu; go_simp; try rfl)⟩) HS1.out (fun _ => trivial) ?_
 simp only [Act.put, List.setIfInBounds_toArray, List.set_cons_zero, List.set_cons_succ, List.getElem_toArray, List.getElem_cons_zero, List.getElem_cons_succ]
 refine wpAnyL_pure (i := 4) rfl (by kernel_rfl) (fun _ _ _ h => h) (Or.inl ⟨by rfl, (fun u hu => by obtain ⟨k0, k1, k2⟩ := hu; go_simp; try rfl)⟩) HS1.out (fun _ => trivial) ?_
 simp only [Act.put, List.setIfInBounds_toArray, List.set_cons_zero, List.set_cons_succ, List.getElem_toArray, List.getElem_cons_zero, List.getElem_cons_succ]
 refine wpAnyL_pure (i := 5) rfl (by kernel_rfl) (fun _ _ _ h => h) (Or.inl ⟨by rfl, (fun u hu => by obtain ⟨k0, k1, k2⟩ := hu; go_simp; try rfl)⟩) HS1.out (fun _ => trivial) ?_
 simp only [Act.put, List.setIfInBounds_toArray, List.set_cons_zero, List.set_cons_succ, List.getElem_toArray, List.getElem_cons_zero, List.getElem_cons_succ]
 refine wpAnyL_ready (rs := [6]) (by kernel_rfl) (by simp) ?_
 refine AllL.cons rfl (fun K hK => ?_) ?_
 ·
  go_simp
  refine (partsWord w.drew w.drew.heap.size (.slice none 0 0) [] (Own.nil _ _ _ _ _) (Nat.le_refl _) (by simp) x).mono ?_
  rintro e w1 ⟨A1, c1, rfl, ho1, hb1⟩
  have hc1 := run_bytes_string w1 _ A1 _ c1 _ ho1.rd (by simpa using word4_ok x) (by omega)
  simp only [List.nil_append, List.length_nil, Nat.zero_add] at hc1
  have HC1 := Lib.hid hc1
  have HB1 := Lib.hid (show Below w.heap.size w w1 from (Below.refl _ _).drew.trans hb1)
  have HS2 := Lib.hid (show w1.cell? ⟨Bw, 0, none⟩ = some (.func (.func 66) #[] #[]) ∧ w1.cell? ⟨Bd, 1, none⟩ = some (.slice (some ⟨bA, oA, none⟩) nA cA) ∧ w1.cell? ⟨bA, oA + s, none⟩ = some (.int .i64 x) from ⟨(hb1.cell (cell_lt HS1.out.1)).trans HS1.out.1, (hb1.cell (cell_lt HS1.out.2.1)).trans HS1.out.2.1, (hb1.cell (cell_lt HS1.out.2.2)).trans HS1.out.2.2⟩)
  clear ho1 hb1 hc1
  refine hK.out _ _ HS2.out (fun _ => trivial) ?_
  clear hK K
  refine wpAnyL_ready (rs := [7]) (by kernel_rfl) (by simp) ?_
  refine AllL.cons rfl (fun K hK => ?_) ?_
  ·
   have hc1 := HC1.out
   go_simp
   clear hc1
   refine hK.out _ _ HS2.out (fun _ => trivial) ?_
   clear hK K
   refine wpAnyL_pure (i := 8) rfl (by kernel_rfl) (fun _ _ _ h => h) (Or.inl ⟨by rfl, (fun u hu => by obtain ⟨k0, k1, k2⟩ := hu; go_simp; try rfl)⟩) HS2.out (fun _ => trivial) ?_
   simp only [Act.put, List.setIfInBounds_toArray, List.set_cons_zero, List.set_cons_succ, List.getElem_toArray, List.getElem_cons_zero, List.getElem_cons_succ]
   refine wpAnyL_done (by kernel_rfl) ?_ _
   go_wp2_with fail
   go_ret
   exact ⟨by rw [HX.out]; rfl, HB1.out⟩
  exact AllL.nil
 exact AllL.nil
set_option linter.unusedSimpArgs false in
set_option maxRecDepth 1000000 in
set_option maxHeartbeats 4000000 in
theorem tellsKey2 (w0 : World) (S : Nat → Prop) (Bw Bo Bd BN : Nat) (A : Option Addr) (nA cA : Nat) (N : Option Addr) (n cN : Nat) (d : DfaD) (p : List Int) (hN : Sl RI w0 S N n cN d.2.2) (hv : Valid d)
    (hw : w0.heap[Bw]? = some (.cells #[.func (.func 66) #[] #[]] 131 (0, 0))) (hd : w0.heap[Bd]? = some (.cells #[.int .i64 d.1, .slice A nA cA, .slice N n cN] 29 (0, 0)))
    (ho : w0.heap[Bo]? = some (.cells #[.slice (some ⟨BN, 0, none⟩) n n] 22 (0, 0))) (hp : InB w0 BN p) (hpl : p.length = n) :
    TellsK w0 (fun s => s < d.2.2.length) (key2 d p) 68 #[.pointer (some ⟨Bw, 0, none⟩), .pointer (some ⟨Bo, 0, none⟩), .pointer (some ⟨Bd, 0, none⟩)] := by
 intro w hb s hs
 show Calls Tryz.prog 68 #[.int .i64 (s : Int), .pointer (some ⟨Bw, 0, none⟩), .pointer (some ⟨Bo, 0, none⟩), .pointer (some ⟨Bd, 0, none⟩)] w _
 have hnn := hN.len
 have hn2 : n ≤ 200 := by have := hv.n2; omega
 have hsN : s < n := by omega
 have HN := Lib.hid (hN.fit)
 obtain ⟨bN, oN, AR, m, cR, row, rfl, hSb, _, hcR0, hr, hsr⟩ := row_at hN.fit hsN
 have hm : m = cols d := by rw [hsr.len]; exact (hv.rows row (List.mem_of_getElem? hr)).1
 have hm16 : m ≤ 16 := by rw [hm]; exact hv.c2
 have hrow : ∀ x ∈ row, -1 ≤ x ∧ x < (n : Int) := fun x hx => by rw [hnn]; exact (hv.rows row (List.mem_of_getElem? hr)).2 x hx
 have e1 := (hb.block _ (heap_lt hw)).trans hw
 have e2 := (hb.block _ (heap_lt hd)).trans hd
 have e3 := (hb.block _ (heap_lt ho)).trans ho
 have hp' := hp.below hb
 have hcR : w.cell? ⟨bN, oN + s, none⟩ = some (.slice AR m cR) := Kept.belowB (S := fun b => S b ∧ b < w0.heap.size) hb (fun b hb => hb.2) _ _ hSb hcR0
 have HBOX := Lib.hid (show ∀ u : World, Below w.heap.size w u → (u.cell? ⟨Bw, 0, none⟩ = some (.func (.func 66) #[] #[]) ∧ u.cell? ⟨Bo, 0, none⟩ = some (.slice (some ⟨BN, 0, none⟩) n n)) ∧ u.cell? ⟨Bd, 2, none⟩ = some (.slice (some ⟨bN, oN, none⟩) n cN) ∧ u.cell? ⟨bN, oN + s, none⟩ = some (.slice AR m cR) from fun u hu => by
  have k1 := (hu.block _ (heap_lt e1)).trans e1
  have k2 := (hu.block _ (heap_lt e2)).trans e2
  have k3 := (hu.block _ (heap_lt e3)).trans e3
  exact ⟨⟨by simp [World.cell?, k1], by simp [World.cell?, k3]⟩, by simp [World.cell?, k2], (hu.cell (cell_lt hcR)).trans hcR⟩)
 have HP := Lib.hid (show ∀ u : World, Below w.heap.size w u → ∀ t : Nat, t < n → u.cell? ⟨BN, t, none⟩ = some (.int .i64 (numPt p (t : Int))) from fun u hu t ht => by
  obtain ⟨x, h1, h2, _⟩ := (hp'.below hu).at_ (i := t) (by omega)
  rw [h2]
  unfold numPt
  rw [if_neg (by omega), Int.toNat_natCast, h1]
  rfl)
 have HR := Lib.hid (show ∀ u : World, Below w.heap.size w u → Sl Rep.int u (fun b => S b ∧ b < w0.heap.size) AR m cR row from fun u hu => hsr.keep (Kept.belowB (hb.trans (hu.mono hb.size)) (fun b hb => hb.2)))
 have HRL := Lib.hid hsr.len
 have HKEY := Lib.hid (show strOf (word4 (numPt p (s : Int)) ++ row2 p row) = key2 d p s by unfold key2; rw [hr]; rfl)
 have HROW := Lib.hid hrow
 obtain ⟨ps, hps⟩ : ∃ ps, ps = numPt p (s : Int) := ⟨_, rfl⟩
 rw [← hps] at HKEY
 have HS1 := Lib.hid (show (w.drew.cell? ⟨Bw, 0, none⟩ = some (.func (.func 66) #[] #[]) ∧ w.drew.cell? ⟨Bo, 0, none⟩ = some (.slice (some ⟨BN, 0, none⟩) n n)) ∧ w.drew.cell? ⟨BN, s, none⟩ = some (.int .i64 ps) from ⟨(HBOX.out _ (Below.refl _ _).drew).1, by rw [hps]; exact HP.out _ (Below.refl _ _).drew s hsN⟩)
 clear hN hv hw hd ho hp hpl hb e1 e2 e3 hp' hcR hcR0 hr hsr hm hrow hps hs hnn
 go_enter Tryz.func68, Tryz.ntmps68
 go_wp2_with fail
 have he := entersWord4
 refine wp_region_late (late := []) (S1 := fun u => (u.cell? ⟨Bw, 0, none⟩ = some (.func (.func 66) #[] #[]) ∧ u.cell? ⟨Bo, 0, none⟩ = some (.slice (some ⟨BN, 0, none⟩) n n)) ∧ u.cell? ⟨BN, s, none⟩ = some (.int .i64 ps)) (S := fun _ => True) (by kernel_rfl) ?_
 refine wpAnyL_pure (i := 0) rfl (by kernel_rfl) (fun _ _ _ h => h) (Or.inl ⟨by rfl, (fun u hu => by obtain ⟨⟨k0, k1⟩, k2⟩ := hu; go_simp; try rfl)⟩) HS1.out (fun _ => trivial) ?_
 simp only [Act.put, List.setIfInBounds_toArray, List.set_cons_zero, List.set_cons_succ, List.getElem_toArray, List.getElem_cons_zero, List.getElem_cons_succ]
 refine wpAnyL_pure (i := 1) rfl (by kernel_rfl) (fun _ _ _ h => h) (Or.inl ⟨by rfl, (fun u hu => by obtain ⟨⟨k0, k1⟩, k2⟩ := hu; go_simp; try rfl)⟩) HS1.out (fun _ => trivial) ?_
 simp only [Act.put, List.setIfInBounds_toArray, List.set_cons_zero, List.set_cons_succ, List.getElem_toArray, List.getElem_cons_zero, List.getElem_cons_succ]
 refine wpAnyL_pure (i := 2) rfl (by kernel_rfl) (fun _ _ _ h => h) (Or.inl ⟨by rfl, (fun u hu => by obtain ⟨⟨k0, k1⟩, k2⟩ := hu; go_simp; try rfl)⟩) HS1.out (fun _ => trivial) ?_
 simp only [Act.put, List.setIfInBounds_toArray, List.set_cons_zero, List.set_cons_succ, List.getElem_toArray, List.getElem_cons_zero, List.getElem_cons_succ]
 refine wpAnyL_pure (i := 3) rfl (by kernel_rfl) (fun _ _ _ h => h) (Or.inl ⟨by rfl, (fun u hu => by obtain ⟨⟨k0, k1⟩, k2⟩ := hu; go_simp; try rfl)⟩) HS1.out (fun _ => trivial) ?_
 simp only [Act.put, List.setIfInBounds_toArray, List.set_cons_zero, List.set_cons_succ, List.getElem_toArray, List.getElem_cons_zero, List.getElem_cons_succ]
 refine wpAnyL_pure (i := 4) rfl (by kernel_rfl) (fun _ _ _ h => h) (Or.inl ⟨by rfl, (fun u hu => by obtain ⟨⟨k0, k1⟩, k2⟩ := hu; go_simp; try rfl)⟩) HS1.out (fun _ => trivial) ?_
 simp only [Act.put, List.setIfInBounds_toArray, List.set_cons_zero, List.set_cons_succ, List.getElem_toArray, List.getElem_cons_zero, List.getElem_cons_succ]
 refine wpAnyL_ready (rs := [5]) (by kernel_rfl) (by simp) ?_
 refine AllL.cons rfl (fun K hK => ?_) ?_
 ·
  go_simp
  refine (partsWord w.drew w.drew.heap.size (.slice none 0 0) [] (Own.nil _ _ _ _ _) (Nat.le_refl _) (by simp) ps).mono ?_
  rintro e w1 ⟨A1, c1, rfl, ho1, hb1⟩
  simp only [List.nil_append, List.length_nil, Nat.zero_add] at ho1 ⊢
  have HB1 := Lib.hid (show Below w.heap.size w w1 from (Below.refl _ _).drew.trans hb1)
  have HO1 := Lib.hid (show Own w1 w.heap.size 5 1 (.slice A1 4 c1) 4 ((word4 ps ++ row2 p (row.take 0)).map (Value.int .u8)) by simpa [row2] using ho1)
  have HS2 := Lib.hid (show (w1.cell? ⟨Bw, 0, none⟩ = some (.func (.func 66) #[] #[]) ∧ w1.cell? ⟨Bo, 0, none⟩ = some (.slice (some ⟨BN, 0, none⟩) n n)) ∧ w1.cell? ⟨BN, s, none⟩ = some (.int .i64 ps) from ⟨(HBOX.out _ HB1.out).1, (hb1.cell (cell_lt HS1.out.2)).trans HS1.out.2⟩)
  clear ho1 hb1
  refine hK.out _ _ HS2.out (fun _ => trivial) ?_
  clear hK K
  refine wpAnyL_pure (i := 6) rfl (by kernel_rfl) (fun _ _ _ h => h) (Or.inl ⟨by rfl, (fun u hu => by obtain ⟨⟨k0, k1⟩, k2⟩ := hu; go_simp; try rfl)⟩) HS2.out (fun _ => trivial) ?_
  simp only [Act.put, List.setIfInBounds_toArray, List.set_cons_zero, List.set_cons_succ, List.getElem_toArray, List.getElem_cons_zero, List.getElem_cons_succ]
  refine wpAnyL_done (by kernel_rfl) ?_ _
  have hk2 := (HBOX.out w1 HB1.out).2
  obtain ⟨hk2, hk3⟩ := hk2
  clear HS1 HS2 he
  go_wp2_with fail
  clear hk2 hk3
  go_loopg [6, 8, 21] m (fun gj vb va vi wr => ∃ (j : Nat) (A3 : Option Addr) (c3 : Nat), j ≤ m ∧ gj = m - j ∧ vi = .int .i64 j ∧ vb = .slice A3 (4 + 4 * j) c3 ∧ Own wr w.heap.size 5 1 (.slice A3 (4 + 4 * j) c3) (4 + 4 * j) ((word4 ps ++ row2 p (row.take j)).map (Value.int .u8)) ∧ Below w.heap.size w wr)
  case atStart => exact ⟨0, A1, c1, Nat.zero_le _, rfl, rfl, rfl, HO1.out, HB1.out⟩
  case round =>
   obtain ⟨j, A3, c3, hj, hgj, rfl, rfl, ho3, hb3⟩ := hrel
   obtain ⟨w3, rfl⟩ : ∃ w3 : World, w3 = wr := ⟨_, rfl⟩
   have HGJ := Lib.hid hgj
   have HO3 := Lib.hid ho3
   have HB3 := Lib.hid hb3
   clear hgj ho3 hb3
   by_cases hjl : j < m
   ·
    obtain ⟨bR, oR, x, rfl, _, hx, hcx⟩ := (HR.out w3 HB3.out).ints.int_at hjl
    have hxr := HROW.out x (List.mem_of_getElem? hx)
    have HTK := Lib.hid (show row.take (j + 1) = row.take j ++ [x] from int_step hx)
    obtain ⟨bs, hbs⟩ : ∃ bs, bs = word4 ps ++ row2 p (row.take j) := ⟨_, rfl⟩
    have hbl : bs.length = 4 + 4 * j := by
     rw [hbs, List.length_append, row2_len, List.length_take]
     have := HRL.out
     simp only [word4, List.length_cons, List.length_nil]
     omega
    have HBL := Lib.hid hbl
    have HBS := Lib.hid hbs
    rw [← hbs] at HO3
    clear hx hbl hbs
    by_cases hx0 : x < 0
    ·
     have HXV := Lib.hid (show numPt p x = -1 by unfold numPt; rw [if_pos hx0])
     obtain ⟨⟨hbw, _⟩, _⟩ := HBOX.out w3 HB3.out
     have he := entersWord4
     go_wp2_with fail
     refine (partsWord w3 w.heap.size (.slice A3 (4 + 4 * j) c3) bs (by rw [HBL.out]; exact HO3.out) HB3.out.size (by rw [HBL.out]; omega) (-1)).mono ?_
     rintro e w4 ⟨A4, c4, rfl, ho4, hb4⟩
     rw [HBL.out] at ho4
     simp only [HBL.out]
     have HO4 := Lib.hid ho4
     have HB4 := Lib.hid (HB3.out.trans hb4)
     clear ho4 hb4 he hbw hcx
     go_wp2_with fail
     go_roundg (m - (j + 1))
     case measure => rw [HGJ.out]; omega
     case rel =>
      refine ⟨j + 1, A4, c4, by omega, rfl, by go_num, rfl, ?_, HB4.out⟩
      rw [HTK.out, row2_snoc, HXV.out, ← List.append_assoc, ← HBS.out]
      exact HO4.out
    ·
     obtain ⟨t, rfl⟩ : ∃ t : Nat, x = (t : Int) := ⟨x.toNat, by omega⟩
     have htn : t < n := by omega
     obtain ⟨pt, hpt⟩ : ∃ pt, pt = numPt p (t : Int) := ⟨_, rfl⟩
     have HPT := Lib.hid hpt
     have HP2 := Lib.hid (show ∀ u : World, Below w.heap.size w u → u.cell? ⟨BN, t, none⟩ = some (.int .i64 pt) from fun u hu => by rw [hpt]; exact HP.out u hu t htn)
     have HS3 := Lib.hid (show (w3.drew.cell? ⟨Bw, 0, none⟩ = some (.func (.func 66) #[] #[]) ∧ w3.drew.cell? ⟨Bo, 0, none⟩ = some (.slice (some ⟨BN, 0, none⟩) n n)) ∧ w3.drew.cell? ⟨BN, t, none⟩ = some (.int .i64 pt) from ⟨(HBOX.out _ HB3.out.drew).1, HP2.out _ HB3.out.drew⟩)
     clear hpt
     go_wp2_with fail
     have he := entersWord4
     refine wp_region_late (late := []) (S1 := fun u => (u.cell? ⟨Bw, 0, none⟩ = some (.func (.func 66) #[] #[]) ∧ u.cell? ⟨Bo, 0, none⟩ = some (.slice (some ⟨BN, 0, none⟩) n n)) ∧ u.cell? ⟨BN, t, none⟩ = some (.int .i64 pt)) (S := fun _ => True) (by kernel_rfl) ?_
     refine wpAnyL_pure (i := 0) rfl (by kernel_rfl) (fun _ _ _ h => h) (Or.inl ⟨by rfl, (fun u hu => by obtain ⟨⟨k0, k1⟩, k2⟩ := hu; go_simp; try rfl)⟩) HS3.out (fun _ => trivial) ?_
     simp only [Act.put, List.setIfInBounds_toArray, List.set_cons_zero, List.set_cons_succ, List.getElem_toArray, List.getElem_cons_zero, List.getElem_cons_succ]
     refine wpAnyL_pure (i := 1) rfl (by kernel_rfl) (fun _ _ _ h => h) (Or.inl ⟨by rfl, (fun u hu => by obtain ⟨⟨k0, k1⟩, k2⟩ := hu; go_simp; try rfl)⟩) HS3.out (fun _ => trivial) ?_
     simp only [Act.put, List.setIfInBounds_toArray, List.set_cons_zero, List.set_cons_succ, List.getElem_toArray, List.getElem_cons_zero, List.getElem_cons_succ]
     refine wpAnyL_pure (i := 2) rfl (by kernel_rfl) (fun _ _ _ h => h) (Or.inl ⟨by rfl, (fun u hu => by obtain ⟨⟨k0, k1⟩, k2⟩ := hu; go_simp; try rfl)⟩) HS3.out (fun _ => trivial) ?_
     simp only [Act.put, List.setIfInBounds_toArray, List.set_cons_zero, List.set_cons_succ, List.getElem_toArray, List.getElem_cons_zero, List.getElem_cons_succ]
     refine wpAnyL_pure (i := 3) rfl (by kernel_rfl) (fun _ _ _ h => h) (Or.inl ⟨by rfl, (fun u hu => by obtain ⟨⟨k0, k1⟩, k2⟩ := hu; go_simp; try rfl)⟩) HS3.out (fun _ => trivial) ?_
     simp only [Act.put, List.setIfInBounds_toArray, List.set_cons_zero, List.set_cons_succ, List.getElem_toArray, List.getElem_cons_zero, List.getElem_cons_succ]
     refine wpAnyL_pure (i := 4) rfl (by kernel_rfl) (fun _ _ _ h => h) (Or.inl ⟨by rfl, (fun u hu => by obtain ⟨⟨k0, k1⟩, k2⟩ := hu; go_simp; try rfl)⟩) HS3.out (fun _ => trivial) ?_
     simp only [Act.put, List.setIfInBounds_toArray, List.set_cons_zero, List.set_cons_succ, List.getElem_toArray, List.getElem_cons_zero, List.getElem_cons_succ]
     refine wpAnyL_pure (i := 5) rfl (by kernel_rfl) (fun _ _ _ h => h) (Or.inl ⟨by rfl, (fun u hu => by obtain ⟨⟨k0, k1⟩, k2⟩ := hu; go_simp; try rfl)⟩) HS3.out (fun _ => trivial) ?_
     simp only [Act.put, List.setIfInBounds_toArray, List.set_cons_zero, List.set_cons_succ, List.getElem_toArray, List.getElem_cons_zero, List.getElem_cons_succ]
     refine wpAnyL_ready (rs := [6]) (by kernel_rfl) (by simp) ?_
     refine AllL.cons rfl (fun K hK => ?_) ?_
     ·
      go_simp
      refine (partsWord w3.drew w.heap.size (.slice A3 (4 + 4 * j) c3) bs (by rw [HBL.out]; exact HO3.out.drew) HB3.out.size (by rw [HBL.out]; omega) pt).mono ?_
      rintro e w4 ⟨A4, c4, rfl, ho4, hb4⟩
      rw [HBL.out] at ho4
      simp only [HBL.out]
      have HO4 := Lib.hid ho4
      have HB4 := Lib.hid (show Below w.heap.size w w4 from HB3.out.drew.trans hb4)
      have HS4 := Lib.hid (show (w4.cell? ⟨Bw, 0, none⟩ = some (.func (.func 66) #[] #[]) ∧ w4.cell? ⟨Bo, 0, none⟩ = some (.slice (some ⟨BN, 0, none⟩) n n)) ∧ w4.cell? ⟨BN, t, none⟩ = some (.int .i64 pt) from ⟨(HBOX.out _ HB4.out).1, HP2.out _ HB4.out⟩)
      clear ho4 hb4
      refine hK.out _ _ HS4.out (fun _ => trivial) ?_
      clear hK K
      refine wpAnyL_pure (i := 7) rfl (by kernel_rfl) (fun _ _ _ h => h) (Or.inl ⟨by rfl, (fun u hu => by obtain ⟨⟨k0, k1⟩, k2⟩ := hu; go_simp; try rfl)⟩) HS4.out (fun _ => trivial) ?_
      simp only [Act.put, List.setIfInBounds_toArray, List.set_cons_zero, List.set_cons_succ, List.getElem_toArray, List.getElem_cons_zero, List.getElem_cons_succ]
      refine wpAnyL_done (by kernel_rfl) ?_ _
      go_wp2_with fail
      go_roundg (m - (j + 1))
      case measure => rw [HGJ.out]; omega
      case rel =>
       refine ⟨j + 1, A4, c4, by omega, rfl, by go_num, rfl, ?_, HB4.out⟩
       rw [HTK.out, row2_snoc, ← HPT.out, ← List.append_assoc, ← HBS.out]
       exact HO4.out
     exact AllL.nil
   ·
    obtain rfl : j = m := by omega
    have htk : row.take j = row := List.take_of_length_le (by have := HRL.out; omega)
    have ho3 := HO3.out
    rw [htk] at ho3
    have hc3 := run_bytes_string w3 _ A3 _ c3 _ ho3.rd ((word4_ok ps).append (row2_ok p row)) (by omega)
    rw [HKEY.out] at hc3
    clear ho3 htk
    go_wp2_with fail
    go_ret
    exact ⟨rfl, HB3.out⟩
 exact AllL.nil
end Go.Proofs.YtocbkccchnbmaaaGreat
