/- A learner's memory: lists of words that grow in place, maps, and what leaves them alone. A learner: what it holds, and whom it asks. -/
import Derived.Test.YtgaahpddlohjoaaLearnPlain
import Derived.Test.YtgaahpddlohjoaaDfaB
import Derived.Test.YtgaahpddlohjoaaGMap
import Derived.Test.YtgaahpddlohjoaaCatInt
import Derived.Test.YtgaahpddlohjoaaPartsKey
import Derived.Test.YtgaahpddlohjoaaStream
namespace Go.Proofs.Ytgaahpddlohjoaa
open Go.RowKit Go.Maps

/-- only blocks of X have turned, of those that were there -/
structure Only (w w' : World) (X : Nat → Prop) : Prop where
  os : w'.os = w.os
  tape : w'.tape = w.tape
  output : w'.output = w.output
  size : w.heap.size ≤ w'.heap.size
  block : ∀ b, b < w.heap.size → ¬ X b → w'.heap[b]? = w.heap[b]?
section
variable {w w' w'' : World} {X Y : Nat → Prop}
theorem Only.refl (w : World) (X : Nat → Prop) : Only w w X := ⟨rfl, rfl, rfl, Nat.le_refl _, fun _ _ _ => rfl⟩
theorem Only.trans (h : Only w w' X) (h' : Only w' w'' X) : Only w w'' X :=
  ⟨h'.os.trans h.os, h'.tape.trans h.tape, h'.output.trans h.output, Nat.le_trans h.size h'.size, fun b hb hx => (h'.block b (Nat.lt_of_lt_of_le hb h.size) hx).trans (h.block b hb hx)⟩
theorem Only.more (h : Only w w' X) (hX : ∀ b, b < w.heap.size → X b → Y b) : Only w w' Y := ⟨h.os, h.tape, h.output, h.size, fun b hb hy => h.block b hb (fun hx => hy (hX b hb hx))⟩
theorem Only.of_below {B : Nat} (h : Below B w w') (hB : w.heap.size ≤ B) (X : Nat → Prop) : Only w w' X := ⟨h.os, h.tape, h.output, h.size, fun b hb _ => h.block b (by omega)⟩
theorem Only.of_grown {r : Option Nat} (h : w.grownBy w' r) (hX : ∀ b, r = some b → X b) : Only w w' X := ⟨h.os, h.tape, h.output, h.size, fun b hb hx => h.block b hb (fun e => hx (hX b e.symm))⟩
theorem Only.below {B : Nat} (h : Only w w' X) (hX : ∀ b, X b → B ≤ b) (hB : B ≤ w.heap.size) : Below B w w' := ⟨h.os, h.tape, h.output, h.size, fun b hb => h.block b (by omega) (fun hx => by have := hX b hx; omega)⟩
theorem Only.alloc (w : World) (o : Obj) (X : Nat → Prop) : Only w (w.alloc o) X := .of_below ((Below.refl _ _).alloc (Nat.le_refl _) o) (Nat.le_refl _) X
theorem Only.drew (w : World) (X : Nat → Prop) : Only w w.drew X := ⟨rfl, rfl, rfl, Nat.le_refl _, fun _ _ _ => rfl⟩
theorem Only.drewN (w : World) (n : Nat) (X : Nat → Prop) : Only w (w.drewN n) X := ⟨rfl, rfl, rfl, Nat.le_refl _, fun _ _ _ => rfl⟩
theorem Only.kept {S : Nat → Prop} (h : Only w w' X) (hS : ∀ b, S b → ¬ X b) : Kept S w w' := fun p u hp hu => by
  rw [World.cell?_of_block (h.block p.block (cell_lt hu) (hS _ hp))]; exact hu
theorem Only.set (w : World) (g i : Nat) (u : Value) {X : Nat → Prop} (hX : X g) : Only w (w.setCell ⟨g, i, none⟩ u) X := ⟨rfl, rfl, rfl, by simp [World.setCell], fun q _ hq => Below.heap_setCell w ⟨g, i, none⟩ _ q (fun e => hq (by rw [e]; exact hX))⟩
theorem Own.sameB {base : Nat} {E : TypeId} {v : Value} {n : Nat} {xs : List Value} (h : Own w base E 1 v n xs) (hk : ∀ g, rowOf v = some g → w'.heap[g]? = w.heap[g]?) : Own w' base E 1 v n xs := by
  rcases h with h | h
  · rcases h.2 with ⟨h1, h2⟩ | ⟨g, cap, cur, rfl, hb, hh, hnc, hr⟩
    · exact .inl ⟨h.1, .inl ⟨h1, h2⟩⟩
    · cases cap with
      | zero =>
        obtain rfl : n = 0 := by omega
        exact .inr ⟨_, rfl, rfl, List.eq_nil_of_length_eq_zero (by rw [h.1, Nat.zero_mul])⟩
      | succ k => exact .inl ⟨h.1, .inr ⟨g, k + 1, cur, rfl, hb, (hk g rfl).trans hh, hnc, hr⟩⟩
  · exact .inr h
theorem AMap.only {P : Program} {k : TypeId} {κ : Type} {K : KeyRep P k κ} {b : Nat} {l : List (κ × Value)} (h : AMap K w b l) (ho : Only w w' X) (hX : ¬ X b) : AMap K w' b l := h.block (ho.block b h.lt hX)
end
/-- a slice of words that may be appended to; all its blocks lie in F -/
structure WL (w : World) (F : Nat → Prop) (v : Value) (l : List (List Int)) : Prop where
  own : ∃ xs, Own w 0 22 1 v l.length xs ∧ Cells RI w (fun b => F b ∧ rowOf v ≠ some b) xs l
  row : ∀ g, rowOf v = some g → F g
section
variable {w w' : World} {F G X : Nat → Prop} {v : Value} {l : List (List Int)}
theorem WL.form (h : WL w F v l) : ∃ A c, v = .slice A l.length c ∧ l.length ≤ c := by
  obtain ⟨xs, h1, _⟩ := h.own
  obtain ⟨A, c, e, hc, _⟩ := h1.form
  exact ⟨A, c, e, hc⟩
theorem WL.lt (h : WL w F v l) {g : Nat} (hg : rowOf v = some g) : g < w.heap.size := by
  obtain ⟨xs, h1, _⟩ := h.own
  exact (h1.row hg).2
theorem WL.fit (h : WL w F v l) : WL w (fun b => F b ∧ b < w.heap.size) v l := by
  obtain ⟨xs, h1, h2⟩ := h.own
  exact ⟨⟨xs, h1, h2.fit.more fun b hb => ⟨⟨hb.1.1, hb.2⟩, hb.1.2⟩⟩, fun g e => ⟨h.row g e, (h1.row e).2⟩⟩
theorem WL.more (h : WL w F v l) (hF : ∀ b, F b → G b) : WL w G v l := by
  obtain ⟨xs, h1, h2⟩ := h.own
  exact ⟨⟨xs, h1, h2.more fun b hb => ⟨hF b hb.1, hb.2⟩⟩, fun g e => hF g (h.row g e)⟩
theorem WL.only (h : WL w F v l) (ho : Only w w' X) (hX : ∀ b, F b → ¬ X b) : WL w' F v l := by
  obtain ⟨xs, h1, h2⟩ := h.own
  exact ⟨⟨xs, h1.sameB fun g e => ho.block g (h1.row e).2 (hX g (h.row g e)), h2.keep (ho.kept fun b hb => hX b hb.1)⟩, h.row⟩
theorem WL.nil (w : World) (F : Nat → Prop) : WL w F (.slice none 0 0) [] := ⟨⟨[], Own.nil _ _ _ _ _, Cells.nil⟩, fun g e => by cases e⟩
theorem WL.sl {A : Option Addr} {n c : Nat} (h : WL w F (.slice A n c) l) : Sl RI w F A n c l := by
  obtain ⟨xs, h1, h2⟩ := h.own
  obtain ⟨A', c', e, hc, _⟩ := h1.form
  injection e with e1 e2 e3
  subst e1
  subst e2
  subst e3
  have hr : Rd w F 1 A l.length xs := by
    refine ⟨h1.rd.1, fun hn => ?_⟩
    obtain ⟨g, rfl, _, _⟩ := h1.addr hn
    obtain ⟨b, off, e, _, hc'⟩ := h1.rd.2 hn
    refine ⟨b, off, e, h.row b ?_, hc'⟩
    injection e with e
    injection e with e1 e2
    obtain ⟨c0, rfl⟩ : ∃ c0, c = c0 + 1 := ⟨c - 1, by omega⟩
    rw [← e1]
    rfl
  exact ⟨xs, rfl, hc, hr, h2.more fun b hb => hb.1⟩
/-- one more word, its slice in blocks of G -/
theorem WL.push (h : WL w F v l) {A : Option Addr} {n c : Nat} {x : List Int} (hx : Sl Rep.int w G A n c x) (hG : ∀ b, G b → rowOf v ≠ some b) (hl : l.length ≤ 100000) :
    ∃ A' c' w', (Builtin.append_ #[23, 23] 23 #[v, .slice (some ⟨w.heap.size, 0, none⟩) 1 1]).run Try.prog (w.alloc (.cells #[.slice A n c] 22)) = .ok (.slice A' (l.length + 1) c') w' ∧
      WL w' (fun b => F b ∨ G b ∨ b = w.heap.size + 1) (.slice A' (l.length + 1) c') (l ++ [x]) ∧ (w.alloc (.cells #[.slice A n c] 22)).grownBy w' (rowOf v) ∧ (rowOf (.slice A' (l.length + 1) c') = rowOf v ∨ rowOf (.slice A' (l.length + 1) c') = some (w.heap.size + 1)) := by
  obtain ⟨xs, h1, h2⟩ := h.own
  have hT : SlType Try.prog 23 22 1 24 (.slice none 0 0) := ⟨by kernel_rfl, by kernel_rfl, by kernel_rfl, rfl, by decide⟩
  have hr : Rd (w.alloc (.cells #[.slice A n c] 22)) (fun _ => True) 1 (some ⟨w.heap.size, 0, none⟩) 1 [.slice A n c] := by
    refine ⟨rfl, fun _ => ⟨w.heap.size, 0, rfl, trivial, fun j u hu => ?_⟩⟩
    rw [World.cell?_alloc_at _ _ _ _ rfl]
    simpa using hu
  obtain ⟨v', w', hrun, ho, hg, hrow⟩ := run_append_Own hT (w.alloc (.cells #[.slice A n c] 22)) 23 0 v l.length xs (h1.alloc _) _ _ 1 1 [.slice A n c] hr (by intro u hu; obtain rfl := List.mem_singleton.1 hu; rfl) (by unfold maxLen; omega) (by omega) (Nat.zero_le _)
  obtain ⟨A', c', rfl, _, _⟩ := ho.form
  have hrow' : rowOf (.slice A' (l.length + 1) c') = rowOf v ∨ rowOf (.slice A' (l.length + 1) c') = some (w.heap.size + 1) := by
    rcases hrow with e | e
    · exact .inl e
    · exact .inr (by rw [e]; simp)
  have hcx : Cells RI w (fun b => (F b ∨ G b) ∧ rowOf v ≠ some b) (xs ++ [.slice A n c]) (l ++ [x]) :=
    (h2.more fun b hb => ⟨.inl hb.1, hb.2⟩).append (Cells.single ⟨A, n, c, rfl, hx.more fun b hb => ⟨.inr hb, hG b hb⟩⟩)
  have hcx' := ((hcx.fit).keep (.alloc _ _ (.cells #[.slice A n c] 22))).keep (w' := w') (Kept.grown hg fun b hb => hb.1.2)
  have hout : Cells RI w' (fun b => (F b ∨ G b ∨ b = w.heap.size + 1) ∧ rowOf (.slice A' (l.length + 1) c') ≠ some b) (xs ++ [.slice A n c]) (l ++ [x]) := by
    refine hcx'.more fun b hb => ⟨?_, ?_⟩
    · rcases hb.1.1 with h | h
      · exact .inl h
      · exact .inr (.inl h)
    · rcases hrow' with e | e
      · rw [e]; exact hb.1.2
      · rw [e]
        intro e2
        injection e2 with e2
        have := hb.2
        omega
  refine ⟨A', c', w', hrun, ⟨⟨_, by simpa using ho, hout⟩, fun g e => ?_⟩, hg, hrow'⟩
  rcases hrow' with e2 | e2
  · rw [e2] at e
    exact .inl (h.row g e)
  · rw [e2] at e
    injection e with e
    exact .inr (.inr e.symm)
end
/-- a word's key -/
def keyB (l : List Int) : ByteArray := ⟨(l.map fun x => UInt8.ofNat x.toNat).toArray⟩
theorem keyB_inj {T : Nat} (hT : T ≤ 16) {l m : List Int} (hl : WOkT T l) (hm : WOkT T m) (h : keyB l = keyB m) : l = m := by
  have h1 : (l.map fun x => UInt8.ofNat x.toNat) = m.map fun x => UInt8.ofNat x.toNat := by
    unfold keyB at h
    injection h with h
    injection h with h
  have hlen : l.length = m.length := by
    have := congrArg List.length h1
    simpa using this
  refine List.ext_getElem hlen fun i h2 h3 => ?_
  have h4 : (l.map fun x => UInt8.ofNat x.toNat)[i]? = (m.map fun x => UInt8.ofNat x.toNat)[i]? := by rw [h1]
  rw [List.getElem?_map, List.getElem?_map, List.getElem?_eq_getElem h2, List.getElem?_eq_getElem h3] at h4
  simp only [Option.map_some, Option.some.injEq] at h4
  have r1 := hl _ (List.getElem_mem h2)
  have r2 := hm _ (List.getElem_mem h3)
  have h5 := congrArg UInt8.toNat h4
  rw [UInt8.toNat_ofNat', UInt8.toNat_ofNat', Nat.mod_eq_of_lt (by omega), Nat.mod_eq_of_lt (by omega)] at h5
  omega
/-- what the tests say, as a key -/
def keyR (l : List Bool) : ByteArray := ⟨(l.map fun b => if b = true then (1 : UInt8) else 0).toArray⟩
theorem keyR_inj {l m : List Bool} (h : keyR l = keyR m) : l = m := by
  have h1 : (l.map fun b => if b = true then (1 : UInt8) else 0) = m.map fun b => if b = true then (1 : UInt8) else 0 := by
    unfold keyR at h
    injection h with h
    injection h with h
  have hlen : l.length = m.length := by
    have := congrArg List.length h1
    simpa using this
  refine List.ext_getElem hlen fun i h2 h3 => ?_
  have h4 : (l.map fun b => if b = true then (1 : UInt8) else 0)[i]? = (m.map fun b => if b = true then (1 : UInt8) else 0)[i]? := by rw [h1]
  rw [List.getElem?_map, List.getElem?_map, List.getElem?_eq_getElem h2, List.getElem?_eq_getElem h3] at h4
  simp only [Option.map_some, Option.some.injEq] at h4
  revert h4
  cases l[i] <;> cases m[i] <;> simp
/-- the words that were asked for -/
def knownL (acc : List Int → Bool) (ws : List (List Int)) : List (ByteArray × Value) := ws.map fun x => (keyB x, .bool (acc x))
section
variable {acc : List Int → Bool} {T : Nat} {ws : List (List Int)}
theorem knownL_lk (hT : T ≤ 16) (hw : ∀ x ∈ ws, WOkT T x) {x : List Int} (hx : WOkT T x) : lk (knownL acc ws) (keyB x) = if x ∈ ws then some (.bool (acc x)) else none := by
  induction ws with
  | nil => simp [knownL, lk]
  | cons y ws ih =>
    show (if keyB y = keyB x then some (Value.bool (acc y)) else lk (knownL acc ws) (keyB x)) = _
    by_cases h : y = x
    · subst h; simp
    · rw [if_neg (fun e => h (keyB_inj hT (hw y (by simp)) hx e)), ih (fun z hz => hw z (List.mem_cons_of_mem _ hz))]
      simp [Ne.symm h]
theorem knownL_put (hT : T ≤ 16) (hw : ∀ x ∈ ws, WOkT T x) {x : List Int} (hx : WOkT T x) (hn : x ∉ ws) : putL (knownL acc ws) (keyB x) (.bool (acc x)) = knownL acc (ws ++ [x]) := by
  rw [putL_new]
  · simp [knownL]
  · rw [knownL, List.map_map, List.mem_map]
    rintro ⟨y, hy, e⟩
    exact hn (keyB_inj hT (hw y hy) hx e ▸ hy)
/-- the numbers of the words by what the tests say -/
def rowsL (acc : List Int → Bool) (tests : List (List Int)) : Nat → List (List Int) → List (ByteArray × Value)
  | _, [] => []
  | k, w :: l => (keyR (lrow acc tests w), .int .i64 (k : Int)) :: rowsL acc tests (k + 1) l
theorem rowsL_keys (tests : List (List Int)) : ∀ (l : List (List Int)) (k : Nat), (rowsL acc tests k l).map Prod.fst = l.map fun w => keyR (lrow acc tests w)
  | [], _ => rfl
  | w :: l, k => by simp [rowsL, rowsL_keys tests l]
theorem rowsL_snoc (tests : List (List Int)) (x : List Int) : ∀ (l : List (List Int)) (k : Nat), rowsL acc tests k (l ++ [x]) = rowsL acc tests k l ++ [(keyR (lrow acc tests x), .int .i64 ((k + l.length : Nat) : Int))]
  | [], k => by simp [rowsL]
  | w :: l, k => by
    rw [List.cons_append, rowsL, rowsL_snoc tests x l, rowsL, List.length_cons, show k + 1 + l.length = k + (l.length + 1) by omega]
    rfl
theorem rowsL_len (tests : List (List Int)) : ∀ (l : List (List Int)) (k : Nat), (rowsL acc tests k l).length = l.length
  | [], _ => rfl
  | w :: l, k => by simp [rowsL, rowsL_len tests l]
theorem rowsL_put {tests access : List (List Int)} {x : List Int} (hx : ∀ v ∈ access, lrow acc tests v ≠ lrow acc tests x) : putL (rowsL acc tests 0 access) (keyR (lrow acc tests x)) (.int .i64 (access.length : Int)) = rowsL acc tests 0 (access ++ [x]) := by
  rw [putL_new, rowsL_snoc, Nat.zero_add]
  rw [rowsL_keys, List.mem_map]
  rintro ⟨v, hv, e⟩
  exact hx v hv (keyR_inj e)
/-- what the map of rows has -/
theorem rowsL_lk {tests : List (List Int)} (x : List Int) : ∀ (l : List (List Int)) (k : Nat), (∃ (n : Nat) (v : List Int), l[n]? = some v ∧ lrow acc tests v = lrow acc tests x ∧ lk (rowsL acc tests k l) (keyR (lrow acc tests x)) = some (.int .i64 ((k + n : Nat) : Int))) ∨ ((∀ v ∈ l, lrow acc tests v ≠ lrow acc tests x) ∧ lk (rowsL acc tests k l) (keyR (lrow acc tests x)) = none)
  | [], k => .inr ⟨fun v hv => (List.not_mem_nil hv).elim, rfl⟩
  | w :: l, k => by
    have hlk : lk (rowsL acc tests k (w :: l)) (keyR (lrow acc tests x)) = if keyR (lrow acc tests w) = keyR (lrow acc tests x) then some (Value.int .i64 (k : Int)) else lk (rowsL acc tests (k + 1) l) (keyR (lrow acc tests x)) := rfl
    rw [hlk]
    by_cases h : lrow acc tests w = lrow acc tests x
    · exact .inl ⟨0, w, rfl, h, by rw [if_pos (by rw [h]), Nat.add_zero]⟩
    · rw [if_neg (fun e => h (keyR_inj e))]
      rcases rowsL_lk x l (k + 1) with h0 | h0
      · obtain ⟨n, v, h1, h2, h3⟩ := h0
        exact .inl ⟨n + 1, v, h1, h2, by rw [h3, show k + 1 + n = k + (n + 1) by omega]⟩
      · obtain ⟨h1, h2⟩ := h0
        refine .inr ⟨fun v hv => ?_, h2⟩
        rcases List.mem_cons.1 hv with hv | hv
        · rw [hv]; exact h
        · exact h1 v hv
end
/-- whom a learner asks -/
structure LCtx where
  B0 : Nat
  BL : Nat
  BK : Nat
  T : Nat
  acc : List Int → Bool
  d0 : DfaD
  askF : FuncId
  askC : Array Value
  Inv : List (List Int) → Nat → World → Prop
/-- the language that is asked for; and what is asked first tells it -/
structure LCtx.Ok (L : LCtx) : Prop where
  bl : L.B0 ≤ L.BL
  bk : L.B0 ≤ L.BK
  ne : L.BL ≠ L.BK
  t1 : 1 ≤ L.T
  t2 : L.T ≤ 16
  val : Valid L.d0
  few : L.d0.2.2.length ≤ 20
  cols : cols L.d0 = L.T
  lang : ∀ l, WOkT L.T l → daccept L.d0 l = L.acc l
  keep : ∀ ws q w w', L.Inv ws q w → Only w w' (fun b => L.B0 ≤ b) → L.Inv ws q w'
  enters : ∀ (args : Array Value) (u : World), (callFunc L.askF args).run Try.prog u = .ok (.enter L.askF args) u
  ask : ∀ (ws : List (List Int)) (q : Nat) (w : World) (S : Nat → Prop) (A : Option Addr) (n c : Nat) (x : List Int), L.Inv ws q w → L.B0 ≤ w.heap.size → ws.length ≤ 100000000 → Sl Rep.int w S A n c x → WOkT L.T x → x.length ≤ 2000 → x ∉ ws →
    Calls Try.prog L.askF (#[.slice A n c] ++ L.askC) w fun e w' => e = .returned (.bool (L.acc x)) ∧ L.Inv (ws ++ [x]) q w' ∧ Only w w' (fun b => b < L.B0)
/-- a learner -/
structure LSt (L : LCtx) (w : World) (FL : Nat → Prop) (ws : List (List Int)) (q : Nat) (vA vT vR : Value) (access tests : List (List Int)) : Prop where
  box : w.heap[L.BL]? = some (.cells #[.int .i64 (L.T : Int), .func (.func L.askF) #[] L.askC, .map (some L.BK), vA, vT, vR] 88 (0, 0))
  known : AMap KS w L.BK (knownL L.acc ws)
  inv : L.Inv ws q w
  ok : ∀ x ∈ ws, WOkT L.T x
  sets : ∃ FA FT, WL w FA vA access ∧ WL w FT vT tests ∧ (∀ b, FA b → FL b ∧ ¬ FT b ∧ b ≠ L.BL ∧ b ≠ L.BK) ∧ ∀ b, FT b → FL b ∧ b ≠ L.BL ∧ b ≠ L.BK
  fl : ∀ b, FL b → L.B0 ≤ b
  flL : FL L.BL
  flK : FL L.BK
  flz : ∀ b, FL b → b < w.heap.size
section
variable {L : LCtx} {w w' : World} {FL : Nat → Prop} {ws : List (List Int)} {q : Nat} {vA vT vR : Value} {access tests : List (List Int)}
theorem LSt.only {X : Nat → Prop} (h : LSt L w FL ws q vA vT vR access tests) (hL : L.Ok) (ho : Only w w' X) (hX : ∀ b, X b → ¬ FL b ∧ (b < w.heap.size → L.B0 ≤ b)) : LSt L w' FL ws q vA vT vR access tests := by
  obtain ⟨FA, FT, h1, h2, h3, h4⟩ := h.sets
  have hn : ∀ b, FL b → ¬ X b := fun b hb hx => (hX b hx).1 hb
  exact ⟨(ho.block _ (heap_lt h.box) (hn _ h.flL)).trans h.box, h.known.only ho (hn _ h.flK), hL.keep _ _ _ _ h.inv (ho.more fun b hb hx => (hX b hx).2 hb), h.ok, ⟨FA, FT, h1.only ho fun b hb => hn _ (h3 b hb).1, h2.only ho fun b hb => hn _ (h4 b hb).1, h3, h4⟩, h.fl, h.flL, h.flK, fun b hb => Nat.lt_of_lt_of_le (h.flz b hb) ho.size⟩
theorem LSt.below (h : LSt L w FL ws q vA vT vR access tests) (hL : L.Ok) (hb : Below w.heap.size w w') : LSt L w' FL ws q vA vT vR access tests :=
  h.only hL (X := fun _ => False) (.of_below hb (Nat.le_refl _) _) fun _ hb => hb.elim
theorem LSt.drew (h : LSt L w FL ws q vA vT vR access tests) (hL : L.Ok) : LSt L w.drew FL ws q vA vT vR access tests := h.below hL (Below.refl _ _).drew
theorem LSt.alloc (h : LSt L w FL ws q vA vT vR access tests) (hL : L.Ok) (o : Obj) : LSt L (w.alloc o) FL ws q vA vT vR access tests := h.below hL ((Below.refl _ _).alloc (Nat.le_refl _) o)
theorem LSt.lt (h : LSt L w FL ws q vA vT vR access tests) : L.BL < w.heap.size := heap_lt h.box
theorem LSt.le (h : LSt L w FL ws q vA vT vR access tests) : L.B0 ≤ w.heap.size := by have := h.lt; have := h.fl _ h.flL; omega
theorem LSt.slA {A : Option Addr} {n c : Nat} (h : LSt L w FL ws q (.slice A n c) vT vR access tests) : Sl RI w (fun b => FL b ∧ b ≠ L.BL ∧ b ≠ L.BK) A n c access := by
  obtain ⟨FA, FT, h1, _, h3, _⟩ := h.sets
  exact h1.sl.more fun b hb => ⟨(h3 b hb).1, (h3 b hb).2.2⟩
theorem LSt.slT {A : Option Addr} {n c : Nat} (h : LSt L w FL ws q vA (.slice A n c) vR access tests) : Sl RI w (fun b => FL b ∧ b ≠ L.BL ∧ b ≠ L.BK) A n c tests := by
  obtain ⟨FA, FT, _, h2, _, h4⟩ := h.sets
  exact h2.sl.more fun b hb => h4 b hb
theorem LSt.formA (h : LSt L w FL ws q vA vT vR access tests) : ∃ A c, vA = .slice A access.length c ∧ access.length ≤ c := by
  obtain ⟨FA, FT, h1, _⟩ := h.sets
  exact h1.form
theorem LSt.formT (h : LSt L w FL ws q vA vT vR access tests) : ∃ A c, vT = .slice A tests.length c ∧ tests.length ≤ c := by
  obtain ⟨FA, FT, _, h2, _⟩ := h.sets
  exact h2.form
theorem LSt.rowA (h : LSt L w FL ws q vA vT vR access tests) {b : Nat} (e : rowOf vA = some b) : FL b ∧ b ≠ L.BL ∧ b ≠ L.BK := by
  obtain ⟨FA, FT, h1, _, h3, _⟩ := h.sets
  have := h3 b (h1.row b e)
  exact ⟨this.1, this.2.2⟩
theorem LSt.rowT (h : LSt L w FL ws q vA vT vR access tests) {b : Nat} (e : rowOf vT = some b) : FL b ∧ b ≠ L.BL ∧ b ≠ L.BK := by
  obtain ⟨FA, FT, _, h2, _, h4⟩ := h.sets
  exact h4 b (h2.row b e)
/-- a word, and where it lies -/
theorem LSt.wordA {A : Option Addr} {n c k : Nat} (h : LSt L w FL ws q (.slice A n c) vT vR access tests) (hk : k < access.length) :
    ∃ bN oN AR m cR u, A = some ⟨bN, oN, none⟩ ∧ w.cell? ⟨bN, oN + k, none⟩ = some (.slice AR m cR) ∧ access[k]? = some u ∧ Sl Rep.int w (fun b => FL b ∧ b ≠ L.BL ∧ b ≠ L.BK ∧ rowOf (.slice A n c) ≠ some b) AR m cR u := by
  obtain ⟨FA, FT, h1, _, h3, _⟩ := h.sets
  obtain ⟨xs, ho, hc⟩ := h1.own
  have hsl := h1.sl
  have hn := hsl.len
  obtain ⟨u, hu, hok⟩ := hc.get1 rfl hk
  obtain ⟨AR, m, cR, e, hs⟩ := hok
  injection e with e _
  subst e
  obtain ⟨xs', _, _, hr', _⟩ := id hsl
  have hrd : Rd w (fun _ => True) 1 A access.length xs := by
    obtain ⟨A', c', e, hc', _⟩ := ho.form
    injection e with e1 e2 e3
    subst e1
    subst e2
    subst e3
    exact ho.rd.more fun _ _ => trivial
  obtain ⟨b, off, e, _, hcell⟩ := hrd.2 (by omega)
  exact ⟨b, off, AR, m, cR, access[k], e, hcell k _ hu, List.getElem?_eq_getElem hk, hs.more fun b hb => ⟨(h3 b hb.1).1, (h3 b hb.1).2.2.1, (h3 b hb.1).2.2.2, hb.2⟩⟩
theorem LSt.cells (h : LSt L w FL ws q vA vT vR access tests) : w.cell? ⟨L.BL, 0, none⟩ = some (.int .i64 (L.T : Int)) ∧ w.cell? ⟨L.BL, 1, none⟩ = some (.func (.func L.askF) #[] L.askC) ∧ w.cell? ⟨L.BL, 2, none⟩ = some (.map (some L.BK)) ∧
    w.cell? ⟨L.BL, 3, none⟩ = some vA ∧ w.cell? ⟨L.BL, 4, none⟩ = some vT ∧ w.cell? ⟨L.BL, 5, none⟩ = some vR := by
  have := h.box
  simp [World.cell?, this]
theorem LSt.fr (h : LSt L w FL ws q vA vT vR access tests) (i : Nat) : w.frozen? ⟨L.BL, i, none⟩ = false := by simp [World.frozen?, h.box]
/-- an answer, and its place among those that are known -/
theorem LSt.asked {w1 w2 : World} {x : List Int} (h : LSt L w FL ws q vA vT vR access tests) (hL : L.Ok) (hi : L.Inv (ws ++ [x]) q w1) (ho : Only w w1 (fun b => b < L.B0)) (hx : WOkT L.T x) (hk : AMap KS w2 L.BK (knownL L.acc (ws ++ [x]))) (hg : w1.grownBy w2 (some L.BK)) :
    LSt L w2 FL (ws ++ [x]) q vA vT vR access tests ∧ Only w w2 (fun b => b < L.B0 ∨ b = L.BK) := by
  have ho2 : Only w1 w2 (fun b => b = L.BK) := .of_grown hg fun b e => by injection e with e; exact e.symm
  have ho3 : Only w w2 (fun b => b < L.B0 ∨ b = L.BK) := (ho.more fun b _ hb => .inl hb).trans (ho2.more fun b _ hb => .inr hb)
  obtain ⟨FA, FT, h1, h2, h3, h4⟩ := h.sets
  have hne : ∀ b, FL b → b ≠ L.BK → ¬ (b < L.B0 ∨ b = L.BK) := fun b hb hn hx => by
    have := h.fl b hb
    rcases hx with hx | hx
    · omega
    · exact hn hx
  refine ⟨⟨(ho3.block _ (heap_lt h.box) (hne _ h.flL hL.ne)).trans h.box, hk, hL.keep _ _ _ _ hi (ho2.more fun b _ hb => by have := hL.bk; omega), fun y hy => ?_, ⟨FA, FT, h1.only ho3 fun b hb => hne _ (h3 b hb).1 (h3 b hb).2.2.2, h2.only ho3 fun b hb => hne _ (h4 b hb).1 (h4 b hb).2.2, h3, h4⟩, h.fl, h.flL, h.flK, fun b hb => Nat.lt_of_lt_of_le (h.flz b hb) ho3.size⟩, ho3⟩
  rcases List.mem_append.1 hy with hy | hy
  · exact h.ok y hy
  · obtain rfl := List.mem_singleton.1 hy
    exact hx
/-- another map of rows -/
theorem LSt.setR (h : LSt L w FL ws q vA vT vR access tests) (hL : L.Ok) (u : Value) : LSt L (w.setCell ⟨L.BL, 5, none⟩ u) FL ws q vA vT u access tests := by
  obtain ⟨FA, FT, h1, h2, h3, h4⟩ := h.sets
  have ho : Only w (w.setCell ⟨L.BL, 5, none⟩ u) (fun b => b = L.BL) := .set w L.BL 5 u rfl
  have k := blk_set h.box 5 u
  exact ⟨by simpa using k, h.known.only ho (fun e => hL.ne e.symm), hL.keep _ _ _ _ h.inv (ho.more fun b _ hb => by have := hL.bl; omega), h.ok, ⟨FA, FT, h1.only ho fun b hb => (h3 b hb).2.2.1, h2.only ho fun b hb => (h4 b hb).2.1, h3, h4⟩, h.fl, h.flL, h.flK, fun b hb => Nat.lt_of_lt_of_le (h.flz b hb) ho.size⟩
/-- one more word -/
theorem LSt.pushA {G : Nat → Prop} {A : Option Addr} {n c : Nat} {x : List Int} (h : LSt L w FL ws q vA vT vR access tests) (hL : L.Ok) (hx : Sl Rep.int w G A n c x) (hG : ∀ b, G b → ¬ FL b ∧ L.B0 ≤ b) (hl : access.length ≤ 100000) :
    ∃ A' c' w' FL', (Builtin.append_ #[23, 23] 23 #[vA, .slice (some ⟨w.heap.size, 0, none⟩) 1 1]).run Try.prog (w.alloc (.cells #[.slice A n c] 22)) = .ok (.slice A' (access.length + 1) c') w' ∧
      LSt L (w'.setCell ⟨L.BL, 3, none⟩ (.slice A' (access.length + 1) c')) FL' ws q (.slice A' (access.length + 1) c') vT vR (access ++ [x]) tests ∧ Only w w' (fun b => rowOf vA = some b) ∧ (rowOf (.slice A' (access.length + 1) c') = rowOf vA ∨ rowOf (.slice A' (access.length + 1) c') = some (w.heap.size + 1)) ∧ (∀ b, FL b → FL' b) ∧ (∀ b, FL' b → FL b ∨ G b ∨ w.heap.size ≤ b) ∧ w'.heap[L.BL]? = w.heap[L.BL]? := by
  obtain ⟨FA, FT, h1, h2, h3, h4⟩ := h.sets
  have hfit := h1.fit
  obtain ⟨A', c', w', hrun, hwl, hg, hrow⟩ := hfit.push (x := x) hx (fun b hb e => (hG b hb).1 (h3 b (h1.row b e)).1) hl
  have hrowA : ∀ b, rowOf vA = some b → FA b := fun b e => h1.row b e
  have ho : Only (w.alloc (.cells #[.slice A n c] 22)) w' FA := .of_grown hg hrowA
  have hoR : Only w w' (fun b => rowOf vA = some b) := (Only.alloc w _ _).trans (.of_grown hg fun b e => e)
  have ho2 : Only w w' FA := (Only.alloc w _ _).trans ho
  have ho3 : Only w' (w'.setCell ⟨L.BL, 3, none⟩ (.slice A' (access.length + 1) c')) (fun b => b = L.BL) := .set w' L.BL 3 _ rfl
  have hbl : w'.heap[L.BL]? = w.heap[L.BL]? := ho2.block _ h.lt fun hb => (h3 _ hb).2.2.1 rfl
  have hbox := hbl.trans h.box
  have k := blk_set hbox 3 (.slice A' (access.length + 1) c')
  have hlK := h.known.lt
  have hsz := h.lt
  have hle := h.le
  have hGL : ∀ b, G b → b ≠ L.BL ∧ b ≠ L.BK := fun b hb => ⟨fun e => (hG b hb).1 (e ▸ h.flL), fun e => (hG b hb).1 (e ▸ h.flK)⟩
  have hnew0 : ∀ b, ((FA b ∧ b < w.heap.size) ∨ G b ∨ b = w.heap.size + 1) → FL b ∨ G b ∨ b = w.heap.size + 1 := fun b hb => by
    rcases hb with hb | hb | hb
    · exact .inl (h3 b hb.1).1
    · exact .inr (.inl hb)
    · exact .inr (.inr hb)
  have hnew1 : ∀ b, ((FA b ∧ b < w.heap.size) ∨ G b ∨ b = w.heap.size + 1) → b ≠ L.BL := fun b hb => by
    rcases hb with hb | hb | hb
    · exact (h3 b hb.1).2.2.1
    · exact (hGL b hb).1
    · omega
  have hnew2 : ∀ b, ((FA b ∧ b < w.heap.size) ∨ G b ∨ b = w.heap.size + 1) → b ≠ L.BK := fun b hb => by
    rcases hb with hb | hb | hb
    · exact (h3 b hb.1).2.2.2
    · exact (hGL b hb).2
    · omega
  have hnewN : ∀ b, ((FA b ∧ b < w.heap.size) ∨ G b ∨ b = w.heap.size + 1) → ¬ (FT b ∧ b < w.heap.size) := fun b hb hn => by
    rcases hb with hb | hb | hb
    · exact (h3 b hb.1).2.1 hn.1
    · exact (hG b hb).1 (h4 b hn.1).1
    · omega
  have hnewA : ∀ b, ((FA b ∧ b < w.heap.size) ∨ G b ∨ b = w.heap.size + 1) → (FL b ∨ G b ∨ b = w.heap.size + 1) ∧ ¬ (FT b ∧ b < w.heap.size) ∧ b ≠ L.BL ∧ b ≠ L.BK := fun b hb => ⟨hnew0 b hb, hnewN b hb, hnew1 b hb, hnew2 b hb⟩
  have hoth : ∀ b, (FT b ∧ b < w.heap.size) → ¬ FA b := fun b hb hf => (h3 b hf).2.1 hb.1
  refine ⟨A', c', w', fun b => (FL b ∨ G b ∨ b = w.heap.size + 1) ∧ b < w'.heap.size, hrun, ⟨by simpa using k, (h.known.only ho2 fun hb => (h3 _ hb).2.2.2 rfl).only ho3 fun e => hL.ne e.symm, ?_, h.ok, ⟨_, _, (hwl.fit.only ho3 fun b hb => hnew1 b hb.1), (((h2.fit).only ho2 hoth).only ho3 fun b hb => (h4 b hb.1).2.1), fun b hb => ⟨⟨(hnewA b hb.1).1, hb.2⟩, (hnewA b hb.1).2⟩, fun b hb => ⟨⟨.inl (h4 b hb.1).1, Nat.lt_of_lt_of_le hb.2 ho2.size⟩, (h4 b hb.1).2.1, (h4 b hb.1).2.2⟩⟩, fun b hb => ?_, ⟨.inl h.flL, Nat.lt_of_lt_of_le h.lt ho2.size⟩, ⟨.inl h.flK, Nat.lt_of_lt_of_le h.known.lt ho2.size⟩, fun b hb => Nat.lt_of_lt_of_le hb.2 ho3.size⟩, hoR, hrow, fun b hb => ⟨.inl hb, Nat.lt_of_lt_of_le (h.flz b hb) ho2.size⟩, fun b hb => ?_, hbl⟩
  · exact hL.keep _ _ _ _ h.inv ((ho2.more fun b _ hb => h.fl _ (h3 b hb).1).trans (ho3.more fun b _ hb => by have := hL.bl; omega))
  · rcases hb.1 with hb | hb | hb
    · exact h.fl b hb
    · exact (hG b hb).2
    · omega
  · rcases hb.1 with hb | hb | hb
    · exact .inl hb
    · exact .inr (.inl hb)
    · exact .inr (.inr (by omega))
/-- one more test -/
theorem LSt.pushT {G : Nat → Prop} {A : Option Addr} {n c : Nat} {x : List Int} (h : LSt L w FL ws q vA vT vR access tests) (hL : L.Ok) (hx : Sl Rep.int w G A n c x) (hG : ∀ b, G b → ¬ FL b ∧ L.B0 ≤ b) (hl : tests.length ≤ 100000) :
    ∃ A' c' w' FL', (Builtin.append_ #[23, 23] 23 #[vT, .slice (some ⟨w.heap.size, 0, none⟩) 1 1]).run Try.prog (w.alloc (.cells #[.slice A n c] 22)) = .ok (.slice A' (tests.length + 1) c') w' ∧
      LSt L (w'.setCell ⟨L.BL, 4, none⟩ (.slice A' (tests.length + 1) c')) FL' ws q vA (.slice A' (tests.length + 1) c') vR access (tests ++ [x]) ∧ Only w w' (fun b => rowOf vT = some b) ∧ (rowOf (.slice A' (tests.length + 1) c') = rowOf vT ∨ rowOf (.slice A' (tests.length + 1) c') = some (w.heap.size + 1)) ∧ (∀ b, FL b → FL' b) ∧ (∀ b, FL' b → FL b ∨ G b ∨ w.heap.size ≤ b) ∧ w'.heap[L.BL]? = w.heap[L.BL]? := by
  obtain ⟨FA, FT, h1, h2, h3, h4⟩ := h.sets
  have hfit := h2.fit
  obtain ⟨A', c', w', hrun, hwl, hg, hrow⟩ := hfit.push (x := x) hx (fun b hb e => (hG b hb).1 (h4 b (h2.row b e)).1) hl
  have hrowA : ∀ b, rowOf vT = some b → FT b := fun b e => h2.row b e
  have ho : Only (w.alloc (.cells #[.slice A n c] 22)) w' FT := .of_grown hg hrowA
  have hoR : Only w w' (fun b => rowOf vT = some b) := (Only.alloc w _ _).trans (.of_grown hg fun b e => e)
  have ho2 : Only w w' FT := (Only.alloc w _ _).trans ho
  have ho3 : Only w' (w'.setCell ⟨L.BL, 4, none⟩ (.slice A' (tests.length + 1) c')) (fun b => b = L.BL) := .set w' L.BL 4 _ rfl
  have hbl : w'.heap[L.BL]? = w.heap[L.BL]? := ho2.block _ h.lt fun hb => (h4 _ hb).2.1 rfl
  have hbox := hbl.trans h.box
  have k := blk_set hbox 4 (.slice A' (tests.length + 1) c')
  have hlK := h.known.lt
  have hsz := h.lt
  have hle := h.le
  have hGL : ∀ b, G b → b ≠ L.BL ∧ b ≠ L.BK := fun b hb => ⟨fun e => (hG b hb).1 (e ▸ h.flL), fun e => (hG b hb).1 (e ▸ h.flK)⟩
  have hnew0 : ∀ b, ((FT b ∧ b < w.heap.size) ∨ G b ∨ b = w.heap.size + 1) → FL b ∨ G b ∨ b = w.heap.size + 1 := fun b hb => by
    rcases hb with hb | hb | hb
    · exact .inl (h4 b hb.1).1
    · exact .inr (.inl hb)
    · exact .inr (.inr hb)
  have hnew1 : ∀ b, ((FT b ∧ b < w.heap.size) ∨ G b ∨ b = w.heap.size + 1) → b ≠ L.BL := fun b hb => by
    rcases hb with hb | hb | hb
    · exact (h4 b hb.1).2.1
    · exact (hGL b hb).1
    · omega
  have hnew2 : ∀ b, ((FT b ∧ b < w.heap.size) ∨ G b ∨ b = w.heap.size + 1) → b ≠ L.BK := fun b hb => by
    rcases hb with hb | hb | hb
    · exact (h4 b hb.1).2.2
    · exact (hGL b hb).2
    · omega
  have hnewN : ∀ b, ((FT b ∧ b < w.heap.size) ∨ G b ∨ b = w.heap.size + 1) → ¬ (FA b ∧ b < w.heap.size) := fun b hb hn => by
    rcases hb with hb | hb | hb
    · exact (h3 b hn.1).2.1 hb.1
    · exact (hG b hb).1 (h3 b hn.1).1
    · omega
  have hnewA : ∀ b, ((FT b ∧ b < w.heap.size) ∨ G b ∨ b = w.heap.size + 1) → (FL b ∨ G b ∨ b = w.heap.size + 1) ∧ ¬ (FA b ∧ b < w.heap.size) ∧ b ≠ L.BL ∧ b ≠ L.BK := fun b hb => ⟨hnew0 b hb, hnewN b hb, hnew1 b hb, hnew2 b hb⟩
  have hoth : ∀ b, (FA b ∧ b < w.heap.size) → ¬ FT b := fun b hb hf => (h3 b hb.1).2.1 hf
  refine ⟨A', c', w', fun b => (FL b ∨ G b ∨ b = w.heap.size + 1) ∧ b < w'.heap.size, hrun, ⟨by simpa using k, (h.known.only ho2 fun hb => (h4 _ hb).2.2 rfl).only ho3 fun e => hL.ne e.symm, ?_, h.ok, ⟨_, _, (((h1.fit).only ho2 hoth).only ho3 fun b hb => (h3 b hb.1).2.2.1), (hwl.fit.only ho3 fun b hb => hnew1 b hb.1), fun b hb => ⟨⟨.inl (h3 b hb.1).1, Nat.lt_of_lt_of_le hb.2 ho2.size⟩, fun hn => hnewN b hn.1 hb, (h3 b hb.1).2.2.1, (h3 b hb.1).2.2.2⟩, fun b hb => ⟨⟨hnew0 b hb.1, hb.2⟩, hnew1 b hb.1, hnew2 b hb.1⟩⟩, fun b hb => ?_, ⟨.inl h.flL, Nat.lt_of_lt_of_le h.lt ho2.size⟩, ⟨.inl h.flK, Nat.lt_of_lt_of_le h.known.lt ho2.size⟩, fun b hb => Nat.lt_of_lt_of_le hb.2 ho3.size⟩, hoR, hrow, fun b hb => ⟨.inl hb, Nat.lt_of_lt_of_le (h.flz b hb) ho2.size⟩, fun b hb => ?_, hbl⟩
  · exact hL.keep _ _ _ _ h.inv ((ho2.more fun b _ hb => h.fl _ (h4 b hb).1).trans (ho3.more fun b _ hb => by have := hL.bl; omega))
  · rcases hb.1 with hb | hb | hb
    · exact h.fl b hb
    · exact (hG b hb).2
    · omega
  · rcases hb.1 with hb | hb | hb
    · exact .inl hb
    · exact .inr (.inl hb)
    · exact .inr (.inr (by omega))
end
end Go.Proofs.Ytgaahpddlohjoaa
