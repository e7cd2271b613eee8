/- learner.close: what its loops keep. -/
import Derived.Test.YtgaahpddlohjoaaLearnRow
import Derived.Test.YtgaahpddlohjoaaCanonSt
import Derived.Test.YtgaahpddlohjoaaTwo
namespace Go.Proofs.Ytgaahpddlohjoaa
open Go.RowKit Go.Maps

theorem Only.then {w w' w'' : World} {X Y : Nat → Prop} (h : Only w w' X) (h' : Only w' w'' Y) (hY : ∀ b, b < w.heap.size → Y b → X b) : Only w w'' X :=
  ⟨h'.os.trans h.os, h'.tape.trans h.tape, h'.output.trans h.output, Nat.le_trans h.size h'.size, fun b hb hx => (h'.block b (Nat.lt_of_lt_of_le hb h.size) (fun hy => hx (hY b hb hy))).trans (h.block b hb hx)⟩
/-- what turns none of its blocks keeps an automaton that is being made -/
theorem DfaB.only {w w' : World} {X : Nat → Prop} {base Bd : Nat} {start : Int} {acc : List Int} {rows : List (List Int)} {vA vN : Value} {xs : List Value} (h : DfaB w base Bd start acc rows vA vN xs) (ho : Only w w' X)
    (hX : ∀ b, X b → b ≠ Bd ∧ rowOf vA ≠ some b ∧ rowOf vN ≠ some b ∧ ∀ (i : Nat) (v : Value), xs[i]? = some v → rowOf v ≠ some b) : DfaB w' base Bd start acc rows vA vN xs := by
  refine ⟨(ho.block Bd (by have := h.lt; have := h.le; omega) (fun hx => (hX _ hx).1 rfl)).trans h.blk, h.ownA.sameB fun g e => ho.block g (h.ownA.row e).2 (fun hx => (hX _ hx).2.1 e), h.ownN.sameB fun g e => ho.block g (h.ownN.row e).2 (fun hx => (hX _ hx).2.2.1 e), ?_, h.lt, Nat.le_trans h.le ho.size, h.ne⟩
  intro i v hv
  obtain ⟨r, h1, h2, h3⟩ := h.rown i v hv
  exact ⟨r, h1, h2.sameB fun g e => ho.block g (h2.row e).2 (fun hx => (hX _ hx).2.2.2 i v hv e), h3⟩
/-- while the automaton is made: what has come since w1 -/
structure CIn (L : LCtx) (w1 wr : World) (q BR K : Nat) (vT : Value) (tests : List (List Int)) (FL1 FL : Nat → Prop) (ws1 ws : List (List Int)) (vA1 vA : Value) (access1 access : List (List Int)) (n : Nat) (X : Nat → Prop) : Prop where
  st : LSt L wr FL ws q vA vT (.map (some BR)) access tests
  mp : AMap KS wr BR (rowsL L.acc tests 0 access)
  acc : AccW L.acc L.T tests access
  br : L.B0 ≤ BR ∧ ¬ FL BR
  pre : access1 <+: access
  sub : ∀ b, FL1 b → FL b
  new : ∀ b, FL b → FL1 b ∨ K ≤ b
  row : rowOf vA = rowOf vA1 ∨ ∃ g, rowOf vA = some g ∧ K ≤ g
  on : Only w1 wr (fun b => b < L.B0 ∨ b = L.BL ∨ b = L.BK ∨ rowOf vA1 = some b ∨ b = BR ∨ X b)
  len : ws.length ≤ ws1.length + n
section
variable {L : LCtx} {w1 wr w' w2 w3 : World} {q BR K K' : Nat} {vT : Value} {tests : List (List Int)} {FL1 FL FL' : Nat → Prop} {ws1 ws ws' : List (List Int)} {vA1 vA vA' : Value} {access1 access access' : List (List Int)} {n n' : Nat} {X X' Y : Nat → Prop}
theorem CIn.refl (h : LSt L wr FL ws q vA vT (.map (some BR)) access tests) (hm : AMap KS wr BR (rowsL L.acc tests 0 access)) (ha : AccW L.acc L.T tests access) (hb : L.B0 ≤ BR ∧ ¬ FL BR) (K : Nat) (X : Nat → Prop) : CIn L wr wr q BR K vT tests FL FL ws ws vA vA access access 0 X :=
  ⟨h, hm, ha, hb, List.prefix_refl _, fun _ hb => hb, fun _ hb => .inl hb, .inl rfl, .refl _ _, Nat.le_refl _⟩
/-- what else may turn -/
theorem CIn.only (h : CIn L w1 wr q BR K vT tests FL1 FL ws1 ws vA1 vA access1 access n X) (hL : L.Ok) (ho : Only wr w' Y) (hY : ∀ b, Y b → ¬ FL b ∧ b ≠ BR ∧ (b < wr.heap.size → L.B0 ≤ b)) (hX : ∀ b, b < w1.heap.size → Y b → X b) : CIn L w1 w' q BR K vT tests FL1 FL ws1 ws vA1 vA access1 access n X :=
  ⟨h.st.only hL ho fun b hb => ⟨(hY b hb).1, (hY b hb).2.2⟩, h.mp.only ho fun hb => (hY _ hb).2.1 rfl, h.acc, h.br, h.pre, h.sub, h.new, h.row, h.on.then ho fun b hb hy => .inr (.inr (.inr (.inr (.inr (hX b hb hy))))), h.len⟩
theorem CIn.below (h : CIn L w1 wr q BR K vT tests FL1 FL ws1 ws vA1 vA access1 access n X) (hL : L.Ok) (hb : Below wr.heap.size wr w') : CIn L w1 w' q BR K vT tests FL1 FL ws1 ws vA1 vA access1 access n X :=
  h.only hL (Y := fun _ => False) (.of_below hb (Nat.le_refl _) _) (fun _ hb => hb.elim) (fun _ _ hb => hb.elim)
theorem CIn.le {k : Nat} (h : CIn L w1 wr q BR K vT tests FL1 FL ws1 ws vA1 vA access1 access n X) (hk : n ≤ k) : CIn L w1 wr q BR K vT tests FL1 FL ws1 ws vA1 vA access1 access k X :=
  ⟨h.st, h.mp, h.acc, h.br, h.pre, h.sub, h.new, h.row, h.on, by have := h.len; omega⟩
/-- words that were asked for -/
theorem CIn.mem {k : Nat} (h : CIn L w1 wr q BR K vT tests FL1 FL ws1 ws vA1 vA access1 access n X) (hm : MemPost L wr FL ws q vA vT (.map (some BR)) access tests k w') : ∃ ws', CIn L w1 w' q BR K vT tests FL1 FL ws1 ws' vA1 vA access1 access (n + k) X := by
  obtain ⟨ws', h1, h2, h3⟩ := hm
  have hbr := h.br
  have hbk := h.st.flK
  refine ⟨ws', h1, h.mp.only h3 ?_, h.acc, h.br, h.pre, h.sub, h.new, h.row, h.on.then h3 fun b _ hb => ?_, by have := h.len; omega⟩
  · rintro (hb | hb)
    · omega
    · exact hbr.2 (hb ▸ hbk)
  · rcases hb with hb | hb
    · exact .inl hb
    · exact .inr (.inr (.inl hb))
theorem CIn.trans (h : CIn L w1 w2 q BR K vT tests FL1 FL ws1 ws vA1 vA access1 access n X) (h' : CIn L w2 w3 q BR K' vT tests FL FL' ws ws' vA vA' access access' n' X') (hK : K ≤ K') (hK1 : w1.heap.size ≤ K) (hX : ∀ b, b < w1.heap.size → X' b → X b) :
    CIn L w1 w3 q BR K vT tests FL1 FL' ws1 ws' vA1 vA' access1 access' (n + n') X := by
  refine ⟨h'.st, h'.mp, h'.acc, h'.br, h.pre.trans h'.pre, fun b hb => h'.sub b (h.sub b hb), fun b hb => ?_, ?_, h.on.then h'.on fun b hb hx => ?_, by have := h.len; have := h'.len; omega⟩
  · rcases h'.new b hb with hb | hb
    · exact h.new b hb
    · exact .inr (by omega)
  · rcases h'.row with e | ⟨g, e, hg⟩
    · rw [e]; exact h.row
    · exact .inr ⟨g, e, by omega⟩
  · rcases hx with hx | hx | hx | hx | hx | hx
    · exact .inl hx
    · exact .inr (.inl hx)
    · exact .inr (.inr (.inl hx))
    · rcases h.row with e | ⟨g, e, hg⟩
      · exact .inr (.inr (.inr (.inl (e ▸ hx))))
      · rw [e] at hx
        injection hx with hx
        omega
    · exact .inr (.inr (.inr (.inr (.inl hx))))
    · exact .inr (.inr (.inr (.inr (.inr (hX b hb hx)))))
/-- one more word -/
theorem CIn.push {G : Nat → Prop} {A : Option Addr} {m c i s : Nat} {u : List Int} (h : CIn L w1 wr q BR K vT tests FL1 FL ws1 ws vA1 vA access1 access n X) (hL : L.Ok) (hx : Sl Rep.int wr G A m c (u ++ [(s : Int)])) (hG : ∀ b, G b → ¬ FL b ∧ L.B0 ≤ b ∧ b ≠ BR ∧ K ≤ b) (hl : access.length ≤ 1000) (hK : K ≤ wr.heap.size) (hK1 : w1.heap.size ≤ K)
    (hu : access[i]? = some u) (hs : s < L.T) (hnew : ∀ v ∈ access, lrow L.acc tests v ≠ lrow L.acc tests (u ++ [(s : Int)]))
    (hm : AMap KS w2 BR (putL (rowsL L.acc tests 0 access) (keyR (lrow L.acc tests (u ++ [(s : Int)]))) (.int .i64 (access.length : Int)))) (hg : wr.grownBy w2 (some BR)) :
    ∃ A' c' w' FL', (Builtin.append_ #[23, 23] 23 #[vA, .slice (some ⟨w2.heap.size, 0, none⟩) 1 1]).run Try.prog (w2.alloc (.cells #[.slice A m c] 22)) = .ok (.slice A' (access.length + 1) c') w' ∧
      CIn L w1 (w'.setCell ⟨L.BL, 3, none⟩ (.slice A' (access.length + 1) c')) q BR K vT tests FL1 FL' ws1 ws vA1 (.slice A' (access.length + 1) c') access1 (access ++ [u ++ [(s : Int)]]) n X ∧
      Only wr (w'.setCell ⟨L.BL, 3, none⟩ (.slice A' (access.length + 1) c')) (fun b => b = BR ∨ b = L.BL ∨ rowOf vA = some b) ∧ w'.heap[L.BL]? = wr.heap[L.BL]? ∧ w2.heap[L.BL]? = wr.heap[L.BL]? := by
  have hbr := h.br
  have hoR : Only wr w2 (fun b => b = BR) := .of_grown hg fun b e => by injection e with e; exact e.symm
  have hst2 := h.st.only hL hoR fun b hb => ⟨fun hf => hbr.2 (hb ▸ hf), fun _ => by omega⟩
  have hx2 := hx.keep (hoR.kept fun b hb => (hG b hb).2.2.1)
  have hb2 : w2.heap[L.BL]? = wr.heap[L.BL]? := hoR.block _ h.st.lt fun e => hbr.2 (e ▸ h.st.flL)
  obtain ⟨A', c', w', FL', hrun, hst', ho, hrow, hsub, hnew', hbl⟩ := hst2.pushA hL hx2.fit (fun b hb => ⟨(hG b hb.1).1, (hG b hb.1).2.1⟩) (by omega)
  rw [rowsL_put hnew] at hm
  have hbrl := hm.lt
  have hbrA : rowOf vA ≠ some BR := fun e => hbr.2 (h.st.rowA e).1
  have ho3 : Only w' (w'.setCell ⟨L.BL, 3, none⟩ (.slice A' (access.length + 1) c')) (fun b => b = L.BL) := .set w' L.BL 3 _ rfl
  have hbrF : ¬ FL' BR := fun hf => by
    rcases hnew' BR hf with hf | hf | hf
    · exact hbr.2 hf
    · exact (hG BR hf.1).2.2.1 rfl
    · omega
  have hbrL : BR ≠ L.BL := fun e => hbr.2 (e ▸ h.st.flL)
  refine ⟨A', c', w', FL', hrun, ⟨hst', (hm.only ho (fun e => hbrA e)).only ho3 hbrL, h.acc.push hu hs hnew, ⟨hbr.1, hbrF⟩, h.pre.trans (List.prefix_append _ _), fun b hb => hsub b (h.sub b hb), fun b hb => ?_, ?_, ?_, h.len⟩, ?_, hbl.trans hb2, hb2⟩
  · rcases hnew' b hb with hb | hb | hb
    · exact h.new b hb
    · exact .inr (hG b hb.1).2.2.2
    · exact .inr (by have := hoR.size; omega)
  · rcases hrow with e | e
    · rw [e]; exact h.row
    · exact .inr ⟨_, e, by have := hoR.size; omega⟩
  · refine ((h.on.then hoR fun b _ hb => .inr (.inr (.inr (.inr (.inl hb))))).then ho fun b hb hx => ?_).then ho3 fun b _ hb => .inr (.inl hb)
    rcases h.row with e | ⟨g, e, hgK⟩
    · exact .inr (.inr (.inr (.inl (e ▸ hx))))
    · rw [e] at hx
      injection hx with hx
      omega
  · exact ((hoR.more fun b _ hb => Or.inl hb).then ho fun b _ hb => .inr (.inr hb)).then ho3 fun b _ hb => .inr (.inl hb)
end
/-- 'm[k] = v' at a step of a region that draws -/
theorem step_amap_put {P : Program} {k : TypeId} {κ : Type} [DecidableEq κ] {K0 : KeyRep P k κ} (w : World) {ops : Array Oper} {o : Oper} {a : Act} {K : Act → World → Prop} {Q : Exit → Act → World → Prop} {E : Prop} (hgd : o.guard = none) (m x v : Operand) (t : TypeId) (hop : o.op = Op.mapUpdate t m x v)
    (e : TypeId) (ht : P.underlying t = some (.map k e)) (b : Nat) (l : List (κ × Value)) (hm : a.eval m = .map (some b)) (hown : AMap K0 w b l) (q : κ) (hx : a.eval x = K0.val q) (hq : K0.ok q) (u : Value) (hv : a.eval v = u) (hl : l.length < maxLen)
    (hK : ∀ w', AMap K0 w' b (putL l q u) → w.grownBy w' (some b) → K (a.put o.dst undef) w') :
    if Region.wanted o (yielded ops a.tmps) = true then Oper.wp P o a w K Q else E := by
  have hw : Region.wanted o (yielded ops a.tmps) = true := by simp [Region.wanted, hgd]
  rw [if_pos hw]
  obtain ⟨w', hrun, r1, r2⟩ := hown.put ht hq u hl
  unfold Oper.wp
  simp [execOp, hop, hm, hx, hv, hrun, Result.andThen]
  exact hK w' r1 r2
theorem keyR_ok {l : List Bool} (h : l.length ≤ 2000) : KS.ok (keyR l) := by
  show (keyR l).size ≤ maxLen
  rw [keyR_str, strOf_size]
  unfold maxLen
  simp
  omega
/-- a word of the call's own, longer by a symbol -/
theorem snocNew (w7 : World) (base : Nat) (v7 : Value) (u : List Int) (s m : Nat) (ho : Own w7 base 3 1 v7 m (u.map (Value.int .i64))) (hb : base ≤ w7.heap.size) (hu : u.length ≤ 1000) :
    ∃ A8 c8 w8, (Builtin.append_ #[22, 22] 22 #[v7, .slice (some ⟨w7.heap.size, 0, none⟩) 1 1]).run Try.prog (w7.alloc (.cells #[.int .i64 (s : Int)] 3)) = .ok (.slice A8 (u.length + 1) c8) w8 ∧
      Sl Rep.int w8 (fun b => base ≤ b) A8 (u.length + 1) c8 (u ++ [(s : Int)]) ∧ Below base w7 w8 := by
  obtain ⟨v8, w8, hrun8, ho8, hg8, hb8⟩ := run_append_lit (R := Rep.int) tInts rfl w7 22 base (fun _ => False) v7 u (ho.ints _) 1 [(s : Int)] [.int .i64 (s : Int)] (Cells.single rfl) rfl (by unfold maxLen; omega) (by omega) hb
  obtain ⟨A8, c8, rfl, _, _⟩ := ho8.form
  have hsl : Sl Rep.int w8 (fun b => base ≤ b) A8 (u.length + 1) c8 (u ++ [(s : Int)]) := by
    have h := ho8.sl
    rw [List.length_append, List.length_singleton] at h
    exact h.more fun b hb => by
      rcases hb with hb | hb
      · exact hb.elim
      · exact hb
  rw [List.length_append, List.length_singleton] at hrun8
  exact ⟨A8, c8, w8, hrun8, hsl, hb8⟩
theorem ZApart.nil (Z : Nat → Prop) : ZApart Z (.slice none 0 0) (.slice none 0 0) [] := fun b _ => ⟨fun e => (by cases e), fun e => (by cases e), fun i v hv => (by simp at hv)⟩
theorem cells_snoc {acc : List Int → Bool} {tests access access' : List (List Int)} {u : List Int} {r : List Int} {j n : Nat} {v : List Int} (hl : r.length = j) (hr : ∀ (c : Nat) (x : Int), r[c]? = some x → CellT acc tests access u c x) (hp : access <+: access') (hn : access'[n]? = some v) (hv : lrow acc tests v = lrow acc tests (u ++ [(j : Int)])) :
    ∀ (c : Nat) (x : Int), (r ++ [(n : Int)])[c]? = some x → CellT acc tests access' u c x := fun c x h => by
  rcases Nat.lt_trichotomy c r.length with h1 | h1 | h1
  · rw [List.getElem?_append_left h1] at h
    exact (hr c x h).pre hp
  · subst h1
    simp at h
    subst h
    exact ⟨n, v, rfl, hn, by rw [hv, hl]⟩
  · rw [List.getElem?_eq_none (by simp; omega)] at h
    cases h
/-- after a row is made: the automaton so far, apart from the learner's blocks -/
theorem CIn.dfa {L : LCtx} {w4 w8 w10 : World} {q BR BD BROW n n' : Nat} {vT vA vA2 vA3 vAc vNx : Value} {tests access access2 access3 ws4 ws2 ws3 rows : List (List Int)} {accs : List Int} {xs : List Value} {FL FL2 FL3 X : Nat → Prop} (h8 : CIn L w4 w8 q BR (BD + 1) vT tests FL FL2 ws4 ws2 vA vA2 access access2 n X)
    (h10 : CIn L w8 w10 q BR (BROW + 1) vT tests FL2 FL3 ws2 ws3 vA2 vA3 access2 access3 n' (fun b => b = BROW)) (hd : DfaB w8 (BD + 1) BD 0 accs rows vAc vNx xs) (hz : ZApart (fun b => FL2 b ∨ b = BR) vAc vNx xs) (hlow : DfaLow BROW vAc vNx xs) (hBD : BD < BROW) (hBR : BR < BD) (hF : ∀ b, FL b → b < BD) :
    DfaB w10 (BD + 1) BD 0 accs rows vAc vNx xs ∧ ZApart (fun b => FL3 b ∨ b = BR) vAc vNx xs ∧ ¬ FL3 BD := by
  have hnd : ∀ b, FL2 b → b ≠ BD := fun b hb e => by
    rcases h8.new b hb with h | h
    · have := hF b h; omega
    · omega
  have hlowb : ∀ b, b < BD + 1 ∨ BROW ≤ b → rowOf vAc ≠ some b ∧ rowOf vNx ≠ some b ∧ ∀ (i : Nat) (v : Value), xs[i]? = some v → rowOf v ≠ some b := fun b hb => by
    refine ⟨fun e => ?_, fun e => ?_, fun i v hv e => ?_⟩
    · have h1 := hlow.1 _ e
      have h2 := (hd.ownA.row e).1
      omega
    · have h1 := hlow.2.1 _ e
      have h2 := (hd.ownN.row e).1
      omega
    · have h1 := hlow.2.2 i v b hv e
      obtain ⟨r, _, h2, _⟩ := hd.rown i v hv
      have h3 := (h2.row e).1
      omega
  refine ⟨hd.only h10.on fun b hb => ?_, fun b hb => ?_, fun hf => ?_⟩
  · rcases hb with h | h | h | h | h | h
    · have h1 := h8.br.1
      exact ⟨by omega, hlowb b (.inl (by omega))⟩
    · have h1 : FL2 b := h ▸ h8.st.flL
      exact ⟨hnd b h1, hz b (.inl h1)⟩
    · have h1 : FL2 b := h ▸ h8.st.flK
      exact ⟨hnd b h1, hz b (.inl h1)⟩
    · have h1 : FL2 b := (h8.st.rowA h).1
      exact ⟨hnd b h1, hz b (.inl h1)⟩
    · exact ⟨by omega, hz b (.inr h)⟩
    · exact ⟨by omega, hlowb b (.inr (by omega))⟩
  · rcases hb with h | h
    · rcases h10.new b h with h | h
      · exact hz b (.inl h)
      · exact hlowb b (.inr (by omega))
    · exact hz b (.inr h)
  · rcases h10.new BD hf with h | h
    · exact hnd BD h rfl
    · omega
/-- what the two appends turn -/
theorem TwoZ.only {Z : Nat → Prop} {w0 w : World} {base Bd : Nat} {start : Int} {acc : List Int} {rows : List (List Int)} {vA vN : Value} {xs : List Value} {r : List Int} {x : Int} {v u u' : Value} {H K : Nat} (h : TwoZ Z w0 w base Bd start acc rows vA vN xs r x (some v) (some H) (some u) (some K) (some u')) :
    Only w0 ((w.setCell ⟨Bd, 2, none⟩ u).setCell ⟨Bd, 1, none⟩ u') (fun b => (base ≤ b ∧ ¬ Z b) ∨ b = Bd) := by
  have h1 : Only w0 w (fun b => (base ≤ b ∧ ¬ Z b) ∨ b = Bd) := ⟨h.below.os, h.below.tape, h.below.output, h.sz, fun b hb hx => by
    by_cases hz : Z b
    · exact h.keep b hz
    · exact h.below.block b (by
        rcases Nat.lt_or_ge b base with h2 | h2
        · exact h2
        · exact absurd (Or.inl ⟨h2, hz⟩) hx)⟩
  exact (h1.trans (Only.set _ Bd 2 u (Or.inr rfl))).trans (Only.set _ Bd 1 u' (Or.inr rfl))
/-- a row of the call's own, in its block -/
theorem Own.rdX {w : World} {base : Nat} {E : TypeId} {A : Option Addr} {n c : Nat} {xs : List Value} (h : Own w base E 1 (.slice A n c) n xs) : Rd w (fun b => base ≤ b ∧ rowOf (.slice A n c) = some b) 1 A n xs := by
  refine ⟨h.rd.1, fun hn => ?_⟩
  obtain ⟨A', c', e, hc, _⟩ := h.form
  injection e with e1 _ e3
  obtain ⟨g, rfl, hg, _⟩ := h.addr hn
  obtain ⟨b, off, e, hb, hc'⟩ := h.rd.2 hn
  refine ⟨b, off, e, ⟨hb, ?_⟩, hc'⟩
  injection e with e
  injection e with e4 e5
  obtain ⟨c0, rfl⟩ : ∃ c0, c = c0 + 1 := ⟨c - 1, by omega⟩
  rw [← e4]
  rfl
theorem cells_of_rowsZ {w : World} {base : Nat} {Z : Nat → Prop} : ∀ {xs : List Value} {rows : List (List Int)}, xs.length = rows.length → (∀ (i : Nat) (v : Value), xs[i]? = some v → ∃ r, rows[i]? = some r ∧ Own w base 3 1 v r.length (r.map (Value.int .i64)) ∧ ∀ b, Z b → rowOf v ≠ some b) → Cells RI w (fun b => base ≤ b ∧ ¬ Z b) xs rows
  | [], [], _, _ => rfl
  | [], _ :: _, h, _ => by simp at h
  | _ :: _, [], h, _ => by simp at h
  | v :: xs, r :: rows, h, hr => by
    obtain ⟨r', e, ho, hz⟩ := hr 0 v rfl
    have e' : r' = r := by simpa using e.symm
    subst e'
    obtain ⟨A, c, rfl, hc, _⟩ := ho.form
    refine ⟨[.slice A r'.length c], xs, rfl, ⟨A, r'.length, c, rfl, (ho.rdX.more fun b hb => ⟨hb.1, fun hzb => hz b hzb hb.2⟩).slInts hc⟩, cells_of_rowsZ (by simpa using h) fun i v' hv => ?_⟩
    obtain ⟨r2, h1, h2⟩ := hr (i + 1) v' (by simpa using hv)
    exact ⟨r2, by simpa using h1, h2⟩
/-- the rows, apart from blocks of Z -/
theorem DfaB.slZ {w : World} {base Bd : Nat} {start : Int} {acc : List Int} {rows : List (List Int)} {A N : Option Addr} {n m c c' : Nat} {xs : List Value} {Z : Nat → Prop} (h : DfaB w base Bd start acc rows (.slice A n c) (.slice N m c') xs) (hz : ZApart Z (.slice A n c) (.slice N m c') xs) :
    Sl Rep.int w (fun b => base ≤ b ∧ ¬ Z b) A n c acc ∧ Sl RI w (fun b => base ≤ b ∧ ¬ Z b) N m c' rows := by
  obtain ⟨A', c1, e, hc, _⟩ := h.ownA.form
  injection e with e1 e2 e3
  subst e1
  subst e2
  subst e3
  obtain ⟨A', c1, e, hc', _⟩ := h.ownN.form
  injection e with e1 e2 e3
  subst e1
  subst e2
  subst e3
  refine ⟨(h.ownA.rdX.more fun b hb => ⟨hb.1, fun hzb => (hz b hzb).1 hb.2⟩).slInts hc, ⟨xs, rfl, hc', h.ownN.rdX.more fun b hb => ⟨hb.1, fun hzb => (hz b hzb).2.1 hb.2⟩, ?_⟩⟩
  refine cells_of_rowsZ (by simpa using h.ownN.len) fun i v hv => ?_
  obtain ⟨r, k1, k2, _⟩ := h.rown i v hv
  exact ⟨r, k1, k2, fun b hzb => (hz b hzb).2.2 i v hv⟩
end Go.Proofs.Ytgaahpddlohjoaa
