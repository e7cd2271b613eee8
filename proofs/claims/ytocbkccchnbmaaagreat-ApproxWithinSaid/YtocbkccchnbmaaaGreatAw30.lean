/- CloInt ApxClose -/
import Derived.Deep.LoopGhost
import Derived.LoopTactic
import Derived.Outline
import Derived.Test.YtocbkccchnbmaaaGreatAw01
import Derived.Test.YtocbkccchnbmaaaGreatAw02
import Derived.Test.YtocbkccchnbmaaaGreatAw23
import Derived.Test.YtocbkccchnbmaaaGreatAw29
import Derived.WalkSpells
namespace Go.Proofs.YtocbkccchnbmaaaGreat
open Go.RowKit
set_option maxHeartbeats 1000000 in
theorem cloneInt (A : Option Addr) (n c : Nat) (S : Nat → Prop) (xs : List Value) (w : World) (hr : Rd w S 1 A n xs) (hb : n * 8 ≤ 281474976710656) :
    Calls Tryz.prog 46 #[.slice A n c] w fun e w' => ∃ v, e = .returned v ∧ Own w' w.heap.size 3 1 v n xs ∧ Below w.heap.size w w' := by
 have HRD := Lib.hid hr
 clear hr
 cases A with
 | none =>
  have hq := fun W => Lib.run_eql_slice_nil (P := Tryz.prog) W 22
  go_enter Tryz.func46, Tryz.ntmps46
  go_wp2_with fail
  go_ret
  have hn : n = 0 := by
   rcases Nat.eq_zero_or_pos n with h0 | h0
   ·
    exact h0
   ·
    obtain ⟨b, off, h, _⟩ := HRD.out.2 h0
    cases h
  subst hn
  have hx : xs = [] := List.eq_nil_of_length_eq_zero (by simpa using HRD.out.1)
  subst hx
  exact ⟨_, rfl, Own.nil _ _ _ _ _, Below.refl _ _⟩
 | some a =>
  have hq := fun W => Lib.run_eql_slice_nil (P := Tryz.prog) W 22 3 (some a) n c 0 0 (by kernel_rfl)
  obtain ⟨v2, w2, hrun, ho, hg, _⟩ := run_append_fresh tInts (w.alloc (.cells #[] 3)) 22 w.heap.size (some ⟨w.heap.size, 0, none⟩) _ (some a) n c xs (HRD.out.alloc _) (by unfold maxLen; omega) (by omega) (by simp)
  have HRUN := Lib.hid hrun
  have HO := Lib.hid ho
  have HG := Lib.hid hg
  clear hrun ho hg
  go_enter Tryz.func46, Tryz.ntmps46
  go_wp2_with (at_builtin; refine Lib.wpList_append_run _ rfl _ _ _ _ rfl _ _ rfl rfl _ _ HRUN.out ?_)
  go_ret
  exact ⟨_, rfl, HO.out, ((Below.refl _ _).alloc (Nat.le_refl _) _).grown HG.out (by simp) (by simp)⟩
end Go.Proofs.YtocbkccchnbmaaaGreat
namespace Go.Proofs.YtocbkccchnbmaaaGreat
open Go.RowKit Go.Maps
def ByB (wr : World) (B : Nat) (L : List Int) : Prop := wr.heap[B]? = some (.cells (L.map (Value.int .u8)).toArray 5 (0, 0))
theorem made_bytesA (n : Nat) : madeCells #[Value.int .u8 0] n = Array.replicate n (Value.int .u8 0) := by
 apply Array.ext'
 rw [toList_madeCells_one]
 simp
theorem ByB.at_ {wr : World} {B : Nat} {L : List Int} (h : ByB wr B L) {i : Nat} (hi : i < L.length) : ∃ x, L[i]? = some x ∧ wr.cell? ⟨B, i, none⟩ = some (.int .u8 x) ∧ wr.frozen? ⟨B, i, none⟩ = false := by
 have h1 := List.getElem?_eq_getElem hi
 refine ⟨_, h1, ?_, by have h2 : wr.heap[B]? = _ := h; simp [World.frozen?, h2]⟩
 rw [cell_of_row _ _ i _ _ _ h]
 simp [h1]
theorem ByB.set {wr : World} {B : Nat} {L : List Int} (h : ByB wr B L) (i : Nat) (x : Int) : ByB (wr.setCell ⟨B, i, none⟩ (.int .u8 x)) B (L.set i x) := by
 have := blk_set h i (.int .u8 x)
 rwa [set_map] at this
theorem ByB.below {wr wr' : World} {B : Nat} {L : List Int} (h : ByB wr B L) (hb : Below wr.heap.size wr wr') : ByB wr' B L := (hb.block _ (heap_lt h)).trans h
theorem ByB.rd {wr : World} {B : Nat} {L : List Int} (h : ByB wr B L) : Rd wr (fun b => b = B) 1 (some ⟨B, 0, none⟩) L.length (L.map (Value.int .u8)) := by
 refine ⟨by simp, fun _ => ⟨B, 0, rfl, rfl, fun j u hu => ?_⟩⟩
 rw [Nat.zero_add, cell_of_row _ _ j _ _ _ h]
 simpa using hu
theorem ByB.made (w : World) (n : Nat) : ByB (w.alloc (.cells (Array.replicate n (Value.int .u8 0)) 5)) w.heap.size (List.replicate n 0) := by
 unfold ByB
 rw [show ((List.replicate n (0 : Int)).map (Value.int .u8)).toArray = Array.replicate n (Value.int .u8 0) by simp]
 exact heap_alloc_new w _
theorem ByB.str {w : World} {B : Nat} {L : List Int} (h : ByB w B L) (hb : BytesOk L) : (convert 63 9 (.slice (some ⟨B, 0, none⟩) L.length L.length)).run Tryz.prog w = .ok (.string (strOf L)) w := by
 rcases Nat.eq_zero_or_pos L.length with h0 | h0
 ·
  obtain rfl : L = [] := List.eq_nil_of_length_eq_zero h0
  exact run_convert_bytes_back (P := Tryz.prog) w 63 9 5 ⟨B, 0, none⟩ 0 [] Tryz.underlying63 Tryz.underlying5 Tryz.underlying9 fun j hj => by simp at hj
 ·
  exact run_bytes_string w _ _ _ _ L h.rd hb h0
inductive EpsS (E : NfD) (W : Nat → Prop) : Nat → Prop
 | base {x : Nat} : W x → EpsS E W x
 | step {x y : Nat} : EpsS E W x → (x, y) ∈ E.eps → EpsS E W y
theorem EpsS.mono {E : NfD} {W W' : Nat → Prop} (h : ∀ x, W x → W' x) {x : Nat} (hx : EpsS E W x) : EpsS E W' x := by
 induction hx with
 | base h1 => exact .base (h _ h1)
 | step _ h2 ih => exact .step ih h2
def bitsB (s : List Bool) : List Int := s.map fun b => if b = true then 1 else 0
theorem bitsB_ok (s : List Bool) : BytesOk (bitsB s) := fun z hz => by
 obtain ⟨b, _, rfl⟩ := List.mem_map.1 hz
 cases b <;> simp
theorem bitsB_len (s : List Bool) : (bitsB s).length = s.length := by simp [bitsB]
theorem bitsB_at {s : List Bool} {i : Nat} {b : Bool} (h : s[i]? = some b) : (bitsB s)[i]? = some (if b = true then 1 else 0) := by simp [bitsB, h]
theorem bitsB_set (s : List Bool) (i : Nat) : (bitsB s).set i 1 = bitsB (s.set i true) := by
 unfold bitsB
 rw [List.map_set]
 rfl
noncomputable def cloL (E : NfD) (W : Nat → Prop) : List Bool := (List.range E.nodes).map fun x => @decide (EpsS E W x) (Classical.propDecidable _)
theorem cloL_len (E : NfD) (W : Nat → Prop) : (cloL E W).length = E.nodes := by simp [cloL]
theorem cloL_at {E : NfD} {W : Nat → Prop} {x : Nat} (hx : x < E.nodes) : (cloL E W)[x]? = some true ↔ EpsS E W x := by
 unfold cloL
 simp [hx]
def epsN (E : NfD) (x : Nat) : List Nat := (E.eps.filter fun p => decide (p.1 = x)).map fun p => p.2
theorem epsN_mem {E : NfD} {x y : Nat} : y ∈ epsN E x ↔ (x, y) ∈ E.eps := by
 unfold epsN
 simp only [List.mem_map, List.mem_filter, decide_eq_true_eq]
 constructor
 ·
  rintro ⟨⟨a, b⟩, ⟨h1, rfl⟩, rfl⟩
  exact h1
 ·
  exact fun h => ⟨(x, y), ⟨h, rfl⟩, rfl⟩
theorem epsAt_N (E : NfD) (x : Nat) : epsAt E x = (epsN E x).map fun y : Nat => (y : Int) := by
 unfold epsAt epsN
 rw [List.map_map]
 rfl
def potS (E : NfD) : List Bool → Nat → Nat
 | [], _ => 0
 | b :: s, i => (if b = true then 0 else 1 + (epsN E i).length) + potS E s (i + 1)
theorem potS_set (E : NfD) : ∀ (s : List Bool) (i k : Nat), s[k]? = some false → potS E (s.set k true) i + 1 + (epsN E (i + k)).length = potS E s i
 | [], i, k, h => by simp at h
 | b :: s, i, 0, h => by
  simp only [List.getElem?_cons_zero, Option.some.injEq] at h
  subst h
  simp only [List.set_cons_zero, potS, Nat.add_zero]
  simp
  omega
 | b :: s, i, k + 1, h => by
  have := potS_set E s (i + 1) k (by simpa using h)
  simp only [List.set_cons_succ, potS]
  rw [show i + 1 + k = i + (k + 1) by omega] at this
  omega
theorem potS_le (E : NfD) {M : Nat} (hM : ∀ x, (epsN E x).length ≤ M) : ∀ (s : List Bool) (i : Nat), potS E s i ≤ s.length * (M + 1)
 | [], i => by simp [potS]
 | b :: s, i => by
  have := potS_le E hM s (i + 1)
  have h2 := hM i
  simp only [potS, List.length_cons]
  rw [Nat.add_mul]
  split <;> omega
structure ClInv (E : NfD) (W : Nat → Prop) (s : List Bool) (work : List Nat) : Prop where
 len : s.length = E.nodes
 src : ∀ x, s[x]? = some true ∨ x ∈ work → EpsS E W x
 clo : ∀ x y, s[x]? = some true → (x, y) ∈ E.eps → s[y]? = some true ∨ y ∈ work
 base : ∀ x, W x → s[x]? = some true ∨ x ∈ work
 bd : ∀ x ∈ work, x < E.nodes
section
variable {E : NfD} {W : Nat → Prop} {s : List Bool} {work : List Nat} {x : Nat}
theorem ClInv.old (h : ClInv E W s (work ++ [x])) (hx : s[x]? = some true) : ClInv E W s work :=
 ⟨h.len, fun y hy => h.src y (hy.imp id fun e => List.mem_append_left _ e), fun a y ha he => by
  rcases h.clo a y ha he with e | e
  ·
   exact .inl e
  ·
   rcases List.mem_append.1 e with e | e
   ·
    exact .inr e
   ·
    rw [List.mem_singleton.1 e]; exact .inl hx, fun y hy => by
  rcases h.base y hy with e | e
  ·
   exact .inl e
  ·
   rcases List.mem_append.1 e with e | e
   ·
    exact .inr e
   ·
    rw [List.mem_singleton.1 e]; exact .inl hx, fun y hy => h.bd y (List.mem_append_left _ hy)⟩
theorem ClInv.new (h : ClInv E W s (work ++ [x])) (he : ∀ p ∈ E.eps, p.2 < E.nodes) : ClInv E W (s.set x true) (work ++ epsN E x) := by
 have hxn := h.bd x (by simp)
 have hsx := h.src x (.inr (by simp))
 have hset : ∀ y, (s.set x true)[y]? = some true ↔ s[y]? = some true ∨ y = x := fun y => by
  rw [List.getElem?_set]
  by_cases e : x = y
  ·
   subst e
   simp [h.len, hxn]
  ·
   rw [if_neg e]
   exact ⟨.inl, fun h => h.elim id fun e2 => absurd e2.symm e⟩
 refine ⟨by rw [List.length_set]; exact h.len, fun y hy => ?_, fun a y ha hy => ?_, fun y hy => ?_, fun y hy => ?_⟩
 ·
  rcases hy with e | e
  ·
   rcases (hset y).1 e with e | rfl
   ·
    exact h.src y (.inl e)
   ·
    exact hsx
  ·
   rcases List.mem_append.1 e with e | e
   ·
    exact h.src y (.inr (List.mem_append_left _ e))
   ·
    exact .step hsx (epsN_mem.1 e)
 ·
  rcases (hset a).1 ha with ha | rfl
  ·
   rcases h.clo a y ha hy with e | e
   ·
    exact .inl ((hset y).2 (.inl e))
   ·
    rcases List.mem_append.1 e with e | e
    ·
     exact .inr (List.mem_append_left _ e)
    ·
     exact .inl ((hset y).2 (.inr (List.mem_singleton.1 e)))
  ·
   exact .inr (List.mem_append_right _ (epsN_mem.2 hy))
 ·
  rcases h.base y hy with e | e
  ·
   exact .inl ((hset y).2 (.inl e))
  ·
   rcases List.mem_append.1 e with e | e
   ·
    exact .inr (List.mem_append_left _ e)
   ·
    exact .inl ((hset y).2 (.inr (List.mem_singleton.1 e)))
 ·
  rcases List.mem_append.1 hy with e | e
  ·
   exact h.bd y (List.mem_append_left _ e)
  ·
   exact he _ (epsN_mem.1 e)
theorem ClInv.done (h : ClInv E W s []) : s = cloL E W := by
 have hc : ∀ x, EpsS E W x → s[x]? = some true := fun x hx => by
  induction hx with
  | base h1 => exact (h.base _ h1).resolve_right (by simp)
  | step _ h2 ih => exact (h.clo _ _ ih h2).resolve_right (by simp)
 refine List.ext_getElem? fun i => ?_
 by_cases hi : i < E.nodes
 ·
  have h1 := cloL_at (E := E) (W := W) hi
  have l1 : i < s.length := by rw [h.len]; exact hi
  have l2 : i < (cloL E W).length := by rw [cloL_len]; exact hi
  rw [List.getElem?_eq_getElem l2] at h1
  have h2 : s[i]? = some true ↔ EpsS E W i := ⟨fun e => h.src i (.inl e), hc i⟩
  rw [List.getElem?_eq_getElem l1] at h2
  rw [List.getElem?_eq_getElem l1, List.getElem?_eq_getElem l2]
  simp only [Option.some.injEq] at h1 h2 ⊢
  rw [Bool.eq_iff_iff, h1, h2]
 ·
  rw [List.getElem?_eq_none (by rw [h.len]; omega), List.getElem?_eq_none (by rw [cloL_len]; omega)]
theorem ClInv.start (E : NfD) (work : List Nat) (hb : ∀ x ∈ work, x < E.nodes) : ClInv E (· ∈ work) (List.replicate E.nodes false) work := by
 have hn : ∀ y : Nat, ¬ (List.replicate E.nodes false)[y]? = some true := fun y e => by
  rw [List.getElem?_replicate] at e
  split at e
  ·
   simp at e
  ·
   cases e
 exact ⟨by simp, fun y hy => hy.elim (fun e => absurd e (hn y)) .base, fun a y ha _ => absurd ha (hn a), fun y hy => .inr hy, hb⟩
end
abbrev natsV (l : List Nat) : List Value := l.map fun x : Nat => Value.int .i64 (x : Int)
theorem flat_nats : ∀ l : List Nat, (l.map fun y : Nat => (y : Int)).flatMap encI = natsV l
 | [] => rfl
 | a :: l => by
  rw [List.map_cons, List.flatMap_cons, flat_nats l]
  rfl
theorem Own.pop {w : World} {base : Nat} {E : TypeId} {sz : Nat} {A : Option Addr} {n c : Nat} {xs : List Value} (h : Own w base E sz (.slice A (n + 1) c) (n + 1) xs) : Own w base E sz (.slice A n c) n (xs.take (n * sz)) := by
 rcases h with ⟨h1, h2⟩ | ⟨A', _, h2, _⟩
 ·
  rcases h2 with ⟨_, h2⟩ | ⟨g, cap, cur, e, hb, hh, hc, hm, hs, hx⟩
  ·
   omega
  ·
   injection e with e1 e2 e3
   subst e1
   subst e3
   refine .inl ⟨by rw [List.length_take, h1]; have : n * sz ≤ (n + 1) * sz := Nat.mul_le_mul_right _ (by omega); omega, .inr ⟨g, c, cur, rfl, hb, hh, by omega, hm, hs, ?_⟩⟩
   rw [← hx, List.take_take]
   congr 1
   have : n * sz ≤ (n + 1) * sz := Nat.mul_le_mul_right _ (by omega)
   omega
 ·
  omega
theorem Bst.belowK {L : Bdr} {w w' : World} {FB : Nat → Prop} {st : NfD} {K : Nat} (h : Bst L w FB st) (hK : ∀ b, BX L FB b ∨ L.S b → b < K) (hb : Below K w w') : Bst L w' FB st :=
 h.only (X := fun b => K ≤ b) ⟨hb.os, hb.tape, hb.output, hb.size, fun b _ hx => hb.block b (by omega)⟩ fun c hc => ⟨fun hx => by have := hK c (.inl hx); omega, fun hx => by have := hK c (.inr hx); omega⟩
def CloseO (K : Nat) (w : World) (Bs : Nat) (v : Value) (str : ByteArray) (e : Ending) (w' : World) : Prop := e = .returned (.string str) ∧ Below K w w' ∧ Only w w' (fun b => b = Bs ∨ rowOf v = some b)
def CloseR (K : Nat) (w : World) (str : ByteArray) (e : Ending) (w' : World) : Prop := e = .returned (.string str) ∧ Below K w w'
set_option linter.unusedSimpArgs false in
set_option maxRecDepth 100000 in
set_option maxHeartbeats 4000000 in
theorem apxCloseO (L : Bdr) (w : World) (FB : Nat → Prop) (st : NfD) (hst : Bst L w FB st) (K : Nat) (hK : ∀ b, BX L FB b ∨ L.S b → b < K) (hKz : K ≤ w.heap.size) (Bs : Nat) (hBs : K ≤ Bs) (hby : ByB w Bs (bitsB (List.replicate st.nodes false))) (v : Value) (work : List Nat) (hw : Own w K 3 1 v work.length (natsV work)) (hrow : rowOf v ≠ some Bs)
    (hwb : ∀ x ∈ work, x < st.nodes) (hwl : work.length ≤ 1000000000) (hsz : st.nodes ≤ 1000) (hep : ∀ p ∈ st.eps, p.2 < st.nodes) (hel : st.eps.length ≤ 1000000) :
    Calls Tryz.prog 17 #[.pointer (some ⟨L.Bb, 0, none⟩), .slice (some ⟨Bs, 0, none⟩) st.nodes st.nodes, v] w (CloseO K w Bs v (strOf (bitsB (cloL st (· ∈ work))))) := by
 have HST := Lib.hid hst
 have HKB := Lib.hid hK
 have HBY := Lib.hid hby
 have HEP := Lib.hid hep
 have HW := Lib.hid hw
 have HRW := Lib.hid hrow
 have HCI := Lib.hid (ClInv.start st work hwb)
 have HEL := Lib.hid (show ∀ x, (epsN st x).length ≤ 1000000 from fun x => by
  have h1 := epsAt_le st x
  rw [epsAt_N, List.length_map] at h1
  omega)
 obtain ⟨P0, hP0⟩ : ∃ P0, P0 = work.length + potS st (List.replicate st.nodes false) 0 := ⟨_, rfl⟩
 have hpl := potS_le st HEL.out (List.replicate st.nodes false) 0
 rw [List.length_replicate] at hpl
 have hpb : P0 ≤ 3000000000 := by
  have : st.nodes * (1000000 + 1) ≤ 1000 * (1000000 + 1) := Nat.mul_le_mul_right _ hsz
  omega
 have HPE := Lib.hid hP0
 have HCL := Lib.hid (show ∀ u : World, Bst L u FB st → u.cell? ⟨L.Bb, 7, none⟩ = some (.map (some L.BE)) from fun u hu => by simp [World.cell?, hu.inn.box])
 clear hst hK hby hep hw hrow hwb hpl hP0 hel
 go_enter Tryz.func17, Tryz.ntmps17
 go_wp2_with fail
 go_loopg [2] P0 (fun gk vv wr => ∃ (s : List Bool) (wk : List Nat), gk = wk.length + potS st s 0 ∧ gk ≤ P0 ∧ ByB wr Bs (bitsB s) ∧ Own wr K 3 1 vv wk.length (natsV wk) ∧ rowOf vv ≠ some Bs ∧ ClInv st (· ∈ work) s wk ∧ Below K w wr ∧ Only w wr (fun b => b = Bs ∨ rowOf v = some b) ∧ (rowOf vv = rowOf v ∨ ∀ r, rowOf vv = some r → w.heap.size ≤ r))
 case atStart => exact ⟨_, work, HPE.out, Nat.le_refl _, HBY.out, HW.out, HRW.out, HCI.out, .refl _ _, .refl _ _, .inl rfl⟩
 case round =>
  obtain ⟨s, wk, hgk, hgl, hby, how, hrw, hci, hbl, hnl1, hro⟩ := hrel
  have HN1 := Lib.hid hnl1
  have HRO := Lib.hid hro
  clear hnl1 hro
  have HGK := Lib.hid hgk
  have HB1 := Lib.hid hby
  have HO1 := Lib.hid how
  have HR1 := Lib.hid hrw
  have HC1 := Lib.hid hci
  have HL1 := Lib.hid hbl
  have hwkl : wk.length ≤ 3000000000 := by omega
  have HGL := Lib.hid hgl
  obtain ⟨w1, rfl⟩ : ∃ w1 : World, w1 = wr := ⟨_, rfl⟩
  obtain ⟨A, c, hv, hcw, _⟩ := how.form
  subst hv
  clear hgk hgl hby hrw hci hbl how
  rcases List.eq_nil_or_concat wk with rfl | ⟨ini, x, hwx⟩
  ·
   have HFIN := Lib.hid (show s = cloL st (· ∈ work) from HC1.out.done)
   have hlen := HC1.out.len
   have hcv := HB1.out.str (bitsB_ok s)
   rw [bitsB_len, hlen] at hcv
   have HLEN := Lib.hid hlen
   clear hlen
   go_wp2_with fail
   go_ret
   exact ⟨by rw [HFIN.out]; rfl, HL1.out, HN1.out⟩
  ·
   rw [List.concat_eq_append] at hwx
   subst hwx
   have hnl : (ini ++ [x]).length = ini.length + 1 := by simp
   have hxn := HC1.out.bd x (by simp)
   have hOW := HO1.out
   rw [hnl] at hOW
   have HOW := Lib.hid hOW
   have hrd := hOW.rd
   obtain ⟨g, off, u, hA, _, hux, hcl⟩ := hrd.at_ (k := ini.length) (by omega)
   obtain rfl : u = .int .i64 (x : Int) := by
    simp [natsV] at hux
    exact hux.symm
   have hpop := hOW.pop
   have hpx : (natsV (ini ++ [x])).take (ini.length * 1) = natsV ini := by simp [natsV]
   rw [hpx] at hpop
   have HPO := Lib.hid hpop
   obtain ⟨nI, hnI⟩ : ∃ nI, nI = ini.length := ⟨_, rfl⟩
   have hnI2 : nI ≤ 3000000000 := by rw [hnl] at hwkl; omega
   rw [hnl, ← hnI]
   rw [hnl, ← hnI] at hcw
   rw [← hnI] at hcl
   have HNI := Lib.hid hnI
   have hgk2 := HGK.out
   rw [hnl] at hgk2
   have HGK2 := Lib.hid hgk2
   subst hA
   have hsl := HC1.out.len
   obtain ⟨bx, hbx, hcx, hfz⟩ := HB1.out.at_ (i := x) (by rw [bitsB_len, hsl]; exact hxn)
   have hnp : (0 : Int) < (nI : Int) + 1 := by omega
   have hnw : IntKind.i64.wrap (nI : Int) = (nI : Int) := by rw [IntKind.wrap_i64]; omega
   have hn0 : (0 : Int) ≤ (nI : Int) := by omega
   have hn1 : (nI : Int) < (nI : Int) + 1 := by omega
   have hx0 : (0 : Int) ≤ (x : Int) := by omega
   have hxI : (x : Int) < (st.nodes : Int) := by omega
   have hrw2 : ∀ c', rowOf (.slice (some ⟨g, off, none⟩) nI c') = rowOf (.slice (some ⟨g, off, none⟩) (nI + 1) c') := fun c' => by cases c' <;> rfl
   have hRW := HR1.out
   rw [hnl, ← hnI, ← hrw2] at hRW
   have HRW2 := Lib.hid hRW
   have hRO := HRO.out
   rw [hnl, ← hnI, ← hrw2] at hRO
   have HRO2 := Lib.hid hRO
   clear hRO
   have hsx : s[x]? = some (s[x]'(by rw [hsl]; exact hxn)) := List.getElem?_eq_getElem _
   generalize s[x]'(by rw [hsl]; exact hxn) = bb at hsx
   rw [bitsB_at hsx] at hbx
   injection hbx with hbx
   subst hbx
   have HSX := Lib.hid hsx
   clear hnl hOW hrd hux hpop hpx hnI hgk2 hsl hsx hRW hrw2 hwkl
   cases bb with
   | true =>
    simp only [if_true] at hcx
    go_wp2_with fail
    go_roundg (nI + potS st s 0)
    case measure => rw [HGK2.out, ← HNI.out]; omega
    case rel =>
     exact ⟨s, ini, by rw [HNI.out], by have := HGL.out; have := HGK2.out; have := HNI.out; omega, HB1.out, by rw [← HNI.out]; have := HPO.out; rw [← HNI.out] at this; exact this, HRW2.out, HC1.out.old HSX.out, HL1.out, HN1.out, HRO2.out⟩
   | false =>
    simp only [if_neg (show ¬ (false = true) by decide)] at hcx
    have HBS := Lib.hid (HB1.out.set x 1)
    obtain ⟨w2, hw2⟩ : ∃ w2 : World, w2 = w1.setCell ⟨Bs, x, none⟩ (.int .u8 1) := ⟨_, rfl⟩
    have HL2 := Lib.hid (show Below K w w2 by rw [hw2]; exact HL1.out.setCell hBs _)
    have hST2 := HST.out.belowK HKB.out HL2.out
    have b7 := HCL.out w2 hST2
    obtain ⟨FE, FD, l1, l2, h1, h2, h3, h4⟩ := hST2.maps
    obtain ⟨A0, c0, hform, hc0, _⟩ := (h1.own x).form
    have hrd0 := (h1.own x)
    rw [hform] at hrd0
    have hrd := hrd0.rd
    have hb2 : ByB w2 Bs (bitsB (s.set x true)) := by
     rw [hw2, ← bitsB_set]
     exact HBS.out
    have ho2 : Own w2 K 3 1 (.slice (some ⟨g, off, none⟩) nI c) nI (natsV ini) := by
     have := HPO.out
     rw [← HNI.out] at this
     rw [hw2]
     exact this.sameB fun r e => Below.heap_setCell _ _ _ _ (fun e2 => HRW2.out (by rw [e, e2]))
    have he1 : (epsAt st x).flatMap encI = natsV (epsN st x) := by
     rw [epsAt_N]
     exact flat_nats _
    have he2 : (epsAt st x).length = (epsN st x).length := by rw [epsAt_N, List.length_map]
    rw [he1, he2] at hrd
    rw [he2] at hform
    obtain ⟨m0, hm0⟩ : ∃ m0, m0 = (epsN st x).length := ⟨_, rfl⟩
    have hm1 := HEL.out x
    rw [← hm0] at hrd hform hm1
    obtain ⟨v3, w3, hrun, ho3, hg3, hrow3⟩ := run_append_Own tInts w2 22 K _ nI _ ho2 _ A0 m0 c0 _ hrd (fun u hu => by
     obtain ⟨y, _, rfl⟩ := List.mem_map.1 hu
     rfl) (by unfold maxLen; omega) (by omega) (Nat.le_trans hKz HL2.out.size)
    obtain ⟨A3, c3, rfl, _, _⟩ := ho3.form
    have hMV := Lib.hid (show (lk l1 (x : Int)).getD (.slice none 0 0) = .slice A0 m0 c0 from hform)
    have HAM := Lib.hid h1.map
    have HKO := Lib.hid (ki_ok (x := x) (by omega))
    have HRUN := Lib.hid hrun
    have hl3 : Below K w w3 := HL2.out.trans (Below.own (Below.refl _ _) ho2 hg3 (Nat.le_refl _) (Nat.le_trans hKz HL2.out.size))
    have hb3 : ByB w3 Bs (bitsB (s.set x true)) := (hg3.block Bs (heap_lt hb2) fun e => HRW2.out e.symm).trans hb2
    have hr3 : rowOf (.slice A3 (nI + m0) c3) ≠ some Bs := fun e => by
     rcases hrow3 with e2 | e2
     ·
      rw [e2] at e; exact HRW2.out e
     ·
      rw [e2] at e
      injection e with e
      have := heap_lt hb2
      omega
    have hz12 : w.heap.size ≤ w2.heap.size := HL2.out.size
    have hon2 : Only w w2 (fun b => b = Bs ∨ rowOf v = some b) := by rw [hw2]; exact HN1.out.trans (.set _ _ _ _ (.inl rfl))
    have hon3 : Only w w3 (fun b => b = Bs ∨ rowOf v = some b) := by
     refine ⟨hg3.os.trans hon2.os, hg3.tape.trans hon2.tape, hg3.output.trans hon2.output, Nat.le_trans hon2.size hg3.size, fun b hb hx => ?_⟩
     refine (hg3.block b (by omega) fun e => ?_).trans (hon2.block b hb hx)
     rcases HRO2.out with e2 | e2
     ·
      rw [e2] at e; exact hx (.inr e.symm)
     ·
      have := e2 _ e.symm; omega
    have hro3 : rowOf (.slice A3 (nI + m0) c3) = rowOf v ∨ ∀ r, rowOf (.slice A3 (nI + m0) c3) = some r → w.heap.size ≤ r := by
     rcases hrow3 with e2 | e2
     ·
      rw [e2]; exact HRO2.out
     ·
      exact .inr fun r e => by
       rw [e2] at e
       injection e with e
       omega
    have ho4 : Own w3 K 3 1 (.slice A3 (nI + m0) c3) (ini ++ epsN st x).length (natsV (ini ++ epsN st x)) := by
     rw [List.length_append, ← HNI.out, ← hm0, show natsV (ini ++ epsN st x) = natsV ini ++ natsV (epsN st x) by simp [natsV]]
     exact ho3
    have hps := potS_set st s 0 x HSX.out
    rw [Nat.zero_add, ← hm0] at hps
    have HREL := Lib.hid (show ∃ (s' : List Bool) (wk : List Nat), (ini.length + m0 + potS st (s.set x true) 0) = wk.length + potS st s' 0 ∧ (ini.length + m0 + potS st (s.set x true) 0) ≤ P0 ∧ ByB w3 Bs (bitsB s') ∧ Own w3 K 3 1 (.slice A3 (nI + m0) c3) wk.length (natsV wk) ∧ rowOf (.slice A3 (nI + m0) c3) ≠ some Bs ∧ ClInv st (· ∈ work) s' wk ∧ Below K w w3 ∧ Only w w3 (fun b => b = Bs ∨ rowOf v = some b) ∧ (rowOf (.slice A3 (nI + m0) c3) = rowOf v ∨ ∀ r, rowOf (.slice A3 (nI + m0) c3) = some r → w.heap.size ≤ r) from
     ⟨s.set x true, ini ++ epsN st x, by rw [List.length_append, ← hm0], by have := HGL.out; have := HGK2.out; omega, hb3, ho4, hr3, HC1.out.new HEP.out, hl3, hon3, hro3⟩)
    have HMS := Lib.hid (show ini.length + m0 + potS st (s.set x true) 0 < gk by have := HGK2.out; omega)
    rw [hw2] at b7
    clear h1 h2 h3 h4 hform hrd0 hrd hb2 ho2 he1 he2 hm0 hrun ho3 hg3 hrow3 hl3 hb3 hr3 ho4 hps hST2 hz12 hon2 hon3 hro3
    go_wp2_with (first
     | (at_lookup; rw [← hw2]; refine wpList_amap _ rfl _ _ 51 rfl 22 mapEps zeroInts L.BE _ rfl HAM.out (x : Int) rfl HKO.out ?_; rw [hMV.out])
     | (at_builtin; refine Lib.wpList_append_run (o := ⟨some 37, _, _, _, _, _⟩) _ rfl _ _ _ _ rfl _ _ rfl rfl _ _ HRUN.out ?_))
    go_roundg (ini.length + m0 + potS st (s.set x true) 0)
    case measure => exact HMS.out
    case rel => exact HREL.out
theorem apxClose (L : Bdr) (w : World) (FB : Nat → Prop) (st : NfD) (hst : Bst L w FB st) (K : Nat) (hK : ∀ b, BX L FB b ∨ L.S b → b < K) (hKz : K ≤ w.heap.size) (Bs : Nat) (hBs : K ≤ Bs) (hby : ByB w Bs (bitsB (List.replicate st.nodes false))) (v : Value) (work : List Nat) (hw : Own w K 3 1 v work.length (natsV work)) (hrow : rowOf v ≠ some Bs)
    (hwb : ∀ x ∈ work, x < st.nodes) (hwl : work.length ≤ 1000000000) (hsz : st.nodes ≤ 1000) (hep : ∀ p ∈ st.eps, p.2 < st.nodes) (hel : st.eps.length ≤ 1000000) :
    Calls Tryz.prog 17 #[.pointer (some ⟨L.Bb, 0, none⟩), .slice (some ⟨Bs, 0, none⟩) st.nodes st.nodes, v] w (CloseR K w (strOf (bitsB (cloL st (· ∈ work))))) :=
 (apxCloseO L w FB st hst K hK hKz Bs hBs hby v work hw hrow hwb hwl hsz hep hel).mono fun _ _ h => ⟨h.1, h.2.1⟩
end Go.Proofs.YtocbkccchnbmaaaGreat
