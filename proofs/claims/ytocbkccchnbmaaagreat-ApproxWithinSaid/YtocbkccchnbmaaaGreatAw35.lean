/- ApxExp -/
import Derived.Deep.LoopGhost
import Derived.Laws.EntriesVeiled
import Derived.Test.YtocbkccchnbmaaaGreatAw13
import Derived.Test.YtocbkccchnbmaaaGreatAw28
import Derived.Test.YtocbkccchnbmaaaGreatAw31
import Derived.Test.YtocbkccchnbmaaaGreatAw34
namespace Go.Proofs.YtocbkccchnbmaaaGreat
open Go.RowKit Go.Maps
theorem DfaB.onlyX {w w' : World} {X : Nat → Prop} {base Bd : Nat} {start : Int} {acc : List Int} {rows : List (List Int)} {vA vN : Value} {xs : List Value} (h : DfaB w base Bd start acc rows vA vN xs) (ho : Only w w' X)
    (hX : ∀ b, X b → b ≠ Bd ∧ rowOf vA ≠ some b ∧ rowOf vN ≠ some b ∧ ∀ (i : Nat) (v : Value), xs[i]? = some v → rowOf v ≠ some b) : DfaB w' base Bd start acc rows vA vN xs := by
 refine ⟨(ho.block Bd (by have := h.lt; have := h.le; omega) (fun hx => (hX _ hx).1 rfl)).trans h.blk, h.ownA.sameB fun g e => ho.block g (h.ownA.row e).2 (fun hx => (hX _ hx).2.1 e), h.ownN.sameB fun g e => ho.block g (h.ownN.row e).2 (fun hx => (hX _ hx).2.2.1 e), ?_, h.lt, Nat.le_trans h.le ho.size, h.ne⟩
 intro i v hv
 obtain ⟨r, h1, h2, h3⟩ := h.rown i v hv
 exact ⟨r, h1, h2.sameB fun g e => ho.block g (h2.row e).2 (fun hx => (hX _ hx).2.2.2 i v hv e), h3⟩
theorem wpList_map_ins {P : Program} {k : TypeId} {κ : Type} [DecidableEq κ] {K : KeyRep P k κ} (w : World) {ops : Array Oper} {rest : List Oper} {o : Oper} {a : Act} {Q : Exit → Act → World → Prop} (hg : o.guard = none) (m x v : Operand) (t : TypeId) (hop : o.op = Op.insert t m x v) (e : TypeId) (ht : P.underlying t = some (.map k e))
    (b : Nat) (l : List (κ × Value)) (hm : a.eval m = .map (some b)) (hown : AMap K w b l) (q : κ) (hx : a.eval x = K.val q) (hq : K.ok q) (u : Value) (hv : a.eval v = u) (hl : l.length < maxLen)
    (hK : ∀ w', AMap K w' b (putL l q u) → w.grownBy w' (some b) → wpList P ops Q rest (a.put o.dst undef) w') : wpList P ops Q (o :: rest) a w := by
 refine wpList_plain hg fun K' hK' => ?_
 obtain ⟨w', hrun, r1, r2⟩ := hown.put ht hq u hl
 unfold Oper.wp
 simp [execOp, hop, hm, hx, hv, hrun, Result.andThen]
 exact hK' _ _ (hK w' r1 r2)
theorem TwoZ.onlyX {Z : Nat → Prop} {w0 w : World} {base Bd : Nat} {start : Int} {acc : List Int} {rows : List (List Int)} {vA vN : Value} {xs : List Value} {r : List Int} {x : Int} {v u u' : Value} {H K : Nat} (h : TwoZ Z w0 w base Bd start acc rows vA vN xs r x (some v) (some H) (some u) (some K) (some u')) :
    Only w0 ((w.setCell ⟨Bd, 2, none⟩ u).setCell ⟨Bd, 1, none⟩ u') (fun b => (base ≤ b ∧ ¬ Z b) ∨ b = Bd) := by
 have h1 : Only w0 w (fun b => (base ≤ b ∧ ¬ Z b) ∨ b = Bd) := ⟨h.below.os, h.below.tape, h.below.output, h.sz, fun b hb hx => by
  by_cases hz : Z b
  ·
   exact h.keep b hz
  ·
   exact h.below.block b (by
    rcases Nat.lt_or_ge b base with h2 | h2
    ·
     exact h2
    ·
     exact absurd (Or.inl ⟨h2, hz⟩) hx)⟩
 exact (h1.trans (Only.set _ Bd 2 u (Or.inr rfl))).trans (Only.set _ Bd 1 u' (Or.inr rfl))
theorem TwoZ.step {Z : Nat → Prop} {w0 w w' : World} {base Bd : Nat} {start : Int} {acc : List Int} {rows : List (List Int)} {vA vN : Value} {xs : List Value} {r : List Int} {x : Int} {oV : Option Value} {oHN : Option Nat} {oN : Option Value} {oHA : Option Nat} {oA : Option Value} (h : TwoZ Z w0 w base Bd start acc rows vA vN xs r x oV oHN oN oHA oA) (hb : Below w.heap.size w w') : TwoZ Z w0 w' base Bd start acc rows vA vN xs r x oV oHN oN oHA oA :=
 ⟨h.two.below hb, h.below.trans (hb.mono h.two.le), h.lt, h.ap, h.V, h.N, h.A, fun b hz => (hb.block b (Nat.lt_of_lt_of_le (h.lt b hz).1 h.sz)).trans (h.keep b hz), Nat.le_trans h.sz hb.size⟩
theorem tStrs : SlType Tryz.prog 100 9 1 16 (.string ⟨#[]⟩) := ⟨by kernel_rfl, by kernel_rfl, by kernel_rfl, rfl, by decide⟩
abbrev KStr : KeyRep Tryz.prog 9 ByteArray := strKeys Tryz.underlying9
theorem zeroI' (u : World) : (zeroValue 3).run Tryz.prog u = .ok (.int .i64 0) u := by
 have := tInts.info
 obtain ⟨i, hi, hz0, _, _⟩ := info_parts this
 simp [zeroValue, typeInfo, hi, hz0]
def keyL (ks : List ByteArray) : List (ByteArray × Value) := ks.zipIdx.map fun p => (p.1, .int .i64 (p.2 : Int))
theorem keyL_len (ks : List ByteArray) : (keyL ks).length = ks.length := by simp [keyL]
theorem keyL_keys (ks : List ByteArray) : (keyL ks).map Prod.fst = ks := by
 unfold keyL
 rw [List.map_map]
 have : (Prod.fst ∘ fun p : ByteArray × Nat => (p.1, Value.int .i64 (p.2 : Int))) = Prod.fst := rfl
 rw [this]
 simp
theorem keyL_put {ks : List ByteArray} {k : ByteArray} (h : k ∉ ks) : putL (keyL ks) k (.int .i64 (ks.length : Int)) = keyL (ks ++ [k]) := by
 rw [putL_new (by rw [keyL_keys]; exact h)]
 unfold keyL
 rw [List.zipIdx_append]
 simp
theorem keyL_hit {ks : List ByteArray} (hd : ks.Nodup) {j : Nat} {k : ByteArray} (h : ks[j]? = some k) : lk (keyL ks) k = some (.int .i64 (j : Int)) := by
 refine lk_of_mem (by rw [keyL_keys]; exact hd) ?_
 unfold keyL
 refine List.mem_map.2 ⟨(k, j), ?_, rfl⟩
 rw [List.mem_zipIdx_iff_getElem?]
 exact h
theorem keyL_miss {ks : List ByteArray} {k : ByteArray} (h : k ∉ ks) : lk (keyL ks) k = none := lk_none.2 (by rw [keyL_keys]; exact h)
def CellX (o : Option ByteArray) (ks : List ByteArray) (y : Int) : Prop := (o = none ∧ y = -1) ∨ ∃ k j, o = some k ∧ y = ((j : Nat) : Int) ∧ ks[j]? = some k
theorem CellX.pre {o : Option ByteArray} {ks ks' : List ByteArray} {y : Int} (h : CellX o ks y) (hp : ks <+: ks') : CellX o ks' y := by
 rcases h with h | ⟨k, j, h1, h2, h3⟩
 ·
  exact .inl h
 ·
  refine .inr ⟨k, j, h1, h2, ?_⟩
  obtain ⟨t, rfl⟩ := hp
  rw [List.getElem?_append_left (List.getElem?_eq_some_iff.1 h3).1]
  exact h3
structure ExMid (stp : ByteArray → Nat → Option ByteArray) (acc : ByteArray → Int) (Good : ByteArray → Prop) (first : ByteArray) (cols : Nat) (i : Nat) (ks : List ByteArray) (accs : List Int) (rows : List (List Int)) : Prop where
 hd : ks[0]? = some first
 nodup : ks.Nodup
 few : ks.length ≤ 200
 good : ∀ k ∈ ks, Good k
 accs : accs = (ks.take i).map acc
 rl : rows.length = i
 rows : ∀ (m : Nat) (r : List Int), rows[m]? = some r → r.length = cols ∧ ∃ k, ks[m]? = some k ∧ ∀ (c : Nat) (y : Int), r[c]? = some y → CellX (stp k c) ks y
section
variable {stp : ByteArray → Nat → Option ByteArray} {acc : ByteArray → Int} {Good : ByteArray → Prop} {first : ByteArray} {cols i : Nat} {ks : List ByteArray} {accs : List Int} {rows : List (List Int)}
theorem ExMid.add (h : ExMid stp acc Good first cols i ks accs rows) (hi : i ≤ ks.length) {k : ByteArray} (hk : k ∉ ks) (hg : Good k) (hl : ks.length < 200) : ExMid stp acc Good first cols i (ks ++ [k]) accs rows where
 hd := by rw [List.getElem?_append_left (List.getElem?_eq_some_iff.1 h.hd).1]; exact h.hd
 nodup := by
  rw [List.nodup_append]
  exact ⟨h.nodup, by simp, fun a ha b hb => by obtain rfl := List.mem_singleton.1 hb; exact fun e => hk (e ▸ ha)⟩
 few := by simp; omega
 good := fun x hx => by
  rcases List.mem_append.1 hx with hx | hx
  ·
   exact h.good x hx
  ·
   rw [List.mem_singleton.1 hx]; exact hg
 accs := by rw [h.accs, List.take_append_of_le_length hi]
 rl := h.rl
 rows := fun m r hr => by
  obtain ⟨h1, k2, h2, h3⟩ := h.rows m r hr
  exact ⟨h1, k2, by rw [List.getElem?_append_left (List.getElem?_eq_some_iff.1 h2).1]; exact h2, fun c y hy => (h3 c y hy).pre (List.prefix_append _ _)⟩
theorem ExMid.next (h : ExMid stp acc Good first cols i ks accs rows) {k : ByteArray} (hk : ks[i]? = some k) {r : List Int} (hr : r.length = cols) (hc : ∀ (c : Nat) (y : Int), r[c]? = some y → CellX (stp k c) ks y) : ExMid stp acc Good first cols (i + 1) ks (accs ++ [acc k]) (rows ++ [r]) where
 hd := h.hd
 nodup := h.nodup
 few := h.few
 good := h.good
 accs := by rw [h.accs, List.take_add_one, hk]; simp
 rl := by simp [h.rl]
 rows := fun m r' hm => by
  rcases Nat.lt_trichotomy m rows.length with hlt | heq | hgt
  ·
   rw [List.getElem?_append_left hlt] at hm
   exact h.rows m r' hm
  ·
   subst heq
   simp at hm
   subst hm
   rw [h.rl]
   exact ⟨hr, k, hk, hc⟩
  ·
   rw [List.getElem?_eq_none (by simp; omega)] at hm
   cases hm
end
def StepR (o : Option ByteArray) (u : World) (e : Ending) (w' : World) : Prop := (∃ (k : ByteArray) (b : Bool), e = .returned (.tuple #[.string k, .bool b]) ∧ o = if b = true then some k else none) ∧ Below u.heap.size u w'
def TellsStep (P : Program) (w : World) (Good : ByteArray → Prop) (cols : Nat) (stp : ByteArray → Nat → Option ByteArray) (F : FuncId) (caps : Array Value) : Prop :=
 ∀ (u : World), Below w.heap.size w u → ∀ (k : ByteArray), Good k → ∀ c : Nat, c < cols → Calls P F (#[.string k, .int .i64 (c : Int)] ++ caps) u (StepR (stp k c) u)
def TellsAcc (P : Program) (w : World) (Good : ByteArray → Prop) (acc : ByteArray → Int) (F : FuncId) (caps : Array Value) : Prop :=
 ∀ (u : World), Below w.heap.size w u → ∀ (k : ByteArray), Good k → Calls P F (#[.string k] ++ caps) u fun e w' => e = .returned (.int .i64 (acc k)) ∧ Below u.heap.size u w'
def ExpR (stp : ByteArray → Nat → Option ByteArray) (acc : ByteArray → Int) (Good : ByteArray → Prop) (first : ByteArray) (cols base : Nat) (e : Ending) (w' : World) : Prop :=
 (e = .returned (.tuple #[.agg #[.int .i64 0, .slice none 0 0, .slice none 0 0], .bool false]) ∧ ∃ ks : List ByteArray, ks.Nodup ∧ (∀ k ∈ ks, Good k) ∧ 200 < ks.length) ∨
 ∃ (ks : List ByteArray) (accs : List Int) (rows : List (List Int)) (A : Option Addr) (n c : Nat) (N : Option Addr) (m c' : Nat), e = .returned (.tuple #[.agg #[.int .i64 0, .slice A n c, .slice N m c'], .bool true]) ∧ Sl Rep.int w' (fun b => base ≤ b) A n c accs ∧ Sl RI w' (fun b => base ≤ b) N m c' rows ∧ ExMid stp acc Good first cols ks.length ks accs rows
structure KeyS (w : World) (base BM : Nat) (v : Value) (ks : List ByteArray) : Prop where
 own : Own w base 9 1 v ks.length (ks.map Value.string)
 map : AMap KStr w BM (keyL ks)
 ne : rowOf v ≠ some BM
theorem KeyS.only {w w' : World} {base BM : Nat} {v : Value} {ks : List ByteArray} {X : Nat → Prop} (h : KeyS w base BM v ks) (ho : Only w w' X) (hX : ∀ b, X b → b ≠ BM ∧ rowOf v ≠ some b) : KeyS w' base BM v ks :=
 ⟨h.own.sameB fun g e => ho.block g (h.own.row e).2 fun hx => (hX g hx).2 e, h.map.only ho fun hx => (hX _ hx).1 rfl, h.ne⟩
theorem KeyS.below {w w' : World} {base BM : Nat} {v : Value} {ks : List ByteArray} (h : KeyS w base BM v ks) (hb : Below w.heap.size w w') : KeyS w' base BM v ks := h.only (X := fun _ => False) (.of_below hb (Nat.le_refl _) _) fun _ hx => hx.elim
theorem KeyS.push {w : World} {base BM : Nat} {v : Value} {ks : List ByteArray} (h : KeyS w base BM v ks) (hbase : base ≤ BM) {k : ByteArray} (hk : k ∉ ks) (hl : ks.length ≤ 1000) {w2 : World} (hm : AMap KStr w2 BM (putL (keyL ks) k (.int .i64 (ks.length : Int)))) (hg : w.grownBy w2 (some BM)) :
    ∃ A' c' w3, (Builtin.append_ #[100, 100] 100 #[v, .slice (some ⟨w2.heap.size, 0, none⟩) 1 1]).run Tryz.prog (w2.alloc (.cells #[.string k] 9)) = .ok (.slice A' (ks.length + 1) c') w3 ∧ KeyS w3 base BM (.slice A' (ks.length + 1) c') (ks ++ [k]) ∧ Only w w3 (fun b => b = BM ∨ rowOf v = some b) ∧ (rowOf (.slice A' (ks.length + 1) c') = rowOf v ∨ ∀ g, rowOf (.slice A' (ks.length + 1) c') = some g → w.heap.size ≤ g) := by
 rw [keyL_put hk] at hm
 have ho : Only w w2 (fun b => b = BM) := Only.of_grown (X := fun b => b = BM) hg (fun c e => (Option.some.inj e).symm)
 have h1 : Own w2 base 9 1 v ks.length (ks.map Value.string) := h.own.sameB fun g e => ho.block g (h.own.row e).2 fun hx => h.ne (hx ▸ e)
 have hz := h.map.lt
 have hz2 := ho.size
 obtain ⟨v3, w3, hrun, ho3, hg3, hrow⟩ := run_append_Own tStrs (w2.alloc (.cells #[.string k] 9)) 100 base v ks.length _ (h1.alloc _) (fun _ => True) (some ⟨w2.heap.size, 0, none⟩) 1 1 [.string k] (Rd.new w2 _ _ [.string k] _ rfl trivial) (by intro u hu; obtain rfl := List.mem_singleton.1 hu; rfl) (by unfold maxLen; omega) (by omega) (by simp; omega)
 obtain ⟨A', c', rfl, _, _⟩ := ho3.form
 have ho4 : Only w2 w3 (fun b => rowOf v = some b) := (Only.alloc w2 _ _).trans (.of_grown hg3 fun b e => e)
 have hne2 : rowOf (.slice A' (ks.length + 1) c') ≠ some BM := fun e => by
  rcases hrow with e2 | e2
  ·
   rw [e2] at e; exact h.ne e
  ·
   rw [e2] at e
   injection e with e
   simp at e
   omega
 refine ⟨A', c', w3, hrun, ⟨by simpa using ho3, hm.only ho4 fun hx => h.ne hx, hne2⟩, (ho.more fun b _ e => .inl e).trans (ho4.more fun b _ e => .inr e), ?_⟩
 rcases hrow with e | e
 ·
  exact .inl e
 ·
  refine .inr fun g eg => ?_
  rw [e] at eg
  injection eg with eg
  simp at eg
  omega
set_option linter.unusedSimpArgs false in
set_option maxRecDepth 1000000 in
set_option maxHeartbeats 20000000 in
theorem apxExplore (w : World) (first : ByteArray) (cols : Nat) (SF AF : FuncId) (SC AC : Array Value) (stp : ByteArray → Nat → Option ByteArray) (acc : ByteArray → Int) (Good : ByteArray → Prop)
    (hS : ∀ (args : Array Value) (u : World), (callFunc SF args).run Tryz.prog u = .ok (.enter SF args) u) (hA : ∀ (args : Array Value) (u : World), (callFunc AF args).run Tryz.prog u = .ok (.enter AF args) u)
    (tS : TellsStep Tryz.prog w Good cols stp SF SC) (tA : TellsAcc Tryz.prog w Good acc AF AC) (hg0 : Good first) (hg1 : ∀ k c k', Good k → c < cols → stp k c = some k' → Good k') (hgs : ∀ k, Good k → k.size ≤ maxLen) (hc1 : 1 ≤ cols) (hc2 : cols ≤ 16) :
    Calls Tryz.prog 16 #[.string first, .int .i64 (cols : Int), .func (.func SF) #[] SC, .func (.func AF) #[] AC, .int .i64 200] w fun e w' => ExpR stp acc Good first cols w.heap.size e w' ∧ Below w.heap.size w w' := by
 have HTS := Lib.hid tS
 have HTA := Lib.hid tA
 have HG1 := Lib.hid hg1
 have HGS := Lib.hid hgs
 have HG0 := Lib.hid hg0
 have hmk := fun W => tInts.make rfl cols (by omega) (by omega) W
 simp only [made_intsA] at hmk
 obtain ⟨w1, hw1⟩ : ∃ w1 : World, w1 = ((w.alloc (.cells #[.int .i64 0, .slice none 0 0, .slice none 0 0] 29)).alloc (.cells #[.string first] 9)).alloc (.map #[] 0) := ⟨_, rfl⟩
 have hm1 : AMap KStr w1 (w.heap.size + 1 + 1) [] := by
  rw [hw1]
  have := AMap.made KStr ((w.alloc (.cells #[.int .i64 0, .slice none 0 0, .slice none 0 0] 29)).alloc (.cells #[.string first] 9))
  simpa using this
 have HM1 := Lib.hid hm1
 have HOK0 := Lib.hid (show KStr.ok first from hgs first hg0)
 have HW1 := Lib.hid hw1
 clear tS tA hg0 hg1 hgs hm1 hw1
 have hmm := @run_makeMap Tryz.prog
 go_enter Tryz.func16, Tryz.ntmps16
 go_wp2_with (refine wpList_map_ins _ rfl _ _ _ 101 rfl 3 mapStr (w.heap.size + 1 + 1) [] rfl (by rw [← HW1.out]; exact HM1.out) first rfl HOK0.out (.int .i64 0) rfl (by simp [maxLen]) ?_; intro w2 hm2 hg2; have HM2 := Lib.hid hm2; have HG2 := Lib.hid (show w1.grownBy w2 (some (w.heap.size + 1 + 1)) by rw [HW1.out]; exact hg2); clear hm2 hg2)
 clear hmm
 have hm2 := HM2.out
 have hg2 := HG2.out
 have hz1 : w1.heap.size = w.heap.size + 1 + 1 + 1 := by rw [HW1.out]; simp
 have hz2 : w1.heap.size ≤ w2.heap.size := hg2.size
 obtain ⟨w3, hw3⟩ : ∃ w3 : World, w3 = w2.alloc (.cells #[.int .i64 0, .slice none 0 0, .slice none 0 0] 29) := ⟨_, rfl⟩
 have hb13 : Below (w.heap.size + 1 + 1) w1 w3 := by
  have h1 : Below (w.heap.size + 1 + 1) w1 w2 := (Below.refl _ _).grown hg2 (by omega) (fun k e => by injection e with e; omega)
  rw [hw3]
  exact h1.alloc (by omega) _
 have hbw3 : Below w.heap.size w w3 := by
  have h1 : Below w.heap.size w w1 := by rw [HW1.out]; exact (((Below.refl _ _).alloc (Nat.le_refl _) _).alloc (by simp) _).alloc (by simp; omega) _
  exact h1.trans (hb13.mono (by omega))
 have hD3 := DfaB.start_ w2 0
 rw [← hw3] at hD3
 have hrb : w3.heap[w.heap.size]? = some (.cells #[.int .i64 0, .slice none 0 0, .slice none 0 0] 29 (0, 0)) := (hb13.block _ (by omega)).trans (by
  rw [HW1.out, Below.heap_alloc _ _ _ (by simp; omega), Below.heap_alloc _ _ _ (by simp)]
  exact heap_alloc_new _ _)
 have hkb : w3.heap[w.heap.size + 1]? = some (.cells #[.string first] 9 (0, 0)) := (hb13.block _ (by omega)).trans (by
  rw [HW1.out, Below.heap_alloc _ _ _ (by simp)]
  exact heap_new _ _ _ (by simp))
 have hK3 : KeyS w3 w.heap.size (w.heap.size + 1 + 1) (.slice (some ⟨w.heap.size + 1, 0, none⟩) 1 1) [first] := by
  refine ⟨.inl ⟨rfl, .inr ⟨w.heap.size + 1, 1, _, rfl, by omega, hkb, Nat.le_refl _, by simp [maxLen], rfl, rfl⟩⟩, ?_, fun e => by have e' : w.heap.size + 1 = w.heap.size + 1 + 1 := Option.some.inj e; omega⟩
  rw [hw3]
  exact AMap.alloc hm2 _
 have HD3 := Lib.hid hD3
 have HRB3 := Lib.hid hrb
 have HK3 := Lib.hid hK3
 have HB3 := Lib.hid hbw3
 have HE0 := Lib.hid (show ExMid stp acc Good first cols 0 [first] [] [] from ⟨rfl, by simp, by simp, fun k hk => by rw [List.mem_singleton.1 hk]; exact HG0.out, rfl, rfl, fun m r hr => by simp at hr⟩)
 obtain ⟨BD, hBD⟩ : ∃ BD, BD = w2.heap.size := ⟨_, rfl⟩
 obtain ⟨BM, hBM⟩ : ∃ BM, BM = w.heap.size + 1 + 1 := ⟨_, rfl⟩
 rw [← hBM] at HK3
 rw [← hBD] at HD3
 have hbmd : BM < BD := by omega
 have hwbm : w.heap.size + 1 < BM := by omega
 clear hz1 hb13 hbw3 hD3 hrb hkb hK3 hm2 hg2
 go_wp2_with fail
 rw [← hw3, ← hBD, ← hBM]
 clear hw3 hz2 hBD hBM
 go_loopg [12, 15] 200 (fun gk v12 v15 wr => ∃ (i : Nat) (ks : List ByteArray) (accs : List Int) (rows : List (List Int)) (vA vN : Value) (xs : List Value), i ≤ ks.length ∧ gk = 200 - i ∧ v15 = .int .i64 i ∧ KeyS wr w.heap.size BM v12 ks ∧ DfaB wr (BD + 1) BD 0 accs rows vA vN xs ∧
  ZApart (fun b => rowOf v12 = some b ∨ b = BM) vA vN xs ∧ (rowOf v12 ≠ some BD ∧ rowOf v12 ≠ some w.heap.size) ∧ ExMid stp acc Good first cols i ks accs rows ∧ wr.heap[w.heap.size]? = some (.cells #[.int .i64 0, .slice none 0 0, .slice none 0 0] 29 (0, 0)) ∧ Below w.heap.size w wr)
 case atStart =>
  exact ⟨0, [first], [], [], _, _, [], Nat.zero_le _, rfl, rfl, HK3.out, HD3.out, fun b _ => ⟨fun e => (by cases e), fun e => (by cases e), fun i v h => (by simp at h)⟩, ⟨fun e => (by have e' : w.heap.size + 1 = BD := Option.some.inj e; omega), fun e => (by have e' : w.heap.size + 1 = w.heap.size := Option.some.inj e; omega)⟩, HE0.out, HRB3.out, HB3.out⟩
 case round =>
  obtain ⟨i, ks, accs, rows, vA, vN, xs, hi, hgk, rfl, hk, hd, hza, hnr, hex, hrb, hbl⟩ := hrel
  obtain ⟨w4, rfl⟩ : ∃ w4 : World, w4 = wr := ⟨_, rfl⟩
  obtain ⟨AK, cK, hvK, hcK, _⟩ := hk.own.form
  subst hvK
  have HGK := Lib.hid hgk
  have HK4 := Lib.hid hk
  have HD4 := Lib.hid hd
  have HZA := Lib.hid hza
  have HNR := Lib.hid hnr
  have HEX := Lib.hid hex
  have HRB := Lib.hid hrb
  have HB4 := Lib.hid hbl
  have hk200 : ks.length ≤ 200 := hex.few
  clear hgk hk hd hza hnr hex hrb hbl
  by_cases hil : i < ks.length
  ·
   have hiI : (i : Int) < (ks.length : Int) := by omega
   have hi0 : (0 : Int) ≤ (i : Int) := by omega
   have hk1 : ks[i]? = some ks[i] := List.getElem?_eq_getElem hil
   obtain ⟨k1, hk1e⟩ : ∃ k1, k1 = ks[i] := ⟨_, rfl⟩
   rw [← hk1e] at hk1
   have HK1 := Lib.hid hk1
   have HGK1 := Lib.hid (HEX.out.good k1 (List.mem_of_getElem? hk1))
   obtain ⟨BROW, hBROW⟩ : ∃ BROW, BROW = w4.heap.size := ⟨_, rfl⟩
   obtain ⟨w5, hw5⟩ : ∃ w5 : World, w5 = w4.alloc (.cells (Array.replicate cols (Value.int .i64 0)) 3) := ⟨_, rfl⟩
   have hz5 : w5.heap.size = BROW + 1 := by rw [hw5, hBROW]; simp
   have hb5 : Below w4.heap.size w4 w5 := by rw [hw5]; exact (Below.refl _ _).alloc (Nat.le_refl _) _
   have HK5 := Lib.hid (HK4.out.below hb5)
   have HI5 := Lib.hid (show InB w5 BROW (List.replicate cols 0) by
    rw [hw5, hBROW]
    unfold InB
    rw [show ((List.replicate cols (0 : Int)).map (Value.int .i64)).toArray = Array.replicate cols (Value.int .i64 0) by simp]
    exact heap_alloc_new w4 _)
   have HD5 := Lib.hid (HD4.out.below hb5)
   have HLOW := Lib.hid (show DfaLow BROW vA vN xs by rw [hBROW]; exact HD4.out.low)
   have HBD := Lib.hid (show BD + 1 ≤ BROW by rw [hBROW]; exact HD4.out.le)
   have HRK := Lib.hid (show ∀ g, rowOf (.slice AK ks.length cK) = some g → g < BROW from fun g e => by rw [hBROW]; exact (HK4.out.own.row e).2)
   have HRB5 := Lib.hid ((hb5.block _ (heap_lt HRB.out)).trans HRB.out)
   have HB5 := Lib.hid (HB4.out.trans (hb5.mono HB4.out.size))
   have HW5 := Lib.hid hw5
   have HZ5 := Lib.hid hz5
   have HBROW := Lib.hid hBROW
   clear hw5 hz5 hb5 hBROW hk1 hk1e
   go_wp2_with fail
   rw [← HW5.out, ← HBROW.out]
   go_loopg [12, 36] cols (fun gc v12 v36 wr => ∃ (j : Nat) (ks3 : List ByteArray) (r : List Int), j ≤ cols ∧ gc = cols - j ∧ v36 = .int .i64 j ∧ KeyS wr w.heap.size BM v12 ks3 ∧ ks <+: ks3 ∧ ExMid stp acc Good first cols i ks3 accs rows ∧ InB wr BROW (halfRow cols r) ∧ r.length = j ∧ (∀ (c : Nat) (y : Int), r[c]? = some y → CellX (stp k1 c) ks3 y) ∧
    Only w5 wr (fun b => rowOf (.slice AK ks.length cK) = some b ∨ b = BM ∨ b = BROW) ∧ (rowOf v12 = rowOf (.slice AK ks.length cK) ∨ ∀ g, rowOf v12 = some g → BROW + 1 ≤ g))
   case atStart =>
    refine ⟨0, ks, [], Nat.zero_le _, rfl, rfl, HK5.out, List.prefix_refl _, HEX.out, ?_, rfl, fun c x h => by simp at h, .refl _ _, .inl rfl⟩
    have : halfRow cols [] = List.replicate cols 0 := by simp [halfRow]
    rw [this]
    exact HI5.out
   case round =>
    obtain ⟨j, ks3, r, hj, hgc, rfl, hk, hpre, hex, hib, hrl, hrc, hon, hrw⟩ := hrel
    obtain ⟨w6, rfl⟩ : ∃ w6 : World, w6 = wr := ⟨_, rfl⟩
    obtain ⟨A3, c3, hv3, hc3, _⟩ := hk.own.form
    subst hv3
    have HGC := Lib.hid hgc
    have HK6 := Lib.hid hk
    have HPRE := Lib.hid hpre
    have HEX6 := Lib.hid hex
    have HI6 := Lib.hid hib
    have HRL := Lib.hid hrl
    have HRC := Lib.hid hrc
    have HON := Lib.hid hon
    have HRW := Lib.hid hrw
    have hk3 : ks3.length ≤ 200 := hex.few
    have hil3 : i < ks3.length := Nat.lt_of_lt_of_le hil hpre.length_le
    have hkn : ks3[i]? = some k1 := by
     obtain ⟨t, rfl⟩ := hpre
     rw [List.getElem?_append_left hil]
     exact HK1.out
    obtain ⟨g6, o6, u6, hA3, _, hx6, hcl6⟩ := hk.own.rd.at_ (k := i) hil3
    obtain rfl : u6 = .string k1 := by
     rw [List.getElem?_map, hkn] at hx6
     injection hx6 with hx6
     exact hx6.symm
    subst hA3
    have HKN := Lib.hid hkn
    have HB6 := Lib.hid (show Below w.heap.size w w6 from HB5.out.trans ⟨hon.os, hon.tape, hon.output, hon.size, fun b hb => hon.block b (by have := HB5.out.size; omega) fun hx => by
     rcases hx with e | e | e
     ·
      have := (HK4.out.own.row e).1; omega
     ·
      omega
     ·
      have := HBD.out; omega⟩)
    have hiI3 : (i : Int) < (ks3.length : Int) := by omega
    have hz6 : BROW < w6.heap.size := by have := hon.size; have := HZ5.out; omega
    clear hgc hk hpre hex hib hrl hrc hon hrw hx6 hkn
    by_cases hjl : j < cols
    ·
     have hjI : (j : Int) < (cols : Int) := by omega
     have hj0 : (0 : Int) ≤ (j : Int) := by omega
     go_wp2_with fail
     refine (HTS.out w6 HB6.out k1 HGK1.out j hjl).mono ?_
     rintro e w7 ⟨⟨k2, b, rfl, ho⟩, hb7⟩
     have HOS := Lib.hid ho
     have HK7 := Lib.hid (HK6.out.below hb7)
     have HB7 := Lib.hid (HB6.out.trans (hb7.mono HB6.out.size))
     have HI7 := Lib.hid ((HI6.out.below hb7 : InB w7 BROW (halfRow cols r)))
     have HON7 := Lib.hid (HON.out.trans (.of_below hb7 (Nat.le_refl _) _))
     have hz7 : BROW < w7.heap.size := Nat.lt_of_lt_of_le hz6 hb7.size
     have hhl : (halfRow cols r).length = cols := halfRow_len (by have := HRL.out; omega)
     obtain ⟨x0, _, hcx, hfx⟩ := HI7.out.at_ (i := j) (by rw [hhl]; exact hjl)
     have HHS := Lib.hid (show ∀ y : Int, (halfRow cols r).set j y = halfRow cols (r ++ [y]) from fun y => by
      have := halfRow_set (C := cols) (l := r) (by have := HRL.out; omega) y
      rwa [HRL.out] at this)
     have HKX := Lib.hid (show ∀ (u : World) (y : Int), KeyS u w.heap.size BM (.slice (some ⟨g6, o6, none⟩) ks3.length c3) ks3 → BROW < u.heap.size → KeyS (u.setCell ⟨BROW, j, none⟩ (.int .i64 y)) w.heap.size BM (.slice (some ⟨g6, o6, none⟩) ks3.length c3) ks3 from fun u y hu _ => hu.only (.set _ _ _ _ (X := fun b => b = BROW) rfl) fun b hb => by
      subst hb
      refine ⟨by have := HBD.out; omega, fun e => ?_⟩
      rcases HRW.out with e2 | e2
      ·
       rw [e2] at e; have := HRK.out _ e; omega
      ·
       have := e2 _ e; omega)
     have HSN := Lib.hid (show ∀ (y : Int) (ks4 : List ByteArray), ks3 <+: ks4 → CellX (stp k1 j) ks4 y → ∀ (c : Nat) (x : Int), (r ++ [y])[c]? = some x → CellX (stp k1 c) ks4 x from fun y ks4 hp hy c x hx => by
      rcases Nat.lt_trichotomy c r.length with h | h | h
      ·
       rw [List.getElem?_append_left h] at hx
       exact (HRC.out c x hx).pre hp
      ·
       subst h
       rw [HRL.out]
       simp at hx
       subst hx
       exact hy
      ·
       rw [List.getElem?_eq_none (by simp; omega)] at hx
       cases hx)
     clear ho hb7 hhl
     cases b with
     | false =>
      have HI8 := Lib.hid (HI7.out.set j (-1))
      go_wp2_with fail
      go_roundg (cols - (j + 1))
      case measure => rw [HGC.out]; omega
      case rel =>
       exact ⟨j + 1, ks3, r ++ [-1], by omega, rfl, by go_num, HKX.out _ _ HK7.out hz7, HPRE.out, HEX6.out, by rw [← HHS.out]; exact HI8.out, by rw [List.length_append, HRL.out]; rfl, HSN.out _ _ (List.prefix_refl _) (.inl ⟨by rw [HOS.out]; rfl, rfl⟩), HON7.out.trans (.set _ _ _ _ (.inr (.inr rfl))), HRW.out⟩
     | true =>
      obtain ⟨w8, hw8⟩ : ∃ w8 : World, w8 = w7.setCell ⟨BROW, j, none⟩ (.int .i64 (-1)) := ⟨_, rfl⟩
      have HK8 := Lib.hid (show KeyS w8 w.heap.size BM (.slice (some ⟨g6, o6, none⟩) ks3.length c3) ks3 by rw [hw8]; exact HKX.out _ _ HK7.out hz7)
      have HI8 := Lib.hid (show InB w8 BROW (halfRow cols (r ++ [-1])) by rw [hw8, ← HHS.out]; exact HI7.out.set j (-1))
      have HON8 := Lib.hid (show Only w5 w8 (fun b => rowOf (.slice AK ks.length cK) = some b ∨ b = BM ∨ b = BROW) by rw [hw8]; exact HON7.out.trans (.set _ _ _ _ (.inr (.inr rfl))))
      have hz8 : BROW < w8.heap.size := by rw [hw8]; simpa [World.setCell] using hz7
      have HGD := Lib.hid (HG1.out k1 j k2 HGK1.out hjl (by rw [HOS.out]; rfl))
      have HKO := Lib.hid (show KStr.ok k2 from HGS.out k2 HGD.out)
      have HHS2 := Lib.hid (show ∀ y : Int, (halfRow cols (r ++ [-1])).set j y = halfRow cols (r ++ [y]) from fun y => by
       rw [← HHS.out, ← HHS.out, List.set_set])
      have hhl2 : (halfRow cols (r ++ [-1])).length = cols := halfRow_len (by rw [List.length_append, HRL.out]; simp; omega)
      have HW8 := Lib.hid hw8
      clear hw8
      by_cases hmem : k2 ∈ ks3
      ·
       obtain ⟨nn, hnn⟩ := List.getElem?_of_mem hmem
       have HLK := Lib.hid (keyL_hit HEX6.out.nodup hnn)
       have HNN := Lib.hid hnn
       obtain ⟨x1, _, hcx8, hfx8⟩ := HI8.out.at_ (i := j) (by rw [hhl2]; exact hjl)
       have HI9 := Lib.hid (HI8.out.set j (nn : Int))
       clear hnn hhl2 hmem
       rw [HW8.out] at hcx8 hfx8
       go_wp2_with (at_lookup; rw [← HW8.out]; refine wpList_amap_ok _ rfl _ _ 101 rfl 3 mapStr zeroI' BM _ rfl HK8.out.map k2 rfl HKO.out ?_; rw [HLK.out]; rw [← HW8.out] at hcx8 hfx8)
       go_roundg (cols - (j + 1))
       case measure => rw [HGC.out]; omega
       case rel =>
        exact ⟨j + 1, ks3, r ++ [(nn : Int)], by omega, rfl, by go_num, HKX.out _ _ HK8.out hz8, HPRE.out, HEX6.out, by rw [← HHS2.out]; exact HI9.out, by rw [List.length_append, HRL.out]; rfl, HSN.out _ _ (List.prefix_refl _) (.inr ⟨k2, nn, by rw [HOS.out]; rfl, rfl, HNN.out⟩), HON8.out.trans (.set _ _ _ _ (.inr (.inr rfl))), HRW.out⟩
      ·
       have HLK := Lib.hid (keyL_miss hmem)
       have HMEM := Lib.hid hmem
       clear hmem
       by_cases h200 : ks3.length = 200
       ·
        have hq200 : (ks3.length : Int) = 200 := by omega
        have hdq : decide ((ks3.length : Int) = 200) = true := by simp [h200]
        have hrb8 := (HON8.out.block w.heap.size (heap_lt HRB5.out) (fun h => by
         rcases h with e | e | e
         ·
          exact HNR.out.2 e
         ·
          omega
         ·
          have := HBD.out; omega)).trans HRB5.out
        obtain ⟨hr0, hr1, hr2⟩ : w8.cell? ⟨w.heap.size, 0, none⟩ = some (.int .i64 0) ∧ w8.cell? ⟨w.heap.size, 1, none⟩ = some (.slice none 0 0) ∧ w8.cell? ⟨w.heap.size, 2, none⟩ = some (.slice none 0 0) := by simp [World.cell?, hrb8]
        have hf0 : w8.frozen? ⟨w.heap.size, 0, none⟩ = false := by simp [World.frozen?, hrb8]
        have hf1 : w8.frozen? ⟨w.heap.size, 1, none⟩ = false := by simp [World.frozen?, hrb8]
        have hf2 : w8.frozen? ⟨w.heap.size, 2, none⟩ = false := by simp [World.frozen?, hrb8]
        have HB8 := Lib.hid (show Below w.heap.size w w8 by rw [HW8.out]; exact HB7.out.setCell (by have := HBD.out; simp; omega) _)
        clear hhl2 hrb8 hq200
        go_wp2_with (at_lookup; rw [← HW8.out]; refine wpList_amap_ok _ rfl _ _ 101 rfl 3 mapStr zeroI' BM _ rfl HK8.out.map k2 rfl HKO.out ?_; rw [HLK.out])
        refine bodyPost_ret (v := .tuple #[.agg #[.int .i64 0, .slice none 0 0, .slice none 0 0], .bool false]) (by simp [results, Tryz.results16, go_sem, hr0, hr1, hr2]) rfl ⟨.inl ⟨rfl, ks3 ++ [k2], List.nodup_append.2 ⟨HEX6.out.nodup, by simp, fun a ha b hb e => by
            rw [List.mem_singleton.1 hb] at e
            rw [e] at ha
            exact HMEM.out ha⟩, fun k hk => (List.mem_append.1 hk).elim (HEX6.out.good k) (fun h => by rw [List.mem_singleton.1 h]; exact HGD.out), by rw [List.length_append, h200, List.length_singleton]; omega⟩, ?_⟩
        exact ((HB8.out.setCell (Nat.le_refl _) _).setCell (Nat.le_refl _) _).setCell (Nat.le_refl _) _
       ·
        have hdq : decide ((ks3.length : Int) = 200) = false := by simp; omega
        have hdq2 : ((ks3.length : Int) == 200) = false := by simp; omega
        have hk4 : ks3.length < 200 := by omega
        have HLN := Lib.hid (show (keyL ks3).length < maxLen by rw [keyL_len]; unfold maxLen; omega)
        clear hhl2 h200
        go_wp2_with (first
         | (at_lookup; rw [← HW8.out]; refine wpList_amap_ok _ rfl _ _ 101 rfl 3 mapStr zeroI' BM _ rfl HK8.out.map k2 rfl HKO.out ?_; rw [HLK.out])
         | (at_mapUpdate; refine wpList_amap_put _ rfl _ _ _ 101 rfl 3 mapStr BM _ rfl HK8.out.map k2 rfl HKO.out (.int .i64 (ks3.length : Int)) rfl HLN.out ?_; intro w9 hm9 hg9
            obtain ⟨A4, c4, w10, hrun, hk10, ho10, hr10⟩ := HK8.out.push (by omega) HMEM.out (by omega) hm9 hg9
            have HRUN := Lib.hid hrun
            have HK10 := Lib.hid hk10
            have HO10 := Lib.hid ho10
            have HR10 := Lib.hid hr10
            have HNB := Lib.hid (show ¬ (BROW = BM ∨ rowOf (.slice (some ⟨g6, o6, none⟩) ks3.length c3) = some BROW) from fun h => by
             rcases h with e | e
             ·
              have := HBD.out; omega
             ·
              rcases HRW.out with e2 | e2
              ·
               rw [e2] at e; have := HRK.out _ e; omega
              ·
               have := e2 _ e; omega)
            have HI10 := Lib.hid (show InB w10 BROW (halfRow cols (r ++ [-1])) from (HO10.out.block BROW hz8 HNB.out).trans HI8.out)
            obtain ⟨x1, _, hcx10, hfx10⟩ := HI10.out.at_ (i := j) (by rw [halfRow_len (by rw [List.length_append, HRL.out]; simp; omega)]; exact hjl)
            have HI11 := Lib.hid (HI10.out.set j (ks3.length : Int))
            clear hm9 hg9 hrun hk10 ho10 hr10)
         | (at_builtin; refine Lib.wpList_append_run (o := ⟨some 74, _, _, _, _, _⟩) _ rfl _ _ _ _ rfl _ _ rfl rfl _ _ HRUN.out ?_))
        go_roundg (cols - (j + 1))
        case measure => rw [HGC.out]; omega
        case rel =>
         have hrw4 : rowOf (.slice A4 (ks3.length + 1) c4) = rowOf (.slice AK ks.length cK) ∨ ∀ g, rowOf (.slice A4 (ks3.length + 1) c4) = some g → BROW + 1 ≤ g := by
          rcases HR10.out with e | e
          ·
           rw [e]; exact HRW.out
          ·
           exact .inr fun g eg => by have := e g eg; omega
         have hon10 : Only w5 w10 (fun b => rowOf (.slice AK ks.length cK) = some b ∨ b = BM ∨ b = BROW) := by
          have hz58 := HON8.out.size
          have hz5e := HZ5.out
          refine ⟨HO10.out.os.trans HON8.out.os, HO10.out.tape.trans HON8.out.tape, HO10.out.output.trans HON8.out.output, Nat.le_trans hz58 HO10.out.size, fun b hb hx => ?_⟩
          refine (HO10.out.block b (by omega) fun h => ?_).trans (HON8.out.block b hb hx)
          rcases h with e | e
          ·
           exact hx (.inr (.inl e))
          ·
           rcases HRW.out with e2 | e2
           ·
            rw [e2] at e; exact hx (.inl e)
           ·
            have := e2 _ e; omega
         have hk11 : KeyS (w10.setCell ⟨BROW, j, none⟩ (.int .i64 (ks3.length : Int))) w.heap.size BM (.slice A4 (ks3.length + 1) c4) (ks3 ++ [k2]) := HK10.out.only (.set _ _ _ _ (X := fun b => b = BROW) rfl) fun b hb => by
          subst hb
          refine ⟨by have := HBD.out; omega, fun e => ?_⟩
          rcases hrw4 with e2 | e2
          ·
           rw [e2] at e; have := HRK.out _ e; omega
          ·
           have := e2 _ e; omega
         exact ⟨j + 1, ks3 ++ [k2], r ++ [(ks3.length : Int)], by omega, rfl, by go_num, hk11, HPRE.out.trans (List.prefix_append _ _), HEX6.out.add (by omega) HMEM.out HGD.out hk4, by rw [← HHS2.out]; exact HI11.out, by rw [List.length_append, HRL.out]; rfl, HSN.out _ _ (List.prefix_append _ _) (.inr ⟨k2, ks3.length, by rw [HOS.out]; rfl, rfl, by simp⟩), hon10.trans (.set _ _ _ _ (.inr (.inr rfl))), hrw4⟩
    ·
     obtain rfl : cols = j := by omega
     have hi6 : InB w6 BROW r := by
      have h1 := HI6.out
      rw [halfRow_full HRL.out] at h1
      exact h1
     have hbrj : rowOf (.slice (some ⟨BROW, 0, none⟩) cols cols) = some BROW := by
      obtain ⟨j', hj'⟩ : ∃ j', cols = j' + 1 := ⟨cols - 1, by omega⟩
      rw [hj']
      rfl
     have hown : Own w6 (BD + 1) 3 1 (.slice (some ⟨BROW, 0, none⟩) cols cols) r.length (r.map (Value.int .i64)) := by
      rw [HRL.out]
      exact .inl ⟨by simp [HRL.out], .inr ⟨BROW, cols, _, rfl, HBD.out, hi6, Nat.le_refl _, by unfold maxLen; omega, by simp [HRL.out], by rw [Nat.mul_one]; exact List.take_of_length_le (by simp [HRL.out])⟩⟩
     have hnv : ∀ b, rowOf (.slice (some ⟨g6, o6, none⟩) ks3.length c3) = some b → b ≠ BD ∧ b ≠ w.heap.size ∧ b ≠ BROW ∧ rowOf vA ≠ some b ∧ rowOf vN ≠ some b ∧ ∀ (i : Nat) (v : Value), xs[i]? = some v → rowOf v ≠ some b := fun b hb => by
      rcases HRW.out with e2 | e2
      ·
       rw [e2] at hb
       have h1 := HZA.out b (.inl hb)
       refine ⟨fun e => HNR.out.1 (e ▸ hb), fun e => HNR.out.2 (e ▸ hb), fun e => by have := HRK.out _ hb; omega, h1.1, h1.2.1, h1.2.2⟩
      ·
       have h1 := e2 _ hb
       have h2 := HBD.out
       have h3 := HB5.out.size
       have h4 := HZ5.out
       have h5 := HB4.out.size
       have h6 := HBROW.out
       exact ⟨by omega, by omega, by omega, fun e => by have := HLOW.out.1 _ e; omega, fun e => by have := HLOW.out.2.1 _ e; omega, fun i v hv e => by have := HLOW.out.2.2 i v _ hv e; omega⟩
     have HNV := Lib.hid hnv
     have hd6 := HD5.out.onlyX HON.out fun b hb => by
      rcases hb with e | e | e
      ·
       have h1 := HZA.out b (.inl e)
       exact ⟨fun e' => HNR.out.1 (e' ▸ e), h1⟩
      ·
       subst e
       exact ⟨by omega, HZA.out b (.inr rfl)⟩
      ·
       subst e
       have h2 := HBD.out
       exact ⟨by omega, fun e => by have := HLOW.out.1 _ e; omega, fun e => by have := HLOW.out.2.1 _ e; omega, fun i v hv e => by have := HLOW.out.2.2 i v _ hv e; omega⟩
     have hTZ : TwoZ (fun b => rowOf (.slice (some ⟨g6, o6, none⟩) ks3.length c3) = some b ∨ b = BM) w6.drew w6.drew (BD + 1) BD 0 accs rows vA vN xs r (acc k1) (some (.slice (some ⟨BROW, 0, none⟩) cols cols)) none none none none :=
      hd6.drew.twoZ r (acc k1) hown (fun g e e' => by rw [hbrj] at e; injection e with e; subst e; have := HLOW.out.1 _ e'; omega) (fun g e e' => by rw [hbrj] at e; injection e with e; subst e; have := HLOW.out.2.1 _ e'; omega)
       (fun b hb => by
        rcases hb with hb | hb
        ·
         exact ⟨(HK6.out.own.row hb).2, (hnv b hb).1⟩
        ·
         subst hb
         exact ⟨HK6.out.map.lt, by omega⟩)
       (fun b hb => by
        rcases hb with hb | hb
        ·
         exact (hnv b hb).2.2.2
        ·
         subst hb
         exact HZA.out b (.inr rfl))
       (fun b hb e => by
        rw [hbrj] at e
        injection e with e
        rcases hb with hb | hb
        ·
         exact (hnv b hb).2.2.1 e.symm
        ·
         have := HBD.out
         omega)
     have HT0 := Lib.hid hTZ
     have hc30 : 0 < c3 := by omega
     have hrow6 : rowOf (.slice (some ⟨g6, o6, none⟩) ks3.length c3) = some g6 := by
      obtain ⟨c4, rfl⟩ : ∃ c4, c3 = c4 + 1 := ⟨c3 - 1, by omega⟩
      rfl
     have HK0 := Lib.hid (show w6.drew.cell? ⟨g6, o6 + i, none⟩ = some (.string k1) from hcl6)
     have HALL := Lib.hid (show ∀ u : World, Below (BD + 1) w6.drew u → (∀ b, (rowOf (.slice (some ⟨g6, o6, none⟩) ks3.length c3) = some b ∨ b = BM) → u.heap[b]? = w6.drew.heap[b]?) → u.cell? ⟨g6, o6 + i, none⟩ = some (.string k1) from fun u _ hk => by
      have e : u.heap[(⟨g6, o6 + i, none⟩ : Addr).block]? = w6.drew.heap[(⟨g6, o6 + i, none⟩ : Addr).block]? := hk g6 (.inl hrow6)
      exact (World.cell?_of_block e).trans hcl6)
     have HSD := Lib.hid (show g6 ≠ BD from (hnv g6 hrow6).1)
     have HKS := Lib.hid (And.intro (show w6.drew.cell? ⟨BD, 1, none⟩ = some vA from hd6.cellA) (show w6.drew.cell? ⟨BD, 2, none⟩ = some vN from hd6.cellN))
     have HAL := Lib.hid (show accs.length ≤ 1000000 ∧ rows.length ≤ 1000000 by
      have h1 := HEX6.out.accs
      have h2 := HEX6.out.rl
      have h3 := congrArg List.length h1
      rw [List.length_map, List.length_take] at h3
      omega)
     have HB10 := Lib.hid (show Below w.heap.size w w6.drew from HB6.out.trans (Below.refl _ _).drew)
     have HBB := Lib.hid (show w.heap.size ≤ BD + 1 by omega)
     have HRB6 := Lib.hid ((HON.out.block w.heap.size (heap_lt HRB5.out) (fun h => by
      rcases h with e | e | e
      ·
       exact HNR.out.2 e
      ·
       omega
      ·
       have := HBD.out; omega)).trans HRB5.out)
     have hi200 : i < 200 := by omega
     clear hown hnv hd6 hTZ hrow6 hcl6 hbrj hi6 hc30
     go_wp2_with fail
     refine wp_region_late (late := [16, 18]) (S1 := fun u => u.cell? ⟨g6, o6 + i, none⟩ = some (.string k1)) (S := fun u => u.cell? ⟨BD, 1, none⟩ = some vA ∧ u.cell? ⟨BD, 2, none⟩ = some vN) (by kernel_rfl) ?_
     refine wpAnyL_pure (i := 0) rfl (by kernel_rfl) (fun _ _ _ h => h) (Or.inl ⟨by rfl, (fun u hu => by go_simp; try rfl)⟩) HK0.out (fun _ => HKS.out) ?_
     simp only [Act.put, List.setIfInBounds_toArray, List.set_cons_zero, List.set_cons_succ, List.getElem_toArray, List.getElem_cons_zero, List.getElem_cons_succ]
     refine wpAnyL_take (i := 1) rfl (by kernel_rfl) (fun _ _ _ h => h) (Or.inl ⟨by rfl, (fun u hu => by obtain ⟨_, hu3, hu4⟩ := hu; go_simp; try rfl)⟩) HK0.out (fun _ => HKS.out) ?_
     simp only [Act.put, List.setIfInBounds_toArray, List.set_cons_zero, List.set_cons_succ, List.getElem_toArray, List.getElem_cons_zero, List.getElem_cons_succ]
     refine wpAnyL_pure (i := 2) rfl (by kernel_rfl) (fun _ _ _ h => h) (Or.inl ⟨by rfl, (fun u hu => by go_simp; try rfl)⟩) HK0.out (fun _ => HKS.out) ?_
     simp only [Act.put, List.setIfInBounds_toArray, List.set_cons_zero, List.set_cons_succ, List.getElem_toArray, List.getElem_cons_zero, List.getElem_cons_succ]
     refine wpAnyL_pure (i := 5) rfl (by kernel_rfl) (fun _ _ _ h => h) (Or.inl ⟨by rfl, (fun u hu => by go_simp; try rfl)⟩) HK0.out (fun _ => HKS.out) ?_
     simp only [Act.put, List.setIfInBounds_toArray, List.set_cons_zero, List.set_cons_succ, List.getElem_toArray, List.getElem_cons_zero, List.getElem_cons_succ]
     refine wpAnyL_take (i := 6) rfl (by kernel_rfl) (fun _ _ _ h => h) (Or.inl ⟨by rfl, (fun u hu => by obtain ⟨_, hu3, hu4⟩ := hu; go_simp; try rfl)⟩) HK0.out (fun _ => HKS.out) ?_
     simp only [Act.put, List.setIfInBounds_toArray, List.set_cons_zero, List.set_cons_succ, List.getElem_toArray, List.getElem_cons_zero, List.getElem_cons_succ]
     refine wpAnyL_pure (i := 7) rfl (by kernel_rfl) (fun _ _ _ h => h) (Or.inl ⟨by rfl, (fun u hu => by go_simp; try rfl)⟩) HK0.out (fun _ => HKS.out) ?_
     simp only [Act.put, List.setIfInBounds_toArray, List.set_cons_zero, List.set_cons_succ, List.getElem_toArray, List.getElem_cons_zero, List.getElem_cons_succ]
     refine wpAnyL_pure (i := 8) rfl (by kernel_rfl) (fun _ _ _ h => h) (Or.inl ⟨by rfl, (fun u hu => by go_simp; try rfl)⟩) HK0.out (fun _ => HKS.out) ?_
     simp only [Act.put, List.setIfInBounds_toArray, List.set_cons_zero, List.set_cons_succ, List.getElem_toArray, List.getElem_cons_zero, List.getElem_cons_succ]
     refine wpAnyL_pure (i := 9) rfl (by kernel_rfl) (fun _ _ _ h => h) (Or.inl ⟨by rfl, (fun u hu => by go_simp; try rfl)⟩) HK0.out (fun _ => HKS.out) ?_
     simp only [Act.put, List.setIfInBounds_toArray, List.set_cons_zero, List.set_cons_succ, List.getElem_toArray, List.getElem_cons_zero, List.getElem_cons_succ]
     refine wpAnyL_pure (i := 10) rfl (by kernel_rfl) (fun _ _ _ h => h) (Or.inl ⟨by rfl, (fun u hu => by go_simp; try rfl)⟩) HK0.out (fun _ => HKS.out) ?_
     simp only [Act.put, List.setIfInBounds_toArray, List.set_cons_zero, List.set_cons_succ, List.getElem_toArray, List.getElem_cons_zero, List.getElem_cons_succ]
     refine wpAnyL_pure (i := 11) rfl (by kernel_rfl) (fun _ _ _ h => h) (Or.inl ⟨by rfl, (fun u hu => by go_simp; try rfl)⟩) HK0.out (fun _ => HKS.out) ?_
     simp only [Act.put, List.setIfInBounds_toArray, List.set_cons_zero, List.set_cons_succ, List.getElem_toArray, List.getElem_cons_zero, List.getElem_cons_succ]
     refine wpAnyL_ready (rs := [3]) (by kernel_rfl) (by simp) ?_
     refine AllL.cons rfl (fun K hK => ?_) ?_
     ·
      go_simp
      have HT1 := Lib.hid (HT0.out.allocN _ (by first | exact World.size_alloc _ _ | rfl) 22)
      refine hK.out _ _ (HALL.out _ HT1.out.below HT1.out.keep) (fun _ => ⟨HT1.out.two.cellA, HT1.out.two.cellN⟩) ?_
      clear hK K
      refine wpAnyL_ready (rs := [4]) (by kernel_rfl) (by simp) ?_
      refine AllL.cons rfl (fun K hK => ?_) ?_
      ·
       obtain ⟨u2, w2, hrun, ⟨A2, c2, rfl⟩, hT⟩ := HT1.out.appN HAL.out.2
       have HT2 := Lib.hid hT
       have HR2 := Lib.hid hrun
       clear hT hrun
       refine step_append_run _ (by rfl) _ _ _ _ (by rfl) _ _ (by rfl) (by rfl) _ _ HR2.out ?_
       simp only [Act.put, List.setIfInBounds_toArray, List.set_cons_zero, List.set_cons_succ, List.getElem_toArray, List.getElem_cons_zero, List.getElem_cons_succ]
       refine hK.out _ _ (HALL.out _ HT2.out.below HT2.out.keep) (fun _ => ⟨HT2.out.two.cellA, HT2.out.two.cellN⟩) ?_
       clear hK K
       refine wpAnyL_pure (i := 15) rfl (by kernel_rfl) (fun _ _ _ h => h) (Or.inl ⟨by rfl, (fun u hu => by go_simp; try rfl)⟩) (HALL.out _ HT2.out.below HT2.out.keep) (fun _ => ⟨HT2.out.two.cellA, HT2.out.two.cellN⟩) ?_
       simp only [Act.put, List.setIfInBounds_toArray, List.set_cons_zero, List.set_cons_succ, List.getElem_toArray, List.getElem_cons_zero, List.getElem_cons_succ]
       refine wpAnyL_ready (rs := [12]) (by kernel_rfl) (by simp) ?_
       refine AllL.cons rfl (fun K hK => ?_) ?_
       ·
        go_simp
        refine (HTA.out _ (HB10.out.trans (HT2.out.below.mono HBB.out)) k1 HGK1.out).mono ?_
        rintro e u3 ⟨rfl, hb3⟩
        have HT3 := Lib.hid (HT2.out.step hb3)
        clear hb3
        refine hK.out _ _ (HALL.out _ HT3.out.below HT3.out.keep) (fun _ => ⟨HT3.out.two.cellA, HT3.out.two.cellN⟩) ?_
        clear hK K
        refine wpAnyL_ready (rs := [13]) (by kernel_rfl) (by simp) ?_
        refine AllL.cons rfl (fun K hK => ?_) ?_
        ·
         go_simp
         have HT4 := Lib.hid (HT3.out.allocA _ (by first | exact World.size_alloc _ _ | rfl) 3)
         refine hK.out _ _ (HALL.out _ HT4.out.below HT4.out.keep) (fun _ => ⟨HT4.out.two.cellA, HT4.out.two.cellN⟩) ?_
         clear hK K
         refine wpAnyL_ready (rs := [14]) (by kernel_rfl) (by simp) ?_
         refine AllL.cons rfl (fun K hK => ?_) ?_
         ·
          obtain ⟨u5, w5, hrun, ⟨A5, c5, rfl⟩, hT⟩ := HT4.out.appA HAL.out.1
          have HT5 := Lib.hid hT
          have HR5 := Lib.hid hrun
          clear hT hrun
          refine step_append_run _ (by rfl) _ _ _ _ (by rfl) _ _ (by rfl) (by rfl) _ _ HR5.out ?_
          simp only [Act.put, List.setIfInBounds_toArray, List.set_cons_zero, List.set_cons_succ, List.getElem_toArray, List.getElem_cons_zero, List.getElem_cons_succ]
          refine hK.out _ _ (HALL.out _ HT5.out.below HT5.out.keep) (fun _ => ⟨HT5.out.two.cellA, HT5.out.two.cellN⟩) ?_
          clear hK K
          refine wpAnyL_ready (rs := [16]) (by kernel_rfl) (by simp) ?_
          refine AllL.cons rfl (fun K hK => ?_) ?_
          ·
           have hc := HT5.out.two.cellN
           have hf := HT5.out.two.fr 2
           go_simp
           clear hc hf
           refine hK.out _ _ (setOther _ (p := ⟨BD, 2, none⟩) (HALL.out _ HT5.out.below HT5.out.keep) HSD.out) (fun h => absurd (h 16 (by simp)) (by decide)) ?_
           clear hK K
           refine wpAnyL_pure (i := 17) rfl (by kernel_rfl) (fun _ _ _ h => h) (Or.inl ⟨by rfl, (fun u hu => by go_simp; try rfl)⟩) (setOther _ (p := ⟨BD, 2, none⟩) (HALL.out _ HT5.out.below HT5.out.keep) HSD.out) (fun h => absurd (h 16 (by simp)) (by decide)) ?_
           simp only [Act.put, List.setIfInBounds_toArray, List.set_cons_zero, List.set_cons_succ, List.getElem_toArray, List.getElem_cons_zero, List.getElem_cons_succ]
           refine wpAnyL_ready (rs := [18]) (by kernel_rfl) (by simp) ?_
           refine AllL.cons rfl (fun K hK => ?_) ?_
           ·
            have hc := fun u => setOther0 (u := u) (HT5.out.two.cellA) (HT5.out.two.fr 1)
            have hc1 := fun u => (hc u).1
            have hc2 := fun u => (hc u).2
            clear hc
            go_simp
            clear hc1 hc2
            refine hK.out _ _ (setOther _ (p := ⟨BD, 1, none⟩) (setOther _ (p := ⟨BD, 2, none⟩) (HALL.out _ HT5.out.below HT5.out.keep) HSD.out) HSD.out) (fun h => absurd (h 16 (by simp)) (by decide)) ?_
            clear hK K
            refine wpAnyL_done (by kernel_rfl) ?_ _
            have HD11 := Lib.hid HT5.out.done
            have HO11 := Lib.hid ((Only.drew w6 _).trans HT5.out.onlyX)
            go_wp2_with fail
            go_roundg (200 - (i + 1))
            case measure => rw [HGK.out]; omega
            case rel =>
             have hXX : ∀ b, ((BD + 1 ≤ b ∧ ¬ (rowOf (.slice (some ⟨g6, o6, none⟩) ks3.length c3) = some b ∨ b = BM)) ∨ b = BD) → b ≠ BM ∧ rowOf (.slice (some ⟨g6, o6, none⟩) ks3.length c3) ≠ some b ∧ b ≠ w.heap.size ∧ w.heap.size ≤ b := fun b hb => by
              rcases hb with ⟨h1, h2⟩ | h1
              ·
               exact ⟨fun e => h2 (.inr e), fun e => h2 (.inl e), by omega, by omega⟩
              ·
               exact ⟨by omega, fun e => (HNV.out b e).1 h1, by omega, by omega⟩
             exact ⟨i + 1, ks3, accs ++ [acc k1], rows ++ [r], _, _, _, by omega, rfl, by go_num, HK6.out.only HO11.out fun b hb => ⟨(hXX b hb).1, (hXX b hb).2.1⟩, HD11.out.1, HD11.out.2.1, ⟨fun e => (HNV.out _ e).1 rfl, fun e => (HNV.out _ e).2.1 rfl⟩, HEX6.out.next HKN.out HRL.out HRC.out,
              (HO11.out.block w.heap.size (heap_lt HRB6.out) fun hx => (hXX _ hx).2.2.1 rfl).trans HRB6.out, HB6.out.trans ⟨HO11.out.os, HO11.out.tape, HO11.out.output, HO11.out.size, fun b hb => HO11.out.block b (by have := HB6.out.size; omega) fun hx => by have := (hXX b hx).2.2.2; omega⟩⟩
           exact AllL.nil
          exact AllL.nil
         exact AllL.nil
        exact AllL.nil
       exact AllL.nil
      exact AllL.nil
     exact AllL.nil
  ·
   obtain rfl : ks.length = i := by omega
   obtain ⟨A1, c1, hvA, _, _⟩ := HD4.out.ownA.form
   obtain ⟨N1, c2, hvN, _, _⟩ := HD4.out.ownN.form
   subst hvA
   subst hvN
   have hq0 := HD4.out.cellS
   have hq1 := HD4.out.cellA
   have hq2 := HD4.out.cellN
   obtain ⟨hr0, hr1, hr2⟩ : w4.cell? ⟨w.heap.size, 0, none⟩ = some (.int .i64 0) ∧ w4.cell? ⟨w.heap.size, 1, none⟩ = some (.slice none 0 0) ∧ w4.cell? ⟨w.heap.size, 2, none⟩ = some (.slice none 0 0) := by simp [World.cell?, HRB.out]
   have hf0 : w4.frozen? ⟨w.heap.size, 0, none⟩ = false := by simp [World.frozen?, HRB.out]
   have hf1 : w4.frozen? ⟨w.heap.size, 1, none⟩ = false := by simp [World.frozen?, HRB.out]
   have hf2 : w4.frozen? ⟨w.heap.size, 2, none⟩ = false := by simp [World.frozen?, HRB.out]
   have hwd : w.heap.size < BD := by omega
   go_wp2_with fail
   refine bodyPost_ret (v := .tuple #[.agg #[.int .i64 0, .slice A1 accs.length c1, .slice N1 rows.length c2], .bool true]) (by simp [results, Tryz.results16, go_sem, hr0, hr1, hr2]) rfl ?_
   have hset : ∀ (u : World) (i : Nat) (v : Value), Only u (u.setCell ⟨w.heap.size, i, none⟩ v) (fun b => b = w.heap.size) := fun u i v => .set _ _ _ _ rfl
   obtain ⟨w9, hw9⟩ : ∃ w9 : World, w9 = ((w4.setCell ⟨w.heap.size, 0, none⟩ (.int .i64 0)).setCell ⟨w.heap.size, 1, none⟩ (.slice A1 accs.length c1)).setCell ⟨w.heap.size, 2, none⟩ (.slice N1 rows.length c2) := ⟨_, rfl⟩
   have hon : Only w4 w9 (fun b => b = w.heap.size) := by rw [hw9]; exact ((hset _ 0 _).trans (hset _ 1 _)).trans (hset _ 2 _)
   rw [← hw9]
   have hd9 := HD4.out.onlyX hon fun b hb => by
    subst hb
    refine ⟨by omega, fun e => ?_, fun e => ?_, fun i v hv e => ?_⟩
    ·
     have := (HD4.out.ownA.row e).1; omega
    ·
     have := (HD4.out.ownN.row e).1; omega
    ·
     obtain ⟨r', _, h2, _⟩ := HD4.out.rown i v hv
     have := (h2.row e).1; omega
   obtain ⟨k1, k2⟩ := hd9.sl
   exact ⟨.inr ⟨ks, accs, rows, A1, _, c1, N1, _, c2, rfl, k1.more fun b hb => by omega, k2.more fun b hb => by omega, HEX.out⟩, HB4.out.trans ⟨hon.os, hon.tape, hon.output, hon.size, fun b hb => hon.block b (by have := HB4.out.size; omega) (by omega)⟩⟩
end Go.Proofs.YtocbkccchnbmaaaGreat
