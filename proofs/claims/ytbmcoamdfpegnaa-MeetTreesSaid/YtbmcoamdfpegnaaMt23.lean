/- StrB MkKey CloInt MkInstP -/
import Derived.Laws.EntriesVeiled
import Derived.Laws.IdiomStrings
import Derived.LoopTactic
import Derived.Outline
import Derived.Test.YtbmcoamdfpegnaaMt01
import Derived.Test.YtbmcoamdfpegnaaMt03
import Derived.Test.YtbmcoamdfpegnaaMt12
import Derived.Test.YtbmcoamdfpegnaaMt22
import Derived.WalkSpells
namespace Go.Proofs.Ytbmcoamdfpegnaa
open Go.RowKit
def strOf (bs : List Int) : ByteArray := ⟨(bs.map fun z => UInt8.ofNat z.toNat).toArray⟩
theorem strOf_size (bs : List Int) : (strOf bs).size = bs.length := by simp [strOf, ByteArray.size]
def BytesOk (bs : List Int) : Prop := ∀ z ∈ bs, 0 ≤ z ∧ z < 256
theorem strOf_inj {a b : List Int} (ha : BytesOk a) (hb : BytesOk b) (h : strOf a = strOf b) : a = b := by
 have h1 : a.map (fun z => UInt8.ofNat z.toNat) = b.map (fun z => UInt8.ofNat z.toNat) := by
  have := congrArg (fun x : ByteArray => x.data.toList) h
  simpa [strOf] using this
 have h2 : ∀ l : List Int, BytesOk l → (l.map (fun z => UInt8.ofNat z.toNat)).map (fun u => (u.toNat : Int)) = l := by
  intro l hl
  rw [List.map_map]
  conv => rhs; rw [← List.map_id l]
  apply List.map_congr_left
  intro z hz
  have := hl z hz
  simp only [Function.comp, UInt8.toNat_ofNat', id]
  omega
 rw [← h2 a ha, ← h2 b hb, h1]
theorem run_bytes_string (w : World) (S : Nat → Prop) (A : Option Addr) (n c : Nat) (bs : List Int) (h : Rd w S 1 A n (bs.map (Value.int .u8))) (hb : BytesOk bs) (h0 : 0 < n) :
    (convert 118 9 (.slice A n c)).run Try.prog w = .ok (.string (strOf bs)) w := by
 obtain ⟨b, off, rfl, _, hc⟩ := h.2 h0
 have hl : bs.length = n := by simpa using h.1
 have hm : (bs.map fun z => UInt8.ofNat z.toNat).length = n := by simp [hl]
 have := run_convert_bytes_back (P := Try.prog) w 118 9 5 ⟨b, off, none⟩ c (bs.map fun z => UInt8.ofNat z.toNat) Try.underlying118 Try.underlying5 Try.underlying9 fun j hj => by
  have hj' : j < bs.length := by simpa using hj
  have hz := hb _ (List.getElem_mem hj')
  have h1 := hc j (.int .u8 bs[j]) (by rw [List.getElem?_map, List.getElem?_eq_getElem hj']; rfl)
  rw [Addr.add_lit, h1]
  simp only [List.getElem_map, UInt8.toNat_ofNat']
  congr 2
  omega
 rw [hm] at this
 exact this
end Go.Proofs.Ytbmcoamdfpegnaa
namespace Go.Proofs.Ytbmcoamdfpegnaa
open Go.RowKit Go.Maps
theorem tBytesM : SlType Try.prog 118 5 1 1 (.int .u8 0) := ⟨by kernel_rfl, by kernel_rfl, by kernel_rfl, rfl, by decide⟩
def keyD (t : TriD) (rule : Nat) (st : List Nat) : List Int := [(t.1 : Int), (t.2.1 : Int), (t.2.2 : Int), (rule : Int)] ++ st.map fun x : Nat => (x : Int)
theorem keyD_ok {t : TriD} {rule : Nat} {st : List Nat} (h1 : t.1 < 256) (h2 : t.2.1 < 256) (h3 : t.2.2 < 256) (h4 : rule < 256) (h5 : ∀ x ∈ st, x < 256) : BytesOk (keyD t rule st) := fun z hz => by
 rcases List.mem_append.1 hz with h | h
 ·
  simp only [List.mem_cons, List.not_mem_nil, or_false] at h
  rcases h with rfl | rfl | rfl | rfl <;> omega
 ·
  obtain ⟨x, hx, rfl⟩ := List.mem_map.1 h
  have := h5 x hx
  omega
set_option linter.unusedSimpArgs false in
set_option maxRecDepth 100000 in
set_option maxHeartbeats 4000000 in
theorem mkKey (w : World) (t : TriD) (h1 : t.1 < 256) (h2 : t.2.1 < 256) (h3 : t.2.2 < 256) (rule : Nat) (h4 : rule < 256) (S : Nat → Prop) (A : Option Addr) (n c : Nat) (st : List Nat) (hs : Sl Rep.int w S A n c (st.map fun x : Nat => (x : Int))) (h5 : ∀ x ∈ st, x < 256) (h6 : n ≤ 1000) :
    Calls Try.prog 42 #[.agg #[.int .i64 (t.1 : Int), .int .i64 (t.2.1 : Int), .int .i64 (t.2.2 : Int)], .int .i64 (rule : Int), .slice A n c] w fun e w' => e = .returned (.string (strOf (keyD t rule st))) ∧ Below w.heap.size w w' := by
 obtain ⟨tq, ta, tp⟩ := t
 simp only at h1 h2 h3 ⊢
 have HOK := Lib.hid (keyD_ok (t := (tq, ta, tp)) (rule := rule) (st := st) h1 h2 h3 h4 h5)
 have HSL := Lib.hid hs.fit
 have HST := Lib.hid h5
 have HLN := Lib.hid hs.len
 obtain ⟨w1, hw1⟩ : ∃ w1 : World, w1 = w.alloc (.cells #[.int .i64 (tq : Int), .int .i64 (ta : Int), .int .i64 (tp : Int)] 92) := ⟨_, rfl⟩
 have q1 : (tq : Int) % 256 = (tq : Int) := by omega
 have q2 : (ta : Int) % 256 = (ta : Int) := by omega
 have q3 : (tp : Int) % 256 = (tp : Int) := by omega
 have q4 : (rule : Int) % 256 = (rule : Int) := by omega
 clear hs h5
 go_enter Try.func42, Try.ntmps42
 go_wp2_with fail
 clear q1 q2 q3 q4
 have HO0 := Lib.hid (show Own (w1.alloc (.cells #[.int .u8 (tq : Int), .int .u8 (ta : Int), .int .u8 (tp : Int), .int .u8 (rule : Int)] 5)) w1.heap.size 5 1 (.slice (some ⟨w1.heap.size, 0, none⟩) 4 4) (4 + 0) ((keyD (tq, ta, tp) rule (st.take 0)).map (Value.int .u8)) from
  .inl (World.ownsRow_lit (e := 5) (size := 1) (base := w1.heap.size) w1 #[.int .u8 (tq : Int), .int .u8 (ta : Int), .int .u8 (tp : Int), .int .u8 (rule : Int)] 4 (Nat.le_refl _) (by unfold maxLen; omega) (by simp)))
 have hz1 : w1.heap.size = w.heap.size + 1 := by rw [hw1]; simp
 have HB1 := Lib.hid (show Below w.heap.size w w1 by rw [hw1]; exact (Below.refl _ _).alloc (Nat.le_refl _) _)
 have HB2 := Lib.hid (show Below w1.heap.size w1 (w1.alloc (.cells #[.int .u8 (tq : Int), .int .u8 (ta : Int), .int .u8 (tp : Int), .int .u8 (rule : Int)] 5)) from (Below.refl _ _).alloc (Nat.le_refl _) _)
 rw [← hw1, ← hz1]
 clear hz1 hw1
 go_loopg [7, 24] n (fun gk v7 v24 wr => ∃ k : Nat, k ≤ n ∧ gk = n - k ∧ v24 = .int .i64 k ∧ Own wr w1.heap.size 5 1 v7 (4 + k) ((keyD (tq, ta, tp) rule (st.take k)).map (Value.int .u8)) ∧ Below w1.heap.size w1 wr)
 case atStart => exact ⟨0, Nat.zero_le _, rfl, rfl, HO0.out, HB2.out⟩
 case round =>
  obtain ⟨k, hk, hgk, rfl, how, hb⟩ := hrel
  obtain ⟨w2, rfl⟩ : ∃ w2 : World, w2 = wr := ⟨_, rfl⟩
  obtain ⟨A2, c2, hv, hc2, _⟩ := how.form
  subst hv
  have HGK := Lib.hid hgk
  have HO := Lib.hid how
  have HB := Lib.hid hb
  clear hgk how hb HO0
  by_cases hkl : k < n
  ·
   have hkI : (k : Int) < (n : Int) := by omega
   have hk0 : (0 : Int) ≤ (k : Int) := by omega
   have hsl := (HSL.out.keep (.belowB HB1.out fun b hb => hb.2)).keep (w' := w2) (.belowB HB.out fun b hb => by have := hb.2; have := HB1.out.size; omega)
   obtain ⟨bs, os, y, hA, _, hy, hcy⟩ := hsl.ints.int_at hkl
   subst hA
   have hxk : st[k]? = some (st[k]'(by have := HLN.out; rw [List.length_map] at this; omega)) := List.getElem?_eq_getElem _
   generalize st[k]'(by have := HLN.out; rw [List.length_map] at this; omega) = x at hxk
   have hyx : y = (x : Int) := by
    rw [List.getElem?_map, hxk] at hy
    simpa using hy.symm
   subst hyx
   have hx := HST.out x (List.mem_of_getElem? hxk)
   have q1 : (x : Int) % 256 = (x : Int) := by omega
   have htk : keyD (tq, ta, tp) rule (st.take (k + 1)) = keyD (tq, ta, tp) rule (st.take k) ++ [(x : Int)] := by
    unfold keyD
    rw [List.take_add_one, hxk, List.map_append]
    simp
   obtain ⟨v4, w4, hrun, ho4, hg4, hrow4⟩ := run_append_Own tBytesM (w2.alloc (.cells #[.int .u8 (x : Int)] 5)) 118 w1.heap.size _ _ _ (HO.out.alloc _) (fun _ => True) (some ⟨w2.heap.size, 0, none⟩) 1 1 [.int .u8 (x : Int)] (Rd.new w2 _ _ [.int .u8 (x : Int)] _ rfl trivial) (by intro u hu; obtain rfl := List.mem_singleton.1 hu; rfl) (by unfold maxLen; omega) (by omega) (by have := HB.out.size; simp; omega)
   obtain ⟨A4, c4, rfl, _, _⟩ := ho4.form
   have hb4 : Below w1.heap.size w1 w4 := HB.out.trans (((Below.refl _ _).alloc HB.out.size _).trans (Below.own (Below.refl _ _) (HO.out.alloc _) hg4 (Nat.le_refl _) (by have := HB.out.size; simp; omega)))
   have HO4 := Lib.hid (show Own w4 w1.heap.size 5 1 (.slice A4 (4 + k + 1) c4) (4 + (k + 1)) ((keyD (tq, ta, tp) rule (st.take (k + 1))).map (Value.int .u8)) by
    rw [htk, List.map_append]
    exact ho4)
   have HB4 := Lib.hid hb4
   have HRUN := Lib.hid hrun
   clear hrun ho4 hg4 hrow4 hb4 htk hsl hy hxk hx
   go_wp2_with (at_builtin; refine Lib.wpList_append_run (o := ⟨some 32, _, _, _, _, _⟩) _ rfl _ _ _ _ rfl _ _ rfl rfl _ _ HRUN.out ?_)
   go_roundg (n - (k + 1))
   case measure => rw [HGK.out]; omega
   case rel => exact ⟨k + 1, by omega, rfl, by go_num, HO4.out, HB4.out⟩
  ·
   obtain rfl : n = k := by omega
   have htk : st.take n = st := List.take_of_length_le (by have := HLN.out; rw [List.length_map] at this; omega)
   have hcv := run_bytes_string w2 _ A2 (4 + n) c2 (keyD (tq, ta, tp) rule st) (by have := HO.out.rd; rwa [htk] at this) HOK.out (by omega)
   go_wp2_with fail
   go_ret
   exact ⟨rfl, HB1.out.trans (HB.out.mono HB1.out.size)⟩
end Go.Proofs.Ytbmcoamdfpegnaa
namespace Go.Proofs.Ytbmcoamdfpegnaa
open Go.RowKit
set_option maxHeartbeats 1000000 in
theorem cloneInt (A : Option Addr) (n c : Nat) (S : Nat → Prop) (xs : List Value) (w : World) (hr : Rd w S 1 A n xs) (hb : n * 8 ≤ 281474976710656) :
    Calls Try.prog 34 #[.slice A n c] w fun e w' => ∃ v, e = .returned v ∧ Own w' w.heap.size 3 1 v n xs ∧ Below w.heap.size w w' := by
 have HRD := Lib.hid hr
 clear hr
 cases A with
 | none =>
  have hq := fun W => Lib.run_eql_slice_nil (P := Try.prog) W 22
  go_enter Try.func34, Try.ntmps34
  go_wp2_with fail
  go_ret
  have hn : n = 0 := by
   rcases Nat.eq_zero_or_pos n with h0 | h0
   ·
    exact h0
   ·
    obtain ⟨b, off, h, _⟩ := HRD.out.2 h0
    cases h
  subst hn
  have hx : xs = [] := List.eq_nil_of_length_eq_zero (by simpa using HRD.out.1)
  subst hx
  exact ⟨_, rfl, Own.nil _ _ _ _ _, Below.refl _ _⟩
 | some a =>
  have hq := fun W => Lib.run_eql_slice_nil (P := Try.prog) W 22 3 (some a) n c 0 0 (by kernel_rfl)
  obtain ⟨v2, w2, hrun, ho, hg, _⟩ := run_append_fresh tInts (w.alloc (.cells #[] 3)) 22 w.heap.size (some ⟨w.heap.size, 0, none⟩) _ (some a) n c xs (HRD.out.alloc _) (by unfold maxLen; omega) (by omega) (by simp)
  have HRUN := Lib.hid hrun
  have HO := Lib.hid ho
  have HG := Lib.hid hg
  clear hrun ho hg
  go_enter Try.func34, Try.ntmps34
  go_wp2_with (at_builtin; refine Lib.wpList_append_run _ rfl _ _ _ _ rfl _ _ rfl rfl _ _ HRUN.out ?_)
  go_ret
  exact ⟨_, rfl, HO.out, ((Below.refl _ _).alloc (Nat.le_refl _) _).grown HG.out (by simp) (by simp)⟩
end Go.Proofs.Ytbmcoamdfpegnaa
namespace Go.Proofs.Ytbmcoamdfpegnaa
open Go.RowKit Go.Maps
theorem Only.newer {w w' w'' : World} {X Y : Nat → Prop} (h : Only w w' X) (h' : Only w' w'' Y) (hY : ∀ b, b < w.heap.size → Y b → X b) : Only w w'' X :=
 ⟨h'.os.trans h.os, h'.tape.trans h.tape, h'.output.trans h.output, Nat.le_trans h.size h'.size, fun b hb hx => (h'.block b (Nat.lt_of_lt_of_le hb h.size) fun hy => hx (hY b hb hy)).trans (h.block b hb hx)⟩
abbrev natI (l : List Nat) : List Int := l.map fun x : Nat => (x : Int)
structure ICtx where
 K : Nat
 XB : Nat → Prop
 f : FuncId
 caps : Array Value
 t : TriD
 rule : Nat
 rhs : List SymD
 Inv : (Nat → Prop) → List (List Nat) → World → Prop
 lim : Nat
def ICallR (I : ICtx) (F : Nat → Prop) (done : List (List Nat)) (qs : List Nat) (w : World) (e : Ending) (w' : World) : Prop :=
 ∃ F' : Nat → Prop, e = .returned (.bool (decide (done.length + 1 ≤ I.lim))) ∧ I.Inv F' (done ++ [qs]) w' ∧ Only w w' (fun b => I.XB b ∨ F b) ∧ ∀ b, F' b → F b ∨ w.heap.size ≤ b
structure ICtx.Ok (M : Mkr) (W : List TriD) (I : ICtx) : Prop where
 xb : ∀ b, I.XB b → b < I.K
 mb : M.Bm < I.K
 mw : M.Bw < I.K
 ms : ∀ b, M.S b → b < I.K ∧ ¬ I.XB b
 mkr : ∀ F done w, I.Inv F done w → M.In w W
 fit : ∀ F done w, I.Inv F done w → ∀ b, F b → b < w.heap.size
 msF : ∀ F done w, I.Inv F done w → ∀ b, M.S b → ¬ F b
 keep : ∀ F done w w' (Y : Nat → Prop), I.Inv F done w → Only w w' Y → (∀ b, Y b → b < w.heap.size → I.K ≤ b ∧ ¬ F b) → I.Inv F done w'
 enters : ∀ (args : Array Value) (u : World), (callFunc I.f args).run Try.prog u = .ok (.enter I.f args) u
 call : ∀ F done w (S : Nat → Prop) (A : Option Addr) (n c : Nat) (qs : List Nat), I.Inv F done w → done.length ≤ I.lim → Sl Rep.int w S A n c (natI qs) → (∀ b, S b → b < w.heap.size ∧ ¬ I.XB b ∧ ¬ F b) → qs ∈ instL M.d (inW W) I.t.2.2 I.rhs I.t.1 →
  Calls Try.prog I.f (#[.agg #[.int .i64 (I.t.1 : Int), .int .i64 (I.t.2.1 : Int), .int .i64 (I.t.2.2 : Int), .int .i64 (I.rule : Int), .slice A n c]] ++ I.caps) w (ICallR I F done qs w)
 tri : M.Tri I.t
 xm : ¬ I.XB M.Bm
 fm : ∀ F done w, I.Inv F done w → ¬ F M.Bm
structure WSt (M : Mkr) (I : ICtx) (F : Nat → Prop) (done : List (List Nat)) (u : World) : Prop where
 inv : I.Inv F done u
 b0 : u.heap[I.K]? = some (.cells #[.pointer (some ⟨M.Bm, 0, none⟩)] 71 (0, 0))
 b1 : u.heap[I.K + 1]? = some (.cells #[.int .i64 (I.t.1 : Int), .int .i64 (I.t.2.1 : Int), .int .i64 (I.t.2.2 : Int)] 92 (0, 0))
 b2 : u.heap[I.K + 2]? = some (.cells #[.int .i64 (I.rule : Int)] 3 (0, 0))
 b3 : u.heap[I.K + 3]? = some (.cells #[.func (.func I.f) #[] I.caps] 114 (0, 0))
 b4 : u.heap[I.K + 4]? = some (.cells #[.func (.func 83) #[] #[.pointer (some ⟨I.K + 1, 0, none⟩), .pointer (some ⟨I.K + 3, 0, none⟩), .pointer (some ⟨I.K + 2, 0, none⟩), .pointer (some ⟨I.K, 0, none⟩), .pointer (some ⟨I.K + 4, 0, none⟩)]] 133 (0, 0))
 off : ∀ b, F b → b < I.K ∨ I.K + 5 ≤ b
section
variable {M : Mkr} {W : List TriD} {I : ICtx} {F : Nat → Prop} {done : List (List Nat)} {u u' : World}
theorem WSt.only (hI : I.Ok M W) (h : WSt M I F done u) {Y : Nat → Prop} (ho : Only u u' Y) (hY : ∀ b, Y b → b < u.heap.size → I.K + 5 ≤ b ∧ ¬ F b) : WSt M I F done u' := by
 have hz := heap_lt h.b4
 have hn : ∀ b, b < I.K + 5 → ¬ Y b := fun b hb hy => by have := (hY b hy (by omega)).1; omega
 exact ⟨hI.keep _ _ _ _ Y h.inv ho fun b hb hl => ⟨by have := (hY b hb hl).1; omega, (hY b hb hl).2⟩,
  (ho.block _ (by omega) (hn _ (by omega))).trans h.b0, (ho.block _ (by omega) (hn _ (by omega))).trans h.b1, (ho.block _ (by omega) (hn _ (by omega))).trans h.b2, (ho.block _ (by omega) (hn _ (by omega))).trans h.b3, (ho.block _ (by omega) (hn _ (by omega))).trans h.b4, h.off⟩
theorem WSt.below (hI : I.Ok M W) (h : WSt M I F done u) (hb : Below u.heap.size u u') : WSt M I F done u' := h.only hI (Y := fun _ => False) (.of_below hb (Nat.le_refl _) _) fun _ hy => hy.elim
theorem WSt.called (hI : I.Ok M W) (h : WSt M I F done u) {F' : Nat → Prop} {qs : List Nat} (hi : I.Inv F' (done ++ [qs]) u') (ho : Only u u' (fun b => I.XB b ∨ F b)) (hF : ∀ b, F' b → F b ∨ u.heap.size ≤ b) : WSt M I F' (done ++ [qs]) u' := by
 have hz := heap_lt h.b4
 have hn : ∀ b, I.K ≤ b → b < I.K + 5 → ¬ (I.XB b ∨ F b) := fun b h1 h2 h3 => by
  rcases h3 with h3 | h3
  ·
   have := hI.xb b h3; omega
  ·
   have := h.off b h3; omega
 exact ⟨hi, (ho.block _ (by omega) (hn _ (by omega) (by omega))).trans h.b0, (ho.block _ (by omega) (hn _ (by omega) (by omega))).trans h.b1, (ho.block _ (by omega) (hn _ (by omega) (by omega))).trans h.b2, (ho.block _ (by omega) (hn _ (by omega) (by omega))).trans h.b3, (ho.block _ (by omega) (hn _ (by omega) (by omega))).trans h.b4,
  fun b hb => by
   rcases hF b hb with e | e
   ·
    exact h.off b e
   ·
    exact .inr (by omega)⟩
theorem WSt.cells (h : WSt M I F done u) : u.cell? ⟨I.K, 0, none⟩ = some (.pointer (some ⟨M.Bm, 0, none⟩)) ∧ u.cell? ⟨I.K + 1, 0, none⟩ = some (.int .i64 (I.t.1 : Int)) ∧ u.cell? ⟨I.K + 1, 1, none⟩ = some (.int .i64 (I.t.2.1 : Int)) ∧ u.cell? ⟨I.K + 1, 2, none⟩ = some (.int .i64 (I.t.2.2 : Int)) ∧ u.cell? ⟨I.K + 2, 0, none⟩ = some (.int .i64 (I.rule : Int)) ∧ u.cell? ⟨I.K + 3, 0, none⟩ = some (.func (.func I.f) #[] I.caps) ∧
    u.cell? ⟨I.K + 4, 0, none⟩ = some (.func (.func 83) #[] #[.pointer (some ⟨I.K + 1, 0, none⟩), .pointer (some ⟨I.K + 3, 0, none⟩), .pointer (some ⟨I.K + 2, 0, none⟩), .pointer (some ⟨I.K, 0, none⟩), .pointer (some ⟨I.K + 4, 0, none⟩)]) :=
 ⟨by simp [World.cell?, h.b0], by simp [World.cell?, h.b1], by simp [World.cell?, h.b1], by simp [World.cell?, h.b1], by simp [World.cell?, h.b2], by simp [World.cell?, h.b3], by simp [World.cell?, h.b4]⟩
end
def WalkR (M : Mkr) (I : ICtx) (u : World) (F : Nat → Prop) (done X : List (List Nat)) (e : Ending) (w' : World) : Prop :=
 ∃ F' : Nat → Prop, (∀ b, F' b → F b ∨ u.heap.size ≤ b) ∧ Only u w' (fun b => I.XB b ∨ F b) ∧
  ((e = .returned (.bool true) ∧ WSt M I F' (done ++ X) w' ∧ (X = [] ∨ done.length + X.length ≤ I.lim)) ∨ (e = .returned (.bool false) ∧ I.lim < done.length + X.length))
def WalkAt (M : Mkr) (W : List TriD) (I : ICtx) (l : List SymD) : Prop :=
 ∀ (u : World) (F : Nat → Prop) (done : List (List Nat)) (S1 : Nat → Prop) (A1 : Option Addr) (n1 c1 : Nat) (ini : List Nat) (q : Nat) (S2 : Nat → Prop) (A2 : Option Addr) (c2 : Nat),
  WSt M I F done u → done.length ≤ I.lim → Sl RSym u S1 A1 n1 c1 l → (∀ b, S1 b → b < u.heap.size ∧ ¬ I.XB b ∧ ¬ F b) → M.Syms l → l.length ≤ 100 →
  Sl Rep.int u S2 A2 (ini.length + 1) c2 (natI (ini ++ [q])) → (∀ b, S2 b → b < u.heap.size ∧ ¬ I.XB b ∧ ¬ F b) → q < M.n → ini.length + l.length ≤ 1000 →
  (∀ x ∈ instL M.d (inW W) I.t.2.2 l q, ini ++ x ∈ instL M.d (inW W) I.t.2.2 I.rhs I.t.1) →
  Calls Try.prog 83 #[.slice A1 n1 c1, .slice A2 (ini.length + 1) c2, .pointer (some ⟨I.K + 1, 0, none⟩), .pointer (some ⟨I.K + 3, 0, none⟩), .pointer (some ⟨I.K + 2, 0, none⟩), .pointer (some ⟨I.K, 0, none⟩), .pointer (some ⟨I.K + 4, 0, none⟩)] u
   (WalkR M I u F done ((instL M.d (inW W) I.t.2.2 l q).map (ini ++ ·)))
end Go.Proofs.Ytbmcoamdfpegnaa
