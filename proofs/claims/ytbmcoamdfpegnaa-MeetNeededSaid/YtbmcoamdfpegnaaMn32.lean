/- StrB MkKey -/
import Derived.Laws.EntriesVeiled
import Derived.Laws.IdiomStrings
import Derived.Test.YtbmcoamdfpegnaaMn01
import Derived.Test.YtbmcoamdfpegnaaMn31
namespace Go.Proofs.Ytbmcoamdfpegnaa
open Go.RowKit
def strOf (bs : List Int) : ByteArray := ⟨(bs.map fun z => UInt8.ofNat z.toNat).toArray⟩
theorem strOf_size (bs : List Int) : (strOf bs).size = bs.length := by simp [strOf, ByteArray.size]
def BytesOk (bs : List Int) : Prop := ∀ z ∈ bs, 0 ≤ z ∧ z < 256
theorem BytesOk.append {a b : List Int} (ha : BytesOk a) (hb : BytesOk b) : BytesOk (a ++ b) := fun z hz => by
 rcases List.mem_append.1 hz with h | h
 ·
  exact ha z h
 ·
  exact hb z h
theorem run_bytes_string (w : World) (S : Nat → Prop) (A : Option Addr) (n c : Nat) (bs : List Int) (h : Rd w S 1 A n (bs.map (Value.int .u8))) (hb : BytesOk bs) (h0 : 0 < n) :
    (convert 118 9 (.slice A n c)).run Try.prog w = .ok (.string (strOf bs)) w := by
 obtain ⟨b, off, rfl, _, hc⟩ := h.2 h0
 have hl : bs.length = n := by simpa using h.1
 have hm : (bs.map fun z => UInt8.ofNat z.toNat).length = n := by simp [hl]
 have := run_convert_bytes_back (P := Try.prog) w 118 9 5 ⟨b, off, none⟩ c (bs.map fun z => UInt8.ofNat z.toNat) Try.underlying118 Try.underlying5 Try.underlying9 fun j hj => by
  have hj' : j < bs.length := by simpa using hj
  have hz := hb _ (List.getElem_mem hj')
  have h1 := hc j (.int .u8 bs[j]) (by rw [List.getElem?_map, List.getElem?_eq_getElem hj']; rfl)
  rw [Addr.add_lit, h1]
  simp only [List.getElem_map, UInt8.toNat_ofNat']
  congr 2
  omega
 rw [hm] at this
 exact this
end Go.Proofs.Ytbmcoamdfpegnaa
namespace Go.Proofs.Ytbmcoamdfpegnaa
open Go.RowKit Go.Maps
theorem tBytesM : SlType Try.prog 118 5 1 1 (.int .u8 0) := ⟨by kernel_rfl, by kernel_rfl, by kernel_rfl, rfl, by decide⟩
def keyD (t : TriD) (rule : Nat) (st : List Nat) : List Int := [(t.1 : Int), (t.2.1 : Int), (t.2.2 : Int), (rule : Int)] ++ st.map fun x : Nat => (x : Int)
theorem keyD_ok {t : TriD} {rule : Nat} {st : List Nat} (h1 : t.1 < 256) (h2 : t.2.1 < 256) (h3 : t.2.2 < 256) (h4 : rule < 256) (h5 : ∀ x ∈ st, x < 256) : BytesOk (keyD t rule st) := fun z hz => by
 rcases List.mem_append.1 hz with h | h
 ·
  simp only [List.mem_cons, List.not_mem_nil, or_false] at h
  rcases h with rfl | rfl | rfl | rfl <;> omega
 ·
  obtain ⟨x, hx, rfl⟩ := List.mem_map.1 h
  have := h5 x hx
  omega
set_option linter.unusedSimpArgs false in
set_option maxRecDepth 100000 in
set_option maxHeartbeats 4000000 in
theorem mkKey (w : World) (t : TriD) (h1 : t.1 < 256) (h2 : t.2.1 < 256) (h3 : t.2.2 < 256) (rule : Nat) (h4 : rule < 256) (S : Nat → Prop) (A : Option Addr) (n c : Nat) (st : List Nat) (hs : Sl Rep.int w S A n c (st.map fun x : Nat => (x : Int))) (h5 : ∀ x ∈ st, x < 256) (h6 : n ≤ 1000) :
    Calls Try.prog 42 #[.agg #[.int .i64 (t.1 : Int), .int .i64 (t.2.1 : Int), .int .i64 (t.2.2 : Int)], .int .i64 (rule : Int), .slice A n c] w fun e w' => e = .returned (.string (strOf (keyD t rule st))) ∧ Below w.heap.size w w' := by
 obtain ⟨tq, ta, tp⟩ := t
 simp only at h1 h2 h3 ⊢
 have HOK := Lib.hid (keyD_ok (t := (tq, ta, tp)) (rule := rule) (st := st) h1 h2 h3 h4 h5)
 have HSL := Lib.hid hs.fit
 have HST := Lib.hid h5
 have HLN := Lib.hid hs.len
 obtain ⟨w1, hw1⟩ : ∃ w1 : World, w1 = w.alloc (.cells #[.int .i64 (tq : Int), .int .i64 (ta : Int), .int .i64 (tp : Int)] 92) := ⟨_, rfl⟩
 have q1 : (tq : Int) % 256 = (tq : Int) := by omega
 have q2 : (ta : Int) % 256 = (ta : Int) := by omega
 have q3 : (tp : Int) % 256 = (tp : Int) := by omega
 have q4 : (rule : Int) % 256 = (rule : Int) := by omega
 clear hs h5
 go_enter Try.func42, Try.ntmps42
 go_wp2_with fail
 clear q1 q2 q3 q4
 have HO0 := Lib.hid (show Own (w1.alloc (.cells #[.int .u8 (tq : Int), .int .u8 (ta : Int), .int .u8 (tp : Int), .int .u8 (rule : Int)] 5)) w1.heap.size 5 1 (.slice (some ⟨w1.heap.size, 0, none⟩) 4 4) (4 + 0) ((keyD (tq, ta, tp) rule (st.take 0)).map (Value.int .u8)) from
  .inl (World.ownsRow_lit (e := 5) (size := 1) (base := w1.heap.size) w1 #[.int .u8 (tq : Int), .int .u8 (ta : Int), .int .u8 (tp : Int), .int .u8 (rule : Int)] 4 (Nat.le_refl _) (by unfold maxLen; omega) (by simp)))
 have hz1 : w1.heap.size = w.heap.size + 1 := by rw [hw1]; simp
 have HB1 := Lib.hid (show Below w.heap.size w w1 by rw [hw1]; exact (Below.refl _ _).alloc (Nat.le_refl _) _)
 have HB2 := Lib.hid (show Below w1.heap.size w1 (w1.alloc (.cells #[.int .u8 (tq : Int), .int .u8 (ta : Int), .int .u8 (tp : Int), .int .u8 (rule : Int)] 5)) from (Below.refl _ _).alloc (Nat.le_refl _) _)
 rw [← hw1, ← hz1]
 clear hz1 hw1
 go_loopg [7, 24] n (fun gk v7 v24 wr => ∃ k : Nat, k ≤ n ∧ gk = n - k ∧ v24 = .int .i64 k ∧ Own wr w1.heap.size 5 1 v7 (4 + k) ((keyD (tq, ta, tp) rule (st.take k)).map (Value.int .u8)) ∧ Below w1.heap.size w1 wr)
 case atStart => exact ⟨0, Nat.zero_le _, rfl, rfl, HO0.out, HB2.out⟩
 case round =>
  obtain ⟨k, hk, hgk, rfl, how, hb⟩ := hrel
  obtain ⟨w2, rfl⟩ : ∃ w2 : World, w2 = wr := ⟨_, rfl⟩
  obtain ⟨A2, c2, hv, hc2, _⟩ := how.form
  subst hv
  have HGK := Lib.hid hgk
  have HO := Lib.hid how
  have HB := Lib.hid hb
  clear hgk how hb HO0
  by_cases hkl : k < n
  ·
   have hkI : (k : Int) < (n : Int) := by omega
   have hk0 : (0 : Int) ≤ (k : Int) := by omega
   have hsl := (HSL.out.keep (.belowB HB1.out fun b hb => hb.2)).keep (w' := w2) (.belowB HB.out fun b hb => by have := hb.2; have := HB1.out.size; omega)
   obtain ⟨bs, os, y, hA, _, hy, hcy⟩ := hsl.ints.int_at hkl
   subst hA
   have hxk : st[k]? = some (st[k]'(by have := HLN.out; rw [List.length_map] at this; omega)) := List.getElem?_eq_getElem _
   generalize st[k]'(by have := HLN.out; rw [List.length_map] at this; omega) = x at hxk
   have hyx : y = (x : Int) := by
    rw [List.getElem?_map, hxk] at hy
    simpa using hy.symm
   subst hyx
   have hx := HST.out x (List.mem_of_getElem? hxk)
   have q1 : (x : Int) % 256 = (x : Int) := by omega
   have htk : keyD (tq, ta, tp) rule (st.take (k + 1)) = keyD (tq, ta, tp) rule (st.take k) ++ [(x : Int)] := by
    unfold keyD
    rw [List.take_add_one, hxk, List.map_append]
    simp
   obtain ⟨v4, w4, hrun, ho4, hg4, hrow4⟩ := run_append_Own tBytesM (w2.alloc (.cells #[.int .u8 (x : Int)] 5)) 118 w1.heap.size _ _ _ (HO.out.alloc _) (fun _ => True) (some ⟨w2.heap.size, 0, none⟩) 1 1 [.int .u8 (x : Int)] (Rd.new w2 _ _ [.int .u8 (x : Int)] _ rfl trivial) (by intro u hu; obtain rfl := List.mem_singleton.1 hu; rfl) (by unfold maxLen; omega) (by omega) (by have := HB.out.size; simp; omega)
   obtain ⟨A4, c4, rfl, _, _⟩ := ho4.form
   have hb4 : Below w1.heap.size w1 w4 := HB.out.trans (((Below.refl _ _).alloc HB.out.size _).trans (Below.own (Below.refl _ _) (HO.out.alloc _) hg4 (Nat.le_refl _) (by have := HB.out.size; simp; omega)))
   have HO4 := Lib.hid (show Own w4 w1.heap.size 5 1 (.slice A4 (4 + k + 1) c4) (4 + (k + 1)) ((keyD (tq, ta, tp) rule (st.take (k + 1))).map (Value.int .u8)) by
    rw [htk, List.map_append]
    exact ho4)
   have HB4 := Lib.hid hb4
   have HRUN := Lib.hid hrun
   clear hrun ho4 hg4 hrow4 hb4 htk hsl hy hxk hx
   go_wp2_with (at_builtin; refine Lib.wpList_append_run (o := ⟨some 32, _, _, _, _, _⟩) _ rfl _ _ _ _ rfl _ _ rfl rfl _ _ HRUN.out ?_)
   go_roundg (n - (k + 1))
   case measure => rw [HGK.out]; omega
   case rel => exact ⟨k + 1, by omega, rfl, by go_num, HO4.out, HB4.out⟩
  ·
   obtain rfl : n = k := by omega
   have htk : st.take n = st := List.take_of_length_le (by have := HLN.out; rw [List.length_map] at this; omega)
   have hcv := run_bytes_string w2 _ A2 (4 + n) c2 (keyD (tq, ta, tp) rule st) (by have := HO.out.rd; rwa [htk] at this) HOK.out (by omega)
   go_wp2_with fail
   go_ret
   exact ⟨rfl, HB1.out.trans (HB.out.mono HB1.out.size)⟩
end Go.Proofs.Ytbmcoamdfpegnaa
