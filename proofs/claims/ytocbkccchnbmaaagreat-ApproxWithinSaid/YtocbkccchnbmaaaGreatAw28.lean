/- PartsNum StrB Word4 -/
import Derived.Carry
import Derived.Deep.LoopGhost
import Derived.Laws.EntriesVeiled
import Derived.Laws.IdiomStrings
import Derived.Test.YtocbkccchnbmaaaGreatAw01
import Derived.Test.YtocbkccchnbmaaaGreatAw03
import Derived.Test.YtocbkccchnbmaaaGreatAw06
import Derived.Test.YtocbkccchnbmaaaGreatAw12
import Derived.Test.YtocbkccchnbmaaaGreatAw25
import Derived.Test.YtocbkccchnbmaaaGreatAw27
namespace Go.Proofs.YtocbkccchnbmaaaGreat
open Go.RowKit
def numL {κ : Type} : Nat → List κ → List (κ × Value)
 | _, [] => []
 | i, x :: l => (x, .int .i64 (i : Int)) :: numL (i + 1) l
section
variable {κ : Type} [DecidableEq κ]
omit [DecidableEq κ] in
theorem numL_len : ∀ (i : Nat) (l : List κ), (numL i l).length = l.length
 | _, [] => rfl
 | i, x :: l => by simp [numL, numL_len (i + 1) l]
omit [DecidableEq κ] in
theorem numL_keys : ∀ (i : Nat) (l : List κ), (numL i l).map Prod.fst = l
 | _, [] => rfl
 | i, x :: l => by simp [numL, numL_keys (i + 1) l]
omit [DecidableEq κ] in
theorem numL_snoc (x : κ) : ∀ (i : Nat) (l : List κ), numL i (l ++ [x]) = numL i l ++ [(x, .int .i64 ((i + l.length : Nat) : Int))]
 | i, [] => rfl
 | i, y :: l => by
  rw [List.cons_append]
  show (y, _) :: numL (i + 1) (l ++ [x]) = _
  rw [numL_snoc x (i + 1) l, List.length_cons, show i + 1 + l.length = i + (l.length + 1) by omega]
  rfl
theorem lk_numL (x : κ) : ∀ (i : Nat) (l : List κ), lk (numL i l) x = if x ∈ l then some (.int .i64 ((i + l.idxOf x : Nat) : Int)) else none
 | i, [] => rfl
 | i, y :: l => by
  show (if y = x then some _ else lk (numL (i + 1) l) x) = _
  rw [lk_numL x (i + 1) l, List.idxOf_cons]
  by_cases h : y = x
  ·
   subst h; simp
  ·
   rw [if_neg h]
   by_cases h2 : x ∈ l
   ·
    rw [if_pos h2, if_pos (List.mem_cons_of_mem _ h2), beq_false_of_ne h]
    simp only [cond_false]
    congr 3
    omega
   ·
    rw [if_neg h2, if_neg (by simp [h2, Ne.symm h])]
end
theorem mapStr : Tryz.prog.underlying 101 = some (.map 9 3) := by kernel_rfl
abbrev KS : KeyRep Tryz.prog 9 ByteArray := strKeys Tryz.underlying9
theorem zeroI (u : World) : (zeroValue 3).run Tryz.prog u = .ok (.int .i64 0) u := by
 kernel_rfl
def TellsK (w0 : World) (lv : Nat → Prop) (K : Nat → ByteArray) (F : FuncId) (caps : Array Value) : Prop :=
 ∀ w, Below w0.heap.size w0 w → ∀ s, lv s → Calls Tryz.prog F (#[.int .i64 (s : Int)] ++ caps) w fun e w' => e = .returned (.string (K s)) ∧ Below w.heap.size w w'
def InB (wr : World) (B : Nat) (L : List Int) : Prop := wr.heap[B]? = some (.cells (L.map (Value.int .i64)).toArray 3 (0, 0))
theorem InB.at_ {wr : World} {B : Nat} {L : List Int} (h : InB wr B L) {i : Nat} (hi : i < L.length) : ∃ x, L[i]? = some x ∧ wr.cell? ⟨B, i, none⟩ = some (.int .i64 x) ∧ wr.frozen? ⟨B, i, none⟩ = false := by
 have h1 := List.getElem?_eq_getElem hi
 refine ⟨_, h1, ?_, by have h2 : wr.heap[B]? = _ := h; simp [World.frozen?, h2]⟩
 rw [cell_of_row _ _ i _ _ _ h]
 simp [h1]
theorem InB.set {wr : World} {B : Nat} {L : List Int} (h : InB wr B L) (i : Nat) (x : Int) : InB (wr.setCell ⟨B, i, none⟩ (.int .i64 x)) B (L.set i x) := by
 have := blk_set h i (.int .i64 x)
 rwa [set_map] at this
theorem InB.below {wr wr' : World} {B : Nat} {L : List Int} (h : InB wr B L) (hb : Below wr.heap.size wr wr') : InB wr' B L := (hb.block _ (heap_lt h)).trans h
def NumR (w : World) (lv : Nat → Prop) (K : Nat → ByteArray) (n Bp Bc : Nat) (w' : World) : Prop :=
 ∃ (w2 : World) (BN : Nat) (next : List Int) (ks : List ByteArray), Below w.heap.size w w2 ∧ w.heap.size ≤ BN ∧ InB w2 BN next ∧ NumInv lv K n n next ks ∧
  w' = (w2.setCell ⟨Bp, 0, none⟩ (.slice (some ⟨BN, 0, none⟩) n n)).setCell ⟨Bc, 0, none⟩ (.int .i64 (ks.length : Int))
set_option linter.unusedSimpArgs false in
set_option maxRecDepth 1000000 in
set_option maxHeartbeats 4000000 in
theorem partsNum (w : World) (Bp Bl Bc BL n : Nat) (L : List Bool) (AP : Option Addr) (cP : Nat) (c0 : Int)
    (hp : w.heap[Bp]? = some (.cells #[.slice AP n cP] 22 (0, 0))) (hl : w.heap[Bl]? = some (.cells #[.slice (some ⟨BL, 0, none⟩) n n] 68 (0, 0))) (hc : w.heap[Bc]? = some (.cells #[.int .i64 c0] 3 (0, 0)))
    (hL : LvB w BL L) (hn : L.length = n) (hn2 : n ≤ 200) (lv : Nat → Prop) (hlv : ∀ s, s < n → (L[s]? = some true ↔ lv s)) (K : Nat → ByteArray) (hK : ∀ s, (K s).size ≤ 1000) (F : FuncId) (caps : Array Value) (he : ∀ (args : Array Value) (u : World), (callFunc F args).run Tryz.prog u = .ok (.enter F args) u)
    (hF : TellsK w (fun s => s < n ∧ lv s) K F caps) :
    Calls Tryz.prog 65 #[.func (.func F) #[] caps, .pointer (some ⟨Bp, 0, none⟩), .pointer (some ⟨Bl, 0, none⟩), .pointer (some ⟨Bc, 0, none⟩)] w fun e w' => e = .returned (.tuple #[]) ∧ NumR w lv K n Bp Bc w' := by
 have hmk := fun W => tInts.make rfl n (by omega) (by omega) W
 simp only [made_intsA] at hmk
 have hmm := @run_makeMap Tryz.prog
 have lp := heap_lt hp
 have ll := heap_lt hl
 have lc := heap_lt hc
 have lL := hL.lt
 have kp : w.cell? ⟨Bp, 0, none⟩ = some (.slice AP n cP) := by simp [World.cell?, hp]
 obtain ⟨w1, hw1⟩ : ∃ w1 : World, w1 = (w.alloc (.map #[] 0)).alloc (.cells (Array.replicate n (Value.int .i64 0)) 3) := ⟨_, rfl⟩
 have hb1 : Below w.heap.size w w1 := by rw [hw1]; exact ((Below.refl _ _).alloc (Nat.le_refl _) _).alloc (by simp) _
 have hm1 : AMap KS w1 w.heap.size (numL 0 []) := by rw [hw1]; exact (AMap.made KS w).alloc _
 have hi1 : InB w1 (w.heap.size + 1) (List.replicate n 0) := by
  rw [hw1]
  unfold InB
  rw [show ((List.replicate n (0 : Int)).map (Value.int .i64)).toArray = Array.replicate n (Value.int .i64 0) by simp]
  exact heap_new _ _ _ (by simp)
 have HP := Lib.hid hp
 have HL := Lib.hid hl
 have HC := Lib.hid hc
 have HLB := Lib.hid hL
 have HLN := Lib.hid hn
 have HLV := Lib.hid hlv
 have HK := Lib.hid hK
 have HE := Lib.hid he
 have HF := Lib.hid hF
 have HW1 := Lib.hid hw1
 have HB1 := Lib.hid hb1
 have HM1 := Lib.hid hm1
 have HI1 := Lib.hid hi1
 clear hp hl hc hL hn hlv hK he hF hw1 hb1 hm1 hi1
 go_enter Tryz.func65, Tryz.ntmps65
 go_wp2_with fail
 rw [← HW1.out]
 clear hmk hmm kp
 obtain ⟨BN, hBN⟩ : ∃ BN, BN = w.heap.size + 1 := ⟨_, rfl⟩
 rw [← hBN] at HI1 ⊢
 have hBN0 : w.heap.size < BN := by omega
 clear hBN
 go_loopg [7, 8, 9, 10, 17] n (fun gk va vb vc vd vi wr => ∃ (k : Nat) (next : List Int) (ks : List ByteArray), k ≤ n ∧ gk = n - k ∧ vi = .int .i64 k ∧ NumInv lv K n k next ks ∧ AMap KS wr w.heap.size (numL 0 ks) ∧ InB wr BN next ∧ Below w.heap.size w wr)
 case atStart => exact ⟨0, _, [], Nat.zero_le _, rfl, rfl, NumInv.start _ _ _ _ (by simp), HM1.out, HI1.out, HB1.out⟩
 case round =>
  obtain ⟨k, next, ks, hk, hgk, rfl, hni, hm, hi, hb⟩ := hrel
  obtain ⟨w3, rfl⟩ : ∃ w3 : World, w3 = wr := ⟨_, rfl⟩
  have HGK := Lib.hid hgk
  have HNI := Lib.hid hni
  have HM := Lib.hid hm
  have HI := Lib.hid hi
  have HB := Lib.hid hb
  have hBNl := heap_lt hi
  have HBOX := Lib.hid (show ∀ u : World, Below w.heap.size w u → u.cell? ⟨Bp, 0, none⟩ = some (.slice AP n cP) ∧ u.cell? ⟨Bl, 0, none⟩ = some (.slice (some ⟨BL, 0, none⟩) n n) ∧ u.cell? ⟨Bc, 0, none⟩ = some (.int .i64 c0) ∧ (∀ q, u.frozen? ⟨Bp, q, none⟩ = false) ∧ (∀ q, u.frozen? ⟨Bc, q, none⟩ = false) from fun u hu => by
   have e1 := (hu.block _ lp).trans HP.out
   have e2 := (hu.block _ ll).trans HL.out
   have e3 := (hu.block _ lc).trans HC.out
   simp [World.cell?, World.frozen?, e1, e2, e3])
  clear hgk hni hm hi hb
  by_cases hlt : k < n
  ·
   obtain ⟨x0, hx0, hcx, hfx⟩ := HI.out.at_ (i := k) (by rw [HNI.out.len]; exact hlt)
   obtain ⟨b, hbk, hcb0, _⟩ := HLB.out.at_ (i := k) (by rw [HLN.out]; exact hlt)
   have hcb : w3.cell? ⟨BL, k, none⟩ = some (.bool b) := (HB.out.cell lL).trans hcb0
   obtain ⟨_, hcl, _⟩ := HBOX.out w3 HB.out
   have HI2 := Lib.hid (HI.out.set k (-1))
   have HB2 := Lib.hid (show Below w.heap.size w (w3.setCell ⟨BN, k, none⟩ (.int .i64 (-1))) from HB.out.setCell (by simp; omega) _)
   have HM2 := Lib.hid (HM.out.setCell (a := ⟨BN, k, none⟩) (by simp; omega) (.int .i64 (-1)))
   cases b with
   | false =>
    have HNK := Lib.hid (HNI.out.skip hlt (fun h => by rw [(HLV.out k hlt).2 h] at hbk; cases hbk))
    clear hx0 hbk hcb0
    go_wp2_with fail
    go_roundg (n - (k + 1))
    case measure => rw [HGK.out]; omega
    case rel => exact ⟨k + 1, _, ks, by omega, rfl, by go_num, HNK.out, HM2.out, HI2.out, HB2.out⟩
   | true =>
    have HLK := Lib.hid ((HLV.out k hlt).1 hbk)
    have hcall := HF.out (w3.setCell ⟨BN, k, none⟩ (.int .i64 (-1))) HB2.out k ⟨hlt, HLK.out⟩
    have he := HE.out
    clear hx0 hbk hcb0
    go_wp2_with fail
    refine hcall.mono ?_
    rintro e w4 ⟨rfl, hb4⟩
    have HB4 := Lib.hid (HB2.out.trans (hb4.mono HB2.out.size))
    have HM4 := Lib.hid (HM2.out.below hb4)
    have HI4 := Lib.hid (HI2.out.below hb4)
    have hkey : KS.ok (K k) := by
     show (K k).size ≤ maxLen
     have := HK.out k
     unfold maxLen
     omega
    have HKEY := Lib.hid hkey
    have hksl := HNI.out.le
    clear hcall hb4 he hcl hfx hcx hcb hkey
    by_cases hmem : K k ∈ ks
    ·
     obtain ⟨m, hlk, hnk⟩ : ∃ m : Nat, lk (numL 0 ks) (K k) = some (.int .i64 (m : Int)) ∧ NumInv lv K n (k + 1) (next.set k (m : Int)) ks := ⟨_, (by rw [lk_numL, if_pos hmem, Nat.zero_add]), HNI.out.old hlt HLK.out hmem⟩
     have HNK := Lib.hid hnk
     obtain ⟨x4, _, hcx4, hfx4⟩ := HI4.out.at_ (i := k) (by rw [List.length_set, HNI.out.len]; exact hlt)
     have HSET := Lib.hid (HI4.out.set k (m : Int))
     have HLK2 := Lib.hid hlk
     clear hmem hnk hlk
     go_wp2_with (at_lookup; first
      | (refine wpList_amap_ok _ rfl _ _ 101 rfl 3 mapStr zeroI w.heap.size _ rfl HM4.out (K k) rfl HKEY.out ?_; rw [HLK2.out])
      | (refine wpList_amap _ rfl _ _ 101 rfl 3 mapStr zeroI w.heap.size _ rfl HM4.out (K k) rfl HKEY.out ?_; rw [HLK2.out]))
     go_roundg (n - (k + 1))
     case measure => rw [HGK.out]; omega
     case rel => exact ⟨k + 1, _, ks, by omega, rfl, by go_num, by rw [List.set_set] at *; exact HNK.out, HM4.out.setCell (a := ⟨BN, k, none⟩) (by simp; omega) _, HSET.out, HB4.out.setCell (by simp; omega) _⟩
    ·
     have hlk : lk (numL 0 ks) (K k) = none := by rw [lk_numL, if_neg hmem]
     have HNK := Lib.hid (HNI.out.new hlt HLK.out hmem)
     have HLK2 := Lib.hid hlk
     have HKS := Lib.hid (show (K k) ∉ (numL 0 ks).map Prod.fst by rw [numL_keys]; exact hmem)
     clear hmem hlk
     have hl4 : (numL 0 ks).length < maxLen := by rw [numL_len]; unfold maxLen; omega
     have HL4 := Lib.hid hl4
     clear hl4
     go_wp2_with (first
      | (at_len; refine wpList_amap_len _ rfl _ 101 rfl 3 mapStr w.heap.size _ rfl HM4.out ?_; rw [numL_len])
      | (at_mapUpdate; refine wpList_amap_put _ rfl _ _ _ 101 rfl 3 mapStr w.heap.size _ rfl HM4.out (K k) rfl HKEY.out (.int .i64 (ks.length : Int)) rfl HL4.out ?_; intro w5 hm5 hg5
         rw [putL_new HKS.out] at hm5
         have HM5 := Lib.hid (show AMap KS w5 w.heap.size (numL 0 (ks ++ [K k])) by rw [numL_snoc, Nat.zero_add]; exact hm5)
         have HG5 := Lib.hid hg5
         have HI5 := Lib.hid (show InB w5 BN (next.set k (-1)) from (hg5.block BN (heap_lt HI4.out) (by simp; omega)).trans HI4.out)
         have HB5 := Lib.hid (show Below w.heap.size w w5 from HB4.out.grown hg5 HB4.out.size (fun q e => by injection e with e; omega))
         have HLK5 := Lib.hid (show lk (numL 0 (ks ++ [K k])) (K k) = some (.int .i64 (ks.length : Int)) by rw [numL_snoc, lk_append, HLK2.out, Nat.zero_add]; simp [lk])
         obtain ⟨x5, _, hcx5, hfx5⟩ := HI5.out.at_ (i := k) (by rw [List.length_set, HNI.out.len]; exact hlt)
         have HSET5 := Lib.hid (HI5.out.set k (ks.length : Int))
         clear hm5 hg5)
      | (at_lookup; first
       | (refine wpList_amap_ok _ rfl _ _ 101 rfl 3 mapStr zeroI w.heap.size _ rfl HM4.out (K k) rfl HKEY.out ?_; rw [HLK2.out])
       | (refine wpList_amap _ rfl _ _ 101 rfl 3 mapStr zeroI w.heap.size _ rfl HM5.out (K k) rfl HKEY.out ?_; rw [HLK5.out])))
     go_roundg (n - (k + 1))
     case measure => rw [HGK.out]; omega
     case rel => exact ⟨k + 1, _, ks ++ [K k], by omega, rfl, by go_num, by rw [List.set_set] at *; exact HNK.out, HM5.out.setCell (a := ⟨BN, k, none⟩) (by simp; omega) _, HSET5.out, HB5.out.setCell (by simp; omega) _⟩
  ·
   obtain rfl : k = n := by omega
   obtain ⟨hqp, _, hqc, hfp, hfc⟩ := HBOX.out w3 HB.out
   have hfp := hfp 0
   have hfc := hfc 0
   have hsz := HB.out.size
   have lp3 : Bp < w3.heap.size := by omega
   have lc3 : Bc < w3.heap.size := by omega
   have hne : Bp ≠ Bc := fun e => by
    have h1 := HP.out
    rw [e, HC.out] at h1
    simp at h1
   have hne2 : Bc ≠ Bp := Ne.symm hne
   go_wp2_with (at_len; refine wpList_amap_len _ rfl _ 101 rfl 3 mapStr w.heap.size _ rfl HM.out ?_; rw [numL_len])
   go_end0
   exact ⟨rfl, w3, BN, next, ks, HB.out, by omega, HI.out, HNI.out, rfl⟩
end Go.Proofs.YtocbkccchnbmaaaGreat
namespace Go.Proofs.YtocbkccchnbmaaaGreat
open Go.RowKit
def strOf (bs : List Int) : ByteArray := ⟨(bs.map fun z => UInt8.ofNat z.toNat).toArray⟩
theorem strOf_size (bs : List Int) : (strOf bs).size = bs.length := by simp [strOf, ByteArray.size]
def BytesOk (bs : List Int) : Prop := ∀ z ∈ bs, 0 ≤ z ∧ z < 256
theorem BytesOk.append {a b : List Int} (ha : BytesOk a) (hb : BytesOk b) : BytesOk (a ++ b) := fun z hz => by
 rcases List.mem_append.1 hz with h | h
 ·
  exact ha z h
 ·
  exact hb z h
theorem strOf_inj {a b : List Int} (ha : BytesOk a) (hb : BytesOk b) (h : strOf a = strOf b) : a = b := by
 have h1 : a.map (fun z => UInt8.ofNat z.toNat) = b.map (fun z => UInt8.ofNat z.toNat) := by
  have := congrArg (fun x : ByteArray => x.data.toList) h
  simpa [strOf] using this
 have h2 : ∀ l : List Int, BytesOk l → (l.map (fun z => UInt8.ofNat z.toNat)).map (fun u => (u.toNat : Int)) = l := by
  intro l hl
  rw [List.map_map]
  conv => rhs; rw [← List.map_id l]
  apply List.map_congr_left
  intro z hz
  have := hl z hz
  simp only [Function.comp, UInt8.toNat_ofNat', id]
  omega
 rw [← h2 a ha, ← h2 b hb, h1]
theorem run_bytes_string (w : World) (S : Nat → Prop) (A : Option Addr) (n c : Nat) (bs : List Int) (h : Rd w S 1 A n (bs.map (Value.int .u8))) (hb : BytesOk bs) (h0 : 0 < n) :
    (convert 63 9 (.slice A n c)).run Tryz.prog w = .ok (.string (strOf bs)) w := by
 obtain ⟨b, off, rfl, _, hc⟩ := h.2 h0
 have hl : bs.length = n := by simpa using h.1
 have hm : (bs.map fun z => UInt8.ofNat z.toNat).length = n := by simp [hl]
 have := run_convert_bytes_back (P := Tryz.prog) w 63 9 5 ⟨b, off, none⟩ c (bs.map fun z => UInt8.ofNat z.toNat) Tryz.underlying63 Tryz.underlying5 Tryz.underlying9 fun j hj => by
  have hj' : j < bs.length := by simpa using hj
  have hz := hb _ (List.getElem_mem hj')
  have h1 := hc j (.int .u8 bs[j]) (by rw [List.getElem?_map, List.getElem?_eq_getElem hj']; rfl)
  rw [Addr.add_lit, h1]
  simp only [List.getElem_map, UInt8.toNat_ofNat']
  congr 2
  omega
 rw [hm] at this
 exact this
end Go.Proofs.YtocbkccchnbmaaaGreat
namespace Go.Proofs.YtocbkccchnbmaaaGreat
open Go.RowKit
theorem tBytes : SlType Tryz.prog 63 5 1 1 (.int .u8 0) := ⟨by kernel_rfl, by kernel_rfl, by kernel_rfl, rfl, by decide⟩
def word4 (x : Int) : List Int := [x % 256, x / 256 % 256, x / 65536 % 256, x / 16777216 % 256]
theorem word4_inj {x y : Int} (hx : -1 ≤ x ∧ x < 2147483648) (hy : -1 ≤ y ∧ y < 2147483648) (h : word4 x = word4 y) : x = y := by
 simp only [word4, List.cons.injEq, and_true] at h
 omega
set_option linter.unusedSimpArgs false in
set_option maxRecDepth 100000 in
set_option maxHeartbeats 2000000 in
theorem partsWord (w : World) (base : Nat) (v : Value) (bs : List Int) (hv : Own w base 5 1 v bs.length (bs.map (Value.int .u8))) (hb : base ≤ w.heap.size) (hl : bs.length ≤ 1000000) (x : Int) :
    Calls Tryz.prog 66 #[v, .int .i64 x] w fun e w' => ∃ A c, e = .returned (.slice A (bs.length + 4) c) ∧ Own w' base 5 1 (.slice A (bs.length + 4) c) (bs.length + 4) ((bs ++ word4 x).map (Value.int .u8)) ∧ Below base w w' := by
 obtain ⟨A, c, rfl, hc, _⟩ := hv.form
 obtain ⟨v2, w2, hrun, ho2, hg, hrow⟩ := run_append_Own tBytes (w.alloc (.cells #[.int .u8 (x % 256), .int .u8 (x / 256 % 256), .int .u8 (x / 65536 % 256), .int .u8 (x / 16777216 % 256)] 5)) 63 base (.slice A bs.length c) bs.length (bs.map (Value.int .u8)) (hv.alloc _) (fun _ => True) (some ⟨w.heap.size, 0, none⟩) 4 4
  [.int .u8 (x % 256), .int .u8 (x / 256 % 256), .int .u8 (x / 65536 % 256), .int .u8 (x / 16777216 % 256)] (Rd.new w _ _ _ _ rfl trivial) (by intro u hu; simp at hu; rcases hu with rfl | rfl | rfl | rfl <;> rfl) (by unfold maxLen; omega) (by omega) (by simp; omega)
 obtain ⟨A2, c2, rfl, _, _⟩ := ho2.form
 have hb2 : Below base w w2 := ((Below.refl _ _).alloc hb _).trans (Below.own (Below.refl _ _) (hv.alloc _) hg (Nat.le_refl _) (by simp; omega))
 have HRUN := Lib.hid hrun
 have HO2 := Lib.hid (show Own w2 base 5 1 (.slice A2 (bs.length + 4) c2) (bs.length + 4) ((bs ++ word4 x).map (Value.int .u8)) by simpa [word4] using ho2)
 have HB2 := Lib.hid hb2
 clear hv hrun ho2 hg hrow hb2
 go_enter Tryz.func66, Tryz.ntmps66
 go_wp2_with (at_builtin; refine Lib.wpList_append_run _ rfl _ _ _ _ rfl _ _ rfl rfl _ _ HRUN.out ?_)
 go_ret
 exact ⟨A2, c2, rfl, HO2.out, HB2.out⟩
end Go.Proofs.YtocbkccchnbmaaaGreat
