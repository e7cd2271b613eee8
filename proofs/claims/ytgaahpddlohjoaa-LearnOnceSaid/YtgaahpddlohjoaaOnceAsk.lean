/- parlkeep5.LearnOnce: the closure that counts the words that are asked for. -/
import Derived.Test.YtgaahpddlohjoaaLearnOf
import Derived.Test.YtgaahpddlohjoaaTDiff
namespace Go.Proofs.Ytgaahpddlohjoaa
open Go.RowKit Go.Maps

/-- a word's key, in letters -/
def letters (x : List Int) : List Int := x.map fun y => 97 + y
theorem letters_ok {x : List Int} (h : WOkT 16 x) : BytesOk (letters x) := fun z hz => by
  obtain ⟨y, hy, rfl⟩ := List.mem_map.1 hz
  have := h y hy
  omega
theorem letters_inj {x y : List Int} (h : letters x = letters y) : x = y := by
  unfold letters at h
  exact List.map_inj_right (fun a b e => by omega) |>.1 h
theorem keyS_inj {x y : List Int} (hx : WOkT 16 x) (hy : WOkT 16 y) (h : strOf (letters x) = strOf (letters y)) : x = y := letters_inj (strOf_inj (letters_ok hx) (letters_ok hy) h)
/-- the words that were counted: each once -/
def onceL (ws : List (List Int)) : List (ByteArray × Value) := ws.map fun x => (strOf (letters x), .int .i64 1)
theorem onceL_lk {ws : List (List Int)} (hw : ∀ x ∈ ws, WOkT 16 x) {x : List Int} (hx : WOkT 16 x) (hn : x ∉ ws) : lk (onceL ws) (strOf (letters x)) = none := by
  rw [lk_none, onceL, List.map_map, List.mem_map]
  rintro ⟨y, hy, e⟩
  exact hn (keyS_inj (hw y hy) hx e ▸ hy)
theorem onceL_put {ws : List (List Int)} (hw : ∀ x ∈ ws, WOkT 16 x) {x : List Int} (hx : WOkT 16 x) (hn : x ∉ ws) : putL (onceL ws) (strOf (letters x)) (.int .i64 1) = onceL (ws ++ [x]) := by
  rw [putL_new (lk_none.1 (onceL_lk hw hx hn))]
  simp [onceL]
theorem strOf_append (a b : List Int) : strOf a ++ strOf b = strOf (a ++ b) := by
  have : ∀ x y : ByteArray, x.data.toList = y.data.toList → x = y := fun x y h => by
    cases x; cases y
    congr 1
    exact Array.ext' h
  apply this
  simp [strOf]
theorem runeStr (y : Int) (h0 : 0 ≤ y) (h1 : y < 16) (u : World) : (convert 21 9 (.int .i32 (97 + y))).run Try.prog u = .ok (.string (strOf [97 + y])) u := by
  have hu1 : Try.prog.underlying 21 = some (.int .i32) := by kernel_rfl
  have hu2 : Try.prog.underlying 9 = some .string := by kernel_rfl
  have he : Utf8.encode (97 + y) = strOf [97 + y] := by
    have hv : Utf8.valid (97 + y) = true := by unfold Utf8.valid; simp; omega
    have hc : (97 + y).toNat < 128 := by omega
    unfold Utf8.encode strOf
    simp only [hv, if_true, hc]
    rfl
  rw [run_convert_int_string u 21 9 .i32 (97 + y) (by rw [hu1]; rfl) hu2, he]
/-- what reads as ints lies in no map -/
theorem Sl.notMap {w : World} {S : Nat → Prop} {A : Option Addr} {n c b : Nat} {l : List Int} {ms : List (ByteArray × Value)} (h : Sl Rep.int w S A n c l) (hm : AMap KS w b ms) : Sl Rep.int w (fun g => S g ∧ g ≠ b) A n c l := by
  refine Rd.slInts ⟨h.ints.1, fun hn => ?_⟩ h.cap
  obtain ⟨g, off, e, hS, hc⟩ := h.ints.2 hn
  refine ⟨g, off, e, ⟨hS, fun eg => ?_⟩, hc⟩
  obtain ⟨b', off', x, e', _, _, hcx⟩ := h.ints.int_at hn
  rw [e] at e'
  injection e' with e'
  injection e' with e1 e2
  subst e1
  obtain ⟨D, ⟨es, clock, hb, _⟩, _⟩ := hm
  rw [eg] at hcx
  simp [World.cell?, hb] at hcx
/-- what the closures hold -/
structure OnceInv (w0 : World) (d : DfaD) (S : Nat → Prop) (Bs BM Bd B0 : Nat) (ws : List (List Int)) (w : World) : Prop where
  bel : Below w0.heap.size w0 w
  bs : w.heap[Bs]? = some (.cells #[.map (some BM)] 40 (0, 0))
  mp : AMap KS w BM (onceL ws)
  bd : ∃ A nA cA N n cN, w.heap[Bd]? = some (.cells #[.int .i64 d.1, .slice A nA cA, .slice N n cN] 25 (0, 0)) ∧ Sl Rep.int w S A nA cA d.2.1 ∧ Sl RI w S N n cN d.2.2
  ne : BM ≠ Bs ∧ BM ≠ Bd ∧ ¬ S BM
  lt : w0.heap.size ≤ BM ∧ BM < B0 ∧ Bs < B0 ∧ Bd < B0 ∧ ∀ b, S b → b < B0
  le : B0 ≤ w.heap.size
  ok : ∀ x ∈ ws, WOkT 16 x
section
variable {w0 w w' : World} {d : DfaD} {S X : Nat → Prop} {Bs BM Bd B0 : Nat} {ws : List (List Int)}
theorem OnceInv.only (h : OnceInv w0 d S Bs BM Bd B0 ws w) (ho : Only w w' X) (hX : ∀ b, b < B0 → ¬ X b) : OnceInv w0 d S Bs BM Bd B0 ws w' := by
  obtain ⟨l1, l2, l3, l4, l5⟩ := h.lt
  have hle := h.le
  have hb : Below w0.heap.size w w' := ⟨ho.os, ho.tape, ho.output, ho.size, fun b hb => ho.block b (by omega) (hX b (by omega))⟩
  obtain ⟨A, nA, cA, N, n, cN, k1, k2, k3⟩ := h.bd
  exact ⟨h.bel.trans hb, (ho.block _ (by omega) (hX _ l3)).trans h.bs, h.mp.only ho (hX _ l2), ⟨A, nA, cA, N, n, cN, (ho.block _ (by omega) (hX _ l4)).trans k1, k2.keep (ho.kept fun b hb => hX b (l5 b hb)), k3.keep (ho.kept fun b hb => hX b (l5 b hb))⟩, h.ne, h.lt, Nat.le_trans hle ho.size, h.ok⟩
theorem OnceInv.below (h : OnceInv w0 d S Bs BM Bd B0 ws w) (hb : Below w.heap.size w w') : OnceInv w0 d S Bs BM Bd B0 ws w' := h.only (X := fun _ => False) (.of_below hb (Nat.le_refl _) _) fun _ _ h => h
theorem OnceInv.put {x : List Int} (h : OnceInv w0 d S Bs BM Bd B0 ws w) (hx : WOkT 16 x) (hm : AMap KS w' BM (onceL (ws ++ [x]))) (hg : w.grownBy w' (some BM)) : OnceInv w0 d S Bs BM Bd B0 (ws ++ [x]) w' ∧ Only w w' (fun b => b < B0) := by
  have ho : Only w w' (fun b => b = BM) := .of_grown hg fun b e => by injection e with e; exact e.symm
  obtain ⟨l1, l2, l3, l4, l5⟩ := h.lt
  obtain ⟨n1, n2, n3⟩ := h.ne
  have hle := h.le
  have hb : Below w0.heap.size w w' := ⟨ho.os, ho.tape, ho.output, ho.size, fun b hb => ho.block b (by omega) (by omega)⟩
  obtain ⟨A, nA, cA, N, n, cN, k1, k2, k3⟩ := h.bd
  have hS : Kept S w w' := ho.kept fun b hb e => n3 (e ▸ hb)
  refine ⟨⟨h.bel.trans hb, (ho.block _ (by omega) (Ne.symm n1)).trans h.bs, hm, ⟨A, nA, cA, N, n, cN, (ho.block _ (by omega) (Ne.symm n2)).trans k1, k2.keep hS, k3.keep hS⟩, h.ne, h.lt, Nat.le_trans hle ho.size, fun y hy => ?_⟩, ho.more fun b _ e => by omega⟩
  rcases List.mem_append.1 hy with hy | hy
  · exact h.ok y hy
  · obtain rfl := List.mem_singleton.1 hy
    exact hx
end
set_option linter.unusedSimpArgs false in
set_option maxRecDepth 1000000 in
set_option maxHeartbeats 4000000 in
theorem onceAsk (w0 w : World) (d : DfaD) (S : Nat → Prop) (Bs BM Bd B0 : Nat) (ws : List (List Int)) (h : OnceInv w0 d S Bs BM Bd B0 ws w) (hv : Valid d)
    (Sx : Nat → Prop) (A : Option Addr) (n c : Nat) (x : List Int) (hx : Sl Rep.int w Sx A n c x) (hw : WOkT (cols d) x) (hl : x.length ≤ 2000) (hn : x ∉ ws) (hws : ws.length ≤ 100000000) :
    Calls Try.prog 21 #[.slice A n c, .pointer (some ⟨Bs, 0, none⟩), .pointer (some ⟨Bd, 0, none⟩)] w fun e w' => e = .returned (.bool (daccept d x)) ∧ OnceInv w0 d S Bs BM Bd B0 (ws ++ [x]) w' ∧ Only w w' (fun b => b < B0) := by
  have hw16 : WOkT 16 x := fun y hy => by have h1 := hw y hy; have h2 := hv.c2; omega
  have hnx : n ≤ 2000 := by have := hx.len; omega
  have HI := Lib.hid h
  have HX := Lib.hid (hx.notMap h.mp)
  have HXL := Lib.hid hx.len
  have HW := Lib.hid hw
  have HW16 := Lib.hid hw16
  have HV := Lib.hid hv
  have HN := Lib.hid hn
  clear h hv hx hw hw16 hl hn
  go_enter Try.func21, Try.ntmps21
  go_wp2_with fail
  go_loopg [5, 7, 10] n (fun gk vk vy vi wr => ∃ k : Nat, k ≤ n ∧ gk = n - k ∧ vi = .int .i64 k ∧ vk = .string (strOf (letters (x.take k))) ∧ Below w.heap.size w wr)
  case atStart => exact ⟨0, Nat.zero_le _, rfl, rfl, rfl, Below.refl _ _⟩
  case round =>
    obtain ⟨k, hk, hgk, rfl, rfl, hb⟩ := hrel
    obtain ⟨w2, rfl⟩ : ∃ w2 : World, w2 = wr := ⟨_, rfl⟩
    have HGK := Lib.hid hgk
    have HB := Lib.hid hb
    clear hgk hb
    by_cases hlt : k < n
    · obtain ⟨bx, ox, y, rfl, _, hy, hcy⟩ := ((HX.out.below HB.out)).ints.int_at hlt
      have hyr := HW16.out y (List.mem_of_getElem? hy)
      have hy0 : 0 ≤ y := hyr.1
      have hy1 : y < 16 := hyr.2
      have hrs := runeStr y hy0 hy1
      have hca := strOf_append (letters (x.take k)) [97 + y]
      have HTK := Lib.hid (show letters (x.take (k + 1)) = letters (x.take k) ++ [97 + y] by rw [int_step hy]; simp [letters])
      have hsz : ¬ 9223372036854775807 < (strOf (letters (x.take k))).size + (strOf [97 + y]).size := by
        rw [strOf_size, strOf_size]
        simp [letters]
        omega
      clear hy hyr
      go_wp2_with fail
      go_roundg (n - (k + 1))
      case measure => rw [HGK.out]; omega
      case rel => exact ⟨k + 1, by omega, rfl, by go_num, by rw [HTK.out], HB.out⟩
    · obtain rfl : k = n := by omega
      have htk : x.take k = x := List.take_of_length_le (by rw [← HXL.out]; omega)
      rw [htk]
      have hin := HI.out.below HB.out
      have hbx : w2.cell? ⟨Bs, 0, none⟩ = some (.map (some BM)) := by simp [World.cell?, hin.bs]
      have HIN := Lib.hid hin
      have HLK := Lib.hid (onceL_lk HI.out.ok HW16.out HN.out)
      have HPUT := Lib.hid (onceL_put HI.out.ok HW16.out HN.out)
      have hkok : KS.ok (strOf (letters x)) := by
        show (strOf (letters x)).size ≤ maxLen
        rw [strOf_size]
        have := HXL.out
        simp [letters, maxLen]
        omega
      have HKO := Lib.hid hkok
      have HLN := Lib.hid (show (onceL ws).length < maxLen by simp [onceL, maxLen]; omega)
      clear htk hin hkok
      go_wp2_with (first
        | (at_lookup; refine wpList_amap _ rfl _ _ 40 rfl 3 mapStr zeroI BM _ rfl HIN.out.mp (strOf (letters x)) rfl HKO.out ?_; rw [HLK.out])
        | (at_mapUpdate; refine wpList_amap_put _ rfl _ _ _ 40 rfl 3 mapStr BM _ rfl HIN.out.mp (strOf (letters x)) rfl HKO.out (.int .i64 1) rfl HLN.out ?_; intro w3 hm3 hg3; rw [HPUT.out] at hm3; obtain ⟨hin3, ho3⟩ := HIN.out.put HW16.out hm3 hg3; have HG3 := Lib.hid hg3; have HIN3 := Lib.hid hin3; have HO3 := Lib.hid ho3; obtain ⟨A3, nA3, cA3, N3, n3, cN3, hbd, hA3, hN3⟩ := hin3.bd; obtain ⟨k0, k1, k2⟩ : w3.cell? ⟨Bd, 0, none⟩ = some (.int .i64 d.1) ∧ w3.cell? ⟨Bd, 1, none⟩ = some (.slice A3 nA3 cA3) ∧ w3.cell? ⟨Bd, 2, none⟩ = some (.slice N3 n3 cN3) := (by simp [World.cell?, hbd]); have HA3 := Lib.hid hA3; have HN3 := Lib.hid hN3; clear hm3 hg3 hin3 ho3 hbd hA3 hN3))
      refine (keepAccepts w3 S A3 nA3 cA3 N3 n3 cN3 d HA3.out HN3.out HV.out _ A k c x ((HX.out.below HB.out).keep ?_) (by omega) HW.out).mono ?_
      · exact Kept.grown HG3.out fun b hb e => hb.2 (by injection e with e; exact e.symm)
      rintro e w4 ⟨rfl, hb4⟩
      have HB4 := Lib.hid hb4
      clear hb4
      go_wp2_with fail
      go_ret
      exact ⟨rfl, HIN3.out.below HB4.out, (Only.of_below HB.out (Nat.le_refl _) _).trans (HO3.out.trans (Only.of_below HB4.out (Nat.le_refl _) _))⟩
end Go.Proofs.Ytgaahpddlohjoaa
