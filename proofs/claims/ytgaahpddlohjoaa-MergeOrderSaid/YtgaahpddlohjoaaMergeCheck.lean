/- merge.Check: examples that are short, over the symbols, and in no conflict. -/
import Derived.Test.YtgaahpddlohjoaaSlIdxW
import Derived.Test.YtgaahpddlohjoaaCatW
import Derived.Test.YtgaahpddlohjoaaSlIdxFn
import Derived.Test.YtgaahpddlohjoaaSlEqInt
namespace Go.Proofs.Ytgaahpddlohjoaa
open Go.RowKit

theorem chkTermM (w : World) (Bt : Nat) (T : Int) (hB : w.heap[Bt]? = some (.cells #[.int .i64 T] 3 (0, 0))) (x : Int) (hx : 0 ≤ x ∧ x < T) :
    Calls Try.prog 107 #[.int .i64 x, .pointer (some ⟨Bt, 0, none⟩)] w fun e w' => e = .returned (.bool false) ∧ Below w.heap.size w w' := by
  have k0 : w.cell? ⟨Bt, 0, none⟩ = some (.int .i64 T) := by simp [World.cell?, hB]
  obtain ⟨h1, h2⟩ := hx
  have a1 : decide (x < 0) = false := by simp; omega
  have a2 : decide (T ≤ x) = false := by simp; omega
  clear hB
  go_enter Try.func107, Try.ntmps107
  go_wp2_with fail
  go_ret
  exact ⟨rfl, Below.refl _ _⟩
theorem tellsTermM (w : World) (Bt : Nat) (T : Int) (hB : w.heap[Bt]? = some (.cells #[.int .i64 T] 3 (0, 0))) :
    TellsI Try.prog w (fun x => 0 ≤ x ∧ x < T) (fun _ => false) 107 #[.pointer (some ⟨Bt, 0, none⟩)] := fun u hu x hx =>
  chkTermM u Bt T ((hu.block _ (heap_lt hB)).trans hB) x hx
theorem entersTermM : ∀ (args : Array Value) (u : World), (callFunc 107 args).run Try.prog u = .ok (.enter 107 args) u := enters_of Try.func107 (by kernel_rfl) rfl
theorem idxFn_falseM (l : List Int) : idxFn (fun _ => false) l = -1 := idxFn_none fun _ _ _ => rfl
set_option maxHeartbeats 1000000 in
theorem chkSameM (w : World) (Bw : Nat) (S S' : Nat → Prop) (A : Option Addr) (n c : Nat) (v : List Int) (hv : Sl Rep.int w S A n c v) (A' : Option Addr) (n' c' : Nat) (x : List Int) (hx : Sl Rep.int w S' A' n' c' x) (hn : n ≤ 1000) (hn' : n' ≤ 1000)
    (hB : w.heap[Bw]? = some (.cells #[.slice A' n' c'] 22 (0, 0))) :
    Calls Try.prog 109 #[.slice A n c, .pointer (some ⟨Bw, 0, none⟩)] w fun e w' => e = .returned (.bool (v == x)) ∧ Below w.heap.size w w' := by
  have k0 : w.cell? ⟨Bw, 0, none⟩ = some (.slice A' n' c') := by simp [World.cell?, hB]
  have HV := Lib.hid hv
  have HX := Lib.hid hx
  clear hv hx hB
  go_enter Try.func109, Try.ntmps109
  go_wp2_with fail
  refine (equalInt _ _ _ _ _ _ _ _ v x w HV.out.ints HX.out.ints (by omega) (by omega)).mono ?_
  rintro e w1 ⟨rfl, d, rfl⟩
  go_wp2_with fail
  go_ret
  exact ⟨rfl, drewN_below _ _⟩
theorem tellsSameM (w : World) (Bw : Nat) (S' : Nat → Prop) (A' : Option Addr) (n' c' : Nat) (x : List Int) (hx : Sl Rep.int w S' A' n' c' x) (hn' : n' ≤ 1000) (hB : w.heap[Bw]? = some (.cells #[.slice A' n' c'] 22 (0, 0))) :
    TellsW Try.prog w (fun v => v.length ≤ 1000) (fun v => v == x) 109 #[.pointer (some ⟨Bw, 0, none⟩)] := fun u hu v A m c S hs hl =>
  chkSameM u Bw S S' A m c v hs A' n' c' x (hx.below hu) (by have := hs.len; omega) hn' ((hu.block _ (heap_lt hB)).trans hB)
theorem entersSameM : ∀ (args : Array Value) (u : World), (callFunc 109 args).run Try.prog u = .ok (.enter 109 args) u := enters_of Try.func109 (by kernel_rfl) rfl
set_option maxRecDepth 100000 in
set_option maxHeartbeats 4000000 in
theorem mergeCheck (w : World) (T : Int) (S1 : Nat → Prop) (A1 : Option Addr) (n1 c1 : Nat) (yes : List (List Int)) (hy : Sl RIV w S1 A1 n1 c1 yes) (S2 : Nat → Prop) (A2 : Option Addr) (n2 c2 : Nat) (no : List (List Int)) (hno : Sl RIV w S2 A2 n2 c2 no)
    (hT1 : 1 ≤ T) (hT2 : T ≤ 16) (h12 : n1 + n2 ≤ 40) (hyo : ∀ x ∈ yes, x.length ≤ 12 ∧ ∀ y ∈ x, 0 ≤ y ∧ y < T) (hnoo : ∀ x ∈ no, x.length ≤ 12 ∧ ∀ y ∈ x, 0 ≤ y ∧ y < T) (hd : ∀ x ∈ yes, x ∉ no) :
    Calls Try.prog 68 #[.int .i64 T, .slice A1 n1 c1, .slice A2 n2 c2] w fun e w' => e = .returned (.int .i64 0) ∧ Below w.heap.size w w' := by
  have HY := Lib.hid hy
  have HN := Lib.hid hno
  have HYO := Lib.hid hyo
  have HNO := Lib.hid hnoo
  have HD := Lib.hid hd
  have a1 : decide (T < 1) = false := by simp; omega
  have a2 : decide ((16 : Int) < T) = false := by simp; omega
  have h1 : n1 ≤ 40 := by omega
  have h2 : n2 ≤ 40 := by omega
  have a3' : decide ((40 : Int) < (n1 : Int) + (n2 : Int)) = false := by simp; omega
  clear hy hno hyo hnoo hd
  go_enter Try.func68, Try.ntmps68
  --@1
  go_wp2_with fail
  obtain ⟨w1, hw1⟩ : ∃ w1 : World, w1 = (w.alloc (.cells #[.int .i64 T] 3)).alloc (.cells #[.slice A1 n1 c1, .slice A2 n2 c2] 23) := ⟨_, rfl⟩
  rw [← hw1]
  have hz1 : w1.heap.size = w.heap.size + 2 := by rw [hw1]; simp
  have HB1 := Lib.hid (show Below w.heap.size w w1 by rw [hw1]; exact ((Below.refl _ _).alloc (Nat.le_refl _) _).alloc (by simp) _)
  have HBT := Lib.hid (show w1.heap[w.heap.size]? = some (.cells #[.int .i64 T] 3 (0, 0)) by rw [hw1]; exact (Below.heap_alloc _ _ _ (by simp)).trans (heap_alloc_new _ _))
  have hrd : Rd w1 (fun _ => True) 1 (some ⟨w.heap.size + 1, 0, none⟩) 2 [.slice A1 n1 c1, .slice A2 n2 c2] := by
    rw [hw1]
    exact Rd.new (w.alloc (.cells #[.int .i64 T] 3)) (fun _ => True) 23 [.slice A1 n1 c1, .slice A2 n2 c2] (w.heap.size + 1) (by simp) trivial
  have HY1 := Lib.hid (HY.out.below HB1.out)
  have HN1 := Lib.hid (HN.out.below HB1.out)
  obtain ⟨x1, e1, f1, r1, q1⟩ := HY1.out
  obtain ⟨x2, e2, f2, r2, q2⟩ := HN1.out
  clear hw1
  refine (concatW (w.heap.size + 1) 0 2 (fun _ => True) [⟨A1, n1, c1, x1⟩, ⟨A2, n2, c2, x2⟩] w1 hrd (by
    intro p hp
    rcases List.mem_cons.1 hp with rfl | hp
    · exact ⟨r1.more fun _ _ => trivial, f1, q1.one⟩
    · obtain rfl := List.mem_singleton.1 hp
      exact ⟨r2.more fun _ _ => trivial, f2, q2.one⟩) (by simp) (by simp [partsLen]; omega)).mono ?_
  rintro e w2 ⟨v, rfl, ho, hb2⟩
  rw [show partsLen [⟨A1, n1, c1, x1⟩, ⟨A2, n2, c2, x2⟩] = n1 + n2 by simp [partsLen], show partsAll [⟨A1, n1, c1, x1⟩, ⟨A2, n2, c2, x2⟩] = x1 ++ x2 by simp [partsAll]] at ho
  obtain ⟨A3, c3, rfl, hc3, _⟩ := ho.form
  have hq : Cells RIV w1 (fun _ => True) (x1 ++ x2) (yes ++ no) := (q1.more fun _ _ => trivial).append (q2.more fun _ _ => trivial)
  have HL := Lib.hid (show Sl RIV w2 (fun _ => True) A3 (n1 + n2) c3 (yes ++ no) from ⟨x1 ++ x2, by rw [List.length_append]; omega, hc3, ho.rd.more fun _ _ => trivial, hq.keep (.below hb2)⟩)
  have HB12 := Lib.hid hb2
  have HB2 := Lib.hid (HB1.out.trans (hb2.mono (by omega)))
  have hz2 := hb2.size
  obtain ⟨n3, hn3⟩ : ∃ n3, n3 = n1 + n2 := ⟨_, rfl⟩
  have hn312 : n3 ≤ 40 := by omega
  rw [← hn3] at HL ⊢
  have HALL := Lib.hid (show ∀ x ∈ yes ++ no, x.length ≤ 12 ∧ ∀ y ∈ x, 0 ≤ y ∧ y < T from fun x hx => (List.mem_append.1 hx).elim (HYO.out x) (HNO.out x))
  clear ho hq hrd hb2 e1 f1 r1 q1 e2 f2 r2 q2 hc3 hn3
  --@2
  go_wp2_with fail
  have he := entersTermM
  have he2 := entersSameM
  go_loopg [28] n3 (fun gk i wr => ∃ k : Nat, k ≤ n3 ∧ gk = n3 - k ∧ i = .int .i64 k ∧ Below w1.heap.size w1 wr ∧ Below w2.heap.size w2 wr)
  case atStart => exact ⟨0, Nat.zero_le _, rfl, rfl, HB12.out, Below.refl _ _⟩
  case round =>
    obtain ⟨k, hk, hgk, rfl, hb, hbb⟩ := hrel
    have HGK := Lib.hid hgk
    have HB := Lib.hid hb
    have HBB := Lib.hid hbb
    have hz := hbb.size
    clear hgk hb hbb
    obtain ⟨w3, rfl⟩ : ∃ w3 : World, w3 = wr := ⟨_, rfl⟩
    by_cases hlt : k < n3
    · obtain ⟨b, off, A4, m4, c4, x, rfl, _, _, hc, hx, hs⟩ := word_at HL.out hlt
      replace hc := Kept.below (S := fun _ => True) HBB.out _ _ trivial hc
      obtain ⟨hx5, hxt⟩ := HALL.out x (List.mem_of_getElem? hx)
      have hm := hs.len
      have a3 : decide ((12 : Int) < (m4 : Int)) = false := by simp; omega
      have hm5 : m4 ≤ 12 := by omega
      have HS := Lib.hid (hs.below HBB.out)
      have HXT := Lib.hid hxt
      clear hx hxt hs hm hx5
      --@3
      go_wp2_with fail
      refine (containsFnInt w3 _ _ _ _ _ _ _ _ x entersTermM (tellsTermM w3 w.heap.size T ((HB.out.block _ (by omega)).trans HBT.out)) HS.out.ints HXT.out (by omega)).mono ?_
      rintro e w4 ⟨rfl, hb4⟩
      rw [idxFn_falseM, show decide ((0 : Int) ≤ -1) = false by decide]
      have HB4 := Lib.hid (HB.out.trans (hb4.mono (by omega)))
      have HBB4 := Lib.hid (HBB.out.trans (hb4.mono (by omega)))
      clear hb4
      --@4
      go_wp2_with fail
      go_roundg (n3 - (k + 1))
      case measure => rw [HGK.out]; omega
      case rel => exact ⟨k + 1, by omega, rfl, by go_num, HB4.out, HBB4.out⟩
    · --@5
      go_wp2_with fail
      have HB13 := Lib.hid HB.out
      have HBW3 := Lib.hid (HB1.out.trans (HB.out.mono (by omega)))
      go_loopg [41] n1 (fun gk i wr => ∃ k : Nat, k ≤ n1 ∧ gk = n1 - k ∧ i = .int .i64 k ∧ Below w1.heap.size w1 wr)
      case atStart => exact ⟨0, Nat.zero_le _, rfl, rfl, HB13.out⟩
      case round =>
        obtain ⟨j, hj, hgj, rfl, hb⟩ := hrel
        have HGJ := Lib.hid hgj
        have HBJ := Lib.hid hb
        have hzj := hb.size
        clear hgj hb
        obtain ⟨w5, rfl⟩ : ∃ w5 : World, w5 = wr := ⟨_, rfl⟩
        by_cases hlt2 : j < n1
        · obtain ⟨b, off, A4, m4, c4, x, rfl, _, _, hc, hx, hs⟩ := word_at HY1.out hlt2
          replace hc := Kept.below (S := fun _ => True) HBJ.out _ _ trivial hc
          have hxm := List.mem_of_getElem? hx
          have hx5 := (HYO.out x hxm).1
          have hxn := HD.out x hxm
          have hm := hs.len
          have hm5 : m4 ≤ 1000 := by omega
          have hany : (no.any fun v => v == x) = false := by
            rw [List.any_eq_false]
            intro v hv e
            have e' : v = x := by simpa using e
            exact hxn (e' ▸ hv)
          have HANY := Lib.hid hany
          have HS := Lib.hid (hs.below HBJ.out)
          clear hx hxm hxn hs hm hx5 hany
          --@6
          go_wp2_with fail
          have HBX := Lib.hid (heap_alloc_new w5 (.cells #[.slice A4 m4 c4] 22))
          refine (containsFnW (w5.alloc (.cells #[.slice A4 m4 c4] 22)) _ _ _ _ _ _ _ _ no entersSameM (tellsSameM (w5.alloc (.cells #[.slice A4 m4 c4] 22)) w5.heap.size _ A4 m4 c4 x (HS.out.alloc _) hm5 HBX.out) ((HN1.out.below HBJ.out).alloc _) (fun v hv => by have := (HNO.out v hv).1; show v.length ≤ 1000; omega) (by omega)).mono ?_
          rintro e w6 ⟨rfl, hb6⟩
          rw [HANY.out]
          have HB6 := Lib.hid ((HBJ.out.alloc hzj _).trans (hb6.mono (by simp; omega)))
          clear hb6 HBX
          --@7
          go_wp2_with fail
          go_roundg (n1 - (j + 1))
          case measure => rw [HGJ.out]; omega
          case rel => exact ⟨j + 1, by omega, rfl, by go_num, HB6.out⟩
        · --@8
          go_wp2_with fail
          go_ret
          exact ⟨rfl, HB1.out.trans (HBJ.out.mono (by omega))⟩
end Go.Proofs.Ytgaahpddlohjoaa
