/- DrawMore: coins behind those that are used change nothing, and one fewer is not enough. -/
import Derived.Test.YtjeklijkncbaaaaNum
import Derived.Test.YtjeklijkncbaaaaSlBool
namespace Go.Proofs.Ytjeklijkncbaaaa
open Go.RowKit

theorem lt_one_pow : ∀ j < 1, 2 ^ j < 2 := by
  intro j hj
  have : j = 0 := by omega
  subst this
  decide
set_option maxHeartbeats 2000000 in
theorem drawMore_yes (n : Int) (N k x u n1 c1 n2 c2 : Nat) (A1 A2 : Option Addr) (l m : List Bool) (w : World) (hN : 1 + n % 100 = N)
    (h1 : n1 ≤ c1) (h2 : c1 ≤ 140737488351232) (h3 : n2 ≤ c2) (h4 : c2 ≤ 140737488351232)
    (hk1 : N ≤ 2 ^ k) (hk2 : ∀ j < k, 2 ^ j < N) (hk3 : k ≤ 30)
    (hr1 : Rd w w.heap.size 1 A1 n1 (l.map Value.bool)) (hr2 : Rd w w.heap.size 1 A2 n2 (m.map Value.bool)) (he : number N k l = some (x, u)) :
    Calls Try.prog 3 #[.int .i64 n, .slice A1 n1 c1, .slice A2 n2 c2] w fun e w' => e = .returned (.bool true) ∧ Below w.heap.size w w' := by
  have hN1 : 1 ≤ N := by have := Int.emod_nonneg n (by omega : (100 : Int) ≠ 0); omega
  have hN2 : N ≤ 1000000000 := by have := Int.emod_lt_of_pos n (by omega : (0 : Int) < 100); omega
  obtain ⟨hu, hx, hmore, hless⟩ := number_hit hN1 he
  have hl1 : n1 = l.length := by have := hr1.1; simpa using this.symm
  have hu1 : u ≤ n1 := by omega
  have HN := Lib.hid hN
  have HK1 := Lib.hid hk1
  have HK2 := Lib.hid hk2
  have HE := Lib.hid he
  have HR1 := Lib.hid hr1
  have HR2 := Lib.hid hr2
  have HM := Lib.hid hmore
  have HL := Lib.hid hless
  have HL1 := Lib.hid hl1
  clear hN hk1 hk2 he hr1 hr2 hmore hless hl1 hu
  go_enter Try.func3, Try.ntmps3
  go_wp2_with (go_at_call 9; refine (keepBelow _ _ _ (by omega) (by omega)).mono ?_; rintro e w' ⟨rfl, rfl⟩)
  refine (number_yes 2 2 1 1 1 _ 1 1 (some ⟨w.heap.size, 0, none⟩) [true] _ rfl (by omega) (by omega) (by omega) (by omega) (by omega) lt_one_pow (by omega) (Rd.new w _ [.bool true]) (by decide)).mono ?_
  rintro e w' ⟨rfl, rfl⟩
  go_wp2_with fail
  refine (number_yes _ N k n1 c1 _ x u A1 l _ HN.out hN1 hN2 h1 (by omega) HK1.out HK2.out hk3 (HR1.out.alloc (Nat.le_refl _) _) HE.out).mono ?_
  rintro e w' ⟨rfl, rfl⟩
  go_wp2_with fail
  have hp1 : ∀ (o o' : Obj), Rd ((w.alloc o).alloc o') w.heap.size 1 A1 u ((l.take u).map Value.bool) := fun o o' => by
    have := ((HR1.out.alloc (Nat.le_refl _) o).alloc (by simp) o').cuth u (by omega)
    rwa [Nat.mul_one, ← List.map_take] at this
  have hp2 : ∀ (o o' : Obj), Rd ((w.alloc o).alloc o') w.heap.size 1 A2 n2 (m.map Value.bool) := fun o o' => (HR2.out.alloc (Nat.le_refl _) o).alloc (by simp) o'
  have HP1 := Lib.hid hp1
  have HP2 := Lib.hid hp2
  clear hp1 hp2
  refine (concatBool (w.heap.size + 1) 0 _ (w.heap.size + 2) [⟨A1, u, c1, (l.take u).map Value.bool⟩, ⟨A2, n2, c2, m.map Value.bool⟩] _ (by simp) (Rd.newB (w.alloc (.cells #[.bool true] 4)) _ [.slice A1 u c1, .slice A2 n2 c2] (w.heap.size + 1) (w.heap.size + 2) (by simp) (by omega)) ?_ (by simp) (by simp [partsLen]; omega)).mono ?_
  · intro p hp
    rcases List.mem_cons.1 hp with rfl | hp
    · exact ⟨(HP1.out _ _).more (by simp), by simp only; omega, by unfold maxLen; simp only; omega, one_bools _⟩
    · obtain rfl := List.mem_singleton.1 hp
      exact ⟨(HP2.out _ _).more (by simp), by simp only; omega, by unfold maxLen; simp only; omega, one_bools _⟩
  rintro e w1 ⟨v, rfl, hown, hb⟩
  obtain ⟨A3, c3, rfl, hc3, _⟩ := hown.form
  have hr3 : Rd w1 w1.heap.size 1 A3 (u + n2) ((l.take u ++ m).map Value.bool) := by
    have := hown.rd
    simpa [partsLen, partsAll] using this
  have hlen : partsLen [⟨A1, u, c1, (l.take u).map Value.bool⟩, ⟨A2, n2, c2, m.map Value.bool⟩] = u + n2 := by simp [partsLen]
  rw [hlen] at hc3 ⊢
  have hb' : Below w.heap.size w w1 := (((Below.refl _ _).alloc (Nat.le_refl _) _).alloc (by simp) _).trans (hb.mono (by simp; omega))
  have HB := Lib.hid hb'
  have HR3 := Lib.hid hr3
  clear hown hb hr3 hlen hb'
  go_wp2_with fail
  refine (number_yes _ N k (u + n2) c3 _ x u A3 (l.take u ++ m) _ HN.out hN1 hN2 hc3 (by omega) HK1.out HK2.out hk3 HR3.out (HM.out m)).mono ?_
  rintro e w' ⟨rfl, rfl⟩
  by_cases hu0 : u = 0
  · subst hu0
    go_wp2_with fail
    go_ret
    exact ⟨rfl, HB.out⟩
  · have hu2 : ((u : Int) == 0) = false := by simp; omega
    have hu3 : 1 ≤ u := by omega
    go_wp2_with fail
    have hr4 : Rd w1 w.heap.size 1 A1 (u - 1) ((l.take (u - 1)).map Value.bool) := by
      have := (HR1.out.below HB.out).cuth (u - 1) (by omega)
      rwa [Nat.mul_one, ← List.map_take] at this

    refine (number_no _ N k (u - 1) c1 _ A1 (l.take (u - 1)) _ HN.out hN1 hN2 (by omega) (by omega) HK1.out HK2.out hk3 hr4 (HL.out (by omega))).mono ?_
    rintro e w' ⟨rfl, rfl⟩
    clear hr4
    go_wp2_with fail
    go_ret
    exact ⟨rfl, HB.out⟩
set_option maxHeartbeats 2000000 in
theorem drawMore_no (n : Int) (N k n1 c1 n2 c2 : Nat) (A1 A2 : Option Addr) (l : List Bool) (w : World) (hN : 1 + n % 100 = N)
    (h1 : n1 ≤ c1) (h2 : c1 ≤ 140737488351232) (hk1 : N ≤ 2 ^ k) (hk2 : ∀ j < k, 2 ^ j < N) (hk3 : k ≤ 30)
    (hr1 : Rd w w.heap.size 1 A1 n1 (l.map Value.bool)) (he : number N k l = none) :
    Calls Try.prog 3 #[.int .i64 n, .slice A1 n1 c1, .slice A2 n2 c2] w fun e w' => e = .returned (.bool true) ∧ Below w.heap.size w w' := by
  have hN1 : 1 ≤ N := by have := Int.emod_nonneg n (by omega : (100 : Int) ≠ 0); omega
  have hN2 : N ≤ 1000000000 := by have := Int.emod_lt_of_pos n (by omega : (0 : Int) < 100); omega
  have HN := Lib.hid hN
  have HK1 := Lib.hid hk1
  have HK2 := Lib.hid hk2
  have HE := Lib.hid he
  have HR1 := Lib.hid hr1
  clear hN hk1 hk2 he hr1
  go_enter Try.func3, Try.ntmps3
  go_wp2_with (go_at_call 9; refine (keepBelow _ _ _ (by omega) (by omega)).mono ?_; rintro e w' ⟨rfl, rfl⟩)
  refine (number_yes 2 2 1 1 1 _ 1 1 (some ⟨w.heap.size, 0, none⟩) [true] _ rfl (by omega) (by omega) (by omega) (by omega) (by omega) lt_one_pow (by omega) (Rd.new w _ [.bool true]) (by decide)).mono ?_
  rintro e w' ⟨rfl, rfl⟩
  go_wp2_with fail
  refine (number_no _ N k n1 c1 _ A1 l _ HN.out hN1 hN2 h1 (by omega) HK1.out HK2.out hk3 (HR1.out.alloc (Nat.le_refl _) _) HE.out).mono ?_
  rintro e w' ⟨rfl, rfl⟩
  go_wp2_with fail
  go_ret
  exact ⟨rfl, (Below.refl _ _).alloc (Nat.le_refl _) _⟩
theorem drawMore_walk (w : World) (n : Int) (_ : -9223372036854775808 ≤ n) (_ : n ≤ 9223372036854775807)
    (A1 : Option Addr) (n1 c1 : Nat) (l : List Bool) (h1 : n1 ≤ c1) (h2 : c1 ≤ 140737488351232) (hr1 : Rd w w.heap.size 1 A1 n1 (l.map Value.bool))
    (A2 : Option Addr) (n2 c2 : Nat) (m : List Bool) (h3 : n2 ≤ c2) (h4 : c2 ≤ 140737488351232) (hr2 : Rd w w.heap.size 1 A2 n2 (m.map Value.bool)) :
    Calls Try.prog 3 #[.int .i64 n, .slice A1 n1 c1, .slice A2 n2 c2] w fun e w' => e = .returned (.bool true) ∧ Below w.heap.size w w' := by
  have hp := Int.emod_nonneg n (by omega : (100 : Int) ≠ 0)
  have hq := Int.emod_lt_of_pos n (by omega : (0 : Int) < 100)
  obtain ⟨N, hN⟩ : ∃ N : Nat, 1 + n % 100 = N := ⟨(1 + n % 100).toNat, by omega⟩
  obtain ⟨k, hk1, hk2, hk3⟩ := bits_exist N (by omega)
  cases he : number N k l with
  | none => exact drawMore_no n N k n1 c1 n2 c2 A1 A2 l w hN h1 h2 hk1 hk2 hk3 hr1 he
  | some r =>
    obtain ⟨x, u⟩ := r
    exact drawMore_yes n N k x u n1 c1 n2 c2 A1 A2 l m w hN h1 h2 h3 h4 hk1 hk2 hk3 hr1 hr2 he
end Go.Proofs.Ytjeklijkncbaaaa
