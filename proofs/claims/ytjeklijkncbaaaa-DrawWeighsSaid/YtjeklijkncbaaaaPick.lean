/- What draw.Pick computes: the index that the weights give to a drawn number. -/
import Derived.Test.YtjeklijkncbaaaaNum
import Derived.Test.YtjeklijkncbaaaaMinMax
namespace Go.Proofs.Ytjeklijkncbaaaa
open Go.RowKit

def nats (ws : List Nat) : List Int := ws.map (fun (n : Nat) => (n : Int))
def pickOf : List Nat → Nat → Nat
  | [], _ => 0
  | w :: ws, x => if x < w then 0 else pickOf ws (x - w) + 1
/-- what the second loop knows -/
def PickAt (ws : List Nat) (x i y : Nat) : Prop := i ≤ ws.length ∧ y < (ws.drop i).sum ∧ pickOf ws x = i + pickOf (ws.drop i) y
theorem PickAt.start {ws : List Nat} {x : Nat} (h : x < ws.sum) : PickAt ws x 0 x := ⟨Nat.zero_le _, by simpa using h, by simp⟩
theorem PickAt.lt {ws : List Nat} {x i y : Nat} (h : PickAt ws x i y) : i < ws.length := by
  obtain ⟨h1, h2, _⟩ := h
  rcases Nat.lt_or_ge i ws.length with h | h
  · exact h
  · rw [List.drop_of_length_le h] at h2; simp at h2
theorem PickAt.hit {ws : List Nat} {x i y a : Nat} (h : PickAt ws x i y) (ha : ws[i]? = some a) (hy : y < a) : pickOf ws x = i := by
  have hl := h.lt
  obtain ⟨_, _, h3⟩ := h
  rw [List.getElem?_eq_getElem hl] at ha
  injection ha with ha
  rw [h3, List.drop_eq_getElem_cons hl, ha, pickOf, if_pos hy]; omega
theorem PickAt.next {ws : List Nat} {x i y a : Nat} (h : PickAt ws x i y) (ha : ws[i]? = some a) (hy : a ≤ y) : PickAt ws x (i + 1) (y - a) := by
  have hl := h.lt
  obtain ⟨_, h2, h3⟩ := h
  rw [List.getElem?_eq_getElem hl] at ha
  injection ha with ha
  rw [List.drop_eq_getElem_cons hl, ha] at h2 h3
  rw [List.sum_cons] at h2
  refine ⟨by omega, by omega, ?_⟩
  rw [h3, pickOf, if_neg (by omega)]; omega
theorem pickOf_lt : ∀ {ws : List Nat} {x : Nat}, x < ws.sum → pickOf ws x < ws.length
  | [], x, h => by simp at h
  | w :: ws, x, h => by
    rw [pickOf]
    rw [List.sum_cons] at h
    split
    · simp
    · have := pickOf_lt (ws := ws) (x := x - w) (by omega)
      rw [List.length_cons]; omega
theorem nats_at {ws : List Nat} {k : Nat} {x : Int} (h : (nats ws)[k]? = some x) : ∃ a : Nat, ws[k]? = some a ∧ x = a := by
  rw [nats, List.getElem?_map] at h
  obtain ⟨a, h1, rfl⟩ := Option.map_eq_some_iff.1 h
  exact ⟨a, h1, rfl⟩
theorem sum_take_step {ws : List Nat} {k a : Nat} (h : ws[k]? = some a) : (ws.take (k + 1)).sum = (ws.take k).sum + a := by
  obtain ⟨hk, rfl⟩ := List.getElem?_eq_some_iff.1 h
  rw [List.take_succ_eq_append_getElem hk, List.sum_append]; simp
theorem sum_take_le (ws : List Nat) (k : Nat) : (ws.take k).sum ≤ ws.sum := by
  have h := List.take_append_drop k ws
  have : ws.sum = (ws.take k).sum + (ws.drop k).sum := by rw [← List.sum_append, h]
  omega
theorem sum_le_all {ws : List Nat} (M : Nat) (h : ∀ a ∈ ws, a ≤ M) : ws.sum ≤ ws.length * M := by
  induction ws with
  | nil => simp
  | cons a ws ih =>
    have h1 := h a (by simp)
    have h2 := ih fun b hb => h b (by simp [hb])
    rw [List.sum_cons, List.length_cons, Nat.add_mul]; omega

def pickVal (ws : List Nat) : Option (Nat × Nat) → Value
  | some (x, u) => .tuple #[.int .i64 (pickOf ws x), .int .i64 u, .int .i64 0]
  | none => .tuple #[.int .i64 0, .int .i64 0, .int .i64 5]

set_option maxHeartbeats 1000000 in
theorem pick_zero (A A2 : Option Addr) (n c n2 c2 : Nat) (S : Nat → Prop) (ws : List Nat) (w : World) (hr : Rd w S 1 A n ((nats ws).map (Value.int .i64))) (hn : n ≤ 100) (hM : ∀ a ∈ ws, a ≤ 1000000) (h0 : ws.sum = 0) :
    Calls Try.prog 15 #[.slice A n c, .slice A2 n2 c2] w fun e w' => e = .returned (.tuple #[.int .i64 0, .int .i64 0, .int .i64 1]) ∧ w = w' := by
  have hl : ws.length = n := by have := hr.1; simpa [nats] using this
  have hg : decide (100 < n) = false := by simp; omega
  have HR := Lib.hid hr
  have HL := Lib.hid hl
  have HM := Lib.hid hM
  have H0 := Lib.hid h0
  clear hr hl hM h0
  go_enter Try.func15, Try.ntmps15
  go_wp2_with fail
  go_loop [7, 19] (fun t i => ∃ k : Nat, k ≤ n ∧ i = .int .i64 k ∧ t = .int .i64 ((ws.take k).sum : Nat)) (fun _ i => n - (intOf i).toNat)
  case atStart => exact ⟨0, Nat.zero_le _, rfl, rfl⟩
  case round =>
    obtain ⟨k, hk, rfl, rfl⟩ := hrel
    by_cases hlt : k < n
    · obtain ⟨b, off, x, rfl, _, hx, hcell⟩ := HR.out.int_at hlt
      obtain ⟨a, ha, rfl⟩ := nats_at hx
      have ha2 := HM.out a (List.mem_of_getElem? ha)
      have hst := sum_take_step ha
      have hle := sum_take_le ws (k + 1)
      rw [hst, H0.out] at hle
      have HST := Lib.hid hst
      clear hx ha hst
      generalize (ws.take k).sum = q at *
      have e1 : decide ((a : Int) < 0) = false := by simp
      have e2 : decide (1000000 < (a : Int)) = false := by simp; omega
      go_wp2_with fail
      go_round
      case rel => exact ⟨k + 1, by omega, by go_num, by rw [HST.out]; go_num⟩
      case measure => simp [intOf]; omega
    · obtain rfl : k = n := by omega
      have hs : (ws.take k).sum = 0 := by rw [List.take_of_length_le (by rw [HL.out]; omega), H0.out]
      rw [hs]
      go_wp2_with fail
      go_ret3
      exact ⟨rfl, rfl⟩

set_option maxHeartbeats 2000000 in
theorem pick_any (A A2 : Option Addr) (n c n2 c2 K : Nat) (S S2 : Nat → Prop) (ws : List Nat) (l : List Bool) (w : World) (hr : Rd w S 1 A n ((nats ws).map (Value.int .i64))) (hn : n ≤ 100) (hM : ∀ a ∈ ws, a ≤ 1000000) (h0 : 0 < ws.sum)
    (hr2 : Rd w S2 1 A2 n2 (l.map Value.bool)) (hc2 : n2 ≤ c2) (hn2 : n2 ≤ 281474976710656) (hk1 : ws.sum ≤ 2 ^ K) (hk2 : ∀ j < K, 2 ^ j < ws.sum) (hk3 : K ≤ 30) :
    Calls Try.prog 15 #[.slice A n c, .slice A2 n2 c2] w fun e w' => e = .returned (pickVal ws (number ws.sum K l)) ∧ w = w' := by
  have hl : ws.length = n := by have := hr.1; simpa [nats] using this
  have hg : decide (100 < n) = false := by simp; omega
  have hbig := sum_le_all 1000000 hM
  have hbig2 : ws.sum ≤ 100000000 := by
    have : ws.length * 1000000 ≤ 100 * 1000000 := Nat.mul_le_mul_right _ (by omega)
    omega
  have HR := Lib.hid hr
  have HR2 := Lib.hid hr2
  have HL := Lib.hid hl
  have HM := Lib.hid hM
  have HK1 := Lib.hid hk1
  have HK2 := Lib.hid hk2
  clear hr hl hM hr2 hk1 hk2 hbig
  go_enter Try.func15, Try.ntmps15
  go_wp2_with fail
  go_loop [7, 19] (fun t i => ∃ k : Nat, k ≤ n ∧ i = .int .i64 k ∧ t = .int .i64 ((ws.take k).sum : Nat)) (fun _ i => n - (intOf i).toNat)
  case atStart => exact ⟨0, Nat.zero_le _, rfl, rfl⟩
  case round =>
    obtain ⟨k, hk, rfl, rfl⟩ := hrel
    by_cases hlt : k < n
    · obtain ⟨b, off, x, rfl, _, hx, hcell⟩ := HR.out.int_at hlt
      obtain ⟨a, ha, rfl⟩ := nats_at hx
      have ha2 := HM.out a (List.mem_of_getElem? ha)
      have hst := sum_take_step ha
      have hle := sum_take_le ws (k + 1)
      rw [hst] at hle
      have HST := Lib.hid hst
      clear hx ha hst
      generalize (ws.take k).sum = q at *
      have e1 : decide ((a : Int) < 0) = false := by simp
      have e2 : decide (1000000 < (a : Int)) = false := by simp; omega
      go_wp2_with fail
      go_round
      case rel => exact ⟨k + 1, by omega, by go_num, by rw [HST.out]; go_num⟩
      case measure => simp [intOf]; omega
    · obtain rfl : k = n := by omega
      rw [List.take_of_length_le (by rw [HL.out]; omega)]
      have hz : ((ws.sum : Int) == 0) = false := by simp; omega
      cases he : number ws.sum K l with
      | none =>
        have HE := Lib.hid he
        clear he
        go_wp2_with (go_at_call 10; refine (number_no _ ws.sum K n2 c2 _ A2 l _ rfl h0 (by omega) hc2 hn2 HK1.out HK2.out hk3 HR2.out HE.out).mono ?_; rintro e w' ⟨rfl, rfl⟩)
        go_ret3
        exact ⟨by rw [HE.out]; rfl, rfl⟩
      | some r =>
        obtain ⟨x, u⟩ := r
        have hx := (number_hit h0 he).2.1
        have HE := Lib.hid he
        clear he
        go_wp2_with (go_at_call 10; refine (number_yes _ ws.sum K n2 c2 x u _ A2 l _ rfl h0 (by omega) hc2 hn2 HK1.out HK2.out hk3 HR2.out HE.out).mono ?_; rintro e w' ⟨rfl, rfl⟩)
        go_loop [10, 13] (fun t i => ∃ j y : Nat, t = .int .i64 y ∧ i = .int .i64 j ∧ y ≤ x ∧ PickAt ws x j y) (fun _ i => k - (intOf i).toNat)
        case atStart => exact ⟨0, x, rfl, rfl, Nat.le_refl _, PickAt.start hx⟩
        case round =>
          obtain ⟨j, y, rfl, rfl, hyx, hat⟩ := hrel
          have hjl := hat.lt
          rw [HL.out] at hjl
          obtain ⟨b, off, x1, rfl, _, hx1, hcell⟩ := HR.out.int_at hjl
          obtain ⟨a, ha, rfl⟩ := nats_at hx1
          have HA := Lib.hid ha
          have HAT := Lib.hid hat
          clear hx1 ha hat
          by_cases hya : a ≤ y
          · have HN := Lib.hid (HAT.out.next HA.out hya)
            go_wp2_with fail
            go_round
            case rel => exact ⟨j + 1, y - a, by go_num, by go_num, by omega, HN.out⟩
            case measure => simp [intOf]; omega
          · have HN := Lib.hid (HAT.out.hit HA.out (by omega))
            go_wp2_with fail
            go_ret3
            exact ⟨by rw [HE.out, pickVal, HN.out]; rfl, rfl⟩
end Go.Proofs.Ytjeklijkncbaaaa
