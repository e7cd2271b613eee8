/- Stable -/
import Derived.Test.YtimklgbljjamkaaDoorCs44
namespace Go.Proofs.YtimklgbljjamkaaDoor
open Go.RowKit
theorem symAll (S : Nat → Prop) (A : Option Addr) (n c : Nat) (ps : List PackD) (d : Nat) : SymAt S A n c ps d := by
 induction d using Nat.strongRecOn with
 | ind d ih => exact symS S A n c ps d ih
set_option linter.unusedSimpArgs false in
set_option maxRecDepth 100000 in
set_option maxHeartbeats 4000000 in
theorem stableSt (w : World) (S : Nat → Prop) (A : Option Addr) (n c : Nat) (ps : List PackD) (h : StP w S A n c ps) :
    Calls Tryd.prog 99 #[.slice A n c, .int .i64 (n : Int), .func (.func 76) #[] #[]] w fun e w' => e = .returned (.tuple #[]) ∧ Below w.heap.size w w' := by
 have HS := Lib.hid h
 have hn := h.few
 clear h
 go_enter Tryd.func99, Tryd.ntmps99
 go_wp2_with fail
 go_loopg [7, 8] n (fun g v7 v8 wr => ∃ a : Nat, a ≤ n ∧ g = n - a ∧ v7 = .int .i64 (a : Int) ∧ v8 = .int .i64 ((a + 20 : Nat) : Int) ∧ Below w.heap.size w wr)
 case atStart => exact ⟨0, by omega, rfl, rfl, rfl, Below.refl _ _⟩
 case round =>
  obtain ⟨a, han, hg, rfl, rfl, hb⟩ := hrel
  obtain ⟨w3, rfl⟩ : ∃ w3 : World, w3 = wr := ⟨_, rfl⟩
  have HG := Lib.hid hg
  have HB := Lib.hid hb
  clear hg hb
  obtain ⟨b, hab⟩ : ∃ b, b = a + 20 := ⟨_, rfl⟩
  rw [← hab]
  have HAB := Lib.hid hab
  by_cases hbn : b ≤ n
  ·
   have hbI : (b : Int) ≤ (n : Int) := by omega
   clear hab
   go_wp2_with (go_at_call 120; refine (insSt w3 S A n c ps (HS.out.below HB.out) a b hbn han).mono ?_; rintro e w4 ⟨rfl, hb4⟩; have HB4 := Lib.hid (HB.out.trans (hb4.mono HB.out.size)); clear hb4)
   go_roundg (n - b)
   case measure => rw [HG.out]; have := HAB.out; omega
   case rel => exact ⟨b, hbn, rfl, rfl, by go_num, HB4.out⟩
  ·
   have hbI : ¬ (b : Int) ≤ (n : Int) := by omega
   clear hab
   go_wp2_with (go_at_call 120; refine (insSt w3 S A n c ps (HS.out.below HB.out) a n (Nat.le_refl _) han).mono ?_; rintro e w4 ⟨rfl, hb4⟩; have HB4 := Lib.hid (HB.out.trans (hb4.mono HB.out.size)); clear hb4)
   go_loopg [6, 7, 8] (2 * n - 20) (fun g v6 v7 v8 wr => ∃ (s : Nat), 20 ≤ s ∧ s ≤ 2 * n + 20 ∧ g = 2 * n - s ∧ v6 = .int .i64 (s : Int) ∧ Below w.heap.size w wr)
   case atStart => exact ⟨20, by omega, by omega, rfl, rfl, HB4.out⟩
   case round =>
    obtain ⟨s, hs1, hs2, hg, rfl, hb⟩ := hrel
    obtain ⟨w5, rfl⟩ : ∃ w5 : World, w5 = wr := ⟨_, rfl⟩
    have HG5 := Lib.hid hg
    have HB5 := Lib.hid hb
    clear hg hb
    by_cases hsn : s < n
    ·
     have hsI : (s : Int) < (n : Int) := by omega
     go_wp2_with fail
     go_loopg [7, 8] n (fun g v7 v8 wr => ∃ a : Nat, a ≤ n ∧ g = n - a ∧ v7 = .int .i64 (a : Int) ∧ v8 = .int .i64 ((a + 2 * s : Nat) : Int) ∧ Below w.heap.size w wr)
     case atStart => exact ⟨0, by omega, rfl, rfl, by go_num, HB5.out⟩
     case round =>
      obtain ⟨a2, han2, hg, rfl, rfl, hb⟩ := hrel
      obtain ⟨w6, rfl⟩ : ∃ w6 : World, w6 = wr := ⟨_, rfl⟩
      have HG6 := Lib.hid hg
      have HB6 := Lib.hid hb
      clear hg hb
      obtain ⟨b2, hab2⟩ : ∃ b2, b2 = a2 + 2 * s := ⟨_, rfl⟩
      obtain ⟨m2, hm2⟩ : ∃ m2, m2 = a2 + s := ⟨_, rfl⟩
      have hmI : (a2 : Int) + (s : Int) = (m2 : Int) := by omega
      rw [← hab2]
      have HAB2 := Lib.hid hab2
      have HM2 := Lib.hid hm2
      by_cases hbn2 : b2 ≤ n
      ·
       have hbI2 : (b2 : Int) ≤ (n : Int) := by omega
       clear hab2 hm2
       go_wp2_with (go_at_call 121; refine (symAll S A n c ps (b2 - a2) w6 a2 m2 b2 (HS.out.below HB6.out) (by have := HM2.out; omega) (by have := HM2.out; have := HAB2.out; omega) hbn2 (Nat.le_refl _)).mono ?_; rintro e w7 ⟨rfl, hb7⟩; have HB7 := Lib.hid (HB6.out.trans (hb7.mono HB6.out.size)); clear hb7)
       go_roundg (n - b2)
       case measure => rw [HG6.out]; have := HAB2.out; omega
       case rel => exact ⟨b2, hbn2, rfl, rfl, by go_num, HB7.out⟩
      ·
       have hbI2 : ¬ (b2 : Int) ≤ (n : Int) := by omega
       clear hab2 hm2
       by_cases hmn : m2 < n
       ·
        have hmnI : (m2 : Int) < (n : Int) := by omega
        go_wp2_with (go_at_call 121; refine (symAll S A n c ps (n - a2) w6 a2 m2 n (HS.out.below HB6.out) (by have := HM2.out; omega) hmn (Nat.le_refl _) (Nat.le_refl _)).mono ?_; rintro e w7 ⟨rfl, hb7⟩; have HB7 := Lib.hid (HB6.out.trans (hb7.mono HB6.out.size)); clear hb7)
        go_roundg (2 * n - 2 * s)
        case measure => rw [HG5.out]; omega
        case rel => exact ⟨2 * s, by omega, by omega, rfl, by go_num, HB7.out⟩
       ·
        have hmnI : ¬ (m2 : Int) < (n : Int) := by omega
        go_wp2_with fail
        go_roundg (2 * n - 2 * s)
        case measure => rw [HG5.out]; omega
        case rel => exact ⟨2 * s, by omega, by omega, rfl, by go_num, HB6.out⟩
    ·
     have hsI : ¬ (s : Int) < (n : Int) := by omega
     go_wp2_with fail
     exact Go.bodyPost_end (v := .tuple #[]) (by simp [results, Tryd.results99, go_sem]) rfl ⟨rfl, HB5.out⟩
set_option maxHeartbeats 1000000 in
theorem sortStable (w : World) (S : Nat → Prop) (A : Option Addr) (n c : Nat) (ps : List PackD) (h : StP w S A n c ps) :
    Calls Tryd.prog 75 #[.slice A n c, .func (.func 76) #[] #[]] w fun e w' => e = .returned (.tuple #[]) ∧ Below w.heap.size w w' := by
 have HS := Lib.hid h
 clear h
 go_enter Tryd.func75, Tryd.ntmps75
 go_wp2_with (go_at_call 99; refine (stableSt w S A n c ps HS.out).mono ?_; rintro e w4 ⟨rfl, hb4⟩)
 exact Go.bodyPost_end (v := .tuple #[]) (by simp [results, Tryd.results75, go_sem]) rfl ⟨rfl, hb4⟩
end Go.Proofs.YtimklgbljjamkaaDoor
