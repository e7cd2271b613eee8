/- The stream of raw numbers out of which the laws make their values: parlmake.stream. -/
import Derived.Test.YtgaahpddlohjoaaMinMax
import Derived.Test.YtgaahpddlohjoaaBelow
namespace Go.Proofs.Ytgaahpddlohjoaa
open Go.RowKit

/-- the number that the k-th call of 'next' gives -/
def nv (l : List Int) (k : Nat) (m : Int) : Int := match l[k]? with
  | some x => x % m
  | none => 0
theorem nv_range (l : List Int) (k : Nat) (m : Int) (hm : 1 ≤ m) : 0 ≤ nv l k m ∧ nv l k m < m := by
  unfold nv
  split
  · rename_i x _
    exact ⟨Int.emod_nonneg x (by omega), Int.emod_lt_of_pos x (by omega)⟩
  · omega
/-- a stream in block B that has l still to give, which lies in blocks of S -/
def StreamAt (w : World) (S : Nat → Prop) (B : Nat) (l : List Int) : Prop := ∃ A m c T, w.heap[B]? = some (.cells #[.slice A m c] T (0, 0)) ∧ Sl Rep.int w S A m c l ∧ m ≤ 1000000000000000
theorem heap_lt {w : World} {B : Nat} {o : Obj} (h : w.heap[B]? = some o) : B < w.heap.size := by
  rcases Nat.lt_or_ge B w.heap.size with hlt | hge
  · exact hlt
  · rw [Array.getElem?_eq_none hge] at h; cases h
section
variable {w w' : World} {S : Nat → Prop} {B : Nat} {l : List Int}
theorem StreamAt.lt (h : StreamAt w S B l) : B < w.heap.size := by
  obtain ⟨A, m, c, T, h, _⟩ := h
  exact heap_lt h
theorem StreamAt.keep (h : StreamAt w S B l) (hk : Kept S w w') (hB : w'.heap[B]? = w.heap[B]?) : StreamAt w' S B l := by
  obtain ⟨A, m, c, T, hh, hs, hm⟩ := h
  exact ⟨A, m, c, T, hB.trans hh, hs.keep hk, hm⟩
theorem StreamAt.below (h : StreamAt w S B l) (hb : Below w.heap.size w w') : StreamAt w' S B l := h.keep (.below hb) (hb.block B h.lt)
theorem StreamAt.alloc (h : StreamAt w S B l) (o : Obj) : StreamAt (w.alloc o) S B l := h.keep (.alloc _ _ _) (Below.heap_alloc w o B h.lt)
theorem StreamAt.grown {row : Option Nat} (h : StreamAt w S B l) (hg : w.grownBy w' row) (hr : row ≠ some B) (hS : ∀ b, S b → row ≠ some b) : StreamAt w' S B l :=
  h.keep (.grown hg hS) (hg.block B h.lt fun e => hr e.symm)
end
theorem heap_new (w : World) (o : Obj) (H : Nat) (hH : w.heap.size = H) : (w.alloc o).heap[H]? = some o := by subst hH; exact heap_alloc_new w o
theorem streamStart (w : World) (S : Nat → Prop) (A : Option Addr) (n c T H : Nat) (l : List Int) (hs : Sl Rep.int w S A n c l) (hn : n ≤ 1000000000000000) (hH : w.heap.size = H) : StreamAt (w.alloc (.cells #[.slice A n c] T)) S H (l.drop 0) :=
  ⟨A, n, c, T, heap_new w _ H hH, hs.alloc _, hn⟩
theorem drop_tail (l : List Int) (k : Nat) : (l.drop k).tail = l.drop (k + 1) := by rw [List.tail_drop]
set_option maxHeartbeats 1000000 in
theorem streamNext (w : World) (S : Nat → Prop) (B k : Nat) (n : Int) (l : List Int) (h : StreamAt w S B (l.drop k)) (hSB : ¬ S B) (hn : 1 ≤ n) (hn2 : n ≤ 1000000) :
    Calls Try.prog 41 #[.pointer (some ⟨B, 0, none⟩), .int .i64 n] w fun e w' => e = .returned (.int .i64 (nv l k n)) ∧ StreamAt w' S B (l.drop (k + 1)) ∧ w.grownBy w' (some B) := by
  have hlt := h.lt
  obtain ⟨A, m, c, T, hh, hs, hm⟩ := h
  have hlen := hs.len
  have hcap := hs.cap
  have hcell : w.cell? ⟨B, 0, none⟩ = some (.slice A m c) := by simp [World.cell?, hh]
  have hfr : w.frozen? ⟨B, 0, none⟩ = false := by simp [World.frozen?, hh]
  rw [List.length_drop] at hlen
  rcases Nat.eq_zero_or_pos m with h0 | h0
  · subst h0
    have hnv : nv l k n = 0 := by unfold nv; rw [List.getElem?_eq_none (by omega)]
    have hst : StreamAt w S B (l.drop (k + 1)) := by
      rw [List.drop_of_length_le (by omega)]
      exact ⟨A, 0, c, T, hh, Sl.nil _ _ _ _, Nat.zero_le _⟩
    have HNV := Lib.hid hnv
    have HST := Lib.hid hst
    clear hh hs hnv hst hlen
    go_enter Try.func41, Try.ntmps41
    go_wp2_with fail
    go_ret
    exact ⟨ret_int HNV.out.symm, HST.out, World.grownBy.refl _ _⟩
  · obtain ⟨b, off, x, rfl, hSb, hx, hc0⟩ := hs.ints.int_at h0
    rw [Nat.add_zero] at hc0
    rw [List.getElem?_drop, Nat.add_zero] at hx
    obtain ⟨A', hcut, hrd⟩ := tInts.cutl (c := c) hs.ints 1 (by omega) (by omega) hcap
    rw [show (1 : Int).toNat = 1 from rfl, Nat.one_mul, ← List.map_drop, List.drop_drop] at hrd
    rw [show (1 : Int).toNat = 1 from rfl] at hcut
    have hnv : nv l k n = x % n := by unfold nv; rw [hx]
    have hst : StreamAt (w.setCell ⟨B, 0, none⟩ (.slice A' (m - 1) (c - 1))) S B (l.drop (k + 1)) := by
      refine ⟨A', m - 1, c - 1, T, ?_, (hrd.slInts (by omega)).keep (.setCell _ _ _ _ hSB), by omega⟩
      have := heap_setCell_same w B 0 #[.slice (some ⟨b, off, none⟩) m c] T (.slice A' (m - 1) (c - 1)) hh
      simpa using this
    have hgr : w.grownBy (w.setCell ⟨B, 0, none⟩ (.slice A' (m - 1) (c - 1))) (some B) := ⟨rfl, rfl, rfl, by simp [World.setCell], fun q _ hq => Below.heap_setCell w ⟨B, 0, none⟩ _ q (fun e => hq (by rw [e]))⟩
    have HNV := Lib.hid hnv
    have HST := Lib.hid hst
    have HGR := Lib.hid hgr
    clear hh hs hnv hst hgr hrd hx hlen
    have hb1 : (1 : Int) ≤ (m : Int) := by omega
    have hme : ((m : Int) == 0) = false := by simp; omega
    go_enter Try.func41, Try.ntmps41
    go_wp2_with (go_at_call 74; refine (makeBelow _ _ _ hn (by omega)).mono ?_; rintro e w' ⟨rfl, rfl⟩)
    go_ret
    exact ⟨ret_int HNV.out.symm, HST.out, HGR.out⟩
end Go.Proofs.Ytgaahpddlohjoaa
