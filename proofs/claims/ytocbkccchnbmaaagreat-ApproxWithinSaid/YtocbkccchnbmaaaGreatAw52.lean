/- OtherPlain -/
import Derived.Test.YtocbkccchnbmaaaGreatAw24
import Derived.Test.YtocbkccchnbmaaaGreatAw51
namespace Go.Proofs.YtocbkccchnbmaaaGreat
open Go.RowKit
theorem other_cols {d : DfaD} (hv : Valid d) : cols (otherD d) = cols d := by
 unfold cols otherD
 have h := hv.n1
 dsimp only
 rw [List.getElem?_append_left (by simp; omega), List.getElem?_map]
 cases hd : d.2.2[0]? with
 | none => rw [List.getElem?_eq_none_iff] at hd; omega
 | some r => simp [oRow]
theorem other_len (d : DfaD) : (otherD d).2.2.length = d.2.2.length + 1 := by simp [otherD]
theorem other_valid {d : DfaD} (hv : Valid d) (hn : d.2.2.length ≤ 59) : Valid (otherD d) := by
 refine ⟨by rw [other_len]; omega, by rw [other_len]; omega, ?_, by rw [other_cols hv]; exact hv.c1, by rw [other_cols hv]; exact hv.c2, ?_, ?_, ?_⟩
 ·
  rw [other_len, ← hv.na]; simp [otherD]
 ·
  intro r hr
  rw [other_cols hv, other_len]
  rcases List.mem_append.1 (show r ∈ d.2.2.map (oRow d.2.2.length) ++ [List.replicate (cols d) (d.2.2.length : Int)] from hr) with h | h
  ·
   obtain ⟨q, hq, rfl⟩ := List.mem_map.1 h
   obtain ⟨h1, h2⟩ := hv.rows q hq
   refine ⟨by rw [oRow_len]; exact h1, fun x hx => ?_⟩
   obtain ⟨y, hy, rfl⟩ := List.mem_map.1 (show x ∈ q.map _ from hx)
   have := h2 y hy
   split <;> omega
  ·
   obtain rfl := List.mem_singleton.1 h
   refine ⟨by simp, fun x hx => ?_⟩
   obtain rfl := List.eq_of_mem_replicate hx
   omega
 ·
  have := hv.st
  rw [other_len]
  show 0 ≤ d.1 ∧ _
  have e : (otherD d).1 = d.1 := rfl
  rw [e]
  omega
 ·
  intro x hx
  rcases List.mem_append.1 (show x ∈ d.2.1.map oAcc ++ [0] from hx) with h | h
  ·
   obtain ⟨y, _, rfl⟩ := List.mem_map.1 h
   unfold oAcc
   split <;> omega
  ·
   obtain rfl := List.mem_singleton.1 h
   omega
def oSt (n : Nat) (s : Int) : Int := if s < 0 then n else s
theorem other_to {d : DfaD} (hv : Valid d) {s c : Int} (hs : -1 ≤ s ∧ s < d.2.2.length) (hc : 0 ≤ c ∧ c < cols d) : dto (otherD d) (oSt d.2.2.length s) c = oSt d.2.2.length (dto d s c) := by
 have hr : (otherD d).2.2 = d.2.2.map (oRow d.2.2.length) ++ [List.replicate (cols d) (d.2.2.length : Int)] := rfl
 unfold dto oSt
 rw [hr]
 by_cases h0 : s < 0
 ·
  rw [if_pos h0, if_pos h0, if_neg (by omega), if_pos (by omega)]
  rw [Int.toNat_natCast, List.getElem?_append_right (by simp), List.length_map, Nat.sub_self]
  show ((List.replicate (cols d) (d.2.2.length : Int))[c.toNat]?).getD 0 = _
  rw [List.getElem?_replicate, if_pos (by omega)]
  rfl
 ·
  rw [if_neg h0, if_neg h0, if_neg h0]
  have h1 : s.toNat < d.2.2.length := by omega
  rw [List.getElem?_append_left (by simpa using h1), List.getElem?_map, List.getElem?_eq_getElem h1]
  obtain ⟨hl, _⟩ := hv.rows _ (List.getElem_mem h1)
  have h2 : c.toNat < (d.2.2[s.toNat]).length := by omega
  simp [oRow, List.getElem?_eq_getElem h2]
theorem other_run {d : DfaD} (hv : Valid d) : ∀ {l : List Int}, (∀ x ∈ l, 0 ≤ x ∧ x < cols d) → ∀ {s : Int}, -1 ≤ s ∧ s < d.2.2.length → l.foldl (dto (otherD d)) (oSt d.2.2.length s) = oSt d.2.2.length (l.foldl (dto d) s)
 | [], _, _, _ => rfl
 | c :: l, h, s, hs => by
  have hc := h c (by simp)
  rw [List.foldl_cons, List.foldl_cons, other_to hv hs hc]
  exact other_run hv (l := l) (fun x hx => h x (by simp [hx])) (dto_range hv hs hc)
theorem other_accept {d : DfaD} (hv : Valid d) {l : List Int} (hl : ∀ x ∈ l, 0 ≤ x ∧ x < cols d) : daccept (otherD d) l = !daccept d l := by
 have hst := hv.st
 have hr := other_run hv hl (s := d.1) ⟨by omega, hst.2⟩
 have hg := drun_range hv hl (s := d.1) ⟨by omega, hst.2⟩
 have e0 : oSt d.2.2.length d.1 = (otherD d).1 := by unfold oSt; rw [if_neg (by omega)]; rfl
 rw [e0] at hr
 have hd : drun (otherD d) l = oSt d.2.2.length (drun d l) := hr
 unfold daccept
 rw [hd]
 change -1 ≤ drun d l ∧ drun d l < d.2.2.length at hg
 generalize drun d l = s at *
 have ha : (otherD d).2.1 = d.2.1.map oAcc ++ [0] := rfl
 have hna := hv.na
 unfold dat oSt
 rw [ha]
 by_cases h0 : s < 0
 ·
  rw [if_pos h0, if_pos h0, if_neg (by omega), Int.toNat_natCast, List.getElem?_append_right (by simp [hna])]
  simp [hna]
 ·
  rw [if_neg h0, if_neg h0, if_neg h0]
  have h1 : s.toNat < d.2.1.length := by omega
  rw [List.getElem?_append_left (by simpa using h1), List.getElem?_map, List.getElem?_eq_getElem h1]
  simp only [Option.map_some, Option.getD_some, oAcc]
  by_cases h2 : 0 ≤ d.2.1[s.toNat] <;> simp [h2]
end Go.Proofs.YtocbkccchnbmaaaGreat
