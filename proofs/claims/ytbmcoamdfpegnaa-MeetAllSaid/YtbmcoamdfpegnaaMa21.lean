/- TreeD RankPlain TreePlain LgS SlCmpInt -/
import Derived.Shelf.Abstract
import Derived.Test.YtbmcoamdfpegnaaMa04
import Derived.Test.YtbmcoamdfpegnaaMa06
import Derived.Test.YtbmcoamdfpegnaaMa17
namespace Go.Proofs.Ytbmcoamdfpegnaa
open Go.RowKit
inductive TreeD where
 | node (rule term : Int) (kids : List TreeD) : TreeD
def TreeD.rule : TreeD → Int
 | .node r _ _ => r
def TreeD.term : TreeD → Int
 | .node _ t _ => t
def TreeD.kids : TreeD → List TreeD
 | .node _ _ k => k
section
variable {w w' : World} {S S' : Nat → Prop}
end
section
variable {w : World} {S : Nat → Prop}
end
end Go.Proofs.Ytbmcoamdfpegnaa
namespace Go.Proofs.Ytbmcoamdfpegnaa
section
variable {R : List RuleD} {N : Nat}
noncomputable def oN (R : List RuleD) (s : SymD) (n : Nat) : Nat := ofC (lenD R) (cN R) s n
end
end Go.Proofs.Ytbmcoamdfpegnaa
namespace Go.Proofs.Ytbmcoamdfpegnaa
mutual
def nodesT : TreeD → List TreeD
 | .node r x ks => .node r x ks :: nodesTs ks
def nodesTs : List TreeD → List TreeD
 | [] => []
 | t :: ts => nodesT t ++ nodesTs ts
end
theorem nodesT_eq (t : TreeD) : nodesT t = t :: nodesTs t.kids := by
 cases t
 rw [nodesT]
 rfl
theorem nodesTs_nil : nodesTs [] = [] := by rw [nodesTs]
theorem nodesTs_cons (t : TreeD) (ts : List TreeD) : nodesTs (t :: ts) = nodesT t ++ nodesTs ts := by rw [nodesTs]
def sizeT (t : TreeD) : Nat := (nodesT t).length
def sizeTs (l : List TreeD) : Nat := (nodesTs l).length
theorem sizeT_eq (t : TreeD) : sizeT t = 1 + sizeTs t.kids := by
 unfold sizeT sizeTs
 rw [nodesT_eq, List.length_cons]
 omega
theorem sizeTs_cons (t : TreeD) (l : List TreeD) : sizeTs (t :: l) = sizeT t + sizeTs l := by unfold sizeTs sizeT; rw [nodesTs_cons, List.length_append]
theorem sizeT_mem : ∀ {l : List TreeD} {x : TreeD}, x ∈ l → sizeT x ≤ sizeTs l
 | y :: l, x, h => by
  rw [sizeTs_cons]
  rcases List.mem_cons.1 h with rfl | h
  ·
   omega
  ·
   have := sizeT_mem h; omega
theorem sizeT_kid {t x : TreeD} (h : x ∈ t.kids) : sizeT x < sizeT t := by
 rw [sizeT_eq t]
 have := sizeT_mem h
 omega
def wordOf (l : List TreeD) : List Int := (l.filter fun x => decide (x.rule = -1)).map TreeD.term
theorem wordOf_append (l m : List TreeD) : wordOf (l ++ m) = wordOf l ++ wordOf m := by unfold wordOf; rw [List.filter_append, List.map_append]
def wordT (t : TreeD) : List Int := wordOf (nodesT t)
def wordTs (l : List TreeD) : List Int := wordOf (nodesTs l)
theorem wordTs_nil : wordTs [] = [] := by unfold wordTs; rw [nodesTs_nil]; rfl
theorem wordTs_cons (t : TreeD) (l : List TreeD) : wordTs (t :: l) = wordT t ++ wordTs l := by unfold wordTs wordT; rw [nodesTs_cons, wordOf_append]
theorem wordT_leaf (c : Int) : wordT (.node (-1) c []) = [c] := by unfold wordT; rw [nodesT, nodesTs]; rfl
theorem wordT_node (k : Nat) (x : Int) (ts : List TreeD) : wordT (.node (k : Int) x ts) = wordTs ts := by
 unfold wordT wordTs
 rw [nodesT]
 unfold wordOf
 rw [List.filter_cons_of_neg]
 intro h
 have h2 : (k : Int) = -1 := of_decide_eq_true h
 omega
mutual
inductive TV (R : List RuleD) : SymD → TreeD → Prop
 | leaf {c : Int} : TV R (true, c) (.node (-1) c [])
 | node {k : Nat} {r : RuleD} {ts : List TreeD} : R[k]? = some r → TVL R r.2 ts → TV R (false, r.1) (.node (k : Int) 0 ts)
inductive TVL (R : List RuleD) : List SymD → List TreeD → Prop
 | nil : TVL R [] []
 | cons {s : SymD} {l : List SymD} {t : TreeD} {ts : List TreeD} : TV R s t → TVL R l ts → TVL R (s :: l) (t :: ts)
end
section
variable {R : List RuleD} {N : Nat}
theorem TV.inv {s : SymD} {t : TreeD} (h : TV R s t) : (∃ c, s = (true, c) ∧ t = .node (-1) c []) ∨ ∃ (k : Nat) (r : RuleD) (ts : List TreeD), s = (false, r.1) ∧ t = .node (k : Int) 0 ts ∧ R[k]? = some r ∧ TVL R r.2 ts := by
 cases h with
 | leaf => exact Or.inl ⟨_, rfl, rfl⟩
 | node h1 h2 => exact Or.inr ⟨_, _, _, rfl, rfl, h1, h2⟩
theorem TVL.inv {s : SymD} {l : List SymD} {ts : List TreeD} (h : TVL R (s :: l) ts) : ∃ t ts', ts = t :: ts' ∧ TV R s t ∧ TVL R l ts' := by
 cases h with
 | cons h1 h2 => exact ⟨_, _, rfl, h1, h2⟩
theorem TVL.inv_nil {ts : List TreeD} (h : TVL R [] ts) : ts = [] := by
 cases h
 rfl
mutual
theorem TV.der {s : SymD} {t : TreeD} : TV R s t → Der R [s] (wordT t).length
 | .leaf => by rw [wordT_leaf]; exact .term .nil
 | .node h1 h2 => by rw [wordT_node]; exact Der.non_iff.2 ⟨_, List.mem_of_getElem? h1, TVL.der h2⟩
theorem TVL.der {l : List SymD} {ts : List TreeD} : TVL R l ts → Der R l (wordTs ts).length
 | .nil => by rw [wordTs_nil]; exact .nil
 | .cons h1 h2 => by
  rw [wordTs_cons, List.length_append]
  exact Der.append (TV.der h1) (TVL.der h2)
end
end
end Go.Proofs.Ytbmcoamdfpegnaa
namespace Go.Proofs.Ytbmcoamdfpegnaa
def LgS (R : List RuleD) (s : SymD) (w : List Int) : Prop := ∃ t, TV R s t ∧ wordT t = w
def LgL (R : List RuleD) (l : List SymD) (w : List Int) : Prop := ∃ ts, TVL R l ts ∧ wordTs ts = w
section
variable {R : List RuleD}
theorem LgS.term {c : Int} {w : List Int} : LgS R (true, c) w ↔ w = [c] := by
 constructor
 ·
  rintro ⟨t, h, rfl⟩
  rcases h.inv with ⟨c', e, rfl⟩ | ⟨k, r, ts, e, _⟩
  ·
   injection e with _ e
   rw [e, wordT_leaf]
  ·
   cases e
 ·
  rintro rfl
  exact ⟨_, .leaf, wordT_leaf c⟩
theorem LgS.non {a : Int} {w : List Int} : LgS R (false, a) w ↔ ∃ r ∈ R, r.1 = a ∧ LgL R r.2 w := by
 constructor
 ·
  rintro ⟨t, h, rfl⟩
  rcases h.inv with ⟨c', e, rfl⟩ | ⟨k, r, ts, e, rfl, hk, ht⟩
  ·
   cases e
  ·
   injection e with _ e
   exact ⟨r, List.mem_of_getElem? hk, e.symm, ts, ht, (wordT_node k 0 ts).symm⟩
 ·
  rintro ⟨r, hr, rfl, ts, ht, rfl⟩
  obtain ⟨k, hk⟩ := List.getElem?_of_mem hr
  exact ⟨_, .node hk ht, wordT_node k 0 ts⟩
theorem LgL.nil {w : List Int} : LgL R [] w ↔ w = [] := by
 constructor
 ·
  rintro ⟨ts, h, rfl⟩
  rw [h.inv_nil, wordTs_nil]
 ·
  rintro rfl
  exact ⟨[], .nil, wordTs_nil⟩
theorem LgL.cons {s : SymD} {l : List SymD} {w : List Int} : LgL R (s :: l) w ↔ ∃ u v, w = u ++ v ∧ LgS R s u ∧ LgL R l v := by
 constructor
 ·
  rintro ⟨ts, h, rfl⟩
  obtain ⟨t, ts', rfl, h1, h2⟩ := h.inv
  exact ⟨_, _, wordTs_cons t ts', ⟨t, h1, rfl⟩, ⟨ts', h2, rfl⟩⟩
 ·
  rintro ⟨u, v, rfl, ⟨t, h1, rfl⟩, ⟨ts, h2, rfl⟩⟩
  exact ⟨t :: ts, .cons h1 h2, wordTs_cons t ts⟩
theorem LgL.one {s : SymD} {w : List Int} : LgL R [s] w ↔ LgS R s w := by
 rw [LgL.cons]
 constructor
 ·
  rintro ⟨u, v, rfl, h1, h2⟩
  rw [LgL.nil.1 h2, List.append_nil]
  exact h1
 ·
  exact fun h => ⟨w, [], (List.append_nil w).symm, h, LgL.nil.2 rfl⟩
end
end Go.Proofs.Ytbmcoamdfpegnaa
namespace Go.Proofs.Ytbmcoamdfpegnaa
open Go.RowKit
def cmpI (x y : Int) : Int := if x < y then -1 else if y < x then 1 else 0
set_option maxHeartbeats 1000000 in
theorem cmpIntC (x y : Int) (w : World) : Calls Try.prog 50 #[.int .i64 x, .int .i64 y] w fun e w' => e = .returned (.int .i64 (cmpI x y)) ∧ w = w' := by
 by_cases h1 : x < y
 ·
  go_enter Try.func50, Try.ntmps50
  go_wp2
  go_ret
  exact ⟨ret_int (by simp [cmpI, h1]), rfl⟩
 ·
  by_cases h2 : y < x
  ·
   go_enter Try.func50, Try.ntmps50
   go_wp2
   go_ret
   exact ⟨ret_int (by simp [cmpI, h1, h2]), rfl⟩
  ·
   go_enter Try.func50, Try.ntmps50
   go_wp2
   go_ret
   exact ⟨ret_int (by unfold cmpI; rw [if_neg (by omega), if_neg (by omega)]), rfl⟩
def cmpL : List Int → List Int → Int
 | [], [] => 0
 | [], _ :: _ => -1
 | _ :: _, [] => 1
 | x :: l, y :: m => if cmpI x y = 0 then cmpL l m else cmpI x y
theorem cmpI_zero {x y : Int} (h : cmpI x y = 0) : x = y := by
 unfold cmpI at h
 split at h
 ·
  omega
 ·
  split at h
  ·
   omega
  ·
   omega
theorem cmpL_drop {l m : List Int} {k : Nat} {x y : Int} (h1 : l[k]? = some x) (h2 : m[k]? = some y) (hc : cmpI x y = 0) : cmpL (l.drop k) (m.drop k) = cmpL (l.drop (k + 1)) (m.drop (k + 1)) := by
 obtain ⟨a1, rfl⟩ := List.getElem?_eq_some_iff.1 h1
 obtain ⟨a2, rfl⟩ := List.getElem?_eq_some_iff.1 h2
 rw [List.drop_eq_getElem_cons a1, List.drop_eq_getElem_cons a2, cmpL, if_pos hc]
theorem cmpL_stop {l m : List Int} {k : Nat} {x y : Int} (h1 : l[k]? = some x) (h2 : m[k]? = some y) (hc : cmpI x y ≠ 0) : cmpL (l.drop k) (m.drop k) = cmpI x y := by
 obtain ⟨a1, rfl⟩ := List.getElem?_eq_some_iff.1 h1
 obtain ⟨a2, rfl⟩ := List.getElem?_eq_some_iff.1 h2
 rw [List.drop_eq_getElem_cons a1, List.drop_eq_getElem_cons a2, cmpL, if_neg hc]
set_option maxHeartbeats 1000000 in
theorem compareInt (A1 A2 : Option Addr) (n1 c1 n2 c2 : Nat) (S1 S2 : Nat → Prop) (l1 l2 : List Int) (w : World) (hr1 : Rd w S1 1 A1 n1 (l1.map (Value.int .i64))) (hr2 : Rd w S2 1 A2 n2 (l2.map (Value.int .i64))) (hn : n1 ≤ 1000000000000) :
    Calls Try.prog 51 #[.slice A1 n1 c1, .slice A2 n2 c2] w fun e w' => e = .returned (.int .i64 (cmpL l1 l2)) ∧ w = w' := by
 have hl1 : l1.length = n1 := by simpa using hr1.1
 have hl2 : l2.length = n2 := by simpa using hr2.1
 have HL1 := Lib.hid hl1
 have HL2 := Lib.hid hl2
 have HR1 := Lib.hid hr1
 have HR2 := Lib.hid hr2
 clear hl1 hl2 hr1 hr2
 go_enter Try.func51, Try.ntmps51
 go_wp2_with fail
 go_loop [11] (fun i => ∃ k : Nat, k ≤ n1 ∧ k ≤ n2 ∧ i = .int .i64 k ∧ cmpL l1 l2 = cmpL (l1.drop k) (l2.drop k)) (fun i => n1 - (intOf i).toNat)
 case atStart => exact ⟨0, Nat.zero_le _, Nat.zero_le _, rfl, rfl⟩
 case round =>
  obtain ⟨k, hk1, hk2, rfl, heq⟩ := hrel
  have HE := Lib.hid heq
  clear heq
  by_cases hlt : k < n1
  ·
   obtain ⟨b1, o1, x, rfl, _, hx, hcell1⟩ := HR1.out.int_at hlt
   have HX := Lib.hid hx
   clear hx
   by_cases hlt2 : k < n2
   ·
    obtain ⟨b2, o2, y, rfl, _, hy, hcell2⟩ := HR2.out.int_at hlt2
    have HY := Lib.hid hy
    clear hy
    by_cases hc : cmpI x y = 0
    ·
     have HC := Lib.hid hc
     clear hc
     go_wp2_with (go_at_call 50; refine (cmpIntC _ _ _).mono ?_; rintro e w' ⟨rfl, rfl⟩; rw [HC.out])
     go_round
     case rel => exact ⟨k + 1, by omega, by omega, by go_num, by rw [HE.out, cmpL_drop HX.out HY.out HC.out]⟩
     case measure => simp [intOf]; omega
    ·
     have hcb : (cmpI x y != 0) = true := by simpa using hc
     have HF := Lib.hid (cmpL_stop HX.out HY.out hc)
     go_wp2_with (go_at_call 50; refine (cmpIntC _ _ _).mono ?_; rintro e w' ⟨rfl, rfl⟩)
     go_ret
     exact ⟨ret_int (by rw [HE.out, HF.out]), rfl⟩
   ·
    have hf : cmpL (l1.drop k) (l2.drop k) = 1 := by
     obtain ⟨a1, rfl⟩ := List.getElem?_eq_some_iff.1 HX.out
     rw [List.drop_eq_getElem_cons a1, List.drop_of_length_le (l := l2) (by rw [HL2.out]; omega), cmpL]
    have HF := Lib.hid hf
    clear hf
    go_wp2_with fail
    go_ret
    exact ⟨ret_int (by rw [HE.out, HF.out]), rfl⟩
  ·
   obtain rfl : k = n1 := by omega
   have hd : l1.drop k = [] := List.drop_of_length_le (by rw [HL1.out]; omega)
   by_cases hlt2 : k < n2
   ·
    have hf : cmpL (l1.drop k) (l2.drop k) = -1 := by rw [hd, List.drop_eq_getElem_cons (by rw [HL2.out]; omega), cmpL]
    have HF := Lib.hid hf
    clear hf hd
    go_wp2_with fail
    go_ret
    exact ⟨ret_int (by rw [HE.out, HF.out]), rfl⟩
   ·
    have hf : cmpL (l1.drop k) (l2.drop k) = 0 := by rw [hd, List.drop_of_length_le (l := l2) (by rw [HL2.out]; omega), cmpL]
    have HF := Lib.hid hf
    clear hf hd
    go_wp2_with fail
    go_ret
    exact ⟨ret_int (by rw [HE.out, HF.out]), rfl⟩
end Go.Proofs.Ytbmcoamdfpegnaa
