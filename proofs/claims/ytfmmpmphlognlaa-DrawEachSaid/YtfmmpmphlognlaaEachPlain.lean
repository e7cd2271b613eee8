/- DrawEach: the finite law. -/
import Derived.Test.YtfmmpmphlognlaaOrder
import Derived.Test.YtfmmpmphlognlaaSlSort2
import Derived.Maps.RangeWalk
import Derived.Maps.OwnOps
import Derived.Maps.OwnSet
namespace Go.Proofs.Ytfmmpmphlognlaa
open Go.RowKit Go.Maps

def codeGo (n : Int) (out : List Int) : Int := out.foldl (fun a x => a * n + x) 0
def codeOf (n : Nat) (l : List Bool) : Option Int := match orderOf n l with
  | some (out, _) => some (codeGo n out)
  | none => none
def codesOf (n : Nat) (L : List (List Bool)) : List Int := L.filterMap (codeOf n)
def cntD (D : DataW Unit) (c : Int) : Int := match D.atKey (.int .i64 c) (.lit (.int .i64 0)) with
  | .lit (.int _ x) => x
  | _ => 0
def stepD (D : DataW Unit) (c : Int) : DataW Unit := D.put (.int .i64 c) (.lit (.int .i64 (wrap64 (cntD D c + 1))))
def mapD (l : List Int) : DataW Unit := l.foldl stepD (.map [])
theorem mapD_snoc (l : List Int) (c : Int) : mapD (l ++ [c]) = stepD (mapD l) c := by simp [mapD]
def valOf : DataW Unit → Int
  | .lit (.int _ x) => x
  | _ => 0
def factOf (n : Nat) : Nat := if n ≤ 1 then 1 else if n = 2 then 2 else 6
/-- every order is told equally often -/
def finOk (D : DataW Unit) (n : Nat) : Bool := match D with
  | .map [] => true
  | .map (p :: r) => p.1.sameKey p.1 && decide (1 ≤ valOf p.2) && decide (valOf p.2 ≤ 1000) && r.all (fun x => valOf x.2 == valOf p.2) && (r.length + 1 == factOf n)
  | _ => false
/-- as far as the first lists go no count is great -/
def eachAll : Bool := (List.range 4).all fun n => (List.range 9).all fun k => finOk (mapD (codesOf n (allCoins k))) n
theorem eachAll_ok : eachAll = true := by decide +kernel
theorem each_fin {n k : Nat} (hn : n ≤ 3) (hk : k ≤ 8) : finOk (mapD (codesOf n (allCoins k))) n = true := by
  have h := eachAll_ok
  unfold eachAll at h
  rw [List.all_eq_true] at h
  have h1 := h n (List.mem_range.2 (by omega))
  rw [List.all_eq_true] at h1
  exact h1 k (List.mem_range.2 (by omega))
/-- an order has each number once -/
def permAll : Bool := (List.range 4).all fun n => (List.range 9).all fun k => (allCoins k).all fun l => match orderOf n l with
  | some (out, _) => out.isPerm (upTo n)
  | none => true
theorem permAll_ok : permAll = true := by decide +kernel
theorem each_perm {n k : Nat} (hn : n ≤ 3) (hk : k ≤ 8) {l : List Bool} (hl : l ∈ allCoins k) {out : List Int} {u : Nat} (h : orderOf n l = some (out, u)) : out.Perm (upTo n) := by
  have h0 := permAll_ok
  unfold permAll at h0
  rw [List.all_eq_true] at h0
  have h1 := h0 n (List.mem_range.2 (by omega))
  rw [List.all_eq_true] at h1
  have h2 := h1 k (List.mem_range.2 (by omega))
  rw [List.all_eq_true] at h2
  have h3 := h2 l hl
  rw [h] at h3
  exact List.isPerm_iff.1 h3
theorem srt_upTo {n : Nat} {ys : List Int} (hp : ys.Perm (upTo n)) (hs : Srt ys n) : ys = upTo n := by
  have hl : ys.length = n := by rw [hp.length_eq, upTo_len]
  refine List.Perm.eq_of_pairwise (le := fun a b => a ≤ b) (fun a b _ _ h1 h2 => Int.le_antisymm h1 h2) ?_ ?_ hp
  · rw [List.pairwise_iff_getElem]
    intro i j hi hj hij
    exact hs i j _ _ hij (by omega) (List.getElem?_eq_getElem hi) (List.getElem?_eq_getElem hj)
  · rw [List.pairwise_iff_getElem]
    intro i j hi hj hij
    simp [upTo]
    omega
/-- what the finite law says of an entry -/
theorem fin_entry {D : DataW Unit} {n : Nat} (h : finOk D n = true) : (D = .map []) ∨ ∃ v : Int, 1 ≤ v ∧ v ≤ 1000 ∧ Maps.size D = factOf n ∧ (∃ kl, Maps.has D kl = true) ∧ ∀ (x c : Int), (∀ zd, D.atKey (.int .i64 x) zd = .lit (.int .i64 c)) → c = v := by
  unfold finOk at h
  split at h
  · exact Or.inl rfl
  · rename_i p r
    rw [Bool.and_eq_true, Bool.and_eq_true, Bool.and_eq_true, Bool.and_eq_true] at h
    obtain ⟨⟨⟨⟨h0, h1⟩, h2⟩, h3⟩, h4⟩ := h
    refine Or.inr ⟨valOf p.2, of_decide_eq_true h1, of_decide_eq_true h2, by rw [Maps.size_eq, List.length_cons]; exact eq_of_beq h4, ⟨p.1, ?_⟩, fun x c hc => ?_⟩
    · rw [Maps.has_eq, List.any_cons, Bool.or_eq_true]
      exact Or.inl h0
    · have ha := hc (.lit (.int .i64 0))
      have hb := hc (.lit (.int .i64 1))
      unfold DataW.atKey at ha hb
      simp only at ha hb
      cases hf : (p :: r).find? (fun p => p.1.sameKey (.int .i64 x)) with
      | none =>
        rw [hf] at ha hb
        simp only at ha hb
        injection ha with ha
        injection hb with hb
        injection ha with _ ha
        injection hb with _ hb
        omega
      | some q =>
        rw [hf] at ha
        simp only at ha
        have hq := List.mem_of_find?_eq_some hf
        rcases List.mem_cons.1 hq with rfl | hq
        · rw [ha]; rfl
        · have := List.all_eq_true.1 h3 q hq
          rw [ha] at this
          exact eq_of_beq this
  · cases h
theorem codesOf_none {n : Nat} {L : List (List Bool)} {l : List Bool} (h : orderOf n l = none) : codesOf n (L ++ [l]) = codesOf n L := by
  simp [codesOf, codeOf, h]
theorem codesOf_some {n : Nat} {L : List (List Bool)} {l : List Bool} {out : List Int} {u : Nat} (h : orderOf n l = some (out, u)) : codesOf n (L ++ [l]) = codesOf n L ++ [codeGo n out] := by
  simp [codesOf, codeOf, h]
theorem wrap_wf (n : Int) : (Lit.int .i64 (wrap64 n)).wf = true := WalkArith.wf_i64 (by unfold wrap64; omega)
def bd : Nat → Int
  | 0 => 0
  | k + 1 => bd k * 3 + 3
theorem bd_nonneg : ∀ k, 0 ≤ bd k
  | 0 => Int.le_refl _
  | k + 1 => by have := bd_nonneg k; unfold bd; omega
theorem codeGo_snoc (n : Int) (l : List Int) (x : Int) : codeGo n (l ++ [x]) = codeGo n l * n + x := by simp [codeGo]
theorem code_bd {n : Int} (h0 : 0 ≤ n) (h3 : n ≤ 3) {l : List Int} (hl : ∀ x ∈ l, 0 ≤ x ∧ x ≤ 3) : ∀ q, q ≤ l.length → 0 ≤ codeGo n (l.take q) ∧ codeGo n (l.take q) ≤ bd q
  | 0, _ => by rw [List.take_zero]; exact ⟨Int.le_refl _, Int.le_refl _⟩
  | q + 1, hq => by
    have ih := code_bd h0 h3 hl q (by omega)
    rw [List.take_succ_eq_append_getElem (by omega), codeGo_snoc]
    have hx := hl _ (List.getElem_mem (h := (by omega : q < l.length)))
    have h1 : 0 ≤ codeGo n (l.take q) * n := Int.mul_nonneg ih.1 h0
    have h2 : codeGo n (l.take q) * n ≤ bd q * 3 := Int.mul_le_mul ih.2 h3 h0 (bd_nonneg q)
    unfold bd
    omega
theorem upTo_mem {n : Nat} {x : Int} (h : x ∈ upTo n) : 0 ≤ x ∧ x < n := by
  simp [upTo] at h
  obtain ⟨a, h1, rfl⟩ := h
  omega
theorem order_two : orderOf 2 [false] = some ([0, 1], 1) := by decide +kernel
theorem facts_at {n : Nat} (hn : n ≤ 3) : ([1, 1, 2, 6] : List Int)[n]? = some (factOf n : Int) := by
  obtain rfl | rfl | rfl | rfl : n = 0 ∨ n = 1 ∨ n = 2 ∨ n = 3 := by omega
  all_goals rfl
end Go.Proofs.Ytfmmpmphlognlaa
