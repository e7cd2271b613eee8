/- KPlain MiniPlain -/
import Derived.Test.YtgaahpddlohjoaaAl35
import Derived.Test.YtgaahpddlohjoaaAl46
namespace Go.Proofs.Ytgaahpddlohjoaa
open Go.RowKit
theorem Rd.newS (w : World) (S : Nat → Prop) (t : TypeId) (cs : List Value) (H n size : Nat) (hH : w.heap.size = H) (hS : S H) (hl : cs.length = n * size) : Rd (w.alloc (.cells cs.toArray t)) S size (some ⟨H, 0, none⟩) n cs := by
 subst hH
 refine ⟨hl, fun _ => ⟨w.heap.size, 0, rfl, hS, fun j v hv => ?_⟩⟩
 rw [World.cell?_alloc_at _ _ _ _ rfl]
 simpa using hv
set_option maxRecDepth 100000 in
set_option maxHeartbeats 1000000 in
theorem keepPlain (w : World) : Calls Try.prog 30 #[] w fun e w' => ∃ AR, e = .returned (.agg #[.int .i64 2, .int .i64 1, .int .i64 0, .slice AR 2 2]) ∧ Sl RRule w' (fun b => w.heap.size ≤ b) AR 2 2 plainR ∧ Below w.heap.size w w' := by
 go_enter Try.func30, Try.ntmps30
 go_wp2_with fail
 refine bodyPost_ret (v := .agg #[.int .i64 2, .int .i64 1, .int .i64 0, .slice (some ⟨w.heap.size + 3, 0, none⟩) 2 2]) (by simp [results, Try.results30, go_sem]) rfl ?_
 have hb := ((((Below.refl w.heap.size w).alloc (Nat.le_refl _) (.cells #[.int .i64 2, .int .i64 1, .int .i64 0, .slice (some ⟨w.heap.size + 1 + 1 + 1, 0, none⟩) 2 2] 52)).alloc (by simp) (.cells #[.bool true, .int .i64 0] 99)).alloc (by simp; omega) (.cells #[.bool true, .int .i64 1, .bool false, .int .i64 0] 99)).alloc (by simp; omega) (.cells #[.int .i64 0, .slice (some ⟨w.heap.size + 1, 0, none⟩) 1 1, .int .i64 0, .slice (some ⟨w.heap.size + 1 + 1, 0, none⟩) 2 2] 97)
 refine ⟨_, rfl, ⟨[.int .i64 0, .slice (some ⟨w.heap.size + 1, 0, none⟩) 1 1, .int .i64 0, .slice (some ⟨w.heap.size + 1 + 1, 0, none⟩) 2 2], rfl, Nat.le_refl _, Rd.newS _ _ _ _ _ 2 2 (by simp) (by simp) rfl, ?_⟩, hb⟩
 refine ⟨[_, _], [_, _], rfl, RRule.cells.2 ⟨_, _, _, rfl, ?_⟩, Cells.single (RRule.cells.2 ⟨_, _, _, rfl, ?_⟩)⟩
 ·
  exact Sl.alloc (Sl.alloc (R := RSym) (l := [(true, 0)]) ⟨[.bool true, .int .i64 0], rfl, Nat.le_refl _, Rd.newS _ _ _ _ (w.heap.size + 1) 1 2 (by simp) (by simp) rfl, Cells.single (RSym.cells.2 rfl)⟩ _) _
 ·
  exact Sl.alloc (R := RSym) (l := [(true, 1), (false, 0)]) ⟨[.bool true, .int .i64 1, .bool false, .int .i64 0], rfl, Nat.le_refl _, Rd.newS _ (fun b => w.heap.size ≤ b) _ _ (w.heap.size + 1 + 1) 2 2 (by simp) (by show w.heap.size ≤ _; omega) rfl, ⟨[_, _], [_, _], rfl, RSym.cells.2 rfl, Cells.single (RSym.cells.2 rfl)⟩⟩ _
end Go.Proofs.Ytgaahpddlohjoaa
namespace Go.Proofs.Ytgaahpddlohjoaa
def lexLt : List Int → List Int → Prop
 | a :: u, b :: v => a < b ∨ (a = b ∧ lexLt u v)
 | _, _ => False
theorem lexLt_irrefl : ∀ u : List Int, ¬ lexLt u u
 | [], h => h
 | a :: u, h => by
  rcases h with h | ⟨_, h⟩
  ·
   omega
  ·
   exact lexLt_irrefl u h
theorem lexLt_trans : ∀ {u v w : List Int}, lexLt u v → lexLt v w → lexLt u w
 | [], _, _, h, _ => h.elim
 | _ :: _, [], _, h, _ => h.elim
 | _ :: _, _ :: _, [], _, h => h.elim
 | a :: u, b :: v, c :: w, h, h' => by
  rcases h with h | ⟨h, h1⟩
  ·
   rcases h' with h' | ⟨h', _⟩
   ·
    exact .inl (by omega)
   ·
    exact .inl (by omega)
  ·
   rcases h' with h' | ⟨h', h2⟩
   ·
    exact .inl (by omega)
   ·
    exact .inr ⟨by omega, lexLt_trans h1 h2⟩
theorem lexLt_snoc : ∀ {u v : List Int} (a b : Int), lexLt u v → lexLt (u ++ [a]) (v ++ [b])
 | [], _, _, _, h => h.elim
 | _ :: _, [], _, _, h => h.elim
 | x :: u, y :: v, a, b, h => by
  rcases h with h | ⟨h, h1⟩
  ·
   exact .inl h
  ·
   exact .inr ⟨h, lexLt_snoc a b h1⟩
theorem lexLt_last : ∀ (u : List Int) {a b : Int}, a < b → lexLt (u ++ [a]) (u ++ [b])
 | [], _, _, h => .inl h
 | _ :: u, _, _, h => .inr ⟨rfl, lexLt_last u h⟩
def SLt (u v : List Int) : Prop := u.length < v.length ∨ (u.length = v.length ∧ lexLt u v)
theorem SLt.irrefl (u : List Int) : ¬ SLt u u := fun h => by
 rcases h with h | ⟨_, h⟩
 ·
  omega
 ·
  exact lexLt_irrefl u h
theorem SLt.trans {u v w : List Int} (h : SLt u v) (h' : SLt v w) : SLt u w := by
 rcases h with h | ⟨h, h1⟩
 ·
  rcases h' with h' | ⟨h', _⟩
  ·
   exact .inl (by omega)
  ·
   exact .inl (by omega)
 ·
  rcases h' with h' | ⟨h', h2⟩
  ·
   exact .inl (by omega)
  ·
   exact .inr ⟨by omega, lexLt_trans h1 h2⟩
theorem SLt.snoc {u v : List Int} (h : SLt u v) (a b : Int) : SLt (u ++ [a]) (v ++ [b]) := by
 rcases h with h | ⟨h, h1⟩
 ·
  exact .inl (by simp; omega)
 ·
  exact .inr ⟨by simp; omega, lexLt_snoc a b h1⟩
theorem SLt.last (u : List Int) {a b : Int} (h : a < b) : SLt (u ++ [a]) (u ++ [b]) := .inr ⟨by simp, lexLt_last u h⟩
theorem SLt.one (u : List Int) (a : Int) : SLt u (u ++ [a]) := .inl (by simp)
theorem SLt.nil (u : List Int) (a : Int) : SLt [] (u ++ [a]) := .inl (by simp)
section
variable {a b : DfaD}
def prD (a b : DfaD) (w : List Int) : Int × Int := (w.foldl (dto a) a.1, w.foldl (dto b) b.1)
theorem prD_snoc (w : List Int) (c : Int) : prD a b (w ++ [c]) = (dto a (prD a b w).1 c, dto b (prD a b w).2 c) := by simp [prD]
def agD (a b : DfaD) (p : Int × Int) : Prop := dat a p.1 = dat b p.2
structure BInv (a b : DfaD) (i c : Nat) (ws : List (List Int)) : Prop where
 hd : ws[0]? = some []
 frm : ∀ (k : Nat) (w : List Int), ws[k]? = some w → (k = 0 ∧ w = []) ∨ ∃ (f s : Nat) (u : List Int), f < k ∧ (f < i ∨ (f = i ∧ s < c)) ∧ s < cols a ∧ ws[f]? = some u ∧ w = u ++ [(s : Int)]
 srt : ∀ (j k : Nat) (u v : List Int), j < k → ws[j]? = some u → ws[k]? = some v → SLt u v
 nd : ∀ (j k : Nat) (u v : List Int), j < k → ws[j]? = some u → ws[k]? = some v → prD a b u ≠ prD a b v
 don : ∀ (j s : Nat) (u : List Int), (j < i ∨ (j = i ∧ s < c)) → s < cols a → ws[j]? = some u → ∃ (m : Nat) (v : List Int), ws[m]? = some v ∧ prD a b v = prD a b (u ++ [(s : Int)]) ∧ (v = u ++ [(s : Int)] ∨ SLt v (u ++ [(s : Int)]))
theorem BInv.start : BInv a b 0 0 [[]] where
 hd := rfl
 frm := fun k w h => by
  rcases Nat.eq_zero_or_pos k with h0 | h0
  ·
   subst h0
   simp at h
   exact .inl ⟨rfl, h⟩
  ·
   rw [List.getElem?_eq_none (by simp; omega)] at h
   cases h
 srt := fun j k u v hjk _ h => by
  rw [List.getElem?_eq_none (by simp; omega)] at h
  cases h
 nd := fun j k u v hjk _ h => by
  rw [List.getElem?_eq_none (by simp; omega)] at h
  cases h
 don := fun j s u h _ _ => by omega
theorem BInv.old {i c : Nat} {ws : List (List Int)} (h : BInv a b i c ws) {w : List Int} (hw : ws[i]? = some w) (hs : ∃ u ∈ ws, prD a b u = prD a b (w ++ [(c : Int)])) : BInv a b i (c + 1) ws where
 hd := h.hd
 frm := fun k w' hk => by
  rcases h.frm k w' hk with h1 | ⟨f, s, u, h1, h2, h3, h4, h5⟩
  ·
   exact .inl h1
  ·
   exact .inr ⟨f, s, u, h1, by omega, h3, h4, h5⟩
 srt := h.srt
 nd := h.nd
 don := fun j s u hj hc hu => by
  by_cases e : j = i ∧ s = c
  ·
   obtain ⟨rfl, rfl⟩ := e
   rw [hw] at hu
   injection hu with hu
   subst hu
   obtain ⟨v, hv, e⟩ := hs
   obtain ⟨m, hm⟩ := List.getElem?_of_mem hv
   refine ⟨m, v, hm, e, ?_⟩
   rcases h.frm m v hm with ⟨_, h1⟩ | ⟨f, s', u, h1, h2, _, h4, h5⟩
   ·
    subst h1
    exact .inr (.nil _ _)
   ·
    subst h5
    rcases h2 with h2 | ⟨rfl, h2⟩
    ·
     exact .inr ((h.srt _ _ _ _ h2 h4 hw).snoc _ _)
    ·
     rw [hw] at h4
     injection h4 with h4
     subst h4
     exact .inr (.last _ (by omega))
  ·
   exact h.don j s u (by omega) hc hu
theorem BInv.new {i c : Nat} {ws : List (List Int)} (h : BInv a b i c ws) {w : List Int} (hw : ws[i]? = some w) (hc : c < cols a) (hs : ∀ u ∈ ws, prD a b u ≠ prD a b (w ++ [(c : Int)])) : BInv a b i (c + 1) (ws ++ [w ++ [(c : Int)]]) := by
 have hi : i < ws.length := (List.getElem?_eq_some_iff.1 hw).1
 have hsm : ∀ (m : Nat) (v : List Int), ws[m]? = some v → SLt v (w ++ [(c : Int)]) := fun m v hm => by
  rcases h.frm m v hm with ⟨_, h1⟩ | ⟨f, s', u, h1, h2, _, h4, h5⟩
  ·
   subst h1
   exact .nil _ _
  ·
   subst h5
   rcases h2 with h2 | ⟨rfl, h2⟩
   ·
    exact (h.srt _ _ _ _ h2 h4 hw).snoc _ _
   ·
    rw [hw] at h4
    injection h4 with h4
    subst h4
    exact .last _ (by omega)
 have hold : ∀ {m : Nat} {v : List Int}, ws[m]? = some v → (ws ++ [w ++ [(c : Int)]])[m]? = some v := fun {m v} hm => by
  rw [List.getElem?_append_left (List.getElem?_eq_some_iff.1 hm).1]; exact hm
 have hget : ∀ {m : Nat} {v : List Int}, (ws ++ [w ++ [(c : Int)]])[m]? = some v → (ws[m]? = some v) ∨ (m = ws.length ∧ v = w ++ [(c : Int)]) := fun {m v} hm => by
  rcases Nat.lt_trichotomy m ws.length with h1 | h1 | h1
  ·
   rw [List.getElem?_append_left h1] at hm; exact .inl hm
  ·
   subst h1
   simp at hm
   exact .inr ⟨rfl, hm.symm⟩
  ·
   rw [List.getElem?_eq_none (by simp; omega)] at hm; cases hm
 refine ⟨hold h.hd, ?_, ?_, ?_, ?_⟩
 ·
  intro k w' hk
  rcases hget hk with hk | ⟨rfl, rfl⟩
  ·
   rcases h.frm k w' hk with h1 | ⟨f, s, u, h1, h2, h3, h4, h5⟩
   ·
    exact .inl h1
   ·
    exact .inr ⟨f, s, u, h1, by omega, h3, hold h4, h5⟩
  ·
   exact .inr ⟨i, c, w, hi, by omega, hc, hold hw, rfl⟩
 ·
  intro j k u v hjk hj hk
  rcases hget hk with hk | ⟨rfl, rfl⟩
  ·
   rcases hget hj with hj | ⟨rfl, rfl⟩
   ·
    exact h.srt j k u v hjk hj hk
   ·
    have := (List.getElem?_eq_some_iff.1 hk).1; omega
  ·
   rcases hget hj with hj | ⟨rfl, rfl⟩
   ·
    exact hsm _ _ hj
   ·
    omega
 ·
  intro j k u v hjk hj hk
  rcases hget hk with hk | ⟨rfl, rfl⟩
  ·
   rcases hget hj with hj | ⟨rfl, rfl⟩
   ·
    exact h.nd j k u v hjk hj hk
   ·
    have := (List.getElem?_eq_some_iff.1 hk).1; omega
  ·
   rcases hget hj with hj | ⟨rfl, rfl⟩
   ·
    exact hs _ (List.mem_of_getElem? hj)
   ·
    omega
 ·
  intro j s u hj hsc hu
  by_cases e : j = i ∧ s = c
  ·
   obtain ⟨rfl, rfl⟩ := e
   rw [hold hw] at hu
   injection hu with hu
   subst hu
   exact ⟨ws.length, _, by simp, rfl, .inl rfl⟩
  ·
   rcases hget hu with hu | ⟨rfl, rfl⟩
   ·
    obtain ⟨m, v, h1, h2⟩ := h.don j s u (by omega) hsc hu
    exact ⟨m, v, hold h1, h2⟩
   ·
    omega
theorem BInv.next {i c : Nat} {ws : List (List Int)} (h : BInv a b i c ws) (hc : c = cols a) : BInv a b (i + 1) 0 ws where
 hd := h.hd
 frm := fun k w' hk => by
  rcases h.frm k w' hk with h1 | ⟨f, s, u, h1, h2, h3, h4, h5⟩
  ·
   exact .inl h1
  ·
   exact .inr ⟨f, s, u, h1, by omega, h3, h4, h5⟩
 srt := h.srt
 nd := h.nd
 don := fun j s u hj hsc hu => h.don j s u (by omega) hsc hu
theorem BInv.range {i c : Nat} {ws : List (List Int)} (h : BInv a b i c ws) (ha : Valid a) (hb : Valid b) (hcc : cols a = cols b) {w : List Int} (hw : w ∈ ws) : WOk a w ∧ (-1 ≤ (prD a b w).1 ∧ (prD a b w).1 < a.2.2.length) ∧ (-1 ≤ (prD a b w).2 ∧ (prD a b w).2 < b.2.2.length) := by
 have hk : ∀ (k : Nat) (w : List Int), ws[k]? = some w → WOk a w := by
  intro k
  induction k using Nat.strongRecOn with
  | _ k ih =>
   intro w hw
   rcases h.frm k w hw with ⟨_, h1⟩ | ⟨f, s, u, h1, _, h3, h4, h5⟩
   ·
    subst h1; exact .nil
   ·
    subst h5
    intro x hx
    rcases List.mem_append.1 hx with hx | hx
    ·
     exact ih f h1 u h4 x hx
    ·
     obtain rfl := List.mem_singleton.1 hx
     omega
 obtain ⟨k, hk'⟩ := List.getElem?_of_mem hw
 have h1 := hk k w hk'
 refine ⟨h1, drun_range ha h1 (by have := ha.st; omega), drun_range hb (fun x hx => by rw [← hcc]; exact h1 x hx) (by have := hb.st; omega)⟩
theorem BInv.few {i c : Nat} {ws : List (List Int)} (h : BInv a b i c ws) (ha : Valid a) (hb : Valid b) (hcc : cols a = cols b) : ws.length ≤ (a.2.2.length + 1) * (b.2.2.length + 1) := by
 have hr : ∀ (k : Nat) (w : List Int), ws[k]? = some w → (-1 ≤ (prD a b w).1 ∧ (prD a b w).1 < a.2.2.length) ∧ (-1 ≤ (prD a b w).2 ∧ (prD a b w).2 < b.2.2.length) := fun k w hk => (h.range ha hb hcc (List.mem_of_getElem? hk)).2
 have h1 : (ws.map fun w => ((prD a b w).1 + 1).toNat * (b.2.2.length + 1) + ((prD a b w).2 + 1).toNat).Nodup := by
  rw [List.nodup_iff_pairwise_ne, List.pairwise_iff_getElem]
  intro i j hi hj hij e
  simp only [List.length_map] at hi hj
  simp only [List.getElem_map] at e
  have r1 := hr i _ (List.getElem?_eq_getElem hi)
  have r2 := hr j _ (List.getElem?_eq_getElem hj)
  refine h.nd i j _ _ hij (List.getElem?_eq_getElem hi) (List.getElem?_eq_getElem hj) ?_
  have e1 := congrArg (· % (b.2.2.length + 1)) e
  have e2 := congrArg (· / (b.2.2.length + 1)) e
  simp only [Nat.mul_add_mod_self_right] at e1
  have q1 : ((prD a b ws[i]).2 + 1).toNat < b.2.2.length + 1 := by omega
  have q2 : ((prD a b ws[j]).2 + 1).toNat < b.2.2.length + 1 := by omega
  rw [Nat.mod_eq_of_lt q1, Nat.mod_eq_of_lt q2] at e1
  simp only [e1] at e
  have e3 := Nat.eq_of_mul_eq_mul_right (Nat.succ_pos _) (Nat.add_right_cancel e)
  refine Prod.ext ?_ ?_ <;> omega
 have h2 := pigeonD h1 (n := (a.2.2.length + 1) * (b.2.2.length + 1)) fun x hx => by
  obtain ⟨w, hw, rfl⟩ := List.mem_map.1 hx
  obtain ⟨k, hk⟩ := List.getElem?_of_mem hw
  have r1 := hr k w hk
  have q1 : ((prD a b w).1 + 1).toNat ≤ a.2.2.length := by omega
  have q2 : ((prD a b w).2 + 1).toNat < b.2.2.length + 1 := by omega
  calc ((prD a b w).1 + 1).toNat * (b.2.2.length + 1) + ((prD a b w).2 + 1).toNat
      < ((prD a b w).1 + 1).toNat * (b.2.2.length + 1) + (b.2.2.length + 1) := by omega
   _ = (((prD a b w).1 + 1).toNat + 1) * (b.2.2.length + 1) := by rw [Nat.add_mul, Nat.one_mul]
   _ ≤ (a.2.2.length + 1) * (b.2.2.length + 1) := Nat.mul_le_mul_right _ (by omega)
 simpa using h2
theorem BInv.short {i c : Nat} {ws : List (List Int)} (h : BInv a b i c ws) : ∀ (k : Nat) (w : List Int), ws[k]? = some w → w.length ≤ k := by
 intro k
 induction k using Nat.strongRecOn with
 | _ k ih =>
  intro w hw
  rcases h.frm k w hw with ⟨_, h1⟩ | ⟨f, s, u, h1, _, _, h4, h5⟩
  ·
   subst h1; simp
  ·
   subst h5
   have := ih f h1 u h4
   simp
   omega
theorem BInv.seen {i : Nat} {ws : List (List Int)} (h : BInv a b i 0 ws) {w : List Int} (hw : ws[i]? = some w ∨ ws.length ≤ i) : ∀ v : List Int, WOk a v → (ws[i]? = some w → SLt v w) → ∃ (m : Nat) (u : List Int), ws[m]? = some u ∧ m < i ∧ prD a b u = prD a b v ∧ (u = v ∨ SLt u v) := by
 have low : ∀ (m : Nat) (u v : List Int), ws[m]? = some u → (u = v ∨ SLt u v) → (ws[i]? = some w → SLt v w) → m < i := by
  intro m u v hm hu hv
  rcases hw with hw | hw
  ·
   have h1 : SLt u w := by
    rcases hu with rfl | hu
    ·
     exact hv hw
    ·
     exact hu.trans (hv hw)
   rcases Nat.lt_trichotomy m i with h2 | h2 | h2
   ·
    exact h2
   ·
    subst h2
    rw [hw] at hm
    injection hm with hm
    subst hm
    exact absurd h1 (SLt.irrefl _)
   ·
    exact absurd (h1.trans (h.srt _ _ _ _ h2 hw hm)) (SLt.irrefl _)
  ·
   have := (List.getElem?_eq_some_iff.1 hm).1
   omega
 refine fun v => list_snoc_ind (P := fun v => WOk a v → (ws[i]? = some w → SLt v w) → ∃ (m : Nat) (u : List Int), ws[m]? = some u ∧ m < i ∧ prD a b u = prD a b v ∧ (u = v ∨ SLt u v)) ?_ ?_ v
 ·
  intro _ hv
  exact ⟨0, [], h.hd, low 0 [] [] h.hd (.inl rfl) hv, rfl, .inl rfl⟩
 ·
  intro l x ih hl hv
  obtain ⟨m, u, h1, h2, h3, h4⟩ := ih (fun y hy => hl y (List.mem_append_left _ hy)) (fun e => (SLt.one l x).trans (hv e))
  have hx := hl x (by simp)
  obtain ⟨s, rfl⟩ : ∃ s : Nat, x = (s : Int) := ⟨x.toNat, by omega⟩
  obtain ⟨m', v', k1, k2, k3⟩ := h.don m s u (.inl h2) (by omega) h1
  have k4 : v' = l ++ [(s : Int)] ∨ SLt v' (l ++ [(s : Int)]) := by
   rcases h4 with rfl | h4
   ·
    exact k3
   ·
    rcases k3 with rfl | k3
    ·
     exact .inr (h4.snoc _ _)
    ·
     exact .inr (k3.trans (h4.snoc _ _))
  refine ⟨m', v', k1, low _ _ _ k1 k4 hv, ?_, k4⟩
  rw [k2, prD_snoc, prD_snoc, h3]
theorem BInv.least {i : Nat} {ws : List (List Int)} (h : BInv a b i 0 ws) (hg : ∀ (j : Nat) (u : List Int), j < i → ws[j]? = some u → agD a b (prD a b u)) {w : List Int} (hw : ws[i]? = some w) : ∀ v : List Int, WOk a v → SLt v w → dval a a.1 v = dval b b.1 v := by
 intro v hv hs
 obtain ⟨m, u, h1, h2, h3, _⟩ := h.seen (.inl hw) v hv (fun _ => hs)
 have h4 := hg m u h2 h1
 rw [h3] at h4
 exact h4
theorem BInv.none {i : Nat} {ws : List (List Int)} (h : BInv a b i 0 ws) (hg : ∀ (j : Nat) (u : List Int), j < i → ws[j]? = some u → agD a b (prD a b u)) (hi : ws.length ≤ i) : ∀ v : List Int, WOk a v → dval a a.1 v = dval b b.1 v := by
 intro v hv
 obtain ⟨m, u, h1, h2, h3, _⟩ := h.seen (w := []) (.inr hi) v hv (fun e => by rw [List.getElem?_eq_none hi] at e; cases e)
 have h4 := hg m u h2 h1
 rw [h3] at h4
 exact h4
end
end Go.Proofs.Ytgaahpddlohjoaa
