/- GMapR -/
import Derived.Test.YtbmcoamdfpegnaaMa08
namespace Go.Proofs.Ytbmcoamdfpegnaa
open Go.RowKit Go.Maps
def ARng {P : Program} {k : TypeId} {κ : Type} (K : KeyRep P k κ) (w : World) (b r : Nat) (l : List (κ × Value)) (seen : κ → Prop) (cnt : Nat) : Prop :=
 ∃ (D : DataW Value) (left : Lit → Bool) (n : Nat), w.ranges P k hvR b r n D left cnt ∧
  (∀ p ∈ l, ∃ kl, keyOf P k (K.val p.1) = some kl ∧ Maps.has D kl = true ∧ ∀ z, D.atKey kl z = .held p.2) ∧
  (∀ kl, Maps.has D kl = true → ∃ p ∈ l, keyOf P k (K.val p.1) = some kl) ∧
  (∀ kl, left kl = true → Maps.has D kl = true) ∧
  ∀ p ∈ l, ∀ kl, keyOf P k (K.val p.1) = some kl → left kl = false → seen p.1
section
variable {P : Program} {k : TypeId} {κ : Type} {K : KeyRep P k κ} {w w' : World} {b r : Nat} {l : List (κ × Value)} {seen : κ → Prop} {cnt : Nat}
theorem ARng.only {X : Nat → Prop} (h : ARng K w b r l seen cnt) (ho : Only w w' X) (hb : ¬ X b) (hr : ¬ X r) : ARng K w' b r l seen cnt := by
 obtain ⟨D, left, n, h1, h2⟩ := h
 have l1 := h1.owns.lt
 have l2 := h1.lt
 obtain ⟨es, clock, since, sn, c0, e1, e2, e3, e4, e5, e6⟩ := h1
 exact ⟨D, left, n, ⟨es, clock, since, sn, c0, (ho.block _ l1 hb).trans e1, e2, e3, e4, (ho.block _ l2 hr).trans e5, e6⟩, h2⟩
variable {ops : Array Oper} {rest : List Oper} {o : Oper} {a : Act} {Q : Exit → Act → World → Prop}
theorem wpList_anext (hg : o.guard = none) (it : Operand) (hop : o.op = Op.next it false) (b r : Nat) (l : List (κ × Value)) (seen : κ → Prop) (cnt : Nat) (hit : a.eval it = .pointer (some ⟨r, 0, none⟩)) (h : ARng K w b r l seen cnt)
    (hDone : (∀ p ∈ l, seen p.1) → wpList P ops Q rest (a.put o.dst (.tuple #[.bool false])) w)
    (hMore : ∀ (x : κ) (v : Value) (w' : World) (cnt' : Nat), (x, v) ∈ l → cnt' < cnt → ARng K w' b r l (fun y => seen y ∨ y = x) cnt' → w.grownBy w' (some r) → w'.heap.size = w.heap.size →
     (Instr.entry (.pointer (some ⟨r, 0, none⟩))).run P w' = .ok (.tuple #[K.val x, v]) w' → wpList P ops Q rest (a.put o.dst (.tuple #[.bool true, K.val x, v])) w') :
    wpList P ops Q (o :: rest) a w := by
 obtain ⟨D, left, n, h1, h2, h3, h4, h5⟩ := h
 refine wpList_plain hg fun K' hK' => ?_
 unfold Oper.wp
 rcases h1.next K.keyed o.type with ⟨h0, hl, hrun⟩ | ⟨key, v, kl, y, w', cnt', hkey, hlk, hv, hat, hrun, hrg, hlt, hgr, hsz, hen⟩
 ·
  simp [execOp, hop, hit, hrun, Result.andThen]
  refine hK' _ _ (hDone fun p hp => ?_)
  obtain ⟨kl, e1, _⟩ := h2 p hp
  exact h5 p hp kl e1 (hl kl)
 ·
  obtain ⟨p, hp, e1⟩ := h3 kl (h4 kl hlk)
  have ek : key = K.val p.1 := K.keyed.inj hkey e1
  subst ek
  have ev : v = p.2 := by
   obtain ⟨kl', e2, _, e3⟩ := h2 p hp
   rw [e1] at e2
   injection e2 with e2
   subst e2
   have e4 := hat (.held v)
   rw [e3] at e4
   injection hv with hv
   rw [← hv] at e4
   injection e4 with e4
   exact e4.symm
  subst ev
  simp [execOp, hop, hit, hrun, Result.andThen]
  refine hK' _ _ (hMore p.1 p.2 w' cnt' hp hlt ⟨D, _, n, hrg, h2, h3, fun z hz => h4 z (by simp only [Bool.and_eq_true] at hz; exact hz.1), fun q hq z hz hzl => ?_⟩ hgr hsz hen)
  by_cases e : left z = false
  ·
   exact .inl (h5 q hq z hz e)
  ·
   simp only [Bool.not_eq_false] at e
   simp only [e, Bool.true_and, Bool.not_eq_false'] at hzl
   have := WideAt.sameKey_eq hzl
   subst this
   exact .inr (K.inj _ _ (K.keyed.inj hz e1))
end
end Go.Proofs.Ytbmcoamdfpegnaa
