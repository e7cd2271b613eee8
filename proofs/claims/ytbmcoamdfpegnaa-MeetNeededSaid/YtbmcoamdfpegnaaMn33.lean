/- App2 CloInt MkInstP -/
import Derived.Laws.EntriesVeiled
import Derived.LoopTactic
import Derived.Outline
import Derived.Test.YtbmcoamdfpegnaaMn02
import Derived.Test.YtbmcoamdfpegnaaMn17
import Derived.Test.YtbmcoamdfpegnaaMn32
import Derived.WalkSpells
namespace Go.Proofs.Ytbmcoamdfpegnaa
open Go.RowKit
def Room (w : World) (base : Nat) (e : TypeId) (size : Nat) (v : Value) (n : Nat) (xs : List Value) (tot : Nat) : Prop :=
 (tot = 0 ∧ v = .slice none 0 0 ∧ n = 0 ∧ xs = []) ∨ ∃ g cap, v = .slice (some ⟨g, 0, none⟩) n cap ∧ w.ownsRow base e size (.slice (some ⟨g, 0, none⟩) n cap) n xs ∧ tot ≤ cap
section
variable {w w' : World} {base : Nat} {e : TypeId} {size n tot : Nat} {v : Value} {xs : List Value}
theorem Room.own (h : Room w base e size v n xs tot) : Own w base e size v n xs := by
 rcases h with ⟨_, rfl, rfl, rfl⟩ | ⟨g, cap, rfl, ho, _⟩
 ·
  exact Own.nil _ _ _ _ _
 ·
  exact .inl ho
theorem Room.drew (h : Room w base e size v n xs tot) : Room w.drew base e size v n xs tot := h
end
section
variable {P : Program} {T E s bytes : Nat} {z : Value}
end
structure Part where
 A : Option Addr
 n : Nat
 c : Nat
 xs : List Value
def Part.val (p : Part) : Value := .slice p.A p.n p.c
def Part.Ok (w : World) (S : Nat → Prop) (s : Nat) (p : Part) : Prop := Rd w S s p.A p.n p.xs ∧ p.n ≤ p.c ∧ ∀ u ∈ p.xs, u.oneCell' = true
end Go.Proofs.Ytbmcoamdfpegnaa
namespace Go.Proofs.Ytbmcoamdfpegnaa
open Go.RowKit
set_option maxHeartbeats 1000000 in
theorem cloneInt (A : Option Addr) (n c : Nat) (S : Nat → Prop) (xs : List Value) (w : World) (hr : Rd w S 1 A n xs) (hb : n * 8 ≤ 281474976710656) :
    Calls Try.prog 34 #[.slice A n c] w fun e w' => ∃ v, e = .returned v ∧ Own w' w.heap.size 3 1 v n xs ∧ Below w.heap.size w w' := by
 have HRD := Lib.hid hr
 clear hr
 cases A with
 | none =>
  have hq := fun W => Lib.run_eql_slice_nil (P := Try.prog) W 22
  go_enter Try.func34, Try.ntmps34
  go_wp2_with fail
  go_ret
  have hn : n = 0 := by
   rcases Nat.eq_zero_or_pos n with h0 | h0
   ·
    exact h0
   ·
    obtain ⟨b, off, h, _⟩ := HRD.out.2 h0
    cases h
  subst hn
  have hx : xs = [] := List.eq_nil_of_length_eq_zero (by simpa using HRD.out.1)
  subst hx
  exact ⟨_, rfl, Own.nil _ _ _ _ _, Below.refl _ _⟩
 | some a =>
  have hq := fun W => Lib.run_eql_slice_nil (P := Try.prog) W 22 3 (some a) n c 0 0 (by kernel_rfl)
  obtain ⟨v2, w2, hrun, ho, hg, _⟩ := run_append_fresh tInts (w.alloc (.cells #[] 3)) 22 w.heap.size (some ⟨w.heap.size, 0, none⟩) _ (some a) n c xs (HRD.out.alloc _) (by unfold maxLen; omega) (by omega) (by simp)
  have HRUN := Lib.hid hrun
  have HO := Lib.hid ho
  have HG := Lib.hid hg
  clear hrun ho hg
  go_enter Try.func34, Try.ntmps34
  go_wp2_with (at_builtin; refine Lib.wpList_append_run _ rfl _ _ _ _ rfl _ _ rfl rfl _ _ HRUN.out ?_)
  go_ret
  exact ⟨_, rfl, HO.out, ((Below.refl _ _).alloc (Nat.le_refl _) _).grown HG.out (by simp) (by simp)⟩
end Go.Proofs.Ytbmcoamdfpegnaa
namespace Go.Proofs.Ytbmcoamdfpegnaa
open Go.RowKit Go.Maps
theorem Only.newer {w w' w'' : World} {X Y : Nat → Prop} (h : Only w w' X) (h' : Only w' w'' Y) (hY : ∀ b, b < w.heap.size → Y b → X b) : Only w w'' X :=
 ⟨h'.os.trans h.os, h'.tape.trans h.tape, h'.output.trans h.output, Nat.le_trans h.size h'.size, fun b hb hx => (h'.block b (Nat.lt_of_lt_of_le hb h.size) fun hy => hx (hY b hb hy)).trans (h.block b hb hx)⟩
abbrev natI (l : List Nat) : List Int := l.map fun x : Nat => (x : Int)
structure ICtx where
 K : Nat
 XB : Nat → Prop
 f : FuncId
 caps : Array Value
 t : TriD
 rule : Nat
 rhs : List SymD
 Inv : (Nat → Prop) → List (List Nat) → World → Prop
 lim : Nat
def ICallR (I : ICtx) (F : Nat → Prop) (done : List (List Nat)) (qs : List Nat) (w : World) (e : Ending) (w' : World) : Prop :=
 ∃ F' : Nat → Prop, e = .returned (.bool (decide (done.length + 1 ≤ I.lim))) ∧ I.Inv F' (done ++ [qs]) w' ∧ Only w w' (fun b => I.XB b ∨ F b) ∧ ∀ b, F' b → F b ∨ w.heap.size ≤ b
structure ICtx.Ok (M : Mkr) (W : List TriD) (I : ICtx) : Prop where
 xb : ∀ b, I.XB b → b < I.K
 mb : M.Bm < I.K
 mw : M.Bw < I.K
 ms : ∀ b, M.S b → b < I.K ∧ ¬ I.XB b
 mkr : ∀ F done w, I.Inv F done w → M.In w W
 fit : ∀ F done w, I.Inv F done w → ∀ b, F b → b < w.heap.size
 msF : ∀ F done w, I.Inv F done w → ∀ b, M.S b → ¬ F b
 keep : ∀ F done w w' (Y : Nat → Prop), I.Inv F done w → Only w w' Y → (∀ b, Y b → b < w.heap.size → I.K ≤ b ∧ ¬ F b) → I.Inv F done w'
 enters : ∀ (args : Array Value) (u : World), (callFunc I.f args).run Try.prog u = .ok (.enter I.f args) u
 call : ∀ F done w (S : Nat → Prop) (A : Option Addr) (n c : Nat) (qs : List Nat), I.Inv F done w → done.length ≤ I.lim → Sl Rep.int w S A n c (natI qs) → (∀ b, S b → b < w.heap.size ∧ ¬ I.XB b ∧ ¬ F b) → qs ∈ instL M.d (inW W) I.t.2.2 I.rhs I.t.1 →
  Calls Try.prog I.f (#[.agg #[.int .i64 (I.t.1 : Int), .int .i64 (I.t.2.1 : Int), .int .i64 (I.t.2.2 : Int), .int .i64 (I.rule : Int), .slice A n c]] ++ I.caps) w (ICallR I F done qs w)
 tri : M.Tri I.t
 xm : ¬ I.XB M.Bm
 fm : ∀ F done w, I.Inv F done w → ¬ F M.Bm
structure WSt (M : Mkr) (I : ICtx) (F : Nat → Prop) (done : List (List Nat)) (u : World) : Prop where
 inv : I.Inv F done u
 b0 : u.heap[I.K]? = some (.cells #[.pointer (some ⟨M.Bm, 0, none⟩)] 71 (0, 0))
 b1 : u.heap[I.K + 1]? = some (.cells #[.int .i64 (I.t.1 : Int), .int .i64 (I.t.2.1 : Int), .int .i64 (I.t.2.2 : Int)] 92 (0, 0))
 b2 : u.heap[I.K + 2]? = some (.cells #[.int .i64 (I.rule : Int)] 3 (0, 0))
 b3 : u.heap[I.K + 3]? = some (.cells #[.func (.func I.f) #[] I.caps] 114 (0, 0))
 b4 : u.heap[I.K + 4]? = some (.cells #[.func (.func 83) #[] #[.pointer (some ⟨I.K + 1, 0, none⟩), .pointer (some ⟨I.K + 3, 0, none⟩), .pointer (some ⟨I.K + 2, 0, none⟩), .pointer (some ⟨I.K, 0, none⟩), .pointer (some ⟨I.K + 4, 0, none⟩)]] 133 (0, 0))
 off : ∀ b, F b → b < I.K ∨ I.K + 5 ≤ b
section
variable {M : Mkr} {W : List TriD} {I : ICtx} {F : Nat → Prop} {done : List (List Nat)} {u u' : World}
theorem WSt.only (hI : I.Ok M W) (h : WSt M I F done u) {Y : Nat → Prop} (ho : Only u u' Y) (hY : ∀ b, Y b → b < u.heap.size → I.K + 5 ≤ b ∧ ¬ F b) : WSt M I F done u' := by
 have hz := heap_lt h.b4
 have hn : ∀ b, b < I.K + 5 → ¬ Y b := fun b hb hy => by have := (hY b hy (by omega)).1; omega
 exact ⟨hI.keep _ _ _ _ Y h.inv ho fun b hb hl => ⟨by have := (hY b hb hl).1; omega, (hY b hb hl).2⟩,
  (ho.block _ (by omega) (hn _ (by omega))).trans h.b0, (ho.block _ (by omega) (hn _ (by omega))).trans h.b1, (ho.block _ (by omega) (hn _ (by omega))).trans h.b2, (ho.block _ (by omega) (hn _ (by omega))).trans h.b3, (ho.block _ (by omega) (hn _ (by omega))).trans h.b4, h.off⟩
theorem WSt.below (hI : I.Ok M W) (h : WSt M I F done u) (hb : Below u.heap.size u u') : WSt M I F done u' := h.only hI (Y := fun _ => False) (.of_below hb (Nat.le_refl _) _) fun _ hy => hy.elim
theorem WSt.called (hI : I.Ok M W) (h : WSt M I F done u) {F' : Nat → Prop} {qs : List Nat} (hi : I.Inv F' (done ++ [qs]) u') (ho : Only u u' (fun b => I.XB b ∨ F b)) (hF : ∀ b, F' b → F b ∨ u.heap.size ≤ b) : WSt M I F' (done ++ [qs]) u' := by
 have hz := heap_lt h.b4
 have hn : ∀ b, I.K ≤ b → b < I.K + 5 → ¬ (I.XB b ∨ F b) := fun b h1 h2 h3 => by
  rcases h3 with h3 | h3
  ·
   have := hI.xb b h3; omega
  ·
   have := h.off b h3; omega
 exact ⟨hi, (ho.block _ (by omega) (hn _ (by omega) (by omega))).trans h.b0, (ho.block _ (by omega) (hn _ (by omega) (by omega))).trans h.b1, (ho.block _ (by omega) (hn _ (by omega) (by omega))).trans h.b2, (ho.block _ (by omega) (hn _ (by omega) (by omega))).trans h.b3, (ho.block _ (by omega) (hn _ (by omega) (by omega))).trans h.b4,
  fun b hb => by
   rcases hF b hb with e | e
   ·
    exact h.off b e
   ·
    exact .inr (by omega)⟩
theorem WSt.cells (h : WSt M I F done u) : u.cell? ⟨I.K, 0, none⟩ = some (.pointer (some ⟨M.Bm, 0, none⟩)) ∧ u.cell? ⟨I.K + 1, 0, none⟩ = some (.int .i64 (I.t.1 : Int)) ∧ u.cell? ⟨I.K + 1, 1, none⟩ = some (.int .i64 (I.t.2.1 : Int)) ∧ u.cell? ⟨I.K + 1, 2, none⟩ = some (.int .i64 (I.t.2.2 : Int)) ∧ u.cell? ⟨I.K + 2, 0, none⟩ = some (.int .i64 (I.rule : Int)) ∧ u.cell? ⟨I.K + 3, 0, none⟩ = some (.func (.func I.f) #[] I.caps) ∧
    u.cell? ⟨I.K + 4, 0, none⟩ = some (.func (.func 83) #[] #[.pointer (some ⟨I.K + 1, 0, none⟩), .pointer (some ⟨I.K + 3, 0, none⟩), .pointer (some ⟨I.K + 2, 0, none⟩), .pointer (some ⟨I.K, 0, none⟩), .pointer (some ⟨I.K + 4, 0, none⟩)]) :=
 ⟨by simp [World.cell?, h.b0], by simp [World.cell?, h.b1], by simp [World.cell?, h.b1], by simp [World.cell?, h.b1], by simp [World.cell?, h.b2], by simp [World.cell?, h.b3], by simp [World.cell?, h.b4]⟩
end
def WalkR (M : Mkr) (I : ICtx) (u : World) (F : Nat → Prop) (done X : List (List Nat)) (e : Ending) (w' : World) : Prop :=
 ∃ F' : Nat → Prop, (∀ b, F' b → F b ∨ u.heap.size ≤ b) ∧ Only u w' (fun b => I.XB b ∨ F b) ∧
  ((e = .returned (.bool true) ∧ WSt M I F' (done ++ X) w' ∧ (X = [] ∨ done.length + X.length ≤ I.lim)) ∨ (e = .returned (.bool false) ∧ I.lim < done.length + X.length))
def WalkAt (M : Mkr) (W : List TriD) (I : ICtx) (l : List SymD) : Prop :=
 ∀ (u : World) (F : Nat → Prop) (done : List (List Nat)) (S1 : Nat → Prop) (A1 : Option Addr) (n1 c1 : Nat) (ini : List Nat) (q : Nat) (S2 : Nat → Prop) (A2 : Option Addr) (c2 : Nat),
  WSt M I F done u → done.length ≤ I.lim → Sl RSym u S1 A1 n1 c1 l → (∀ b, S1 b → b < u.heap.size ∧ ¬ I.XB b ∧ ¬ F b) → M.Syms l → l.length ≤ 100 →
  Sl Rep.int u S2 A2 (ini.length + 1) c2 (natI (ini ++ [q])) → (∀ b, S2 b → b < u.heap.size ∧ ¬ I.XB b ∧ ¬ F b) → q < M.n → ini.length + l.length ≤ 1000 →
  (∀ x ∈ instL M.d (inW W) I.t.2.2 l q, ini ++ x ∈ instL M.d (inW W) I.t.2.2 I.rhs I.t.1) →
  Calls Try.prog 83 #[.slice A1 n1 c1, .slice A2 (ini.length + 1) c2, .pointer (some ⟨I.K + 1, 0, none⟩), .pointer (some ⟨I.K + 3, 0, none⟩), .pointer (some ⟨I.K + 2, 0, none⟩), .pointer (some ⟨I.K, 0, none⟩), .pointer (some ⟨I.K + 4, 0, none⟩)] u
   (WalkR M I u F done ((instL M.d (inW W) I.t.2.2 l q).map (ini ++ ·)))
end Go.Proofs.Ytbmcoamdfpegnaa
