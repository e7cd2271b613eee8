/- Words Row App -/
import Derived.Deep.AppendLies
import Derived.Deep.CondSized
import Derived.Deep.Draws
import Derived.Deep.Grids
import Derived.Lib.AppendZerosOnto
import Derived.Lib.Hide
import Derived.OpenShut
import Derived.ProofKit
import Derived.Test.YtjnbjdbndbbanaaGreatDoorRows
import Derived.WalkKit
namespace Go.Proofs.YtjnbjdbndbbanaaGreatDoor
open Go.RowKit
def Kept (S : Nat → Prop) (w w' : World) : Prop := ∀ (p : Addr) (u : Value), S p.block → w.cell? p = some u → w'.cell? p = some u
theorem cell_lt {w : World} {a : Addr} {u : Value} (h : w.cell? a = some u) : a.block < w.heap.size := by
 rcases Nat.lt_or_ge a.block w.heap.size with hlt | hge
 · exact hlt
 unfold World.cell? at h
 rw [Array.getElem?_eq_none hge] at h
 cases h
section
variable {S : Nat → Prop} {w w' w'' : World}
theorem Kept.refl (S : Nat → Prop) (w : World) : Kept S w w := fun _ _ _ h => h
theorem Kept.trans (h : Kept S w w') (h' : Kept S w' w'') : Kept S w w'' := fun p u hp hu => h' p u hp (h p u hp hu)
theorem Kept.sub {S' : Nat → Prop} (h : Kept S w w') (hS : ∀ b, S' b → S b) : Kept S' w w' := fun p u hp hu => h p u (hS _ hp) hu
theorem Kept.alloc (S : Nat → Prop) (w : World) (o : Obj) : Kept S w (w.alloc o) := fun p u _ hu => by rw [World.cell?_alloc_lt w o p (cell_lt hu)]; exact hu
theorem Kept.drew (S : Nat → Prop) (w : World) : Kept S w w.drew := fun _ _ _ h => h
theorem Kept.below (hb : Below w.heap.size w w') : Kept S w w' := fun p u _ hu => by rw [hb.cell (cell_lt hu)]; exact hu
theorem Kept.belowB {B : Nat} (hb : Below B w w') (hS : ∀ b, S b → b < B) : Kept S w w' := fun p u hp hu => by rw [hb.cell (hS _ hp)]; exact hu
theorem Kept.grown {row : Option Nat} (hg : w.grownBy w' row) (hr : ∀ b, S b → row ≠ some b) : Kept S w w' := fun p u hp hu => by
 rw [World.cell?_of_block (hg.block p.block (cell_lt hu) (fun e => hr _ hp e.symm))]; exact hu
theorem Kept.setCell (S : Nat → Prop) (w : World) (q : Addr) (v : Value) (hq : ¬ S q.block) : Kept S w (w.setCell q v) := fun p u hp hu => by
 rw [World.cell?_setCell_other w q p v (fun e => hq (by subst e; exact hp))]; exact hu
end
def Rd (w : World) (S : Nat → Prop) (size : Nat) (A : Option Addr) (n : Nat) (xs : List Value) : Prop :=
 xs.length = n * size ∧ (0 < n → ∃ b off, A = some ⟨b, off, none⟩ ∧ S b ∧ ∀ j u, xs[j]? = some u → w.cell? ⟨b, off + j, none⟩ = some u)
section
variable {w w' : World} {S S' : Nat → Prop} {size n : Nat} {A : Option Addr} {xs : List Value}
theorem Rd.nil : Rd w S size A 0 [] := ⟨by simp, fun h => absurd h (by omega)⟩
theorem Rd.keep (h : Rd w S size A n xs) (hk : Kept S w w') : Rd w' S size A n xs :=
 ⟨h.1, fun hn => by
  obtain ⟨b, off, e, hb, hc⟩ := h.2 hn
  exact ⟨b, off, e, hb, fun j u hu => hk _ _ hb (hc j u hu)⟩⟩
theorem Rd.more (h : Rd w S size A n xs) (hS : ∀ b, S b → S' b) : Rd w S' size A n xs :=
 ⟨h.1, fun hn => by
  obtain ⟨b, off, e, hb, hc⟩ := h.2 hn
  exact ⟨b, off, e, hS _ hb, hc⟩⟩
theorem Rd.fit (h : Rd w S size A n xs) (hs : 0 < size) : Rd w (fun b => S b ∧ b < w.heap.size) size A n xs := by
 refine ⟨h.1, fun h0 => ?_⟩
 obtain ⟨b, off, e, hS, hc⟩ := h.2 h0
 refine ⟨b, off, e, ⟨hS, ?_⟩, hc⟩
 have hl : 0 < xs.length := by rw [h.1]; exact Nat.mul_pos h0 hs
 exact cell_lt (hc 0 _ (List.getElem?_eq_getElem hl))
theorem Rd.below (h : Rd w S size A n xs) (hb : Below w.heap.size w w') : Rd w' S size A n xs := h.keep (.below hb)
theorem Rd.drew (h : Rd w S size A n xs) : Rd w.drew S size A n xs := h
theorem Rd.alloc (h : Rd w S size A n xs) (o : Obj) : Rd (w.alloc o) S size A n xs := h.keep (.alloc _ _ _)
theorem Rd.of_own {base : Nat} {e : TypeId} {c : Nat} (h : w.ownsRow base e size (.slice A n c) n xs) : Rd w (fun b => base ≤ b) size A n xs := by
 refine ⟨h.1, fun hn => ?_⟩
 obtain ⟨g, cap, hv, hb, hlt⟩ := h.form hn
 have hA : A = some ⟨g, 0, none⟩ := by injection hv
 subst hA
 refine ⟨g, 0, rfl, hb, fun j u hu => ?_⟩
 have := h.cells (g := g) rfl j u hu
 rw [Nat.zero_add]
 by_cases hj : j = 0
 · subst hj; exact this
 simpa [Addr.add, hj] using this
theorem Rd.at_ {k : Nat} (h : Rd w S 1 A n xs) (hk : k < n) : ∃ b off u, A = some ⟨b, off, none⟩ ∧ S b ∧ xs[k]? = some u ∧ w.cell? ⟨b, off + k, none⟩ = some u := by
 obtain ⟨b, off, e, hb, hc⟩ := h.2 (by omega)
 have hl : k < xs.length := by have := h.1; omega
 exact ⟨b, off, xs[k], e, hb, List.getElem?_eq_getElem hl, hc k _ (List.getElem?_eq_getElem hl)⟩
theorem Rd.part {lo hi c : Nat} (h : Rd w S size A n xs) (h1 : lo ≤ hi) (h2 : hi ≤ n) (h3 : n ≤ c) :
    Rd w S size (if c = lo then A else A.map (·.add (lo * size))) (hi - lo) ((xs.drop (lo * size)).take ((hi - lo) * size)) := by
 have hm : hi * size ≤ n * size := Nat.mul_le_mul_right _ h2
 have hm1 : lo * size ≤ hi * size := Nat.mul_le_mul_right _ h1
 refine ⟨by rw [List.length_take, List.length_drop, h.1, Nat.sub_mul]; omega, fun hn => ?_⟩
 obtain ⟨b, off, rfl, hb, hcell⟩ := h.2 (by omega)
 rw [if_neg (by omega)]
 refine ⟨b, off + lo * size, ?_, hb, fun j u hu => ?_⟩
 · by_cases h0 : lo * size = 0 <;> simp [Addr.add, h0]
 rw [Nat.add_assoc]
 refine hcell _ u ?_
 rw [List.getElem?_take] at hu
 split at hu
 · rw [← hu, List.getElem?_drop]
 cases hu
theorem Rd.cuth (hr : Rd w S size A n xs) (h : Nat) (h2 : h ≤ n) : Rd w S size A h (xs.take (h * size)) := by
 have hm : h * size ≤ n * size := Nat.mul_le_mul_right _ h2
 refine ⟨by rw [List.length_take, hr.1]; omega, fun hn => ?_⟩
 obtain ⟨b, off, rfl, hb, hcell⟩ := hr.2 (by omega)
 refine ⟨b, off, rfl, hb, fun j u hu => hcell j u ?_⟩
 rw [List.getElem?_take] at hu
 split at hu
 · exact hu
 cases hu
end
theorem Rd.new (w : World) (S : Nat → Prop) (t : TypeId) (cs : List Value) (H : Nat) (hH : w.heap.size = H) (hS : S H) : Rd (w.alloc (.cells cs.toArray t)) S 1 (some ⟨H, 0, none⟩) cs.length cs := by
 subst hH
 refine ⟨by simp, fun _ => ⟨w.heap.size, 0, rfl, hS, fun j v hv => ?_⟩⟩
 rw [World.cell?_alloc_at _ _ _ _ rfl]
 simpa using hv
structure SlType (P : Program) (T E s bytes : Nat) (z : Value) : Prop where
 under : P.underlying T = some (.slice E)
 elem : P.elem T = E
 info : (P.info? E).map (fun i => (i.zero, i.size, i.bytes)) = some (some z, s, bytes)
 zero : z.cells.size = s
 pos : 0 < s
theorem SlType.under' {P : Program} {T E s bytes : Nat} {z : Value} (hT : SlType P T E s bytes z) : P.underlying T = some (.slice (P.elem T)) := by rw [hT.elem]; exact hT.under
theorem SlType.size {P : Program} {T E s bytes : Nat} {z : Value} (hT : SlType P T E s bytes z) (w : World) : (Go.sizeOf (P.elem T)).run P w = .ok s w := by
 obtain ⟨i, hi, _, hz1, _⟩ := info_parts hT.info
 rw [hT.elem]
 simp [Go.sizeOf, typeInfo, hi, hz1]
section
variable {P : Program} {T E s bytes : Nat} {z : Value} (hT : SlType P T E s bytes z)
include hT
theorem SlType.hh (A : Option Addr) (n c : Nat) (h : Int) (h0 : 0 ≤ h) (h2 : h ≤ c) (w : World) :
    (Instr.slice T (.slice A n c) none (some (.int .i64 h)) none).run P w = .ok (.slice A h.toNat c) w := by
 rw [run_slice_h w T A n c hT.under' .i64 h h0 h2, hT.size w]
 simp only [Result.andThen, sliced]
 congr 1
 cases A <;> simp [Addr.add]
theorem SlType.ll (A : Option Addr) (n c : Nat) (l : Int) (h0 : 0 ≤ l) (h1 : l ≤ n) (w : World) :
    (Instr.slice T (.slice A n c) (some (.int .i64 l)) none none).run P w = .ok (.slice (if c = l.toNat then A else A.map (·.add (l.toNat * s))) (n - l.toNat) (c - l.toNat)) w := by
 rw [run_slice_l w T A n c hT.under' .i64 l h0 h1, hT.size w]
 rfl
theorem SlType.hN (A : Option Addr) (n c h : Nat) (h2 : h ≤ c) (w : World) : (Instr.slice T (.slice A n c) none (some (.int .i64 (h : Int))) none).run P w = .ok (.slice A h c) w := by
 have := hT.hh A n c (h : Int) (by omega) (by omega) w
 rwa [Int.toNat_natCast] at this
theorem SlType.cutl {w : World} {S : Nat → Prop} {n c : Nat} {A : Option Addr} {xs : List Value} (hr : Rd w S s A n xs) (l : Int) (h0 : 0 ≤ l) (h2 : l ≤ n) (h3 : n ≤ c) :
    ∃ A', (∀ u, (Instr.slice T (.slice A n c) (some (.int .i64 l)) none none).run P u = .ok (.slice A' (n - l.toNat) (c - l.toNat)) u) ∧
     Rd w S s A' (n - l.toNat) (xs.drop (l.toNat * s)) := by
 refine ⟨_, fun u => hT.ll A n c l h0 h2 u, ?_⟩
 have := hr.part (lo := l.toNat) (hi := n) (c := c) (by omega) (Nat.le_refl _) h3
 rwa [List.take_of_length_le (by rw [List.length_drop, hr.1, Nat.sub_mul]; omega)] at this
end
theorem tBools : SlType Tryz.prog 94 4 1 1 (.bool false) := ⟨by kernel_rfl, by kernel_rfl, by kernel_rfl, rfl, by decide⟩
theorem tInts : SlType Tryz.prog 22 3 1 8 (.int .i64 0) := ⟨by kernel_rfl, by kernel_rfl, by kernel_rfl, rfl, by decide⟩
theorem tBoolss : SlType Tryz.prog 89 94 1 24 (.slice none 0 0) := ⟨by kernel_rfl, by kernel_rfl, by kernel_rfl, rfl, by decide⟩
theorem tIntss : SlType Tryz.prog 32 22 1 24 (.slice none 0 0) := ⟨by kernel_rfl, by kernel_rfl, by kernel_rfl, rfl, by decide⟩
theorem ret_int {k : IntKind} {a b : Int} (h : a = b) : Ending.returned (.int k a) = .returned (.int k b) := by rw [h]
theorem ret_bool {a b : Bool} (h : a = b) : Ending.returned (.bool a) = .returned (.bool b) := by rw [h]
end Go.Proofs.YtjnbjdbndbbanaaGreatDoor
namespace Go.Proofs.YtjnbjdbndbbanaaGreatDoor
open Go.ChangeShapes Go.WideShapes Go.ChangeAt Go.RowKit
theorem own : ownKnob Tryz.prog.godebug = none := by kernel_rfl
theorem laidOut : laidOutB Tryz.prog = true := by kernel_rfl
section
variable {H : Type} {enc : TypeId × Value → H} {P : Program}
theorem trodAll_below (hl : laidOutB P = true) {W W' : World} (hb : Below W.heap.size W W') : ∀ {ts : List TypeId} {vs : List Value} {ds : List (DataW H)} {ps : List MemPlace},
    (ts.all fun t => P.readableRec t && decide (t < P.types.size)) = true → (∀ x ∈ ps, x.block < W.heap.size) →
    DataW.TrodAll enc P W 0 (fun _ => true) true ts vs ds ps → DataW.TrodAll enc P W' 0 (fun b => decide (b < W.heap.size)) true ts vs ds ps
 | [], [], [], _, _, _, h => h
 | [], [], _ :: _, _, _, _, h => h.elim
 | [], _ :: _, _, _, _, _, h => h.elim
 | _ :: _, [], _, _, _, _, h => h.elim
 | _ :: _, _ :: _, [], _, _, _, h => h.elim
 | t :: ts, v :: vs, d :: ds, ps, hr, hlt, h => by
  obtain ⟨p, q, h1, h2, rfl⟩ := h
  simp only [List.all_cons, Bool.and_eq_true, decide_eq_true_eq] at hr
  exact ⟨p, q, Below.trod hl hr.1.1 hr.1.2 h1 hb (fun x hx => hlt x (by simp [hx])), trodAll_below hl hb hr.2 (fun x hx => hlt x (by simp [hx])) h2, rfl⟩
theorem law_post {f : Func} {s : ChangeSpec} {apart : Bool} {W W' : World} {args : Array Value} {ds gs : List (DataW H)} {before : List MemPlace} {tb : TypeId} (hl : laidOutB P = true)
    (hr : (f.params.toList.all fun t => P.readableRec t && decide (t < P.types.size)) = true) (hrt : f.resultTypes = #[tb]) (htb : P.underlying tb = some .bool)
    (hvars : s.vars = []) (hspec : (s.fn H (ds ++ gs)) = { results := [.lit (.bool true)], args := ds })
    (hW : DataW.Whole enc P f.params.toList s.vars apart W args.toList ds gs before) (hB : Below W.heap.size W W') : s.post enc P f apart true false false W args (.bool true) W' := by
 have hlt := hW.lt
 have hW0 := hW
 obtain ⟨p, q, hA, hV, rfl, _, _⟩ := hW
 rw [hvars] at hV
 refine ⟨ds, gs, p ++ q, [], p, [], hW0, ?_, ?_, ?_, hB.frame _, fun h => by cases h⟩
 ·
  rw [hspec, hrt]
  exact trodAll_cons_mk (shut_bool htb _) trodAll_mk0
 ·
  rw [hspec]
  exact trodAll_below hl hB hr (fun x hx => by simpa using hlt x (by simp [hx])) hA
 rw [hspec, hvars]
 rfl
theorem rd_of_cells {w : World} {a : Addr} {n : Nat} {xs : List Value} (hl : xs.length = n) (h : ∀ i u, xs[i]? = some u → w.cell? (a.add i) = some u) : Rd w (fun _ => True) 1 (some a) n xs := by
 refine ⟨by omega, fun h0 => ?_⟩
 obtain ⟨b, off, sp⟩ := a
 have h1 := h 0 _ (List.getElem?_eq_getElem (by omega))
 have hsp : sp = none := by
  cases sp with
  | none => rfl
  | some q =>
   exfalso
   simp only [Addr.add, if_true, World.cell?] at h1
   split at h1
   · simp at h1
   cases h1
 subst hsp
 refine ⟨b, off, rfl, trivial, fun j u hu => ?_⟩
 have := h j u hu
 by_cases hj : j = 0
 · subst hj; exact this
 simpa [Addr.add, hj] using this
theorem open_Ints {W : World} {T E base : Nat} {v : Value} {d : DataW H} {ps : List MemPlace} (ht : P.underlying T = some (.slice E)) (he : P.underlying E = some (.int .i64)) (hc : P.cellsOf E = 1)
    (hval : Value.okWide P W .any base T v) (h : DataW.Trod enc P W 0 (fun _ => true) true T v d ps) :
    ∃ (A : Option Addr) (n c : Nat) (zs : List Int), v = .slice A n c ∧ n ≤ c ∧ c ≤ maxLen ∧ Rd W (fun _ => True) 1 A n (zs.map (Value.int .i64)) ∧ (∀ z ∈ zs, -9223372036854775808 ≤ z ∧ z ≤ 9223372036854775807) ∧
     ((d = .nil ∧ c = 0) ∨ ∃ es sp, d = .slice es sp ∧ es.length + sp.length = c) := by
 obtain ⟨a0, len, cap, rfl⟩ := okWide_slice ht hval
 obtain ⟨fuel, hf⟩ := h
 rcases open_ints ht he hc hf with ⟨h1, h2⟩ | ⟨a, len', cap', zs, h1, _, h3, h4, h5, h6, h7, h8⟩
 ·
  simp only [Value.cells] at h1
  obtain ⟨rfl, rfl, rfl⟩ : a0 = none ∧ len = 0 ∧ cap = 0 := by simpa using h1
  injection h2 with h2 _
  exact ⟨none, 0, 0, [], rfl, Nat.le_refl _, Nat.zero_le _, Rd.nil, by simp, .inl ⟨h2, rfl⟩⟩
 simp only [Value.cells] at h1
 obtain ⟨rfl, rfl, rfl⟩ : a0 = some a ∧ len = len' ∧ cap = cap' := by simpa using h1
 simp only [if_true] at h5
 injection h6 with h6 _
 refine ⟨some a, len, cap, zs.take len, rfl, h3, h4, rd_of_cells (by simp; omega) ?_, ?_, .inr ⟨_, _, h6, by simp [lits]; omega⟩⟩
 ·
  intro i u hu
  rw [List.getElem?_map, List.getElem?_take] at hu
  split at hu
  ·
   rename_i hi
   have := h7 i (by omega)
   rw [this]
   rw [← hu]
   simp [List.getD, List.getElem?_eq_getElem (show i < zs.length by omega)]
  simp at hu
 intro z hz
 have := h8 z (List.mem_of_mem_take hz)
 have h1 : IntKind.i64.min = -9223372036854775808 := rfl
 have h2 : IntKind.i64.max = 9223372036854775807 := rfl
 simp only [Lit.wf, Bool.and_eq_true, decide_eq_true_eq] at this
 omega
theorem open_Int {W : World} {T base : Nat} {v : Value} {d : DataW H} {ps : List MemPlace} (ht : P.underlying T = some (.int .i64))
    (hval : Value.okWide P W .any base T v) (h : DataW.Trod enc P W 0 (fun _ => true) true T v d ps) : ∃ n : Int, v = .int .i64 n ∧ -9223372036854775808 ≤ n ∧ n ≤ 9223372036854775807 := by
 obtain ⟨m, rfl, rfl, rfl, wm⟩ := open_int ht hval h
 have h1 : IntKind.i64.min = -9223372036854775808 := rfl
 have h2 : IntKind.i64.max = 9223372036854775807 := rfl
 simp only [Lit.wf, Bool.and_eq_true, decide_eq_true_eq] at wm
 exact ⟨m, rfl, by omega, by omega⟩
end
end Go.Proofs.YtjnbjdbndbbanaaGreatDoor
namespace Go.Proofs.YtjnbjdbndbbanaaGreatDoor
open Go.RowKit
def Own (w : World) (base : Nat) (e : TypeId) (size : Nat) (v : Value) (n : Nat) (xs : List Value) : Prop :=
 w.ownsRow base e size v n xs ∨ ∃ A, v = .slice A 0 0 ∧ n = 0 ∧ xs = []
def rowOf : Value → Option Nat
 | .slice (some a) _ (_ + 1) => some a.block
 | _ => none
section
variable {w w' : World} {base base' : Nat} {e : TypeId} {size n c : Nat} {v : Value} {xs : List Value} {A : Option Addr}
theorem Own.nil (w : World) (base : Nat) (e : TypeId) (size : Nat) (A : Option Addr) : Own w base e size (.slice A 0 0) 0 [] := .inr ⟨A, rfl, rfl, rfl⟩
theorem Own.len (h : Own w base e size v n xs) : xs.length = n * size := by
 rcases h with h | ⟨A, _, rfl, rfl⟩
 · exact h.1
 simp
theorem Own.form (h : Own w base e size v n xs) : ∃ A c, v = .slice A n c ∧ n ≤ c ∧ c ≤ maxLen := by
 rcases h with h | ⟨A, rfl, rfl, rfl⟩
 ·
  rcases h.2 with ⟨rfl, rfl⟩ | ⟨g, cap, cur, rfl, _, _, hc, hm, _⟩
  · exact ⟨none, 0, rfl, Nat.le_refl _, Nat.zero_le _⟩
  exact ⟨_, cap, rfl, hc, hm⟩
 exact ⟨A, 0, rfl, Nat.le_refl _, Nat.zero_le _⟩
theorem Own.row (h : Own w base e size v n xs) {g : Nat} (hg : rowOf v = some g) : base ≤ g ∧ g < w.heap.size := by
 rcases h with h | ⟨A, rfl, rfl, rfl⟩
 ·
  rcases h.2 with ⟨rfl, rfl⟩ | ⟨g', cap, cur, rfl, hb, hh, _⟩
  · cases hg
  cases cap with
  | zero => cases hg
  | succ k =>
   have : g' = g := by simpa [rowOf] using hg
   subst this
   refine ⟨hb, ?_⟩
   rcases Nat.lt_or_ge g' w.heap.size with hlt | hge
   · exact hlt
   rw [Array.getElem?_eq_none hge] at hh; cases hh
 cases A <;> cases hg
theorem Own.kept {row : Option Nat} (h : Own w base e size v n xs) (hg : w.grownBy w' row) (hne : ∀ g, row = some g → rowOf v ≠ some g) : Own w' base e size v n xs := by
 rcases h with h | h
 ·
  rcases h.2 with ⟨h1, h2⟩ | ⟨g, cap, cur, rfl, hb, hh, hnc, hr⟩
  · exact .inl ⟨h.1, .inl ⟨h1, h2⟩⟩
  cases cap with
  | zero =>
   obtain rfl : n = 0 := by omega
   exact .inr ⟨_, rfl, rfl, List.eq_nil_of_length_eq_zero (by rw [h.1, Nat.zero_mul])⟩
  | succ k =>
   refine .inl ⟨h.1, .inr ⟨g, k + 1, cur, rfl, hb, ?_, hnc, hr⟩⟩
   rw [hg.block g ?_ ?_]
   · exact hh
   ·
    rcases Nat.lt_or_ge g w.heap.size with hlt | hge
    · exact hlt
    rw [Array.getElem?_eq_none hge] at hh; cases hh
   intro e
   exact hne g e.symm rfl
 exact .inr h
theorem Own.below {B : Nat} (h : Own w base e size v n xs) (hb : Below B w w') (hB : w.heap.size ≤ B) : Own w' base e size v n xs := by
 rcases h with h | h
 ·
  left
  refine ⟨h.1, ?_⟩
  rcases h.2 with h2 | ⟨g, cap, cur, rfl, hbg, hh, hr⟩
  · exact .inl h2
  refine .inr ⟨g, cap, cur, rfl, hbg, ?_, hr⟩
  rw [hb.block g ?_]
  · exact hh
  rcases Nat.lt_or_ge g w.heap.size with hlt | hge
  · omega
  rw [Array.getElem?_eq_none hge] at hh; cases hh
 exact .inr h
theorem Own.alloc (h : Own w base e size v n xs) (o : Obj) : Own (w.alloc o) base e size v n xs := by
 rcases h with h | h
 · exact .inl (h.alloc o)
 exact .inr h
theorem Own.drew (h : Own w base e size v n xs) : Own w.drew base e size v n xs := h
theorem Own.mono (h : Own w base e size v n xs) (hb : base' ≤ base) : Own w base' e size v n xs := by
 rcases h with h | h
 ·
  refine .inl ⟨h.1, ?_⟩
  rcases h.2 with h2 | ⟨g, cap, cur, rfl, hbg, hr⟩
  · exact .inl h2
  exact .inr ⟨g, cap, cur, rfl, by omega, hr⟩
 exact .inr h
theorem Own.rd (h : Own w base e size (.slice A n c) n xs) : Rd w (fun b => base ≤ b) size A n xs := by
 rcases h with h | ⟨A', h, rfl, rfl⟩
 · exact Rd.of_own h
 exact Rd.nil
end
theorem Own.addr {w : World} {base n c : Nat} {E : TypeId} {A : Option Addr} {xs : List Value} (h : Own w base E 1 (.slice A n c) n xs) (h0 : 0 < n) : ∃ g, A = some ⟨g, 0, none⟩ ∧ base ≤ g ∧ w.ownsRow base E 1 (.slice (some ⟨g, 0, none⟩) n c) n xs := by
 rcases h with h | ⟨A', _, rfl, _⟩
 ·
  obtain ⟨g, cap, e, hb, _⟩ := h.form h0
  injection e with e1 e2 e3
  subst e1
  exact ⟨g, rfl, hb, h⟩
 omega
section
variable {P : Program} {T E s bytes : Nat} {z : Value}
theorem grownBy_none_alloc (w : World) (o : Obj) (row : Option Nat) : w.grownBy (w.drew.alloc o) row :=
 ⟨rfl, rfl, rfl, by simp, fun k hk _ => Below.heap_alloc w.drew o k hk⟩
theorem run_append_fresh (hT : SlType P T E s bytes z) (w : World) (ty base : Nat) (A0 : Option Addr) (S : Nat → Prop) (A : Option Addr) (m c : Nat) (news : List Value) (hr : Rd w S s A m news)
    (h63 : m ≤ maxLen) (hbytes : m * bytes ≤ 281474976710656) (hbase : base ≤ w.heap.size) :
    ∃ v' w', (Builtin.append_ #[T, T] ty #[.slice A0 0 0, .slice A m c]).run P w = .ok v' w' ∧ Own w' base E s v' m news ∧ w.grownBy w' none ∧
     (rowOf v' = none ∨ rowOf v' = some w.heap.size) := by
 obtain ⟨i, hi, hz0, hz1, hz2⟩ := info_parts hT.info
 subst hz1
 subst hz2
 rcases Nat.eq_zero_or_pos m with hm | hm
 ·
  subst hm
  have hn : news = [] := List.eq_nil_of_length_eq_zero (by simpa using hr.1)
  subst hn
  refine ⟨.slice A0 0 0, w, ?_, Own.nil _ _ _ _ _, World.grownBy.refl w _, .inl (by cases A0 <;> rfl)⟩
  cases A <;> cases A0 <;> simp [Builtin.append_, run_underlying hT.under, Go.sizeOf, typeInfo, hi, Builtin.lenOf, Builtin.firstCells, storeCells, loadCells, loadCellsFrom]
 obtain ⟨b, off, rfl, hb, hc⟩ := hr.2 hm
 have hcells : ∀ j u, news[j]? = some u → w.cell? ((⟨b, off, none⟩ : Addr).add j) = some u := by
  intro j u hu
  have := hc j u hu
  by_cases hj : j = 0
  · subst hj; exact this
  simpa [Addr.add, hj] using this
 have h63' : ((0 + m : Nat) : Int) ≤ 9223372036854775807 := by unfold maxLen at h63; omega
 have hge := grownCap_ge w m 0 E
 have hcm := grownCap_le_maxLen w m 0 E h63
 have hlen := hr.1
 refine ⟨.slice (some ⟨w.heap.size, 0, none⟩) m (grownCap w m 0 E), w.drew.alloc (.cells (news.toArray ++ Builtin.zeroCells z.cells (grownCap w m 0 E - m)) E), ?_, ?_, grownBy_none_alloc w _ _, ?_⟩
 ·
  cases A0 with
  | none => exact run_append_nil w T ty E i z hT.under hi hz0 _ m c news hlen hcells hm (by omega) hbytes
  | some a0 =>
   have := run_append_grow (P := P) w T ty E i z hT.under hi hz0 a0 0 0 [] (by simp) (by simp) ⟨b, off, none⟩ m c news hlen hcells (by omega) h63' (by rw [Nat.zero_add, nextslicecap_zero hm]; exact hbytes)
   simpa using this
 ·
  refine .inl ⟨hlen, .inr ⟨w.heap.size, _, _, rfl, hbase, heap_alloc_new w.drew _, hge, hcm, ?_, ?_⟩⟩
  ·
   simp only [Array.size_append, List.size_toArray, size_zeroCells, hT.zero, hlen, ← Nat.add_mul]
   congr 1
   omega
  simp only [Array.toList_append, ← hlen]
  exact List.take_left
 right
 cases hg : grownCap w m 0 E with
 | zero => omega
 | succ k => rfl
theorem run_append_roomy (hT : SlType P T E s bytes z) (w : World) (ty base g n cap : Nat) (xs : List Value) (hown : w.ownsRow base E s (.slice (some ⟨g, 0, none⟩) n cap) n xs)
    (S : Nat → Prop) (A : Option Addr) (m c : Nat) (news : List Value) (hr : Rd w S s A m news) (h1 : ∀ u ∈ news, u.oneCell' = true) (hroom : n + m ≤ cap) :
    ∃ w', (Builtin.append_ #[T, T] ty #[.slice (some ⟨g, 0, none⟩) n cap, .slice A m c]).run P w = .ok (.slice (some ⟨g, 0, none⟩) (n + m) cap) w' ∧
     w'.ownsRow base E s (.slice (some ⟨g, 0, none⟩) (n + m) cap) (n + m) (xs ++ news) ∧ w.grownBy w' (some g) := by
 obtain ⟨i, hi, hz0, hz1, hz2⟩ := info_parts hT.info
 cases A with
 | none =>
  have hm : m = 0 := by
   rcases Nat.eq_zero_or_pos m with h0 | h0
   · exact h0
   obtain ⟨b, off, h, _⟩ := hr.2 h0
   cases h
  subst hm
  have hn : news = [] := List.eq_nil_of_length_eq_zero (by simpa using hr.1)
  subst hn
  refine ⟨w, ?_, by simpa using hown, World.grownBy.refl w _⟩
  simp [Builtin.append_, run_underlying hT.under, Go.sizeOf, typeInfo, hi, Builtin.lenOf, Builtin.firstCells, storeCells, show n ≤ cap by omega]
 | some a =>
  refine run_append_fits (P := P) w base T ty E i s hT.under hi hz1 g n cap xs hown a m c news hr.1 ?_ h1 hroom
  intro j u hu
  rcases Nat.eq_zero_or_pos m with h0 | h0
  ·
   subst h0
   have hn : news = [] := List.eq_nil_of_length_eq_zero (by simpa using hr.1)
   subst hn
   simp at hu
  obtain ⟨b, off, h, _, hc⟩ := hr.2 h0
  injection h with h
  subst h
  have := hc j u hu
  by_cases hj : j = 0
  · subst hj; exact this
  simpa [Addr.add, hj] using this
theorem run_append_Own (hT : SlType P T E s bytes z) (w : World) (ty base : Nat) (v : Value) (n : Nat) (xs : List Value) (hown : Own w base E s v n xs)
    (S : Nat → Prop) (A : Option Addr) (m c : Nat) (news : List Value) (hr : Rd w S s A m news) (h1 : ∀ u ∈ news, u.oneCell' = true)
    (h63 : n + m ≤ maxLen) (hbytes : (n + m) * bytes ≤ 140737488355328) (hbase : base ≤ w.heap.size) :
    ∃ v' w', (Builtin.append_ #[T, T] ty #[v, .slice A m c]).run P w = .ok v' w' ∧ Own w' base E s v' (n + m) (xs ++ news) ∧ w.grownBy w' (rowOf v) ∧
     (rowOf v' = rowOf v ∨ rowOf v' = some w.heap.size) := by
 have hfresh : ∀ A0, v = .slice A0 0 0 → n = 0 → xs = [] → ∃ v' w', (Builtin.append_ #[T, T] ty #[v, .slice A m c]).run P w = .ok v' w' ∧ Own w' base E s v' (n + m) (xs ++ news) ∧ w.grownBy w' (rowOf v) ∧
     (rowOf v' = rowOf v ∨ rowOf v' = some w.heap.size) := by
  rintro A0 rfl rfl rfl
  obtain ⟨v', w', hrun, ho, hg, hrow⟩ := run_append_fresh hT w ty base A0 S A m c news hr (by omega) (by simp only [Nat.zero_add] at hbytes; omega) hbase
  refine ⟨v', w', hrun, by simpa using ho, ?_, ?_⟩
  · cases A0 <;> exact hg
  rcases hrow with h | h
  · left; rw [h]; cases A0 <;> rfl
  exact .inr h
 rcases hown with hown | ⟨A0, h1, h2, h3⟩
 ·
  rcases hown.2 with ⟨h2, h3⟩ | ⟨g, cap, cur, rfl, hbg, hh, hnc, hcm, hcs, ht⟩
  ·
   have hx : xs = [] := List.eq_nil_of_length_eq_zero (by rw [hown.1, h3, Nat.zero_mul])
   exact hfresh none h2 h3 hx
  cases cap with
  | zero =>
   obtain rfl : n = 0 := by omega
   have hx : xs = [] := List.eq_nil_of_length_eq_zero (by rw [hown.1, Nat.zero_mul])
   exact hfresh _ rfl rfl hx
  | succ k =>
   obtain ⟨i, hi, hz0, hz1, hz2⟩ := info_parts hT.info
   by_cases hA : A = none
   ·
    have hm : m = 0 := by
     rcases Nat.eq_zero_or_pos m with h0 | h0
     · exact h0
     obtain ⟨b, off, h, _⟩ := hr.2 h0
     rw [hA] at h
     cases h
    obtain ⟨w', hrun, ho, hg⟩ := run_append_roomy hT w ty base g n (k + 1) xs hown S A m c news hr h1 (by omega)
    exact ⟨_, w', hrun, .inl ho, hg, .inl rfl⟩
   obtain ⟨a, rfl⟩ := Option.ne_none_iff_exists'.1 hA
   have hcells : ∀ j u, news[j]? = some u → w.cell? (a.add j) = some u := by
    intro j u hu
    rcases Nat.eq_zero_or_pos m with h0 | h0
    ·
     subst h0
     have hn : news = [] := List.eq_nil_of_length_eq_zero (by simpa using hr.1)
     subst hn
     simp at hu
    obtain ⟨b, off, h, _, hc⟩ := hr.2 h0
    injection h with h
    subst h
    have := hc j u hu
    by_cases hj : j = 0
    · subst hj; exact this
    simpa [Addr.add, hj] using this
   obtain ⟨v', w', hrun, ho, hg, _, hat⟩ := run_append_own_at (P := P) w base T ty E i z s bytes hT.under hi hz0 hz1 hz2 hT.zero hT.pos _ n xs hown a m c news hr.1 hcells h1 h63 hbytes hbase
   refine ⟨v', w', hrun, .inl ho, hg, ?_⟩
   rcases ho.2 with ⟨rfl, h0⟩ | ⟨g', cap', cur', rfl, _, _, hnc', _⟩
   · rcases hat with h | h <;> cases h
   cases cap' with
   | zero =>
    exfalso
    have hmn : n = 0 ∧ m = 0 := by omega
    obtain ⟨rfl, rfl⟩ := hmn
    obtain ⟨w2, hrun2, _⟩ := run_append_roomy hT w ty base g 0 (k + 1) xs hown S (some a) 0 c news hr h1 (by omega)
    rw [hrun] at hrun2
    cases hrun2
   | succ k' =>
    rcases hat with h | h
    · left; simpa [rowOf, Value.ownBlock] using h
    right; simpa [rowOf, Value.ownBlock] using h
 exact hfresh A0 h1 h2 h3
end
theorem Below.own {B : Nat} {a w w' : World} {base : Nat} {e : TypeId} {size n : Nat} {v : Value} {xs : List Value} (h : Below B a w) (ho : Own w base e size v n xs) (hg : w.grownBy w' (rowOf v)) (hB : B ≤ base) (hs : B ≤ w.heap.size) : Below B a w' :=
 h.grown hg hs fun k hk => by have := ho.row hk; omega
end Go.Proofs.YtjnbjdbndbbanaaGreatDoor
