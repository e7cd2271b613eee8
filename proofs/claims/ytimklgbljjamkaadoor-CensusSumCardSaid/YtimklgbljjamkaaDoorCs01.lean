/- Words Row -/
import Derived.Below
import Derived.Carry
import Derived.Deep.AppendLies
import Derived.Deep.CondSized
import Derived.Deep.Draws
import Derived.Deep.Grids
import Derived.JoinedCond
import Derived.Laws.OwnMore
import Derived.Lib.Hide
import Derived.Maps.AppendAt
import Derived.OpenShut
import Derived.ProofKit
import Derived.SizedLaws
import Derived.Test.YtimklgbljjamkaaDoorChecked
import Derived.Test.YtimklgbljjamkaaDoorRows
import Derived.WalkKit
namespace Go.Proofs.YtimklgbljjamkaaDoor
open Go.RowKit
def Kept (S : Nat → Prop) (w w' : World) : Prop := ∀ (p : Addr) (u : Value), S p.block → w.cell? p = some u → w'.cell? p = some u
theorem cell_lt {w : World} {a : Addr} {u : Value} (h : w.cell? a = some u) : a.block < w.heap.size := by
 rcases Nat.lt_or_ge a.block w.heap.size with hlt | hge
 ·
  exact hlt
 ·
  unfold World.cell? at h
  rw [Array.getElem?_eq_none hge] at h
  cases h
section
variable {S : Nat → Prop} {w w' w'' : World}
theorem Kept.refl (S : Nat → Prop) (w : World) : Kept S w w := fun _ _ _ h => h
theorem Kept.trans (h : Kept S w w') (h' : Kept S w' w'') : Kept S w w'' := fun p u hp hu => h' p u hp (h p u hp hu)
theorem Kept.sub {S' : Nat → Prop} (h : Kept S w w') (hS : ∀ b, S' b → S b) : Kept S' w w' := fun p u hp hu => h p u (hS _ hp) hu
theorem Kept.alloc (S : Nat → Prop) (w : World) (o : Obj) : Kept S w (w.alloc o) := fun p u _ hu => by rw [World.cell?_alloc_lt w o p (cell_lt hu)]; exact hu
theorem Kept.drew (S : Nat → Prop) (w : World) : Kept S w w.drew := fun _ _ _ h => h
theorem Kept.below (hb : Below w.heap.size w w') : Kept S w w' := fun p u _ hu => by rw [hb.cell (cell_lt hu)]; exact hu
theorem Kept.belowB {B : Nat} (hb : Below B w w') (hS : ∀ b, S b → b < B) : Kept S w w' := fun p u hp hu => by rw [hb.cell (hS _ hp)]; exact hu
theorem Kept.grown {row : Option Nat} (hg : w.grownBy w' row) (hr : ∀ b, S b → row ≠ some b) : Kept S w w' := fun p u hp hu => by
 rw [World.cell?_of_block (hg.block p.block (cell_lt hu) (fun e => hr _ hp e.symm))]; exact hu
theorem Kept.setCell (S : Nat → Prop) (w : World) (q : Addr) (v : Value) (hq : ¬ S q.block) : Kept S w (w.setCell q v) := fun p u hp hu => by
 rw [World.cell?_setCell_other w q p v (fun e => hq (by subst e; exact hp))]; exact hu
end
def Rd (w : World) (S : Nat → Prop) (size : Nat) (A : Option Addr) (n : Nat) (xs : List Value) : Prop :=
 xs.length = n * size ∧ (0 < n → ∃ b off, A = some ⟨b, off, none⟩ ∧ S b ∧ ∀ j u, xs[j]? = some u → w.cell? ⟨b, off + j, none⟩ = some u)
section
variable {w w' : World} {S S' : Nat → Prop} {size n : Nat} {A : Option Addr} {xs : List Value}
theorem Rd.nil : Rd w S size A 0 [] := ⟨by simp, fun h => absurd h (by omega)⟩
theorem Rd.keep (h : Rd w S size A n xs) (hk : Kept S w w') : Rd w' S size A n xs :=
 ⟨h.1, fun hn => by
  obtain ⟨b, off, e, hb, hc⟩ := h.2 hn
  exact ⟨b, off, e, hb, fun j u hu => hk _ _ hb (hc j u hu)⟩⟩
theorem Rd.more (h : Rd w S size A n xs) (hS : ∀ b, S b → S' b) : Rd w S' size A n xs :=
 ⟨h.1, fun hn => by
  obtain ⟨b, off, e, hb, hc⟩ := h.2 hn
  exact ⟨b, off, e, hS _ hb, hc⟩⟩
theorem Rd.fit (h : Rd w S size A n xs) (hs : 0 < size) : Rd w (fun b => S b ∧ b < w.heap.size) size A n xs := by
 refine ⟨h.1, fun h0 => ?_⟩
 obtain ⟨b, off, e, hS, hc⟩ := h.2 h0
 refine ⟨b, off, e, ⟨hS, ?_⟩, hc⟩
 have hl : 0 < xs.length := by rw [h.1]; exact Nat.mul_pos h0 hs
 exact cell_lt (hc 0 _ (List.getElem?_eq_getElem hl))
theorem Rd.below (h : Rd w S size A n xs) (hb : Below w.heap.size w w') : Rd w' S size A n xs := h.keep (.below hb)
theorem Rd.drew (h : Rd w S size A n xs) : Rd w.drew S size A n xs := h
theorem Rd.alloc (h : Rd w S size A n xs) (o : Obj) : Rd (w.alloc o) S size A n xs := h.keep (.alloc _ _ _)
theorem Rd.of_own {base : Nat} {e : TypeId} {c : Nat} (h : w.ownsRow base e size (.slice A n c) n xs) : Rd w (fun b => base ≤ b) size A n xs := by
 refine ⟨h.1, fun hn => ?_⟩
 obtain ⟨g, cap, hv, hb, hlt⟩ := h.form hn
 have hA : A = some ⟨g, 0, none⟩ := by injection hv
 subst hA
 refine ⟨g, 0, rfl, hb, fun j u hu => ?_⟩
 have := h.cells (g := g) rfl j u hu
 rw [Nat.zero_add]
 by_cases hj : j = 0
 ·
  subst hj; exact this
 ·
  simpa [Addr.add, hj] using this
theorem Rd.at_ {k : Nat} (h : Rd w S 1 A n xs) (hk : k < n) : ∃ b off u, A = some ⟨b, off, none⟩ ∧ S b ∧ xs[k]? = some u ∧ w.cell? ⟨b, off + k, none⟩ = some u := by
 obtain ⟨b, off, e, hb, hc⟩ := h.2 (by omega)
 have hl : k < xs.length := by have := h.1; omega
 exact ⟨b, off, xs[k], e, hb, List.getElem?_eq_getElem hl, hc k _ (List.getElem?_eq_getElem hl)⟩
theorem Rd.part {lo hi c : Nat} (h : Rd w S size A n xs) (h1 : lo ≤ hi) (h2 : hi ≤ n) (h3 : n ≤ c) :
    Rd w S size (if c = lo then A else A.map (·.add (lo * size))) (hi - lo) ((xs.drop (lo * size)).take ((hi - lo) * size)) := by
 have hm : hi * size ≤ n * size := Nat.mul_le_mul_right _ h2
 have hm1 : lo * size ≤ hi * size := Nat.mul_le_mul_right _ h1
 refine ⟨by rw [List.length_take, List.length_drop, h.1, Nat.sub_mul]; omega, fun hn => ?_⟩
 obtain ⟨b, off, rfl, hb, hcell⟩ := h.2 (by omega)
 rw [if_neg (by omega)]
 refine ⟨b, off + lo * size, ?_, hb, fun j u hu => ?_⟩
 ·
  by_cases h0 : lo * size = 0 <;> simp [Addr.add, h0]
 ·
  rw [Nat.add_assoc]
  refine hcell _ u ?_
  rw [List.getElem?_take] at hu
  split at hu
  ·
   rw [← hu, List.getElem?_drop]
  ·
   cases hu
theorem Rd.cuth (hr : Rd w S size A n xs) (h : Nat) (h2 : h ≤ n) : Rd w S size A h (xs.take (h * size)) := by
 have hm : h * size ≤ n * size := Nat.mul_le_mul_right _ h2
 refine ⟨by rw [List.length_take, hr.1]; omega, fun hn => ?_⟩
 obtain ⟨b, off, rfl, hb, hcell⟩ := hr.2 (by omega)
 refine ⟨b, off, rfl, hb, fun j u hu => hcell j u ?_⟩
 rw [List.getElem?_take] at hu
 split at hu
 ·
  exact hu
 ·
  cases hu
end
theorem Rd.new (w : World) (S : Nat → Prop) (t : TypeId) (cs : List Value) (H : Nat) (hH : w.heap.size = H) (hS : S H) : Rd (w.alloc (.cells cs.toArray t)) S 1 (some ⟨H, 0, none⟩) cs.length cs := by
 subst hH
 refine ⟨by simp, fun _ => ⟨w.heap.size, 0, rfl, hS, fun j v hv => ?_⟩⟩
 rw [World.cell?_alloc_at _ _ _ _ rfl]
 simpa using hv
structure SlType (P : Program) (T E s bytes : Nat) (z : Value) : Prop where
 under : P.underlying T = some (.slice E)
 elem : P.elem T = E
 info : (P.info? E).map (fun i => (i.zero, i.size, i.bytes)) = some (some z, s, bytes)
 zero : z.cells.size = s
 pos : 0 < s
theorem SlType.under' {P : Program} {T E s bytes : Nat} {z : Value} (hT : SlType P T E s bytes z) : P.underlying T = some (.slice (P.elem T)) := by rw [hT.elem]; exact hT.under
theorem SlType.size {P : Program} {T E s bytes : Nat} {z : Value} (hT : SlType P T E s bytes z) (w : World) : (Go.sizeOf (P.elem T)).run P w = .ok s w := by
 obtain ⟨i, hi, _, hz1, _⟩ := info_parts hT.info
 rw [hT.elem]
 simp [Go.sizeOf, typeInfo, hi, hz1]
section
variable {P : Program} {T E s bytes : Nat} {z : Value} (hT : SlType P T E s bytes z)
include hT
theorem SlType.hh (A : Option Addr) (n c : Nat) (h : Int) (h0 : 0 ≤ h) (h2 : h ≤ c) (w : World) :
    (Instr.slice T (.slice A n c) none (some (.int .i64 h)) none).run P w = .ok (.slice A h.toNat c) w := by
 rw [run_slice_h w T A n c hT.under' .i64 h h0 h2, hT.size w]
 simp only [Result.andThen, sliced]
 congr 1
 cases A <;> simp [Addr.add]
theorem SlType.ll (A : Option Addr) (n c : Nat) (l : Int) (h0 : 0 ≤ l) (h1 : l ≤ n) (w : World) :
    (Instr.slice T (.slice A n c) (some (.int .i64 l)) none none).run P w = .ok (.slice (if c = l.toNat then A else A.map (·.add (l.toNat * s))) (n - l.toNat) (c - l.toNat)) w := by
 rw [run_slice_l w T A n c hT.under' .i64 l h0 h1, hT.size w]
 rfl
theorem SlType.hN (A : Option Addr) (n c h : Nat) (h2 : h ≤ c) (w : World) : (Instr.slice T (.slice A n c) none (some (.int .i64 (h : Int))) none).run P w = .ok (.slice A h c) w := by
 have := hT.hh A n c (h : Int) (by omega) (by omega) w
 rwa [Int.toNat_natCast] at this
theorem SlType.cutl {w : World} {S : Nat → Prop} {n c : Nat} {A : Option Addr} {xs : List Value} (hr : Rd w S s A n xs) (l : Int) (h0 : 0 ≤ l) (h2 : l ≤ n) (h3 : n ≤ c) :
    ∃ A', (∀ u, (Instr.slice T (.slice A n c) (some (.int .i64 l)) none none).run P u = .ok (.slice A' (n - l.toNat) (c - l.toNat)) u) ∧
     Rd w S s A' (n - l.toNat) (xs.drop (l.toNat * s)) := by
 refine ⟨_, fun u => hT.ll A n c l h0 h2 u, ?_⟩
 have := hr.part (lo := l.toNat) (hi := n) (c := c) (by omega) (Nat.le_refl _) h3
 rwa [List.take_of_length_le (by rw [List.length_drop, hr.1, Nat.sub_mul]; omega)] at this
end
theorem tBools : SlType Tryd.prog 103 4 1 1 (.bool false) := ⟨by kernel_rfl, by kernel_rfl, by kernel_rfl, rfl, by decide⟩
theorem tInts : SlType Tryd.prog 22 3 1 8 (.int .i64 0) := ⟨by kernel_rfl, by kernel_rfl, by kernel_rfl, rfl, by decide⟩
theorem tBoolss : SlType Tryd.prog 98 103 1 24 (.slice none 0 0) := ⟨by kernel_rfl, by kernel_rfl, by kernel_rfl, rfl, by decide⟩
theorem tIntss : SlType Tryd.prog 28 22 1 24 (.slice none 0 0) := ⟨by kernel_rfl, by kernel_rfl, by kernel_rfl, rfl, by decide⟩
theorem ret_int {k : IntKind} {a b : Int} (h : a = b) : Ending.returned (.int k a) = .returned (.int k b) := by rw [h]
theorem ret_bool {a b : Bool} (h : a = b) : Ending.returned (.bool a) = .returned (.bool b) := by rw [h]
end Go.Proofs.YtimklgbljjamkaaDoor
namespace Go.Proofs.YtimklgbljjamkaaDoor
open Go.ChangeShapes Go.WideShapes Go.ChangeAt Go.RowKit
theorem own : ownKnob Tryd.prog.godebug = none := by kernel_rfl
theorem laidOut : laidOutB Tryd.prog = true := by kernel_rfl
section
variable {H : Type} {enc : TypeId × Value → H} {P : Program}
theorem trodAll_below (hl : laidOutB P = true) {W W' : World} (hb : Below W.heap.size W W') : ∀ {ts : List TypeId} {vs : List Value} {ds : List (DataW H)} {ps : List MemPlace},
    (ts.all fun t => P.readableRec t && decide (t < P.types.size)) = true → (∀ x ∈ ps, x.block < W.heap.size) →
    DataW.TrodAll enc P W 0 (fun _ => true) true ts vs ds ps → DataW.TrodAll enc P W' 0 (fun b => decide (b < W.heap.size)) true ts vs ds ps
 | [], [], [], _, _, _, h => h
 | [], [], _ :: _, _, _, _, h => h.elim
 | [], _ :: _, _, _, _, _, h => h.elim
 | _ :: _, [], _, _, _, _, h => h.elim
 | _ :: _, _ :: _, [], _, _, _, h => h.elim
 | t :: ts, v :: vs, d :: ds, ps, hr, hlt, h => by
  obtain ⟨p, q, h1, h2, rfl⟩ := h
  simp only [List.all_cons, Bool.and_eq_true, decide_eq_true_eq] at hr
  exact ⟨p, q, Below.trod hl hr.1.1 hr.1.2 h1 hb (fun x hx => hlt x (by simp [hx])), trodAll_below hl hb hr.2 (fun x hx => hlt x (by simp [hx])) h2, rfl⟩
theorem law_post {f : Func} {s : ChangeSpec} {apart : Bool} {W W' : World} {args : Array Value} {ds gs : List (DataW H)} {before : List MemPlace} {tb : TypeId} (hl : laidOutB P = true)
    (hr : (f.params.toList.all fun t => P.readableRec t && decide (t < P.types.size)) = true) (hrt : f.resultTypes = #[tb]) (htb : P.underlying tb = some .bool)
    (hvars : s.vars = []) (hspec : (s.fn H (ds ++ gs)) = { results := [.lit (.bool true)], args := ds })
    (hW : DataW.Whole enc P f.params.toList s.vars apart W args.toList ds gs before) (hB : Below W.heap.size W W') : s.post enc P f apart true false false W args (.bool true) W' := by
 have hlt := hW.lt
 have hW0 := hW
 obtain ⟨p, q, hA, hV, rfl, _, _⟩ := hW
 rw [hvars] at hV
 refine ⟨ds, gs, p ++ q, [], p, [], hW0, ?_, ?_, ?_, hB.frame _, fun h => by cases h⟩
 ·
  rw [hspec, hrt]
  exact trodAll_cons_mk (shut_bool htb _) trodAll_mk0
 ·
  rw [hspec]
  exact trodAll_below hl hB hr (fun x hx => by simpa using hlt x (by simp [hx])) hA
 ·
  rw [hspec, hvars]
  rfl
theorem rd_of_cells {w : World} {a : Addr} {n : Nat} {xs : List Value} (hl : xs.length = n) (h : ∀ i u, xs[i]? = some u → w.cell? (a.add i) = some u) : Rd w (fun _ => True) 1 (some a) n xs := by
 refine ⟨by omega, fun h0 => ?_⟩
 obtain ⟨b, off, sp⟩ := a
 have h1 := h 0 _ (List.getElem?_eq_getElem (by omega))
 have hsp : sp = none := by
  cases sp with
  | none => rfl
  | some q =>
   exfalso
   simp only [Addr.add, if_true, World.cell?] at h1
   split at h1
   ·
    simp at h1
   ·
    cases h1
 subst hsp
 refine ⟨b, off, rfl, trivial, fun j u hu => ?_⟩
 have := h j u hu
 by_cases hj : j = 0
 ·
  subst hj; exact this
 ·
  simpa [Addr.add, hj] using this
theorem open_Ints {W : World} {T E base : Nat} {v : Value} {d : DataW H} {ps : List MemPlace} (ht : P.underlying T = some (.slice E)) (he : P.underlying E = some (.int .i64)) (hc : P.cellsOf E = 1)
    (hval : Value.okWide P W .any base T v) (h : DataW.Trod enc P W 0 (fun _ => true) true T v d ps) :
    ∃ (A : Option Addr) (n c : Nat) (zs : List Int), v = .slice A n c ∧ n ≤ c ∧ c ≤ maxLen ∧ Rd W (fun _ => True) 1 A n (zs.map (Value.int .i64)) ∧ (∀ z ∈ zs, -9223372036854775808 ≤ z ∧ z ≤ 9223372036854775807) ∧
     ((d = .nil ∧ c = 0) ∨ ∃ es sp, d = .slice es sp ∧ es.length + sp.length = c) := by
 obtain ⟨a0, len, cap, rfl⟩ := okWide_slice ht hval
 obtain ⟨fuel, hf⟩ := h
 rcases open_ints ht he hc hf with ⟨h1, h2⟩ | ⟨a, len', cap', zs, h1, _, h3, h4, h5, h6, h7, h8⟩
 ·
  simp only [Value.cells] at h1
  obtain ⟨rfl, rfl, rfl⟩ : a0 = none ∧ len = 0 ∧ cap = 0 := by simpa using h1
  injection h2 with h2 _
  exact ⟨none, 0, 0, [], rfl, Nat.le_refl _, Nat.zero_le _, Rd.nil, by simp, .inl ⟨h2, rfl⟩⟩
 ·
  simp only [Value.cells] at h1
  obtain ⟨rfl, rfl, rfl⟩ : a0 = some a ∧ len = len' ∧ cap = cap' := by simpa using h1
  simp only [if_true] at h5
  injection h6 with h6 _
  refine ⟨some a, len, cap, zs.take len, rfl, h3, h4, rd_of_cells (by simp; omega) ?_, ?_, .inr ⟨_, _, h6, by simp [lits]; omega⟩⟩
  ·
   intro i u hu
   rw [List.getElem?_map, List.getElem?_take] at hu
   split at hu
   ·
    rename_i hi
    have := h7 i (by omega)
    rw [this]
    rw [← hu]
    simp [List.getD, List.getElem?_eq_getElem (show i < zs.length by omega)]
   ·
    simp at hu
  ·
   intro z hz
   have := h8 z (List.mem_of_mem_take hz)
   have h1 : IntKind.i64.min = -9223372036854775808 := rfl
   have h2 : IntKind.i64.max = 9223372036854775807 := rfl
   simp only [Lit.wf, Bool.and_eq_true, decide_eq_true_eq] at this
   omega
theorem open_Int {W : World} {T base : Nat} {v : Value} {d : DataW H} {ps : List MemPlace} (ht : P.underlying T = some (.int .i64))
    (hval : Value.okWide P W .any base T v) (h : DataW.Trod enc P W 0 (fun _ => true) true T v d ps) : ∃ n : Int, v = .int .i64 n ∧ -9223372036854775808 ≤ n ∧ n ≤ 9223372036854775807 := by
 obtain ⟨m, rfl, rfl, rfl, wm⟩ := open_int ht hval h
 have h1 : IntKind.i64.min = -9223372036854775808 := rfl
 have h2 : IntKind.i64.max = 9223372036854775807 := rfl
 simp only [Lit.wf, Bool.and_eq_true, decide_eq_true_eq] at wm
 exact ⟨m, rfl, by omega, by omega⟩
end
end Go.Proofs.YtimklgbljjamkaaDoor
