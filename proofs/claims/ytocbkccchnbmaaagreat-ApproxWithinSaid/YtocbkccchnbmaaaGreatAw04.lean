/- Rep2 MinMax Below Stream GramHas -/
import Derived.BigQuiet
import Derived.Deep.CutBlock
import Derived.Deep.CutRange
import Derived.Deep.LoopGhost
import Derived.Deep.QuietTactic
import Derived.Laws.StructEq
import Derived.LoopTactic
import Derived.Outline
import Derived.ProofKit
import Derived.Test.YtocbkccchnbmaaaGreatAw01
import Derived.Test.YtocbkccchnbmaaaGreatAw03
import Derived.WalkKit
import Derived.WalkLawsBesides
namespace Go.Proofs.YtocbkccchnbmaaaGreat
open Go.RowKit
def Rep.prod {α β : Type} (R : Rep α) (Q : Rep β) : Rep (α × β) where
 size := R.size + Q.size
 ok := fun w S cs p => ∃ c1 c2, cs = c1 ++ c2 ∧ R.ok w S c1 p.1 ∧ Q.ok w S c2 p.2
 pos := by have := R.pos; omega
 len := by rintro _ _ _ _ ⟨c1, c2, rfl, h1, h2⟩; rw [List.length_append, R.len h1, Q.len h2]
 keep := by rintro _ _ _ _ _ ⟨c1, c2, rfl, h1, h2⟩ hk; exact ⟨c1, c2, rfl, R.keep h1 hk, Q.keep h2 hk⟩
 more := by rintro _ _ _ _ _ ⟨c1, c2, rfl, h1, h2⟩ hS; exact ⟨c1, c2, rfl, R.more h1 hS, Q.more h2 hS⟩
 fit := by rintro _ _ _ _ ⟨c1, c2, rfl, h1, h2⟩; exact ⟨c1, c2, rfl, R.fit h1, Q.fit h2⟩
 one := by
  rintro _ _ _ _ ⟨c1, c2, rfl, h1, h2⟩ u hu
  rcases List.mem_append.1 hu with h | h
  ·
   exact R.one h1 u h
  ·
   exact Q.one h2 u h
abbrev SymD := Bool × Int
abbrev RuleD := Int × List SymD
abbrev GramD := Int × Int × Int × List RuleD
abbrev DfaD := Int × List Int × List (List Int)
abbrev RSym : Rep SymD := Rep.prod Rep.bool Rep.int
abbrev RRule : Rep RuleD := Rep.prod Rep.int (Rep.slice RSym)
abbrev RDfa : Rep DfaD := Rep.prod Rep.int (Rep.prod (Rep.slice Rep.int) (Rep.slice (Rep.slice Rep.int)))
section
variable {w : World} {S : Nat → Prop} {cs : List Value}
theorem RSym.cells {s : SymD} : RSym.ok w S cs s ↔ cs = [.bool s.1, .int .i64 s.2] := by
 constructor
 ·
  rintro ⟨c1, c2, rfl, h1, h2⟩
  rw [show c1 = _ from h1, show c2 = _ from h2]; rfl
 ·
  rintro rfl
  exact ⟨[_], [_], rfl, rfl, rfl⟩
theorem RRule.cells {r : RuleD} : RRule.ok w S cs r ↔ ∃ A n c, cs = [.int .i64 r.1, .slice A n c] ∧ Sl RSym w S A n c r.2 := by
 constructor
 ·
  rintro ⟨c1, c2, rfl, h1, A, n, c, rfl, h2⟩
  rw [show c1 = _ from h1]
  exact ⟨A, n, c, rfl, h2⟩
 ·
  rintro ⟨A, n, c, rfl, h⟩
  exact ⟨[_], [_], rfl, rfl, A, n, c, rfl, h⟩
theorem RDfa.cells {d : DfaD} : RDfa.ok w S cs d ↔ ∃ A n c A' n' c', cs = [.int .i64 d.1, .slice A n c, .slice A' n' c'] ∧ Sl Rep.int w S A n c d.2.1 ∧ Sl (Rep.slice Rep.int) w S A' n' c' d.2.2 := by
 constructor
 ·
  rintro ⟨c1, c2, rfl, h1, c3, c4, rfl, ⟨A, n, c, rfl, h⟩, A', n', c', rfl, h'⟩
  rw [show c1 = _ from h1]
  exact ⟨A, n, c, A', n', c', rfl, h, h'⟩
 ·
  rintro ⟨A, n, c, A', n', c', rfl, h, h'⟩
  exact ⟨[_], _, rfl, rfl, [_], [_], rfl, ⟨A, n, c, rfl, h⟩, A', n', c', rfl, h'⟩
end
theorem Sl.at2 {α : Type} {R : Rep α} {w : World} {S : Nat → Prop} {A : Option Addr} {n c : Nat} {l : List α} (h : Sl R w S A n c l) (h2 : R.size = 2) {k : Nat} (hk : k < n) :
    ∃ (b off : Nat) (u v : Value) (a : α), A = some ⟨b, off, none⟩ ∧ S b ∧ l[k]? = some a ∧ R.ok w S [u, v] a ∧ w.cell? ⟨b, off + k * 2, none⟩ = some u ∧ w.cell? ⟨b, off + (k * 2 + 1), none⟩ = some v := by
 obtain ⟨xs, e1, e2, h3, h4⟩ := h
 subst e1
 have hg := h4.get hk
 have hl := h4.len
 rw [h2] at hg hl h3
 obtain ⟨b, off, e, hS, hc⟩ := h3.2 (by omega)
 have i1 : k * 2 < xs.length := by omega
 have i2 : k * 2 + 1 < xs.length := by omega
 refine ⟨b, off, xs[k * 2], xs[k * 2 + 1], l[k], e, hS, List.getElem?_eq_getElem hk, ?_, hc _ _ (List.getElem?_eq_getElem i1), hc _ _ (List.getElem?_eq_getElem i2)⟩
 rw [List.drop_eq_getElem_cons i1, List.drop_eq_getElem_cons i2] at hg
 exact hg
end Go.Proofs.YtocbkccchnbmaaaGreat
namespace Go.Proofs.YtocbkccchnbmaaaGreat
open Go.RowKit
def lmin : List Int → Int
 | [] => 0
 | a :: r => r.foldl min a
def lmax : List Int → Int
 | [] => 0
 | a :: r => r.foldl max a
theorem lmin_snoc (l : List Int) (x : Int) (h : 1 ≤ l.length) : lmin (l ++ [x]) = min (lmin l) x := by
 cases l with
 | nil => simp at h
 | cons a r => simp [lmin]
theorem lmax_snoc (l : List Int) (x : Int) (h : 1 ≤ l.length) : lmax (l ++ [x]) = max (lmax l) x := by
 cases l with
 | nil => simp at h
 | cons a r => simp [lmax]
theorem int_step {l : List Int} {k : Nat} {x : Int} (h : l[k]? = some x) : l.take (k + 1) = l.take k ++ [x] := by
 obtain ⟨hk, rfl⟩ := List.getElem?_eq_some_iff.1 h
 exact List.take_succ_eq_append_getElem hk
theorem Rd.int_at {w : World} {S : Nat → Prop} {A : Option Addr} {n k : Nat} {l : List Int} (h : Rd w S 1 A n (l.map (Value.int .i64))) (hk : k < n) :
    ∃ b off x, A = some ⟨b, off, none⟩ ∧ S b ∧ l[k]? = some x ∧ w.cell? ⟨b, off + k, none⟩ = some (.int .i64 x) := by
 obtain ⟨b, off, u, e, hb, hx, hc⟩ := h.at_ hk
 rw [List.getElem?_map] at hx
 obtain ⟨x, h1, rfl⟩ := Option.map_eq_some_iff.1 hx
 exact ⟨b, off, x, e, hb, h1, hc⟩
set_option maxHeartbeats 1000000 in
theorem minInt (A : Option Addr) (n c : Nat) (S : Nat → Prop) (l : List Int) (w : World) (hr : Rd w S 1 A n (l.map (Value.int .i64))) (h0 : 0 < n) (hn : n ≤ 1000000000000) :
    Calls Tryz.prog 69 #[.slice A n c] w fun e w' => e = .returned (.int .i64 (lmin l)) ∧ w = w' := by
 obtain ⟨b, off, x, rfl, _, hx, hcell⟩ := hr.int_at h0
 have hl : l.length = n := by simpa using hr.1
 have h1 : lmin (l.take 1) = x := by rw [int_step hx]; rfl
 have HR := Lib.hid hr
 have HL := Lib.hid hl
 have H1 := Lib.hid h1
 rw [Nat.add_zero] at hcell
 clear hr hl hx h1
 go_enter Tryz.func69, Tryz.ntmps69
 go_wp2_with fail
 go_loop [3, 4] (fun t i => ∃ k : Nat, 1 ≤ k ∧ k ≤ n ∧ i = .int .i64 k ∧ t = .int .i64 (lmin (l.take k))) (fun _ i => n - (intOf i).toNat)
 case atStart => exact ⟨1, by omega, by omega, by go_num, by rw [H1.out]⟩
 case round =>
  obtain ⟨k, hk1, hk, rfl, rfl⟩ := hrel
  clear hcell
  by_cases hlt : k < n
  ·
   obtain ⟨b', off', y, e, _, hy, hcell⟩ := HR.out.int_at hlt
   injection e with e
   injection e with e1 e2
   subst e1
   subst e2
   have hs : lmin (l.take (k + 1)) = min (lmin (l.take k)) y := by rw [int_step hy, lmin_snoc _ _ (by rw [List.length_take, HL.out]; omega)]
   have HS := Lib.hid hs
   clear hs hy
   generalize lmin (l.take k) = q at *
   go_wp2_with fail
   go_round
   case rel => exact ⟨k + 1, by omega, by omega, by go_num, by rw [HS.out]; congr 1; split <;> omega⟩
   case measure => simp [intOf]; omega
  ·
   obtain rfl : k = n := by omega
   go_wp2_with fail
   go_ret
   exact ⟨ret_int (by rw [List.take_of_length_le (by rw [HL.out]; omega)]), rfl⟩
set_option maxHeartbeats 1000000 in
theorem maxInt (A : Option Addr) (n c : Nat) (S : Nat → Prop) (l : List Int) (w : World) (hr : Rd w S 1 A n (l.map (Value.int .i64))) (h0 : 0 < n) (hn : n ≤ 1000000000000) :
    Calls Tryz.prog 70 #[.slice A n c] w fun e w' => e = .returned (.int .i64 (lmax l)) ∧ w = w' := by
 obtain ⟨b, off, x, rfl, _, hx, hcell⟩ := hr.int_at h0
 have hl : l.length = n := by simpa using hr.1
 have h1 : lmax (l.take 1) = x := by rw [int_step hx]; rfl
 have HR := Lib.hid hr
 have HL := Lib.hid hl
 have H1 := Lib.hid h1
 rw [Nat.add_zero] at hcell
 clear hr hl hx h1
 go_enter Tryz.func70, Tryz.ntmps70
 go_wp2_with fail
 go_loop [3, 4] (fun t i => ∃ k : Nat, 1 ≤ k ∧ k ≤ n ∧ i = .int .i64 k ∧ t = .int .i64 (lmax (l.take k))) (fun _ i => n - (intOf i).toNat)
 case atStart => exact ⟨1, by omega, by omega, by go_num, by rw [H1.out]⟩
 case round =>
  obtain ⟨k, hk1, hk, rfl, rfl⟩ := hrel
  clear hcell
  by_cases hlt : k < n
  ·
   obtain ⟨b', off', y, e, _, hy, hcell⟩ := HR.out.int_at hlt
   injection e with e
   injection e with e1 e2
   subst e1
   subst e2
   have hs : lmax (l.take (k + 1)) = max (lmax (l.take k)) y := by rw [int_step hy, lmax_snoc _ _ (by rw [List.length_take, HL.out]; omega)]
   have HS := Lib.hid hs
   clear hs hy
   generalize lmax (l.take k) = q at *
   go_wp2_with fail
   go_round
   case rel => exact ⟨k + 1, by omega, by omega, by go_num, by rw [HS.out]; congr 1; split <;> omega⟩
   case measure => simp [intOf]; omega
  ·
   obtain rfl : k = n := by omega
   go_wp2_with fail
   go_ret
   exact ⟨ret_int (by rw [List.take_of_length_le (by rw [HL.out]; omega)]), rfl⟩
end Go.Proofs.YtocbkccchnbmaaaGreat
namespace Go.Proofs.YtocbkccchnbmaaaGreat
open Go.RowKit
theorem tmod_neg (x n : Int) (hn : 1 ≤ n) (h : x.tmod n < 0) : x.tmod n + n = x % n ∧ -n < x.tmod n := by
 have e := @Int.tmod_eq_emod x n
 have h1 := Int.emod_nonneg x (by omega : n ≠ 0)
 have h2 := Int.lt_tmod_of_pos x (by omega : 0 < n)
 split at e <;> omega
theorem tmod_pos (x n : Int) (hn : 1 ≤ n) (h : 0 ≤ x.tmod n) : x.tmod n = x % n := by
 have e := @Int.tmod_eq_emod x n
 have h1 := Int.emod_lt_of_pos x (by omega : 0 < n)
 split at e <;> omega
theorem makeBelow (x n : Int) (w : World) (hn : 1 ≤ n) (hn2 : n ≤ 1000000000000) :
    Calls Tryz.prog 26 #[.int .i64 x, .int .i64 n] w fun e w' => e = .returned (.int .i64 (x % n)) ∧ w = w' := by
 go_enter Tryz.func26, Tryz.ntmps26
 go_wp2
 ·
  rename_i h
  go_ret
  obtain ⟨e1, e2⟩ := tmod_neg x n hn h
  exact ⟨ret_int (by rw [IntWalk.wrap64_in _ ⟨by omega, by omega⟩, e1]), rfl⟩
 ·
  rename_i h
  go_ret
  exact ⟨ret_int (tmod_pos x n hn h), rfl⟩
end Go.Proofs.YtocbkccchnbmaaaGreat
namespace Go.Proofs.YtocbkccchnbmaaaGreat
open Go.RowKit
def nv (l : List Int) (k : Nat) (m : Int) : Int := match l[k]? with
 | some x => x % m
 | none => 0
theorem nv_range (l : List Int) (k : Nat) (m : Int) (hm : 1 ≤ m) : 0 ≤ nv l k m ∧ nv l k m < m := by
 unfold nv
 split
 ·
  rename_i x _
  exact ⟨Int.emod_nonneg x (by omega), Int.emod_lt_of_pos x (by omega)⟩
 ·
  omega
def StreamAt (w : World) (S : Nat → Prop) (B : Nat) (l : List Int) : Prop := ∃ A m c T, w.heap[B]? = some (.cells #[.slice A m c] T (0, 0)) ∧ Sl Rep.int w S A m c l ∧ m ≤ 1000000000000000
theorem heap_lt {w : World} {B : Nat} {o : Obj} (h : w.heap[B]? = some o) : B < w.heap.size := by
 rcases Nat.lt_or_ge B w.heap.size with hlt | hge
 ·
  exact hlt
 ·
  rw [Array.getElem?_eq_none hge] at h; cases h
section
variable {w w' : World} {S : Nat → Prop} {B : Nat} {l : List Int}
theorem StreamAt.lt (h : StreamAt w S B l) : B < w.heap.size := by
 obtain ⟨A, m, c, T, h, _⟩ := h
 exact heap_lt h
theorem StreamAt.keep (h : StreamAt w S B l) (hk : Kept S w w') (hB : w'.heap[B]? = w.heap[B]?) : StreamAt w' S B l := by
 obtain ⟨A, m, c, T, hh, hs, hm⟩ := h
 exact ⟨A, m, c, T, hB.trans hh, hs.keep hk, hm⟩
theorem StreamAt.below (h : StreamAt w S B l) (hb : Below w.heap.size w w') : StreamAt w' S B l := h.keep (.below hb) (hb.block B h.lt)
theorem StreamAt.alloc (h : StreamAt w S B l) (o : Obj) : StreamAt (w.alloc o) S B l := h.keep (.alloc _ _ _) (Below.heap_alloc w o B h.lt)
theorem StreamAt.grown {row : Option Nat} (h : StreamAt w S B l) (hg : w.grownBy w' row) (hr : row ≠ some B) (hS : ∀ b, S b → row ≠ some b) : StreamAt w' S B l :=
 h.keep (.grown hg hS) (hg.block B h.lt fun e => hr e.symm)
end
theorem heap_new (w : World) (o : Obj) (H : Nat) (hH : w.heap.size = H) : (w.alloc o).heap[H]? = some o := by subst hH; exact heap_alloc_new w o
theorem streamStart (w : World) (S : Nat → Prop) (A : Option Addr) (n c T H : Nat) (l : List Int) (hs : Sl Rep.int w S A n c l) (hn : n ≤ 1000000000000000) (hH : w.heap.size = H) : StreamAt (w.alloc (.cells #[.slice A n c] T)) S H (l.drop 0) :=
 ⟨A, n, c, T, heap_new w _ H hH, hs.alloc _, hn⟩
set_option maxHeartbeats 1000000 in
theorem streamNext (w : World) (S : Nat → Prop) (B k : Nat) (n : Int) (l : List Int) (h : StreamAt w S B (l.drop k)) (hSB : ¬ S B) (hn : 1 ≤ n) (hn2 : n ≤ 1000000) :
    Calls Tryz.prog 8 #[.pointer (some ⟨B, 0, none⟩), .int .i64 n] w fun e w' => e = .returned (.int .i64 (nv l k n)) ∧ StreamAt w' S B (l.drop (k + 1)) ∧ w.grownBy w' (some B) := by
 have hlt := h.lt
 obtain ⟨A, m, c, T, hh, hs, hm⟩ := h
 have hlen := hs.len
 have hcap := hs.cap
 have hcell : w.cell? ⟨B, 0, none⟩ = some (.slice A m c) := by simp [World.cell?, hh]
 have hfr : w.frozen? ⟨B, 0, none⟩ = false := by simp [World.frozen?, hh]
 rw [List.length_drop] at hlen
 rcases Nat.eq_zero_or_pos m with h0 | h0
 ·
  subst h0
  have hnv : nv l k n = 0 := by unfold nv; rw [List.getElem?_eq_none (by omega)]
  have hst : StreamAt w S B (l.drop (k + 1)) := by
   rw [List.drop_of_length_le (by omega)]
   exact ⟨A, 0, c, T, hh, Sl.nil _ _ _ _, Nat.zero_le _⟩
  have HNV := Lib.hid hnv
  have HST := Lib.hid hst
  clear hh hs hnv hst hlen
  go_enter Tryz.func8, Tryz.ntmps8
  go_wp2_with fail
  go_ret
  exact ⟨ret_int HNV.out.symm, HST.out, World.grownBy.refl _ _⟩
 ·
  obtain ⟨b, off, x, rfl, hSb, hx, hc0⟩ := hs.ints.int_at h0
  rw [Nat.add_zero] at hc0
  rw [List.getElem?_drop, Nat.add_zero] at hx
  obtain ⟨A', hcut, hrd⟩ := tInts.cutl (c := c) hs.ints 1 (by omega) (by omega) hcap
  rw [show (1 : Int).toNat = 1 from rfl, Nat.one_mul, ← List.map_drop, List.drop_drop] at hrd
  rw [show (1 : Int).toNat = 1 from rfl] at hcut
  have hnv : nv l k n = x % n := by unfold nv; rw [hx]
  have hst : StreamAt (w.setCell ⟨B, 0, none⟩ (.slice A' (m - 1) (c - 1))) S B (l.drop (k + 1)) := by
   refine ⟨A', m - 1, c - 1, T, ?_, (hrd.slInts (by omega)).keep (.setCell _ _ _ _ hSB), by omega⟩
   have := heap_setCell_same w B 0 #[.slice (some ⟨b, off, none⟩) m c] T (.slice A' (m - 1) (c - 1)) hh
   simpa using this
  have hgr : w.grownBy (w.setCell ⟨B, 0, none⟩ (.slice A' (m - 1) (c - 1))) (some B) := ⟨rfl, rfl, rfl, by simp [World.setCell], fun q _ hq => Below.heap_setCell w ⟨B, 0, none⟩ _ q (fun e => hq (by rw [e]))⟩
  have HNV := Lib.hid hnv
  have HST := Lib.hid hst
  have HGR := Lib.hid hgr
  clear hh hs hnv hst hgr hrd hx hlen
  have hb1 : (1 : Int) ≤ (m : Int) := by omega
  have hme : ((m : Int) == 0) = false := by simp; omega
  go_enter Tryz.func8, Tryz.ntmps8
  go_wp2_with (go_at_call 26; refine (makeBelow _ _ _ hn (by omega)).mono ?_; rintro e w' ⟨rfl, rfl⟩)
  go_ret
  exact ⟨ret_int HNV.out.symm, HST.out, HGR.out⟩
end Go.Proofs.YtocbkccchnbmaaaGreat
namespace Go.Proofs.YtocbkccchnbmaaaGreat
open Go.RowKit
theorem tSyms : SlType Tryz.prog 41 45 2 16 (.agg #[.bool false, .int .i64 0]) := ⟨by kernel_rfl, by kernel_rfl, by kernel_rfl, rfl, by decide⟩
theorem tRules : SlType Tryz.prog 23 43 2 32 (.agg #[.int .i64 0, .slice none 0 0]) := ⟨by kernel_rfl, by kernel_rfl, by kernel_rfl, rfl, by decide⟩
theorem eqFields2 {P : Program} {fs : List Field} {t0 t1 : TypeId} (hf : fs.map (fun f => (f.name, f.type, f.offset)) = [("Term", t0, 0), ("N", t1, 1)]) (h0 : P.underlying t0 = some .bool) (h1 : P.underlying t1 = some (.int .i64)) (g0 : ∀ w, (isAgg t0).run P w = .ok false w) (g1 : ∀ w, (isAgg t1).run P w = .ok false w)
    (d : Nat) (a c : Bool) (b e : Int) (w : World) : (Op.eqFields (d + 1) #[.bool a, .int .i64 b] #[.bool c, .int .i64 e] fs).run P w = .ok (a == c && b == e) w := by
 have hl : fs.length = 2 := by simpa using congrArg List.length hf
 match fs, hl, hf with
 | [f0, f1], _, hf =>
  simp only [List.map_cons, List.map_nil, List.cons.injEq, Prod.mk.injEq, and_true] at hf
  obtain ⟨⟨n0, rfl, o0⟩, n1, rfl, o1⟩ := hf
  have q0 := fun w x y => run_equalIn_bool' (P := P) w d f0.type x y h0
  have q1 := fun w x y => run_equalIn_int (P := P) w d f1.type .i64 .i64 x y h1
  cases hac : (a == c) <;> cases hbe : (b == e) <;> simp [Op.eqFields, n0, n1, o0, o1, part, g0, g1, q0, q1, hac, hbe]
theorem eqSym (a c : Bool) (b d : Int) (w : World) : (binOp .eql 45 (.agg #[.bool a, .int .i64 b]) (.agg #[.bool c, .int .i64 d])).run Tryz.prog w = .ok (.bool (a == c && b == d)) w := by
 have h1 : Tryz.prog.underlying 45 = some (.struct (Tryz.prog.fieldsOf 45)) := by kernel_rfl
 have h2 : Tryz.prog.stoodInHeld 45 = false := by kernel_rfl
 rw [run_eql_struct, run_equalIn_agg w 9999 _ _ _ h1 h2, eqFields2 (t0 := 4) (t1 := 3) (by kernel_rfl) (by kernel_rfl) (by kernel_rfl) (fun _ => by kernel_rfl) (fun _ => by kernel_rfl) 9998 a c b d w]
 rfl
theorem rule_at {w : World} {S : Nat → Prop} {A : Option Addr} {n c k : Nat} {rules : List RuleD} (h : Sl RRule w S A n c rules) (hk : k < n) :
    ∃ b off A' m c' r, A = some ⟨b, off, none⟩ ∧ S b ∧ b < w.heap.size ∧ w.cell? ⟨b, off + k * 2, none⟩ = some (.int .i64 r.1) ∧ w.cell? ⟨b, off + k * 2 + 1, none⟩ = some (.slice A' m c') ∧ rules[k]? = some r ∧ Sl RSym w S A' m c' r.2 := by
 obtain ⟨b, off, u, v, r, e, hS, hx, hok, h1, h2⟩ := h.at2 rfl hk
 obtain ⟨A', m, c', e2, hs⟩ := RRule.cells.1 hok
 simp only [List.cons.injEq, and_true] at e2
 obtain ⟨rfl, rfl⟩ := e2
 exact ⟨b, off, A', m, c', r, e, hS, cell_lt h1, h1, by rw [Nat.add_assoc]; exact h2, hx, hs⟩
theorem sym_at {w : World} {S : Nat → Prop} {A : Option Addr} {n c k : Nat} {l : List SymD} (h : Sl RSym w S A n c l) (hk : k < n) :
    ∃ b off s, A = some ⟨b, off, none⟩ ∧ S b ∧ b < w.heap.size ∧ w.cell? ⟨b, off + k * 2, none⟩ = some (.bool s.1) ∧ w.cell? ⟨b, off + k * 2 + 1, none⟩ = some (.int .i64 s.2) ∧ l[k]? = some s := by
 obtain ⟨b, off, u, v, s, e, hS, hx, hok, h1, h2⟩ := h.at2 rfl hk
 have e2 := RSym.cells.1 hok
 simp only [List.cons.injEq, and_true] at e2
 obtain ⟨rfl, rfl⟩ := e2
 exact ⟨b, off, s, e, hS, cell_lt h1, h1, by rw [Nat.add_assoc]; exact h2, hx⟩
theorem belowN {B : Nat} {a w : World} (h : Below B a w) (n : Nat) : Below B a (w.drewN n) := ⟨h.os, h.tape, h.output, h.size, h.block⟩
theorem take_eq_step {α : Type} {l m : List α} {j : Nat} {x y : α} (hx : l[j]? = some x) (hy : m[j]? = some y) : l.take (j + 1) = m.take (j + 1) ↔ l.take j = m.take j ∧ x = y := by
 obtain ⟨h1, rfl⟩ := List.getElem?_eq_some_iff.1 hx
 obtain ⟨h2, rfl⟩ := List.getElem?_eq_some_iff.1 hy
 rw [List.take_succ_eq_append_getElem h1, List.take_succ_eq_append_getElem h2]
 constructor
 ·
  intro h
  have := List.append_inj h (by simp; omega)
  simpa using this
 ·
  rintro ⟨h1, h2⟩
  rw [h1, h2]
set_option maxRecDepth 100000 in
set_option maxHeartbeats 2000000 in
theorem makeHas (w : World) (S S' : Nat → Prop) (A : Option Addr) (n c : Nat) (rules : List RuleD) (hr : Sl RRule w S A n c rules) (hn : n ≤ 1000) (A' : Option Addr) (m c' : Nat) (r : RuleD) (hs : Sl RSym w S' A' m c' r.2) (hm : m ≤ 1000) :
    Calls Tryz.prog 9 #[.slice A n c, .agg #[.int .i64 r.1, .slice A' m c']] w fun e w' => e = .returned (.bool (decide (r ∈ rules))) ∧ Below w.heap.size w w' := by
 have HL := Lib.hid hr.len
 have HM := Lib.hid hs.len
 have HR := Lib.hid hr
 have HS := Lib.hid hs
 clear hr hs
 go_enter Tryz.func9, Tryz.ntmps9
 go_wp2_with fail
 go_loopg [11] n (fun gk i wr => ∃ k : Nat, k ≤ n ∧ gk = n - k ∧ i = .int .i64 k ∧ (∀ j x, j < k → rules[j]? = some x → x ≠ r) ∧ wr.heap[w.heap.size]? = some (.cells #[.int .i64 r.1, .slice A' m c'] 43 (0, 0)) ∧ Below w.heap.size w wr)
 case atStart => exact ⟨0, Nat.zero_le _, rfl, rfl, (fun j x hj _ => absurd hj (by omega)), heap_alloc_new w _, (Below.refl _ _).alloc (Nat.le_refl _) _⟩
 case round =>
  obtain ⟨k, hk, hgk, rfl, hno, hbx, hb⟩ := hrel
  have HGK := Lib.hid hgk
  have HNO := Lib.hid hno
  have HBX := Lib.hid hbx
  have HB := Lib.hid hb
  have hc0 : wr.cell? ⟨w.heap.size, 0, none⟩ = some (.int .i64 r.1) := by simp [World.cell?, hbx]
  have hc1 : wr.cell? ⟨w.heap.size, 1, none⟩ = some (.slice A' m c') := by simp [World.cell?, hbx]
  have hl : w.heap.size < wr.heap.size := cell_lt hc0
  clear hgk hno hb hbx
  by_cases hlt : k < n
  ·
   obtain ⟨b, off, A2, m2, c2, x, rfl, _, hbw, hx1, hx2, hx, hxs⟩ := rule_at HR.out hlt
   have hx1' : wr.cell? ⟨b, off + k * 2, none⟩ = some (.int .i64 x.1) := Kept.below (S := fun _ => True) HB.out _ _ trivial hx1
   have hx2' : wr.cell? ⟨b, off + k * 2 + 1, none⟩ = some (.slice A2 m2 c2) := Kept.below (S := fun _ => True) HB.out _ _ trivial hx2
   have HX := Lib.hid hx
   have HXS := Lib.hid hxs
   have HM2 := Lib.hid hxs.len
   clear hx hxs hx1 hx2
   by_cases e1 : x.1 = r.1
   ·
    by_cases e2 : m2 = m
    ·
     subst e2
     have he1 : (x.1 != r.1) = false := by simp [e1]
     have he2 : ((m2 : Int) != (m2 : Int)) = false := by simp
     have E1 := Lib.hid e1
     obtain ⟨wo, rfl⟩ : ∃ wo : World, wo = wr := ⟨_, rfl⟩
     clear e1
     go_wp2_with fail
     clear hx1' hx2' hc0 hc1 he1
     have hst : (wo.alloc (.cells #[.int .i64 x.1, .slice A2 m2 c2] 43)).heap[w.heap.size]? = some (.cells #[.int .i64 r.1, .slice A' m2 c'] 43 (0, 0)) := (Below.heap_alloc _ _ _ hl).trans HBX.out
     have HST := Lib.hid hst
     clear hst
     go_loopg [7, 32] m2 (fun gk t i wr => ∃ j : Nat, j ≤ m2 ∧ gk = m2 - j ∧ i = .int .i64 j ∧ t = .bool (decide (x.2.take j = r.2.take j)) ∧ wr.heap[w.heap.size]? = some (.cells #[.int .i64 r.1, .slice A' m2 c'] 43 (0, 0)) ∧ wr.heap[wo.heap.size]? = some (.cells #[.int .i64 x.1, .slice A2 m2 c2] 43 (0, 0)) ∧ Below w.heap.size w wr)
     case atStart => exact ⟨0, Nat.zero_le _, rfl, rfl, by simp, HST.out, heap_alloc_new wo _, HB.out.alloc HB.out.size _⟩
     case round =>
      obtain ⟨j, hj, hgj, rfl, rfl, hby, hbz, hbi⟩ := hrel
      have HGJ := Lib.hid hgj
      have HBY := Lib.hid hby
      have HBZ := Lib.hid hbz
      have HBI := Lib.hid hbi
      have hd1 : wr.cell? ⟨w.heap.size, 1, none⟩ = some (.slice A' m2 c') := by simp [World.cell?, hby]
      have hd2 : wr.cell? ⟨wo.heap.size, 1, none⟩ = some (.slice A2 m2 c2) := by simp [World.cell?, hbz]
      clear hgj hby hbz hbi
      by_cases hjl : j < m2
      ·
       obtain ⟨b1, o1, s1, rfl, _, _, hs1, hs2, hs⟩ := sym_at HXS.out hjl
       obtain ⟨b2, o2, s2, rfl, _, _, ht1, ht2, ht⟩ := sym_at HS.out hjl
       replace hs1 := Kept.below (S := fun _ => True) HBI.out _ _ trivial hs1
       replace hs2 := Kept.below (S := fun _ => True) HBI.out _ _ trivial hs2
       replace ht1 := Kept.below (S := fun _ => True) HBI.out _ _ trivial ht1
       replace ht2 := Kept.below (S := fun _ => True) HBI.out _ _ trivial ht2
       have hstep := take_eq_step hs ht
       have HSTEP := Lib.hid hstep
       have hj1 : (0 : Int) ≤ (j : Int) := by omega
       have hj2 : (j : Int) < (m2 : Int) := by omega
       clear hs ht hstep
       by_cases hsame : x.2.take j = r.2.take j
       ·
        have hdec : decide (x.2.take j = r.2.take j) = true := by simp [hsame]
        have HSAME := Lib.hid hsame
        clear hsame
        rw [hdec]
        clear hdec
        obtain ⟨s11, s12⟩ := s1
        obtain ⟨s21, s22⟩ := s2
        dsimp only at *
        have heq := eqSym s11 s21 s12 s22
        go_wp2_with fail
        go_quiet (fail)
        go_wp2_with fail
        go_roundg (m2 - (j + 1))
        case measure => rw [HGJ.out]; omega
        case rel =>
         refine ⟨j + 1, by omega, rfl, by go_num, ?_, HBY.out, HBZ.out, belowN HBI.out _⟩
         congr 1
         rw [Bool.eq_iff_iff]
         simp only [decide_eq_true_eq, HSTEP.out, HSAME.out, true_and, Prod.mk.injEq, Bool.and_eq_true, beq_iff_eq]
       ·
        have hdec : decide (x.2.take j = r.2.take j) = false := by simp [hsame]
        have HSAME := Lib.hid hsame
        clear hsame
        rw [hdec]
        clear hdec
        go_wp2_with fail
        go_quiet (fail)
        go_wp2_with fail
        go_roundg (m2 - (j + 1))
        case measure => rw [HGJ.out]; omega
        case rel =>
         refine ⟨j + 1, by omega, rfl, by go_num, ?_, HBY.out, HBZ.out, belowN HBI.out _⟩
         congr 1
         symm
         rw [decide_eq_false_iff_not, HSTEP.out]
         exact fun h => HSAME.out h.1
      ·
       obtain rfl : j = m2 := by omega
       rw [List.take_of_length_le (by rw [← HM2.out]; omega), List.take_of_length_le (by rw [← HM.out]; omega)]
       by_cases hsame : x.2 = r.2
       ·
        have hxr : r ∈ rules := by
         have : x = r := Prod.ext E1.out hsame
         rw [← this]
         exact List.mem_of_getElem? HX.out
        have HXR := Lib.hid hxr
        have hdec : decide (x.2 = r.2) = true := by simp [hsame]
        clear hsame hxr
        rw [hdec]
        clear hdec
        go_wp2_with fail
        go_ret
        exact ⟨ret_bool (by simp [HXR.out]), HBI.out⟩
       ·
        have hdec : decide (x.2 = r.2) = false := by simp [hsame]
        have HSAME := Lib.hid hsame
        clear hsame
        rw [hdec]
        clear hdec
        go_wp2_with fail
        go_roundg (n - (k + 1))
        case measure => rw [HGK.out]; omega
        case rel =>
         refine ⟨k + 1, by omega, rfl, by go_num, fun i y hi hy => ?_, HBY.out, HBI.out⟩
         rcases Nat.lt_succ_iff_lt_or_eq.1 hi with h | rfl
         ·
          exact HNO.out i y h hy
         ·
          rw [HX.out] at hy
          injection hy with hy
          subst hy
          exact fun e => HSAME.out (by rw [e])
    ·
     have he1 : (x.1 != r.1) = false := by simp [e1]
     have he2 : ((m2 : Int) != (m : Int)) = true := by simp; omega
     have E2 := Lib.hid e2
     clear e1 e2
     go_wp2_with fail
     go_roundg (n - (k + 1))
     case measure => rw [HGK.out]; omega
     case rel =>
      refine ⟨k + 1, by omega, rfl, by go_num, fun i y hi hy => ?_, (Below.heap_alloc _ _ _ hl).trans HBX.out, HB.out.alloc HB.out.size _⟩
      rcases Nat.lt_succ_iff_lt_or_eq.1 hi with h | rfl
      ·
       exact HNO.out i y h hy
      ·
       rw [HX.out] at hy
       injection hy with hy
       subst hy
       exact fun e => E2.out (by rw [HM2.out, HM.out, e])
   ·
    have he1 : (x.1 != r.1) = true := by simp [e1]
    have E1 := Lib.hid e1
    clear e1
    go_wp2_with fail
    go_roundg (n - (k + 1))
    case measure => rw [HGK.out]; omega
    case rel =>
     refine ⟨k + 1, by omega, rfl, by go_num, fun i y hi hy => ?_, (Below.heap_alloc _ _ _ hl).trans HBX.out, HB.out.alloc HB.out.size _⟩
     rcases Nat.lt_succ_iff_lt_or_eq.1 hi with h | rfl
     ·
      exact HNO.out i y h hy
     ·
      rw [HX.out] at hy
      injection hy with hy
      subst hy
      exact fun e => E1.out (by rw [e])
  ·
   obtain rfl : k = n := by omega
   go_wp2_with fail
   go_ret
   refine ⟨ret_bool ?_, HB.out⟩
   symm
   rw [decide_eq_false_iff_not]
   intro hm
   obtain ⟨j, hj⟩ := List.getElem?_of_mem hm
   exact HNO.out j r (by have := (List.getElem?_eq_some_iff.1 hj).1; have := HL.out; omega) hj rfl
end Go.Proofs.YtocbkccchnbmaaaGreat
