/- MkLawQ MkBad -/
import Derived.Test.YtbmcoamdfpegnaaMn51
import Derived.Test.YtbmcoamdfpegnaaMn52
namespace Go.Proofs.Ytbmcoamdfpegnaa
section
variable {d : DfaD} {R : List RuleD} {V : TriD → Bool} {L : List TriD} {st : Nat}
theorem numT_le (t : TriD) : numT L t ≤ L.length := by
 unfold numT
 split
 ·
  rename_i h
  have := List.idxOf_lt_length_of_mem h
  omega
 ·
  omega
theorem instS_fit : ∀ {l : List SymD} {qs : List Nat} {s : SymD}, s ∈ instS L l qs → s.1 = false → 0 ≤ s.2 ∧ s.2 < ((L.length + 1 : Nat) : Int)
 | [], qs, s, h, _ => by cases qs <;> simp [instS] at h
 | a :: l, [], s, h, _ => by simp [instS] at h
 | a :: l, [q], s, h, _ => by simp [instS] at h
 | a :: l, q :: p :: qs, s, h, hn => by
  have h : s ∈ (if a.1 = true then a else (false, (numT L (q, a.2.toNat, p) : Int))) :: instS L l (p :: qs) := h
  rcases List.mem_cons.1 h with h | h
  ·
   split at h
   ·
    rename_i e
    rw [h, e] at hn
    cases hn
   ·
    rw [h]
    have := numT_le (L := L) (q, a.2.toNat, p)
    simp only
    omega
  ·
   exact instS_fit h hn
theorem instS_len : ∀ {l : List SymD} {qs : List Nat}, qs.length = l.length + 1 → (instS L l qs).length = l.length
 | [], [], h => by simp at h
 | [], [_], _ => rfl
 | [], _ :: _ :: _, h => by simp at h
 | a :: l, [], h => by simp at h
 | a :: l, [q], h => by simp at h
 | a :: l, q :: p :: qs, h => by
  show ((if a.1 = true then a else (false, (numT L (q, a.2.toNat, p) : Int))) :: instS L l (p :: qs)).length = _
  rw [List.length_cons, instS_len (l := l) (qs := p :: qs) (by simpa using h), List.length_cons]
theorem inst_end {tz : Nat} {m : List SymD} {p : Nat} (h : RchW d V m p tz) : ∃ qs, qs ∈ instL d V tz m p := by
 induction h with
 | @nil q => exact ⟨[q], by unfold instL; rw [if_pos rfl]; exact List.mem_singleton.2 rfl⟩
 | @cons s l q x p hx _ ih =>
  obtain ⟨qs, h1⟩ := ih
  exact ⟨q :: qs, by unfold instL; exact List.mem_flatMap.2 ⟨x, hx, List.mem_map.2 ⟨qs, h1, rfl⟩⟩⟩
theorem inst_path {tz : Nat} {l : List SymD} {q z : Nat} (h : RchW d V l q z) : ∀ {rest : List SymD} {qs : List Nat}, qs ∈ instL d V tz rest z → ∃ qs2, qs2 ∈ instL d V tz (l ++ rest) q ∧ ∀ s ∈ instS L rest qs, s ∈ instS L (l ++ rest) qs2 := by
 induction h with
 | nil => exact fun h => ⟨_, h, fun s hs => hs⟩
 | @cons s l q x p hx _ ih =>
  intro rest qs h
  obtain ⟨qs2, h1, h2⟩ := ih h
  obtain ⟨qs3, e, _⟩ := instL_mem h1
  refine ⟨q :: qs2, ?_, fun s' hs' => ?_⟩
  ·
   show q :: qs2 ∈ instL d V tz (s :: (l ++ rest)) q
   unfold instL
   exact List.mem_flatMap.2 ⟨x, hx, List.mem_map.2 ⟨qs2, h1, rfl⟩⟩
  ·
   have h3 := h2 s' hs'
   rw [e] at h3 ⊢
   show s' ∈ _ :: instS L (l ++ rest) (x :: qs3)
   exact List.mem_cons_of_mem _ h3
theorem need_inst {t x : TriD} (h : NeedP d R V t x) : ∃ r ∈ R, r.1 = (t.2.1 : Int) ∧ ∃ qs ∈ instL d V t.2.2 r.2 t.1, (false, (numT L x : Int)) ∈ instS L r.2 qs := by
 obtain ⟨r, hr, h0, l, c, m, e, h1, h2, h3, h4⟩ := h
 obtain ⟨qs, h5⟩ := inst_end h4
 obtain ⟨qs3, e3, _⟩ := instL_mem h5
 have h6 : x.1 :: qs ∈ instL d V t.2.2 ((false, c) :: m) x.1 := by
  unfold instL
  exact List.mem_flatMap.2 ⟨_, h3, List.mem_map.2 ⟨qs, h5, rfl⟩⟩
 obtain ⟨qs2, h7, h8⟩ := inst_path (L := L) h1 h6
 refine ⟨r, hr, h0, qs2, by rw [e]; exact h7, ?_⟩
 rw [e]
 refine h8 _ ?_
 rw [e3]
 show _ ∈ (if (false : Bool) = true then ((false, c) : SymD) else (false, (numT L (x.1, c.toNat, x.2.2) : Int))) :: _
 rw [if_neg (by simp), ← h2]
 exact List.mem_cons_self
end
section
variable {M : Mkr} {W L : List TriD}
theorem allPR_mem {x : PR} : x ∈ allPR M W L ↔ (∃ p : Nat, p < M.n ∧ 0 ≤ dat M.d (p : Int) ∧ 0 < numT L (M.d.1.toNat, M.st, p) ∧ x = ((0, [(false, (numT L (M.d.1.toNat, M.st, p) : Int))]), -1, keyD (M.d.1.toNat, M.st, p) 255 [])) ∨
    ∃ (i : Nat) (t : TriD) (k : Nat) (r : RuleD) (qs : List Nat), L[i]? = some t ∧ M.R[k]? = some r ∧ r.1 = (t.2.1 : Int) ∧ qs ∈ instL M.d (inW W) t.2.2 r.2 t.1 ∧ x = mkPR L i t k r.2 qs := by
 unfold allPR
 rw [List.mem_append]
 refine or_congr ?_ ?_
 ·
  unfold startPR
  rw [List.mem_flatMap]
  constructor
  ·
   rintro ⟨p, hp, h⟩
   rw [List.mem_range] at hp
   split at h
   ·
    rename_i hc
    exact ⟨p, hp, hc.1, hc.2, List.mem_singleton.1 h⟩
   ·
    cases h
  ·
   rintro ⟨p, hp, h1, h2, h3⟩
   refine ⟨p, List.mem_range.2 hp, ?_⟩
   rw [if_pos ⟨h1, h2⟩]
   exact List.mem_singleton.2 h3
 ·
  unfold restPR
  rw [show L.zipIdx.take L.length = L.zipIdx from List.take_of_length_le (by simp), List.mem_flatMap]
  constructor
  ·
   rintro ⟨p, hp, h⟩
   unfold tripPR at h
   rw [show M.R.zipIdx.take M.R.length = M.R.zipIdx from List.take_of_length_le (by simp), List.mem_flatMap] at h
   obtain ⟨z, hz, h⟩ := h
   unfold instPR at h
   split at h
   ·
    rename_i hc
    obtain ⟨qs, h1, h2⟩ := List.mem_map.1 h
    exact ⟨p.2, p.1, z.2, z.1, qs, List.mem_zipIdx_iff_getElem?.1 hp, List.mem_zipIdx_iff_getElem?.1 hz, hc, h1, h2.symm⟩
   ·
    cases h
  ·
   rintro ⟨i, t, k, r, qs, h1, h2, h3, h4, h5⟩
   refine ⟨(t, i), List.mem_zipIdx_iff_getElem?.2 h1, ?_⟩
   unfold tripPR
   rw [show M.R.zipIdx.take M.R.length = M.R.zipIdx from List.take_of_length_le (by simp), List.mem_flatMap]
   refine ⟨(r, k), List.mem_zipIdx_iff_getElem?.2 h2, ?_⟩
   unfold instPR
   rw [if_pos h3]
   exact List.mem_map.2 ⟨qs, h4, h5.symm⟩
theorem allPR_rules (hn : M.n = M.d.2.2.length) {r' : RuleD} : r' ∈ (allPR M W L).map (fun x => x.1) ↔ r' ∈ prodR M.d M.R (inW W) L M.st := by
 rw [List.mem_map, prodR_mem]
 constructor
 ·
  rintro ⟨x, hx, rfl⟩
  rcases allPR_mem.1 hx with ⟨p, h1, h2, h3, rfl⟩ | ⟨i, t, k, r, qs, h1, h2, h3, h4, rfl⟩
  ·
   exact .inl (startR_mem.2 ⟨p, by omega, h2, h3, rfl⟩)
  ·
   exact .inr ⟨i, t, r, h1, List.mem_of_getElem? h2, instR_mem.2 ⟨h3, qs, h4, rfl⟩⟩
 ·
  rintro (h | ⟨i, t, r, h1, h2, h3⟩)
  ·
   obtain ⟨p, h1, h2, h3, h4⟩ := startR_mem.1 h
   exact ⟨_, allPR_mem.2 (.inl ⟨p, by omega, h2, h3, rfl⟩), h4.symm⟩
  ·
   obtain ⟨h4, qs, h5, h6⟩ := instR_mem.1 h3
   obtain ⟨k, hk⟩ := List.getElem?_of_mem h2
   exact ⟨_, allPR_mem.2 (.inr ⟨i, t, k, r, qs, h1, hk, h4, h5, rfl⟩), h6.symm⟩
theorem allPR_fit : Fit (L.length + 1) ((allPR M W L).map fun x => x.1) := by
 intro r' hr
 obtain ⟨x, hx, rfl⟩ := List.mem_map.1 hr
 rcases allPR_mem.1 hx with ⟨p, h1, h2, h3, rfl⟩ | ⟨i, t, k, r, qs, h1, h2, h3, h4, rfl⟩
 ·
  refine ⟨⟨by show (0 : Int) ≤ 0; omega, by dsimp only; omega⟩, fun s hs _ => ?_⟩
  rw [List.mem_singleton.1 hs]
  have := numT_le (L := L) (M.d.1.toNat, M.st, p)
  dsimp only
  omega
 ·
  have hi := (List.getElem?_eq_some_iff.1 h1).1
  exact ⟨⟨by unfold mkPR; dsimp only; omega, by unfold mkPR; dsimp only; omega⟩, fun s hs hn => instS_fit hs hn⟩
end
theorem prod_all {M : Mkr} {W L : List TriD} (hM : M.Ok) (hw : ∀ t ∈ W, Wd M.d M.R t) (hc : ClosedT M.d M.R (inW W)) (hp : L.Pairwise TLt) (hL : ∀ t, t ∈ L ↔ NdP M.d M.R (inW W) M.st t) (hT : ∀ t ∈ L, M.Tri t) {i : Nat} (h1 : 1 ≤ i) (h2 : i < L.length + 1) :
    atB (rounds (endRound ((allPR M W L).map fun x => x.1)) (L.length + 1 + 1) (List.replicate (L.length + 1) false)) (i : Int) = true ∧
    atB (rounds (rchRound ((allPR M W L).map fun x => x.1)) (L.length + 1 + 1) ((List.replicate (L.length + 1) false).set 0 true)) (i : Int) = true := by
 have hd : L.Nodup := hp.imp fun {a b} h e => by subst e; unfold TLt at h; omega
 have hn : L[i - 1]? = some (L[i - 1]'(by omega)) := List.getElem?_eq_getElem _
 obtain ⟨t, ht⟩ : ∃ t, t = L[i - 1]'(by omega) := ⟨_, rfl⟩
 rw [← ht] at hn
 have hnum : (numT L t : Int) = (i : Int) := by rw [numT_at hd hn]; omega
 rw [← hnum]
 have htL := List.mem_of_getElem? hn
 have hsyn : ∀ r ∈ M.R, ∀ s ∈ r.2, 0 ≤ s.2 := fun r hr s hs => by
  obtain ⟨_, _, h3⟩ := hM.rule hr
  have h4 := h3 s hs
  cases e : s.1 with
  | true => exact (h4.1 e).1
  | false => exact (h4.2 e).1
 have hterm : ∀ r ∈ M.R, TermsL M.d r.2 := fun r hr s hs e => by
  obtain ⟨_, _, h3⟩ := hM.rule hr
  have h4 := (h3 s hs).1 e
  exact h4
 have hq : ∀ t ∈ L, t.1 < M.d.2.2.length := fun t ht => by have := (hT t ht).1; rw [← hM.n]; exact this
 have hneed : ∀ t ∈ L, ∀ x, NeedP M.d M.R (inW W) t x → x ∈ L := fun t ht x hx => (hL x).2 (.next ((hL t).1 ht) hx)
 constructor
 ·
  have h3 : t ∈ W := of_decide_eq_true ((hL t).1 htL).told
  obtain ⟨w, ⟨x, hx, hxw⟩, hf⟩ := hw t h3
  obtain ⟨y, hy, _⟩ := prod_complete (st := M.st) hM.val hc hterm hd hsyn hq hneed (sizeT x) x t (Nat.le_refl _) htL hx (by rw [hxw]; exact hf)
  refine closed_tv (G := fun a => atB (rounds (endRound ((allPR M W L).map fun x => x.1)) (L.length + 1 + 1) (List.replicate (L.length + 1) false)) a = true) (fun r hr hall => ?_) (sizeT y) y _ (Nat.le_refl _) hy
  exact end_closed allPR_fit (by simp) ((allPR_rules hM.n).2 hr) hall
 ·
  have key : ∀ t, NdP M.d M.R (inW W) M.st t → atB (rounds (rchRound ((allPR M W L).map fun x => x.1)) (L.length + 1 + 1) ((List.replicate (L.length + 1) false).set 0 true)) (numT L t : Int) = true := by
   intro t h
   induction h with
   | @start p hp ha hW =>
    have hin : (M.d.1.toNat, M.st, p) ∈ L := (hL _).2 (.start hp ha hW)
    have h0 : 0 < numT L (M.d.1.toNat, M.st, p) := by rw [numT_in hin]; omega
    refine rch_closed allPR_fit (by simp) ((allPR_rules hM.n).2 (prodR_mem.2 (.inl (startR_mem.2 ⟨p, hp, ha, h0, rfl⟩)))) (rch_start _ ?_) (s := (false, (numT L (M.d.1.toNat, M.st, p) : Int))) List.mem_cons_self rfl
    refine atB_true.2 ?_
    rw [show ((0 : Int).toNat) = 0 from rfl, List.getElem?_set_self (by simp)]
   | @next t x ht hx ih =>
    obtain ⟨r, hr, h0, qs, h1, h2⟩ := need_inst (L := L) hx
    obtain ⟨j, hj⟩ := List.getElem?_of_mem ((hL t).2 ht)
    refine rch_closed allPR_fit (by simp) ((allPR_rules hM.n).2 (prodR_mem.2 (.inr ⟨j, t, r, hj, hr, instR_mem.2 ⟨h0, qs, h1, rfl⟩⟩))) ?_ h2 rfl
    rw [numT_at hd hj] at ih
    exact ih
  exact key t ((hL t).1 htL)
end Go.Proofs.Ytbmcoamdfpegnaa
namespace Go.Proofs.Ytbmcoamdfpegnaa
open Go.RowKit Go.Maps
set_option linter.unusedSimpArgs false in
set_option maxHeartbeats 1000000 in
theorem badSym (w : World) (B n : Nat) (_hn : n ≤ 100000) (hb : w.cell? ⟨B, 1, none⟩ = some (.int .i64 (n : Int))) (s : SymD) (hs : s.1 = false → 0 ≤ s.2 ∧ s.2 < (n : Int)) : Calls Try.prog 9 #[.agg #[.bool s.1, .int .i64 s.2], .pointer (some ⟨B, 0, none⟩)] w fun e w' => e = .returned (.bool false) ∧ Below w.heap.size w w' := by
 obtain ⟨b, x⟩ := s
 have hB := cell_lt hb
 simp only at hB
 obtain ⟨w1, hw1⟩ : ∃ w1 : World, w1 = w.alloc (.cells #[.bool b, .int .i64 x] 42) := ⟨_, rfl⟩
 have hb1 : Below w.heap.size w w1 := by rw [hw1]; exact (Below.refl _ _).alloc (Nat.le_refl _) _
 have hk := (hb1.cell hB).trans hb
 have HB1 := Lib.hid hb1
 rw [hw1] at hk
 have HW1 := Lib.hid hw1
 clear hw1 hb1 hb
 cases b with
 | true =>
  clear hs
  go_enter Try.func9, Try.ntmps9
  go_wp2_with fail
  go_ret
  exact ⟨rfl, by rw [← HW1.out]; exact HB1.out⟩
 | false =>
  obtain ⟨h1, h2⟩ := hs rfl
  simp only at h1 h2
  have h3 : ¬ x < 0 := by omega
  have h4 : ¬ (n : Int) ≤ x := by omega
  clear hs
  go_enter Try.func9, Try.ntmps9
  go_wp2_with fail
  go_ret
  exact ⟨by simp [h3, h4], by rw [← HW1.out]; exact HB1.out⟩
theorem enters_bad : ∀ (args : Array Value) (u : World), (callFunc 9 args).run Try.prog u = .ok (.enter 9 args) u := enters_of Try.func9 (by kernel_rfl) rfl
set_option linter.unusedSimpArgs false in
set_option maxHeartbeats 2000000 in
theorem indexBad (w : World) (B n : Nat) (hn : n ≤ 100000) (hb : w.cell? ⟨B, 1, none⟩ = some (.int .i64 (n : Int))) (A : Option Addr) (m c : Nat) (S : Nat → Prop) (l : List SymD) (hr : Sl RSym w S A m c l) (hm : m ≤ 1000) (hs : ∀ s ∈ l, s.1 = false → 0 ≤ s.2 ∧ s.2 < (n : Int)) :
    Calls Try.prog 27 #[.slice A m c, .func (.func 9) #[] #[.pointer (some ⟨B, 0, none⟩)]] w fun e w' => e = .returned (.int .i64 (-1)) ∧ Below w.heap.size w w' := by
 have HR := Lib.hid hr
 have HBB := Lib.hid hb
 have HS := Lib.hid hs
 have he := enters_bad
 clear hr hb hs
 go_enter Try.func27, Try.ntmps27
 go_wp2_with fail
 go_loopg [8] m (fun gk v8 wr => ∃ k : Nat, k ≤ m ∧ gk = m - k ∧ v8 = .int .i64 k ∧ Below w.heap.size w wr)
 case atStart => exact ⟨0, Nat.zero_le _, rfl, rfl, Below.refl _ _⟩
 case round =>
  obtain ⟨k, hk, hgk, rfl, hbw⟩ := hrel
  obtain ⟨w1, rfl⟩ : ∃ w1 : World, w1 = wr := ⟨_, rfl⟩
  have HGK := Lib.hid hgk
  have HB := Lib.hid hbw
  clear hgk hbw
  by_cases hlt : k < m
  ·
   have hkI : (k : Int) < (m : Int) := by omega
   have hk0 : (0 : Int) ≤ (k : Int) := by omega
   obtain ⟨bl, ol, u1, u2, s, rfl, _, hls, hok, hc1, hc2⟩ := (HR.out.below HB.out).at2 (k := k) rfl hlt
   have h2 := RSym.cells.1 hok
   injection h2 with e1 h2
   injection h2 with e2 _
   subst e1
   subst e2
   have hc2 : w1.cell? ⟨bl, ol + k * 2 + 1, none⟩ = some (.int .i64 s.2) := hc2
   have HSM := Lib.hid (HS.out s (List.mem_of_getElem? hls))
   clear hok hls
   go_wp2_with fail
   refine (badSym w1 B n hn ((HB.out.cell (cell_lt HBB.out)).trans HBB.out) s HSM.out).mono ?_
   rintro e w2 ⟨rfl, hb2⟩
   have HB2 := Lib.hid (HB.out.trans (hb2.mono HB.out.size))
   clear hb2 hc1 hc2
   go_wp2_with fail
   go_roundg (m - (k + 1))
   case measure => rw [HGK.out]; omega
   case rel => exact ⟨k + 1, by omega, rfl, by go_num, HB2.out⟩
  ·
   obtain rfl : m = k := by omega
   go_wp2_with fail
   go_ret
   exact ⟨rfl, HB.out⟩
set_option linter.unusedSimpArgs false in
set_option maxHeartbeats 1000000 in
theorem containsBad (w : World) (B n : Nat) (hn : n ≤ 100000) (hb : w.cell? ⟨B, 1, none⟩ = some (.int .i64 (n : Int))) (A : Option Addr) (m c : Nat) (S : Nat → Prop) (l : List SymD) (hr : Sl RSym w S A m c l) (hm : m ≤ 1000) (hs : ∀ s ∈ l, s.1 = false → 0 ≤ s.2 ∧ s.2 < (n : Int)) :
    Calls Try.prog 10 #[.slice A m c, .func (.func 9) #[] #[.pointer (some ⟨B, 0, none⟩)]] w fun e w' => e = .returned (.bool false) ∧ Below w.heap.size w w' := by
 have HR := Lib.hid hr
 have HBB := Lib.hid hb
 have HS := Lib.hid hs
 clear hr hb hs
 go_enter Try.func10, Try.ntmps10
 go_wp2_with (go_at_call 27; refine (indexBad w B n hn HBB.out A m c S l HR.out hm HS.out).mono ?_; rintro e w1 ⟨rfl, hb1⟩; have HB1 := Lib.hid hb1; clear hb1)
 go_ret
 exact ⟨rfl, HB1.out⟩
end Go.Proofs.Ytbmcoamdfpegnaa
