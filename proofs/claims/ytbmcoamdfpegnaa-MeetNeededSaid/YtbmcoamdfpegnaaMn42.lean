/- MkProdN -/
import Derived.Test.YtbmcoamdfpegnaaMn41
namespace Go.Proofs.Ytbmcoamdfpegnaa
open Go.RowKit Go.Maps
theorem numM_put {L : List TriD} {i : Nat} {t : TriD} (hd : L.Nodup) (ht : L[i]? = some t) : putL (numM (L.take i)) (triZ t) (.int .i64 ((i + 1 : Nat) : Int)) = numM (L.take (i + 1)) := by
 obtain ⟨hi, ht'⟩ := List.getElem?_eq_some_iff.1 ht
 have hn : t ∉ L.take i := fun hm => by
  obtain ⟨j, hj⟩ := List.getElem?_of_mem hm
  rw [List.getElem?_take] at hj
  split at hj
  ·
   have h1 := (List.getElem?_inj (List.getElem?_eq_some_iff.1 hj).1 hd).1 (hj.trans ht.symm)
   omega
  ·
   cases hj
 rw [putL_new fun hv => by
  unfold numM at hv
  rw [List.map_map, List.mem_map] at hv
  obtain ⟨p, hp, e⟩ := hv
  have h1 := triZ_inj (show triZ p.1 = triZ t from e)
  rw [List.mem_zipIdx_iff_getElem?] at hp
  exact hn (h1 ▸ List.mem_of_getElem? hp)]
 unfold numM
 rw [List.take_add_one, ht, List.zipIdx_append, List.map_append]
 simp [List.length_take, Nat.min_eq_left (Nat.le_of_lt hi)]
theorem GL.one {α : Type} {R : Rep α} {E : TypeId} (w : World) {x : α} {ys : List Value} (hx : R.ok w (fun _ => False) ys x) : GL R E (w.alloc (.cells ys.toArray E)) (fun b => b = w.heap.size) (.slice (some ⟨w.heap.size, 0, none⟩) 1 1) [x] := by
 have hl := R.len hx
 have h1 : Own (w.alloc (.cells ys.toArray E)) 0 E R.size (.slice (some ⟨w.heap.size, 0, none⟩) 1 1) 1 ys := by
  refine .inl ⟨by rw [hl, Nat.one_mul], .inr ⟨w.heap.size, 1, _, rfl, Nat.zero_le _, heap_alloc_new _ _, Nat.le_refl _, by decide, ?_, ?_⟩⟩
  ·
   simp [hl]
  ·
   rw [Nat.one_mul, List.take_of_length_le (by simp [hl])]
 exact ⟨⟨ys, h1, (Cells.single (R.more hx fun b h => h.elim)).keep (.alloc _ _ _)⟩, fun g e => by injection e with e; exact e.symm⟩
theorem gramNP (a : Int) (w : World) : Calls Try.prog 39 #[.int .i64 a] w fun e w' => e = .returned (.agg #[.bool false, .int .i64 a]) ∧ Below w.heap.size w w' := by
 go_enter Try.func39, Try.ntmps39
 go_wp2_with fail
 exact Go.bodyPost_ret (v := .agg #[.bool false, .int .i64 a]) (by simp [results, Try.results39, go_sem]) rfl ⟨rfl, (Below.refl _ _).alloc (Nat.le_refl _) _⟩
theorem results_cell_tmp2 {fn : Func} {p u v : Tmp} {ty : TypeId} (h : fn.results = #[.cell p ty, .tmp u, .tmp v]) (tmps : Array Value) (P : Program) (w : World) :
    (results fn tmps).run P w =
     ((asAddr (tmps.getD p undef)).run P w).andThen fun a w₁ => ((loadVar ty a).run P w₁).andThen fun x w₂ => .ok (.tuple #[x, tmps.getD u undef, tmps.getD v undef]) w₂ := by
 simp only [results, h]
 simp [Sem.run_bind, Result.andThen]
theorem six_set {w : World} {K : Nat} {t : TypeId} {a0 a1 a2 a3 a4 a5 : Value} (h : w.heap[K]? = some (.cells #[a0, a1, a2, a3, a4, a5] t (0, 0))) (u0 u1 u2 u3 u4 u5 : Value) :
    ((((((w.setCell ⟨K, 0, none⟩ u0).setCell ⟨K, 1, none⟩ u1).setCell ⟨K, 2, none⟩ u2).setCell ⟨K, 3, none⟩ u3).setCell ⟨K, 4, none⟩ u4).setCell ⟨K, 5, none⟩ u5).heap[K]? = some (.cells #[u0, u1, u2, u3, u4, u5] t (0, 0)) ∧
    Only w ((((((w.setCell ⟨K, 0, none⟩ u0).setCell ⟨K, 1, none⟩ u1).setCell ⟨K, 2, none⟩ u2).setCell ⟨K, 3, none⟩ u3).setCell ⟨K, 4, none⟩ u4).setCell ⟨K, 5, none⟩ u5) (fun b => b = K) := by
 have h0 := blk_set h 0 u0
 have h1 := blk_set h0 1 u1
 have h2 := blk_set h1 2 u2
 have h3 := blk_set h2 3 u3
 have h4 := blk_set h3 4 u4
 have h5 := blk_set h4 5 u5
 refine ⟨by simpa using h5, ?_⟩
 have hX : ∀ (v : World) (o : Nat) (u : Value), Only v (v.setCell ⟨K, o, none⟩ u) (fun b => b = K) := fun v o u => Only.set _ _ _ _ rfl
 exact (hX _ _ _).trans ((hX _ _ _).trans ((hX _ _ _).trans ((hX _ _ _).trans ((hX _ _ _).trans (hX _ _ _)))))
end Go.Proofs.Ytbmcoamdfpegnaa
