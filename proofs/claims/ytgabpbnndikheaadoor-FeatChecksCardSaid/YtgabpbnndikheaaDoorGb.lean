import Derived.Test.YtgabpbnndikheaaDoorRt
import Derived.Test.YtgabpbnndikheaaDoorGa
set_option linter.constructorNameAsVariable false
/-! Vectors. -/
namespace Go.Proofs.YtgabpbnndikheaaDoor
open Go.RowKit Go.Proofs.YtgabpbnndikheaaDoorW.PrintWords

def way (a b : Pt) : Pt := ⟨lim b.x - lim a.x, lim b.y - lim a.y⟩
theorem wrap64_id {n : Int} (h0 : -9223372036854775808 ≤ n) (h1 : n ≤ 9223372036854775807) : wrap64 n = n := by unfold wrap64; omega
theorem boxP3 {P : Program} {c : Code} {Q : Exit → Act → World → Prop} {a : Act} {w : World} {m n m' n' m2 n2 : Int}
    (h : ∀ w0, Aside0 (Below w.heap.size w w0) → Aside0 (BoxP w0 w.heap.size ⟨m, n⟩) → Aside0 (BoxP w0 (w.heap.size + 1) ⟨m', n'⟩) → Aside0 (BoxP w0 (w.heap.size + 1 + 1) ⟨m2, n2⟩) → c.wp P Q a w0) :
    c.wp P Q a (((w.alloc (.cells #[.int .i64 m, .int .i64 n] 73)).alloc (.cells #[.int .i64 m', .int .i64 n'] 73)).alloc (.cells #[.int .i64 m2, .int .i64 n2] 73)) := by
  have h1 := boxP_alloc w ⟨m, n⟩
  have h2 := boxP_alloc (w.alloc (.cells #[.int .i64 m, .int .i64 n] 73)) ⟨m', n'⟩
  have h3 := boxP_alloc ((w.alloc (.cells #[.int .i64 m, .int .i64 n] 73)).alloc (.cells #[.int .i64 m', .int .i64 n'] 73)) ⟨m2, n2⟩
  simp only [World.size_alloc] at h2 h3
  have b1 := below_alloc' (Below.refl _ (w.alloc (.cells #[.int .i64 m, .int .i64 n] 73))) (.cells #[.int .i64 m', .int .i64 n'] 73)
  have b2 := below_alloc' (Below.refl _ ((w.alloc (.cells #[.int .i64 m, .int .i64 n] 73)).alloc (.cells #[.int .i64 m', .int .i64 n'] 73))) (.cells #[.int .i64 m2, .int .i64 n2] 73)
  exact h _ ⟨below_alloc' (below_alloc' (below_alloc' (Below.refl _ _) _) _) _⟩ ⟨(h1.keep b1).keep b2⟩ ⟨h2.keep b2⟩ ⟨h3⟩
set_option maxRecDepth 100000 in
theorem way_any (p q : Pt) (w : World) :
    Calls Tryd.prog 153 #[p.v, q.v] w fun e w' => e = .returned (way p q).v ∧ Below w.heap.size w w' := by
  obtain ⟨x, y⟩ := p
  obtain ⟨x', y'⟩ := q
  have c1 := fun W => clamp_any ⟨x, y⟩ W
  have c2 := fun W => clamp_any ⟨x', y'⟩ W
  unfold Pt.v Pt.clamp at *
  simp only at c1 c2
  have C1 := Aside0.mk c1
  have C2 := Aside0.mk c2
  clear c1 c2
  go_enter Tryd.func153, Tryd.ntmps153
  go_wp2_with fail
  refine boxP3 fun w0 HB0 HX HY HZ => ?_
  refine wp_region_tail [_, _, _, _] [_] rfl (by kernel_rfl) (by kernel_rfl) (by kernel_rfl) (by kernel_rfl) (by kernel_rfl) (fun xs => by simp only [fill, Act.put, List.setIfInBounds_toArray, List.set_cons_zero, List.set_cons_succ, Nat.reduceAdd]; rfl) ?_
  repeat (apply wpLoc_det; · (intro vs W hb he; obtain ⟨k1, k2⟩ := (HX.out.keep hb).cs; obtain ⟨k3, k4⟩ := (HY.out.keep hb).cs; simp only at k1 k2 k3 k4; simp [edgeSat, Region.binds, Fact.at_] at he; unfold locRun; go_simp; first | exact loc_val | (with_reducible exact loc_call (C1.out W)) | (with_reducible exact loc_call (C2.out W))))
  refine wpLoc_nil fun vs W hb he => ?_
  simp only [List.nil_append, List.cons_append, factsAll, Fact.at_, Nat.reduceAdd] at he
  obtain ⟨-, e1, -, e3, -⟩ := he
  have HX2 := HX.out.keep hb
  obtain ⟨k1, k2⟩ := HX2.cs
  have k5 := HX2.fr
  have HY2 := HY.out.keep hb
  obtain ⟨k3, k4⟩ := HY2.cs
  have k6 := HY2.fr
  simp only at k1 k2 k3 k4
  rw [e1, e3]
  unfold wpSeq
  rw [if_pos (by rfl)]
  go_wp2
  obtain ⟨W1, e1⟩ : ∃ W1, W1 = set2 W w.heap.size (lim x) (lim y) := ⟨_, rfl⟩
  have HX3 := Aside0.mk (e1 ▸ HX2.set (lim x) (lim y) : BoxP W1 w.heap.size ⟨lim x, lim y⟩)
  have HY3 := Aside0.mk (e1 ▸ HY2.far (by omega) (lim x) (lim y) : BoxP W1 (w.heap.size + 1) ⟨x', y'⟩)
  have HZ3 := Aside0.mk (e1 ▸ (HZ.out.keep hb).far (by omega) (lim x) (lim y) : BoxP W1 (w.heap.size + 1 + 1) ⟨0, 0⟩)
  have HB1 := Aside0.mk (e1 ▸ below_set2 (HB0.out.trans (hb.mono HB0.out.size)) (Nat.le_refl _) (lim x) (lim y) : Below w.heap.size w W1)
  unfold set2 at e1
  rw [← e1]
  clear k1 k2 k3 k4 k5 k6 HX2 HY2 HX HY HZ HB0 hb e1
  obtain ⟨k3, k4⟩ := HY3.out.cs
  have k6 := HY3.out.fr
  simp only at k3 k4
  unfold wpSeq
  rw [if_pos (by rfl)]
  go_wp2
  obtain ⟨W2, e2⟩ : ∃ W2, W2 = set2 W1 (w.heap.size + 1) (lim x') (lim y') := ⟨_, rfl⟩
  have HX4 := Aside0.mk (e2 ▸ HX3.out.far (by omega) (lim x') (lim y') : BoxP W2 w.heap.size ⟨lim x, lim y⟩)
  have HY4 := Aside0.mk (e2 ▸ HY3.out.set (lim x') (lim y') : BoxP W2 (w.heap.size + 1) ⟨lim x', lim y'⟩)
  have HZ4 := Aside0.mk (e2 ▸ HZ3.out.far (by omega) (lim x') (lim y') : BoxP W2 (w.heap.size + 1 + 1) ⟨0, 0⟩)
  have HB2 := Aside0.mk (e2 ▸ below_set2 HB1.out (by omega) (lim x') (lim y') : Below w.heap.size w W2)
  unfold set2 at e2
  rw [← e2]
  clear k3 k4 k6 HX3 HY3 HZ3 HB1 e2
  obtain ⟨k1, k2⟩ := HX4.out.cs
  obtain ⟨k3, k4⟩ := HY4.out.cs
  obtain ⟨k5, k6⟩ := HZ4.out.cs
  have k7 := HZ4.out.fr
  simp only at k1 k2 k3 k4 k5 k6
  have b1 := lim_le x
  have b2 := lim_le y
  have b3 := lim_le x'
  have b4 := lim_le y'
  have v1 : wrap64 (lim x' - lim x) = lim x' - lim x := wrap64_id (by omega) (by omega)
  have v2 : wrap64 (lim y' - lim y) = lim y' - lim y := wrap64_id (by omega) (by omega)
  clear b1 b2 b3 b4
  unfold wpSeq
  go_wp2
  have hS := HZ4.out.set (lim x' - lim x) (lim y' - lim y)
  have hB := below_set2 HB2.out (g := w.heap.size + 1 + 1) (by omega) (lim x' - lim x) (lim y' - lim y)
  unfold set2 at hS hB
  obtain ⟨r1, r2⟩ := hS.cs
  simp only at r1 r2
  refine bodyPost_ret (v := Pt.v ⟨lim x' - lim x, lim y' - lim y⟩) (by simp [results, Tryd.results153, go_sem, *]; rfl) rfl ⟨rfl, hB⟩
end Go.Proofs.YtgabpbnndikheaaDoor
