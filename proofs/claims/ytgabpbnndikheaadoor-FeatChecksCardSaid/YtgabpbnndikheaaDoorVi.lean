import Derived.Test.YtgabpbnndikheaaDoorVh
set_option linter.constructorNameAsVariable false
namespace Go.Proofs.YtgabpbnndikheaaDoor
open Go.RowKit Go.Proofs.YtgabpbnndikheaaDoorW.PrintWords

theorem Boxed.cs {w : World} {g : Nat} {x : Val} (h : Boxed w g x) : w.cell? ⟨g, 0, none⟩ = some (.int .i64 x.kind) ∧ w.cell? ⟨g, 1, none⟩ = some (.int .i64 x.n) ∧ w.cell? ⟨g, 2, none⟩ = some (.string x.s) ∧ w.cell? ⟨g, 3, none⟩ = some (.bool x.b) := ⟨h.c0, h.c1, h.c2, h.c3⟩

set_option maxHeartbeats 4000000 in
set_option maxRecDepth 100000 in
theorem valueOrder_any (x y z : Val) (w : World) (hE : Env w) :
    Calls Tryd.prog 3 #[x.v, y.v, z.v] w fun e w' => e = .returned (.bool true) ∧ Below w.heap.size w w' := by
  obtain ⟨xk, xn, xs, xb⟩ := x
  obtain ⟨yk, yn, ys, yb⟩ := y
  obtain ⟨zk, zn, zs, zb⟩ := z
  have HE := Aside0.mk hE
  clear hE
  simp only [Val.v]
  go_enter Tryd.func3, Tryd.ntmps3
  go_wp2_with (first
    | (go_at_call 8; refine (values_any _ (HE.out.below (below_alloc' (below_alloc' (below_alloc' (Below.refl _ _) _) _) _))).mono ?_; rintro e w1 ⟨rfl, hB1⟩))
  have hX : Aside0 (Boxed w1 w.heap.size ⟨xk, xn, xs, xb⟩) := ⟨Boxed.keep (Boxed.keep (Boxed.keep (heap_alloc_new w _) (below_alloc' (Below.refl _ _) _)) (below_alloc' (Below.refl _ _) _)) hB1⟩
  have hY : Aside0 (Boxed w1 (w.heap.size + 1) ⟨yk, yn, ys, yb⟩) := ⟨Boxed.keep (Boxed.keep (by have h := heap_alloc_new (w.alloc (.cells #[.int .i64 xk, .int .i64 xn, .string xs, .bool xb] 23)) (.cells #[.int .i64 yk, .int .i64 yn, .string ys, .bool yb] 23); rw [World.size_alloc] at h; exact h) (below_alloc' (Below.refl _ _) _)) hB1⟩
  have hZ : Aside0 (Boxed w1 (w.heap.size + 1 + 1) ⟨zk, zn, zs, zb⟩) := ⟨Boxed.keep (by have h := heap_alloc_new ((w.alloc (.cells #[.int .i64 xk, .int .i64 xn, .string xs, .bool xb] 23)).alloc (.cells #[.int .i64 yk, .int .i64 yn, .string ys, .bool yb] 23)) (.cells #[.int .i64 zk, .int .i64 zn, .string zs, .bool zb] 23); rw [World.size_alloc, World.size_alloc] at h; exact h) hB1⟩
  have HB0 : Aside0 (Below w.heap.size w w1) := ⟨(below_alloc' (below_alloc' (below_alloc' (Below.refl _ _) _) _) _).trans (hB1.mono (by simp; omega))⟩
  clear hB1
  generalize hg : w.heap.size = g at *
  have HG := Aside0.mk hg
  clear hg
  have L1 := Aside0.mk (cmpVal_ord.anti ⟨xk, xn, xs, xb⟩ ⟨yk, yn, ys, yb⟩)
  have L2 := Aside0.mk (cmpVal_zero ⟨xk, xn, xs, xb⟩ ⟨yk, yn, ys, yb⟩)
  have L3 := Aside0.mk (cmpVal_ord.trans ⟨xk, xn, xs, xb⟩ ⟨yk, yn, ys, yb⟩ ⟨zk, zn, zs, zb⟩)
  have L4 := Aside0.mk (cmpVal_range ⟨yk, yn, ys, yb⟩ ⟨xk, xn, xs, xb⟩)
  have p1 := fun W => cmp_any ⟨xk, xn, xs, xb⟩ ⟨yk, yn, ys, yb⟩ W
  simp only [Val.v] at p1
  have P1 := Aside0.mk p1
  clear p1
  have p2 := fun W => cmp_any ⟨yk, yn, ys, yb⟩ ⟨zk, zn, zs, zb⟩ W
  simp only [Val.v] at p2
  have P2 := Aside0.mk p2
  clear p2
  have p3 := fun W => cmp_any ⟨xk, xn, xs, xb⟩ ⟨zk, zn, zs, zb⟩ W
  simp only [Val.v] at p3
  have P3 := Aside0.mk p3
  clear p3
  have p4 := fun W => cmp_any ⟨yk, yn, ys, yb⟩ ⟨xk, xn, xs, xb⟩ W
  simp only [Val.v] at p4
  have P4 := Aside0.mk p4
  clear p4
  have hveq := fun W => val_eql ⟨xk, xn, xs, xb⟩ ⟨yk, yn, ys, yb⟩ W
  simp only at hveq
  generalize cmpVal ⟨xk, xn, xs, xb⟩ ⟨yk, yn, ys, yb⟩ = c1 at *
  generalize cmpVal ⟨yk, yn, ys, yb⟩ ⟨xk, xn, xs, xb⟩ = c4 at *
  generalize cmpVal ⟨yk, yn, ys, yb⟩ ⟨zk, zn, zs, zb⟩ = c2 at *
  generalize cmpVal ⟨xk, xn, xs, xb⟩ ⟨zk, zn, zs, zb⟩ = c3 at *
  generalize sameB ⟨xk, xn, xs, xb⟩ ⟨yk, yn, ys, yb⟩ = q at *
  refine wp_region_loc (by kernel_rfl) (by kernel_rfl) (by kernel_rfl) (fun xs => by simp only [fill, Act.put, List.setIfInBounds_toArray, List.set_cons_zero, List.set_cons_succ, Nat.reduceAdd]; rfl) ?_
  repeat (apply wpLoc_det; · (intro vs W hb he; obtain ⟨k1, k2, k3, k4⟩ := (hX.out.keep hb).cs; obtain ⟨k5, k6, k7, k8⟩ := (hY.out.keep hb).cs; obtain ⟨k9, k10, k11, k12⟩ := (hZ.out.keep hb).cs; simp only at k1 k2 k3 k4 k5 k6 k7 k8 k9 k10 k11 k12; simp [edgeSat, Region.binds, Fact.at_] at he; unfold locRun; go_simp; first | exact loc_val | (with_reducible exact loc_call (P1.out W)) | (with_reducible exact loc_call (P2.out W)) | (with_reducible exact loc_call (P3.out W))))
  refine wpLoc_nil fun vs W hb he => ?_
  simp only [List.nil_append, List.cons_append, factsAll, Fact.at_, Nat.reduceAdd] at he
  obtain ⟨-, -, -, -, -, -, -, -, -, e7, e8, e9, -⟩ := he
  have HB0 := Aside0.mk (HG.out ▸ HB0.out.trans (hb.mono (HG.out ▸ HB0.out.size)) : Below w.heap.size w W)
  have hXW := Aside0.mk (hX.out.keep hb)
  have hYW := Aside0.mk (hY.out.keep hb)
  obtain ⟨k1, k2, k3, k4⟩ := hXW.out.cs
  obtain ⟨k5, k6, k7, k8⟩ := hYW.out.cs
  simp only at k1 k2 k3 k4 k5 k6 k7 k8
  clear hb
  have h41 : -1 ≤ c4 := L4.out.1
  have h42 : c4 ≤ 1 := L4.out.2
  have e1 : (c1 == -c4) = true := by rw [L1.out]; simp
  have hq := L2.out
  subst hq
  have hcase : (decide (0 < c1) = true) ∨ (decide (0 < c1) = false ∧ decide (0 < c2) = true) ∨ (decide (0 < c1) = false ∧ decide (0 < c2) = false ∧ decide (c3 ≤ 0) = true) := by
    have := L3.out
    simp only [decide_eq_true_eq, decide_eq_false_iff_not]
    omega
  rcases hcase with q1 | ⟨q1, q2⟩ | ⟨q1, q2, q3⟩
  all_goals
    go_wp2_with (first | (go_at_call 9; (with_reducible refine (P4.out W).mono ?_); rintro e w2 ⟨rfl, hB2⟩; obtain ⟨m1, m2, m3, m4⟩ := (hXW.out.keep hB2).cs; obtain ⟨m5, m6, m7, m8⟩ := (hYW.out.keep hB2).cs; simp only at m1 m2 m3 m4 m5 m6 m7 m8))
    go_ret
    exact ⟨by simp, HB0.out.trans (hB2.mono HB0.out.size)⟩
end Go.Proofs.YtgabpbnndikheaaDoor
