import Derived.Test.YtgabpbnndikheaaDoorGg
set_option linter.constructorNameAsVariable false
/-! Segments: how many points two have in common. -/
namespace Go.Proofs.YtgabpbnndikheaaDoor
open Go.RowKit Go.Proofs.YtgabpbnndikheaaDoorW.PrintWords
attribute [local go_sem] greater_two lesser_two greater_of lesser_of

def meetIn (a b c d : Pt) : Int := if turn a b c * turn a b d < 0 ∧ turn c d a * turn c d b < 0 then 1 else if ((sharedPts a b c d).length : Int) < 2 then ((sharedPts a b c d).length : Int) else 2
def meet (a b c d : Pt) : Int := meetIn a.clamp b.clamp c.clamp d.clamp
theorem boxes4 (w : World) (m n m' n' m2 n2 m3 n3 : Int) : Below w.heap.size w ((((w.alloc (.cells #[.int .i64 m, .int .i64 n] 73)).alloc (.cells #[.int .i64 m', .int .i64 n'] 73)).alloc (.cells #[.int .i64 m2, .int .i64 n2] 73)).alloc (.cells #[.int .i64 m3, .int .i64 n3] 73)) ∧ BoxP ((((w.alloc (.cells #[.int .i64 m, .int .i64 n] 73)).alloc (.cells #[.int .i64 m', .int .i64 n'] 73)).alloc (.cells #[.int .i64 m2, .int .i64 n2] 73)).alloc (.cells #[.int .i64 m3, .int .i64 n3] 73)) w.heap.size ⟨m, n⟩ ∧ BoxP ((((w.alloc (.cells #[.int .i64 m, .int .i64 n] 73)).alloc (.cells #[.int .i64 m', .int .i64 n'] 73)).alloc (.cells #[.int .i64 m2, .int .i64 n2] 73)).alloc (.cells #[.int .i64 m3, .int .i64 n3] 73)) (w.heap.size + 1) ⟨m', n'⟩ ∧ BoxP ((((w.alloc (.cells #[.int .i64 m, .int .i64 n] 73)).alloc (.cells #[.int .i64 m', .int .i64 n'] 73)).alloc (.cells #[.int .i64 m2, .int .i64 n2] 73)).alloc (.cells #[.int .i64 m3, .int .i64 n3] 73)) (w.heap.size + 1 + 1) ⟨m2, n2⟩ ∧ BoxP ((((w.alloc (.cells #[.int .i64 m, .int .i64 n] 73)).alloc (.cells #[.int .i64 m', .int .i64 n'] 73)).alloc (.cells #[.int .i64 m2, .int .i64 n2] 73)).alloc (.cells #[.int .i64 m3, .int .i64 n3] 73)) (w.heap.size + 1 + 1 + 1) ⟨m3, n3⟩ := by
  obtain ⟨W1, e1⟩ : ∃ W1, W1 = w.alloc (.cells #[.int .i64 m, .int .i64 n] 73) := ⟨_, rfl⟩
  obtain ⟨W2, e2⟩ : ∃ W2, W2 = W1.alloc (.cells #[.int .i64 m', .int .i64 n'] 73) := ⟨_, rfl⟩
  obtain ⟨W3, e3⟩ : ∃ W3, W3 = W2.alloc (.cells #[.int .i64 m2, .int .i64 n2] 73) := ⟨_, rfl⟩
  rw [← e1, ← e2, ← e3]
  have h1 : BoxP W1 w.heap.size ⟨m, n⟩ := by rw [e1]; exact boxP_alloc w ⟨m, n⟩
  have h2 : BoxP W2 W1.heap.size ⟨m', n'⟩ := by rw [e2]; exact boxP_alloc W1 ⟨m', n'⟩
  have h3 : BoxP W3 W2.heap.size ⟨m2, n2⟩ := by rw [e3]; exact boxP_alloc W2 ⟨m2, n2⟩
  have h4 := boxP_alloc W3 ⟨m3, n3⟩
  have b1 : Below w.heap.size w W1 := by rw [e1]; exact below_alloc' (Below.refl _ _) _
  have b2 : Below W1.heap.size W1 W2 := by rw [e2]; exact below_alloc' (Below.refl _ _) _
  have b3 : Below W2.heap.size W2 W3 := by rw [e3]; exact below_alloc' (Below.refl _ _) _
  have b4 : Below W3.heap.size W3 (W3.alloc (.cells #[.int .i64 m3, .int .i64 n3] 73)) := below_alloc' (Below.refl _ _) _
  have s1 : W1.heap.size = w.heap.size + 1 := by rw [e1, World.size_alloc]
  have s2 : W2.heap.size = W1.heap.size + 1 := by rw [e2, World.size_alloc]
  have s3 : W3.heap.size = W2.heap.size + 1 := by rw [e3, World.size_alloc]
  rw [s1] at h2
  rw [s2, s1] at h3
  rw [s3, s2, s1] at h4
  exact ⟨below_call (below_call (below_call b1 b2) b3) b4, ((h1.keep b2).keep b3).keep b4, (h2.keep b3).keep b4, h3.keep b4, h4⟩
theorem boxP4 {P : Program} {c : Code} {Q : Exit → Act → World → Prop} {a : Act} {w : World} {m n m' n' m2 n2 m3 n3 : Int}
    (h : ∀ w0, Aside0 (Below w.heap.size w w0) → Aside0 (BoxP w0 w.heap.size ⟨m, n⟩) → Aside0 (BoxP w0 (w.heap.size + 1) ⟨m', n'⟩) → Aside0 (BoxP w0 (w.heap.size + 1 + 1) ⟨m2, n2⟩) → Aside0 (BoxP w0 (w.heap.size + 1 + 1 + 1) ⟨m3, n3⟩) → c.wp P Q a w0) : c.wp P Q a ((((w.alloc (.cells #[.int .i64 m, .int .i64 n] 73)).alloc (.cells #[.int .i64 m', .int .i64 n'] 73)).alloc (.cells #[.int .i64 m2, .int .i64 n2] 73)).alloc (.cells #[.int .i64 m3, .int .i64 n3] 73)) := by
  obtain ⟨h0, h1, h2, h3, h4⟩ := boxes4 w m n m' n' m2 n2 m3 n3
  exact h _ ⟨h0⟩ ⟨h1⟩ ⟨h2⟩ ⟨h3⟩ ⟨h4⟩
theorem boxP4c {P : Program} {g : FuncId} {args : Array Value} {K : Ending → World → Prop} {w : World} {m n m' n' m2 n2 m3 n3 : Int}
    (h : ∀ w0, Aside0 (Below w.heap.size w w0) → Aside0 (BoxP w0 w.heap.size ⟨m, n⟩) → Aside0 (BoxP w0 (w.heap.size + 1) ⟨m', n'⟩) → Aside0 (BoxP w0 (w.heap.size + 1 + 1) ⟨m2, n2⟩) → Aside0 (BoxP w0 (w.heap.size + 1 + 1 + 1) ⟨m3, n3⟩) → Calls P g args w0 K) : Calls P g args ((((w.alloc (.cells #[.int .i64 m, .int .i64 n] 73)).alloc (.cells #[.int .i64 m', .int .i64 n'] 73)).alloc (.cells #[.int .i64 m2, .int .i64 n2] 73)).alloc (.cells #[.int .i64 m3, .int .i64 n3] 73)) K := by
  obtain ⟨h0, h1, h2, h3, h4⟩ := boxes4 w m n m' n' m2 n2 m3 n3
  exact h _ ⟨h0⟩ ⟨h1⟩ ⟨h2⟩ ⟨h3⟩ ⟨h4⟩
theorem turn_mul (a b c a' b' c' : Pt) : wrap64 (turn a b c * turn a' b' c') = turn a b c * turn a' b' c' := by
  have h1 := sg_le (cross a b c) 0
  have h2 := sg_le (cross a' b' c') 0
  have h3 := mul_le (m := turn a b c) (n := turn a' b' c') (by unfold turn; omega) (by unfold turn; omega)
  exact wrap64_id (by omega) (by omega)
set_option maxHeartbeats 4000000 in
set_option maxRecDepth 100000 in
theorem meet_any (p q r s : Pt) (w : World) :
    Calls Tryd.prog 128 #[p.v, q.v, r.v, s.v] w fun e w' => e = .returned (.int .i64 (meet p q r s)) ∧ Below w.heap.size w w' := by
  have c1 := fun W => clamp_any p W
  have c2 := fun W => clamp_any q W
  have c3 := fun W => clamp_any r W
  have c4 := fun W => clamp_any s W
  unfold meet
  generalize p.clamp = p' at *
  generalize q.clamp = q' at *
  generalize r.clamp = r' at *
  generalize s.clamp = s' at *
  have t1 := fun W => turn_any p' q' r' W
  have t2 := fun W => turn_any p' q' s' W
  have t3 := fun W => turn_any r' s' p' W
  have t4 := fun W => turn_any r' s' q' W
  have m1 := turn_mul p' q' r' p' q' s'
  have m2 := turn_mul r' s' p' r' s' q'
  have u1 := fun W => shared_any p' q' r' s' W
  obtain ⟨R, hR⟩ : ∃ R, R = meetIn p' q' r' s' := ⟨_, rfl⟩
  rw [← hR]
  unfold meetIn at hR
  generalize turn p' q' r' = T1 at *
  generalize turn p' q' s' = T2 at *
  generalize turn r' s' p' = T3 at *
  generalize turn r' s' q' = T4 at *
  generalize sharedPts p' q' r' s' = S at *
  obtain ⟨px, py⟩ := p
  obtain ⟨px', py'⟩ := p'
  obtain ⟨qx, qy⟩ := q
  obtain ⟨qx', qy'⟩ := q'
  obtain ⟨rx, ry⟩ := r
  obtain ⟨rx', ry'⟩ := r'
  obtain ⟨sx, sy⟩ := s
  obtain ⟨sx', sy'⟩ := s'
  simp only [Pt.v] at *
  have HR := Aside0.mk hR
  have C1 := Aside0.mk c1
  have T1' := Aside0.mk t1
  have C2 := Aside0.mk c2
  have T2' := Aside0.mk t2
  have C3 := Aside0.mk c3
  have T3' := Aside0.mk t3
  have C4 := Aside0.mk c4
  have T4' := Aside0.mk t4
  have U1 := Aside0.mk u1
  clear hR c1 c2 c3 c4 t1 t2 t3 t4 u1
  go_enter Tryd.func128, Tryd.ntmps128
  go_wp2_with fail
  refine boxP4 fun w0 HB0 HX HY HZ HU => ?_
  refine wp_region_tail [_, _, _, _, _, _, _, _] [_, _, _] rfl (by kernel_rfl) (by kernel_rfl) (by kernel_rfl) (by kernel_rfl) (by kernel_rfl) (fun xs => by simp only [fill, Act.put, List.setIfInBounds_toArray, List.set_cons_zero, List.set_cons_succ, Nat.reduceAdd]; rfl) ?_
  iterate 8 (apply wpLoc_det; · (intro vs W hb he; obtain ⟨k1, k2⟩ := (HX.out.keep hb).cs; obtain ⟨k3, k4⟩ := (HY.out.keep hb).cs; obtain ⟨k5, k6⟩ := (HZ.out.keep hb).cs; obtain ⟨k7, k8⟩ := (HU.out.keep hb).cs; simp only at k1 k2 k3 k4 k5 k6 k7 k8; simp [edgeSat, Region.binds, Fact.at_] at he; unfold locRun; go_simp; first | exact loc_val | (with_reducible exact loc_call (C1.out W)) | (with_reducible exact loc_call (C2.out W)) | (with_reducible exact loc_call (C3.out W)) | (with_reducible exact loc_call (C4.out W))))
  refine wpLoc_nil fun vs W0 hb he => ?_
  simp only [List.nil_append, List.cons_append, factsAll, Fact.at_, Nat.reduceAdd] at he
  obtain ⟨-, e1, -, e2, -, e3, -, e4, -⟩ := he
  rw [e1, e2, e3, e4]
  have HBa0 := Aside0.mk (below_call HB0.out hb)
  have HXa0 := Aside0.mk (HX.out.keep hb)
  have HYa0 := Aside0.mk (HY.out.keep hb)
  have HZa0 := Aside0.mk (HZ.out.keep hb)
  have HUa0 := Aside0.mk (HU.out.keep hb)
  clear HX HY HZ HU HB0 hb e1 e2 e3 e4 C1 C2 C3 C4
  obtain ⟨k1, k2⟩ := HXa0.out.cs
  have k5 := HXa0.out.fr
  simp only at k1 k2
  unfold wpSeq
  rw [if_pos (by rfl)]
  go_wp2
  obtain ⟨W1, e1⟩ : ∃ W1, W1 = set2 W0 w.heap.size px' py' := ⟨_, rfl⟩
  have HXa1 := Aside0.mk (e1 ▸ HXa0.out.set px' py' : BoxP W1 w.heap.size ⟨px', py'⟩)
  have HYa1 := Aside0.mk (e1 ▸ HYa0.out.far (by omega) px' py' : BoxP W1 (w.heap.size + 1) ⟨qx, qy⟩)
  have HZa1 := Aside0.mk (e1 ▸ HZa0.out.far (by omega) px' py' : BoxP W1 (w.heap.size + 1 + 1) ⟨rx, ry⟩)
  have HUa1 := Aside0.mk (e1 ▸ HUa0.out.far (by omega) px' py' : BoxP W1 (w.heap.size + 1 + 1 + 1) ⟨sx, sy⟩)
  have HBa1 := Aside0.mk (e1 ▸ below_set2 HBa0.out (by omega) px' py' : Below w.heap.size w W1)
  unfold set2 at e1
  rw [← e1]
  clear k1 k2 k5 e1 HBa0 HXa0 HYa0 HZa0 HUa0
  obtain ⟨k1, k2⟩ := HYa1.out.cs
  have k5 := HYa1.out.fr
  simp only at k1 k2
  unfold wpSeq
  rw [if_pos (by rfl)]
  go_wp2
  obtain ⟨W2, e1⟩ : ∃ W2, W2 = set2 W1 (w.heap.size + 1) qx' qy' := ⟨_, rfl⟩
  have HXa2 := Aside0.mk (e1 ▸ HXa1.out.far (by omega) qx' qy' : BoxP W2 w.heap.size ⟨px', py'⟩)
  have HYa2 := Aside0.mk (e1 ▸ HYa1.out.set qx' qy' : BoxP W2 (w.heap.size + 1) ⟨qx', qy'⟩)
  have HZa2 := Aside0.mk (e1 ▸ HZa1.out.far (by omega) qx' qy' : BoxP W2 (w.heap.size + 1 + 1) ⟨rx, ry⟩)
  have HUa2 := Aside0.mk (e1 ▸ HUa1.out.far (by omega) qx' qy' : BoxP W2 (w.heap.size + 1 + 1 + 1) ⟨sx, sy⟩)
  have HBa2 := Aside0.mk (e1 ▸ below_set2 HBa1.out (by omega) qx' qy' : Below w.heap.size w W2)
  unfold set2 at e1
  rw [← e1]
  clear k1 k2 k5 e1 HBa1 HXa1 HYa1 HZa1 HUa1
  obtain ⟨k1, k2⟩ := HZa2.out.cs
  have k5 := HZa2.out.fr
  simp only at k1 k2
  unfold wpSeq
  rw [if_pos (by rfl)]
  go_wp2
  obtain ⟨W3, e1⟩ : ∃ W3, W3 = set2 W2 (w.heap.size + 1 + 1) rx' ry' := ⟨_, rfl⟩
  have HXa3 := Aside0.mk (e1 ▸ HXa2.out.far (by omega) rx' ry' : BoxP W3 w.heap.size ⟨px', py'⟩)
  have HYa3 := Aside0.mk (e1 ▸ HYa2.out.far (by omega) rx' ry' : BoxP W3 (w.heap.size + 1) ⟨qx', qy'⟩)
  have HZa3 := Aside0.mk (e1 ▸ HZa2.out.set rx' ry' : BoxP W3 (w.heap.size + 1 + 1) ⟨rx', ry'⟩)
  have HUa3 := Aside0.mk (e1 ▸ HUa2.out.far (by omega) rx' ry' : BoxP W3 (w.heap.size + 1 + 1 + 1) ⟨sx, sy⟩)
  have HBa3 := Aside0.mk (e1 ▸ below_set2 HBa2.out (by omega) rx' ry' : Below w.heap.size w W3)
  unfold set2 at e1
  rw [← e1]
  clear k1 k2 k5 e1 HBa2 HXa2 HYa2 HZa2 HUa2
  obtain ⟨k1, k2⟩ := HUa3.out.cs
  have k5 := HUa3.out.fr
  simp only at k1 k2
  unfold wpSeq
  rw [if_pos (by rfl)]
  go_wp2
  obtain ⟨W4, e1⟩ : ∃ W4, W4 = set2 W3 (w.heap.size + 1 + 1 + 1) sx' sy' := ⟨_, rfl⟩
  have HXa4 := Aside0.mk (e1 ▸ HXa3.out.far (by omega) sx' sy' : BoxP W4 w.heap.size ⟨px', py'⟩)
  have HYa4 := Aside0.mk (e1 ▸ HYa3.out.far (by omega) sx' sy' : BoxP W4 (w.heap.size + 1) ⟨qx', qy'⟩)
  have HZa4 := Aside0.mk (e1 ▸ HZa3.out.far (by omega) sx' sy' : BoxP W4 (w.heap.size + 1 + 1) ⟨rx', ry'⟩)
  have HUa4 := Aside0.mk (e1 ▸ HUa3.out.set sx' sy' : BoxP W4 (w.heap.size + 1 + 1 + 1) ⟨sx', sy'⟩)
  have HBa4 := Aside0.mk (e1 ▸ below_set2 HBa3.out (by omega) sx' sy' : Below w.heap.size w W4)
  unfold set2 at e1
  rw [← e1]
  clear k1 k2 k5 e1 HBa3 HXa3 HYa3 HZa3 HUa3
  unfold wpSeq
  go_wp2_with fail
  have m3 : IntKind.i64.wrap (T1 * T2) = T1 * T2 := by have h := m1; unfold wrap64 at h; rw [IntKind.wrap_i64]; exact h
  have m4 : IntKind.i64.wrap (T3 * T4) = T3 * T4 := by have h := m2; unfold wrap64 at h; rw [IntKind.wrap_i64]; exact h
  by_cases h1 : T1 * T2 < 0
  · have d1 : decide (T1 * T2 < 0) = true := by simp; omega
    by_cases h2 : T3 * T4 < 0
    · have d2 : decide (T3 * T4 < 0) = true := by simp; omega
      refine wp_region_loc (by kernel_rfl) (by kernel_rfl) (by kernel_rfl) (fun xs => by simp only [fill, Act.put, List.setIfInBounds_toArray, List.set_cons_zero, List.set_cons_succ, Nat.reduceAdd]; rfl) ?_
      repeat (apply wpLoc_det; · (intro vs W hb he; (obtain ⟨k1, k2⟩ := (HXa4.out.keep hb).cs; obtain ⟨k3, k4⟩ := (HYa4.out.keep hb).cs; obtain ⟨k5, k6⟩ := (HZa4.out.keep hb).cs; obtain ⟨k7, k8⟩ := (HUa4.out.keep hb).cs; simp only at k1 k2 k3 k4 k5 k6 k7 k8; simp [edgeSat, Region.binds, Fact.at_] at he; unfold locRun; go_simp; first | exact loc_val | (with_reducible exact loc_call (T1'.out W)) | (with_reducible exact loc_call (T2'.out W)) | (with_reducible exact loc_call (T3'.out W)) | (with_reducible exact loc_call (T4'.out W)))))
      refine wpLoc_nil fun vs W hb he => ?_
      simp only [List.nil_append, List.cons_append, factsAll, Fact.at_, Nat.reduceAdd] at he
      obtain ⟨-, -, -, -, -, -, -, -, -, -, -, -, -, -, -, -, -, -, -, -, -,  e21, -⟩ := he
      have HBW := Aside0.mk (below_call HBa4.out hb)
      obtain ⟨k1, k2⟩ := (HXa4.out.keep hb).cs
      obtain ⟨k3, k4⟩ := (HYa4.out.keep hb).cs
      obtain ⟨k5, k6⟩ := (HZa4.out.keep hb).cs
      obtain ⟨k7, k8⟩ := (HUa4.out.keep hb).cs
      simp only at k1 k2 k3 k4 k5 k6 k7 k8
      rw [e21]
      clear e21 hb HXa4 HYa4 HZa4 HUa4 HBa4 m1 m2 m3 m4 T1' T2' T3' T4'
      go_wp2
      go_ret
      exact ⟨i64_ret (by rw [HR.out, if_pos ⟨h1, h2⟩]), HBW.out⟩
    · have d2 : decide (T3 * T4 < 0) = false := by simp; omega
      have hno : ¬ (T1 * T2 < 0 ∧ T3 * T4 < 0) := by omega
      refine wp_region_loc (by kernel_rfl) (by kernel_rfl) (by kernel_rfl) (fun xs => by simp only [fill, Act.put, List.setIfInBounds_toArray, List.set_cons_zero, List.set_cons_succ, Nat.reduceAdd]; rfl) ?_
      repeat (apply wpLoc_det; · (intro vs W hb he; (obtain ⟨k1, k2⟩ := (HXa4.out.keep hb).cs; obtain ⟨k3, k4⟩ := (HYa4.out.keep hb).cs; obtain ⟨k5, k6⟩ := (HZa4.out.keep hb).cs; obtain ⟨k7, k8⟩ := (HUa4.out.keep hb).cs; simp only at k1 k2 k3 k4 k5 k6 k7 k8; simp [edgeSat, Region.binds, Fact.at_] at he; unfold locRun; go_simp; first | exact loc_val | (with_reducible exact loc_call (T1'.out W)) | (with_reducible exact loc_call (T2'.out W)) | (with_reducible exact loc_call (T3'.out W)) | (with_reducible exact loc_call (T4'.out W)))))
      refine wpLoc_nil fun vs W hb he => ?_
      simp only [List.nil_append, List.cons_append, factsAll, Fact.at_, Nat.reduceAdd] at he
      obtain ⟨-, -, -, -, -, -, -, -, -, -, -, -, -, -, -, -, -, -, -, -, -,  e21, -⟩ := he
      have HBW := Aside0.mk (below_call HBa4.out hb)
      obtain ⟨k1, k2⟩ := (HXa4.out.keep hb).cs
      obtain ⟨k3, k4⟩ := (HYa4.out.keep hb).cs
      obtain ⟨k5, k6⟩ := (HZa4.out.keep hb).cs
      obtain ⟨k7, k8⟩ := (HUa4.out.keep hb).cs
      simp only at k1 k2 k3 k4 k5 k6 k7 k8
      rw [e21]
      clear e21 hb HXa4 HYa4 HZa4 HUa4 HBa4 m1 m2 m3 m4 T1' T2' T3' T4'
      go_wp2_with (go_at_call 144; refine (U1.out W).mono ?_; rintro e w5 ⟨v, rfl, hO, hB⟩; obtain ⟨A, c, rfl, -⟩ := OwnRow.slice_ hO; have HB5 := Aside0.mk (below_call HBW.out hB); clear hO hB)
      all_goals go_ret
      all_goals exact ⟨i64_ret (by rw [HR.out, if_neg hno]; split <;> omega), HB5.out⟩
  · have d1 : decide (T1 * T2 < 0) = false := by simp; omega
    have hno : ¬ (T1 * T2 < 0 ∧ T3 * T4 < 0) := by omega
    refine wp_region_loc (by kernel_rfl) (by kernel_rfl) (by kernel_rfl) (fun xs => by simp only [fill, Act.put, List.setIfInBounds_toArray, List.set_cons_zero, List.set_cons_succ, Nat.reduceAdd]; rfl) ?_
    repeat (first | (apply wpLoc_det; · (intro vs W hb he; (obtain ⟨k1, k2⟩ := (HXa4.out.keep hb).cs; obtain ⟨k3, k4⟩ := (HYa4.out.keep hb).cs; obtain ⟨k5, k6⟩ := (HZa4.out.keep hb).cs; obtain ⟨k7, k8⟩ := (HUa4.out.keep hb).cs; simp only at k1 k2 k3 k4 k5 k6 k7 k8; simp [edgeSat, Region.binds, Fact.at_] at he; unfold locRun; go_simp; first | exact loc_val | (with_reducible exact loc_call (T1'.out W)) | (with_reducible exact loc_call (T2'.out W)) | (with_reducible exact loc_call (T3'.out W)) | (with_reducible exact loc_call (T4'.out W))))) | (apply wpLoc_det undef; · (intro vs W hb he; simp [edgeSat, Region.binds, Fact.at_] at he; go_simp; done)))
    refine wpLoc_nil fun vs W hb he => ?_
    simp only [List.nil_append, List.cons_append, factsAll, Fact.at_, Nat.reduceAdd] at he
    obtain ⟨-, -, -, -, -, -, -, -, -, -, -, -, -, -, -, -, -, -, -, -, -,  e21, -⟩ := he
    have HBW := Aside0.mk (below_call HBa4.out hb)
    obtain ⟨k1, k2⟩ := (HXa4.out.keep hb).cs
    obtain ⟨k3, k4⟩ := (HYa4.out.keep hb).cs
    obtain ⟨k5, k6⟩ := (HZa4.out.keep hb).cs
    obtain ⟨k7, k8⟩ := (HUa4.out.keep hb).cs
    simp only at k1 k2 k3 k4 k5 k6 k7 k8
    rw [e21]
    clear e21 hb HXa4 HYa4 HZa4 HUa4 HBa4 m1 m2 m3 m4 T1' T2' T3' T4'
    go_wp2_with (go_at_call 144; refine (U1.out W).mono ?_; rintro e w5 ⟨v, rfl, hO, hB⟩; obtain ⟨A, c, rfl, -⟩ := OwnRow.slice_ hO; have HB5 := Aside0.mk (below_call HBW.out hB); clear hO hB)
    all_goals go_ret
    all_goals exact ⟨i64_ret (by rw [HR.out, if_neg hno]; split <;> omega), HB5.out⟩
end Go.Proofs.YtgabpbnndikheaaDoor
