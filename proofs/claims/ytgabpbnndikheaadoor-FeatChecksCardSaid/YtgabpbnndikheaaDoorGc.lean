import Derived.Test.YtgabpbnndikheaaDoorGb
import Derived.Test.YtgabpbnndikheaaDoorRn
set_option linter.constructorNameAsVariable false
/-! Products of vectors. -/
namespace Go.Proofs.YtgabpbnndikheaaDoor
open Go.RowKit Go.Proofs.YtgabpbnndikheaaDoorW.PrintWords

def cross (a b c : Pt) : Int := (way a b).x * (way a c).y - (way a b).y * (way a c).x
def dot (a b c : Pt) : Int := (way a b).x * (way a c).x + (way a b).y * (way a c).y
theorem way_le (a b : Pt) : (-2097152 ≤ (way a b).x ∧ (way a b).x ≤ 2097152) ∧ (-2097152 ≤ (way a b).y ∧ (way a b).y ≤ 2097152) := by
  have h1 := lim_le a.x
  have h2 := lim_le a.y
  have h3 := lim_le b.x
  have h4 := lim_le b.y
  unfold way
  simp only
  omega
theorem mul_le {m n : Int} (h1 : -2097152 ≤ m ∧ m ≤ 2097152) (h2 : -2097152 ≤ n ∧ n ≤ 2097152) : -4398046511104 ≤ m * n ∧ m * n ≤ 4398046511104 := by
  have a1 : m.natAbs ≤ 2097152 := by omega
  have a2 : n.natAbs ≤ 2097152 := by omega
  have a3 : (m * n).natAbs ≤ 4398046511104 := by
    rw [Int.natAbs_mul]
    exact Nat.mul_le_mul a1 a2
  omega
set_option maxRecDepth 100000 in
theorem cross_any (p q r : Pt) (w : World) :
    Calls Tryd.prog 149 #[p.v, q.v, r.v] w fun e w' => e = .returned (.int .i64 (cross p q r)) ∧ Below w.heap.size w w' := by
  have c1 := fun W => way_any p q W
  have c2 := fun W => way_any p r W
  have b1 := way_le p q
  have b2 := way_le p r
  have hc : (way p q).x * (way p r).y - (way p q).y * (way p r).x = cross p q r := rfl
  generalize way p q = u at *
  generalize way p r = v at *
  generalize cross p q r = R at *
  obtain ⟨ux, uy⟩ := u
  obtain ⟨vx, vy⟩ := v
  obtain ⟨px, py⟩ := p
  obtain ⟨qx, qy⟩ := q
  obtain ⟨rx, ry⟩ := r
  simp only [Pt.v] at *
  have m1 := mul_le b1.1 b2.2
  have m2 := mul_le b1.2 b2.1
  have v1 : wrap64 (ux * vy) = ux * vy := wrap64_id (by omega) (by omega)
  have v2 : wrap64 (uy * vx) = uy * vx := wrap64_id (by omega) (by omega)
  have v3 : wrap64 (ux * vy - uy * vx) = R := by rw [← hc]; exact wrap64_id (by omega) (by omega)
  clear hc b1 b2 m1 m2
  have C1 := Aside0.mk c1
  have C2 := Aside0.mk c2
  clear c1 c2
  go_enter Tryd.func149, Tryd.ntmps149
  go_wp2_with fail
  refine boxP3 fun w0 HB0 HX HY HZ => ?_
  refine wp_region_new [_, _, _, _, _, _, _, _] [_] rfl (by kernel_rfl) (by kernel_rfl) (by kernel_rfl) (by kernel_rfl) (by kernel_rfl) (fun xs => by simp only [fill, Act.put, List.setIfInBounds_toArray, List.set_cons_zero, List.set_cons_succ, Nat.reduceAdd]; rfl) ?_
  iterate 6 (apply wpLocN_det; · (intro vs W hb he; obtain ⟨k1, k2⟩ := (HX.out.keep hb).cs; obtain ⟨k3, k4⟩ := (HY.out.keep hb).cs; obtain ⟨k5, k6⟩ := (HZ.out.keep hb).cs; simp only at k1 k2 k3 k4 k5 k6; simp [edgeSat, Region.binds, Fact.at_] at he; unfold locRun; go_simp; first | exact loc_val | (with_reducible exact loc_call (C1.out W)) | (with_reducible exact loc_call (C2.out W))))
  iterate 2 (apply wpLocN_new (.cells #[.int .i64 0, .int .i64 0] 73 (0, 0)); · (intro vs W hb he; refine ⟨by rfl, ?_⟩; go_simp; done))
  refine wpLocN_nil fun vs W hb he hap => ?_
  simp only [List.nil_append, List.cons_append, factsAll, Fact.at_, Nat.reduceAdd] at he
  obtain ⟨-, -, e1, -, -, e3, ⟨g1, e4, n1, B1⟩, ⟨g2, e5, n2, B2⟩, -⟩ := he
  have hne : g1 ≠ g2 := hap.ne (by simp) (by simp) (by decide) e4 e5
  have N1 := Nat.le_trans HB0.out.size n1
  have N2 := Nat.le_trans HB0.out.size n2
  rw [e1, e3, e4, e5]
  have HB := HB0.out.trans (hb.mono HB0.out.size)
  clear HB0 hb HX HY HZ e1 e3 C1 C2 n1 n2 hap e4 e5
  have HP : BoxP W g1 ⟨0, 0⟩ := B1
  have HQ : BoxP W g2 ⟨0, 0⟩ := B2
  clear B1 B2
  obtain ⟨k1, k2⟩ := HP.cs
  have k5 := HP.fr
  simp only at k1 k2
  unfold wpSeq
  rw [if_pos (by rfl)]
  go_wp2
  obtain ⟨W1, e1⟩ : ∃ W1, W1 = set2 W g1 ux uy := ⟨_, rfl⟩
  have HP2 := Aside0.mk (e1 ▸ HP.set ux uy : BoxP W1 g1 ⟨ux, uy⟩)
  have HQ2 := Aside0.mk (e1 ▸ HQ.far (fun e => hne e.symm) ux uy : BoxP W1 g2 ⟨0, 0⟩)
  have HB1 := Aside0.mk (e1 ▸ below_set2 HB N1 ux uy : Below w.heap.size w W1)
  unfold set2 at e1
  rw [← e1]
  clear k1 k2 k5 HP HQ HB e1
  obtain ⟨k3, k4⟩ := HQ2.out.cs
  have k6 := HQ2.out.fr
  simp only at k3 k4
  unfold wpSeq
  rw [if_pos (by rfl)]
  go_wp2
  obtain ⟨W2, e2⟩ : ∃ W2, W2 = set2 W1 g2 vx vy := ⟨_, rfl⟩
  have HP3 := Aside0.mk (e2 ▸ HP2.out.far hne vx vy : BoxP W2 g1 ⟨ux, uy⟩)
  have HQ3 := Aside0.mk (e2 ▸ HQ2.out.set vx vy : BoxP W2 g2 ⟨vx, vy⟩)
  have HB2 := Aside0.mk (e2 ▸ below_set2 HB1.out N2 vx vy : Below w.heap.size w W2)
  unfold set2 at e2
  rw [← e2]
  clear k3 k4 k6 HP2 HQ2 HB1 e2
  obtain ⟨k1, k2⟩ := HP3.out.cs
  obtain ⟨k3, k4⟩ := HQ3.out.cs
  simp only at k1 k2 k3 k4
  unfold wpSeq
  go_wp2
  go_ret
  exact ⟨i64_ret v3, HB2.out⟩
set_option maxRecDepth 100000 in
theorem dot_any (p q r : Pt) (w : World) :
    Calls Tryd.prog 154 #[p.v, q.v, r.v] w fun e w' => e = .returned (.int .i64 (dot p q r)) ∧ Below w.heap.size w w' := by
  have c1 := fun W => way_any p q W
  have c2 := fun W => way_any p r W
  have b1 := way_le p q
  have b2 := way_le p r
  have hc : (way p q).x * (way p r).x + (way p q).y * (way p r).y = dot p q r := rfl
  generalize way p q = u at *
  generalize way p r = v at *
  generalize dot p q r = R at *
  obtain ⟨ux, uy⟩ := u
  obtain ⟨vx, vy⟩ := v
  obtain ⟨px, py⟩ := p
  obtain ⟨qx, qy⟩ := q
  obtain ⟨rx, ry⟩ := r
  simp only [Pt.v] at *
  have m1 := mul_le b1.1 b2.1
  have m2 := mul_le b1.2 b2.2
  have v1 : wrap64 (ux * vx) = ux * vx := wrap64_id (by omega) (by omega)
  have v2 : wrap64 (uy * vy) = uy * vy := wrap64_id (by omega) (by omega)
  have v3 : wrap64 (ux * vx + uy * vy) = R := by rw [← hc]; exact wrap64_id (by omega) (by omega)
  clear hc b1 b2 m1 m2
  have C1 := Aside0.mk c1
  have C2 := Aside0.mk c2
  clear c1 c2
  go_enter Tryd.func154, Tryd.ntmps154
  go_wp2_with fail
  refine boxP3 fun w0 HB0 HX HY HZ => ?_
  refine wp_region_new [_, _, _, _, _, _, _, _] [_] rfl (by kernel_rfl) (by kernel_rfl) (by kernel_rfl) (by kernel_rfl) (by kernel_rfl) (fun xs => by simp only [fill, Act.put, List.setIfInBounds_toArray, List.set_cons_zero, List.set_cons_succ, Nat.reduceAdd]; rfl) ?_
  iterate 6 (apply wpLocN_det; · (intro vs W hb he; obtain ⟨k1, k2⟩ := (HX.out.keep hb).cs; obtain ⟨k3, k4⟩ := (HY.out.keep hb).cs; obtain ⟨k5, k6⟩ := (HZ.out.keep hb).cs; simp only at k1 k2 k3 k4 k5 k6; simp [edgeSat, Region.binds, Fact.at_] at he; unfold locRun; go_simp; first | exact loc_val | (with_reducible exact loc_call (C1.out W)) | (with_reducible exact loc_call (C2.out W))))
  iterate 2 (apply wpLocN_new (.cells #[.int .i64 0, .int .i64 0] 73 (0, 0)); · (intro vs W hb he; refine ⟨by rfl, ?_⟩; go_simp; done))
  refine wpLocN_nil fun vs W hb he hap => ?_
  simp only [List.nil_append, List.cons_append, factsAll, Fact.at_, Nat.reduceAdd] at he
  obtain ⟨-, -, e1, -, -, e3, ⟨g1, e4, n1, B1⟩, ⟨g2, e5, n2, B2⟩, -⟩ := he
  have hne : g1 ≠ g2 := hap.ne (by simp) (by simp) (by decide) e4 e5
  have N1 := Nat.le_trans HB0.out.size n1
  have N2 := Nat.le_trans HB0.out.size n2
  rw [e1, e3, e4, e5]
  have HB := HB0.out.trans (hb.mono HB0.out.size)
  clear HB0 hb HX HY HZ e1 e3 C1 C2 n1 n2 hap e4 e5
  have HP : BoxP W g1 ⟨0, 0⟩ := B1
  have HQ : BoxP W g2 ⟨0, 0⟩ := B2
  clear B1 B2
  obtain ⟨k1, k2⟩ := HP.cs
  have k5 := HP.fr
  simp only at k1 k2
  unfold wpSeq
  rw [if_pos (by rfl)]
  go_wp2
  obtain ⟨W1, e1⟩ : ∃ W1, W1 = set2 W g1 ux uy := ⟨_, rfl⟩
  have HP2 := Aside0.mk (e1 ▸ HP.set ux uy : BoxP W1 g1 ⟨ux, uy⟩)
  have HQ2 := Aside0.mk (e1 ▸ HQ.far (fun e => hne e.symm) ux uy : BoxP W1 g2 ⟨0, 0⟩)
  have HB1 := Aside0.mk (e1 ▸ below_set2 HB N1 ux uy : Below w.heap.size w W1)
  unfold set2 at e1
  rw [← e1]
  clear k1 k2 k5 HP HQ HB e1
  obtain ⟨k3, k4⟩ := HQ2.out.cs
  have k6 := HQ2.out.fr
  simp only at k3 k4
  unfold wpSeq
  rw [if_pos (by rfl)]
  go_wp2
  obtain ⟨W2, e2⟩ : ∃ W2, W2 = set2 W1 g2 vx vy := ⟨_, rfl⟩
  have HP3 := Aside0.mk (e2 ▸ HP2.out.far hne vx vy : BoxP W2 g1 ⟨ux, uy⟩)
  have HQ3 := Aside0.mk (e2 ▸ HQ2.out.set vx vy : BoxP W2 g2 ⟨vx, vy⟩)
  have HB2 := Aside0.mk (e2 ▸ below_set2 HB1.out N2 vx vy : Below w.heap.size w W2)
  unfold set2 at e2
  rw [← e2]
  clear k3 k4 k6 HP2 HQ2 HB1 e2
  obtain ⟨k1, k2⟩ := HP3.out.cs
  obtain ⟨k3, k4⟩ := HQ3.out.cs
  simp only at k1 k2 k3 k4
  unfold wpSeq
  go_wp2
  go_ret
  exact ⟨i64_ret v3, HB2.out⟩
end Go.Proofs.YtgabpbnndikheaaDoor
