import Derived.Test.YtgabpbnndikheaaDoorRr
import Derived.Test.YtgabpbnndikheaaDoorGh
set_option linter.constructorNameAsVariable false
/-! Areas: edges that meet at corners. -/
namespace Go.Proofs.YtgabpbnndikheaaDoor
open Go.RowKit Go.Proofs.YtgabpbnndikheaaDoorW.PrintWords

def samePt (a b : Pt) : Bool := a.x == b.x && a.y == b.y
def corners (a b c d : Pt) : Bool := if meet a b c d = 0 then true else if meet a b c d = 1 then samePt a c || samePt a d || samePt b c || samePt b d else false
set_option maxHeartbeats 4000000 in
set_option maxRecDepth 100000 in
theorem corners_any (p q r s : Pt) (w : World) :
    Calls Tryd.prog 113 #[p.v, q.v, r.v, s.v] w fun e w' => e = .returned (.bool (corners p q r s)) ∧ Below w.heap.size w w' := by
  have c1 := fun W => meet_any p q r s W
  obtain ⟨R, hR⟩ : ∃ R, R = corners p q r s := ⟨_, rfl⟩
  rw [← hR]
  unfold corners at hR
  generalize meet p q r s = m at *
  obtain ⟨f1, hf1⟩ : ∃ f1, f1 = samePt p r := ⟨_, rfl⟩
  obtain ⟨f2, hf2⟩ : ∃ f2, f2 = samePt p s := ⟨_, rfl⟩
  obtain ⟨f3, hf3⟩ : ∃ f3, f3 = samePt q r := ⟨_, rfl⟩
  obtain ⟨f4, hf4⟩ : ∃ f4, f4 = samePt q s := ⟨_, rfl⟩
  rw [← hf1, ← hf2, ← hf3, ← hf4] at hR
  obtain ⟨g2, hg2⟩ : ∃ g2, g2 = (f1 || f2) := ⟨_, rfl⟩
  obtain ⟨g3, hg3⟩ : ∃ g3, g3 = (g2 || f3) := ⟨_, rfl⟩
  obtain ⟨g4, hg4⟩ : ∃ g4, g4 = (g3 || f4) := ⟨_, rfl⟩
  rw [← hg2, ← hg3, ← hg4] at hR
  obtain ⟨px, py⟩ := p
  obtain ⟨qx, qy⟩ := q
  obtain ⟨rx, ry⟩ := r
  obtain ⟨sx, sy⟩ := s
  simp only [Pt.v, samePt] at *
  have C1 := Aside0.mk c1
  have HD := Aside0.mk hR
  have HF1 := Aside0.mk hf1
  have HF2 := Aside0.mk hf2
  have HF3 := Aside0.mk hf3
  have HF4 := Aside0.mk hf4
  have HG2 := Aside0.mk hg2
  have HG3 := Aside0.mk hg3
  have HG4 := Aside0.mk hg4
  clear c1 hR hf1 hf2 hf3 hf4 hg2 hg3 hg4
  by_cases h0 : m = 0
  · subst h0
    go_enter Tryd.func113, Tryd.ntmps113
    go_wp2_with (go_at_call 128; refine boxP4c fun w0 HB0 HX HY HZ HU => ?_; refine (C1.out _).mono ?_; rintro e w1 ⟨rfl, hB⟩; have HB1 := Aside0.mk (below_call HB0.out hB); clear hB)
    go_ret
    exact ⟨bool_ret (by rw [HD.out]; rfl), HB1.out⟩
  rw [if_neg h0] at HD
  by_cases h1 : m = 1
  · subst h1
    rw [if_pos rfl] at HD
    go_enter Tryd.func113, Tryd.ntmps113
    go_wp2_with (first
      | (go_at_call 128; refine boxP4c fun w0 HB0 HX HY HZ HU => ?_; refine (C1.out _).mono ?_; rintro e w1 ⟨rfl, hB⟩; have HB1 := Aside0.mk (below_call HB0.out hB); have HX1 := Aside0.mk (HX.out.keep hB); have HY1 := Aside0.mk (HY.out.keep hB); have HZ1 := Aside0.mk (HZ.out.keep hB); have HU1 := Aside0.mk (HU.out.keep hB); clear hB HX HY HZ HU HB0)
      | (with_reducible refine wpList_gate [_, _, _, _, _, _, _, _, _, _, _, _, _, _, _, _, _, _, _] ?_; refine wpList_row [_, _, _, _, _, _, _, _, _, _, _, _, _, _, _, _, _, _, _] rfl (by kernel_rfl) (by kernel_rfl) (fun xs => by simp only [fill, Act.put, List.setIfInBounds_toArray, List.set_cons_zero, List.set_cons_succ, Nat.reduceAdd]; rfl) ?_; refine wpLoc_det (.agg #[.int .i64 px, .int .i64 py]) (fun vs W hb he => ?_) ?_; (obtain ⟨k1, k2⟩ := (HX1.out.keep hb).cs; obtain ⟨k3, k4⟩ := (HY1.out.keep hb).cs; obtain ⟨k5, k6⟩ := (HZ1.out.keep hb).cs; obtain ⟨k7, k8⟩ := (HU1.out.keep hb).cs; simp only at k1 k2 k3 k4 k5 k6 k7 k8; simp [edgeSat, Region.binds, Fact.at_] at he; unfold locRun; go_simp; exact loc_val); refine wpLoc_det (.agg #[.int .i64 rx, .int .i64 ry]) (fun vs W hb he => ?_) ?_; (obtain ⟨k1, k2⟩ := (HX1.out.keep hb).cs; obtain ⟨k3, k4⟩ := (HY1.out.keep hb).cs; obtain ⟨k5, k6⟩ := (HZ1.out.keep hb).cs; obtain ⟨k7, k8⟩ := (HU1.out.keep hb).cs; simp only at k1 k2 k3 k4 k5 k6 k7 k8; simp [edgeSat, Region.binds, Fact.at_] at he; unfold locRun; go_simp; exact loc_val); refine wpLoc_det (.bool f1) (fun vs W hb he => ?_) ?_; (rw [HF1.out]; simp [edgeSat, Region.binds, Fact.at_] at he; unfold locRun; go_simp; exact loc_eq2 px rx py ry); refine wpLoc_det (.bool f1) (fun vs W hb he => ?_) ?_; (simp [edgeSat, Region.binds, Fact.at_] at he; unfold locRun; go_simp; exact loc_val); refine wpLoc_det (if f1 then undef else .agg #[.int .i64 px, .int .i64 py]) (fun vs W hb he => ?_) ?_; (obtain ⟨k1, k2⟩ := (HX1.out.keep hb).cs; obtain ⟨k3, k4⟩ := (HY1.out.keep hb).cs; obtain ⟨k5, k6⟩ := (HZ1.out.keep hb).cs; obtain ⟨k7, k8⟩ := (HU1.out.keep hb).cs; simp only at k1 k2 k3 k4 k5 k6 k7 k8; cases f1 <;> (simp [edgeSat, Region.binds, Fact.at_] at he; unfold locRun; go_simp; try exact loc_val)); refine wpLoc_det (if f1 then undef else .agg #[.int .i64 sx, .int .i64 sy]) (fun vs W hb he => ?_) ?_; (obtain ⟨k1, k2⟩ := (HX1.out.keep hb).cs; obtain ⟨k3, k4⟩ := (HY1.out.keep hb).cs; obtain ⟨k5, k6⟩ := (HZ1.out.keep hb).cs; obtain ⟨k7, k8⟩ := (HU1.out.keep hb).cs; simp only at k1 k2 k3 k4 k5 k6 k7 k8; cases f1 <;> (simp [edgeSat, Region.binds, Fact.at_] at he; unfold locRun; go_simp; try exact loc_val)); refine wpLoc_det (if f1 then undef else .bool f2) (fun vs W hb he => ?_) ?_; (rw [HF2.out]; cases f1 <;> (simp [edgeSat, Region.binds, Fact.at_] at he; unfold locRun; go_simp; try exact loc_eq2 px sx py sy)); refine wpLoc_det (.bool g2) (fun vs W hb he => ?_) ?_; (rw [HG2.out]; cases f1 <;> (simp [edgeSat, Region.binds, Fact.at_] at he; unfold locRun; go_simp; exact loc_val)); refine wpLoc_det (.bool g2) (fun vs W hb he => ?_) ?_; (simp [edgeSat, Region.binds, Fact.at_] at he; unfold locRun; go_simp; exact loc_val); refine wpLoc_det (if g2 then undef else .agg #[.int .i64 qx, .int .i64 qy]) (fun vs W hb he => ?_) ?_; (obtain ⟨k1, k2⟩ := (HX1.out.keep hb).cs; obtain ⟨k3, k4⟩ := (HY1.out.keep hb).cs; obtain ⟨k5, k6⟩ := (HZ1.out.keep hb).cs; obtain ⟨k7, k8⟩ := (HU1.out.keep hb).cs; simp only at k1 k2 k3 k4 k5 k6 k7 k8; cases g2 <;> (simp [edgeSat, Region.binds, Fact.at_] at he; unfold locRun; go_simp; try exact loc_val)); refine wpLoc_det (if g2 then undef else .agg #[.int .i64 rx, .int .i64 ry]) (fun vs W hb he => ?_) ?_; (obtain ⟨k1, k2⟩ := (HX1.out.keep hb).cs; obtain ⟨k3, k4⟩ := (HY1.out.keep hb).cs; obtain ⟨k5, k6⟩ := (HZ1.out.keep hb).cs; obtain ⟨k7, k8⟩ := (HU1.out.keep hb).cs; simp only at k1 k2 k3 k4 k5 k6 k7 k8; cases g2 <;> (simp [edgeSat, Region.binds, Fact.at_] at he; unfold locRun; go_simp; try exact loc_val)); refine wpLoc_det (if g2 then undef else .bool f3) (fun vs W hb he => ?_) ?_; (rw [HF3.out]; cases g2 <;> (simp [edgeSat, Region.binds, Fact.at_] at he; unfold locRun; go_simp; try exact loc_eq2 qx rx qy ry)); refine wpLoc_det (.bool g3) (fun vs W hb he => ?_) ?_; (rw [HG3.out]; cases g2 <;> (simp [edgeSat, Region.binds, Fact.at_] at he; unfold locRun; go_simp; exact loc_val)); refine wpLoc_det (.bool g3) (fun vs W hb he => ?_) ?_; (simp [edgeSat, Region.binds, Fact.at_] at he; unfold locRun; go_simp; exact loc_val); refine wpLoc_det (if g3 then undef else .agg #[.int .i64 qx, .int .i64 qy]) (fun vs W hb he => ?_) ?_; (obtain ⟨k1, k2⟩ := (HX1.out.keep hb).cs; obtain ⟨k3, k4⟩ := (HY1.out.keep hb).cs; obtain ⟨k5, k6⟩ := (HZ1.out.keep hb).cs; obtain ⟨k7, k8⟩ := (HU1.out.keep hb).cs; simp only at k1 k2 k3 k4 k5 k6 k7 k8; cases g3 <;> (simp [edgeSat, Region.binds, Fact.at_] at he; unfold locRun; go_simp; try exact loc_val)); refine wpLoc_det (if g3 then undef else .agg #[.int .i64 sx, .int .i64 sy]) (fun vs W hb he => ?_) ?_; (obtain ⟨k1, k2⟩ := (HX1.out.keep hb).cs; obtain ⟨k3, k4⟩ := (HY1.out.keep hb).cs; obtain ⟨k5, k6⟩ := (HZ1.out.keep hb).cs; obtain ⟨k7, k8⟩ := (HU1.out.keep hb).cs; simp only at k1 k2 k3 k4 k5 k6 k7 k8; cases g3 <;> (simp [edgeSat, Region.binds, Fact.at_] at he; unfold locRun; go_simp; try exact loc_val)); refine wpLoc_det (if g3 then undef else .bool f4) (fun vs W hb he => ?_) ?_; (rw [HF4.out]; cases g3 <;> (simp [edgeSat, Region.binds, Fact.at_] at he; unfold locRun; go_simp; try exact loc_eq2 qx sx qy sy)); refine wpLoc_det (.bool g4) (fun vs W hb he => ?_) ?_; (rw [HG4.out]; cases g3 <;> (simp [edgeSat, Region.binds, Fact.at_] at he; unfold locRun; go_simp; exact loc_val)); refine wpLoc_det (.bool g4) (fun vs W hb he => ?_) ?_; (simp [edgeSat, Region.binds, Fact.at_] at he; unfold locRun; go_simp; exact loc_val); refine wpLoc_nil fun vs W hb he => ?_; simp only [List.nil_append, List.cons_append, factsAll, Fact.at_, Nat.reduceAdd] at he; obtain ⟨-, -, -, -, -, -, -, -, -, -, -, -, -, -, -, -, -, -, e18, -⟩ := he; rw [e18]; have HB2 := Aside0.mk (below_call HB1.out hb); clear e18 hb))
    go_ret
    exact ⟨bool_ret (by rw [HD.out]), HB2.out⟩
  · rw [if_neg h1] at HD
    go_enter Tryd.func113, Tryd.ntmps113
    go_wp2_with (go_at_call 128; refine boxP4c fun w0 HB0 HX HY HZ HU => ?_; refine (C1.out _).mono ?_; rintro e w1 ⟨rfl, hB⟩; have HB1 := Aside0.mk (below_call HB0.out hB); clear hB)
    go_ret
    exact ⟨bool_ret (by rw [HD.out]), HB1.out⟩
end Go.Proofs.YtgabpbnndikheaaDoor
