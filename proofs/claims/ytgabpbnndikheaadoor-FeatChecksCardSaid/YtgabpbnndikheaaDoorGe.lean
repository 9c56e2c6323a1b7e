import Derived.Test.YtgabpbnndikheaaDoorGd
import Derived.Laws.StructEq
set_option linter.constructorNameAsVariable false
/-! Points within the bounds. -/
namespace Go.Proofs.YtgabpbnndikheaaDoor
open Go.RowKit Go.Proofs.YtgabpbnndikheaaDoorW.PrintWords

def okPt (p : Pt) : Bool := p.x == lim p.x && p.y == lim p.y
theorem bool_ret {a b : Bool} (h : a = b) : Ending.returned (.bool a) = .returned (.bool b) := by rw [h]
theorem loc_eq2 {P : Program} {W : World} (x x' y y' : Int) : locUpon P W (.det (.bool (x == x' && y == y'))) (if x = x' then if y = y' then Result.ok (Next.value (.bool true)) W else Result.ok (Next.value (.bool false)) W else Result.ok (Next.value (.bool false)) W) := by
  by_cases h1 : x = x'
  · rw [if_pos h1]
    by_cases h2 : y = y'
    · rw [if_pos h2]
      subst h1 h2
      simp only [beq_self_eq_true, Bool.and_self]
      exact loc_val
    · rw [if_neg h2, show (x == x' && y == y') = false by simp [h2]]
      exact loc_val
  · rw [if_neg h1, show (x == x' && y == y') = false by simp [h1]]
    exact loc_val
set_option maxRecDepth 100000 in
theorem ok_any (p : Pt) (w : World) :
    Calls Tryd.prog 87 #[p.v] w fun e w' => e = .returned (.bool (okPt p)) ∧ Below w.heap.size w w' := by
  have c1 := fun W => clamp_any p W
  have C1 := Aside0.mk c1
  clear c1
  obtain ⟨x, y⟩ := p
  simp only [Pt.v, Pt.clamp, okPt] at *
  generalize lim x = x' at *
  generalize lim y = y' at *
  go_enter Tryd.func87, Tryd.ntmps87
  go_wp2_with fail
  refine boxP1 fun w0 HB0 HX => ?_
  refine wp_region_last' [_, _, _, _] rfl (by kernel_rfl) (by kernel_rfl) (by kernel_rfl) (by kernel_rfl) (fun xs => by simp only [fill, Act.put, List.setIfInBounds_toArray, List.set_cons_zero, List.set_cons_succ, Nat.reduceAdd]; rfl) ?_
  iterate 3 (apply wpLoc_det; · (intro vs W hb he; obtain ⟨k1, k2⟩ := (HX.out.keep hb).cs; simp only at k1 k2; simp [edgeSat, Region.binds, Fact.at_] at he; unfold locRun; go_simp; first | exact loc_val | (with_reducible exact loc_call (C1.out W))))
  apply wpLoc_det (.bool (x == x' && y == y'))
  · intro vs W hb he
    simp [edgeSat, Region.binds, Fact.at_] at he
    unfold locRun
    go_simp
    exact loc_eq2 x x' y y'
  refine wpLoc_nil fun vs W hb he => ?_
  simp only [List.nil_append, List.cons_append, factsAll, Fact.at_, Nat.reduceAdd] at he
  obtain ⟨-, -, -, e6, -⟩ := he
  have HB := Aside0.mk (below_call HB0.out hb)
  rw [if_pos (by rfl), e6]
  clear e6 HB0 hb HX C1
  obtain ⟨r, hr⟩ : ∃ r, r = (x == x' && y == y') := ⟨_, rfl⟩
  rw [← hr]
  go_wp2
  go_ret
  exact ⟨bool_ret hr, HB.out⟩
end Go.Proofs.YtgabpbnndikheaaDoor
