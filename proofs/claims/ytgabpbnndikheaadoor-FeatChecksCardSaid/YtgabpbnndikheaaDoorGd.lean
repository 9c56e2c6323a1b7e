import Derived.Test.YtgabpbnndikheaaDoorGc
set_option linter.constructorNameAsVariable false
/-! Turns. -/
namespace Go.Proofs.YtgabpbnndikheaaDoor
open Go.RowKit Go.Proofs.YtgabpbnndikheaaDoorW.PrintWords

def sg (a b : Int) : Int := if a < b then -1 else if b < a then 1 else 0
theorem sg_le (a b : Int) : -1 ≤ sg a b ∧ sg a b ≤ 1 := by unfold sg; split <;> (try split) <;> omega
set_option maxRecDepth 100000 in
theorem icmp_any (a b : Int) (w : World) :
    Calls Tryd.prog 36 #[.int .i64 a, .int .i64 b] w fun e w' => e = .returned (.int .i64 (sg a b)) ∧ w = w' := by
  unfold sg
  by_cases h1 : a < b
  · rw [if_pos h1]
    go_enter Tryd.func36, Tryd.ntmps36
    go_wp2
    go_ret
    exact ⟨rfl, rfl⟩
  · rw [if_neg h1]
    by_cases h2 : b < a
    · rw [if_pos h2]
      go_enter Tryd.func36, Tryd.ntmps36
      go_wp2
      go_ret
      exact ⟨rfl, rfl⟩
    · rw [if_neg h2]
      go_enter Tryd.func36, Tryd.ntmps36
      go_wp2
      go_ret
      exact ⟨rfl, rfl⟩

theorem boxP3c {P : Program} {g : FuncId} {args : Array Value} {K : Ending → World → Prop} {w : World} {m n m' n' m2 n2 : Int}
    (h : ∀ w0, Aside0 (Below w.heap.size w w0) → Aside0 (BoxP w0 w.heap.size ⟨m, n⟩) → Aside0 (BoxP w0 (w.heap.size + 1) ⟨m', n'⟩) → Aside0 (BoxP w0 (w.heap.size + 1 + 1) ⟨m2, n2⟩) → Calls P g args w0 K) :
    Calls P g args (((w.alloc (.cells #[.int .i64 m, .int .i64 n] 73)).alloc (.cells #[.int .i64 m', .int .i64 n'] 73)).alloc (.cells #[.int .i64 m2, .int .i64 n2] 73)) K := by
  have h1 := boxP_alloc w ⟨m, n⟩
  have h2 := boxP_alloc (w.alloc (.cells #[.int .i64 m, .int .i64 n] 73)) ⟨m', n'⟩
  have h3 := boxP_alloc ((w.alloc (.cells #[.int .i64 m, .int .i64 n] 73)).alloc (.cells #[.int .i64 m', .int .i64 n'] 73)) ⟨m2, n2⟩
  simp only [World.size_alloc] at h2 h3
  have b1 := below_alloc' (Below.refl _ (w.alloc (.cells #[.int .i64 m, .int .i64 n] 73))) (.cells #[.int .i64 m', .int .i64 n'] 73)
  have b2 := below_alloc' (Below.refl _ ((w.alloc (.cells #[.int .i64 m, .int .i64 n] 73)).alloc (.cells #[.int .i64 m', .int .i64 n'] 73))) (.cells #[.int .i64 m2, .int .i64 n2] 73)
  exact h _ ⟨below_alloc' (below_alloc' (below_alloc' (Below.refl _ _) _) _) _⟩ ⟨(h1.keep b1).keep b2⟩ ⟨h2.keep b2⟩ ⟨h3⟩
theorem below_call {w w0 w1 : World} (h : Below w.heap.size w w0) (h1 : Below w0.heap.size w0 w1) : Below w.heap.size w w1 := h.trans (h1.mono h.size)
def turn (a b c : Pt) : Int := sg (cross a b c) 0
set_option maxRecDepth 100000 in
theorem turn_any (p q r : Pt) (w : World) :
    Calls Tryd.prog 143 #[p.v, q.v, r.v] w fun e w' => e = .returned (.int .i64 (turn p q r)) ∧ Below w.heap.size w w' := by
  have c1 := fun W => cross_any p q r W
  have c2 := fun W => icmp_any (cross p q r) 0 W
  have hc : sg (cross p q r) 0 = turn p q r := rfl
  rw [hc] at c2
  generalize cross p q r = m at *
  generalize turn p q r = n at *
  obtain ⟨px, py⟩ := p
  obtain ⟨qx, qy⟩ := q
  obtain ⟨rx, ry⟩ := r
  simp only [Pt.v] at *
  go_enter Tryd.func143, Tryd.ntmps143
  have C1 := Aside0.mk c1
  have C2 := Aside0.mk c2
  clear c1 c2
  go_wp2_with (first
    | (go_at_call 149; refine boxP3c fun w0 HB0 HX HY HZ => ?_; refine (C1.out _).mono ?_; rintro e w1 ⟨rfl, hB⟩; have HB1 := Aside0.mk (below_call HB0.out hB); clear hB)
    | (go_at_call 36; refine (C2.out _).mono ?_; rintro e w2 ⟨rfl, rfl⟩))
  go_ret
  exact ⟨rfl, HB1.out⟩

def onSeg (a b p : Pt) : Bool := turn a b p == 0 && decide (dot p a b ≤ 0)
set_option maxRecDepth 100000 in
theorem on_any (p q r : Pt) (w : World) :
    Calls Tryd.prog 151 #[p.v, q.v, r.v] w fun e w' => e = .returned (.bool (onSeg p q r)) ∧ Below w.heap.size w w' := by
  have c1 := fun W => turn_any p q r W
  have c2 := fun W => dot_any r p q W
  have hc : onSeg p q r = (turn p q r == 0 && decide (dot r p q ≤ 0)) := rfl
  rw [hc]
  clear hc
  generalize turn p q r = m at *
  generalize dot r p q = n at *
  obtain ⟨px, py⟩ := p
  obtain ⟨qx, qy⟩ := q
  obtain ⟨rx, ry⟩ := r
  simp only [Pt.v] at *
  have C1 := Aside0.mk c1
  have C2 := Aside0.mk c2
  clear c1 c2
  by_cases hm : m = 0
  · subst hm
    go_enter Tryd.func151, Tryd.ntmps151
    go_wp2_with (first
      | (go_at_call 143; refine boxP3c fun w0 HB0 HX HY HZ => ?_; refine (C1.out _).mono ?_; rintro e w1 ⟨rfl, hB⟩; have HB1 := Aside0.mk (below_call HB0.out hB); obtain ⟨k1, k2⟩ := (HX.out.keep hB).cs; obtain ⟨k3, k4⟩ := (HY.out.keep hB).cs; obtain ⟨k5, k6⟩ := (HZ.out.keep hB).cs; simp only at k1 k2 k3 k4 k5 k6; clear hB HB0 HX HY HZ)
      | (go_at_call 154; refine (C2.out _).mono ?_; rintro e w2 ⟨rfl, hB⟩; have HB2 := Aside0.mk (below_call HB1.out hB); clear hB k1 k2 k3 k4 k5 k6))
    go_ret
    exact ⟨by simp, HB2.out⟩
  · have hm' : (m == 0) = false := by simpa using hm
    rw [hm', Bool.false_and]
    go_enter Tryd.func151, Tryd.ntmps151
    go_wp2_with (first
      | (go_at_call 143; refine boxP3c fun w0 HB0 HX HY HZ => ?_; refine (C1.out _).mono ?_; rintro e w1 ⟨rfl, hB⟩; have HB1 := Aside0.mk (below_call HB0.out hB); clear hB HB0 HX HY HZ))
    go_ret
    exact ⟨rfl, HB1.out⟩
end Go.Proofs.YtgabpbnndikheaaDoor
