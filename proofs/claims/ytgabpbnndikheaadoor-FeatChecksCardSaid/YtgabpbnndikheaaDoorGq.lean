import Derived.Test.YtgabpbnndikheaaDoorGp
set_option linter.constructorNameAsVariable false
/-! Features: the points of a part. -/
namespace Go.Proofs.YtgabpbnndikheaaDoor
open Go.RowKit Go.Proofs.YtgabpbnndikheaaDoorW.PrintWords

/-- Two points in a row are the same, up to the n-th. -/
def dupUpto (l : List Pt) : Nat → Bool
  | 0 => false
  | n + 1 => dupUpto l n || (decide (0 < n) && samePt (pt l n) (pt l (n - 1)))
def pointsErr (kind : Int) (l : List Pt) : Int := if l.any (fun p => !okPt p) then 1 else if kind = 1 then (if l.length = 1 then 0 else 3) else if kind = 2 then (if l.length < 2 then 3 else if dupUpto l l.length then 3 else 0) else 0
theorem dupUpto_stay {l : List Pt} {i n : Nat} (hi : i < n) (h0 : 0 < i) (h : samePt (pt l i) (pt l (i - 1)) = true) : dupUpto l n = true := by
  induction n with
  | zero => omega
  | succ n ih =>
    rw [dupUpto]
    by_cases hin : i = n
    · subst hin
      rw [h]
      simp [h0]
    · rw [ih (by omega), Bool.true_or]
set_option maxRecDepth 100000 in
theorem notOk2_any (p : Pt) (w : World) :
    Calls Tryd.prog 86 #[p.v] w fun e w' => e = .returned (.bool (!okPt p)) ∧ Below w.heap.size w w' := by
  have c1 := fun W => ok_any p W
  generalize okPt p = b at *
  obtain ⟨x, y⟩ := p
  simp only [Pt.v] at *
  have C1 := Aside0.mk c1
  clear c1
  go_enter Tryd.func86, Tryd.ntmps86
  go_wp2_with (go_at_call 87; refine (C1.out _).mono ?_; rintro e w1 ⟨rfl, hB⟩; have HB := Aside0.mk (below_call (below_alloc' (Below.refl _ _) _) hB); clear hB)
  go_ret
  exact ⟨rfl, HB.out⟩
set_option maxHeartbeats 4000000 in
set_option maxRecDepth 100000 in
theorem points_any (kind : Int) (l : List Pt) (A : Option Addr) (c : Nat) (w : World) (h : RdP w A l) (hl : l.length ≤ 200) :
    Calls Tryd.prog 49 #[.int .i64 kind, .slice A l.length c] w fun e w' => e = .returned (.int .i64 (pointsErr kind l)) ∧ Below w.heap.size w w' := by
  have c1 := hasP_any (fun p => !okPt p) 86 l A c w h (by omega) (fun _ _ => by go_simp) (fun p _ W' _ => notOk2_any p W')
  obtain ⟨R, hR⟩ : ∃ R, R = pointsErr kind l := ⟨_, rfl⟩
  rw [← hR]
  unfold pointsErr at hR
  have HR := Aside0.mk h
  clear h
  generalize l.any (fun p => !okPt p) = b at *
  have C1 := Aside0.mk c1
  clear c1
  cases b
  rotate_left
  · rw [if_pos rfl] at hR
    subst hR
    go_enter Tryd.func49, Tryd.ntmps49
    go_wp2_with (go_at_call 85; refine C1.out.mono ?_; rintro e w1 ⟨rfl, hB⟩; have HB := Aside0.mk hB; clear hB)
    go_ret
    exact ⟨rfl, HB.out⟩
  rw [if_neg (by decide)] at hR
  by_cases h1 : kind = 1
  · subst h1
    rw [if_pos rfl] at hR
    by_cases h2 : l.length = 1
    · have d1 : ((l.length : Int) != 1) = false := by simp; omega
      rw [if_pos h2] at hR
      subst hR
      clear h2
      go_enter Tryd.func49, Tryd.ntmps49
      go_wp2_with (go_at_call 85; refine C1.out.mono ?_; rintro e w1 ⟨rfl, hB⟩; have HB := Aside0.mk hB; clear hB)
      go_ret
      exact ⟨rfl, HB.out⟩
    · have d1 : ((l.length : Int) != 1) = true := by simp; omega
      rw [if_neg h2] at hR
      subst hR
      go_enter Tryd.func49, Tryd.ntmps49
      go_wp2_with (go_at_call 85; refine C1.out.mono ?_; rintro e w1 ⟨rfl, hB⟩; have HB := Aside0.mk hB; clear hB)
      go_ret
      exact ⟨rfl, HB.out⟩
  have e1 : (kind == 1) = false := by simpa using h1
  rw [if_neg h1] at hR
  by_cases h2 : kind = 2
  rotate_left
  · have e2 : (kind == 2) = false := by simpa using h2
    rw [if_neg h2] at hR
    subst hR
    go_enter Tryd.func49, Tryd.ntmps49
    go_wp2_with (go_at_call 85; refine C1.out.mono ?_; rintro e w1 ⟨rfl, hB⟩; have HB := Aside0.mk hB; clear hB)
    go_ret
    exact ⟨rfl, HB.out⟩
  subst h2
  rw [if_pos rfl] at hR
  by_cases h3 : l.length < 2
  · have d1 : decide ((l.length : Int) < 2) = true := by simp; omega
    rw [if_pos h3] at hR
    subst hR
    go_enter Tryd.func49, Tryd.ntmps49
    go_wp2_with (go_at_call 85; refine C1.out.mono ?_; rintro e w1 ⟨rfl, hB⟩; have HB := Aside0.mk hB; clear hB)
    go_ret
    exact ⟨rfl, HB.out⟩
  have d1 : decide ((l.length : Int) < 2) = false := by simp; omega
  rw [if_neg h3] at hR
  have HD := Aside0.mk hR
  clear hR
  go_enter Tryd.func49, Tryd.ntmps49
  go_wp2_with (go_at_call 85; refine C1.out.mono ?_; rintro e w1 ⟨rfl, hB⟩; have HB := Aside0.mk hB; clear hB)
  go_loopw [5] (fun u wr => ∃ i : Nat, u = .int .i64 i ∧ 1 ≤ i ∧ i ≤ l.length ∧ Aside0 (dupUpto l i = false) ∧ Aside0 (Below w.heap.size w wr)) (fun u _ => l.length - (intOf u).toNat)
  case atStart => exact ⟨1, rfl, Nat.le_refl _, by omega, ⟨rfl⟩, HB⟩
  case round =>
    obtain ⟨i, rfl, h1i, hi0, HN, HB1⟩ := hrel
    by_cases hi : i < l.length
    · have hd : decide ((i : Int) < (l.length : Int)) = true := by simp; omega
      obtain ⟨i', hii⟩ : ∃ i', i' = i - 1 := ⟨_, rfl⟩
      have hi' : i' < l.length := by omega
      have HT := Aside0.mk (show dupUpto l (i + 1) = (dupUpto l i || (decide (0 < i) && samePt (pt l i) (pt l (i - 1)))) from rfl)
      have HF := Aside0.mk (fun e : samePt (pt l i) (pt l (i - 1)) = true => dupUpto_stay hi (by omega) e)
      rw [HN.out, Bool.false_or, show decide (0 < i) = true by simp; omega, Bool.true_and] at HT
      rw [← hii] at HT HF
      obtain ⟨ad, hA, -⟩ := (HR.out.keep HB1.out).pt hi
      subst hA
      have HRA := Aside0.mk (ptAt (HR.out.keep HB1.out) hi)
      have HRB := Aside0.mk (ptAt (HR.out.keep HB1.out) hi')
      have n1 : (i : Int) < (l.length : Int) := by omega
      have n2 : (i' : Int) < (l.length : Int) := by omega
      have n3 : IntKind.i64.wrap ((i : Int) - 1) = (i' : Int) := by rw [IntKind.wrap_i64]; omega
      generalize pt l i = pa at *
      generalize pt l i' = pb at *
      obtain ⟨ax, ay⟩ := pa
      obtain ⟨bx, b_y⟩ := pb
      obtain ⟨f, hf⟩ : ∃ f, f = (ax == bx && ay == b_y) := ⟨_, rfl⟩
      simp only [samePt] at HRA HRB HT HF
      rw [← hf] at HT HF
      have HFF := Aside0.mk hf
      clear hf hii
      go_wp2_with fail
      refine wp_region_loc (by kernel_rfl) (by kernel_rfl) (by kernel_rfl) (fun xs => by simp only [fill, Act.put, List.setIfInBounds_toArray, List.set_cons_zero, List.set_cons_succ, Nat.reduceAdd]; rfl) ?_
      iterate 9 (apply wpLoc_det; · (intro vs W hb he; obtain ⟨k1, k2⟩ := HRA.out W hb; obtain ⟨k3, k4⟩ := HRB.out W hb; simp [edgeSat, Region.binds, Fact.at_] at he; unfold locRun; go_simp; first | exact loc_val))
      refine wpLoc_det (.bool f) (fun vs W hb he => ?_) ?_
      · rw [HFF.out]
        simp [edgeSat, Region.binds, Fact.at_] at he
        unfold locRun
        go_simp
        exact loc_eq2 ax bx ay b_y
      refine wpLoc_nil fun vs W hb he => ?_
      simp only [List.nil_append, List.cons_append, factsAll, Fact.at_, Nat.reduceAdd] at he
      obtain ⟨-, -, -, -, -, -, -, -, -, e9, -⟩ := he
      rw [e9]
      have HB3 := Aside0.mk (below_call HB1.out hb)
      clear e9 hb HRA HRB n1 n2 n3 HFF
      cases f
      · go_wp2
        go_roundw
        case rel => exact ⟨i + 1, rfl, by omega, by omega, HT, HB3⟩
        case measure => simp only [intOf]; omega
      · go_wp2
        go_ret
        refine ⟨i64_ret ?_, HB3.out⟩
        rw [HD.out, HF.out (by first | rfl | trivial), if_pos rfl]
    · have hd : decide ((i : Int) < (l.length : Int)) = false := by simp; omega
      go_wp2
      go_ret
      refine ⟨i64_ret ?_, HB1.out⟩
      rw [HD.out, show l.length = i by omega, HN.out]
      rfl
end Go.Proofs.YtgabpbnndikheaaDoor
