import Derived.Test.YtgabpbnndikheaaDoorGn
set_option linter.constructorNameAsVariable false
/-! Areas: rings that do not cross. -/
namespace Go.Proofs.YtgabpbnndikheaaDoor
open Go.RowKit Go.Proofs.YtgabpbnndikheaaDoorW.PrintWords

def cornersAt (r s : List Pt) (i k : Nat) : Bool := corners (pt r i) (pt r ((i + 1) % r.length)) (pt s k) (pt s ((k + 1) % s.length))
def cornersUpto (r s : List Pt) (n : Nat) : Bool := (List.range n).all fun i => (List.range s.length).all fun k => cornersAt r s i k
def fits (r s : List Pt) : Bool := cornersUpto r s r.length && ((sides r s).length == 1 && (sides s r).length == 1)
theorem cornersUpto_no {r s : List Pt} {i k n : Nat} (hi : i < n) (hk : k < s.length) (h : cornersAt r s i k = false) : cornersUpto r s n = false := by
  unfold cornersUpto
  rw [Bool.eq_false_iff]
  intro e
  rw [List.all_eq_true] at e
  have := List.all_eq_true.1 (e i (List.mem_range.2 hi)) k (List.mem_range.2 hk)
  rw [h] at this
  cases this
theorem cornersUpto_succ {r s : List Pt} {i : Nat} (h : cornersUpto r s i = true) (h2 : ∀ k, k < s.length → cornersAt r s i k = true) : cornersUpto r s (i + 1) = true := by
  unfold cornersUpto at *
  rw [List.range_succ, List.all_append, h, Bool.true_and]
  simp only [List.all_cons, List.all_nil, Bool.and_true]
  exact List.all_eq_true.2 fun k hk => h2 k (List.mem_range.1 hk)
theorem len_one {n : Nat} : (((n : Int)) == 1) = (n == 1) := by
  rw [Bool.eq_iff_iff, beq_iff_eq, beq_iff_eq]; omega
set_option maxHeartbeats 4000000 in
set_option maxRecDepth 100000 in
theorem fits_any (r s : List Pt) (A A' : Option Addr) (c c' : Nat) (w : World) (h : RdP w A r) (hl : r.length ≤ 140737488355328) (hm : r.length ≤ 1000000) (h' : RdP w A' s) (hl' : s.length ≤ 140737488355328) (hm' : s.length ≤ 1000000) :
    Calls Tryd.prog 89 #[.slice A r.length c, .slice A' s.length c'] w fun e w' => e = .returned (.bool (fits r s)) ∧ Below w.heap.size w w' := by
  have HR := Aside0.mk h
  have HS := Aside0.mk h'
  clear h h'
  obtain ⟨R, hR⟩ : ∃ R, R = fits r s := ⟨_, rfl⟩
  rw [← hR]
  unfold fits at hR
  have HD := Aside0.mk hR
  clear hR
  have S1 := Aside0.mk (fun W (hb : Below w.heap.size w W) => sides_any r s A A' c c' W (HR.out.keep hb) hl hm (HS.out.keep hb) hl')
  have S2 := Aside0.mk (fun W (hb : Below w.heap.size w W) => sides_any s r A' A c' c W (HS.out.keep hb) hl' hm' (HR.out.keep hb) hl)
  go_enter Tryd.func89, Tryd.ntmps89
  go_wp2
  go_loopw [9] (fun u wr => ∃ i : Nat, u = .int .i64 i ∧ i ≤ r.length ∧ Aside0 (cornersUpto r s i = true) ∧ Aside0 (Below w.heap.size w wr)) (fun u _ => r.length - (intOf u).toNat)
  case atStart => exact ⟨0, rfl, Nat.zero_le _, ⟨rfl⟩, ⟨Below.refl _ _⟩⟩
  case round =>
    obtain ⟨i, rfl, hi0, HN, HB1⟩ := hrel
    by_cases hi : i < r.length
    · have hd : decide ((i : Int) < (r.length : Int)) = true := by simp; omega
      go_wp2
      go_loopw [14] (fun u wr => ∃ k : Nat, u = .int .i64 k ∧ k ≤ s.length ∧ Aside0 (∀ q, q < k → cornersAt r s i q = true) ∧ Aside0 (Below w.heap.size w wr)) (fun u _ => s.length - (intOf u).toNat)
      case atStart => exact ⟨0, rfl, Nat.zero_le _, ⟨fun q hq => absurd hq (by omega)⟩, HB1⟩
      case round =>
        obtain ⟨k, rfl, hk0, HK, HB2⟩ := hrel
        by_cases hk : k < s.length
        · have hd2 : decide ((k : Int) < (s.length : Int)) = true := by simp; omega
          have HF := Aside0.mk (fun e : cornersAt r s i k = false => cornersUpto_no hi hk e)
          have HT := Aside0.mk (fun e : cornersAt r s i k = true => (fun q (hq : q < k + 1) => if hqk : q < k then HK.out q hqk else (by rw [show q = k by omega]; exact e) : ∀ q, q < k + 1 → cornersAt r s i q = true))
          have hcA := fun W => corners_any (pt r i) (pt r ((i + 1) % r.length)) (pt s k) (pt s ((k + 1) % s.length)) W
          change ∀ W, Calls _ _ _ W fun e w' => e = .returned (.bool (cornersAt r s i k)) ∧ _ at hcA
          generalize cornersAt r s i k = b at HF HT hcA
          obtain ⟨i', hie⟩ : ∃ i', i' = (i + 1) % r.length := ⟨_, rfl⟩
          obtain ⟨k', hke⟩ : ∃ k', k' = (k + 1) % s.length := ⟨_, rfl⟩
          have hi' : i' < r.length := by rw [hie]; exact Nat.mod_lt _ (by omega)
          have hk' : k' < s.length := by rw [hke]; exact Nat.mod_lt _ (by omega)
          have n6 : ((k : Int) + 1).tmod (s.length : Int) = (k' : Int) := by rw [hke, Int.tmod_eq_emod_of_nonneg (by omega)]; push_cast; rfl
          have n7 : ((i : Int) + 1).tmod (r.length : Int) = (i' : Int) := by rw [hie, Int.tmod_eq_emod_of_nonneg (by omega)]; push_cast; rfl
          rw [← hie, ← hke] at hcA
          obtain ⟨ad, hA, -⟩ := (HR.out.keep HB2.out).pt hi
          obtain ⟨ad', hA', -⟩ := (HS.out.keep HB2.out).pt hk
          subst hA
          subst hA'
          have HRA := Aside0.mk (ptAt (HR.out.keep HB2.out) hi)
          have HRB := Aside0.mk (ptAt (HR.out.keep HB2.out) hi')
          have HRC := Aside0.mk (ptAt (HS.out.keep HB2.out) hk)
          have HRD := Aside0.mk (ptAt (HS.out.keep HB2.out) hk')
          clear hie hke
          have n1 : (k : Int) < (s.length : Int) := by omega
          have n2 : (i : Int) < (r.length : Int) := by omega
          have n1' : (k' : Int) < (s.length : Int) := by omega
          have n2' : (i' : Int) < (r.length : Int) := by omega
          have n3 : IntKind.i64.wrap ((k : Int) + 1) = (k : Int) + 1 := by rw [IntKind.wrap_i64]; omega
          have n4 : IntKind.i64.wrap ((i : Int) + 1) = (i : Int) + 1 := by rw [IntKind.wrap_i64]; omega
          have n5 : r ≠ [] := by intro e; subst e; simp at hi
          have n5' : s ≠ [] := by intro e; subst e; simp at hk
          generalize pt r i = pa at *
          generalize pt r i' = pb at *
          generalize pt s k = pc at *
          generalize pt s k' = pd at *
          obtain ⟨ax, ay⟩ := pa
          obtain ⟨bx, b_y⟩ := pb
          obtain ⟨cx, cy⟩ := pc
          obtain ⟨dx, dy⟩ := pd
          simp only [Pt.v] at HRA HRB HRC HRD hcA
          have HC := Aside0.mk hcA
          clear hcA
          go_wp2_with fail
          refine wp_region_loc (by kernel_rfl) (by kernel_rfl) (by kernel_rfl) (fun xs => by simp only [fill, Act.put, List.setIfInBounds_toArray, List.set_cons_zero, List.set_cons_succ, Nat.reduceAdd]; rfl) ?_
          iterate 26 (apply wpLoc_det; · (intro vs W hb he; obtain ⟨k1, k2⟩ := HRA.out W hb; obtain ⟨k3, k4⟩ := HRB.out W hb; obtain ⟨k5, k6⟩ := HRC.out W hb; obtain ⟨k7, k8⟩ := HRD.out W hb;  simp [edgeSat, Region.binds, Fact.at_] at he; unfold locRun; go_simp; first | exact loc_val | (with_reducible exact loc_call (HC.out W))))
          refine wpLoc_nil fun vs W hb he => ?_
          simp only [List.nil_append, List.cons_append, factsAll, Fact.at_, Nat.reduceAdd] at he
          obtain ⟨-, -, -, -, -, -, -, -, -, -, -, -, -, -, -, -, -, -, -, -, -, -, -, -, -, e25, -⟩ := he
          rw [e25]
          have HB3 := Aside0.mk (below_call HB2.out hb)
          have n4' : wrap64 ((k : Int) + 1) = (k : Int) + 1 := by rw [← i64_w]; exact n3
          clear e25 hb HRA HRB HRC HRD HC n1 n2 n1' n2' n3 n4 n5 n5' n6 n7
          cases b
          · go_wp2
            go_ret
            refine ⟨bool_ret ?_, HB3.out⟩
            rw [HD.out, HF.out trivial]
            rfl
          · go_wp2
            go_roundw
            case rel => exact ⟨k + 1, rfl, by omega, ⟨HT.out (by first | rfl | trivial)⟩, HB3⟩
            case measure => simp only [intOf]; omega
        · have hd2 : decide ((k : Int) < (s.length : Int)) = false := by simp; omega
          go_wp2
          go_roundw
          case rel => exact ⟨i + 1, rfl, by omega, ⟨cornersUpto_succ HN.out (fun q hq => HK.out q (by omega))⟩, HB2⟩
          case measure => simp only [intOf]; omega
    · have hd : decide ((i : Int) < (r.length : Int)) = false := by simp; omega
      have hcU : cornersUpto r s r.length = true := by rw [show r.length = i by omega]; exact HN.out
      rw [hcU, Bool.true_and] at HD
      rw [← len_one, ← len_one] at HD
      generalize (sides r s).length = n1 at *
      generalize (sides s r).length = n2 at *
      obtain ⟨b1, hb1⟩ : ∃ b1, b1 = ((n1 : Int) == 1) := ⟨_, rfl⟩
      obtain ⟨b2, hb2⟩ : ∃ b2, b2 = ((n2 : Int) == 1) := ⟨_, rfl⟩
      rw [← hb1, ← hb2] at HD
      have hb1' := hb1.symm
      have hb2' := hb2.symm
      clear hb1 hb2
      cases b1
      · go_wp2_with (first
          | (go_at_call 114; (with_reducible refine (S1.out _ HB1.out).mono ?_); rintro e w3 ⟨A1, c1, rfl, hB⟩; have HB3 := Aside0.mk (below_call HB1.out hB); clear hB))
        go_ret
        exact ⟨bool_ret (by rw [HD.out]; rfl), HB3.out⟩
      · go_wp2_with (first
          | (go_at_call 114; (with_reducible refine (S1.out _ HB1.out).mono ?_); rintro e w3 ⟨A1, c1, rfl, hB⟩; have HB3 := Aside0.mk (below_call HB1.out hB); clear hB)
          | (go_at_call 114; (with_reducible refine (S2.out _ HB3.out).mono ?_); rintro e w4 ⟨A2, c2, rfl, hB⟩; have HB4 := Aside0.mk (below_call HB3.out hB); clear hB))
        go_ret
        exact ⟨bool_ret (by rw [HD.out]; rfl), HB4.out⟩
end Go.Proofs.YtgabpbnndikheaaDoor
